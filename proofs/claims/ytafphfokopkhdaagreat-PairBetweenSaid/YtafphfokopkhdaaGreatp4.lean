/- Part 4 of the proof: a program logic, what the functions compute, and what these answer; no condition. -/
import Derived.Test.YtafphfokopkhdaaGreatp3
import Derived.Shelf.Sort.Plain
import Derived.Ground.Names2Prog
import Derived.Shelf.Slices.CompactI
import Derived.Shelf.Slices.In.SortNone
import Derived.Test.YtafphfokopkhdaaGreatProg
set_option linter.unusedVariables false
set_option linter.unusedSimpArgs false
set_option maxRecDepth 100000
set_option maxHeartbeats 2000000
namespace Go.Proofs.YtafphfokopkhdaaGreat
open Go.V
theorem Tryz_mixed : Tryz.prog.follows .mixedOrders = true := by kernel_rfl
structure AutoEdge where
  name : (List UInt8)
  to_ : Int
def AutoEdge.d (x : AutoEdge) : D := .agg [.str x.name, .i64 x.to_]
structure ApiTField where
  name : (List UInt8)
  at_ : Int
def ApiTField.d (x : ApiTField) : D := .agg [.str x.name, .i64 x.at_]
structure AutoState where
  plus : Bool
  all : Bool
  int : Bool
  bool : Bool
  str : Bool
  arrow : Bool
  rec_ : Bool
  tag : Bool
  vars : (List Int)
  dom : Int
  cod : Int
  fields : (List AutoEdge)
  tags : (List AutoEdge)
def AutoState.d (x : AutoState) : D := .agg [.bool x.plus, .bool x.all, .bool x.int, .bool x.bool, .bool x.str, .bool x.arrow, .bool x.rec_, .bool x.tag, .list 1 D.i64 x.vars, .i64 x.dom, .i64 x.cod, .list 2 AutoEdge.d x.fields, .list 2 AutoEdge.d x.tags]
structure AutoAuto where
  l : (List AutoState)
  start : Int
def AutoAuto.d (x : AutoAuto) : D := .agg [.list 13 AutoState.d x.l, .i64 x.start]
theorem w_Clone_47 {l : List Int} (hl : l.length * 8 ≤ 140737488355328) :
    Go.V.Fn Tryz.prog 47 [.list 1 D.i64 l] [] (fun d ms' => ∃ a cap, d = .v (.slice a l.length cap) ∧ ms' = [arr a l.length cap 3 1 D.i64 l]) := by
  refine fn_intro Tryz.func47 rfl Tryz.ntmps47 rfl fun H0 fr w0 => ?_
  refine g_seq ?_
  refine g_region ?_
  refine go_p rfl rfl rfl (o_assign rfl) ?_
  refine go_nil ?_
  refine g_seq ?_
  refine g_seq ?_
  refine g_region ?_
  refine go_p rfl rfl rfl (o_move rfl) ?_
  refine go_op rfl rfl rfl (o_eqnil_slice Tryz.underlying49 rfl rfl) ?_
  rintro _ _ ⟨b, rfl, rfl, hb⟩
  refine go_nil ?_
  refine g_cond rfl (fun hc1 => ?_) (fun hc1 => ?_)
  · -- 1T
    skip
    obtain rfl := hb hc1
    refine g_conv (refines_newarr (T := 3) (sz := 1) (f := D.i64)) ?_
    refine g_seq ?_
    refine g_region ?_
    refine go_p rfl rfl rfl (o_assign rfl) ?_
    refine go_nil ?_
    refine g_ret ?_
    exact retK (ret_one' rfl (ret_tmp rfl) (perm_none _)) (⟨none, 0, rfl, rfl⟩) -- ret1 1T.
  · -- 1F
    skip
    refine g_skip ?_
    refine g_seq ?_
    refine g_region ?_
    refine go_op rfl rfl rfl (o_buildSlice_row (xs := []) (f := D.i64) (l := []) Tryz.runUnderlying49 Tryz.sizeOf3 Tryz.zeroValue3 rfl rfl rfl (fun _ => ⟨rfl, rfl, rfl⟩) rfl (by simp [maxLen])) ?_
    rintro _ _ ⟨a1, rfl, rfl⟩
    refine go_p rfl rfl rfl (o_move rfl) ?_
    refine go_op rfl rfl rfl (o_append_arr (a := _) 0 Tryz.underlying49 Tryz.type3 rfl rfl rfl rfl rfl rfl rfl rfl hl (app_len hl rfl)) ?_
    rintro _ _ ⟨a2, cap2, rfl, rfl⟩
    refine go_p rfl rfl rfl (o_assign rfl) ?_
    refine go_nil ?_
    refine g_ret ?_
    exact retK (ret_one' rfl (ret_tmp rfl) (perm_none _)) (⟨_, _, rfl, rfl⟩) -- ret2 1F.
theorem w_Clone_123 {l : List AutoEdge} (hl : l.length * 24 ≤ 140737488355328) :
    Go.V.Fn Tryz.prog 123 [.list 2 AutoEdge.d l] [] (fun d ms' => ∃ a cap, d = .v (.slice a l.length cap) ∧ ms' = [arr a l.length cap 63 2 AutoEdge.d l]) := by
  refine fn_intro Tryz.func123 rfl Tryz.ntmps123 rfl fun H0 fr w0 => ?_
  refine g_seq ?_
  refine g_region ?_
  refine go_p rfl rfl rfl (o_assign rfl) ?_
  refine go_nil ?_
  refine g_seq ?_
  refine g_seq ?_
  refine g_region ?_
  refine go_p rfl rfl rfl (o_move rfl) ?_
  refine go_op rfl rfl rfl (o_eqnil_slice Tryz.underlying58 rfl rfl) ?_
  rintro _ _ ⟨b, rfl, rfl, hb⟩
  refine go_nil ?_
  refine g_cond rfl (fun hc1 => ?_) (fun hc1 => ?_)
  · -- 1T
    skip
    obtain rfl := hb hc1
    refine g_conv (refines_newarr (T := 63) (sz := 2) (f := AutoEdge.d)) ?_
    refine g_seq ?_
    refine g_region ?_
    refine go_p rfl rfl rfl (o_assign rfl) ?_
    refine go_nil ?_
    refine g_ret ?_
    exact retK (ret_one' rfl (ret_tmp rfl) (perm_none _)) (⟨none, 0, rfl, rfl⟩) -- ret1 1T.
  · -- 1F
    skip
    refine g_skip ?_
    refine g_seq ?_
    refine g_region ?_
    refine go_op rfl rfl rfl (o_buildSlice_row (xs := []) (f := AutoEdge.d) (l := []) Tryz.runUnderlying58 Tryz.sizeOf63 Tryz.zeroValue63 rfl rfl rfl (fun _ => ⟨rfl, rfl, rfl⟩) rfl (by simp [maxLen])) ?_
    rintro _ _ ⟨a1, rfl, rfl⟩
    refine go_p rfl rfl rfl (o_move rfl) ?_
    refine go_op rfl rfl rfl (o_append_arr (a := _) 0 Tryz.underlying58 Tryz.type63 rfl rfl rfl rfl rfl rfl rfl rfl hl (app_len hl rfl)) ?_
    rintro _ _ ⟨a2, cap2, rfl, rfl⟩
    refine go_p rfl rfl rfl (o_assign rfl) ?_
    refine go_nil ?_
    refine g_ret ?_
    exact retK (ret_one' rfl (ret_tmp rfl) (perm_none _)) (⟨_, _, rfl, rfl⟩) -- ret2 1F.
theorem w_Grow_159 {n : Int} (h0 : 0 ≤ n) (hb : n.toNat * 8 ≤ 140737488355328) :
    Go.V.Fn Tryz.prog 159 [.v (.slice none 0 0), .i64 n] [] (fun d ms' => ∃ a cap, d = .v (.slice a 0 cap) ∧ ms' = [row a cap 3 1 D.i64 []]) := by
  refine fn_intro Tryz.func159 rfl Tryz.ntmps159 rfl fun H0 fr w0 => ?_
  refine g_seq ?_
  refine g_region ?_
  refine go_p rfl rfl rfl (o_assign rfl) ?_
  refine go_nil ?_
  refine g_seq ?_
  refine g_seq ?_
  refine g_region ?_
  refine go_p rfl rfl rfl (o_move rfl) ?_
  refine go_p rfl rfl rfl (o_cmp rfl rfl rfl) ?_
  refine go_nil ?_
  refine g_cond rfl (fun hc1 => ?_) (fun hc1 => ?_)
  · -- 1T
    try simp only [decide_eq_true_eq, decide_eq_false_iff_not, Bool.not_eq_true', Bool.not_eq_false', Bool.and_eq_true, Bool.or_eq_true, Bool.and_eq_false_iff, Bool.or_eq_false_iff, Int.not_lt, Int.not_le, ne_eq, Decidable.not_not] at hc1
    omega
  · -- 1F
    try simp only [decide_eq_true_eq, decide_eq_false_iff_not, Bool.not_eq_true', Bool.not_eq_false', Bool.and_eq_true, Bool.or_eq_true, Bool.and_eq_false_iff, Bool.or_eq_false_iff, Int.not_lt, Int.not_le, ne_eq, Decidable.not_not] at hc1
    refine g_skip ?_
    refine g_seq ?_
    refine g_seq ?_
    refine g_region ?_
    refine go_p rfl rfl rfl (o_move rfl) ?_
    refine go_p rfl rfl rfl (o_move rfl) ?_
    refine go_p rfl rfl rfl (o_cap_raw Tryz.runUnderlying49 rfl) ?_
    refine go_p rfl rfl rfl (o_move rfl) ?_
    refine go_p rfl rfl rfl (o_len_raw Tryz.runUnderlying49 rfl) ?_
    refine go_p rfl rfl rfl (o_sub rfl rfl (i64_id (by omega))) ?_
    refine go_p rfl rfl rfl (o_sub rfl rfl (i64_id (by omega))) ?_
    refine go_p rfl rfl rfl (o_assign rfl) ?_
    refine go_nil ?_
    refine g_seq ?_
    refine g_region ?_
    refine go_p rfl rfl rfl (o_move rfl) ?_
    refine go_p rfl rfl rfl (o_cmp rfl rfl rfl) ?_
    refine go_nil ?_
    refine g_cond rfl (fun hc2 => ?_) (fun hc2 => ?_)
    · -- 1F.2T
      try simp only [decide_eq_true_eq, decide_eq_false_iff_not, Bool.not_eq_true', Bool.not_eq_false', Bool.and_eq_true, Bool.or_eq_true, Bool.and_eq_false_iff, Bool.or_eq_false_iff, Int.not_lt, Int.not_le, ne_eq, Decidable.not_not] at hc2
      have hn2 : n.toNat ≤ 140737488355328 := Nat.le_trans (Nat.le_mul_of_pos_right _ (by decide)) hb
      refine g_region ?_
      refine go_p rfl rfl rfl (o_move rfl) ?_
      refine go_p rfl rfl rfl (o_move rfl) ?_
      refine go_p rfl rfl rfl (o_cap_raw Tryz.runUnderlying49 rfl) ?_
      refine go_p rfl rfl rfl (o_slice_raw Tryz.runUnderlying49 Tryz.sizeOf3 rfl rfl (Nat.le_refl _) (Nat.le_refl _)) ?_
      refine go_p rfl rfl rfl (o_move rfl) ?_
      refine go_op rfl rfl rfl (o_append_zeros_i (f := D.i64) Tryz.underlying49 Tryz.underlying3 Tryz.type3 rfl rfl rfl rfl rfl rfl (by omega) (by simpa [Tryz.t3] using hb) rfl) ?_
      rintro _ _ ⟨a, cap, hcap, rfl, rfl⟩
      refine go_p rfl rfl rfl (o_move rfl) ?_
      refine go_p rfl rfl rfl (o_len_raw Tryz.runUnderlying49 rfl) ?_
      refine go_p rfl rfl rfl (o_slice_raw Tryz.runUnderlying49 Tryz.sizeOf3 rfl rfl (Nat.zero_le _) (hcap)) ?_
      refine go_p rfl rfl rfl (o_assign rfl) ?_
      refine go_nil ?_
      refine g_seq ?_
      refine g_region ?_
      refine go_p rfl rfl rfl (o_move rfl) ?_
      refine go_p rfl rfl rfl (o_assign rfl) ?_
      refine go_nil ?_
      refine g_ret ?_
      exact retK (ret_one' rfl (ret_tmp rfl) (perm_none _)) (⟨_, _, rfl, rfl⟩) -- ret1 1F.2T.
    · -- 1F.2F
      try simp only [decide_eq_true_eq, decide_eq_false_iff_not, Bool.not_eq_true', Bool.not_eq_false', Bool.and_eq_true, Bool.or_eq_true, Bool.and_eq_false_iff, Bool.or_eq_false_iff, Int.not_lt, Int.not_le, ne_eq, Decidable.not_not] at hc2
      refine g_conv (refines_newrow (T := 3) (sz := 1) (f := D.i64)) ?_
      refine g_skip ?_
      refine g_seq ?_
      refine g_region ?_
      refine go_p rfl rfl rfl (o_move rfl) ?_
      refine go_p rfl rfl rfl (o_assign rfl) ?_
      refine go_nil ?_
      refine g_ret ?_
      exact retK (ret_one' rfl (ret_tmp rfl) (perm_none _)) (⟨none, 0, rfl, rfl⟩) -- ret2 1F.2F.
section
open Go.Shelf Go.Proofs
def sh_lays189_ren : Go.Shelf.Ren := ⟨fun | 189 => 66 | 125 => 93 | 257 => 92 | 128 => 136 | 129 => 137 | 294 => 128 | 295 => 129 | 296 => 130 | 297 => 131 | 298 => 132 | 299 => 133 | 216 => 126 | 300 => 134 | 301 => 135 | 328 => 162 | 329 => 163 | 330 => 164 | 331 => 165 | 332 => 166 | 215 => 161 | 343 => 174 | n => n, fun | 28 => 49 | 3 => 3 | 46 => 141 | 0 => 0 | 51 => 174 | 53 => 176 | 4 => 4 | 183 => 168 | 182 => 167 | 131 => 137 | 5 => 5 | 9 => 9 | 218 => 187 | 222 => 191 | 228 => 198 | 229 => 199 | n => n, fun | n => n⟩
theorem sh_lays189 : Go.Proofs.Lays.n189 Tryz.prog sh_lays189_ren := {
  mixed := by kernel_rfl
  f125 := Tryz.func93.trans (congrArg some (by kernel_rfl))
  f128 := Tryz.func136.trans (congrArg some (by kernel_rfl))
  f129 := Tryz.func137.trans (congrArg some (by kernel_rfl))
  f189 := Tryz.func66.trans (congrArg some (by kernel_rfl))
  f215 := Tryz.func161.trans (congrArg some (by kernel_rfl))
  f216 := Tryz.func126.trans (congrArg some (by kernel_rfl))
  f257 := Tryz.func92.trans (congrArg some (by kernel_rfl))
  f294 := Tryz.func128.trans (congrArg some (by kernel_rfl))
  f295 := Tryz.func129.trans (congrArg some (by kernel_rfl))
  f296 := Tryz.func130.trans (congrArg some (by kernel_rfl))
  f297 := Tryz.func131.trans (congrArg some (by kernel_rfl))
  f298 := Tryz.func132.trans (congrArg some (by kernel_rfl))
  f299 := Tryz.func133.trans (congrArg some (by kernel_rfl))
  f300 := Tryz.func134.trans (congrArg some (by kernel_rfl))
  f301 := Tryz.func135.trans (congrArg some (by kernel_rfl))
  f328 := Tryz.func162.trans (congrArg some (by kernel_rfl))
  f329 := Tryz.func163.trans (congrArg some (by kernel_rfl))
  f330 := Tryz.func164.trans (congrArg some (by kernel_rfl))
  f331 := Tryz.func165.trans (congrArg some (by kernel_rfl))
  f332 := Tryz.func166.trans (congrArg some (by kernel_rfl))
  f343 := Tryz.func174.trans (congrArg some (by kernel_rfl))
  t0 := Tryz.underlying0
  a0 := Tryz.isAgg0
  z0 := Tryz.sizeOf0
  v0 := Tryz.zeroValue0
  t3 := Tryz.underlying3
  a3 := Tryz.isAgg3
  z3 := Tryz.sizeOf3
  v3 := Tryz.zeroValue3
  t4 := Tryz.underlying4
  a4 := Tryz.isAgg4
  z4 := Tryz.sizeOf4
  v4 := Tryz.zeroValue4
  t5 := Tryz.underlying5
  a5 := Tryz.isAgg5
  z5 := Tryz.sizeOf5
  v5 := Tryz.zeroValue5
  t9 := Tryz.underlying9
  a9 := Tryz.isAgg9
  z9 := Tryz.sizeOf9
  v9 := Tryz.zeroValue9
  t28 := Tryz.underlying49
  a28 := Tryz.isAgg49
  z28 := Tryz.sizeOf49
  v28 := Tryz.zeroValue49
  t46 := Tryz.underlying141
  a46 := Tryz.isAgg141
  z46 := Tryz.sizeOf141
  v46 := Tryz.zeroValue141
  t51 := Tryz.underlying174
  a51 := Tryz.isAgg174
  z51 := Tryz.sizeOf174
  v51 := Tryz.zeroValue174
  t53 := Tryz.underlying176
  a53 := Tryz.isAgg176
  z53 := Tryz.sizeOf176
  v53 := Tryz.zeroValue176
  t131 := Tryz.underlying137
  a131 := Tryz.isAgg137
  z131 := Tryz.sizeOf137
  v131 := Tryz.zeroValue137
  t182 := Tryz.underlying167
  a182 := Tryz.isAgg167
  z182 := Tryz.sizeOf167
  v182 := Tryz.zeroValue167
  t183 := Tryz.underlying168
  a183 := Tryz.isAgg168
  z183 := Tryz.sizeOf168
  v183 := Tryz.zeroValue168
  t218 := Tryz.underlying187
  a218 := Tryz.isAgg187
  z218 := Tryz.sizeOf187
  v218 := Tryz.zeroValue187
  t222 := Tryz.underlying191
  a222 := Tryz.isAgg191
  z222 := Tryz.sizeOf191
  v222 := Tryz.zeroValue191
  t228 := Tryz.underlying198
  a228 := Tryz.isAgg198
  z228 := Tryz.sizeOf198
  v228 := Tryz.zeroValue198
  t229 := Tryz.underlying199
  a229 := Tryz.isAgg199
  z229 := Tryz.sizeOf199
  v229 := Tryz.zeroValue199 }
open Go.Sort Go.RowKit in
theorem sh_slices_Sort_int (blk off cap : Nat) (zs : List Int) (w : World) (hH : Holds (Value.int .i64) w blk off zs.toArray) (hblk : blk < w.heap.size) (hsz : zs.length < 4611686018427387904) :
    Calls Tryz.prog 66 #[.slice (some ⟨blk, off, none⟩) zs.length cap] w fun e w' =>
      e = .returned (.tuple #[]) ∧ ∃ n os, w' = grow (putRow (Value.int .i64) (Sort.ahead w n) blk off (zs.mergeSort fun x y => decide (x ≤ y)).toArray) os := Any.slices_Sort_int sh_lays189 blk off cap zs w hH hblk hsz
def sh_laysNm220_ren : Go.Shelf.Ren := ⟨fun | 20 => 67 | n => n, fun | 22 => 49 | 3 => 3 | 4 => 4 | 0 => 0 | n => n, fun | n => n⟩
theorem sh_laysNm220 : Go.Proofs.Lays2.n20 Tryz.prog sh_laysNm220_ren := {
  mixed := by kernel_rfl
  f20 := Tryz.func67.trans (congrArg some (by kernel_rfl))
  t0 := Tryz.underlying0
  a0 := Tryz.isAgg0
  z0 := Tryz.sizeOf0
  v0 := Tryz.zeroValue0
  t3 := Tryz.underlying3
  a3 := Tryz.isAgg3
  z3 := Tryz.sizeOf3
  v3 := Tryz.zeroValue3
  t4 := Tryz.underlying4
  a4 := Tryz.isAgg4
  z4 := Tryz.sizeOf4
  v4 := Tryz.zeroValue4
  t22 := Tryz.underlying49
  a22 := Tryz.isAgg49
  z22 := Tryz.sizeOf49
  v22 := Tryz.zeroValue49
  i3 := by kernel_rfl }
open Go.RowKit Go.Lib Go.Sort in
/-- slices.Compact at []int: "Compact replaces consecutive runs of equal elements with a single copy. This is like the uniq command found on Unix. Compact modifies the contents of the slice s and returns the modified slice, which may have a smaller length. Compact zeroes the elements between the new length and the original length. The result preserves the nilness of s.": IT RETURNS THE SLICE CUT TO 'Lib.compact zs'; ITS CELLS HOLD 'Lib.compact zs', THEN ZERO VALUES up to the old length; all else is as it was, but for the count of draws. IN THE WORDS OF slices.Sort's CONTRACT ('Holds', 'putRow'): so the everyday 'slices.Sort(xs); xs = slices.Compact(xs)' goes from the one contract to the other. It asks 'zs.length ≤ cap' (every slice's: the reslicing 's[:k]' looks at it). Length 0, nil: '.._empty'. (LAID: no walk: one application.) -/
theorem sh_slices_Compact_int (blk off cap : Nat) (zs : List Int) (w : World) (hH : Holds (Value.int .i64) w blk off zs.toArray) (hsz : zs.length ≤ 9223372036854775807) (hcap : zs.length ≤ cap) :
    Calls Tryz.prog 67 #[.slice (some ⟨blk, off, none⟩) zs.length cap] w fun e w' => e = .returned (.slice (some ⟨blk, off, none⟩) (Lib.compact zs).length cap) ∧ ∃ q, w' = putRow (Value.int .i64) (Sort.ahead w q) blk off (Lib.compact zs ++ List.replicate (zs.length - (Lib.compact zs).length) 0).toArray := Any.slices_Compact_int sh_laysNm220 blk off cap zs w hH hsz hcap
open Go.RowKit Go.Lib Go.Sort in
/-- The same at a slice of length 0, a nil one too: it comes back as it is. (LAID: no walk: one application.) -/
theorem sh_slices_Compact_int_empty (a : Option Addr) (cap : Nat) (w : World) :
    Calls Tryz.prog 67 #[.slice a 0 cap] w fun e w' => e = .returned (.slice a 0 cap) ∧ w' = w := Any.slices_Compact_int_empty sh_laysNm220 a cap w
open Go.RowKit Go.Sort in
/-- .. and plain. (LAID: no walk: one application.) -/
theorem sh_slices_Sort_int_none (p : Option Addr) (cap : Nat) (w : World) :
    Calls Tryz.prog 66 #[.slice p 0 cap] w fun e w' => e = .returned (.tuple #[]) ∧ w' = w := Any.slices_Sort_int_none sh_lays189 p cap w
end
section
open Go.V Go.Proofs Go.RowKit Go.Sort
theorem it_keys {b : Nat} {β : Type} {fv : β → D} {l : List (Int × β)} : IterM Tryz.prog 125 [.ref (.v (.map (some b)))] (mp b kI64 fv l) (l, ([] : List Int)) (keyNx kI64) keyFi := by
  intro y hys J Jx hy ms h0
  refine fn_intro Tryz.func125 rfl Tryz.ntmps125 rfl fun H0 fr w0 => ?_
  refine g_seq ?_
  refine g_region ?_
  refine go_p rfl rfl rfl (o_load Tryz.isAgg132 rfl rfl) ?_
  refine go_op rfl rfl rfl (o_range_map 0 Tryz.underlying132 rfl rfl) ?_
  rintro _ _ ⟨r, rfl, rfl⟩
  refine go_nil ?_
  refine g_block ?_
  refine g_loop_k [(0, y), (5, .v (.pointer (some ⟨r, 0, none⟩)))] (fun (s : List (Int × β) × Option (Int × β) × List Int × List Asrt) => J (s.1, s.2.2.1) s.2.2.2) (fun _ => []) (fun s => mpi b r kI64 fv l s.1 s.2.1 :: s.2.2.2) (fun s => s.1.length) (l, none, [], ms) h0 ⟨rfl, rfl, trivial⟩ trivial rfl ?_
  rintro ⟨rest, last, done, tl⟩ hJ
  refine g_norm (L' := [(0, y), (5, _)]) (ms' := mpi b r kI64 fv l rest last :: tl) rfl rfl ?_
  refine g_seq ?_
  refine g_region ?_
  refine go_op rfl rfl rfl (o_next_map 0 rfl rfl) ?_
  rintro _ _ (⟨hr, rfl, rfl⟩ | ⟨i, p, hi, rfl, rfl⟩)
  · subst hr
    refine go_p rfl rfl rfl (o_extract rfl rfl) ?_
    refine go_conv (refines_mpi 0 rfl rfl) ?_
    refine go_nil ?_
    refine g_seq ?_
    refine g_cond_false rfl rfl ?_
    refine g_exit ?_
    exact retKn (ret_none (ms' := mp b kI64 fv l :: tl) (drop := []) rfl (List.Perm.refl _)) ⟨tl, rfl, .inl ⟨([], done), rfl, hJ⟩⟩
  · refine go_p rfl rfl rfl (o_extract rfl rfl) ?_
    refine go_nil ?_
    refine g_seq ?_
    refine g_cond_true rfl rfl ?_
    refine g_skip ?_
    refine g_block ?_
    refine g_seq ?_
    refine g_region ?_
    refine go_p rfl rfl rfl (o_entry_map 0 rfl rfl) ?_
    refine go_p rfl rfl rfl (o_extract rfl rfl) ?_
    refine go_p rfl rfl rfl (o_assign rfl) ?_
    refine go_nil ?_
    refine g_seq ?_
    refine g_region ?_
    refine go_p rfl rfl rfl (o_move rfl) ?_
    refine go_p rfl rfl rfl (o_move rfl) ?_
    refine go_op rfl rfl rfl (o_yieldM rfl rfl (hy (rest, done) _ (rest.eraseIdx i, done ++ [p.1]) tl ⟨i, p, hi, rfl, rfl⟩ hJ)) ?_
    rintro _ _ ⟨tl', ⟨rfl, hJ'⟩ | ⟨rfl, hx⟩, rfl⟩
    · refine go_p rfl rfl rfl (o_not rfl) ?_
      refine go_nil ?_
      refine g_cond_false rfl rfl ?_
      refine g_skip ?_
      exact ⟨(rest.eraseIdx i, some p, done ++ [p.1], tl'), hJ', erase_lt hi, trivial, ⟨rfl, rfl, trivial⟩, [], rfl⟩
    · refine go_p rfl rfl rfl (o_not rfl) ?_
      refine go_conv (refines_mpi 0 rfl rfl) ?_
      refine go_nil ?_
      refine g_cond_true rfl rfl ?_
      refine g_ret ?_
      exact retK (ret_none (ms' := mp b kI64 fv l :: tl') (drop := []) rfl (List.Perm.refl _)) ⟨tl', rfl, .inr hx⟩
theorem w_maps_Keys {b : Nat} : Fn0 Tryz.prog 90 [.v (.map (some b))] (.clo (.func 125) [] [.ref (.v (.map (some b)))]) := by
  refine fn_intro Tryz.func90 rfl Tryz.ntmps90 rfl fun H0 fr w0 => ?_
  refine g_seq ?_
  refine g_region ?_
  refine go_p rfl rfl rfl (o_box rfl rfl) ?_
  refine go_p rfl rfl rfl (o_assign rfl) ?_
  refine go_nil ?_
  refine g_seq ?_
  refine g_region ?_
  refine go_p rfl rfl rfl (o_makeFunc rfl rfl) ?_
  refine go_p rfl rfl rfl (o_assign rfl) ?_
  refine go_nil ?_
  refine g_ret ?_
  exact retK (ret_one' rfl (ret_tmp rfl) (perm_drop _)) rfl
theorem w_AppendSeq {b : Nat} {β : Type} {fv : β → D} {l : List (Int × β)} (hl : l.length * 8 ≤ 140737488355328) : Go.V.Fn Tryz.prog 160 [.v (.slice none 0 0), .clo (.func 125) [] [.ref (.v (.map (some b)))]] [mp b kI64 fv l]
    (fun d ms' => ∃ q a m cap, q.Perm (l.map (·.1)) ∧ d = .v (.slice a m cap) ∧ ms' = [arr a m cap 3 1 D.i64 q, mp b kI64 fv l]) := by
  refine fn_intro Tryz.func160 rfl Tryz.ntmps160 rfl fun H0 fr w0 => ?_
  refine g_seq ?_
  refine g_region ?_
  refine go_op rfl rfl rfl (o_box_own rfl rfl rfl) ?_
  rintro _ _ ⟨b1, rfl, rfl⟩
  refine go_p rfl rfl rfl (o_assign rfl) ?_
  refine go_conv (refines_newarr (T := 3) (sz := 1) (f := D.i64)) ?_
  refine go_nil ?_
  refine g_seq ?_
  refine g_seq ?_
  refine g_region ?_
  refine go_p rfl rfl rfl (o_move rfl) ?_
  refine go_nil ?_
  refine g_block ?_
  refine g_conv (refines_perm (ms' := [mp b kI64 fv l, arr none 0 0 3 1 D.i64 ([] : List Int), box b1 49 [.v (.slice none 0 0)]]) (List.perm_middle (l₁ := [arr none 0 0 3 1 D.i64 ([] : List Int), box b1 49 [.v (.slice none 0 0)]]) (l₂ := []) (a := mp b kI64 fv l))) ?_
  refine g_rangeFuncM (mp b kI64 fv l) (l, ([] : List Int)) (keyNx kI64) keyFi (fun s ms' => (s.2 ++ s.1.map (·.1)).Perm (l.map (·.1)) ∧ ∃ a m cap, ms' = [arr a m cap 3 1 D.i64 s.2, box b1 49 [.v (.slice a m cap)]]) rfl Tryz.call125 it_keys ⟨by simp, none, 0, 0, rfl⟩
    (by rintro s ds s' ⟨i, p, h1, rfl, h2⟩; rfl) rfl ?_ ?_
  · rintro Γ' ⟨rest, done⟩ ds s' ms' hN ⟨i, p, hi, rfl, rfl⟩ ⟨hp, a, m, cap, rfl⟩
    simp only at hp hi
    refine g_region ?_
    refine go_p rfl rfl (by rw [hN]; rfl) (o_assign rfl) ?_
    refine go_nil ?_
    intro Γ'' hN'
    have hpm := keys_more hp hi
    have hlen : done.length + 1 ≤ l.length := by
      have := hpm.length_eq
      simp only [List.length_append, List.length_cons, List.length_nil, List.length_map] at this
      omega
    refine g_block ?_
    refine g_region ?_
    refine go_p rfl rfl (by rw [hN']; rfl) (o_load_box 1 Tryz.isAgg49 rfl rfl rfl rfl) ?_
    refine go_p rfl rfl (by rw [hN']; rfl) (o_move rfl) ?_
    refine go_p rfl rfl (by rw [hN']; rfl) (o_buildSlice (xs := [_]) (f := D.i64) (l := [_]) Tryz.runUnderlying49 Tryz.sizeOf3 Tryz.zeroValue3 rfl rfl rfl (fun _ => ⟨rfl, rfl, rfl⟩) rfl) ?_
    have hg : (done.length + ([p.1] : List Int).length) * 8 ≤ 140737488355328 := by simp only [List.length_cons, List.length_nil]; omega
    refine go_op rfl rfl (by rw [hN']; rfl) (o_append_own (a := _) 0 Tryz.underlying49 Tryz.type3 rfl rfl rfl rfl rfl rfl (fun _ => rfl) (fun _ => rfl) hg (app_len hg rfl)) ?_
    rintro _ _ ⟨a', m', cap', rfl, rfl⟩
    refine go_u rfl rfl (o_store_box 1 Tryz.sizeOf49 rfl rfl rfl rfl rfl rfl rfl rfl (Nat.le_of_ble_eq_true rfl)) ?_
    rintro _ _ rfl
    refine go_nil ?_
    exact ⟨hpm, a', m', cap', rfl⟩
  · rintro ⟨rest, done⟩ ms' hfi ⟨hp, a, m, cap, rfl⟩
    simp only [keyFi] at hfi hp
    subst hfi
    refine g_seq ?_
    refine g_region ?_
    refine go_p rfl rfl rfl (o_load_box 2 Tryz.isAgg49 rfl rfl rfl rfl) ?_
    refine go_p rfl rfl rfl (o_assign rfl) ?_
    refine go_nil ?_
    refine g_ret ?_
    exact retK (ret_one' rfl (ret_tmp rfl) (permA 1 rfl (permA 0 rfl permN))) ⟨done, a, m, cap, by simpa using hp, rfl, rfl⟩
theorem w_Collect {b : Nat} {β : Type} {fv : β → D} {l : List (Int × β)} (hl : l.length * 8 ≤ 140737488355328) : Go.V.Fn Tryz.prog 124 [.clo (.func 125) [] [.ref (.v (.map (some b)))]] [mp b kI64 fv l]
    (fun d ms' => ∃ q a m cap, q.Perm (l.map (·.1)) ∧ d = .v (.slice a m cap) ∧ ms' = [arr a m cap 3 1 D.i64 q, mp b kI64 fv l]) := by
  refine fn_intro Tryz.func124 rfl Tryz.ntmps124 rfl fun H0 fr w0 => ?_
  refine g_seq ?_
  refine g_region ?_
  refine go_p rfl rfl rfl (o_assign rfl) ?_
  refine go_nil ?_
  refine g_seq ?_
  refine g_region ?_
  refine go_p rfl rfl rfl (o_move rfl) ?_
  refine go_op rfl rfl rfl (o_call (ms₁ := [mp b kI64 fv l]) (rest := []) Tryz.call160 rfl (List.Perm.refl _) (w_AppendSeq hl)) ?_
  rintro _ _ ⟨_, ⟨q, a, m, cap, hq, rfl, rfl⟩, rfl⟩
  refine go_p rfl rfl rfl (o_assign rfl) ?_
  refine go_nil ?_
  refine g_ret ?_
  exact retK (ret_one' rfl (ret_tmp rfl) (permA 0 rfl (permA 0 rfl permN))) ⟨q, a, m, cap, hq, rfl, rfl⟩
theorem w_Sorted (hS1 : ∀ (blk off cap : Nat) (zs : List Int) (w : World), Holds (Value.int .i64) w blk off zs.toArray → blk < w.heap.size → zs.length < 4611686018427387904 →
      Calls Tryz.prog 66 #[.slice (some ⟨blk, off, none⟩) zs.length cap] w fun e w' => e = .returned (.tuple #[]) ∧ ∃ n os, w' = grow (putRow (Value.int .i64) (Sort.ahead w n) blk off (zs.mergeSort fun x y => decide (x ≤ y)).toArray) os)
    (hS0 : ∀ (p : Option Addr) (cap : Nat) (w : World), Calls Tryz.prog 66 #[.slice p 0 cap] w fun e w' => e = .returned (.tuple #[]) ∧ w' = w)
    {b : Nat} {β : Type} {fv : β → D} {l : List (Int × β)} (hl : l.length * 8 ≤ 140737488355328) : Go.V.Fn Tryz.prog 89 [.clo (.func 125) [] [.ref (.v (.map (some b)))]] [mp b kI64 fv l]
    (fun d ms' => ∃ a m cap, d = .v (.slice a m cap) ∧ ms' = [mp b kI64 fv l, arr a m cap 3 1 D.i64 ((l.map (·.1)).mergeSort fun x y => decide (x ≤ y))]) := by
  refine fn_intro Tryz.func89 rfl Tryz.ntmps89 rfl fun H0 fr w0 => ?_
  refine g_seq ?_
  refine g_region ?_
  refine go_p rfl rfl rfl (o_assign rfl) ?_
  refine go_nil ?_
  refine g_seq ?_
  refine g_region ?_
  refine go_p rfl rfl rfl (o_move rfl) ?_
  refine go_op rfl rfl rfl (o_call (ms₁ := [mp b kI64 fv l]) (rest := []) Tryz.call124 rfl (List.Perm.refl _) (w_Collect hl)) ?_
  rintro _ _ ⟨_, ⟨q, a, m, cap, hq, rfl, rfl⟩, rfl⟩
  refine go_p rfl rfl rfl (o_assign rfl) ?_
  refine go_nil ?_
  refine g_seq ?_
  refine g_region ?_
  refine go_p rfl rfl rfl (o_move rfl) ?_
  have hql : q.length < 4611686018427387904 := by
    have := hq.length_eq
    rw [List.length_map] at this
    omega
  refine go_op rfl rfl rfl (o_call_own [0] Tryz.call66 rfl rfl (getL_c rfl getL_n) (fn_sort_int hS1 hS0 hql) (by rintro _ _ ⟨_, rfl⟩; rfl)) ?_
  rintro _ _ ⟨_, ⟨rfl, rfl⟩, rfl⟩
  rw [sort_perm hq]
  refine go_ms (ms' := [arr a m cap 3 1 D.i64 ((l.map (·.1)).mergeSort fun x y => decide (x ≤ y)), mp b kI64 fv l]) rfl ?_
  refine go_nil ?_
  refine g_seq ?_
  refine g_region ?_
  refine go_p rfl rfl rfl (o_move rfl) ?_
  refine go_p rfl rfl rfl (o_assign rfl) ?_
  refine go_nil ?_
  refine g_ret ?_
  exact retK (ret_one' rfl (ret_tmp rfl) (permA 1 rfl (permA 0 rfl permN))) ⟨a, m, cap, rfl, rfl⟩
end
def m_slices_Concat_int_int_l1 (slices1 : (List (List Int))) : Nat → (Int × Int) → Option Int
  | 0, _ => none
  | n + 1, (size2, x1) =>
    bif (decide (x1 < (slices1.length : Int))) then
      (idx slices1 x1).bind fun x2 =>
      grd (InR (size2 + (x2.length : Int))) <|
      bif (decide ((size2 + (x2.length : Int)) < 0)) then
        none
      else
        grd (InR (x1 + 1)) <|
        m_slices_Concat_int_int_l1 slices1 n ((size2 + (x2.length : Int)), (x1 + 1))
    else
      some size2
def m_slices_Concat_int_int_l2 (slices1 : (List (List Int))) : Nat → (Int × (List Int)) → Option (List Int)
  | 0, _ => none
  | n + 1, (x3, l2) =>
    bif (decide (x3 < (slices1.length : Int))) then
      (idx slices1 x3).bind fun x4 =>
      grd ((l2.length + x4.length) * 8 ≤ 140737488355328) <|
      grd (InR (x3 + 1)) <|
      m_slices_Concat_int_int_l2 slices1 n ((x3 + 1), (l2 ++ x4))
    else
      some l2
def m_slices_Concat_int_int (slices1 : (List (List Int))) : Option (List Int) :=
  (m_slices_Concat_int_int_l1 slices1 FU (0, 0) : Option Int).bind fun size1 =>
  grd (0 ≤ size1) <|
  grd ((size1).toNat * 8 ≤ 140737488355328) <|
  (m_slices_Concat_int_int_l2 slices1 FU (0, ([] : List Int)) : Option (List Int)).bind fun l1 =>
  some l1
theorem w_slices_Concat_int_int {slices1 : (List (List Int))} {r_1 : (List Int)} (hm : m_slices_Concat_int_int slices1 = some r_1) : Fn0 Tryz.prog 118 [.list 1 (D.list 1 D.i64) slices1] (.list 1 D.i64 r_1) := by
  unfold m_slices_Concat_int_int at hm
  refine fn_intro Tryz.func118 rfl Tryz.ntmps118 rfl fun H0 fr w0 => ?_
  refine g_seq ?_
  refine g_region ?_
  refine go_p rfl rfl rfl (o_assign rfl) ?_
  refine go_conv (nilE (i := 2) (sz := 1) (f := D.i64) rfl).refines ?_
  refine go_nil ?_
  refine g_seq ?_
  refine g_region ?_
  refine go_p rfl rfl rfl (o_assign rfl) ?_
  refine go_nil ?_
  refine g_seq ?_
  refine g_seq ?_
  refine g_region ?_
  refine go_p rfl rfl rfl (o_move rfl) ?_
  refine go_p rfl rfl rfl (o_len Tryz.runUnderlying184 rfl) ?_
  refine go_p rfl rfl rfl (o_move rfl) ?_
  refine go_nil ?_
  obtain ⟨o_1, hj1, hm1⟩ := bind_some hm
  refine g_cut_m [(0, _)] [] (fun (st : Int) (hid : Unit) => match st, hid with | size1, _ => [(3, .i64 size1)]) (fun F (st : Int) (hid : Unit) => match st, hid with | size1, _ => []) (fun st => st = o_1) ⟨rfl, trivial⟩ trivial ?_ ?_
  · skip
    refine g_block ?_
    refine g_loop_m [(0, _), (9, _), (10, _)] [] (fun (st : (Int × Int)) (hid : Unit) => match st, hid with | (size2, x1), _ => [(3, .i64 size2), (11, .i64 x1)]) (fun F (st : (Int × Int)) (hid : Unit) => match st, hid with | (size2, x1), _ => []) () hj1 (fun _ => rfl) ⟨rfl, rfl, rfl, trivial⟩ trivial ⟨rfl, rfl, trivial⟩ rfl ?_
    rintro n ⟨size2, x1⟩ _ hj1
    rw [m_slices_Concat_int_int_l1] at hj1
    refine g_norm (L' := [(3, .i64 size2), (11, .i64 x1), (0, _), (9, _), (10, _)]) (ms' := []) rfl rfl ?_
    refine g_seq ?_
    refine g_region ?_
    refine go_p rfl rfl rfl (o_cmp rfl rfl rfl) ?_
    refine go_nil ?_
    refine g_seq ?_
    refine g_cond rfl (fun hc1 => ?_) (fun hc1 => ?_)
    · replace hj1 := cond_t hc1 hj1
      refine g_skip ?_
      refine g_seq ?_
      refine g_block ?_
      refine g_seq ?_
      refine g_region ?_
      obtain ⟨x2, hx1, hj1⟩ := bind_some hj1
      refine go_p rfl rfl rfl (o_indexAddr_m Tryz.runUnderlying184 Tryz.sizeOf49 rfl rfl hx1) ?_
      refine go_p rfl rfl rfl (o_load Tryz.isAgg49 rfl rfl) ?_
      refine go_p rfl rfl rfl (o_assign rfl) ?_
      refine go_nil ?_
      refine g_seq ?_
      refine g_region ?_
      refine go_p rfl rfl rfl (o_move rfl) ?_
      refine go_p rfl rfl rfl (o_move rfl) ?_
      refine go_p rfl rfl rfl (o_len Tryz.runUnderlying49 rfl) ?_
      obtain ⟨hg2, hj1⟩ := grd_some hj1
      refine go_p rfl rfl rfl (o_add rfl rfl (i64_id hg2)) ?_
      refine go_p rfl rfl rfl (o_assign rfl) ?_
      refine go_nil ?_
      refine g_seq ?_
      refine g_region ?_
      refine go_p rfl rfl rfl (o_move rfl) ?_
      refine go_p rfl rfl rfl (o_cmp rfl rfl rfl) ?_
      refine go_nil ?_
      refine g_cond rfl (fun hc2 => ?_) (fun hc2 => ?_)
      · replace hj1 := cond_t hc2 hj1
        cases hj1
      · replace hj1 := cond_f hc2 hj1
        refine g_skip ?_
        refine g_region ?_
        obtain ⟨hg3, hj1⟩ := grd_some hj1
        refine go_p rfl rfl rfl (o_add rfl rfl (i64_id hg3)) ?_
        refine go_p rfl rfl rfl (o_move rfl) ?_
        refine go_nil ?_
        exact ⟨_, (), hj1, ⟨rfl, rfl, trivial⟩, ⟨rfl, rfl, rfl, trivial⟩, [], rfl⟩
    · replace hj1 := cond_f hc1 hj1
      refine g_exit ?_
      exact ⟨_, (), some_eq hj1, ⟨rfl, trivial⟩, ⟨rfl, trivial⟩, [], rfl⟩
  · rintro size1 _ hst
    subst hst
    refine k_norm (L' := [(3, .i64 size1), (0, _)]) (ms' := []) rfl rfl ?_
    refine g_seq ?_
    refine g_region ?_
    refine go_p rfl rfl rfl (o_move rfl) ?_
    obtain ⟨hg4, hm1⟩ := grd_some hm1
    obtain ⟨hg5, hm1⟩ := grd_some hm1
    refine go_op rfl rfl rfl (o_call (ms₁ := []) Tryz.call159 rfl (List.Perm.refl _) (w_Grow_159 hg4 hg5)) ?_
    rintro _ _ ⟨_, ⟨a_r1, cap_r1, rfl, rfl⟩, rfl⟩
    refine go_p rfl rfl rfl (o_assign rfl) ?_
    refine go_nil ?_
    refine g_seq ?_
    refine g_seq ?_
    refine g_region ?_
    refine go_p rfl rfl rfl (o_move rfl) ?_
    refine go_p rfl rfl rfl (o_len Tryz.runUnderlying184 rfl) ?_
    refine go_p rfl rfl rfl (o_move rfl) ?_
    refine go_nil ?_
    obtain ⟨o_2, hj2, hm2⟩ := bind_some hm1
    refine g_cut_m [] [] (fun (st : (List Int)) (hid : (Option Addr × Nat)) => match st, hid with | l1, (a_r1, cap_r1) => [(6, .v (.slice a_r1 l1.length cap_r1))]) (fun F (st : (List Int)) (hid : (Option Addr × Nat)) => match st, hid with | l1, (a_r1, cap_r1) => [row a_r1 cap_r1 3 1 D.i64 l1]) (fun st => st = o_2) trivial trivial ?_ ?_
    · skip
      refine g_block ?_
      refine g_loop_m [(25, _), (26, _)] [] (fun (st : (Int × (List Int))) (hid : (Option Addr × Nat)) => match st, hid with | (x3, l2), (a_r1, cap_r1) => [(6, .v (.slice a_r1 l2.length cap_r1)), (27, .i64 x3)]) (fun F (st : (Int × (List Int))) (hid : (Option Addr × Nat)) => match st, hid with | (x3, l2), (a_r1, cap_r1) => [row a_r1 cap_r1 3 1 D.i64 l2]) (_, _) hj2 (fun _ => rfl) ⟨rfl, rfl, trivial⟩ trivial ⟨rfl, rfl, trivial⟩ rfl ?_
      rintro n ⟨x3, l2⟩ ⟨a_r1, cap_r1⟩ hj2
      rw [m_slices_Concat_int_int_l2] at hj2
      refine g_norm (L' := [(6, .v (.slice a_r1 l2.length cap_r1)), (27, .i64 x3), (25, _), (26, _)]) (ms' := [row a_r1 cap_r1 3 1 D.i64 l2]) rfl rfl ?_
      refine g_seq ?_
      refine g_region ?_
      refine go_p rfl rfl rfl (o_cmp rfl rfl rfl) ?_
      refine go_nil ?_
      refine g_seq ?_
      refine g_cond rfl (fun hc3 => ?_) (fun hc3 => ?_)
      · replace hj2 := cond_t hc3 hj2
        refine g_skip ?_
        refine g_seq ?_
        refine g_block ?_
        refine g_seq ?_
        refine g_region ?_
        obtain ⟨x4, hx6, hj2⟩ := bind_some hj2
        refine go_p rfl rfl rfl (o_indexAddr_m Tryz.runUnderlying184 Tryz.sizeOf49 rfl rfl hx6) ?_
        refine go_p rfl rfl rfl (o_load Tryz.isAgg49 rfl rfl) ?_
        refine go_p rfl rfl rfl (o_assign rfl) ?_
        refine go_nil ?_
        refine g_region ?_
        refine go_p rfl rfl rfl (o_move rfl) ?_
        refine go_p rfl rfl rfl (o_move rfl) ?_
        obtain ⟨hg7, hj2⟩ := grd_some hj2
        refine go_op rfl rfl rfl (o_append (a := _) 0 Tryz.underlying49 Tryz.type3 rfl rfl rfl rfl rfl rfl rfl (fun _ => rfl) (fun _ => rfl) hg7 (app_len hg7 rfl)) ?_
        rintro _ _ ⟨a_r1, cap_r1, rfl, rfl⟩
        refine go_ms (ms' := [_]) rfl ?_
        refine go_p rfl rfl rfl (o_assign rfl) ?_
        refine go_nil ?_
        refine g_region ?_
        obtain ⟨hg8, hj2⟩ := grd_some hj2
        refine go_p rfl rfl rfl (o_add rfl rfl (i64_id hg8)) ?_
        refine go_p rfl rfl rfl (o_move rfl) ?_
        refine go_nil ?_
        exact ⟨_, (_, _), hj2, ⟨rfl, rfl, trivial⟩, ⟨rfl, rfl, trivial⟩, [], rfl⟩
      · replace hj2 := cond_f hc3 hj2
        refine g_exit ?_
        exact ⟨_, (_, _), some_eq hj2, ⟨rfl, trivial⟩, trivial, [], rfl⟩
    · rintro l1 ⟨a_r1, cap_r1⟩ hst
      subst hst
      refine k_norm (L' := [(6, .v (.slice a_r1 l1.length cap_r1))]) (ms' := [row a_r1 cap_r1 3 1 D.i64 l1]) rfl rfl ?_
      refine g_seq ?_
      refine g_region ?_
      refine go_p rfl rfl rfl (o_move rfl) ?_
      refine go_p rfl rfl rfl (o_assign rfl) ?_
      refine go_nil ?_
      refine g_conv (peekE (i := 2) 0 rfl rfl rfl).refines ?_
      refine g_ret ?_
      exact retK (ret_one' rfl (ret_tmp rfl) (perm_drop _)) (congrArg (fun (p : (List Int)) => (.list 1 D.i64 p : D)) (some_eq hm2))
theorem fi_63_1 : FieldIs Tryz.prog 63 1 1 1 false := ⟨⟨_, _, Tryz.runUnderlying63, rfl, rfl, Tryz.sizeOf3, by decide, Tryz.isAgg3⟩⟩
def m_auto_tos_l1 (l1 : (List AutoEdge)) : Nat → (Int × (List Int)) → Option (List Int)
  | 0, _ => none
  | n + 1, (x1, l3) =>
    bif (decide (x1 < (l1.length : Int))) then
      (idx l1 x1).bind fun x2 =>
      grd ((l3.length + ([x2.to_] : List _).length) * 8 ≤ 140737488355328) <|
      grd (InR (x1 + 1)) <|
      m_auto_tos_l1 l1 n ((x1 + 1), (l3 ++ [x2.to_]))
    else
      some l3
def m_auto_tos (l1 : (List AutoEdge)) : Option (List Int) :=
  (m_auto_tos_l1 l1 FU (0, []) : Option (List Int)).bind fun l2 =>
  some l2
theorem w_auto_tos {l1 : (List AutoEdge)} {r_1 : (List Int)} (hm : m_auto_tos l1 = some r_1) : Fn0 Tryz.prog 119 [.list 2 AutoEdge.d l1] (.list 1 D.i64 r_1) := by
  unfold m_auto_tos at hm
  refine fn_intro Tryz.func119 rfl Tryz.ntmps119 rfl fun H0 fr w0 => ?_
  refine g_seq ?_
  refine g_region ?_
  refine go_p rfl rfl rfl (o_assign rfl) ?_
  refine go_conv (nilE (i := 2) (sz := 1) (f := D.i64) rfl).refines ?_
  refine go_nil ?_
  refine g_seq ?_
  refine g_region ?_
  refine go_p rfl rfl rfl (o_assign rfl) ?_
  refine go_conv (refines_newrow (T := 3) (sz := 1) (f := D.i64)) ?_
  refine go_nil ?_
  refine g_seq ?_
  refine g_seq ?_
  refine g_region ?_
  refine go_p rfl rfl rfl (o_move rfl) ?_
  refine go_p rfl rfl rfl (o_len Tryz.runUnderlying58 rfl) ?_
  refine go_p rfl rfl rfl (o_move rfl) ?_
  refine go_nil ?_
  obtain ⟨o_1, hj1, hm1⟩ := bind_some hm
  refine g_cut_m [] [] (fun (st : (List Int)) (hid : (Option Addr × Nat)) => match st, hid with | l2, (a_r1, cap_r1) => [(3, .v (.slice a_r1 l2.length cap_r1))]) (fun F (st : (List Int)) (hid : (Option Addr × Nat)) => match st, hid with | l2, (a_r1, cap_r1) => [row a_r1 cap_r1 3 1 D.i64 l2]) (fun st => st = o_1) trivial trivial ?_ ?_
  · skip
    refine g_block ?_
    refine g_loop_m [(6, _), (7, _)] [] (fun (st : (Int × (List Int))) (hid : (Option Addr × Nat)) => match st, hid with | (x1, l3), (a_r1, cap_r1) => [(3, .v (.slice a_r1 l3.length cap_r1)), (8, .i64 x1)]) (fun F (st : (Int × (List Int))) (hid : (Option Addr × Nat)) => match st, hid with | (x1, l3), (a_r1, cap_r1) => [row a_r1 cap_r1 3 1 D.i64 l3]) (_, _) hj1 (fun _ => rfl) ⟨rfl, rfl, trivial⟩ trivial ⟨rfl, rfl, trivial⟩ rfl ?_
    rintro n ⟨x1, l3⟩ ⟨a_r1, cap_r1⟩ hj1
    rw [m_auto_tos_l1] at hj1
    refine g_norm (L' := [(3, .v (.slice a_r1 l3.length cap_r1)), (8, .i64 x1), (6, _), (7, _)]) (ms' := [row a_r1 cap_r1 3 1 D.i64 l3]) rfl rfl ?_
    refine g_seq ?_
    refine g_region ?_
    refine go_p rfl rfl rfl (o_cmp rfl rfl rfl) ?_
    refine go_nil ?_
    refine g_seq ?_
    refine g_cond rfl (fun hc1 => ?_) (fun hc1 => ?_)
    · replace hj1 := cond_t hc1 hj1
      refine g_skip ?_
      refine g_seq ?_
      refine g_block ?_
      refine g_seq ?_
      refine g_region ?_
      obtain ⟨x2, hx1, hj1⟩ := bind_some hj1
      refine go_p rfl rfl rfl (o_indexAddr_m Tryz.runUnderlying58 Tryz.sizeOf63 rfl rfl hx1) ?_
      refine go_p rfl rfl rfl (o_load_agg Tryz.isAgg63 Tryz.sizeOf63 rfl rfl) ?_
      refine go_op rfl rfl rfl (o_alloc_own Tryz.zeroValue63 (cs := [.str ([] : List UInt8), .i64 0]) rfl) ?_
      rintro _ _ ⟨b1, rfl, rfl⟩
      refine go_u rfl rfl (o_store_box 0 Tryz.sizeOf63 rfl rfl rfl rfl rfl rfl rfl rfl (Nat.le_of_ble_eq_true rfl)) ?_
      rintro _ _ rfl
      refine go_ms (ms' := [box b1 63 [_, _], _]) rfl ?_
      refine go_nil ?_
      refine g_region ?_
      refine go_p rfl rfl rfl (o_move rfl) ?_
      refine go_p rfl rfl rfl (o_fieldAddr_box fi_63_1 rfl) ?_
      refine go_p rfl rfl rfl (o_load_box 0 Tryz.isAgg3 rfl rfl rfl rfl) ?_
      refine go_p rfl rfl rfl (o_buildSlice (xs := [_]) (f := D.i64) (l := [_]) Tryz.runUnderlying49 Tryz.sizeOf3 Tryz.zeroValue3 rfl rfl rfl (fun _ => ⟨rfl, rfl, rfl⟩) rfl) ?_
      obtain ⟨hg2, hj1⟩ := grd_some hj1
      refine go_op rfl rfl rfl (o_append (a := _) 1 Tryz.underlying49 Tryz.type3 rfl rfl rfl rfl rfl rfl rfl (fun _ => rfl) (fun _ => rfl) hg2 (app_len hg2 rfl)) ?_
      rintro _ _ ⟨a_r1, cap_r1, rfl, rfl⟩
      refine go_ms (ms' := [box b1 63 [_, _], _]) rfl ?_
      refine go_p rfl rfl rfl (o_assign rfl) ?_
      refine go_nil ?_
      refine g_region ?_
      obtain ⟨hg3, hj1⟩ := grd_some hj1
      refine go_p rfl rfl rfl (o_add rfl rfl (i64_id hg3)) ?_
      refine go_p rfl rfl rfl (o_move rfl) ?_
      refine go_nil ?_
      exact ⟨_, (_, _), hj1, ⟨rfl, rfl, trivial⟩, ⟨rfl, rfl, trivial⟩, [_], rfl⟩
    · replace hj1 := cond_f hc1 hj1
      refine g_exit ?_
      exact ⟨_, (_, _), some_eq hj1, ⟨rfl, trivial⟩, trivial, [], rfl⟩
  · rintro l2 ⟨a_r1, cap_r1⟩ hst
    subst hst
    refine k_norm (L' := [(3, .v (.slice a_r1 l2.length cap_r1))]) (ms' := [row a_r1 cap_r1 3 1 D.i64 l2]) rfl rfl ?_
    refine g_seq ?_
    refine g_region ?_
    refine go_p rfl rfl rfl (o_move rfl) ?_
    refine go_p rfl rfl rfl (o_assign rfl) ?_
    refine go_nil ?_
    refine g_conv (peekE (i := 2) 0 rfl rfl rfl).refines ?_
    refine g_ret ?_
    exact retK (ret_one' rfl (ret_tmp rfl) (perm_drop _)) (congrArg (fun (p : (List Int)) => (.list 1 D.i64 p : D)) (some_eq hm1))
theorem fi_60_5 : FieldIs Tryz.prog 60 5 5 1 false := ⟨⟨_, _, Tryz.runUnderlying60, rfl, rfl, Tryz.sizeOf4, by decide, Tryz.isAgg4⟩⟩
theorem fi_60_9 : FieldIs Tryz.prog 60 9 9 1 false := ⟨⟨_, _, Tryz.runUnderlying60, rfl, rfl, Tryz.sizeOf3, by decide, Tryz.isAgg3⟩⟩
theorem fi_60_10 : FieldIs Tryz.prog 60 10 10 1 false := ⟨⟨_, _, Tryz.runUnderlying60, rfl, rfl, Tryz.sizeOf3, by decide, Tryz.isAgg3⟩⟩
theorem fi_60_11 : FieldIs Tryz.prog 60 11 11 1 false := ⟨⟨_, _, Tryz.runUnderlying60, rfl, rfl, Tryz.sizeOf58, by decide, Tryz.isAgg58⟩⟩
theorem fi_60_12 : FieldIs Tryz.prog 60 12 12 1 false := ⟨⟨_, _, Tryz.runUnderlying60, rfl, rfl, Tryz.sizeOf58, by decide, Tryz.isAgg58⟩⟩
def m_auto_Next (s1 : AutoState) : Option (List Int) :=
  (bif s1.arrow then
    grd ((0 + ([s1.dom, s1.cod] : List _).length) * 8 ≤ 140737488355328) <|
    some ([] ++ [s1.dom, s1.cod])
  else
    some [] : Option (List Int)).bind fun l1 =>
  (m_auto_tos s1.fields).bind fun x1 =>
  (m_auto_tos s1.tags).bind fun x2 =>
  (m_slices_Concat_int_int [l1, x1, x2]).bind fun x3 =>
  some x3
theorem w_auto_Next {s1 : AutoState} {r_1 : (List Int)} (hm : m_auto_Next s1 = some r_1) : Fn0 Tryz.prog 122 [AutoState.d s1] (.list 1 D.i64 r_1) := by
  unfold m_auto_Next at hm
  refine fn_intro Tryz.func122 rfl Tryz.ntmps122 rfl fun H0 fr w0 => ?_
  refine g_seq ?_
  refine g_region ?_
  refine go_p rfl rfl rfl (o_box rfl rfl) ?_
  refine go_p rfl rfl rfl (o_assign rfl) ?_
  refine go_conv (nilE (i := 2) (sz := 1) (f := D.i64) rfl).refines ?_
  refine go_nil ?_
  refine g_seq ?_
  refine g_region ?_
  refine go_p rfl rfl rfl (o_assign rfl) ?_
  refine go_conv (refines_newrow (T := 3) (sz := 1) (f := D.i64)) ?_
  refine go_nil ?_
  refine g_seq ?_
  refine g_seq ?_
  refine g_region ?_
  refine go_p rfl rfl rfl (o_fieldAddr fi_60_5 rfl rfl rfl) ?_
  refine go_p rfl rfl rfl (o_load Tryz.isAgg4 rfl rfl) ?_
  refine go_nil ?_
  obtain ⟨o_1, hj1, hm1⟩ := bind_some hm
  refine g_cut_m [(1, _)] [] (fun (st : (List Int)) (hid : (Option Addr × Nat)) => match st, hid with | l1, (a_r1, cap_r1) => [(3, .v (.slice a_r1 l1.length cap_r1))]) (fun F (st : (List Int)) (hid : (Option Addr × Nat)) => match st, hid with | l1, (a_r1, cap_r1) => [row a_r1 cap_r1 3 1 D.i64 l1]) (fun st => st = o_1) ⟨rfl, trivial⟩ trivial ?_ ?_
  · skip
    refine g_cond rfl (fun hc1 => ?_) (fun hc1 => ?_)
    · replace hj1 := cond_t hc1 hj1
      refine g_region ?_
      refine go_p rfl rfl rfl (o_move rfl) ?_
      refine go_p rfl rfl rfl (o_fieldAddr fi_60_9 rfl rfl rfl) ?_
      refine go_p rfl rfl rfl (o_load Tryz.isAgg3 rfl rfl) ?_
      refine go_p rfl rfl rfl (o_fieldAddr fi_60_10 rfl rfl rfl) ?_
      refine go_p rfl rfl rfl (o_load Tryz.isAgg3 rfl rfl) ?_
      refine go_p rfl rfl rfl (o_buildSlice (xs := [_, _]) (f := D.i64) (l := [_, _]) Tryz.runUnderlying49 Tryz.sizeOf3 Tryz.zeroValue3 rfl rfl rfl (fun _ => ⟨rfl, rfl, rfl⟩) rfl) ?_
      obtain ⟨hg1, hj1⟩ := grd_some hj1
      refine go_op rfl rfl rfl (o_append (a := _) 0 Tryz.underlying49 Tryz.type3 rfl rfl rfl rfl rfl rfl rfl (fun _ => rfl) (fun _ => rfl) hg1 (app_len hg1 rfl)) ?_
      rintro _ _ ⟨a_r1, cap_r1, rfl, rfl⟩
      refine go_ms (ms' := [_]) rfl ?_
      refine go_p rfl rfl rfl (o_assign rfl) ?_
      refine go_nil ?_
      exact ⟨_, (_, _), some_eq hj1, ⟨rfl, trivial⟩, ⟨rfl, trivial⟩, [], rfl⟩
    · replace hj1 := cond_f hc1 hj1
      refine g_skip ?_
      exact ⟨_, (_, _), some_eq hj1, ⟨rfl, trivial⟩, ⟨rfl, trivial⟩, [], rfl⟩
  · rintro l1 ⟨a_r1, cap_r1⟩ hst
    subst hst
    refine k_norm (L' := [(3, .v (.slice a_r1 l1.length cap_r1)), (1, _)]) (ms' := [row a_r1 cap_r1 3 1 D.i64 l1]) rfl rfl ?_
    refine g_seq ?_
    obtain ⟨x1, hx2, hm1⟩ := bind_some hm1
    obtain ⟨x2, hx3, hm1⟩ := bind_some hm1
    obtain ⟨x3, hx4, hm1⟩ := bind_some hm1
    refine g_draw 10 Tryz_mixed (by decide +kernel) ?_
    refine gd_p rfl rfl rfl (o_move rfl) ?_
    refine gd_p rfl rfl rfl (o_fieldAddr fi_60_11 rfl rfl rfl) ?_
    refine gd_p rfl rfl rfl (o_load Tryz.isAgg58 rfl rfl) ?_
    refine gd_p rfl rfl rfl (o_call0 Tryz.call119 rfl (w_auto_tos hx2)) ?_
    refine gd_p rfl rfl rfl (o_fieldAddr fi_60_12 rfl rfl rfl) ?_
    refine gd_p rfl rfl rfl (o_load Tryz.isAgg58 rfl rfl) ?_
    refine gd_p rfl rfl rfl (o_call0 Tryz.call119 rfl (w_auto_tos hx3)) ?_
    refine gd_p rfl rfl rfl (.view (peekE (i := 13) 0 rfl rfl rfl) (o_buildSlice (xs := [_, _, _]) (f := (D.list 1 D.i64)) (l := [_, _, _]) Tryz.runUnderlying184 Tryz.sizeOf49 Tryz.zeroValue49 rfl rfl rfl (fun _ => ⟨rfl, rfl, rfl⟩) rfl)) ?_
    refine gd_p rfl rfl rfl (o_call0 Tryz.call118 rfl (w_slices_Concat_int_int hx4)) ?_
    refine gd_p rfl rfl rfl (o_assign rfl) ?_
    refine gd_nil ?_
    refine go_nil ?_
    refine g_ret ?_
    exact retK (ret_one' rfl (ret_tmp rfl) (perm_drop _)) (congrArg (fun (p : (List Int)) => (.list 1 D.i64 p : D)) (some_eq hm1))
theorem fi_27_0 : FieldIs Tryz.prog 27 0 0 1 false := ⟨⟨_, _, Tryz.runUnderlying27, rfl, rfl, Tryz.sizeOf25, by decide, Tryz.isAgg25⟩⟩
theorem fi_27_1 : FieldIs Tryz.prog 27 1 1 1 false := ⟨⟨_, _, Tryz.runUnderlying27, rfl, rfl, Tryz.sizeOf3, by decide, Tryz.isAgg3⟩⟩
def m_reached_l2 (x4 : (List Int)) : Nat → (Int × (List Int) × (List Bool)) → Option ((List Int) × (List Bool))
  | 0, _ => none
  | n + 1, (x5, l6, l7) =>
    bif (decide (x5 < (x4.length : Int))) then
      (idx x4 x5).bind fun x6 =>
      (idx l7 x6).bind fun x7 =>
      bif (!x7) then
        (idx l7 x6).bind fun x8 =>
        grd ((l6.length + ([x6] : List _).length) * 8 ≤ 140737488355328) <|
        grd (InR (x5 + 1)) <|
        m_reached_l2 x4 n ((x5 + 1), (l6 ++ [x6]), (l7.set (x6).toNat true))
      else
        grd (InR (x5 + 1)) <|
        m_reached_l2 x4 n ((x5 + 1), l6, l7)
    else
      some (l6, l7)
def m_reached_l1 (c1 : AutoAuto) : Nat → ((List Int) × (List Bool)) → Option (List Int)
  | 0, _ => none
  | n + 1, (l1, l2) =>
    bif (decide (0 < (l1.length : Int))) then
      (idx l1 0).bind fun x2 =>
      (sli l1 1 (l1.length : Int)).bind fun l3 =>
      ((idx c1.l x2).bind fun x3 =>
      (m_auto_Next x3).bind fun x4 =>
      (m_reached_l2 x4 FU (0, l3, l2) : Option ((List Int) × (List Bool))).bind fun (l4, l5) =>
      m_reached_l1 c1 n (l4, l5)).bind fun ys => some (x2 :: ys)
    else
      some []
def m_reached (c1 : AutoAuto) : Option (List Int) :=
  grd (0 ≤ (c1.l.length : Int)) <|
  grd (((c1.l.length : Int)).toNat * 1 ≤ 140737488355328) <|
  (idx (List.replicate ((c1.l.length : Int)).toNat (false : Bool)) c1.start).bind fun x1 =>
  m_reached_l1 c1 FU ([c1.start], ((List.replicate ((c1.l.length : Int)).toNat (false : Bool)).set (c1.start).toNat true))
theorem it_reached {c1 : AutoAuto} {xs : (List Int)} (hm : m_reached c1 = some xs) : Iter Tryz.prog 121 [.ref (AutoAuto.d c1)] (xs.map fun (p : Int) => [.i64 p]) := by
  intro y hys J Jx hy tl_0 hJ_0
  have hk_0 : 0 ≤ xs.length := Nat.zero_le _
  replace hm : _ = some (xs.drop 0) := hm
  unfold m_reached at hm
  refine fn_intro Tryz.func121 rfl Tryz.ntmps121 rfl fun H0 fr w0 => ?_
  refine g_seq ?_
  refine g_region ?_
  refine go_p rfl rfl rfl (o_fieldAddr fi_27_0 rfl rfl rfl) ?_
  refine go_p rfl rfl rfl (o_load Tryz.isAgg25 rfl rfl) ?_
  refine go_p rfl rfl rfl (o_len Tryz.runUnderlying25 rfl) ?_
  obtain ⟨hg1, hm⟩ := grd_some hm
  obtain ⟨hg2, hm⟩ := grd_some hm
  refine go_op rfl rfl rfl (o_makeSlice (f := D.bool) (z0 := false) Tryz.underlying95 Tryz.type4 rfl rfl rfl (Nat.le_of_ble_eq_true rfl) rfl rfl hg1 hg2 (Nat.le_of_ble_eq_true rfl)) ?_
  rintro _ _ ⟨a_r1, m_r1, cap_r1, rfl, rfl⟩
  refine go_p rfl rfl rfl (o_assign rfl) ?_
  refine go_nil ?_
  refine g_seq ?_
  refine g_region ?_
  refine go_p rfl rfl rfl (o_move rfl) ?_
  refine go_p rfl rfl rfl (o_fieldAddr fi_27_1 rfl rfl rfl) ?_
  refine go_p rfl rfl rfl (o_load Tryz.isAgg3 rfl rfl) ?_
  obtain ⟨x1, hx3, hm⟩ := bind_some hm
  refine go_p rfl rfl rfl (o_indexAddr_arr 0 Tryz.runUnderlying95 Tryz.sizeOf4 rfl rfl rfl hx3) ?_
  refine go_u rfl rfl (o_store_arr (off := 0) (z' := true) 0 Tryz.sizeOf4 rfl rfl (idx_some hx3).2 rfl rfl rfl rfl rfl rfl (Nat.le_of_ble_eq_true rfl) rfl rfl) ?_
  rintro _ _ rfl
  refine go_ms (ms' := [_] ++ tl_0) rfl ?_
  refine go_nil ?_
  refine g_seq ?_
  refine g_region ?_
  refine go_p rfl rfl rfl (o_fieldAddr fi_27_1 rfl rfl rfl) ?_
  refine go_p rfl rfl rfl (o_load Tryz.isAgg3 rfl rfl) ?_
  refine go_op rfl rfl rfl (o_buildSlice_row (xs := [_]) (f := D.i64) (l := [_]) Tryz.runUnderlying49 Tryz.sizeOf3 Tryz.zeroValue3 rfl rfl rfl (fun _ => ⟨rfl, rfl, rfl⟩) rfl (by simp [maxLen])) ?_
  rintro _ _ ⟨a_r2, rfl, rfl⟩
  refine go_p rfl rfl rfl (o_assign rfl) ?_
  refine go_nil ?_
  refine g_block ?_
  refine g_conv (refines_que 0 rfl rfl) ?_
  refine g_loop_y (fun (hid : {p : Nat × List Asrt // p.1 ≤ xs.length ∧ J p.1 p.2} × (Option Addr × Nat) × Unit) => xs.drop hid.1.1.1) [(0, _), (1, _), (3, _)] [] (fun (st : ((List Int) × (List Bool))) (hid : {p : Nat × List Asrt // p.1 ≤ xs.length ∧ J p.1 p.2} × (Option Addr × Nat) × Unit) => match st, hid with | (l1, l2), (⟨(k_3, tl_3), hk_3, hJ_3⟩, (a_r2, cap_r2), _) => [(4, .v (.slice a_r2 l1.length cap_r2))]) (fun F (st : ((List Int) × (List Bool))) (hid : {p : Nat × List Asrt // p.1 ≤ xs.length ∧ J p.1 p.2} × (Option Addr × Nat) × Unit) => match st, hid with | (l1, l2), (⟨(k_3, tl_3), hk_3, hJ_3⟩, (a_r2, cap_r2), _) => [que a_r2 cap_r2 3 1 D.i64 l1, arr a_r1 m_r1 cap_r1 4 1 D.bool l2] ++ tl_3) (⟨(0, tl_0), hk_0, hJ_0⟩, (_, _), ()) hm rfl (fun _ => rfl) ⟨rfl, rfl, rfl, trivial⟩ trivial ⟨rfl, trivial⟩ rfl ?_
  rintro n ⟨l1, l2⟩ ⟨⟨⟨k_3, tl_3⟩, hk_3, hJ_3⟩, ⟨a_r2, cap_r2⟩, ⟨⟩⟩ hm
  replace hm : _ = some (xs.drop k_3) := hm
  rw [m_reached_l1] at hm
  refine g_norm (L' := [(4, .v (.slice a_r2 l1.length cap_r2)), (0, _), (1, _), (3, _)]) (ms' := [que a_r2 cap_r2 3 1 D.i64 l1, arr a_r1 m_r1 cap_r1 4 1 D.bool l2] ++ tl_3) rfl rfl ?_
  refine g_seq ?_
  refine g_seq ?_
  refine g_region ?_
  refine go_p rfl rfl rfl (o_move rfl) ?_
  refine go_p rfl rfl rfl (.view (peekQ (i := 19) 0 rfl rfl rfl) (o_len Tryz.runUnderlying49 rfl)) ?_
  refine go_p rfl rfl rfl (o_cmp rfl rfl rfl) ?_
  refine go_nil ?_
  refine g_cond rfl (fun hc1 => ?_) (fun hc1 => ?_)
  · replace hm := cond_t hc1 hm
    refine g_skip ?_
    refine g_block ?_
    refine g_seq ?_
    refine g_region ?_
    refine go_p rfl rfl rfl (o_move rfl) ?_
    obtain ⟨x2, hx4, hm⟩ := bind_some hm
    refine go_p rfl rfl rfl (.view (peekQ (i := 22) 0 rfl rfl rfl) (o_indexAddr_m Tryz.runUnderlying49 Tryz.sizeOf3 rfl rfl hx4)) ?_
    refine go_p rfl rfl rfl (o_load Tryz.isAgg3 rfl rfl) ?_
    refine go_p rfl rfl rfl (o_assign rfl) ?_
    refine go_nil ?_
    refine g_seq ?_
    refine g_region ?_
    refine go_p rfl rfl rfl (o_move rfl) ?_
    obtain ⟨l3, hx5, hm⟩ := bind_some hm
    refine go_op rfl rfl rfl (o_slice_que 0 Tryz.runUnderlying49 Tryz.sizeOf3 rfl rfl rfl rfl hx5) ?_
    rintro _ _ ⟨a_r2, cap_r2, rfl, rfl⟩
    refine go_p rfl rfl rfl (o_assign rfl) ?_
    refine go_nil ?_
    refine g_seq ?_
    refine g_seq ?_
    refine g_region ?_
    refine go_p rfl rfl rfl (o_move rfl) ?_
    refine go_p rfl rfl rfl (o_move rfl) ?_
    obtain ⟨ys_4, hm, he_4⟩ := bind_some hm
    obtain ⟨hy_4, hk_4, rfl⟩ := yield_at he_4
    refine go_op rfl rfl rfl (o_yield [_, _] tl_3 rfl rfl (hy k_3 _ tl_3 (map_at hy_4) hJ_3)) ?_
    rintro _ _ ⟨_ | _, tl_4, rfl, rfl, hJ_4, hs_4⟩
    · skip
      refine go_p rfl rfl rfl (o_not rfl) ?_
      refine go_nil ?_
      refine g_cond_true rfl rfl ?_
      refine g_ret ?_
      exact retK (ret_none (ms' := tl_4) (drop := [_, _]) rfl (List.Perm.refl _)) (.inr (hs_4 rfl))
    · skip
      refine go_p rfl rfl rfl (o_not rfl) ?_
      refine go_nil ?_
      refine g_cond_false rfl rfl ?_
      refine g_skip ?_
      refine g_seq ?_
      refine g_region ?_
      refine go_p rfl rfl rfl (o_fieldAddr fi_27_0 rfl rfl rfl) ?_
      refine go_p rfl rfl rfl (o_load Tryz.isAgg25 rfl rfl) ?_
      refine go_p rfl rfl rfl (o_move rfl) ?_
      obtain ⟨x3, hx6, hm⟩ := bind_some hm
      refine go_p rfl rfl rfl (o_indexAddr_m Tryz.runUnderlying25 Tryz.sizeOf60 rfl rfl hx6) ?_
      refine go_p rfl rfl rfl (o_load_agg Tryz.isAgg60 Tryz.sizeOf60 rfl rfl) ?_
      obtain ⟨x4, hx7, hm⟩ := bind_some hm
      refine go_p rfl rfl rfl (o_call0 Tryz.call122 rfl (w_auto_Next hx7)) ?_
      refine go_p rfl rfl rfl (o_len Tryz.runUnderlying49 rfl) ?_
      refine go_p rfl rfl rfl (o_move rfl) ?_
      refine go_nil ?_
      obtain ⟨o_1, hj1, hm1⟩ := bind_some hm
      refine g_cut_m [(0, _), (1, _), (3, _)] [] (fun (st : ((List Int) × (List Bool))) (hid : (Option Addr × Nat) × Unit) => match st, hid with | (l4, l5), ((a_r2, cap_r2), _) => [(4, .v (.slice a_r2 l4.length cap_r2))]) (fun F (st : ((List Int) × (List Bool))) (hid : (Option Addr × Nat) × Unit) => match st, hid with | (l4, l5), ((a_r2, cap_r2), _) => [que a_r2 cap_r2 3 1 D.i64 l4, arr a_r1 m_r1 cap_r1 4 1 D.bool l5] ++ tl_4) (fun st => st = o_1) ⟨rfl, rfl, rfl, trivial⟩ trivial ?_ ?_
      · skip
        refine g_block ?_
        refine g_loop_m [(0, _), (1, _), (3, _), (36, _), (37, _)] [] (fun (st : (Int × (List Int) × (List Bool))) (hid : (Option Addr × Nat) × Unit) => match st, hid with | (x5, l6, l7), ((a_r2, cap_r2), _) => [(4, .v (.slice a_r2 l6.length cap_r2)), (38, .i64 x5)]) (fun F (st : (Int × (List Int) × (List Bool))) (hid : (Option Addr × Nat) × Unit) => match st, hid with | (x5, l6, l7), ((a_r2, cap_r2), _) => [que a_r2 cap_r2 3 1 D.i64 l6, arr a_r1 m_r1 cap_r1 4 1 D.bool l7] ++ tl_4) ((_, _), ()) hj1 (fun _ => rfl) ⟨rfl, rfl, rfl, rfl, rfl, trivial⟩ trivial ⟨rfl, rfl, trivial⟩ rfl ?_
        rintro n ⟨x5, l6, l7⟩ ⟨⟨a_r2, cap_r2⟩, ⟨⟩⟩ hj1
        rw [m_reached_l2] at hj1
        refine g_norm (L' := [(4, .v (.slice a_r2 l6.length cap_r2)), (38, .i64 x5), (0, _), (1, _), (3, _), (36, _), (37, _)]) (ms' := [que a_r2 cap_r2 3 1 D.i64 l6, arr a_r1 m_r1 cap_r1 4 1 D.bool l7] ++ tl_4) rfl rfl ?_
        refine g_seq ?_
        refine g_region ?_
        refine go_p rfl rfl rfl (o_cmp rfl rfl rfl) ?_
        refine go_nil ?_
        refine g_seq ?_
        refine g_cond rfl (fun hc2 => ?_) (fun hc2 => ?_)
        · replace hj1 := cond_t hc2 hj1
          refine g_skip ?_
          refine g_seq ?_
          refine g_block ?_
          refine g_seq ?_
          refine g_region ?_
          obtain ⟨x6, hx8, hj1⟩ := bind_some hj1
          refine go_p rfl rfl rfl (o_indexAddr_m Tryz.runUnderlying49 Tryz.sizeOf3 rfl rfl hx8) ?_
          refine go_p rfl rfl rfl (o_load Tryz.isAgg3 rfl rfl) ?_
          refine go_p rfl rfl rfl (o_assign rfl) ?_
          refine go_nil ?_
          refine g_seq ?_
          refine g_region ?_
          refine go_p rfl rfl rfl (o_move rfl) ?_
          refine go_p rfl rfl rfl (o_move rfl) ?_
          obtain ⟨x7, hx9, hj1⟩ := bind_some hj1
          refine go_p rfl rfl rfl (o_indexAddr_arr 1 Tryz.runUnderlying95 Tryz.sizeOf4 rfl rfl rfl hx9) ?_
          refine go_p rfl rfl rfl (o_load_arr (off := 0) 1 Tryz.isAgg4 rfl rfl (idx_some hx9).2 rfl rfl rfl) ?_
          refine go_p rfl rfl rfl (o_not rfl) ?_
          refine go_nil ?_
          refine g_cond rfl (fun hc3 => ?_) (fun hc3 => ?_)
          · replace hj1 := cond_t hc3 hj1
            refine g_seq ?_
            refine g_region ?_
            refine go_p rfl rfl rfl (o_move rfl) ?_
            refine go_p rfl rfl rfl (o_move rfl) ?_
            obtain ⟨x8, hx10, hj1⟩ := bind_some hj1
            refine go_p rfl rfl rfl (o_indexAddr_arr 1 Tryz.runUnderlying95 Tryz.sizeOf4 rfl rfl rfl hx10) ?_
            refine go_u rfl rfl (o_store_arr (off := 0) (z' := true) 1 Tryz.sizeOf4 rfl rfl (idx_some hx10).2 rfl rfl rfl rfl rfl rfl (Nat.le_of_ble_eq_true rfl) rfl rfl) ?_
            rintro _ _ rfl
            refine go_ms (ms' := [_, _] ++ tl_4) rfl ?_
            refine go_nil ?_
            refine g_region ?_
            refine go_p rfl rfl rfl (o_move rfl) ?_
            refine go_p rfl rfl rfl (o_move rfl) ?_
            refine go_p rfl rfl rfl (o_buildSlice (xs := [_]) (f := D.i64) (l := [_]) Tryz.runUnderlying49 Tryz.sizeOf3 Tryz.zeroValue3 rfl rfl rfl (fun _ => ⟨rfl, rfl, rfl⟩) rfl) ?_
            obtain ⟨hg11, hj1⟩ := grd_some hj1
            refine go_op rfl rfl rfl (o_append_que (a := _) 0 Tryz.underlying49 Tryz.type3 rfl rfl rfl rfl rfl rfl rfl (fun _ => rfl) (fun _ => rfl) hg11 (app_len hg11 rfl)) ?_
            rintro _ _ ⟨a_r2, cap_r2, rfl, rfl⟩
            refine go_ms (ms' := [_, _] ++ tl_4) rfl ?_
            refine go_p rfl rfl rfl (o_assign rfl) ?_
            refine go_nil ?_
            refine g_region ?_
            obtain ⟨hg12, hj1⟩ := grd_some hj1
            refine go_p rfl rfl rfl (o_add rfl rfl (i64_id hg12)) ?_
            refine go_p rfl rfl rfl (o_move rfl) ?_
            refine go_nil ?_
            exact ⟨_, ((_, _), ()), hj1, ⟨rfl, rfl, trivial⟩, ⟨rfl, rfl, rfl, rfl, rfl, trivial⟩, [], rfl⟩
          · replace hj1 := cond_f hc3 hj1
            refine g_skip ?_
            refine g_region ?_
            obtain ⟨hg13, hj1⟩ := grd_some hj1
            refine go_p rfl rfl rfl (o_add rfl rfl (i64_id hg13)) ?_
            refine go_p rfl rfl rfl (o_move rfl) ?_
            refine go_nil ?_
            exact ⟨_, ((_, _), ()), hj1, ⟨rfl, rfl, trivial⟩, ⟨rfl, rfl, rfl, rfl, rfl, trivial⟩, [], rfl⟩
        · replace hj1 := cond_f hc2 hj1
          refine g_exit ?_
          exact ⟨_, ((_, _), ()), some_eq hj1, ⟨rfl, trivial⟩, ⟨rfl, rfl, rfl, trivial⟩, [], rfl⟩
      · rintro ⟨l4, l5⟩ ⟨⟨a_r2, cap_r2⟩, ⟨⟩⟩ hst
        subst hst
        refine k_norm (L' := [(4, .v (.slice a_r2 l4.length cap_r2)), (0, _), (1, _), (3, _)]) (ms' := [que a_r2 cap_r2 3 1 D.i64 l4, arr a_r1 m_r1 cap_r1 4 1 D.bool l5] ++ tl_4) rfl rfl ?_
        exact ⟨_, (⟨((k_3 + 1), tl_4), hk_4, (hJ_4 rfl)⟩, (_, _), ()), hm1, ⟨rfl, trivial⟩, ⟨rfl, rfl, rfl, trivial⟩, [], rfl⟩
  · replace hm := cond_f hc1 hm
    refine g_exit ?_
    exact retKn (ret_none (ms' := tl_3) (drop := [_, _]) rfl (List.Perm.refl _)) (.inl (yield_end hm hk_3 hJ_3 _))
theorem w_reached {p0 : AutoAuto} :
    Fn0 Tryz.prog 86 [AutoAuto.d p0] (.clo (.func 121) [] [.ref (AutoAuto.d p0)]) := by
  refine fn_intro Tryz.func86 rfl Tryz.ntmps86 rfl fun H0 fr w0 => ?_
  refine g_seq ?_
  refine g_region ?_
  refine go_p rfl rfl rfl (o_box rfl rfl) ?_
  refine go_p rfl rfl rfl (o_assign rfl) ?_
  refine go_nil ?_
  refine g_seq ?_
  refine g_region ?_
  refine go_p rfl rfl rfl (o_makeFunc rfl rfl) ?_
  refine go_p rfl rfl rfl (o_assign rfl) ?_
  refine go_nil ?_
  refine g_ret ?_
  exact retK (ret_one' rfl (ret_tmp rfl) (perm_drop _)) (by rfl) -- ret1 
theorem fi_60_2 : FieldIs Tryz.prog 60 2 2 1 false := ⟨⟨_, _, Tryz.runUnderlying60, rfl, rfl, Tryz.sizeOf4, by decide, Tryz.isAgg4⟩⟩
def m_pair_Between_1 (s1 : AutoState) : Option Bool :=
  some s1.int
theorem w_pair_Between_1 {s1 : AutoState} {r_1 : Bool} (hm : m_pair_Between_1 s1 = some r_1) : Fn0 Tryz.prog 43 [AutoState.d s1] (.bool r_1) := by
  unfold m_pair_Between_1 at hm
  refine fn_intro Tryz.func43 rfl Tryz.ntmps43 rfl fun H0 fr w0 => ?_
  refine g_seq ?_
  refine g_region ?_
  refine go_p rfl rfl rfl (o_box rfl rfl) ?_
  refine go_p rfl rfl rfl (o_assign rfl) ?_
  refine go_nil ?_
  refine g_seq ?_
  refine g_region ?_
  refine go_p rfl rfl rfl (o_fieldAddr fi_60_2 rfl rfl rfl) ?_
  refine go_p rfl rfl rfl (o_load Tryz.isAgg4 rfl rfl) ?_
  refine go_p rfl rfl rfl (o_assign rfl) ?_
  refine go_nil ?_
  refine g_ret ?_
  exact retK (ret_one' rfl (ret_tmp rfl) (perm_drop _)) (congrArg (fun (p : Bool) => (.bool p : D)) (some_eq hm))
theorem fi_60_3 : FieldIs Tryz.prog 60 3 3 1 false := ⟨⟨_, _, Tryz.runUnderlying60, rfl, rfl, Tryz.sizeOf4, by decide, Tryz.isAgg4⟩⟩
def m_pair_Between_2 (s1 : AutoState) : Option Bool :=
  some s1.bool
theorem w_pair_Between_2 {s1 : AutoState} {r_1 : Bool} (hm : m_pair_Between_2 s1 = some r_1) : Fn0 Tryz.prog 44 [AutoState.d s1] (.bool r_1) := by
  unfold m_pair_Between_2 at hm
  refine fn_intro Tryz.func44 rfl Tryz.ntmps44 rfl fun H0 fr w0 => ?_
  refine g_seq ?_
  refine g_region ?_
  refine go_p rfl rfl rfl (o_box rfl rfl) ?_
  refine go_p rfl rfl rfl (o_assign rfl) ?_
  refine go_nil ?_
  refine g_seq ?_
  refine g_region ?_
  refine go_p rfl rfl rfl (o_fieldAddr fi_60_3 rfl rfl rfl) ?_
  refine go_p rfl rfl rfl (o_load Tryz.isAgg4 rfl rfl) ?_
  refine go_p rfl rfl rfl (o_assign rfl) ?_
  refine go_nil ?_
  refine g_ret ?_
  exact retK (ret_one' rfl (ret_tmp rfl) (perm_drop _)) (congrArg (fun (p : Bool) => (.bool p : D)) (some_eq hm))
theorem fi_60_4 : FieldIs Tryz.prog 60 4 4 1 false := ⟨⟨_, _, Tryz.runUnderlying60, rfl, rfl, Tryz.sizeOf4, by decide, Tryz.isAgg4⟩⟩
def m_pair_Between_3 (s1 : AutoState) : Option Bool :=
  some s1.str
theorem w_pair_Between_3 {s1 : AutoState} {r_1 : Bool} (hm : m_pair_Between_3 s1 = some r_1) : Fn0 Tryz.prog 45 [AutoState.d s1] (.bool r_1) := by
  unfold m_pair_Between_3 at hm
  refine fn_intro Tryz.func45 rfl Tryz.ntmps45 rfl fun H0 fr w0 => ?_
  refine g_seq ?_
  refine g_region ?_
  refine go_p rfl rfl rfl (o_box rfl rfl) ?_
  refine go_p rfl rfl rfl (o_assign rfl) ?_
  refine go_nil ?_
  refine g_seq ?_
  refine g_region ?_
  refine go_p rfl rfl rfl (o_fieldAddr fi_60_4 rfl rfl rfl) ?_
  refine go_p rfl rfl rfl (o_load Tryz.isAgg4 rfl rfl) ?_
  refine go_p rfl rfl rfl (o_assign rfl) ?_
  refine go_nil ?_
  refine g_ret ?_
  exact retK (ret_one' rfl (ret_tmp rfl) (perm_drop _)) (congrArg (fun (p : Bool) => (.bool p : D)) (some_eq hm))
def m_syntagmabase_Ints (l1 : (List Int)) : Option (List Int) :=
  grd ((0 + l1.length) * 8 ≤ 140737488355328) <|
  some ([] ++ l1)
theorem w_syntagmabase_Ints {l1 : (List Int)} {r_1 : (List Int)} (hm : m_syntagmabase_Ints l1 = some r_1) : Fn0 Tryz.prog 26 [.list 1 D.i64 l1] (.list 1 D.i64 r_1) := by
  unfold m_syntagmabase_Ints at hm
  refine fn_intro Tryz.func26 rfl Tryz.ntmps26 rfl fun H0 fr w0 => ?_
  refine g_seq ?_
  refine g_region ?_
  refine go_p rfl rfl rfl (o_assign rfl) ?_
  refine go_conv (nilE (i := 2) (sz := 1) (f := D.i64) rfl).refines ?_
  refine go_nil ?_
  refine g_seq ?_
  refine g_region ?_
  refine go_op rfl rfl rfl (o_buildSlice_row (xs := []) (f := D.i64) (l := []) Tryz.runUnderlying49 Tryz.sizeOf3 Tryz.zeroValue3 rfl rfl rfl (fun _ => ⟨rfl, rfl, rfl⟩) rfl (by simp [maxLen])) ?_
  rintro _ _ ⟨a_r1, rfl, rfl⟩
  refine go_p rfl rfl rfl (o_move rfl) ?_
  obtain ⟨hg1, hm⟩ := grd_some hm
  refine go_op rfl rfl rfl (o_append (a := _) 0 Tryz.underlying49 Tryz.type3 rfl rfl rfl rfl rfl rfl rfl (fun _ => rfl) (fun _ => rfl) hg1 (app_len hg1 rfl)) ?_
  rintro _ _ ⟨a_r1, cap_r1, rfl, rfl⟩
  refine go_ms (ms' := [_]) rfl ?_
  refine go_p rfl rfl rfl (o_assign rfl) ?_
  refine go_nil ?_
  refine g_conv (peekE (i := 2) 0 rfl rfl rfl).refines ?_
  refine g_ret ?_
  exact retK (ret_one' rfl (ret_tmp rfl) (perm_drop _)) (congrArg (fun (p : (List Int)) => (.list 1 D.i64 p : D)) (some_eq hm))
theorem fi_24_1 : FieldIs Tryz.prog 24 1 1 1 false := ⟨⟨_, _, Tryz.runUnderlying24, rfl, rfl, Tryz.sizeOf3, by decide, Tryz.isAgg3⟩⟩
theorem pl_27 : ∀ fs, (∀ w, (underlying 27).run Tryz.prog w = .ok (.struct fs) w) → placesOf Tryz.prog fs [(0, 1), (1, 1)] := by
  intro fs h w
  have := (h w).symm.trans (Tryz.runUnderlying27 w)
  simp only [Result.ok.injEq, TypeDesc.struct.injEq, and_true] at this
  subst this
  simp [Tryz.sizeOf25, Tryz.sizeOf3, Sem.run]
theorem fi_24_0 : FieldIs Tryz.prog 24 0 0 1 false := ⟨⟨_, _, Tryz.runUnderlying24, rfl, rfl, Tryz.sizeOf22, by decide, Tryz.isAgg22⟩⟩
theorem fi_52_0 : FieldIs Tryz.prog 52 0 0 1 false := ⟨⟨_, _, Tryz.runUnderlying52, rfl, rfl, Tryz.sizeOf4, by decide, Tryz.isAgg4⟩⟩
theorem fi_52_1 : FieldIs Tryz.prog 52 1 1 1 false := ⟨⟨_, _, Tryz.runUnderlying52, rfl, rfl, Tryz.sizeOf4, by decide, Tryz.isAgg4⟩⟩
theorem fi_52_2 : FieldIs Tryz.prog 52 2 2 1 false := ⟨⟨_, _, Tryz.runUnderlying52, rfl, rfl, Tryz.sizeOf4, by decide, Tryz.isAgg4⟩⟩
theorem fi_52_3 : FieldIs Tryz.prog 52 3 3 1 false := ⟨⟨_, _, Tryz.runUnderlying52, rfl, rfl, Tryz.sizeOf4, by decide, Tryz.isAgg4⟩⟩
theorem fi_52_4 : FieldIs Tryz.prog 52 4 4 1 false := ⟨⟨_, _, Tryz.runUnderlying52, rfl, rfl, Tryz.sizeOf4, by decide, Tryz.isAgg4⟩⟩
theorem fi_52_5 : FieldIs Tryz.prog 52 5 5 1 false := ⟨⟨_, _, Tryz.runUnderlying52, rfl, rfl, Tryz.sizeOf4, by decide, Tryz.isAgg4⟩⟩
theorem fi_52_6 : FieldIs Tryz.prog 52 6 6 1 false := ⟨⟨_, _, Tryz.runUnderlying52, rfl, rfl, Tryz.sizeOf4, by decide, Tryz.isAgg4⟩⟩
theorem fi_52_7 : FieldIs Tryz.prog 52 7 7 1 false := ⟨⟨_, _, Tryz.runUnderlying52, rfl, rfl, Tryz.sizeOf4, by decide, Tryz.isAgg4⟩⟩
theorem fi_52_9 : FieldIs Tryz.prog 52 9 9 1 false := ⟨⟨_, _, Tryz.runUnderlying52, rfl, rfl, Tryz.sizeOf3, by decide, Tryz.isAgg3⟩⟩
theorem fi_52_10 : FieldIs Tryz.prog 52 10 10 1 false := ⟨⟨_, _, Tryz.runUnderlying52, rfl, rfl, Tryz.sizeOf3, by decide, Tryz.isAgg3⟩⟩
theorem fi_52_8 : FieldIs Tryz.prog 52 8 8 1 false := ⟨⟨_, _, Tryz.runUnderlying52, rfl, rfl, Tryz.sizeOf49, by decide, Tryz.isAgg49⟩⟩
theorem pl_60 : ∀ fs, (∀ w, (underlying 60).run Tryz.prog w = .ok (.struct fs) w) → placesOf Tryz.prog fs [(0, 1), (1, 1), (2, 1), (3, 1), (4, 1), (5, 1), (6, 1), (7, 1), (8, 1), (9, 1), (10, 1), (11, 1), (12, 1)] := by
  intro fs h w
  have := (h w).symm.trans (Tryz.runUnderlying60 w)
  simp only [Result.ok.injEq, TypeDesc.struct.injEq, and_true] at this
  subst this
  simp [Tryz.sizeOf3, Tryz.sizeOf4, Tryz.sizeOf49, Tryz.sizeOf58, Sem.run]
theorem fi_52_11 : FieldIs Tryz.prog 52 11 11 1 false := ⟨⟨_, _, Tryz.runUnderlying52, rfl, rfl, Tryz.sizeOf50, by decide, Tryz.isAgg50⟩⟩
theorem fi_62_0 : FieldIs Tryz.prog 62 0 0 1 false := ⟨⟨_, _, Tryz.runUnderlying62, rfl, rfl, Tryz.sizeOf9, by decide, Tryz.isAgg9⟩⟩
theorem fi_62_1 : FieldIs Tryz.prog 62 1 1 1 false := ⟨⟨_, _, Tryz.runUnderlying62, rfl, rfl, Tryz.sizeOf3, by decide, Tryz.isAgg3⟩⟩
theorem pl_63 : ∀ fs, (∀ w, (underlying 63).run Tryz.prog w = .ok (.struct fs) w) → placesOf Tryz.prog fs [(0, 1), (1, 1)] := by
  intro fs h w
  have := (h w).symm.trans (Tryz.runUnderlying63 w)
  simp only [Result.ok.injEq, TypeDesc.struct.injEq, and_true] at this
  subst this
  simp [Tryz.sizeOf3, Tryz.sizeOf9, Sem.run]
theorem fi_52_12 : FieldIs Tryz.prog 52 12 12 1 false := ⟨⟨_, _, Tryz.runUnderlying52, rfl, rfl, Tryz.sizeOf50, by decide, Tryz.isAgg50⟩⟩
def m_syntagmalaw24_Give_l2 (x1 : AutoState) : Nat → (Int × (List AutoEdge) × (List AutoEdge) × Bool × Bool × Bool × Bool × Bool × Bool × Bool × Bool × (List Int) × Int × Int) → Option ((List AutoEdge) × (List AutoEdge) × Bool × Bool × Bool × Bool × Bool × Bool × Bool × Bool × (List Int) × Int × Int)
  | 0, _ => none
  | n + 1, (k1, l6, l7, z14, z15, z16, z17, z18, z19, z20, z21, z22, z23, z24) =>
    bif ((decide (k1 < (x1.fields.length : Int))) && (decide (k1 < 40))) then
      (idx x1.fields k1).bind fun x3 =>
      (idx x1.fields k1).bind fun x4 =>
      grd ((l7.length + ([(⟨x3.name, x4.to_⟩ : AutoEdge)] : List _).length) * 24 ≤ 140737488355328) <|
      grd (InR (k1 + 1)) <|
      m_syntagmalaw24_Give_l2 x1 n ((k1 + 1), l6, (l7 ++ [(⟨x3.name, x4.to_⟩ : AutoEdge)]), z14, z15, z16, z17, z18, z19, z20, z21, z22, z23, z24)
    else
      some (l6, l7, z14, z15, z16, z17, z18, z19, z20, z21, z22, z23, z24)
def m_syntagmalaw24_Give_l3 (x1 : AutoState) : Nat → (Int × (List AutoEdge) × (List AutoEdge) × Bool × Bool × Bool × Bool × Bool × Bool × Bool × Bool × (List Int) × Int × Int) → Option ((List AutoEdge) × (List AutoEdge) × Bool × Bool × Bool × Bool × Bool × Bool × Bool × Bool × (List Int) × Int × Int)
  | 0, _ => none
  | n + 1, (k2, l10, l11, z36, z37, z38, z39, z40, z41, z42, z43, z44, z45, z46) =>
    bif ((decide (k2 < (x1.tags.length : Int))) && (decide (k2 < 40))) then
      (idx x1.tags k2).bind fun x5 =>
      (idx x1.tags k2).bind fun x6 =>
      grd ((l10.length + ([(⟨x5.name, x6.to_⟩ : AutoEdge)] : List _).length) * 24 ≤ 140737488355328) <|
      grd (InR (k2 + 1)) <|
      m_syntagmalaw24_Give_l3 x1 n ((k2 + 1), (l10 ++ [(⟨x5.name, x6.to_⟩ : AutoEdge)]), l11, z36, z37, z38, z39, z40, z41, z42, z43, z44, z45, z46)
    else
      some (l10, l11, z36, z37, z38, z39, z40, z41, z42, z43, z44, z45, z46)
def m_syntagmalaw24_Give_l1 (a1 : AutoAuto) (most1 : Int) : Nat → (Int × (List AutoState) × Int) → Option ((List AutoState) × Int)
  | 0, _ => none
  | n + 1, (i1, l2, z2) =>
    bif ((decide (i1 < (a1.l.length : Int))) && ((decide (i1 < most1)) || ((decide (2000 < (a1.l.length : Int))) && (decide (i1 ≤ 2000))))) then
      (idx a1.l i1).bind fun x1 =>
      (sli x1.vars 0 (if 40 < (x1.vars.length : Int) then 40 else (x1.vars.length : Int))).bind fun l3 =>
      (m_syntagmabase_Ints l3).bind fun x2 =>
      (m_syntagmalaw24_Give_l2 x1 FU (0, ([] : List AutoEdge), ([] : List AutoEdge), x1.plus, x1.all, x1.int, x1.bool, x1.str, x1.arrow, x1.rec_, x1.tag, x2, x1.dom, x1.cod) : Option ((List AutoEdge) × (List AutoEdge) × Bool × Bool × Bool × Bool × Bool × Bool × Bool × Bool × (List Int) × Int × Int)).bind fun (l4, l5, z3, z4, z5, z6, z7, z8, z9, z10, z11, z12, z13) =>
      (m_syntagmalaw24_Give_l3 x1 FU (0, l4, l5, z3, z4, z5, z6, z7, z8, z9, z10, z11, z12, z13) : Option ((List AutoEdge) × (List AutoEdge) × Bool × Bool × Bool × Bool × Bool × Bool × Bool × Bool × (List Int) × Int × Int)).bind fun (l8, l9, z25, z26, z27, z28, z29, z30, z31, z32, z33, z34, z35) =>
      grd ((l2.length + ([(⟨z25, z26, z27, z28, z29, z30, z31, z32, z33, z34, z35, l9, l8⟩ : AutoState)] : List _).length) * 96 ≤ 140737488355328) <|
      grd (InR (i1 + 1)) <|
      m_syntagmalaw24_Give_l1 a1 most1 n ((i1 + 1), (l2 ++ [(⟨z25, z26, z27, z28, z29, z30, z31, z32, z33, z34, z35, l9, l8⟩ : AutoState)]), z2)
    else
      some (l2, z2)
def m_syntagmalaw24_Give (a1 : AutoAuto) (most1 : Int) : Option AutoAuto :=
  (m_syntagmalaw24_Give_l1 a1 most1 FU (0, ([] : List AutoState), a1.start) : Option ((List AutoState) × Int)).bind fun (l1, z1) =>
  some (⟨l1, z1⟩ : AutoAuto)
theorem w_syntagmalaw24_Give {a1 : AutoAuto} {most1 : Int} {r_1 : AutoAuto} (hm : m_syntagmalaw24_Give a1 most1 = some r_1) : Fn0 Tryz.prog 6 [AutoAuto.d a1, .i64 most1] (AutoAuto.d r_1) := by
  unfold m_syntagmalaw24_Give at hm
  refine fn_intro Tryz.func6 rfl Tryz.ntmps6 rfl fun H0 fr w0 => ?_
  refine g_seq ?_
  refine g_region ?_
  refine go_p rfl rfl rfl (o_box rfl rfl) ?_
  refine go_op rfl rfl rfl (o_alloc_own Tryz.zeroValue27 (cs := [.list 13 AutoState.d [], .i64 0]) rfl) ?_
  rintro _ _ ⟨b1, rfl, rfl⟩
  refine go_nil ?_
  refine g_seq ?_
  refine g_region ?_
  refine go_p rfl rfl rfl (o_fieldAddr fi_24_1 rfl rfl rfl) ?_
  refine go_p rfl rfl rfl (o_load Tryz.isAgg3 rfl rfl) ?_
  refine go_p rfl rfl rfl (o_build (zs := [.v (.slice none 0 0), .v (.int .i64 0)]) Tryz.runUnderlying27 Tryz.zeroValue27 (pl_27 _ Tryz.runUnderlying27) rfl rfl rfl rfl) ?_
  refine go_op rfl rfl rfl (o_alloc_own Tryz.zeroValue27 (cs := [.list 13 AutoState.d [], .i64 0]) rfl) ?_
  rintro _ _ ⟨b2, rfl, rfl⟩
  refine go_u rfl rfl (o_store_box 0 Tryz.sizeOf27 rfl rfl rfl rfl rfl rfl rfl rfl (Nat.le_of_ble_eq_true rfl)) ?_
  rintro _ _ rfl
  refine go_conv (refines_newrow (T := 60) (sz := 13) (f := AutoState.d)) ?_
  refine go_ms (ms' := [_, box b2 27 [_, _], box b1 27 [_, _]]) rfl ?_
  refine go_nil ?_
  refine g_seq ?_
  refine g_seq ?_
  refine g_region ?_
  refine go_p rfl rfl rfl (o_assign rfl) ?_
  refine go_nil ?_
  obtain ⟨o_1, hj1, hm1⟩ := bind_some hm
  refine g_cut_m [(4, _), (5, _)] [(2, _)] (fun (st : ((List AutoState) × Int)) (hid : (Option Addr × Nat)) => match st, hid with | (l1, z1), (a_r1, cap_r1) => []) (fun F (st : ((List AutoState) × Int)) (hid : (Option Addr × Nat)) => match st, hid with | (l1, z1), (a_r1, cap_r1) => [row a_r1 cap_r1 60 13 AutoState.d l1, box b2 27 [.v (.slice a_r1 l1.length cap_r1), .i64 z1], (nthF F 0)]) (fun st => st = o_1) ⟨rfl, rfl, trivial⟩ ⟨rfl, trivial⟩ ?_ ?_
  · skip
    refine g_block ?_
    refine g_loop_m [(1, _), (2, _), (4, _), (5, _)] [(2, _)] (fun (st : (Int × (List AutoState) × Int)) (hid : (Option Addr × Nat)) => match st, hid with | (i1, l2, z2), (a_r1, cap_r1) => [(6, .i64 i1)]) (fun F (st : (Int × (List AutoState) × Int)) (hid : (Option Addr × Nat)) => match st, hid with | (i1, l2, z2), (a_r1, cap_r1) => [row a_r1 cap_r1 60 13 AutoState.d l2, box b2 27 [.v (.slice a_r1 l2.length cap_r1), .i64 z2], (nthF F 0)]) (_, _) hj1 (fun _ => rfl) ⟨rfl, rfl, rfl, rfl, trivial⟩ ⟨rfl, trivial⟩ ⟨rfl, trivial⟩ rfl ?_
    rintro n ⟨i1, l2, z2⟩ ⟨a_r1, cap_r1⟩ hj1
    rw [m_syntagmalaw24_Give_l1] at hj1
    refine g_norm (L' := [(6, .i64 i1), (1, _), (2, _), (4, _), (5, _)]) (ms' := [row a_r1 cap_r1 60 13 AutoState.d l2, box b2 27 [.v (.slice a_r1 l2.length cap_r1), .i64 z2], _]) rfl rfl ?_
    refine g_seq ?_
    refine g_seq ?_
    refine g_region ?_
    refine go_p rfl rfl rfl (o_move rfl) ?_
    refine go_p rfl rfl rfl (o_fieldAddr fi_24_0 rfl rfl rfl) ?_
    refine go_p rfl rfl rfl (o_load Tryz.isAgg22 rfl rfl) ?_
    refine go_p rfl rfl rfl (o_len Tryz.runUnderlying22 rfl) ?_
    refine go_p rfl rfl rfl (o_cmp rfl rfl rfl) ?_
    refine go_p rfl rfl rfl (o_move rfl) ?_
    apply go_and [(1, _), (2, _), (4, _), (5, _), (6, _)] 14 33 (t := 19) ⟨rfl, rfl, rfl, rfl, rfl, trivial⟩ rfl
    · intro hg_1 hk1
      refine go_wantp rfl rfl rfl hg_1 rfl rfl (o_move rfl) ?_
      refine go_wantp rfl rfl rfl hg_1 rfl rfl (o_move rfl) ?_
      refine go_wantp rfl rfl rfl hg_1 rfl rfl (o_cmp rfl rfl rfl) ?_
      refine go_wantp rfl rfl rfl hg_1 rfl rfl (o_move rfl) ?_
      apply go_or [(1, _), (2, _), (4, _), (5, _), (6, _), (19, _)] 9 32 (t := 23) ⟨rfl, rfl, rfl, rfl, rfl, rfl, trivial⟩ rfl
      · intro hg_2 hk2
        refine go_wantp rfl rfl rfl hg_2 rfl rfl (o_fieldAddr fi_24_0 rfl rfl rfl) ?_
        refine go_wantp rfl rfl rfl hg_2 rfl rfl (o_load Tryz.isAgg22 rfl rfl) ?_
        refine go_wantp rfl rfl rfl hg_2 rfl rfl (o_len Tryz.runUnderlying22 rfl) ?_
        refine go_wantp rfl rfl rfl hg_2 rfl rfl (o_cmp rfl rfl rfl) ?_
        refine go_wantp rfl rfl rfl hg_2 rfl rfl (o_move rfl) ?_
        apply go_and [(1, _), (2, _), (4, _), (5, _), (6, _), (19, _), (23, _)] 3 31 (t := 28) ⟨rfl, rfl, rfl, rfl, rfl, rfl, rfl, trivial⟩ rfl
        · intro hg_3 hk3
          refine go_wantp rfl rfl rfl hg_3 rfl rfl (o_move rfl) ?_
          refine go_wantp rfl rfl rfl hg_3 rfl rfl (o_cmp rfl rfl rfl) ?_
          refine go_wantp rfl rfl rfl hg_2 rfl rfl (o_pickT rfl hg_3 rfl) ?_
          exact go_meet hk3 (rfl) ⟨rfl, rfl, rfl, rfl, rfl, rfl, rfl, trivial⟩
        · intro hg_3 hk3
          refine go_skip rfl rfl rfl hg_3 rfl rfl ?_
          refine go_skip rfl rfl rfl hg_3 rfl rfl ?_
          refine go_wantp rfl rfl rfl hg_2 rfl rfl (o_pickF rfl hg_3 rfl) ?_
          exact go_meet hk3 (rfl) ⟨rfl, rfl, rfl, rfl, rfl, rfl, rfl, trivial⟩
        refine go_wantp rfl rfl rfl hg_1 rfl rfl (o_pickF rfl hg_2 rfl) ?_
        exact go_meet hk2 (rfl) ⟨rfl, rfl, rfl, rfl, rfl, rfl, trivial⟩
      · intro hg_2 hk2
        refine go_skip rfl rfl rfl hg_2 rfl rfl ?_
        refine go_skip rfl rfl rfl hg_2 rfl rfl ?_
        refine go_skip rfl rfl rfl hg_2 rfl rfl ?_
        refine go_skip rfl rfl rfl hg_2 rfl rfl ?_
        refine go_skip rfl rfl rfl hg_2 rfl rfl ?_
        refine go_skipu rfl rfl rfl rfl rfl ?_
        refine go_skipu rfl rfl rfl rfl rfl ?_
        refine go_skip rfl rfl rfl hg_2 rfl rfl ?_
        refine go_wantp rfl rfl rfl hg_1 rfl rfl (o_pickT rfl hg_2 rfl) ?_
        exact go_meet hk2 (rfl) ⟨rfl, rfl, rfl, rfl, rfl, rfl, trivial⟩
      refine go_p rfl rfl rfl (o_pickT rfl hg_1 rfl) ?_
      exact go_meet hk1 (rfl) ⟨rfl, rfl, rfl, rfl, rfl, trivial⟩
    · intro hg_1 hk1
      refine go_skip rfl rfl rfl hg_1 rfl rfl ?_
      refine go_skip rfl rfl rfl hg_1 rfl rfl ?_
      refine go_skip rfl rfl rfl hg_1 rfl rfl ?_
      refine go_skip rfl rfl rfl hg_1 rfl rfl ?_
      refine go_skipu rfl rfl rfl rfl rfl ?_
      refine go_skipu rfl rfl rfl rfl rfl ?_
      refine go_skipu rfl rfl rfl rfl rfl ?_
      refine go_skipu rfl rfl rfl rfl rfl ?_
      refine go_skipu rfl rfl rfl rfl rfl ?_
      refine go_skipu rfl rfl rfl rfl rfl ?_
      refine go_skipu rfl rfl rfl rfl rfl ?_
      refine go_skipu rfl rfl rfl rfl rfl ?_
      refine go_skip rfl rfl rfl hg_1 rfl rfl ?_
      refine go_p rfl rfl rfl (o_pickF rfl hg_1 rfl) ?_
      exact go_meet hk1 (rfl) ⟨rfl, rfl, rfl, rfl, rfl, trivial⟩
    refine go_nil ?_
    refine g_cond rfl (fun hc1 => ?_) (fun hc1 => ?_)
    · replace hj1 := cond_t hc1 hj1
      refine g_skip ?_
      refine g_seq ?_
      refine g_block ?_
      refine g_seq ?_
      refine g_region ?_
      refine go_p rfl rfl rfl (o_fieldAddr fi_24_0 rfl rfl rfl) ?_
      refine go_p rfl rfl rfl (o_load Tryz.isAgg22 rfl rfl) ?_
      refine go_p rfl rfl rfl (o_move rfl) ?_
      obtain ⟨x1, hx1, hj1⟩ := bind_some hj1
      refine go_p rfl rfl rfl (o_indexAddr_m Tryz.runUnderlying22 Tryz.sizeOf52 rfl rfl hx1) ?_
      refine go_p rfl rfl rfl (o_load_agg Tryz.isAgg52 Tryz.sizeOf52 rfl rfl) ?_
      refine go_op rfl rfl rfl (o_alloc_own Tryz.zeroValue52 (cs := [.bool false, .bool false, .bool false, .bool false, .bool false, .bool false, .bool false, .bool false, .list 1 D.i64 [], .i64 0, .i64 0, .list 2 AutoEdge.d [], .list 2 AutoEdge.d []]) rfl) ?_
      rintro _ _ ⟨b3, rfl, rfl⟩
      refine go_u rfl rfl (o_store_box 0 Tryz.sizeOf52 rfl rfl rfl rfl rfl rfl rfl rfl (Nat.le_of_ble_eq_true rfl)) ?_
      rintro _ _ rfl
      refine go_ms (ms' := [box b3 52 [_, _, _, _, _, _, _, _, _, _, _, _, _], _, box b2 27 [_, _], box b1 27 [_, _]]) rfl ?_
      refine go_nil ?_
      refine g_seq ?_
      obtain ⟨l3, hx2, hj1⟩ := bind_some hj1
      obtain ⟨x2, hx3, hj1⟩ := bind_some hj1
      refine g_draw_f 30 [29] Tryz_mixed (by decide +kernel) (by decide +kernel) rfl (by decide +kernel) ?_
      refine gdf_p rfl rfl rfl rfl (o_fieldAddr_box fi_52_0 rfl) ?_
      refine gdf_p rfl rfl rfl rfl (o_load_box 0 Tryz.isAgg4 rfl rfl rfl rfl) ?_
      refine gdf_p rfl rfl rfl rfl (o_fieldAddr_box fi_52_1 rfl) ?_
      refine gdf_p rfl rfl rfl rfl (o_load_box 0 Tryz.isAgg4 rfl rfl rfl rfl) ?_
      refine gdf_p rfl rfl rfl rfl (o_fieldAddr_box fi_52_2 rfl) ?_
      refine gdf_p rfl rfl rfl rfl (o_load_box 0 Tryz.isAgg4 rfl rfl rfl rfl) ?_
      refine gdf_p rfl rfl rfl rfl (o_fieldAddr_box fi_52_3 rfl) ?_
      refine gdf_p rfl rfl rfl rfl (o_load_box 0 Tryz.isAgg4 rfl rfl rfl rfl) ?_
      refine gdf_p rfl rfl rfl rfl (o_fieldAddr_box fi_52_4 rfl) ?_
      refine gdf_p rfl rfl rfl rfl (o_load_box 0 Tryz.isAgg4 rfl rfl rfl rfl) ?_
      refine gdf_p rfl rfl rfl rfl (o_fieldAddr_box fi_52_5 rfl) ?_
      refine gdf_p rfl rfl rfl rfl (o_load_box 0 Tryz.isAgg4 rfl rfl rfl rfl) ?_
      refine gdf_p rfl rfl rfl rfl (o_fieldAddr_box fi_52_6 rfl) ?_
      refine gdf_p rfl rfl rfl rfl (o_load_box 0 Tryz.isAgg4 rfl rfl rfl rfl) ?_
      refine gdf_p rfl rfl rfl rfl (o_fieldAddr_box fi_52_7 rfl) ?_
      refine gdf_p rfl rfl rfl rfl (o_load_box 0 Tryz.isAgg4 rfl rfl rfl rfl) ?_
      refine gdf_p rfl rfl rfl rfl (o_fieldAddr_box fi_52_9 rfl) ?_
      refine gdf_p rfl rfl rfl rfl (o_load_box 0 Tryz.isAgg3 rfl rfl rfl rfl) ?_
      refine gdf_p rfl rfl rfl rfl (o_fieldAddr_box fi_52_10 rfl) ?_
      refine gdf_p rfl rfl rfl rfl (o_load_box 0 Tryz.isAgg3 rfl rfl rfl rfl) ?_
      refine gdf_p rfl rfl rfl rfl (o_fieldAddr_box fi_52_8 rfl) ?_
      refine gdf_p rfl rfl rfl rfl (o_load_box 0 Tryz.isAgg49 rfl rfl rfl rfl) ?_
      refine gdf_p rfl rfl rfl rfl (o_fieldAddr_box fi_52_8 rfl) ?_
      refine gdf_p rfl rfl rfl rfl (o_load_box 0 Tryz.isAgg49 rfl rfl rfl rfl) ?_
      refine gdf_p rfl rfl rfl rfl (o_len Tryz.runUnderlying49 rfl) ?_
      refine gdf_p rfl rfl rfl rfl (o_min rfl rfl) ?_
      refine gdf_p rfl rfl rfl rfl (o_slice_m Tryz.runUnderlying49 Tryz.sizeOf3 rfl rfl ⟨_, rfl⟩ hx2) ?_
      refine gdf_p rfl rfl rfl rfl (o_call0 Tryz.call26 rfl (w_syntagmabase_Ints hx3)) ?_
      refine gdf_p rfl rfl rfl rfl (o_build (zs := [.bool false, .bool false, .bool false, .bool false, .bool false, .bool false, .bool false, .bool false, .list 1 D.i64 [], .v (.int .i64 0), .v (.int .i64 0), .v (.slice none 0 0), .v (.slice none 0 0)]) Tryz.runUnderlying60 Tryz.zeroValue60 (pl_60 _ Tryz.runUnderlying60) rfl rfl rfl rfl) ?_
      refine gdf_fresh (R := fun d A => ∃ b, d = .v (.pointer (some ⟨b, 0, none⟩)) ∧ A = box b 60 [.bool false, .bool false, .bool false, .bool false, .bool false, .bool false, .bool false, .bool false, .list 1 D.i64 [], .i64 0, .i64 0, .list 2 AutoEdge.d [], .list 2 AutoEdge.d []]) rfl rfl rfl (OpT.mono (o_alloc_own Tryz.zeroValue60 (cs := [.bool false, .bool false, .bool false, .bool false, .bool false, .bool false, .bool false, .bool false, .list 1 D.i64 [], .i64 0, .i64 0, .list 2 AutoEdge.d [], .list 2 AutoEdge.d []]) rfl) (by rintro d ms' ⟨b, rfl, rfl⟩; exact ⟨_, ⟨b, rfl, rfl⟩, rfl⟩)) ?_
      refine gdf_nil ?_
      rintro _ _ ⟨b4, rfl, rfl⟩
      refine go_u rfl rfl (o_store_box 0 Tryz.sizeOf60 rfl rfl rfl rfl rfl rfl rfl rfl (Nat.le_of_ble_eq_true rfl)) ?_
      rintro _ _ rfl
      refine go_conv (refines_newrow (T := 63) (sz := 2) (f := AutoEdge.d)) ?_
      refine go_conv (refines_newrow (T := 63) (sz := 2) (f := AutoEdge.d)) ?_
      refine go_ms (ms' := [_, _, box b4 60 [_, _, _, _, _, _, _, _, _, _, _, _, _], box b3 52 [_, _, _, _, _, _, _, _, _, _, _, _, _], _, box b2 27 [_, _], box b1 27 [_, _]]) rfl ?_
      refine go_nil ?_
      refine g_seq ?_
      refine g_seq ?_
      refine g_region ?_
      refine go_p rfl rfl rfl (o_assign rfl) ?_
      refine go_nil ?_
      obtain ⟨o_2, hj2, hm2⟩ := bind_some hj1
      refine g_cut_m [(1, _), (2, _), (4, _), (5, _), (6, _), (7, _), (8, _)] [(3, _), (4, _), (5, _), (6, _)] (fun (st : ((List AutoEdge) × (List AutoEdge) × Bool × Bool × Bool × Bool × Bool × Bool × Bool × Bool × (List Int) × Int × Int)) (hid : (Option Addr × Nat) × (Option Addr × Nat)) => match st, hid with | (l4, l5, z3, z4, z5, z6, z7, z8, z9, z10, z11, z12, z13), ((a_r3, cap_r3), (a_r2, cap_r2)) => []) (fun F (st : ((List AutoEdge) × (List AutoEdge) × Bool × Bool × Bool × Bool × Bool × Bool × Bool × Bool × (List Int) × Int × Int)) (hid : (Option Addr × Nat) × (Option Addr × Nat)) => match st, hid with | (l4, l5, z3, z4, z5, z6, z7, z8, z9, z10, z11, z12, z13), ((a_r3, cap_r3), (a_r2, cap_r2)) => [row a_r3 cap_r3 63 2 AutoEdge.d l4, row a_r2 cap_r2 63 2 AutoEdge.d l5, box b4 60 [.bool z3, .bool z4, .bool z5, .bool z6, .bool z7, .bool z8, .bool z9, .bool z10, .list 1 D.i64 z11, .i64 z12, .i64 z13, .v (.slice a_r2 l5.length cap_r2), .v (.slice a_r3 l4.length cap_r3)], (nthF F 0), (nthF F 1), (nthF F 2), (nthF F 3)]) (fun st => st = o_2) ⟨rfl, rfl, rfl, rfl, rfl, rfl, rfl, trivial⟩ ⟨rfl, rfl, rfl, rfl, trivial⟩ ?_ ?_
      · skip
        refine g_block ?_
        refine g_loop_m [(1, _), (2, _), (4, _), (5, _), (6, _), (7, _), (8, _)] [(3, _), (4, _), (5, _), (6, _)] (fun (st : (Int × (List AutoEdge) × (List AutoEdge) × Bool × Bool × Bool × Bool × Bool × Bool × Bool × Bool × (List Int) × Int × Int)) (hid : (Option Addr × Nat) × (Option Addr × Nat)) => match st, hid with | (k1, l6, l7, z14, z15, z16, z17, z18, z19, z20, z21, z22, z23, z24), ((a_r3, cap_r3), (a_r2, cap_r2)) => [(9, .i64 k1)]) (fun F (st : (Int × (List AutoEdge) × (List AutoEdge) × Bool × Bool × Bool × Bool × Bool × Bool × Bool × Bool × (List Int) × Int × Int)) (hid : (Option Addr × Nat) × (Option Addr × Nat)) => match st, hid with | (k1, l6, l7, z14, z15, z16, z17, z18, z19, z20, z21, z22, z23, z24), ((a_r3, cap_r3), (a_r2, cap_r2)) => [row a_r3 cap_r3 63 2 AutoEdge.d l6, row a_r2 cap_r2 63 2 AutoEdge.d l7, box b4 60 [.bool z14, .bool z15, .bool z16, .bool z17, .bool z18, .bool z19, .bool z20, .bool z21, .list 1 D.i64 z22, .i64 z23, .i64 z24, .v (.slice a_r2 l7.length cap_r2), .v (.slice a_r3 l6.length cap_r3)], (nthF F 0), (nthF F 1), (nthF F 2), (nthF F 3)]) ((_, _), (_, _)) hj2 (fun _ => rfl) ⟨rfl, rfl, rfl, rfl, rfl, rfl, rfl, trivial⟩ ⟨rfl, rfl, rfl, rfl, trivial⟩ ⟨rfl, trivial⟩ rfl ?_
        rintro n ⟨k1, l6, l7, z14, z15, z16, z17, z18, z19, z20, z21, z22, z23, z24⟩ ⟨⟨a_r3, cap_r3⟩, ⟨a_r2, cap_r2⟩⟩ hj2
        rw [m_syntagmalaw24_Give_l2] at hj2
        refine g_norm (L' := [(9, .i64 k1), (1, _), (2, _), (4, _), (5, _), (6, _), (7, _), (8, _)]) (ms' := [row a_r3 cap_r3 63 2 AutoEdge.d l6, row a_r2 cap_r2 63 2 AutoEdge.d l7, box b4 60 [.bool z14, .bool z15, .bool z16, .bool z17, .bool z18, .bool z19, .bool z20, .bool z21, .list 1 D.i64 z22, .i64 z23, .i64 z24, .v (.slice a_r2 l7.length cap_r2), .v (.slice a_r3 l6.length cap_r3)], _, _, _, _]) rfl rfl ?_
        refine g_seq ?_
        refine g_seq ?_
        refine g_region ?_
        refine go_p rfl rfl rfl (o_move rfl) ?_
        refine go_p rfl rfl rfl (o_fieldAddr_box fi_52_11 rfl) ?_
        refine go_p rfl rfl rfl (o_load_box 3 Tryz.isAgg50 rfl rfl rfl rfl) ?_
        refine go_p rfl rfl rfl (o_len Tryz.runUnderlying50 rfl) ?_
        refine go_p rfl rfl rfl (o_cmp rfl rfl rfl) ?_
        refine go_p rfl rfl rfl (o_move rfl) ?_
        apply go_and [(1, _), (2, _), (4, _), (5, _), (6, _), (7, _), (8, _), (9, _)] 3 78 (t := 75) ⟨rfl, rfl, rfl, rfl, rfl, rfl, rfl, rfl, trivial⟩ rfl
        · intro hg_4 hk4
          refine go_wantp rfl rfl rfl hg_4 rfl rfl (o_move rfl) ?_
          refine go_wantp rfl rfl rfl hg_4 rfl rfl (o_cmp rfl rfl rfl) ?_
          refine go_p rfl rfl rfl (o_pickT rfl hg_4 rfl) ?_
          exact go_meet hk4 (rfl) ⟨rfl, rfl, rfl, rfl, rfl, rfl, rfl, rfl, trivial⟩
        · intro hg_4 hk4
          refine go_skip rfl rfl rfl hg_4 rfl rfl ?_
          refine go_skip rfl rfl rfl hg_4 rfl rfl ?_
          refine go_p rfl rfl rfl (o_pickF rfl hg_4 rfl) ?_
          exact go_meet hk4 (rfl) ⟨rfl, rfl, rfl, rfl, rfl, rfl, rfl, rfl, trivial⟩
        refine go_nil ?_
        refine g_cond rfl (fun hc2 => ?_) (fun hc2 => ?_)
        · replace hj2 := cond_t hc2 hj2
          refine g_skip ?_
          refine g_seq ?_
          refine g_block ?_
          obtain ⟨x3, hx4, hj2⟩ := bind_some hj2
          obtain ⟨x4, hx5, hj2⟩ := bind_some hj2
          refine g_draw 16 Tryz_mixed (by decide +kernel) ?_
          refine gd_p rfl rfl rfl (o_fieldAddr_box fi_60_11 rfl) ?_
          refine gd_p rfl rfl rfl (o_load_box 2 Tryz.isAgg58 rfl rfl rfl rfl) ?_
          refine gd_p rfl rfl rfl (o_fieldAddr_box fi_52_11 rfl) ?_
          refine gd_p rfl rfl rfl (o_load_box 3 Tryz.isAgg50 rfl rfl rfl rfl) ?_
          refine gd_p rfl rfl rfl (o_move rfl) ?_
          refine gd_p rfl rfl rfl (o_indexAddr_m Tryz.runUnderlying50 Tryz.sizeOf62 rfl rfl hx4) ?_
          refine gd_p rfl rfl rfl (o_fieldAddr fi_62_0 rfl rfl rfl) ?_
          refine gd_p rfl rfl rfl (o_load Tryz.isAgg9 rfl rfl) ?_
          refine gd_p rfl rfl rfl (o_fieldAddr_box fi_52_11 rfl) ?_
          refine gd_p rfl rfl rfl (o_load_box 3 Tryz.isAgg50 rfl rfl rfl rfl) ?_
          refine gd_p rfl rfl rfl (o_move rfl) ?_
          refine gd_p rfl rfl rfl (o_indexAddr_m Tryz.runUnderlying50 Tryz.sizeOf62 rfl rfl hx5) ?_
          refine gd_p rfl rfl rfl (o_fieldAddr fi_62_1 rfl rfl rfl) ?_
          refine gd_p rfl rfl rfl (o_load Tryz.isAgg3 rfl rfl) ?_
          refine gd_p rfl rfl rfl (o_build (zs := [.str [], .v (.int .i64 0)]) Tryz.runUnderlying63 Tryz.zeroValue63 (pl_63 _ Tryz.runUnderlying63) rfl rfl rfl rfl) ?_
          refine gd_p rfl rfl rfl (o_buildSlice (xs := [_]) (f := AutoEdge.d) (l := [(⟨x3.name, x4.to_⟩ : AutoEdge)]) Tryz.runUnderlying58 Tryz.sizeOf63 Tryz.zeroValue63 rfl rfl rfl (fun _ => ⟨rfl, rfl, rfl⟩) rfl) ?_
          refine gd_nil ?_
          obtain ⟨hg6, hj2⟩ := grd_some hj2
          refine go_op rfl rfl rfl (o_append (a := _) 1 Tryz.underlying58 Tryz.type63 rfl rfl rfl rfl rfl rfl rfl (fun _ => rfl) (fun _ => rfl) hg6 (app_len hg6 rfl)) ?_
          rintro _ _ ⟨a_r2, cap_r2, rfl, rfl⟩
          refine go_ms (ms' := [_, _, box b4 60 [_, _, _, _, _, _, _, _, _, _, _, _, _], box b3 52 [_, _, _, _, _, _, _, _, _, _, _, _, _], _, box b2 27 [_, _], box b1 27 [_, _]]) rfl ?_
          refine go_p rfl rfl rfl (o_fieldAddr_box fi_60_11 rfl) ?_
          refine go_u rfl rfl (o_store_box 2 Tryz.sizeOf58 rfl rfl rfl rfl rfl rfl rfl rfl (Nat.le_of_ble_eq_true rfl)) ?_
          rintro _ _ rfl
          refine go_ms (ms' := [_, _, box b4 60 [_, _, _, _, _, _, _, _, _, _, _, _, _], box b3 52 [_, _, _, _, _, _, _, _, _, _, _, _, _], _, box b2 27 [_, _], box b1 27 [_, _]]) rfl ?_
          refine go_nil ?_
          refine g_region ?_
          refine go_p rfl rfl rfl (o_move rfl) ?_
          obtain ⟨hg7, hj2⟩ := grd_some hj2
          refine go_p rfl rfl rfl (o_add rfl rfl (i64_id hg7)) ?_
          refine go_p rfl rfl rfl (o_assign rfl) ?_
          refine go_nil ?_
          exact ⟨_, ((_, _), (_, _)), hj2, ⟨rfl, trivial⟩, ⟨rfl, rfl, rfl, rfl, rfl, rfl, rfl, trivial⟩, [], rfl⟩
        · replace hj2 := cond_f hc2 hj2
          refine g_exit ?_
          exact ⟨_, ((_, _), (_, _)), some_eq hj2, trivial, ⟨rfl, rfl, rfl, rfl, rfl, rfl, rfl, trivial⟩, [], rfl⟩
      · rintro ⟨l4, l5, z3, z4, z5, z6, z7, z8, z9, z10, z11, z12, z13⟩ ⟨⟨a_r3, cap_r3⟩, ⟨a_r2, cap_r2⟩⟩ hst
        subst hst
        refine k_norm (L' := [(1, _), (2, _), (4, _), (5, _), (6, _), (7, _), (8, _)]) (ms' := [row a_r3 cap_r3 63 2 AutoEdge.d l4, row a_r2 cap_r2 63 2 AutoEdge.d l5, box b4 60 [.bool z3, .bool z4, .bool z5, .bool z6, .bool z7, .bool z8, .bool z9, .bool z10, .list 1 D.i64 z11, .i64 z12, .i64 z13, .v (.slice a_r2 l5.length cap_r2), .v (.slice a_r3 l4.length cap_r3)], _, _, _, _]) rfl rfl ?_
        refine g_seq ?_
        refine g_seq ?_
        refine g_region ?_
        refine go_p rfl rfl rfl (o_assign rfl) ?_
        refine go_nil ?_
        obtain ⟨o_3, hj3, hm3⟩ := bind_some hm2
        refine g_cut_m [(1, _), (2, _), (4, _), (5, _), (6, _), (8, _)] [(3, _), (4, _), (5, _), (6, _)] (fun (st : ((List AutoEdge) × (List AutoEdge) × Bool × Bool × Bool × Bool × Bool × Bool × Bool × Bool × (List Int) × Int × Int)) (hid : (Option Addr × Nat) × (Option Addr × Nat)) => match st, hid with | (l8, l9, z25, z26, z27, z28, z29, z30, z31, z32, z33, z34, z35), ((a_r3, cap_r3), (a_r2, cap_r2)) => []) (fun F (st : ((List AutoEdge) × (List AutoEdge) × Bool × Bool × Bool × Bool × Bool × Bool × Bool × Bool × (List Int) × Int × Int)) (hid : (Option Addr × Nat) × (Option Addr × Nat)) => match st, hid with | (l8, l9, z25, z26, z27, z28, z29, z30, z31, z32, z33, z34, z35), ((a_r3, cap_r3), (a_r2, cap_r2)) => [row a_r3 cap_r3 63 2 AutoEdge.d l8, row a_r2 cap_r2 63 2 AutoEdge.d l9, box b4 60 [.bool z25, .bool z26, .bool z27, .bool z28, .bool z29, .bool z30, .bool z31, .bool z32, .list 1 D.i64 z33, .i64 z34, .i64 z35, .v (.slice a_r2 l9.length cap_r2), .v (.slice a_r3 l8.length cap_r3)], (nthF F 0), (nthF F 1), (nthF F 2), (nthF F 3)]) (fun st => st = o_3) ⟨rfl, rfl, rfl, rfl, rfl, rfl, trivial⟩ ⟨rfl, rfl, rfl, rfl, trivial⟩ ?_ ?_
        · skip
          refine g_block ?_
          refine g_loop_m [(1, _), (2, _), (4, _), (5, _), (6, _), (7, _), (8, _)] [(3, _), (4, _), (5, _), (6, _)] (fun (st : (Int × (List AutoEdge) × (List AutoEdge) × Bool × Bool × Bool × Bool × Bool × Bool × Bool × Bool × (List Int) × Int × Int)) (hid : (Option Addr × Nat) × (Option Addr × Nat)) => match st, hid with | (k2, l10, l11, z36, z37, z38, z39, z40, z41, z42, z43, z44, z45, z46), ((a_r3, cap_r3), (a_r2, cap_r2)) => [(10, .i64 k2)]) (fun F (st : (Int × (List AutoEdge) × (List AutoEdge) × Bool × Bool × Bool × Bool × Bool × Bool × Bool × Bool × (List Int) × Int × Int)) (hid : (Option Addr × Nat) × (Option Addr × Nat)) => match st, hid with | (k2, l10, l11, z36, z37, z38, z39, z40, z41, z42, z43, z44, z45, z46), ((a_r3, cap_r3), (a_r2, cap_r2)) => [row a_r3 cap_r3 63 2 AutoEdge.d l10, row a_r2 cap_r2 63 2 AutoEdge.d l11, box b4 60 [.bool z36, .bool z37, .bool z38, .bool z39, .bool z40, .bool z41, .bool z42, .bool z43, .list 1 D.i64 z44, .i64 z45, .i64 z46, .v (.slice a_r2 l11.length cap_r2), .v (.slice a_r3 l10.length cap_r3)], (nthF F 0), (nthF F 1), (nthF F 2), (nthF F 3)]) ((_, _), (_, _)) hj3 (fun _ => rfl) ⟨rfl, rfl, rfl, rfl, rfl, rfl, rfl, trivial⟩ ⟨rfl, rfl, rfl, rfl, trivial⟩ ⟨rfl, trivial⟩ rfl ?_
          rintro n ⟨k2, l10, l11, z36, z37, z38, z39, z40, z41, z42, z43, z44, z45, z46⟩ ⟨⟨a_r3, cap_r3⟩, ⟨a_r2, cap_r2⟩⟩ hj3
          rw [m_syntagmalaw24_Give_l3] at hj3
          refine g_norm (L' := [(10, .i64 k2), (1, _), (2, _), (4, _), (5, _), (6, _), (7, _), (8, _)]) (ms' := [row a_r3 cap_r3 63 2 AutoEdge.d l10, row a_r2 cap_r2 63 2 AutoEdge.d l11, box b4 60 [.bool z36, .bool z37, .bool z38, .bool z39, .bool z40, .bool z41, .bool z42, .bool z43, .list 1 D.i64 z44, .i64 z45, .i64 z46, .v (.slice a_r2 l11.length cap_r2), .v (.slice a_r3 l10.length cap_r3)], _, _, _, _]) rfl rfl ?_
          refine g_seq ?_
          refine g_seq ?_
          refine g_region ?_
          refine go_p rfl rfl rfl (o_move rfl) ?_
          refine go_p rfl rfl rfl (o_fieldAddr_box fi_52_12 rfl) ?_
          refine go_p rfl rfl rfl (o_load_box 3 Tryz.isAgg50 rfl rfl rfl rfl) ?_
          refine go_p rfl rfl rfl (o_len Tryz.runUnderlying50 rfl) ?_
          refine go_p rfl rfl rfl (o_cmp rfl rfl rfl) ?_
          refine go_p rfl rfl rfl (o_move rfl) ?_
          apply go_and [(1, _), (2, _), (4, _), (5, _), (6, _), (7, _), (8, _), (10, _)] 3 107 (t := 104) ⟨rfl, rfl, rfl, rfl, rfl, rfl, rfl, rfl, trivial⟩ rfl
          · intro hg_5 hk5
            refine go_wantp rfl rfl rfl hg_5 rfl rfl (o_move rfl) ?_
            refine go_wantp rfl rfl rfl hg_5 rfl rfl (o_cmp rfl rfl rfl) ?_
            refine go_p rfl rfl rfl (o_pickT rfl hg_5 rfl) ?_
            exact go_meet hk5 (rfl) ⟨rfl, rfl, rfl, rfl, rfl, rfl, rfl, rfl, trivial⟩
          · intro hg_5 hk5
            refine go_skip rfl rfl rfl hg_5 rfl rfl ?_
            refine go_skip rfl rfl rfl hg_5 rfl rfl ?_
            refine go_p rfl rfl rfl (o_pickF rfl hg_5 rfl) ?_
            exact go_meet hk5 (rfl) ⟨rfl, rfl, rfl, rfl, rfl, rfl, rfl, rfl, trivial⟩
          refine go_nil ?_
          refine g_cond rfl (fun hc3 => ?_) (fun hc3 => ?_)
          · replace hj3 := cond_t hc3 hj3
            refine g_skip ?_
            refine g_seq ?_
            refine g_block ?_
            obtain ⟨x5, hx8, hj3⟩ := bind_some hj3
            obtain ⟨x6, hx9, hj3⟩ := bind_some hj3
            refine g_draw 16 Tryz_mixed (by decide +kernel) ?_
            refine gd_p rfl rfl rfl (o_fieldAddr_box fi_60_12 rfl) ?_
            refine gd_p rfl rfl rfl (o_load_box 2 Tryz.isAgg58 rfl rfl rfl rfl) ?_
            refine gd_p rfl rfl rfl (o_fieldAddr_box fi_52_12 rfl) ?_
            refine gd_p rfl rfl rfl (o_load_box 3 Tryz.isAgg50 rfl rfl rfl rfl) ?_
            refine gd_p rfl rfl rfl (o_move rfl) ?_
            refine gd_p rfl rfl rfl (o_indexAddr_m Tryz.runUnderlying50 Tryz.sizeOf62 rfl rfl hx8) ?_
            refine gd_p rfl rfl rfl (o_fieldAddr fi_62_0 rfl rfl rfl) ?_
            refine gd_p rfl rfl rfl (o_load Tryz.isAgg9 rfl rfl) ?_
            refine gd_p rfl rfl rfl (o_fieldAddr_box fi_52_12 rfl) ?_
            refine gd_p rfl rfl rfl (o_load_box 3 Tryz.isAgg50 rfl rfl rfl rfl) ?_
            refine gd_p rfl rfl rfl (o_move rfl) ?_
            refine gd_p rfl rfl rfl (o_indexAddr_m Tryz.runUnderlying50 Tryz.sizeOf62 rfl rfl hx9) ?_
            refine gd_p rfl rfl rfl (o_fieldAddr fi_62_1 rfl rfl rfl) ?_
            refine gd_p rfl rfl rfl (o_load Tryz.isAgg3 rfl rfl) ?_
            refine gd_p rfl rfl rfl (o_build (zs := [.str [], .v (.int .i64 0)]) Tryz.runUnderlying63 Tryz.zeroValue63 (pl_63 _ Tryz.runUnderlying63) rfl rfl rfl rfl) ?_
            refine gd_p rfl rfl rfl (o_buildSlice (xs := [_]) (f := AutoEdge.d) (l := [(⟨x5.name, x6.to_⟩ : AutoEdge)]) Tryz.runUnderlying58 Tryz.sizeOf63 Tryz.zeroValue63 rfl rfl rfl (fun _ => ⟨rfl, rfl, rfl⟩) rfl) ?_
            refine gd_nil ?_
            obtain ⟨hg10, hj3⟩ := grd_some hj3
            refine go_op rfl rfl rfl (o_append (a := _) 0 Tryz.underlying58 Tryz.type63 rfl rfl rfl rfl rfl rfl rfl (fun _ => rfl) (fun _ => rfl) hg10 (app_len hg10 rfl)) ?_
            rintro _ _ ⟨a_r3, cap_r3, rfl, rfl⟩
            refine go_ms (ms' := [_, _, box b4 60 [_, _, _, _, _, _, _, _, _, _, _, _, _], box b3 52 [_, _, _, _, _, _, _, _, _, _, _, _, _], _, box b2 27 [_, _], box b1 27 [_, _]]) rfl ?_
            refine go_p rfl rfl rfl (o_fieldAddr_box fi_60_12 rfl) ?_
            refine go_u rfl rfl (o_store_box 2 Tryz.sizeOf58 rfl rfl rfl rfl rfl rfl rfl rfl (Nat.le_of_ble_eq_true rfl)) ?_
            rintro _ _ rfl
            refine go_ms (ms' := [_, _, box b4 60 [_, _, _, _, _, _, _, _, _, _, _, _, _], box b3 52 [_, _, _, _, _, _, _, _, _, _, _, _, _], _, box b2 27 [_, _], box b1 27 [_, _]]) rfl ?_
            refine go_nil ?_
            refine g_region ?_
            refine go_p rfl rfl rfl (o_move rfl) ?_
            obtain ⟨hg11, hj3⟩ := grd_some hj3
            refine go_p rfl rfl rfl (o_add rfl rfl (i64_id hg11)) ?_
            refine go_p rfl rfl rfl (o_assign rfl) ?_
            refine go_nil ?_
            exact ⟨_, ((_, _), (_, _)), hj3, ⟨rfl, trivial⟩, ⟨rfl, rfl, rfl, rfl, rfl, rfl, rfl, trivial⟩, [], rfl⟩
          · replace hj3 := cond_f hc3 hj3
            refine g_exit ?_
            exact ⟨_, ((_, _), (_, _)), some_eq hj3, trivial, ⟨rfl, rfl, rfl, rfl, rfl, rfl, trivial⟩, [], rfl⟩
        · rintro ⟨l8, l9, z25, z26, z27, z28, z29, z30, z31, z32, z33, z34, z35⟩ ⟨⟨a_r3, cap_r3⟩, ⟨a_r2, cap_r2⟩⟩ hst
          subst hst
          refine k_norm (L' := [(1, _), (2, _), (4, _), (5, _), (6, _), (8, _)]) (ms' := [row a_r3 cap_r3 63 2 AutoEdge.d l8, row a_r2 cap_r2 63 2 AutoEdge.d l9, box b4 60 [.bool z25, .bool z26, .bool z27, .bool z28, .bool z29, .bool z30, .bool z31, .bool z32, .list 1 D.i64 z33, .i64 z34, .i64 z35, .v (.slice a_r2 l9.length cap_r2), .v (.slice a_r3 l8.length cap_r3)], _, _, _, _]) rfl rfl ?_
          refine g_region ?_
          refine go_p rfl rfl rfl (o_fieldAddr_box fi_27_0 rfl) ?_
          refine go_p rfl rfl rfl (o_load_box 5 Tryz.isAgg25 rfl rfl rfl rfl) ?_
          refine go_p rfl rfl rfl (o_load_box_agg 2 Tryz.isAgg60 Tryz.sizeOf60 rfl rfl rfl rfl (Nat.le_of_ble_eq_true rfl)) ?_
          refine go_conv (peekAggE (i := 130) (q := 11) 1 rfl rfl rfl rfl rfl).refines ?_
          refine go_conv (peekAggE (i := 130) (q := 12) 0 rfl rfl rfl rfl rfl).refines ?_
          refine go_p rfl rfl rfl (o_buildSlice (xs := [_]) (f := AutoState.d) (l := [(⟨z25, z26, z27, z28, z29, z30, z31, z32, z33, z34, z35, l9, l8⟩ : AutoState)]) Tryz.runUnderlying25 Tryz.sizeOf60 Tryz.zeroValue60 rfl rfl rfl (fun _ => ⟨rfl, rfl, rfl⟩) rfl) ?_
          obtain ⟨hg12, hm3⟩ := grd_some hm3
          refine go_op rfl rfl rfl (o_append (a := _) 4 Tryz.underlying25 Tryz.type60 rfl rfl rfl rfl rfl rfl rfl (fun _ => rfl) (fun _ => rfl) hg12 (app_len hg12 rfl)) ?_
          rintro _ _ ⟨a_r1, cap_r1, rfl, rfl⟩
          refine go_ms (ms' := [_, _, box b4 60 [_, _, _, _, _, _, _, _, _, _, _, _, _], box b3 52 [_, _, _, _, _, _, _, _, _, _, _, _, _], _, box b2 27 [_, _], box b1 27 [_, _]]) rfl ?_
          refine go_p rfl rfl rfl (o_fieldAddr_box fi_27_0 rfl) ?_
          refine go_u rfl rfl (o_store_box 5 Tryz.sizeOf25 rfl rfl rfl rfl rfl rfl rfl rfl (Nat.le_of_ble_eq_true rfl)) ?_
          rintro _ _ rfl
          refine go_ms (ms' := [_, _, box b4 60 [_, _, _, _, _, _, _, _, _, _, _, _, _], box b3 52 [_, _, _, _, _, _, _, _, _, _, _, _, _], _, box b2 27 [_, _], box b1 27 [_, _]]) rfl ?_
          refine go_nil ?_
          refine g_region ?_
          refine go_p rfl rfl rfl (o_move rfl) ?_
          obtain ⟨hg13, hm3⟩ := grd_some hm3
          refine go_p rfl rfl rfl (o_add rfl rfl (i64_id hg13)) ?_
          refine go_p rfl rfl rfl (o_assign rfl) ?_
          refine go_nil ?_
          exact ⟨_, (_, _), hm3, ⟨rfl, trivial⟩, ⟨rfl, rfl, rfl, rfl, trivial⟩, [_, _, _, _], rfl⟩
    · replace hj1 := cond_f hc1 hj1
      refine g_exit ?_
      exact ⟨_, (_, _), some_eq hj1, trivial, ⟨rfl, rfl, trivial⟩, [], rfl⟩
  · rintro ⟨l1, z1⟩ ⟨a_r1, cap_r1⟩ hst
    subst hst
    refine k_norm (L' := [(4, _), (5, _)]) (ms' := [row a_r1 cap_r1 60 13 AutoState.d l1, box b2 27 [.v (.slice a_r1 l1.length cap_r1), .i64 z1], _]) rfl rfl ?_
    refine g_seq ?_
    refine g_region ?_
    refine go_p rfl rfl rfl (o_load_box_agg 1 Tryz.isAgg27 Tryz.sizeOf27 rfl rfl rfl rfl (Nat.le_of_ble_eq_true rfl)) ?_
    refine go_conv (peekAggE (i := 134) (q := 0) 0 rfl rfl rfl rfl rfl).refines ?_
    refine go_u rfl rfl (o_store_box 2 Tryz.sizeOf27 rfl rfl rfl rfl rfl rfl rfl rfl (Nat.le_of_ble_eq_true rfl)) ?_
    rintro _ _ rfl
    refine go_ms (ms' := [_, box b2 27 [_, _], box b1 27 [_, _]]) rfl ?_
    refine go_nil ?_
    refine g_ret ?_
    exact retK (ret_one' rfl (ret_cell 2 rfl rfl rfl Tryz.isAgg27 Tryz.sizeOf27 rfl) (perm_drop _)) (congrArg (fun (p : AutoAuto) => (AutoAuto.d p : D)) (some_eq hm1))
def m_slices_IndexFunc_auto_State_auto_State_l1 (s1 : (List AutoState)) (f1 : (AutoState → Option Bool)) : Nat → Int → Option (Out Int Unit)
  | 0, _ => none
  | n + 1, x1 =>
    bif (decide (x1 < (s1.length : Int))) then
      (idx s1 x1).bind fun x2 =>
      (f1 x2).bind fun x3 =>
      bif x3 then
        some (Out.ret x1)
      else
        grd (InR (x1 + 1)) <|
        m_slices_IndexFunc_auto_State_auto_State_l1 s1 f1 n (x1 + 1)
    else
      some (Out.go (()))
def m_slices_IndexFunc_auto_State_auto_State (s1 : (List AutoState)) (f1 : (AutoState → Option Bool)) : Option Int :=
  ((m_slices_IndexFunc_auto_State_auto_State_l1 s1 f1 FU 0 : Option (Out Int Unit))).bind (fun oo => oo.on (fun r1 => some r1) (fun _ =>
  some (-1)))
theorem w_slices_IndexFunc_auto_State_auto_State {s1 : (List AutoState)} {f1 : (AutoState → Option Bool)} {r_1 : Int} {fv_f1 : D} (hff1 : FunOk1 Tryz.prog fv_f1 AutoState.d D.bool f1) (hm : m_slices_IndexFunc_auto_State_auto_State s1 f1 = some r_1) : Fn0 Tryz.prog 97 [.list 13 AutoState.d s1, fv_f1] (.i64 r_1) := by
  unfold m_slices_IndexFunc_auto_State_auto_State at hm
  refine fn_intro Tryz.func97 rfl Tryz.ntmps97 rfl fun H0 fr w0 => ?_
  refine g_seq ?_
  refine g_region ?_
  refine go_p rfl rfl rfl (o_assign rfl) ?_
  refine go_nil ?_
  refine g_seq ?_
  refine g_seq ?_
  refine g_region ?_
  refine go_p rfl rfl rfl (o_move rfl) ?_
  refine go_p rfl rfl rfl (o_len Tryz.runUnderlying25 rfl) ?_
  refine go_p rfl rfl rfl (o_move rfl) ?_
  refine go_nil ?_
  obtain ⟨o_1, hj1, hm1⟩ := bind_some hm
  refine g_cut_m [] [] (fun (st : Unit) (hid : Unit) => match st, hid with | _, _ => []) (fun F (st : Unit) (hid : Unit) => match st, hid with | _, _ => []) (fun st => Out.go (st) = o_1) trivial trivial ?_ ?_
  · skip
    refine g_block ?_
    refine g_loop_m [(0, _), (1, _), (7, _)] [] (fun (st : Int) (hid : Unit) => match st, hid with | x1, _ => [(8, .i64 x1)]) (fun F (st : Int) (hid : Unit) => match st, hid with | x1, _ => []) () hj1 (fun _ => rfl) ⟨rfl, rfl, rfl, trivial⟩ trivial ⟨rfl, trivial⟩ rfl ?_
    rintro n x1 _ hj1
    rw [m_slices_IndexFunc_auto_State_auto_State_l1] at hj1
    refine g_norm (L' := [(8, .i64 x1), (0, _), (1, _), (7, _)]) (ms' := []) rfl rfl ?_
    refine g_seq ?_
    refine g_region ?_
    refine go_p rfl rfl rfl (o_cmp rfl rfl rfl) ?_
    refine go_nil ?_
    refine g_seq ?_
    refine g_cond rfl (fun hc1 => ?_) (fun hc1 => ?_)
    · replace hj1 := cond_t hc1 hj1
      refine g_skip ?_
      refine g_seq ?_
      refine g_block ?_
      refine g_seq ?_
      refine g_region ?_
      refine go_p rfl rfl rfl (o_move rfl) ?_
      refine go_p rfl rfl rfl (o_assign rfl) ?_
      refine go_nil ?_
      refine g_seq ?_
      refine g_region ?_
      refine go_p rfl rfl rfl (o_move rfl) ?_
      refine go_p rfl rfl rfl (o_move rfl) ?_
      refine go_p rfl rfl rfl (o_move rfl) ?_
      obtain ⟨x2, hx1, hj1⟩ := bind_some hj1
      refine go_p rfl rfl rfl (o_indexAddr_m Tryz.runUnderlying25 Tryz.sizeOf60 rfl rfl hx1) ?_
      refine go_p rfl rfl rfl (o_load_agg Tryz.isAgg60 Tryz.sizeOf60 rfl rfl) ?_
      obtain ⟨x3, hx2, hj1⟩ := bind_some hj1
      refine go_p rfl rfl rfl (o_callv0 rfl rfl (hff1 _ _ hx2)) ?_
      refine go_nil ?_
      refine g_cond rfl (fun hc2 => ?_) (fun hc2 => ?_)
      · replace hj1 := cond_t hc2 hj1
        refine g_seq ?_
        refine g_region ?_
        refine go_p rfl rfl rfl (o_move rfl) ?_
        refine go_p rfl rfl rfl (o_assign rfl) ?_
        refine go_nil ?_
        refine g_ret ?_
        obtain rfl := some_eq hj1
        replace hm1 := on_ret hm1
        exact retK (ret_one' rfl (ret_tmp rfl) (perm_drop _)) (congrArg (fun (p : Int) => (.i64 p : D)) (some_eq hm1))
      · replace hj1 := cond_f hc2 hj1
        refine g_skip ?_
        refine g_region ?_
        obtain ⟨hg3, hj1⟩ := grd_some hj1
        refine go_p rfl rfl rfl (o_add rfl rfl (i64_id hg3)) ?_
        refine go_p rfl rfl rfl (o_move rfl) ?_
        refine go_nil ?_
        exact ⟨_, (), hj1, ⟨rfl, trivial⟩, ⟨rfl, rfl, rfl, trivial⟩, [], rfl⟩
    · replace hj1 := cond_f hc1 hj1
      refine g_exit ?_
      exact ⟨_, (), some_eq hj1, trivial, trivial, [], rfl⟩
  · rintro _ _ hst
    subst hst
    replace hm1 := on_go hm1
    refine k_norm (L' := []) (ms' := []) rfl rfl ?_
    refine g_seq ?_
    refine g_region ?_
    refine go_p rfl rfl rfl (o_assign rfl) ?_
    refine go_nil ?_
    refine g_ret ?_
    exact retK (ret_one' rfl (ret_tmp rfl) (perm_drop _)) (congrArg (fun (p : Int) => (.i64 p : D)) (some_eq hm1))
def m_slices_ContainsFunc_auto_State_auto_State (s1 : (List AutoState)) (f1 : (AutoState → Option Bool)) : Option Bool :=
  (m_slices_IndexFunc_auto_State_auto_State s1 f1).bind fun x1 =>
  some (decide (0 ≤ x1))
theorem w_slices_ContainsFunc_auto_State_auto_State {s1 : (List AutoState)} {f1 : (AutoState → Option Bool)} {r_1 : Bool} {fv_f1 : D} (hff1 : FunOk1 Tryz.prog fv_f1 AutoState.d D.bool f1) (hm : m_slices_ContainsFunc_auto_State_auto_State s1 f1 = some r_1) : Fn0 Tryz.prog 72 [.list 13 AutoState.d s1, fv_f1] (.bool r_1) := by
  unfold m_slices_ContainsFunc_auto_State_auto_State at hm
  refine fn_intro Tryz.func72 rfl Tryz.ntmps72 rfl fun H0 fr w0 => ?_
  refine g_seq ?_
  refine g_region ?_
  refine go_p rfl rfl rfl (o_assign rfl) ?_
  refine go_nil ?_
  refine g_seq ?_
  refine g_region ?_
  refine go_p rfl rfl rfl (o_move rfl) ?_
  refine go_p rfl rfl rfl (o_move rfl) ?_
  obtain ⟨x1, hx1, hm⟩ := bind_some hm
  refine go_p rfl rfl rfl (o_call0 Tryz.call97 rfl (w_slices_IndexFunc_auto_State_auto_State hff1 hx1)) ?_
  refine go_p rfl rfl rfl (o_cmp rfl rfl rfl) ?_
  refine go_p rfl rfl rfl (o_assign rfl) ?_
  refine go_nil ?_
  refine g_ret ?_
  exact retK (ret_one' rfl (ret_tmp rfl) (perm_drop _)) (congrArg (fun (p : Bool) => (.bool p : D)) (some_eq hm))
theorem fi_60_0 : FieldIs Tryz.prog 60 0 0 1 false := ⟨⟨_, _, Tryz.runUnderlying60, rfl, rfl, Tryz.sizeOf4, by decide, Tryz.isAgg4⟩⟩
def m_auto_Auto_on (a1 : AutoAuto) (k1 : Int) (plus1 : Bool) : Option Bool :=
  (bif ((decide (0 ≤ k1)) && (decide (k1 < (a1.l.length : Int)))) then ((idx a1.l k1).bind fun x1 =>
  some (x1.plus == plus1)) else (some false)).bind fun p1 =>
  some p1
theorem w_auto_Auto_on {a1 : AutoAuto} {k1 : Int} {plus1 : Bool} {r_1 : Bool} (hm : m_auto_Auto_on a1 k1 plus1 = some r_1) : Fn0 Tryz.prog 83 [AutoAuto.d a1, .i64 k1, .bool plus1] (.bool r_1) := by
  unfold m_auto_Auto_on at hm
  refine fn_intro Tryz.func83 rfl Tryz.ntmps83 rfl fun H0 fr w0 => ?_
  refine g_seq ?_
  refine g_region ?_
  refine go_p rfl rfl rfl (o_box rfl rfl) ?_
  refine go_p rfl rfl rfl (o_assign rfl) ?_
  refine go_nil ?_
  refine g_seq ?_
  refine g_region ?_
  refine go_p rfl rfl rfl (o_move rfl) ?_
  refine go_p rfl rfl rfl (o_cmp rfl rfl rfl) ?_
  refine go_p rfl rfl rfl (o_move rfl) ?_
  apply go_and [(1, _), (2, _), (3, _)] 6 15 (t := 9) ⟨rfl, rfl, rfl, trivial⟩ rfl
  · intro hg_1 hk1
    refine go_wantp rfl rfl rfl hg_1 rfl rfl (o_move rfl) ?_
    refine go_wantp rfl rfl rfl hg_1 rfl rfl (o_fieldAddr fi_27_0 rfl rfl rfl) ?_
    refine go_wantp rfl rfl rfl hg_1 rfl rfl (o_load Tryz.isAgg25 rfl rfl) ?_
    refine go_wantp rfl rfl rfl hg_1 rfl rfl (o_len Tryz.runUnderlying25 rfl) ?_
    refine go_wantp rfl rfl rfl hg_1 rfl rfl (o_cmp rfl rfl rfl) ?_
    refine go_p rfl rfl rfl (o_pickT rfl hg_1 rfl) ?_
    exact go_meet hk1 (rfl) ⟨rfl, rfl, rfl, trivial⟩
  · intro hg_1 hk1
    refine go_skip rfl rfl rfl hg_1 rfl rfl ?_
    refine go_skip rfl rfl rfl hg_1 rfl rfl ?_
    refine go_skip rfl rfl rfl hg_1 rfl rfl ?_
    refine go_skip rfl rfl rfl hg_1 rfl rfl ?_
    refine go_skip rfl rfl rfl hg_1 rfl rfl ?_
    refine go_p rfl rfl rfl (o_pickF rfl hg_1 rfl) ?_
    exact go_meet hk1 (rfl) ⟨rfl, rfl, rfl, trivial⟩
  refine go_p rfl rfl rfl (o_move rfl) ?_
  obtain ⟨p1, hp_2, hm⟩ := bind_some hm
  refine go_two [] 9 25 p1 (t := 16) trivial rfl (fun hg_2 hk2 => ?_) (fun hg_2 hk2 => ?_) ?_
  · replace hp_2 := cond_t hg_2 hp_2
    refine go_wantp rfl rfl rfl hg_2 rfl rfl (o_fieldAddr fi_27_0 rfl rfl rfl) ?_
    refine go_wantp rfl rfl rfl hg_2 rfl rfl (o_load Tryz.isAgg25 rfl rfl) ?_
    refine go_wantp rfl rfl rfl hg_2 rfl rfl (o_move rfl) ?_
    obtain ⟨x1, hx1, hp_2⟩ := bind_some hp_2
    refine go_wantp rfl rfl rfl hg_2 rfl rfl (o_indexAddr_m Tryz.runUnderlying25 Tryz.sizeOf60 rfl rfl hx1) ?_
    refine go_wantp rfl rfl rfl hg_2 rfl rfl (o_fieldAddr fi_60_0 rfl rfl rfl) ?_
    refine go_wantp rfl rfl rfl hg_2 rfl rfl (o_load Tryz.isAgg4 rfl rfl) ?_
    refine go_wantp rfl rfl rfl hg_2 rfl rfl (o_move rfl) ?_
    refine go_wantp rfl rfl rfl hg_2 rfl rfl (o_cmpb Tryz.runUnderlying4 rfl rfl) ?_
    refine go_p rfl rfl rfl (o_pickT rfl hg_2 rfl) ?_
    exact go_meet hk2 (congrArg (fun b => some (D.bool b)) (some_eq hp_2)) trivial
  · replace hp_2 := cond_f hg_2 hp_2
    refine go_skip rfl rfl rfl hg_2 rfl rfl ?_
    refine go_skip rfl rfl rfl hg_2 rfl rfl ?_
    refine go_skip rfl rfl rfl hg_2 rfl rfl ?_
    refine go_skip rfl rfl rfl hg_2 rfl rfl ?_
    refine go_skip rfl rfl rfl hg_2 rfl rfl ?_
    refine go_skip rfl rfl rfl hg_2 rfl rfl ?_
    refine go_skip rfl rfl rfl hg_2 rfl rfl ?_
    refine go_skip rfl rfl rfl hg_2 rfl rfl ?_
    refine go_p rfl rfl rfl (o_pickF rfl hg_2 rfl) ?_
    exact go_meet hk2 (congrArg (fun b => some (D.bool b)) (some_eq hp_2)) trivial
  refine go_p rfl rfl rfl (o_assign rfl) ?_
  refine go_nil ?_
  refine g_ret ?_
  exact retK (ret_one' rfl (ret_tmp rfl) (perm_drop _)) (congrArg (fun (p : Bool) => (.bool p : D)) (some_eq hm))
theorem fi_60_1 : FieldIs Tryz.prog 60 1 1 1 false := ⟨⟨_, _, Tryz.runUnderlying60, rfl, rfl, Tryz.sizeOf4, by decide, Tryz.isAgg4⟩⟩
theorem fi_60_6 : FieldIs Tryz.prog 60 6 6 1 false := ⟨⟨_, _, Tryz.runUnderlying60, rfl, rfl, Tryz.sizeOf4, by decide, Tryz.isAgg4⟩⟩
theorem fi_60_7 : FieldIs Tryz.prog 60 7 7 1 false := ⟨⟨_, _, Tryz.runUnderlying60, rfl, rfl, Tryz.sizeOf4, by decide, Tryz.isAgg4⟩⟩
theorem fi_60_8 : FieldIs Tryz.prog 60 8 8 1 false := ⟨⟨_, _, Tryz.runUnderlying60, rfl, rfl, Tryz.sizeOf49, by decide, Tryz.isAgg49⟩⟩
def m_auto_bare (s1 : AutoState) : Option Bool :=
  bif (s1.all && ((((((s1.int || s1.bool) || s1.str) || s1.arrow) || s1.rec_) || s1.tag) || (decide (0 < (s1.vars.length : Int))))) then
    some false
  else
    bif ((!s1.arrow) && ((!decide (s1.dom = 0)) || (!decide (s1.cod = 0)))) then
      some false
    else
      some ((s1.rec_ || (decide ((s1.fields.length : Int) = 0))) && (s1.tag || (decide ((s1.tags.length : Int) = 0))))
theorem w_auto_bare {s1 : AutoState} {r_1 : Bool} (hm : m_auto_bare s1 = some r_1) : Fn0 Tryz.prog 112 [AutoState.d s1] (.bool r_1) := by
  unfold m_auto_bare at hm
  refine fn_intro Tryz.func112 rfl Tryz.ntmps112 rfl fun H0 fr w0 => ?_
  refine g_seq ?_
  refine g_region ?_
  refine go_p rfl rfl rfl (o_box rfl rfl) ?_
  refine go_p rfl rfl rfl (o_assign rfl) ?_
  refine go_nil ?_
  refine g_seq ?_
  refine g_block ?_
  refine g_seq ?_
  refine g_region ?_
  refine go_p rfl rfl rfl (o_fieldAddr fi_60_1 rfl rfl rfl) ?_
  refine go_p rfl rfl rfl (o_load Tryz.isAgg4 rfl rfl) ?_
  refine go_p rfl rfl rfl (o_move rfl) ?_
  apply go_and [(1, _)] 29 35 (t := 6) ⟨rfl, trivial⟩ rfl
  · intro hg_1 hk1
    refine go_wantp rfl rfl rfl hg_1 rfl rfl (o_fieldAddr fi_60_2 rfl rfl rfl) ?_
    refine go_wantp rfl rfl rfl hg_1 rfl rfl (o_load Tryz.isAgg4 rfl rfl) ?_
    refine go_wantp rfl rfl rfl hg_1 rfl rfl (o_move rfl) ?_
    apply go_or [(1, _), (6, _)] 3 12 (t := 9) ⟨rfl, rfl, trivial⟩ rfl
    · intro hg_2 hk2
      refine go_wantp rfl rfl rfl hg_2 rfl rfl (o_fieldAddr fi_60_3 rfl rfl rfl) ?_
      refine go_wantp rfl rfl rfl hg_2 rfl rfl (o_load Tryz.isAgg4 rfl rfl) ?_
      refine go_wantp rfl rfl rfl hg_1 rfl rfl (o_pickF rfl hg_2 rfl) ?_
      exact go_meet hk2 (rfl) ⟨rfl, rfl, trivial⟩
    · intro hg_2 hk2
      refine go_skip rfl rfl rfl hg_2 rfl rfl ?_
      refine go_skip rfl rfl rfl hg_2 rfl rfl ?_
      refine go_wantp rfl rfl rfl hg_1 rfl rfl (o_pickT rfl hg_2 rfl) ?_
      exact go_meet hk2 (rfl) ⟨rfl, rfl, trivial⟩
    refine go_wantp rfl rfl rfl hg_1 rfl rfl (o_move rfl) ?_
    apply go_or [(1, _), (6, _)] 3 16 (t := 13) ⟨rfl, rfl, trivial⟩ rfl
    · intro hg_3 hk3
      refine go_wantp rfl rfl rfl hg_3 rfl rfl (o_fieldAddr fi_60_4 rfl rfl rfl) ?_
      refine go_wantp rfl rfl rfl hg_3 rfl rfl (o_load Tryz.isAgg4 rfl rfl) ?_
      refine go_wantp rfl rfl rfl hg_1 rfl rfl (o_pickF rfl hg_3 rfl) ?_
      exact go_meet hk3 (rfl) ⟨rfl, rfl, trivial⟩
    · intro hg_3 hk3
      refine go_skip rfl rfl rfl hg_3 rfl rfl ?_
      refine go_skip rfl rfl rfl hg_3 rfl rfl ?_
      refine go_wantp rfl rfl rfl hg_1 rfl rfl (o_pickT rfl hg_3 rfl) ?_
      exact go_meet hk3 (rfl) ⟨rfl, rfl, trivial⟩
    refine go_wantp rfl rfl rfl hg_1 rfl rfl (o_move rfl) ?_
    apply go_or [(1, _), (6, _)] 3 20 (t := 17) ⟨rfl, rfl, trivial⟩ rfl
    · intro hg_4 hk4
      refine go_wantp rfl rfl rfl hg_4 rfl rfl (o_fieldAddr fi_60_5 rfl rfl rfl) ?_
      refine go_wantp rfl rfl rfl hg_4 rfl rfl (o_load Tryz.isAgg4 rfl rfl) ?_
      refine go_wantp rfl rfl rfl hg_1 rfl rfl (o_pickF rfl hg_4 rfl) ?_
      exact go_meet hk4 (rfl) ⟨rfl, rfl, trivial⟩
    · intro hg_4 hk4
      refine go_skip rfl rfl rfl hg_4 rfl rfl ?_
      refine go_skip rfl rfl rfl hg_4 rfl rfl ?_
      refine go_wantp rfl rfl rfl hg_1 rfl rfl (o_pickT rfl hg_4 rfl) ?_
      exact go_meet hk4 (rfl) ⟨rfl, rfl, trivial⟩
    refine go_wantp rfl rfl rfl hg_1 rfl rfl (o_move rfl) ?_
    apply go_or [(1, _), (6, _)] 3 24 (t := 21) ⟨rfl, rfl, trivial⟩ rfl
    · intro hg_5 hk5
      refine go_wantp rfl rfl rfl hg_5 rfl rfl (o_fieldAddr fi_60_6 rfl rfl rfl) ?_
      refine go_wantp rfl rfl rfl hg_5 rfl rfl (o_load Tryz.isAgg4 rfl rfl) ?_
      refine go_wantp rfl rfl rfl hg_1 rfl rfl (o_pickF rfl hg_5 rfl) ?_
      exact go_meet hk5 (rfl) ⟨rfl, rfl, trivial⟩
    · intro hg_5 hk5
      refine go_skip rfl rfl rfl hg_5 rfl rfl ?_
      refine go_skip rfl rfl rfl hg_5 rfl rfl ?_
      refine go_wantp rfl rfl rfl hg_1 rfl rfl (o_pickT rfl hg_5 rfl) ?_
      exact go_meet hk5 (rfl) ⟨rfl, rfl, trivial⟩
    refine go_wantp rfl rfl rfl hg_1 rfl rfl (o_move rfl) ?_
    apply go_or [(1, _), (6, _)] 3 28 (t := 25) ⟨rfl, rfl, trivial⟩ rfl
    · intro hg_6 hk6
      refine go_wantp rfl rfl rfl hg_6 rfl rfl (o_fieldAddr fi_60_7 rfl rfl rfl) ?_
      refine go_wantp rfl rfl rfl hg_6 rfl rfl (o_load Tryz.isAgg4 rfl rfl) ?_
      refine go_wantp rfl rfl rfl hg_1 rfl rfl (o_pickF rfl hg_6 rfl) ?_
      exact go_meet hk6 (rfl) ⟨rfl, rfl, trivial⟩
    · intro hg_6 hk6
      refine go_skip rfl rfl rfl hg_6 rfl rfl ?_
      refine go_skip rfl rfl rfl hg_6 rfl rfl ?_
      refine go_wantp rfl rfl rfl hg_1 rfl rfl (o_pickT rfl hg_6 rfl) ?_
      exact go_meet hk6 (rfl) ⟨rfl, rfl, trivial⟩
    refine go_wantp rfl rfl rfl hg_1 rfl rfl (o_move rfl) ?_
    apply go_or [(1, _), (6, _)] 5 34 (t := 29) ⟨rfl, rfl, trivial⟩ rfl
    · intro hg_7 hk7
      refine go_wantp rfl rfl rfl hg_7 rfl rfl (o_fieldAddr fi_60_8 rfl rfl rfl) ?_
      refine go_wantp rfl rfl rfl hg_7 rfl rfl (o_load Tryz.isAgg49 rfl rfl) ?_
      refine go_wantp rfl rfl rfl hg_7 rfl rfl (o_len Tryz.runUnderlying49 rfl) ?_
      refine go_wantp rfl rfl rfl hg_7 rfl rfl (o_cmp rfl rfl rfl) ?_
      refine go_wantp rfl rfl rfl hg_1 rfl rfl (o_pickF rfl hg_7 rfl) ?_
      exact go_meet hk7 (rfl) ⟨rfl, rfl, trivial⟩
    · intro hg_7 hk7
      refine go_skip rfl rfl rfl hg_7 rfl rfl ?_
      refine go_skip rfl rfl rfl hg_7 rfl rfl ?_
      refine go_skip rfl rfl rfl hg_7 rfl rfl ?_
      refine go_skip rfl rfl rfl hg_7 rfl rfl ?_
      refine go_wantp rfl rfl rfl hg_1 rfl rfl (o_pickT rfl hg_7 rfl) ?_
      exact go_meet hk7 (rfl) ⟨rfl, rfl, trivial⟩
    refine go_p rfl rfl rfl (o_pickT rfl hg_1 rfl) ?_
    exact go_meet hk1 (rfl) ⟨rfl, trivial⟩
  · intro hg_1 hk1
    refine go_skip rfl rfl rfl hg_1 rfl rfl ?_
    refine go_skip rfl rfl rfl hg_1 rfl rfl ?_
    refine go_skip rfl rfl rfl hg_1 rfl rfl ?_
    refine go_skipu rfl rfl rfl rfl rfl ?_
    refine go_skipu rfl rfl rfl rfl rfl ?_
    refine go_skip rfl rfl rfl hg_1 rfl rfl ?_
    refine go_skip rfl rfl rfl hg_1 rfl rfl ?_
    refine go_skipu rfl rfl rfl rfl rfl ?_
    refine go_skipu rfl rfl rfl rfl rfl ?_
    refine go_skip rfl rfl rfl hg_1 rfl rfl ?_
    refine go_skip rfl rfl rfl hg_1 rfl rfl ?_
    refine go_skipu rfl rfl rfl rfl rfl ?_
    refine go_skipu rfl rfl rfl rfl rfl ?_
    refine go_skip rfl rfl rfl hg_1 rfl rfl ?_
    refine go_skip rfl rfl rfl hg_1 rfl rfl ?_
    refine go_skipu rfl rfl rfl rfl rfl ?_
    refine go_skipu rfl rfl rfl rfl rfl ?_
    refine go_skip rfl rfl rfl hg_1 rfl rfl ?_
    refine go_skip rfl rfl rfl hg_1 rfl rfl ?_
    refine go_skipu rfl rfl rfl rfl rfl ?_
    refine go_skipu rfl rfl rfl rfl rfl ?_
    refine go_skip rfl rfl rfl hg_1 rfl rfl ?_
    refine go_skip rfl rfl rfl hg_1 rfl rfl ?_
    refine go_skipu rfl rfl rfl rfl rfl ?_
    refine go_skipu rfl rfl rfl rfl rfl ?_
    refine go_skipu rfl rfl rfl rfl rfl ?_
    refine go_skipu rfl rfl rfl rfl rfl ?_
    refine go_skip rfl rfl rfl hg_1 rfl rfl ?_
    refine go_p rfl rfl rfl (o_pickF rfl hg_1 rfl) ?_
    exact go_meet hk1 (rfl) ⟨rfl, trivial⟩
  refine go_p rfl rfl rfl (o_assign rfl) ?_
  refine go_nil ?_
  refine g_cond rfl (fun hc1 => ?_) (fun hc1 => ?_)
  · replace hm := cond_t hc1 hm
    refine g_seq ?_
    refine g_region ?_
    refine go_p rfl rfl rfl (o_assign rfl) ?_
    refine go_nil ?_
    refine g_ret ?_
    exact retK (ret_one' rfl (ret_tmp rfl) (perm_drop _)) (congrArg (fun (p : Bool) => (.bool p : D)) (some_eq hm))
  · replace hm := cond_f hc1 hm
    refine g_seq ?_
    refine g_region ?_
    refine go_p rfl rfl rfl (o_fieldAddr fi_60_5 rfl rfl rfl) ?_
    refine go_p rfl rfl rfl (o_load Tryz.isAgg4 rfl rfl) ?_
    refine go_p rfl rfl rfl (o_not rfl) ?_
    refine go_p rfl rfl rfl (o_move rfl) ?_
    apply go_and [(1, _)] 9 49 (t := 40) ⟨rfl, trivial⟩ rfl
    · intro hg_8 hk8
      refine go_wantp rfl rfl rfl hg_8 rfl rfl (o_fieldAddr fi_60_9 rfl rfl rfl) ?_
      refine go_wantp rfl rfl rfl hg_8 rfl rfl (o_load Tryz.isAgg3 rfl rfl) ?_
      refine go_wantp rfl rfl rfl hg_8 rfl rfl (o_cmp rfl rfl rfl) ?_
      refine go_wantp rfl rfl rfl hg_8 rfl rfl (o_move rfl) ?_
      apply go_or [(1, _), (40, _)] 4 48 (t := 44) ⟨rfl, rfl, trivial⟩ rfl
      · intro hg_9 hk9
        refine go_wantp rfl rfl rfl hg_9 rfl rfl (o_fieldAddr fi_60_10 rfl rfl rfl) ?_
        refine go_wantp rfl rfl rfl hg_9 rfl rfl (o_load Tryz.isAgg3 rfl rfl) ?_
        refine go_wantp rfl rfl rfl hg_9 rfl rfl (o_cmp rfl rfl rfl) ?_
        refine go_wantp rfl rfl rfl hg_8 rfl rfl (o_pickF rfl hg_9 rfl) ?_
        exact go_meet hk9 (rfl) ⟨rfl, rfl, trivial⟩
      · intro hg_9 hk9
        refine go_skip rfl rfl rfl hg_9 rfl rfl ?_
        refine go_skip rfl rfl rfl hg_9 rfl rfl ?_
        refine go_skip rfl rfl rfl hg_9 rfl rfl ?_
        refine go_wantp rfl rfl rfl hg_8 rfl rfl (o_pickT rfl hg_9 rfl) ?_
        exact go_meet hk9 (rfl) ⟨rfl, rfl, trivial⟩
      refine go_p rfl rfl rfl (o_pickT rfl hg_8 rfl) ?_
      exact go_meet hk8 (rfl) ⟨rfl, trivial⟩
    · intro hg_8 hk8
      refine go_skip rfl rfl rfl hg_8 rfl rfl ?_
      refine go_skip rfl rfl rfl hg_8 rfl rfl ?_
      refine go_skip rfl rfl rfl hg_8 rfl rfl ?_
      refine go_skip rfl rfl rfl hg_8 rfl rfl ?_
      refine go_skipu rfl rfl rfl rfl rfl ?_
      refine go_skipu rfl rfl rfl rfl rfl ?_
      refine go_skipu rfl rfl rfl rfl rfl ?_
      refine go_skip rfl rfl rfl hg_8 rfl rfl ?_
      refine go_p rfl rfl rfl (o_pickF rfl hg_8 rfl) ?_
      exact go_meet hk8 (rfl) ⟨rfl, trivial⟩
    refine go_p rfl rfl rfl (o_assign rfl) ?_
    refine go_nil ?_
    refine g_cond rfl (fun hc2 => ?_) (fun hc2 => ?_)
    · replace hm := cond_t hc2 hm
      refine g_seq ?_
      refine g_region ?_
      refine go_p rfl rfl rfl (o_assign rfl) ?_
      refine go_nil ?_
      refine g_ret ?_
      exact retK (ret_one' rfl (ret_tmp rfl) (perm_drop _)) (congrArg (fun (p : Bool) => (.bool p : D)) (some_eq hm))
    · replace hm := cond_f hc2 hm
      refine g_skip ?_
      refine g_seq ?_
      refine g_region ?_
      refine go_p rfl rfl rfl (o_fieldAddr fi_60_6 rfl rfl rfl) ?_
      refine go_p rfl rfl rfl (o_load Tryz.isAgg4 rfl rfl) ?_
      refine go_p rfl rfl rfl (o_move rfl) ?_
      apply go_or [(1, _)] 5 57 (t := 52) ⟨rfl, trivial⟩ rfl
      · intro hg_10 hk10
        refine go_wantp rfl rfl rfl hg_10 rfl rfl (o_fieldAddr fi_60_11 rfl rfl rfl) ?_
        refine go_wantp rfl rfl rfl hg_10 rfl rfl (o_load Tryz.isAgg58 rfl rfl) ?_
        refine go_wantp rfl rfl rfl hg_10 rfl rfl (o_len Tryz.runUnderlying58 rfl) ?_
        refine go_wantp rfl rfl rfl hg_10 rfl rfl (o_cmp rfl rfl rfl) ?_
        refine go_p rfl rfl rfl (o_pickF rfl hg_10 rfl) ?_
        exact go_meet hk10 (rfl) ⟨rfl, trivial⟩
      · intro hg_10 hk10
        refine go_skip rfl rfl rfl hg_10 rfl rfl ?_
        refine go_skip rfl rfl rfl hg_10 rfl rfl ?_
        refine go_skip rfl rfl rfl hg_10 rfl rfl ?_
        refine go_skip rfl rfl rfl hg_10 rfl rfl ?_
        refine go_p rfl rfl rfl (o_pickT rfl hg_10 rfl) ?_
        exact go_meet hk10 (rfl) ⟨rfl, trivial⟩
      refine go_p rfl rfl rfl (o_move rfl) ?_
      apply go_and [] 9 67 (t := 58) trivial rfl
      · intro hg_11 hk11
        refine go_wantp rfl rfl rfl hg_11 rfl rfl (o_fieldAddr fi_60_7 rfl rfl rfl) ?_
        refine go_wantp rfl rfl rfl hg_11 rfl rfl (o_load Tryz.isAgg4 rfl rfl) ?_
        refine go_wantp rfl rfl rfl hg_11 rfl rfl (o_move rfl) ?_
        apply go_or [(58, _)] 5 66 (t := 61) ⟨rfl, trivial⟩ rfl
        · intro hg_12 hk12
          refine go_wantp rfl rfl rfl hg_12 rfl rfl (o_fieldAddr fi_60_12 rfl rfl rfl) ?_
          refine go_wantp rfl rfl rfl hg_12 rfl rfl (o_load Tryz.isAgg58 rfl rfl) ?_
          refine go_wantp rfl rfl rfl hg_12 rfl rfl (o_len Tryz.runUnderlying58 rfl) ?_
          refine go_wantp rfl rfl rfl hg_12 rfl rfl (o_cmp rfl rfl rfl) ?_
          refine go_wantp rfl rfl rfl hg_11 rfl rfl (o_pickF rfl hg_12 rfl) ?_
          exact go_meet hk12 (rfl) ⟨rfl, trivial⟩
        · intro hg_12 hk12
          refine go_skip rfl rfl rfl hg_12 rfl rfl ?_
          refine go_skip rfl rfl rfl hg_12 rfl rfl ?_
          refine go_skip rfl rfl rfl hg_12 rfl rfl ?_
          refine go_skip rfl rfl rfl hg_12 rfl rfl ?_
          refine go_wantp rfl rfl rfl hg_11 rfl rfl (o_pickT rfl hg_12 rfl) ?_
          exact go_meet hk12 (rfl) ⟨rfl, trivial⟩
        refine go_p rfl rfl rfl (o_pickT rfl hg_11 rfl) ?_
        exact go_meet hk11 (rfl) trivial
      · intro hg_11 hk11
        refine go_skip rfl rfl rfl hg_11 rfl rfl ?_
        refine go_skip rfl rfl rfl hg_11 rfl rfl ?_
        refine go_skip rfl rfl rfl hg_11 rfl rfl ?_
        refine go_skipu rfl rfl rfl rfl rfl ?_
        refine go_skipu rfl rfl rfl rfl rfl ?_
        refine go_skipu rfl rfl rfl rfl rfl ?_
        refine go_skipu rfl rfl rfl rfl rfl ?_
        refine go_skip rfl rfl rfl hg_11 rfl rfl ?_
        refine go_p rfl rfl rfl (o_pickF rfl hg_11 rfl) ?_
        exact go_meet hk11 (rfl) trivial
      refine go_p rfl rfl rfl (o_assign rfl) ?_
      refine go_nil ?_
      refine g_ret ?_
      exact retK (ret_one' rfl (ret_tmp rfl) (perm_drop _)) (congrArg (fun (p : Bool) => (.bool p : D)) (some_eq hm))
def m_auto_numbered_l1 (l1 : (List Int)) : Nat → Int → Option (Out Bool Unit)
  | 0, _ => none
  | n + 1, x1 =>
    bif (decide (x1 < (l1.length : Int))) then
      (idx l1 x1).bind fun x2 =>
      (bif ((decide (x2 < 0)) || (decide (999 < x2))) then (some true) else ((bif (decide (0 < x1)) then (grd (InR (x1 - 1)) <|
      (idx l1 (x1 - 1)).bind fun x3 =>
      some (decide (x2 ≤ x3))) else (some false)).bind fun p2 =>
      some p2)).bind fun p1 =>
      bif p1 then
        some (Out.ret false)
      else
        grd (InR (x1 + 1)) <|
        m_auto_numbered_l1 l1 n (x1 + 1)
    else
      some (Out.go (()))
def m_auto_numbered (l1 : (List Int)) : Option Bool :=
  ((m_auto_numbered_l1 l1 FU 0 : Option (Out Bool Unit))).bind (fun oo => oo.on (fun r1 => some r1) (fun _ =>
  some true))
theorem w_auto_numbered {l1 : (List Int)} {r_1 : Bool} (hm : m_auto_numbered l1 = some r_1) : Fn0 Tryz.prog 113 [.list 1 D.i64 l1] (.bool r_1) := by
  unfold m_auto_numbered at hm
  refine fn_intro Tryz.func113 rfl Tryz.ntmps113 rfl fun H0 fr w0 => ?_
  refine g_seq ?_
  refine g_region ?_
  refine go_p rfl rfl rfl (o_assign rfl) ?_
  refine go_nil ?_
  refine g_seq ?_
  refine g_seq ?_
  refine g_region ?_
  refine go_p rfl rfl rfl (o_move rfl) ?_
  refine go_p rfl rfl rfl (o_len Tryz.runUnderlying49 rfl) ?_
  refine go_p rfl rfl rfl (o_move rfl) ?_
  refine go_nil ?_
  obtain ⟨o_1, hj1, hm1⟩ := bind_some hm
  refine g_cut_m [] [] (fun (st : Unit) (hid : Unit) => match st, hid with | _, _ => []) (fun F (st : Unit) (hid : Unit) => match st, hid with | _, _ => []) (fun st => Out.go (st) = o_1) trivial trivial ?_ ?_
  · skip
    refine g_block ?_
    refine g_loop_m [(0, _), (5, _), (6, _)] [] (fun (st : Int) (hid : Unit) => match st, hid with | x1, _ => [(7, .i64 x1)]) (fun F (st : Int) (hid : Unit) => match st, hid with | x1, _ => []) () hj1 (fun _ => rfl) ⟨rfl, rfl, rfl, trivial⟩ trivial ⟨rfl, trivial⟩ rfl ?_
    rintro n x1 _ hj1
    rw [m_auto_numbered_l1] at hj1
    refine g_norm (L' := [(7, .i64 x1), (0, _), (5, _), (6, _)]) (ms' := []) rfl rfl ?_
    refine g_seq ?_
    refine g_region ?_
    refine go_p rfl rfl rfl (o_cmp rfl rfl rfl) ?_
    refine go_nil ?_
    refine g_seq ?_
    refine g_cond rfl (fun hc1 => ?_) (fun hc1 => ?_)
    · replace hj1 := cond_t hc1 hj1
      refine g_skip ?_
      refine g_seq ?_
      refine g_block ?_
      refine g_seq ?_
      refine g_region ?_
      refine go_p rfl rfl rfl (o_move rfl) ?_
      obtain ⟨x2, hx1, hj1⟩ := bind_some hj1
      refine go_p rfl rfl rfl (o_indexAddr_m Tryz.runUnderlying49 Tryz.sizeOf3 rfl rfl hx1) ?_
      refine go_p rfl rfl rfl (o_load Tryz.isAgg3 rfl rfl) ?_
      refine go_p rfl rfl rfl (o_assign rfl) ?_
      refine go_p rfl rfl rfl (o_assign rfl) ?_
      refine go_nil ?_
      refine g_seq ?_
      refine g_region ?_
      refine go_p rfl rfl rfl (o_move rfl) ?_
      refine go_p rfl rfl rfl (o_cmp rfl rfl rfl) ?_
      refine go_p rfl rfl rfl (o_move rfl) ?_
      apply go_or [(0, _), (3, _), (4, _), (5, _), (6, _), (7, _)] 3 17 (t := 14) ⟨rfl, rfl, rfl, rfl, rfl, rfl, trivial⟩ rfl
      · intro hg_1 hk1
        refine go_wantp rfl rfl rfl hg_1 rfl rfl (o_move rfl) ?_
        refine go_wantp rfl rfl rfl hg_1 rfl rfl (o_cmp rfl rfl rfl) ?_
        refine go_p rfl rfl rfl (o_pickF rfl hg_1 rfl) ?_
        exact go_meet hk1 (rfl) ⟨rfl, rfl, rfl, rfl, rfl, rfl, trivial⟩
      · intro hg_1 hk1
        refine go_skip rfl rfl rfl hg_1 rfl rfl ?_
        refine go_skip rfl rfl rfl hg_1 rfl rfl ?_
        refine go_p rfl rfl rfl (o_pickT rfl hg_1 rfl) ?_
        exact go_meet hk1 (rfl) ⟨rfl, rfl, rfl, rfl, rfl, rfl, trivial⟩
      refine go_p rfl rfl rfl (o_move rfl) ?_
      obtain ⟨p1, hp_2, hj1⟩ := bind_some hj1
      refine go_two [(0, _), (5, _), (6, _), (7, _)] 12 30 p1 (t := 18) ⟨rfl, rfl, rfl, rfl, trivial⟩ rfl (fun hg_2 hk2 => ?_) (fun hg_2 hk2 => ?_) ?_
      · replace hp_2 := cond_t hg_2 hp_2
        refine go_skip rfl rfl rfl hg_2 rfl rfl ?_
        refine go_skip rfl rfl rfl hg_2 rfl rfl ?_
        refine go_skip rfl rfl rfl hg_2 rfl rfl ?_
        refine go_skipu rfl rfl rfl rfl rfl ?_
        refine go_skipu rfl rfl rfl rfl rfl ?_
        refine go_skipu rfl rfl rfl rfl rfl ?_
        refine go_skipu rfl rfl rfl rfl rfl ?_
        refine go_skipu rfl rfl rfl rfl rfl ?_
        refine go_skipu rfl rfl rfl rfl rfl ?_
        refine go_skipu rfl rfl rfl rfl rfl ?_
        refine go_skip rfl rfl rfl hg_2 rfl rfl ?_
        refine go_p rfl rfl rfl (o_pickT rfl hg_2 rfl) ?_
        exact go_meet hk2 (congrArg (fun b => some (D.bool b)) (some_eq hp_2)) ⟨rfl, rfl, rfl, rfl, trivial⟩
      · replace hp_2 := cond_f hg_2 hp_2
        refine go_wantp rfl rfl rfl hg_2 rfl rfl (o_move rfl) ?_
        refine go_wantp rfl rfl rfl hg_2 rfl rfl (o_cmp rfl rfl rfl) ?_
        refine go_wantp rfl rfl rfl hg_2 rfl rfl (o_move rfl) ?_
        obtain ⟨p2, hp_3, hp_2⟩ := bind_some hp_2
        refine go_two [(0, _), (5, _), (6, _), (7, _), (18, _)] 8 29 p2 (t := 21) ⟨rfl, rfl, rfl, rfl, rfl, trivial⟩ rfl (fun hg_3 hk3 => ?_) (fun hg_3 hk3 => ?_) ?_
        · replace hp_3 := cond_t hg_3 hp_3
          refine go_wantp rfl rfl rfl hg_3 rfl rfl (o_move rfl) ?_
          refine go_wantp rfl rfl rfl hg_3 rfl rfl (o_move rfl) ?_
          obtain ⟨hg2, hp_3⟩ := grd_some hp_3
          refine go_wantp rfl rfl rfl hg_3 rfl rfl (o_sub rfl rfl (i64_id hg2)) ?_
          obtain ⟨x3, hx3, hp_3⟩ := bind_some hp_3
          refine go_wantp rfl rfl rfl hg_3 rfl rfl (o_indexAddr_m Tryz.runUnderlying49 Tryz.sizeOf3 rfl rfl hx3) ?_
          refine go_wantp rfl rfl rfl hg_3 rfl rfl (o_load Tryz.isAgg3 rfl rfl) ?_
          refine go_wantp rfl rfl rfl hg_3 rfl rfl (o_move rfl) ?_
          refine go_wantp rfl rfl rfl hg_3 rfl rfl (o_cmp rfl rfl rfl) ?_
          refine go_wantp rfl rfl rfl hg_2 rfl rfl (o_pickT rfl hg_3 rfl) ?_
          exact go_meet hk3 (congrArg (fun b => some (D.bool b)) (some_eq hp_3)) ⟨rfl, rfl, rfl, rfl, rfl, trivial⟩
        · replace hp_3 := cond_f hg_3 hp_3
          refine go_skip rfl rfl rfl hg_3 rfl rfl ?_
          refine go_skip rfl rfl rfl hg_3 rfl rfl ?_
          refine go_skip rfl rfl rfl hg_3 rfl rfl ?_
          refine go_skip rfl rfl rfl hg_3 rfl rfl ?_
          refine go_skip rfl rfl rfl hg_3 rfl rfl ?_
          refine go_skip rfl rfl rfl hg_3 rfl rfl ?_
          refine go_skip rfl rfl rfl hg_3 rfl rfl ?_
          refine go_wantp rfl rfl rfl hg_2 rfl rfl (o_pickF rfl hg_3 rfl) ?_
          exact go_meet hk3 (congrArg (fun b => some (D.bool b)) (some_eq hp_3)) ⟨rfl, rfl, rfl, rfl, rfl, trivial⟩
        refine go_p rfl rfl rfl (o_pickF rfl hg_2 rfl) ?_
        exact go_meet hk2 (congrArg (fun b => some (D.bool b)) (some_eq hp_2)) ⟨rfl, rfl, rfl, rfl, trivial⟩
      refine go_nil ?_
      refine g_cond rfl (fun hc2 => ?_) (fun hc2 => ?_)
      · replace hj1 := cond_t hc2 hj1
        refine g_seq ?_
        refine g_region ?_
        refine go_p rfl rfl rfl (o_assign rfl) ?_
        refine go_nil ?_
        refine g_ret ?_
        obtain rfl := some_eq hj1
        replace hm1 := on_ret hm1
        exact retK (ret_one' rfl (ret_tmp rfl) (perm_drop _)) (congrArg (fun (p : Bool) => (.bool p : D)) (some_eq hm1))
      · replace hj1 := cond_f hc2 hj1
        refine g_skip ?_
        refine g_region ?_
        obtain ⟨hg4, hj1⟩ := grd_some hj1
        refine go_p rfl rfl rfl (o_add rfl rfl (i64_id hg4)) ?_
        refine go_p rfl rfl rfl (o_move rfl) ?_
        refine go_nil ?_
        exact ⟨_, (), hj1, ⟨rfl, trivial⟩, ⟨rfl, rfl, rfl, trivial⟩, [], rfl⟩
    · replace hj1 := cond_f hc1 hj1
      refine g_exit ?_
      exact ⟨_, (), some_eq hj1, trivial, trivial, [], rfl⟩
  · rintro _ _ hst
    subst hst
    replace hm1 := on_go hm1
    refine k_norm (L' := []) (ms' := []) rfl rfl ?_
    refine g_seq ?_
    refine g_region ?_
    refine go_p rfl rfl rfl (o_assign rfl) ?_
    refine go_nil ?_
    refine g_ret ?_
    exact retK (ret_one' rfl (ret_tmp rfl) (perm_drop _)) (congrArg (fun (p : Bool) => (.bool p : D)) (some_eq hm1))
theorem fi_63_0 : FieldIs Tryz.prog 63 0 0 1 false := ⟨⟨_, _, Tryz.runUnderlying63, rfl, rfl, Tryz.sizeOf9, by decide, Tryz.isAgg9⟩⟩
def m_auto_named_l1 (l1 : (List AutoEdge)) (is1 : ((List UInt8) → Option Bool)) : Nat → Int → Option (Out Bool Unit)
  | 0, _ => none
  | n + 1, x1 =>
    bif (decide (x1 < (l1.length : Int))) then
      (idx l1 x1).bind fun x2 =>
      (is1 x2.name).bind fun x3 =>
      bif (!x3) then (some (Out.ret false)) else (bif (decide (0 < x1)) then (grd (InR (x1 - 1)) <|
      (idx l1 (x1 - 1)).bind fun x4 =>
      bif (!Op.bytesLess x4.name x2.name) then
        some (Out.ret false)
      else
        grd (InR (x1 + 1)) <|
        m_auto_named_l1 l1 is1 n (x1 + 1)) else (grd (InR (x1 + 1)) <|
      m_auto_named_l1 l1 is1 n (x1 + 1)))
    else
      some (Out.go (()))
def m_auto_named (l1 : (List AutoEdge)) (is1 : ((List UInt8) → Option Bool)) : Option Bool :=
  ((m_auto_named_l1 l1 is1 FU 0 : Option (Out Bool Unit))).bind (fun oo => oo.on (fun r1 => some r1) (fun _ =>
  some (decide ((l1.length : Int) ≤ 30))))
theorem w_auto_named {l1 : (List AutoEdge)} {is1 : ((List UInt8) → Option Bool)} {r_1 : Bool} {fv_is1 : D} (hfis1 : FunOk1 Tryz.prog fv_is1 D.str D.bool is1) (hm : m_auto_named l1 is1 = some r_1) : Fn0 Tryz.prog 114 [.list 2 AutoEdge.d l1, fv_is1] (.bool r_1) := by
  unfold m_auto_named at hm
  refine fn_intro Tryz.func114 rfl Tryz.ntmps114 rfl fun H0 fr w0 => ?_
  refine g_seq ?_
  refine g_region ?_
  refine go_p rfl rfl rfl (o_assign rfl) ?_
  refine go_nil ?_
  refine g_seq ?_
  refine g_seq ?_
  refine g_region ?_
  refine go_p rfl rfl rfl (o_move rfl) ?_
  refine go_p rfl rfl rfl (o_len Tryz.runUnderlying58 rfl) ?_
  refine go_p rfl rfl rfl (o_move rfl) ?_
  refine go_nil ?_
  obtain ⟨o_1, hj1, hm1⟩ := bind_some hm
  refine g_cut_m [(0, _)] [] (fun (st : Unit) (hid : Unit) => match st, hid with | _, _ => []) (fun F (st : Unit) (hid : Unit) => match st, hid with | _, _ => []) (fun st => Out.go (st) = o_1) ⟨rfl, trivial⟩ trivial ?_ ?_
  · skip
    refine g_block ?_
    refine g_loop_m [(0, _), (1, _), (7, _), (8, _)] [] (fun (st : Int) (hid : Unit) => match st, hid with | x1, _ => [(9, .i64 x1)]) (fun F (st : Int) (hid : Unit) => match st, hid with | x1, _ => []) () hj1 (fun _ => rfl) ⟨rfl, rfl, rfl, rfl, trivial⟩ trivial ⟨rfl, trivial⟩ rfl ?_
    rintro n x1 _ hj1
    rw [m_auto_named_l1] at hj1
    refine g_norm (L' := [(9, .i64 x1), (0, _), (1, _), (7, _), (8, _)]) (ms' := []) rfl rfl ?_
    refine g_seq ?_
    refine g_region ?_
    refine go_p rfl rfl rfl (o_cmp rfl rfl rfl) ?_
    refine go_nil ?_
    refine g_seq ?_
    refine g_cond rfl (fun hc1 => ?_) (fun hc1 => ?_)
    · replace hj1 := cond_t hc1 hj1
      refine g_skip ?_
      refine g_seq ?_
      refine g_block ?_
      refine g_seq ?_
      refine g_region ?_
      refine go_p rfl rfl rfl (o_move rfl) ?_
      obtain ⟨x2, hx1, hj1⟩ := bind_some hj1
      refine go_p rfl rfl rfl (o_indexAddr_m Tryz.runUnderlying58 Tryz.sizeOf63 rfl rfl hx1) ?_
      refine go_p rfl rfl rfl (o_load_agg Tryz.isAgg63 Tryz.sizeOf63 rfl rfl) ?_
      refine go_op rfl rfl rfl (o_alloc_own Tryz.zeroValue63 (cs := [.str ([] : List UInt8), .i64 0]) rfl) ?_
      rintro _ _ ⟨b1, rfl, rfl⟩
      refine go_p rfl rfl rfl (o_assign rfl) ?_
      refine go_u rfl rfl (o_store_box 0 Tryz.sizeOf63 rfl rfl rfl rfl rfl rfl rfl rfl (Nat.le_of_ble_eq_true rfl)) ?_
      rintro _ _ rfl
      refine go_ms (ms' := [box b1 63 [_, _]]) rfl ?_
      refine go_nil ?_
      refine g_seq ?_
      obtain ⟨x3, hx2, hj1⟩ := bind_some hj1
      rcases cond_split hj1 with ⟨hg_1, hj1⟩ | ⟨hg_1, hj1⟩
      ·
        skip
        refine g_draw 20 Tryz_mixed (by decide +kernel) ?_
        refine gd_p rfl rfl rfl (o_move rfl) ?_
        refine gd_p rfl rfl rfl (o_fieldAddr_box fi_63_0 rfl) ?_
        refine gd_p rfl rfl rfl (o_load_box 0 Tryz.isAgg9 rfl rfl rfl rfl) ?_
        refine gd_p rfl rfl rfl (o_callv0 rfl rfl (hfis1 _ _ hx2)) ?_
        refine gd_p rfl rfl rfl (o_not rfl) ?_
        refine gd_p rfl rfl rfl (o_move rfl) ?_
        refine gd_skip rfl rfl rfl hg_1 rfl rfl ?_
        refine gd_skip rfl rfl rfl hg_1 rfl rfl ?_
        refine gd_skip rfl rfl rfl hg_1 rfl rfl ?_
        refine gd_skipu rfl rfl rfl rfl rfl ?_
        refine gd_skipu rfl rfl rfl rfl rfl ?_
        refine gd_skipu rfl rfl rfl rfl rfl ?_
        refine gd_skipu rfl rfl rfl rfl rfl ?_
        refine gd_skipu rfl rfl rfl rfl rfl ?_
        refine gd_skipu rfl rfl rfl rfl rfl ?_
        refine gd_skipu rfl rfl rfl rfl rfl ?_
        refine gd_skipu rfl rfl rfl rfl rfl ?_
        refine gd_skipu rfl rfl rfl rfl rfl ?_
        refine gd_skip rfl rfl rfl hg_1 rfl rfl ?_
        refine gd_p rfl rfl rfl (o_pickT rfl hg_1 rfl) ?_
        refine gd_nil ?_
        refine go_nil ?_
        refine g_cond_true rfl rfl ?_
        refine g_seq ?_
        refine g_region ?_
        refine go_p rfl rfl rfl (o_assign rfl) ?_
        refine go_nil ?_
        refine g_ret ?_
        obtain rfl := some_eq hj1
        replace hm1 := on_ret hm1
        exact retK (ret_one' rfl (ret_tmp rfl) (perm_drop _)) (congrArg (fun (p : Bool) => (.bool p : D)) (some_eq hm1))
      ·
        skip
        rcases cond_split hj1 with ⟨hg_2, hj1⟩ | ⟨hg_2, hj1⟩
        ·
          skip
          obtain ⟨hg3, hj1⟩ := grd_some hj1
          obtain ⟨x4, hx4, hj1⟩ := bind_some hj1
          refine g_draw 20 Tryz_mixed (by decide +kernel) ?_
          refine gd_p rfl rfl rfl (o_move rfl) ?_
          refine gd_p rfl rfl rfl (o_fieldAddr_box fi_63_0 rfl) ?_
          refine gd_p rfl rfl rfl (o_load_box 0 Tryz.isAgg9 rfl rfl rfl rfl) ?_
          refine gd_p rfl rfl rfl (o_callv0 rfl rfl (hfis1 _ _ hx2)) ?_
          refine gd_p rfl rfl rfl (o_not rfl) ?_
          refine gd_p rfl rfl rfl (o_move rfl) ?_
          refine gd_want rfl rfl rfl hg_1 rfl rfl (o_move rfl) ?_
          refine gd_want rfl rfl rfl hg_1 rfl rfl (o_cmp rfl rfl rfl) ?_
          refine gd_want rfl rfl rfl hg_1 rfl rfl (o_move rfl) ?_
          refine gd_want rfl rfl rfl hg_2 rfl rfl (o_move rfl) ?_
          refine gd_want rfl rfl rfl hg_2 rfl rfl (o_move rfl) ?_
          refine gd_want rfl rfl rfl hg_2 rfl rfl (o_sub rfl rfl (i64_id hg3)) ?_
          refine gd_want rfl rfl rfl hg_2 rfl rfl (o_indexAddr_m Tryz.runUnderlying58 Tryz.sizeOf63 rfl rfl hx4) ?_
          refine gd_want rfl rfl rfl hg_2 rfl rfl (o_fieldAddr fi_63_0 rfl rfl rfl) ?_
          refine gd_want rfl rfl rfl hg_2 rfl rfl (o_load Tryz.isAgg9 rfl rfl) ?_
          refine gd_want rfl rfl rfl hg_2 rfl rfl (o_fieldAddr_box fi_63_0 rfl) ?_
          refine gd_want rfl rfl rfl hg_2 rfl rfl (o_load_box 0 Tryz.isAgg9 rfl rfl rfl rfl) ?_
          refine gd_want rfl rfl rfl hg_2 rfl rfl (o_cmps rfl rfl rfl) ?_
          refine gd_want rfl rfl rfl hg_1 rfl rfl (o_pickT rfl hg_2 rfl) ?_
          refine gd_p rfl rfl rfl (o_pickF rfl hg_1 rfl) ?_
          refine gd_nil ?_
          refine go_nil ?_
          refine g_cond rfl (fun hc2 => ?_) (fun hc2 => ?_)
          · replace hj1 := cond_t hc2 hj1
            refine g_seq ?_
            refine g_region ?_
            refine go_p rfl rfl rfl (o_assign rfl) ?_
            refine go_nil ?_
            refine g_ret ?_
            obtain rfl := some_eq hj1
            replace hm1 := on_ret hm1
            exact retK (ret_one' rfl (ret_tmp rfl) (perm_drop _)) (congrArg (fun (p : Bool) => (.bool p : D)) (some_eq hm1))
          · replace hj1 := cond_f hc2 hj1
            refine g_skip ?_
            refine g_region ?_
            obtain ⟨hg5, hj1⟩ := grd_some hj1
            refine go_p rfl rfl rfl (o_add rfl rfl (i64_id hg5)) ?_
            refine go_p rfl rfl rfl (o_move rfl) ?_
            refine go_nil ?_
            exact ⟨_, (), hj1, ⟨rfl, trivial⟩, ⟨rfl, rfl, rfl, rfl, trivial⟩, [_], rfl⟩
        ·
          skip
          refine g_draw 20 Tryz_mixed (by decide +kernel) ?_
          refine gd_p rfl rfl rfl (o_move rfl) ?_
          refine gd_p rfl rfl rfl (o_fieldAddr_box fi_63_0 rfl) ?_
          refine gd_p rfl rfl rfl (o_load_box 0 Tryz.isAgg9 rfl rfl rfl rfl) ?_
          refine gd_p rfl rfl rfl (o_callv0 rfl rfl (hfis1 _ _ hx2)) ?_
          refine gd_p rfl rfl rfl (o_not rfl) ?_
          refine gd_p rfl rfl rfl (o_move rfl) ?_
          refine gd_want rfl rfl rfl hg_1 rfl rfl (o_move rfl) ?_
          refine gd_want rfl rfl rfl hg_1 rfl rfl (o_cmp rfl rfl rfl) ?_
          refine gd_want rfl rfl rfl hg_1 rfl rfl (o_move rfl) ?_
          refine gd_skip rfl rfl rfl hg_2 rfl rfl ?_
          refine gd_skip rfl rfl rfl hg_2 rfl rfl ?_
          refine gd_skip rfl rfl rfl hg_2 rfl rfl ?_
          refine gd_skip rfl rfl rfl hg_2 rfl rfl ?_
          refine gd_skip rfl rfl rfl hg_2 rfl rfl ?_
          refine gd_skip rfl rfl rfl hg_2 rfl rfl ?_
          refine gd_skip rfl rfl rfl hg_2 rfl rfl ?_
          refine gd_skip rfl rfl rfl hg_2 rfl rfl ?_
          refine gd_skip rfl rfl rfl hg_2 rfl rfl ?_
          refine gd_want rfl rfl rfl hg_1 rfl rfl (o_pickF rfl hg_2 rfl) ?_
          refine gd_p rfl rfl rfl (o_pickF rfl hg_1 rfl) ?_
          refine gd_nil ?_
          refine go_nil ?_
          refine g_cond_false rfl rfl ?_
          refine g_skip ?_
          refine g_region ?_
          obtain ⟨hg6, hj1⟩ := grd_some hj1
          refine go_p rfl rfl rfl (o_add rfl rfl (i64_id hg6)) ?_
          refine go_p rfl rfl rfl (o_move rfl) ?_
          refine go_nil ?_
          exact ⟨_, (), hj1, ⟨rfl, trivial⟩, ⟨rfl, rfl, rfl, rfl, trivial⟩, [_], rfl⟩
    · replace hj1 := cond_f hc1 hj1
      refine g_exit ?_
      exact ⟨_, (), some_eq hj1, trivial, ⟨rfl, trivial⟩, [], rfl⟩
  · rintro _ _ hst
    subst hst
    replace hm1 := on_go hm1
    refine k_norm (L' := [(0, _)]) (ms' := []) rfl rfl ?_
    refine g_seq ?_
    refine g_region ?_
    refine go_p rfl rfl rfl (o_move rfl) ?_
    refine go_p rfl rfl rfl (o_len Tryz.runUnderlying58 rfl) ?_
    refine go_p rfl rfl rfl (o_cmp rfl rfl rfl) ?_
    refine go_p rfl rfl rfl (o_assign rfl) ?_
    refine go_nil ?_
    refine g_ret ?_
    exact retK (ret_one' rfl (ret_tmp rfl) (perm_drop _)) (congrArg (fun (p : Bool) => (.bool p : D)) (some_eq hm1))
def m_name_small (c1 : UInt8) : Option Bool :=
  some (((decide (97 ≤ (c1.toNat : Int))) && (decide ((c1.toNat : Int) ≤ 122))) || (decide ((c1.toNat : Int) = 95)))
theorem w_name_small {c1 : UInt8} {r_1 : Bool} (hm : m_name_small c1 = some r_1) : Fn0 Tryz.prog 156 [.u8 c1] (.bool r_1) := by
  unfold m_name_small at hm
  refine fn_intro Tryz.func156 rfl Tryz.ntmps156 rfl fun H0 fr w0 => ?_
  refine g_seq ?_
  refine g_region ?_
  refine go_p rfl rfl rfl (o_assign rfl) ?_
  refine go_nil ?_
  refine g_seq ?_
  refine g_region ?_
  refine go_p rfl rfl rfl (o_move rfl) ?_
  refine go_p rfl rfl rfl (o_cmp rfl rfl rfl) ?_
  refine go_p rfl rfl rfl (o_move rfl) ?_
  apply go_and [(0, _)] 3 8 (t := 5) ⟨rfl, trivial⟩ rfl
  · intro hg_1 hk1
    refine go_wantp rfl rfl rfl hg_1 rfl rfl (o_move rfl) ?_
    refine go_wantp rfl rfl rfl hg_1 rfl rfl (o_cmp rfl rfl rfl) ?_
    refine go_p rfl rfl rfl (o_pickT rfl hg_1 rfl) ?_
    exact go_meet hk1 (rfl) ⟨rfl, trivial⟩
  · intro hg_1 hk1
    refine go_skip rfl rfl rfl hg_1 rfl rfl ?_
    refine go_skip rfl rfl rfl hg_1 rfl rfl ?_
    refine go_p rfl rfl rfl (o_pickF rfl hg_1 rfl) ?_
    exact go_meet hk1 (rfl) ⟨rfl, trivial⟩
  refine go_p rfl rfl rfl (o_move rfl) ?_
  apply go_or [] 3 12 (t := 9) trivial rfl
  · intro hg_2 hk2
    refine go_wantp rfl rfl rfl hg_2 rfl rfl (o_move rfl) ?_
    refine go_wantp rfl rfl rfl hg_2 rfl rfl (o_cmp rfl rfl rfl) ?_
    refine go_p rfl rfl rfl (o_pickF rfl hg_2 rfl) ?_
    exact go_meet hk2 (rfl) trivial
  · intro hg_2 hk2
    refine go_skip rfl rfl rfl hg_2 rfl rfl ?_
    refine go_skip rfl rfl rfl hg_2 rfl rfl ?_
    refine go_p rfl rfl rfl (o_pickT rfl hg_2 rfl) ?_
    exact go_meet hk2 (rfl) trivial
  refine go_p rfl rfl rfl (o_assign rfl) ?_
  refine go_nil ?_
  refine g_ret ?_
  exact retK (ret_one' rfl (ret_tmp rfl) (perm_drop _)) (congrArg (fun (p : Bool) => (.bool p : D)) (some_eq hm))
def m_name_great (c1 : UInt8) : Option Bool :=
  some ((decide (65 ≤ (c1.toNat : Int))) && (decide ((c1.toNat : Int) ≤ 90)))
theorem w_name_great {c1 : UInt8} {r_1 : Bool} (hm : m_name_great c1 = some r_1) : Fn0 Tryz.prog 158 [.u8 c1] (.bool r_1) := by
  unfold m_name_great at hm
  refine fn_intro Tryz.func158 rfl Tryz.ntmps158 rfl fun H0 fr w0 => ?_
  refine g_seq ?_
  refine g_region ?_
  refine go_p rfl rfl rfl (o_assign rfl) ?_
  refine go_nil ?_
  refine g_seq ?_
  refine g_region ?_
  refine go_p rfl rfl rfl (o_move rfl) ?_
  refine go_p rfl rfl rfl (o_cmp rfl rfl rfl) ?_
  refine go_p rfl rfl rfl (o_move rfl) ?_
  apply go_and [] 3 8 (t := 5) trivial rfl
  · intro hg_1 hk1
    refine go_wantp rfl rfl rfl hg_1 rfl rfl (o_move rfl) ?_
    refine go_wantp rfl rfl rfl hg_1 rfl rfl (o_cmp rfl rfl rfl) ?_
    refine go_p rfl rfl rfl (o_pickT rfl hg_1 rfl) ?_
    exact go_meet hk1 (rfl) trivial
  · intro hg_1 hk1
    refine go_skip rfl rfl rfl hg_1 rfl rfl ?_
    refine go_skip rfl rfl rfl hg_1 rfl rfl ?_
    refine go_p rfl rfl rfl (o_pickF rfl hg_1 rfl) ?_
    exact go_meet hk1 (rfl) trivial
  refine go_p rfl rfl rfl (o_assign rfl) ?_
  refine go_nil ?_
  refine g_ret ?_
  exact retK (ret_one' rfl (ret_tmp rfl) (perm_drop _)) (congrArg (fun (p : Bool) => (.bool p : D)) (some_eq hm))
def m_name_more (c1 : UInt8) : Option Bool :=
  (m_name_small c1).bind fun x1 =>
  (bif x1 then (some true) else ((m_name_great c1).bind fun x2 =>
  some x2)).bind fun p1 =>
  some (p1 || ((decide (48 ≤ (c1.toNat : Int))) && (decide ((c1.toNat : Int) ≤ 57))))
theorem w_name_more {c1 : UInt8} {r_1 : Bool} (hm : m_name_more c1 = some r_1) : Fn0 Tryz.prog 175 [.u8 c1] (.bool r_1) := by
  unfold m_name_more at hm
  refine fn_intro Tryz.func175 rfl Tryz.ntmps175 rfl fun H0 fr w0 => ?_
  refine g_seq ?_
  refine g_region ?_
  refine go_p rfl rfl rfl (o_assign rfl) ?_
  refine go_nil ?_
  refine g_seq ?_
  refine g_region ?_
  refine go_p rfl rfl rfl (o_move rfl) ?_
  obtain ⟨x1, hx1, hm⟩ := bind_some hm
  refine go_p rfl rfl rfl (o_call0 Tryz.call156 rfl (w_name_small hx1)) ?_
  refine go_p rfl rfl rfl (o_move rfl) ?_
  obtain ⟨p1, hp_1, hm⟩ := bind_some hm
  refine go_two [(0, _)] 3 8 p1 (t := 5) ⟨rfl, trivial⟩ rfl (fun hg_1 hk1 => ?_) (fun hg_1 hk1 => ?_) ?_
  · replace hp_1 := cond_t hg_1 hp_1
    refine go_skip rfl rfl rfl hg_1 rfl rfl ?_
    refine go_skip rfl rfl rfl hg_1 rfl rfl ?_
    refine go_p rfl rfl rfl (o_pickT rfl hg_1 rfl) ?_
    exact go_meet hk1 (congrArg (fun b => some (D.bool b)) (some_eq hp_1)) ⟨rfl, trivial⟩
  · replace hp_1 := cond_f hg_1 hp_1
    refine go_wantp rfl rfl rfl hg_1 rfl rfl (o_move rfl) ?_
    obtain ⟨x2, hx2, hp_1⟩ := bind_some hp_1
    refine go_wantp rfl rfl rfl hg_1 rfl rfl (o_call0 Tryz.call158 rfl (w_name_great hx2)) ?_
    refine go_p rfl rfl rfl (o_pickF rfl hg_1 rfl) ?_
    exact go_meet hk1 (congrArg (fun b => some (D.bool b)) (some_eq hp_1)) ⟨rfl, trivial⟩
  refine go_p rfl rfl rfl (o_move rfl) ?_
  apply go_or [] 7 16 (t := 9) trivial rfl
  · intro hg_2 hk2
    refine go_wantp rfl rfl rfl hg_2 rfl rfl (o_move rfl) ?_
    refine go_wantp rfl rfl rfl hg_2 rfl rfl (o_cmp rfl rfl rfl) ?_
    refine go_wantp rfl rfl rfl hg_2 rfl rfl (o_move rfl) ?_
    apply go_and [(9, _)] 3 15 (t := 12) ⟨rfl, trivial⟩ rfl
    · intro hg_3 hk3
      refine go_wantp rfl rfl rfl hg_3 rfl rfl (o_move rfl) ?_
      refine go_wantp rfl rfl rfl hg_3 rfl rfl (o_cmp rfl rfl rfl) ?_
      refine go_wantp rfl rfl rfl hg_2 rfl rfl (o_pickT rfl hg_3 rfl) ?_
      exact go_meet hk3 (rfl) ⟨rfl, trivial⟩
    · intro hg_3 hk3
      refine go_skip rfl rfl rfl hg_3 rfl rfl ?_
      refine go_skip rfl rfl rfl hg_3 rfl rfl ?_
      refine go_wantp rfl rfl rfl hg_2 rfl rfl (o_pickF rfl hg_3 rfl) ?_
      exact go_meet hk3 (rfl) ⟨rfl, trivial⟩
    refine go_p rfl rfl rfl (o_pickF rfl hg_2 rfl) ?_
    exact go_meet hk2 (rfl) trivial
  · intro hg_2 hk2
    refine go_skip rfl rfl rfl hg_2 rfl rfl ?_
    refine go_skip rfl rfl rfl hg_2 rfl rfl ?_
    refine go_skip rfl rfl rfl hg_2 rfl rfl ?_
    refine go_skipu rfl rfl rfl rfl rfl ?_
    refine go_skipu rfl rfl rfl rfl rfl ?_
    refine go_skip rfl rfl rfl hg_2 rfl rfl ?_
    refine go_p rfl rfl rfl (o_pickT rfl hg_2 rfl) ?_
    exact go_meet hk2 (rfl) trivial
  refine go_p rfl rfl rfl (o_assign rfl) ?_
  refine go_nil ?_
  refine g_ret ?_
  exact retK (ret_one' rfl (ret_tmp rfl) (perm_drop _)) (congrArg (fun (p : Bool) => (.bool p : D)) (some_eq hm))
def m_name_Word_l1 (s1 : (List UInt8)) : Nat → Int → Option Int
  | 0, _ => none
  | n + 1, n2 =>
    (bif (decide (n2 < (s1.length : Int))) then ((idx s1 n2).bind fun c3 =>
    (m_name_more c3).bind fun x3 =>
    some x3) else (some false)).bind fun p3 =>
    bif p3 then
      grd (InR (n2 + 1)) <|
      m_name_Word_l1 s1 n (n2 + 1)
    else
      some n2
def m_name_Word (s1 : (List UInt8)) : Option Int :=
  (bif (decide ((s1 : List UInt8) = ([] : List UInt8))) then (some true) else ((idx s1 0).bind fun c1 =>
  (m_name_small c1).bind fun x1 =>
  (bif (!x1) then ((idx s1 0).bind fun c2 =>
  (m_name_great c2).bind fun x2 =>
  some (!x2)) else (some false)).bind fun p2 =>
  some p2)).bind fun p1 =>
  bif p1 then
    some 0
  else
    (m_name_Word_l1 s1 FU 1 : Option Int).bind fun n1 =>
    some n1
theorem w_name_Word {s1 : (List UInt8)} {r_1 : Int} (hm : m_name_Word s1 = some r_1) : Fn0 Tryz.prog 171 [.str s1] (.i64 r_1) := by
  unfold m_name_Word at hm
  refine fn_intro Tryz.func171 rfl Tryz.ntmps171 rfl fun H0 fr w0 => ?_
  refine g_seq ?_
  refine g_region ?_
  refine go_p rfl rfl rfl (o_assign rfl) ?_
  refine go_nil ?_
  refine g_seq ?_
  refine g_seq ?_
  refine g_region ?_
  refine go_p rfl rfl rfl (o_move rfl) ?_
  refine go_p rfl rfl rfl (o_cmps rfl rfl rfl) ?_
  refine go_p rfl rfl rfl (o_move rfl) ?_
  obtain ⟨p1, hp_1, hm⟩ := bind_some hm
  refine go_two [(0, _)] 11 17 p1 (t := 6) ⟨rfl, trivial⟩ rfl (fun hg_1 hk1 => ?_) (fun hg_1 hk1 => ?_) ?_
  · replace hp_1 := cond_t hg_1 hp_1
    refine go_skip rfl rfl rfl hg_1 rfl rfl ?_
    refine go_skip rfl rfl rfl hg_1 rfl rfl ?_
    refine go_skip rfl rfl rfl hg_1 rfl rfl ?_
    refine go_skip rfl rfl rfl hg_1 rfl rfl ?_
    refine go_skip rfl rfl rfl hg_1 rfl rfl ?_
    refine go_skipu rfl rfl rfl rfl rfl ?_
    refine go_skipu rfl rfl rfl rfl rfl ?_
    refine go_skipu rfl rfl rfl rfl rfl ?_
    refine go_skipu rfl rfl rfl rfl rfl ?_
    refine go_skip rfl rfl rfl hg_1 rfl rfl ?_
    refine go_p rfl rfl rfl (o_pickT rfl hg_1 rfl) ?_
    exact go_meet hk1 (congrArg (fun b => some (D.bool b)) (some_eq hp_1)) ⟨rfl, trivial⟩
  · replace hp_1 := cond_f hg_1 hp_1
    refine go_wantp rfl rfl rfl hg_1 rfl rfl (o_move rfl) ?_
    obtain ⟨c1, hx1, hp_1⟩ := bind_some hp_1
    refine go_wantp rfl rfl rfl hg_1 rfl rfl (o_index_m Tryz.runUnderlying9 rfl rfl hx1) ?_
    obtain ⟨x1, hx2, hp_1⟩ := bind_some hp_1
    refine go_wantp rfl rfl rfl hg_1 rfl rfl (o_call0 Tryz.call156 rfl (w_name_small hx2)) ?_
    refine go_wantp rfl rfl rfl hg_1 rfl rfl (o_not rfl) ?_
    refine go_wantp rfl rfl rfl hg_1 rfl rfl (o_move rfl) ?_
    obtain ⟨p2, hp_2, hp_1⟩ := bind_some hp_1
    refine go_two [(0, _), (6, _)] 5 16 p2 (t := 11) ⟨rfl, rfl, trivial⟩ rfl (fun hg_2 hk2 => ?_) (fun hg_2 hk2 => ?_) ?_
    · replace hp_2 := cond_t hg_2 hp_2
      refine go_wantp rfl rfl rfl hg_2 rfl rfl (o_move rfl) ?_
      obtain ⟨c2, hx3, hp_2⟩ := bind_some hp_2
      refine go_wantp rfl rfl rfl hg_2 rfl rfl (o_index_m Tryz.runUnderlying9 rfl rfl hx3) ?_
      obtain ⟨x2, hx4, hp_2⟩ := bind_some hp_2
      refine go_wantp rfl rfl rfl hg_2 rfl rfl (o_call0 Tryz.call158 rfl (w_name_great hx4)) ?_
      refine go_wantp rfl rfl rfl hg_2 rfl rfl (o_not rfl) ?_
      refine go_wantp rfl rfl rfl hg_1 rfl rfl (o_pickT rfl hg_2 rfl) ?_
      exact go_meet hk2 (congrArg (fun b => some (D.bool b)) (some_eq hp_2)) ⟨rfl, rfl, trivial⟩
    · replace hp_2 := cond_f hg_2 hp_2
      refine go_skip rfl rfl rfl hg_2 rfl rfl ?_
      refine go_skip rfl rfl rfl hg_2 rfl rfl ?_
      refine go_skip rfl rfl rfl hg_2 rfl rfl ?_
      refine go_skip rfl rfl rfl hg_2 rfl rfl ?_
      refine go_wantp rfl rfl rfl hg_1 rfl rfl (o_pickF rfl hg_2 rfl) ?_
      exact go_meet hk2 (congrArg (fun b => some (D.bool b)) (some_eq hp_2)) ⟨rfl, rfl, trivial⟩
    refine go_p rfl rfl rfl (o_pickF rfl hg_1 rfl) ?_
    exact go_meet hk1 (congrArg (fun b => some (D.bool b)) (some_eq hp_1)) ⟨rfl, trivial⟩
  refine go_nil ?_
  refine g_cond rfl (fun hc1 => ?_) (fun hc1 => ?_)
  · replace hm := cond_t hc1 hm
    refine g_seq ?_
    refine g_region ?_
    refine go_p rfl rfl rfl (o_assign rfl) ?_
    refine go_nil ?_
    refine g_ret ?_
    exact retK (ret_one' rfl (ret_tmp rfl) (perm_drop _)) (congrArg (fun (p : Int) => (.i64 p : D)) (some_eq hm))
  · replace hm := cond_f hc1 hm
    refine g_skip ?_
    refine g_seq ?_
    refine g_region ?_
    refine go_p rfl rfl rfl (o_assign rfl) ?_
    refine go_nil ?_
    refine g_seq ?_
    obtain ⟨o_1, hj1, hm1⟩ := bind_some hm
    refine g_cut_m [] [] (fun (st : Int) (hid : Unit) => match st, hid with | n1, _ => [(3, .i64 n1)]) (fun F (st : Int) (hid : Unit) => match st, hid with | n1, _ => []) (fun st => st = o_1) trivial trivial ?_ ?_
    · skip
      refine g_block ?_
      refine g_loop_m [(0, _)] [] (fun (st : Int) (hid : Unit) => match st, hid with | n2, _ => [(3, .i64 n2)]) (fun F (st : Int) (hid : Unit) => match st, hid with | n2, _ => []) () hj1 (fun _ => rfl) ⟨rfl, trivial⟩ trivial ⟨rfl, trivial⟩ rfl ?_
      rintro n n2 _ hj1
      rw [m_name_Word_l1] at hj1
      refine g_norm (L' := [(3, .i64 n2), (0, _)]) (ms' := []) rfl rfl ?_
      refine g_seq ?_
      refine g_seq ?_
      refine g_region ?_
      refine go_p rfl rfl rfl (o_move rfl) ?_
      refine go_p rfl rfl rfl (o_move rfl) ?_
      refine go_p rfl rfl rfl (o_len_str Tryz.runUnderlying9 rfl) ?_
      refine go_p rfl rfl rfl (o_cmp rfl rfl rfl) ?_
      refine go_p rfl rfl rfl (o_move rfl) ?_
      obtain ⟨p3, hp_3, hj1⟩ := bind_some hj1
      refine go_two [(0, _), (3, _)] 5 27 p3 (t := 22) ⟨rfl, rfl, trivial⟩ rfl (fun hg_3 hk3 => ?_) (fun hg_3 hk3 => ?_) ?_
      · replace hp_3 := cond_t hg_3 hp_3
        refine go_wantp rfl rfl rfl hg_3 rfl rfl (o_move rfl) ?_
        refine go_wantp rfl rfl rfl hg_3 rfl rfl (o_move rfl) ?_
        obtain ⟨c3, hx5, hp_3⟩ := bind_some hp_3
        refine go_wantp rfl rfl rfl hg_3 rfl rfl (o_index_m Tryz.runUnderlying9 rfl rfl hx5) ?_
        obtain ⟨x3, hx6, hp_3⟩ := bind_some hp_3
        refine go_wantp rfl rfl rfl hg_3 rfl rfl (o_call0 Tryz.call175 rfl (w_name_more hx6)) ?_
        refine go_p rfl rfl rfl (o_pickT rfl hg_3 rfl) ?_
        exact go_meet hk3 (congrArg (fun b => some (D.bool b)) (some_eq hp_3)) ⟨rfl, rfl, trivial⟩
      · replace hp_3 := cond_f hg_3 hp_3
        refine go_skip rfl rfl rfl hg_3 rfl rfl ?_
        refine go_skip rfl rfl rfl hg_3 rfl rfl ?_
        refine go_skip rfl rfl rfl hg_3 rfl rfl ?_
        refine go_skip rfl rfl rfl hg_3 rfl rfl ?_
        refine go_p rfl rfl rfl (o_pickF rfl hg_3 rfl) ?_
        exact go_meet hk3 (congrArg (fun b => some (D.bool b)) (some_eq hp_3)) ⟨rfl, rfl, trivial⟩
      refine go_nil ?_
      refine g_cond rfl (fun hc2 => ?_) (fun hc2 => ?_)
      · replace hj1 := cond_t hc2 hj1
        refine g_skip ?_
        refine g_block ?_
        refine g_region ?_
        refine go_p rfl rfl rfl (o_move rfl) ?_
        obtain ⟨hg7, hj1⟩ := grd_some hj1
        refine go_p rfl rfl rfl (o_add rfl rfl (i64_id hg7)) ?_
        refine go_p rfl rfl rfl (o_assign rfl) ?_
        refine go_nil ?_
        exact ⟨_, (), hj1, ⟨rfl, trivial⟩, ⟨rfl, trivial⟩, [], rfl⟩
      · replace hj1 := cond_f hc2 hj1
        refine g_exit ?_
        exact ⟨_, (), some_eq hj1, ⟨rfl, trivial⟩, trivial, [], rfl⟩
    · rintro n1 _ hst
      subst hst
      refine k_norm (L' := [(3, .i64 n1)]) (ms' := []) rfl rfl ?_
      refine g_seq ?_
      refine g_region ?_
      refine go_p rfl rfl rfl (o_move rfl) ?_
      refine go_p rfl rfl rfl (o_assign rfl) ?_
      refine go_nil ?_
      refine g_ret ?_
      exact retK (ret_one' rfl (ret_tmp rfl) (perm_drop _)) (congrArg (fun (p : Int) => (.i64 p : D)) (some_eq hm1))
def m_name_whole (s1 : (List UInt8)) : Option Bool :=
  (bif ((!decide ((s1 : List UInt8) = ([] : List UInt8))) && (decide ((s1.length : Int) ≤ 20))) then ((m_name_Word s1).bind fun x1 =>
  some (decide (x1 = (s1.length : Int)))) else (some false)).bind fun p1 =>
  some p1
theorem w_name_whole {s1 : (List UInt8)} {r_1 : Bool} (hm : m_name_whole s1 = some r_1) : Fn0 Tryz.prog 155 [.str s1] (.bool r_1) := by
  unfold m_name_whole at hm
  refine fn_intro Tryz.func155 rfl Tryz.ntmps155 rfl fun H0 fr w0 => ?_
  refine g_seq ?_
  refine g_region ?_
  refine go_p rfl rfl rfl (o_assign rfl) ?_
  refine go_nil ?_
  refine g_seq ?_
  refine g_region ?_
  refine go_p rfl rfl rfl (o_move rfl) ?_
  refine go_p rfl rfl rfl (o_cmps rfl rfl rfl) ?_
  refine go_p rfl rfl rfl (o_move rfl) ?_
  apply go_and [(0, _)] 4 9 (t := 5) ⟨rfl, trivial⟩ rfl
  · intro hg_1 hk1
    refine go_wantp rfl rfl rfl hg_1 rfl rfl (o_move rfl) ?_
    refine go_wantp rfl rfl rfl hg_1 rfl rfl (o_len_str Tryz.runUnderlying9 rfl) ?_
    refine go_wantp rfl rfl rfl hg_1 rfl rfl (o_cmp rfl rfl rfl) ?_
    refine go_p rfl rfl rfl (o_pickT rfl hg_1 rfl) ?_
    exact go_meet hk1 (rfl) ⟨rfl, trivial⟩
  · intro hg_1 hk1
    refine go_skip rfl rfl rfl hg_1 rfl rfl ?_
    refine go_skip rfl rfl rfl hg_1 rfl rfl ?_
    refine go_skip rfl rfl rfl hg_1 rfl rfl ?_
    refine go_p rfl rfl rfl (o_pickF rfl hg_1 rfl) ?_
    exact go_meet hk1 (rfl) ⟨rfl, trivial⟩
  refine go_p rfl rfl rfl (o_move rfl) ?_
  obtain ⟨p1, hp_2, hm⟩ := bind_some hm
  refine go_two [] 6 16 p1 (t := 10) trivial rfl (fun hg_2 hk2 => ?_) (fun hg_2 hk2 => ?_) ?_
  · replace hp_2 := cond_t hg_2 hp_2
    refine go_wantp rfl rfl rfl hg_2 rfl rfl (o_move rfl) ?_
    obtain ⟨x1, hx1, hp_2⟩ := bind_some hp_2
    refine go_wantp rfl rfl rfl hg_2 rfl rfl (o_call0 Tryz.call171 rfl (w_name_Word hx1)) ?_
    refine go_wantp rfl rfl rfl hg_2 rfl rfl (o_move rfl) ?_
    refine go_wantp rfl rfl rfl hg_2 rfl rfl (o_len_str Tryz.runUnderlying9 rfl) ?_
    refine go_wantp rfl rfl rfl hg_2 rfl rfl (o_cmp rfl rfl rfl) ?_
    refine go_p rfl rfl rfl (o_pickT rfl hg_2 rfl) ?_
    exact go_meet hk2 (congrArg (fun b => some (D.bool b)) (some_eq hp_2)) trivial
  · replace hp_2 := cond_f hg_2 hp_2
    refine go_skip rfl rfl rfl hg_2 rfl rfl ?_
    refine go_skip rfl rfl rfl hg_2 rfl rfl ?_
    refine go_skip rfl rfl rfl hg_2 rfl rfl ?_
    refine go_skip rfl rfl rfl hg_2 rfl rfl ?_
    refine go_skip rfl rfl rfl hg_2 rfl rfl ?_
    refine go_p rfl rfl rfl (o_pickF rfl hg_2 rfl) ?_
    exact go_meet hk2 (congrArg (fun b => some (D.bool b)) (some_eq hp_2)) trivial
  refine go_p rfl rfl rfl (o_assign rfl) ?_
  refine go_nil ?_
  refine g_ret ?_
  exact retK (ret_one' rfl (ret_tmp rfl) (perm_drop _)) (congrArg (fun (p : Bool) => (.bool p : D)) (some_eq hm))
def m_slices_Index_string_string_l1 (s1 : (List (List UInt8))) (v1 : (List UInt8)) : Nat → Int → Option (Out Int Unit)
  | 0, _ => none
  | n + 1, x1 =>
    bif (decide (x1 < (s1.length : Int))) then
      (idx s1 x1).bind fun x2 =>
      bif (decide ((v1 : List UInt8) = x2)) then
        some (Out.ret x1)
      else
        grd (InR (x1 + 1)) <|
        m_slices_Index_string_string_l1 s1 v1 n (x1 + 1)
    else
      some (Out.go (()))
def m_slices_Index_string_string (s1 : (List (List UInt8))) (v1 : (List UInt8)) : Option Int :=
  ((m_slices_Index_string_string_l1 s1 v1 FU 0 : Option (Out Int Unit))).bind (fun oo => oo.on (fun r1 => some r1) (fun _ =>
  some (-1)))
theorem w_slices_Index_string_string {s1 : (List (List UInt8))} {v1 : (List UInt8)} {r_1 : Int} (hm : m_slices_Index_string_string s1 v1 = some r_1) : Fn0 Tryz.prog 176 [.list 1 D.str s1, .str v1] (.i64 r_1) := by
  unfold m_slices_Index_string_string at hm
  refine fn_intro Tryz.func176 rfl Tryz.ntmps176 rfl fun H0 fr w0 => ?_
  refine g_seq ?_
  refine g_region ?_
  refine go_p rfl rfl rfl (o_assign rfl) ?_
  refine go_nil ?_
  refine g_seq ?_
  refine g_seq ?_
  refine g_region ?_
  refine go_p rfl rfl rfl (o_move rfl) ?_
  refine go_p rfl rfl rfl (o_len Tryz.runUnderlying181 rfl) ?_
  refine go_p rfl rfl rfl (o_move rfl) ?_
  refine go_nil ?_
  obtain ⟨o_1, hj1, hm1⟩ := bind_some hm
  refine g_cut_m [] [] (fun (st : Unit) (hid : Unit) => match st, hid with | _, _ => []) (fun F (st : Unit) (hid : Unit) => match st, hid with | _, _ => []) (fun st => Out.go (st) = o_1) trivial trivial ?_ ?_
  · skip
    refine g_block ?_
    refine g_loop_m [(0, _), (1, _), (7, _)] [] (fun (st : Int) (hid : Unit) => match st, hid with | x1, _ => [(8, .i64 x1)]) (fun F (st : Int) (hid : Unit) => match st, hid with | x1, _ => []) () hj1 (fun _ => rfl) ⟨rfl, rfl, rfl, trivial⟩ trivial ⟨rfl, trivial⟩ rfl ?_
    rintro n x1 _ hj1
    rw [m_slices_Index_string_string_l1] at hj1
    refine g_norm (L' := [(8, .i64 x1), (0, _), (1, _), (7, _)]) (ms' := []) rfl rfl ?_
    refine g_seq ?_
    refine g_region ?_
    refine go_p rfl rfl rfl (o_cmp rfl rfl rfl) ?_
    refine go_nil ?_
    refine g_seq ?_
    refine g_cond rfl (fun hc1 => ?_) (fun hc1 => ?_)
    · replace hj1 := cond_t hc1 hj1
      refine g_skip ?_
      refine g_seq ?_
      refine g_block ?_
      refine g_seq ?_
      refine g_region ?_
      refine go_p rfl rfl rfl (o_move rfl) ?_
      refine go_p rfl rfl rfl (o_assign rfl) ?_
      refine go_nil ?_
      refine g_seq ?_
      refine g_region ?_
      refine go_p rfl rfl rfl (o_move rfl) ?_
      refine go_p rfl rfl rfl (o_move rfl) ?_
      refine go_p rfl rfl rfl (o_move rfl) ?_
      obtain ⟨x2, hx1, hj1⟩ := bind_some hj1
      refine go_p rfl rfl rfl (o_indexAddr_m Tryz.runUnderlying181 Tryz.sizeOf9 rfl rfl hx1) ?_
      refine go_p rfl rfl rfl (o_load Tryz.isAgg9 rfl rfl) ?_
      refine go_p rfl rfl rfl (o_cmps rfl rfl rfl) ?_
      refine go_nil ?_
      refine g_cond rfl (fun hc2 => ?_) (fun hc2 => ?_)
      · replace hj1 := cond_t hc2 hj1
        refine g_seq ?_
        refine g_region ?_
        refine go_p rfl rfl rfl (o_move rfl) ?_
        refine go_p rfl rfl rfl (o_assign rfl) ?_
        refine go_nil ?_
        refine g_ret ?_
        obtain rfl := some_eq hj1
        replace hm1 := on_ret hm1
        exact retK (ret_one' rfl (ret_tmp rfl) (perm_drop _)) (congrArg (fun (p : Int) => (.i64 p : D)) (some_eq hm1))
      · replace hj1 := cond_f hc2 hj1
        refine g_skip ?_
        refine g_region ?_
        obtain ⟨hg2, hj1⟩ := grd_some hj1
        refine go_p rfl rfl rfl (o_add rfl rfl (i64_id hg2)) ?_
        refine go_p rfl rfl rfl (o_move rfl) ?_
        refine go_nil ?_
        exact ⟨_, (), hj1, ⟨rfl, trivial⟩, ⟨rfl, rfl, rfl, trivial⟩, [], rfl⟩
    · replace hj1 := cond_f hc1 hj1
      refine g_exit ?_
      exact ⟨_, (), some_eq hj1, trivial, trivial, [], rfl⟩
  · rintro _ _ hst
    subst hst
    replace hm1 := on_go hm1
    refine k_norm (L' := []) (ms' := []) rfl rfl ?_
    refine g_seq ?_
    refine g_region ?_
    refine go_p rfl rfl rfl (o_assign rfl) ?_
    refine go_nil ?_
    refine g_ret ?_
    exact retK (ret_one' rfl (ret_tmp rfl) (perm_drop _)) (congrArg (fun (p : Int) => (.i64 p : D)) (some_eq hm1))
def m_slices_Contains_string_string (s1 : (List (List UInt8))) (v1 : (List UInt8)) : Option Bool :=
  (m_slices_Index_string_string s1 v1).bind fun x1 =>
  some (decide (0 ≤ x1))
theorem w_slices_Contains_string_string {s1 : (List (List UInt8))} {v1 : (List UInt8)} {r_1 : Bool} (hm : m_slices_Contains_string_string s1 v1 = some r_1) : Fn0 Tryz.prog 172 [.list 1 D.str s1, .str v1] (.bool r_1) := by
  unfold m_slices_Contains_string_string at hm
  refine fn_intro Tryz.func172 rfl Tryz.ntmps172 rfl fun H0 fr w0 => ?_
  refine g_seq ?_
  refine g_region ?_
  refine go_p rfl rfl rfl (o_assign rfl) ?_
  refine go_nil ?_
  refine g_seq ?_
  refine g_region ?_
  refine go_p rfl rfl rfl (o_move rfl) ?_
  refine go_p rfl rfl rfl (o_move rfl) ?_
  obtain ⟨x1, hx1, hm⟩ := bind_some hm
  refine go_p rfl rfl rfl (o_call0 Tryz.call176 rfl (w_slices_Index_string_string hx1)) ?_
  refine go_p rfl rfl rfl (o_cmp rfl rfl rfl) ?_
  refine go_p rfl rfl rfl (o_assign rfl) ?_
  refine go_nil ?_
  refine g_ret ?_
  exact retK (ret_one' rfl (ret_tmp rfl) (perm_drop _)) (congrArg (fun (p : Bool) => (.bool p : D)) (some_eq hm))
def m_name_Keywords  : Option (List (List UInt8)) :=
  some [([102, 117, 110] : List UInt8), ([108, 101, 116] : List UInt8), ([114, 101, 99] : List UInt8), ([105, 110] : List UInt8), ([105, 102] : List UInt8), ([116, 104, 101, 110] : List UInt8), ([101, 108, 115, 101] : List UInt8), ([99, 97, 115, 101] : List UInt8), ([111, 102] : List UInt8), ([101, 110, 100] : List UInt8), ([116, 114, 117, 101] : List UInt8), ([102, 97, 108, 115, 101] : List UInt8), ([99, 104, 101, 99, 107] : List UInt8), ([97, 115, 107] : List UInt8), ([116, 111, 112] : List UInt8), ([98, 111, 116] : List UInt8), ([105, 110, 116] : List UInt8), ([98, 111, 111, 108] : List UInt8), ([115, 116, 114, 105, 110, 103] : List UInt8), ([109, 117] : List UInt8)]
theorem w_name_Keywords  {r_1 : (List (List UInt8))} (hm : m_name_Keywords = some r_1) : Fn0 Tryz.prog 173 [] (.list 1 D.str r_1) := by
  unfold m_name_Keywords at hm
  refine fn_intro Tryz.func173 rfl Tryz.ntmps173 rfl fun H0 fr w0 => ?_
  refine g_seq ?_
  refine g_region ?_
  refine go_p rfl rfl rfl (o_assign rfl) ?_
  refine go_conv (nilE (i := 0) (sz := 1) (f := D.str) rfl).refines ?_
  refine go_nil ?_
  refine g_seq ?_
  refine g_region ?_
  refine go_p rfl rfl rfl (o_buildSlice (xs := [_, _, _, _, _, _, _, _, _, _, _, _, _, _, _, _, _, _, _, _]) (f := D.str) (l := [_, _, _, _, _, _, _, _, _, _, _, _, _, _, _, _, _, _, _, _]) Tryz.runUnderlying181 Tryz.sizeOf9 Tryz.zeroValue9 rfl rfl rfl (fun _ => ⟨rfl, rfl, rfl⟩) rfl) ?_
  refine go_p rfl rfl rfl (o_assign rfl) ?_
  refine go_nil ?_
  refine g_ret ?_
  exact retK (ret_one' rfl (ret_tmp rfl) (perm_drop _)) (congrArg (fun (p : (List (List UInt8))) => (.list 1 D.str p : D)) (some_eq hm))
def m_name_Keyword (s1 : (List UInt8)) : Option Bool :=
  (m_name_Keywords).bind fun x1 =>
  (m_slices_Contains_string_string x1 s1).bind fun x2 =>
  some x2
theorem w_name_Keyword {s1 : (List UInt8)} {r_1 : Bool} (hm : m_name_Keyword s1 = some r_1) : Fn0 Tryz.prog 157 [.str s1] (.bool r_1) := by
  unfold m_name_Keyword at hm
  refine fn_intro Tryz.func157 rfl Tryz.ntmps157 rfl fun H0 fr w0 => ?_
  refine g_seq ?_
  refine g_region ?_
  refine go_p rfl rfl rfl (o_assign rfl) ?_
  refine go_nil ?_
  refine g_seq ?_
  refine g_region ?_
  obtain ⟨x1, hx1, hm⟩ := bind_some hm
  refine go_p rfl rfl rfl (o_call0 Tryz.call173 rfl (w_name_Keywords hx1)) ?_
  refine go_p rfl rfl rfl (o_move rfl) ?_
  obtain ⟨x2, hx2, hm⟩ := bind_some hm
  refine go_p rfl rfl rfl (o_call0 Tryz.call172 rfl (w_slices_Contains_string_string hx2)) ?_
  refine go_p rfl rfl rfl (o_assign rfl) ?_
  refine go_nil ?_
  refine g_ret ?_
  exact retK (ret_one' rfl (ret_tmp rfl) (perm_drop _)) (congrArg (fun (p : Bool) => (.bool p : D)) (some_eq hm))
def m_name_Name (s1 : (List UInt8)) : Option Bool :=
  (m_name_whole s1).bind fun x1 =>
  (bif x1 then ((idx s1 0).bind fun c1 =>
  (m_name_small c1).bind fun x2 =>
  some x2) else (some false)).bind fun p1 =>
  (bif p1 then ((m_name_Keyword s1).bind fun x3 =>
  some (!x3)) else (some false)).bind fun p2 =>
  some p2
theorem w_name_Name {s1 : (List UInt8)} {r_1 : Bool} (hm : m_name_Name s1 = some r_1) : Fn0 Tryz.prog 115 [.str s1] (.bool r_1) := by
  unfold m_name_Name at hm
  refine fn_intro Tryz.func115 rfl Tryz.ntmps115 rfl fun H0 fr w0 => ?_
  refine g_seq ?_
  refine g_region ?_
  refine go_p rfl rfl rfl (o_assign rfl) ?_
  refine go_nil ?_
  refine g_seq ?_
  refine g_region ?_
  refine go_p rfl rfl rfl (o_move rfl) ?_
  obtain ⟨x1, hx1, hm⟩ := bind_some hm
  refine go_p rfl rfl rfl (o_call0 Tryz.call155 rfl (w_name_whole hx1)) ?_
  refine go_p rfl rfl rfl (o_move rfl) ?_
  obtain ⟨p1, hp_1, hm⟩ := bind_some hm
  refine go_two [(0, _)] 4 9 p1 (t := 5) ⟨rfl, trivial⟩ rfl (fun hg_1 hk1 => ?_) (fun hg_1 hk1 => ?_) ?_
  · replace hp_1 := cond_t hg_1 hp_1
    refine go_wantp rfl rfl rfl hg_1 rfl rfl (o_move rfl) ?_
    obtain ⟨c1, hx2, hp_1⟩ := bind_some hp_1
    refine go_wantp rfl rfl rfl hg_1 rfl rfl (o_index_m Tryz.runUnderlying9 rfl rfl hx2) ?_
    obtain ⟨x2, hx3, hp_1⟩ := bind_some hp_1
    refine go_wantp rfl rfl rfl hg_1 rfl rfl (o_call0 Tryz.call156 rfl (w_name_small hx3)) ?_
    refine go_p rfl rfl rfl (o_pickT rfl hg_1 rfl) ?_
    exact go_meet hk1 (congrArg (fun b => some (D.bool b)) (some_eq hp_1)) ⟨rfl, trivial⟩
  · replace hp_1 := cond_f hg_1 hp_1
    refine go_skip rfl rfl rfl hg_1 rfl rfl ?_
    refine go_skip rfl rfl rfl hg_1 rfl rfl ?_
    refine go_skip rfl rfl rfl hg_1 rfl rfl ?_
    refine go_p rfl rfl rfl (o_pickF rfl hg_1 rfl) ?_
    exact go_meet hk1 (congrArg (fun b => some (D.bool b)) (some_eq hp_1)) ⟨rfl, trivial⟩
  refine go_p rfl rfl rfl (o_move rfl) ?_
  obtain ⟨p2, hp_2, hm⟩ := bind_some hm
  refine go_two [] 4 14 p2 (t := 10) trivial rfl (fun hg_2 hk2 => ?_) (fun hg_2 hk2 => ?_) ?_
  · replace hp_2 := cond_t hg_2 hp_2
    refine go_wantp rfl rfl rfl hg_2 rfl rfl (o_move rfl) ?_
    obtain ⟨x3, hx4, hp_2⟩ := bind_some hp_2
    refine go_wantp rfl rfl rfl hg_2 rfl rfl (o_call0 Tryz.call157 rfl (w_name_Keyword hx4)) ?_
    refine go_wantp rfl rfl rfl hg_2 rfl rfl (o_not rfl) ?_
    refine go_p rfl rfl rfl (o_pickT rfl hg_2 rfl) ?_
    exact go_meet hk2 (congrArg (fun b => some (D.bool b)) (some_eq hp_2)) trivial
  · replace hp_2 := cond_f hg_2 hp_2
    refine go_skip rfl rfl rfl hg_2 rfl rfl ?_
    refine go_skip rfl rfl rfl hg_2 rfl rfl ?_
    refine go_skip rfl rfl rfl hg_2 rfl rfl ?_
    refine go_p rfl rfl rfl (o_pickF rfl hg_2 rfl) ?_
    exact go_meet hk2 (congrArg (fun b => some (D.bool b)) (some_eq hp_2)) trivial
  refine go_p rfl rfl rfl (o_assign rfl) ?_
  refine go_nil ?_
  refine g_ret ?_
  exact retK (ret_one' rfl (ret_tmp rfl) (perm_drop _)) (congrArg (fun (p : Bool) => (.bool p : D)) (some_eq hm))
def m_name_Tag (s1 : (List UInt8)) : Option Bool :=
  (m_name_whole s1).bind fun x1 =>
  (bif x1 then ((idx s1 0).bind fun c1 =>
  (m_name_great c1).bind fun x2 =>
  some x2) else (some false)).bind fun p1 =>
  some p1
theorem w_name_Tag {s1 : (List UInt8)} {r_1 : Bool} (hm : m_name_Tag s1 = some r_1) : Fn0 Tryz.prog 116 [.str s1] (.bool r_1) := by
  unfold m_name_Tag at hm
  refine fn_intro Tryz.func116 rfl Tryz.ntmps116 rfl fun H0 fr w0 => ?_
  refine g_seq ?_
  refine g_region ?_
  refine go_p rfl rfl rfl (o_assign rfl) ?_
  refine go_nil ?_
  refine g_seq ?_
  refine g_region ?_
  refine go_p rfl rfl rfl (o_move rfl) ?_
  obtain ⟨x1, hx1, hm⟩ := bind_some hm
  refine go_p rfl rfl rfl (o_call0 Tryz.call155 rfl (w_name_whole hx1)) ?_
  refine go_p rfl rfl rfl (o_move rfl) ?_
  obtain ⟨p1, hp_1, hm⟩ := bind_some hm
  refine go_two [] 4 9 p1 (t := 5) trivial rfl (fun hg_1 hk1 => ?_) (fun hg_1 hk1 => ?_) ?_
  · replace hp_1 := cond_t hg_1 hp_1
    refine go_wantp rfl rfl rfl hg_1 rfl rfl (o_move rfl) ?_
    obtain ⟨c1, hx2, hp_1⟩ := bind_some hp_1
    refine go_wantp rfl rfl rfl hg_1 rfl rfl (o_index_m Tryz.runUnderlying9 rfl rfl hx2) ?_
    obtain ⟨x2, hx3, hp_1⟩ := bind_some hp_1
    refine go_wantp rfl rfl rfl hg_1 rfl rfl (o_call0 Tryz.call158 rfl (w_name_great hx3)) ?_
    refine go_p rfl rfl rfl (o_pickT rfl hg_1 rfl) ?_
    exact go_meet hk1 (congrArg (fun b => some (D.bool b)) (some_eq hp_1)) trivial
  · replace hp_1 := cond_f hg_1 hp_1
    refine go_skip rfl rfl rfl hg_1 rfl rfl ?_
    refine go_skip rfl rfl rfl hg_1 rfl rfl ?_
    refine go_skip rfl rfl rfl hg_1 rfl rfl ?_
    refine go_p rfl rfl rfl (o_pickF rfl hg_1 rfl) ?_
    exact go_meet hk1 (congrArg (fun b => some (D.bool b)) (some_eq hp_1)) trivial
  refine go_p rfl rfl rfl (o_assign rfl) ?_
  refine go_nil ?_
  refine g_ret ?_
  exact retK (ret_one' rfl (ret_tmp rfl) (perm_drop _)) (congrArg (fun (p : Bool) => (.bool p : D)) (some_eq hm))
def m_slices_IndexFunc_int_int_l1 (s1 : (List Int)) (f1 : (Int → Option Bool)) : Nat → Int → Option (Out Int Unit)
  | 0, _ => none
  | n + 1, x1 =>
    bif (decide (x1 < (s1.length : Int))) then
      (idx s1 x1).bind fun x2 =>
      (f1 x2).bind fun x3 =>
      bif x3 then
        some (Out.ret x1)
      else
        grd (InR (x1 + 1)) <|
        m_slices_IndexFunc_int_int_l1 s1 f1 n (x1 + 1)
    else
      some (Out.go (()))
def m_slices_IndexFunc_int_int (s1 : (List Int)) (f1 : (Int → Option Bool)) : Option Int :=
  ((m_slices_IndexFunc_int_int_l1 s1 f1 FU 0 : Option (Out Int Unit))).bind (fun oo => oo.on (fun r1 => some r1) (fun _ =>
  some (-1)))
theorem w_slices_IndexFunc_int_int {s1 : (List Int)} {f1 : (Int → Option Bool)} {r_1 : Int} {fv_f1 : D} (hff1 : FunOk1 Tryz.prog fv_f1 D.i64 D.bool f1) (hm : m_slices_IndexFunc_int_int s1 f1 = some r_1) : Fn0 Tryz.prog 74 [.list 1 D.i64 s1, fv_f1] (.i64 r_1) := by
  unfold m_slices_IndexFunc_int_int at hm
  refine fn_intro Tryz.func74 rfl Tryz.ntmps74 rfl fun H0 fr w0 => ?_
  refine g_seq ?_
  refine g_region ?_
  refine go_p rfl rfl rfl (o_assign rfl) ?_
  refine go_nil ?_
  refine g_seq ?_
  refine g_seq ?_
  refine g_region ?_
  refine go_p rfl rfl rfl (o_move rfl) ?_
  refine go_p rfl rfl rfl (o_len Tryz.runUnderlying49 rfl) ?_
  refine go_p rfl rfl rfl (o_move rfl) ?_
  refine go_nil ?_
  obtain ⟨o_1, hj1, hm1⟩ := bind_some hm
  refine g_cut_m [] [] (fun (st : Unit) (hid : Unit) => match st, hid with | _, _ => []) (fun F (st : Unit) (hid : Unit) => match st, hid with | _, _ => []) (fun st => Out.go (st) = o_1) trivial trivial ?_ ?_
  · skip
    refine g_block ?_
    refine g_loop_m [(0, _), (1, _), (7, _)] [] (fun (st : Int) (hid : Unit) => match st, hid with | x1, _ => [(8, .i64 x1)]) (fun F (st : Int) (hid : Unit) => match st, hid with | x1, _ => []) () hj1 (fun _ => rfl) ⟨rfl, rfl, rfl, trivial⟩ trivial ⟨rfl, trivial⟩ rfl ?_
    rintro n x1 _ hj1
    rw [m_slices_IndexFunc_int_int_l1] at hj1
    refine g_norm (L' := [(8, .i64 x1), (0, _), (1, _), (7, _)]) (ms' := []) rfl rfl ?_
    refine g_seq ?_
    refine g_region ?_
    refine go_p rfl rfl rfl (o_cmp rfl rfl rfl) ?_
    refine go_nil ?_
    refine g_seq ?_
    refine g_cond rfl (fun hc1 => ?_) (fun hc1 => ?_)
    · replace hj1 := cond_t hc1 hj1
      refine g_skip ?_
      refine g_seq ?_
      refine g_block ?_
      refine g_seq ?_
      refine g_region ?_
      refine go_p rfl rfl rfl (o_move rfl) ?_
      refine go_p rfl rfl rfl (o_assign rfl) ?_
      refine go_nil ?_
      refine g_seq ?_
      refine g_region ?_
      refine go_p rfl rfl rfl (o_move rfl) ?_
      refine go_p rfl rfl rfl (o_move rfl) ?_
      refine go_p rfl rfl rfl (o_move rfl) ?_
      obtain ⟨x2, hx1, hj1⟩ := bind_some hj1
      refine go_p rfl rfl rfl (o_indexAddr_m Tryz.runUnderlying49 Tryz.sizeOf3 rfl rfl hx1) ?_
      refine go_p rfl rfl rfl (o_load Tryz.isAgg3 rfl rfl) ?_
      obtain ⟨x3, hx2, hj1⟩ := bind_some hj1
      refine go_p rfl rfl rfl (o_callv0 rfl rfl (hff1 _ _ hx2)) ?_
      refine go_nil ?_
      refine g_cond rfl (fun hc2 => ?_) (fun hc2 => ?_)
      · replace hj1 := cond_t hc2 hj1
        refine g_seq ?_
        refine g_region ?_
        refine go_p rfl rfl rfl (o_move rfl) ?_
        refine go_p rfl rfl rfl (o_assign rfl) ?_
        refine go_nil ?_
        refine g_ret ?_
        obtain rfl := some_eq hj1
        replace hm1 := on_ret hm1
        exact retK (ret_one' rfl (ret_tmp rfl) (perm_drop _)) (congrArg (fun (p : Int) => (.i64 p : D)) (some_eq hm1))
      · replace hj1 := cond_f hc2 hj1
        refine g_skip ?_
        refine g_region ?_
        obtain ⟨hg3, hj1⟩ := grd_some hj1
        refine go_p rfl rfl rfl (o_add rfl rfl (i64_id hg3)) ?_
        refine go_p rfl rfl rfl (o_move rfl) ?_
        refine go_nil ?_
        exact ⟨_, (), hj1, ⟨rfl, trivial⟩, ⟨rfl, rfl, rfl, trivial⟩, [], rfl⟩
    · replace hj1 := cond_f hc1 hj1
      refine g_exit ?_
      exact ⟨_, (), some_eq hj1, trivial, trivial, [], rfl⟩
  · rintro _ _ hst
    subst hst
    replace hm1 := on_go hm1
    refine k_norm (L' := []) (ms' := []) rfl rfl ?_
    refine g_seq ?_
    refine g_region ?_
    refine go_p rfl rfl rfl (o_assign rfl) ?_
    refine go_nil ?_
    refine g_ret ?_
    exact retK (ret_one' rfl (ret_tmp rfl) (perm_drop _)) (congrArg (fun (p : Int) => (.i64 p : D)) (some_eq hm1))
def m_slices_ContainsFunc_int_int (s1 : (List Int)) (f1 : (Int → Option Bool)) : Option Bool :=
  (m_slices_IndexFunc_int_int s1 f1).bind fun x1 =>
  some (decide (0 ≤ x1))
theorem w_slices_ContainsFunc_int_int {s1 : (List Int)} {f1 : (Int → Option Bool)} {r_1 : Bool} {fv_f1 : D} (hff1 : FunOk1 Tryz.prog fv_f1 D.i64 D.bool f1) (hm : m_slices_ContainsFunc_int_int s1 f1 = some r_1) : Fn0 Tryz.prog 117 [.list 1 D.i64 s1, fv_f1] (.bool r_1) := by
  unfold m_slices_ContainsFunc_int_int at hm
  refine fn_intro Tryz.func117 rfl Tryz.ntmps117 rfl fun H0 fr w0 => ?_
  refine g_seq ?_
  refine g_region ?_
  refine go_p rfl rfl rfl (o_assign rfl) ?_
  refine go_nil ?_
  refine g_seq ?_
  refine g_region ?_
  refine go_p rfl rfl rfl (o_move rfl) ?_
  refine go_p rfl rfl rfl (o_move rfl) ?_
  obtain ⟨x1, hx1, hm⟩ := bind_some hm
  refine go_p rfl rfl rfl (o_call0 Tryz.call74 rfl (w_slices_IndexFunc_int_int hff1 hx1)) ?_
  refine go_p rfl rfl rfl (o_cmp rfl rfl rfl) ?_
  refine go_p rfl rfl rfl (o_assign rfl) ?_
  refine go_nil ?_
  refine g_ret ?_
  exact retK (ret_one' rfl (ret_tmp rfl) (perm_drop _)) (congrArg (fun (p : Bool) => (.bool p : D)) (some_eq hm))
def m_auto_Auto_right_1 (k1 : Int) (c1 : AutoAuto) (c2 : AutoState) : Option Bool :=
  (m_auto_Auto_on c1 k1 c2.plus).bind fun x1 =>
  some (!x1)
theorem w_auto_Auto_right_1 {k1 : Int} {c1 : AutoAuto} {c2 : AutoState} {r_1 : Bool} (hm : m_auto_Auto_right_1 k1 c1 c2 = some r_1) : Fn0 Tryz.prog 120 [.i64 k1, .ref (AutoAuto.d c1), .ref (AutoState.d c2)] (.bool r_1) := by
  unfold m_auto_Auto_right_1 at hm
  refine fn_intro Tryz.func120 rfl Tryz.ntmps120 rfl fun H0 fr w0 => ?_
  refine g_seq ?_
  refine g_region ?_
  refine go_p rfl rfl rfl (o_assign rfl) ?_
  refine go_nil ?_
  refine g_seq ?_
  refine g_region ?_
  refine go_p rfl rfl rfl (o_load_agg Tryz.isAgg27 Tryz.sizeOf27 rfl rfl) ?_
  refine go_p rfl rfl rfl (o_move rfl) ?_
  refine go_p rfl rfl rfl (o_fieldAddr fi_60_0 rfl rfl rfl) ?_
  refine go_p rfl rfl rfl (o_load Tryz.isAgg4 rfl rfl) ?_
  obtain ⟨x1, hx1, hm⟩ := bind_some hm
  refine go_p rfl rfl rfl (o_call0 Tryz.call83 rfl (w_auto_Auto_on hx1)) ?_
  refine go_p rfl rfl rfl (o_not rfl) ?_
  refine go_p rfl rfl rfl (o_assign rfl) ?_
  refine go_nil ?_
  refine g_ret ?_
  exact retK (ret_one' rfl (ret_tmp rfl) (perm_drop _)) (congrArg (fun (p : Bool) => (.bool p : D)) (some_eq hm))
def m_auto_Auto_right (a1 : AutoAuto) (s1 : AutoState) : Option Bool :=
  (m_auto_bare s1).bind fun x1 =>
  (bif (!x1) then (some true) else ((m_auto_numbered s1.vars).bind fun x2 =>
  some (!x2))).bind fun p1 =>
  (bif p1 then (some true) else ((m_auto_named s1.fields (fun y0 => m_name_Name y0)).bind fun x3 =>
  some (!x3))).bind fun p2 =>
  (bif p2 then (some true) else ((m_auto_named s1.tags (fun y0 => m_name_Tag y0)).bind fun x4 =>
  some (!x4))).bind fun p3 =>
  bif p3 then
    some false
  else
    (bif s1.arrow then ((m_auto_Auto_on a1 s1.dom (!s1.plus)).bind fun x5 =>
    (bif (!x5) then (some true) else ((m_auto_Auto_on a1 s1.cod s1.plus).bind fun x6 =>
    some (!x6))).bind fun p5 =>
    some p5) else (some false)).bind fun p4 =>
    bif p4 then
      some false
    else
      (m_auto_tos s1.fields).bind fun x7 =>
      (m_auto_tos s1.tags).bind fun x8 =>
      (m_slices_Concat_int_int [x7, x8]).bind fun x9 =>
      (m_slices_ContainsFunc_int_int x9 (fun y0 => m_auto_Auto_right_1 y0 a1 s1)).bind fun x10 =>
      some (!x10)
theorem w_auto_Auto_right {a1 : AutoAuto} {s1 : AutoState} {r_1 : Bool} (hm : m_auto_Auto_right a1 s1 = some r_1) : Fn0 Tryz.prog 85 [AutoAuto.d a1, AutoState.d s1] (.bool r_1) := by
  unfold m_auto_Auto_right at hm
  refine fn_intro Tryz.func85 rfl Tryz.ntmps85 rfl fun H0 fr w0 => ?_
  refine g_seq ?_
  refine g_region ?_
  refine go_p rfl rfl rfl (o_box rfl rfl) ?_
  refine go_p rfl rfl rfl (o_box rfl rfl) ?_
  refine go_p rfl rfl rfl (o_assign rfl) ?_
  refine go_nil ?_
  refine g_seq ?_
  refine g_seq ?_
  refine g_region ?_
  refine go_p rfl rfl rfl (o_load_agg Tryz.isAgg60 Tryz.sizeOf60 rfl rfl) ?_
  obtain ⟨x1, hx1, hm⟩ := bind_some hm
  refine go_p rfl rfl rfl (o_call0 Tryz.call112 rfl (w_auto_bare hx1)) ?_
  refine go_p rfl rfl rfl (o_not rfl) ?_
  refine go_p rfl rfl rfl (o_move rfl) ?_
  obtain ⟨p1, hp_1, hm⟩ := bind_some hm
  refine go_two [(2, _), (3, _)] 5 13 p1 (t := 8) ⟨rfl, rfl, trivial⟩ rfl (fun hg_1 hk1 => ?_) (fun hg_1 hk1 => ?_) ?_
  · replace hp_1 := cond_t hg_1 hp_1
    refine go_skip rfl rfl rfl hg_1 rfl rfl ?_
    refine go_skip rfl rfl rfl hg_1 rfl rfl ?_
    refine go_skip rfl rfl rfl hg_1 rfl rfl ?_
    refine go_skip rfl rfl rfl hg_1 rfl rfl ?_
    refine go_p rfl rfl rfl (o_pickT rfl hg_1 rfl) ?_
    exact go_meet hk1 (congrArg (fun b => some (D.bool b)) (some_eq hp_1)) ⟨rfl, rfl, trivial⟩
  · replace hp_1 := cond_f hg_1 hp_1
    refine go_wantp rfl rfl rfl hg_1 rfl rfl (o_fieldAddr fi_60_8 rfl rfl rfl) ?_
    refine go_wantp rfl rfl rfl hg_1 rfl rfl (o_load Tryz.isAgg49 rfl rfl) ?_
    obtain ⟨x2, hx2, hp_1⟩ := bind_some hp_1
    refine go_wantp rfl rfl rfl hg_1 rfl rfl (o_call0 Tryz.call113 rfl (w_auto_numbered hx2)) ?_
    refine go_wantp rfl rfl rfl hg_1 rfl rfl (o_not rfl) ?_
    refine go_p rfl rfl rfl (o_pickF rfl hg_1 rfl) ?_
    exact go_meet hk1 (congrArg (fun b => some (D.bool b)) (some_eq hp_1)) ⟨rfl, rfl, trivial⟩
  refine go_p rfl rfl rfl (o_move rfl) ?_
  obtain ⟨p2, hp_2, hm⟩ := bind_some hm
  refine go_two [(2, _), (3, _)] 5 19 p2 (t := 14) ⟨rfl, rfl, trivial⟩ rfl (fun hg_2 hk2 => ?_) (fun hg_2 hk2 => ?_) ?_
  · replace hp_2 := cond_t hg_2 hp_2
    refine go_skip rfl rfl rfl hg_2 rfl rfl ?_
    refine go_skip rfl rfl rfl hg_2 rfl rfl ?_
    refine go_skip rfl rfl rfl hg_2 rfl rfl ?_
    refine go_skip rfl rfl rfl hg_2 rfl rfl ?_
    refine go_p rfl rfl rfl (o_pickT rfl hg_2 rfl) ?_
    exact go_meet hk2 (congrArg (fun b => some (D.bool b)) (some_eq hp_2)) ⟨rfl, rfl, trivial⟩
  · replace hp_2 := cond_f hg_2 hp_2
    refine go_wantp rfl rfl rfl hg_2 rfl rfl (o_fieldAddr fi_60_11 rfl rfl rfl) ?_
    refine go_wantp rfl rfl rfl hg_2 rfl rfl (o_load Tryz.isAgg58 rfl rfl) ?_
    obtain ⟨x3, hx3, hp_2⟩ := bind_some hp_2
    refine go_wantp rfl rfl rfl hg_2 rfl rfl (o_call0 Tryz.call114 rfl (w_auto_named (fun _ _ h => fv_func Tryz.call115 (w_name_Name h)) hx3)) ?_
    refine go_wantp rfl rfl rfl hg_2 rfl rfl (o_not rfl) ?_
    refine go_p rfl rfl rfl (o_pickF rfl hg_2 rfl) ?_
    exact go_meet hk2 (congrArg (fun b => some (D.bool b)) (some_eq hp_2)) ⟨rfl, rfl, trivial⟩
  refine go_p rfl rfl rfl (o_move rfl) ?_
  obtain ⟨p3, hp_3, hm⟩ := bind_some hm
  refine go_two [(2, _), (3, _)] 5 25 p3 (t := 20) ⟨rfl, rfl, trivial⟩ rfl (fun hg_3 hk3 => ?_) (fun hg_3 hk3 => ?_) ?_
  · replace hp_3 := cond_t hg_3 hp_3
    refine go_skip rfl rfl rfl hg_3 rfl rfl ?_
    refine go_skip rfl rfl rfl hg_3 rfl rfl ?_
    refine go_skip rfl rfl rfl hg_3 rfl rfl ?_
    refine go_skip rfl rfl rfl hg_3 rfl rfl ?_
    refine go_p rfl rfl rfl (o_pickT rfl hg_3 rfl) ?_
    exact go_meet hk3 (congrArg (fun b => some (D.bool b)) (some_eq hp_3)) ⟨rfl, rfl, trivial⟩
  · replace hp_3 := cond_f hg_3 hp_3
    refine go_wantp rfl rfl rfl hg_3 rfl rfl (o_fieldAddr fi_60_12 rfl rfl rfl) ?_
    refine go_wantp rfl rfl rfl hg_3 rfl rfl (o_load Tryz.isAgg58 rfl rfl) ?_
    obtain ⟨x4, hx4, hp_3⟩ := bind_some hp_3
    refine go_wantp rfl rfl rfl hg_3 rfl rfl (o_call0 Tryz.call114 rfl (w_auto_named (fun _ _ h => fv_func Tryz.call116 (w_name_Tag h)) hx4)) ?_
    refine go_wantp rfl rfl rfl hg_3 rfl rfl (o_not rfl) ?_
    refine go_p rfl rfl rfl (o_pickF rfl hg_3 rfl) ?_
    exact go_meet hk3 (congrArg (fun b => some (D.bool b)) (some_eq hp_3)) ⟨rfl, rfl, trivial⟩
  refine go_nil ?_
  refine g_cond rfl (fun hc1 => ?_) (fun hc1 => ?_)
  · replace hm := cond_t hc1 hm
    refine g_seq ?_
    refine g_region ?_
    refine go_p rfl rfl rfl (o_assign rfl) ?_
    refine go_nil ?_
    refine g_ret ?_
    exact retK (ret_one' rfl (ret_tmp rfl) (perm_drop _)) (congrArg (fun (p : Bool) => (.bool p : D)) (some_eq hm))
  · replace hm := cond_f hc1 hm
    refine g_skip ?_
    refine g_seq ?_
    refine g_seq ?_
    refine g_region ?_
    refine go_p rfl rfl rfl (o_fieldAddr fi_60_5 rfl rfl rfl) ?_
    refine go_p rfl rfl rfl (o_load Tryz.isAgg4 rfl rfl) ?_
    refine go_p rfl rfl rfl (o_move rfl) ?_
    obtain ⟨p4, hp_4, hm⟩ := bind_some hm
    refine go_two [(2, _), (3, _)] 18 46 p4 (t := 28) ⟨rfl, rfl, trivial⟩ rfl (fun hg_4 hk4 => ?_) (fun hg_4 hk4 => ?_) ?_
    · replace hp_4 := cond_t hg_4 hp_4
      refine go_wantp rfl rfl rfl hg_4 rfl rfl (o_load_agg Tryz.isAgg27 Tryz.sizeOf27 rfl rfl) ?_
      refine go_wantp rfl rfl rfl hg_4 rfl rfl (o_fieldAddr fi_60_9 rfl rfl rfl) ?_
      refine go_wantp rfl rfl rfl hg_4 rfl rfl (o_load Tryz.isAgg3 rfl rfl) ?_
      refine go_wantp rfl rfl rfl hg_4 rfl rfl (o_fieldAddr fi_60_0 rfl rfl rfl) ?_
      refine go_wantp rfl rfl rfl hg_4 rfl rfl (o_load Tryz.isAgg4 rfl rfl) ?_
      refine go_wantp rfl rfl rfl hg_4 rfl rfl (o_not rfl) ?_
      obtain ⟨x5, hx5, hp_4⟩ := bind_some hp_4
      refine go_wantp rfl rfl rfl hg_4 rfl rfl (o_call0 Tryz.call83 rfl (w_auto_Auto_on hx5)) ?_
      refine go_wantp rfl rfl rfl hg_4 rfl rfl (o_not rfl) ?_
      refine go_wantp rfl rfl rfl hg_4 rfl rfl (o_move rfl) ?_
      obtain ⟨p5, hp_5, hp_4⟩ := bind_some hp_4
      refine go_two [(2, _), (3, _), (28, _)] 8 45 p5 (t := 37) ⟨rfl, rfl, rfl, trivial⟩ rfl (fun hg_5 hk5 => ?_) (fun hg_5 hk5 => ?_) ?_
      · replace hp_5 := cond_t hg_5 hp_5
        refine go_skip rfl rfl rfl hg_5 rfl rfl ?_
        refine go_skip rfl rfl rfl hg_5 rfl rfl ?_
        refine go_skip rfl rfl rfl hg_5 rfl rfl ?_
        refine go_skip rfl rfl rfl hg_5 rfl rfl ?_
        refine go_skip rfl rfl rfl hg_5 rfl rfl ?_
        refine go_skip rfl rfl rfl hg_5 rfl rfl ?_
        refine go_skip rfl rfl rfl hg_5 rfl rfl ?_
        refine go_wantp rfl rfl rfl hg_4 rfl rfl (o_pickT rfl hg_5 rfl) ?_
        exact go_meet hk5 (congrArg (fun b => some (D.bool b)) (some_eq hp_5)) ⟨rfl, rfl, rfl, trivial⟩
      · replace hp_5 := cond_f hg_5 hp_5
        refine go_wantp rfl rfl rfl hg_5 rfl rfl (o_load_agg Tryz.isAgg27 Tryz.sizeOf27 rfl rfl) ?_
        refine go_wantp rfl rfl rfl hg_5 rfl rfl (o_fieldAddr fi_60_10 rfl rfl rfl) ?_
        refine go_wantp rfl rfl rfl hg_5 rfl rfl (o_load Tryz.isAgg3 rfl rfl) ?_
        refine go_wantp rfl rfl rfl hg_5 rfl rfl (o_fieldAddr fi_60_0 rfl rfl rfl) ?_
        refine go_wantp rfl rfl rfl hg_5 rfl rfl (o_load Tryz.isAgg4 rfl rfl) ?_
        obtain ⟨x6, hx6, hp_5⟩ := bind_some hp_5
        refine go_wantp rfl rfl rfl hg_5 rfl rfl (o_call0 Tryz.call83 rfl (w_auto_Auto_on hx6)) ?_
        refine go_wantp rfl rfl rfl hg_5 rfl rfl (o_not rfl) ?_
        refine go_wantp rfl rfl rfl hg_4 rfl rfl (o_pickF rfl hg_5 rfl) ?_
        exact go_meet hk5 (congrArg (fun b => some (D.bool b)) (some_eq hp_5)) ⟨rfl, rfl, rfl, trivial⟩
      refine go_p rfl rfl rfl (o_pickT rfl hg_4 rfl) ?_
      exact go_meet hk4 (congrArg (fun b => some (D.bool b)) (some_eq hp_4)) ⟨rfl, rfl, trivial⟩
    · replace hp_4 := cond_f hg_4 hp_4
      refine go_skip rfl rfl rfl hg_4 rfl rfl ?_
      refine go_skip rfl rfl rfl hg_4 rfl rfl ?_
      refine go_skip rfl rfl rfl hg_4 rfl rfl ?_
      refine go_skip rfl rfl rfl hg_4 rfl rfl ?_
      refine go_skip rfl rfl rfl hg_4 rfl rfl ?_
      refine go_skip rfl rfl rfl hg_4 rfl rfl ?_
      refine go_skip rfl rfl rfl hg_4 rfl rfl ?_
      refine go_skip rfl rfl rfl hg_4 rfl rfl ?_
      refine go_skip rfl rfl rfl hg_4 rfl rfl ?_
      refine go_skipu rfl rfl rfl rfl rfl ?_
      refine go_skipu rfl rfl rfl rfl rfl ?_
      refine go_skipu rfl rfl rfl rfl rfl ?_
      refine go_skipu rfl rfl rfl rfl rfl ?_
      refine go_skipu rfl rfl rfl rfl rfl ?_
      refine go_skipu rfl rfl rfl rfl rfl ?_
      refine go_skipu rfl rfl rfl rfl rfl ?_
      refine go_skip rfl rfl rfl hg_4 rfl rfl ?_
      refine go_p rfl rfl rfl (o_pickF rfl hg_4 rfl) ?_
      exact go_meet hk4 (congrArg (fun b => some (D.bool b)) (some_eq hp_4)) ⟨rfl, rfl, trivial⟩
    refine go_nil ?_
    refine g_cond rfl (fun hc2 => ?_) (fun hc2 => ?_)
    · replace hm := cond_t hc2 hm
      refine g_seq ?_
      refine g_region ?_
      refine go_p rfl rfl rfl (o_assign rfl) ?_
      refine go_nil ?_
      refine g_ret ?_
      exact retK (ret_one' rfl (ret_tmp rfl) (perm_drop _)) (congrArg (fun (p : Bool) => (.bool p : D)) (some_eq hm))
    · replace hm := cond_f hc2 hm
      refine g_skip ?_
      refine g_seq ?_
      obtain ⟨x7, hx7, hm⟩ := bind_some hm
      obtain ⟨x8, hx8, hm⟩ := bind_some hm
      obtain ⟨x9, hx9, hm⟩ := bind_some hm
      obtain ⟨x10, hx10, hm⟩ := bind_some hm
      refine g_draw 12 Tryz_mixed (by decide +kernel) ?_
      refine gd_p rfl rfl rfl (o_fieldAddr fi_60_11 rfl rfl rfl) ?_
      refine gd_p rfl rfl rfl (o_load Tryz.isAgg58 rfl rfl) ?_
      refine gd_p rfl rfl rfl (o_call0 Tryz.call119 rfl (w_auto_tos hx7)) ?_
      refine gd_p rfl rfl rfl (o_fieldAddr fi_60_12 rfl rfl rfl) ?_
      refine gd_p rfl rfl rfl (o_load Tryz.isAgg58 rfl rfl) ?_
      refine gd_p rfl rfl rfl (o_call0 Tryz.call119 rfl (w_auto_tos hx8)) ?_
      refine gd_p rfl rfl rfl (o_buildSlice (xs := [_, _]) (f := (D.list 1 D.i64)) (l := [_, _]) Tryz.runUnderlying184 Tryz.sizeOf49 Tryz.zeroValue49 rfl rfl rfl (fun _ => ⟨rfl, rfl, rfl⟩) rfl) ?_
      refine gd_p rfl rfl rfl (o_call0 Tryz.call118 rfl (w_slices_Concat_int_int hx9)) ?_
      refine gd_p rfl rfl rfl (o_makeFunc rfl rfl) ?_
      refine gd_p rfl rfl rfl (o_call0 Tryz.call117 rfl (w_slices_ContainsFunc_int_int (fun _ _ h => fv_clo Tryz.call120 (w_auto_Auto_right_1 h)) hx10)) ?_
      refine gd_p rfl rfl rfl (o_not rfl) ?_
      refine gd_p rfl rfl rfl (o_assign rfl) ?_
      refine gd_nil ?_
      refine go_nil ?_
      refine g_ret ?_
      exact retK (ret_one' rfl (ret_tmp rfl) (perm_drop _)) (congrArg (fun (p : Bool) => (.bool p : D)) (some_eq hm))
def m_auto_May_1 (s1 : AutoState) (c1 : AutoAuto) : Option Bool :=
  (m_auto_Auto_right c1 s1).bind fun x1 =>
  some (!x1)
theorem w_auto_May_1 {s1 : AutoState} {c1 : AutoAuto} {r_1 : Bool} (hm : m_auto_May_1 s1 c1 = some r_1) : Fn0 Tryz.prog 84 [AutoState.d s1, .ref (AutoAuto.d c1)] (.bool r_1) := by
  unfold m_auto_May_1 at hm
  refine fn_intro Tryz.func84 rfl Tryz.ntmps84 rfl fun H0 fr w0 => ?_
  refine g_seq ?_
  refine g_region ?_
  refine go_p rfl rfl rfl (o_box rfl rfl) ?_
  refine go_p rfl rfl rfl (o_assign rfl) ?_
  refine go_nil ?_
  refine g_seq ?_
  refine g_region ?_
  refine go_p rfl rfl rfl (o_load_agg Tryz.isAgg27 Tryz.sizeOf27 rfl rfl) ?_
  refine go_p rfl rfl rfl (o_load_agg Tryz.isAgg60 Tryz.sizeOf60 rfl rfl) ?_
  obtain ⟨x1, hx1, hm⟩ := bind_some hm
  refine go_p rfl rfl rfl (o_call0 Tryz.call85 rfl (w_auto_Auto_right hx1)) ?_
  refine go_p rfl rfl rfl (o_not rfl) ?_
  refine go_p rfl rfl rfl (o_assign rfl) ?_
  refine go_nil ?_
  refine g_ret ?_
  exact retK (ret_one' rfl (ret_tmp rfl) (perm_drop _)) (congrArg (fun (p : Bool) => (.bool p : D)) (some_eq hm))
def m_auto_May (a1 : AutoAuto) : Option Int :=
  bif ((decide ((a1.l.length : Int) = 0)) || (decide (2000 < (a1.l.length : Int)))) then
    some 8
  else
    (m_auto_Auto_on a1 a1.start true).bind fun x1 =>
    (bif (!x1) then (some true) else ((m_slices_ContainsFunc_auto_State_auto_State a1.l (fun y0 => m_auto_May_1 y0 a1)).bind fun x2 =>
    some x2)).bind fun p1 =>
    bif p1 then
      some 4
    else
      some 0
theorem w_auto_May {a1 : AutoAuto} {r_1 : Int} (hm : m_auto_May a1 = some r_1) : Fn0 Tryz.prog 61 [AutoAuto.d a1] (.i64 r_1) := by
  unfold m_auto_May at hm
  refine fn_intro Tryz.func61 rfl Tryz.ntmps61 rfl fun H0 fr w0 => ?_
  refine g_seq ?_
  refine g_region ?_
  refine go_p rfl rfl rfl (o_box rfl rfl) ?_
  refine go_p rfl rfl rfl (o_assign rfl) ?_
  refine go_nil ?_
  refine g_seq ?_
  refine g_seq ?_
  refine g_region ?_
  refine go_p rfl rfl rfl (o_fieldAddr fi_27_0 rfl rfl rfl) ?_
  refine go_p rfl rfl rfl (o_load Tryz.isAgg25 rfl rfl) ?_
  refine go_p rfl rfl rfl (o_len Tryz.runUnderlying25 rfl) ?_
  refine go_p rfl rfl rfl (o_cmp rfl rfl rfl) ?_
  refine go_p rfl rfl rfl (o_move rfl) ?_
  apply go_or [(1, _)] 5 12 (t := 7) ⟨rfl, trivial⟩ rfl
  · intro hg_1 hk1
    refine go_wantp rfl rfl rfl hg_1 rfl rfl (o_fieldAddr fi_27_0 rfl rfl rfl) ?_
    refine go_wantp rfl rfl rfl hg_1 rfl rfl (o_load Tryz.isAgg25 rfl rfl) ?_
    refine go_wantp rfl rfl rfl hg_1 rfl rfl (o_len Tryz.runUnderlying25 rfl) ?_
    refine go_wantp rfl rfl rfl hg_1 rfl rfl (o_cmp rfl rfl rfl) ?_
    refine go_p rfl rfl rfl (o_pickF rfl hg_1 rfl) ?_
    exact go_meet hk1 (rfl) ⟨rfl, trivial⟩
  · intro hg_1 hk1
    refine go_skip rfl rfl rfl hg_1 rfl rfl ?_
    refine go_skip rfl rfl rfl hg_1 rfl rfl ?_
    refine go_skip rfl rfl rfl hg_1 rfl rfl ?_
    refine go_skip rfl rfl rfl hg_1 rfl rfl ?_
    refine go_p rfl rfl rfl (o_pickT rfl hg_1 rfl) ?_
    exact go_meet hk1 (rfl) ⟨rfl, trivial⟩
  refine go_nil ?_
  refine g_cond rfl (fun hc1 => ?_) (fun hc1 => ?_)
  · replace hm := cond_t hc1 hm
    refine g_seq ?_
    refine g_region ?_
    refine go_p rfl rfl rfl (o_assign rfl) ?_
    refine go_nil ?_
    refine g_ret ?_
    exact retK (ret_one' rfl (ret_tmp rfl) (perm_drop _)) (congrArg (fun (p : Int) => (.i64 p : D)) (some_eq hm))
  · replace hm := cond_f hc1 hm
    refine g_skip ?_
    refine g_seq ?_
    refine g_seq ?_
    refine g_region ?_
    refine go_p rfl rfl rfl (o_load_agg Tryz.isAgg27 Tryz.sizeOf27 rfl rfl) ?_
    refine go_p rfl rfl rfl (o_fieldAddr fi_27_1 rfl rfl rfl) ?_
    refine go_p rfl rfl rfl (o_load Tryz.isAgg3 rfl rfl) ?_
    obtain ⟨x1, hx1, hm⟩ := bind_some hm
    refine go_p rfl rfl rfl (o_call0 Tryz.call83 rfl (w_auto_Auto_on hx1)) ?_
    refine go_p rfl rfl rfl (o_not rfl) ?_
    refine go_p rfl rfl rfl (o_move rfl) ?_
    obtain ⟨p1, hp_2, hm⟩ := bind_some hm
    refine go_two [] 5 23 p1 (t := 18) trivial rfl (fun hg_2 hk2 => ?_) (fun hg_2 hk2 => ?_) ?_
    · replace hp_2 := cond_t hg_2 hp_2
      refine go_skip rfl rfl rfl hg_2 rfl rfl ?_
      refine go_skip rfl rfl rfl hg_2 rfl rfl ?_
      refine go_skip rfl rfl rfl hg_2 rfl rfl ?_
      refine go_skip rfl rfl rfl hg_2 rfl rfl ?_
      refine go_p rfl rfl rfl (o_pickT rfl hg_2 rfl) ?_
      exact go_meet hk2 (congrArg (fun b => some (D.bool b)) (some_eq hp_2)) trivial
    · replace hp_2 := cond_f hg_2 hp_2
      refine go_wantp rfl rfl rfl hg_2 rfl rfl (o_fieldAddr fi_27_0 rfl rfl rfl) ?_
      refine go_wantp rfl rfl rfl hg_2 rfl rfl (o_load Tryz.isAgg25 rfl rfl) ?_
      refine go_wantp rfl rfl rfl hg_2 rfl rfl (o_makeFunc rfl rfl) ?_
      obtain ⟨x2, hx2, hp_2⟩ := bind_some hp_2
      refine go_wantp rfl rfl rfl hg_2 rfl rfl (o_call0 Tryz.call72 rfl (w_slices_ContainsFunc_auto_State_auto_State (fun _ _ h => fv_clo Tryz.call84 (w_auto_May_1 h)) hx2)) ?_
      refine go_p rfl rfl rfl (o_pickF rfl hg_2 rfl) ?_
      exact go_meet hk2 (congrArg (fun b => some (D.bool b)) (some_eq hp_2)) trivial
    refine go_nil ?_
    refine g_cond rfl (fun hc2 => ?_) (fun hc2 => ?_)
    · replace hm := cond_t hc2 hm
      refine g_seq ?_
      refine g_region ?_
      refine go_p rfl rfl rfl (o_assign rfl) ?_
      refine go_nil ?_
      refine g_ret ?_
      exact retK (ret_one' rfl (ret_tmp rfl) (perm_drop _)) (congrArg (fun (p : Int) => (.i64 p : D)) (some_eq hm))
    · replace hm := cond_f hc2 hm
      refine g_skip ?_
      refine g_seq ?_
      refine g_region ?_
      refine go_p rfl rfl rfl (o_assign rfl) ?_
      refine go_nil ?_
      refine g_ret ?_
      exact retK (ret_one' rfl (ret_tmp rfl) (perm_drop _)) (congrArg (fun (p : Int) => (.i64 p : D)) (some_eq hm))
def m_auto_moved_l1 (l1 : (List AutoEdge)) (to1 : (List Int)) : Nat → (Int × (List AutoEdge)) → Option (List AutoEdge)
  | 0, _ => none
  | n + 1, (x1, l3) =>
    bif (decide (x1 < (l1.length : Int))) then
      (idx l3 x1).bind fun x2 =>
      (idx to1 x2.to_).bind fun x3 =>
      (idx l3 x1).bind fun x4 =>
      grd (InR (x1 + 1)) <|
      m_auto_moved_l1 l1 to1 n ((x1 + 1), (l3.set (x1).toNat (⟨x4.name, x3⟩ : AutoEdge)))
    else
      some l3
def m_auto_moved (l1 : (List AutoEdge)) (to1 : (List Int)) : Option (List AutoEdge) :=
  grd (l1.length * 24 ≤ 140737488355328) <|
  (m_auto_moved_l1 l1 to1 FU (0, l1) : Option (List AutoEdge)).bind fun l2 =>
  some l2
theorem w_auto_moved {l1 : (List AutoEdge)} {to1 : (List Int)} {r_1 : (List AutoEdge)} (hm : m_auto_moved l1 to1 = some r_1) : Fn0 Tryz.prog 87 [.list 2 AutoEdge.d l1, .list 1 D.i64 to1] (.list 2 AutoEdge.d r_1) := by
  unfold m_auto_moved at hm
  refine fn_intro Tryz.func87 rfl Tryz.ntmps87 rfl fun H0 fr w0 => ?_
  refine g_seq ?_
  refine g_region ?_
  refine go_p rfl rfl rfl (o_assign rfl) ?_
  refine go_conv (nilE (i := 4) (sz := 2) (f := AutoEdge.d) rfl).refines ?_
  refine go_nil ?_
  refine g_seq ?_
  refine g_region ?_
  refine go_p rfl rfl rfl (o_move rfl) ?_
  obtain ⟨hg1, hm⟩ := grd_some hm
  refine go_op rfl rfl rfl (o_call (ms₁ := []) Tryz.call123 rfl (List.Perm.refl _) (w_Clone_123 hg1)) ?_
  rintro _ _ ⟨_, ⟨a_r1, cap_r1, rfl, rfl⟩, rfl⟩
  generalize hm_r1 : l1.length = m_r1
  clear hm_r1
  refine go_p rfl rfl rfl (o_assign rfl) ?_
  refine go_nil ?_
  refine g_seq ?_
  refine g_seq ?_
  refine g_region ?_
  refine go_p rfl rfl rfl (o_move rfl) ?_
  refine go_p rfl rfl rfl (o_len_arr 0 Tryz.runUnderlying58 rfl rfl) ?_
  refine go_p rfl rfl rfl (o_move rfl) ?_
  refine go_nil ?_
  obtain ⟨o_1, hj1, hm1⟩ := bind_some hm
  refine g_cut_m [(5, _)] [] (fun (st : (List AutoEdge)) (hid : Unit) => match st, hid with | l2, _ => []) (fun F (st : (List AutoEdge)) (hid : Unit) => match st, hid with | l2, _ => [arr a_r1 m_r1 cap_r1 63 2 AutoEdge.d l2]) (fun st => st = o_1) ⟨rfl, trivial⟩ trivial ?_ ?_
  · skip
    refine g_block ?_
    refine g_loop_m [(1, _), (5, _), (10, _)] [] (fun (st : (Int × (List AutoEdge))) (hid : Unit) => match st, hid with | (x1, l3), _ => [(11, .i64 x1)]) (fun F (st : (Int × (List AutoEdge))) (hid : Unit) => match st, hid with | (x1, l3), _ => [arr a_r1 m_r1 cap_r1 63 2 AutoEdge.d l3]) () hj1 (fun _ => rfl) ⟨rfl, rfl, rfl, trivial⟩ trivial ⟨rfl, trivial⟩ rfl ?_
    rintro n ⟨x1, l3⟩ ⟨⟩ hj1
    rw [m_auto_moved_l1] at hj1
    refine g_norm (L' := [(11, .i64 x1), (1, _), (5, _), (10, _)]) (ms' := [arr a_r1 m_r1 cap_r1 63 2 AutoEdge.d l3]) rfl rfl ?_
    refine g_seq ?_
    refine g_region ?_
    refine go_p rfl rfl rfl (o_cmp rfl rfl rfl) ?_
    refine go_nil ?_
    refine g_seq ?_
    refine g_cond rfl (fun hc1 => ?_) (fun hc1 => ?_)
    · replace hj1 := cond_t hc1 hj1
      refine g_skip ?_
      refine g_seq ?_
      refine g_block ?_
      refine g_seq ?_
      refine g_region ?_
      refine go_p rfl rfl rfl (o_move rfl) ?_
      refine go_p rfl rfl rfl (o_assign rfl) ?_
      refine go_nil ?_
      refine g_region ?_
      refine go_p rfl rfl rfl (o_move rfl) ?_
      refine go_p rfl rfl rfl (o_move rfl) ?_
      refine go_p rfl rfl rfl (o_move rfl) ?_
      refine go_p rfl rfl rfl (o_move rfl) ?_
      refine go_p rfl rfl rfl (o_move rfl) ?_
      obtain ⟨x2, hx2, hj1⟩ := bind_some hj1
      refine go_p rfl rfl rfl (o_indexAddr_arr 0 Tryz.runUnderlying58 Tryz.sizeOf63 rfl rfl rfl hx2) ?_
      refine go_p rfl rfl rfl (o_fieldAddr_apt (b := 0) 0 fi_63_1 rfl rfl (idx_some hx2).2) ?_
      refine go_p rfl rfl rfl (o_load_arr (off := 1) 0 Tryz.isAgg3 rfl rfl (idx_some hx2).2 rfl rfl rfl) ?_
      obtain ⟨x3, hx3, hj1⟩ := bind_some hj1
      refine go_p rfl rfl rfl (o_indexAddr_m Tryz.runUnderlying49 Tryz.sizeOf3 rfl rfl hx3) ?_
      refine go_p rfl rfl rfl (o_load Tryz.isAgg3 rfl rfl) ?_
      obtain ⟨x4, hx4, hj1⟩ := bind_some hj1
      refine go_p rfl rfl rfl (o_indexAddr_arr 0 Tryz.runUnderlying58 Tryz.sizeOf63 rfl rfl rfl hx4) ?_
      refine go_p rfl rfl rfl (o_fieldAddr_apt (b := 0) 0 fi_63_1 rfl rfl (idx_some hx4).2) ?_
      refine go_u rfl rfl (o_store_arr (off := 1) (z' := (⟨x4.name, x3⟩ : AutoEdge)) 0 Tryz.sizeOf3 rfl rfl (idx_some hx4).2 rfl rfl rfl rfl rfl rfl (Nat.le_of_ble_eq_true rfl) rfl rfl) ?_
      rintro _ _ rfl
      refine go_ms (ms' := [_]) rfl ?_
      refine go_nil ?_
      refine g_region ?_
      obtain ⟨hg5, hj1⟩ := grd_some hj1
      refine go_p rfl rfl rfl (o_add rfl rfl (i64_id hg5)) ?_
      refine go_p rfl rfl rfl (o_move rfl) ?_
      refine go_nil ?_
      exact ⟨_, (), hj1, ⟨rfl, trivial⟩, ⟨rfl, rfl, rfl, trivial⟩, [], rfl⟩
    · replace hj1 := cond_f hc1 hj1
      refine g_exit ?_
      exact ⟨_, (), some_eq hj1, trivial, ⟨rfl, trivial⟩, [], rfl⟩
  · rintro l2 ⟨⟩ hst
    subst hst
    refine k_norm (L' := [(5, _)]) (ms' := [arr a_r1 m_r1 cap_r1 63 2 AutoEdge.d l2]) rfl rfl ?_
    refine g_seq ?_
    refine g_region ?_
    refine go_p rfl rfl rfl (o_move rfl) ?_
    refine go_p rfl rfl rfl (o_assign rfl) ?_
    refine go_nil ?_
    refine g_thaw 0 rfl rfl ?_
    rintro rfl
    refine g_conv (peekE (i := 4) 0 rfl rfl rfl).refines ?_
    refine g_ret ?_
    exact retK (ret_one' rfl (ret_tmp rfl) (perm_drop _)) (congrArg (fun (p : (List AutoEdge)) => (.list 2 AutoEdge.d p : D)) (some_eq hm1))
def m_auto_norm_r1  : List Int → ((List Int) × (List Int)) → Option ((List Int) × (List Int))
  | [], (l3, l4) =>
    some (l3, l4)
  | x1 :: rr, (l3, l4) =>
    (idx l4 x1).bind fun x2 =>
    grd ((l3.length + ([x1] : List _).length) * 8 ≤ 140737488355328) <|
    m_auto_norm_r1 rr ((l3 ++ [x1]), (l4.set (x1).toNat (l3.length : Int)))
def m_auto_norm_l2 (a1 : AutoAuto) (l1 : (List Int)) (l2 : (List Int)) : Nat → (Int × (List AutoState) × Int) → Option ((List AutoState) × Int)
  | 0, _ => none
  | n + 1, (x3, l6, z2) =>
    bif (decide (x3 < (l1.length : Int))) then
      (idx l1 x3).bind fun x4 =>
      (idx a1.l x4).bind fun x5 =>
      (bif x5.arrow then
        (idx l2 x5.dom).bind fun x6 =>
        (idx l2 x5.cod).bind fun x7 =>
        some (x5.plus, x5.all, x5.int, x5.bool, x5.str, x5.arrow, x5.rec_, x5.tag, x5.vars, x6, x7, x5.fields, x5.tags)
      else
        some (x5.plus, x5.all, x5.int, x5.bool, x5.str, x5.arrow, x5.rec_, x5.tag, x5.vars, x5.dom, x5.cod, x5.fields, x5.tags) : Option (Bool × Bool × Bool × Bool × Bool × Bool × Bool × Bool × (List Int) × Int × Int × (List AutoEdge) × (List AutoEdge))).bind fun (z3, z4, z5, z6, z7, z8, z9, z10, z11, z12, z13, z14, z15) =>
      grd (z11.length * 8 ≤ 140737488355328) <|
      (m_auto_moved z14 l2).bind fun x8 =>
      (m_auto_moved z15 l2).bind fun x9 =>
      grd ((l6.length + ([(⟨z3, z4, z5, z6, z7, z8, z9, z10, z11, z12, z13, x8, x9⟩ : AutoState)] : List _).length) * 96 ≤ 140737488355328) <|
      grd (InR (x3 + 1)) <|
      m_auto_norm_l2 a1 l1 l2 n ((x3 + 1), (l6 ++ [(⟨z3, z4, z5, z6, z7, z8, z9, z10, z11, z12, z13, x8, x9⟩ : AutoState)]), z2)
    else
      some (l6, z2)
def m_auto_norm (a1 : AutoAuto) : Option AutoAuto :=
  grd (0 ≤ (a1.l.length : Int)) <|
  grd (((a1.l.length : Int)).toNat * 8 ≤ 140737488355328) <|
  ((m_reached a1).bind fun xs1 =>
  m_auto_norm_r1 xs1 ([], (List.replicate ((a1.l.length : Int)).toNat (0 : Int))) : Option ((List Int) × (List Int))).bind fun (l1, l2) =>
  (m_auto_norm_l2 a1 l1 l2 FU (0, [], 0) : Option ((List AutoState) × Int)).bind fun (l5, z1) =>
  some (⟨l5, z1⟩ : AutoAuto)
theorem w_auto_norm {a1 : AutoAuto} {r_1 : AutoAuto} (hm : m_auto_norm a1 = some r_1) : Fn0 Tryz.prog 62 [AutoAuto.d a1] (AutoAuto.d r_1) := by
  unfold m_auto_norm at hm
  refine fn_intro Tryz.func62 rfl Tryz.ntmps62 rfl fun H0 fr w0 => ?_
  refine g_seq ?_
  refine g_region ?_
  refine go_p rfl rfl rfl (o_box rfl rfl) ?_
  refine go_op rfl rfl rfl (o_alloc_own Tryz.zeroValue27 (cs := [.list 13 AutoState.d [], .i64 0]) rfl) ?_
  rintro _ _ ⟨b1, rfl, rfl⟩
  refine go_nil ?_
  refine g_seq ?_
  refine g_region ?_
  refine go_p rfl rfl rfl (o_fieldAddr fi_27_0 rfl rfl rfl) ?_
  refine go_p rfl rfl rfl (o_load Tryz.isAgg25 rfl rfl) ?_
  refine go_p rfl rfl rfl (o_len Tryz.runUnderlying25 rfl) ?_
  obtain ⟨hg1, hm⟩ := grd_some hm
  obtain ⟨hg2, hm⟩ := grd_some hm
  refine go_op rfl rfl rfl (o_makeSlice (f := D.i64) (z0 := 0) Tryz.underlying49 Tryz.type3 rfl rfl rfl (Nat.le_of_ble_eq_true rfl) rfl rfl hg1 hg2 (Nat.le_of_ble_eq_true rfl)) ?_
  rintro _ _ ⟨a_r1, m_r1, cap_r1, rfl, rfl⟩
  refine go_op rfl rfl rfl (o_alloc_own Tryz.zeroValue49 (cs := [.list 1 D.i64 []]) rfl) ?_
  rintro _ _ ⟨b2, rfl, rfl⟩
  refine go_u rfl rfl (o_store_box 0 Tryz.sizeOf49 rfl rfl rfl rfl rfl rfl rfl rfl (Nat.le_of_ble_eq_true rfl)) ?_
  rintro _ _ rfl
  refine go_ms (ms' := [box b2 49 [_], _, box b1 27 [_, _]]) rfl ?_
  refine go_nil ?_
  refine g_seq ?_
  refine g_region ?_
  refine go_op rfl rfl rfl (o_alloc_own Tryz.zeroValue49 (cs := [.v (.slice none 0 0)]) rfl) ?_
  rintro _ _ ⟨b3, rfl, rfl⟩
  refine go_conv (refines_newrow (T := 3) (sz := 1) (f := D.i64)) ?_
  refine go_nil ?_
  refine g_seq ?_
  refine g_seq ?_
  refine g_region ?_
  refine go_p rfl rfl rfl (o_load_agg Tryz.isAgg27 Tryz.sizeOf27 rfl rfl) ?_
  refine go_p rfl rfl rfl (o_call0 Tryz.call86 rfl w_reached) ?_
  refine go_nil ?_
  obtain ⟨o_1, hj1, hm1⟩ := bind_some hm
  refine g_cut_m [(1, _), (2, _), (3, _), (4, _)] [(4, _)] (fun (st : ((List Int) × (List Int))) (hid : (Option Addr × Nat) × Unit) => match st, hid with | (l1, l2), ((a_r2, cap_r2), _) => []) (fun F (st : ((List Int) × (List Int))) (hid : (Option Addr × Nat) × Unit) => match st, hid with | (l1, l2), ((a_r2, cap_r2), _) => [row a_r2 cap_r2 3 1 D.i64 l1, box b3 49 [.v (.slice a_r2 l1.length cap_r2)], box b2 49 [.v (.slice a_r1 m_r1 cap_r1)], arr a_r1 m_r1 cap_r1 3 1 D.i64 l2, (nthF F 0)]) (fun st => st = o_1) ⟨rfl, rfl, rfl, rfl, trivial⟩ ⟨rfl, trivial⟩ ?_ ?_
  · skip
    refine g_block ?_
    obtain ⟨xs1, hx3, hj1⟩ := bind_some hj1
    refine g_range_m (fun (p : Int) => [.i64 p]) [(4, _)] (fun F (st : ((List Int) × (List Int))) (hid : (Option Addr × Nat) × Unit) => match st, hid with | (l3, l4), ((a_r2, cap_r2), _) => [row a_r2 cap_r2 3 1 D.i64 l3, box b3 49 [.v (.slice a_r2 l3.length cap_r2)], box b2 49 [.v (.slice a_r1 m_r1 cap_r1)], arr a_r1 m_r1 cap_r1 3 1 D.i64 l4, (nthF F 0)]) ((_, _), ()) hj1 ⟨rfl, trivial⟩ rfl rfl Tryz.call121 (it_reached hx3) (fun _ => rfl) rfl ?_ ?_
    · rintro H0r frr ror w0r hrr x1 rr ⟨l3, l4⟩ ⟨⟨a_r2, cap_r2⟩, ⟨⟩⟩ hj1
      rw [m_auto_norm_r1] at hj1
      refine g_norm (ms' := [row a_r2 cap_r2 3 1 D.i64 l3, box b3 49 [.v (.slice a_r2 l3.length cap_r2)], box b2 49 [.v (.slice a_r1 m_r1 cap_r1)], arr a_r1 m_r1 cap_r1 3 1 D.i64 l4, _]) rfl rfl ?_
      refine g_region ?_
      refine go_p rfl rfl rfl (o_assign rfl) ?_
      refine go_nil ?_
      intro H0r frr ror w0r hrr
      refine g_block ?_
      refine g_seq ?_
      refine g_region ?_
      refine go_p rfl rfl rfl (o_load_box 2 Tryz.isAgg49 rfl rfl rfl rfl) ?_
      refine go_p rfl rfl rfl (o_move rfl) ?_
      refine go_p rfl rfl rfl (o_load_box 1 Tryz.isAgg49 rfl rfl rfl rfl) ?_
      refine go_p rfl rfl rfl (.view (peekE (i := 19) 0 rfl rfl rfl) (o_len Tryz.runUnderlying49 rfl)) ?_
      obtain ⟨x2, hx4, hj1⟩ := bind_some hj1
      refine go_p rfl rfl rfl (o_indexAddr_arr 3 Tryz.runUnderlying49 Tryz.sizeOf3 rfl rfl rfl hx4) ?_
      refine go_u rfl rfl (o_store_arr (off := 0) (z' := (l3.length : Int)) 3 Tryz.sizeOf3 rfl rfl (idx_some hx4).2 rfl rfl rfl rfl rfl rfl (Nat.le_of_ble_eq_true rfl) rfl rfl) ?_
      rintro _ _ rfl
      refine go_ms (ms' := [_, box b3 49 [_], box b2 49 [_], _, box b1 27 [_, _]]) rfl ?_
      refine go_nil ?_
      refine g_region ?_
      refine go_p rfl rfl rfl (o_load_box 1 Tryz.isAgg49 rfl rfl rfl rfl) ?_
      refine go_p rfl rfl rfl (o_move rfl) ?_
      refine go_p rfl rfl rfl (o_buildSlice (xs := [_]) (f := D.i64) (l := [_]) Tryz.runUnderlying49 Tryz.sizeOf3 Tryz.zeroValue3 rfl rfl rfl (fun _ => ⟨rfl, rfl, rfl⟩) rfl) ?_
      obtain ⟨hg5, hj1⟩ := grd_some hj1
      refine go_op rfl rfl rfl (o_append (a := _) 0 Tryz.underlying49 Tryz.type3 rfl rfl rfl rfl rfl rfl rfl (fun _ => rfl) (fun _ => rfl) hg5 (app_len hg5 rfl)) ?_
      rintro _ _ ⟨a_r2, cap_r2, rfl, rfl⟩
      refine go_ms (ms' := [_, box b3 49 [_], box b2 49 [_], _, box b1 27 [_, _]]) rfl ?_
      refine go_u rfl rfl (o_store_box 1 Tryz.sizeOf49 rfl rfl rfl rfl rfl rfl rfl rfl (Nat.le_of_ble_eq_true rfl)) ?_
      rintro _ _ rfl
      refine go_ms (ms' := [_, box b3 49 [_], box b2 49 [_], _, box b1 27 [_, _]]) rfl ?_
      refine go_nil ?_
      exact ⟨_, ((_, _), ()), hj1, [], rfl⟩
    · rintro ⟨l3, l4⟩ ⟨⟨a_r2, cap_r2⟩, ⟨⟩⟩ hj1
      rw [m_auto_norm_r1] at hj1
      refine k_norm (ms' := [row a_r2 cap_r2 3 1 D.i64 l3, box b3 49 [.v (.slice a_r2 l3.length cap_r2)], box b2 49 [.v (.slice a_r1 m_r1 cap_r1)], arr a_r1 m_r1 cap_r1 3 1 D.i64 l4, _]) rfl rfl ?_
      exact ⟨_, ((_, _), ()), some_eq hj1, trivial, ⟨rfl, rfl, rfl, rfl, trivial⟩, [], rfl⟩
  · rintro ⟨l1, l2⟩ ⟨⟨a_r2, cap_r2⟩, ⟨⟩⟩ hst
    subst hst
    refine k_norm (L' := [(1, _), (2, _), (3, _), (4, _)]) (ms' := [row a_r2 cap_r2 3 1 D.i64 l1, box b3 49 [.v (.slice a_r2 l1.length cap_r2)], box b2 49 [.v (.slice a_r1 m_r1 cap_r1)], arr a_r1 m_r1 cap_r1 3 1 D.i64 l2, _]) rfl rfl ?_
    refine g_seq ?_
    refine g_region ?_
    refine go_op rfl rfl rfl (o_alloc_own Tryz.zeroValue27 (cs := [.v (.slice none 0 0), .i64 0]) rfl) ?_
    rintro _ _ ⟨b5, rfl, rfl⟩
    refine go_conv (refines_newrow (T := 60) (sz := 13) (f := AutoState.d)) ?_
    refine go_nil ?_
    refine g_seq ?_
    refine g_seq ?_
    refine g_region ?_
    refine go_p rfl rfl rfl (o_load_box 3 Tryz.isAgg49 rfl rfl rfl rfl) ?_
    refine go_p rfl rfl rfl (.view (peekE (i := 26) 2 rfl rfl rfl) (o_len Tryz.runUnderlying49 rfl)) ?_
    refine go_p rfl rfl rfl (o_move rfl) ?_
    refine go_nil ?_
    refine g_thaw 5 rfl rfl ?_
    rintro rfl
    obtain ⟨o_2, hj2, hm2⟩ := bind_some hm1
    refine g_cut_m [(2, _), (6, _)] [(2, _), (3, _), (4, _), (5, _), (6, _)] (fun (st : ((List AutoState) × Int)) (hid : (Option Addr × Nat)) => match st, hid with | (l5, z1), (a_r3, cap_r3) => []) (fun F (st : ((List AutoState) × Int)) (hid : (Option Addr × Nat)) => match st, hid with | (l5, z1), (a_r3, cap_r3) => [row a_r3 cap_r3 60 13 AutoState.d l5, box b5 27 [.v (.slice a_r3 l5.length cap_r3), .i64 z1], (nthF F 0), (nthF F 1), (nthF F 2), (nthF F 3), (nthF F 4)]) (fun st => st = o_2) ⟨rfl, rfl, trivial⟩ ⟨rfl, rfl, rfl, rfl, rfl, trivial⟩ ?_ ?_
    · skip
      refine g_block ?_
      refine g_loop_m [(1, _), (2, _), (3, _), (6, _), (26, _), (27, _)] [(2, _), (3, _), (4, _), (5, _), (6, _)] (fun (st : (Int × (List AutoState) × Int)) (hid : (Option Addr × Nat)) => match st, hid with | (x3, l6, z2), (a_r3, cap_r3) => [(28, .i64 x3)]) (fun F (st : (Int × (List AutoState) × Int)) (hid : (Option Addr × Nat)) => match st, hid with | (x3, l6, z2), (a_r3, cap_r3) => [row a_r3 cap_r3 60 13 AutoState.d l6, box b5 27 [.v (.slice a_r3 l6.length cap_r3), .i64 z2], (nthF F 0), (nthF F 1), (nthF F 2), (nthF F 3), (nthF F 4)]) (_, _) hj2 (fun _ => rfl) ⟨rfl, rfl, rfl, rfl, rfl, rfl, trivial⟩ ⟨rfl, rfl, rfl, rfl, rfl, trivial⟩ ⟨rfl, trivial⟩ rfl ?_
      rintro n ⟨x3, l6, z2⟩ ⟨a_r3, cap_r3⟩ hj2
      rw [m_auto_norm_l2] at hj2
      refine g_norm (L' := [(28, .i64 x3), (1, _), (2, _), (3, _), (6, _), (26, _), (27, _)]) (ms' := [row a_r3 cap_r3 60 13 AutoState.d l6, box b5 27 [.v (.slice a_r3 l6.length cap_r3), .i64 z2], _, _, _, _, _]) rfl rfl ?_
      refine g_seq ?_
      refine g_region ?_
      refine go_p rfl rfl rfl (o_cmp rfl rfl rfl) ?_
      refine go_nil ?_
      refine g_seq ?_
      refine g_cond rfl (fun hc1 => ?_) (fun hc1 => ?_)
      · replace hj2 := cond_t hc1 hj2
        refine g_skip ?_
        refine g_seq ?_
        refine g_block ?_
        refine g_seq ?_
        refine g_region ?_
        obtain ⟨x4, hx6, hj2⟩ := bind_some hj2
        refine go_p rfl rfl rfl (.view (peekE (i := 26) 2 rfl rfl rfl) (o_indexAddr_m Tryz.runUnderlying49 Tryz.sizeOf3 rfl rfl hx6)) ?_
        refine go_p rfl rfl rfl (o_load Tryz.isAgg3 rfl rfl) ?_
        refine go_p rfl rfl rfl (o_assign rfl) ?_
        refine go_nil ?_
        refine g_seq ?_
        refine g_region ?_
        refine go_p rfl rfl rfl (o_fieldAddr fi_27_0 rfl rfl rfl) ?_
        refine go_p rfl rfl rfl (o_load Tryz.isAgg25 rfl rfl) ?_
        refine go_p rfl rfl rfl (o_move rfl) ?_
        obtain ⟨x5, hx7, hj2⟩ := bind_some hj2
        refine go_p rfl rfl rfl (o_indexAddr_m Tryz.runUnderlying25 Tryz.sizeOf60 rfl rfl hx7) ?_
        refine go_p rfl rfl rfl (o_load_agg Tryz.isAgg60 Tryz.sizeOf60 rfl rfl) ?_
        refine go_op rfl rfl rfl (o_alloc_own Tryz.zeroValue60 (cs := [.bool false, .bool false, .bool false, .bool false, .bool false, .bool false, .bool false, .bool false, .list 1 D.i64 [], .i64 0, .i64 0, .list 2 AutoEdge.d [], .list 2 AutoEdge.d []]) rfl) ?_
        rintro _ _ ⟨b6, rfl, rfl⟩
        refine go_u rfl rfl (o_store_box 0 Tryz.sizeOf60 rfl rfl rfl rfl rfl rfl rfl rfl (Nat.le_of_ble_eq_true rfl)) ?_
        rintro _ _ rfl
        refine go_ms (ms' := [box b6 60 [_, _, _, _, _, _, _, _, _, _, _, _, _], _, box b5 27 [_, _], _, box b3 49 [_], box b2 49 [_], _, box b1 27 [_, _]]) rfl ?_
        refine go_nil ?_
        refine g_seq ?_
        refine g_seq ?_
        refine g_region ?_
        refine go_p rfl rfl rfl (o_fieldAddr_box fi_60_5 rfl) ?_
        refine go_p rfl rfl rfl (o_load_box 0 Tryz.isAgg4 rfl rfl rfl rfl) ?_
        refine go_nil ?_
        obtain ⟨o_3, hj3, hm3⟩ := bind_some hj2
        refine g_cut_m [(1, _), (2, _), (3, _), (6, _), (9, _), (26, _), (27, _), (28, _)] [(1, _), (2, _), (3, _), (4, _), (5, _), (6, _), (7, _)] (fun (st : (Bool × Bool × Bool × Bool × Bool × Bool × Bool × Bool × (List Int) × Int × Int × (List AutoEdge) × (List AutoEdge))) (hid : Unit) => match st, hid with | (z3, z4, z5, z6, z7, z8, z9, z10, z11, z12, z13, z14, z15), _ => []) (fun F (st : (Bool × Bool × Bool × Bool × Bool × Bool × Bool × Bool × (List Int) × Int × Int × (List AutoEdge) × (List AutoEdge))) (hid : Unit) => match st, hid with | (z3, z4, z5, z6, z7, z8, z9, z10, z11, z12, z13, z14, z15), _ => [box b6 60 [.bool z3, .bool z4, .bool z5, .bool z6, .bool z7, .bool z8, .bool z9, .bool z10, .list 1 D.i64 z11, .i64 z12, .i64 z13, .list 2 AutoEdge.d z14, .list 2 AutoEdge.d z15], (nthF F 0), (nthF F 1), (nthF F 2), (nthF F 3), (nthF F 4), (nthF F 5), (nthF F 6)]) (fun st => st = o_3) ⟨rfl, rfl, rfl, rfl, rfl, rfl, rfl, rfl, trivial⟩ ⟨rfl, rfl, rfl, rfl, rfl, rfl, rfl, trivial⟩ ?_ ?_
        · skip
          refine g_cond rfl (fun hc2 => ?_) (fun hc2 => ?_)
          · replace hj3 := cond_t hc2 hj3
            obtain ⟨x6, hx8, hj3⟩ := bind_some hj3
            obtain ⟨x7, hx9, hj3⟩ := bind_some hj3
            refine g_draw_c [11, 13] [5, 8, 9, 12] [5, 8, 9] Tryz_mixed (by decide +kernel) (by decide +kernel) rfl ?_
            refine gde_p rfl rfl rfl rfl rfl rfl (o_load_box 5 Tryz.isAgg49 rfl rfl rfl rfl) ?_
            refine gde_p rfl rfl rfl rfl rfl rfl (o_fieldAddr_box fi_60_9 rfl) ?_
            refine gde_p rfl rfl rfl rfl rfl rfl (o_load_box 0 Tryz.isAgg3 rfl rfl rfl rfl) ?_
            refine gde_p rfl rfl rfl rfl rfl rfl (.view (peekE (i := 39) 6 rfl rfl rfl) (o_indexAddr_m Tryz.runUnderlying49 Tryz.sizeOf3 rfl rfl hx8)) ?_
            refine gde_p rfl rfl rfl rfl rfl rfl (o_load Tryz.isAgg3 rfl rfl) ?_
            refine gde_f rfl rfl rfl rfl rfl (o_load_box 5 Tryz.isAgg49 rfl rfl rfl rfl) ?_
            refine gde_p rfl rfl rfl rfl rfl rfl (o_fieldAddr_box fi_60_10 rfl) ?_
            refine gde_p rfl rfl rfl rfl rfl rfl (o_load_box 0 Tryz.isAgg3 rfl rfl rfl rfl) ?_
            refine gde_f rfl rfl rfl rfl rfl (.view (peekE (i := 44) 6 rfl rfl rfl) (o_indexAddr_m Tryz.runUnderlying49 Tryz.sizeOf3 rfl rfl hx9)) ?_
            refine gde_f rfl rfl rfl rfl rfl (o_load Tryz.isAgg3 rfl rfl) ?_
            refine gde_p rfl rfl rfl rfl rfl rfl (o_fieldAddr_box fi_60_9 rfl) ?_
            refine gde_e rfl ?_
            refine gde_p rfl rfl rfl rfl rfl rfl (o_fieldAddr_box fi_60_10 rfl) ?_
            refine gde_e rfl ?_
            refine gde_nil ?_
            refine gde2_u rfl rfl rfl (o_store_box 0 Tryz.sizeOf3 rfl rfl rfl rfl rfl rfl rfl rfl (Nat.le_of_ble_eq_true rfl)) ?_
            rintro _ _ rfl
            refine ⟨⟨⟨⟨trivial, o_load_box 5 Tryz.isAgg49 rfl rfl rfl rfl⟩, .view (peekE (i := 44) 6 rfl rfl rfl) (o_indexAddr_m Tryz.runUnderlying49 Tryz.sizeOf3 rfl rfl hx9)⟩, o_load Tryz.isAgg3 rfl rfl⟩, ?_⟩
            refine gde2_u rfl rfl rfl (o_store_box 0 Tryz.sizeOf3 rfl rfl rfl rfl rfl rfl rfl rfl (Nat.le_of_ble_eq_true rfl)) ?_
            rintro _ _ rfl
            refine ⟨⟨⟨⟨trivial, o_load_box 5 Tryz.isAgg49 rfl rfl rfl rfl⟩, .view (peekE (i := 44) 6 rfl rfl rfl) (o_indexAddr_m Tryz.runUnderlying49 Tryz.sizeOf3 rfl rfl hx9)⟩, o_load Tryz.isAgg3 rfl rfl⟩, ?_⟩
            refine gde2_nil ?_
            exact ⟨_, (), some_eq hj3, trivial, ⟨rfl, rfl, rfl, rfl, rfl, rfl, rfl, rfl, trivial⟩, [], rfl⟩
          · replace hj3 := cond_f hc2 hj3
            refine g_skip ?_
            exact ⟨_, (), some_eq hj3, trivial, ⟨rfl, rfl, rfl, rfl, rfl, rfl, rfl, rfl, trivial⟩, [], rfl⟩
        · rintro ⟨z3, z4, z5, z6, z7, z8, z9, z10, z11, z12, z13, z14, z15⟩ _ hst
          subst hst
          refine k_norm (L' := [(1, _), (2, _), (3, _), (6, _), (9, _), (26, _), (27, _), (28, _)]) (ms' := [box b6 60 [.bool z3, .bool z4, .bool z5, .bool z6, .bool z7, .bool z8, .bool z9, .bool z10, .list 1 D.i64 z11, .i64 z12, .i64 z13, .list 2 AutoEdge.d z14, .list 2 AutoEdge.d z15], _, _, _, _, _, _, _]) rfl rfl ?_
          refine g_seq ?_
          refine g_region ?_
          refine go_p rfl rfl rfl (o_fieldAddr_box fi_60_8 rfl) ?_
          refine go_p rfl rfl rfl (o_load_box 0 Tryz.isAgg49 rfl rfl rfl rfl) ?_
          obtain ⟨hg10, hm3⟩ := grd_some hm3
          refine go_op rfl rfl rfl (o_call (ms₁ := []) Tryz.call47 rfl (List.Perm.refl _) (w_Clone_47 hg10)) ?_
          rintro _ _ ⟨_, ⟨a_r4, cap_r4, rfl, rfl⟩, rfl⟩
          generalize hm_r4 : z11.length = m_r4
          clear hm_r4
          refine go_p rfl rfl rfl (o_fieldAddr_box fi_60_8 rfl) ?_
          refine go_u rfl rfl (o_store_box 1 Tryz.sizeOf49 rfl rfl rfl rfl rfl rfl rfl rfl (Nat.le_of_ble_eq_true rfl)) ?_
          rintro _ _ rfl
          refine go_ms (ms' := [_, box b6 60 [_, _, _, _, _, _, _, _, _, _, _, _, _], _, box b5 27 [_, _], _, box b3 49 [_], box b2 49 [_], _, box b1 27 [_, _]]) rfl ?_
          refine go_nil ?_
          refine g_seq ?_
          obtain ⟨x8, hx11, hm3⟩ := bind_some hm3
          obtain ⟨x9, hx12, hm3⟩ := bind_some hm3
          refine g_draw 9 Tryz_mixed (by decide +kernel) ?_
          refine gd_p rfl rfl rfl (o_fieldAddr_box fi_60_11 rfl) ?_
          refine gd_p rfl rfl rfl (o_load_box 1 Tryz.isAgg58 rfl rfl rfl rfl) ?_
          refine gd_p rfl rfl rfl (o_load_box 6 Tryz.isAgg49 rfl rfl rfl rfl) ?_
          refine gd_p rfl rfl rfl (.view (peekE (i := 57) 7 rfl rfl rfl) (o_call0 Tryz.call87 rfl (w_auto_moved hx11))) ?_
          refine gd_p rfl rfl rfl (o_fieldAddr_box fi_60_12 rfl) ?_
          refine gd_p rfl rfl rfl (o_load_box 1 Tryz.isAgg58 rfl rfl rfl rfl) ?_
          refine gd_p rfl rfl rfl (o_load_box 6 Tryz.isAgg49 rfl rfl rfl rfl) ?_
          refine gd_p rfl rfl rfl (.view (peekE (i := 61) 7 rfl rfl rfl) (o_call0 Tryz.call87 rfl (w_auto_moved hx12))) ?_
          refine gd_p rfl rfl rfl (o_fieldAddr_box fi_60_11 rfl) ?_
          refine gd_nil ?_
          refine go_u rfl rfl (o_store_box 1 Tryz.sizeOf58 rfl rfl rfl rfl rfl rfl rfl rfl (Nat.le_of_ble_eq_true rfl)) ?_
          rintro _ _ rfl
          refine go_ms (ms' := [_, box b6 60 [_, _, _, _, _, _, _, _, _, _, _, _, _], _, box b5 27 [_, _], _, box b3 49 [_], box b2 49 [_], _, box b1 27 [_, _]]) rfl ?_
          refine go_p rfl rfl rfl (o_fieldAddr_box fi_60_12 rfl) ?_
          refine go_u rfl rfl (o_store_box 1 Tryz.sizeOf58 rfl rfl rfl rfl rfl rfl rfl rfl (Nat.le_of_ble_eq_true rfl)) ?_
          rintro _ _ rfl
          refine go_ms (ms' := [_, box b6 60 [_, _, _, _, _, _, _, _, _, _, _, _, _], _, box b5 27 [_, _], _, box b3 49 [_], box b2 49 [_], _, box b1 27 [_, _]]) rfl ?_
          refine go_nil ?_
          refine g_region ?_
          refine go_p rfl rfl rfl (o_fieldAddr_box fi_27_0 rfl) ?_
          refine go_p rfl rfl rfl (o_load_box 3 Tryz.isAgg25 rfl rfl rfl rfl) ?_
          refine go_thaw 0 rfl rfl ?_
          rintro rfl
          refine go_p rfl rfl rfl (o_load_box_agg 1 Tryz.isAgg60 Tryz.sizeOf60 rfl rfl rfl rfl (Nat.le_of_ble_eq_true rfl)) ?_
          refine go_conv (peekAggE (i := 67) (q := 8) 0 rfl rfl rfl rfl rfl).refines ?_
          refine go_p rfl rfl rfl (o_buildSlice (xs := [_]) (f := AutoState.d) (l := [(⟨z3, z4, z5, z6, z7, z8, z9, z10, z11, z12, z13, x8, x9⟩ : AutoState)]) Tryz.runUnderlying25 Tryz.sizeOf60 Tryz.zeroValue60 rfl rfl rfl (fun _ => ⟨rfl, rfl, rfl⟩) rfl) ?_
          obtain ⟨hg13, hm3⟩ := grd_some hm3
          refine go_op rfl rfl rfl (o_append (a := _) 2 Tryz.underlying25 Tryz.type60 rfl rfl rfl rfl rfl rfl rfl (fun _ => rfl) (fun _ => rfl) hg13 (app_len hg13 rfl)) ?_
          rintro _ _ ⟨a_r3, cap_r3, rfl, rfl⟩
          refine go_ms (ms' := [_, box b6 60 [_, _, _, _, _, _, _, _, _, _, _, _, _], _, box b5 27 [_, _], _, box b3 49 [_], box b2 49 [_], _, box b1 27 [_, _]]) rfl ?_
          refine go_p rfl rfl rfl (o_fieldAddr_box fi_27_0 rfl) ?_
          refine go_u rfl rfl (o_store_box 3 Tryz.sizeOf25 rfl rfl rfl rfl rfl rfl rfl rfl (Nat.le_of_ble_eq_true rfl)) ?_
          rintro _ _ rfl
          refine go_ms (ms' := [_, box b6 60 [_, _, _, _, _, _, _, _, _, _, _, _, _], _, box b5 27 [_, _], _, box b3 49 [_], box b2 49 [_], _, box b1 27 [_, _]]) rfl ?_
          refine go_nil ?_
          refine g_region ?_
          obtain ⟨hg14, hm3⟩ := grd_some hm3
          refine go_p rfl rfl rfl (o_add rfl rfl (i64_id hg14)) ?_
          refine go_p rfl rfl rfl (o_move rfl) ?_
          refine go_nil ?_
          exact ⟨_, (_, _), hm3, ⟨rfl, trivial⟩, ⟨rfl, rfl, rfl, rfl, rfl, rfl, trivial⟩, [_, _], rfl⟩
      · replace hj2 := cond_f hc1 hj2
        refine g_exit ?_
        exact ⟨_, (_, _), some_eq hj2, trivial, ⟨rfl, rfl, trivial⟩, [], rfl⟩
    · rintro ⟨l5, z1⟩ ⟨a_r3, cap_r3⟩ hst
      subst hst
      refine k_norm (L' := [(2, _), (6, _)]) (ms' := [row a_r3 cap_r3 60 13 AutoState.d l5, box b5 27 [.v (.slice a_r3 l5.length cap_r3), .i64 z1], _, _, _, _, _]) rfl rfl ?_
      refine g_seq ?_
      refine g_region ?_
      refine go_p rfl rfl rfl (o_load_box_agg 1 Tryz.isAgg27 Tryz.sizeOf27 rfl rfl rfl rfl (Nat.le_of_ble_eq_true rfl)) ?_
      refine go_conv (peekAggE (i := 72) (q := 0) 0 rfl rfl rfl rfl rfl).refines ?_
      refine go_u rfl rfl (o_store_box 6 Tryz.sizeOf27 rfl rfl rfl rfl rfl rfl rfl rfl (Nat.le_of_ble_eq_true rfl)) ?_
      rintro _ _ rfl
      refine go_ms (ms' := [_, box b5 27 [_, _], _, box b3 49 [_], box b2 49 [_], _, box b1 27 [_, _]]) rfl ?_
      refine go_nil ?_
      refine g_ret ?_
      exact retK (ret_one' rfl (ret_cell 6 rfl rfl rfl Tryz.isAgg27 Tryz.sizeOf27 rfl) (perm_drop _)) (congrArg (fun (p : AutoAuto) => (AutoAuto.d p : D)) (some_eq hm2))
def m_auto_normO_r1  : List Int → ((List Int) × (List Int)) → Option ((List Int) × (List Int))
  | [], (l3, l4) =>
    some (l3, l4)
  | x1 :: rr, (l3, l4) =>
    (idx l4 x1).bind fun x2 =>
    grd ((l3.length + ([x1] : List _).length) * 8 ≤ 140737488355328) <|
    m_auto_normO_r1 rr ((l3 ++ [x1]), (l4.set (x1).toNat (l3.length : Int)))
def m_auto_normO_l2 (a1 : AutoAuto) (l1 : (List Int)) (l2 : (List Int)) : Nat → (Int × (List AutoState) × Int) → Option ((List AutoState) × Int)
  | 0, _ => none
  | n + 1, (x3, l6, z2) =>
    bif (decide (x3 < (l1.length : Int))) then
      (idx l1 x3).bind fun x4 =>
      (idx a1.l x4).bind fun x5 =>
      (bif x5.arrow then
        (idx l2 x5.dom).bind fun x6 =>
        (idx l2 x5.cod).bind fun x7 =>
        some (x5.plus, x5.all, x5.int, x5.bool, x5.str, x5.arrow, x5.rec_, x5.tag, x5.vars, x6, x7, x5.fields, x5.tags)
      else
        some (x5.plus, x5.all, x5.int, x5.bool, x5.str, x5.arrow, x5.rec_, x5.tag, x5.vars, x5.dom, x5.cod, x5.fields, x5.tags) : Option (Bool × Bool × Bool × Bool × Bool × Bool × Bool × Bool × (List Int) × Int × Int × (List AutoEdge) × (List AutoEdge))).bind fun (z3, z4, z5, z6, z7, z8, z9, z10, z11, z12, z13, z14, z15) =>
      grd (z11.length * 8 ≤ 140737488355328) <|
      (m_auto_moved z14 l2).bind fun x8 =>
      (m_auto_moved z15 l2).bind fun x9 =>
      grd ((l6.length + ([(⟨z3, z4, z5, z6, z7, z8, z9, z10, z11, z12, z13, x8, x9⟩ : AutoState)] : List _).length) * 96 ≤ 140737488355328) <|
      grd (InR (x3 + 1)) <|
      m_auto_normO_l2 a1 l1 l2 n ((x3 + 1), (l6 ++ [(⟨z3, z4, z5, z6, z7, z8, z9, z10, z11, z12, z13, x8, x9⟩ : AutoState)]), z2)
    else
      some (l6, z2)
def m_auto_normO (a1 : AutoAuto)  : Option AutoAuto :=
  grd (0 ≤ (a1.l.length : Int)) <|
  grd (((a1.l.length : Int)).toNat * 8 ≤ 140737488355328) <|
  ((m_reached a1).bind fun xs1 =>
  m_auto_normO_r1 xs1 ([], (List.replicate ((a1.l.length : Int)).toNat (0 : Int))) : Option ((List Int) × (List Int))).bind fun (l1, l2) =>
  (m_auto_normO_l2 a1 l1 l2 FU (0, [], 0) : Option ((List AutoState) × Int)).bind fun (l5, z1) =>
  some (⟨l5, z1⟩ : AutoAuto)
theorem w_auto_normO {a1 : AutoAuto}  {s_1 : AutoAuto} (hm : m_auto_normO a1 = some s_1) : Go.V.Fn Tryz.prog 62 [AutoAuto.d a1] [] (fun d ms' => ∃ a_s_1c0 m_s_1c0 cap_s_1c0, d = .agg [.v (.slice a_s_1c0 m_s_1c0 cap_s_1c0), .i64 s_1.start] ∧ ms' = [arr a_s_1c0 m_s_1c0 cap_s_1c0 60 13 AutoState.d s_1.l]) := by
  unfold m_auto_normO at hm
  refine fn_intro Tryz.func62 rfl Tryz.ntmps62 rfl fun H0 fr w0 => ?_
  refine g_seq ?_
  refine g_region ?_
  refine go_p rfl rfl rfl (o_box rfl rfl) ?_
  refine go_op rfl rfl rfl (o_alloc_own Tryz.zeroValue27 (cs := [.list 13 AutoState.d [], .i64 0]) rfl) ?_
  rintro _ _ ⟨b1, rfl, rfl⟩
  refine go_nil ?_
  refine g_seq ?_
  refine g_region ?_
  refine go_p rfl rfl rfl (o_fieldAddr fi_27_0 rfl rfl rfl) ?_
  refine go_p rfl rfl rfl (o_load Tryz.isAgg25 rfl rfl) ?_
  refine go_p rfl rfl rfl (o_len Tryz.runUnderlying25 rfl) ?_
  obtain ⟨hg1, hm⟩ := grd_some hm
  obtain ⟨hg2, hm⟩ := grd_some hm
  refine go_op rfl rfl rfl (o_makeSlice (f := D.i64) (z0 := 0) Tryz.underlying49 Tryz.type3 rfl rfl rfl (Nat.le_of_ble_eq_true rfl) rfl rfl hg1 hg2 (Nat.le_of_ble_eq_true rfl)) ?_
  rintro _ _ ⟨a_r1, m_r1, cap_r1, rfl, rfl⟩
  refine go_op rfl rfl rfl (o_alloc_own Tryz.zeroValue49 (cs := [.list 1 D.i64 []]) rfl) ?_
  rintro _ _ ⟨b2, rfl, rfl⟩
  refine go_u rfl rfl (o_store_box 0 Tryz.sizeOf49 rfl rfl rfl rfl rfl rfl rfl rfl (Nat.le_of_ble_eq_true rfl)) ?_
  rintro _ _ rfl
  refine go_ms (ms' := [box b2 49 [_], _, box b1 27 [_, _]]) rfl ?_
  refine go_nil ?_
  refine g_seq ?_
  refine g_region ?_
  refine go_op rfl rfl rfl (o_alloc_own Tryz.zeroValue49 (cs := [.v (.slice none 0 0)]) rfl) ?_
  rintro _ _ ⟨b3, rfl, rfl⟩
  refine go_conv (refines_newrow (T := 3) (sz := 1) (f := D.i64)) ?_
  refine go_nil ?_
  refine g_seq ?_
  refine g_seq ?_
  refine g_region ?_
  refine go_p rfl rfl rfl (o_load_agg Tryz.isAgg27 Tryz.sizeOf27 rfl rfl) ?_
  refine go_p rfl rfl rfl (o_call0 Tryz.call86 rfl w_reached) ?_
  refine go_nil ?_
  obtain ⟨o_1, hj1, hm1⟩ := bind_some hm
  refine g_cut_m [(1, _), (2, _), (3, _), (4, _)] [(4, _)] (fun (st : ((List Int) × (List Int))) (hid : (Option Addr × Nat) × Unit) => match st, hid with | (l1, l2), ((a_r2, cap_r2), _) => []) (fun F (st : ((List Int) × (List Int))) (hid : (Option Addr × Nat) × Unit) => match st, hid with | (l1, l2), ((a_r2, cap_r2), _) => [row a_r2 cap_r2 3 1 D.i64 l1, box b3 49 [.v (.slice a_r2 l1.length cap_r2)], box b2 49 [.v (.slice a_r1 m_r1 cap_r1)], arr a_r1 m_r1 cap_r1 3 1 D.i64 l2, (nthF F 0)]) (fun st => st = o_1) ⟨rfl, rfl, rfl, rfl, trivial⟩ ⟨rfl, trivial⟩ ?_ ?_
  · skip
    refine g_block ?_
    obtain ⟨xs1, hx3, hj1⟩ := bind_some hj1
    refine g_range_m (fun (p : Int) => [.i64 p]) [(4, _)] (fun F (st : ((List Int) × (List Int))) (hid : (Option Addr × Nat) × Unit) => match st, hid with | (l3, l4), ((a_r2, cap_r2), _) => [row a_r2 cap_r2 3 1 D.i64 l3, box b3 49 [.v (.slice a_r2 l3.length cap_r2)], box b2 49 [.v (.slice a_r1 m_r1 cap_r1)], arr a_r1 m_r1 cap_r1 3 1 D.i64 l4, (nthF F 0)]) ((_, _), ()) hj1 ⟨rfl, trivial⟩ rfl rfl Tryz.call121 (it_reached hx3) (fun _ => rfl) rfl ?_ ?_
    · rintro H0r frr ror w0r hrr x1 rr ⟨l3, l4⟩ ⟨⟨a_r2, cap_r2⟩, ⟨⟩⟩ hj1
      rw [m_auto_normO_r1] at hj1
      refine g_norm (ms' := [row a_r2 cap_r2 3 1 D.i64 l3, box b3 49 [.v (.slice a_r2 l3.length cap_r2)], box b2 49 [.v (.slice a_r1 m_r1 cap_r1)], arr a_r1 m_r1 cap_r1 3 1 D.i64 l4, _]) rfl rfl ?_
      refine g_region ?_
      refine go_p rfl rfl rfl (o_assign rfl) ?_
      refine go_nil ?_
      intro H0r frr ror w0r hrr
      refine g_block ?_
      refine g_seq ?_
      refine g_region ?_
      refine go_p rfl rfl rfl (o_load_box 2 Tryz.isAgg49 rfl rfl rfl rfl) ?_
      refine go_p rfl rfl rfl (o_move rfl) ?_
      refine go_p rfl rfl rfl (o_load_box 1 Tryz.isAgg49 rfl rfl rfl rfl) ?_
      refine go_p rfl rfl rfl (.view (peekE (i := 19) 0 rfl rfl rfl) (o_len Tryz.runUnderlying49 rfl)) ?_
      obtain ⟨x2, hx4, hj1⟩ := bind_some hj1
      refine go_p rfl rfl rfl (o_indexAddr_arr 3 Tryz.runUnderlying49 Tryz.sizeOf3 rfl rfl rfl hx4) ?_
      refine go_u rfl rfl (o_store_arr (off := 0) (z' := (l3.length : Int)) 3 Tryz.sizeOf3 rfl rfl (idx_some hx4).2 rfl rfl rfl rfl rfl rfl (Nat.le_of_ble_eq_true rfl) rfl rfl) ?_
      rintro _ _ rfl
      refine go_ms (ms' := [_, box b3 49 [_], box b2 49 [_], _, box b1 27 [_, _]]) rfl ?_
      refine go_nil ?_
      refine g_region ?_
      refine go_p rfl rfl rfl (o_load_box 1 Tryz.isAgg49 rfl rfl rfl rfl) ?_
      refine go_p rfl rfl rfl (o_move rfl) ?_
      refine go_p rfl rfl rfl (o_buildSlice (xs := [_]) (f := D.i64) (l := [_]) Tryz.runUnderlying49 Tryz.sizeOf3 Tryz.zeroValue3 rfl rfl rfl (fun _ => ⟨rfl, rfl, rfl⟩) rfl) ?_
      obtain ⟨hg5, hj1⟩ := grd_some hj1
      refine go_op rfl rfl rfl (o_append (a := _) 0 Tryz.underlying49 Tryz.type3 rfl rfl rfl rfl rfl rfl rfl (fun _ => rfl) (fun _ => rfl) hg5 (app_len hg5 rfl)) ?_
      rintro _ _ ⟨a_r2, cap_r2, rfl, rfl⟩
      refine go_ms (ms' := [_, box b3 49 [_], box b2 49 [_], _, box b1 27 [_, _]]) rfl ?_
      refine go_u rfl rfl (o_store_box 1 Tryz.sizeOf49 rfl rfl rfl rfl rfl rfl rfl rfl (Nat.le_of_ble_eq_true rfl)) ?_
      rintro _ _ rfl
      refine go_ms (ms' := [_, box b3 49 [_], box b2 49 [_], _, box b1 27 [_, _]]) rfl ?_
      refine go_nil ?_
      exact ⟨_, ((_, _), ()), hj1, [], rfl⟩
    · rintro ⟨l3, l4⟩ ⟨⟨a_r2, cap_r2⟩, ⟨⟩⟩ hj1
      rw [m_auto_normO_r1] at hj1
      refine k_norm (ms' := [row a_r2 cap_r2 3 1 D.i64 l3, box b3 49 [.v (.slice a_r2 l3.length cap_r2)], box b2 49 [.v (.slice a_r1 m_r1 cap_r1)], arr a_r1 m_r1 cap_r1 3 1 D.i64 l4, _]) rfl rfl ?_
      exact ⟨_, ((_, _), ()), some_eq hj1, trivial, ⟨rfl, rfl, rfl, rfl, trivial⟩, [], rfl⟩
  · rintro ⟨l1, l2⟩ ⟨⟨a_r2, cap_r2⟩, ⟨⟩⟩ hst
    subst hst
    refine k_norm (L' := [(1, _), (2, _), (3, _), (4, _)]) (ms' := [row a_r2 cap_r2 3 1 D.i64 l1, box b3 49 [.v (.slice a_r2 l1.length cap_r2)], box b2 49 [.v (.slice a_r1 m_r1 cap_r1)], arr a_r1 m_r1 cap_r1 3 1 D.i64 l2, _]) rfl rfl ?_
    refine g_seq ?_
    refine g_region ?_
    refine go_op rfl rfl rfl (o_alloc_own Tryz.zeroValue27 (cs := [.v (.slice none 0 0), .i64 0]) rfl) ?_
    rintro _ _ ⟨b5, rfl, rfl⟩
    refine go_conv (refines_newarr (T := 60) (sz := 13) (f := AutoState.d)) ?_
    refine go_nil ?_
    refine g_seq ?_
    refine g_seq ?_
    refine g_region ?_
    refine go_p rfl rfl rfl (o_load_box 3 Tryz.isAgg49 rfl rfl rfl rfl) ?_
    refine go_p rfl rfl rfl (.view (peekE (i := 26) 2 rfl rfl rfl) (o_len Tryz.runUnderlying49 rfl)) ?_
    refine go_p rfl rfl rfl (o_move rfl) ?_
    refine go_nil ?_
    refine g_thaw 5 rfl rfl ?_
    rintro rfl
    obtain ⟨o_2, hj2, hm2⟩ := bind_some hm1
    refine g_cut_m [(2, _), (6, _)] [(2, _), (3, _), (4, _), (5, _), (6, _)] (fun (st : ((List AutoState) × Int)) (hid : (Option Addr × Nat × Nat)) => match st, hid with | (l5, z1), (a_r3, m_r3, cap_r3) => []) (fun F (st : ((List AutoState) × Int)) (hid : (Option Addr × Nat × Nat)) => match st, hid with | (l5, z1), (a_r3, m_r3, cap_r3) => [arr a_r3 m_r3 cap_r3 60 13 AutoState.d l5, box b5 27 [.v (.slice a_r3 m_r3 cap_r3), .i64 z1], (nthF F 0), (nthF F 1), (nthF F 2), (nthF F 3), (nthF F 4)]) (fun st => st = o_2) ⟨rfl, rfl, trivial⟩ ⟨rfl, rfl, rfl, rfl, rfl, trivial⟩ ?_ ?_
    · skip
      refine g_block ?_
      refine g_loop_m [(1, _), (2, _), (3, _), (6, _), (26, _), (27, _)] [(2, _), (3, _), (4, _), (5, _), (6, _)] (fun (st : (Int × (List AutoState) × Int)) (hid : (Option Addr × Nat × Nat)) => match st, hid with | (x3, l6, z2), (a_r3, m_r3, cap_r3) => [(28, .i64 x3)]) (fun F (st : (Int × (List AutoState) × Int)) (hid : (Option Addr × Nat × Nat)) => match st, hid with | (x3, l6, z2), (a_r3, m_r3, cap_r3) => [arr a_r3 m_r3 cap_r3 60 13 AutoState.d l6, box b5 27 [.v (.slice a_r3 m_r3 cap_r3), .i64 z2], (nthF F 0), (nthF F 1), (nthF F 2), (nthF F 3), (nthF F 4)]) (_, _, _) hj2 (fun _ => rfl) ⟨rfl, rfl, rfl, rfl, rfl, rfl, trivial⟩ ⟨rfl, rfl, rfl, rfl, rfl, trivial⟩ ⟨rfl, trivial⟩ rfl ?_
      rintro n ⟨x3, l6, z2⟩ ⟨a_r3, m_r3, cap_r3⟩ hj2
      rw [m_auto_normO_l2] at hj2
      refine g_norm (L' := [(28, .i64 x3), (1, _), (2, _), (3, _), (6, _), (26, _), (27, _)]) (ms' := [arr a_r3 m_r3 cap_r3 60 13 AutoState.d l6, box b5 27 [.v (.slice a_r3 m_r3 cap_r3), .i64 z2], _, _, _, _, _]) rfl rfl ?_
      refine g_seq ?_
      refine g_region ?_
      refine go_p rfl rfl rfl (o_cmp rfl rfl rfl) ?_
      refine go_nil ?_
      refine g_seq ?_
      refine g_cond rfl (fun hc1 => ?_) (fun hc1 => ?_)
      · replace hj2 := cond_t hc1 hj2
        refine g_skip ?_
        refine g_seq ?_
        refine g_block ?_
        refine g_seq ?_
        refine g_region ?_
        obtain ⟨x4, hx6, hj2⟩ := bind_some hj2
        refine go_p rfl rfl rfl (.view (peekE (i := 26) 2 rfl rfl rfl) (o_indexAddr_m Tryz.runUnderlying49 Tryz.sizeOf3 rfl rfl hx6)) ?_
        refine go_p rfl rfl rfl (o_load Tryz.isAgg3 rfl rfl) ?_
        refine go_p rfl rfl rfl (o_assign rfl) ?_
        refine go_nil ?_
        refine g_seq ?_
        refine g_region ?_
        refine go_p rfl rfl rfl (o_fieldAddr fi_27_0 rfl rfl rfl) ?_
        refine go_p rfl rfl rfl (o_load Tryz.isAgg25 rfl rfl) ?_
        refine go_p rfl rfl rfl (o_move rfl) ?_
        obtain ⟨x5, hx7, hj2⟩ := bind_some hj2
        refine go_p rfl rfl rfl (o_indexAddr_m Tryz.runUnderlying25 Tryz.sizeOf60 rfl rfl hx7) ?_
        refine go_p rfl rfl rfl (o_load_agg Tryz.isAgg60 Tryz.sizeOf60 rfl rfl) ?_
        refine go_op rfl rfl rfl (o_alloc_own Tryz.zeroValue60 (cs := [.bool false, .bool false, .bool false, .bool false, .bool false, .bool false, .bool false, .bool false, .list 1 D.i64 [], .i64 0, .i64 0, .list 2 AutoEdge.d [], .list 2 AutoEdge.d []]) rfl) ?_
        rintro _ _ ⟨b6, rfl, rfl⟩
        refine go_u rfl rfl (o_store_box 0 Tryz.sizeOf60 rfl rfl rfl rfl rfl rfl rfl rfl (Nat.le_of_ble_eq_true rfl)) ?_
        rintro _ _ rfl
        refine go_ms (ms' := [box b6 60 [_, _, _, _, _, _, _, _, _, _, _, _, _], _, box b5 27 [_, _], _, box b3 49 [_], box b2 49 [_], _, box b1 27 [_, _]]) rfl ?_
        refine go_nil ?_
        refine g_seq ?_
        refine g_seq ?_
        refine g_region ?_
        refine go_p rfl rfl rfl (o_fieldAddr_box fi_60_5 rfl) ?_
        refine go_p rfl rfl rfl (o_load_box 0 Tryz.isAgg4 rfl rfl rfl rfl) ?_
        refine go_nil ?_
        obtain ⟨o_3, hj3, hm3⟩ := bind_some hj2
        refine g_cut_m [(1, _), (2, _), (3, _), (6, _), (9, _), (26, _), (27, _), (28, _)] [(1, _), (2, _), (3, _), (4, _), (5, _), (6, _), (7, _)] (fun (st : (Bool × Bool × Bool × Bool × Bool × Bool × Bool × Bool × (List Int) × Int × Int × (List AutoEdge) × (List AutoEdge))) (hid : Unit) => match st, hid with | (z3, z4, z5, z6, z7, z8, z9, z10, z11, z12, z13, z14, z15), _ => []) (fun F (st : (Bool × Bool × Bool × Bool × Bool × Bool × Bool × Bool × (List Int) × Int × Int × (List AutoEdge) × (List AutoEdge))) (hid : Unit) => match st, hid with | (z3, z4, z5, z6, z7, z8, z9, z10, z11, z12, z13, z14, z15), _ => [box b6 60 [.bool z3, .bool z4, .bool z5, .bool z6, .bool z7, .bool z8, .bool z9, .bool z10, .list 1 D.i64 z11, .i64 z12, .i64 z13, .list 2 AutoEdge.d z14, .list 2 AutoEdge.d z15], (nthF F 0), (nthF F 1), (nthF F 2), (nthF F 3), (nthF F 4), (nthF F 5), (nthF F 6)]) (fun st => st = o_3) ⟨rfl, rfl, rfl, rfl, rfl, rfl, rfl, rfl, trivial⟩ ⟨rfl, rfl, rfl, rfl, rfl, rfl, rfl, trivial⟩ ?_ ?_
        · skip
          refine g_cond rfl (fun hc2 => ?_) (fun hc2 => ?_)
          · replace hj3 := cond_t hc2 hj3
            obtain ⟨x6, hx8, hj3⟩ := bind_some hj3
            obtain ⟨x7, hx9, hj3⟩ := bind_some hj3
            refine g_draw_c [11, 13] [5, 8, 9, 12] [5, 8, 9] Tryz_mixed (by decide +kernel) (by decide +kernel) rfl ?_
            refine gde_p rfl rfl rfl rfl rfl rfl (o_load_box 5 Tryz.isAgg49 rfl rfl rfl rfl) ?_
            refine gde_p rfl rfl rfl rfl rfl rfl (o_fieldAddr_box fi_60_9 rfl) ?_
            refine gde_p rfl rfl rfl rfl rfl rfl (o_load_box 0 Tryz.isAgg3 rfl rfl rfl rfl) ?_
            refine gde_p rfl rfl rfl rfl rfl rfl (.view (peekE (i := 39) 6 rfl rfl rfl) (o_indexAddr_m Tryz.runUnderlying49 Tryz.sizeOf3 rfl rfl hx8)) ?_
            refine gde_p rfl rfl rfl rfl rfl rfl (o_load Tryz.isAgg3 rfl rfl) ?_
            refine gde_f rfl rfl rfl rfl rfl (o_load_box 5 Tryz.isAgg49 rfl rfl rfl rfl) ?_
            refine gde_p rfl rfl rfl rfl rfl rfl (o_fieldAddr_box fi_60_10 rfl) ?_
            refine gde_p rfl rfl rfl rfl rfl rfl (o_load_box 0 Tryz.isAgg3 rfl rfl rfl rfl) ?_
            refine gde_f rfl rfl rfl rfl rfl (.view (peekE (i := 44) 6 rfl rfl rfl) (o_indexAddr_m Tryz.runUnderlying49 Tryz.sizeOf3 rfl rfl hx9)) ?_
            refine gde_f rfl rfl rfl rfl rfl (o_load Tryz.isAgg3 rfl rfl) ?_
            refine gde_p rfl rfl rfl rfl rfl rfl (o_fieldAddr_box fi_60_9 rfl) ?_
            refine gde_e rfl ?_
            refine gde_p rfl rfl rfl rfl rfl rfl (o_fieldAddr_box fi_60_10 rfl) ?_
            refine gde_e rfl ?_
            refine gde_nil ?_
            refine gde2_u rfl rfl rfl (o_store_box 0 Tryz.sizeOf3 rfl rfl rfl rfl rfl rfl rfl rfl (Nat.le_of_ble_eq_true rfl)) ?_
            rintro _ _ rfl
            refine ⟨⟨⟨⟨trivial, o_load_box 5 Tryz.isAgg49 rfl rfl rfl rfl⟩, .view (peekE (i := 44) 6 rfl rfl rfl) (o_indexAddr_m Tryz.runUnderlying49 Tryz.sizeOf3 rfl rfl hx9)⟩, o_load Tryz.isAgg3 rfl rfl⟩, ?_⟩
            refine gde2_u rfl rfl rfl (o_store_box 0 Tryz.sizeOf3 rfl rfl rfl rfl rfl rfl rfl rfl (Nat.le_of_ble_eq_true rfl)) ?_
            rintro _ _ rfl
            refine ⟨⟨⟨⟨trivial, o_load_box 5 Tryz.isAgg49 rfl rfl rfl rfl⟩, .view (peekE (i := 44) 6 rfl rfl rfl) (o_indexAddr_m Tryz.runUnderlying49 Tryz.sizeOf3 rfl rfl hx9)⟩, o_load Tryz.isAgg3 rfl rfl⟩, ?_⟩
            refine gde2_nil ?_
            exact ⟨_, (), some_eq hj3, trivial, ⟨rfl, rfl, rfl, rfl, rfl, rfl, rfl, rfl, trivial⟩, [], rfl⟩
          · replace hj3 := cond_f hc2 hj3
            refine g_skip ?_
            exact ⟨_, (), some_eq hj3, trivial, ⟨rfl, rfl, rfl, rfl, rfl, rfl, rfl, rfl, trivial⟩, [], rfl⟩
        · rintro ⟨z3, z4, z5, z6, z7, z8, z9, z10, z11, z12, z13, z14, z15⟩ _ hst
          subst hst
          refine k_norm (L' := [(1, _), (2, _), (3, _), (6, _), (9, _), (26, _), (27, _), (28, _)]) (ms' := [box b6 60 [.bool z3, .bool z4, .bool z5, .bool z6, .bool z7, .bool z8, .bool z9, .bool z10, .list 1 D.i64 z11, .i64 z12, .i64 z13, .list 2 AutoEdge.d z14, .list 2 AutoEdge.d z15], _, _, _, _, _, _, _]) rfl rfl ?_
          refine g_seq ?_
          refine g_region ?_
          refine go_p rfl rfl rfl (o_fieldAddr_box fi_60_8 rfl) ?_
          refine go_p rfl rfl rfl (o_load_box 0 Tryz.isAgg49 rfl rfl rfl rfl) ?_
          obtain ⟨hg10, hm3⟩ := grd_some hm3
          refine go_op rfl rfl rfl (o_call (ms₁ := []) Tryz.call47 rfl (List.Perm.refl _) (w_Clone_47 hg10)) ?_
          rintro _ _ ⟨_, ⟨a_r4, cap_r4, rfl, rfl⟩, rfl⟩
          generalize hm_r4 : z11.length = m_r4
          clear hm_r4
          refine go_p rfl rfl rfl (o_fieldAddr_box fi_60_8 rfl) ?_
          refine go_u rfl rfl (o_store_box 1 Tryz.sizeOf49 rfl rfl rfl rfl rfl rfl rfl rfl (Nat.le_of_ble_eq_true rfl)) ?_
          rintro _ _ rfl
          refine go_ms (ms' := [_, box b6 60 [_, _, _, _, _, _, _, _, _, _, _, _, _], _, box b5 27 [_, _], _, box b3 49 [_], box b2 49 [_], _, box b1 27 [_, _]]) rfl ?_
          refine go_nil ?_
          refine g_seq ?_
          obtain ⟨x8, hx11, hm3⟩ := bind_some hm3
          obtain ⟨x9, hx12, hm3⟩ := bind_some hm3
          refine g_draw 9 Tryz_mixed (by decide +kernel) ?_
          refine gd_p rfl rfl rfl (o_fieldAddr_box fi_60_11 rfl) ?_
          refine gd_p rfl rfl rfl (o_load_box 1 Tryz.isAgg58 rfl rfl rfl rfl) ?_
          refine gd_p rfl rfl rfl (o_load_box 6 Tryz.isAgg49 rfl rfl rfl rfl) ?_
          refine gd_p rfl rfl rfl (.view (peekE (i := 57) 7 rfl rfl rfl) (o_call0 Tryz.call87 rfl (w_auto_moved hx11))) ?_
          refine gd_p rfl rfl rfl (o_fieldAddr_box fi_60_12 rfl) ?_
          refine gd_p rfl rfl rfl (o_load_box 1 Tryz.isAgg58 rfl rfl rfl rfl) ?_
          refine gd_p rfl rfl rfl (o_load_box 6 Tryz.isAgg49 rfl rfl rfl rfl) ?_
          refine gd_p rfl rfl rfl (.view (peekE (i := 61) 7 rfl rfl rfl) (o_call0 Tryz.call87 rfl (w_auto_moved hx12))) ?_
          refine gd_p rfl rfl rfl (o_fieldAddr_box fi_60_11 rfl) ?_
          refine gd_nil ?_
          refine go_u rfl rfl (o_store_box 1 Tryz.sizeOf58 rfl rfl rfl rfl rfl rfl rfl rfl (Nat.le_of_ble_eq_true rfl)) ?_
          rintro _ _ rfl
          refine go_ms (ms' := [_, box b6 60 [_, _, _, _, _, _, _, _, _, _, _, _, _], _, box b5 27 [_, _], _, box b3 49 [_], box b2 49 [_], _, box b1 27 [_, _]]) rfl ?_
          refine go_p rfl rfl rfl (o_fieldAddr_box fi_60_12 rfl) ?_
          refine go_u rfl rfl (o_store_box 1 Tryz.sizeOf58 rfl rfl rfl rfl rfl rfl rfl rfl (Nat.le_of_ble_eq_true rfl)) ?_
          rintro _ _ rfl
          refine go_ms (ms' := [_, box b6 60 [_, _, _, _, _, _, _, _, _, _, _, _, _], _, box b5 27 [_, _], _, box b3 49 [_], box b2 49 [_], _, box b1 27 [_, _]]) rfl ?_
          refine go_nil ?_
          refine g_region ?_
          refine go_p rfl rfl rfl (o_fieldAddr_box fi_27_0 rfl) ?_
          refine go_p rfl rfl rfl (o_load_box 3 Tryz.isAgg25 rfl rfl rfl rfl) ?_
          refine go_thaw 0 rfl rfl ?_
          rintro rfl
          refine go_p rfl rfl rfl (o_load_box_agg 1 Tryz.isAgg60 Tryz.sizeOf60 rfl rfl rfl rfl (Nat.le_of_ble_eq_true rfl)) ?_
          refine go_conv (peekAggE (i := 67) (q := 8) 0 rfl rfl rfl rfl rfl).refines ?_
          refine go_p rfl rfl rfl (o_buildSlice (xs := [_]) (f := AutoState.d) (l := [(⟨z3, z4, z5, z6, z7, z8, z9, z10, z11, z12, z13, x8, x9⟩ : AutoState)]) Tryz.runUnderlying25 Tryz.sizeOf60 Tryz.zeroValue60 rfl rfl rfl (fun _ => ⟨rfl, rfl, rfl⟩) rfl) ?_
          obtain ⟨hg13, hm3⟩ := grd_some hm3
          refine go_op rfl rfl rfl (o_append_own (a := _) 2 Tryz.underlying25 Tryz.type60 rfl rfl rfl rfl rfl rfl (fun _ => rfl) (fun _ => rfl) hg13 (app_len hg13 rfl)) ?_
          rintro _ _ ⟨a_r3, m_r3, cap_r3, rfl, rfl⟩
          refine go_ms (ms' := [_, box b6 60 [_, _, _, _, _, _, _, _, _, _, _, _, _], _, box b5 27 [_, _], _, box b3 49 [_], box b2 49 [_], _, box b1 27 [_, _]]) rfl ?_
          refine go_p rfl rfl rfl (o_fieldAddr_box fi_27_0 rfl) ?_
          refine go_u rfl rfl (o_store_box 3 Tryz.sizeOf25 rfl rfl rfl rfl rfl rfl rfl rfl (Nat.le_of_ble_eq_true rfl)) ?_
          rintro _ _ rfl
          refine go_ms (ms' := [_, box b6 60 [_, _, _, _, _, _, _, _, _, _, _, _, _], _, box b5 27 [_, _], _, box b3 49 [_], box b2 49 [_], _, box b1 27 [_, _]]) rfl ?_
          refine go_nil ?_
          refine g_region ?_
          obtain ⟨hg14, hm3⟩ := grd_some hm3
          refine go_p rfl rfl rfl (o_add rfl rfl (i64_id hg14)) ?_
          refine go_p rfl rfl rfl (o_move rfl) ?_
          refine go_nil ?_
          exact ⟨_, (_, _, _), hm3, ⟨rfl, trivial⟩, ⟨rfl, rfl, rfl, rfl, rfl, rfl, trivial⟩, [_, _], rfl⟩
      · replace hj2 := cond_f hc1 hj2
        refine g_exit ?_
        exact ⟨_, (_, _, _), some_eq hj2, trivial, ⟨rfl, rfl, trivial⟩, [], rfl⟩
    · rintro ⟨l5, z1⟩ ⟨a_r3, m_r3, cap_r3⟩ hst
      subst hst
      refine k_norm (L' := [(2, _), (6, _)]) (ms' := [arr a_r3 m_r3 cap_r3 60 13 AutoState.d l5, box b5 27 [.v (.slice a_r3 m_r3 cap_r3), .i64 z1], _, _, _, _, _]) rfl rfl ?_
      refine g_seq ?_
      refine g_region ?_
      refine go_p rfl rfl rfl (o_load_box_agg 1 Tryz.isAgg27 Tryz.sizeOf27 rfl rfl rfl rfl (Nat.le_of_ble_eq_true rfl)) ?_
      refine go_u rfl rfl (o_store_box 6 Tryz.sizeOf27 rfl rfl rfl rfl rfl rfl rfl rfl (Nat.le_of_ble_eq_true rfl)) ?_
      rintro _ _ rfl
      refine go_ms (ms' := [_, box b5 27 [_, _], _, box b3 49 [_], box b2 49 [_], _, box b1 27 [_, _]]) rfl ?_
      refine go_nil ?_
      refine g_ret ?_
      obtain rfl := some_eq hm2
      exact retK (ret_one' rfl (ret_cell 6 rfl rfl rfl Tryz.isAgg27 Tryz.sizeOf27 rfl) (permA 0 rfl permN)) ⟨_, _, _, rfl, rfl⟩
def m_auto_Norm (a1 : AutoAuto) : Option (AutoAuto × Int) :=
  (m_auto_May a1).bind fun x1 =>
  bif (!decide (x1 = 0)) then
    some ((⟨([] : List AutoState), 0⟩ : AutoAuto), x1)
  else
    (m_auto_norm a1).bind fun x2 =>
    some ((⟨x2.l, x2.start⟩ : AutoAuto), 0)
theorem w_auto_Norm {a1 : AutoAuto} {r_1 : AutoAuto} {r_2 : Int} (hm : m_auto_Norm a1 = some (r_1, r_2)) : Fn0 Tryz.prog 27 [AutoAuto.d a1] (.tup [AutoAuto.d r_1, .i64 r_2]) := by
  unfold m_auto_Norm at hm
  refine fn_intro Tryz.func27 rfl Tryz.ntmps27 rfl fun H0 fr w0 => ?_
  refine g_seq ?_
  refine g_region ?_
  refine go_p rfl rfl rfl (o_box rfl rfl) ?_
  refine go_op rfl rfl rfl (o_alloc_own Tryz.zeroValue27 (cs := [.list 13 AutoState.d [], .i64 0]) rfl) ?_
  rintro _ _ ⟨b1, rfl, rfl⟩
  refine go_p rfl rfl rfl (o_assign rfl) ?_
  refine go_nil ?_
  refine g_seq ?_
  refine g_seq ?_
  refine g_region ?_
  refine go_p rfl rfl rfl (o_load_agg Tryz.isAgg27 Tryz.sizeOf27 rfl rfl) ?_
  obtain ⟨x1, hx1, hm⟩ := bind_some hm
  refine go_p rfl rfl rfl (o_call0 Tryz.call61 rfl (w_auto_May hx1)) ?_
  refine go_p rfl rfl rfl (o_assign rfl) ?_
  refine go_nil ?_
  refine g_seq ?_
  refine g_region ?_
  refine go_p rfl rfl rfl (o_move rfl) ?_
  refine go_p rfl rfl rfl (o_cmp rfl rfl rfl) ?_
  refine go_nil ?_
  refine g_cond rfl (fun hc1 => ?_) (fun hc1 => ?_)
  · replace hm := cond_t hc1 hm
    refine g_seq ?_
    refine g_region ?_
    refine go_p rfl rfl rfl (o_build (zs := [.list 13 AutoState.d [], .v (.int .i64 0)]) Tryz.runUnderlying27 Tryz.zeroValue27 (pl_27 _ Tryz.runUnderlying27) rfl rfl rfl rfl) ?_
    refine go_p rfl rfl rfl (o_move rfl) ?_
    refine go_u rfl rfl (o_store_box 0 Tryz.sizeOf27 rfl rfl rfl rfl rfl rfl rfl rfl (Nat.le_of_ble_eq_true rfl)) ?_
    rintro _ _ rfl
    refine go_ms (ms' := [box b1 27 [_, _]]) rfl ?_
    refine go_p rfl rfl rfl (o_assign rfl) ?_
    refine go_nil ?_
    refine g_ret ?_
    exact retK (ret_many (ds := [_, _]) rfl (by decide) ⟨ret_cell 0 rfl rfl rfl Tryz.isAgg27 Tryz.sizeOf27 rfl, ⟨ret_tmp rfl, rfl⟩⟩ (perm_drop _)) (congrArg (fun (p : (AutoAuto × Int)) => D.tup [AutoAuto.d p.1, .i64 p.2]) (some_eq hm))
  · replace hm := cond_f hc1 hm
    refine g_skip ?_
    refine g_seq ?_
    refine g_region ?_
    refine go_p rfl rfl rfl (o_load_agg Tryz.isAgg27 Tryz.sizeOf27 rfl rfl) ?_
    obtain ⟨x2, hx2, hm⟩ := bind_some hm
    refine go_p rfl rfl rfl (o_call0 Tryz.call62 rfl (w_auto_norm hx2)) ?_
    refine go_u rfl rfl (o_store_box 0 Tryz.sizeOf27 rfl rfl rfl rfl rfl rfl rfl rfl (Nat.le_of_ble_eq_true rfl)) ?_
    rintro _ _ rfl
    refine go_ms (ms' := [box b1 27 [_, _]]) rfl ?_
    refine go_p rfl rfl rfl (o_assign rfl) ?_
    refine go_nil ?_
    refine g_ret ?_
    exact retK (ret_many (ds := [_, _]) rfl (by decide) ⟨ret_cell 0 rfl rfl rfl Tryz.isAgg27 Tryz.sizeOf27 rfl, ⟨ret_tmp rfl, rfl⟩⟩ (perm_drop _)) (congrArg (fun (p : (AutoAuto × Int)) => D.tup [AutoAuto.d p.1, .i64 p.2]) (some_eq hm))
def m_auto_NormO (a1 : AutoAuto)  : Option (Int × AutoAuto) :=
  (m_auto_May a1).bind fun x1 =>
  bif (!decide (x1 = 0)) then
    some (x1, (⟨([] : List AutoState), 0⟩ : AutoAuto))
  else
    (m_auto_normO a1).bind fun s1 =>
    some (0, (⟨s1.l, s1.start⟩ : AutoAuto))
theorem w_auto_NormO {a1 : AutoAuto}  {r_2 : Int} {s_1 : AutoAuto} (hm : m_auto_NormO a1 = some (r_2, s_1)) : Go.V.Fn Tryz.prog 27 [AutoAuto.d a1] [] (fun d ms' => ∃ a_s_1c0 m_s_1c0 cap_s_1c0, d = .tup [.agg [.v (.slice a_s_1c0 m_s_1c0 cap_s_1c0), .i64 s_1.start], .i64 r_2] ∧ ms' = [arr a_s_1c0 m_s_1c0 cap_s_1c0 60 13 AutoState.d s_1.l]) := by
  unfold m_auto_NormO at hm
  refine fn_intro Tryz.func27 rfl Tryz.ntmps27 rfl fun H0 fr w0 => ?_
  refine g_seq ?_
  refine g_region ?_
  refine go_p rfl rfl rfl (o_box rfl rfl) ?_
  refine go_op rfl rfl rfl (o_alloc_own Tryz.zeroValue27 (cs := [.list 13 AutoState.d [], .i64 0]) rfl) ?_
  rintro _ _ ⟨b1, rfl, rfl⟩
  refine go_p rfl rfl rfl (o_assign rfl) ?_
  refine go_nil ?_
  refine g_seq ?_
  refine g_seq ?_
  refine g_region ?_
  refine go_p rfl rfl rfl (o_load_agg Tryz.isAgg27 Tryz.sizeOf27 rfl rfl) ?_
  obtain ⟨x1, hx1, hm⟩ := bind_some hm
  refine go_p rfl rfl rfl (o_call0 Tryz.call61 rfl (w_auto_May hx1)) ?_
  refine go_p rfl rfl rfl (o_assign rfl) ?_
  refine go_nil ?_
  refine g_seq ?_
  refine g_region ?_
  refine go_p rfl rfl rfl (o_move rfl) ?_
  refine go_p rfl rfl rfl (o_cmp rfl rfl rfl) ?_
  refine go_nil ?_
  refine g_cond rfl (fun hc1 => ?_) (fun hc1 => ?_)
  · replace hm := cond_t hc1 hm
    refine g_seq ?_
    refine g_region ?_
    refine go_p rfl rfl rfl (o_build (zs := [.v (.slice none 0 0), .v (.int .i64 0)]) Tryz.runUnderlying27 Tryz.zeroValue27 (pl_27 _ Tryz.runUnderlying27) rfl rfl rfl rfl) ?_
    refine go_p rfl rfl rfl (o_move rfl) ?_
    refine go_u rfl rfl (o_store_box 0 Tryz.sizeOf27 rfl rfl rfl rfl rfl rfl rfl rfl (Nat.le_of_ble_eq_true rfl)) ?_
    rintro _ _ rfl
    refine go_conv (refines_newarr (T := 60) (sz := 13) (f := AutoState.d)) ?_
    refine go_ms (ms' := [_, box b1 27 [_, _]]) rfl ?_
    refine go_p rfl rfl rfl (o_assign rfl) ?_
    refine go_nil ?_
    refine g_ret ?_
    have hq1 := some_eq hm
    obtain ⟨rfl, rfl⟩ := Prod.mk.inj hq1
    exact retK (ret_many (ds := [_, _]) rfl (by decide) ⟨ret_cell 1 rfl rfl rfl Tryz.isAgg27 Tryz.sizeOf27 rfl, ⟨ret_tmp rfl, rfl⟩⟩ (permA 0 rfl permN)) ⟨_, _, _, rfl, rfl⟩
  · replace hm := cond_f hc1 hm
    refine g_skip ?_
    refine g_seq ?_
    refine g_region ?_
    refine go_p rfl rfl rfl (o_load_agg Tryz.isAgg27 Tryz.sizeOf27 rfl rfl) ?_
    obtain ⟨s1, hx2, hm⟩ := bind_some hm
    refine go_op rfl rfl rfl (o_call (ms₁ := []) Tryz.call62 rfl (List.Perm.refl _) (w_auto_normO hx2)) ?_
    rintro _ _ ⟨_, ⟨a_r2, m_r2, cap_r2, rfl, rfl⟩, rfl⟩
    refine go_u rfl rfl (o_store_box 1 Tryz.sizeOf27 rfl rfl rfl rfl rfl rfl rfl rfl (Nat.le_of_ble_eq_true rfl)) ?_
    rintro _ _ rfl
    refine go_ms (ms' := [_, box b1 27 [_, _]]) rfl ?_
    refine go_p rfl rfl rfl (o_assign rfl) ?_
    refine go_nil ?_
    refine g_ret ?_
    have hq1 := some_eq hm
    obtain ⟨rfl, rfl⟩ := Prod.mk.inj hq1
    exact retK (ret_many (ds := [_, _]) rfl (by decide) ⟨ret_cell 1 rfl rfl rfl Tryz.isAgg27 Tryz.sizeOf27 rfl, ⟨ret_tmp rfl, rfl⟩⟩ (permA 0 rfl permN)) ⟨_, _, _, rfl, rfl⟩
def m_pair_first_l2 (is1 : (Int → Int → Option Bool)) (x2 : Int) (l2 : (List Int)) : Nat → Int → Option (Out (Int × Int × Bool) Unit)
  | 0, _ => none
  | n + 1, x3 =>
    bif (decide (x3 < (l2.length : Int))) then
      (idx l2 x3).bind fun x4 =>
      (is1 x2 x4).bind fun x5 =>
      bif x5 then
        some (Out.ret (x2, x4, true))
      else
        grd (InR (x3 + 1)) <|
        m_pair_first_l2 is1 x2 l2 n (x3 + 1)
    else
      some (Out.go (()))
def m_pair_first_l1 (l1 : (List Int)) (is1 : (Int → Int → Option Bool)) : Nat → Int → Option (Out (Int × Int × Bool) Unit)
  | 0, _ => none
  | n + 1, x1 =>
    bif (decide (x1 < (l1.length : Int))) then
      (idx l1 x1).bind fun x2 =>
      grd (InR (x1 + 1)) <|
      (sli l1 (x1 + 1) (l1.length : Int)).bind fun l2 =>
      ((m_pair_first_l2 is1 x2 l2 FU 0 : Option (Out (Int × Int × Bool) Unit))).bind (fun oo => oo.on (fun r1 => some (Out.ret r1)) (fun _ =>
      grd (InR (x1 + 1)) <|
      m_pair_first_l1 l1 is1 n (x1 + 1)))
    else
      some (Out.go (()))
def m_pair_first (l1 : (List Int)) (is1 : (Int → Int → Option Bool)) : Option (Int × Int × Bool) :=
  ((m_pair_first_l1 l1 is1 FU 0 : Option (Out (Int × Int × Bool) Unit))).bind (fun oo => oo.on (fun r2 => some r2) (fun _ =>
  some (0, 0, false)))
theorem w_pair_first {l1 : (List Int)} {is1 : (Int → Int → Option Bool)} {r_1 : Int} {r_2 : Int} {r_3 : Bool} {fv_is1 : D} (hfis1 : FunOk2 Tryz.prog fv_is1 D.i64 D.i64 D.bool is1) (hm : m_pair_first l1 is1 = some (r_1, r_2, r_3)) : Fn0 Tryz.prog 28 [.list 1 D.i64 l1, fv_is1] (.tup [.i64 r_1, .i64 r_2, .bool r_3]) := by
  unfold m_pair_first at hm
  refine fn_intro Tryz.func28 rfl Tryz.ntmps28 rfl fun H0 fr w0 => ?_
  refine g_seq ?_
  refine g_region ?_
  refine go_p rfl rfl rfl (o_assign rfl) ?_
  refine go_p rfl rfl rfl (o_assign rfl) ?_
  refine go_p rfl rfl rfl (o_assign rfl) ?_
  refine go_nil ?_
  refine g_seq ?_
  refine g_seq ?_
  refine g_region ?_
  refine go_p rfl rfl rfl (o_move rfl) ?_
  refine go_p rfl rfl rfl (o_len Tryz.runUnderlying49 rfl) ?_
  refine go_p rfl rfl rfl (o_move rfl) ?_
  refine go_nil ?_
  obtain ⟨o_1, hj1, hm1⟩ := bind_some hm
  refine g_cut_m [] [] (fun (st : Unit) (hid : Unit) => match st, hid with | _, _ => []) (fun F (st : Unit) (hid : Unit) => match st, hid with | _, _ => []) (fun st => Out.go (st) = o_1) trivial trivial ?_ ?_
  · skip
    refine g_block ?_
    refine g_loop_m [(0, _), (1, _), (11, _), (12, _)] [] (fun (st : Int) (hid : Unit) => match st, hid with | x1, _ => [(13, .i64 x1)]) (fun F (st : Int) (hid : Unit) => match st, hid with | x1, _ => []) () hj1 (fun _ => rfl) ⟨rfl, rfl, rfl, rfl, trivial⟩ trivial ⟨rfl, trivial⟩ rfl ?_
    rintro n x1 _ hj1
    rw [m_pair_first_l1] at hj1
    refine g_norm (L' := [(13, .i64 x1), (0, _), (1, _), (11, _), (12, _)]) (ms' := []) rfl rfl ?_
    refine g_seq ?_
    refine g_region ?_
    refine go_p rfl rfl rfl (o_cmp rfl rfl rfl) ?_
    refine go_nil ?_
    refine g_seq ?_
    refine g_cond rfl (fun hc1 => ?_) (fun hc1 => ?_)
    · replace hj1 := cond_t hc1 hj1
      refine g_skip ?_
      refine g_seq ?_
      refine g_block ?_
      refine g_seq ?_
      refine g_region ?_
      refine go_p rfl rfl rfl (o_move rfl) ?_
      obtain ⟨x2, hx1, hj1⟩ := bind_some hj1
      refine go_p rfl rfl rfl (o_indexAddr_m Tryz.runUnderlying49 Tryz.sizeOf3 rfl rfl hx1) ?_
      refine go_p rfl rfl rfl (o_load Tryz.isAgg3 rfl rfl) ?_
      refine go_p rfl rfl rfl (o_assign rfl) ?_
      refine go_p rfl rfl rfl (o_assign rfl) ?_
      refine go_nil ?_
      refine g_seq ?_
      refine g_region ?_
      refine go_p rfl rfl rfl (o_move rfl) ?_
      refine go_p rfl rfl rfl (o_move rfl) ?_
      obtain ⟨hg2, hj1⟩ := grd_some hj1
      refine go_p rfl rfl rfl (o_add rfl rfl (i64_id hg2)) ?_
      obtain ⟨l2, hx3, hj1⟩ := bind_some hj1
      refine go_p rfl rfl rfl (o_slice_m Tryz.runUnderlying49 Tryz.sizeOf3 rfl ⟨_, rfl⟩ rfl hx3) ?_
      refine go_p rfl rfl rfl (o_len Tryz.runUnderlying49 rfl) ?_
      refine go_p rfl rfl rfl (o_move rfl) ?_
      refine go_nil ?_
      obtain ⟨o_2, hj2, hm2⟩ := bind_some hj1
      refine g_cut_m [(0, _), (1, _), (11, _), (12, _), (13, _)] [] (fun (st : Unit) (hid : Unit) => match st, hid with | _, _ => []) (fun F (st : Unit) (hid : Unit) => match st, hid with | _, _ => []) (fun st => Out.go (st) = o_2) ⟨rfl, rfl, rfl, rfl, rfl, trivial⟩ trivial ?_ ?_
      · skip
        refine g_block ?_
        refine g_loop_m [(0, _), (1, _), (8, _), (11, _), (12, _), (13, _), (21, _), (22, _)] [] (fun (st : Int) (hid : Unit) => match st, hid with | x3, _ => [(23, .i64 x3)]) (fun F (st : Int) (hid : Unit) => match st, hid with | x3, _ => []) () hj2 (fun _ => rfl) ⟨rfl, rfl, rfl, rfl, rfl, rfl, rfl, rfl, trivial⟩ trivial ⟨rfl, trivial⟩ rfl ?_
        rintro n x3 _ hj2
        rw [m_pair_first_l2] at hj2
        refine g_norm (L' := [(23, .i64 x3), (0, _), (1, _), (8, _), (11, _), (12, _), (13, _), (21, _), (22, _)]) (ms' := []) rfl rfl ?_
        refine g_seq ?_
        refine g_region ?_
        refine go_p rfl rfl rfl (o_cmp rfl rfl rfl) ?_
        refine go_nil ?_
        refine g_seq ?_
        refine g_cond rfl (fun hc2 => ?_) (fun hc2 => ?_)
        · replace hj2 := cond_t hc2 hj2
          refine g_skip ?_
          refine g_seq ?_
          refine g_block ?_
          refine g_seq ?_
          refine g_region ?_
          obtain ⟨x4, hx4, hj2⟩ := bind_some hj2
          refine go_p rfl rfl rfl (o_indexAddr_m Tryz.runUnderlying49 Tryz.sizeOf3 rfl rfl hx4) ?_
          refine go_p rfl rfl rfl (o_load Tryz.isAgg3 rfl rfl) ?_
          refine go_p rfl rfl rfl (o_assign rfl) ?_
          refine go_nil ?_
          refine g_seq ?_
          refine g_region ?_
          refine go_p rfl rfl rfl (o_move rfl) ?_
          refine go_p rfl rfl rfl (o_move rfl) ?_
          refine go_p rfl rfl rfl (o_move rfl) ?_
          obtain ⟨x5, hx5, hj2⟩ := bind_some hj2
          refine go_p rfl rfl rfl (o_callv0 rfl rfl (hfis1 _ _ _ hx5)) ?_
          refine go_nil ?_
          refine g_cond rfl (fun hc3 => ?_) (fun hc3 => ?_)
          · replace hj2 := cond_t hc3 hj2
            refine g_seq ?_
            refine g_region ?_
            refine go_p rfl rfl rfl (o_move rfl) ?_
            refine go_p rfl rfl rfl (o_move rfl) ?_
            refine go_p rfl rfl rfl (o_assign rfl) ?_
            refine go_p rfl rfl rfl (o_assign rfl) ?_
            refine go_p rfl rfl rfl (o_assign rfl) ?_
            refine go_nil ?_
            refine g_ret ?_
            obtain rfl := some_eq hj2
            replace hm2 := on_ret hm2
            obtain rfl := some_eq hm2
            replace hm1 := on_ret hm1
            exact retK (ret_many (ds := [_, _, _]) rfl (by decide) ⟨ret_tmp rfl, ⟨ret_tmp rfl, ⟨ret_tmp rfl, rfl⟩⟩⟩ (perm_drop _)) (congrArg (fun (p : (Int × Int × Bool)) => D.tup [.i64 p.1, .i64 p.2.1, .bool p.2.2]) (some_eq hm1))
          · replace hj2 := cond_f hc3 hj2
            refine g_skip ?_
            refine g_region ?_
            obtain ⟨hg6, hj2⟩ := grd_some hj2
            refine go_p rfl rfl rfl (o_add rfl rfl (i64_id hg6)) ?_
            refine go_p rfl rfl rfl (o_move rfl) ?_
            refine go_nil ?_
            exact ⟨_, (), hj2, ⟨rfl, trivial⟩, ⟨rfl, rfl, rfl, rfl, rfl, rfl, rfl, rfl, trivial⟩, [], rfl⟩
        · replace hj2 := cond_f hc2 hj2
          refine g_exit ?_
          exact ⟨_, (), some_eq hj2, trivial, ⟨rfl, rfl, rfl, rfl, rfl, trivial⟩, [], rfl⟩
      · rintro _ _ hst
        subst hst
        replace hm2 := on_go hm2
        refine k_norm (L' := [(0, _), (1, _), (11, _), (12, _), (13, _)]) (ms' := []) rfl rfl ?_
        refine g_region ?_
        obtain ⟨hg7, hm2⟩ := grd_some hm2
        refine go_p rfl rfl rfl (o_add rfl rfl (i64_id hg7)) ?_
        refine go_p rfl rfl rfl (o_move rfl) ?_
        refine go_nil ?_
        exact ⟨_, (), hm2, ⟨rfl, trivial⟩, ⟨rfl, rfl, rfl, rfl, trivial⟩, [], rfl⟩
    · replace hj1 := cond_f hc1 hj1
      refine g_exit ?_
      exact ⟨_, (), some_eq hj1, trivial, trivial, [], rfl⟩
  · rintro _ _ hst
    subst hst
    replace hm1 := on_go hm1
    refine k_norm (L' := []) (ms' := []) rfl rfl ?_
    refine g_seq ?_
    refine g_region ?_
    refine go_p rfl rfl rfl (o_assign rfl) ?_
    refine go_p rfl rfl rfl (o_assign rfl) ?_
    refine go_p rfl rfl rfl (o_assign rfl) ?_
    refine go_nil ?_
    refine g_ret ?_
    exact retK (ret_many (ds := [_, _, _]) rfl (by decide) ⟨ret_tmp rfl, ⟨ret_tmp rfl, ⟨ret_tmp rfl, rfl⟩⟩⟩ (perm_drop _)) (congrArg (fun (p : (Int × Int × Bool)) => D.tup [.i64 p.1, .i64 p.2.1, .bool p.2.2]) (some_eq hm1))
def m_vars_sides_l2 (x2 : AutoState) (side1 : Int) : Nat → (Int × (List (Int × Int))) → Option (List (Int × Int))
  | 0, _ => none
  | n + 1, (x3, mm4) =>
    bif (decide (x3 < (x2.vars.length : Int))) then
      (idx x2.vars x3).bind fun x4 =>
      grd (InR (x3 + 1)) <|
      m_vars_sides_l2 x2 side1 n ((x3 + 1), (mset mm4 x4 (orI ((mget mm4 x4).getD (0 : Int)) side1)))
    else
      some mm4
def m_vars_sides_l1 (a1 : AutoAuto) : Nat → (Int × (List (Int × Int))) → Option (List (Int × Int))
  | 0, _ => none
  | n + 1, (x1, mm2) =>
    bif (decide (x1 < (a1.l.length : Int))) then
      (idx a1.l x1).bind fun x2 =>
      (bif x2.plus then
        some 1
      else
        some 2 : Option Int).bind fun side1 =>
      (m_vars_sides_l2 x2 side1 FU (0, mm2) : Option (List (Int × Int))).bind fun mm3 =>
      grd (InR (x1 + 1)) <|
      m_vars_sides_l1 a1 n ((x1 + 1), mm3)
    else
      some mm2
def m_vars_sides (a1 : AutoAuto)  : Option (List (Int × Int)) :=
  (m_vars_sides_l1 a1 FU (0, ([] : List (Int × Int))) : Option (List (Int × Int))).bind fun mm1 =>
  some mm1
end Go.Proofs.YtafphfokopkhdaaGreat
