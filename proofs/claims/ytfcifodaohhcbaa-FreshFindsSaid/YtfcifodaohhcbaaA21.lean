/- Part A21 of the proof: contracts of the functions that are walked, and what they compute; no condition. -/
import Derived.Test.YtfcifodaohhcbaaV16
import Derived.Test.YtfcifodaohhcbaaProg
set_option linter.unusedVariables false
set_option linter.unusedSimpArgs false
set_option maxRecDepth 100000
namespace Go.Proofs.Ytfcifodaohhcbaa
open Go.V


structure RSch where
  name : List UInt8
  node : Int
  above : Int
def RSch.d (s : RSch) : D := .agg [.str s.name, .i64 s.node, .i64 s.above]
structure Bind where
  name : List UInt8
  node : Int
  above : Int
def Bind.d (s : Bind) : D := .agg [.str s.name, .i64 s.node, .i64 s.above]
theorem Try_mixed : Try.prog.follows .mixedOrders = true := by kernel_rfl
def toR (b : Bind) : RSch := ⟨b.name, b.node, b.above⟩
def findR (l : List RSch) (nm : List UInt8) : Option RSch := l.reverse.find? (fun s => decide (s.name = nm))
def findRes (l : List RSch) (nm : List UInt8) : D := .tup [.agg [.str ((findR l nm).elim [] (·.name)), .i64 ((findR l nm).elim 0 (·.node)), .i64 ((findR l nm).elim 0 (·.above))], .bool (findR l nm).isSome]
/-- Names that are bound, the innermost first. -/
def namesD : List Bind → D
  | [] => .v (.pointer none)
  | b :: r => .ref (.agg [.str b.name, .i64 b.node, .i64 b.above, namesD r])
theorem namesD_agg : ∀ l : List Bind, (namesD l).isAgg = false
  | [] => rfl
  | _ :: _ => rfl
theorem flat_names (s : List UInt8) (a b : Int) (r : List Bind) : flat [.str s, .i64 a, .i64 b, namesD r] = true := by cases r <;> rfl
theorem nilP_names : ∀ l : List Bind, NilP (namesD l) l.isEmpty
  | [] => nilP_nil
  | b :: r => nilP_ref
def yieldsOf (l : List Bind) : List (List D) := l.map fun b => [.str b.name, .agg [.i64 b.node, .i64 b.above]]
theorem yieldsOf_get {l : List Bind} {k : Nat} {b : Bind} (h : l[k]? = some b) : (yieldsOf l)[k]? = some [.str b.name, .agg [.i64 b.node, .i64 b.above]] := by simp [yieldsOf, h]
theorem yieldsOf_inv {l : List Bind} {k : Nat} {ds : List D} (h : (yieldsOf l)[k]? = some ds) : ∃ b, l[k]? = some b ∧ ds = [.str b.name, .agg [.i64 b.node, .i64 b.above]] := by
  simp only [yieldsOf, List.getElem?_map, Option.map_eq_some_iff] at h
  obtain ⟨b, h1, h2⟩ := h
  exact ⟨b, h1, h2.symm⟩
theorem drop_cons {α : Type} {l r : List α} {k : Nat} {b : α} (h : l.drop k = b :: r) : l[k]? = some b ∧ l.drop (k + 1) = r := by
  constructor
  · have := congrArg (·[0]?) h; simpa using this
  · have := congrArg (·.drop 1) h; simpa [Nat.add_comm] using this
theorem drop_nil {α : Type} {l : List α} {k : Nat} (hk : k ≤ l.length) (h : l.drop k = []) : k = l.length := by
  have := congrArg List.length h; simp at this; omega
def findN (l : List Bind) (nm : List UInt8) : Option Bind := l.find? (fun s => decide (s.name = nm))
def findNRes (l : List Bind) (nm : List UInt8) : D := .tup [.agg [.i64 ((findN l nm).elim 0 (·.node)), .i64 ((findN l nm).elim 0 (·.above))], .bool (findN l nm).isSome]
theorem take_succ' {α : Type} {l : List α} {k : Nat} {b : α} (h : l[k]? = some b) : l.take (k + 1) = l.take k ++ [b] := by
  rw [List.take_add_one, h]; rfl
theorem findN_step {l : List Bind} {k : Nat} {b : Bind} {nm : List UInt8} (hb : l[k]? = some b) (hno : (l.take k).find? (fun s => decide (s.name = nm)) = none) (h : ¬ b.name = nm) : (l.take (k + 1)).find? (fun s => decide (s.name = nm)) = none := by
  rw [take_succ' hb, List.find?_append, hno]; simp [h]
theorem findN_hit {l : List Bind} {k : Nat} {b : Bind} {nm : List UInt8} (hb : l[k]? = some b) (hno : (l.take k).find? (fun s => decide (s.name = nm)) = none) (h : b.name = nm) : (D.tup [.agg [.i64 b.node, .i64 b.above], .bool true]) = findNRes l nm := by
  have h2 : findN l nm = some b := by
    unfold findN
    rw [← List.take_append_drop (k + 1) l, List.find?_append, take_succ' hb, List.find?_append, hno]; simp [h]
  simp [findNRes, h2]
theorem findN_miss {l : List Bind} {nm : List UInt8} (hno : l.find? (fun s => decide (s.name = nm)) = none) : (D.tup [.agg [.i64 0, .i64 0], .bool false]) = findNRes l nm := by
  simp [findNRes, findN, hno]
theorem few_eq (l : List Bind) : ([] ++ List.drop 0 (List.take (if (60 : Int) < (l.length : Int) then 60 else (l.length : Int)).toNat l)) = l.take 60 := by
  simp only [List.nil_append, List.drop_zero]
  by_cases h : (60 : Int) < (l.length : Int)
  · rw [if_pos h]; rfl
  · rw [if_neg h, Int.toNat_natCast, List.take_length, List.take_of_length_le (by omega)]
theorem names_step {l : List Bind} {i : Nat} {x : Bind} (h : l[i]? = some x) : (l.take (i + 1)).map toR = (l.take i).map toR ++ [⟨x.1, x.2, x.3⟩] := by
  rw [take_succ' h]; simp [toR]
theorem names_len {l : List Bind} {i : Nat} {x : Bind} (h : l[i]? = some x) : ((l.take i).map toR ++ [(⟨x.1, x.2, x.3⟩ : RSch)]).length = i + 1 := by
  have := (List.getElem?_eq_some_iff.1 h).1; simp; omega
theorem names_rev {l : List Bind} {i : Nat} {x : Bind} (h : l[i]? = some x) : (l.take (i + 1)).reverse = ⟨x.1, x.2, x.3⟩ :: (l.take i).reverse := by
  rw [take_succ' h]; simp
theorem findR_map (l : List Bind) (nm : List UInt8) : findR (l.map toR) nm = (findN l.reverse nm).map toR := by
  unfold findR findN
  rw [← List.map_reverse, List.find?_map]; rfl
theorem findN_cons_ne {l : List Bind} {s nm : List UInt8} {a b : Int} (h : ¬ s = nm) : findN (⟨s, a, b⟩ :: l) nm = findN l nm := by
  simp [findN, h]
theorem drop_get {α : Type} {l : List α} {k : Nat} {x : α} (h : l[k]? = some x) : l.drop k = x :: l.drop (k + 1) := by
  obtain ⟨h1, h2⟩ := List.getElem?_eq_some_iff.1 h
  rw [← h2]; exact List.drop_eq_getElem_cons h1
theorem findR_step {l : List RSch} {k : Nat} {x : RSch} {nm : List UInt8} (hx : l[k]? = some x) (hno : (l.drop (k + 1)).reverse.find? (fun s => decide (s.name = nm)) = none) (h : ¬ x.name = nm) : (l.drop k).reverse.find? (fun s => decide (s.name = nm)) = none := by
  rw [drop_get hx, List.reverse_cons, List.find?_append, hno]; simp [h]
theorem findR_hit {l : List RSch} {k : Nat} {x : RSch} {nm : List UInt8} (hx : l[k]? = some x) (hno : (l.drop (k + 1)).reverse.find? (fun s => decide (s.name = nm)) = none) (h : x.name = nm) : (D.tup [x.d, .bool true]) = findRes l nm := by
  have h2 : findR l nm = some x := by
    unfold findR
    rw [← List.take_append_drop k l, List.reverse_append, List.find?_append, drop_get hx, List.reverse_cons, List.find?_append, hno]; simp [h]
  simp [findRes, h2, RSch.d]
theorem findR_miss {l : List RSch} {nm : List UInt8} (hno : l.reverse.find? (fun s => decide (s.name = nm)) = none) : (D.tup [(RSch.mk [] 0 0).d, .bool false]) = findRes l nm := by
  simp [findRes, findR, hno, RSch.d]

theorem pl_119 : ∀ fs, (∀ w, (underlying 119).run Try.prog w = .ok (.struct fs) w) → placesOf Try.prog fs [(0, 1), (1, 2), (3, 1)] := by
  intro fs h w
  have := (h w).symm.trans (Try.runUnderlying119 w)
  simp only [Result.ok.injEq, TypeDesc.struct.injEq, and_true] at this
  subst this
  simp [Try.sizeOf27, Try.sizeOf33, Try.sizeOf9, Sem.run]
theorem fresh_With (l : List Bind) (nm : List UInt8) (a b : Int) :
    Fn0 Try.prog 17 [namesD l, .str nm, .agg [.i64 a, .i64 b]] (namesD (⟨nm, a, b⟩ :: l)) := by
  rcases l with _ | ⟨b0, l⟩
  all_goals
    refine fn_intro Try.func17 rfl Try.ntmps17 rfl fun H0 fr w0 => ?_
    refine g_seq ?_
    refine g_region ?_
    refine go_p rfl rfl rfl (o_box rfl rfl) ?_
    refine go_p rfl rfl rfl (o_assign rfl) ?_
    refine go_nil ?_
    refine g_seq ?_
    refine g_region ?_
    refine go_p rfl rfl rfl (o_move rfl) ?_
    refine go_p rfl rfl rfl (o_load_agg Try.isAgg33 Try.sizeOf33 rfl rfl) ?_
    refine go_p rfl rfl rfl (o_move rfl) ?_
    refine go_p rfl rfl rfl (o_build (zs := [.str [], .v (.int .i64 0), .v (.int .i64 0), .v (.pointer none)]) Try.runUnderlying119 Try.zeroValue119 (pl_119 _ Try.runUnderlying119) rfl rfl rfl rfl) ?_
    refine go_p rfl rfl rfl (o_box rfl rfl) ?_
    refine go_p rfl rfl rfl (o_assign rfl) ?_
    refine go_nil ?_
    refine g_ret ?_
    exact retK (ret_one' rfl (ret_tmp rfl) (perm_drop _)) (by rfl) -- ret1 

theorem fresh_all (l : List Bind) :
    Fn0 Try.prog 69 [namesD l] (.clo (.func 106) [] [.ref (namesD l)]) := by
  rcases l with _ | ⟨b0, l⟩
  all_goals
    refine fn_intro Try.func69 rfl Try.ntmps69 rfl fun H0 fr w0 => ?_
    refine g_seq ?_
    refine g_region ?_
    refine go_p rfl rfl rfl (o_box rfl rfl) ?_
    refine go_p rfl rfl rfl (o_assign rfl) ?_
    refine go_nil ?_
    refine g_seq ?_
    refine g_region ?_
    refine go_p rfl rfl rfl (o_makeFunc rfl rfl) ?_
    refine go_p rfl rfl rfl (o_assign rfl) ?_
    refine go_nil ?_
    refine g_ret ?_
    exact retK (ret_one' rfl (ret_tmp rfl) (perm_drop _)) (by rfl) -- ret1 

theorem fi_119_0 : FieldIs Try.prog 119 0 0 1 false := ⟨⟨_, _, Try.runUnderlying119, rfl, rfl, Try.sizeOf9, by decide, Try.isAgg9⟩⟩
theorem fi_119_1 : FieldIs Try.prog 119 1 1 2 true := ⟨⟨_, _, Try.runUnderlying119, rfl, rfl, Try.sizeOf33, by decide, Try.isAgg33⟩⟩
theorem fi_119_2 : FieldIs Try.prog 119 2 3 1 false := ⟨⟨_, _, Try.runUnderlying119, rfl, rfl, Try.sizeOf27, by decide, Try.isAgg27⟩⟩
theorem fresh_iter (l : List Bind) :
    Iter Try.prog 106 [.ref (namesD l)] (yieldsOf l) := by
  intro y J Jx hy M hM
  refine fn_intro Try.func106 rfl Try.ntmps106 rfl fun H0 fr w0 => ?_
  refine g_seq ?_
  refine g_region ?_
  refine go_p rfl rfl rfl (o_load Try.isAgg27 rfl (by first | rfl | exact namesD_agg _)) ?_
  refine go_p rfl rfl rfl (o_assign rfl) ?_
  refine go_nil ?_
  refine g_block ?_
  refine g_loop_k [(0, _)] (fun (s : Nat × List Bind × List Asrt) => s.1 ≤ l.length ∧ l.drop s.1 = s.2.1 ∧ J s.1 s.2.2) (fun (s : Nat × List Bind × List Asrt) => [(3, namesD s.2.1)]) (fun (s : Nat × List Bind × List Asrt) => s.2.2) (fun (s : Nat × List Bind × List Asrt) => s.2.1.length) (0, l, M) ⟨by simp, by simp, hM⟩ ⟨rfl, trivial⟩ ⟨rfl, trivial⟩ rfl ?_
  rintro ⟨k, rest, M⟩ ⟨hk, hrest, hM⟩
  dsimp only at hk hrest hM ⊢
  refine g_seq ?_
  refine g_seq ?_
  refine g_region ?_
  refine go_p rfl rfl rfl (o_move rfl) ?_
  refine go_p rfl rfl rfl (o_neqnil Try.runUnderlying27 rfl (nilP_names _) rfl) ?_
  refine go_nil ?_
  refine g_cond rfl (fun hc1 => ?_) (fun hc1 => ?_)
  · -- 1T
    skip
    rcases rest with _ | ⟨b, r⟩
    · simp at hc1
    obtain ⟨hb, hr⟩ := drop_cons hrest
    refine g_skip ?_
    refine g_seq ?_
    refine g_block ?_
    refine g_seq ?_
    refine g_draw 9 Try_mixed (by decide +kernel) ?_
    refine gd_p rfl rfl rfl (o_move rfl) ?_
    refine gd_p rfl rfl rfl (o_move rfl) ?_
    refine gd_p rfl rfl rfl (o_nilCheck rfl) ?_
    refine gd_p rfl rfl rfl (o_fieldAddr fi_119_0 rfl (flat_names _ _ _ _) rfl) ?_
    refine gd_p rfl rfl rfl (o_load Try.isAgg9 rfl (by first | rfl | exact namesD_agg _)) ?_
    refine gd_p rfl rfl rfl (o_move rfl) ?_
    refine gd_p rfl rfl rfl (o_nilCheck rfl) ?_
    refine gd_p rfl rfl rfl (o_fieldAddr fi_119_1 rfl (flat_names _ _ _ _) rfl) ?_
    refine gd_p rfl rfl rfl (o_load_agg Try.isAgg33 Try.sizeOf33 rfl rfl) ?_
    refine gd_nil ?_
    refine go_op rfl rfl rfl (o_callva rfl rfl (fv_yield (hy k _ M (yieldsOf_get hb) hM))) ?_
    rintro _ M1 ⟨yb, rfl, hT, hF⟩
    refine go_p rfl rfl rfl (o_not rfl) ?_
    refine go_nil ?_
    refine g_cond rfl (fun hc2 => ?_) (fun hc2 => ?_)
    · -- 1T.2T
      replace hc2 : yb = false := by simpa using hc2
      refine g_ret ?_
      exact retK (ret_none rfl (perm_none _)) (.inr (hF hc2)) -- ret1 1T.2T.
    · -- 1T.2F
      replace hc2 : yb = true := by simpa using hc2
      refine g_skip ?_
      refine g_region ?_
      refine go_p rfl rfl rfl (o_move rfl) ?_
      refine go_p rfl rfl rfl (o_nilCheck rfl) ?_
      refine go_p rfl rfl rfl (o_fieldAddr fi_119_2 rfl (flat_names _ _ _ _) rfl) ?_
      refine go_p rfl rfl rfl (o_load Try.isAgg27 rfl (by first | rfl | exact namesD_agg _)) ?_
      refine go_p rfl rfl rfl (o_assign rfl) ?_
      refine go_nil ?_
      exact ⟨(k + 1, r, M1), ⟨by have := (List.getElem?_eq_some_iff.1 hb).1; dsimp only; omega, hr, hT hc2⟩, by simp, ⟨rfl, trivial⟩, ⟨rfl, trivial⟩, ⟨[], rfl⟩⟩
  · -- 1F
    skip
    refine g_exit ?_
    exact retKn (ret_none rfl (perm_none _)) (by
      have h0 : rest = [] := by simpa using hc1
      subst h0
      have := drop_nil hk hrest
      subst this
      exact .inl (by simpa [yieldsOf] using hM)) -- ret2 1F.

theorem fresh_Len (l : List Bind) (hl : l.length ≤ 1000000) :
    Fn0 Try.prog 18 [namesD l] (.i64 l.length) := by
  refine fn_intro Try.func18 rfl Try.ntmps18 rfl fun H0 fr w0 => ?_
  refine g_seq ?_
  refine g_region ?_
  refine go_p rfl rfl rfl (o_assign rfl) ?_
  refine go_nil ?_
  refine g_seq ?_
  refine g_region ?_
  refine go_op rfl rfl rfl (o_alloc_own Try.zeroValue3 (cs := [.v (.int .i64 0)]) rfl) ?_
  rintro _ _ ⟨b1, rfl, rfl⟩
  refine go_u rfl rfl (o_store_box 0 Try.sizeOf3 rfl rfl rfl rfl rfl rfl rfl rfl (Nat.le_of_ble_eq_true rfl)) ?_
  rintro _ _ rfl
  refine go_nil ?_
  refine g_seq ?_
  refine g_seq ?_
  refine g_region ?_
  refine go_p rfl rfl rfl (o_move rfl) ?_
  refine go_p rfl rfl rfl (o_call0 Try.call69 rfl (fresh_all _)) ?_
  refine go_nil ?_
  refine g_block ?_
  refine g_range (yieldsOf l) (fun k ms => ms = [box b1 3 [.i64 k]]) rfl Try.call106 (fresh_iter l) rfl (by intro ds h; simp [yieldsOf] at h; obtain ⟨b, _, rfl⟩ := h; rfl) rfl ?_ ?_
  · -- the body of range 1
    intro H0r frr ror w0r hrr k ds msr hx hJ
    obtain ⟨b, hb, rfl⟩ := yieldsOf_inv hx
    subst hJ
    have hkl := (List.getElem?_eq_some_iff.1 hb).1
    refine g_skip ?_
    intro H0r frr ror w0r hrr
    refine g_block ?_
    refine g_region ?_
    refine go_p rfl rfl rfl (o_load_box 0 Try.isAgg3 rfl rfl rfl rfl) ?_
    refine go_p rfl rfl rfl (o_add rfl rfl (i64_id (by omega))) ?_
    refine go_u rfl rfl (o_store_box 0 Try.sizeOf3 rfl rfl rfl rfl rfl rfl rfl rfl (Nat.le_of_ble_eq_true rfl)) ?_
    rintro _ _ rfl
    refine go_nil ?_
    exact ⟨[], _, rfl, by simp [putCs, D.cs]⟩
  · intro msr hJ
    subst hJ
    simp only [yieldsOf, List.length_map]
    refine g_seq ?_
    refine g_region ?_
    refine go_p rfl rfl rfl (o_load_box 0 Try.isAgg3 rfl rfl rfl rfl) ?_
    refine go_p rfl rfl rfl (o_assign rfl) ?_
    refine go_nil ?_
    refine g_ret ?_
    exact retK (ret_one' rfl (ret_tmp rfl) (perm_drop _)) (by rfl) -- ret1 

theorem pl_33 : ∀ fs, (∀ w, (underlying 33).run Try.prog w = .ok (.struct fs) w) → placesOf Try.prog fs [(0, 1), (1, 1)] := by
  intro fs h w
  have := (h w).symm.trans (Try.runUnderlying33 w)
  simp only [Result.ok.injEq, TypeDesc.struct.injEq, and_true] at this
  subst this
  simp [Try.sizeOf3, Sem.run]
theorem fresh_Find (l : List Bind) (nm : List UInt8) :
    Fn0 Try.prog 19 [namesD l, .str nm] (findNRes l nm) := by
  refine fn_intro Try.func19 rfl Try.ntmps19 rfl fun H0 fr w0 => ?_
  refine g_seq ?_
  refine g_region ?_
  refine go_p rfl rfl rfl (o_box rfl rfl) ?_
  refine go_op rfl rfl rfl (o_alloc_own Try.zeroValue33 (cs := [.v (.int .i64 0), .v (.int .i64 0)]) rfl) ?_
  rintro _ _ ⟨b1, rfl, rfl⟩
  refine go_op rfl rfl rfl (o_alloc_own Try.zeroValue4 (cs := [.bool false]) rfl) ?_
  rintro _ _ ⟨b2, rfl, rfl⟩
  refine go_nil ?_
  refine g_seq ?_
  refine g_seq ?_
  refine g_region ?_
  refine go_p rfl rfl rfl (o_move rfl) ?_
  refine go_p rfl rfl rfl (o_call0 Try.call69 rfl (fresh_all _)) ?_
  refine go_nil ?_
  refine g_block ?_
  refine g_range (yieldsOf l) (fun k ms => ms = [box b2 4 [.bool false], box b1 33 [.i64 0, .i64 0]] ∧ (l.take k).find? (fun s => decide (s.name = nm)) = none) rfl Try.call106 (fresh_iter l) ⟨rfl, rfl⟩ (by intro ds h; simp [yieldsOf] at h; obtain ⟨b, _, rfl⟩ := h; rfl) rfl ?_ ?_
  · -- the body of range 1
    intro H0r frr ror w0r hrr k ds msr hx hJ
    obtain ⟨b, hb, rfl⟩ := yieldsOf_inv hx
    obtain ⟨rfl, hno⟩ := hJ
    refine g_seq ?_
    refine g_region ?_
    refine go_p rfl rfl rfl (o_assign rfl) ?_
    refine go_nil ?_
    refine g_region ?_
    refine go_op rfl rfl rfl (o_alloc_own Try.zeroValue33 (cs := [.v (.int .i64 0), .v (.int .i64 0)]) rfl) ?_
    rintro _ _ ⟨b3, rfl, rfl⟩
    refine go_u rfl rfl (o_store_box 0 Try.sizeOf33 rfl rfl rfl rfl rfl rfl rfl rfl (Nat.le_of_ble_eq_true rfl)) ?_
    rintro _ _ rfl
    refine go_nil ?_
    intro H0r frr ror w0r hrr
    refine g_block ?_
    refine g_seq ?_
    refine g_region ?_
    refine go_p rfl rfl rfl (o_move rfl) ?_
    refine go_p rfl rfl rfl (o_load Try.isAgg9 rfl (rfl)) ?_
    refine go_p rfl rfl rfl (o_cmps rfl rfl rfl) ?_
    refine go_nil ?_
    refine g_cond rfl (fun hc1 => ?_) (fun hc1 => ?_)
    · -- R1.1T
      try simp only [decide_eq_true_eq, decide_eq_false_iff_not, Bool.not_eq_true', Bool.not_eq_false', Bool.and_eq_true, Bool.or_eq_true, Bool.and_eq_false_iff, Bool.or_eq_false_iff, Int.not_lt, Int.not_le, ne_eq, Decidable.not_not] at hc1
      refine g_seq ?_
      refine g_region ?_
      refine go_p rfl rfl rfl (o_load_box_agg 0 Try.isAgg33 Try.sizeOf33 rfl rfl rfl rfl (Nat.le_of_ble_eq_true rfl)) ?_
      refine go_u rfl rfl (o_store_box 2 Try.sizeOf33 rfl rfl rfl rfl rfl rfl rfl rfl (Nat.le_of_ble_eq_true rfl)) ?_
      rintro _ _ rfl
      refine go_u rfl rfl (o_store_box 1 Try.sizeOf4 rfl rfl rfl rfl rfl rfl rfl rfl (Nat.le_of_ble_eq_true rfl)) ?_
      rintro _ _ rfl
      refine go_nil ?_
      refine g_ret ?_
      exact retK (ret_many (ds := [_, _]) rfl (by decide) ⟨ret_cell 2 rfl rfl rfl Try.isAgg33 Try.sizeOf33 rfl, ⟨ret_cell1 1 rfl rfl rfl Try.isAgg4 rfl, rfl⟩⟩ (perm_drop _)) (findN_hit hb hno hc1) -- ret1 R1.1T.
    · -- R1.1F
      try simp only [decide_eq_true_eq, decide_eq_false_iff_not, Bool.not_eq_true', Bool.not_eq_false', Bool.and_eq_true, Bool.or_eq_true, Bool.and_eq_false_iff, Bool.or_eq_false_iff, Int.not_lt, Int.not_le, ne_eq, Decidable.not_not] at hc1
      refine g_skip ?_
      exact ⟨[_], _, rfl, ⟨rfl, findN_step hb hno hc1⟩⟩
  · intro msr hJ
    obtain ⟨rfl, hno⟩ := hJ
    refine g_seq ?_
    refine g_region ?_
    refine go_p rfl rfl rfl (o_build (zs := [.v (.int .i64 0), .v (.int .i64 0)]) Try.runUnderlying33 Try.zeroValue33 (pl_33 _ Try.runUnderlying33) rfl rfl rfl rfl) ?_
    refine go_u rfl rfl (o_store_box 1 Try.sizeOf33 rfl rfl rfl rfl rfl rfl rfl rfl (Nat.le_of_ble_eq_true rfl)) ?_
    rintro _ _ rfl
    refine go_u rfl rfl (o_store_box 0 Try.sizeOf4 rfl rfl rfl rfl rfl rfl rfl rfl (Nat.le_of_ble_eq_true rfl)) ?_
    rintro _ _ rfl
    refine go_nil ?_
    refine g_ret ?_
    exact retK (ret_many (ds := [_, _]) rfl (by decide) ⟨ret_cell 1 rfl rfl rfl Try.isAgg33 Try.sizeOf33 rfl, ⟨ret_cell1 0 rfl rfl rfl Try.isAgg4 rfl, rfl⟩⟩ (perm_drop _)) (findN_miss (by simpa [yieldsOf] using hno)) -- ret2 

theorem fi_37_0 : FieldIs Try.prog 37 0 0 1 false := ⟨⟨_, _, Try.runUnderlying37, rfl, rfl, Try.sizeOf9, by decide, Try.isAgg9⟩⟩
theorem pl_37 : ∀ fs, (∀ w, (underlying 37).run Try.prog w = .ok (.struct fs) w) → placesOf Try.prog fs [(0, 1), (1, 1), (2, 1)] := by
  intro fs h w
  have := (h w).symm.trans (Try.runUnderlying37 w)
  simp only [Result.ok.injEq, TypeDesc.struct.injEq, and_true] at this
  subst this
  simp [Try.sizeOf3, Try.sizeOf9, Sem.run]
theorem ref21_Find (l : List RSch) (nm : List UInt8) :
    Fn0 Try.prog 20 [.list 3 RSch.d l, .str nm] (findRes l nm) := by
  refine fn_intro Try.func20 rfl Try.ntmps20 rfl fun H0 fr w0 => ?_
  refine g_seq ?_
  refine g_region ?_
  refine go_op rfl rfl rfl (o_alloc_own Try.zeroValue37 (cs := [.str [], .v (.int .i64 0), .v (.int .i64 0)]) rfl) ?_
  rintro _ _ ⟨b1, rfl, rfl⟩
  refine go_p rfl rfl rfl (o_assign rfl) ?_
  refine go_nil ?_
  refine g_seq ?_
  refine g_seq ?_
  refine g_region ?_
  refine go_p rfl rfl rfl (o_move rfl) ?_
  refine o_len_tmp (x := .tmp 7) rfl fun hlen1 => ?_
  simp only [maxLen] at hlen1
  refine go_p rfl rfl rfl (o_len Try.runUnderlying28 rfl) ?_
  refine go_p rfl rfl rfl (o_sub rfl rfl (i64_id (by omega))) ?_
  refine go_p rfl rfl rfl (o_assign rfl) ?_
  refine go_nil ?_
  refine g_block ?_
  refine g_loop_k [(0, _), (1, _), (4, _)] (fun (j : Nat) => j ≤ l.length ∧ (l.drop j).reverse.find? (fun s => decide (s.name = nm)) = none) (fun (j : Nat) => [(6, .i64 ((j : Int) - 1))]) (fun (j : Nat) => [box b1 37 [.str [], .i64 0, .i64 0]]) (fun (j : Nat) => j) l.length (by simp) ⟨rfl, rfl, rfl, trivial⟩ ⟨rfl, trivial⟩ rfl ?_
  rintro j ⟨hj, hno⟩
  refine g_seq ?_
  refine g_seq ?_
  refine g_region ?_
  refine go_p rfl rfl rfl (o_move rfl) ?_
  refine go_p rfl rfl rfl (o_cmp rfl rfl rfl) ?_
  refine go_nil ?_
  refine g_cond rfl (fun hc1 => ?_) (fun hc1 => ?_)
  · -- 1T
    try simp only [decide_eq_true_eq, decide_eq_false_iff_not, Bool.not_eq_true', Bool.not_eq_false', Bool.and_eq_true, Bool.or_eq_true, Bool.and_eq_false_iff, Bool.or_eq_false_iff, Int.not_lt, Int.not_le, ne_eq, Decidable.not_not] at hc1
    obtain ⟨k, rfl⟩ : ∃ k, j = k + 1 := ⟨j - 1, by omega⟩
    obtain ⟨x, hx⟩ : ∃ x, l[k]? = some x := ⟨l[k], by simp⟩
    refine g_skip ?_
    refine g_seq ?_
    refine g_block ?_
    refine g_seq ?_
    refine g_region ?_
    refine go_p rfl rfl rfl (o_move rfl) ?_
    refine go_p rfl rfl rfl (o_move rfl) ?_
    refine go_p rfl rfl rfl (o_indexAddr Try.runUnderlying28 Try.sizeOf37 rfl rfl (by omega) (by rw [show (((k + 1 : Nat) : Int) - 1).toNat = k by omega]; exact hx)) ?_
    refine go_p rfl rfl rfl (o_fieldAddr fi_37_0 rfl rfl rfl) ?_
    refine go_p rfl rfl rfl (o_load Try.isAgg9 rfl (rfl)) ?_
    refine go_p rfl rfl rfl (o_move rfl) ?_
    refine go_p rfl rfl rfl (o_cmps rfl rfl rfl) ?_
    refine go_nil ?_
    refine g_cond rfl (fun hc2 => ?_) (fun hc2 => ?_)
    · -- 1T.2T
      try simp only [decide_eq_true_eq, decide_eq_false_iff_not, Bool.not_eq_true', Bool.not_eq_false', Bool.and_eq_true, Bool.or_eq_true, Bool.and_eq_false_iff, Bool.or_eq_false_iff, Int.not_lt, Int.not_le, ne_eq, Decidable.not_not] at hc2
      refine g_seq ?_
      refine g_region ?_
      refine go_p rfl rfl rfl (o_move rfl) ?_
      refine go_p rfl rfl rfl (o_move rfl) ?_
      refine go_p rfl rfl rfl (o_indexAddr Try.runUnderlying28 Try.sizeOf37 rfl rfl (by omega) (by rw [show (((k + 1 : Nat) : Int) - 1).toNat = k by omega]; exact hx)) ?_
      refine go_p rfl rfl rfl (o_load_agg Try.isAgg37 Try.sizeOf37 rfl rfl) ?_
      refine go_u rfl rfl (o_store_box 0 Try.sizeOf37 rfl rfl rfl rfl rfl rfl rfl rfl (Nat.le_of_ble_eq_true rfl)) ?_
      rintro _ _ rfl
      refine go_p rfl rfl rfl (o_assign rfl) ?_
      refine go_nil ?_
      refine g_ret ?_
      exact retK (ret_many (ds := [_, _]) rfl (by decide) ⟨ret_cell 0 rfl rfl rfl Try.isAgg37 Try.sizeOf37 rfl, ⟨ret_tmp rfl, rfl⟩⟩ (perm_drop _)) (findR_hit hx hno hc2) -- ret1 1T.2T.
    · -- 1T.2F
      try simp only [decide_eq_true_eq, decide_eq_false_iff_not, Bool.not_eq_true', Bool.not_eq_false', Bool.and_eq_true, Bool.or_eq_true, Bool.and_eq_false_iff, Bool.or_eq_false_iff, Int.not_lt, Int.not_le, ne_eq, Decidable.not_not] at hc2
      refine g_skip ?_
      refine g_region ?_
      refine go_p rfl rfl rfl (o_move rfl) ?_
      refine go_p rfl rfl rfl (o_sub rfl rfl (i64_id (by omega))) ?_
      refine go_p rfl rfl rfl (o_assign rfl) ?_
      refine go_nil ?_
      exact ⟨k, ⟨by omega, findR_step hx hno hc2⟩, by omega, ⟨int_eq (by omega), trivial⟩, ⟨rfl, rfl, rfl, trivial⟩, ⟨[], rfl⟩⟩
  · -- 1F
    try simp only [decide_eq_true_eq, decide_eq_false_iff_not, Bool.not_eq_true', Bool.not_eq_false', Bool.and_eq_true, Bool.or_eq_true, Bool.and_eq_false_iff, Bool.or_eq_false_iff, Int.not_lt, Int.not_le, ne_eq, Decidable.not_not] at hc1
    refine g_exit ?_
    refine g_seq ?_
    refine g_region ?_
    refine go_p rfl rfl rfl (o_build (zs := [.str [], .v (.int .i64 0), .v (.int .i64 0)]) Try.runUnderlying37 Try.zeroValue37 (pl_37 _ Try.runUnderlying37) rfl rfl rfl rfl) ?_
    refine go_u rfl rfl (o_store_box 0 Try.sizeOf37 rfl rfl rfl rfl rfl rfl rfl rfl (Nat.le_of_ble_eq_true rfl)) ?_
    rintro _ _ rfl
    refine go_p rfl rfl rfl (o_assign rfl) ?_
    refine go_nil ?_
    refine g_ret ?_
    exact retK (ret_many (ds := [_, _]) rfl (by decide) ⟨ret_cell 0 rfl rfl rfl Try.isAgg37 Try.sizeOf37 rfl, ⟨ret_tmp rfl, rfl⟩⟩ (perm_drop _)) (findR_miss (by obtain rfl : j = 0 := (by omega); simpa using hno)) -- ret2 1F.

theorem law21_few (l : List Bind) :
    Fn0 Try.prog 15 [.list 3 Bind.d l] (.list 3 Bind.d (l.take 60)) := by
  refine fn_intro Try.func15 rfl Try.ntmps15 rfl fun H0 fr w0 => ?_
  refine g_seq ?_
  refine g_region ?_
  refine go_p rfl rfl rfl (o_assign rfl) ?_
  refine go_nil ?_
  refine g_seq ?_
  refine g_region ?_
  refine go_op rfl rfl rfl (o_buildSlice_row (xs := []) (f := Bind.d) (l := []) Try.runUnderlying22 Try.sizeOf25 Try.zeroValue25 rfl rfl rfl (fun _ => ⟨rfl, rfl, rfl⟩) rfl (by simp [maxLen])) ?_
  rintro _ _ ⟨a1, rfl, rfl⟩
  refine go_p rfl rfl rfl (o_move rfl) ?_
  refine go_p rfl rfl rfl (o_move rfl) ?_
  refine o_len_tmp (x := .tmp 5) rfl fun hlen1 => ?_
  simp only [maxLen] at hlen1
  refine go_p rfl rfl rfl (o_len Try.runUnderlying22 rfl) ?_
  refine go_p rfl rfl rfl (o_min rfl rfl) ?_
  refine go_p rfl rfl rfl (o_slice Try.runUnderlying22 Try.sizeOf25 rfl rfl (evN_some rfl (by omega)) (by omega) (by omega)) ?_
  refine go_op rfl rfl rfl (o_append (a := _) 0 Try.underlying22 Try.type25 rfl rfl rfl rfl rfl rfl rfl (fun _ => rfl) (fun _ => rfl) (by simp [Try.t25]; omega) (by simp [maxLen]; omega)) ?_
  rintro _ _ ⟨a2, cap2, rfl, rfl⟩
  refine go_p rfl rfl rfl (o_assign rfl) ?_
  refine go_nil ?_
  refine g_conv (refines_peek (i := 2) 0 rfl rfl rfl) ?_
  refine g_ret ?_
  exact retK (ret_one' rfl (ret_tmp rfl) (perm_drop _)) (congrArg (D.list 3 Bind.d) (few_eq l)) -- ret1 

theorem fi_25_0 : FieldIs Try.prog 25 0 0 1 false := ⟨⟨_, _, Try.runUnderlying25, rfl, rfl, Try.sizeOf9, by decide, Try.isAgg9⟩⟩
theorem fi_25_1 : FieldIs Try.prog 25 1 1 1 false := ⟨⟨_, _, Try.runUnderlying25, rfl, rfl, Try.sizeOf3, by decide, Try.isAgg3⟩⟩
theorem fi_25_2 : FieldIs Try.prog 25 2 2 1 false := ⟨⟨_, _, Try.runUnderlying25, rfl, rfl, Try.sizeOf3, by decide, Try.isAgg3⟩⟩
theorem law21_names (l : List Bind) (hl : l.length ≤ 60) :
    Fn0 Try.prog 16 [.list 3 Bind.d l] (.tup [namesD l.reverse, .list 3 RSch.d (l.map toR)]) := by
  refine fn_intro Try.func16 rfl Try.ntmps16 rfl fun H0 fr w0 => ?_
  refine g_seq ?_
  refine g_region ?_
  refine go_p rfl rfl rfl (o_assign rfl) ?_
  refine go_p rfl rfl rfl (o_assign rfl) ?_
  refine go_nil ?_
  refine g_seq ?_
  refine g_region ?_
  refine go_p rfl rfl rfl (o_assign rfl) ?_
  refine go_nil ?_
  refine g_seq ?_
  refine g_region ?_
  refine go_op rfl rfl rfl (o_buildSlice_row (xs := []) (f := RSch.d) (l := []) Try.runUnderlying28 Try.sizeOf37 Try.zeroValue37 rfl rfl rfl (fun _ => ⟨rfl, rfl, rfl⟩) rfl (by simp [maxLen])) ?_
  rintro _ _ ⟨a1, rfl, rfl⟩
  refine go_p rfl rfl rfl (o_assign rfl) ?_
  refine go_nil ?_
  refine g_seq ?_
  refine g_seq ?_
  refine g_region ?_
  refine go_p rfl rfl rfl (o_assign rfl) ?_
  refine go_nil ?_
  refine g_block ?_
  refine g_loop_k [(0, _)] (fun (s : Nat × Option Addr × Nat) => s.1 ≤ l.length) (fun (s : Nat × Option Addr × Nat) => [(4, namesD (l.take s.1).reverse), (5, .v (.slice s.2.1 s.1 s.2.2)), (6, .i64 s.1)]) (fun (s : Nat × Option Addr × Nat) => [row s.2.1 s.2.2 37 3 RSch.d ((l.take s.1).map toR)]) (fun (s : Nat × Option Addr × Nat) => l.length - s.1) (0, a1, 0) (by simp) ⟨rfl, trivial⟩ ⟨rfl, rfl, rfl, trivial⟩ rfl ?_
  rintro ⟨i, oa, oc⟩ hi
  dsimp only at hi ⊢
  refine g_seq ?_
  refine g_seq ?_
  refine g_region ?_
  refine go_p rfl rfl rfl (o_move rfl) ?_
  refine go_p rfl rfl rfl (o_move rfl) ?_
  refine o_len_tmp (x := .tmp 9) rfl fun hlen1 => ?_
  simp only [maxLen] at hlen1
  refine go_p rfl rfl rfl (o_len Try.runUnderlying22 rfl) ?_
  refine go_p rfl rfl rfl (o_cmp rfl rfl rfl) ?_
  refine go_nil ?_
  refine g_cond rfl (fun hc1 => ?_) (fun hc1 => ?_)
  · -- 1T
    try simp only [decide_eq_true_eq, decide_eq_false_iff_not, Bool.not_eq_true', Bool.not_eq_false', Bool.and_eq_true, Bool.or_eq_true, Bool.and_eq_false_iff, Bool.or_eq_false_iff, Int.not_lt, Int.not_le, ne_eq, Decidable.not_not] at hc1
    obtain ⟨x, hx⟩ : ∃ x, l[i]? = some x := ⟨l[i], by simp⟩
    refine g_skip ?_
    refine g_seq ?_
    refine g_block ?_
    refine g_seq ?_
    refine g_draw 19 Try_mixed (by decide +kernel) ?_
    refine gd_p rfl rfl rfl (o_move rfl) ?_
    refine gd_p rfl rfl rfl (o_move rfl) ?_
    refine gd_p rfl rfl rfl (o_move rfl) ?_
    refine gd_p rfl rfl rfl (o_indexAddr Try.runUnderlying22 Try.sizeOf25 rfl rfl (by omega) (by simpa using hx)) ?_
    refine gd_p rfl rfl rfl (o_fieldAddr fi_25_0 rfl rfl rfl) ?_
    refine gd_p rfl rfl rfl (o_load Try.isAgg9 rfl (rfl)) ?_
    refine gd_p rfl rfl rfl (o_move rfl) ?_
    refine gd_p rfl rfl rfl (o_move rfl) ?_
    refine gd_p rfl rfl rfl (o_indexAddr Try.runUnderlying22 Try.sizeOf25 rfl rfl (by omega) (by simpa using hx)) ?_
    refine gd_p rfl rfl rfl (o_fieldAddr fi_25_1 rfl rfl rfl) ?_
    refine gd_p rfl rfl rfl (o_load Try.isAgg3 rfl (rfl)) ?_
    refine gd_p rfl rfl rfl (o_move rfl) ?_
    refine gd_p rfl rfl rfl (o_move rfl) ?_
    refine gd_p rfl rfl rfl (o_indexAddr Try.runUnderlying22 Try.sizeOf25 rfl rfl (by omega) (by simpa using hx)) ?_
    refine gd_p rfl rfl rfl (o_fieldAddr fi_25_2 rfl rfl rfl) ?_
    refine gd_p rfl rfl rfl (o_load Try.isAgg3 rfl (rfl)) ?_
    refine gd_p rfl rfl rfl (o_build (zs := [.v (.int .i64 0), .v (.int .i64 0)]) Try.runUnderlying33 Try.zeroValue33 (pl_33 _ Try.runUnderlying33) rfl rfl rfl rfl) ?_
    refine gd_p rfl rfl rfl (o_call0 Try.call17 rfl (fresh_With _ _ _ _)) ?_
    refine gd_p rfl rfl rfl (o_assign rfl) ?_
    refine gd_nil ?_
    refine go_nil ?_
    refine g_draw 18 Try_mixed (by decide +kernel) ?_
    refine gd_p rfl rfl rfl (o_move rfl) ?_
    refine gd_p rfl rfl rfl (o_move rfl) ?_
    refine gd_p rfl rfl rfl (o_move rfl) ?_
    refine gd_p rfl rfl rfl (o_indexAddr Try.runUnderlying22 Try.sizeOf25 rfl rfl (by omega) (by simpa using hx)) ?_
    refine gd_p rfl rfl rfl (o_fieldAddr fi_25_0 rfl rfl rfl) ?_
    refine gd_p rfl rfl rfl (o_load Try.isAgg9 rfl (rfl)) ?_
    refine gd_p rfl rfl rfl (o_move rfl) ?_
    refine gd_p rfl rfl rfl (o_move rfl) ?_
    refine gd_p rfl rfl rfl (o_indexAddr Try.runUnderlying22 Try.sizeOf25 rfl rfl (by omega) (by simpa using hx)) ?_
    refine gd_p rfl rfl rfl (o_fieldAddr fi_25_1 rfl rfl rfl) ?_
    refine gd_p rfl rfl rfl (o_load Try.isAgg3 rfl (rfl)) ?_
    refine gd_p rfl rfl rfl (o_move rfl) ?_
    refine gd_p rfl rfl rfl (o_move rfl) ?_
    refine gd_p rfl rfl rfl (o_indexAddr Try.runUnderlying22 Try.sizeOf25 rfl rfl (by omega) (by simpa using hx)) ?_
    refine gd_p rfl rfl rfl (o_fieldAddr fi_25_2 rfl rfl rfl) ?_
    refine gd_p rfl rfl rfl (o_load Try.isAgg3 rfl (rfl)) ?_
    refine gd_p rfl rfl rfl (o_build (zs := [.str [], .v (.int .i64 0), .v (.int .i64 0)]) Try.runUnderlying37 Try.zeroValue37 (pl_37 _ Try.runUnderlying37) rfl rfl rfl rfl) ?_
    refine gd_p rfl rfl rfl (o_buildSlice (xs := [_]) (f := RSch.d) (l := [⟨_, _, _⟩]) Try.runUnderlying28 Try.sizeOf37 Try.zeroValue37 rfl rfl rfl (fun _ => ⟨rfl, rfl, rfl⟩) rfl) ?_
    refine gd_nil ?_
    refine go_op rfl rfl rfl (o_append (a := _) 0 Try.underlying28 Try.type37 rfl rfl rfl rfl rfl (by simp; omega) rfl (fun _ => rfl) (fun _ => rfl) (by simp [Try.t37]; omega) (by simp [maxLen]; omega)) ?_
    rintro _ _ ⟨a2, cap2, rfl, rfl⟩
    refine go_p rfl rfl rfl (o_assign rfl) ?_
    refine go_nil ?_
    refine g_region ?_
    refine go_p rfl rfl rfl (o_move rfl) ?_
    refine go_p rfl rfl rfl (o_add rfl rfl (i64_id (by omega))) ?_
    refine go_p rfl rfl rfl (o_assign rfl) ?_
    refine go_nil ?_
    exact ⟨(i + 1, a2, cap2), by have := (List.getElem?_eq_some_iff.1 hx).1; exact this, by have := (List.getElem?_eq_some_iff.1 hx).1; simp; omega, ⟨congrArg some (congrArg namesD (names_rev hx).symm), congrArg (fun n => some (D.v (.slice a2 n cap2))) (names_len hx), rfl, trivial⟩, ⟨rfl, trivial⟩, ⟨[], by rw [names_step hx]; rfl⟩⟩
  · -- 1F
    try simp only [decide_eq_true_eq, decide_eq_false_iff_not, Bool.not_eq_true', Bool.not_eq_false', Bool.and_eq_true, Bool.or_eq_true, Bool.and_eq_false_iff, Bool.or_eq_false_iff, Int.not_lt, Int.not_le, ne_eq, Decidable.not_not] at hc1
    refine g_exit ?_
    refine g_seq ?_
    refine g_region ?_
    refine go_p rfl rfl rfl (o_move rfl) ?_
    refine go_p rfl rfl rfl (o_move rfl) ?_
    refine go_p rfl rfl rfl (o_assign rfl) ?_
    refine go_p rfl rfl rfl (o_assign rfl) ?_
    refine go_nil ?_
    refine g_conv (refines_peek (i := 3) 0 rfl rfl (by simp; omega)) ?_
    refine g_ret ?_
    exact retK (ret_many (ds := [_, _]) rfl (by decide) ⟨ret_tmp rfl, ⟨ret_tmp rfl, rfl⟩⟩ (perm_drop _)) (by
      obtain rfl : i = l.length := (by omega)
      simp) -- ret1 1F.

theorem fi_33_0 : FieldIs Try.prog 33 0 0 1 false := ⟨⟨_, _, Try.runUnderlying33, rfl, rfl, Try.sizeOf3, by decide, Try.isAgg3⟩⟩
theorem law21_works  :
    Fn0 Try.prog 21 [] (.bool true) := by
  refine fn_intro Try.func21 rfl Try.ntmps21 rfl fun H0 fr w0 => ?_
  refine g_seq ?_
  refine g_region ?_
  refine go_p rfl rfl rfl (o_assign rfl) ?_
  refine go_nil ?_
  refine g_seq ?_
  refine g_region ?_
  refine go_p rfl rfl rfl (o_assign rfl) ?_
  refine go_nil ?_
  refine g_seq ?_
  refine g_region ?_
  refine go_p rfl rfl rfl (o_move rfl) ?_
  refine go_p rfl rfl rfl (o_build (zs := [.v (.int .i64 0), .v (.int .i64 0)]) Try.runUnderlying33 Try.zeroValue33 (pl_33 _ Try.runUnderlying33) rfl rfl rfl rfl) ?_
  refine go_p rfl rfl rfl (o_call0 Try.call17 rfl (fresh_With [] [120] 1 0)) ?_
  refine go_p rfl rfl rfl (o_build (zs := [.v (.int .i64 0), .v (.int .i64 0)]) Try.runUnderlying33 Try.zeroValue33 (pl_33 _ Try.runUnderlying33) rfl rfl rfl rfl) ?_
  refine go_p rfl rfl rfl (o_call0 Try.call17 rfl (fresh_With [⟨[120], 1, 0⟩] [120] 2 0)) ?_
  refine go_p rfl rfl rfl (o_assign rfl) ?_
  refine go_nil ?_
  refine g_seq ?_
  refine g_region ?_
  refine go_p rfl rfl rfl (o_move rfl) ?_
  refine go_p rfl rfl rfl (o_call0 Try.call19 rfl ((show Fn0 _ _ _ (.tup [.agg [.i64 2, .i64 0], .bool true]) from fresh_Find [⟨[120], 2, 0⟩, ⟨[120], 1, 0⟩] [120]))) ?_
  refine go_p rfl rfl rfl (o_move rfl) ?_
  refine go_p rfl rfl rfl (o_extract rfl rfl) ?_
  refine go_p rfl rfl rfl (o_extract rfl rfl) ?_
  refine go_op rfl rfl rfl (o_alloc_own Try.zeroValue33 (cs := [.v (.int .i64 0), .v (.int .i64 0)]) rfl) ?_
  rintro _ _ ⟨b1, rfl, rfl⟩
  refine go_u rfl rfl (o_store_box 0 Try.sizeOf33 rfl rfl rfl rfl rfl rfl rfl rfl (Nat.le_of_ble_eq_true rfl)) ?_
  rintro _ _ rfl
  refine go_p rfl rfl rfl (o_assign rfl) ?_
  refine go_nil ?_
  refine g_seq ?_
  refine g_region ?_
  refine go_p rfl rfl rfl (o_move rfl) ?_
  refine go_p rfl rfl rfl (o_call0 Try.call19 rfl ((show Fn0 _ _ _ (.tup [.agg [.i64 0, .i64 0], .bool false]) from fresh_Find [⟨[120], 2, 0⟩, ⟨[120], 1, 0⟩] [121]))) ?_
  refine go_p rfl rfl rfl (o_move rfl) ?_
  refine go_p rfl rfl rfl (o_extract rfl rfl) ?_
  refine go_p rfl rfl rfl (o_extract rfl rfl) ?_
  refine go_op rfl rfl rfl (o_alloc_own Try.zeroValue33 (cs := [.v (.int .i64 0), .v (.int .i64 0)]) rfl) ?_
  rintro _ _ ⟨b2, rfl, rfl⟩
  refine go_u rfl rfl (o_store_box 0 Try.sizeOf33 rfl rfl rfl rfl rfl rfl rfl rfl (Nat.le_of_ble_eq_true rfl)) ?_
  rintro _ _ rfl
  refine go_p rfl rfl rfl (o_assign rfl) ?_
  refine go_nil ?_
  refine g_seq ?_
  refine g_region ?_
  refine go_p rfl rfl rfl (o_move rfl) ?_
  refine go_p rfl rfl rfl (o_move rfl) ?_
  apply go_and [(1, _), (5, _)] 4 26 (t := 22) ⟨rfl, rfl, trivial⟩ rfl
  · intro hg1 hk1 -- g1T
    have hq1 := hg1
    try simp only [decide_eq_true_eq, decide_eq_false_iff_not, Bool.not_eq_true', Bool.not_eq_false', Bool.and_eq_true, Bool.or_eq_true, Bool.and_eq_false_iff, Bool.or_eq_false_iff, Int.not_lt, Int.not_le, ne_eq, Decidable.not_not] at hq1
    refine go_wantp rfl rfl rfl hg1 rfl rfl (o_fieldAddr_box fi_33_0 rfl) ?_
    refine go_wantp rfl rfl rfl hg1 rfl rfl (o_load_box 1 Try.isAgg3 rfl rfl rfl rfl) ?_
    refine go_wantp rfl rfl rfl hg1 rfl rfl (o_cmp rfl rfl rfl) ?_
    refine go_p rfl rfl rfl (o_pickT rfl hg1 rfl) ?_
    exact go_meet hk1 (rfl) ⟨rfl, rfl, trivial⟩
  · intro hg1 hk1 -- g1F
    cases hg1
  refine go_p rfl rfl rfl (o_move rfl) ?_
  apply go_and [(1, _)] 3 30 (t := 27) ⟨rfl, trivial⟩ rfl
  · intro hg2 hk2 -- g2T
    have hq2 := hg2
    try simp only [decide_eq_true_eq, decide_eq_false_iff_not, Bool.not_eq_true', Bool.not_eq_false', Bool.and_eq_true, Bool.or_eq_true, Bool.and_eq_false_iff, Bool.or_eq_false_iff, Int.not_lt, Int.not_le, ne_eq, Decidable.not_not] at hq2
    refine go_wantp rfl rfl rfl hg2 rfl rfl (o_move rfl) ?_
    refine go_wantp rfl rfl rfl hg2 rfl rfl (o_not rfl) ?_
    refine go_p rfl rfl rfl (o_pickT rfl hg2 rfl) ?_
    exact go_meet hk2 (rfl) ⟨rfl, trivial⟩
  · intro hg2 hk2 -- g2F
    cases hg2
  refine go_p rfl rfl rfl (o_move rfl) ?_
  apply go_and [] 4 35 (t := 31) trivial rfl
  · intro hg3 hk3 -- g3T
    have hq3 := hg3
    try simp only [decide_eq_true_eq, decide_eq_false_iff_not, Bool.not_eq_true', Bool.not_eq_false', Bool.and_eq_true, Bool.or_eq_true, Bool.and_eq_false_iff, Bool.or_eq_false_iff, Int.not_lt, Int.not_le, ne_eq, Decidable.not_not] at hq3
    refine go_wantp rfl rfl rfl hg3 rfl rfl (o_move rfl) ?_
    refine go_wantp rfl rfl rfl hg3 rfl rfl (o_call0 Try.call18 rfl (fresh_Len [⟨[120], 2, 0⟩, ⟨[120], 1, 0⟩] (by simp))) ?_
    refine go_wantp rfl rfl rfl hg3 rfl rfl (o_cmp rfl rfl rfl) ?_
    refine go_p rfl rfl rfl (o_pickT rfl hg3 rfl) ?_
    exact go_meet hk3 (rfl) trivial
  · intro hg3 hk3 -- g3F
    cases hg3
  refine go_p rfl rfl rfl (o_assign rfl) ?_
  refine go_nil ?_
  refine g_ret ?_
  exact retK (ret_one' rfl (ret_tmp rfl) (perm_drop _)) (by rfl) -- ret1 

theorem fi_37_1 : FieldIs Try.prog 37 1 1 1 false := ⟨⟨_, _, Try.runUnderlying37, rfl, rfl, Try.sizeOf3, by decide, Try.isAgg3⟩⟩
theorem fi_33_1 : FieldIs Try.prog 33 1 1 1 false := ⟨⟨_, _, Try.runUnderlying33, rfl, rfl, Try.sizeOf3, by decide, Try.isAgg3⟩⟩
theorem fi_37_2 : FieldIs Try.prog 37 2 2 1 false := ⟨⟨_, _, Try.runUnderlying37, rfl, rfl, Try.sizeOf3, by decide, Try.isAgg3⟩⟩
theorem eqf_33 : ∀ fs : Array Field, Try.prog.underlying 33 = some (.struct fs) → EqFields Try.prog fs.toList 0 [.int, .int] := by
  intro fs h
  have := h.symm.trans Try.underlying33
  simp only [Option.some.injEq, TypeDesc.struct.injEq] at this
  subst this
  exact ⟨by decide, rfl, Try.isAgg3, ⟨_, Try.underlying3⟩, ⟨by decide, rfl, Try.isAgg3, ⟨_, Try.underlying3⟩, trivial⟩⟩
theorem law_FreshFinds (l : List Bind) (ask : List (List UInt8)) (more : Bind) :
    Fn0 Try.prog 3 [.list 3 Bind.d l, .list 1 D.str ask, .agg [.str more.name, .i64 more.node, .i64 more.above]] (.bool true) := by
  refine fn_intro Try.func3 rfl Try.ntmps3 rfl fun H0 fr w0 => ?_
  refine g_seq ?_
  refine g_region ?_
  refine go_p rfl rfl rfl (o_box rfl rfl) ?_
  refine go_p rfl rfl rfl (o_assign rfl) ?_
  refine go_nil ?_
  refine g_seq ?_
  refine g_region ?_
  refine go_p rfl rfl rfl (o_move rfl) ?_
  refine go_p rfl rfl rfl (o_call0 Try.call15 rfl (law21_few _)) ?_
  refine go_p rfl rfl rfl (o_assign rfl) ?_
  refine go_nil ?_
  refine g_seq ?_
  refine g_region ?_
  refine go_p rfl rfl rfl (o_move rfl) ?_
  refine go_p rfl rfl rfl (o_call0 Try.call16 rfl (law21_names _ (by simp; omega))) ?_
  refine go_p rfl rfl rfl (o_move rfl) ?_
  refine go_p rfl rfl rfl (o_extract rfl rfl) ?_
  refine go_p rfl rfl rfl (o_extract rfl rfl) ?_
  refine go_p rfl rfl rfl (o_assign rfl) ?_
  refine go_p rfl rfl rfl (o_assign rfl) ?_
  refine go_nil ?_
  refine g_seq ?_
  refine g_region ?_
  refine go_p rfl rfl rfl (o_move rfl) ?_
  refine go_p rfl rfl rfl (o_fieldAddr fi_25_0 rfl rfl rfl) ?_
  refine go_p rfl rfl rfl (o_load Try.isAgg9 rfl (rfl)) ?_
  refine go_p rfl rfl rfl (o_fieldAddr fi_25_1 rfl rfl rfl) ?_
  refine go_p rfl rfl rfl (o_load Try.isAgg3 rfl (rfl)) ?_
  refine go_p rfl rfl rfl (o_fieldAddr fi_25_2 rfl rfl rfl) ?_
  refine go_p rfl rfl rfl (o_load Try.isAgg3 rfl (rfl)) ?_
  refine go_p rfl rfl rfl (o_build (zs := [.v (.int .i64 0), .v (.int .i64 0)]) Try.runUnderlying33 Try.zeroValue33 (pl_33 _ Try.runUnderlying33) rfl rfl rfl rfl) ?_
  refine go_p rfl rfl rfl (o_call0 Try.call17 rfl (fresh_With _ _ _ _)) ?_
  refine go_p rfl rfl rfl (o_assign rfl) ?_
  refine go_nil ?_
  refine g_seq ?_
  refine g_seq ?_
  refine g_region ?_
  refine go_p rfl rfl rfl (o_move rfl) ?_
  refine go_p rfl rfl rfl (o_call0 Try.call18 rfl (fresh_Len _ (by simp; omega))) ?_
  refine go_p rfl rfl rfl (o_move rfl) ?_
  refine o_len_tmp (x := .tmp 35) rfl fun hlen1 => ?_
  simp only [maxLen] at hlen1
  refine go_p rfl rfl rfl (o_len Try.runUnderlying22 rfl) ?_
  refine go_p rfl rfl rfl (o_cmp rfl rfl rfl) ?_
  refine go_p rfl rfl rfl (o_move rfl) ?_
  apply go_or [(1, _), (5, _), (7, _), (8, _), (9, _)] 7 45 (t := 38) ⟨rfl, rfl, rfl, rfl, rfl, trivial⟩ rfl
  · intro hg1 hk1 -- g1F
    have hq1 := hg1
    try simp only [decide_eq_true_eq, decide_eq_false_iff_not, Bool.not_eq_true', Bool.not_eq_false', Bool.and_eq_true, Bool.or_eq_true, Bool.and_eq_false_iff, Bool.or_eq_false_iff, Int.not_lt, Int.not_le, ne_eq, Decidable.not_not] at hq1
    refine go_wantp rfl rfl rfl hg1 rfl rfl (o_move rfl) ?_
    refine go_wantp rfl rfl rfl hg1 rfl rfl (o_call0 Try.call18 rfl (fresh_Len _ (by simp; omega))) ?_
    refine go_wantp rfl rfl rfl hg1 rfl rfl (o_move rfl) ?_
    refine o_len_tmp (x := .tmp 41) rfl fun hlen2 => ?_
    simp only [maxLen] at hlen2
    refine go_wantp rfl rfl rfl hg1 rfl rfl (o_len Try.runUnderlying22 rfl) ?_
    refine go_wantp rfl rfl rfl hg1 rfl rfl (o_add rfl rfl (i64_id (by simp; omega))) ?_
    refine go_wantp rfl rfl rfl hg1 rfl rfl (o_cmp rfl rfl rfl) ?_
    refine go_p rfl rfl rfl (o_pickF rfl hg1 rfl) ?_
    exact go_meet hk1 (rfl) ⟨rfl, rfl, rfl, rfl, rfl, trivial⟩
  · intro hg1 hk1 -- g1T
    refine go_skip rfl rfl rfl hg1 rfl rfl ?_
    refine go_skip rfl rfl rfl hg1 rfl rfl ?_
    refine go_skip rfl rfl rfl hg1 rfl rfl ?_
    refine go_skip rfl rfl rfl hg1 rfl rfl ?_
    refine go_skip rfl rfl rfl hg1 rfl rfl ?_
    refine go_skip rfl rfl rfl hg1 rfl rfl ?_
    refine go_p rfl rfl rfl (o_pickT rfl hg1 rfl) ?_
    exact go_meet hk1 (rfl) ⟨rfl, rfl, rfl, rfl, rfl, trivial⟩
  refine go_nil ?_
  refine g_cond rfl (fun hc1 => ?_) (fun hc1 => ?_)
  · -- 1T
    skip
    exfalso; simp at hc1
  · -- 1F
    try simp only [decide_eq_true_eq, decide_eq_false_iff_not, Bool.not_eq_true', Bool.not_eq_false', Bool.and_eq_true, Bool.or_eq_true, Bool.and_eq_false_iff, Bool.or_eq_false_iff, Int.not_lt, Int.not_le, ne_eq, Decidable.not_not] at hc1
    refine g_skip ?_
    refine g_seq ?_
    refine g_seq ?_
    refine g_region ?_
    refine go_p rfl rfl rfl (o_assign rfl) ?_
    refine go_nil ?_
    refine g_block ?_
    refine g_loop_k [(1, _), (5, _), (7, _), (8, _), (9, _)] (fun (i : Nat) => i ≤ ask.length) (fun (i : Nat) => [(10, .i64 i)]) (fun (i : Nat) => []) (fun (i : Nat) => ask.length - i) 0 (by simp) ⟨rfl, rfl, rfl, rfl, rfl, trivial⟩ ⟨rfl, trivial⟩ rfl ?_
    rintro i hi
    refine g_seq ?_
    refine g_seq ?_
    refine g_region ?_
    refine go_p rfl rfl rfl (o_move rfl) ?_
    refine go_p rfl rfl rfl (o_move rfl) ?_
    refine o_len_tmp (x := .tmp 47) rfl fun hlen3 => ?_
    simp only [maxLen] at hlen3
    refine go_p rfl rfl rfl (o_len Try.runUnderlying23 rfl) ?_
    refine go_p rfl rfl rfl (o_cmp rfl rfl rfl) ?_
    refine go_p rfl rfl rfl (o_move rfl) ?_
    apply go_and [(1, _), (5, _), (7, _), (8, _), (9, _), (10, _)] 3 53 (t := 50) ⟨rfl, rfl, rfl, rfl, rfl, rfl, trivial⟩ rfl
    · intro hg2 hk2 -- g2T
      have hq2 := hg2
      try simp only [decide_eq_true_eq, decide_eq_false_iff_not, Bool.not_eq_true', Bool.not_eq_false', Bool.and_eq_true, Bool.or_eq_true, Bool.and_eq_false_iff, Bool.or_eq_false_iff, Int.not_lt, Int.not_le, ne_eq, Decidable.not_not] at hq2
      refine go_wantp rfl rfl rfl hg2 rfl rfl (o_move rfl) ?_
      refine go_wantp rfl rfl rfl hg2 rfl rfl (o_cmp rfl rfl rfl) ?_
      refine go_p rfl rfl rfl (o_pickT rfl hg2 rfl) ?_
      exact go_meet hk2 (rfl) ⟨rfl, rfl, rfl, rfl, rfl, rfl, trivial⟩
    · intro hg2 hk2 -- g2F
      refine go_skip rfl rfl rfl hg2 rfl rfl ?_
      refine go_skip rfl rfl rfl hg2 rfl rfl ?_
      refine go_p rfl rfl rfl (o_pickF rfl hg2 rfl) ?_
      exact go_meet hk2 (rfl) ⟨rfl, rfl, rfl, rfl, rfl, rfl, trivial⟩
    refine go_nil ?_
    refine g_cond rfl (fun hc2 => ?_) (fun hc2 => ?_)
    · -- 1F.2T
      try simp only [decide_eq_true_eq, decide_eq_false_iff_not, Bool.not_eq_true', Bool.not_eq_false', Bool.and_eq_true, Bool.or_eq_true, Bool.and_eq_false_iff, Bool.or_eq_false_iff, Int.not_lt, Int.not_le, ne_eq, Decidable.not_not] at hc2
      obtain ⟨x, hx⟩ : ∃ x, ask[i]? = some x := ⟨ask[i], by simp⟩
      refine g_skip ?_
      refine g_seq ?_
      refine g_block ?_
      refine g_seq ?_
      refine g_region ?_
      refine go_p rfl rfl rfl (o_move rfl) ?_
      refine go_p rfl rfl rfl (o_move rfl) ?_
      refine go_p rfl rfl rfl (o_move rfl) ?_
      refine go_p rfl rfl rfl (o_indexAddr Try.runUnderlying23 Try.sizeOf9 rfl rfl (by omega) (by simpa using hx)) ?_
      refine go_p rfl rfl rfl (o_load Try.isAgg9 rfl (rfl)) ?_
      refine go_p rfl rfl rfl (o_call0 Try.call19 rfl (fresh_Find _ _)) ?_
      refine go_p rfl rfl rfl (o_move rfl) ?_
      refine go_p rfl rfl rfl (o_extract rfl rfl) ?_
      refine go_p rfl rfl rfl (o_extract rfl rfl) ?_
      refine go_op rfl rfl rfl (o_alloc_own Try.zeroValue33 (cs := [.v (.int .i64 0), .v (.int .i64 0)]) rfl) ?_
      rintro _ _ ⟨b1, rfl, rfl⟩
      refine go_u rfl rfl (o_store_box 0 Try.sizeOf33 rfl rfl rfl rfl rfl rfl rfl rfl (Nat.le_of_ble_eq_true rfl)) ?_
      rintro _ _ rfl
      refine go_p rfl rfl rfl (o_assign rfl) ?_
      refine go_nil ?_
      refine g_seq ?_
      refine g_region ?_
      refine go_p rfl rfl rfl (o_move rfl) ?_
      refine go_p rfl rfl rfl (o_move rfl) ?_
      refine go_p rfl rfl rfl (o_move rfl) ?_
      refine go_p rfl rfl rfl (o_indexAddr Try.runUnderlying23 Try.sizeOf9 rfl rfl (by omega) (by simpa using hx)) ?_
      refine go_p rfl rfl rfl (o_load Try.isAgg9 rfl (rfl)) ?_
      refine go_p rfl rfl rfl (o_call0 Try.call20 rfl (ref21_Find _ _)) ?_
      refine go_p rfl rfl rfl (o_move rfl) ?_
      refine go_p rfl rfl rfl (o_extract rfl rfl) ?_
      refine go_p rfl rfl rfl (o_extract rfl rfl) ?_
      refine go_op rfl rfl rfl (o_alloc_own Try.zeroValue37 (cs := [.str [], .v (.int .i64 0), .v (.int .i64 0)]) rfl) ?_
      rintro _ _ ⟨b2, rfl, rfl⟩
      refine go_u rfl rfl (o_store_box 0 Try.sizeOf37 rfl rfl rfl rfl rfl rfl rfl rfl (Nat.le_of_ble_eq_true rfl)) ?_
      rintro _ _ rfl
      refine go_p rfl rfl rfl (o_assign rfl) ?_
      refine go_nil ?_
      refine g_seq ?_
      refine g_region ?_
      refine go_p rfl rfl rfl (o_move rfl) ?_
      refine go_p rfl rfl rfl (o_move rfl) ?_
      refine go_p rfl rfl rfl (o_move rfl) ?_
      refine go_p rfl rfl rfl (o_indexAddr Try.runUnderlying23 Try.sizeOf9 rfl rfl (by omega) (by simpa using hx)) ?_
      refine go_p rfl rfl rfl (o_load Try.isAgg9 rfl (rfl)) ?_
      refine go_p rfl rfl rfl (o_call0 Try.call19 rfl (fresh_Find _ _)) ?_
      refine go_p rfl rfl rfl (o_move rfl) ?_
      refine go_p rfl rfl rfl (o_extract rfl rfl) ?_
      refine go_p rfl rfl rfl (o_extract rfl rfl) ?_
      refine go_op rfl rfl rfl (o_alloc_own Try.zeroValue33 (cs := [.v (.int .i64 0), .v (.int .i64 0)]) rfl) ?_
      rintro _ _ ⟨b3, rfl, rfl⟩
      refine go_u rfl rfl (o_store_box 0 Try.sizeOf33 rfl rfl rfl rfl rfl rfl rfl rfl (Nat.le_of_ble_eq_true rfl)) ?_
      rintro _ _ rfl
      refine go_p rfl rfl rfl (o_assign rfl) ?_
      refine go_nil ?_
      refine g_seq ?_
      refine g_seq ?_
      refine g_region ?_
      refine go_p rfl rfl rfl (o_move rfl) ?_
      refine go_p rfl rfl rfl (o_move rfl) ?_
      refine go_p rfl rfl rfl (o_neqb Try.runUnderlying4 rfl rfl) ?_
      refine go_p rfl rfl rfl (o_move rfl) ?_
      apply go_or [(1, _), (5, _), (7, _), (8, _), (9, _), (10, _), (11, _), (13, _), (14, _), (15, _), (16, _)] 6 92 (t := 86) ⟨rfl, rfl, rfl, rfl, rfl, rfl, rfl, rfl, rfl, rfl, rfl, trivial⟩ rfl
      · intro hg3 hk3 -- g3F
        have hq3 := hg3
        try simp only [decide_eq_true_eq, decide_eq_false_iff_not, Bool.not_eq_true', Bool.not_eq_false', Bool.and_eq_true, Bool.or_eq_true, Bool.and_eq_false_iff, Bool.or_eq_false_iff, Int.not_lt, Int.not_le, ne_eq, Decidable.not_not] at hq3
        refine go_wantp rfl rfl rfl hg3 rfl rfl (o_fieldAddr_box fi_33_0 rfl) ?_
        refine go_wantp rfl rfl rfl hg3 rfl rfl (o_load_box 2 Try.isAgg3 rfl rfl rfl rfl) ?_
        refine go_wantp rfl rfl rfl hg3 rfl rfl (o_fieldAddr_box fi_37_1 rfl) ?_
        refine go_wantp rfl rfl rfl hg3 rfl rfl (o_load_box 1 Try.isAgg3 rfl rfl rfl rfl) ?_
        refine go_wantp rfl rfl rfl hg3 rfl rfl (o_cmp rfl rfl rfl) ?_
        refine go_p rfl rfl rfl (o_pickF rfl hg3 rfl) ?_
        exact go_meet hk3 (rfl) ⟨rfl, rfl, rfl, rfl, rfl, rfl, rfl, rfl, rfl, rfl, rfl, trivial⟩
      · intro hg3 hk3 -- g3T
        refine go_skip rfl rfl rfl hg3 rfl rfl ?_
        refine go_skip rfl rfl rfl hg3 rfl rfl ?_
        refine go_skip rfl rfl rfl hg3 rfl rfl ?_
        refine go_skip rfl rfl rfl hg3 rfl rfl ?_
        refine go_skip rfl rfl rfl hg3 rfl rfl ?_
        refine go_p rfl rfl rfl (o_pickT rfl hg3 rfl) ?_
        exact go_meet hk3 (rfl) ⟨rfl, rfl, rfl, rfl, rfl, rfl, rfl, rfl, rfl, rfl, rfl, trivial⟩
      refine go_p rfl rfl rfl (o_move rfl) ?_
      apply go_or [(1, _), (5, _), (7, _), (8, _), (9, _), (10, _), (11, _), (14, _), (15, _), (16, _)] 6 99 (t := 93) ⟨rfl, rfl, rfl, rfl, rfl, rfl, rfl, rfl, rfl, rfl, trivial⟩ rfl
      · intro hg4 hk4 -- g4F
        have hq4 := hg4
        try simp only [decide_eq_true_eq, decide_eq_false_iff_not, Bool.not_eq_true', Bool.not_eq_false', Bool.and_eq_true, Bool.or_eq_true, Bool.and_eq_false_iff, Bool.or_eq_false_iff, Int.not_lt, Int.not_le, ne_eq, Decidable.not_not] at hq4
        refine go_wantp rfl rfl rfl hg4 rfl rfl (o_fieldAddr_box fi_33_1 rfl) ?_
        refine go_wantp rfl rfl rfl hg4 rfl rfl (o_load_box 2 Try.isAgg3 rfl rfl rfl rfl) ?_
        refine go_wantp rfl rfl rfl hg4 rfl rfl (o_fieldAddr_box fi_37_2 rfl) ?_
        refine go_wantp rfl rfl rfl hg4 rfl rfl (o_load_box 1 Try.isAgg3 rfl rfl rfl rfl) ?_
        refine go_wantp rfl rfl rfl hg4 rfl rfl (o_cmp rfl rfl rfl) ?_
        refine go_p rfl rfl rfl (o_pickF rfl hg4 rfl) ?_
        exact go_meet hk4 (rfl) ⟨rfl, rfl, rfl, rfl, rfl, rfl, rfl, rfl, rfl, rfl, trivial⟩
      · intro hg4 hk4 -- g4T
        refine go_skip rfl rfl rfl hg4 rfl rfl ?_
        refine go_skip rfl rfl rfl hg4 rfl rfl ?_
        refine go_skip rfl rfl rfl hg4 rfl rfl ?_
        refine go_skip rfl rfl rfl hg4 rfl rfl ?_
        refine go_skip rfl rfl rfl hg4 rfl rfl ?_
        refine go_p rfl rfl rfl (o_pickT rfl hg4 rfl) ?_
        exact go_meet hk4 (rfl) ⟨rfl, rfl, rfl, rfl, rfl, rfl, rfl, rfl, rfl, rfl, trivial⟩
      refine go_nil ?_
      refine g_cond rfl (fun hc3 => ?_) (fun hc3 => ?_)
      · -- 1F.2T.3T
        try simp only [decide_eq_true_eq, decide_eq_false_iff_not, Bool.not_eq_true', Bool.not_eq_false', Bool.and_eq_true, Bool.or_eq_true, Bool.and_eq_false_iff, Bool.or_eq_false_iff, Int.not_lt, Int.not_le, ne_eq, Decidable.not_not] at hc3
        exfalso; rw [findR_map] at hc3; revert hc3; cases findN (List.take 60 l).reverse x <;> simp [toR]
      · -- 1F.2T.3F
        try simp only [decide_eq_true_eq, decide_eq_false_iff_not, Bool.not_eq_true', Bool.not_eq_false', Bool.and_eq_true, Bool.or_eq_true, Bool.and_eq_false_iff, Bool.or_eq_false_iff, Int.not_lt, Int.not_le, ne_eq, Decidable.not_not] at hc3
        refine g_skip ?_
        refine g_seq ?_
        refine g_draw 7 Try_mixed (by decide +kernel) ?_
        refine gd_p rfl rfl rfl (o_move rfl) ?_
        refine gd_p rfl rfl rfl (o_move rfl) ?_
        refine gd_p rfl rfl rfl (o_indexAddr Try.runUnderlying23 Try.sizeOf9 rfl rfl (by omega) (by simpa using hx)) ?_
        refine gd_p rfl rfl rfl (o_load Try.isAgg9 rfl (rfl)) ?_
        refine gd_p rfl rfl rfl (o_fieldAddr fi_25_0 rfl rfl rfl) ?_
        refine gd_p rfl rfl rfl (o_load Try.isAgg9 rfl (rfl)) ?_
        refine gd_p rfl rfl rfl (o_cmps rfl rfl rfl) ?_
        refine gd_nil ?_
        refine go_nil ?_
        refine g_cond rfl (fun hc4 => ?_) (fun hc4 => ?_)
        · -- 1F.2T.3F.4T
          try simp only [decide_eq_true_eq, decide_eq_false_iff_not, Bool.not_eq_true', Bool.not_eq_false', Bool.and_eq_true, Bool.or_eq_true, Bool.and_eq_false_iff, Bool.or_eq_false_iff, Int.not_lt, Int.not_le, ne_eq, Decidable.not_not] at hc4
          refine g_seq ?_
          refine g_region ?_
          refine go_p rfl rfl rfl (o_move rfl) ?_
          refine go_p rfl rfl rfl (o_not rfl) ?_
          refine go_p rfl rfl rfl (o_move rfl) ?_
          apply go_or [(1, _), (5, _), (7, _), (8, _), (9, _), (10, _), (15, _)] 6 115 (t := 109) ⟨rfl, rfl, rfl, rfl, rfl, rfl, rfl, trivial⟩ rfl
          · intro hg5 hk5 -- g5F
            have hq5 := hg5
            try simp only [decide_eq_true_eq, decide_eq_false_iff_not, Bool.not_eq_true', Bool.not_eq_false', Bool.and_eq_true, Bool.or_eq_true, Bool.and_eq_false_iff, Bool.or_eq_false_iff, Int.not_lt, Int.not_le, ne_eq, Decidable.not_not] at hq5
            refine go_wantp rfl rfl rfl hg5 rfl rfl (o_fieldAddr_box fi_33_0 rfl) ?_
            refine go_wantp rfl rfl rfl hg5 rfl rfl (o_load_box 0 Try.isAgg3 rfl rfl rfl rfl) ?_
            refine go_wantp rfl rfl rfl hg5 rfl rfl (o_fieldAddr fi_25_1 rfl rfl rfl) ?_
            refine go_wantp rfl rfl rfl hg5 rfl rfl (o_load Try.isAgg3 rfl (rfl)) ?_
            refine go_wantp rfl rfl rfl hg5 rfl rfl (o_cmp rfl rfl rfl) ?_
            refine go_p rfl rfl rfl (o_pickF rfl hg5 rfl) ?_
            exact go_meet hk5 (rfl) ⟨rfl, rfl, rfl, rfl, rfl, rfl, rfl, trivial⟩
          · intro hg5 hk5 -- g5T
            refine go_skip rfl rfl rfl hg5 rfl rfl ?_
            refine go_skip rfl rfl rfl hg5 rfl rfl ?_
            refine go_skip rfl rfl rfl hg5 rfl rfl ?_
            refine go_skip rfl rfl rfl hg5 rfl rfl ?_
            refine go_skip rfl rfl rfl hg5 rfl rfl ?_
            refine go_p rfl rfl rfl (o_pickT rfl hg5 rfl) ?_
            exact go_meet hk5 (rfl) ⟨rfl, rfl, rfl, rfl, rfl, rfl, rfl, trivial⟩
          refine go_p rfl rfl rfl (o_move rfl) ?_
          apply go_or [(1, _), (5, _), (7, _), (8, _), (9, _), (10, _)] 6 122 (t := 116) ⟨rfl, rfl, rfl, rfl, rfl, rfl, trivial⟩ rfl
          · intro hg6 hk6 -- g6F
            have hq6 := hg6
            try simp only [decide_eq_true_eq, decide_eq_false_iff_not, Bool.not_eq_true', Bool.not_eq_false', Bool.and_eq_true, Bool.or_eq_true, Bool.and_eq_false_iff, Bool.or_eq_false_iff, Int.not_lt, Int.not_le, ne_eq, Decidable.not_not] at hq6
            refine go_wantp rfl rfl rfl hg6 rfl rfl (o_fieldAddr_box fi_33_1 rfl) ?_
            refine go_wantp rfl rfl rfl hg6 rfl rfl (o_load_box 0 Try.isAgg3 rfl rfl rfl rfl) ?_
            refine go_wantp rfl rfl rfl hg6 rfl rfl (o_fieldAddr fi_25_2 rfl rfl rfl) ?_
            refine go_wantp rfl rfl rfl hg6 rfl rfl (o_load Try.isAgg3 rfl (rfl)) ?_
            refine go_wantp rfl rfl rfl hg6 rfl rfl (o_cmp rfl rfl rfl) ?_
            refine go_p rfl rfl rfl (o_pickF rfl hg6 rfl) ?_
            exact go_meet hk6 (rfl) ⟨rfl, rfl, rfl, rfl, rfl, rfl, trivial⟩
          · intro hg6 hk6 -- g6T
            refine go_skip rfl rfl rfl hg6 rfl rfl ?_
            refine go_skip rfl rfl rfl hg6 rfl rfl ?_
            refine go_skip rfl rfl rfl hg6 rfl rfl ?_
            refine go_skip rfl rfl rfl hg6 rfl rfl ?_
            refine go_skip rfl rfl rfl hg6 rfl rfl ?_
            refine go_p rfl rfl rfl (o_pickT rfl hg6 rfl) ?_
            exact go_meet hk6 (rfl) ⟨rfl, rfl, rfl, rfl, rfl, rfl, trivial⟩
          refine go_nil ?_
          refine g_cond rfl (fun hc5 => ?_) (fun hc5 => ?_)
          · -- 1F.2T.3F.4T.5T
            try simp only [decide_eq_true_eq, decide_eq_false_iff_not, Bool.not_eq_true', Bool.not_eq_false', Bool.and_eq_true, Bool.or_eq_true, Bool.and_eq_false_iff, Bool.or_eq_false_iff, Int.not_lt, Int.not_le, ne_eq, Decidable.not_not] at hc5
            exfalso; subst hc4; simp [findN] at hc5
          · -- 1F.2T.3F.4T.5F
            try simp only [decide_eq_true_eq, decide_eq_false_iff_not, Bool.not_eq_true', Bool.not_eq_false', Bool.and_eq_true, Bool.or_eq_true, Bool.and_eq_false_iff, Bool.or_eq_false_iff, Int.not_lt, Int.not_le, ne_eq, Decidable.not_not] at hc5
            refine g_skip ?_
            refine g_region ?_
            refine go_p rfl rfl rfl (o_move rfl) ?_
            refine go_p rfl rfl rfl (o_add rfl rfl (i64_id (by omega))) ?_
            refine go_p rfl rfl rfl (o_assign rfl) ?_
            refine go_nil ?_
            exact ⟨i + 1, (by omega), by omega, ⟨rfl, trivial⟩, ⟨rfl, rfl, rfl, rfl, rfl, trivial⟩, ⟨[_, _, _], rfl⟩⟩
        · -- 1F.2T.3F.4F
          try simp only [decide_eq_true_eq, decide_eq_false_iff_not, Bool.not_eq_true', Bool.not_eq_false', Bool.and_eq_true, Bool.or_eq_true, Bool.and_eq_false_iff, Bool.or_eq_false_iff, Int.not_lt, Int.not_le, ne_eq, Decidable.not_not] at hc4
          refine g_seq ?_
          refine g_region ?_
          refine go_p rfl rfl rfl (o_move rfl) ?_
          refine go_p rfl rfl rfl (o_move rfl) ?_
          refine go_p rfl rfl rfl (o_neqb Try.runUnderlying4 rfl rfl) ?_
          refine go_p rfl rfl rfl (o_move rfl) ?_
          apply go_or [(1, _), (5, _), (7, _), (8, _), (9, _), (10, _)] 4 130 (t := 126) ⟨rfl, rfl, rfl, rfl, rfl, rfl, trivial⟩ rfl
          · intro hg7 hk7 -- g7F
            have hq7 := hg7
            try simp only [decide_eq_true_eq, decide_eq_false_iff_not, Bool.not_eq_true', Bool.not_eq_false', Bool.and_eq_true, Bool.or_eq_true, Bool.and_eq_false_iff, Bool.or_eq_false_iff, Int.not_lt, Int.not_le, ne_eq, Decidable.not_not] at hq7
            refine go_wantp rfl rfl rfl hg7 rfl rfl (o_load_box_agg 0 Try.isAgg33 Try.sizeOf33 rfl rfl rfl rfl (Nat.le_of_ble_eq_true rfl)) ?_
            refine go_wantp rfl rfl rfl hg7 rfl rfl (o_load_box_agg 2 Try.isAgg33 Try.sizeOf33 rfl rfl rfl rfl (Nat.le_of_ble_eq_true rfl)) ?_
            refine go_wantp rfl rfl rfl hg7 rfl rfl (o_neqagg (ks := [.int, .int]) Try.underlying33 (by kernel_rfl) (by kernel_rfl) (eqf_33 _ Try.underlying33) rfl rfl rfl) ?_
            refine go_p rfl rfl rfl (o_pickF rfl hg7 rfl) ?_
            exact go_meet hk7 (rfl) ⟨rfl, rfl, rfl, rfl, rfl, rfl, trivial⟩
          · intro hg7 hk7 -- g7T
            refine go_skip rfl rfl rfl hg7 rfl rfl ?_
            refine go_skip rfl rfl rfl hg7 rfl rfl ?_
            refine go_skip rfl rfl rfl hg7 rfl rfl ?_
            refine go_p rfl rfl rfl (o_pickT rfl hg7 rfl) ?_
            exact go_meet hk7 (rfl) ⟨rfl, rfl, rfl, rfl, rfl, rfl, trivial⟩
          refine go_nil ?_
          refine g_cond rfl (fun hc6 => ?_) (fun hc6 => ?_)
          · -- 1F.2T.3F.4F.6T
            try simp only [decide_eq_true_eq, decide_eq_false_iff_not, Bool.not_eq_true', Bool.not_eq_false', Bool.and_eq_true, Bool.or_eq_true, Bool.and_eq_false_iff, Bool.or_eq_false_iff, Int.not_lt, Int.not_le, ne_eq, Decidable.not_not] at hc6
            exfalso; have hne : ¬ more.name = x := fun e => hc4 e.symm
            rw [findR_map, findN_cons_ne hne] at hc6; revert hc6; cases findN (List.take 60 l).reverse x <;> simp [toR]
          · -- 1F.2T.3F.4F.6F
            try simp only [decide_eq_true_eq, decide_eq_false_iff_not, Bool.not_eq_true', Bool.not_eq_false', Bool.and_eq_true, Bool.or_eq_true, Bool.and_eq_false_iff, Bool.or_eq_false_iff, Int.not_lt, Int.not_le, ne_eq, Decidable.not_not] at hc6
            refine g_skip ?_
            refine g_region ?_
            refine go_p rfl rfl rfl (o_move rfl) ?_
            refine go_p rfl rfl rfl (o_add rfl rfl (i64_id (by omega))) ?_
            refine go_p rfl rfl rfl (o_assign rfl) ?_
            refine go_nil ?_
            exact ⟨i + 1, (by omega), by omega, ⟨rfl, trivial⟩, ⟨rfl, rfl, rfl, rfl, rfl, trivial⟩, ⟨[_, _, _], rfl⟩⟩
    · -- 1F.2F
      try simp only [decide_eq_true_eq, decide_eq_false_iff_not, Bool.not_eq_true', Bool.not_eq_false', Bool.and_eq_true, Bool.or_eq_true, Bool.and_eq_false_iff, Bool.or_eq_false_iff, Int.not_lt, Int.not_le, ne_eq, Decidable.not_not] at hc2
      refine g_exit ?_
      refine g_seq ?_
      refine g_region ?_
      refine go_p rfl rfl rfl (o_call0 Try.call21 rfl (law21_works)) ?_
      refine go_p rfl rfl rfl (o_assign rfl) ?_
      refine go_nil ?_
      refine g_ret ?_
      exact retK (ret_one' rfl (ret_tmp rfl) (perm_drop _)) (by rfl) -- ret1 1F.2F.

end Go.Proofs.Ytfcifodaohhcbaa
