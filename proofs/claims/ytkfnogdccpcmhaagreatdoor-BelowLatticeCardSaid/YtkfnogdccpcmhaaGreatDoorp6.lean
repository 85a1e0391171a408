/- Part 6 of the proof: a program logic, what the functions compute, and what these answer; no condition. -/
import Derived.Test.YtkfnogdccpcmhaaGreatDoorp5
set_option linter.unusedVariables false
set_option linter.unusedSimpArgs false
set_option maxRecDepth 100000
set_option maxHeartbeats 2000000
namespace Go.Proofs.YtkfnogdccpcmhaaGreatDoor
open Go.V Tryz
def wideE (l r : List (List UInt8 × List Int)) (n : Int) (e : List UInt8 × List Int) : Option (Option (Option BelowSequent)) :=
 if (e.2.length : Int) < n then some none else
 if ((mget l e.1).getD []).length = 0 \/ ((mget r e.1).getD []).length = 0 then some (some none) else
 (m_below_set ((mget l e.1).getD [])).bind fun x => (m_below_set ((mget r e.1).getD [])).bind fun y => some (some (some ⟨x, y⟩))
def wideQ (l r : List (List UInt8 × List Int)) (n : Int) (e : List UInt8 × List Int) : Option BelowSequent := match wideE l r n e with
 | some (some (some q)) => some q
 | _ => none
open Classical in
noncomputable def m_wide (l r all : List (List UInt8 × List Int)) (n : Int) : Option BelowAnswer :=
 if all.length <= 1000000000 /\ ∀ e ∈ all, (wideE l r n e).isSome = true then
  if ∃ e ∈ all, wideE l r n e = some (some none) then some ⟨[], true⟩ else some ⟨all.filterMap (wideQ l r n), false⟩
 else none
theorem wideQ_len (l r : List (List UInt8 × List Int)) (n : Int) (q : List (List UInt8 × List Int)) : (q.filterMap (wideQ l r n)).length <= q.length := List.length_filterMap_le _ _
theorem conc_nil {α : Type} {sz : Nat} {f : α -> D} (H : PH) : Conc H (.list sz f ([] : List α)) (.slice none 0 0) := (conc_enc (by rfl)).2 (nil_enc H _ (by simp [Enc]))
theorem dec_orT {a b : Nat} (h : decide ((a : Int) = 0) = true) : true = decide (a = 0 \/ b = 0) := by
 have := of_decide_eq_true h
 exact (decide_eq_true (.inl (by omega))).symm
theorem dec_orF {a b : Nat} (h : decide ((a : Int) = 0) = false) : decide ((b : Int) = 0) = decide (a = 0 \/ b = 0) := by
 have := of_decide_eq_false h
 by_cases hb : b = 0
 ·rw [decide_eq_true (by omega), decide_eq_true (.inr hb)]
 ·rw [decide_eq_false (by omega), decide_eq_false (by omega)]
theorem fi_w117_0 : FieldIs Tryz.prog 117 0 0 1 false := ⟨⟨_, _, runUnderlying117, rfl, rfl, sizeOf112, by decide, isAgg112⟩⟩
def wideI (l r all : List (List UInt8 × List Int)) (n : Int) (rest : List (List UInt8 × List Int)) (out : List BelowSequent) : Prop :=
 (∀ e ∈ rest, e ∈ all) /\ (out ++ rest.filterMap (wideQ l r n)).Perm (all.filterMap (wideQ l r n)) /\ (∀ e ∈ all, wideE l r n e = some (some none) -> e ∈ rest) /\ rest.length <= all.length
theorem wideI_step {l r all : List (List UInt8 × List Int)} {n : Int} {rest : List (List UInt8 × List Int)} {out : List BelowSequent} {i : Nat} {p : List UInt8 × List Int} (h : wideI l r all n rest out) (hi : rest[i]? = some p) (hf : wideE l r n p ≠ some (some none)) : wideI l r all n (rest.eraseIdx i) (out ++ (wideQ l r n p).toList) := by
 obtain ⟨h1, h2, h3, h4⟩ := h
 have hp : rest.Perm (p :: rest.eraseIdx i) := perm_at rest i p hi
 refine ⟨fun e he => h1 e (List.mem_of_mem_eraseIdx he), ?_, fun e he hef => ?_, ?_⟩
 ·refine List.Perm.trans ?_ h2
  rw [List.append_assoc];refine List.Perm.append_left _ ?_
  have := (hp.filterMap (wideQ l r n)).symm
  rw [List.filterMap_cons] at this
  cases hq : wideQ l r n p with
  | none => rw [hq] at this; simpa using this
  | some x => rw [hq] at this; simpa using this
 ·have := hp.mem_iff.1 (h3 e he hef)
  rcases List.mem_cons.1 this with rfl | h5
  ·exact absurd hef hf
  ·exact h5
 ·have := hp.length_eq
  simp only [List.length_cons] at this
  omega
theorem w_wideR {Lm Rm : List (List UInt8 × List Int)} {n : Int} {r_1 : BelowAnswer} {bl br : Nat} (hm : m_wide Lm Rm Rm n = some r_1) :
  Go.V.Fn Tryz.prog 156 [.v (.map (some bl)), .v (.map (some br)), .v (.map (some br)), .i64 n] [mp bl kStr (D.list 1 D.i64) Lm, mp br kStr (D.list 1 D.i64) Rm] (fun d ms' => ∃ p, p.Perm r_1.to_ /\ d = BelowAnswer.d ⟨p, r_1.fails⟩ /\ ms' = [mp bl kStr (D.list 1 D.i64) Lm, mp br kStr (D.list 1 D.i64) Rm]) := by
 unfold m_wide at hm
 by_cases hall : Rm.length <= 1000000000 /\ ∀ e ∈ Rm, (wideE Lm Rm n e).isSome = true
 ·rw [if_pos hall] at hm
  obtain ⟨hlen, hall⟩ := hall;refine fn_intro func156 rfl ntmps156 rfl fun H0 fr w0 => ?_;refine g_seq (gRg ?_);refine go_op rfl rfl rfl (o_alloc_own zeroValue117 (cs := [.list 2 BelowSequent.d [], .bool false]) rfl) ?_;rintro _ _ ⟨b1, rfl, rfl⟩;refine gNl (g_seq (gRg ?_));refine go_op rfl rfl rfl (o_alloc_own zeroValue117 (cs := [.v (.slice none 0 0), .bool false]) rfl) ?_;rintro _ _ ⟨b2, rfl, rfl⟩;refine go_conv (refines_newrow (T := 75) (sz := 2) (f := BelowSequent.d)) ?_;refine gNl (g_seq (g_seq (gRg ?_)));refine go_p rfl rfl rfl (oMv rfl) ?_;refine go_op rfl rfl rfl (o_range_map 4 underlying153 rfl rfl) ?_;rintro _ _ ⟨r5, rfl, rfl⟩;refine gNl (g_block ?_);refine g_loop_k [(0, .v (.map (some bl))), (1, .v (.map (some br))), (3, .i64 n), (8, .v (.pointer (some ⟨b1, 0, none⟩))), (9, .v (.pointer (some ⟨b2, 0, none⟩))), (13, .v (.pointer (some ⟨r5, 0, none⟩)))] (fun (s : List (List UInt8 × List Int) × Option (List UInt8 × List Int) × List BelowSequent × Option Addr × Nat) => wideI Lm Rm Rm n s.1 s.2.2.1) (fun _ => [])
   (fun s => match s with | (rest, last, out, a, cap) => [row a cap 75 2 BelowSequent.d out, box b2 117 [.v (.slice a out.length cap), .bool false], box b1 117 [.list 2 BelowSequent.d ([] : List BelowSequent), .bool false], mp bl kStr (D.list 1 D.i64) Lm, mpi br r5 kStr (D.list 1 D.i64) Rm rest last]) (fun s => s.1.length) (Rm, none, [], none, 0) ⟨fun e he => he, by simp, fun e he _ => he, Nat.le_refl _⟩ ⟨rfl, rfl, rfl, rfl, rfl, rfl, trivial⟩ trivial rfl ?_
  rintro ⟨rest, last, out, a, cap⟩ hI;refine g_norm (L' := [(0, .v (.map (some bl))), (1, .v (.map (some br))), (3, .i64 n), (8, .v (.pointer (some ⟨b1, 0, none⟩))), (9, .v (.pointer (some ⟨b2, 0, none⟩))), (13, .v (.pointer (some ⟨r5, 0, none⟩)))]) (ms' := [row a cap 75 2 BelowSequent.d out, box b2 117 [.v (.slice a out.length cap), .bool false], box b1 117 [.list 2 BelowSequent.d ([] : List BelowSequent), .bool false], mp bl kStr (D.list 1 D.i64) Lm, mpi br r5 kStr (D.list 1 D.i64) Rm rest last]) rfl rfl ?_;refine g_seq (gRg ?_);refine go_op rfl rfl rfl (o_next_map 4 rfl rfl) ?_;rintro _ _ (⟨hr, rfl, rfl⟩ | ⟨i, ⟨kk, vv⟩, hi, rfl, rfl⟩)
  ·subst hr
   refine go_p rfl rfl rfl (o_extract rfl rfl) ?_;refine go_conv (refines_mpi 4 rfl rfl) ?_;refine gNl (g_seq ?_);refine g_cond_false rfl rfl ?_;refine g_exit ?_;obtain ⟨h1, h2, h3, h4⟩ := hI;rw [if_neg (by rintro ⟨e, he, hef⟩; exact absurd (h3 e he hef) (by simp))] at hm;obtain rfl := some_eq hm;refine g_seq (gRg ?_);refine go_p rfl rfl rfl (oLg 1 isAgg117 sizeOf117 rfl rfl rfl rfl (Nat.le_of_ble_eq_true rfl)) ?_;refine go_u rfl rfl (oSb 2 sizeOf117 rfl rfl rfl rfl rfl rfl rfl rfl (Nat.le_of_ble_eq_true rfl)) ?_;rintro _ _ rfl;refine go_ms (ms' := [_, box b2 117 [_, _], box b1 117 [_, _], _, _]) rfl ?_;refine go_conv (refines_cellrow 2 0 0 rfl rfl rfl rfl rfl rfl) ?_;refine gNl (g_ret ?_);exact retK (ret_one' (ms' := [_, _]) (drop := [_, _, _]) rfl (ret_cell 2 rfl rfl rfl isAgg117 sizeOf117 rfl) (List.Perm.refl _)) ⟨out, by simpa using h2, rfl, rfl⟩
  ·refine go_ms (ms' := [row a cap 75 2 BelowSequent.d out, box b2 117 [.v (.slice a out.length cap), .bool false], box b1 117 [.list 2 BelowSequent.d ([] : List BelowSequent), .bool false], mp bl kStr (D.list 1 D.i64) Lm, mpi br r5 kStr (D.list 1 D.i64) Rm (rest.eraseIdx i) (some (kk, vv))]) rfl ?_
   refine go_p rfl rfl rfl (o_extract rfl rfl) ?_;refine gNl (g_seq ?_);refine g_cond_true rfl rfl ?_;refine gSp (g_block (g_seq (gRg ?_)));refine go_p rfl rfl rfl (o_entry_map 4 rfl rfl) ?_;refine go_p rfl rfl rfl (o_extract rfl rfl) ?_;refine go_p rfl rfl rfl (o_extract rfl rfl) ?_;refine go_p rfl rfl rfl (oAs rfl) ?_;refine go_p rfl rfl rfl (oAs rfl) ?_;refine gNl (g_seq (g_seq (gRg ?_)));refine go_p rfl rfl rfl (oMv rfl) ?_;refine go_p rfl rfl rfl (o_len runUnderlying25 rfl) ?_;refine go_p rfl rfl rfl (oMv rfl) ?_;refine go_p rfl rfl rfl (o_cmp rfl rfl rfl) ?_;refine gNl ?_
   have hmem : (kk, vv) ∈ Rm := hI.1 _ (List.mem_of_getElem? hi)
   have hsm := hall _ hmem
   refine gCd rfl (fun hc1 => ?_) (fun hc1 => ?_)
   ·have hE : wideE Lm Rm n (kk, vv) = some none := by unfold wideE; rw [if_pos (of_decide_eq_true hc1)]
    have hst := wideI_step hI hi (by rw [hE]; simp)
    rw [show wideQ Lm Rm n (kk, vv) = none by unfold wideQ; rw [hE]] at hst;refine g_exit ?_;exact ⟨(rest.eraseIdx i, some (kk, vv), out, a, cap), by simpa using hst, erase_lt hi, trivial, ⟨rfl, rfl, rfl, rfl, rfl, rfl, trivial⟩, [], rfl⟩
   ·have hc1' : ¬ ((vv.length : Int) < n) := of_decide_eq_false hc1
    refine gSp ?_
    have hEe : wideE Lm Rm n (kk, vv) = if ((mget Lm kk).getD []).length = 0 \/ ((mget Rm kk).getD []).length = 0 then some (some none) else (m_below_set ((mget Lm kk).getD [])).bind fun x => (m_below_set ((mget Rm kk).getD [])).bind fun y => some (some (some ⟨x, y⟩)) := by unfold wideE; rw [if_neg hc1']
    refine g_seq (g_seq (gRg ?_));refine go_p rfl rfl rfl (oMv rfl) ?_;refine go_p rfl rfl rfl (oMv rfl) ?_;refine go_p rfl rfl rfl (o_lookup (z0 := ([] : List Int)) 3 runUnderlying153 (keyStr underlying9) zeroValue25 conc_nil rfl rfl rfl) ?_;refine go_p rfl rfl rfl (o_len runUnderlying25 rfl) ?_;refine go_p rfl rfl rfl (o_cmp rfl rfl rfl) ?_;refine go_p rfl rfl rfl (oMv rfl) ?_;refine go_two [(0, .v (.map (some bl))), (1, .v (.map (some br))), (3, .i64 n), (8, .v (.pointer (some ⟨b1, 0, none⟩))), (9, .v (.pointer (some ⟨b2, 0, none⟩))), (10, .v (kStr kk)), (13, .v (.pointer (some ⟨r5, 0, none⟩)))] 6 34 (decide (((mget Lm kk).getD []).length = 0 \/ ((mget Rm kk).getD []).length = 0)) (t := 28) ⟨rfl, rfl, rfl, rfl, rfl, rfl, rfl, trivial⟩ rfl (fun hg_1 hk1 => ?_) (fun hg_1 hk1 => ?_) ?_
    ·refine gKp rfl rfl rfl hg_1 rfl rfl ?_
     refine gKp rfl rfl rfl hg_1 rfl rfl ?_;refine gKp rfl rfl rfl hg_1 rfl rfl ?_;refine gKp rfl rfl rfl hg_1 rfl rfl ?_;refine gKp rfl rfl rfl hg_1 rfl rfl ?_;refine go_p rfl rfl rfl (o_pickT rfl hg_1 rfl) ?_;exact gMt hk1 (congrArg (fun b => some (D.bool b)) (dec_orT hg_1)) ⟨rfl, rfl, rfl, rfl, rfl, rfl, rfl, trivial⟩
    ·refine gWp rfl rfl rfl hg_1 rfl rfl (oMv rfl) ?_
     refine gWp rfl rfl rfl hg_1 rfl rfl (oMv rfl) ?_;refine gWp rfl rfl rfl hg_1 rfl rfl (o_lookup_mpi (z0 := ([] : List Int)) 4 runUnderlying153 (keyStr underlying9) zeroValue25 conc_nil rfl rfl rfl) ?_;refine gWp rfl rfl rfl hg_1 rfl rfl (o_len runUnderlying25 rfl) ?_;refine gWp rfl rfl rfl hg_1 rfl rfl (o_cmp rfl rfl rfl) ?_;refine go_p rfl rfl rfl (o_pickF rfl hg_1 rfl) ?_;exact gMt hk1 (congrArg (fun b => some (D.bool b)) (dec_orF hg_1)) ⟨rfl, rfl, rfl, rfl, rfl, rfl, rfl, trivial⟩
    refine gNl ?_;refine gCd rfl (fun hc2 => ?_) (fun hc2 => ?_)
    ·rw [if_pos (of_decide_eq_true hc2)] at hEe
     rw [if_pos ⟨(kk, vv), hmem, hEe⟩] at hm;obtain rfl := some_eq hm;refine g_seq (gRg ?_);refine go_p rfl rfl rfl (o_build (zs := [.list 2 BelowSequent.d [], .bool false]) runUnderlying117 zeroValue117 (pl_117 _ runUnderlying117) rfl rfl rfl rfl) ?_;refine go_u rfl rfl (oSb 2 sizeOf117 rfl rfl rfl rfl rfl rfl rfl rfl (Nat.le_of_ble_eq_true rfl)) ?_;rintro _ _ rfl;refine go_conv (refines_mpi 4 rfl rfl) ?_;refine go_ms (ms' := [_, box b2 117 [_, _], box b1 117 [_, _], _, _]) rfl ?_;refine gNl (g_ret ?_);exact retK (ret_one' (ms' := [_, _]) (drop := [_, _, _]) rfl (ret_cell 2 rfl rfl rfl isAgg117 sizeOf117 rfl) (List.Perm.refl _)) ⟨[], List.Perm.refl _, rfl, rfl⟩
    ·rw [if_neg (of_decide_eq_false hc2)] at hEe
     rw [hEe] at hsm;obtain ⟨x, hx⟩ : ∃ x, m_below_set ((mget Lm kk).getD []) = some x := by
      cases hq : m_below_set ((mget Lm kk).getD []) with
      | none => rw [hq] at hsm; simp at hsm
      | some x => exact ⟨x, rfl⟩
     rw [hx, Option.bind_some] at hEe hsm;obtain ⟨y, hy⟩ : ∃ y, m_below_set ((mget Rm kk).getD []) = some y := by
      cases hq : m_below_set ((mget Rm kk).getD []) with
      | none => rw [hq] at hsm; simp at hsm
      | some x => exact ⟨x, rfl⟩
     rw [hy, Option.bind_some] at hEe
     have hst := wideI_step hI hi (by rw [hEe]; simp)
     rw [show wideQ Lm Rm n (kk, vv) = some ⟨x, y⟩ by unfold wideQ; rw [hEe]] at hst
     have hol : out.length <= 1000000000 := by
      have h1 : out.length + (rest.filterMap (wideQ Lm Rm n)).length = (Rm.filterMap (wideQ Lm Rm n)).length := by rw [<- List.length_append]; exact hI.2.1.length_eq
      have h2 := wideQ_len Lm Rm n Rm
      omega
     have hg3 : (out.length + ([(⟨x, y⟩ : BelowSequent)] : List _).length) * 48 <= 140737488355328 := by simp only [List.length_cons, List.length_nil]; omega
     refine gSp ?_;refine g_draw 12 Tryz_mixed (by decide +kernel) ?_;refine gd_p rfl rfl rfl (oFb fi_w117_0 rfl) ?_;refine gd_p rfl rfl rfl (oLb 1 isAgg112 rfl rfl rfl rfl) ?_;refine gd_p rfl rfl rfl (oMv rfl) ?_;refine gd_p rfl rfl rfl (oMv rfl) ?_;refine gd_p rfl rfl rfl (o_lookup (z0 := ([] : List Int)) 3 runUnderlying153 (keyStr underlying9) zeroValue25 conc_nil rfl rfl rfl) ?_;refine gd_p rfl rfl rfl (o_call0 call58 rfl (w_below_set hx)) ?_;refine gd_p rfl rfl rfl (oMv rfl) ?_;refine gd_p rfl rfl rfl (oMv rfl) ?_;refine gd_p rfl rfl rfl (o_lookup_mpi (z0 := ([] : List Int)) 4 runUnderlying153 (keyStr underlying9) zeroValue25 conc_nil rfl rfl rfl) ?_;refine gd_p rfl rfl rfl (o_call0 call58 rfl (w_below_set hy)) ?_;refine gd_p rfl rfl rfl (o_build (zs := [.list 1 D.i64 [], .list 1 D.i64 []]) runUnderlying75 zeroValue75 (pl_75 _ runUnderlying75) rfl rfl rfl rfl) ?_;refine gd_p rfl rfl rfl (o_buildSlice (xs := [_]) (f := BelowSequent.d) (l := [(⟨x, y⟩ : BelowSequent)]) runUnderlying112 sizeOf75 zeroValue75 rfl rfl rfl (fun _ => ⟨rfl, rfl, rfl⟩) rfl) ?_;refine gd_nil ?_;refine go_op rfl rfl rfl (o_append (a := _) 0 underlying112 type75 rfl rfl rfl rfl rfl rfl rfl (fun _ => rfl) (fun _ => rfl) hg3 (app_len hg3 rfl)) ?_;rintro _ _ ⟨a', cap', rfl, rfl⟩;refine go_p rfl rfl rfl (oFb fi_w117_0 rfl) ?_;refine go_u rfl rfl (oSb 1 sizeOf112 rfl rfl rfl rfl rfl rfl rfl rfl (Nat.le_of_ble_eq_true rfl)) ?_;rintro _ _ rfl;refine gNl ?_;exact ⟨(rest.eraseIdx i, some (kk, vv), out ++ [⟨x, y⟩], a', cap'), by simpa using hst, erase_lt hi, trivial, ⟨rfl, rfl, rfl, rfl, rfl, rfl, trivial⟩, [], rfl⟩
 ·rw [if_neg hall] at hm
  cases hm
theorem w_wideL {Lm Rm : List (List UInt8 × List Int)} {n : Int} {r_1 : BelowAnswer} {bl br : Nat} (hm : m_wide Lm Rm Lm n = some r_1) :
  Go.V.Fn Tryz.prog 156 [.v (.map (some bl)), .v (.map (some br)), .v (.map (some bl)), .i64 n] [mp bl kStr (D.list 1 D.i64) Lm, mp br kStr (D.list 1 D.i64) Rm] (fun d ms' => ∃ p, p.Perm r_1.to_ /\ d = BelowAnswer.d ⟨p, r_1.fails⟩ /\ ms' = [mp bl kStr (D.list 1 D.i64) Lm, mp br kStr (D.list 1 D.i64) Rm]) := by
 unfold m_wide at hm
 by_cases hall : Lm.length <= 1000000000 /\ ∀ e ∈ Lm, (wideE Lm Rm n e).isSome = true
 ·rw [if_pos hall] at hm
  obtain ⟨hlen, hall⟩ := hall;refine fn_intro func156 rfl ntmps156 rfl fun H0 fr w0 => ?_;refine g_seq (gRg ?_);refine go_op rfl rfl rfl (o_alloc_own zeroValue117 (cs := [.list 2 BelowSequent.d [], .bool false]) rfl) ?_;rintro _ _ ⟨b1, rfl, rfl⟩;refine gNl (g_seq (gRg ?_));refine go_op rfl rfl rfl (o_alloc_own zeroValue117 (cs := [.v (.slice none 0 0), .bool false]) rfl) ?_;rintro _ _ ⟨b2, rfl, rfl⟩;refine go_conv (refines_newrow (T := 75) (sz := 2) (f := BelowSequent.d)) ?_;refine gNl (g_seq (g_seq (gRg ?_)));refine go_p rfl rfl rfl (oMv rfl) ?_;refine go_op rfl rfl rfl (o_range_map 3 underlying153 rfl rfl) ?_;rintro _ _ ⟨r5, rfl, rfl⟩;refine gNl (g_block ?_);refine g_loop_k [(0, .v (.map (some bl))), (1, .v (.map (some br))), (3, .i64 n), (8, .v (.pointer (some ⟨b1, 0, none⟩))), (9, .v (.pointer (some ⟨b2, 0, none⟩))), (13, .v (.pointer (some ⟨r5, 0, none⟩)))] (fun (s : List (List UInt8 × List Int) × Option (List UInt8 × List Int) × List BelowSequent × Option Addr × Nat) => wideI Lm Rm Lm n s.1 s.2.2.1) (fun _ => [])
   (fun s => match s with | (rest, last, out, a, cap) => [row a cap 75 2 BelowSequent.d out, box b2 117 [.v (.slice a out.length cap), .bool false], box b1 117 [.list 2 BelowSequent.d ([] : List BelowSequent), .bool false], mpi bl r5 kStr (D.list 1 D.i64) Lm rest last, mp br kStr (D.list 1 D.i64) Rm]) (fun s => s.1.length) (Lm, none, [], none, 0) ⟨fun e he => he, by simp, fun e he _ => he, Nat.le_refl _⟩ ⟨rfl, rfl, rfl, rfl, rfl, rfl, trivial⟩ trivial rfl ?_
  rintro ⟨rest, last, out, a, cap⟩ hI;refine g_norm (L' := [(0, .v (.map (some bl))), (1, .v (.map (some br))), (3, .i64 n), (8, .v (.pointer (some ⟨b1, 0, none⟩))), (9, .v (.pointer (some ⟨b2, 0, none⟩))), (13, .v (.pointer (some ⟨r5, 0, none⟩)))]) (ms' := [row a cap 75 2 BelowSequent.d out, box b2 117 [.v (.slice a out.length cap), .bool false], box b1 117 [.list 2 BelowSequent.d ([] : List BelowSequent), .bool false], mpi bl r5 kStr (D.list 1 D.i64) Lm rest last, mp br kStr (D.list 1 D.i64) Rm]) rfl rfl ?_;refine g_seq (gRg ?_);refine go_op rfl rfl rfl (o_next_map 3 rfl rfl) ?_;rintro _ _ (⟨hr, rfl, rfl⟩ | ⟨i, ⟨kk, vv⟩, hi, rfl, rfl⟩)
  ·subst hr
   refine go_p rfl rfl rfl (o_extract rfl rfl) ?_;refine go_conv (refines_mpi 3 rfl rfl) ?_;refine gNl (g_seq ?_);refine g_cond_false rfl rfl ?_;refine g_exit ?_;obtain ⟨h1, h2, h3, h4⟩ := hI;rw [if_neg (by rintro ⟨e, he, hef⟩; exact absurd (h3 e he hef) (by simp))] at hm;obtain rfl := some_eq hm;refine g_seq (gRg ?_);refine go_p rfl rfl rfl (oLg 1 isAgg117 sizeOf117 rfl rfl rfl rfl (Nat.le_of_ble_eq_true rfl)) ?_;refine go_u rfl rfl (oSb 2 sizeOf117 rfl rfl rfl rfl rfl rfl rfl rfl (Nat.le_of_ble_eq_true rfl)) ?_;rintro _ _ rfl;refine go_ms (ms' := [_, box b2 117 [_, _], box b1 117 [_, _], _, _]) rfl ?_;refine go_conv (refines_cellrow 2 0 0 rfl rfl rfl rfl rfl rfl) ?_;refine gNl (g_ret ?_);exact retK (ret_one' (ms' := [_, _]) (drop := [_, _, _]) rfl (ret_cell 2 rfl rfl rfl isAgg117 sizeOf117 rfl) (List.Perm.refl _)) ⟨out, by simpa using h2, rfl, rfl⟩
  ·refine go_ms (ms' := [row a cap 75 2 BelowSequent.d out, box b2 117 [.v (.slice a out.length cap), .bool false], box b1 117 [.list 2 BelowSequent.d ([] : List BelowSequent), .bool false], mpi bl r5 kStr (D.list 1 D.i64) Lm (rest.eraseIdx i) (some (kk, vv)), mp br kStr (D.list 1 D.i64) Rm]) rfl ?_
   refine go_p rfl rfl rfl (o_extract rfl rfl) ?_;refine gNl (g_seq ?_);refine g_cond_true rfl rfl ?_;refine gSp (g_block (g_seq (gRg ?_)));refine go_p rfl rfl rfl (o_entry_map 3 rfl rfl) ?_;refine go_p rfl rfl rfl (o_extract rfl rfl) ?_;refine go_p rfl rfl rfl (o_extract rfl rfl) ?_;refine go_p rfl rfl rfl (oAs rfl) ?_;refine go_p rfl rfl rfl (oAs rfl) ?_;refine gNl (g_seq (g_seq (gRg ?_)));refine go_p rfl rfl rfl (oMv rfl) ?_;refine go_p rfl rfl rfl (o_len runUnderlying25 rfl) ?_;refine go_p rfl rfl rfl (oMv rfl) ?_;refine go_p rfl rfl rfl (o_cmp rfl rfl rfl) ?_;refine gNl ?_
   have hmem : (kk, vv) ∈ Lm := hI.1 _ (List.mem_of_getElem? hi)
   have hsm := hall _ hmem
   refine gCd rfl (fun hc1 => ?_) (fun hc1 => ?_)
   ·have hE : wideE Lm Rm n (kk, vv) = some none := by unfold wideE; rw [if_pos (of_decide_eq_true hc1)]
    have hst := wideI_step hI hi (by rw [hE]; simp)
    rw [show wideQ Lm Rm n (kk, vv) = none by unfold wideQ; rw [hE]] at hst;refine g_exit ?_;exact ⟨(rest.eraseIdx i, some (kk, vv), out, a, cap), by simpa using hst, erase_lt hi, trivial, ⟨rfl, rfl, rfl, rfl, rfl, rfl, trivial⟩, [], rfl⟩
   ·have hc1' : ¬ ((vv.length : Int) < n) := of_decide_eq_false hc1
    refine gSp ?_
    have hEe : wideE Lm Rm n (kk, vv) = if ((mget Lm kk).getD []).length = 0 \/ ((mget Rm kk).getD []).length = 0 then some (some none) else (m_below_set ((mget Lm kk).getD [])).bind fun x => (m_below_set ((mget Rm kk).getD [])).bind fun y => some (some (some ⟨x, y⟩)) := by unfold wideE; rw [if_neg hc1']
    refine g_seq (g_seq (gRg ?_));refine go_p rfl rfl rfl (oMv rfl) ?_;refine go_p rfl rfl rfl (oMv rfl) ?_;refine go_p rfl rfl rfl (o_lookup_mpi (z0 := ([] : List Int)) 3 runUnderlying153 (keyStr underlying9) zeroValue25 conc_nil rfl rfl rfl) ?_;refine go_p rfl rfl rfl (o_len runUnderlying25 rfl) ?_;refine go_p rfl rfl rfl (o_cmp rfl rfl rfl) ?_;refine go_p rfl rfl rfl (oMv rfl) ?_;refine go_two [(0, .v (.map (some bl))), (1, .v (.map (some br))), (3, .i64 n), (8, .v (.pointer (some ⟨b1, 0, none⟩))), (9, .v (.pointer (some ⟨b2, 0, none⟩))), (10, .v (kStr kk)), (13, .v (.pointer (some ⟨r5, 0, none⟩)))] 6 34 (decide (((mget Lm kk).getD []).length = 0 \/ ((mget Rm kk).getD []).length = 0)) (t := 28) ⟨rfl, rfl, rfl, rfl, rfl, rfl, rfl, trivial⟩ rfl (fun hg_1 hk1 => ?_) (fun hg_1 hk1 => ?_) ?_
    ·refine gKp rfl rfl rfl hg_1 rfl rfl ?_
     refine gKp rfl rfl rfl hg_1 rfl rfl ?_;refine gKp rfl rfl rfl hg_1 rfl rfl ?_;refine gKp rfl rfl rfl hg_1 rfl rfl ?_;refine gKp rfl rfl rfl hg_1 rfl rfl ?_;refine go_p rfl rfl rfl (o_pickT rfl hg_1 rfl) ?_;exact gMt hk1 (congrArg (fun b => some (D.bool b)) (dec_orT hg_1)) ⟨rfl, rfl, rfl, rfl, rfl, rfl, rfl, trivial⟩
    ·refine gWp rfl rfl rfl hg_1 rfl rfl (oMv rfl) ?_
     refine gWp rfl rfl rfl hg_1 rfl rfl (oMv rfl) ?_;refine gWp rfl rfl rfl hg_1 rfl rfl (o_lookup (z0 := ([] : List Int)) 4 runUnderlying153 (keyStr underlying9) zeroValue25 conc_nil rfl rfl rfl) ?_;refine gWp rfl rfl rfl hg_1 rfl rfl (o_len runUnderlying25 rfl) ?_;refine gWp rfl rfl rfl hg_1 rfl rfl (o_cmp rfl rfl rfl) ?_;refine go_p rfl rfl rfl (o_pickF rfl hg_1 rfl) ?_;exact gMt hk1 (congrArg (fun b => some (D.bool b)) (dec_orF hg_1)) ⟨rfl, rfl, rfl, rfl, rfl, rfl, rfl, trivial⟩
    refine gNl ?_;refine gCd rfl (fun hc2 => ?_) (fun hc2 => ?_)
    ·rw [if_pos (of_decide_eq_true hc2)] at hEe
     rw [if_pos ⟨(kk, vv), hmem, hEe⟩] at hm;obtain rfl := some_eq hm;refine g_seq (gRg ?_);refine go_p rfl rfl rfl (o_build (zs := [.list 2 BelowSequent.d [], .bool false]) runUnderlying117 zeroValue117 (pl_117 _ runUnderlying117) rfl rfl rfl rfl) ?_;refine go_u rfl rfl (oSb 2 sizeOf117 rfl rfl rfl rfl rfl rfl rfl rfl (Nat.le_of_ble_eq_true rfl)) ?_;rintro _ _ rfl;refine go_conv (refines_mpi 3 rfl rfl) ?_;refine go_ms (ms' := [_, box b2 117 [_, _], box b1 117 [_, _], _, _]) rfl ?_;refine gNl (g_ret ?_);exact retK (ret_one' (ms' := [_, _]) (drop := [_, _, _]) rfl (ret_cell 2 rfl rfl rfl isAgg117 sizeOf117 rfl) (List.Perm.refl _)) ⟨[], List.Perm.refl _, rfl, rfl⟩
    ·rw [if_neg (of_decide_eq_false hc2)] at hEe
     rw [hEe] at hsm;obtain ⟨x, hx⟩ : ∃ x, m_below_set ((mget Lm kk).getD []) = some x := by
      cases hq : m_below_set ((mget Lm kk).getD []) with
      | none => rw [hq] at hsm; simp at hsm
      | some x => exact ⟨x, rfl⟩
     rw [hx, Option.bind_some] at hEe hsm;obtain ⟨y, hy⟩ : ∃ y, m_below_set ((mget Rm kk).getD []) = some y := by
      cases hq : m_below_set ((mget Rm kk).getD []) with
      | none => rw [hq] at hsm; simp at hsm
      | some x => exact ⟨x, rfl⟩
     rw [hy, Option.bind_some] at hEe
     have hst := wideI_step hI hi (by rw [hEe]; simp)
     rw [show wideQ Lm Rm n (kk, vv) = some ⟨x, y⟩ by unfold wideQ; rw [hEe]] at hst
     have hol : out.length <= 1000000000 := by
      have h1 : out.length + (rest.filterMap (wideQ Lm Rm n)).length = (Lm.filterMap (wideQ Lm Rm n)).length := by rw [<- List.length_append]; exact hI.2.1.length_eq
      have h2 := wideQ_len Lm Rm n Lm
      omega
     have hg3 : (out.length + ([(⟨x, y⟩ : BelowSequent)] : List _).length) * 48 <= 140737488355328 := by simp only [List.length_cons, List.length_nil]; omega
     refine gSp ?_;refine g_draw 12 Tryz_mixed (by decide +kernel) ?_;refine gd_p rfl rfl rfl (oFb fi_w117_0 rfl) ?_;refine gd_p rfl rfl rfl (oLb 1 isAgg112 rfl rfl rfl rfl) ?_;refine gd_p rfl rfl rfl (oMv rfl) ?_;refine gd_p rfl rfl rfl (oMv rfl) ?_;refine gd_p rfl rfl rfl (o_lookup_mpi (z0 := ([] : List Int)) 3 runUnderlying153 (keyStr underlying9) zeroValue25 conc_nil rfl rfl rfl) ?_;refine gd_p rfl rfl rfl (o_call0 call58 rfl (w_below_set hx)) ?_;refine gd_p rfl rfl rfl (oMv rfl) ?_;refine gd_p rfl rfl rfl (oMv rfl) ?_;refine gd_p rfl rfl rfl (o_lookup (z0 := ([] : List Int)) 4 runUnderlying153 (keyStr underlying9) zeroValue25 conc_nil rfl rfl rfl) ?_;refine gd_p rfl rfl rfl (o_call0 call58 rfl (w_below_set hy)) ?_;refine gd_p rfl rfl rfl (o_build (zs := [.list 1 D.i64 [], .list 1 D.i64 []]) runUnderlying75 zeroValue75 (pl_75 _ runUnderlying75) rfl rfl rfl rfl) ?_;refine gd_p rfl rfl rfl (o_buildSlice (xs := [_]) (f := BelowSequent.d) (l := [(⟨x, y⟩ : BelowSequent)]) runUnderlying112 sizeOf75 zeroValue75 rfl rfl rfl (fun _ => ⟨rfl, rfl, rfl⟩) rfl) ?_;refine gd_nil ?_;refine go_op rfl rfl rfl (o_append (a := _) 0 underlying112 type75 rfl rfl rfl rfl rfl rfl rfl (fun _ => rfl) (fun _ => rfl) hg3 (app_len hg3 rfl)) ?_;rintro _ _ ⟨a', cap', rfl, rfl⟩;refine go_p rfl rfl rfl (oFb fi_w117_0 rfl) ?_;refine go_u rfl rfl (oSb 1 sizeOf112 rfl rfl rfl rfl rfl rfl rfl rfl (Nat.le_of_ble_eq_true rfl)) ?_;rintro _ _ rfl;refine gNl ?_;exact ⟨(rest.eraseIdx i, some (kk, vv), out ++ [⟨x, y⟩], a', cap'), by simpa using hst, erase_lt hi, trivial, ⟨rfl, rfl, rfl, rfl, rfl, rfl, trivial⟩, [], rfl⟩
 ·rw [if_neg hall] at hm
  cases hm
end Go.Proofs.YtkfnogdccpcmhaaGreatDoor
namespace Go.Proofs.YtkfnogdccpcmhaaGreatDoor
open Go.V Tryz
noncomputable def m_below_search_only (s1 : ApiType) (l1 : (List Int)) (kind1 : Int) : Option (List Int) :=
 grd (l1.length * 8 <= 140737488355328) <|
 grd (∀ x ∈ l1, 0 <= x /\ x < (s1.l.length : Int)) <|
 some (keepK s1 kind1 l1)
theorem w_below_search_only {s1 : ApiType} {l1 : (List Int)} {kind1 : Int} {r_1 : (List Int)} (hm : m_below_search_only s1 l1 kind1 = some r_1) : Fn0 Tryz.prog 153 [.ref (ApiType.d s1), .list 1 D.i64 l1, .i64 kind1] (.list 1 D.i64 r_1) := by
 unfold m_below_search_only at hm;refine fn_intro func153 rfl ntmps153 rfl fun H0 fr w0 => ?_;refine g_seq (gRg ?_);refine go_p rfl rfl rfl (o_box rfl rfl) ?_;refine go_p rfl rfl rfl (o_box rfl rfl) ?_;refine go_p rfl rfl rfl (oAs rfl) ?_;refine go_conv (nilE (i := 6) (sz := 1) (f := D.i64) rfl).refines ?_;refine gNl (g_seq (gRg ?_));refine go_p rfl rfl rfl (oMv rfl) ?_;obtain ⟨hg1, hm⟩ := grd_some hm;refine go_op rfl rfl rfl (o_call (ms₁ := []) call97 rfl (List.Perm.refl _) (w_Clone_97 hg1)) ?_;rintro _ _ ⟨_, ⟨a_r1, cap_r1, rfl, rfl⟩, rfl⟩
 generalize hm_r1 : l1.length = m_r1
 clear hm_r1
 refine go_p rfl rfl rfl (o_makeFunc rfl rfl) ?_;obtain ⟨hg2, hm⟩ := grd_some hm;refine go_op rfl rfl rfl (o_call_own [0] call178 rfl rfl (getL_c rfl getL_n) (sh_DeleteOnly hg2) (by rintro _ _ ⟨_, _, rfl⟩; rfl)) ?_;rintro _ _ ⟨_, ⟨m_r1, rfl, rfl⟩, rfl⟩;refine go_ms (ms' := [_]) rfl ?_;refine go_p rfl rfl rfl (oAs rfl) ?_;refine gNl ?_;refine g_thaw 0 rfl rfl ?_;rintro rfl;refine g_conv (peekE (i := 6) 0 rfl rfl rfl).refines ?_;refine g_ret ?_;exact retK (ret_one' rfl (ret_tmp rfl) (perm_drop _)) (congrArg (fun (p : (List Int)) => (.list 1 D.i64 p : D)) (some_eq hm))
noncomputable def m_below_search_closed (s1 : ApiType) (q1 : BelowSequent) : Option BelowAnswer :=
 (m_below_search_heads s1 q1.left).bind fun (x1, x2) =>
 bif x2 then
  some (⟨([] : List BelowSequent), false⟩ : BelowAnswer)
 else
  bif (decide (x1 = 0)) then
   some (⟨([] : List BelowSequent), true⟩ : BelowAnswer)
  else
   (m_below_search_only s1 q1.left x1).bind fun x3 =>
   (m_below_search_only s1 q1.right x1).bind fun x4 =>
   (m_parts s1 x3).bind fun mm1 =>
   (m_parts s1 x4).bind fun mm2 =>
   bif (decide (x1 = 6)) then
    (m_below_search_arrows s1 (⟨x3, x4⟩ : BelowSequent)).bind fun x5 =>
    some (⟨x5.to_, x5.fails⟩ : BelowAnswer)
   else
    bif (decide (x1 = 7)) then
     bif (decide ((x4.length : Int) = 0)) then
      some (⟨([] : List BelowSequent), true⟩ : BelowAnswer)
     else
      (m_wide mm1 mm2 mm2 (x4.length : Int)).bind fun x6 =>
      some x6
    else
     bif (decide (x1 = 8)) then
      (m_wide mm1 mm2 mm1 (x3.length : Int)).bind fun x7 =>
      some x7
     else
      some (⟨([] : List BelowSequent), (decide ((x4.length : Int) = 0))⟩ : BelowAnswer)
theorem w_below_search_closed {s1 : ApiType} {q1 : BelowSequent} {r_1 : BelowAnswer} (hm : m_below_search_closed s1 q1 = some r_1) : Go.V.Fn Tryz.prog 133 [.ref (ApiType.d s1), BelowSequent.d q1] [] (fun d ms' => ∃ p, p.Perm r_1.to_ /\ d = BelowAnswer.d ⟨p, r_1.fails⟩ /\ ms' = []) := by
 unfold m_below_search_closed at hm;refine fn_intro func133 rfl ntmps133 rfl fun H0 fr w0 => ?_;refine g_seq (gRg ?_);refine go_op rfl rfl rfl (o_box_own rfl rfl rfl) ?_;rintro _ _ ⟨b1, rfl, rfl⟩;refine go_op rfl rfl rfl (o_alloc_own zeroValue117 (cs := [.list 2 BelowSequent.d [], .bool false]) rfl) ?_;rintro _ _ ⟨b2, rfl, rfl⟩;refine gNl (g_seq (gRg ?_));refine go_p rfl rfl rfl (oMv rfl) ?_;refine go_p rfl rfl rfl (oFb fi_75_0 rfl) ?_;refine go_p rfl rfl rfl (oLb 1 isAgg25 rfl rfl rfl rfl) ?_;obtain ⟨⟨x1, x2⟩, hx1, hm⟩ := bind_some hm;refine go_p rfl rfl rfl (o_call0 call152 rfl (w_below_search_heads hx1)) ?_;refine go_p rfl rfl rfl (oMv rfl) ?_;refine go_p rfl rfl rfl (o_extract rfl rfl) ?_;refine go_p rfl rfl rfl (o_extract rfl rfl) ?_;refine go_p rfl rfl rfl (oAs rfl) ?_;refine go_p rfl rfl rfl (oAs rfl) ?_;refine gNl (g_seq (g_block (g_seq (gRg ?_))));refine go_p rfl rfl rfl (oMv rfl) ?_;refine go_p rfl rfl rfl (oAs rfl) ?_;refine gNl ?_;refine gCd rfl (fun hc1 => ?_) (fun hc1 => ?_)
 ·replace hm := cond_t hc1 hm
  refine g_seq (gRg ?_);refine go_p rfl rfl rfl (o_build (zs := [.list 2 BelowSequent.d [], .bool false]) runUnderlying117 zeroValue117 (pl_117 _ runUnderlying117) rfl rfl rfl rfl) ?_;refine go_u rfl rfl (oSb 0 sizeOf117 rfl rfl rfl rfl rfl rfl rfl rfl (Nat.le_of_ble_eq_true rfl)) ?_;rintro _ _ rfl;refine go_ms (ms' := [box b2 117 [_, _], box b1 75 [_, _]]) rfl ?_;refine gNl (g_ret ?_);obtain rfl := some_eq hm;exact retK (ret_one' (ms' := []) (drop := [_, _]) rfl (ret_cell 0 rfl rfl rfl isAgg117 sizeOf117 rfl) (perm_all _)) ⟨_, List.Perm.refl _, rfl, rfl⟩
 ·replace hm := cond_f hc1 hm
  refine g_seq (gRg ?_);refine go_p rfl rfl rfl (oMv rfl) ?_;refine go_p rfl rfl rfl (o_cmp rfl rfl rfl) ?_;refine go_p rfl rfl rfl (oAs rfl) ?_;refine gNl ?_;refine gCd rfl (fun hc2 => ?_) (fun hc2 => ?_)
  ·replace hm := cond_t hc2 hm
   refine g_seq (gRg ?_);refine go_p rfl rfl rfl (o_build (zs := [.list 2 BelowSequent.d [], .bool false]) runUnderlying117 zeroValue117 (pl_117 _ runUnderlying117) rfl rfl rfl rfl) ?_;refine go_u rfl rfl (oSb 0 sizeOf117 rfl rfl rfl rfl rfl rfl rfl rfl (Nat.le_of_ble_eq_true rfl)) ?_;rintro _ _ rfl;refine go_ms (ms' := [box b2 117 [_, _], box b1 75 [_, _]]) rfl ?_;refine gNl (g_ret ?_);obtain rfl := some_eq hm;exact retK (ret_one' (ms' := []) (drop := [_, _]) rfl (ret_cell 0 rfl rfl rfl isAgg117 sizeOf117 rfl) (perm_all _)) ⟨_, List.Perm.refl _, rfl, rfl⟩
  ·replace hm := cond_f hc2 hm
   refine gSp (g_seq ?_);obtain ⟨x3, hx2, hm⟩ := bind_some hm;obtain ⟨x4, hx3, hm⟩ := bind_some hm;refine g_draw 11 Tryz_mixed (by decide +kernel) ?_;refine gd_p rfl rfl rfl (oMv rfl) ?_;refine gd_p rfl rfl rfl (oFb fi_75_0 rfl) ?_;refine gd_p rfl rfl rfl (oLb 1 isAgg25 rfl rfl rfl rfl) ?_;refine gd_p rfl rfl rfl (oMv rfl) ?_;refine gd_p rfl rfl rfl (o_call0 call153 rfl (w_below_search_only hx2)) ?_;refine gd_p rfl rfl rfl (oMv rfl) ?_;refine gd_p rfl rfl rfl (oFb fi_75_1 rfl) ?_;refine gd_p rfl rfl rfl (oLb 1 isAgg25 rfl rfl rfl rfl) ?_;refine gd_p rfl rfl rfl (oMv rfl) ?_;refine gd_p rfl rfl rfl (o_call0 call153 rfl (w_below_search_only hx3)) ?_;refine gd_p rfl rfl rfl (o_build (zs := [.list 1 D.i64 [], .list 1 D.i64 []]) runUnderlying75 zeroValue75 (pl_75 _ runUnderlying75) rfl rfl rfl rfl) ?_;refine gd_nil ?_;refine go_u rfl rfl (oSb 1 sizeOf75 rfl rfl rfl rfl rfl rfl rfl rfl (Nat.le_of_ble_eq_true rfl)) ?_;rintro _ _ rfl;refine go_ms (ms' := [box b2 117 [_, _], box b1 75 [_, _]]) rfl ?_;refine gNl (g_seq ?_);obtain ⟨mm1, hx4, hm⟩ := bind_some hm;obtain ⟨mm2, hx5, hm⟩ := bind_some hm;refine g_draw_cc 3 [3, 7, 8, 9] [4, 5, 6] [6] (by decide +kernel) (by decide +kernel) Tryz_mixed (by decide +kernel) (by decide +kernel) rfl ?_;refine gdc_p rfl rfl rfl rfl rfl rfl (oMv rfl) ?_;refine gdc_p rfl rfl rfl rfl rfl rfl (oFb fi_75_0 rfl) ?_;refine gdc_p rfl rfl rfl rfl rfl rfl (oLb 1 isAgg25 rfl rfl rfl rfl) ?_;refine gdc_e rfl ?_;refine gdc_p rfl rfl rfl rfl rfl rfl (oMv rfl) ?_;refine gdc_p rfl rfl rfl rfl rfl rfl (oFb fi_75_1 rfl) ?_;refine gdc_f rfl rfl rfl rfl rfl (oLb 1 isAgg25 rfl rfl rfl rfl) ?_;refine gdc_e rfl ?_;refine gdc_e rfl ?_;refine gdc_e rfl ?_;refine gdc_nil ?_;refine gdc2_t rfl rfl rfl rfl (o_call (ms₁ := []) call154 rfl (List.Perm.refl _) (w_parts hx4)) ?_;rintro _ _ ⟨_, ⟨b3, rfl, rfl⟩, rfl⟩;refine ⟨fun _ => ⟨trivial, oLb 2 isAgg25 rfl rfl rfl rfl⟩, ?_⟩;refine gdc2_t rfl rfl rfl rfl (o_call (ms₁ := []) call154 rfl (List.Perm.refl _) (w_parts hx5)) ?_;rintro _ _ ⟨_, ⟨b4, rfl, rfl⟩, rfl⟩;refine ⟨fun hc => absurd hc (by decide), ?_⟩;refine gdc2_t rfl rfl rfl rfl (oAs rfl) ?_;rintro _ _ ⟨rfl, rfl⟩;refine ⟨fun hc => absurd hc (by decide), ?_⟩;refine gdc2_t rfl rfl rfl rfl (oAs rfl) ?_;rintro _ _ ⟨rfl, rfl⟩;refine ⟨fun hc => absurd hc (by decide), ?_⟩;refine gdc2_nil ?_;refine g_seq (g_seq (gRg ?_));refine go_p rfl rfl rfl (oMv rfl) ?_;refine gNl (g_block (g_seq (gRg ?_)));refine go_p rfl rfl rfl (o_cmp rfl rfl rfl) ?_;refine go_p rfl rfl rfl (oAs rfl) ?_;refine gNl ?_;refine gCd rfl (fun hc3 => ?_) (fun hc3 => ?_)
   ·replace hm := cond_t hc3 hm
    refine g_seq (gRg ?_);refine go_p rfl rfl rfl (oMv rfl) ?_;refine go_p rfl rfl rfl (oLg 3 isAgg75 sizeOf75 rfl rfl rfl rfl (Nat.le_of_ble_eq_true rfl)) ?_;obtain ⟨x5, hx6, hm⟩ := bind_some hm;refine go_p rfl rfl rfl (o_call0 call155 rfl (w_below_search_arrows hx6)) ?_;refine go_u rfl rfl (oSb 2 sizeOf117 rfl rfl rfl rfl rfl rfl rfl rfl (Nat.le_of_ble_eq_true rfl)) ?_;rintro _ _ rfl;refine go_ms (ms' := [_, _, box b2 117 [_, _], box b1 75 [_, _]]) rfl ?_;refine gNl (g_ret ?_);obtain rfl := some_eq hm;exact retK (ret_one' (ms' := []) (drop := [_, _, _, _]) rfl (ret_cell 2 rfl rfl rfl isAgg117 sizeOf117 rfl) (perm_all _)) ⟨_, List.Perm.refl _, rfl, rfl⟩
   ·replace hm := cond_f hc3 hm
    refine g_seq (gRg ?_);refine go_p rfl rfl rfl (o_cmp rfl rfl rfl) ?_;refine go_p rfl rfl rfl (oAs rfl) ?_;refine gNl ?_;refine gCd rfl (fun hc4 => ?_) (fun hc4 => ?_)
    ·replace hm := cond_t hc4 hm
     refine g_seq (g_seq (gRg ?_));refine go_p rfl rfl rfl (oFb fi_75_1 rfl) ?_;refine go_p rfl rfl rfl (oLb 3 isAgg25 rfl rfl rfl rfl) ?_;refine go_p rfl rfl rfl (o_len runUnderlying25 rfl) ?_;refine go_p rfl rfl rfl (o_cmp rfl rfl rfl) ?_;refine gNl ?_;refine gCd rfl (fun hc5 => ?_) (fun hc5 => ?_)
     ·replace hm := cond_t hc5 hm
      refine g_seq (gRg ?_);refine go_p rfl rfl rfl (o_build (zs := [.list 2 BelowSequent.d [], .bool false]) runUnderlying117 zeroValue117 (pl_117 _ runUnderlying117) rfl rfl rfl rfl) ?_;refine go_u rfl rfl (oSb 2 sizeOf117 rfl rfl rfl rfl rfl rfl rfl rfl (Nat.le_of_ble_eq_true rfl)) ?_;rintro _ _ rfl;refine go_ms (ms' := [_, _, box b2 117 [_, _], box b1 75 [_, _]]) rfl ?_;refine gNl (g_ret ?_);obtain rfl := some_eq hm;exact retK (ret_one' (ms' := []) (drop := [_, _, _, _]) rfl (ret_cell 2 rfl rfl rfl isAgg117 sizeOf117 rfl) (perm_all _)) ⟨_, List.Perm.refl _, rfl, rfl⟩
     ·replace hm := cond_f hc5 hm
      refine gSp (g_seq (gRg ?_));refine go_p rfl rfl rfl (oMv rfl) ?_;refine go_p rfl rfl rfl (oMv rfl) ?_;refine go_p rfl rfl rfl (oMv rfl) ?_;refine go_p rfl rfl rfl (oFb fi_75_1 rfl) ?_;refine go_p rfl rfl rfl (oLb 3 isAgg25 rfl rfl rfl rfl) ?_;refine go_p rfl rfl rfl (o_len runUnderlying25 rfl) ?_;obtain ⟨x6, hx7, hm⟩ := bind_some hm;refine go_op rfl rfl rfl (o_call (ms₁ := [_, _]) call156 rfl ((permA 1 rfl (permA 0 rfl permN)).trans List.perm_append_comm) (w_wideR hx7)) ?_;rintro _ _ ⟨_, ⟨p_1, hp_1, rfl, rfl⟩, rfl⟩;refine go_ms (ms' := [_, _, box b2 117 [_, _], box b1 75 [_, _]]) rfl ?_;refine go_u rfl rfl (oSb 2 sizeOf117 rfl rfl rfl rfl rfl rfl rfl rfl (Nat.le_of_ble_eq_true rfl)) ?_;rintro _ _ rfl;refine go_ms (ms' := [_, _, box b2 117 [_, _], box b1 75 [_, _]]) rfl ?_;refine gNl (g_ret ?_);obtain rfl := some_eq hm;exact retK (ret_one' (ms' := []) (drop := [_, _, _, _]) rfl (ret_cell 2 rfl rfl rfl isAgg117 sizeOf117 rfl) (perm_all _)) ⟨_, hp_1, rfl, rfl⟩
    ·replace hm := cond_f hc4 hm
     refine g_seq (gRg ?_);refine go_p rfl rfl rfl (o_cmp rfl rfl rfl) ?_;refine go_p rfl rfl rfl (oAs rfl) ?_;refine gNl ?_;refine gCd rfl (fun hc6 => ?_) (fun hc6 => ?_)
     ·replace hm := cond_t hc6 hm
      refine g_seq (gRg ?_);refine go_p rfl rfl rfl (oMv rfl) ?_;refine go_p rfl rfl rfl (oMv rfl) ?_;refine go_p rfl rfl rfl (oMv rfl) ?_;refine go_p rfl rfl rfl (oFb fi_75_0 rfl) ?_;refine go_p rfl rfl rfl (oLb 3 isAgg25 rfl rfl rfl rfl) ?_;refine go_p rfl rfl rfl (o_len runUnderlying25 rfl) ?_;obtain ⟨x7, hx8, hm⟩ := bind_some hm;refine go_op rfl rfl rfl (o_call (ms₁ := [_, _]) call156 rfl ((permA 1 rfl (permA 0 rfl permN)).trans List.perm_append_comm) (w_wideL hx8)) ?_;rintro _ _ ⟨_, ⟨p_2, hp_2, rfl, rfl⟩, rfl⟩;refine go_ms (ms' := [_, _, box b2 117 [_, _], box b1 75 [_, _]]) rfl ?_;refine go_u rfl rfl (oSb 2 sizeOf117 rfl rfl rfl rfl rfl rfl rfl rfl (Nat.le_of_ble_eq_true rfl)) ?_;rintro _ _ rfl;refine go_ms (ms' := [_, _, box b2 117 [_, _], box b1 75 [_, _]]) rfl ?_;refine gNl (g_ret ?_);obtain rfl := some_eq hm;exact retK (ret_one' (ms' := []) (drop := [_, _, _, _]) rfl (ret_cell 2 rfl rfl rfl isAgg117 sizeOf117 rfl) (perm_all _)) ⟨_, hp_2, rfl, rfl⟩
     ·replace hm := cond_f hc6 hm
      refine gSp (g_seq (gRg ?_));refine go_p rfl rfl rfl (oFb fi_75_1 rfl) ?_;refine go_p rfl rfl rfl (oLb 3 isAgg25 rfl rfl rfl rfl) ?_;refine go_p rfl rfl rfl (o_len runUnderlying25 rfl) ?_;refine go_p rfl rfl rfl (o_cmp rfl rfl rfl) ?_;refine go_p rfl rfl rfl (o_build (zs := [.list 2 BelowSequent.d [], .bool false]) runUnderlying117 zeroValue117 (pl_117 _ runUnderlying117) rfl rfl rfl rfl) ?_;refine go_u rfl rfl (oSb 2 sizeOf117 rfl rfl rfl rfl rfl rfl rfl rfl (Nat.le_of_ble_eq_true rfl)) ?_;rintro _ _ rfl;refine go_ms (ms' := [_, _, box b2 117 [_, _], box b1 75 [_, _]]) rfl ?_;refine gNl (g_ret ?_);obtain rfl := some_eq hm;exact retK (ret_one' (ms' := []) (drop := [_, _, _, _]) rfl (ret_cell 2 rfl rfl rfl isAgg117 sizeOf117 rfl) (perm_all _)) ⟨_, List.Perm.refl _, rfl, rfl⟩
noncomputable def m_below_search_leads (s1 : ApiType) (q1 : BelowSequent) : Option BelowAnswer :=
 (m_below_search_has s1 q1.left 2).bind fun x1 =>
 (bif x1 then (some true) else ((m_below_search_has s1 q1.right 1).bind fun x2 =>
 some x2)).bind fun p1 =>
 bif p1 then
  some (⟨([] : List BelowSequent), false⟩ : BelowAnswer)
 else
  (m_below_search_opened s1 q1).bind fun (x3, x4) =>
  bif x4 then
   some (⟨x3.to_, x3.fails⟩ : BelowAnswer)
  else
   (m_below_search_shared s1 q1).bind fun x5 =>
   bif x5 then
    some (⟨([] : List BelowSequent), false⟩ : BelowAnswer)
   else
    (m_below_search_closed s1 q1).bind fun x6 =>
    some x6
theorem w_below_search_leads {s1 : ApiType} {q1 : BelowSequent} {r_1 : BelowAnswer} (hm : m_below_search_leads s1 q1 = some r_1) : Go.V.Fn Tryz.prog 96 [.ref (ApiType.d s1), BelowSequent.d q1] [] (fun d ms' => ∃ p, p.Perm r_1.to_ /\ d = BelowAnswer.d ⟨p, r_1.fails⟩ /\ ms' = []) := by
 unfold m_below_search_leads at hm;refine fn_intro func96 rfl ntmps96 rfl fun H0 fr w0 => ?_;refine g_seq (gRg ?_);refine go_p rfl rfl rfl (o_box rfl rfl) ?_;refine go_op rfl rfl rfl (o_alloc_own zeroValue117 (cs := [.list 2 BelowSequent.d [], .bool false]) rfl) ?_;rintro _ _ ⟨b1, rfl, rfl⟩;refine gNl (g_seq (g_seq (gRg ?_)));refine go_p rfl rfl rfl (oMv rfl) ?_;refine go_p rfl rfl rfl (oFa fi_75_0 rfl rfl rfl) ?_;refine go_p rfl rfl rfl (o_load isAgg25 rfl rfl) ?_;obtain ⟨x1, hx1, hm⟩ := bind_some hm;refine go_p rfl rfl rfl (o_call0 call130 rfl (w_below_search_has hx1)) ?_;refine go_p rfl rfl rfl (oMv rfl) ?_;obtain ⟨p1, hp_1, hm⟩ := bind_some hm;refine go_two [(0, _), (3, _), (4, _)] 5 16 p1 (t := 11) ⟨rfl, rfl, rfl, trivial⟩ rfl (fun hg_1 hk1 => ?_) (fun hg_1 hk1 => ?_) ?_
 ·replace hp_1 := cond_t hg_1 hp_1
  refine gKp rfl rfl rfl hg_1 rfl rfl ?_;refine gKp rfl rfl rfl hg_1 rfl rfl ?_;refine gKp rfl rfl rfl hg_1 rfl rfl ?_;refine gKp rfl rfl rfl hg_1 rfl rfl ?_;refine go_p rfl rfl rfl (o_pickT rfl hg_1 rfl) ?_;exact gMt hk1 (congrArg (fun b => some (D.bool b)) (some_eq hp_1)) ⟨rfl, rfl, rfl, trivial⟩
 ·replace hp_1 := cond_f hg_1 hp_1
  refine gWp rfl rfl rfl hg_1 rfl rfl (oMv rfl) ?_;refine gWp rfl rfl rfl hg_1 rfl rfl (oFa fi_75_1 rfl rfl rfl) ?_;refine gWp rfl rfl rfl hg_1 rfl rfl (o_load isAgg25 rfl rfl) ?_;obtain ⟨x2, hx2, hp_1⟩ := bind_some hp_1;refine gWp rfl rfl rfl hg_1 rfl rfl (o_call0 call130 rfl (w_below_search_has hx2)) ?_;refine go_p rfl rfl rfl (o_pickF rfl hg_1 rfl) ?_;exact gMt hk1 (congrArg (fun b => some (D.bool b)) (some_eq hp_1)) ⟨rfl, rfl, rfl, trivial⟩
 refine gNl ?_;refine gCd rfl (fun hc1 => ?_) (fun hc1 => ?_)
 ·replace hm := cond_t hc1 hm
  refine g_seq (gRg ?_);refine go_p rfl rfl rfl (o_build (zs := [.list 2 BelowSequent.d [], .bool false]) runUnderlying117 zeroValue117 (pl_117 _ runUnderlying117) rfl rfl rfl rfl) ?_;refine go_u rfl rfl (oSb 0 sizeOf117 rfl rfl rfl rfl rfl rfl rfl rfl (Nat.le_of_ble_eq_true rfl)) ?_;rintro _ _ rfl;refine go_ms (ms' := [box b1 117 [_, _]]) rfl ?_;refine gNl (g_ret ?_);obtain rfl := some_eq hm;exact retK (ret_one' (ms' := []) (drop := [_]) rfl (ret_cell 0 rfl rfl rfl isAgg117 sizeOf117 rfl) (perm_all _)) ⟨_, List.Perm.refl _, rfl, rfl⟩
 ·replace hm := cond_f hc1 hm
  refine gSp (g_seq (g_seq (gRg ?_)));refine go_p rfl rfl rfl (oMv rfl) ?_;refine go_p rfl rfl rfl (o_load_agg isAgg75 sizeOf75 rfl rfl) ?_;obtain ⟨⟨x3, x4⟩, hx3, hm⟩ := bind_some hm;refine go_p rfl rfl rfl (o_call0 call131 rfl (w_below_search_opened hx3)) ?_;refine go_p rfl rfl rfl (oMv rfl) ?_;refine go_p rfl rfl rfl (o_extract rfl rfl) ?_;refine go_p rfl rfl rfl (o_extract rfl rfl) ?_;refine go_op rfl rfl rfl (o_alloc_own zeroValue117 (cs := [.list 2 BelowSequent.d [], .bool false]) rfl) ?_;rintro _ _ ⟨b2, rfl, rfl⟩;refine go_u rfl rfl (oSb 0 sizeOf117 rfl rfl rfl rfl rfl rfl rfl rfl (Nat.le_of_ble_eq_true rfl)) ?_;rintro _ _ rfl;refine go_ms (ms' := [box b2 117 [_, _], box b1 117 [_, _]]) rfl ?_;refine go_p rfl rfl rfl (oAs rfl) ?_;refine gNl (g_seq (gRg ?_));refine go_p rfl rfl rfl (oMv rfl) ?_;refine gNl ?_;refine gCd rfl (fun hc2 => ?_) (fun hc2 => ?_)
  ·replace hm := cond_t hc2 hm
   refine g_seq (gRg ?_);refine go_p rfl rfl rfl (oLg 0 isAgg117 sizeOf117 rfl rfl rfl rfl (Nat.le_of_ble_eq_true rfl)) ?_;refine go_u rfl rfl (oSb 1 sizeOf117 rfl rfl rfl rfl rfl rfl rfl rfl (Nat.le_of_ble_eq_true rfl)) ?_;rintro _ _ rfl;refine go_ms (ms' := [box b2 117 [_, _], box b1 117 [_, _]]) rfl ?_;refine gNl (g_ret ?_);obtain rfl := some_eq hm;exact retK (ret_one' (ms' := []) (drop := [_, _]) rfl (ret_cell 1 rfl rfl rfl isAgg117 sizeOf117 rfl) (perm_all _)) ⟨_, List.Perm.refl _, rfl, rfl⟩
  ·replace hm := cond_f hc2 hm
   refine gSp (g_seq (g_seq (gRg ?_)));refine go_p rfl rfl rfl (oMv rfl) ?_;refine go_p rfl rfl rfl (o_load_agg isAgg75 sizeOf75 rfl rfl) ?_;obtain ⟨x5, hx4, hm⟩ := bind_some hm;refine go_p rfl rfl rfl (o_call0 call132 rfl (w_below_search_shared hx4)) ?_;refine gNl ?_;refine gCd rfl (fun hc3 => ?_) (fun hc3 => ?_)
   ·replace hm := cond_t hc3 hm
    refine g_seq (gRg ?_);refine go_p rfl rfl rfl (o_build (zs := [.list 2 BelowSequent.d [], .bool false]) runUnderlying117 zeroValue117 (pl_117 _ runUnderlying117) rfl rfl rfl rfl) ?_;refine go_u rfl rfl (oSb 1 sizeOf117 rfl rfl rfl rfl rfl rfl rfl rfl (Nat.le_of_ble_eq_true rfl)) ?_;rintro _ _ rfl;refine go_ms (ms' := [box b2 117 [_, _], box b1 117 [_, _]]) rfl ?_;refine gNl (g_ret ?_);obtain rfl := some_eq hm;exact retK (ret_one' (ms' := []) (drop := [_, _]) rfl (ret_cell 1 rfl rfl rfl isAgg117 sizeOf117 rfl) (perm_all _)) ⟨_, List.Perm.refl _, rfl, rfl⟩
   ·replace hm := cond_f hc3 hm
    refine gSp (g_seq (gRg ?_));refine go_p rfl rfl rfl (oMv rfl) ?_;refine go_p rfl rfl rfl (o_load_agg isAgg75 sizeOf75 rfl rfl) ?_;obtain ⟨x6, hx5, hm⟩ := bind_some hm;refine go_op rfl rfl rfl (o_call (ms₁ := []) call133 rfl (List.Perm.refl _) (w_below_search_closed hx5)) ?_;rintro _ _ ⟨_, ⟨p_1, hp_1, rfl, rfl⟩, rfl⟩;refine go_u rfl rfl (oSb 1 sizeOf117 rfl rfl rfl rfl rfl rfl rfl rfl (Nat.le_of_ble_eq_true rfl)) ?_;rintro _ _ rfl;refine go_ms (ms' := [box b2 117 [_, _], box b1 117 [_, _]]) rfl ?_;refine gNl (g_ret ?_);obtain rfl := some_eq hm;exact retK (ret_one' (ms' := []) (drop := [_, _]) rfl (ret_cell 1 rfl rfl rfl isAgg117 sizeOf117 rfl) (perm_all _)) ⟨_, hp_1, rfl, rfl⟩
end Go.Proofs.YtkfnogdccpcmhaaGreatDoor
namespace Go.Proofs.YtkfnogdccpcmhaaGreatDoor
open Go.V Tryz
inductive Reach (t : ApiType) (q : BelowSequent) : BelowSequent -> Prop
 | refl : Reach t q q
 | step {s s' : BelowSequent} {r : BelowAnswer} : Reach t q s -> m_below_search_leads t s = some r -> s' ∈ r.to_ -> Reach t q s'
def HoldsOk (t : ApiType) (q : BelowSequent) (b : Bool) : Prop := ∃ U : List BelowSequent, q ∈ U /\ U.length <= 1000000000000 /\ (∀ s ∈ U, ∃ k, m_below_sequent_key s = some k) /\ (∀ s ∈ U, ∀ s' ∈ U, m_below_sequent_key s = m_below_sequent_key s' -> s = s') /\
 (∀ s ∈ U, ∃ r, m_below_search_leads t s = some r /\ ∀ s' ∈ r.to_, s' ∈ U) /\ (b = true ↔ ∀ s, Reach t q s -> ∀ r, m_below_search_leads t s = some r -> r.fails = false)
open Classical in
noncomputable def m_holds (t : ApiType) (q : BelowSequent) : Option Bool := if HoldsOk t q true then some true else if HoldsOk t q false then some false else none
theorem holds_ok {t : ApiType} {q : BelowSequent} {b : Bool} (h : m_holds t q = some b) : HoldsOk t q b := by
 unfold m_holds at h
 split at h
 ·rename_i h1; cases h; exact h1
 ·split at h
  ·rename_i h1; cases h; exact h1
  ·cases h
theorem holds_of {t : ApiType} {q : BelowSequent} {b : Bool} (h : HoldsOk t q b) : m_holds t q = some b := by
 unfold m_holds
 cases b with
 | true => rw [if_pos h]
 | false =>
  rw [if_neg, if_pos h]
  intro h2
  obtain ⟨_, _, _, _, _, _, h3⟩ := h;obtain ⟨_, _, _, _, _, _, h4⟩ := h2;exact absurd (h3.2 (h4.1 rfl)) (by simp)
def OkIn (t : ApiType) (S : List BelowSequent) (s : BelowSequent) : Prop := ∃ r, m_below_search_leads t s = some r /\ r.fails = false /\ ∀ s' ∈ r.to_, s' ∈ S
structure InvS (t : ApiType) (q : BelowSequent) (U X : List BelowSequent) (seen : List (List UInt8 × Bool)) (todo S : List BelowSequent) : Prop where
 nodup : S.Nodup
 inU : ∀ s ∈ S, s ∈ U
 reach : ∀ s ∈ S, Reach t q s
 seenE : ∀ k, (mget seen k).getD false = true ↔ ∃ s ∈ S, m_below_sequent_key s = some k
 todoE : ∀ s ∈ todo, s ∈ S
 len : todo.length <= S.length
 done : ∀ s ∈ S, s ∉ todo -> s ∉ X -> OkIn t S s
theorem nodup_sub {α : Type} : ∀ (S U : List α), S.Nodup -> (∀ s ∈ S, s ∈ U) -> S.length <= U.length
 | [], U, _, _ => Nat.zero_le _
 | a :: S, U, hn, h => by
  classical
  obtain ⟨h1, h2⟩ := List.nodup_cons.1 hn
  have ha : a ∈ U := h a (by simp)
  have := nodup_sub S (U.erase a) h2 (fun s hs => (List.mem_erase_of_ne (fun e => h1 (by rw [<- e]; exact hs))).2 (h s (by simp [hs])))
  rw [List.length_erase_of_mem ha] at this
  have := List.length_pos_of_mem ha
  simp only [List.length_cons]
  omega
section
variable {t : ApiType} {q : BelowSequent} {U X : List BelowSequent} {seen : List (List UInt8 × Bool)} {todo S : List BelowSequent}
theorem InvS.le (h : InvS t q U X seen todo S) : S.length <= U.length := nodup_sub S U h.nodup h.inU
def askS (seen : List (List UInt8 × Bool)) (k : List UInt8) : List (List UInt8 × Bool) := if (mget seen k).getD false = true then seen else mset seen k true
def askT (seen : List (List UInt8 × Bool)) (k : List UInt8) (todo : List BelowSequent) (s : BelowSequent) : List BelowSequent := if (mget seen k).getD false = true then todo else todo ++ [s]
theorem InvS.ask (h : InvS t q U X seen todo S) (hinj : ∀ s ∈ U, ∀ s' ∈ U, m_below_sequent_key s = m_below_sequent_key s' -> s = s') {s : BelowSequent} {k : List UInt8} (hs : s ∈ U) (hr : Reach t q s) (hk : m_below_sequent_key s = some k) :
  InvS t q U X (askS seen k) (askT seen k todo s) (if (mget seen k).getD false = true then S else S ++ [s]) /\ s ∈ (if (mget seen k).getD false = true then S else S ++ [s]) /\
   2 * (U.length - (if (mget seen k).getD false = true then S else S ++ [s]).length) + (askT seen k todo s).length <= 2 * (U.length - S.length) + todo.length /\ ∀ x ∈ S, x ∈ (if (mget seen k).getD false = true then S else S ++ [s]) := by
 unfold askS askT
 by_cases hg : (mget seen k).getD false = true
 ·simp only [if_pos hg]
  obtain ⟨s1, h1, h2⟩ := (h.seenE k).1 hg
  have := hinj s1 (h.inU s1 h1) s hs (by rw [h2, hk])
  subst this;exact ⟨h, h1, Nat.le_refl _, fun x hx => hx⟩
 ·simp only [if_neg hg]
  have hns : s ∉ S := fun hm => hg ((h.seenE k).2 ⟨s, hm, hk⟩)
  have hI : InvS t q U X (mset seen k true) (todo ++ [s]) (S ++ [s]) := by
   refine ⟨?_, ?_, ?_, ?_, ?_, ?_, ?_⟩
   ·rw [List.nodup_append]; exact ⟨h.nodup, by simp, fun a ha b hb e => by simp at hb; subst hb; subst e; exact hns ha⟩
   ·intro x hx; rcases List.mem_append.1 hx with hx | hx
    ·exact h.inU x hx
    ·simp at hx; subst hx; exact hs
   ·intro x hx; rcases List.mem_append.1 hx with hx | hx
    ·exact h.reach x hx
    ·simp at hx; subst hx; exact hr
   ·intro k'
    rw [mget_set]
    by_cases hkk : k' = k
    ·subst hkk
     simp only [if_true, Option.getD_some, true_iff];exact ⟨s, by simp, hk⟩
    ·rw [if_neg hkk, h.seenE k']
     constructor
     ·rintro ⟨x, hx, hxk⟩; exact ⟨x, by simp [hx], hxk⟩
     ·rintro ⟨x, hx, hxk⟩
      rcases List.mem_append.1 hx with hx | hx
      ·exact ⟨x, hx, hxk⟩
      ·simp at hx; subst hx; rw [hk] at hxk; exact absurd (Option.some.inj hxk).symm hkk
   ·intro x hx; rcases List.mem_append.1 hx with hx | hx
    ·exact List.mem_append_left _ (h.todoE x hx)
    ·exact List.mem_append_right _ hx
   ·have := h.len; simp only [List.length_append, List.length_cons, List.length_nil]; omega
   ·intro x hx hxt hxX
    rcases List.mem_append.1 hx with hx | hx
    ·obtain ⟨r, r1, r2, r3⟩ := h.done x hx (fun e => hxt (List.mem_append_left _ e)) hxX
     exact ⟨r, r1, r2, fun s' hs' => List.mem_append_left _ (r3 s' hs')⟩
    ·exact absurd (List.mem_append_right _ hx) hxt
  have := hI.le
  refine ⟨hI, by simp, ?_, fun x hx => List.mem_append_left _ hx⟩;simp only [List.length_append, List.length_cons, List.length_nil] at this ⊢
  omega
theorem InvS.pop {x : BelowSequent} (h : InvS t q U [] seen (todo ++ [x]) S) : InvS t q U [x] seen todo S :=
 ⟨h.nodup, h.inU, h.reach, h.seenE, fun s hs => h.todoE s (by simp [hs]), by have := h.len; simp at this; omega, fun s hs ht hx => h.done s hs (by simp only [List.mem_append]; rintro (e | e); exact ht e; exact hx e) (by simp)⟩
theorem InvS.close {x : BelowSequent} {r : BelowAnswer} (h : InvS t q U [x] seen todo S) (hr : m_below_search_leads t x = some r) (hf : r.fails = false) (ht : ∀ s' ∈ r.to_, s' ∈ S) : InvS t q U [] seen todo S :=
 ⟨h.nodup, h.inU, h.reach, h.seenE, h.todoE, h.len, fun s hs h1 _ => by
  by_cases e : s = x
  ·subst e; exact ⟨r, hr, hf, ht⟩
  ·exact h.done s hs h1 (by simpa using e)⟩
theorem InvS.all (h : InvS t q U [] seen [] S) (hq : q ∈ S) : ∀ s, Reach t q s -> ∀ r, m_below_search_leads t s = some r -> r.fails = false := by
 have key : ∀ s, Reach t q s -> s ∈ S := by
  intro s hr
  induction hr with
  | refl => exact hq
  | step h1 h2 h3 ih =>
   obtain ⟨r', r1, _, r3⟩ := h.done _ ih (by simp) (by simp);rw [h2] at r1; cases r1
   exact r3 _ h3
 intro s hr r h2
 obtain ⟨r', r1, r2, _⟩ := h.done _ (key s hr) (by simp) (by simp);rw [h2] at r1; cases r1
 exact r2
end
theorem fi_w114_1 : FieldIs Tryz.prog 114 1 2 1 false := ⟨⟨_, _, runUnderlying114, rfl, rfl, sizeOf111, by decide, isAgg111⟩⟩
theorem fi_w114_2 : FieldIs Tryz.prog 114 2 3 1 false := ⟨⟨_, _, runUnderlying114, rfl, rfl, sizeOf112, by decide, isAgg112⟩⟩
theorem w_ask {t : ApiType} {s : BelowSequent} {k : List UInt8} {seen : List (List UInt8 × Bool)} {todo : List BelowSequent} {bs bm : Nat} {a : Option Addr} {m cap : Nat} (hk : m_below_sequent_key s = some k) (hl : todo.length <= 1000000000000) :
  Go.V.Fn Tryz.prog 95 [.v (.pointer (some ⟨bs, 0, none⟩)), BelowSequent.d s] [boxf bs 114 2 [.list 4 ApiTNode.d t.l, .i64 t.root, .v (.map (some bm)), .v (.slice a m cap)], mp bm kStr D.bool seen, arr a m cap 75 2 BelowSequent.d todo]
   (fun d ms' => d = .tup [] /\ ∃ a' m' cap', ms' = [boxf bs 114 2 [.list 4 ApiTNode.d t.l, .i64 t.root, .v (.map (some bm)), .v (.slice a' m' cap')], mp bm kStr D.bool (askS seen k), arr a' m' cap' 75 2 BelowSequent.d (askT seen k todo s)]) := by
 refine fn_intro func95 rfl ntmps95 rfl fun H0 fr w0 => ?_;refine g_seq (gRg ?_);refine go_p rfl rfl rfl (o_box rfl rfl) ?_;refine gNl (g_seq (gRg ?_));refine go_p rfl rfl rfl (o_load_agg isAgg75 sizeOf75 rfl rfl) ?_;refine go_p rfl rfl rfl (o_call0 call129 rfl (w_below_sequent_key hk)) ?_;refine go_p rfl rfl rfl (oAs rfl) ?_;refine gNl (g_seq (gRg ?_));refine go_p rfl rfl rfl (oMv rfl) ?_;refine go_p rfl rfl rfl (o_nilCheck_box rfl) ?_;refine go_p rfl rfl rfl (oFb fi_w114_1 rfl) ?_;refine go_p rfl rfl rfl (o_load_boxf 0 isAgg111 rfl rfl rfl rfl) ?_;refine go_p rfl rfl rfl (oMv rfl) ?_;refine go_p rfl rfl rfl (o_lookup (z0 := (false : Bool)) 1 runUnderlying111 (keyStr underlying9) zeroValue4 (fun _ => conc_v.2 rfl) rfl rfl rfl) ?_;refine go_p rfl rfl rfl (o_not rfl) ?_;refine gNl ?_;refine gCd rfl (fun hc1 => ?_) (fun hc1 => ?_)
 ·have hg : ¬ ((mget seen k).getD false = true) := by simpa using hc1
  have e1 : askS seen k = mset seen k true := if_neg hg
  have e2 : askT seen k todo s = todo ++ [s] := if_neg hg
  refine g_seq (gRg ?_);refine go_p rfl rfl rfl (oMv rfl) ?_;refine go_p rfl rfl rfl (o_nilCheck_box rfl) ?_;refine go_p rfl rfl rfl (oFb fi_w114_1 rfl) ?_;refine go_p rfl rfl rfl (o_load_boxf 0 isAgg111 rfl rfl rfl rfl) ?_;refine go_p rfl rfl rfl (oMv rfl) ?_;refine go_u rfl rfl (o_mapUpdate (v := true) 1 runUnderlying111 (keyStr underlying9) rfl rfl rfl rfl) ?_;rintro _ _ rfl;refine go_ms (ms' := [_, _, _]) rfl ?_;refine gNl ?_
  have hg3 : (todo.length + ([(⟨s.left, s.right⟩ : BelowSequent)] : List _).length) * 48 <= 140737488355328 := by simp only [List.length_cons, List.length_nil]; omega
  refine g_draw_c [7, 10] [0, 8, 9] [] Tryz_mixed (by decide +kernel) (by decide +kernel) rfl ?_;refine gde_p rfl rfl rfl rfl rfl rfl (oMv rfl) ?_;refine gde_p rfl rfl rfl rfl rfl rfl (oMv rfl) ?_;refine gde_p rfl rfl rfl rfl rfl rfl (o_nilCheck_box rfl) ?_;refine gde_p rfl rfl rfl rfl rfl rfl (oFb fi_w114_2 rfl) ?_;refine gde_p rfl rfl rfl rfl rfl rfl (o_load_boxf 0 isAgg112 rfl rfl rfl rfl) ?_;refine gde_p rfl rfl rfl rfl rfl rfl (o_load_agg isAgg75 sizeOf75 rfl rfl) ?_;refine gde_p rfl rfl rfl rfl rfl rfl (o_buildSlice (xs := [_]) (f := BelowSequent.d) (l := [(⟨s.left, s.right⟩ : BelowSequent)]) runUnderlying112 sizeOf75 zeroValue75 rfl rfl rfl (fun _ => ⟨rfl, rfl, rfl⟩) rfl) ?_;refine gde_e rfl ?_;refine gde_p rfl rfl rfl rfl rfl rfl (o_nilCheck_box rfl) ?_;refine gde_p rfl rfl rfl rfl rfl rfl (oFb fi_w114_2 rfl) ?_;refine gde_e rfl ?_;refine gde_nil ?_;refine gde2_t rfl rfl rfl rfl (o_append_own (a := _) 2 underlying112 type75 rfl rfl rfl rfl rfl rfl (fun _ => rfl) (fun _ => rfl) hg3 (app_len hg3 rfl)) ?_;rintro _ _ ⟨a', m', cap', rfl, rfl⟩;refine ⟨trivial, ?_⟩;refine gde2_u rfl rfl rfl (o_store_boxf 0 (by decide) sizeOf112 rfl rfl rfl rfl rfl rfl rfl rfl (Nat.le_of_ble_eq_true rfl)) ?_;rintro _ _ rfl;refine ⟨trivial, ?_⟩;refine gde2_nil ?_;exact retKn (ret_none (ms' := [_, _, _]) (drop := []) rfl (List.Perm.refl _)) ⟨rfl, a', m', cap', by rw [e1, e2]; rfl⟩
 ·have hg : (mget seen k).getD false = true := by simpa using hc1
  have e1 : askS seen k = seen := if_pos hg
  have e2 : askT seen k todo s = todo := if_pos hg
  refine gSp ?_;exact retKn (ret_none (ms' := [_, _, _]) (drop := []) rfl (List.Perm.refl _)) ⟨rfl, a, m, cap, by rw [e1, e2]⟩
theorem fi_w117_1 : FieldIs Tryz.prog 117 1 1 1 false := ⟨⟨_, _, runUnderlying117, rfl, rfl, sizeOf4, by decide, isAgg4⟩⟩
theorem pl_w114 : ∀ fs, (∀ w, (underlying 114).run Tryz.prog w = .ok (.struct fs) w) -> placesOf Tryz.prog fs [(0, 2), (2, 1), (3, 1)] := by
 intro fs h w
 have := (h w).symm.trans (runUnderlying114 w)
 simp only [Result.ok.injEq, TypeDesc.struct.injEq, and_true] at this;subst this
 simp [sizeOf24, sizeOf111, sizeOf112, Sem.run]
theorem lastS (l : List BelowSequent) (x : BelowSequent) : idx (l ++ [x]) (((l ++ [x]).length : Int) - 1) = some x := by
 have e : ((l ++ [x]).length : Int) - 1 = (l.length : Int) := by simp
 rw [e];unfold idx;rw [if_pos (by omega)]
 simp
theorem initS (l : List BelowSequent) (x : BelowSequent) : sli (l ++ [x]) 0 (((l ++ [x]).length : Int) - 1) = some l := by
 have e : ((l ++ [x]).length : Int) - 1 = (l.length : Int) := by simp
 rw [e];unfold sli;rw [if_pos ⟨Int.le_refl _, by omega, by simp; omega⟩]
 simp
theorem w_holds {t : ApiType} {q : BelowSequent} {b : Bool} (hm : m_holds t q = some b) : Fn0 Tryz.prog 57 [ApiType.d t, BelowSequent.d q] (.bool b) := by
 obtain ⟨U, hqU, hUl, hkey, hinj, hlead, hb⟩ := holds_ok hm;refine fn_intro func57 rfl ntmps57 rfl fun H0 fr w0 => ?_;refine g_seq (gRg ?_);refine go_p rfl rfl rfl (o_box rfl rfl) ?_;refine go_p rfl rfl rfl (o_box rfl rfl) ?_;refine go_p rfl rfl rfl (oAs rfl) ?_;refine gNl (g_seq (gRg ?_));refine go_p rfl rfl rfl (o_load_agg isAgg24 sizeOf24 rfl rfl) ?_;refine go_op rfl rfl rfl (o_makeMap (fk := kStr) (fv := D.bool)) ?_;rintro _ _ ⟨bm, rfl, rfl⟩;refine go_p rfl rfl rfl (o_build (zs := [.list 4 ApiTNode.d [], .v (.int .i64 0), .v (.map none), .v (.slice none 0 0)]) runUnderlying114 zeroValue114 (pl_w114 _ runUnderlying114) rfl rfl rfl rfl) ?_;refine go_op rfl rfl rfl (o_box_own rfl rfl rfl) ?_;rintro _ _ ⟨bs, rfl, rfl⟩;refine go_conv (refines_newarr (T := 75) (sz := 2) (f := BelowSequent.d)) ?_;refine go_ms (ms' := [_, box bs 114 [.list 4 ApiTNode.d t.l, .i64 t.root, .v (.map (some bm)), .v (.slice none 0 0)], _]) rfl ?_;refine go_conv (refines_boxf 1 2 rfl rfl) ?_;refine go_p rfl rfl rfl (oAs rfl) ?_;refine gNl ?_;refine g_conv (refines_perm (ms' := [boxf bs 114 2 [.list 4 ApiTNode.d t.l, .i64 t.root, .v (.map (some bm)), .v (.slice none 0 0)], mp bm kStr D.bool [], arr none 0 0 75 2 BelowSequent.d []]) (List.perm_append_comm (l₁ := [arr none 0 0 75 2 BelowSequent.d []]) (l₂ := [_, _]))) ?_;obtain ⟨k0, hk0⟩ := hkey q hqU
 have hI0 : InvS t q U [] [] [] [] := ⟨List.nodup_nil, by simp, by simp, by simp [mget], by simp, Nat.le_refl _, by simp⟩
 obtain ⟨hI1, hq1, _, _⟩ := hI0.ask hinj hqU .refl hk0;refine g_seq (gRg ?_);refine go_p rfl rfl rfl (oMv rfl) ?_;refine go_p rfl rfl rfl (o_load_agg isAgg75 sizeOf75 rfl rfl) ?_;refine go_op rfl rfl rfl (o_call_own [0, 1, 2] call95 rfl rfl (getL_c rfl (getL_c rfl (getL_c rfl getL_n))) (w_ask (s := q) hk0 (Nat.zero_le _)) (by rintro _ _ ⟨rfl, _, _, _, rfl⟩; rfl)) ?_;rintro _ _ ⟨_, ⟨rfl, a, m, cap, rfl⟩, rfl⟩;refine go_ms (ms' := [boxf bs 114 2 [_, _, _, _], _, _]) rfl ?_;refine gNl (g_seq (g_block ?_));refine g_loop_k [(5, .v (.pointer (some ⟨bs, 0, none⟩)))] (fun (s : (List (List UInt8 × Bool) × List BelowSequent × List BelowSequent × Option Addr × Nat × Nat)) => match s with | (seen, todo, S, a, m, cap) => InvS t q U [] seen todo S /\ q ∈ S) (fun _ => [])
  (fun s => match s with | (seen, todo, S, a, m, cap) => [boxf bs 114 2 [.list 4 ApiTNode.d t.l, .i64 t.root, .v (.map (some bm)), .v (.slice a m cap)], mp bm kStr D.bool seen, arr a m cap 75 2 BelowSequent.d todo]) (fun s => 2 * (U.length - s.2.2.1.length) + s.2.1.length) (askS [] k0, askT [] k0 [] q, _, a, m, cap) ⟨hI1, hq1⟩ ⟨rfl, trivial⟩ trivial rfl ?_
 rintro ⟨seen, todo, S, a, m, cap⟩ ⟨hI, hqS⟩;refine g_norm (L' := [(5, .v (.pointer (some ⟨bs, 0, none⟩)))]) (ms' := [boxf bs 114 2 [.list 4 ApiTNode.d t.l, .i64 t.root, .v (.map (some bm)), .v (.slice a m cap)], mp bm kStr D.bool seen, arr a m cap 75 2 BelowSequent.d todo]) rfl rfl ?_;refine g_seq (g_seq (gRg ?_));refine go_p rfl rfl rfl (oMv rfl) ?_;refine go_p rfl rfl rfl (o_nilCheck_box rfl) ?_;refine go_p rfl rfl rfl (oFb fi_w114_2 rfl) ?_;refine go_p rfl rfl rfl (o_load_boxf 0 isAgg112 rfl rfl rfl rfl) ?_;refine go_p rfl rfl rfl (o_len_arr 2 runUnderlying112 rfl rfl) ?_;refine go_p rfl rfl rfl (o_cmp rfl rfl rfl) ?_;refine gNl ?_;refine gCd rfl (fun hc1 => ?_) (fun hc1 => ?_)
 rotate_left
 ·have h0 : todo = [] := by
   have := of_decide_eq_false hc1
   exact List.length_eq_zero_iff.1 (by omega)
  subst h0;refine g_exit ?_
  have hbt : b = true := hb.2 (hI.all hqS)
  subst hbt;refine g_seq (gRg ?_);refine go_p rfl rfl rfl (oAs rfl) ?_;refine gNl (g_ret ?_);exact retK (ret_one' rfl (ret_tmp rfl) (perm_drop _)) rfl
 ·refine gSp ?_
  obtain ⟨todo0, x, rfl⟩ : ∃ l x, todo = l ++ [x] := by
   have := of_decide_eq_true hc1
   have hne : todo ≠ [] := by rintro rfl; simp at this
   exact ⟨todo.dropLast, todo.getLast hne, (List.dropLast_concat_getLast hne).symm⟩
  have hxS : x ∈ S := hI.todoE x (by simp)
  have hlt : ((todo0 ++ [x]).length : Int) <= 1000000000000 := by have := hI.len; have := hI.le; omega
  have hg1 : InR (((todo0 ++ [x]).length : Int) - 1) := by constructor <;> omega
  obtain ⟨r, hr, hrU⟩ := hlead x (hI.inU x hxS);refine g_block (g_seq ?_);refine g_draw_f 13 [12] Tryz_mixed (by decide +kernel) (by decide +kernel) rfl (by decide +kernel) ?_;refine gdf_p rfl rfl rfl rfl (oMv rfl) ?_;refine gdf_p rfl rfl rfl rfl (o_nilCheck_box rfl) ?_;refine gdf_p rfl rfl rfl rfl (oFb fi_w114_2 rfl) ?_;refine gdf_p rfl rfl rfl rfl (o_load_boxf 0 isAgg112 rfl rfl rfl rfl) ?_;refine gdf_p rfl rfl rfl rfl (oMv rfl) ?_;refine gdf_p rfl rfl rfl rfl (o_nilCheck_box rfl) ?_;refine gdf_p rfl rfl rfl rfl (oFb fi_w114_2 rfl) ?_;refine gdf_p rfl rfl rfl rfl (o_load_boxf 0 isAgg112 rfl rfl rfl rfl) ?_;refine gdf_p rfl rfl rfl rfl (o_len_arr 2 runUnderlying112 rfl rfl) ?_;refine gdf_p rfl rfl rfl rfl (o_sub rfl rfl (i64_id hg1)) ?_;refine gdf_p rfl rfl rfl rfl (o_indexAddr_arr 2 runUnderlying112 sizeOf75 rfl rfl rfl (lastS todo0 x)) ?_;refine gdf_p rfl rfl rfl rfl (o_load_arr_agg 2 isAgg75 sizeOf75 rfl rfl (idx_some (lastS todo0 x)).2 rfl rfl) ?_;refine gdf_fresh (R := fun d A => ∃ b, d = .v (.pointer (some ⟨b, 0, none⟩)) /\ A = box b 75 [.list 1 D.i64 [], .list 1 D.i64 []]) rfl rfl rfl (OpT.mono (o_alloc_own zeroValue75 (cs := [.list 1 D.i64 [], .list 1 D.i64 []]) rfl) (by rintro d ms' ⟨b, rfl, rfl⟩; exact ⟨_, ⟨b, rfl, rfl⟩, rfl⟩)) ?_;refine gdf_nil ?_;rintro _ _ ⟨bn, rfl, rfl⟩;refine go_u rfl rfl (oSb 0 sizeOf75 rfl rfl rfl rfl rfl rfl rfl rfl (Nat.le_of_ble_eq_true rfl)) ?_;rintro _ _ rfl;refine go_ms (ms' := [box bn 75 [.list 1 D.i64 x.left, .list 1 D.i64 x.right], _, _, _]) rfl ?_;refine gNl (g_seq ?_);refine g_draw_c [11, 14] [0, 12, 13] [] Tryz_mixed (by decide +kernel) (by decide +kernel) rfl ?_;refine gde_p rfl rfl rfl rfl rfl rfl (oMv rfl) ?_;refine gde_p rfl rfl rfl rfl rfl rfl (oMv rfl) ?_;refine gde_p rfl rfl rfl rfl rfl rfl (o_nilCheck_box rfl) ?_;refine gde_p rfl rfl rfl rfl rfl rfl (oFb fi_w114_2 rfl) ?_;refine gde_p rfl rfl rfl rfl rfl rfl (o_load_boxf 1 isAgg112 rfl rfl rfl rfl) ?_;refine gde_p rfl rfl rfl rfl rfl rfl (oMv rfl) ?_;refine gde_p rfl rfl rfl rfl rfl rfl (o_nilCheck_box rfl) ?_;refine gde_p rfl rfl rfl rfl rfl rfl (oFb fi_w114_2 rfl) ?_;refine gde_p rfl rfl rfl rfl rfl rfl (o_load_boxf 1 isAgg112 rfl rfl rfl rfl) ?_;refine gde_p rfl rfl rfl rfl rfl rfl (o_len_arr 3 runUnderlying112 rfl rfl) ?_;refine gde_p rfl rfl rfl rfl rfl rfl (o_sub rfl rfl (i64_id hg1)) ?_;refine gde_e rfl ?_;refine gde_p rfl rfl rfl rfl rfl rfl (o_nilCheck_box rfl) ?_;refine gde_p rfl rfl rfl rfl rfl rfl (oFb fi_w114_2 rfl) ?_;refine gde_e rfl ?_;refine gde_nil ?_;refine gde2_t rfl rfl rfl rfl (o_slice_trunc 3 runUnderlying112 sizeOf75 rfl rfl rfl (initS todo0 x)) ?_;rintro _ _ ⟨a2, m2, cap2, rfl, rfl⟩;refine ⟨trivial, ?_⟩;refine gde2_u rfl rfl rfl (o_store_boxf 1 (by decide) sizeOf112 rfl rfl rfl rfl rfl rfl rfl rfl (Nat.le_of_ble_eq_true rfl)) ?_;rintro _ _ rfl;refine ⟨trivial, ?_⟩
  refine gde2_nil ?_;refine g_seq (gRg ?_);refine go_ms (ms' := [box bn 75 [.list 1 D.i64 x.left, .list 1 D.i64 x.right], boxf bs 114 2 [.list 4 ApiTNode.d t.l, .i64 t.root, .v (.map (some bm)), .v (.slice a2 m2 cap2)], mp bm kStr D.bool seen, arr a2 m2 cap2 75 2 BelowSequent.d todo0]) rfl ?_;refine go_p rfl rfl rfl (oMv rfl) ?_;refine go_p rfl rfl rfl (oLg 0 isAgg75 sizeOf75 rfl rfl rfl rfl (Nat.le_of_ble_eq_true rfl)) ?_;refine go_op rfl rfl rfl (.view (peekF (i := 49) (d := ApiType.d t) 1 rfl rfl rfl rfl) (o_call (ms₁ := []) call96 rfl (List.Perm.refl _) (w_below_search_leads hr))) ?_;rintro _ _ ⟨_, ⟨p, hp, rfl, rfl⟩, rfl⟩;refine go_op rfl rfl rfl (o_alloc_own zeroValue117 (cs := [.list 2 BelowSequent.d [], .bool false]) rfl) ?_;rintro _ _ ⟨ba, rfl, rfl⟩;refine go_u rfl rfl (oSb 0 sizeOf117 rfl rfl rfl rfl rfl rfl rfl rfl (Nat.le_of_ble_eq_true rfl)) ?_;rintro _ _ rfl;refine go_ms (ms' := [box ba 117 [.list 2 BelowSequent.d p, .bool r.fails], box bn 75 [.list 1 D.i64 x.left, .list 1 D.i64 x.right], boxf bs 114 2 [.list 4 ApiTNode.d t.l, .i64 t.root, .v (.map (some bm)), .v (.slice a2 m2 cap2)], mp bm kStr D.bool seen, arr a2 m2 cap2 75 2 BelowSequent.d todo0]) rfl ?_;refine gNl (g_seq (g_seq (gRg ?_)));refine go_p rfl rfl rfl (oFb fi_w117_1 rfl) ?_;refine go_p rfl rfl rfl (oLb 0 isAgg4 rfl rfl rfl rfl) ?_;refine gNl ?_
  have hpU : ∀ s' ∈ p, s' ∈ U := fun s' hs' => hrU s' (hp.mem_iff.1 hs')
  have hpR : ∀ s' ∈ p, Reach t q s' := fun s' hs' => .step (hI.reach x hxS) hr (hp.mem_iff.1 hs')
  refine gCd rfl (fun hc2 => ?_) (fun hc2 => ?_)
  ·have hbf : b = false := by
    cases b with
    | false => rfl
    | true => have := hb.1 rfl x (hI.reach x hxS) r hr; rw [this] at hc2; cases hc2
   subst hbf;refine g_seq (gRg ?_);refine go_p rfl rfl rfl (oAs rfl) ?_;refine gNl (g_ret ?_);exact retK (ret_one' rfl (ret_tmp rfl) (perm_drop _)) rfl
  ·refine gSp ?_
   refine g_seq (gRg ?_);refine go_p rfl rfl rfl (oFb fi_w117_0 rfl) ?_;refine go_p rfl rfl rfl (oLb 0 isAgg112 rfl rfl rfl rfl) ?_;refine go_p rfl rfl rfl (o_len runUnderlying112 rfl) ?_;refine go_p rfl rfl rfl (oMv rfl) ?_;refine gNl ?_;refine g_len_tmp (i := 55) rfl fun hpl => ?_;refine g_block ?_;refine g_loop_k [(5, .v (.pointer (some ⟨bs, 0, none⟩))), (55, .list 2 BelowSequent.d p), (56, .i64 p.length)] (fun (s : Nat × (List (List UInt8 × Bool) × List BelowSequent × List BelowSequent × Option Addr × Nat × Nat)) => match s with | (i, seen', todo', S', a', m', cap') => InvS t q U [x] seen' todo' S' /\ (∀ y ∈ S, y ∈ S') /\ (∀ y ∈ p.take i, y ∈ S') /\ i <= p.length /\ 2 * (U.length - S'.length) + todo'.length <= 2 * (U.length - S.length) + todo0.length) (fun s => [(57, .i64 (s.1 : Int))])
    (fun s => match s with | (i, seen', todo', S', a', m', cap') => [box ba 117 [.list 2 BelowSequent.d p, .bool r.fails], box bn 75 [.list 1 D.i64 x.left, .list 1 D.i64 x.right], boxf bs 114 2 [.list 4 ApiTNode.d t.l, .i64 t.root, .v (.map (some bm)), .v (.slice a' m' cap')], mp bm kStr D.bool seen', arr a' m' cap' 75 2 BelowSequent.d todo']) (fun s => p.length - s.1) (0, seen, todo0, S, a2, m2, cap2) ⟨hI.pop, fun y hy => hy, by simp, Nat.zero_le _, Nat.le_refl _⟩ ⟨rfl, rfl, rfl, trivial⟩ ⟨rfl, trivial⟩ rfl ?_
   rintro ⟨i, seen', todo', S', a', m', cap'⟩ ⟨hJ, hS, htk, hil, hms⟩;refine g_norm (L' := [(57, .i64 (i : Int)), (5, .v (.pointer (some ⟨bs, 0, none⟩))), (55, .list 2 BelowSequent.d p), (56, .i64 p.length)]) (ms' := [box ba 117 [.list 2 BelowSequent.d p, .bool r.fails], box bn 75 [.list 1 D.i64 x.left, .list 1 D.i64 x.right], boxf bs 114 2 [.list 4 ApiTNode.d t.l, .i64 t.root, .v (.map (some bm)), .v (.slice a' m' cap')], mp bm kStr D.bool seen', arr a' m' cap' 75 2 BelowSequent.d todo']) rfl rfl ?_;refine g_seq (gRg ?_);refine go_p rfl rfl rfl (o_cmp rfl rfl rfl) ?_;refine gNl (g_seq ?_);refine gCd rfl (fun hc3 => ?_) (fun hc3 => ?_)
   rotate_left
   ·have hie : i = p.length := by have := of_decide_eq_false hc3; omega
    subst hie;rw [List.take_length] at htk;refine g_exit ?_
    have hK := hJ.close hr hc2 (fun s' hs' => htk s' (hp.mem_iff.2 hs'))
    exact ⟨(seen', todo', S', a', m', cap'), ⟨hK, hS q hqS⟩, by simp only [List.length_append, List.length_cons, List.length_nil] at hms ⊢; omega, trivial, ⟨rfl, trivial⟩, [_, _], rfl⟩
   ·have hlt2 : i < p.length := by have := of_decide_eq_true hc3; omega
    obtain ⟨y, hy⟩ : ∃ y, p[i]? = some y := ⟨p[i], by simp [hlt2]⟩
    have hym : y ∈ p := List.mem_of_getElem? hy
    have hyi : idx p (i : Int) = some y := by unfold idx; rw [if_pos (by omega), Int.toNat_natCast]; exact hy
    obtain ⟨ky, hky⟩ := hkey y (hpU y hym);obtain ⟨hA, hyS, hmu, hmo⟩ := hJ.ask hinj (hpU y hym) (hpR y hym) hky
    have htl : todo'.length <= 1000000000000 := by have := hJ.len; have := hJ.le; omega
    have hg4 : InR ((i : Int) + 1) := by simp only [maxLen] at hpl; constructor <;> omega
    refine gSp (g_seq (g_block (g_seq (gRg ?_))));refine go_p rfl rfl rfl (oIm runUnderlying112 sizeOf75 rfl rfl hyi) ?_;refine go_p rfl rfl rfl (o_load_agg isAgg75 sizeOf75 rfl rfl) ?_;refine go_op rfl rfl rfl (o_alloc_own zeroValue75 (cs := [.list 1 D.i64 [], .list 1 D.i64 []]) rfl) ?_;rintro _ _ ⟨b9, rfl, rfl⟩;refine go_u rfl rfl (oSb 0 sizeOf75 rfl rfl rfl rfl rfl rfl rfl rfl (Nat.le_of_ble_eq_true rfl)) ?_;rintro _ _ rfl;refine go_ms (ms' := [box b9 75 [.list 1 D.i64 y.left, .list 1 D.i64 y.right], box ba 117 [_, _], box bn 75 [_, _], boxf bs 114 2 [_, _, _, _], _, _]) rfl ?_;refine gNl (gRg ?_);refine go_p rfl rfl rfl (oMv rfl) ?_;refine go_p rfl rfl rfl (oLg 0 isAgg75 sizeOf75 rfl rfl rfl rfl (Nat.le_of_ble_eq_true rfl)) ?_;refine go_op rfl rfl rfl (o_call_own [3, 4, 5] call95 rfl rfl (getL_c rfl (getL_c rfl (getL_c rfl getL_n))) (w_ask (s := y) hky htl) (by rintro _ _ ⟨rfl, _, _, _, rfl⟩; rfl)) ?_;rintro _ _ ⟨_, ⟨rfl, a4, m4, cap4, rfl⟩, rfl⟩;refine go_ms (ms' := [box b9 75 [_, _], box ba 117 [_, _], box bn 75 [_, _], boxf bs 114 2 [_, _, _, _], _, _]) rfl ?_;refine gNl (gRg ?_);refine go_p rfl rfl rfl (o_add rfl rfl (i64_id hg4)) ?_;refine go_p rfl rfl rfl (oMv rfl) ?_;refine gNl ?_
    have htk' : p.take (i + 1) = p.take i ++ [y] := by rw [List.take_add_one, hy]; rfl
    refine ⟨(i + 1, askS seen' ky, askT seen' ky todo' y, _, a4, m4, cap4), ⟨hA, fun z hz => hmo z (hS z hz), fun z hz => ?_, hlt2, Nat.le_trans hmu hms⟩, by simp only; omega, ⟨rfl, trivial⟩, ⟨rfl, rfl, rfl, trivial⟩, [_], rfl⟩;rw [htk'] at hz
    rcases List.mem_append.1 hz with hz | hz
    ·exact hmo z (htk z hz)
    ·simp at hz; subst hz; exact hyS
end Go.Proofs.YtkfnogdccpcmhaaGreatDoor
namespace Go.Proofs.YtkfnogdccpcmhaaGreatDoor
open Go.V Tryz
theorem pl_24 : ∀ fs, (∀ w, (underlying 24).run Tryz.prog w = .ok (.struct fs) w) -> placesOf Tryz.prog fs [(0, 1), (1, 1)] := by
 intro fs h w
 have := (h w).symm.trans (runUnderlying24 w)
 simp only [Result.ok.injEq, TypeDesc.struct.injEq, and_true] at this;subst this
 simp [sizeOf22, sizeOf3, Sem.run]
noncomputable def m_lg_Few_l1 (t1 : ApiType) (most1 : Int) : Nat -> (Int × (List ApiTNode) × Int) -> Option ((List ApiTNode) × Int)
 | 0, _ => none
 | n + 1, (i1, l2, z2) =>
  bif ((decide (i1 < (t1.l.length : Int))) && ((decide (i1 < most1)) || ((decide (2000 < (t1.l.length : Int))) && (decide (i1 <= 2000))))) then
   (idx t1.l i1).bind fun x1 =>
   (sli x1.l 0 (if 40 < (x1.l.length : Int) then 40 else (x1.l.length : Int))).bind fun l3 =>
   grd ((0 + l3.length) * 24 <= 140737488355328) <|
   grd ((l2.length + ([(⟨x1.kind, x1.a, x1.b, ([] ++ l3)⟩ : ApiTNode)] : List _).length) * 48 <= 140737488355328) <|
   grd (InR (i1 + 1)) <|
   m_lg_Few_l1 t1 most1 n ((i1 + 1), (l2 ++ [(⟨x1.kind, x1.a, x1.b, ([] ++ l3)⟩ : ApiTNode)]), z2)
  else
   some (l2, z2)
noncomputable def m_lg_Few (t1 : ApiType) (most1 : Int) : Option ApiType :=
 (m_lg_Few_l1 t1 most1 FU (0, ([] : List ApiTNode), t1.root) : Option ((List ApiTNode) × Int)).bind fun (l1, z1) =>
 some (⟨l1, z1⟩ : ApiType)
theorem w_lg_Few {t1 : ApiType} {most1 : Int} {r_1 : ApiType} (hm : m_lg_Few t1 most1 = some r_1) : Fn0 Tryz.prog 37 [ApiType.d t1, .i64 most1] (ApiType.d r_1) := by
 unfold m_lg_Few at hm;refine fn_intro func37 rfl ntmps37 rfl fun H0 fr w0 => ?_;refine g_seq (gRg ?_);refine go_p rfl rfl rfl (o_box rfl rfl) ?_;refine go_op rfl rfl rfl (o_alloc_own zeroValue24 (cs := [.list 4 ApiTNode.d [], .i64 0]) rfl) ?_;rintro _ _ ⟨b1, rfl, rfl⟩;refine gNl (g_seq (gRg ?_));refine go_p rfl rfl rfl (oFa fi_24_1 rfl rfl rfl) ?_;refine go_p rfl rfl rfl (o_load isAgg3 rfl rfl) ?_;refine go_p rfl rfl rfl (o_build (zs := [.v (.slice none 0 0), .v (.int .i64 0)]) runUnderlying24 zeroValue24 (pl_24 _ runUnderlying24) rfl rfl rfl rfl) ?_;refine go_op rfl rfl rfl (o_alloc_own zeroValue24 (cs := [.list 4 ApiTNode.d [], .i64 0]) rfl) ?_;rintro _ _ ⟨b2, rfl, rfl⟩;refine go_u rfl rfl (oSb 0 sizeOf24 rfl rfl rfl rfl rfl rfl rfl rfl (Nat.le_of_ble_eq_true rfl)) ?_;rintro _ _ rfl;refine go_conv (refines_newrow (T := 44) (sz := 4) (f := ApiTNode.d)) ?_;refine go_ms (ms' := [_, box b2 24 [_, _], box b1 24 [_, _]]) rfl ?_;refine gNl (g_seq (g_seq (gRg ?_)));refine go_p rfl rfl rfl (oAs rfl) ?_;refine gNl ?_;obtain ⟨o_1, hj1, hm1⟩ := bind_some hm;refine g_cut_m [(4, _), (5, _)] [(2, _)] (fun (st : ((List ApiTNode) × Int)) (hid : (Option Addr × Nat)) => match st, hid with | (l1, z1), (a_r1, cap_r1) => []) (fun F (st : ((List ApiTNode) × Int)) (hid : (Option Addr × Nat)) => match st, hid with | (l1, z1), (a_r1, cap_r1) => [row a_r1 cap_r1 44 4 ApiTNode.d l1, box b2 24 [.v (.slice a_r1 l1.length cap_r1), .i64 z1], (nthF F 0)]) (fun st => st = o_1) ⟨rfl, rfl, trivial⟩ ⟨rfl, trivial⟩ ?_ ?_
 ·skip
  refine g_block ?_;refine g_loop_m [(1, _), (2, _), (4, _), (5, _)] [(2, _)] (fun (st : (Int × (List ApiTNode) × Int)) (hid : (Option Addr × Nat)) => match st, hid with | (i1, l2, z2), (a_r1, cap_r1) => [(6, .i64 i1)]) (fun F (st : (Int × (List ApiTNode) × Int)) (hid : (Option Addr × Nat)) => match st, hid with | (i1, l2, z2), (a_r1, cap_r1) => [row a_r1 cap_r1 44 4 ApiTNode.d l2, box b2 24 [.v (.slice a_r1 l2.length cap_r1), .i64 z2], (nthF F 0)]) (_, _) hj1 (fun _ => rfl) ⟨rfl, rfl, rfl, rfl, trivial⟩ ⟨rfl, trivial⟩ ⟨rfl, trivial⟩ rfl ?_;rintro n ⟨i1, l2, z2⟩ ⟨a_r1, cap_r1⟩ hj1;rw [m_lg_Few_l1] at hj1;refine g_norm (L' := [(6, .i64 i1), (1, _), (2, _), (4, _), (5, _)]) (ms' := [row a_r1 cap_r1 44 4 ApiTNode.d l2, box b2 24 [.v (.slice a_r1 l2.length cap_r1), .i64 z2], _]) rfl rfl ?_;refine g_seq (g_seq (gRg ?_));refine go_p rfl rfl rfl (oMv rfl) ?_;refine go_p rfl rfl rfl (oFa fi_24_0 rfl rfl rfl) ?_;refine go_p rfl rfl rfl (o_load isAgg22 rfl rfl) ?_;refine go_p rfl rfl rfl (o_len runUnderlying22 rfl) ?_;refine go_p rfl rfl rfl (o_cmp rfl rfl rfl) ?_;refine go_p rfl rfl rfl (oMv rfl) ?_
  apply go_and [(1, _), (2, _), (4, _), (5, _), (6, _)] 14 30 (t := 16) ⟨rfl, rfl, rfl, rfl, rfl, trivial⟩ rfl
  ·intro hg_1 hk1
   refine gWp rfl rfl rfl hg_1 rfl rfl (oMv rfl) ?_;refine gWp rfl rfl rfl hg_1 rfl rfl (oMv rfl) ?_;refine gWp rfl rfl rfl hg_1 rfl rfl (o_cmp rfl rfl rfl) ?_;refine gWp rfl rfl rfl hg_1 rfl rfl (oMv rfl) ?_
   apply go_or [(1, _), (2, _), (4, _), (5, _), (6, _), (16, _)] 9 29 (t := 20) ⟨rfl, rfl, rfl, rfl, rfl, rfl, trivial⟩ rfl
   ·intro hg_2 hk2
    refine gWp rfl rfl rfl hg_2 rfl rfl (oFa fi_24_0 rfl rfl rfl) ?_;refine gWp rfl rfl rfl hg_2 rfl rfl (o_load isAgg22 rfl rfl) ?_;refine gWp rfl rfl rfl hg_2 rfl rfl (o_len runUnderlying22 rfl) ?_;refine gWp rfl rfl rfl hg_2 rfl rfl (o_cmp rfl rfl rfl) ?_;refine gWp rfl rfl rfl hg_2 rfl rfl (oMv rfl) ?_
    apply go_and [(1, _), (2, _), (4, _), (5, _), (6, _), (16, _), (20, _)] 3 28 (t := 25) ⟨rfl, rfl, rfl, rfl, rfl, rfl, rfl, trivial⟩ rfl
    ·intro hg_3 hk3
     refine gWp rfl rfl rfl hg_3 rfl rfl (oMv rfl) ?_;refine gWp rfl rfl rfl hg_3 rfl rfl (o_cmp rfl rfl rfl) ?_;refine gWp rfl rfl rfl hg_2 rfl rfl (o_pickT rfl hg_3 rfl) ?_;exact gMt hk3 (rfl) ⟨rfl, rfl, rfl, rfl, rfl, rfl, rfl, trivial⟩
    ·intro hg_3 hk3
     refine gKp rfl rfl rfl hg_3 rfl rfl ?_;refine gKp rfl rfl rfl hg_3 rfl rfl ?_;refine gWp rfl rfl rfl hg_2 rfl rfl (o_pickF rfl hg_3 rfl) ?_;exact gMt hk3 (rfl) ⟨rfl, rfl, rfl, rfl, rfl, rfl, rfl, trivial⟩
    refine gWp rfl rfl rfl hg_1 rfl rfl (o_pickF rfl hg_2 rfl) ?_;exact gMt hk2 (rfl) ⟨rfl, rfl, rfl, rfl, rfl, rfl, trivial⟩
   ·intro hg_2 hk2
    refine gKp rfl rfl rfl hg_2 rfl rfl ?_;refine gKp rfl rfl rfl hg_2 rfl rfl ?_;refine gKp rfl rfl rfl hg_2 rfl rfl ?_;refine gKp rfl rfl rfl hg_2 rfl rfl ?_;refine gKp rfl rfl rfl hg_2 rfl rfl ?_;refine gKu rfl rfl rfl rfl rfl ?_;refine gKu rfl rfl rfl rfl rfl ?_;refine gKp rfl rfl rfl hg_2 rfl rfl ?_;refine gWp rfl rfl rfl hg_1 rfl rfl (o_pickT rfl hg_2 rfl) ?_;exact gMt hk2 (rfl) ⟨rfl, rfl, rfl, rfl, rfl, rfl, trivial⟩
   refine go_p rfl rfl rfl (o_pickT rfl hg_1 rfl) ?_;exact gMt hk1 (rfl) ⟨rfl, rfl, rfl, rfl, rfl, trivial⟩
  ·intro hg_1 hk1
   refine gKp rfl rfl rfl hg_1 rfl rfl ?_;refine gKp rfl rfl rfl hg_1 rfl rfl ?_;refine gKp rfl rfl rfl hg_1 rfl rfl ?_;refine gKp rfl rfl rfl hg_1 rfl rfl ?_;refine gKu rfl rfl rfl rfl rfl ?_;refine gKu rfl rfl rfl rfl rfl ?_;refine gKu rfl rfl rfl rfl rfl ?_;refine gKu rfl rfl rfl rfl rfl ?_;refine gKu rfl rfl rfl rfl rfl ?_;refine gKu rfl rfl rfl rfl rfl ?_;refine gKu rfl rfl rfl rfl rfl ?_;refine gKu rfl rfl rfl rfl rfl ?_;refine gKp rfl rfl rfl hg_1 rfl rfl ?_;refine go_p rfl rfl rfl (o_pickF rfl hg_1 rfl) ?_;exact gMt hk1 (rfl) ⟨rfl, rfl, rfl, rfl, rfl, trivial⟩
  refine gNl ?_;refine gCd rfl (fun hc1 => ?_) (fun hc1 => ?_)
  ·replace hj1 := cond_t hc1 hj1
   refine gSp (g_seq (g_block (g_seq (gRg ?_))));refine go_p rfl rfl rfl (oFa fi_24_0 rfl rfl rfl) ?_;refine go_p rfl rfl rfl (o_load isAgg22 rfl rfl) ?_;refine go_p rfl rfl rfl (oMv rfl) ?_;obtain ⟨x1, hx1, hj1⟩ := bind_some hj1;refine go_p rfl rfl rfl (oIm runUnderlying22 sizeOf44 rfl rfl hx1) ?_;refine go_p rfl rfl rfl (o_load_agg isAgg44 sizeOf44 rfl rfl) ?_;refine go_op rfl rfl rfl (o_alloc_own zeroValue44 (cs := [.i64 0, .i64 0, .i64 0, .list 2 ApiTField.d []]) rfl) ?_;rintro _ _ ⟨b3, rfl, rfl⟩;refine go_u rfl rfl (oSb 0 sizeOf44 rfl rfl rfl rfl rfl rfl rfl rfl (Nat.le_of_ble_eq_true rfl)) ?_;rintro _ _ rfl;refine go_ms (ms' := [box b3 44 [_, _, _, _], _, box b2 24 [_, _], box b1 24 [_, _]]) rfl ?_;refine gNl (g_seq (gRg ?_));refine go_op rfl rfl rfl (o_buildSlice_row (xs := []) (f := ApiTField.d) (l := []) runUnderlying42 sizeOf98 zeroValue98 rfl rfl rfl (fun _ => ⟨rfl, rfl, rfl⟩) rfl (by simp [maxLen])) ?_;rintro _ _ ⟨a_r2, rfl, rfl⟩;refine go_p rfl rfl rfl (oFb fi_44_3 rfl) ?_;refine go_p rfl rfl rfl (oLb 1 isAgg42 rfl rfl rfl rfl) ?_;refine go_p rfl rfl rfl (oFb fi_44_3 rfl) ?_;refine go_p rfl rfl rfl (oLb 1 isAgg42 rfl rfl rfl rfl) ?_;refine go_p rfl rfl rfl (o_len runUnderlying42 rfl) ?_;refine go_p rfl rfl rfl (o_min rfl rfl) ?_;obtain ⟨l3, hx2, hj1⟩ := bind_some hj1;refine go_p rfl rfl rfl (o_slice_m runUnderlying42 sizeOf98 rfl rfl ⟨_, rfl⟩ hx2) ?_;obtain ⟨hg3, hj1⟩ := grd_some hj1;refine go_op rfl rfl rfl (o_append (a := _) 0 underlying42 type98 rfl rfl rfl rfl rfl rfl rfl (fun _ => rfl) (fun _ => rfl) hg3 (app_len hg3 rfl)) ?_;rintro _ _ ⟨a_r2, cap_r2, rfl, rfl⟩;refine go_ms (ms' := [_, box b3 44 [_, _, _, _], _, box b2 24 [_, _], box b1 24 [_, _]]) rfl ?_;refine go_p rfl rfl rfl (oFb fi_44_3 rfl) ?_;refine go_u rfl rfl (oSb 1 sizeOf42 rfl rfl rfl rfl rfl rfl rfl rfl (Nat.le_of_ble_eq_true rfl)) ?_;rintro _ _ rfl;refine go_ms (ms' := [_, box b3 44 [_, _, _, _], _, box b2 24 [_, _], box b1 24 [_, _]]) rfl ?_;refine gNl (gRg ?_);refine go_p rfl rfl rfl (oFb fi_24_0 rfl) ?_;refine go_p rfl rfl rfl (oLb 3 isAgg22 rfl rfl rfl rfl) ?_;refine go_p rfl rfl rfl (oLg 1 isAgg44 sizeOf44 rfl rfl rfl rfl (Nat.le_of_ble_eq_true rfl)) ?_;refine go_conv (peekAggE (i := 50) (q := 3) 0 rfl rfl rfl rfl rfl).refines ?_;refine go_p rfl rfl rfl (o_buildSlice (xs := [_]) (f := ApiTNode.d) (l := [(⟨x1.kind, x1.a, x1.b, ([] ++ l3)⟩ : ApiTNode)]) runUnderlying22 sizeOf44 zeroValue44 rfl rfl rfl (fun _ => ⟨rfl, rfl, rfl⟩) rfl) ?_;obtain ⟨hg4, hj1⟩ := grd_some hj1;refine go_op rfl rfl rfl (o_append (a := _) 2 underlying22 type44 rfl rfl rfl rfl rfl rfl rfl (fun _ => rfl) (fun _ => rfl) hg4 (app_len hg4 rfl)) ?_;rintro _ _ ⟨a_r1, cap_r1, rfl, rfl⟩
   refine go_ms (ms' := [_, box b3 44 [_, _, _, _], _, box b2 24 [_, _], box b1 24 [_, _]]) rfl ?_;refine go_p rfl rfl rfl (oFb fi_24_0 rfl) ?_;refine go_u rfl rfl (oSb 3 sizeOf22 rfl rfl rfl rfl rfl rfl rfl rfl (Nat.le_of_ble_eq_true rfl)) ?_;rintro _ _ rfl;refine go_ms (ms' := [_, box b3 44 [_, _, _, _], _, box b2 24 [_, _], box b1 24 [_, _]]) rfl ?_;refine gNl (gRg ?_);refine go_p rfl rfl rfl (oMv rfl) ?_;obtain ⟨hg5, hj1⟩ := grd_some hj1;refine go_p rfl rfl rfl (o_add rfl rfl (i64_id hg5)) ?_;refine go_p rfl rfl rfl (oAs rfl) ?_;refine gNl ?_;exact ⟨_, (_, _), hj1, ⟨rfl, trivial⟩, ⟨rfl, rfl, rfl, rfl, trivial⟩, [_, _], rfl⟩
  ·replace hj1 := cond_f hc1 hj1
   refine g_exit ?_;exact ⟨_, (_, _), some_eq hj1, trivial, ⟨rfl, rfl, trivial⟩, [], rfl⟩
 ·rintro ⟨l1, z1⟩ ⟨a_r1, cap_r1⟩ hst
  subst hst;refine k_norm (L' := [(4, _), (5, _)]) (ms' := [row a_r1 cap_r1 44 4 ApiTNode.d l1, box b2 24 [.v (.slice a_r1 l1.length cap_r1), .i64 z1], _]) rfl rfl ?_;refine g_seq (gRg ?_);refine go_p rfl rfl rfl (oLg 1 isAgg24 sizeOf24 rfl rfl rfl rfl (Nat.le_of_ble_eq_true rfl)) ?_;refine go_conv (peekAggE (i := 54) (q := 0) 0 rfl rfl rfl rfl rfl).refines ?_;refine go_u rfl rfl (oSb 2 sizeOf24 rfl rfl rfl rfl rfl rfl rfl rfl (Nat.le_of_ble_eq_true rfl)) ?_;rintro _ _ rfl;refine go_ms (ms' := [_, box b2 24 [_, _], box b1 24 [_, _]]) rfl ?_;refine gNl (g_ret ?_);exact retK (ret_one' rfl (ret_cell 2 rfl rfl rfl isAgg24 sizeOf24 rfl) (perm_drop _)) (congrArg (fun (p : ApiType) => (ApiType.d p : D)) (some_eq hm1))
noncomputable def m_below_may (a1 : ApiType) (bv1 : ApiType) : Option Int :=
 (m_graph_May a1).bind fun x1 =>
 bif (!decide (x1 = 0)) then
  some x1
 else
  (m_graph_May bv1).bind fun x2 =>
  some x2
theorem w_below_may {a1 : ApiType} {bv1 : ApiType} {r_1 : Int} (hm : m_below_may a1 bv1 = some r_1) : Fn0 Tryz.prog 65 [ApiType.d a1, ApiType.d bv1] (.i64 r_1) := by
 unfold m_below_may at hm;refine fn_intro func65 rfl ntmps65 rfl fun H0 fr w0 => ?_;refine g_seq (gRg ?_);refine go_p rfl rfl rfl (o_box rfl rfl) ?_;refine go_p rfl rfl rfl (o_box rfl rfl) ?_;refine go_p rfl rfl rfl (oAs rfl) ?_;refine gNl (g_seq (g_seq (gRg ?_)));refine go_p rfl rfl rfl (o_load_agg isAgg24 sizeOf24 rfl rfl) ?_;obtain ⟨x1, hx1, hm⟩ := bind_some hm;refine go_p rfl rfl rfl (o_call0 call53 rfl (w_graph_May hx1)) ?_;refine go_p rfl rfl rfl (oAs rfl) ?_;refine gNl (g_seq (gRg ?_));refine go_p rfl rfl rfl (oMv rfl) ?_;refine go_p rfl rfl rfl (o_cmp rfl rfl rfl) ?_;refine gNl ?_;refine gCd rfl (fun hc1 => ?_) (fun hc1 => ?_)
 ·replace hm := cond_t hc1 hm
  refine g_seq (gRg ?_);refine go_p rfl rfl rfl (oMv rfl) ?_;refine go_p rfl rfl rfl (oAs rfl) ?_;refine gNl (g_ret ?_);exact retK (ret_one' rfl (ret_tmp rfl) (perm_drop _)) (congrArg (fun (p : Int) => (.i64 p : D)) (some_eq hm))
 ·replace hm := cond_f hc1 hm
  refine gSp (g_seq (gRg ?_));refine go_p rfl rfl rfl (o_load_agg isAgg24 sizeOf24 rfl rfl) ?_;obtain ⟨x2, hx2, hm⟩ := bind_some hm;refine go_p rfl rfl rfl (o_call0 call53 rfl (w_graph_May hx2)) ?_;refine go_p rfl rfl rfl (oAs rfl) ?_;refine gNl (g_ret ?_);exact retK (ret_one' rfl (ret_tmp rfl) (perm_drop _)) (congrArg (fun (p : Int) => (.i64 p : D)) (some_eq hm))
noncomputable def m_graph_moved_l1 (to1 : (Int -> Option Int)) (z4 : (List ApiTField)) : Nat -> (Int × (List ApiTField) × Int × Int × Int) -> Option ((List ApiTField) × Int × Int × Int)
 | 0, _ => none
 | n + 1, (x4, l2, z8, z9, z10) =>
  bif (decide (x4 < (z4.length : Int))) then
   (idx l2 x4).bind fun x5 =>
   (to1 x5.at_).bind fun x6 =>
   (idx l2 x4).bind fun x7 =>
   grd (InR (x4 + 1)) <|
   m_graph_moved_l1 to1 z4 n ((x4 + 1), (l2.set (x4).toNat (⟨x7.name, x6⟩ : ApiTField)), z8, z9, z10)
  else
   some (l2, z8, z9, z10)
noncomputable def m_graph_moved (n1 : ApiTNode) (to1 : (Int -> Option Int)) : Option ApiTNode :=
 (m_graph_pair n1.kind).bind fun x1 =>
 (bif x1 then
  (to1 n1.a).bind fun x2 =>
  (to1 n1.b).bind fun x3 =>
  some (n1.kind, x2, x3, n1.l)
 else
  some (n1.kind, n1.a, n1.b, n1.l) : Option (Int × Int × Int × (List ApiTField))).bind fun (z1, z2, z3, z4) =>
 grd (z4.length * 24 <= 140737488355328) <|
 (m_graph_moved_l1 to1 z4 FU (0, z4, z1, z2, z3) : Option ((List ApiTField) × Int × Int × Int)).bind fun (l1, z5, z6, z7) =>
 some (⟨z5, z6, z7, l1⟩ : ApiTNode)
theorem w_graph_moved {n1 : ApiTNode} {to1 : (Int -> Option Int)} {r_1 : ApiTNode} {tl_0 : List Asrt} {fv_to1 : D} (hfto1 : FunOk1T Tryz.prog fv_to1 D.i64 D.i64 tl_0 to1) (hm : m_graph_moved n1 to1 = some r_1) : FnT Tryz.prog 109 [ApiTNode.d n1, fv_to1] tl_0 (ApiTNode.d r_1) := by
 unfold m_graph_moved at hm;refine fn_intro func109 rfl ntmps109 rfl fun H0 fr w0 => ?_;refine g_seq (gRg ?_);refine go_op rfl rfl rfl (o_box_own rfl rfl rfl) ?_;rintro _ _ ⟨b1, rfl, rfl⟩;refine go_op rfl rfl rfl (o_alloc_own zeroValue44 (cs := [.i64 0, .i64 0, .i64 0, .list 2 ApiTField.d []]) rfl) ?_;rintro _ _ ⟨b2, rfl, rfl⟩;refine gNl (g_seq (g_seq (gRg ?_)));refine go_p rfl rfl rfl (oFb fi_44_0 rfl) ?_;refine go_p rfl rfl rfl (oLb 1 isAgg3 rfl rfl rfl rfl) ?_;obtain ⟨x1, hx1, hm⟩ := bind_some hm;refine go_p rfl rfl rfl (o_call0 call122 rfl (w_graph_pair hx1)) ?_;refine gNl ?_;obtain ⟨o_1, hj1, hm1⟩ := bind_some hm;refine g_cut_m [(1, _), (2, _), (4, _)] [(0, _)] (fun (st : (Int × Int × Int × (List ApiTField))) (hid : Unit) => match st, hid with | (z1, z2, z3, z4), _ => []) (fun F (st : (Int × Int × Int × (List ApiTField))) (hid : Unit) => match st, hid with | (z1, z2, z3, z4), _ => [(nthF F 0), box b1 44 [.i64 z1, .i64 z2, .i64 z3, .list 2 ApiTField.d z4]] ++ tl_0) (fun st => st = o_1) ⟨rfl, rfl, rfl, trivial⟩ ⟨rfl, trivial⟩ ?_ ?_
 ·skip
  refine gCd rfl (fun hc1 => ?_) (fun hc1 => ?_)
  ·replace hj1 := cond_t hc1 hj1
   obtain ⟨x2, hx2, hj1⟩ := bind_some hj1;obtain ⟨x3, hx3, hj1⟩ := bind_some hj1;refine g_draw 9 Tryz_mixed (by decide +kernel) ?_;refine gd_p rfl rfl rfl (oMv rfl) ?_;refine gd_p rfl rfl rfl (oFb fi_44_1 rfl) ?_;refine gd_p rfl rfl rfl (oLb 1 isAgg3 rfl rfl rfl rfl) ?_;refine gd_p rfl rfl rfl (o_callv_t (tl := tl_0) [_, _] rfl rfl rfl (hfto1 _ _ hx2)) ?_;refine gd_p rfl rfl rfl (oMv rfl) ?_;refine gd_p rfl rfl rfl (oFb fi_44_2 rfl) ?_;refine gd_p rfl rfl rfl (oLb 1 isAgg3 rfl rfl rfl rfl) ?_;refine gd_p rfl rfl rfl (o_callv_t (tl := tl_0) [_, _] rfl rfl rfl (hfto1 _ _ hx3)) ?_;refine gd_p rfl rfl rfl (oFb fi_44_1 rfl) ?_;refine gd_nil ?_;refine go_u rfl rfl (oSb 1 sizeOf3 rfl rfl rfl rfl rfl rfl rfl rfl (Nat.le_of_ble_eq_true rfl)) ?_;rintro _ _ rfl;refine go_ms (ms' := [box b2 44 [_, _, _, _], box b1 44 [_, _, _, _]] ++ tl_0) rfl ?_;refine go_p rfl rfl rfl (oFb fi_44_2 rfl) ?_;refine go_u rfl rfl (oSb 1 sizeOf3 rfl rfl rfl rfl rfl rfl rfl rfl (Nat.le_of_ble_eq_true rfl)) ?_;rintro _ _ rfl;refine go_ms (ms' := [box b2 44 [_, _, _, _], box b1 44 [_, _, _, _]] ++ tl_0) rfl ?_;refine gNl ?_;exact ⟨_, (), some_eq hj1, trivial, ⟨rfl, rfl, rfl, trivial⟩, [], rfl⟩
  ·replace hj1 := cond_f hc1 hj1
   refine gSp ?_;exact ⟨_, (), some_eq hj1, trivial, ⟨rfl, rfl, rfl, trivial⟩, [], rfl⟩
 ·rintro ⟨z1, z2, z3, z4⟩ _ hst
  subst hst;refine k_norm (L' := [(1, _), (2, _), (4, _)]) (ms' := [_, box b1 44 [.i64 z1, .i64 z2, .i64 z3, .list 2 ApiTField.d z4]] ++ tl_0) rfl rfl ?_;refine g_seq (gRg ?_);refine go_p rfl rfl rfl (oFb fi_44_3 rfl) ?_;refine go_p rfl rfl rfl (oLb 1 isAgg42 rfl rfl rfl rfl) ?_;obtain ⟨hg4, hm1⟩ := grd_some hm1;refine go_op rfl rfl rfl (o_call (ms₁ := []) call77 rfl (List.Perm.refl _) (w_Clone_77 hg4)) ?_;rintro _ _ ⟨_, ⟨a_r1, cap_r1, rfl, rfl⟩, rfl⟩
  generalize hm_r1 : z4.length = m_r1
  clear hm_r1
  refine go_p rfl rfl rfl (oFb fi_44_3 rfl) ?_;refine go_u rfl rfl (oSb 2 sizeOf42 rfl rfl rfl rfl rfl rfl rfl rfl (Nat.le_of_ble_eq_true rfl)) ?_;rintro _ _ rfl;refine go_ms (ms' := [_, box b2 44 [_, _, _, _], box b1 44 [_, _, _, _]] ++ tl_0) rfl ?_;refine gNl (g_seq (g_seq (gRg ?_)));refine go_p rfl rfl rfl (oFb fi_44_3 rfl) ?_;refine go_p rfl rfl rfl (oLb 2 isAgg42 rfl rfl rfl rfl) ?_;refine go_p rfl rfl rfl (o_len_arr 0 runUnderlying42 rfl rfl) ?_;refine go_p rfl rfl rfl (oMv rfl) ?_;refine gNl ?_;obtain ⟨o_2, hj2, hm2⟩ := bind_some hm1;refine g_cut_m [(2, _), (4, _)] [(1, _)] (fun (st : ((List ApiTField) × Int × Int × Int)) (hid : Unit) => match st, hid with | (l1, z5, z6, z7), _ => []) (fun F (st : ((List ApiTField) × Int × Int × Int)) (hid : Unit) => match st, hid with | (l1, z5, z6, z7), _ => [arr a_r1 m_r1 cap_r1 98 2 ApiTField.d l1, (nthF F 0), box b1 44 [.i64 z5, .i64 z6, .i64 z7, .v (.slice a_r1 m_r1 cap_r1)]] ++ tl_0) (fun st => st = o_2) ⟨rfl, rfl, trivial⟩ ⟨rfl, trivial⟩ ?_ ?_
  ·skip
   refine g_block ?_;refine g_loop_m [(1, _), (2, _), (4, _), (25, _)] [(1, _)] (fun (st : (Int × (List ApiTField) × Int × Int × Int)) (hid : Unit) => match st, hid with | (x4, l2, z8, z9, z10), _ => [(26, .i64 x4)]) (fun F (st : (Int × (List ApiTField) × Int × Int × Int)) (hid : Unit) => match st, hid with | (x4, l2, z8, z9, z10), _ => [arr a_r1 m_r1 cap_r1 98 2 ApiTField.d l2, (nthF F 0), box b1 44 [.i64 z8, .i64 z9, .i64 z10, .v (.slice a_r1 m_r1 cap_r1)]] ++ tl_0) () hj2 (fun _ => rfl) ⟨rfl, rfl, rfl, rfl, trivial⟩ ⟨rfl, trivial⟩ ⟨rfl, trivial⟩ rfl ?_;rintro n ⟨x4, l2, z8, z9, z10⟩ ⟨⟩ hj2;rw [m_graph_moved_l1] at hj2;refine g_norm (L' := [(26, .i64 x4), (1, _), (2, _), (4, _), (25, _)]) (ms' := [arr a_r1 m_r1 cap_r1 98 2 ApiTField.d l2, _, box b1 44 [.i64 z8, .i64 z9, .i64 z10, .v (.slice a_r1 m_r1 cap_r1)]] ++ tl_0) rfl rfl ?_;refine g_seq (gRg ?_);refine go_p rfl rfl rfl (o_cmp rfl rfl rfl) ?_;refine gNl (g_seq ?_);refine gCd rfl (fun hc2 => ?_) (fun hc2 => ?_)
   ·replace hj2 := cond_t hc2 hj2
    refine gSp (g_seq (g_block (g_seq (gRg ?_))));refine go_p rfl rfl rfl (oMv rfl) ?_;refine go_p rfl rfl rfl (oAs rfl) ?_;refine gNl ?_;obtain ⟨x5, hx5, hj2⟩ := bind_some hj2;obtain ⟨x6, hx6, hj2⟩ := bind_some hj2;obtain ⟨x7, hx7, hj2⟩ := bind_some hj2;refine g_draw 13 Tryz_mixed (by decide +kernel) ?_;refine gd_p rfl rfl rfl (oFb fi_44_3 rfl) ?_;refine gd_p rfl rfl rfl (oLb 2 isAgg42 rfl rfl rfl rfl) ?_;refine gd_p rfl rfl rfl (oMv rfl) ?_;refine gd_p rfl rfl rfl (oMv rfl) ?_;refine gd_p rfl rfl rfl (oFb fi_44_3 rfl) ?_;refine gd_p rfl rfl rfl (oLb 2 isAgg42 rfl rfl rfl rfl) ?_;refine gd_p rfl rfl rfl (oMv rfl) ?_;refine gd_p rfl rfl rfl (o_indexAddr_arr 0 runUnderlying42 sizeOf98 rfl rfl rfl hx5) ?_;refine gd_p rfl rfl rfl (o_fieldAddr_apt (b := 0) 0 fi_98_1 rfl rfl (idx_some hx5).2) ?_;refine gd_p rfl rfl rfl (o_load_arr (off := 1) 0 isAgg3 rfl rfl (idx_some hx5).2 rfl rfl rfl) ?_;refine gd_p rfl rfl rfl (o_callv_t (tl := tl_0) [_, _, _] rfl rfl rfl (hfto1 _ _ hx6)) ?_;refine gd_p rfl rfl rfl (o_indexAddr_arr 0 runUnderlying42 sizeOf98 rfl rfl rfl hx7) ?_;refine gd_p rfl rfl rfl (o_fieldAddr_apt (b := 0) 0 fi_98_1 rfl rfl (idx_some hx7).2) ?_;refine gd_nil ?_;refine go_u rfl rfl (o_store_arr (off := 1) (z' := (⟨x7.name, x6⟩ : ApiTField)) 0 sizeOf3 rfl rfl (idx_some hx7).2 rfl rfl rfl rfl rfl rfl (Nat.le_of_ble_eq_true rfl) rfl rfl) ?_;rintro _ _ rfl;refine go_ms (ms' := [_, box b2 44 [_, _, _, _], box b1 44 [_, _, _, _]] ++ tl_0) rfl ?_;refine gNl (gRg ?_);obtain ⟨hg8, hj2⟩ := grd_some hj2;refine go_p rfl rfl rfl (o_add rfl rfl (i64_id hg8)) ?_;refine go_p rfl rfl rfl (oMv rfl) ?_;refine gNl ?_;exact ⟨_, (), hj2, ⟨rfl, trivial⟩, ⟨rfl, rfl, rfl, rfl, trivial⟩, [], rfl⟩
   ·replace hj2 := cond_f hc2 hj2
    refine g_exit ?_;exact ⟨_, (), some_eq hj2, trivial, ⟨rfl, rfl, trivial⟩, [], rfl⟩
  ·rintro ⟨l1, z5, z6, z7⟩ ⟨⟩ hst
   subst hst;refine k_norm (L' := [(2, _), (4, _)]) (ms' := [arr a_r1 m_r1 cap_r1 98 2 ApiTField.d l1, _, box b1 44 [.i64 z5, .i64 z6, .i64 z7, .v (.slice a_r1 m_r1 cap_r1)]] ++ tl_0) rfl rfl ?_;refine g_seq (gRg ?_);refine go_thaw 0 rfl rfl ?_;rintro rfl;refine go_p rfl rfl rfl (oLg 2 isAgg44 sizeOf44 rfl rfl rfl rfl (Nat.le_of_ble_eq_true rfl)) ?_;refine go_conv (peekAggE (i := 43) (q := 3) 0 rfl rfl rfl rfl rfl).refines ?_;refine go_u rfl rfl (oSb 1 sizeOf44 rfl rfl rfl rfl rfl rfl rfl rfl (Nat.le_of_ble_eq_true rfl)) ?_;rintro _ _ rfl;refine go_ms (ms' := [_, box b2 44 [_, _, _, _], box b1 44 [_, _, _, _]] ++ tl_0) rfl ?_;refine gNl (g_ret ?_);exact retK (ret_one' (ms' := tl_0) (drop := [_, _, _]) rfl (ret_cell 1 rfl rfl rfl isAgg44 sizeOf44 rfl) (List.Perm.refl _)) ⟨congrArg (fun (p : ApiTNode) => (ApiTNode.d p : D)) (some_eq hm2), rfl⟩
noncomputable def m_graph_Graft_1 (k1 : Int) (c1 : Int) : Option Int :=
 grd (InR (k1 + c1)) <|
 some (k1 + c1)
theorem w_graph_Graft_1 {k1 : Int} {c1 : Int} {r_1 : Int} (hm : m_graph_Graft_1 k1 c1 = some r_1) : Fn0 Tryz.prog 110 [.i64 k1, .ref (.i64 c1)] (.i64 r_1) := by
 unfold m_graph_Graft_1 at hm;refine fn_intro func110 rfl ntmps110 rfl fun H0 fr w0 => ?_;refine g_seq (gRg ?_);refine go_p rfl rfl rfl (oAs rfl) ?_;refine gNl (g_seq (gRg ?_));refine go_p rfl rfl rfl (oMv rfl) ?_;refine go_p rfl rfl rfl (o_load isAgg3 rfl rfl) ?_;obtain ⟨hg1, hm⟩ := grd_some hm;refine go_p rfl rfl rfl (o_add rfl rfl (i64_id hg1)) ?_;refine go_p rfl rfl rfl (oAs rfl) ?_;refine gNl (g_ret ?_);exact retK (ret_one' rfl (ret_tmp rfl) (perm_drop _)) (congrArg (fun (p : Int) => (.i64 p : D)) (some_eq hm))
noncomputable def m_graph_Graft_l1 (a1 : ApiType) (bv1 : ApiType) : Nat -> (Int × Int × (List ApiTNode)) -> Option (Int × (List ApiTNode))
 | 0, _ => none
 | n + 1, (x1, z2, l2) =>
  bif (decide (x1 < (bv1.l.length : Int))) then
   (idx bv1.l x1).bind fun x2 =>
   (m_graph_moved (⟨x2.kind, x2.a, x2.b, x2.l⟩ : ApiTNode) (fun y0 => m_graph_Graft_1 y0 (a1.l.length : Int))).bind fun x3 =>
   grd ((l2.length + ([x3] : List _).length) * 48 <= 140737488355328) <|
   grd (InR (x1 + 1)) <|
   m_graph_Graft_l1 a1 bv1 n ((x1 + 1), z2, (l2 ++ [x3]))
  else
   some (z2, l2)
noncomputable def m_graph_Graft (a1 : ApiType) (bv1 : ApiType) : Option (ApiType × Int) :=
 grd (a1.l.length * 48 <= 140737488355328) <|
 (m_graph_Graft_l1 a1 bv1 FU (0, a1.root, a1.l) : Option (Int × (List ApiTNode))).bind fun (z1, l1) =>
 some ((⟨l1, z1⟩ : ApiType), (a1.l.length : Int))
theorem w_graph_Graft {a1 : ApiType} {bv1 : ApiType} {r_1 : ApiType} {r_2 : Int} (hm : m_graph_Graft a1 bv1 = some (r_1, r_2)) : Fn0 Tryz.prog 75 [ApiType.d a1, ApiType.d bv1] (.tup [ApiType.d r_1, .i64 r_2]) := by
 unfold m_graph_Graft at hm;refine fn_intro func75 rfl ntmps75 rfl fun H0 fr w0 => ?_;refine g_seq (gRg ?_);refine go_p rfl rfl rfl (o_box rfl rfl) ?_;refine go_p rfl rfl rfl (o_box rfl rfl) ?_;refine go_op rfl rfl rfl (o_alloc_own zeroValue24 (cs := [.list 4 ApiTNode.d [], .i64 0]) rfl) ?_;rintro _ _ ⟨b1, rfl, rfl⟩;refine go_p rfl rfl rfl (oAs rfl) ?_;refine gNl (g_seq (gRg ?_));refine go_p rfl rfl rfl (oFa fi_24_0 rfl rfl rfl) ?_;refine go_p rfl rfl rfl (o_load isAgg22 rfl rfl) ?_;refine go_p rfl rfl rfl (o_len runUnderlying22 rfl) ?_;refine go_op rfl rfl rfl (o_alloc_own zeroValue3 (cs := [.i64 0]) rfl) ?_;rintro _ _ ⟨b2, rfl, rfl⟩;refine go_u rfl rfl (oSb 0 sizeOf3 rfl rfl rfl rfl rfl rfl rfl rfl (Nat.le_of_ble_eq_true rfl)) ?_;rintro _ _ rfl;refine go_ms (ms' := [box b2 3 [_], box b1 24 [_, _]]) rfl ?_;refine go_conv (refines_freeze (d := .i64 (a1.l.length : Int)) 0 6 rfl rfl rfl rfl) ?_;refine gNl (g_seq ?_);obtain ⟨hg1, hm⟩ := grd_some hm;refine g_draw_x [2, 5] [7] [3, 4] [6] [] Tryz_mixed (by decide +kernel) (by decide +kernel) rfl ?_;refine gdx_p rfl rfl rfl rfl rfl rfl (oFa fi_24_0 rfl rfl rfl) ?_;refine gdx_p rfl rfl rfl rfl rfl rfl (o_load isAgg22 rfl rfl) ?_;refine gdx_e rfl ?_;refine gdx_p rfl rfl rfl rfl rfl rfl (oFa fi_24_1 rfl rfl rfl) ?_;refine gdx_p rfl rfl rfl rfl rfl rfl (o_load isAgg3 rfl rfl) ?_;refine gdx_e rfl ?_;refine gdx_fresh (R0 := fun d A => ∃ b, d = .v (.pointer (some ⟨b, 0, none⟩)) /\ A = box b 24 [.list 4 ApiTNode.d [], .i64 0]) rfl rfl rfl rfl (OpT.mono (o_alloc_own zeroValue24 (cs := [.list 4 ApiTNode.d [], .i64 0]) rfl) (by rintro d ms' ⟨b, rfl, rfl⟩; exact ⟨_, ⟨b, rfl, rfl⟩, rfl⟩)) ?_;refine gdx_e rfl ?_;refine gdx_nil ?_;refine gf_t rfl rfl rfl rfl (o_call (ms₁ := []) call74 rfl (List.Perm.refl _) (w_Clone_74 hg1)) ?_;rintro _ _ ⟨_, ⟨a_r1, cap_r1, rfl, rfl⟩, rfl⟩
 generalize hm_r1 : a1.l.length = m_r1
 clear hm_r1
 refine ⟨(trivial : True), ?_⟩;refine gf_t rfl rfl rfl rfl (o_build (zs := [.list 4 ApiTNode.d [], .v (.int .i64 0)]) runUnderlying24 zeroValue24 (pl_24 _ runUnderlying24) rfl rfl rfl rfl) ?_;rintro _ _ ⟨rfl, rfl⟩;refine ⟨(trivial : True), ?_⟩;refine gf_nil [(6, 7)] rfl ?_;rintro _ _ ⟨b3, rfl, rfl⟩
 show _ /\ _
 refine ⟨(trivial : True), ?_⟩;refine gde2_u rfl rfl rfl (oSb 0 sizeOf24 rfl rfl rfl rfl rfl rfl rfl rfl (Nat.le_of_ble_eq_true rfl)) ?_;rintro _ _ rfl;refine ⟨(trivial : True), ?_⟩;refine gde2_nil ?_;refine g_seq (g_seq (gRg ?_));refine go_p rfl rfl rfl (oFa fi_24_0 rfl rfl rfl) ?_;refine go_p rfl rfl rfl (o_load isAgg22 rfl rfl) ?_;refine go_p rfl rfl rfl (o_len runUnderlying22 rfl) ?_;refine go_p rfl rfl rfl (oMv rfl) ?_;refine gNl ?_;refine g_thaw 1 rfl rfl ?_;rintro rfl;obtain ⟨o_1, hj1, hm1⟩ := bind_some hm;refine g_cut_m [(4, _), (6, _), (7, _)] [(2, _)] (fun (st : (Int × (List ApiTNode))) (hid : (Option Addr × Nat)) => match st, hid with | (z1, l1), (a_r1, cap_r1) => []) (fun F (st : (Int × (List ApiTNode))) (hid : (Option Addr × Nat)) => match st, hid with | (z1, l1), (a_r1, cap_r1) => [box b3 24 [.v (.slice a_r1 l1.length cap_r1), .i64 z1], row a_r1 cap_r1 44 4 ApiTNode.d l1, (nthF F 0)]) (fun st => st = o_1) ⟨rfl, rfl, rfl, trivial⟩ ⟨rfl, trivial⟩ ?_ ?_
 ·skip
  refine g_block ?_;refine g_loop_m [(4, _), (6, _), (7, _), (20, _), (21, _)] [(2, _)] (fun (st : (Int × Int × (List ApiTNode))) (hid : (Option Addr × Nat)) => match st, hid with | (x1, z2, l2), (a_r1, cap_r1) => [(22, .i64 x1)]) (fun F (st : (Int × Int × (List ApiTNode))) (hid : (Option Addr × Nat)) => match st, hid with | (x1, z2, l2), (a_r1, cap_r1) => [box b3 24 [.v (.slice a_r1 l2.length cap_r1), .i64 z2], row a_r1 cap_r1 44 4 ApiTNode.d l2, (nthF F 0)]) (_, _) hj1 (fun _ => rfl) ⟨rfl, rfl, rfl, rfl, rfl, trivial⟩ ⟨rfl, trivial⟩ ⟨rfl, trivial⟩ rfl ?_;rintro n ⟨x1, z2, l2⟩ ⟨a_r1, cap_r1⟩ hj1;rw [m_graph_Graft_l1] at hj1;refine g_norm (L' := [(22, .i64 x1), (4, _), (6, _), (7, _), (20, _), (21, _)]) (ms' := [box b3 24 [.v (.slice a_r1 l2.length cap_r1), .i64 z2], row a_r1 cap_r1 44 4 ApiTNode.d l2, _]) rfl rfl ?_;refine g_seq (gRg ?_);refine go_p rfl rfl rfl (o_cmp rfl rfl rfl) ?_;refine gNl (g_seq ?_);refine gCd rfl (fun hc1 => ?_) (fun hc1 => ?_)
  ·replace hj1 := cond_t hc1 hj1
   refine gSp (g_seq (g_block (g_seq (gRg ?_))));obtain ⟨x2, hx2, hj1⟩ := bind_some hj1;refine go_p rfl rfl rfl (oIm runUnderlying22 sizeOf44 rfl rfl hx2) ?_;refine go_p rfl rfl rfl (o_load_agg isAgg44 sizeOf44 rfl rfl) ?_;refine go_op rfl rfl rfl (o_alloc_own zeroValue44 (cs := [.i64 0, .i64 0, .i64 0, .list 2 ApiTField.d []]) rfl) ?_;rintro _ _ ⟨b4, rfl, rfl⟩;refine go_u rfl rfl (oSb 0 sizeOf44 rfl rfl rfl rfl rfl rfl rfl rfl (Nat.le_of_ble_eq_true rfl)) ?_;rintro _ _ rfl;refine go_ms (ms' := [box b4 44 [_, _, _, _], box b3 24 [_, _], _, box b1 24 [_, _]]) rfl ?_;refine gNl ?_;obtain ⟨x3, hx3, hj1⟩ := bind_some hj1;refine g_draw 6 Tryz_mixed (by decide +kernel) ?_;refine gd_p rfl rfl rfl (oFb fi_24_0 rfl) ?_;refine gd_p rfl rfl rfl (oLb 1 isAgg22 rfl rfl rfl rfl) ?_;refine gd_p rfl rfl rfl (oLg 0 isAgg44 sizeOf44 rfl rfl rfl rfl (Nat.le_of_ble_eq_true rfl)) ?_;refine gd_p rfl rfl rfl (o_makeFunc rfl rfl) ?_;refine gd_p rfl rfl rfl (o_call_t [] call109 rfl rfl getL_n (w_graph_moved (fun _ _ h => fv_nil (fv_clo call110 (w_graph_Graft_1 h))) hx3)) ?_;refine gd_p rfl rfl rfl (o_buildSlice (xs := [_]) (f := ApiTNode.d) (l := [_]) runUnderlying22 sizeOf44 zeroValue44 rfl rfl rfl (fun _ => ⟨rfl, rfl, rfl⟩) rfl) ?_;refine gd_nil ?_;obtain ⟨hg4, hj1⟩ := grd_some hj1;refine go_op rfl rfl rfl (o_append (a := _) 2 underlying22 type44 rfl rfl rfl rfl rfl rfl rfl (fun _ => rfl) (fun _ => rfl) hg4 (app_len hg4 rfl)) ?_;rintro _ _ ⟨a_r1, cap_r1, rfl, rfl⟩;refine go_ms (ms' := [box b4 44 [_, _, _, _], box b3 24 [_, _], _, box b1 24 [_, _]]) rfl ?_;refine go_p rfl rfl rfl (oFb fi_24_0 rfl) ?_;refine go_u rfl rfl (oSb 1 sizeOf22 rfl rfl rfl rfl rfl rfl rfl rfl (Nat.le_of_ble_eq_true rfl)) ?_;rintro _ _ rfl;refine go_ms (ms' := [box b4 44 [_, _, _, _], box b3 24 [_, _], _, box b1 24 [_, _]]) rfl ?_;refine gNl (gRg ?_);obtain ⟨hg5, hj1⟩ := grd_some hj1;refine go_p rfl rfl rfl (o_add rfl rfl (i64_id hg5)) ?_;refine go_p rfl rfl rfl (oMv rfl) ?_;refine gNl ?_;exact ⟨_, (_, _), hj1, ⟨rfl, trivial⟩, ⟨rfl, rfl, rfl, rfl, rfl, trivial⟩, [_], rfl⟩
  ·replace hj1 := cond_f hc1 hj1
   refine g_exit ?_;exact ⟨_, (_, _), some_eq hj1, trivial, ⟨rfl, rfl, rfl, trivial⟩, [], rfl⟩
 ·rintro ⟨z1, l1⟩ ⟨a_r1, cap_r1⟩ hst
  subst hst;refine k_norm (L' := [(4, _), (6, _), (7, _)]) (ms' := [box b3 24 [.v (.slice a_r1 l1.length cap_r1), .i64 z1], row a_r1 cap_r1 44 4 ApiTNode.d l1, _]) rfl rfl ?_;refine g_seq ?_;refine g_conv (refines_cellrow 0 0 1 rfl rfl rfl rfl rfl rfl) ?_;refine g_draw_c [2] [1, 3] [] Tryz_mixed (by decide +kernel) (by decide +kernel) rfl ?_;refine gde_p rfl rfl rfl rfl rfl rfl (oLg 0 isAgg24 sizeOf24 rfl rfl rfl rfl (Nat.le_of_ble_eq_true rfl)) ?_;refine gde_p rfl rfl rfl rfl rfl rfl (o_load isAgg3 rfl rfl) ?_;refine gde_e rfl ?_;refine gde_p rfl rfl rfl rfl rfl rfl (oAs rfl) ?_;refine gde_nil ?_;refine gde2_u rfl rfl rfl (oSb 2 sizeOf24 rfl rfl rfl rfl rfl rfl rfl rfl (Nat.le_of_ble_eq_true rfl)) ?_;rintro _ _ rfl;refine ⟨(trivial : True), ?_⟩;refine gde2_nil ?_;refine g_ret ?_;exact retK (ret_many (ds := [_, _]) rfl (by decide) ⟨ret_cell 2 rfl rfl rfl isAgg24 sizeOf24 rfl, ⟨ret_tmp rfl, rfl⟩⟩ (perm_drop _)) (congrArg (fun (p : (ApiType × Int)) => D.tup [ApiType.d p.1, .i64 p.2]) (some_eq hm1))
noncomputable def m_below_below (a1 : ApiType) (bv1 : ApiType) : Option Bool :=
 (m_graph_Graft a1 bv1).bind fun (x1, x2) =>
 grd (InR (bv1.root + x2)) <|
 (m_holds (⟨x1.l, x1.root⟩ : ApiType) (⟨[a1.root], [(bv1.root + x2)]⟩ : BelowSequent)).bind fun x3 =>
 some x3
theorem w_below_below {a1 : ApiType} {bv1 : ApiType} {r_1 : Bool} (hm : m_below_below a1 bv1 = some r_1) : Fn0 Tryz.prog 66 [ApiType.d a1, ApiType.d bv1] (.bool r_1) := by
 unfold m_below_below at hm;refine fn_intro func66 rfl ntmps66 rfl fun H0 fr w0 => ?_;refine g_seq (gRg ?_);refine go_p rfl rfl rfl (o_box rfl rfl) ?_;refine go_p rfl rfl rfl (o_box rfl rfl) ?_;refine go_p rfl rfl rfl (oAs rfl) ?_;refine gNl (g_seq (gRg ?_));refine go_p rfl rfl rfl (o_load_agg isAgg24 sizeOf24 rfl rfl) ?_;refine go_p rfl rfl rfl (o_load_agg isAgg24 sizeOf24 rfl rfl) ?_;obtain ⟨⟨x1, x2⟩, hx1, hm⟩ := bind_some hm;refine go_p rfl rfl rfl (o_call0 call75 rfl (w_graph_Graft hx1)) ?_;refine go_p rfl rfl rfl (oMv rfl) ?_;refine go_p rfl rfl rfl (o_extract rfl rfl) ?_;refine go_p rfl rfl rfl (o_extract rfl rfl) ?_;refine go_op rfl rfl rfl (o_alloc_own zeroValue24 (cs := [.list 4 ApiTNode.d [], .i64 0]) rfl) ?_;rintro _ _ ⟨b1, rfl, rfl⟩;refine go_u rfl rfl (oSb 0 sizeOf24 rfl rfl rfl rfl rfl rfl rfl rfl (Nat.le_of_ble_eq_true rfl)) ?_;rintro _ _ rfl;refine go_ms (ms' := [box b1 24 [_, _]]) rfl ?_;refine go_p rfl rfl rfl (oAs rfl) ?_;refine gNl (g_seq (gRg ?_));refine go_p rfl rfl rfl (oLg 0 isAgg24 sizeOf24 rfl rfl rfl rfl (Nat.le_of_ble_eq_true rfl)) ?_;refine go_p rfl rfl rfl (oFa fi_24_1 rfl rfl rfl) ?_;refine go_p rfl rfl rfl (o_load isAgg3 rfl rfl) ?_;refine go_p rfl rfl rfl (o_buildSlice (xs := [_]) (f := D.i64) (l := [_]) runUnderlying25 sizeOf3 zeroValue3 rfl rfl rfl (fun _ => ⟨rfl, rfl, rfl⟩) rfl) ?_;refine go_p rfl rfl rfl (oFa fi_24_1 rfl rfl rfl) ?_;refine go_p rfl rfl rfl (o_load isAgg3 rfl rfl) ?_;refine go_p rfl rfl rfl (oMv rfl) ?_;obtain ⟨hg2, hm⟩ := grd_some hm;refine go_p rfl rfl rfl (o_add rfl rfl (i64_id hg2)) ?_;refine go_p rfl rfl rfl (o_buildSlice (xs := [_]) (f := D.i64) (l := [_]) runUnderlying25 sizeOf3 zeroValue3 rfl rfl rfl (fun _ => ⟨rfl, rfl, rfl⟩) rfl) ?_;refine go_p rfl rfl rfl (o_build (zs := [.list 1 D.i64 [], .list 1 D.i64 []]) runUnderlying75 zeroValue75 (pl_75 _ runUnderlying75) rfl rfl rfl rfl) ?_;obtain ⟨x3, hx3, hm⟩ := bind_some hm;refine go_p rfl rfl rfl (o_call0 call57 rfl (w_holds hx3)) ?_;refine go_p rfl rfl rfl (oAs rfl) ?_;refine gNl (g_ret ?_);exact retK (ret_one' rfl (ret_tmp rfl) (perm_drop _)) (congrArg (fun (p : Bool) => (.bool p : D)) (some_eq hm))
noncomputable def m_below_Below (a1 : ApiType) (bv1 : ApiType) : Option (Bool × Int) :=
 (m_below_may a1 bv1).bind fun x1 =>
 bif (!decide (x1 = 0)) then
  some (false, x1)
 else
  (m_below_below a1 bv1).bind fun x2 =>
  some (x2, 0)
theorem w_below_Below {a1 : ApiType} {bv1 : ApiType} {r_1 : Bool} {r_2 : Int} (hm : m_below_Below a1 bv1 = some (r_1, r_2)) : Fn0 Tryz.prog 26 [ApiType.d a1, ApiType.d bv1] (.tup [.bool r_1, .i64 r_2]) := by
 unfold m_below_Below at hm;refine fn_intro func26 rfl ntmps26 rfl fun H0 fr w0 => ?_;refine g_seq (gRg ?_);refine go_p rfl rfl rfl (o_box rfl rfl) ?_;refine go_p rfl rfl rfl (o_box rfl rfl) ?_;refine go_p rfl rfl rfl (oAs rfl) ?_;refine go_p rfl rfl rfl (oAs rfl) ?_;refine gNl (g_seq (g_seq (gRg ?_)));refine go_p rfl rfl rfl (o_load_agg isAgg24 sizeOf24 rfl rfl) ?_;refine go_p rfl rfl rfl (o_load_agg isAgg24 sizeOf24 rfl rfl) ?_;obtain ⟨x1, hx1, hm⟩ := bind_some hm;refine go_p rfl rfl rfl (o_call0 call65 rfl (w_below_may hx1)) ?_;refine go_p rfl rfl rfl (oAs rfl) ?_;refine gNl (g_seq (gRg ?_));refine go_p rfl rfl rfl (oMv rfl) ?_;refine go_p rfl rfl rfl (o_cmp rfl rfl rfl) ?_;refine gNl ?_;refine gCd rfl (fun hc1 => ?_) (fun hc1 => ?_)
 ·replace hm := cond_t hc1 hm
  refine g_seq (gRg ?_);refine go_p rfl rfl rfl (oMv rfl) ?_;refine go_p rfl rfl rfl (oAs rfl) ?_;refine go_p rfl rfl rfl (oAs rfl) ?_;refine gNl (g_ret ?_);exact retK (ret_many (ds := [_, _]) rfl (by decide) ⟨ret_tmp rfl, ⟨ret_tmp rfl, rfl⟩⟩ (perm_drop _)) (congrArg (fun (p : (Bool × Int)) => D.tup [.bool p.1, .i64 p.2]) (some_eq hm))
 ·replace hm := cond_f hc1 hm
  refine gSp (g_seq (gRg ?_));refine go_p rfl rfl rfl (o_load_agg isAgg24 sizeOf24 rfl rfl) ?_;refine go_p rfl rfl rfl (o_load_agg isAgg24 sizeOf24 rfl rfl) ?_;obtain ⟨x2, hx2, hm⟩ := bind_some hm;refine go_p rfl rfl rfl (o_call0 call66 rfl (w_below_below hx2)) ?_;refine go_p rfl rfl rfl (oAs rfl) ?_;refine go_p rfl rfl rfl (oAs rfl) ?_;refine gNl (g_ret ?_);exact retK (ret_many (ds := [_, _]) rfl (by decide) ⟨ret_tmp rfl, ⟨ret_tmp rfl, rfl⟩⟩ (perm_drop _)) (congrArg (fun (p : (Bool × Int)) => D.tup [.bool p.1, .i64 p.2]) (some_eq hm))
noncomputable def m_graph_Leaf (kind1 : Int) : Option ApiType :=
 some (⟨[(⟨kind1, 0, 0, ([] : List ApiTField)⟩ : ApiTNode)], 0⟩ : ApiType)
theorem w_graph_Leaf {kind1 : Int} {r_1 : ApiType} (hm : m_graph_Leaf kind1 = some r_1) : Fn0 Tryz.prog 60 [.i64 kind1] (ApiType.d r_1) := by
 unfold m_graph_Leaf at hm;refine fn_intro func60 rfl ntmps60 rfl fun H0 fr w0 => ?_;refine g_seq (gRg ?_);refine go_op rfl rfl rfl (o_alloc_own zeroValue24 (cs := [.list 4 ApiTNode.d [], .i64 0]) rfl) ?_;rintro _ _ ⟨b1, rfl, rfl⟩;refine gNl (g_seq (gRg ?_));refine go_p rfl rfl rfl (oMv rfl) ?_;refine go_p rfl rfl rfl (o_build (zs := [.v (.int .i64 0), .v (.int .i64 0), .v (.int .i64 0), .list 2 ApiTField.d []]) runUnderlying44 zeroValue44 (pl_44 _ runUnderlying44) rfl rfl rfl rfl) ?_;refine go_p rfl rfl rfl (o_buildSlice (xs := [_]) (f := ApiTNode.d) (l := [(⟨kind1, 0, 0, ([] : List ApiTField)⟩ : ApiTNode)]) runUnderlying22 sizeOf44 zeroValue44 rfl rfl rfl (fun _ => ⟨rfl, rfl, rfl⟩) rfl) ?_;refine go_p rfl rfl rfl (o_build (zs := [.list 4 ApiTNode.d [], .v (.int .i64 0)]) runUnderlying24 zeroValue24 (pl_24 _ runUnderlying24) rfl rfl rfl rfl) ?_;refine go_u rfl rfl (oSb 0 sizeOf24 rfl rfl rfl rfl rfl rfl rfl rfl (Nat.le_of_ble_eq_true rfl)) ?_;rintro _ _ rfl;refine go_ms (ms' := [box b1 24 [_, _]]) rfl ?_;refine gNl (g_ret ?_);exact retK (ret_one' rfl (ret_cell 0 rfl rfl rfl isAgg24 sizeOf24 rfl) (perm_drop _)) (congrArg (fun (p : ApiType) => (ApiType.d p : D)) (some_eq hm))
noncomputable def m_below_Least (t1 : ApiType) : Option Bool :=
 (m_graph_Leaf 2).bind fun x1 =>
 (m_below_Below t1 x1).bind fun (x2, x3) =>
 some x2
theorem w_below_Least {t1 : ApiType} {r_1 : Bool} (hm : m_below_Least t1 = some r_1) : Fn0 Tryz.prog 29 [ApiType.d t1] (.bool r_1) := by
 unfold m_below_Least at hm;refine fn_intro func29 rfl ntmps29 rfl fun H0 fr w0 => ?_;refine g_seq (gRg ?_);refine go_p rfl rfl rfl (o_box rfl rfl) ?_;refine go_p rfl rfl rfl (oAs rfl) ?_;refine gNl (g_seq ?_);obtain ⟨x1, hx1, hm⟩ := bind_some hm;obtain ⟨⟨x2, x3⟩, hx2, hm⟩ := bind_some hm;refine g_draw 8 Tryz_mixed (by decide +kernel) ?_;refine gd_p rfl rfl rfl (o_load_agg isAgg24 sizeOf24 rfl rfl) ?_;refine gd_p rfl rfl rfl (o_call0 call60 rfl (w_graph_Leaf hx1)) ?_;refine gd_p rfl rfl rfl (o_call0 call26 rfl (w_below_Below hx2)) ?_;refine gd_p rfl rfl rfl (oMv rfl) ?_;refine gd_p rfl rfl rfl (o_extract rfl rfl) ?_;refine gd_p rfl rfl rfl (o_extract rfl rfl) ?_;refine gd_p rfl rfl rfl (oAs rfl) ?_;refine gd_p rfl rfl rfl (oAs rfl) ?_;refine gd_nil ?_;refine gNl (g_seq (gRg ?_));refine go_p rfl rfl rfl (oMv rfl) ?_;refine go_p rfl rfl rfl (oAs rfl) ?_;refine gNl (g_ret ?_);exact retK (ret_one' rfl (ret_tmp rfl) (perm_drop _)) (congrArg (fun (p : Bool) => (.bool p : D)) (some_eq hm))
noncomputable def m_lb_works  : Option Bool :=
 (m_below_Below (⟨[(⟨3, 0, 0, ([] : List ApiTField)⟩ : ApiTNode), (⟨6, 0, 0, ([] : List ApiTField)⟩ : ApiTNode)], 1⟩ : ApiType) (⟨[(⟨3, 0, 0, ([] : List ApiTField)⟩ : ApiTNode), (⟨4, 0, 0, ([] : List ApiTField)⟩ : ApiTNode), (⟨10, 0, 1, ([] : List ApiTField)⟩ : ApiTNode), (⟨1, 0, 0, ([] : List ApiTField)⟩ : ApiTNode), (⟨6, 2, 3, ([] : List ApiTField)⟩ : ApiTNode)], 4⟩ : ApiType)).bind fun (x1, x2) =>
 (m_below_Below (⟨[(⟨3, 0, 0, ([] : List ApiTField)⟩ : ApiTNode), (⟨4, 0, 0, ([] : List ApiTField)⟩ : ApiTNode), (⟨10, 0, 1, ([] : List ApiTField)⟩ : ApiTNode), (⟨1, 0, 0, ([] : List ApiTField)⟩ : ApiTNode), (⟨6, 2, 3, ([] : List ApiTField)⟩ : ApiTNode)], 4⟩ : ApiType) (⟨[(⟨3, 0, 0, ([] : List ApiTField)⟩ : ApiTNode), (⟨6, 0, 0, ([] : List ApiTField)⟩ : ApiTNode)], 1⟩ : ApiType)).bind fun (x3, x4) =>
 (bif (((x1 && (decide (x2 = 0))) && (!x3)) && (decide (x4 = 0))) then ((m_graph_Leaf 2).bind fun x5 =>
 (m_below_Least x5).bind fun x6 =>
 some x6) else (some false)).bind fun p1 =>
 (bif p1 then ((m_below_Least (⟨[(⟨3, 0, 0, ([] : List ApiTField)⟩ : ApiTNode), (⟨6, 0, 0, ([] : List ApiTField)⟩ : ApiTNode)], 1⟩ : ApiType)).bind fun x7 =>
 some (!x7)) else (some false)).bind fun p2 =>
 some p2
theorem w_lb_works  {r_1 : Bool} (hm : m_lb_works = some r_1) : Fn0 Tryz.prog 17 [] (.bool r_1) := by
 unfold m_lb_works at hm;refine fn_intro func17 rfl ntmps17 rfl fun H0 fr w0 => ?_;refine g_seq (gRg ?_);refine go_p rfl rfl rfl (oAs rfl) ?_;refine gNl (g_seq (gRg ?_));refine go_p rfl rfl rfl (o_build (zs := [.v (.int .i64 0), .v (.int .i64 0), .v (.int .i64 0), .list 2 ApiTField.d []]) runUnderlying44 zeroValue44 (pl_44 _ runUnderlying44) rfl rfl rfl rfl) ?_;refine go_p rfl rfl rfl (o_build (zs := [.v (.int .i64 0), .v (.int .i64 0), .v (.int .i64 0), .list 2 ApiTField.d []]) runUnderlying44 zeroValue44 (pl_44 _ runUnderlying44) rfl rfl rfl rfl) ?_;refine go_p rfl rfl rfl (o_buildSlice (xs := [_, _]) (f := ApiTNode.d) (l := [(⟨3, 0, 0, ([] : List ApiTField)⟩ : ApiTNode), (⟨6, 0, 0, ([] : List ApiTField)⟩ : ApiTNode)]) runUnderlying22 sizeOf44 zeroValue44 rfl rfl rfl (fun _ => ⟨rfl, rfl, rfl⟩) rfl) ?_;refine go_p rfl rfl rfl (o_build (zs := [.list 4 ApiTNode.d [], .v (.int .i64 0)]) runUnderlying24 zeroValue24 (pl_24 _ runUnderlying24) rfl rfl rfl rfl) ?_;refine go_op rfl rfl rfl (o_alloc_own zeroValue24 (cs := [.list 4 ApiTNode.d [], .i64 0]) rfl) ?_;rintro _ _ ⟨b1, rfl, rfl⟩;refine go_u rfl rfl (oSb 0 sizeOf24 rfl rfl rfl rfl rfl rfl rfl rfl (Nat.le_of_ble_eq_true rfl)) ?_;rintro _ _ rfl;refine go_ms (ms' := [box b1 24 [_, _]]) rfl ?_;refine gNl (g_seq (gRg ?_));refine go_p rfl rfl rfl (o_build (zs := [.v (.int .i64 0), .v (.int .i64 0), .v (.int .i64 0), .list 2 ApiTField.d []]) runUnderlying44 zeroValue44 (pl_44 _ runUnderlying44) rfl rfl rfl rfl) ?_;refine go_p rfl rfl rfl (o_build (zs := [.v (.int .i64 0), .v (.int .i64 0), .v (.int .i64 0), .list 2 ApiTField.d []]) runUnderlying44 zeroValue44 (pl_44 _ runUnderlying44) rfl rfl rfl rfl) ?_;refine go_p rfl rfl rfl (o_build (zs := [.v (.int .i64 0), .v (.int .i64 0), .v (.int .i64 0), .list 2 ApiTField.d []]) runUnderlying44 zeroValue44 (pl_44 _ runUnderlying44) rfl rfl rfl rfl) ?_;refine go_p rfl rfl rfl (o_build (zs := [.v (.int .i64 0), .v (.int .i64 0), .v (.int .i64 0), .list 2 ApiTField.d []]) runUnderlying44 zeroValue44 (pl_44 _ runUnderlying44) rfl rfl rfl rfl) ?_;refine go_p rfl rfl rfl (o_build (zs := [.v (.int .i64 0), .v (.int .i64 0), .v (.int .i64 0), .list 2 ApiTField.d []]) runUnderlying44 zeroValue44 (pl_44 _ runUnderlying44) rfl rfl rfl rfl) ?_;refine go_p rfl rfl rfl (o_buildSlice (xs := [_, _, _, _, _]) (f := ApiTNode.d) (l := [(⟨3, 0, 0, ([] : List ApiTField)⟩ : ApiTNode), (⟨4, 0, 0, ([] : List ApiTField)⟩ : ApiTNode), (⟨10, 0, 1, ([] : List ApiTField)⟩ : ApiTNode), (⟨1, 0, 0, ([] : List ApiTField)⟩ : ApiTNode), (⟨6, 2, 3, ([] : List ApiTField)⟩ : ApiTNode)]) runUnderlying22 sizeOf44 zeroValue44 rfl rfl rfl (fun _ => ⟨rfl, rfl, rfl⟩) rfl) ?_;refine go_p rfl rfl rfl (o_build (zs := [.list 4 ApiTNode.d [], .v (.int .i64 0)]) runUnderlying24 zeroValue24 (pl_24 _ runUnderlying24) rfl rfl rfl rfl) ?_
 refine go_op rfl rfl rfl (o_alloc_own zeroValue24 (cs := [.list 4 ApiTNode.d [], .i64 0]) rfl) ?_;rintro _ _ ⟨b2, rfl, rfl⟩;refine go_u rfl rfl (oSb 0 sizeOf24 rfl rfl rfl rfl rfl rfl rfl rfl (Nat.le_of_ble_eq_true rfl)) ?_;rintro _ _ rfl;refine go_ms (ms' := [box b2 24 [_, _], box b1 24 [_, _]]) rfl ?_;refine gNl (g_seq (gRg ?_));refine go_p rfl rfl rfl (oLg 1 isAgg24 sizeOf24 rfl rfl rfl rfl (Nat.le_of_ble_eq_true rfl)) ?_;refine go_p rfl rfl rfl (oLg 0 isAgg24 sizeOf24 rfl rfl rfl rfl (Nat.le_of_ble_eq_true rfl)) ?_;obtain ⟨⟨x1, x2⟩, hx1, hm⟩ := bind_some hm;refine go_p rfl rfl rfl (o_call0 call26 rfl (w_below_Below hx1)) ?_;refine go_p rfl rfl rfl (oMv rfl) ?_;refine go_p rfl rfl rfl (o_extract rfl rfl) ?_;refine go_p rfl rfl rfl (o_extract rfl rfl) ?_;refine go_p rfl rfl rfl (oAs rfl) ?_;refine go_p rfl rfl rfl (oAs rfl) ?_;refine gNl (g_seq (gRg ?_));refine go_p rfl rfl rfl (oLg 0 isAgg24 sizeOf24 rfl rfl rfl rfl (Nat.le_of_ble_eq_true rfl)) ?_;refine go_p rfl rfl rfl (oLg 1 isAgg24 sizeOf24 rfl rfl rfl rfl (Nat.le_of_ble_eq_true rfl)) ?_;obtain ⟨⟨x3, x4⟩, hx2, hm⟩ := bind_some hm;refine go_p rfl rfl rfl (o_call0 call26 rfl (w_below_Below hx2)) ?_;refine go_p rfl rfl rfl (oMv rfl) ?_;refine go_p rfl rfl rfl (o_extract rfl rfl) ?_;refine go_p rfl rfl rfl (o_extract rfl rfl) ?_;refine go_p rfl rfl rfl (oAs rfl) ?_;refine go_p rfl rfl rfl (oAs rfl) ?_;refine gNl (g_seq (gRg ?_));refine go_p rfl rfl rfl (oMv rfl) ?_;refine go_p rfl rfl rfl (oMv rfl) ?_
 apply go_and [(1, _), (5, _), (6, _)] 3 34 (t := 31) ⟨rfl, rfl, rfl, trivial⟩ rfl
 ·intro hg_1 hk1
  refine gWp rfl rfl rfl hg_1 rfl rfl (oMv rfl) ?_;refine gWp rfl rfl rfl hg_1 rfl rfl (o_cmp rfl rfl rfl) ?_;refine go_p rfl rfl rfl (o_pickT rfl hg_1 rfl) ?_;exact gMt hk1 (rfl) ⟨rfl, rfl, rfl, trivial⟩
 ·intro hg_1 hk1
  refine gKp rfl rfl rfl hg_1 rfl rfl ?_;refine gKp rfl rfl rfl hg_1 rfl rfl ?_;refine go_p rfl rfl rfl (o_pickF rfl hg_1 rfl) ?_;exact gMt hk1 (rfl) ⟨rfl, rfl, rfl, trivial⟩
 refine go_p rfl rfl rfl (oMv rfl) ?_
 apply go_and [(1, _), (6, _)] 3 38 (t := 35) ⟨rfl, rfl, trivial⟩ rfl
 ·intro hg_2 hk2
  refine gWp rfl rfl rfl hg_2 rfl rfl (oMv rfl) ?_;refine gWp rfl rfl rfl hg_2 rfl rfl (o_not rfl) ?_;refine go_p rfl rfl rfl (o_pickT rfl hg_2 rfl) ?_;exact gMt hk2 (rfl) ⟨rfl, rfl, trivial⟩
 ·intro hg_2 hk2
  refine gKp rfl rfl rfl hg_2 rfl rfl ?_;refine gKp rfl rfl rfl hg_2 rfl rfl ?_;refine go_p rfl rfl rfl (o_pickF rfl hg_2 rfl) ?_;exact gMt hk2 (rfl) ⟨rfl, rfl, trivial⟩
 refine go_p rfl rfl rfl (oMv rfl) ?_
 apply go_and [(1, _)] 3 42 (t := 39) ⟨rfl, trivial⟩ rfl
 ·intro hg_3 hk3
  refine gWp rfl rfl rfl hg_3 rfl rfl (oMv rfl) ?_;refine gWp rfl rfl rfl hg_3 rfl rfl (o_cmp rfl rfl rfl) ?_;refine go_p rfl rfl rfl (o_pickT rfl hg_3 rfl) ?_;exact gMt hk3 (rfl) ⟨rfl, trivial⟩
 ·intro hg_3 hk3
  refine gKp rfl rfl rfl hg_3 rfl rfl ?_;refine gKp rfl rfl rfl hg_3 rfl rfl ?_;refine go_p rfl rfl rfl (o_pickF rfl hg_3 rfl) ?_;exact gMt hk3 (rfl) ⟨rfl, trivial⟩
 refine go_p rfl rfl rfl (oMv rfl) ?_;obtain ⟨p1, hp_4, hm⟩ := bind_some hm;refine go_two [(1, _)] 3 46 p1 (t := 43) ⟨rfl, trivial⟩ rfl (fun hg_4 hk4 => ?_) (fun hg_4 hk4 => ?_) ?_
 ·replace hp_4 := cond_t hg_4 hp_4
  obtain ⟨x5, hx3, hp_4⟩ := bind_some hp_4;refine gWp rfl rfl rfl hg_4 rfl rfl (o_call0 call60 rfl (w_graph_Leaf hx3)) ?_;obtain ⟨x6, hx4, hp_4⟩ := bind_some hp_4;refine gWp rfl rfl rfl hg_4 rfl rfl (o_call0 call29 rfl (w_below_Least hx4)) ?_;refine go_p rfl rfl rfl (o_pickT rfl hg_4 rfl) ?_;exact gMt hk4 (congrArg (fun b => some (D.bool b)) (some_eq hp_4)) ⟨rfl, trivial⟩
 ·replace hp_4 := cond_f hg_4 hp_4
  refine gKp rfl rfl rfl hg_4 rfl rfl ?_;refine gKp rfl rfl rfl hg_4 rfl rfl ?_;refine go_p rfl rfl rfl (o_pickF rfl hg_4 rfl) ?_;exact gMt hk4 (congrArg (fun b => some (D.bool b)) (some_eq hp_4)) ⟨rfl, trivial⟩
 refine go_p rfl rfl rfl (oMv rfl) ?_;obtain ⟨p2, hp_5, hm⟩ := bind_some hm;refine go_two [] 4 51 p2 (t := 47) trivial rfl (fun hg_5 hk5 => ?_) (fun hg_5 hk5 => ?_) ?_
 ·replace hp_5 := cond_t hg_5 hp_5
  refine gWp rfl rfl rfl hg_5 rfl rfl (oLg 1 isAgg24 sizeOf24 rfl rfl rfl rfl (Nat.le_of_ble_eq_true rfl)) ?_;obtain ⟨x7, hx5, hp_5⟩ := bind_some hp_5;refine gWp rfl rfl rfl hg_5 rfl rfl (o_call0 call29 rfl (w_below_Least hx5)) ?_;refine gWp rfl rfl rfl hg_5 rfl rfl (o_not rfl) ?_;refine go_p rfl rfl rfl (o_pickT rfl hg_5 rfl) ?_;exact gMt hk5 (congrArg (fun b => some (D.bool b)) (some_eq hp_5)) trivial
 ·replace hp_5 := cond_f hg_5 hp_5
  refine gKp rfl rfl rfl hg_5 rfl rfl ?_;refine gKp rfl rfl rfl hg_5 rfl rfl ?_;refine gKp rfl rfl rfl hg_5 rfl rfl ?_;refine go_p rfl rfl rfl (o_pickF rfl hg_5 rfl) ?_;exact gMt hk5 (congrArg (fun b => some (D.bool b)) (some_eq hp_5)) trivial
 refine go_p rfl rfl rfl (oAs rfl) ?_;refine gNl (g_ret ?_);exact retK (ret_one' rfl (ret_tmp rfl) (perm_drop _)) (congrArg (fun (p : Bool) => (.bool p : D)) (some_eq hm))
structure RSeq where
 l : (List Int)
 r : (List Int)
def RSeq.d (x : RSeq) : D := .agg [.list 1 D.i64 x.l, .list 1 D.i64 x.r]
theorem pl_98 : ∀ fs, (∀ w, (underlying 98).run Tryz.prog w = .ok (.struct fs) w) -> placesOf Tryz.prog fs [(0, 1), (1, 1)] := by
 intro fs h w
 have := (h w).symm.trans (runUnderlying98 w)
 simp only [Result.ok.injEq, TypeDesc.struct.injEq, and_true] at this;subst this
 simp [sizeOf3, sizeOf9, Sem.run]
noncomputable def m_ref13_GraftO_l2 (a1 : ApiType) (z6 : (List ApiTField)) : Nat -> (Int × (List ApiTField)) -> Option (List ApiTField)
 | 0, _ => none
 | n + 1, (k1, l4) =>
  bif (decide (k1 < (z6.length : Int))) then
   (idx z6 k1).bind fun x2 =>
   (idx z6 k1).bind fun x3 =>
   grd (InR (x3.at_ + (a1.l.length : Int))) <|
   grd ((l4.length + ([(⟨x2.name, (x3.at_ + (a1.l.length : Int))⟩ : ApiTField)] : List _).length) * 24 <= 140737488355328) <|
   grd (InR (k1 + 1)) <|
   m_ref13_GraftO_l2 a1 z6 n ((k1 + 1), (l4 ++ [(⟨x2.name, (x3.at_ + (a1.l.length : Int))⟩ : ApiTField)]))
  else
   some l4
noncomputable def m_ref13_GraftO_l1 (a1 : ApiType) (bv1 : ApiType) : Nat -> (Int × Int × (List ApiTNode)) -> Option (Int × (List ApiTNode))
 | 0, _ => none
 | n + 1, (i1, z2, l2) =>
  bif (decide (i1 < (bv1.l.length : Int))) then
   (idx bv1.l i1).bind fun x1 =>
   (bif (((decide (x1.kind = 6)) || (decide (x1.kind = 9))) || (decide (x1.kind = 10))) then
    grd (InR (x1.a + (a1.l.length : Int))) <|
    grd (InR (x1.b + (a1.l.length : Int))) <|
    some (x1.kind, (x1.a + (a1.l.length : Int)), (x1.b + (a1.l.length : Int)), x1.l)
   else
    some (x1.kind, x1.a, x1.b, x1.l) : Option (Int × Int × Int × (List ApiTField))).bind fun (z3, z4, z5, z6) =>
   (m_ref13_GraftO_l2 a1 z6 FU (0, []) : Option (List ApiTField)).bind fun l3 =>
   grd ((l2.length + ([(⟨z3, z4, z5, l3⟩ : ApiTNode)] : List _).length) * 48 <= 140737488355328) <|
   grd (InR (i1 + 1)) <|
   m_ref13_GraftO_l1 a1 bv1 n ((i1 + 1), z2, (l2 ++ [(⟨z3, z4, z5, l3⟩ : ApiTNode)]))
  else
   some (z2, l2)
noncomputable def m_ref13_GraftO (a1 : ApiType) (bv1 : ApiType)  : Option (Int × ApiType) :=
 grd ((0 + a1.l.length) * 48 <= 140737488355328) <|
 (m_ref13_GraftO_l1 a1 bv1 FU (0, a1.root, ([] ++ a1.l)) : Option (Int × (List ApiTNode))).bind fun (z1, l1) =>
 some ((a1.l.length : Int), (⟨l1, z1⟩ : ApiType))
theorem w_ref13_GraftO {a1 : ApiType} {bv1 : ApiType}  {r_2 : Int} {s_1 : ApiType} (hm : m_ref13_GraftO a1 bv1 = some (r_2, s_1)) : Go.V.Fn Tryz.prog 67 [ApiType.d a1, ApiType.d bv1] [] (fun d ms' => ∃ a_s_1c0 m_s_1c0 cap_s_1c0, d = .tup [.agg [.v (.slice a_s_1c0 m_s_1c0 cap_s_1c0), .i64 s_1.root], .i64 r_2] /\ ms' = [arr a_s_1c0 m_s_1c0 cap_s_1c0 44 4 ApiTNode.d s_1.l]) := by
 unfold m_ref13_GraftO at hm;refine fn_intro func67 rfl ntmps67 rfl fun H0 fr w0 => ?_;refine g_seq (gRg ?_);refine go_p rfl rfl rfl (o_box rfl rfl) ?_;refine go_p rfl rfl rfl (o_box rfl rfl) ?_;refine go_op rfl rfl rfl (o_alloc_own zeroValue24 (cs := [.list 4 ApiTNode.d [], .i64 0]) rfl) ?_;rintro _ _ ⟨b1, rfl, rfl⟩;refine go_p rfl rfl rfl (oAs rfl) ?_;refine gNl (g_seq ?_);obtain ⟨hg1, hm⟩ := grd_some hm;refine g_draw_x [0, 3, 6] [8] [1, 2, 4, 5] [7] [] Tryz_mixed (by decide +kernel) (by decide +kernel) rfl ?_;refine gdx_e rfl ?_;refine gdx_p rfl rfl rfl rfl rfl rfl (oFa fi_24_0 rfl rfl rfl) ?_;refine gdx_p rfl rfl rfl rfl rfl rfl (o_load isAgg22 rfl rfl) ?_;refine gdx_e rfl ?_;refine gdx_p rfl rfl rfl rfl rfl rfl (oFa fi_24_1 rfl rfl rfl) ?_;refine gdx_p rfl rfl rfl rfl rfl rfl (o_load isAgg3 rfl rfl) ?_;refine gdx_e rfl ?_;refine gdx_fresh (R0 := fun d A => ∃ b, d = .v (.pointer (some ⟨b, 0, none⟩)) /\ A = box b 24 [.list 4 ApiTNode.d [], .i64 0]) rfl rfl rfl rfl (OpT.mono (o_alloc_own zeroValue24 (cs := [.list 4 ApiTNode.d [], .i64 0]) rfl) (by rintro d ms' ⟨b, rfl, rfl⟩; exact ⟨_, ⟨b, rfl, rfl⟩, rfl⟩)) ?_;refine gdx_e rfl ?_;refine gdx_nil ?_;refine gf_t rfl rfl rfl rfl (o_buildSlice_arr (xs := []) (f := ApiTNode.d) (l := []) runUnderlying22 sizeOf44 zeroValue44 rfl rfl rfl (fun _ => ⟨rfl, rfl, rfl⟩) rfl (by simp [maxLen])) ?_;rintro _ _ ⟨a_r1, m_r1, cap_r1, rfl, rfl⟩;refine ⟨(trivial : True), ?_⟩;refine gf_t rfl rfl rfl rfl (o_append_own (a := _) 0 underlying22 type44 rfl rfl rfl rfl rfl rfl (fun _ => rfl) (fun _ => rfl) hg1 (app_len hg1 rfl)) ?_;rintro _ _ ⟨a_r1, m_r1, cap_r1, rfl, rfl⟩;refine ⟨(trivial : True), ?_⟩;refine gf_t rfl rfl rfl rfl (o_build (zs := [.list 4 ApiTNode.d [], .v (.int .i64 0)]) runUnderlying24 zeroValue24 (pl_24 _ runUnderlying24) rfl rfl rfl rfl) ?_;rintro _ _ ⟨rfl, rfl⟩;refine ⟨(trivial : True), ?_⟩;refine gf_nil [(7, 6)] rfl ?_;rintro _ _ ⟨b2, rfl, rfl⟩
 show _ /\ _
 refine ⟨(trivial : True), ?_⟩;refine gde2_u rfl rfl rfl (oSb 0 sizeOf24 rfl rfl rfl rfl rfl rfl rfl rfl (Nat.le_of_ble_eq_true rfl)) ?_;rintro _ _ rfl;refine ⟨(trivial : True), ?_⟩;refine gde2_nil ?_;refine g_seq (gRg ?_);refine go_p rfl rfl rfl (oFa fi_24_0 rfl rfl rfl) ?_;refine go_p rfl rfl rfl (o_load isAgg22 rfl rfl) ?_;refine go_p rfl rfl rfl (o_len runUnderlying22 rfl) ?_;refine go_p rfl rfl rfl (oAs rfl) ?_;refine gNl (g_seq (g_seq (gRg ?_)));refine go_p rfl rfl rfl (oAs rfl) ?_;refine gNl ?_;obtain ⟨o_1, hj1, hm1⟩ := bind_some hm;refine g_cut_m [(4, _), (6, _), (7, _)] [(2, _)] (fun (st : (Int × (List ApiTNode))) (hid : (Option Addr × Nat × Nat)) => match st, hid with | (z1, l1), (a_r1, m_r1, cap_r1) => []) (fun F (st : (Int × (List ApiTNode))) (hid : (Option Addr × Nat × Nat)) => match st, hid with | (z1, l1), (a_r1, m_r1, cap_r1) => [box b2 24 [.v (.slice a_r1 m_r1 cap_r1), .i64 z1], arr a_r1 m_r1 cap_r1 44 4 ApiTNode.d l1, (nthF F 0)]) (fun st => st = o_1) ⟨rfl, rfl, rfl, trivial⟩ ⟨rfl, trivial⟩ ?_ ?_
 ·skip
  refine g_block ?_;refine g_loop_m [(3, _), (4, _), (6, _), (7, _)] [(2, _)] (fun (st : (Int × Int × (List ApiTNode))) (hid : (Option Addr × Nat × Nat)) => match st, hid with | (i1, z2, l2), (a_r1, m_r1, cap_r1) => [(8, .i64 i1)]) (fun F (st : (Int × Int × (List ApiTNode))) (hid : (Option Addr × Nat × Nat)) => match st, hid with | (i1, z2, l2), (a_r1, m_r1, cap_r1) => [box b2 24 [.v (.slice a_r1 m_r1 cap_r1), .i64 z2], arr a_r1 m_r1 cap_r1 44 4 ApiTNode.d l2, (nthF F 0)]) (_, _, _) hj1 (fun _ => rfl) ⟨rfl, rfl, rfl, rfl, trivial⟩ ⟨rfl, trivial⟩ ⟨rfl, trivial⟩ rfl ?_;rintro n ⟨i1, z2, l2⟩ ⟨a_r1, m_r1, cap_r1⟩ hj1;rw [m_ref13_GraftO_l1] at hj1;refine g_norm (L' := [(8, .i64 i1), (3, _), (4, _), (6, _), (7, _)]) (ms' := [box b2 24 [.v (.slice a_r1 m_r1 cap_r1), .i64 z2], arr a_r1 m_r1 cap_r1 44 4 ApiTNode.d l2, _]) rfl rfl ?_;refine g_seq (g_seq (gRg ?_));refine go_p rfl rfl rfl (oMv rfl) ?_;refine go_p rfl rfl rfl (oFa fi_24_0 rfl rfl rfl) ?_;refine go_p rfl rfl rfl (o_load isAgg22 rfl rfl) ?_;refine go_p rfl rfl rfl (o_len runUnderlying22 rfl) ?_;refine go_p rfl rfl rfl (o_cmp rfl rfl rfl) ?_;refine gNl ?_;refine gCd rfl (fun hc1 => ?_) (fun hc1 => ?_)
  ·replace hj1 := cond_t hc1 hj1
   refine gSp (g_seq (g_block (g_seq (gRg ?_))));refine go_p rfl rfl rfl (oFa fi_24_0 rfl rfl rfl) ?_;refine go_p rfl rfl rfl (o_load isAgg22 rfl rfl) ?_;refine go_p rfl rfl rfl (oMv rfl) ?_;obtain ⟨x1, hx2, hj1⟩ := bind_some hj1;refine go_p rfl rfl rfl (oIm runUnderlying22 sizeOf44 rfl rfl hx2) ?_;refine go_p rfl rfl rfl (o_load_agg isAgg44 sizeOf44 rfl rfl) ?_;refine go_op rfl rfl rfl (o_alloc_own zeroValue44 (cs := [.i64 0, .i64 0, .i64 0, .list 2 ApiTField.d []]) rfl) ?_;rintro _ _ ⟨b3, rfl, rfl⟩;refine go_u rfl rfl (oSb 0 sizeOf44 rfl rfl rfl rfl rfl rfl rfl rfl (Nat.le_of_ble_eq_true rfl)) ?_;rintro _ _ rfl;refine go_ms (ms' := [box b3 44 [_, _, _, _], box b2 24 [_, _], _, box b1 24 [_, _]]) rfl ?_;refine gNl (g_seq (g_seq (gRg ?_)));refine go_p rfl rfl rfl (oFb fi_44_0 rfl) ?_;refine go_p rfl rfl rfl (oLb 0 isAgg3 rfl rfl rfl rfl) ?_;refine go_p rfl rfl rfl (o_cmp rfl rfl rfl) ?_;refine go_p rfl rfl rfl (oMv rfl) ?_
   apply go_or [(3, _), (4, _), (6, _), (7, _), (8, _), (9, _)] 4 41 (t := 37) ⟨rfl, rfl, rfl, rfl, rfl, rfl, trivial⟩ rfl
   ·intro hg_1 hk1
    refine gWp rfl rfl rfl hg_1 rfl rfl (oFb fi_44_0 rfl) ?_;refine gWp rfl rfl rfl hg_1 rfl rfl (oLb 0 isAgg3 rfl rfl rfl rfl) ?_;refine gWp rfl rfl rfl hg_1 rfl rfl (o_cmp rfl rfl rfl) ?_;refine go_p rfl rfl rfl (o_pickF rfl hg_1 rfl) ?_;exact gMt hk1 (rfl) ⟨rfl, rfl, rfl, rfl, rfl, rfl, trivial⟩
   ·intro hg_1 hk1
    refine gKp rfl rfl rfl hg_1 rfl rfl ?_;refine gKp rfl rfl rfl hg_1 rfl rfl ?_;refine gKp rfl rfl rfl hg_1 rfl rfl ?_;refine go_p rfl rfl rfl (o_pickT rfl hg_1 rfl) ?_;exact gMt hk1 (rfl) ⟨rfl, rfl, rfl, rfl, rfl, rfl, trivial⟩
   refine go_p rfl rfl rfl (oMv rfl) ?_
   apply go_or [(3, _), (4, _), (6, _), (7, _), (8, _), (9, _)] 4 46 (t := 42) ⟨rfl, rfl, rfl, rfl, rfl, rfl, trivial⟩ rfl
   ·intro hg_2 hk2
    refine gWp rfl rfl rfl hg_2 rfl rfl (oFb fi_44_0 rfl) ?_;refine gWp rfl rfl rfl hg_2 rfl rfl (oLb 0 isAgg3 rfl rfl rfl rfl) ?_;refine gWp rfl rfl rfl hg_2 rfl rfl (o_cmp rfl rfl rfl) ?_;refine go_p rfl rfl rfl (o_pickF rfl hg_2 rfl) ?_;exact gMt hk2 (rfl) ⟨rfl, rfl, rfl, rfl, rfl, rfl, trivial⟩
   ·intro hg_2 hk2
    refine gKp rfl rfl rfl hg_2 rfl rfl ?_;refine gKp rfl rfl rfl hg_2 rfl rfl ?_;refine gKp rfl rfl rfl hg_2 rfl rfl ?_;refine go_p rfl rfl rfl (o_pickT rfl hg_2 rfl) ?_;exact gMt hk2 (rfl) ⟨rfl, rfl, rfl, rfl, rfl, rfl, trivial⟩
   refine gNl ?_;obtain ⟨o_2, hj2, hm2⟩ := bind_some hj1;refine g_cut_m [(3, _), (4, _), (6, _), (7, _), (8, _), (9, _)] [(1, _), (2, _), (3, _)] (fun (st : (Int × Int × Int × (List ApiTField))) (hid : Unit) => match st, hid with | (z3, z4, z5, z6), _ => []) (fun F (st : (Int × Int × Int × (List ApiTField))) (hid : Unit) => match st, hid with | (z3, z4, z5, z6), _ => [box b3 44 [.i64 z3, .i64 z4, .i64 z5, .list 2 ApiTField.d z6], (nthF F 0), (nthF F 1), (nthF F 2)]) (fun st => st = o_2) ⟨rfl, rfl, rfl, rfl, rfl, rfl, trivial⟩ ⟨rfl, rfl, rfl, trivial⟩ ?_ ?_
   ·skip
    refine gCd rfl (fun hc2 => ?_) (fun hc2 => ?_)
    ·replace hj2 := cond_t hc2 hj2
     refine gRg ?_;refine go_p rfl rfl rfl (oFb fi_44_1 rfl) ?_;refine go_p rfl rfl rfl (oLb 0 isAgg3 rfl rfl rfl rfl) ?_;refine go_p rfl rfl rfl (oMv rfl) ?_;obtain ⟨hg3, hj2⟩ := grd_some hj2;refine go_p rfl rfl rfl (o_add rfl rfl (i64_id hg3)) ?_;refine go_p rfl rfl rfl (oFb fi_44_2 rfl) ?_;refine go_p rfl rfl rfl (oLb 0 isAgg3 rfl rfl rfl rfl) ?_;refine go_p rfl rfl rfl (oMv rfl) ?_;obtain ⟨hg4, hj2⟩ := grd_some hj2;refine go_p rfl rfl rfl (o_add rfl rfl (i64_id hg4)) ?_;refine go_p rfl rfl rfl (oFb fi_44_1 rfl) ?_;refine go_u rfl rfl (oSb 0 sizeOf3 rfl rfl rfl rfl rfl rfl rfl rfl (Nat.le_of_ble_eq_true rfl)) ?_;rintro _ _ rfl;refine go_ms (ms' := [box b3 44 [_, _, _, _], box b2 24 [_, _], _, box b1 24 [_, _]]) rfl ?_;refine go_p rfl rfl rfl (oFb fi_44_2 rfl) ?_;refine go_u rfl rfl (oSb 0 sizeOf3 rfl rfl rfl rfl rfl rfl rfl rfl (Nat.le_of_ble_eq_true rfl)) ?_;rintro _ _ rfl;refine go_ms (ms' := [box b3 44 [_, _, _, _], box b2 24 [_, _], _, box b1 24 [_, _]]) rfl ?_;refine gNl ?_;exact ⟨_, (), some_eq hj2, trivial, ⟨rfl, rfl, rfl, rfl, rfl, rfl, trivial⟩, [], rfl⟩
    ·replace hj2 := cond_f hc2 hj2
     refine gSp ?_;exact ⟨_, (), some_eq hj2, trivial, ⟨rfl, rfl, rfl, rfl, rfl, rfl, trivial⟩, [], rfl⟩
   ·rintro ⟨z3, z4, z5, z6⟩ _ hst
    subst hst;refine k_norm (L' := [(3, _), (4, _), (6, _), (7, _), (8, _), (9, _)]) (ms' := [box b3 44 [.i64 z3, .i64 z4, .i64 z5, .list 2 ApiTField.d z6], _, _, _]) rfl rfl ?_;refine g_seq (gRg ?_);refine go_op rfl rfl rfl (o_buildSlice_row (xs := []) (f := ApiTField.d) (l := []) runUnderlying42 sizeOf98 zeroValue98 rfl rfl rfl (fun _ => ⟨rfl, rfl, rfl⟩) rfl (by simp [maxLen])) ?_;rintro _ _ ⟨a_r2, rfl, rfl⟩;refine go_p rfl rfl rfl (oAs rfl) ?_;refine gNl (g_seq (g_seq (gRg ?_)));refine go_p rfl rfl rfl (oAs rfl) ?_;refine gNl ?_;obtain ⟨o_3, hj3, hm3⟩ := bind_some hm2;refine g_cut_m [(3, _), (4, _), (6, _), (7, _), (8, _), (9, _)] [(1, _), (2, _), (3, _), (4, _)] (fun (st : (List ApiTField)) (hid : (Option Addr × Nat)) => match st, hid with | l3, (a_r2, cap_r2) => [(10, .v (.slice a_r2 l3.length cap_r2))]) (fun F (st : (List ApiTField)) (hid : (Option Addr × Nat)) => match st, hid with | l3, (a_r2, cap_r2) => [row a_r2 cap_r2 98 2 ApiTField.d l3, (nthF F 0), (nthF F 1), (nthF F 2), (nthF F 3)]) (fun st => st = o_3) ⟨rfl, rfl, rfl, rfl, rfl, rfl, trivial⟩ ⟨rfl, rfl, rfl, rfl, trivial⟩ ?_ ?_
    ·skip
     refine g_block ?_;refine g_loop_m [(3, _), (4, _), (6, _), (7, _), (8, _), (9, _)] [(1, _), (2, _), (3, _), (4, _)] (fun (st : (Int × (List ApiTField))) (hid : (Option Addr × Nat)) => match st, hid with | (k1, l4), (a_r2, cap_r2) => [(10, .v (.slice a_r2 l4.length cap_r2)), (11, .i64 k1)]) (fun F (st : (Int × (List ApiTField))) (hid : (Option Addr × Nat)) => match st, hid with | (k1, l4), (a_r2, cap_r2) => [row a_r2 cap_r2 98 2 ApiTField.d l4, (nthF F 0), (nthF F 1), (nthF F 2), (nthF F 3)]) (_, _) hj3 (fun _ => rfl) ⟨rfl, rfl, rfl, rfl, rfl, rfl, trivial⟩ ⟨rfl, rfl, rfl, rfl, trivial⟩ ⟨rfl, rfl, trivial⟩ rfl ?_;rintro n ⟨k1, l4⟩ ⟨a_r2, cap_r2⟩ hj3;rw [m_ref13_GraftO_l2] at hj3;refine g_norm (L' := [(10, .v (.slice a_r2 l4.length cap_r2)), (11, .i64 k1), (3, _), (4, _), (6, _), (7, _), (8, _), (9, _)]) (ms' := [row a_r2 cap_r2 98 2 ApiTField.d l4, _, _, _, _]) rfl rfl ?_;refine g_seq (g_seq (gRg ?_));refine go_p rfl rfl rfl (oMv rfl) ?_;refine go_p rfl rfl rfl (oFb fi_44_3 rfl) ?_;refine go_p rfl rfl rfl (oLb 1 isAgg42 rfl rfl rfl rfl) ?_;refine go_p rfl rfl rfl (o_len runUnderlying42 rfl) ?_;refine go_p rfl rfl rfl (o_cmp rfl rfl rfl) ?_;refine gNl ?_;refine gCd rfl (fun hc3 => ?_) (fun hc3 => ?_)
     ·replace hj3 := cond_t hc3 hj3
      refine gSp (g_seq (g_block ?_));obtain ⟨x2, hx5, hj3⟩ := bind_some hj3;obtain ⟨x3, hx6, hj3⟩ := bind_some hj3;obtain ⟨hg7, hj3⟩ := grd_some hj3;refine g_draw 17 Tryz_mixed (by decide +kernel) ?_;refine gd_p rfl rfl rfl (oMv rfl) ?_;refine gd_p rfl rfl rfl (oFb fi_44_3 rfl) ?_;refine gd_p rfl rfl rfl (oLb 1 isAgg42 rfl rfl rfl rfl) ?_;refine gd_p rfl rfl rfl (oMv rfl) ?_;refine gd_p rfl rfl rfl (oIm runUnderlying42 sizeOf98 rfl rfl hx5) ?_;refine gd_p rfl rfl rfl (oFa fi_98_0 rfl rfl rfl) ?_;refine gd_p rfl rfl rfl (o_load isAgg9 rfl rfl) ?_;refine gd_p rfl rfl rfl (oFb fi_44_3 rfl) ?_;refine gd_p rfl rfl rfl (oLb 1 isAgg42 rfl rfl rfl rfl) ?_;refine gd_p rfl rfl rfl (oMv rfl) ?_;refine gd_p rfl rfl rfl (oIm runUnderlying42 sizeOf98 rfl rfl hx6) ?_;refine gd_p rfl rfl rfl (oFa fi_98_1 rfl rfl rfl) ?_;refine gd_p rfl rfl rfl (o_load isAgg3 rfl rfl) ?_;refine gd_p rfl rfl rfl (oMv rfl) ?_;refine gd_p rfl rfl rfl (o_add rfl rfl (i64_id hg7)) ?_;refine gd_p rfl rfl rfl (o_build (zs := [.str [], .v (.int .i64 0)]) runUnderlying98 zeroValue98 (pl_98 _ runUnderlying98) rfl rfl rfl rfl) ?_;refine gd_p rfl rfl rfl (o_buildSlice (xs := [_]) (f := ApiTField.d) (l := [(⟨x2.name, (x3.at_ + (a1.l.length : Int))⟩ : ApiTField)]) runUnderlying42 sizeOf98 zeroValue98 rfl rfl rfl (fun _ => ⟨rfl, rfl, rfl⟩) rfl) ?_;refine gd_nil ?_;obtain ⟨hg8, hj3⟩ := grd_some hj3;refine go_op rfl rfl rfl (o_append (a := _) 0 underlying42 type98 rfl rfl rfl rfl rfl rfl rfl (fun _ => rfl) (fun _ => rfl) hg8 (app_len hg8 rfl)) ?_;rintro _ _ ⟨a_r2, cap_r2, rfl, rfl⟩;refine go_ms (ms' := [_, box b3 44 [_, _, _, _], box b2 24 [_, _], _, box b1 24 [_, _]]) rfl ?_;refine go_p rfl rfl rfl (oAs rfl) ?_;refine gNl (gRg ?_);refine go_p rfl rfl rfl (oMv rfl) ?_;obtain ⟨hg9, hj3⟩ := grd_some hj3;refine go_p rfl rfl rfl (o_add rfl rfl (i64_id hg9)) ?_;refine go_p rfl rfl rfl (oAs rfl) ?_;refine gNl ?_;exact ⟨_, (_, _), hj3, ⟨rfl, rfl, trivial⟩, ⟨rfl, rfl, rfl, rfl, rfl, rfl, trivial⟩, [], rfl⟩
     ·replace hj3 := cond_f hc3 hj3
      refine g_exit ?_;exact ⟨_, (_, _), some_eq hj3, ⟨rfl, trivial⟩, ⟨rfl, rfl, rfl, rfl, rfl, rfl, trivial⟩, [], rfl⟩
    ·rintro l3 ⟨a_r2, cap_r2⟩ hst
     subst hst;refine k_norm (L' := [(10, .v (.slice a_r2 l3.length cap_r2)), (3, _), (4, _), (6, _), (7, _), (8, _), (9, _)]) (ms' := [row a_r2 cap_r2 98 2 ApiTField.d l3, _, _, _, _]) rfl rfl ?_;refine g_seq (gRg ?_);refine go_p rfl rfl rfl (oMv rfl) ?_;refine go_p rfl rfl rfl (oFb fi_44_3 rfl) ?_;refine go_u rfl rfl (oSb 1 sizeOf42 rfl rfl rfl rfl rfl rfl rfl rfl (Nat.le_of_ble_eq_true rfl)) ?_;rintro _ _ rfl;refine go_ms (ms' := [_, box b3 44 [_, _, _, _], box b2 24 [_, _], _, box b1 24 [_, _]]) rfl ?_;refine gNl (gRg ?_);refine go_p rfl rfl rfl (oFb fi_24_0 rfl) ?_;refine go_p rfl rfl rfl (oLb 2 isAgg22 rfl rfl rfl rfl) ?_;refine go_p rfl rfl rfl (oLg 1 isAgg44 sizeOf44 rfl rfl rfl rfl (Nat.le_of_ble_eq_true rfl)) ?_;refine go_conv (peekAggE (i := 87) (q := 3) 0 rfl rfl rfl rfl rfl).refines ?_;refine go_p rfl rfl rfl (o_buildSlice (xs := [_]) (f := ApiTNode.d) (l := [(⟨z3, z4, z5, l3⟩ : ApiTNode)]) runUnderlying22 sizeOf44 zeroValue44 rfl rfl rfl (fun _ => ⟨rfl, rfl, rfl⟩) rfl) ?_;obtain ⟨hg10, hm3⟩ := grd_some hm3;refine go_op rfl rfl rfl (o_append_own (a := _) 3 underlying22 type44 rfl rfl rfl rfl rfl rfl (fun _ => rfl) (fun _ => rfl) hg10 (app_len hg10 rfl)) ?_;rintro _ _ ⟨a_r1, m_r1, cap_r1, rfl, rfl⟩;refine go_ms (ms' := [_, box b3 44 [_, _, _, _], box b2 24 [_, _], _, box b1 24 [_, _]]) rfl ?_;refine go_p rfl rfl rfl (oFb fi_24_0 rfl) ?_;refine go_u rfl rfl (oSb 2 sizeOf22 rfl rfl rfl rfl rfl rfl rfl rfl (Nat.le_of_ble_eq_true rfl)) ?_;rintro _ _ rfl;refine go_ms (ms' := [_, box b3 44 [_, _, _, _], box b2 24 [_, _], _, box b1 24 [_, _]]) rfl ?_;refine gNl (gRg ?_);refine go_p rfl rfl rfl (oMv rfl) ?_;obtain ⟨hg11, hm3⟩ := grd_some hm3;refine go_p rfl rfl rfl (o_add rfl rfl (i64_id hg11)) ?_;refine go_p rfl rfl rfl (oAs rfl) ?_;refine gNl ?_;exact ⟨_, (_, _, _), hm3, ⟨rfl, trivial⟩, ⟨rfl, rfl, rfl, rfl, trivial⟩, [_, _], rfl⟩
  ·replace hj1 := cond_f hc1 hj1
   refine g_exit ?_;exact ⟨_, (_, _, _), some_eq hj1, trivial, ⟨rfl, rfl, rfl, trivial⟩, [], rfl⟩
 ·rintro ⟨z1, l1⟩ ⟨a_r1, m_r1, cap_r1⟩ hst
  subst hst;refine k_norm (L' := [(4, _), (6, _), (7, _)]) (ms' := [box b2 24 [.v (.slice a_r1 m_r1 cap_r1), .i64 z1], arr a_r1 m_r1 cap_r1 44 4 ApiTNode.d l1, _]) rfl rfl ?_;refine g_seq (gRg ?_);refine go_p rfl rfl rfl (oLg 0 isAgg24 sizeOf24 rfl rfl rfl rfl (Nat.le_of_ble_eq_true rfl)) ?_;refine go_p rfl rfl rfl (oMv rfl) ?_;refine go_u rfl rfl (oSb 2 sizeOf24 rfl rfl rfl rfl rfl rfl rfl rfl (Nat.le_of_ble_eq_true rfl)) ?_;rintro _ _ rfl;refine go_ms (ms' := [box b2 24 [_, _], _, box b1 24 [_, _]]) rfl ?_;refine go_p rfl rfl rfl (oAs rfl) ?_;refine gNl (g_ret ?_)
  have hq1 := some_eq hm1
  obtain ⟨rfl, rfl⟩ := Prod.mk.inj hq1;exact retK (ret_many (ds := [_, _]) rfl (by decide) ⟨ret_cell 2 rfl rfl rfl isAgg24 sizeOf24 rfl, ⟨ret_tmp rfl, rfl⟩⟩ (permA 1 rfl permN)) ⟨_, _, _, rfl, rfl⟩
noncomputable def m_lb_is (a1 : ApiType) (bv1 : ApiType) : Option Bool :=
 (m_below_Below a1 bv1).bind fun (x1, x2) =>
 some (x1 && (decide (x2 = 0)))
theorem w_lb_is {a1 : ApiType} {bv1 : ApiType} {r_1 : Bool} (hm : m_lb_is a1 bv1 = some r_1) : Fn0 Tryz.prog 35 [ApiType.d a1, ApiType.d bv1] (.bool r_1) := by
 unfold m_lb_is at hm;refine fn_intro func35 rfl ntmps35 rfl fun H0 fr w0 => ?_;refine g_seq (gRg ?_);refine go_p rfl rfl rfl (o_box rfl rfl) ?_;refine go_p rfl rfl rfl (o_box rfl rfl) ?_;refine go_p rfl rfl rfl (oAs rfl) ?_;refine gNl (g_seq (gRg ?_));refine go_p rfl rfl rfl (o_load_agg isAgg24 sizeOf24 rfl rfl) ?_;refine go_p rfl rfl rfl (o_load_agg isAgg24 sizeOf24 rfl rfl) ?_;obtain ⟨⟨x1, x2⟩, hx1, hm⟩ := bind_some hm;refine go_p rfl rfl rfl (o_call0 call26 rfl (w_below_Below hx1)) ?_;refine go_p rfl rfl rfl (oMv rfl) ?_;refine go_p rfl rfl rfl (o_extract rfl rfl) ?_;refine go_p rfl rfl rfl (o_extract rfl rfl) ?_;refine go_p rfl rfl rfl (oAs rfl) ?_;refine go_p rfl rfl rfl (oAs rfl) ?_;refine gNl (g_seq (gRg ?_));refine go_p rfl rfl rfl (oMv rfl) ?_;refine go_p rfl rfl rfl (oMv rfl) ?_
 apply go_and [] 3 17 (t := 14) trivial rfl
 ·intro hg_1 hk1
  refine gWp rfl rfl rfl hg_1 rfl rfl (oMv rfl) ?_;refine gWp rfl rfl rfl hg_1 rfl rfl (o_cmp rfl rfl rfl) ?_;refine go_p rfl rfl rfl (o_pickT rfl hg_1 rfl) ?_;exact gMt hk1 (rfl) trivial
 ·intro hg_1 hk1
  refine gKp rfl rfl rfl hg_1 rfl rfl ?_;refine gKp rfl rfl rfl hg_1 rfl rfl ?_;refine go_p rfl rfl rfl (o_pickF rfl hg_1 rfl) ?_;exact gMt hk1 (rfl) trivial
 refine go_p rfl rfl rfl (oAs rfl) ?_;refine gNl (g_ret ?_);exact retK (ret_one' rfl (ret_tmp rfl) (perm_drop _)) (congrArg (fun (p : Bool) => (.bool p : D)) (some_eq hm))
noncomputable def m_graph_Vars_r1 (t1 : ApiType) : List Int -> (List Int) -> Option (List Int)
 | [], l2 =>
  some l2
 | x2 :: rr, l2 =>
  (idx t1.l x2).bind fun x3 =>
  bif (decide (x3.kind = 11)) then
   grd ((l2.length + ([x3.a] : List _).length) * 8 <= 140737488355328) <|
   m_graph_Vars_r1 t1 rr (l2 ++ [x3.a])
  else
   m_graph_Vars_r1 t1 rr l2
noncomputable def m_graph_Vars (t1 : ApiType) : Option (List Int) :=
 (m_graph_May t1).bind fun x1 =>
 bif (!decide (x1 = 0)) then
  some []
 else
  ((m_below t1 t1.root).bind fun xs1 =>
  m_graph_Vars_r1 t1 xs1 [] : Option (List Int)).bind fun l1 =>
  grd (l1.length < 4611686018427387904) <|
  some (Lib.compact (List.mergeSort l1 fun x y => decide (x <= y)))
theorem w_graph_Vars {t1 : ApiType} {r_1 : (List Int)} (hm : m_graph_Vars t1 = some r_1) : Fn0 Tryz.prog 71 [ApiType.d t1] (.list 1 D.i64 r_1) := by
 unfold m_graph_Vars at hm;refine fn_intro func71 rfl ntmps71 rfl fun H0 fr w0 => ?_;refine g_seq (gRg ?_);refine go_p rfl rfl rfl (o_box rfl rfl) ?_;refine go_p rfl rfl rfl (oAs rfl) ?_;refine go_conv (nilE (i := 2) (sz := 1) (f := D.i64) rfl).refines ?_;refine gNl (g_seq (g_seq (gRg ?_)));refine go_p rfl rfl rfl (o_load_agg isAgg24 sizeOf24 rfl rfl) ?_;obtain ⟨x1, hx1, hm⟩ := bind_some hm;refine go_p rfl rfl rfl (o_call0 call53 rfl (w_graph_May hx1)) ?_;refine go_p rfl rfl rfl (o_cmp rfl rfl rfl) ?_;refine gNl ?_;refine gCd rfl (fun hc1 => ?_) (fun hc1 => ?_)
 ·replace hm := cond_t hc1 hm
  refine g_seq (gRg ?_);refine go_p rfl rfl rfl (oAs rfl) ?_;refine go_conv (nilE (i := 2) (sz := 1) (f := D.i64) rfl).refines ?_;refine gNl (g_ret ?_);exact retK (ret_one' rfl (ret_tmp rfl) (perm_drop _)) (congrArg (fun (p : (List Int)) => (.list 1 D.i64 p : D)) (some_eq hm))
 ·replace hm := cond_f hc1 hm
  refine gSp (g_seq (gRg ?_));refine go_op rfl rfl rfl (o_alloc_own zeroValue25 (cs := [.v (.slice none 0 0)]) rfl) ?_;rintro _ _ ⟨b1, rfl, rfl⟩;refine go_conv (refines_newarr (T := 3) (sz := 1) (f := D.i64)) ?_;refine gNl (g_seq (g_seq (gRg ?_)));refine go_p rfl rfl rfl (o_load_agg isAgg24 sizeOf24 rfl rfl) ?_;refine go_p rfl rfl rfl (oFa fi_24_1 rfl rfl rfl) ?_;refine go_p rfl rfl rfl (o_load isAgg3 rfl rfl) ?_;refine go_p rfl rfl rfl (o_call0 call107 rfl w_below) ?_;refine gNl ?_;obtain ⟨o_1, hj1, hm1⟩ := bind_some hm;refine g_cut_m [(3, _)] [] (fun (st : (List Int)) (hid : (Option Addr × Nat × Nat)) => match st, hid with | l1, (a_r1, m_r1, cap_r1) => []) (fun F (st : (List Int)) (hid : (Option Addr × Nat × Nat)) => match st, hid with | l1, (a_r1, m_r1, cap_r1) => [arr a_r1 m_r1 cap_r1 3 1 D.i64 l1, box b1 25 [.v (.slice a_r1 m_r1 cap_r1)]]) (fun st => st = o_1) ⟨rfl, trivial⟩ trivial ?_ ?_
  ·skip
   refine g_block ?_;obtain ⟨xs1, hx2, hj1⟩ := bind_some hj1;refine g_range_m (fun (p : Int) => [.i64 p]) [] (fun F (st : (List Int)) (hid : (Option Addr × Nat × Nat)) => match st, hid with | l2, (a_r1, m_r1, cap_r1) => [arr a_r1 m_r1 cap_r1 3 1 D.i64 l2, box b1 25 [.v (.slice a_r1 m_r1 cap_r1)]]) (_, _, _) hj1 trivial rfl rfl call138 (it_below hx2) (fun _ => rfl) rfl ?_ ?_
   ·rintro H0r frr ror w0r hrr x2 rr l2 ⟨a_r1, m_r1, cap_r1⟩ hj1
    rw [m_graph_Vars_r1] at hj1;refine g_norm (ms' := [arr a_r1 m_r1 cap_r1 3 1 D.i64 l2, box b1 25 [.v (.slice a_r1 m_r1 cap_r1)]]) rfl rfl ?_;refine gRg ?_;refine go_p rfl rfl rfl (oAs rfl) ?_;refine gNl ?_
    intro H0r frr ror w0r hrr
    refine g_block (g_seq (gRg ?_));refine go_p rfl rfl rfl (oFa fi_24_0 rfl rfl rfl) ?_;refine go_p rfl rfl rfl (o_load isAgg22 rfl rfl) ?_;refine go_p rfl rfl rfl (oMv rfl) ?_;obtain ⟨x3, hx3, hj1⟩ := bind_some hj1;refine go_p rfl rfl rfl (oIm runUnderlying22 sizeOf44 rfl rfl hx3) ?_;refine go_p rfl rfl rfl (o_load_agg isAgg44 sizeOf44 rfl rfl) ?_;refine go_op rfl rfl rfl (o_alloc_own zeroValue44 (cs := [.i64 0, .i64 0, .i64 0, .list 2 ApiTField.d []]) rfl) ?_;rintro _ _ ⟨b2, rfl, rfl⟩;refine go_u rfl rfl (oSb 0 sizeOf44 rfl rfl rfl rfl rfl rfl rfl rfl (Nat.le_of_ble_eq_true rfl)) ?_;rintro _ _ rfl;refine go_ms (ms' := [box b2 44 [_, _, _, _], _, box b1 25 [_]]) rfl ?_;refine gNl (g_seq (gRg ?_));refine go_p rfl rfl rfl (oFb fi_44_0 rfl) ?_;refine go_p rfl rfl rfl (oLb 0 isAgg3 rfl rfl rfl rfl) ?_;refine go_p rfl rfl rfl (o_cmp rfl rfl rfl) ?_;refine gNl ?_;refine gCd rfl (fun hc2 => ?_) (fun hc2 => ?_)
    ·replace hj1 := cond_t hc2 hj1
     refine gRg ?_;refine go_p rfl rfl rfl (oLb 2 isAgg25 rfl rfl rfl rfl) ?_;refine go_p rfl rfl rfl (oFb fi_44_1 rfl) ?_;refine go_p rfl rfl rfl (oLb 0 isAgg3 rfl rfl rfl rfl) ?_;refine go_p rfl rfl rfl (o_buildSlice (xs := [_]) (f := D.i64) (l := [_]) runUnderlying25 sizeOf3 zeroValue3 rfl rfl rfl (fun _ => ⟨rfl, rfl, rfl⟩) rfl) ?_;obtain ⟨hg4, hj1⟩ := grd_some hj1;refine go_op rfl rfl rfl (o_append_own (a := _) 1 underlying25 type3 rfl rfl rfl rfl rfl rfl (fun _ => rfl) (fun _ => rfl) hg4 (app_len hg4 rfl)) ?_;rintro _ _ ⟨a_r1, m_r1, cap_r1, rfl, rfl⟩;refine go_ms (ms' := [box b2 44 [_, _, _, _], _, box b1 25 [_]]) rfl ?_;refine go_u rfl rfl (oSb 2 sizeOf25 rfl rfl rfl rfl rfl rfl rfl rfl (Nat.le_of_ble_eq_true rfl)) ?_;rintro _ _ rfl;refine go_ms (ms' := [box b2 44 [_, _, _, _], _, box b1 25 [_]]) rfl ?_;refine gNl ?_;exact ⟨_, (_, _, _), hj1, [_], rfl⟩
    ·replace hj1 := cond_f hc2 hj1
     refine gSp ?_;exact ⟨_, (_, _, _), hj1, [_], rfl⟩
   ·rintro l2 ⟨a_r1, m_r1, cap_r1⟩ hj1
    rw [m_graph_Vars_r1] at hj1;refine k_norm (ms' := [arr a_r1 m_r1 cap_r1 3 1 D.i64 l2, box b1 25 [.v (.slice a_r1 m_r1 cap_r1)]]) rfl rfl ?_;exact ⟨_, (_, _, _), some_eq hj1, trivial, ⟨rfl, trivial⟩, [], rfl⟩
  ·rintro l1 ⟨a_r1, m_r1, cap_r1⟩ hst
   subst hst;refine k_norm (L' := [(3, _)]) (ms' := [arr a_r1 m_r1 cap_r1 3 1 D.i64 l1, box b1 25 [.v (.slice a_r1 m_r1 cap_r1)]]) rfl rfl ?_;refine g_seq (gRg ?_);refine go_p rfl rfl rfl (oLb 1 isAgg25 rfl rfl rfl rfl) ?_;obtain ⟨hg5, hm1⟩ := grd_some hm1;refine go_op rfl rfl rfl (o_call_own [0] call98 rfl rfl (getL_c rfl getL_n) (sh_Sort hg5) (by rintro _ _ ⟨_, rfl⟩; rfl)) ?_;rintro _ _ ⟨_, ⟨rfl, rfl⟩, rfl⟩;refine go_ms (ms' := [_, box b1 25 [_]]) rfl ?_;refine gNl (g_seq (gRg ?_));refine go_p rfl rfl rfl (oLb 1 isAgg25 rfl rfl rfl rfl) ?_;refine go_op rfl rfl rfl (o_call_own [0] call99 rfl rfl (getL_c rfl getL_n) sh_Compact (by rintro _ _ ⟨_, _, rfl⟩; rfl)) ?_;rintro _ _ ⟨_, ⟨m_r1, rfl, rfl⟩, rfl⟩;refine go_ms (ms' := [_, box b1 25 [_]]) rfl ?_;refine go_p rfl rfl rfl (oAs rfl) ?_;refine gNl ?_;refine g_thaw 0 rfl rfl ?_;rintro rfl;refine g_conv (peekE (i := 2) 0 rfl rfl rfl).refines ?_;refine g_ret ?_;exact retK (ret_one' rfl (ret_tmp rfl) (perm_drop _)) (congrArg (fun (p : (List Int)) => (.list 1 D.i64 p : D)) (some_eq hm1))
noncomputable def m_graph_Ground (t1 : ApiType) : Option Bool :=
 (m_graph_May t1).bind fun x1 =>
 (bif (decide (x1 = 0)) then ((m_graph_Vars t1).bind fun x2 =>
 some (decide ((x2.length : Int) = 0))) else (some false)).bind fun p1 =>
 some p1
theorem w_graph_Ground {t1 : ApiType} {r_1 : Bool} (hm : m_graph_Ground t1 = some r_1) : Fn0 Tryz.prog 36 [ApiType.d t1] (.bool r_1) := by
 unfold m_graph_Ground at hm;refine fn_intro func36 rfl ntmps36 rfl fun H0 fr w0 => ?_;refine g_seq (gRg ?_);refine go_p rfl rfl rfl (o_box rfl rfl) ?_;refine go_p rfl rfl rfl (oAs rfl) ?_;refine gNl (g_seq (gRg ?_));refine go_p rfl rfl rfl (o_load_agg isAgg24 sizeOf24 rfl rfl) ?_;obtain ⟨x1, hx1, hm⟩ := bind_some hm;refine go_p rfl rfl rfl (o_call0 call53 rfl (w_graph_May hx1)) ?_;refine go_p rfl rfl rfl (o_cmp rfl rfl rfl) ?_;refine go_p rfl rfl rfl (oMv rfl) ?_;obtain ⟨p1, hp_1, hm⟩ := bind_some hm;refine go_two [] 5 11 p1 (t := 6) trivial rfl (fun hg_1 hk1 => ?_) (fun hg_1 hk1 => ?_) ?_
 ·replace hp_1 := cond_t hg_1 hp_1
  refine gWp rfl rfl rfl hg_1 rfl rfl (o_load_agg isAgg24 sizeOf24 rfl rfl) ?_;obtain ⟨x2, hx2, hp_1⟩ := bind_some hp_1;refine gWp rfl rfl rfl hg_1 rfl rfl (o_call0 call71 rfl (w_graph_Vars hx2)) ?_;refine gWp rfl rfl rfl hg_1 rfl rfl (o_len runUnderlying25 rfl) ?_;refine gWp rfl rfl rfl hg_1 rfl rfl (o_cmp rfl rfl rfl) ?_;refine go_p rfl rfl rfl (o_pickT rfl hg_1 rfl) ?_;exact gMt hk1 (congrArg (fun b => some (D.bool b)) (some_eq hp_1)) trivial
 ·replace hp_1 := cond_f hg_1 hp_1
  refine gKp rfl rfl rfl hg_1 rfl rfl ?_;refine gKp rfl rfl rfl hg_1 rfl rfl ?_;refine gKp rfl rfl rfl hg_1 rfl rfl ?_;refine gKp rfl rfl rfl hg_1 rfl rfl ?_;refine go_p rfl rfl rfl (o_pickF rfl hg_1 rfl) ?_;exact gMt hk1 (congrArg (fun b => some (D.bool b)) (some_eq hp_1)) trivial
 refine go_p rfl rfl rfl (oAs rfl) ?_;refine gNl (g_ret ?_);exact retK (ret_one' rfl (ret_tmp rfl) (perm_drop _)) (congrArg (fun (p : Bool) => (.bool p : D)) (some_eq hm))
noncomputable def m_lb_with (kind1 : Int) (a1 : ApiType) (bv1 : ApiType) : Option ApiType :=
 (m_ref13_GraftO a1 bv1).bind fun (x1, s1) =>
 grd (InR (bv1.root + x1)) <|
 grd ((s1.l.length + ([(⟨kind1, a1.root, (bv1.root + x1), ([] : List ApiTField)⟩ : ApiTNode)] : List _).length) * 48 <= 140737488355328) <|
 grd (InR (((s1.l ++ [(⟨kind1, a1.root, (bv1.root + x1), ([] : List ApiTField)⟩ : ApiTNode)]).length : Int) - 1)) <|
 some (⟨(s1.l ++ [(⟨kind1, a1.root, (bv1.root + x1), ([] : List ApiTField)⟩ : ApiTNode)]), (((s1.l ++ [(⟨kind1, a1.root, (bv1.root + x1), ([] : List ApiTField)⟩ : ApiTNode)]).length : Int) - 1)⟩ : ApiType)
theorem w_lb_with {kind1 : Int} {a1 : ApiType} {bv1 : ApiType} {r_1 : ApiType} (hm : m_lb_with kind1 a1 bv1 = some r_1) : Fn0 Tryz.prog 38 [.i64 kind1, ApiType.d a1, ApiType.d bv1] (ApiType.d r_1) := by
 unfold m_lb_with at hm;refine fn_intro func38 rfl ntmps38 rfl fun H0 fr w0 => ?_;refine g_seq (gRg ?_);refine go_p rfl rfl rfl (o_box rfl rfl) ?_;refine go_p rfl rfl rfl (o_box rfl rfl) ?_;refine go_op rfl rfl rfl (o_alloc_own zeroValue24 (cs := [.list 4 ApiTNode.d [], .i64 0]) rfl) ?_;rintro _ _ ⟨b1, rfl, rfl⟩;refine gNl (g_seq (gRg ?_));refine go_p rfl rfl rfl (o_load_agg isAgg24 sizeOf24 rfl rfl) ?_;refine go_p rfl rfl rfl (o_load_agg isAgg24 sizeOf24 rfl rfl) ?_;obtain ⟨⟨x1, s1⟩, hx1, hm⟩ := bind_some hm;refine go_op rfl rfl rfl (o_call (ms₁ := []) call67 rfl (List.Perm.refl _) (w_ref13_GraftO hx1)) ?_;rintro _ _ ⟨_, ⟨a_r1, m_r1, cap_r1, rfl, rfl⟩, rfl⟩;refine go_p rfl rfl rfl (oMv rfl) ?_;refine go_p rfl rfl rfl (o_extract rfl rfl) ?_;refine go_p rfl rfl rfl (o_extract rfl rfl) ?_;refine go_op rfl rfl rfl (o_alloc_own zeroValue24 (cs := [.list 4 ApiTNode.d [], .i64 0]) rfl) ?_;rintro _ _ ⟨b2, rfl, rfl⟩;refine go_u rfl rfl (oSb 0 sizeOf24 rfl rfl rfl rfl rfl rfl rfl rfl (Nat.le_of_ble_eq_true rfl)) ?_;rintro _ _ rfl;refine go_ms (ms' := [box b2 24 [_, _], _, box b1 24 [_, _]]) rfl ?_;refine go_p rfl rfl rfl (oAs rfl) ?_;refine gNl (g_seq (gRg ?_));refine go_p rfl rfl rfl (oFb fi_24_0 rfl) ?_;refine go_p rfl rfl rfl (oLb 0 isAgg22 rfl rfl rfl rfl) ?_;refine go_p rfl rfl rfl (oMv rfl) ?_;refine go_p rfl rfl rfl (oFa fi_24_1 rfl rfl rfl) ?_;refine go_p rfl rfl rfl (o_load isAgg3 rfl rfl) ?_;refine go_p rfl rfl rfl (oFa fi_24_1 rfl rfl rfl) ?_;refine go_p rfl rfl rfl (o_load isAgg3 rfl rfl) ?_;refine go_p rfl rfl rfl (oMv rfl) ?_;obtain ⟨hg2, hm⟩ := grd_some hm;refine go_p rfl rfl rfl (o_add rfl rfl (i64_id hg2)) ?_;refine go_p rfl rfl rfl (o_build (zs := [.v (.int .i64 0), .v (.int .i64 0), .v (.int .i64 0), .list 2 ApiTField.d []]) runUnderlying44 zeroValue44 (pl_44 _ runUnderlying44) rfl rfl rfl rfl) ?_;refine go_p rfl rfl rfl (o_buildSlice (xs := [_]) (f := ApiTNode.d) (l := [(⟨kind1, a1.root, (bv1.root + x1), ([] : List ApiTField)⟩ : ApiTNode)]) runUnderlying22 sizeOf44 zeroValue44 rfl rfl rfl (fun _ => ⟨rfl, rfl, rfl⟩) rfl) ?_;obtain ⟨hg3, hm⟩ := grd_some hm;refine go_op rfl rfl rfl (o_append_own (a := _) 1 underlying22 type44 rfl rfl rfl rfl rfl rfl (fun _ => rfl) (fun _ => rfl) hg3 (app_len hg3 rfl)) ?_;rintro _ _ ⟨a_r1, m_r1, cap_r1, rfl, rfl⟩;refine go_ms (ms' := [box b2 24 [_, _], _, box b1 24 [_, _]]) rfl ?_;refine go_p rfl rfl rfl (oFb fi_24_0 rfl) ?_;refine go_u rfl rfl (oSb 0 sizeOf22 rfl rfl rfl rfl rfl rfl rfl rfl (Nat.le_of_ble_eq_true rfl)) ?_;rintro _ _ rfl;refine go_ms (ms' := [box b2 24 [_, _], _, box b1 24 [_, _]]) rfl ?_;refine gNl (g_seq (gRg ?_));refine go_p rfl rfl rfl (oFb fi_24_0 rfl) ?_;refine go_p rfl rfl rfl (oLb 0 isAgg22 rfl rfl rfl rfl) ?_
 refine go_p rfl rfl rfl (o_len_arr 1 runUnderlying22 rfl rfl) ?_;obtain ⟨hg4, hm⟩ := grd_some hm;refine go_p rfl rfl rfl (o_sub rfl rfl (i64_id hg4)) ?_;refine go_p rfl rfl rfl (oFb fi_24_1 rfl) ?_;refine go_u rfl rfl (oSb 0 sizeOf3 rfl rfl rfl rfl rfl rfl rfl rfl (Nat.le_of_ble_eq_true rfl)) ?_;rintro _ _ rfl;refine go_ms (ms' := [box b2 24 [_, _], _, box b1 24 [_, _]]) rfl ?_;refine gNl (g_seq (gRg ?_));refine go_thaw 1 rfl rfl ?_;rintro rfl;refine go_p rfl rfl rfl (oLg 0 isAgg24 sizeOf24 rfl rfl rfl rfl (Nat.le_of_ble_eq_true rfl)) ?_;refine go_conv (peekAggE (i := 33) (q := 0) 1 rfl rfl rfl rfl rfl).refines ?_;refine go_u rfl rfl (oSb 2 sizeOf24 rfl rfl rfl rfl rfl rfl rfl rfl (Nat.le_of_ble_eq_true rfl)) ?_;rintro _ _ rfl;refine go_ms (ms' := [box b2 24 [_, _], _, box b1 24 [_, _]]) rfl ?_;refine gNl (g_ret ?_);exact retK (ret_one' rfl (ret_cell 2 rfl rfl rfl isAgg24 sizeOf24 rfl) (perm_drop _)) (congrArg (fun (p : ApiType) => (ApiType.d p : D)) (some_eq hm))
noncomputable def m_lb_BelowLattice (a1 : ApiType) (bv1 : ApiType) (c1 : ApiType) : Option Bool :=
 (m_lb_works).bind fun x1 =>
 bif (!x1) then
  some false
 else
  (m_lg_Few (⟨a1.l, a1.root⟩ : ApiType) 7).bind fun x2 =>
  (m_lg_Few (⟨bv1.l, bv1.root⟩ : ApiType) 7).bind fun x3 =>
  (m_lg_Few (⟨c1.l, c1.root⟩ : ApiType) 7).bind fun x4 =>
  (m_graph_Ground (⟨x2.l, x2.root⟩ : ApiType)).bind fun x5 =>
  (bif (!x5) then (some true) else ((m_graph_Ground (⟨x3.l, x3.root⟩ : ApiType)).bind fun x6 =>
  some (!x6))).bind fun p1 =>
  (bif p1 then (some true) else ((m_graph_Ground (⟨x4.l, x4.root⟩ : ApiType)).bind fun x7 =>
  some (!x7))).bind fun p2 =>
  bif p2 then
   some true
  else
   (m_lb_with 9 (⟨x2.l, x2.root⟩ : ApiType) (⟨x3.l, x3.root⟩ : ApiType)).bind fun x8 =>
   (m_lb_with 10 (⟨x2.l, x2.root⟩ : ApiType) (⟨x3.l, x3.root⟩ : ApiType)).bind fun x9 =>
   (m_lb_is (⟨x2.l, x2.root⟩ : ApiType) (⟨x8.l, x8.root⟩ : ApiType)).bind fun x10 =>
   (bif (!x10) then (some true) else ((m_lb_is (⟨x3.l, x3.root⟩ : ApiType) (⟨x8.l, x8.root⟩ : ApiType)).bind fun x11 =>
   some (!x11))).bind fun p3 =>
   (bif p3 then (some true) else ((m_lb_is (⟨x9.l, x9.root⟩ : ApiType) (⟨x2.l, x2.root⟩ : ApiType)).bind fun x12 =>
   some (!x12))).bind fun p4 =>
   (bif p4 then (some true) else ((m_lb_is (⟨x9.l, x9.root⟩ : ApiType) (⟨x3.l, x3.root⟩ : ApiType)).bind fun x13 =>
   some (!x13))).bind fun p5 =>
   bif p5 then
    some false
   else
    (m_lb_is (⟨x8.l, x8.root⟩ : ApiType) (⟨x4.l, x4.root⟩ : ApiType)).bind fun x14 =>
    (m_lb_is (⟨x2.l, x2.root⟩ : ApiType) (⟨x4.l, x4.root⟩ : ApiType)).bind fun x15 =>
    bif x15 then ((m_lb_is (⟨x3.l, x3.root⟩ : ApiType) (⟨x4.l, x4.root⟩ : ApiType)).bind fun x16 =>
    bif (!(x14 == x16)) then (some false) else ((m_lb_is (⟨x4.l, x4.root⟩ : ApiType) (⟨x9.l, x9.root⟩ : ApiType)).bind fun x17 =>
    (m_lb_is (⟨x4.l, x4.root⟩ : ApiType) (⟨x2.l, x2.root⟩ : ApiType)).bind fun x18 =>
    bif x18 then ((m_lb_is (⟨x4.l, x4.root⟩ : ApiType) (⟨x3.l, x3.root⟩ : ApiType)).bind fun x19 =>
    bif (!(x17 == x19)) then
     some false
    else
     (m_lb_with 10 (⟨x8.l, x8.root⟩ : ApiType) (⟨x4.l, x4.root⟩ : ApiType)).bind fun x20 =>
     (m_lb_with 10 (⟨x2.l, x2.root⟩ : ApiType) (⟨x4.l, x4.root⟩ : ApiType)).bind fun x21 =>
     (m_lb_with 10 (⟨x3.l, x3.root⟩ : ApiType) (⟨x4.l, x4.root⟩ : ApiType)).bind fun x22 =>
     (m_lb_with 9 x21 x22).bind fun x23 =>
     (m_lb_is x20 x23).bind fun x24 =>
     some x24) else (bif (!(x17 == false)) then
     some false
    else
     (m_lb_with 10 (⟨x8.l, x8.root⟩ : ApiType) (⟨x4.l, x4.root⟩ : ApiType)).bind fun x25 =>
     (m_lb_with 10 (⟨x2.l, x2.root⟩ : ApiType) (⟨x4.l, x4.root⟩ : ApiType)).bind fun x26 =>
     (m_lb_with 10 (⟨x3.l, x3.root⟩ : ApiType) (⟨x4.l, x4.root⟩ : ApiType)).bind fun x27 =>
     (m_lb_with 9 x26 x27).bind fun x28 =>
     (m_lb_is x25 x28).bind fun x29 =>
     some x29))) else (bif (!(x14 == false)) then (some false) else ((m_lb_is (⟨x4.l, x4.root⟩ : ApiType) (⟨x9.l, x9.root⟩ : ApiType)).bind fun x30 =>
    (m_lb_is (⟨x4.l, x4.root⟩ : ApiType) (⟨x2.l, x2.root⟩ : ApiType)).bind fun x31 =>
    bif x31 then ((m_lb_is (⟨x4.l, x4.root⟩ : ApiType) (⟨x3.l, x3.root⟩ : ApiType)).bind fun x32 =>
    bif (!(x30 == x32)) then
     some false
    else
     (m_lb_with 10 (⟨x8.l, x8.root⟩ : ApiType) (⟨x4.l, x4.root⟩ : ApiType)).bind fun x33 =>
     (m_lb_with 10 (⟨x2.l, x2.root⟩ : ApiType) (⟨x4.l, x4.root⟩ : ApiType)).bind fun x34 =>
     (m_lb_with 10 (⟨x3.l, x3.root⟩ : ApiType) (⟨x4.l, x4.root⟩ : ApiType)).bind fun x35 =>
     (m_lb_with 9 x34 x35).bind fun x36 =>
     (m_lb_is x33 x36).bind fun x37 =>
     some x37) else (bif (!(x30 == false)) then
     some false
    else
     (m_lb_with 10 (⟨x8.l, x8.root⟩ : ApiType) (⟨x4.l, x4.root⟩ : ApiType)).bind fun x38 =>
     (m_lb_with 10 (⟨x2.l, x2.root⟩ : ApiType) (⟨x4.l, x4.root⟩ : ApiType)).bind fun x39 =>
     (m_lb_with 10 (⟨x3.l, x3.root⟩ : ApiType) (⟨x4.l, x4.root⟩ : ApiType)).bind fun x40 =>
     (m_lb_with 9 x39 x40).bind fun x41 =>
     (m_lb_is x38 x41).bind fun x42 =>
     some x42)))
theorem w_lb_BelowLattice {a1 : ApiType} {bv1 : ApiType} {c1 : ApiType} {r_1 : Bool} (hm : m_lb_BelowLattice a1 bv1 c1 = some r_1) : Fn0 Tryz.prog 9 [ApiType.d a1, ApiType.d bv1, ApiType.d c1] (.bool r_1) := by
 unfold m_lb_BelowLattice at hm;refine fn_intro func9 rfl ntmps9 rfl fun H0 fr w0 => ?_;refine g_seq (gRg ?_);refine go_op rfl rfl rfl (o_box_own rfl rfl rfl) ?_;rintro _ _ ⟨b1, rfl, rfl⟩;refine go_op rfl rfl rfl (o_box_own rfl rfl rfl) ?_;rintro _ _ ⟨b2, rfl, rfl⟩;refine go_op rfl rfl rfl (o_box_own rfl rfl rfl) ?_;rintro _ _ ⟨b3, rfl, rfl⟩;refine go_p rfl rfl rfl (oAs rfl) ?_;refine gNl (g_seq (g_seq (gRg ?_)));obtain ⟨x1, hx1, hm⟩ := bind_some hm;refine go_p rfl rfl rfl (o_call0 call17 rfl (w_lb_works hx1)) ?_;refine go_p rfl rfl rfl (o_not rfl) ?_;refine gNl ?_;refine gCd rfl (fun hc1 => ?_) (fun hc1 => ?_)
 ·replace hm := cond_t hc1 hm
  refine g_seq (gRg ?_);refine go_p rfl rfl rfl (oAs rfl) ?_;refine gNl (g_ret ?_);exact retK (ret_one' rfl (ret_tmp rfl) (perm_drop _)) (congrArg (fun (p : Bool) => (.bool p : D)) (some_eq hm))
 ·replace hm := cond_f hc1 hm
  refine gSp (g_seq ?_);obtain ⟨x2, hx2, hm⟩ := bind_some hm;obtain ⟨x3, hx3, hm⟩ := bind_some hm;obtain ⟨x4, hx4, hm⟩ := bind_some hm;refine g_draw 6 Tryz_mixed (by decide +kernel) ?_;refine gd_p rfl rfl rfl (oLg 2 isAgg24 sizeOf24 rfl rfl rfl rfl (Nat.le_of_ble_eq_true rfl)) ?_;refine gd_p rfl rfl rfl (o_call0 call37 rfl (w_lg_Few hx2)) ?_;refine gd_p rfl rfl rfl (oLg 1 isAgg24 sizeOf24 rfl rfl rfl rfl (Nat.le_of_ble_eq_true rfl)) ?_;refine gd_p rfl rfl rfl (o_call0 call37 rfl (w_lg_Few hx3)) ?_;refine gd_p rfl rfl rfl (oLg 0 isAgg24 sizeOf24 rfl rfl rfl rfl (Nat.le_of_ble_eq_true rfl)) ?_;refine gd_p rfl rfl rfl (o_call0 call37 rfl (w_lg_Few hx4)) ?_;refine gd_nil ?_;refine go_u rfl rfl (oSb 2 sizeOf24 rfl rfl rfl rfl rfl rfl rfl rfl (Nat.le_of_ble_eq_true rfl)) ?_;rintro _ _ rfl;refine go_ms (ms' := [box b3 24 [_, _], box b2 24 [_, _], box b1 24 [_, _]]) rfl ?_;refine go_u rfl rfl (oSb 1 sizeOf24 rfl rfl rfl rfl rfl rfl rfl rfl (Nat.le_of_ble_eq_true rfl)) ?_;rintro _ _ rfl;refine go_ms (ms' := [box b3 24 [_, _], box b2 24 [_, _], box b1 24 [_, _]]) rfl ?_;refine go_u rfl rfl (oSb 0 sizeOf24 rfl rfl rfl rfl rfl rfl rfl rfl (Nat.le_of_ble_eq_true rfl)) ?_;rintro _ _ rfl;refine go_ms (ms' := [box b3 24 [_, _], box b2 24 [_, _], box b1 24 [_, _]]) rfl ?_;refine gNl (g_seq (g_seq (gRg ?_)));refine go_p rfl rfl rfl (oLg 2 isAgg24 sizeOf24 rfl rfl rfl rfl (Nat.le_of_ble_eq_true rfl)) ?_;obtain ⟨x5, hx5, hm⟩ := bind_some hm;refine go_p rfl rfl rfl (o_call0 call36 rfl (w_graph_Ground hx5)) ?_;refine go_p rfl rfl rfl (o_not rfl) ?_;refine go_p rfl rfl rfl (oMv rfl) ?_;obtain ⟨p1, hp_1, hm⟩ := bind_some hm;refine go_two [(3, _), (4, _), (5, _)] 4 24 p1 (t := 20) ⟨rfl, rfl, rfl, trivial⟩ rfl (fun hg_1 hk1 => ?_) (fun hg_1 hk1 => ?_) ?_
  ·replace hp_1 := cond_t hg_1 hp_1
   refine gKp rfl rfl rfl hg_1 rfl rfl ?_;refine gKp rfl rfl rfl hg_1 rfl rfl ?_;refine gKp rfl rfl rfl hg_1 rfl rfl ?_;refine go_p rfl rfl rfl (o_pickT rfl hg_1 rfl) ?_;exact gMt hk1 (congrArg (fun b => some (D.bool b)) (some_eq hp_1)) ⟨rfl, rfl, rfl, trivial⟩
  ·replace hp_1 := cond_f hg_1 hp_1
   refine gWp rfl rfl rfl hg_1 rfl rfl (oLg 1 isAgg24 sizeOf24 rfl rfl rfl rfl (Nat.le_of_ble_eq_true rfl)) ?_;obtain ⟨x6, hx6, hp_1⟩ := bind_some hp_1;refine gWp rfl rfl rfl hg_1 rfl rfl (o_call0 call36 rfl (w_graph_Ground hx6)) ?_;refine gWp rfl rfl rfl hg_1 rfl rfl (o_not rfl) ?_;refine go_p rfl rfl rfl (o_pickF rfl hg_1 rfl) ?_;exact gMt hk1 (congrArg (fun b => some (D.bool b)) (some_eq hp_1)) ⟨rfl, rfl, rfl, trivial⟩
  refine go_p rfl rfl rfl (oMv rfl) ?_;obtain ⟨p2, hp_2, hm⟩ := bind_some hm;refine go_two [(3, _), (4, _), (5, _)] 4 29 p2 (t := 25) ⟨rfl, rfl, rfl, trivial⟩ rfl (fun hg_2 hk2 => ?_) (fun hg_2 hk2 => ?_) ?_
  ·replace hp_2 := cond_t hg_2 hp_2
   refine gKp rfl rfl rfl hg_2 rfl rfl ?_;refine gKp rfl rfl rfl hg_2 rfl rfl ?_;refine gKp rfl rfl rfl hg_2 rfl rfl ?_;refine go_p rfl rfl rfl (o_pickT rfl hg_2 rfl) ?_;exact gMt hk2 (congrArg (fun b => some (D.bool b)) (some_eq hp_2)) ⟨rfl, rfl, rfl, trivial⟩
  ·replace hp_2 := cond_f hg_2 hp_2
   refine gWp rfl rfl rfl hg_2 rfl rfl (oLg 0 isAgg24 sizeOf24 rfl rfl rfl rfl (Nat.le_of_ble_eq_true rfl)) ?_;obtain ⟨x7, hx7, hp_2⟩ := bind_some hp_2;refine gWp rfl rfl rfl hg_2 rfl rfl (o_call0 call36 rfl (w_graph_Ground hx7)) ?_;refine gWp rfl rfl rfl hg_2 rfl rfl (o_not rfl) ?_;refine go_p rfl rfl rfl (o_pickF rfl hg_2 rfl) ?_;exact gMt hk2 (congrArg (fun b => some (D.bool b)) (some_eq hp_2)) ⟨rfl, rfl, rfl, trivial⟩
  refine gNl ?_;refine gCd rfl (fun hc2 => ?_) (fun hc2 => ?_)
  ·replace hm := cond_t hc2 hm
   refine g_seq (gRg ?_);refine go_p rfl rfl rfl (oAs rfl) ?_;refine gNl (g_ret ?_);exact retK (ret_one' rfl (ret_tmp rfl) (perm_drop _)) (congrArg (fun (p : Bool) => (.bool p : D)) (some_eq hm))
  ·replace hm := cond_f hc2 hm
   refine gSp (g_seq ?_);obtain ⟨x8, hx8, hm⟩ := bind_some hm;obtain ⟨x9, hx9, hm⟩ := bind_some hm;refine g_draw_f 8 [6, 7] Tryz_mixed (by decide +kernel) (by decide +kernel) rfl (by decide +kernel) ?_;refine gdf_p rfl rfl rfl rfl (oLg 2 isAgg24 sizeOf24 rfl rfl rfl rfl (Nat.le_of_ble_eq_true rfl)) ?_;refine gdf_p rfl rfl rfl rfl (oLg 1 isAgg24 sizeOf24 rfl rfl rfl rfl (Nat.le_of_ble_eq_true rfl)) ?_;refine gdf_p rfl rfl rfl rfl (o_call0 call38 rfl (w_lb_with hx8)) ?_;refine gdf_p rfl rfl rfl rfl (oLg 2 isAgg24 sizeOf24 rfl rfl rfl rfl (Nat.le_of_ble_eq_true rfl)) ?_;refine gdf_p rfl rfl rfl rfl (oLg 1 isAgg24 sizeOf24 rfl rfl rfl rfl (Nat.le_of_ble_eq_true rfl)) ?_;refine gdf_p rfl rfl rfl rfl (o_call0 call38 rfl (w_lb_with hx9)) ?_;refine gdf_fresh (R := fun d A => ∃ b, d = .v (.pointer (some ⟨b, 0, none⟩)) /\ A = box b 24 [.list 4 ApiTNode.d [], .i64 0]) rfl rfl rfl (OpT.mono (o_alloc_own zeroValue24 (cs := [.list 4 ApiTNode.d [], .i64 0]) rfl) (by rintro d ms' ⟨b, rfl, rfl⟩; exact ⟨_, ⟨b, rfl, rfl⟩, rfl⟩)) ?_;refine gdf_fresh (R := fun d A => ∃ b, d = .v (.pointer (some ⟨b, 0, none⟩)) /\ A = box b 24 [.list 4 ApiTNode.d [], .i64 0]) rfl rfl rfl (OpT.mono (o_alloc_own zeroValue24 (cs := [.list 4 ApiTNode.d [], .i64 0]) rfl) (by rintro d ms' ⟨b, rfl, rfl⟩; exact ⟨_, ⟨b, rfl, rfl⟩, rfl⟩)) ?_;refine gdf_nil ?_;rintro _ _ ⟨b4, rfl, rfl⟩;rintro _ _ ⟨b5, rfl, rfl⟩;refine go_u rfl rfl (oSb 0 sizeOf24 rfl rfl rfl rfl rfl rfl rfl rfl (Nat.le_of_ble_eq_true rfl)) ?_;rintro _ _ rfl;refine go_ms (ms' := [box b4 24 [_, _], box b5 24 [_, _], box b3 24 [_, _], box b2 24 [_, _], box b1 24 [_, _]]) rfl ?_;refine go_u rfl rfl (oSb 1 sizeOf24 rfl rfl rfl rfl rfl rfl rfl rfl (Nat.le_of_ble_eq_true rfl)) ?_;rintro _ _ rfl;refine go_ms (ms' := [box b4 24 [_, _], box b5 24 [_, _], box b3 24 [_, _], box b2 24 [_, _], box b1 24 [_, _]]) rfl ?_;refine gNl (g_seq (g_seq (gRg ?_)));refine go_p rfl rfl rfl (oLg 4 isAgg24 sizeOf24 rfl rfl rfl rfl (Nat.le_of_ble_eq_true rfl)) ?_;refine go_p rfl rfl rfl (oLg 0 isAgg24 sizeOf24 rfl rfl rfl rfl (Nat.le_of_ble_eq_true rfl)) ?_;obtain ⟨x10, hx10, hm⟩ := bind_some hm;refine go_p rfl rfl rfl (o_call0 call35 rfl (w_lb_is hx10)) ?_;refine go_p rfl rfl rfl (o_not rfl) ?_;refine go_p rfl rfl rfl (oMv rfl) ?_;obtain ⟨p3, hp_3, hm⟩ := bind_some hm;refine go_two [(3, _), (4, _), (5, _), (7, _), (8, _)] 5 45 p3 (t := 40) ⟨rfl, rfl, rfl, rfl, rfl, trivial⟩ rfl (fun hg_3 hk3 => ?_) (fun hg_3 hk3 => ?_) ?_
   ·replace hp_3 := cond_t hg_3 hp_3
    refine gKp rfl rfl rfl hg_3 rfl rfl ?_;refine gKp rfl rfl rfl hg_3 rfl rfl ?_;refine gKp rfl rfl rfl hg_3 rfl rfl ?_;refine gKp rfl rfl rfl hg_3 rfl rfl ?_;refine go_p rfl rfl rfl (o_pickT rfl hg_3 rfl) ?_;exact gMt hk3 (congrArg (fun b => some (D.bool b)) (some_eq hp_3)) ⟨rfl, rfl, rfl, rfl, rfl, trivial⟩
   ·replace hp_3 := cond_f hg_3 hp_3
    refine gWp rfl rfl rfl hg_3 rfl rfl (oLg 3 isAgg24 sizeOf24 rfl rfl rfl rfl (Nat.le_of_ble_eq_true rfl)) ?_;refine gWp rfl rfl rfl hg_3 rfl rfl (oLg 0 isAgg24 sizeOf24 rfl rfl rfl rfl (Nat.le_of_ble_eq_true rfl)) ?_;obtain ⟨x11, hx11, hp_3⟩ := bind_some hp_3;refine gWp rfl rfl rfl hg_3 rfl rfl (o_call0 call35 rfl (w_lb_is hx11)) ?_;refine gWp rfl rfl rfl hg_3 rfl rfl (o_not rfl) ?_;refine go_p rfl rfl rfl (o_pickF rfl hg_3 rfl) ?_;exact gMt hk3 (congrArg (fun b => some (D.bool b)) (some_eq hp_3)) ⟨rfl, rfl, rfl, rfl, rfl, trivial⟩
   refine go_p rfl rfl rfl (oMv rfl) ?_;obtain ⟨p4, hp_4, hm⟩ := bind_some hm;refine go_two [(3, _), (4, _), (5, _), (7, _), (8, _)] 5 51 p4 (t := 46) ⟨rfl, rfl, rfl, rfl, rfl, trivial⟩ rfl (fun hg_4 hk4 => ?_) (fun hg_4 hk4 => ?_) ?_
   ·replace hp_4 := cond_t hg_4 hp_4
    refine gKp rfl rfl rfl hg_4 rfl rfl ?_;refine gKp rfl rfl rfl hg_4 rfl rfl ?_;refine gKp rfl rfl rfl hg_4 rfl rfl ?_;refine gKp rfl rfl rfl hg_4 rfl rfl ?_;refine go_p rfl rfl rfl (o_pickT rfl hg_4 rfl) ?_;exact gMt hk4 (congrArg (fun b => some (D.bool b)) (some_eq hp_4)) ⟨rfl, rfl, rfl, rfl, rfl, trivial⟩
   ·replace hp_4 := cond_f hg_4 hp_4
    refine gWp rfl rfl rfl hg_4 rfl rfl (oLg 1 isAgg24 sizeOf24 rfl rfl rfl rfl (Nat.le_of_ble_eq_true rfl)) ?_;refine gWp rfl rfl rfl hg_4 rfl rfl (oLg 4 isAgg24 sizeOf24 rfl rfl rfl rfl (Nat.le_of_ble_eq_true rfl)) ?_;obtain ⟨x12, hx12, hp_4⟩ := bind_some hp_4;refine gWp rfl rfl rfl hg_4 rfl rfl (o_call0 call35 rfl (w_lb_is hx12)) ?_;refine gWp rfl rfl rfl hg_4 rfl rfl (o_not rfl) ?_;refine go_p rfl rfl rfl (o_pickF rfl hg_4 rfl) ?_;exact gMt hk4 (congrArg (fun b => some (D.bool b)) (some_eq hp_4)) ⟨rfl, rfl, rfl, rfl, rfl, trivial⟩
   refine go_p rfl rfl rfl (oMv rfl) ?_;obtain ⟨p5, hp_5, hm⟩ := bind_some hm;refine go_two [(3, _), (4, _), (5, _), (7, _), (8, _)] 5 57 p5 (t := 52) ⟨rfl, rfl, rfl, rfl, rfl, trivial⟩ rfl (fun hg_5 hk5 => ?_) (fun hg_5 hk5 => ?_) ?_
   ·replace hp_5 := cond_t hg_5 hp_5
    refine gKp rfl rfl rfl hg_5 rfl rfl ?_;refine gKp rfl rfl rfl hg_5 rfl rfl ?_;refine gKp rfl rfl rfl hg_5 rfl rfl ?_;refine gKp rfl rfl rfl hg_5 rfl rfl ?_;refine go_p rfl rfl rfl (o_pickT rfl hg_5 rfl) ?_;exact gMt hk5 (congrArg (fun b => some (D.bool b)) (some_eq hp_5)) ⟨rfl, rfl, rfl, rfl, rfl, trivial⟩
   ·replace hp_5 := cond_f hg_5 hp_5
    refine gWp rfl rfl rfl hg_5 rfl rfl (oLg 1 isAgg24 sizeOf24 rfl rfl rfl rfl (Nat.le_of_ble_eq_true rfl)) ?_;refine gWp rfl rfl rfl hg_5 rfl rfl (oLg 3 isAgg24 sizeOf24 rfl rfl rfl rfl (Nat.le_of_ble_eq_true rfl)) ?_;obtain ⟨x13, hx13, hp_5⟩ := bind_some hp_5;refine gWp rfl rfl rfl hg_5 rfl rfl (o_call0 call35 rfl (w_lb_is hx13)) ?_;refine gWp rfl rfl rfl hg_5 rfl rfl (o_not rfl) ?_;refine go_p rfl rfl rfl (o_pickF rfl hg_5 rfl) ?_;exact gMt hk5 (congrArg (fun b => some (D.bool b)) (some_eq hp_5)) ⟨rfl, rfl, rfl, rfl, rfl, trivial⟩
   refine gNl ?_;refine gCd rfl (fun hc3 => ?_) (fun hc3 => ?_)
   ·replace hm := cond_t hc3 hm
    refine g_seq (gRg ?_);refine go_p rfl rfl rfl (oAs rfl) ?_;refine gNl (g_ret ?_);exact retK (ret_one' rfl (ret_tmp rfl) (perm_drop _)) (congrArg (fun (p : Bool) => (.bool p : D)) (some_eq hm))
   ·replace hm := cond_f hc3 hm
    refine gSp (g_seq (g_seq ?_));obtain ⟨x14, hx14, hm⟩ := bind_some hm;obtain ⟨x15, hx15, hm⟩ := bind_some hm
    rcases cond_split hm with ⟨hg_6, hm⟩ | ⟨hg_6, hm⟩
    ·
     skip
     obtain ⟨x16, hx16, hm⟩ := bind_some hm
     rcases cond_split hm with ⟨hg_7, hm⟩ | ⟨hg_7, hm⟩
     ·
      skip
      refine g_draw 26 Tryz_mixed (by decide +kernel) ?_;refine gd_p rfl rfl rfl (oLg 0 isAgg24 sizeOf24 rfl rfl rfl rfl (Nat.le_of_ble_eq_true rfl)) ?_;refine gd_p rfl rfl rfl (oLg 2 isAgg24 sizeOf24 rfl rfl rfl rfl (Nat.le_of_ble_eq_true rfl)) ?_;refine gd_p rfl rfl rfl (o_call0 call35 rfl (w_lb_is hx14)) ?_;refine gd_p rfl rfl rfl (oLg 4 isAgg24 sizeOf24 rfl rfl rfl rfl (Nat.le_of_ble_eq_true rfl)) ?_;refine gd_p rfl rfl rfl (oLg 2 isAgg24 sizeOf24 rfl rfl rfl rfl (Nat.le_of_ble_eq_true rfl)) ?_;refine gd_p rfl rfl rfl (o_call0 call35 rfl (w_lb_is hx15)) ?_;refine gd_p rfl rfl rfl (oMv rfl) ?_;refine gd_want rfl rfl rfl hg_6 rfl rfl (oLg 3 isAgg24 sizeOf24 rfl rfl rfl rfl (Nat.le_of_ble_eq_true rfl)) ?_;refine gd_want rfl rfl rfl hg_6 rfl rfl (oLg 2 isAgg24 sizeOf24 rfl rfl rfl rfl (Nat.le_of_ble_eq_true rfl)) ?_;refine gd_want rfl rfl rfl hg_6 rfl rfl (o_call0 call35 rfl (w_lb_is hx16)) ?_;refine gd_p rfl rfl rfl (o_pickT rfl hg_6 rfl) ?_;refine gd_p rfl rfl rfl (o_neqb runUnderlying4 rfl rfl) ?_;refine gd_p rfl rfl rfl (oMv rfl) ?_;refine gd_skip rfl rfl rfl hg_7 rfl rfl ?_;refine gd_skip rfl rfl rfl hg_7 rfl rfl ?_;refine gd_skip rfl rfl rfl hg_7 rfl rfl ?_;refine gd_skip rfl rfl rfl hg_7 rfl rfl ?_;refine gd_skip rfl rfl rfl hg_7 rfl rfl ?_;refine gd_skip rfl rfl rfl hg_7 rfl rfl ?_;refine gd_skip rfl rfl rfl hg_7 rfl rfl ?_;refine gd_skipu rfl rfl rfl rfl rfl ?_;refine gd_skipu rfl rfl rfl rfl rfl ?_;refine gd_skipu rfl rfl rfl rfl rfl ?_;refine gd_skip rfl rfl rfl hg_7 rfl rfl ?_;refine gd_skip rfl rfl rfl hg_7 rfl rfl ?_;refine gd_p rfl rfl rfl (o_pickT rfl hg_7 rfl) ?_;refine gd_nil ?_;refine gNl ?_;refine g_cond_true rfl rfl ?_;refine g_seq (gRg ?_);refine go_p rfl rfl rfl (oAs rfl) ?_;refine gNl (g_ret ?_);exact retK (ret_one' rfl (ret_tmp rfl) (perm_drop _)) (congrArg (fun (p : Bool) => (.bool p : D)) (some_eq hm))
     ·
      skip
      obtain ⟨x17, hx17, hm⟩ := bind_some hm;obtain ⟨x18, hx18, hm⟩ := bind_some hm
      rcases cond_split hm with ⟨hg_8, hm⟩ | ⟨hg_8, hm⟩
      ·
       skip
       obtain ⟨x19, hx19, hm⟩ := bind_some hm;refine g_draw 26 Tryz_mixed (by decide +kernel) ?_;refine gd_p rfl rfl rfl (oLg 0 isAgg24 sizeOf24 rfl rfl rfl rfl (Nat.le_of_ble_eq_true rfl)) ?_;refine gd_p rfl rfl rfl (oLg 2 isAgg24 sizeOf24 rfl rfl rfl rfl (Nat.le_of_ble_eq_true rfl)) ?_;refine gd_p rfl rfl rfl (o_call0 call35 rfl (w_lb_is hx14)) ?_;refine gd_p rfl rfl rfl (oLg 4 isAgg24 sizeOf24 rfl rfl rfl rfl (Nat.le_of_ble_eq_true rfl)) ?_;refine gd_p rfl rfl rfl (oLg 2 isAgg24 sizeOf24 rfl rfl rfl rfl (Nat.le_of_ble_eq_true rfl)) ?_;refine gd_p rfl rfl rfl (o_call0 call35 rfl (w_lb_is hx15)) ?_;refine gd_p rfl rfl rfl (oMv rfl) ?_;refine gd_want rfl rfl rfl hg_6 rfl rfl (oLg 3 isAgg24 sizeOf24 rfl rfl rfl rfl (Nat.le_of_ble_eq_true rfl)) ?_;refine gd_want rfl rfl rfl hg_6 rfl rfl (oLg 2 isAgg24 sizeOf24 rfl rfl rfl rfl (Nat.le_of_ble_eq_true rfl)) ?_;refine gd_want rfl rfl rfl hg_6 rfl rfl (o_call0 call35 rfl (w_lb_is hx16)) ?_;refine gd_p rfl rfl rfl (o_pickT rfl hg_6 rfl) ?_;refine gd_p rfl rfl rfl (o_neqb runUnderlying4 rfl rfl) ?_;refine gd_p rfl rfl rfl (oMv rfl) ?_;refine gd_want rfl rfl rfl hg_7 rfl rfl (oLg 2 isAgg24 sizeOf24 rfl rfl rfl rfl (Nat.le_of_ble_eq_true rfl)) ?_;refine gd_want rfl rfl rfl hg_7 rfl rfl (oLg 1 isAgg24 sizeOf24 rfl rfl rfl rfl (Nat.le_of_ble_eq_true rfl)) ?_;refine gd_want rfl rfl rfl hg_7 rfl rfl (o_call0 call35 rfl (w_lb_is hx17)) ?_;refine gd_want rfl rfl rfl hg_7 rfl rfl (oLg 2 isAgg24 sizeOf24 rfl rfl rfl rfl (Nat.le_of_ble_eq_true rfl)) ?_;refine gd_want rfl rfl rfl hg_7 rfl rfl (oLg 4 isAgg24 sizeOf24 rfl rfl rfl rfl (Nat.le_of_ble_eq_true rfl)) ?_;refine gd_want rfl rfl rfl hg_7 rfl rfl (o_call0 call35 rfl (w_lb_is hx18)) ?_;refine gd_want rfl rfl rfl hg_7 rfl rfl (oMv rfl) ?_;refine gd_want rfl rfl rfl hg_8 rfl rfl (oLg 2 isAgg24 sizeOf24 rfl rfl rfl rfl (Nat.le_of_ble_eq_true rfl)) ?_;refine gd_want rfl rfl rfl hg_8 rfl rfl (oLg 3 isAgg24 sizeOf24 rfl rfl rfl rfl (Nat.le_of_ble_eq_true rfl)) ?_;refine gd_want rfl rfl rfl hg_8 rfl rfl (o_call0 call35 rfl (w_lb_is hx19)) ?_;refine gd_want rfl rfl rfl hg_7 rfl rfl (o_pickT rfl hg_8 rfl) ?_;refine gd_want rfl rfl rfl hg_7 rfl rfl (o_neqb runUnderlying4 rfl rfl) ?_;refine gd_p rfl rfl rfl (o_pickF rfl hg_7 rfl) ?_;refine gd_nil ?_;refine gNl ?_;refine gCd rfl (fun hc4 => ?_) (fun hc4 => ?_)
       ·replace hm := cond_t hc4 hm
        refine g_seq (gRg ?_);refine go_p rfl rfl rfl (oAs rfl) ?_;refine gNl (g_ret ?_);exact retK (ret_one' rfl (ret_tmp rfl) (perm_drop _)) (congrArg (fun (p : Bool) => (.bool p : D)) (some_eq hm))
       ·replace hm := cond_f hc4 hm
        refine gSp (g_seq ?_);obtain ⟨x20, hx20, hm⟩ := bind_some hm;obtain ⟨x21, hx21, hm⟩ := bind_some hm;obtain ⟨x22, hx22, hm⟩ := bind_some hm;obtain ⟨x23, hx23, hm⟩ := bind_some hm;obtain ⟨x24, hx24, hm⟩ := bind_some hm;refine g_draw 12 Tryz_mixed (by decide +kernel) ?_;refine gd_p rfl rfl rfl (oLg 0 isAgg24 sizeOf24 rfl rfl rfl rfl (Nat.le_of_ble_eq_true rfl)) ?_;refine gd_p rfl rfl rfl (oLg 2 isAgg24 sizeOf24 rfl rfl rfl rfl (Nat.le_of_ble_eq_true rfl)) ?_;refine gd_p rfl rfl rfl (o_call0 call38 rfl (w_lb_with hx20)) ?_;refine gd_p rfl rfl rfl (oLg 4 isAgg24 sizeOf24 rfl rfl rfl rfl (Nat.le_of_ble_eq_true rfl)) ?_;refine gd_p rfl rfl rfl (oLg 2 isAgg24 sizeOf24 rfl rfl rfl rfl (Nat.le_of_ble_eq_true rfl)) ?_;refine gd_p rfl rfl rfl (o_call0 call38 rfl (w_lb_with hx21)) ?_;refine gd_p rfl rfl rfl (oLg 3 isAgg24 sizeOf24 rfl rfl rfl rfl (Nat.le_of_ble_eq_true rfl)) ?_;refine gd_p rfl rfl rfl (oLg 2 isAgg24 sizeOf24 rfl rfl rfl rfl (Nat.le_of_ble_eq_true rfl)) ?_;refine gd_p rfl rfl rfl (o_call0 call38 rfl (w_lb_with hx22)) ?_;refine gd_p rfl rfl rfl (o_call0 call38 rfl (w_lb_with hx23)) ?_;refine gd_p rfl rfl rfl (o_call0 call35 rfl (w_lb_is hx24)) ?_;refine gd_p rfl rfl rfl (oAs rfl) ?_;refine gd_nil ?_;refine gNl (g_ret ?_);exact retK (ret_one' rfl (ret_tmp rfl) (perm_drop _)) (congrArg (fun (p : Bool) => (.bool p : D)) (some_eq hm))
      ·
       skip
       refine g_draw 26 Tryz_mixed (by decide +kernel) ?_;refine gd_p rfl rfl rfl (oLg 0 isAgg24 sizeOf24 rfl rfl rfl rfl (Nat.le_of_ble_eq_true rfl)) ?_;refine gd_p rfl rfl rfl (oLg 2 isAgg24 sizeOf24 rfl rfl rfl rfl (Nat.le_of_ble_eq_true rfl)) ?_;refine gd_p rfl rfl rfl (o_call0 call35 rfl (w_lb_is hx14)) ?_;refine gd_p rfl rfl rfl (oLg 4 isAgg24 sizeOf24 rfl rfl rfl rfl (Nat.le_of_ble_eq_true rfl)) ?_;refine gd_p rfl rfl rfl (oLg 2 isAgg24 sizeOf24 rfl rfl rfl rfl (Nat.le_of_ble_eq_true rfl)) ?_;refine gd_p rfl rfl rfl (o_call0 call35 rfl (w_lb_is hx15)) ?_;refine gd_p rfl rfl rfl (oMv rfl) ?_;refine gd_want rfl rfl rfl hg_6 rfl rfl (oLg 3 isAgg24 sizeOf24 rfl rfl rfl rfl (Nat.le_of_ble_eq_true rfl)) ?_;refine gd_want rfl rfl rfl hg_6 rfl rfl (oLg 2 isAgg24 sizeOf24 rfl rfl rfl rfl (Nat.le_of_ble_eq_true rfl)) ?_;refine gd_want rfl rfl rfl hg_6 rfl rfl (o_call0 call35 rfl (w_lb_is hx16)) ?_;refine gd_p rfl rfl rfl (o_pickT rfl hg_6 rfl) ?_;refine gd_p rfl rfl rfl (o_neqb runUnderlying4 rfl rfl) ?_;refine gd_p rfl rfl rfl (oMv rfl) ?_;refine gd_want rfl rfl rfl hg_7 rfl rfl (oLg 2 isAgg24 sizeOf24 rfl rfl rfl rfl (Nat.le_of_ble_eq_true rfl)) ?_;refine gd_want rfl rfl rfl hg_7 rfl rfl (oLg 1 isAgg24 sizeOf24 rfl rfl rfl rfl (Nat.le_of_ble_eq_true rfl)) ?_;refine gd_want rfl rfl rfl hg_7 rfl rfl (o_call0 call35 rfl (w_lb_is hx17)) ?_;refine gd_want rfl rfl rfl hg_7 rfl rfl (oLg 2 isAgg24 sizeOf24 rfl rfl rfl rfl (Nat.le_of_ble_eq_true rfl)) ?_;refine gd_want rfl rfl rfl hg_7 rfl rfl (oLg 4 isAgg24 sizeOf24 rfl rfl rfl rfl (Nat.le_of_ble_eq_true rfl)) ?_;refine gd_want rfl rfl rfl hg_7 rfl rfl (o_call0 call35 rfl (w_lb_is hx18)) ?_;refine gd_want rfl rfl rfl hg_7 rfl rfl (oMv rfl) ?_;refine gd_skip rfl rfl rfl hg_8 rfl rfl ?_;refine gd_skip rfl rfl rfl hg_8 rfl rfl ?_;refine gd_skip rfl rfl rfl hg_8 rfl rfl ?_;refine gd_want rfl rfl rfl hg_7 rfl rfl (o_pickF rfl hg_8 rfl) ?_;refine gd_want rfl rfl rfl hg_7 rfl rfl (o_neqb runUnderlying4 rfl rfl) ?_;refine gd_p rfl rfl rfl (o_pickF rfl hg_7 rfl) ?_;refine gd_nil ?_;refine gNl ?_;refine gCd rfl (fun hc5 => ?_) (fun hc5 => ?_)
       ·replace hm := cond_t hc5 hm
        refine g_seq (gRg ?_);refine go_p rfl rfl rfl (oAs rfl) ?_;refine gNl (g_ret ?_);exact retK (ret_one' rfl (ret_tmp rfl) (perm_drop _)) (congrArg (fun (p : Bool) => (.bool p : D)) (some_eq hm))
       ·replace hm := cond_f hc5 hm
        refine gSp (g_seq ?_);obtain ⟨x25, hx25, hm⟩ := bind_some hm;obtain ⟨x26, hx26, hm⟩ := bind_some hm;obtain ⟨x27, hx27, hm⟩ := bind_some hm;obtain ⟨x28, hx28, hm⟩ := bind_some hm;obtain ⟨x29, hx29, hm⟩ := bind_some hm;refine g_draw 12 Tryz_mixed (by decide +kernel) ?_;refine gd_p rfl rfl rfl (oLg 0 isAgg24 sizeOf24 rfl rfl rfl rfl (Nat.le_of_ble_eq_true rfl)) ?_;refine gd_p rfl rfl rfl (oLg 2 isAgg24 sizeOf24 rfl rfl rfl rfl (Nat.le_of_ble_eq_true rfl)) ?_;refine gd_p rfl rfl rfl (o_call0 call38 rfl (w_lb_with hx25)) ?_;refine gd_p rfl rfl rfl (oLg 4 isAgg24 sizeOf24 rfl rfl rfl rfl (Nat.le_of_ble_eq_true rfl)) ?_;refine gd_p rfl rfl rfl (oLg 2 isAgg24 sizeOf24 rfl rfl rfl rfl (Nat.le_of_ble_eq_true rfl)) ?_;refine gd_p rfl rfl rfl (o_call0 call38 rfl (w_lb_with hx26)) ?_;refine gd_p rfl rfl rfl (oLg 3 isAgg24 sizeOf24 rfl rfl rfl rfl (Nat.le_of_ble_eq_true rfl)) ?_;refine gd_p rfl rfl rfl (oLg 2 isAgg24 sizeOf24 rfl rfl rfl rfl (Nat.le_of_ble_eq_true rfl)) ?_;refine gd_p rfl rfl rfl (o_call0 call38 rfl (w_lb_with hx27)) ?_;refine gd_p rfl rfl rfl (o_call0 call38 rfl (w_lb_with hx28)) ?_;refine gd_p rfl rfl rfl (o_call0 call35 rfl (w_lb_is hx29)) ?_;refine gd_p rfl rfl rfl (oAs rfl) ?_;refine gd_nil ?_;refine gNl (g_ret ?_);exact retK (ret_one' rfl (ret_tmp rfl) (perm_drop _)) (congrArg (fun (p : Bool) => (.bool p : D)) (some_eq hm))
    ·
     skip
     rcases cond_split hm with ⟨hg_9, hm⟩ | ⟨hg_9, hm⟩
     ·
      skip
      refine g_draw 26 Tryz_mixed (by decide +kernel) ?_;refine gd_p rfl rfl rfl (oLg 0 isAgg24 sizeOf24 rfl rfl rfl rfl (Nat.le_of_ble_eq_true rfl)) ?_;refine gd_p rfl rfl rfl (oLg 2 isAgg24 sizeOf24 rfl rfl rfl rfl (Nat.le_of_ble_eq_true rfl)) ?_;refine gd_p rfl rfl rfl (o_call0 call35 rfl (w_lb_is hx14)) ?_;refine gd_p rfl rfl rfl (oLg 4 isAgg24 sizeOf24 rfl rfl rfl rfl (Nat.le_of_ble_eq_true rfl)) ?_;refine gd_p rfl rfl rfl (oLg 2 isAgg24 sizeOf24 rfl rfl rfl rfl (Nat.le_of_ble_eq_true rfl)) ?_;refine gd_p rfl rfl rfl (o_call0 call35 rfl (w_lb_is hx15)) ?_;refine gd_p rfl rfl rfl (oMv rfl) ?_;refine gd_skip rfl rfl rfl hg_6 rfl rfl ?_;refine gd_skip rfl rfl rfl hg_6 rfl rfl ?_;refine gd_skip rfl rfl rfl hg_6 rfl rfl ?_;refine gd_p rfl rfl rfl (o_pickF rfl hg_6 rfl) ?_;refine gd_p rfl rfl rfl (o_neqb runUnderlying4 rfl rfl) ?_;refine gd_p rfl rfl rfl (oMv rfl) ?_;refine gd_skip rfl rfl rfl hg_9 rfl rfl ?_;refine gd_skip rfl rfl rfl hg_9 rfl rfl ?_;refine gd_skip rfl rfl rfl hg_9 rfl rfl ?_;refine gd_skip rfl rfl rfl hg_9 rfl rfl ?_;refine gd_skip rfl rfl rfl hg_9 rfl rfl ?_;refine gd_skip rfl rfl rfl hg_9 rfl rfl ?_;refine gd_skip rfl rfl rfl hg_9 rfl rfl ?_;refine gd_skipu rfl rfl rfl rfl rfl ?_;refine gd_skipu rfl rfl rfl rfl rfl ?_;refine gd_skipu rfl rfl rfl rfl rfl ?_;refine gd_skip rfl rfl rfl hg_9 rfl rfl ?_;refine gd_skip rfl rfl rfl hg_9 rfl rfl ?_;refine gd_p rfl rfl rfl (o_pickT rfl hg_9 rfl) ?_;refine gd_nil ?_;refine gNl ?_;refine g_cond_true rfl rfl ?_;refine g_seq (gRg ?_);refine go_p rfl rfl rfl (oAs rfl) ?_;refine gNl (g_ret ?_);exact retK (ret_one' rfl (ret_tmp rfl) (perm_drop _)) (congrArg (fun (p : Bool) => (.bool p : D)) (some_eq hm))
     ·
      skip
      obtain ⟨x30, hx30, hm⟩ := bind_some hm;obtain ⟨x31, hx31, hm⟩ := bind_some hm
      rcases cond_split hm with ⟨hg_10, hm⟩ | ⟨hg_10, hm⟩
      ·
       skip
       obtain ⟨x32, hx32, hm⟩ := bind_some hm;refine g_draw 26 Tryz_mixed (by decide +kernel) ?_;refine gd_p rfl rfl rfl (oLg 0 isAgg24 sizeOf24 rfl rfl rfl rfl (Nat.le_of_ble_eq_true rfl)) ?_;refine gd_p rfl rfl rfl (oLg 2 isAgg24 sizeOf24 rfl rfl rfl rfl (Nat.le_of_ble_eq_true rfl)) ?_;refine gd_p rfl rfl rfl (o_call0 call35 rfl (w_lb_is hx14)) ?_;refine gd_p rfl rfl rfl (oLg 4 isAgg24 sizeOf24 rfl rfl rfl rfl (Nat.le_of_ble_eq_true rfl)) ?_;refine gd_p rfl rfl rfl (oLg 2 isAgg24 sizeOf24 rfl rfl rfl rfl (Nat.le_of_ble_eq_true rfl)) ?_;refine gd_p rfl rfl rfl (o_call0 call35 rfl (w_lb_is hx15)) ?_;refine gd_p rfl rfl rfl (oMv rfl) ?_;refine gd_skip rfl rfl rfl hg_6 rfl rfl ?_;refine gd_skip rfl rfl rfl hg_6 rfl rfl ?_;refine gd_skip rfl rfl rfl hg_6 rfl rfl ?_;refine gd_p rfl rfl rfl (o_pickF rfl hg_6 rfl) ?_;refine gd_p rfl rfl rfl (o_neqb runUnderlying4 rfl rfl) ?_;refine gd_p rfl rfl rfl (oMv rfl) ?_;refine gd_want rfl rfl rfl hg_9 rfl rfl (oLg 2 isAgg24 sizeOf24 rfl rfl rfl rfl (Nat.le_of_ble_eq_true rfl)) ?_;refine gd_want rfl rfl rfl hg_9 rfl rfl (oLg 1 isAgg24 sizeOf24 rfl rfl rfl rfl (Nat.le_of_ble_eq_true rfl)) ?_;refine gd_want rfl rfl rfl hg_9 rfl rfl (o_call0 call35 rfl (w_lb_is hx30)) ?_;refine gd_want rfl rfl rfl hg_9 rfl rfl (oLg 2 isAgg24 sizeOf24 rfl rfl rfl rfl (Nat.le_of_ble_eq_true rfl)) ?_;refine gd_want rfl rfl rfl hg_9 rfl rfl (oLg 4 isAgg24 sizeOf24 rfl rfl rfl rfl (Nat.le_of_ble_eq_true rfl)) ?_;refine gd_want rfl rfl rfl hg_9 rfl rfl (o_call0 call35 rfl (w_lb_is hx31)) ?_;refine gd_want rfl rfl rfl hg_9 rfl rfl (oMv rfl) ?_;refine gd_want rfl rfl rfl hg_10 rfl rfl (oLg 2 isAgg24 sizeOf24 rfl rfl rfl rfl (Nat.le_of_ble_eq_true rfl)) ?_;refine gd_want rfl rfl rfl hg_10 rfl rfl (oLg 3 isAgg24 sizeOf24 rfl rfl rfl rfl (Nat.le_of_ble_eq_true rfl)) ?_;refine gd_want rfl rfl rfl hg_10 rfl rfl (o_call0 call35 rfl (w_lb_is hx32)) ?_;refine gd_want rfl rfl rfl hg_9 rfl rfl (o_pickT rfl hg_10 rfl) ?_;refine gd_want rfl rfl rfl hg_9 rfl rfl (o_neqb runUnderlying4 rfl rfl) ?_;refine gd_p rfl rfl rfl (o_pickF rfl hg_9 rfl) ?_;refine gd_nil ?_;refine gNl ?_;refine gCd rfl (fun hc6 => ?_) (fun hc6 => ?_)
       ·replace hm := cond_t hc6 hm
        refine g_seq (gRg ?_);refine go_p rfl rfl rfl (oAs rfl) ?_;refine gNl (g_ret ?_);exact retK (ret_one' rfl (ret_tmp rfl) (perm_drop _)) (congrArg (fun (p : Bool) => (.bool p : D)) (some_eq hm))
       ·replace hm := cond_f hc6 hm
        refine gSp (g_seq ?_);obtain ⟨x33, hx33, hm⟩ := bind_some hm;obtain ⟨x34, hx34, hm⟩ := bind_some hm;obtain ⟨x35, hx35, hm⟩ := bind_some hm;obtain ⟨x36, hx36, hm⟩ := bind_some hm;obtain ⟨x37, hx37, hm⟩ := bind_some hm;refine g_draw 12 Tryz_mixed (by decide +kernel) ?_;refine gd_p rfl rfl rfl (oLg 0 isAgg24 sizeOf24 rfl rfl rfl rfl (Nat.le_of_ble_eq_true rfl)) ?_;refine gd_p rfl rfl rfl (oLg 2 isAgg24 sizeOf24 rfl rfl rfl rfl (Nat.le_of_ble_eq_true rfl)) ?_;refine gd_p rfl rfl rfl (o_call0 call38 rfl (w_lb_with hx33)) ?_;refine gd_p rfl rfl rfl (oLg 4 isAgg24 sizeOf24 rfl rfl rfl rfl (Nat.le_of_ble_eq_true rfl)) ?_;refine gd_p rfl rfl rfl (oLg 2 isAgg24 sizeOf24 rfl rfl rfl rfl (Nat.le_of_ble_eq_true rfl)) ?_;refine gd_p rfl rfl rfl (o_call0 call38 rfl (w_lb_with hx34)) ?_;refine gd_p rfl rfl rfl (oLg 3 isAgg24 sizeOf24 rfl rfl rfl rfl (Nat.le_of_ble_eq_true rfl)) ?_;refine gd_p rfl rfl rfl (oLg 2 isAgg24 sizeOf24 rfl rfl rfl rfl (Nat.le_of_ble_eq_true rfl)) ?_;refine gd_p rfl rfl rfl (o_call0 call38 rfl (w_lb_with hx35)) ?_;refine gd_p rfl rfl rfl (o_call0 call38 rfl (w_lb_with hx36)) ?_;refine gd_p rfl rfl rfl (o_call0 call35 rfl (w_lb_is hx37)) ?_;refine gd_p rfl rfl rfl (oAs rfl) ?_;refine gd_nil ?_;refine gNl (g_ret ?_);exact retK (ret_one' rfl (ret_tmp rfl) (perm_drop _)) (congrArg (fun (p : Bool) => (.bool p : D)) (some_eq hm))
      ·
       skip
       refine g_draw 26 Tryz_mixed (by decide +kernel) ?_;refine gd_p rfl rfl rfl (oLg 0 isAgg24 sizeOf24 rfl rfl rfl rfl (Nat.le_of_ble_eq_true rfl)) ?_;refine gd_p rfl rfl rfl (oLg 2 isAgg24 sizeOf24 rfl rfl rfl rfl (Nat.le_of_ble_eq_true rfl)) ?_;refine gd_p rfl rfl rfl (o_call0 call35 rfl (w_lb_is hx14)) ?_;refine gd_p rfl rfl rfl (oLg 4 isAgg24 sizeOf24 rfl rfl rfl rfl (Nat.le_of_ble_eq_true rfl)) ?_;refine gd_p rfl rfl rfl (oLg 2 isAgg24 sizeOf24 rfl rfl rfl rfl (Nat.le_of_ble_eq_true rfl)) ?_;refine gd_p rfl rfl rfl (o_call0 call35 rfl (w_lb_is hx15)) ?_;refine gd_p rfl rfl rfl (oMv rfl) ?_;refine gd_skip rfl rfl rfl hg_6 rfl rfl ?_;refine gd_skip rfl rfl rfl hg_6 rfl rfl ?_;refine gd_skip rfl rfl rfl hg_6 rfl rfl ?_;refine gd_p rfl rfl rfl (o_pickF rfl hg_6 rfl) ?_;refine gd_p rfl rfl rfl (o_neqb runUnderlying4 rfl rfl) ?_;refine gd_p rfl rfl rfl (oMv rfl) ?_;refine gd_want rfl rfl rfl hg_9 rfl rfl (oLg 2 isAgg24 sizeOf24 rfl rfl rfl rfl (Nat.le_of_ble_eq_true rfl)) ?_;refine gd_want rfl rfl rfl hg_9 rfl rfl (oLg 1 isAgg24 sizeOf24 rfl rfl rfl rfl (Nat.le_of_ble_eq_true rfl)) ?_;refine gd_want rfl rfl rfl hg_9 rfl rfl (o_call0 call35 rfl (w_lb_is hx30)) ?_;refine gd_want rfl rfl rfl hg_9 rfl rfl (oLg 2 isAgg24 sizeOf24 rfl rfl rfl rfl (Nat.le_of_ble_eq_true rfl)) ?_;refine gd_want rfl rfl rfl hg_9 rfl rfl (oLg 4 isAgg24 sizeOf24 rfl rfl rfl rfl (Nat.le_of_ble_eq_true rfl)) ?_;refine gd_want rfl rfl rfl hg_9 rfl rfl (o_call0 call35 rfl (w_lb_is hx31)) ?_;refine gd_want rfl rfl rfl hg_9 rfl rfl (oMv rfl) ?_;refine gd_skip rfl rfl rfl hg_10 rfl rfl ?_;refine gd_skip rfl rfl rfl hg_10 rfl rfl ?_;refine gd_skip rfl rfl rfl hg_10 rfl rfl ?_;refine gd_want rfl rfl rfl hg_9 rfl rfl (o_pickF rfl hg_10 rfl) ?_;refine gd_want rfl rfl rfl hg_9 rfl rfl (o_neqb runUnderlying4 rfl rfl) ?_;refine gd_p rfl rfl rfl (o_pickF rfl hg_9 rfl) ?_;refine gd_nil ?_;refine gNl ?_;refine gCd rfl (fun hc7 => ?_) (fun hc7 => ?_)
       ·replace hm := cond_t hc7 hm
        refine g_seq (gRg ?_);refine go_p rfl rfl rfl (oAs rfl) ?_;refine gNl (g_ret ?_);exact retK (ret_one' rfl (ret_tmp rfl) (perm_drop _)) (congrArg (fun (p : Bool) => (.bool p : D)) (some_eq hm))
       ·replace hm := cond_f hc7 hm
        refine gSp (g_seq ?_);obtain ⟨x38, hx38, hm⟩ := bind_some hm;obtain ⟨x39, hx39, hm⟩ := bind_some hm;obtain ⟨x40, hx40, hm⟩ := bind_some hm;obtain ⟨x41, hx41, hm⟩ := bind_some hm;obtain ⟨x42, hx42, hm⟩ := bind_some hm;refine g_draw 12 Tryz_mixed (by decide +kernel) ?_;refine gd_p rfl rfl rfl (oLg 0 isAgg24 sizeOf24 rfl rfl rfl rfl (Nat.le_of_ble_eq_true rfl)) ?_;refine gd_p rfl rfl rfl (oLg 2 isAgg24 sizeOf24 rfl rfl rfl rfl (Nat.le_of_ble_eq_true rfl)) ?_;refine gd_p rfl rfl rfl (o_call0 call38 rfl (w_lb_with hx38)) ?_;refine gd_p rfl rfl rfl (oLg 4 isAgg24 sizeOf24 rfl rfl rfl rfl (Nat.le_of_ble_eq_true rfl)) ?_;refine gd_p rfl rfl rfl (oLg 2 isAgg24 sizeOf24 rfl rfl rfl rfl (Nat.le_of_ble_eq_true rfl)) ?_;refine gd_p rfl rfl rfl (o_call0 call38 rfl (w_lb_with hx39)) ?_;refine gd_p rfl rfl rfl (oLg 3 isAgg24 sizeOf24 rfl rfl rfl rfl (Nat.le_of_ble_eq_true rfl)) ?_;refine gd_p rfl rfl rfl (oLg 2 isAgg24 sizeOf24 rfl rfl rfl rfl (Nat.le_of_ble_eq_true rfl)) ?_;refine gd_p rfl rfl rfl (o_call0 call38 rfl (w_lb_with hx40)) ?_;refine gd_p rfl rfl rfl (o_call0 call38 rfl (w_lb_with hx41)) ?_;refine gd_p rfl rfl rfl (o_call0 call35 rfl (w_lb_is hx42)) ?_;refine gd_p rfl rfl rfl (oAs rfl) ?_;refine gd_nil ?_;refine gNl (g_ret ?_);exact retK (ret_one' rfl (ret_tmp rfl) (perm_drop _)) (congrArg (fun (p : Bool) => (.bool p : D)) (some_eq hm))
end Go.Proofs.YtkfnogdccpcmhaaGreatDoor
namespace Go.Proofs.YtkfnogdccpcmhaaGreatDoor
open Go.V Tryz
open Classical
theorem FUv : FU = 18446744073709551616 := rfl
theorem bt (b c : Bool) : (bif b then some true else some c : Option Bool) = some (b || c) := by cases b <;> rfl
theorem bf (b c : Bool) : (bif b then some c else some false : Option Bool) = some (b && c) := by cases b <;> rfl
def smallB (c : UInt8) : Bool := (decide (97 <= (c.toNat : Int)) && decide ((c.toNat : Int) <= 122)) || decide ((c.toNat : Int) = 95)
def greatB (c : UInt8) : Bool := decide (65 <= (c.toNat : Int)) && decide ((c.toNat : Int) <= 90)
def moreB (c : UInt8) : Bool := (smallB c || greatB c) || (decide (48 <= (c.toNat : Int)) && decide ((c.toNat : Int) <= 57))
def wordP : List UInt8 -> Nat
 | [] => 0
 | c :: r => if smallB c = true \/ greatB c = true then 1 + (r.takeWhile moreB).length else 0
theorem word_c (c : UInt8) (r : List UInt8) : wordP (c :: r) = if smallB c = true \/ greatB c = true then 1 + (r.takeWhile moreB).length else 0 := rfl
theorem word_eq (s : List UInt8) (h : s.length <= 1000000000000) : m_name_Word s = some (wordP s : Int) := by
 unfold m_name_Word
 rcases s with _ | ⟨c, r⟩
 ·rfl
 ·rw [decide_eq_false (by simp), cond_false, idx_c0, Option.bind_some]
  simp only [m_name_small, m_name_great, Option.bind_some, bf];rw [show (((decide (97 <= (c.toNat : Int))) && (decide ((c.toNat : Int) <= 122))) || (decide ((c.toNat : Int) = 95))) = smallB c from rfl, show ((decide (65 <= (c.toNat : Int))) && (decide ((c.toNat : Int) <= 90))) = greatB c from rfl];rw [word_c]
  cases h1 : smallB c || greatB c with
  | false =>
   simp only [Bool.or_eq_false_iff] at h1;rw [h1.1, h1.2]; simp
  | true =>
   rw [if_pos (by simpa using h1)]
   have : (!smallB c && !greatB c) = false := by cases hs : smallB c <;> cases hg : greatB c <;> simp_all
   rw [this, cond_false];simp only [List.length_cons] at h;refine bnd (loop_while (φ := m_name_Word_l1 (c :: r)) (l := c :: r) moreB (fun i => (i : Int)) ?_ ?_ FU 1 (by simp) (by rw [FUv]; simp; omega)) rfl
   ·intro n i x hx hi
    simp only [List.length_cons] at hi;simp only [m_name_Word_l1];rw [decide_eq_true (by simp only [List.length_cons]; omega), cond_true, getI hx, Option.bind_some];simp only [m_name_more, m_name_small, m_name_great, Option.bind_some, bt]
    constructor
    ·intro hq
     simp only [moreB, smallB, greatB] at hq;rw [hq, cond_true, grd_pos (by omega)]
    ·intro hq
     simp only [moreB, smallB, greatB] at hq;rw [hq, cond_false]
   ·intro n
    simp only [m_name_Word_l1];rw [decide_eq_false (by omega), cond_false, Option.bind_some, cond_false]
def keysL : List (List UInt8) := match m_name_Keywords with | some l => l | none => []
theorem keys_eq : m_name_Keywords = some keysL := rfl
theorem isKey_eq (l : List (List UInt8)) (s : List UInt8) (h : l.length <= 1000) : m_cnS l s = some (decide (s ∈ l)) := by
 unfold m_cnS m_ixS
 have e := loop_find (φ := m_ixS_l1 l s) (l := l) (fun i => (i : Int)) (fun x => decide (s = x)) (by
  intro n i x hx hi
  simp only [m_ixS_l1];rw [decide_eq_true (show (i : Int) < l.length by omega), cond_true, getI hx, Option.bind_some]
  constructor
  ·intro hq; rw [show decide (s = x) = false from by simpa using hq, cond_false, grd_pos (by omega)]
  ·intro hq; rw [show decide (s = x) = true from by simpa using hq, cond_true]) (by
  intro n
  simp only [m_ixS_l1];rw [decide_eq_false (by omega), cond_false]) (by rw [FUv]; omega)
 rw [bind_of e]
 cases hf : l.findIdx? (fun x => decide (s = x)) with
 | none =>
  rw [List.findIdx?_eq_none_iff] at hf
  show some (decide _) = _
  congr 1
  rw [decide_eq_false (by omega), decide_eq_false]
  intro hs
  have := hf s hs
  simp at this
 | some k =>
  rw [List.findIdx?_eq_some_iff_getElem] at hf;obtain ⟨hk, h1, _⟩ := hf
  show some (decide _) = _
  congr 1
  rw [decide_eq_true (by omega), decide_eq_true];simp only [decide_eq_true_eq] at h1;rw [h1];exact List.getElem_mem hk
def headP (p : UInt8 -> Bool) : List UInt8 -> Bool
 | [] => false
 | c :: _ => p c
def wholeP (s : List UInt8) : Bool := decide (s ≠ []) && decide (s.length <= 20) && decide (wordP s = s.length)
def nameP (s : List UInt8) : Bool := wholeP s && headP smallB s && !decide (s ∈ keysL)
def tagP (s : List UInt8) : Bool := wholeP s && headP greatB s
theorem whole_eq (s : List UInt8) : m_name_whole s = some (wholeP s) := by
 unfold m_name_whole wholeP
 by_cases h1 : s = []
 ·subst h1; rfl
 by_cases h2 : s.length <= 20
 ·rw [decide_eq_false h1, decide_eq_true (show (s.length : Int) <= 20 by omega), word_eq s (by omega)]
  simp only [Bool.not_false, Bool.true_and, cond_true, Option.bind_some, decide_eq_true (show s ≠ [] from h1), decide_eq_true h2]
  congr 1
  exact decide_eq_decide.2 (by omega)
 ·rw [decide_eq_false (show ¬ (s.length : Int) <= 20 by omega), decide_eq_false h2]; simp
theorem name_eq (s : List UInt8) : m_name_Name s = some (nameP s) := by
 unfold m_name_Name nameP;rw [whole_eq, Option.bind_some]
 cases hw : wholeP s with
 | false => rfl
 | true =>
  rcases s with _ | ⟨c, r⟩
  ·simp [wholeP] at hw
  ·rw [cond_true, idx_c0, Option.bind_some]
   simp only [m_name_small, Option.bind_some, m_name_Keyword, keys_eq, Bool.true_and];rw [isKey_eq _ _ (by decide), Option.bind_some, Option.bind_some, bf, Option.bind_some]; rfl
theorem tag_eq (s : List UInt8) : m_name_Tag s = some (tagP s) := by
 unfold m_name_Tag tagP;rw [whole_eq, Option.bind_some]
 cases hw : wholeP s with
 | false => rfl
 | true =>
  rcases s with _ | ⟨c, r⟩
  ·simp [wholeP] at hw
  ·rw [cond_true, idx_c0, Option.bind_some]; rfl
def fewN (n : ApiTNode) : ApiTNode := ⟨n.kind, n.a, n.b, [] ++ n.l.take 40⟩
def fewC (m : Nat) (l : List ApiTNode) : Nat := if 2000 < l.length then 2001 else m
def fewT (m : Nat) (t : ApiType) : ApiType := ⟨(t.l.take (fewC m t.l)).map fewN, t.root⟩
theorem min40 (l : List ApiTField) : sli l 0 (if 40 < (l.length : Int) then 40 else (l.length : Int)) = some (l.take 40) := by
 by_cases h : 40 < (l.length : Int)
 ·rw [if_pos h]; exact sli_take (k := 40) (by omega)
 ·rw [if_neg h, sli_take (by omega), List.take_of_length_le (by omega), List.take_of_length_le (by omega)]
theorem few_eq (t : ApiType) (m : Nat) (M : Int) (hM : M = m) (hm : m <= 2000) : m_lg_Few t M = some (fewT m t) := by
 subst hM;unfold m_lg_Few fewT
 have hC : fewC m t.l = 2001 /\ 2000 < t.l.length \/ fewC m t.l = m /\ ¬ 2000 < t.l.length := by unfold fewC; split <;> simp_all
 have hL : (t.l.take (fewC m t.l)).length <= 2001 /\ (t.l.take (fewC m t.l)).length <= t.l.length /\ (t.l.take (fewC m t.l)).length <= fewC m t.l := by rw [List.length_take]; omega
 rw [loop_map (φ := fun n i s => m_lg_Few_l1 t (m : Int) n (i, s, t.root)) (l := t.l.take (fewC m t.l)) fewN (fun s => (s, t.root)) 0 ?_ ?_ (by rw [FUv]; omega) [] rfl]
 ·rfl
 ·intro n i x s hx hi hs
  have hx2 : t.l[i]? = some x := by
   rw [List.getElem?_take, if_pos (by omega)] at hx;exact hx
  have h40 : (x.l.take 40).length <= 40 := by rw [List.length_take]; omega
  simp only [m_lg_Few_l1];rw [decide_eq_true (show (i : Int) < t.l.length by omega), Bool.true_and, show (decide ((i : Int) < (m : Int)) || (decide (2000 < (t.l.length : Int)) && decide ((i : Int) <= 2000))) = true by
   rw [Bool.or_eq_true, Bool.and_eq_true, decide_eq_true_eq, decide_eq_true_eq, decide_eq_true_eq]; omega, cond_true, getI hx2, Option.bind_some, min40, Option.bind_some, grd_pos (by omega), grd_pos (by simp only [List.length_cons, List.length_nil]; omega), grd_pos (by omega)]
  rfl
 ·intro n s hs
  simp only [m_lg_Few_l1];rw [show (decide (((t.l.take (fewC m t.l)).length : Int) < t.l.length) && (decide (((t.l.take (fewC m t.l)).length : Int) < (m : Int)) || (decide (2000 < (t.l.length : Int)) && decide (((t.l.take (fewC m t.l)).length : Int) <= 2000)))) = false by
   rw [List.length_take, Bool.and_eq_false_iff, Bool.or_eq_false_iff, Bool.and_eq_false_iff, decide_eq_false_iff_not, decide_eq_false_iff_not, decide_eq_false_iff_not, decide_eq_false_iff_not]; omega, cond_false]
theorem fewT_len (m : Nat) (hm : m <= 2000) (t : ApiType) : (fewT m t).l.length <= 2001 := by unfold fewT fewC; simp only [List.length_map, List.length_take]; split <;> omega
def NB (n : ApiTNode) : Prop := n.l.length <= 40
theorem fewN_nb (n : ApiTNode) : NB (fewN n) := by unfold fewN NB; simp; omega
theorem fewT_nb (m : Nat) (t : ApiType) : ∀ n ∈ (fewT m t).l, NB n := by
 intro n hn
 obtain ⟨k, _, rfl⟩ := List.mem_map.1 hn;exact fewN_nb k
theorem fewT_small (m : Nat) (t : ApiType) (h : (fewT m t).l.length <= 2000) : (fewT m t).l.length <= m := by
 unfold fewT fewC at h ⊢;simp only [List.length_map, List.length_take] at h ⊢
 split at h <;> split <;> omega
def pB (k : Int) : Bool := (decide (k = 6) || decide (k = 9)) || decide (k = 10)
def wB (k : Int) : Bool := decide (k = 7) || decide (k = 8)
def kidsL (n : ApiTNode) : List Int := bif pB n.kind then [n.a, n.b] else bif wB n.kind then n.l.map (·.at_) else []
theorem kids_eq (n : ApiTNode) (h : NB n) : m_graph_Kids n = some (kidsL n) := by
 unfold m_graph_Kids kidsL m_graph_pair m_graph_wide;unfold NB at h;rw [Option.bind_some, Option.bind_some]
 change (bif pB n.kind then _ else bif wB n.kind then _ else _) = _
 cases pB n.kind
 ·cases wB n.kind
  ·rfl
  ·rw [cond_false, cond_true, cond_false, cond_true, loop_map (φ := fun k i s => m_graph_Kids_l1 n k (i, s)) (l := n.l) (·.at_) id 0 ?_ ?_ (by rw [FUv]; omega) [] rfl]
   ·rfl
   ·intro k i x s hx hi hs
    simp only [m_graph_Kids_l1];rw [decide_eq_true (show (i : Int) < n.l.length by omega), cond_true, getI hx, Option.bind_some, grd_pos (by simp only [List.length_cons, List.length_nil]; omega), grd_pos (by omega)]
   ·intro k s hs
    simp only [m_graph_Kids_l1];rw [decide_eq_false (by omega), cond_false]; rfl
 ·rfl
theorem kidsL_len (n : ApiTNode) (h : NB n) : (kidsL n).length <= 40 := by
 unfold kidsL; unfold NB at h
 cases pB n.kind
 ·cases wB n.kind
  ·simp
  ·simpa using h
 ·simp
def badF (n : ApiTNode) (x : ApiTField) : Bool := (decide (n.kind = 7) && !nameP x.name) || (decide (n.kind = 8) && !tagP x.name)
def okF (n : ApiTNode) (i : Nat) (x : ApiTField) : Prop := badF n x = false /\ (0 < i -> ∀ y, n.l[i - 1]? = some y -> Op.bytesLess y.name x.name = true)
def namedP (n : ApiTNode) : Prop := ∀ i x, n.l[i]? = some x -> okF n i x
theorem named_eq (n : ApiTNode) (h : NB n) : m_graph_named n = some (decide (namedP n) && decide ((n.l.length : Int) <= 30)) := by
 unfold m_graph_named;unfold NB at h;rw [loop_all (φ := m_graph_named_l1 n) (l := n.l) false (okF n) ?_ ?_ (by rw [FUv]; omega), Option.bind_some]
 ·by_cases hp : namedP n
  ·rw [if_pos (show ∀ i x, n.l[i]? = some x -> okF n i x from hp), decide_eq_true hp]; rfl
  ·rw [if_neg (show ¬ ∀ i x, n.l[i]? = some x -> okF n i x from hp), decide_eq_false hp]; rfl
 ·intro k i x hx hi
  simp only [m_graph_named_l1]
  have e1 : ((bif (decide (n.kind = 7)) then ((m_name_Name x.name).bind fun x3 => some (!x3)) else (some false)).bind fun p1 =>
   (bif p1 then (some true) else ((bif (decide (n.kind = 8)) then ((m_name_Tag x.name).bind fun x4 => some (!x4)) else (some false)).bind fun p3 => some p3))) = some (badF n x) := by
   rw [name_eq, tag_eq, Option.bind_some, Option.bind_some, bf, Option.bind_some, bf, Option.bind_some, bt]; rfl
  rw [decide_eq_true (show (i : Int) < n.l.length by omega), cond_true, getI hx, Option.bind_some, <- Option.bind_assoc, e1, Option.bind_some];unfold okF
  cases hb : badF n x
  ·rw [cond_false]
   by_cases h0 : 0 < i
   ·have hy : n.l[i - 1]? = some n.l[i - 1] := List.getElem?_eq_getElem (by omega)
    rw [decide_eq_true (show (0 : Int) < (i : Int) by omega), cond_true, grd_pos (by omega), show ((i : Int) - 1) = ((i - 1 : Nat) : Int) by omega, getI hy, Option.bind_some]
    constructor
    ·rintro ⟨_, h2⟩
     rw [h2 h0 _ hy, Bool.not_true, cond_false, grd_pos (by omega)]
    ·intro h2
     cases hl : Op.bytesLess (n.l[i - 1]).name x.name
     ·rfl
     ·exact absurd ⟨rfl, fun _ y hy2 => by rw [hy] at hy2; cases hy2; exact hl⟩ h2
   ·rw [decide_eq_false (show ¬ (0 : Int) < (i : Int) by omega), cond_false]
    exact ⟨fun _ => by rw [grd_pos (by omega)], fun h2 => absurd ⟨rfl, fun h3 => absurd h3 h0⟩ h2⟩
  ·rw [cond_true]
   exact ⟨fun h2 => by simp at h2, fun _ => rfl⟩
 ·intro k
  simp only [m_graph_named_l1];rw [decide_eq_false (by omega), cond_false]
def inB (all k : Int) : Bool := decide (k < 0) || decide (all <= k)
theorem outKids_eq (l : List Int) (all : Int) (h : l.length <= 1000) : m_cnI l (fun y0 => m_graph_right_1 y0 all) = some (decide (∃ k ∈ l, inB all k = true)) := by
 unfold m_cnI m_ixI;rw [loop_find (φ := m_ixI_l1 l (fun y0 => m_graph_right_1 y0 all)) (l := l) (fun i => (i : Int)) (inB all) ?_ ?_ (by rw [FUv]; omega)]
 ·rw [Option.bind_some]
  cases hf : l.findIdx? (inB all) with
  | none =>
   have : ¬ ∃ k ∈ l, inB all k = true := by
    rintro ⟨c, hc, hne⟩
    have := List.findIdx?_eq_none_iff.1 hf c hc
    rw [hne] at this; cases this
   rw [decide_eq_false this]; rfl
  | some i =>
   obtain ⟨hi, h1, _⟩ := List.findIdx?_eq_some_iff_getElem.1 hf
   have : ∃ k ∈ l, inB all k = true := ⟨l[i], List.getElem_mem hi, h1⟩
   rw [decide_eq_true this]
   show some (decide (0 <= (i : Int))) = some true
   rw [decide_eq_true (by omega)]
 ·intro n i x hx hi
  simp only [m_ixI_l1];rw [decide_eq_true (show (i : Int) < l.length by omega), cond_true, getI hx, Option.bind_some, show m_graph_right_1 x all = some (inB all x) from rfl, Option.bind_some];exact ⟨fun hq => by rw [hq, cond_false, grd_pos (by omega)], fun hq => by rw [hq, cond_true]⟩
 ·intro n
  simp only [m_ixI_l1];rw [decide_eq_false (by omega), cond_false]
noncomputable def rightB (n : ApiTNode) (all : Int) : Bool :=
 !(decide (n.kind < 1) || decide (11 < n.kind)) && (!((!pB n.kind) && ((!decide (n.b = 0)) || ((!decide (n.kind = 11)) && (!decide (n.a = 0))))) && (!(decide (n.kind = 11) && (decide (n.a < 0) || decide (999 < n.a))) &&
  (!((!wB n.kind) && decide (0 < (n.l.length : Int))) && ((decide (namedP n) && decide ((n.l.length : Int) <= 30)) && !decide (∃ k ∈ kidsL n, inB all k = true)))))
theorem right_eq (n : ApiTNode) (all : Int) (h : NB n) : m_graph_right n all = some (rightB n all) := by
 unfold m_graph_right rightB;rw [show m_graph_pair n.kind = some (pB n.kind) from rfl, show m_graph_wide n.kind = some (wB n.kind) from rfl, Option.bind_some, Option.bind_some, named_eq n h, kids_eq n h, Option.bind_some, Option.bind_some, outKids_eq _ _ (by have := kidsL_len n h; omega), Option.bind_some]
 cases (decide (n.kind < 1) || decide (11 < n.kind))
 ·cases ((!pB n.kind) && ((!decide (n.b = 0)) || ((!decide (n.kind = 11)) && (!decide (n.a = 0)))))
  ·cases (decide (n.kind = 11) && (decide (n.a < 0) || decide (999 < n.a)))
   ·cases ((!wB n.kind) && decide (0 < (n.l.length : Int)))
    ·cases (decide (namedP n) && decide ((n.l.length : Int) <= 30)) <;> rfl
    ·rfl
   ·rfl
  ·rfl
 ·rfl
end Go.Proofs.YtkfnogdccpcmhaaGreatDoor
namespace Go.Proofs.YtkfnogdccpcmhaaGreatDoor
open Go.V Tryz
open Classical
def latB (k : Int) : Bool := decide (k = 9) || decide (k = 10)
def endk (L : List ApiTNode) : Nat -> Nat -> Bool
 | 0, _ => false
 | k + 1, i => match L[i]? with
  | some n => !latB n.kind || (endk L k n.a.toNat && endk L k n.b.toNat)
  | none => false
theorem endk_succ (L : List ApiTNode) : ∀ (k i : Nat), endk L k i = true -> endk L (k + 1) i = true
 | 0, i, h => by simp [endk] at h
 | k + 1, i, h => by
  unfold endk at h ⊢
  cases hq : L[i]? with
  | none => rw [hq] at h; exact h
  | some n =>
   rw [hq] at h
   simp only at h ⊢
   cases hl : latB n.kind
   ·rfl
   ·rw [hl] at h
    simp only [Bool.not_true, Bool.false_or, Bool.and_eq_true] at h ⊢;exact ⟨endk_succ L k _ h.1, endk_succ L k _ h.2⟩
theorem endk_mono {L : List ApiTNode} {k m i : Nat} (hkm : k <= m) (h : endk L k i = true) : endk L m i = true := by
 induction hkm with
 | refl => exact h
 | step _ ih => exact endk_succ L _ _ ih
def Ends (L : List ApiTNode) (i : Nat) : Prop := ∃ k, endk L k i = true
def AllEnds (L : List ApiTNode) : Prop := ∀ i, i < L.length -> Ends L i
def InL (L : List ApiTNode) : Prop := ∀ n ∈ L, ∀ k ∈ kidsL n, 0 <= k /\ k < (L.length : Int)
theorem lat_kids {n : ApiTNode} (h : latB n.kind = true) : kidsL n = [n.a, n.b] := by
 unfold kidsL
 have : pB n.kind = true := by
  unfold latB at h; unfold pB
  rw [Bool.or_eq_true, decide_eq_true_eq, decide_eq_true_eq] at h
  rcases h with h | h <;> rw [h] <;> rfl
 rw [this]; rfl
theorem ends_of {L : List ApiTNode} {i : Nat} {n : ApiTNode} (hi : L[i]? = some n) (h : latB n.kind = true -> Ends L n.a.toNat /\ Ends L n.b.toNat) : Ends L i := by
 cases hl : latB n.kind with
 | false => exact ⟨1, by simp [endk, hi, hl]⟩
 | true =>
  obtain ⟨⟨k1, h1⟩, ⟨k2, h2⟩⟩ := h hl;exact ⟨max k1 k2 + 1, by simp [endk, hi, hl, endk_mono (Nat.le_max_left k1 k2) h1, endk_mono (Nat.le_max_right k1 k2) h2]⟩
end Go.Proofs.YtkfnogdccpcmhaaGreatDoor
namespace Go.Proofs.YtkfnogdccpcmhaaGreatDoor
open Go.V Tryz
open Classical
def ColOk (z : List Int) : Prop := ∀ c ∈ z, c = 0 \/ c = 1 \/ c = 2
theorem whites_set {z : List Int} {i : Nat} {c d : Int} (h : z[i]? = some c) : (z.set i d).count 0 + (if c = 0 then 1 else 0) = z.count 0 + (if d = 0 then 1 else 0) := by
 have hi := (List.getElem?_eq_some_iff.1 h).1
 have h2 := (List.getElem?_eq_some_iff.1 h).2
 have hc : c = 0 -> 0 < z.count 0 := fun e => List.count_pos_iff.2 (by rw [<- e]; exact List.mem_of_getElem? h)
 rw [List.count_set hi, h2]
 by_cases h0 : c = 0
 ·have := hc h0
  subst h0
  simp
  split <;> omega
 ·rw [if_neg h0]
  have : (c == 0) = false := by simp [h0]
  rw [this]
  simp
theorem colOk_set {z : List Int} {i : Nat} {d : Int} (h : ColOk z) (hd : d = 0 \/ d = 1 \/ d = 2) : ColOk (z.set i d) := by
 intro c hc
 rcases List.mem_or_eq_of_mem_set hc with h2 | h2
 ·exact h c h2
 ·rw [h2]; exact hd
theorem endk_least {L : List ApiTNode} {i : Nat} : ∀ m, endk L m i = true -> ∃ k, k < m /\ endk L (k + 1) i = true /\ endk L k i = false
 | 0, h => by simp [endk] at h
 | m + 1, h => by
  cases hq : endk L m i with
  | false => exact ⟨m, Nat.lt_succ_self m, h, hq⟩
  | true =>
   obtain ⟨k, h1, h2, h3⟩ := endk_least m hq;exact ⟨k, by omega, h2, h3⟩
theorem endk_false {L : List ApiTNode} {k m i : Nat} (hkm : k <= m) (h : endk L m i = false) : endk L k i = false := by
 cases hq : endk L k i with
 | false => rfl
 | true => rw [endk_mono hkm hq] at h; cases h
structure WalkOk (L : List ApiTNode) (i : Nat) (z : List Int) (b : Bool) (z' : List Int) : Prop where
 len : z'.length = L.length
 col : ColOk z'
 wh : z'.count 0 <= z.count 0
 yes : b = true -> Ends L i /\ (∀ j : Nat, z'[j]? = some 2 -> Ends L j) /\ ∀ j : Nat, z'[j]? = some 1 ↔ z[j]? = some 1
 no : b = false -> ∀ m, endk L m i = true -> (∀ j : Nat, z[j]? = some 1 -> endk L m j = false) -> False
theorem walk_ok {t : ApiType} (hR : InL t.l) (hN : ∀ n ∈ t.l, NB n) (hlen : t.l.length <= 2001) : ∀ (n : Nat) (i : Nat) (z : List Int), i < t.l.length -> z.length = t.l.length -> ColOk z -> z.count 0 < n -> (∀ j : Nat, z[j]? = some 2 -> Ends t.l j) ->
  ∃ b z', m_graph_contractive_1 t n (i : Int) z = some (b, z') /\ WalkOk t.l i z b z'
 | 0, i, z, _, _, _, h, _ => by omega
 | n + 1, i, z, hi, hz, hc, hw, hb => by
  have hx : t.l[i]? = some t.l[i] := List.getElem?_eq_getElem hi
  have hy : z[i]? = some (z[i]'(by omega)) := List.getElem?_eq_getElem (by omega)
  have hcz := hc _ (List.mem_of_getElem? hy)
  show ∃ b z', m_graph_contractive_1F (m_graph_contractive_1 t n) (i : Int) z t = some (b, z') /\ _
  unfold m_graph_contractive_1F;rw [getI hx, Option.bind_some, show m_graph_lattice (t.l[i]).kind = some (latB (t.l[i]).kind) from rfl, Option.bind_some, getI hy, Option.bind_some, Option.bind_some, Option.bind_some]
  generalize hn : t.l[i] = nd at *
  generalize z[i]'(by omega) = c at *
  cases hlat : latB nd.kind with
  | false =>
   refine ⟨true, z, by rw [Bool.not_false, cond_true, Option.bind_some, cond_true], hz, hc, Nat.le_refl _, fun _ => ⟨ends_of hx fun h => (by rw [hlat] at h; cases h), hb, fun j => Iff.rfl⟩, fun h => by cases h⟩
  | true =>
   rw [Bool.not_true, cond_false, Option.bind_some]
   by_cases h2 : c = 2
   ·refine ⟨true, z, by rw [decide_eq_true h2, cond_true], hz, hc, Nat.le_refl _, fun _ => ⟨hb i (by rw [hy, h2]), hb, fun j => Iff.rfl⟩, fun h => by cases h⟩
   rw [decide_eq_false h2, cond_false]
   by_cases h1 : c = 1
   ·refine ⟨false, z, by rw [decide_eq_true h1, cond_true], hz, hc, Nat.le_refl _, fun h => (by cases h), fun _ m hm hg => ?_⟩
    rw [hg i (by rw [hy, h1])] at hm; cases hm
   rw [decide_eq_false h1, cond_false]
   have h0 : c = 0 := by omega
   subst h0
   have hNd : NB nd := by rw [<- hn]; exact hN _ (List.getElem_mem hi)
   rw [Option.bind_some, kids_eq _ hNd, Option.bind_some, Int.toNat_natCast]
   have hk : ∀ k ∈ kidsL nd, 0 <= k /\ k < (t.l.length : Int) := hR nd (List.mem_of_getElem? hx)
   have hkl := kidsL_len nd hNd
   have hwz := whites_set (d := 1) hy
   simp at hwz
   have hz1 : (z.set i 1).length = t.l.length := by simpa using hz
   have gr1 : ∀ j : Nat, (z.set i 1)[j]? = some 1 ↔ (j = i \/ z[j]? = some 1) := by
    intro j
    rw [List.getElem?_set]
    by_cases hji : i = j
    ·subst hji; simp; omega
    ·rw [if_neg hji]; exact ⟨.inr, fun h => h.elim (fun e => absurd e.symm hji) id⟩
   obtain ⟨o, e1, e2⟩ := loop_rng (φ := fun m q s => m_graph_contractive_1_l1 (m_graph_contractive_1 t n) (kidsL nd) m (q, s)) (l := kidsL nd)
    (fun q s => s.length = t.l.length /\ ColOk s /\ s.count 0 <= (z.set i 1).count 0 /\ (∀ j : Nat, s[j]? = some 2 -> Ends t.l j) /\ (∀ j : Nat, s[j]? = some 1 ↔ (z.set i 1)[j]? = some 1) /\ ∀ (p : Nat) k, p < q -> (kidsL nd)[p]? = some k -> Ends t.l k.toNat)
    (fun o => (∃ s, o = Out.ret (false, s) /\ s.length = t.l.length /\ ColOk s /\ s.count 0 <= (z.set i 1).count 0 /\ ∀ m, endk t.l m i = true -> (∀ j : Nat, z[j]? = some 1 -> endk t.l m j = false) -> False) \/
     (∃ s, o = Out.go s /\ s.length = t.l.length /\ ColOk s /\ s.count 0 <= (z.set i 1).count 0 /\ (∀ j : Nat, s[j]? = some 2 -> Ends t.l j) /\ (∀ j : Nat, s[j]? = some 1 ↔ (z.set i 1)[j]? = some 1) /\ ∀ k ∈ kidsL nd, Ends t.l k.toNat))
    (by
     rintro m q k s hkq hq ⟨s1, s2, s3, s4, s5, s6⟩;obtain ⟨k0, k1⟩ := hk k (List.mem_of_getElem? hkq);obtain ⟨b, z', w1, w2⟩ := walk_ok hR hN hlen n k.toNat s (by omega) s1 s2 (by omega) s4;rw [Int.toNat_of_nonneg k0] at w1;simp only [m_graph_contractive_1_l1];rw [decide_eq_true (show (q : Int) < (kidsL nd).length by omega), cond_true, getI hkq, Option.bind_some, w1, Option.bind_some]
     dsimp only
     cases b with
     | true =>
      obtain ⟨y1, y2, y3⟩ := w2.yes rfl;refine .inl ⟨z', by rw [Bool.not_true, cond_false, grd_pos (by omega)], w2.len, w2.col, Nat.le_trans w2.wh s3, y2, fun j => (y3 j).trans (s5 j), fun p k' hp hk' => ?_⟩
      by_cases hpq : p = q
      ·subst hpq; rw [hkq] at hk'; cases hk'; exact y1
      ·exact s6 p k' (by omega) hk'
     | false =>
      refine .inr ⟨_, by rw [Bool.not_false, cond_true], .inl ⟨z', rfl, w2.len, w2.col, Nat.le_trans w2.wh s3, fun m hm hg => ?_⟩⟩;obtain ⟨r, r1, r2, r3⟩ := endk_least m hm;refine w2.no rfl r ?_ fun j hj => ?_
      ·unfold endk at r2
       rw [hx] at r2;simp only [hlat, Bool.not_true, Bool.false_or, Bool.and_eq_true] at r2
       have := List.mem_of_getElem? hkq
       rw [lat_kids hlat] at this;simp only [List.mem_cons, List.not_mem_nil, or_false] at this
       rcases this with rfl | rfl
       ·exact r2.1
       ·exact r2.2
      ·rcases (gr1 j).1 ((s5 j).1 hj) with rfl | hj
       ·exact r3
       ·exact endk_false (by omega) (hg j hj))
    (by
     rintro m s ⟨s1, s2, s3, s4, s5, s6⟩;refine ⟨Out.go s, ?_, .inr ⟨s, rfl, s1, s2, s3, s4, s5, fun k hk' => ?_⟩⟩
     ·simp only [m_graph_contractive_1_l1]
      rw [decide_eq_false (by omega), cond_false]
     ·obtain ⟨p, hp⟩ := List.getElem?_of_mem hk'
      exact s6 p k (getLt hp) hp)
    (by rw [FUv]; omega) (z.set i 1) ⟨hz1, colOk_set hc (by omega), Nat.le_refl _, fun j hj => (by
     rw [List.getElem?_set] at hj
     by_cases hji : i = j
     ·rw [if_pos hji] at hj; split at hj <;> simp at hj
     ·rw [if_neg hji] at hj; exact hb j hj), fun j => Iff.rfl, fun p k hp => by omega⟩
   rw [e1, Option.bind_some]
   rcases e2 with ⟨s, rfl, s1, s2, s3, s4⟩ | ⟨s, rfl, s1, s2, s3, s4, s5, s6⟩
   ·exact ⟨false, s, rfl, s1, s2, by omega, fun h => (by cases h), fun _ => s4⟩
   ·have hsi : s[i]? = some 1 := (s5 i).2 ((gr1 i).2 (.inl rfl))
    have hws := whites_set (d := 2) hsi
    simp at hws
    have hE : Ends t.l i := ends_of hx fun _ => by
     rw [lat_kids hlat] at s6;exact ⟨s6 _ (by simp), s6 _ (by simp)⟩
    refine ⟨true, s.set i 2, by show (idx s (i : Int)).bind _ = _; rw [getI hsi, Option.bind_some], by simpa using s1, colOk_set s2 (by omega), by omega, fun _ => ⟨hE, fun j hj => ?_, fun j => ?_⟩, fun h => by cases h⟩
    ·rw [List.getElem?_set] at hj
     by_cases hji : i = j
     ·subst hji; exact hE
     ·rw [if_neg hji] at hj; exact s4 j hj
    ·rw [List.getElem?_set]
     by_cases hji : i = j
     ·subst hji; rw [if_pos rfl, hy]; split <;> simp
     ·rw [if_neg hji, s5 j, gr1 j]
      exact ⟨fun h => h.elim (fun e => absurd e.symm hji) id, .inr⟩
theorem contractive_eq {t : ApiType} (hR : InL t.l) (hN : ∀ n ∈ t.l, NB n) (hlen : t.l.length <= 2001) : m_graph_contractive t = some (decide (AllEnds t.l)) := by
 unfold m_graph_contractive;rw [grd_pos (by omega), grd_pos (by omega), Int.toNat_natCast];obtain ⟨o, e1, e2⟩ := loop_rng (φ := fun m q s => m_graph_contractive_l1 t m (q, s)) (l := t.l)
  (fun q s => s.length = t.l.length /\ ColOk s /\ (∀ j : Nat, s[j]? = some 2 -> Ends t.l j) /\ (∀ j : Nat, ¬ s[j]? = some 1) /\ ∀ p, p < q -> Ends t.l p)
  (fun o => (o = Out.ret false /\ ¬ AllEnds t.l) \/ ∃ s, o = Out.go s /\ AllEnds t.l)
  (by
   rintro m q nd s hnd hq ⟨s1, s2, s3, s4, s5⟩;obtain ⟨b, z', w1, w2⟩ := walk_ok hR hN hlen FU q s hq s1 s2 (by have := List.count_le_length (a := (0 : Int)) (l := s); rw [FUv]; omega) s3;simp only [m_graph_contractive_l1];rw [decide_eq_true (show (q : Int) < t.l.length by omega), cond_true, w1, Option.bind_some]
   dsimp only
   cases b with
   | true =>
    obtain ⟨y1, y2, y3⟩ := w2.yes rfl;refine .inl ⟨z', by rw [Bool.not_true, cond_false, grd_pos (by omega)], w2.len, w2.col, y2, fun j hj => s4 j ((y3 j).1 hj), fun p hp => ?_⟩
    by_cases hpq : p = q
    ·subst hpq; exact y1
    ·exact s5 p (by omega)
   | false =>
    refine .inr ⟨_, by rw [Bool.not_false, cond_true], .inl ⟨rfl, fun hA => ?_⟩⟩;obtain ⟨k, hk⟩ := hA q hq;exact w2.no rfl k hk fun j hj => absurd hj (s4 j))
  (by
   rintro m s ⟨s1, s2, s3, s4, s5⟩;refine ⟨Out.go s, ?_, .inr ⟨s, rfl, s5⟩⟩;simp only [m_graph_contractive_l1];rw [decide_eq_false (by omega), cond_false])
  (by rw [FUv]; omega) (List.replicate t.l.length 0) ⟨by simp, fun c hc => (by rw [List.mem_replicate] at hc; exact .inl hc.2), fun j hj => (by rw [List.getElem?_replicate] at hj; split at hj <;> simp at hj), fun j hj => (by rw [List.getElem?_replicate] at hj; split at hj <;> simp at hj), fun p hp => by omega⟩
 rw [e1, Option.bind_some]
 rcases e2 with ⟨rfl, h⟩ | ⟨s, rfl, h⟩
 ·rw [decide_eq_false h]; rfl
 ·rw [decide_eq_true h]; rfl
end Go.Proofs.YtkfnogdccpcmhaaGreatDoor
namespace Go.Proofs.YtkfnogdccpcmhaaGreatDoor
open Go.V Tryz
open Classical
def AllRight (L : List ApiTNode) : Prop := ∀ n ∈ L, rightB n L.length = true
theorem right_in {n : ApiTNode} {all : Int} (h : rightB n all = true) : ∀ k ∈ kidsL n, 0 <= k /\ k < all := by
 intro k hk
 unfold rightB at h;simp only [Bool.and_eq_true, Bool.not_eq_true', decide_eq_false_iff_not] at h
 have h2 := h.2.2.2.2.2
 have : inB all k = false := by
  cases hq : inB all k with
  | false => rfl
  | true => exact absurd ⟨k, hk, hq⟩ h2
 unfold inB at this;rw [Bool.or_eq_false_iff, decide_eq_false_iff_not, decide_eq_false_iff_not] at this
 omega
theorem allRight_in {L : List ApiTNode} (h : AllRight L) : InL L := fun n hn k hk => right_in (h n hn) k hk
theorem wrong_eq (t : ApiType) (hlen : t.l.length <= 2001) (hN : ∀ n ∈ t.l, NB n) : m_cnN t.l (fun y0 => m_graph_May_1 y0 t) = some (!decide (AllRight t.l)) := by
 unfold m_cnN m_ixN;rw [loop_find (φ := m_ixN_l1 t.l (fun y0 => m_graph_May_1 y0 t)) (l := t.l) (fun i => (i : Int)) (fun n => !rightB n t.l.length) ?_ ?_ (by rw [FUv]; omega)]
 ·rw [Option.bind_some]
  cases hf : t.l.findIdx? (fun n => !rightB n t.l.length) with
  | none =>
   have : AllRight t.l := by
    intro n hn
    have := List.findIdx?_eq_none_iff.1 hf n hn
    simpa using this
   rw [decide_eq_true this]; rfl
  | some i =>
   obtain ⟨hi, h1, _⟩ := List.findIdx?_eq_some_iff_getElem.1 hf
   have : ¬ AllRight t.l := fun h => by
    rw [h _ (List.getElem_mem hi)] at h1; cases h1
   rw [decide_eq_false this]
   show some (decide (0 <= (i : Int))) = some true
   rw [decide_eq_true (by omega)]
 ·intro n i x hx hi
  simp only [m_ixN_l1];rw [decide_eq_true (show (i : Int) < t.l.length by omega), cond_true, getI hx, Option.bind_some, show m_graph_May_1 x t = some (!rightB x t.l.length) by unfold m_graph_May_1; rw [right_eq _ _ (hN x (List.mem_of_getElem? hx)), Option.bind_some], Option.bind_some];exact ⟨fun hq => by rw [hq, cond_false, grd_pos (by omega)], fun hq => by rw [hq, cond_true]⟩
 ·intro n
  simp only [m_ixN_l1];rw [decide_eq_false (by omega), cond_false]
noncomputable def mayT (L : List ApiTNode) (root : Int) : Int := if L.length = 0 \/ 2000 < L.length then 8 else if root < 0 \/ (L.length : Int) <= root then 4 else if AllRight L /\ AllEnds L then 0 else 4
theorem may_eq (t : ApiType) (hlen : t.l.length <= 2001) (hN : ∀ n ∈ t.l, NB n) : m_graph_May t = some (mayT t.l t.root) := by
 unfold m_graph_May mayT
 by_cases h0 : t.l.length = 0 \/ 2000 < t.l.length
 ·rw [if_pos h0, show (decide ((t.l.length : Int) = 0) || decide (2000 < (t.l.length : Int))) = true by rw [Bool.or_eq_true, decide_eq_true_eq, decide_eq_true_eq]; omega, cond_true]
 rw [if_neg h0, decide_eq_false (by omega), decide_eq_false (by omega), Bool.or_false, cond_false]
 by_cases hr : t.root < 0 \/ (t.l.length : Int) <= t.root
 ·rw [if_pos hr, show (decide (t.root < 0) || decide ((t.l.length : Int) <= t.root)) = true by rw [Bool.or_eq_true, decide_eq_true_eq, decide_eq_true_eq]; exact hr, cond_true]
 rw [if_neg hr, decide_eq_false (by omega), decide_eq_false (by omega), Bool.or_false, cond_false, wrong_eq t hlen hN, Option.bind_some]
 by_cases hA : AllRight t.l
 ·rw [decide_eq_true hA, Bool.not_true, cond_false, contractive_eq (allRight_in hA) hN hlen, Option.bind_some]
  by_cases hE : AllEnds t.l
  ·rw [decide_eq_true hE, if_pos ⟨hA, hE⟩]; rfl
  ·rw [decide_eq_false hE, if_neg (fun h => hE h.2)]; rfl
 ·rw [decide_eq_false hA, Bool.not_false, cond_true, if_neg (fun h => hA h.1)]; rfl
theorem mayT_ok {L : List ApiTNode} {r : Int} (h : mayT L r = 0) : 0 < L.length /\ L.length <= 2000 /\ 0 <= r /\ r < L.length /\ AllRight L /\ AllEnds L := by
 unfold mayT at h
 split at h
 ·omega
 ·split at h
  ·omega
  ·split at h
   ·rename_i h1 h2 h3; exact ⟨by omega, by omega, by omega, by omega, h3.1, h3.2⟩
   ·omega
end Go.Proofs.YtkfnogdccpcmhaaGreatDoor
namespace Go.Proofs.YtkfnogdccpcmhaaGreatDoor
open Go.V Tryz
open Classical
theorem reverse_eq (s : List Int) (h : s.length <= 1000) : m_rvI s = some s.reverse := by
 unfold m_rvI;rw [grd_pos (by omega)];obtain ⟨o, e1, e2⟩ := loop_inv (φ := m_rvI_l1) (fun st => (st.2.1 + 1 - st.1).toNat)
  (fun st => 0 <= st.1 /\ -1 <= st.2.1 /\ st.1 + st.2.1 = (s.length : Int) - 1 /\ st.1 <= st.2.1 + 2 /\ st.2.2.length = s.length /\ ∀ k : Nat, k < s.length -> st.2.2[k]? = if (k : Int) < st.1 \/ st.2.1 < (k : Int) then s.reverse[k]? else s[k]?)
  (fun o => o = s.reverse)
  (by
   rintro n ⟨i, j, l⟩ ⟨h0, h1, h2, h3, h4, h5⟩
   simp only at h0 h1 h2 h3 h4 h5
   by_cases hij : i < j
   ·left
    obtain ⟨a, rfl⟩ := Int.eq_ofNat_of_zero_le h0;obtain ⟨b, rfl⟩ := Int.eq_ofNat_of_zero_le (show 0 <= j by omega)
    have ha : a < s.length := by omega
    have hb : b < s.length := by omega
    have la : l[a]? = some s[a] := by rw [h5 a ha, if_neg (by omega), List.getElem?_eq_getElem ha]
    have lb : l[b]? = some s[b] := by rw [h5 b hb, if_neg (by omega), List.getElem?_eq_getElem hb]
    have lb2 : (l.set a s[b])[b]? = some s[b] := by rw [List.getElem?_set_ne (by omega)]; exact lb
    refine ⟨((a : Int) + 1, (b : Int) - 1, (l.set a s[b]).set b s[a]), ⟨by simp only; omega, by simp only; omega, by simp only; omega, by simp only; omega, by simpa using h4, fun k hk => ?_⟩, by simp only; omega, ?_⟩
    ·simp only
     by_cases hkb : k = b
     ·subst hkb
      rw [List.getElem?_set_self (by simp; omega), if_pos (by omega), List.getElem?_reverse hk, List.getElem?_eq_getElem (by omega)]
      congr 2; omega
     ·rw [List.getElem?_set_ne (by omega)]
      by_cases hka : k = a
      ·subst hka
       rw [List.getElem?_set_self (by omega), if_pos (by omega), List.getElem?_reverse hk, List.getElem?_eq_getElem (by omega)]
       congr 2; omega
      ·rw [List.getElem?_set_ne (by omega), h5 k hk]
       by_cases hc : (k : Int) < a \/ (b : Int) < k
       ·rw [if_pos hc, if_pos (by omega)]
       ·rw [if_neg hc, if_neg (by omega)]
    ·simp only [m_rvI_l1]
     rw [decide_eq_true hij, cond_true, getI lb, Option.bind_some, getI la, Option.bind_some, Option.bind_some, Option.bind_some, Int.toNat_natCast, Int.toNat_natCast, getI lb2, Option.bind_some, grd_pos (by omega), grd_pos (by omega)]
   ·right
    refine ⟨l, ?_, by simp only [m_rvI_l1]; rw [decide_eq_false hij, cond_false]⟩;refine List.ext_getElem? fun k => ?_
    by_cases hk : k < s.length
    ·rw [h5 k hk]
     split
     ·rfl
     ·rw [List.getElem?_reverse hk]; congr 1; omega
    ·rw [List.getElem?_eq_none (by omega), List.getElem?_eq_none (by simp; omega)])
  FU (0, (s.length : Int) - 1, s) ⟨by simp only; omega, by simp only; omega, by simp only; omega, by simp only; omega, rfl, fun k hk => by simp only; rw [if_neg (by omega)]⟩ (by rw [FUv]; simp only; omega)
 rw [e1, e2]
def kat (L : List ApiTNode) (i : Int) : List Int := match L[i.toNat]? with
 | some n => kidsL n
 | none => []
noncomputable def dfs (K : Int -> List Int) : Nat -> List Int -> List Int -> List Int
 | 0, _, out => out
 | _ + 1, [], out => out
 | n + 1, x :: s, out => if x ∈ out then dfs K n s out else dfs K n (K x ++ s) (out ++ [x])
theorem sum_flip (f g : Nat -> Nat) (i : Nat) : ∀ l : List Nat, l.Nodup -> i ∈ l -> (∀ j ∈ l, j ≠ i -> f j = g j) -> (l.map f).sum + g i = (l.map g).sum + f i
 | [], _, h, _ => by simp at h
 | j :: l, hn, hi, he => by
  rw [List.nodup_cons] at hn;simp only [List.map_cons, List.sum_cons]
  by_cases hji : j = i
  ·subst hji
   have : l.map f = l.map g := List.map_congr_left fun k hk => he k (by simp [hk]) (fun e => hn.1 (e ▸ hk))
   rw [this]; omega
  ·have := sum_flip f g i l hn.2 (by simpa [Ne.symm hji] using hi) (fun k hk => he k (by simp [hk]))
   have := he j (by simp) hji
   omega
noncomputable def wt (K : Int -> List Int) (len : Nat) (out : List Int) : Nat := ((List.range len).map (fun (i : Nat) => if (i : Int) ∈ out then 0 else (K (i : Int)).length)).sum
theorem wt_add {K : Int -> List Int} {len : Nat} {out : List Int} {i : Nat} (hi : i < len) (ho : ¬ (i : Int) ∈ out) : wt K len (out ++ [(i : Int)]) + (K i).length = wt K len out := by
 have := sum_flip (fun (j : Nat) => if (j : Int) ∈ out ++ [(i : Int)] then 0 else (K (j : Int)).length) (fun (j : Nat) => if (j : Int) ∈ out then 0 else (K (j : Int)).length) i (List.range len) List.nodup_range (List.mem_range.2 hi) (fun j _ hj => by
  have e : ((j : Int) ∈ out ++ [(i : Int)]) ↔ (j : Int) ∈ out := by simp; omega
  by_cases h : (j : Int) ∈ out
  ·rw [if_pos h, if_pos (e.2 h)]
  ·rw [if_neg h, if_neg (fun h2 => h (e.1 h2))])
 rw [if_neg ho, if_pos (by simp)] at this;unfold wt; omega
theorem kat_in {L : List ApiTNode} (hR : InL L) : ∀ i k, k ∈ kat L i -> 0 <= k /\ k < (L.length : Int) := by
 intro i k hk
 unfold kat at hk
 cases hq : L[i.toNat]? with
 | none => rw [hq] at hk; simp at hk
 | some n => rw [hq] at hk; exact hR n (List.mem_of_getElem? hq) k hk
theorem kat_len {L : List ApiTNode} (hN : ∀ n ∈ L, NB n) (i : Int) : (kat L i).length <= 40 := by
 unfold kat
 cases hq : L[i.toNat]? with
 | none => simp
 | some n => exact kidsL_len n (hN n (List.mem_of_getElem? hq))
theorem lastI (s : List Int) (x : Int) : idx (s ++ [x]) (((s ++ [x]).length : Int) - 1) = some x := by
 rw [show (((s ++ [x]).length : Int) - 1) = (s.length : Int) by simp];exact getI (by simp)
theorem initI (s : List Int) (x : Int) : sli (s ++ [x]) 0 (((s ++ [x]).length : Int) - 1) = some s := by
 rw [show (((s ++ [x]).length : Int) - 1) = (s.length : Int) by simp, sli_take (by simp)]
 simp
theorem below_lock {t : ApiType} (hR : InL t.l) (hN : ∀ n ∈ t.l, NB n) (hlen : t.l.length <= 2001) : ∀ (n : Nat) (s out : List Int) (seen : List Bool), (∀ x ∈ s, 0 <= x /\ x < (t.l.length : Int)) -> seen.length = t.l.length ->
  (∀ i : Nat, seen[i]? = some true ↔ ((i : Int) ∈ out /\ i < t.l.length)) -> out.length + s.length + wt (kat t.l) t.l.length out <= 100000000 -> s.length + wt (kat t.l) t.l.length out < n ->
  ∃ ys, m_below_l1 t n (s.reverse, seen) = some ys /\ dfs (kat t.l) n s out = out ++ ys
 | 0, s, out, seen, _, _, _, _, h => by omega
 | n + 1, [], out, seen, _, _, _, _, _ => by
  refine ⟨[], ?_, by simp [dfs]⟩;simp only [m_below_l1, List.reverse_nil, List.length_nil]; rfl
 | n + 1, x :: s, out, seen, hs, hsl, hse, hB, hn => by
  obtain ⟨x0, x1⟩ := hs x (by simp);obtain ⟨i, rfl⟩ := Int.eq_ofNat_of_zero_le x0
  have hi : i < t.l.length := by omega
  have hx : t.l[i]? = some t.l[i] := List.getElem?_eq_getElem hi
  have hv : seen[i]? = some (seen[i]'(by omega)) := List.getElem?_eq_getElem (by omega)
  have hk : kat t.l (i : Int) = kidsL t.l[i] := by unfold kat; rw [Int.toNat_natCast, hx]
  have hkl := kat_len hN (i : Int)
  have hNi := hN _ (List.getElem_mem hi)
  simp only [List.length_cons] at hB hn;rw [List.reverse_cons]
  have hl1 : (s.reverse ++ [(i : Int)]).length = s.length + 1 := by simp
  simp only [m_below_l1];rw [decide_eq_true (show (0 : Int) < ((s.reverse ++ [(i : Int)]).length : Int) by rw [hl1]; omega), cond_true, grd_pos (by rw [hl1]; omega), lastI, Option.bind_some, grd_pos (by rw [hl1]; omega), initI, Option.bind_some, getI hv, Option.bind_some, Option.bind_some]
  have hd : dfs (kat t.l) (n + 1) ((i : Int) :: s) out = if (i : Int) ∈ out then dfs (kat t.l) n s out else dfs (kat t.l) n (kat t.l i ++ s) (out ++ [(i : Int)]) := rfl
  rw [hd]
  by_cases ho : (i : Int) ∈ out
  ·have h1 : seen[i]'(by omega) = true := by have := (hse i).2 ⟨ho, hi⟩; rw [hv] at this; exact Option.some.inj this
   rw [h1, cond_true, if_pos ho];exact below_lock hR hN hlen n s out seen (fun x hx => hs x (by simp [hx])) hsl hse (by omega) (by omega)
  ·have h1 : seen[i]'(by omega) = false := by
    cases hq : seen[i]'(by omega) with
    | false => rfl
    | true => exact absurd ((hse i).1 (by rw [hv, hq])).1 ho
   have hw := wt_add (K := kat t.l) hi ho
   obtain ⟨ys, e1, e2⟩ := below_lock hR hN hlen n (kat t.l i ++ s) (out ++ [(i : Int)]) (seen.set i true) (fun y hy => by
    rcases List.mem_append.1 hy with hy | hy
    ·exact kat_in hR _ _ hy
    ·exact hs y (by simp [hy])) (by simpa using hsl) (fun j => by
    rw [List.getElem?_set]
    by_cases hij : i = j
    ·subst hij; simp; omega
    ·rw [if_neg hij, hse j]; simp; omega) (by simp only [List.length_append, List.length_cons, List.length_nil]; omega) (by simp only [List.length_append]; omega)
   rw [h1, cond_false, if_neg ho, getI hx, Option.bind_some, kids_eq _ hNi, Option.bind_some, <- hk, grd_pos (by omega), reverse_eq _ (by omega), Option.bind_some, grd_pos (by simp only [List.length_reverse]; omega), Int.toNat_natCast];refine ⟨(i : Int) :: ys, ?_, by rw [e2]; simp⟩;rw [List.reverse_append] at e1;rw [e1]; rfl
end Go.Proofs.YtkfnogdccpcmhaaGreatDoor
