/- Part 6 of the proof: a program logic, what the functions compute, and what these answer; no condition. -/
import Derived.Test.YtkfnogdccpcmhaaGreatDoorp5
set_option linter.unusedVariables false
set_option linter.unusedSimpArgs false
set_option maxRecDepth 100000
set_option maxHeartbeats 2000000
namespace Go.Proofs.YtkfnogdccpcmhaaGreatDoor
open Go.V Tryz
def wideE (l r : List (List UInt8 × List Int)) (n : Int) (e : List UInt8 × List Int) : Option (Option (Option BelowSequent)) :=
 if (e.2.length : Int) < n then some none else
 if ((mget l e.1).getD []).length = 0 \/ ((mget r e.1).getD []).length = 0 then some (some none) else
 (m_below_set ((mget l e.1).getD [])).bind fun x => (m_below_set ((mget r e.1).getD [])).bind fun y => some (some (some ⟨x, y⟩))
def wideQ (l r : List (List UInt8 × List Int)) (n : Int) (e : List UInt8 × List Int) : Option BelowSequent := match wideE l r n e with
 | some (some (some q)) => some q
 | _ => none
open Classical in
noncomputable def m_wide (l r all : List (List UInt8 × List Int)) (n : Int) : Option BelowAnswer :=
 if all.length <= 1000000000 /\ ∀ e ∈ all, (wideE l r n e).isSome = true then
  if ∃ e ∈ all, wideE l r n e = some (some none) then some ⟨[], true⟩ else some ⟨all.filterMap (wideQ l r n), false⟩
 else none
theorem wideQ_len (l r : List (List UInt8 × List Int)) (n : Int) (q : List (List UInt8 × List Int)) : (q.filterMap (wideQ l r n)).length <= q.length := List.length_filterMap_le _ _
theorem conc_nil {α : Type} {sz : Nat} {f : α -> D} (H : PH) : Conc H (.list sz f ([] : List α)) (.slice none 0 0) := (conc_enc (by rfl)).2 (nil_enc H _ (by simp [Enc]))
theorem dec_orT {a b : Nat} (h : decide ((a : Int) = 0) = true) : true = decide (a = 0 \/ b = 0) := by
 have := of_decide_eq_true h
 exact (decide_eq_true (.inl (by omega))).symm
theorem dec_orF {a b : Nat} (h : decide ((a : Int) = 0) = false) : decide ((b : Int) = 0) = decide (a = 0 \/ b = 0) := by
 have := of_decide_eq_false h
 by_cases hb : b = 0
 ·rw [decide_eq_true (by omega), decide_eq_true (.inr hb)]
 ·rw [decide_eq_false (by omega), decide_eq_false (by omega)]
theorem fi_w117_0 : FieldIs Tryz.prog 117 0 0 1 false := ⟨⟨_, _, runUnderlying117, rfl, rfl, sizeOf112, by decide, isAgg112⟩⟩
def wideI (l r all : List (List UInt8 × List Int)) (n : Int) (rest : List (List UInt8 × List Int)) (out : List BelowSequent) : Prop :=
 (∀ e ∈ rest, e ∈ all) /\ (out ++ rest.filterMap (wideQ l r n)).Perm (all.filterMap (wideQ l r n)) /\ (∀ e ∈ all, wideE l r n e = some (some none) -> e ∈ rest) /\ rest.length <= all.length
theorem wideI_step {l r all : List (List UInt8 × List Int)} {n : Int} {rest : List (List UInt8 × List Int)} {out : List BelowSequent} {i : Nat} {p : List UInt8 × List Int} (h : wideI l r all n rest out) (hi : rest[i]? = some p) (hf : wideE l r n p ≠ some (some none)) : wideI l r all n (rest.eraseIdx i) (out ++ (wideQ l r n p).toList) := by
 obtain ⟨h1, h2, h3, h4⟩ := h
 have hp : rest.Perm (p :: rest.eraseIdx i) := perm_at rest i p hi
 refine ⟨fun e he => h1 e (List.mem_of_mem_eraseIdx he), ?_, fun e he hef => ?_, ?_⟩
 ·refine List.Perm.trans ?_ h2
  rw [List.append_assoc];refine List.Perm.append_left _ ?_
  have := (hp.filterMap (wideQ l r n)).symm
  rw [List.filterMap_cons] at this
  cases hq : wideQ l r n p with
  | none => rw [hq] at this; simpa using this
  | some x => rw [hq] at this; simpa using this
 ·have := hp.mem_iff.1 (h3 e he hef)
  rcases List.mem_cons.1 this with rfl | h5
  ·exact absurd hef hf
  ·exact h5
 ·have := hp.length_eq
  simp only [List.length_cons] at this
  omega
theorem w_wideR {Lm Rm : List (List UInt8 × List Int)} {n : Int} {r_1 : BelowAnswer} {bl br : Nat} (hm : m_wide Lm Rm Rm n = some r_1) :
  Go.V.Fn Tryz.prog 156 [.v (.map (some bl)), .v (.map (some br)), .v (.map (some br)), .i64 n] [mp bl kStr (D.list 1 D.i64) Lm, mp br kStr (D.list 1 D.i64) Rm] (fun d ms' => ∃ p, p.Perm r_1.to_ /\ d = BelowAnswer.d ⟨p, r_1.fails⟩ /\ ms' = [mp bl kStr (D.list 1 D.i64) Lm, mp br kStr (D.list 1 D.i64) Rm]) := by
 unfold m_wide at hm
 by_cases hall : Rm.length <= 1000000000 /\ ∀ e ∈ Rm, (wideE Lm Rm n e).isSome = true
 ·rw [if_pos hall] at hm
  obtain ⟨hlen, hall⟩ := hall;refine fn_intro func156 rfl ntmps156 rfl fun H0 fr w0 => ?_;refine g_seq (gRg ?_);refine go_op rfl rfl rfl (o_alloc_own zeroValue117 (cs := [.list 2 BelowSequent.d [], .bool false]) rfl) ?_;rintro _ _ ⟨b1, rfl, rfl⟩;refine gNl (g_seq (gRg ?_));refine go_op rfl rfl rfl (o_alloc_own zeroValue117 (cs := [.v (.slice none 0 0), .bool false]) rfl) ?_;rintro _ _ ⟨b2, rfl, rfl⟩;refine go_conv (refines_newrow (T := 75) (sz := 2) (f := BelowSequent.d)) ?_;refine gNl (g_seq (g_seq (gRg ?_)));refine go_p rfl rfl rfl (oMv rfl) ?_;refine go_op rfl rfl rfl (o_range_map 4 underlying153 rfl rfl) ?_;rintro _ _ ⟨r5, rfl, rfl⟩;refine gNl (g_block ?_);refine g_loop_k [(0, .v (.map (some bl))), (1, .v (.map (some br))), (3, .i64 n), (8, .v (.pointer (some ⟨b1, 0, none⟩))), (9, .v (.pointer (some ⟨b2, 0, none⟩))), (13, .v (.pointer (some ⟨r5, 0, none⟩)))] (fun (s : List (List UInt8 × List Int) × Option (List UInt8 × List Int) × List BelowSequent × Option Addr × Nat) => wideI Lm Rm Rm n s.1 s.2.2.1) (fun _ => [])
   (fun s => match s with | (rest, last, out, a, cap) => [row a cap 75 2 BelowSequent.d out, box b2 117 [.v (.slice a out.length cap), .bool false], box b1 117 [.list 2 BelowSequent.d ([] : List BelowSequent), .bool false], mp bl kStr (D.list 1 D.i64) Lm, mpi br r5 kStr (D.list 1 D.i64) Rm rest last]) (fun s => s.1.length) (Rm, none, [], none, 0) ⟨fun e he => he, by simp, fun e he _ => he, Nat.le_refl _⟩ ⟨rfl, rfl, rfl, rfl, rfl, rfl, trivial⟩ trivial rfl ?_
  rintro ⟨rest, last, out, a, cap⟩ hI;refine g_norm (L' := [(0, .v (.map (some bl))), (1, .v (.map (some br))), (3, .i64 n), (8, .v (.pointer (some ⟨b1, 0, none⟩))), (9, .v (.pointer (some ⟨b2, 0, none⟩))), (13, .v (.pointer (some ⟨r5, 0, none⟩)))]) (ms' := [row a cap 75 2 BelowSequent.d out, box b2 117 [.v (.slice a out.length cap), .bool false], box b1 117 [.list 2 BelowSequent.d ([] : List BelowSequent), .bool false], mp bl kStr (D.list 1 D.i64) Lm, mpi br r5 kStr (D.list 1 D.i64) Rm rest last]) rfl rfl ?_;refine g_seq (gRg ?_);refine go_op rfl rfl rfl (o_next_map 4 rfl rfl) ?_;rintro _ _ (⟨hr, rfl, rfl⟩ | ⟨i, ⟨kk, vv⟩, hi, rfl, rfl⟩)
  ·subst hr
   refine go_p rfl rfl rfl (o_extract rfl rfl) ?_;refine go_conv (refines_mpi 4 rfl rfl) ?_;refine gNl (g_seq ?_);refine g_cond_false rfl rfl ?_;refine g_exit ?_;obtain ⟨h1, h2, h3, h4⟩ := hI;rw [if_neg (by rintro ⟨e, he, hef⟩; exact absurd (h3 e he hef) (by simp))] at hm;obtain rfl := some_eq hm;refine g_seq (gRg ?_);refine go_p rfl rfl rfl (oLg 1 isAgg117 sizeOf117 rfl rfl rfl rfl (Nat.le_of_ble_eq_true rfl)) ?_;refine go_u rfl rfl (oSb 2 sizeOf117 rfl rfl rfl rfl rfl rfl rfl rfl (Nat.le_of_ble_eq_true rfl)) ?_;rintro _ _ rfl;refine go_ms (ms' := [_, box b2 117 [_, _], box b1 117 [_, _], _, _]) rfl ?_;refine go_conv (refines_cellrow 2 0 0 rfl rfl rfl rfl rfl rfl) ?_;refine gNl (g_ret ?_);exact retK (ret_one' (ms' := [_, _]) (drop := [_, _, _]) rfl (ret_cell 2 rfl rfl rfl isAgg117 sizeOf117 rfl) (List.Perm.refl _)) ⟨out, by simpa using h2, rfl, rfl⟩
  ·refine go_ms (ms' := [row a cap 75 2 BelowSequent.d out, box b2 117 [.v (.slice a out.length cap), .bool false], box b1 117 [.list 2 BelowSequent.d ([] : List BelowSequent), .bool false], mp bl kStr (D.list 1 D.i64) Lm, mpi br r5 kStr (D.list 1 D.i64) Rm (rest.eraseIdx i) (some (kk, vv))]) rfl ?_
   refine go_p rfl rfl rfl (o_extract rfl rfl) ?_;refine gNl (g_seq ?_);refine g_cond_true rfl rfl ?_;refine gSp (g_block (g_seq (gRg ?_)));refine go_p rfl rfl rfl (o_entry_map 4 rfl rfl) ?_;refine go_p rfl rfl rfl (o_extract rfl rfl) ?_;refine go_p rfl rfl rfl (o_extract rfl rfl) ?_;refine go_p rfl rfl rfl (oAs rfl) ?_;refine go_p rfl rfl rfl (oAs rfl) ?_;refine gNl (g_seq (g_seq (gRg ?_)));refine go_p rfl rfl rfl (oMv rfl) ?_;refine go_p rfl rfl rfl (o_len runUnderlying25 rfl) ?_;refine go_p rfl rfl rfl (oMv rfl) ?_;refine go_p rfl rfl rfl (o_cmp rfl rfl rfl) ?_;refine gNl ?_
   have hmem : (kk, vv) ∈ Rm := hI.1 _ (List.mem_of_getElem? hi)
   have hsm := hall _ hmem
   refine gCd rfl (fun hc1 => ?_) (fun hc1 => ?_)
   ·have hE : wideE Lm Rm n (kk, vv) = some none := by unfold wideE; rw [if_pos (of_decide_eq_true hc1)]
    have hst := wideI_step hI hi (by rw [hE]; simp)
    rw [show wideQ Lm Rm n (kk, vv) = none by unfold wideQ; rw [hE]] at hst;refine g_exit ?_;exact ⟨(rest.eraseIdx i, some (kk, vv), out, a, cap), by simpa using hst, erase_lt hi, trivial, ⟨rfl, rfl, rfl, rfl, rfl, rfl, trivial⟩, [], rfl⟩
   ·have hc1' : ¬ ((vv.length : Int) < n) := of_decide_eq_false hc1
    refine gSp ?_
    have hEe : wideE Lm Rm n (kk, vv) = if ((mget Lm kk).getD []).length = 0 \/ ((mget Rm kk).getD []).length = 0 then some (some none) else (m_below_set ((mget Lm kk).getD [])).bind fun x => (m_below_set ((mget Rm kk).getD [])).bind fun y => some (some (some ⟨x, y⟩)) := by unfold wideE; rw [if_neg hc1']
    refine g_seq (g_seq (gRg ?_));refine go_p rfl rfl rfl (oMv rfl) ?_;refine go_p rfl rfl rfl (oMv rfl) ?_;refine go_p rfl rfl rfl (o_lookup (z0 := ([] : List Int)) 3 runUnderlying153 (keyStr underlying9) zeroValue25 conc_nil rfl rfl rfl) ?_;refine go_p rfl rfl rfl (o_len runUnderlying25 rfl) ?_;refine go_p rfl rfl rfl (o_cmp rfl rfl rfl) ?_;refine go_p rfl rfl rfl (oMv rfl) ?_;refine go_two [(0, .v (.map (some bl))), (1, .v (.map (some br))), (3, .i64 n), (8, .v (.pointer (some ⟨b1, 0, none⟩))), (9, .v (.pointer (some ⟨b2, 0, none⟩))), (10, .v (kStr kk)), (13, .v (.pointer (some ⟨r5, 0, none⟩)))] 6 34 (decide (((mget Lm kk).getD []).length = 0 \/ ((mget Rm kk).getD []).length = 0)) (t := 28) ⟨rfl, rfl, rfl, rfl, rfl, rfl, rfl, trivial⟩ rfl (fun hg_1 hk1 => ?_) (fun hg_1 hk1 => ?_) ?_
    ·refine gKp rfl rfl rfl hg_1 rfl rfl ?_
     refine gKp rfl rfl rfl hg_1 rfl rfl ?_;refine gKp rfl rfl rfl hg_1 rfl rfl ?_;refine gKp rfl rfl rfl hg_1 rfl rfl ?_;refine gKp rfl rfl rfl hg_1 rfl rfl ?_;refine go_p rfl rfl rfl (o_pickT rfl hg_1 rfl) ?_;exact gMt hk1 (congrArg (fun b => some (D.bool b)) (dec_orT hg_1)) ⟨rfl, rfl, rfl, rfl, rfl, rfl, rfl, trivial⟩
    ·refine gWp rfl rfl rfl hg_1 rfl rfl (oMv rfl) ?_
     refine gWp rfl rfl rfl hg_1 rfl rfl (oMv rfl) ?_;refine gWp rfl rfl rfl hg_1 rfl rfl (o_lookup_mpi (z0 := ([] : List Int)) 4 runUnderlying153 (keyStr underlying9) zeroValue25 conc_nil rfl rfl rfl) ?_;refine gWp rfl rfl rfl hg_1 rfl rfl (o_len runUnderlying25 rfl) ?_;refine gWp rfl rfl rfl hg_1 rfl rfl (o_cmp rfl rfl rfl) ?_;refine go_p rfl rfl rfl (o_pickF rfl hg_1 rfl) ?_;exact gMt hk1 (congrArg (fun b => some (D.bool b)) (dec_orF hg_1)) ⟨rfl, rfl, rfl, rfl, rfl, rfl, rfl, trivial⟩
    refine gNl ?_;refine gCd rfl (fun hc2 => ?_) (fun hc2 => ?_)
    ·rw [if_pos (of_decide_eq_true hc2)] at hEe
     rw [if_pos ⟨(kk, vv), hmem, hEe⟩] at hm;obtain rfl := some_eq hm;refine g_seq (gRg ?_);refine go_p rfl rfl rfl (o_build (zs := [.list 2 BelowSequent.d [], .bool false]) runUnderlying117 zeroValue117 (pl_117 _ runUnderlying117) rfl rfl rfl rfl) ?_;refine go_u rfl rfl (oSb 2 sizeOf117 rfl rfl rfl rfl rfl rfl rfl rfl (Nat.le_of_ble_eq_true rfl)) ?_;rintro _ _ rfl;refine go_conv (refines_mpi 4 rfl rfl) ?_;refine go_ms (ms' := [_, box b2 117 [_, _], box b1 117 [_, _], _, _]) rfl ?_;refine gNl (g_ret ?_);exact retK (ret_one' (ms' := [_, _]) (drop := [_, _, _]) rfl (ret_cell 2 rfl rfl rfl isAgg117 sizeOf117 rfl) (List.Perm.refl _)) ⟨[], List.Perm.refl _, rfl, rfl⟩
    ·rw [if_neg (of_decide_eq_false hc2)] at hEe
     rw [hEe] at hsm;obtain ⟨x, hx⟩ : ∃ x, m_below_set ((mget Lm kk).getD []) = some x := by
      cases hq : m_below_set ((mget Lm kk).getD []) with
      | none => rw [hq] at hsm; simp at hsm
      | some x => exact ⟨x, rfl⟩
     rw [hx, Option.bind_some] at hEe hsm;obtain ⟨y, hy⟩ : ∃ y, m_below_set ((mget Rm kk).getD []) = some y := by
      cases hq : m_below_set ((mget Rm kk).getD []) with
      | none => rw [hq] at hsm; simp at hsm
      | some x => exact ⟨x, rfl⟩
     rw [hy, Option.bind_some] at hEe
     have hst := wideI_step hI hi (by rw [hEe]; simp)
     rw [show wideQ Lm Rm n (kk, vv) = some ⟨x, y⟩ by unfold wideQ; rw [hEe]] at hst
     have hol : out.length <= 1000000000 := by
      have h1 : out.length + (rest.filterMap (wideQ Lm Rm n)).length = (Rm.filterMap (wideQ Lm Rm n)).length := by rw [<- List.length_append]; exact hI.2.1.length_eq
      have h2 := wideQ_len Lm Rm n Rm
      omega
     have hg3 : (out.length + ([(⟨x, y⟩ : BelowSequent)] : List _).length) * 48 <= 140737488355328 := by simp only [List.length_cons, List.length_nil]; omega
     refine gSp ?_;refine g_draw 12 Tryz_mixed (by decide +kernel) ?_;refine gd_p rfl rfl rfl (oFb fi_w117_0 rfl) ?_;refine gd_p rfl rfl rfl (oLb 1 isAgg112 rfl rfl rfl rfl) ?_;refine gd_p rfl rfl rfl (oMv rfl) ?_;refine gd_p rfl rfl rfl (oMv rfl) ?_;refine gd_p rfl rfl rfl (o_lookup (z0 := ([] : List Int)) 3 runUnderlying153 (keyStr underlying9) zeroValue25 conc_nil rfl rfl rfl) ?_;refine gd_p rfl rfl rfl (o_call0 call58 rfl (w_below_set hx)) ?_;refine gd_p rfl rfl rfl (oMv rfl) ?_;refine gd_p rfl rfl rfl (oMv rfl) ?_;refine gd_p rfl rfl rfl (o_lookup_mpi (z0 := ([] : List Int)) 4 runUnderlying153 (keyStr underlying9) zeroValue25 conc_nil rfl rfl rfl) ?_;refine gd_p rfl rfl rfl (o_call0 call58 rfl (w_below_set hy)) ?_;refine gd_p rfl rfl rfl (o_build (zs := [.list 1 D.i64 [], .list 1 D.i64 []]) runUnderlying75 zeroValue75 (pl_75 _ runUnderlying75) rfl rfl rfl rfl) ?_;refine gd_p rfl rfl rfl (o_buildSlice (xs := [_]) (f := BelowSequent.d) (l := [(⟨x, y⟩ : BelowSequent)]) runUnderlying112 sizeOf75 zeroValue75 rfl rfl rfl (fun _ => ⟨rfl, rfl, rfl⟩) rfl) ?_;refine gd_nil ?_;refine go_op rfl rfl rfl (o_append (a := _) 0 underlying112 type75 rfl rfl rfl rfl rfl rfl rfl (fun _ => rfl) (fun _ => rfl) hg3 (app_len hg3 rfl)) ?_;rintro _ _ ⟨a', cap', rfl, rfl⟩;refine go_p rfl rfl rfl (oFb fi_w117_0 rfl) ?_;refine go_u rfl rfl (oSb 1 sizeOf112 rfl rfl rfl rfl rfl rfl rfl rfl (Nat.le_of_ble_eq_true rfl)) ?_;rintro _ _ rfl;refine gNl ?_;exact ⟨(rest.eraseIdx i, some (kk, vv), out ++ [⟨x, y⟩], a', cap'), by simpa using hst, erase_lt hi, trivial, ⟨rfl, rfl, rfl, rfl, rfl, rfl, trivial⟩, [], rfl⟩
 ·rw [if_neg hall] at hm
  cases hm
theorem w_wideL {Lm Rm : List (List UInt8 × List Int)} {n : Int} {r_1 : BelowAnswer} {bl br : Nat} (hm : m_wide Lm Rm Lm n = some r_1) :
  Go.V.Fn Tryz.prog 156 [.v (.map (some bl)), .v (.map (some br)), .v (.map (some bl)), .i64 n] [mp bl kStr (D.list 1 D.i64) Lm, mp br kStr (D.list 1 D.i64) Rm] (fun d ms' => ∃ p, p.Perm r_1.to_ /\ d = BelowAnswer.d ⟨p, r_1.fails⟩ /\ ms' = [mp bl kStr (D.list 1 D.i64) Lm, mp br kStr (D.list 1 D.i64) Rm]) := by
 unfold m_wide at hm
 by_cases hall : Lm.length <= 1000000000 /\ ∀ e ∈ Lm, (wideE Lm Rm n e).isSome = true
 ·rw [if_pos hall] at hm
  obtain ⟨hlen, hall⟩ := hall;refine fn_intro func156 rfl ntmps156 rfl fun H0 fr w0 => ?_;refine g_seq (gRg ?_);refine go_op rfl rfl rfl (o_alloc_own zeroValue117 (cs := [.list 2 BelowSequent.d [], .bool false]) rfl) ?_;rintro _ _ ⟨b1, rfl, rfl⟩;refine gNl (g_seq (gRg ?_));refine go_op rfl rfl rfl (o_alloc_own zeroValue117 (cs := [.v (.slice none 0 0), .bool false]) rfl) ?_;rintro _ _ ⟨b2, rfl, rfl⟩;refine go_conv (refines_newrow (T := 75) (sz := 2) (f := BelowSequent.d)) ?_;refine gNl (g_seq (g_seq (gRg ?_)));refine go_p rfl rfl rfl (oMv rfl) ?_;refine go_op rfl rfl rfl (o_range_map 3 underlying153 rfl rfl) ?_;rintro _ _ ⟨r5, rfl, rfl⟩;refine gNl (g_block ?_);refine g_loop_k [(0, .v (.map (some bl))), (1, .v (.map (some br))), (3, .i64 n), (8, .v (.pointer (some ⟨b1, 0, none⟩))), (9, .v (.pointer (some ⟨b2, 0, none⟩))), (13, .v (.pointer (some ⟨r5, 0, none⟩)))] (fun (s : List (List UInt8 × List Int) × Option (List UInt8 × List Int) × List BelowSequent × Option Addr × Nat) => wideI Lm Rm Lm n s.1 s.2.2.1) (fun _ => [])
   (fun s => match s with | (rest, last, out, a, cap) => [row a cap 75 2 BelowSequent.d out, box b2 117 [.v (.slice a out.length cap), .bool false], box b1 117 [.list 2 BelowSequent.d ([] : List BelowSequent), .bool false], mpi bl r5 kStr (D.list 1 D.i64) Lm rest last, mp br kStr (D.list 1 D.i64) Rm]) (fun s => s.1.length) (Lm, none, [], none, 0) ⟨fun e he => he, by simp, fun e he _ => he, Nat.le_refl _⟩ ⟨rfl, rfl, rfl, rfl, rfl, rfl, trivial⟩ trivial rfl ?_
  rintro ⟨rest, last, out, a, cap⟩ hI;refine g_norm (L' := [(0, .v (.map (some bl))), (1, .v (.map (some br))), (3, .i64 n), (8, .v (.pointer (some ⟨b1, 0, none⟩))), (9, .v (.pointer (some ⟨b2, 0, none⟩))), (13, .v (.pointer (some ⟨r5, 0, none⟩)))]) (ms' := [row a cap 75 2 BelowSequent.d out, box b2 117 [.v (.slice a out.length cap), .bool false], box b1 117 [.list 2 BelowSequent.d ([] : List BelowSequent), .bool false], mpi bl r5 kStr (D.list 1 D.i64) Lm rest last, mp br kStr (D.list 1 D.i64) Rm]) rfl rfl ?_;refine g_seq (gRg ?_);refine go_op rfl rfl rfl (o_next_map 3 rfl rfl) ?_;rintro _ _ (⟨hr, rfl, rfl⟩ | ⟨i, ⟨kk, vv⟩, hi, rfl, rfl⟩)
  ·subst hr
   refine go_p rfl rfl rfl (o_extract rfl rfl) ?_;refine go_conv (refines_mpi 3 rfl rfl) ?_;refine gNl (g_seq ?_);refine g_cond_false rfl rfl ?_;refine g_exit ?_;obtain ⟨h1, h2, h3, h4⟩ := hI;rw [if_neg (by rintro ⟨e, he, hef⟩; exact absurd (h3 e he hef) (by simp))] at hm;obtain rfl := some_eq hm;refine g_seq (gRg ?_);refine go_p rfl rfl rfl (oLg 1 isAgg117 sizeOf117 rfl rfl rfl rfl (Nat.le_of_ble_eq_true rfl)) ?_;refine go_u rfl rfl (oSb 2 sizeOf117 rfl rfl rfl rfl rfl rfl rfl rfl (Nat.le_of_ble_eq_true rfl)) ?_;rintro _ _ rfl;refine go_ms (ms' := [_, box b2 117 [_, _], box b1 117 [_, _], _, _]) rfl ?_;refine go_conv (refines_cellrow 2 0 0 rfl rfl rfl rfl rfl rfl) ?_;refine gNl (g_ret ?_);exact retK (ret_one' (ms' := [_, _]) (drop := [_, _, _]) rfl (ret_cell 2 rfl rfl rfl isAgg117 sizeOf117 rfl) (List.Perm.refl _)) ⟨out, by simpa using h2, rfl, rfl⟩
  ·refine go_ms (ms' := [row a cap 75 2 BelowSequent.d out, box b2 117 [.v (.slice a out.length cap), .bool false], box b1 117 [.list 2 BelowSequent.d ([] : List BelowSequent), .bool false], mpi bl r5 kStr (D.list 1 D.i64) Lm (rest.eraseIdx i) (some (kk, vv)), mp br kStr (D.list 1 D.i64) Rm]) rfl ?_
   refine go_p rfl rfl rfl (o_extract rfl rfl) ?_;refine gNl (g_seq ?_);refine g_cond_true rfl rfl ?_;refine gSp (g_block (g_seq (gRg ?_)));refine go_p rfl rfl rfl (o_entry_map 3 rfl rfl) ?_;refine go_p rfl rfl rfl (o_extract rfl rfl) ?_;refine go_p rfl rfl rfl (o_extract rfl rfl) ?_;refine go_p rfl rfl rfl (oAs rfl) ?_;refine go_p rfl rfl rfl (oAs rfl) ?_;refine gNl (g_seq (g_seq (gRg ?_)));refine go_p rfl rfl rfl (oMv rfl) ?_;refine go_p rfl rfl rfl (o_len runUnderlying25 rfl) ?_;refine go_p rfl rfl rfl (oMv rfl) ?_;refine go_p rfl rfl rfl (o_cmp rfl rfl rfl) ?_;refine gNl ?_
   have hmem : (kk, vv) ∈ Lm := hI.1 _ (List.mem_of_getElem? hi)
   have hsm := hall _ hmem
   refine gCd rfl (fun hc1 => ?_) (fun hc1 => ?_)
   ·have hE : wideE Lm Rm n (kk, vv) = some none := by unfold wideE; rw [if_pos (of_decide_eq_true hc1)]
    have hst := wideI_step hI hi (by rw [hE]; simp)
    rw [show wideQ Lm Rm n (kk, vv) = none by unfold wideQ; rw [hE]] at hst;refine g_exit ?_;exact ⟨(rest.eraseIdx i, some (kk, vv), out, a, cap), by simpa using hst, erase_lt hi, trivial, ⟨rfl, rfl, rfl, rfl, rfl, rfl, trivial⟩, [], rfl⟩
   ·have hc1' : ¬ ((vv.length : Int) < n) := of_decide_eq_false hc1
    refine gSp ?_
    have hEe : wideE Lm Rm n (kk, vv) = if ((mget Lm kk).getD []).length = 0 \/ ((mget Rm kk).getD []).length = 0 then some (some none) else (m_below_set ((mget Lm kk).getD [])).bind fun x => (m_below_set ((mget Rm kk).getD [])).bind fun y => some (some (some ⟨x, y⟩)) := by unfold wideE; rw [if_neg hc1']
    refine g_seq (g_seq (gRg ?_));refine go_p rfl rfl rfl (oMv rfl) ?_;refine go_p rfl rfl rfl (oMv rfl) ?_;refine go_p rfl rfl rfl (o_lookup_mpi (z0 := ([] : List Int)) 3 runUnderlying153 (keyStr underlying9) zeroValue25 conc_nil rfl rfl rfl) ?_;refine go_p rfl rfl rfl (o_len runUnderlying25 rfl) ?_;refine go_p rfl rfl rfl (o_cmp rfl rfl rfl) ?_;refine go_p rfl rfl rfl (oMv rfl) ?_;refine go_two [(0, .v (.map (some bl))), (1, .v (.map (some br))), (3, .i64 n), (8, .v (.pointer (some ⟨b1, 0, none⟩))), (9, .v (.pointer (some ⟨b2, 0, none⟩))), (10, .v (kStr kk)), (13, .v (.pointer (some ⟨r5, 0, none⟩)))] 6 34 (decide (((mget Lm kk).getD []).length = 0 \/ ((mget Rm kk).getD []).length = 0)) (t := 28) ⟨rfl, rfl, rfl, rfl, rfl, rfl, rfl, trivial⟩ rfl (fun hg_1 hk1 => ?_) (fun hg_1 hk1 => ?_) ?_
    ·refine gKp rfl rfl rfl hg_1 rfl rfl ?_
     refine gKp rfl rfl rfl hg_1 rfl rfl ?_;refine gKp rfl rfl rfl hg_1 rfl rfl ?_;refine gKp rfl rfl rfl hg_1 rfl rfl ?_;refine gKp rfl rfl rfl hg_1 rfl rfl ?_;refine go_p rfl rfl rfl (o_pickT rfl hg_1 rfl) ?_;exact gMt hk1 (congrArg (fun b => some (D.bool b)) (dec_orT hg_1)) ⟨rfl, rfl, rfl, rfl, rfl, rfl, rfl, trivial⟩
    ·refine gWp rfl rfl rfl hg_1 rfl rfl (oMv rfl) ?_
     refine gWp rfl rfl rfl hg_1 rfl rfl (oMv rfl) ?_;refine gWp rfl rfl rfl hg_1 rfl rfl (o_lookup (z0 := ([] : List Int)) 4 runUnderlying153 (keyStr underlying9) zeroValue25 conc_nil rfl rfl rfl) ?_;refine gWp rfl rfl rfl hg_1 rfl rfl (o_len runUnderlying25 rfl) ?_;refine gWp rfl rfl rfl hg_1 rfl rfl (o_cmp rfl rfl rfl) ?_;refine go_p rfl rfl rfl (o_pickF rfl hg_1 rfl) ?_;exact gMt hk1 (congrArg (fun b => some (D.bool b)) (dec_orF hg_1)) ⟨rfl, rfl, rfl, rfl, rfl, rfl, rfl, trivial⟩
    refine gNl ?_;refine gCd rfl (fun hc2 => ?_) (fun hc2 => ?_)
    ·rw [if_pos (of_decide_eq_true hc2)] at hEe
     rw [if_pos ⟨(kk, vv), hmem, hEe⟩] at hm;obtain rfl := some_eq hm;refine g_seq (gRg ?_);refine go_p rfl rfl rfl (o_build (zs := [.list 2 BelowSequent.d [], .bool false]) runUnderlying117 zeroValue117 (pl_117 _ runUnderlying117) rfl rfl rfl rfl) ?_;refine go_u rfl rfl (oSb 2 sizeOf117 rfl rfl rfl rfl rfl rfl rfl rfl (Nat.le_of_ble_eq_true rfl)) ?_;rintro _ _ rfl;refine go_conv (refines_mpi 3 rfl rfl) ?_;refine go_ms (ms' := [_, box b2 117 [_, _], box b1 117 [_, _], _, _]) rfl ?_;refine gNl (g_ret ?_);exact retK (ret_one' (ms' := [_, _]) (drop := [_, _, _]) rfl (ret_cell 2 rfl rfl rfl isAgg117 sizeOf117 rfl) (List.Perm.refl _)) ⟨[], List.Perm.refl _, rfl, rfl⟩
    ·rw [if_neg (of_decide_eq_false hc2)] at hEe
     rw [hEe] at hsm;obtain ⟨x, hx⟩ : ∃ x, m_below_set ((mget Lm kk).getD []) = some x := by
      cases hq : m_below_set ((mget Lm kk).getD []) with
      | none => rw [hq] at hsm; simp at hsm
      | some x => exact ⟨x, rfl⟩
     rw [hx, Option.bind_some] at hEe hsm;obtain ⟨y, hy⟩ : ∃ y, m_below_set ((mget Rm kk).getD []) = some y := by
      cases hq : m_below_set ((mget Rm kk).getD []) with
      | none => rw [hq] at hsm; simp at hsm
      | some x => exact ⟨x, rfl⟩
     rw [hy, Option.bind_some] at hEe
     have hst := wideI_step hI hi (by rw [hEe]; simp)
     rw [show wideQ Lm Rm n (kk, vv) = some ⟨x, y⟩ by unfold wideQ; rw [hEe]] at hst
     have hol : out.length <= 1000000000 := by
      have h1 : out.length + (rest.filterMap (wideQ Lm Rm n)).length = (Lm.filterMap (wideQ Lm Rm n)).length := by rw [<- List.length_append]; exact hI.2.1.length_eq
      have h2 := wideQ_len Lm Rm n Lm
      omega
     have hg3 : (out.length + ([(⟨x, y⟩ : BelowSequent)] : List _).length) * 48 <= 140737488355328 := by simp only [List.length_cons, List.length_nil]; omega
     refine gSp ?_;refine g_draw 12 Tryz_mixed (by decide +kernel) ?_;refine gd_p rfl rfl rfl (oFb fi_w117_0 rfl) ?_;refine gd_p rfl rfl rfl (oLb 1 isAgg112 rfl rfl rfl rfl) ?_;refine gd_p rfl rfl rfl (oMv rfl) ?_;refine gd_p rfl rfl rfl (oMv rfl) ?_;refine gd_p rfl rfl rfl (o_lookup_mpi (z0 := ([] : List Int)) 3 runUnderlying153 (keyStr underlying9) zeroValue25 conc_nil rfl rfl rfl) ?_;refine gd_p rfl rfl rfl (o_call0 call58 rfl (w_below_set hx)) ?_;refine gd_p rfl rfl rfl (oMv rfl) ?_;refine gd_p rfl rfl rfl (oMv rfl) ?_;refine gd_p rfl rfl rfl (o_lookup (z0 := ([] : List Int)) 4 runUnderlying153 (keyStr underlying9) zeroValue25 conc_nil rfl rfl rfl) ?_;refine gd_p rfl rfl rfl (o_call0 call58 rfl (w_below_set hy)) ?_;refine gd_p rfl rfl rfl (o_build (zs := [.list 1 D.i64 [], .list 1 D.i64 []]) runUnderlying75 zeroValue75 (pl_75 _ runUnderlying75) rfl rfl rfl rfl) ?_;refine gd_p rfl rfl rfl (o_buildSlice (xs := [_]) (f := BelowSequent.d) (l := [(⟨x, y⟩ : BelowSequent)]) runUnderlying112 sizeOf75 zeroValue75 rfl rfl rfl (fun _ => ⟨rfl, rfl, rfl⟩) rfl) ?_;refine gd_nil ?_;refine go_op rfl rfl rfl (o_append (a := _) 0 underlying112 type75 rfl rfl rfl rfl rfl rfl rfl (fun _ => rfl) (fun _ => rfl) hg3 (app_len hg3 rfl)) ?_;rintro _ _ ⟨a', cap', rfl, rfl⟩;refine go_p rfl rfl rfl (oFb fi_w117_0 rfl) ?_;refine go_u rfl rfl (oSb 1 sizeOf112 rfl rfl rfl rfl rfl rfl rfl rfl (Nat.le_of_ble_eq_true rfl)) ?_;rintro _ _ rfl;refine gNl ?_;exact ⟨(rest.eraseIdx i, some (kk, vv), out ++ [⟨x, y⟩], a', cap'), by simpa using hst, erase_lt hi, trivial, ⟨rfl, rfl, rfl, rfl, rfl, rfl, trivial⟩, [], rfl⟩
 ·rw [if_neg hall] at hm
  cases hm
end Go.Proofs.YtkfnogdccpcmhaaGreatDoor
namespace Go.Proofs.YtkfnogdccpcmhaaGreatDoor
open Go.V Tryz
noncomputable def m_below_search_only (s1 : ApiType) (l1 : (List Int)) (kind1 : Int) : Option (List Int) :=
 grd (l1.length * 8 <= 140737488355328) <|
 grd (∀ x ∈ l1, 0 <= x /\ x < (s1.l.length : Int)) <|
 some (keepK s1 kind1 l1)
theorem w_below_search_only {s1 : ApiType} {l1 : (List Int)} {kind1 : Int} {r_1 : (List Int)} (hm : m_below_search_only s1 l1 kind1 = some r_1) : Fn0 Tryz.prog 153 [.ref (ApiType.d s1), .list 1 D.i64 l1, .i64 kind1] (.list 1 D.i64 r_1) := by
 unfold m_below_search_only at hm;refine fn_intro func153 rfl ntmps153 rfl fun H0 fr w0 => ?_;refine g_seq (gRg ?_);refine go_p rfl rfl rfl (o_box rfl rfl) ?_;refine go_p rfl rfl rfl (o_box rfl rfl) ?_;refine go_p rfl rfl rfl (oAs rfl) ?_;refine go_conv (nilE (i := 6) (sz := 1) (f := D.i64) rfl).refines ?_;refine gNl (g_seq (gRg ?_));refine go_p rfl rfl rfl (oMv rfl) ?_;obtain ⟨hg1, hm⟩ := grd_some hm;refine go_op rfl rfl rfl (o_call (ms₁ := []) call97 rfl (List.Perm.refl _) (w_Clone_97 hg1)) ?_;rintro _ _ ⟨_, ⟨a_r1, cap_r1, rfl, rfl⟩, rfl⟩
 generalize hm_r1 : l1.length = m_r1
 clear hm_r1
 refine go_p rfl rfl rfl (o_makeFunc rfl rfl) ?_;obtain ⟨hg2, hm⟩ := grd_some hm;refine go_op rfl rfl rfl (o_call_own [0] call178 rfl rfl (getL_c rfl getL_n) (sh_DeleteOnly hg2) (by rintro _ _ ⟨_, _, rfl⟩; rfl)) ?_;rintro _ _ ⟨_, ⟨m_r1, rfl, rfl⟩, rfl⟩;refine go_ms (ms' := [_]) rfl ?_;refine go_p rfl rfl rfl (oAs rfl) ?_;refine gNl ?_;refine g_thaw 0 rfl rfl ?_;rintro rfl;refine g_conv (peekE (i := 6) 0 rfl rfl rfl).refines ?_;refine g_ret ?_;exact retK (ret_one' rfl (ret_tmp rfl) (perm_drop _)) (congrArg (fun (p : (List Int)) => (.list 1 D.i64 p : D)) (some_eq hm))
noncomputable def m_below_search_closed (s1 : ApiType) (q1 : BelowSequent) : Option BelowAnswer :=
 (m_below_search_heads s1 q1.left).bind fun (x1, x2) =>
 bif x2 then
  some (⟨([] : List BelowSequent), false⟩ : BelowAnswer)
 else
  bif (decide (x1 = 0)) then
   some (⟨([] : List BelowSequent), true⟩ : BelowAnswer)
  else
   (m_below_search_only s1 q1.left x1).bind fun x3 =>
   (m_below_search_only s1 q1.right x1).bind fun x4 =>
   (m_parts s1 x3).bind fun mm1 =>
   (m_parts s1 x4).bind fun mm2 =>
   bif (decide (x1 = 6)) then
    (m_below_search_arrows s1 (⟨x3, x4⟩ : BelowSequent)).bind fun x5 =>
    some (⟨x5.to_, x5.fails⟩ : BelowAnswer)
   else
    bif (decide (x1 = 7)) then
     bif (decide ((x4.length : Int) = 0)) then
      some (⟨([] : List BelowSequent), true⟩ : BelowAnswer)
     else
      (m_wide mm1 mm2 mm2 (x4.length : Int)).bind fun x6 =>
      some x6
    else
     bif (decide (x1 = 8)) then
      (m_wide mm1 mm2 mm1 (x3.length : Int)).bind fun x7 =>
      some x7
     else
      some (⟨([] : List BelowSequent), (decide ((x4.length : Int) = 0))⟩ : BelowAnswer)
theorem w_below_search_closed {s1 : ApiType} {q1 : BelowSequent} {r_1 : BelowAnswer} (hm : m_below_search_closed s1 q1 = some r_1) : Go.V.Fn Tryz.prog 133 [.ref (ApiType.d s1), BelowSequent.d q1] [] (fun d ms' => ∃ p, p.Perm r_1.to_ /\ d = BelowAnswer.d ⟨p, r_1.fails⟩ /\ ms' = []) := by
 unfold m_below_search_closed at hm;refine fn_intro func133 rfl ntmps133 rfl fun H0 fr w0 => ?_;refine g_seq (gRg ?_);refine go_op rfl rfl rfl (o_box_own rfl rfl rfl) ?_;rintro _ _ ⟨b1, rfl, rfl⟩;refine go_op rfl rfl rfl (o_alloc_own zeroValue117 (cs := [.list 2 BelowSequent.d [], .bool false]) rfl) ?_;rintro _ _ ⟨b2, rfl, rfl⟩;refine gNl (g_seq (gRg ?_));refine go_p rfl rfl rfl (oMv rfl) ?_;refine go_p rfl rfl rfl (oFb fi_75_0 rfl) ?_;refine go_p rfl rfl rfl (oLb 1 isAgg25 rfl rfl rfl rfl) ?_;obtain ⟨⟨x1, x2⟩, hx1, hm⟩ := bind_some hm;refine go_p rfl rfl rfl (o_call0 call152 rfl (w_below_search_heads hx1)) ?_;refine go_p rfl rfl rfl (oMv rfl) ?_;refine go_p rfl rfl rfl (o_extract rfl rfl) ?_;refine go_p rfl rfl rfl (o_extract rfl rfl) ?_;refine go_p rfl rfl rfl (oAs rfl) ?_;refine go_p rfl rfl rfl (oAs rfl) ?_;refine gNl (g_seq (g_block (g_seq (gRg ?_))));refine go_p rfl rfl rfl (oMv rfl) ?_;refine go_p rfl rfl rfl (oAs rfl) ?_;refine gNl ?_;refine gCd rfl (fun hc1 => ?_) (fun hc1 => ?_)
 ·replace hm := cond_t hc1 hm
  refine g_seq (gRg ?_);refine go_p rfl rfl rfl (o_build (zs := [.list 2 BelowSequent.d [], .bool false]) runUnderlying117 zeroValue117 (pl_117 _ runUnderlying117) rfl rfl rfl rfl) ?_;refine go_u rfl rfl (oSb 0 sizeOf117 rfl rfl rfl rfl rfl rfl rfl rfl (Nat.le_of_ble_eq_true rfl)) ?_;rintro _ _ rfl;refine go_ms (ms' := [box b2 117 [_, _], box b1 75 [_, _]]) rfl ?_;refine gNl (g_ret ?_);obtain rfl := some_eq hm;exact retK (ret_one' (ms' := []) (drop := [_, _]) rfl (ret_cell 0 rfl rfl rfl isAgg117 sizeOf117 rfl) (perm_all _)) ⟨_, List.Perm.refl _, rfl, rfl⟩
 ·replace hm := cond_f hc1 hm
  refine g_seq (gRg ?_);refine go_p rfl rfl rfl (oMv rfl) ?_;refine go_p rfl rfl rfl (o_cmp rfl rfl rfl) ?_;refine go_p rfl rfl rfl (oAs rfl) ?_;refine gNl ?_;refine gCd rfl (fun hc2 => ?_) (fun hc2 => ?_)
  ·replace hm := cond_t hc2 hm
   refine g_seq (gRg ?_);refine go_p rfl rfl rfl (o_build (zs := [.list 2 BelowSequent.d [], .bool false]) runUnderlying117 zeroValue117 (pl_117 _ runUnderlying117) rfl rfl rfl rfl) ?_;refine go_u rfl rfl (oSb 0 sizeOf117 rfl rfl rfl rfl rfl rfl rfl rfl (Nat.le_of_ble_eq_true rfl)) ?_;rintro _ _ rfl;refine go_ms (ms' := [box b2 117 [_, _], box b1 75 [_, _]]) rfl ?_;refine gNl (g_ret ?_);obtain rfl := some_eq hm;exact retK (ret_one' (ms' := []) (drop := [_, _]) rfl (ret_cell 0 rfl rfl rfl isAgg117 sizeOf117 rfl) (perm_all _)) ⟨_, List.Perm.refl _, rfl, rfl⟩
  ·replace hm := cond_f hc2 hm
   refine gSp (g_seq ?_);obtain ⟨x3, hx2, hm⟩ := bind_some hm;obtain ⟨x4, hx3, hm⟩ := bind_some hm;refine g_draw 11 Tryz_mixed (by decide +kernel) ?_;refine gd_p rfl rfl rfl (oMv rfl) ?_;refine gd_p rfl rfl rfl (oFb fi_75_0 rfl) ?_;refine gd_p rfl rfl rfl (oLb 1 isAgg25 rfl rfl rfl rfl) ?_;refine gd_p rfl rfl rfl (oMv rfl) ?_;refine gd_p rfl rfl rfl (o_call0 call153 rfl (w_below_search_only hx2)) ?_;refine gd_p rfl rfl rfl (oMv rfl) ?_;refine gd_p rfl rfl rfl (oFb fi_75_1 rfl) ?_;refine gd_p rfl rfl rfl (oLb 1 isAgg25 rfl rfl rfl rfl) ?_;refine gd_p rfl rfl rfl (oMv rfl) ?_;refine gd_p rfl rfl rfl (o_call0 call153 rfl (w_below_search_only hx3)) ?_;refine gd_p rfl rfl rfl (o_build (zs := [.list 1 D.i64 [], .list 1 D.i64 []]) runUnderlying75 zeroValue75 (pl_75 _ runUnderlying75) rfl rfl rfl rfl) ?_;refine gd_nil ?_;refine go_u rfl rfl (oSb 1 sizeOf75 rfl rfl rfl rfl rfl rfl rfl rfl (Nat.le_of_ble_eq_true rfl)) ?_;rintro _ _ rfl;refine go_ms (ms' := [box b2 117 [_, _], box b1 75 [_, _]]) rfl ?_;refine gNl (g_seq ?_);obtain ⟨mm1, hx4, hm⟩ := bind_some hm;obtain ⟨mm2, hx5, hm⟩ := bind_some hm;refine g_draw_cc 3 [3, 7, 8, 9] [4, 5, 6] [6] (by decide +kernel) (by decide +kernel) Tryz_mixed (by decide +kernel) (by decide +kernel) rfl ?_;refine gdc_p rfl rfl rfl rfl rfl rfl (oMv rfl) ?_;refine gdc_p rfl rfl rfl rfl rfl rfl (oFb fi_75_0 rfl) ?_;refine gdc_p rfl rfl rfl rfl rfl rfl (oLb 1 isAgg25 rfl rfl rfl rfl) ?_;refine gdc_e rfl ?_;refine gdc_p rfl rfl rfl rfl rfl rfl (oMv rfl) ?_;refine gdc_p rfl rfl rfl rfl rfl rfl (oFb fi_75_1 rfl) ?_;refine gdc_f rfl rfl rfl rfl rfl (oLb 1 isAgg25 rfl rfl rfl rfl) ?_;refine gdc_e rfl ?_;refine gdc_e rfl ?_;refine gdc_e rfl ?_;refine gdc_nil ?_;refine gdc2_t rfl rfl rfl rfl (o_call (ms₁ := []) call154 rfl (List.Perm.refl _) (w_parts hx4)) ?_;rintro _ _ ⟨_, ⟨b3, rfl, rfl⟩, rfl⟩;refine ⟨fun _ => ⟨trivial, oLb 2 isAgg25 rfl rfl rfl rfl⟩, ?_⟩;refine gdc2_t rfl rfl rfl rfl (o_call (ms₁ := []) call154 rfl (List.Perm.refl _) (w_parts hx5)) ?_;rintro _ _ ⟨_, ⟨b4, rfl, rfl⟩, rfl⟩;refine ⟨fun hc => absurd hc (by decide), ?_⟩;refine gdc2_t rfl rfl rfl rfl (oAs rfl) ?_;rintro _ _ ⟨rfl, rfl⟩;refine ⟨fun hc => absurd hc (by decide), ?_⟩;refine gdc2_t rfl rfl rfl rfl (oAs rfl) ?_;rintro _ _ ⟨rfl, rfl⟩;refine ⟨fun hc => absurd hc (by decide), ?_⟩;refine gdc2_nil ?_;refine g_seq (g_seq (gRg ?_));refine go_p rfl rfl rfl (oMv rfl) ?_;refine gNl (g_block (g_seq (gRg ?_)));refine go_p rfl rfl rfl (o_cmp rfl rfl rfl) ?_;refine go_p rfl rfl rfl (oAs rfl) ?_;refine gNl ?_;refine gCd rfl (fun hc3 => ?_) (fun hc3 => ?_)
   ·replace hm := cond_t hc3 hm
    refine g_seq (gRg ?_);refine go_p rfl rfl rfl (oMv rfl) ?_;refine go_p rfl rfl rfl (oLg 3 isAgg75 sizeOf75 rfl rfl rfl rfl (Nat.le_of_ble_eq_true rfl)) ?_;obtain ⟨x5, hx6, hm⟩ := bind_some hm;refine go_p rfl rfl rfl (o_call0 call155 rfl (w_below_search_arrows hx6)) ?_;refine go_u rfl rfl (oSb 2 sizeOf117 rfl rfl rfl rfl rfl rfl rfl rfl (Nat.le_of_ble_eq_true rfl)) ?_;rintro _ _ rfl;refine go_ms (ms' := [_, _, box b2 117 [_, _], box b1 75 [_, _]]) rfl ?_;refine gNl (g_ret ?_);obtain rfl := some_eq hm;exact retK (ret_one' (ms' := []) (drop := [_, _, _, _]) rfl (ret_cell 2 rfl rfl rfl isAgg117 sizeOf117 rfl) (perm_all _)) ⟨_, List.Perm.refl _, rfl, rfl⟩
   ·replace hm := cond_f hc3 hm
    refine g_seq (gRg ?_);refine go_p rfl rfl rfl (o_cmp rfl rfl rfl) ?_;refine go_p rfl rfl rfl (oAs rfl) ?_;refine gNl ?_;refine gCd rfl (fun hc4 => ?_) (fun hc4 => ?_)
    ·replace hm := cond_t hc4 hm
     refine g_seq (g_seq (gRg ?_));refine go_p rfl rfl rfl (oFb fi_75_1 rfl) ?_;refine go_p rfl rfl rfl (oLb 3 isAgg25 rfl rfl rfl rfl) ?_;refine go_p rfl rfl rfl (o_len runUnderlying25 rfl) ?_;refine go_p rfl rfl rfl (o_cmp rfl rfl rfl) ?_;refine gNl ?_;refine gCd rfl (fun hc5 => ?_) (fun hc5 => ?_)
     ·replace hm := cond_t hc5 hm
      refine g_seq (gRg ?_);refine go_p rfl rfl rfl (o_build (zs := [.list 2 BelowSequent.d [], .bool false]) runUnderlying117 zeroValue117 (pl_117 _ runUnderlying117) rfl rfl rfl rfl) ?_;refine go_u rfl rfl (oSb 2 sizeOf117 rfl rfl rfl rfl rfl rfl rfl rfl (Nat.le_of_ble_eq_true rfl)) ?_;rintro _ _ rfl;refine go_ms (ms' := [_, _, box b2 117 [_, _], box b1 75 [_, _]]) rfl ?_;refine gNl (g_ret ?_);obtain rfl := some_eq hm;exact retK (ret_one' (ms' := []) (drop := [_, _, _, _]) rfl (ret_cell 2 rfl rfl rfl isAgg117 sizeOf117 rfl) (perm_all _)) ⟨_, List.Perm.refl _, rfl, rfl⟩
     ·replace hm := cond_f hc5 hm
      refine gSp (g_seq (gRg ?_));refine go_p rfl rfl rfl (oMv rfl) ?_;refine go_p rfl rfl rfl (oMv rfl) ?_;refine go_p rfl rfl rfl (oMv rfl) ?_;refine go_p rfl rfl rfl (oFb fi_75_1 rfl) ?_;refine go_p rfl rfl rfl (oLb 3 isAgg25 rfl rfl rfl rfl) ?_;refine go_p rfl rfl rfl (o_len runUnderlying25 rfl) ?_;obtain ⟨x6, hx7, hm⟩ := bind_some hm;refine go_op rfl rfl rfl (o_call (ms₁ := [_, _]) call156 rfl ((permA 1 rfl (permA 0 rfl permN)).trans List.perm_append_comm) (w_wideR hx7)) ?_;rintro _ _ ⟨_, ⟨p_1, hp_1, rfl, rfl⟩, rfl⟩;refine go_ms (ms' := [_, _, box b2 117 [_, _], box b1 75 [_, _]]) rfl ?_;refine go_u rfl rfl (oSb 2 sizeOf117 rfl rfl rfl rfl rfl rfl rfl rfl (Nat.le_of_ble_eq_true rfl)) ?_;rintro _ _ rfl;refine go_ms (ms' := [_, _, box b2 117 [_, _], box b1 75 [_, _]]) rfl ?_;refine gNl (g_ret ?_);obtain rfl := some_eq hm;exact retK (ret_one' (ms' := []) (drop := [_, _, _, _]) rfl (ret_cell 2 rfl rfl rfl isAgg117 sizeOf117 rfl) (perm_all _)) ⟨_, hp_1, rfl, rfl⟩
    ·replace hm := cond_f hc4 hm
     refine g_seq (gRg ?_);refine go_p rfl rfl rfl (o_cmp rfl rfl rfl) ?_;refine go_p rfl rfl rfl (oAs rfl) ?_;refine gNl ?_;refine gCd rfl (fun hc6 => ?_) (fun hc6 => ?_)
     ·replace hm := cond_t hc6 hm
      refine g_seq (gRg ?_);refine go_p rfl rfl rfl (oMv rfl) ?_;refine go_p rfl rfl rfl (oMv rfl) ?_;refine go_p rfl rfl rfl (oMv rfl) ?_;refine go_p rfl rfl rfl (oFb fi_75_0 rfl) ?_;refine go_p rfl rfl rfl (oLb 3 isAgg25 rfl rfl rfl rfl) ?_;refine go_p rfl rfl rfl (o_len runUnderlying25 rfl) ?_;obtain ⟨x7, hx8, hm⟩ := bind_some hm;refine go_op rfl rfl rfl (o_call (ms₁ := [_, _]) call156 rfl ((permA 1 rfl (permA 0 rfl permN)).trans List.perm_append_comm) (w_wideL hx8)) ?_;rintro _ _ ⟨_, ⟨p_2, hp_2, rfl, rfl⟩, rfl⟩;refine go_ms (ms' := [_, _, box b2 117 [_, _], box b1 75 [_, _]]) rfl ?_;refine go_u rfl rfl (oSb 2 sizeOf117 rfl rfl rfl rfl rfl rfl rfl rfl (Nat.le_of_ble_eq_true rfl)) ?_;rintro _ _ rfl;refine go_ms (ms' := [_, _, box b2 117 [_, _], box b1 75 [_, _]]) rfl ?_;refine gNl (g_ret ?_);obtain rfl := some_eq hm;exact retK (ret_one' (ms' := []) (drop := [_, _, _, _]) rfl (ret_cell 2 rfl rfl rfl isAgg117 sizeOf117 rfl) (perm_all _)) ⟨_, hp_2, rfl, rfl⟩
     ·replace hm := cond_f hc6 hm
      refine gSp (g_seq (gRg ?_));refine go_p rfl rfl rfl (oFb fi_75_1 rfl) ?_;refine go_p rfl rfl rfl (oLb 3 isAgg25 rfl rfl rfl rfl) ?_;refine go_p rfl rfl rfl (o_len runUnderlying25 rfl) ?_;refine go_p rfl rfl rfl (o_cmp rfl rfl rfl) ?_;refine go_p rfl rfl rfl (o_build (zs := [.list 2 BelowSequent.d [], .bool false]) runUnderlying117 zeroValue117 (pl_117 _ runUnderlying117) rfl rfl rfl rfl) ?_;refine go_u rfl rfl (oSb 2 sizeOf117 rfl rfl rfl rfl rfl rfl rfl rfl (Nat.le_of_ble_eq_true rfl)) ?_;rintro _ _ rfl;refine go_ms (ms' := [_, _, box b2 117 [_, _], box b1 75 [_, _]]) rfl ?_;refine gNl (g_ret ?_);obtain rfl := some_eq hm;exact retK (ret_one' (ms' := []) (drop := [_, _, _, _]) rfl (ret_cell 2 rfl rfl rfl isAgg117 sizeOf117 rfl) (perm_all _)) ⟨_, List.Perm.refl _, rfl, rfl⟩
noncomputable def m_below_search_leads (s1 : ApiType) (q1 : BelowSequent) : Option BelowAnswer :=
 (m_below_search_has s1 q1.left 2).bind fun x1 =>
 (bif x1 then (some true) else ((m_below_search_has s1 q1.right 1).bind fun x2 =>
 some x2)).bind fun p1 =>
 bif p1 then
  some (⟨([] : List BelowSequent), false⟩ : BelowAnswer)
 else
  (m_below_search_opened s1 q1).bind fun (x3, x4) =>
  bif x4 then
   some (⟨x3.to_, x3.fails⟩ : BelowAnswer)
  else
   (m_below_search_shared s1 q1).bind fun x5 =>
   bif x5 then
    some (⟨([] : List BelowSequent), false⟩ : BelowAnswer)
   else
    (m_below_search_closed s1 q1).bind fun x6 =>
    some x6
theorem w_below_search_leads {s1 : ApiType} {q1 : BelowSequent} {r_1 : BelowAnswer} (hm : m_below_search_leads s1 q1 = some r_1) : Go.V.Fn Tryz.prog 96 [.ref (ApiType.d s1), BelowSequent.d q1] [] (fun d ms' => ∃ p, p.Perm r_1.to_ /\ d = BelowAnswer.d ⟨p, r_1.fails⟩ /\ ms' = []) := by
 unfold m_below_search_leads at hm;refine fn_intro func96 rfl ntmps96 rfl fun H0 fr w0 => ?_;refine g_seq (gRg ?_);refine go_p rfl rfl rfl (o_box rfl rfl) ?_;refine go_op rfl rfl rfl (o_alloc_own zeroValue117 (cs := [.list 2 BelowSequent.d [], .bool false]) rfl) ?_;rintro _ _ ⟨b1, rfl, rfl⟩;refine gNl (g_seq (g_seq (gRg ?_)));refine go_p rfl rfl rfl (oMv rfl) ?_;refine go_p rfl rfl rfl (oFa fi_75_0 rfl rfl rfl) ?_;refine go_p rfl rfl rfl (o_load isAgg25 rfl rfl) ?_;obtain ⟨x1, hx1, hm⟩ := bind_some hm;refine go_p rfl rfl rfl (o_call0 call130 rfl (w_below_search_has hx1)) ?_;refine go_p rfl rfl rfl (oMv rfl) ?_;obtain ⟨p1, hp_1, hm⟩ := bind_some hm;refine go_two [(0, _), (3, _), (4, _)] 5 16 p1 (t := 11) ⟨rfl, rfl, rfl, trivial⟩ rfl (fun hg_1 hk1 => ?_) (fun hg_1 hk1 => ?_) ?_
 ·replace hp_1 := cond_t hg_1 hp_1
  refine gKp rfl rfl rfl hg_1 rfl rfl ?_;refine gKp rfl rfl rfl hg_1 rfl rfl ?_;refine gKp rfl rfl rfl hg_1 rfl rfl ?_;refine gKp rfl rfl rfl hg_1 rfl rfl ?_;refine go_p rfl rfl rfl (o_pickT rfl hg_1 rfl) ?_;exact gMt hk1 (congrArg (fun b => some (D.bool b)) (some_eq hp_1)) ⟨rfl, rfl, rfl, trivial⟩
 ·replace hp_1 := cond_f hg_1 hp_1
  refine gWp rfl rfl rfl hg_1 rfl rfl (oMv rfl) ?_;refine gWp rfl rfl rfl hg_1 rfl rfl (oFa fi_75_1 rfl rfl rfl) ?_;refine gWp rfl rfl rfl hg_1 rfl rfl (o_load isAgg25 rfl rfl) ?_;obtain ⟨x2, hx2, hp_1⟩ := bind_some hp_1;refine gWp rfl rfl rfl hg_1 rfl rfl (o_call0 call130 rfl (w_below_search_has hx2)) ?_;refine go_p rfl rfl rfl (o_pickF rfl hg_1 rfl) ?_;exact gMt hk1 (congrArg (fun b => some (D.bool b)) (some_eq hp_1)) ⟨rfl, rfl, rfl, trivial⟩
 refine gNl ?_;refine gCd rfl (fun hc1 => ?_) (fun hc1 => ?_)
 ·replace hm := cond_t hc1 hm
  refine g_seq (gRg ?_);refine go_p rfl rfl rfl (o_build (zs := [.list 2 BelowSequent.d [], .bool false]) runUnderlying117 zeroValue117 (pl_117 _ runUnderlying117) rfl rfl rfl rfl) ?_;refine go_u rfl rfl (oSb 0 sizeOf117 rfl rfl rfl rfl rfl rfl rfl rfl (Nat.le_of_ble_eq_true rfl)) ?_;rintro _ _ rfl;refine go_ms (ms' := [box b1 117 [_, _]]) rfl ?_;refine gNl (g_ret ?_);obtain rfl := some_eq hm;exact retK (ret_one' (ms' := []) (drop := [_]) rfl (ret_cell 0 rfl rfl rfl isAgg117 sizeOf117 rfl) (perm_all _)) ⟨_, List.Perm.refl _, rfl, rfl⟩
 ·replace hm := cond_f hc1 hm
  refine gSp (g_seq (g_seq (gRg ?_)));refine go_p rfl rfl rfl (oMv rfl) ?_;refine go_p rfl rfl rfl (o_load_agg isAgg75 sizeOf75 rfl rfl) ?_;obtain ⟨⟨x3, x4⟩, hx3, hm⟩ := bind_some hm;refine go_p rfl rfl rfl (o_call0 call131 rfl (w_below_search_opened hx3)) ?_;refine go_p rfl rfl rfl (oMv rfl) ?_;refine go_p rfl rfl rfl (o_extract rfl rfl) ?_;refine go_p rfl rfl rfl (o_extract rfl rfl) ?_;refine go_op rfl rfl rfl (o_alloc_own zeroValue117 (cs := [.list 2 BelowSequent.d [], .bool false]) rfl) ?_;rintro _ _ ⟨b2, rfl, rfl⟩;refine go_u rfl rfl (oSb 0 sizeOf117 rfl rfl rfl rfl rfl rfl rfl rfl (Nat.le_of_ble_eq_true rfl)) ?_;rintro _ _ rfl;refine go_ms (ms' := [box b2 117 [_, _], box b1 117 [_, _]]) rfl ?_;refine go_p rfl rfl rfl (oAs rfl) ?_;refine gNl (g_seq (gRg ?_));refine go_p rfl rfl rfl (oMv rfl) ?_;refine gNl ?_;refine gCd rfl (fun hc2 => ?_) (fun hc2 => ?_)
  ·replace hm := cond_t hc2 hm
   refine g_seq (gRg ?_);refine go_p rfl rfl rfl (oLg 0 isAgg117 sizeOf117 rfl rfl rfl rfl (Nat.le_of_ble_eq_true rfl)) ?_;refine go_u rfl rfl (oSb 1 sizeOf117 rfl rfl rfl rfl rfl rfl rfl rfl (Nat.le_of_ble_eq_true rfl)) ?_;rintro _ _ rfl;refine go_ms (ms' := [box b2 117 [_, _], box b1 117 [_, _]]) rfl ?_;refine gNl (g_ret ?_);obtain rfl := some_eq hm;exact retK (ret_one' (ms' := []) (drop := [_, _]) rfl (ret_cell 1 rfl rfl rfl isAgg117 sizeOf117 rfl) (perm_all _)) ⟨_, List.Perm.refl _, rfl, rfl⟩
  ·replace hm := cond_f hc2 hm
   refine gSp (g_seq (g_seq (gRg ?_)));refine go_p rfl rfl rfl (oMv rfl) ?_;refine go_p rfl rfl rfl (o_load_agg isAgg75 sizeOf75 rfl rfl) ?_;obtain ⟨x5, hx4, hm⟩ := bind_some hm;refine go_p rfl rfl rfl (o_call0 call132 rfl (w_below_search_shared hx4)) ?_;refine gNl ?_;refine gCd rfl (fun hc3 => ?_) (fun hc3 => ?_)
   ·replace hm := cond_t hc3 hm
    refine g_seq (gRg ?_);refine go_p rfl rfl rfl (o_build (zs := [.list 2 BelowSequent.d [], .bool false]) runUnderlying117 zeroValue117 (pl_117 _ runUnderlying117) rfl rfl rfl rfl) ?_;refine go_u rfl rfl (oSb 1 sizeOf117 rfl rfl rfl rfl rfl rfl rfl rfl (Nat.le_of_ble_eq_true rfl)) ?_;rintro _ _ rfl;refine go_ms (ms' := [box b2 117 [_, _], box b1 117 [_, _]]) rfl ?_;refine gNl (g_ret ?_);obtain rfl := some_eq hm;exact retK (ret_one' (ms' := []) (drop := [_, _]) rfl (ret_cell 1 rfl rfl rfl isAgg117 sizeOf117 rfl) (perm_all _)) ⟨_, List.Perm.refl _, rfl, rfl⟩
   ·replace hm := cond_f hc3 hm
    refine gSp (g_seq (gRg ?_));refine go_p rfl rfl rfl (oMv rfl) ?_;refine go_p rfl rfl rfl (o_load_agg isAgg75 sizeOf75 rfl rfl) ?_;obtain ⟨x6, hx5, hm⟩ := bind_some hm;refine go_op rfl rfl rfl (o_call (ms₁ := []) call133 rfl (List.Perm.refl _) (w_below_search_closed hx5)) ?_;rintro _ _ ⟨_, ⟨p_1, hp_1, rfl, rfl⟩, rfl⟩;refine go_u rfl rfl (oSb 1 sizeOf117 rfl rfl rfl rfl rfl rfl rfl rfl (Nat.le_of_ble_eq_true rfl)) ?_;rintro _ _ rfl;refine go_ms (ms' := [box b2 117 [_, _], box b1 117 [_, _]]) rfl ?_;refine gNl (g_ret ?_);obtain rfl := some_eq hm;exact retK (ret_one' (ms' := []) (drop := [_, _]) rfl (ret_cell 1 rfl rfl rfl isAgg117 sizeOf117 rfl) (perm_all _)) ⟨_, hp_1, rfl, rfl⟩
end Go.Proofs.YtkfnogdccpcmhaaGreatDoor
namespace Go.Proofs.YtkfnogdccpcmhaaGreatDoor
open Go.V Tryz
inductive Reach (t : ApiType) (q : BelowSequent) : BelowSequent -> Prop
 | refl : Reach t q q
 | step {s s' : BelowSequent} {r : BelowAnswer} : Reach t q s -> m_below_search_leads t s = some r -> s' ∈ r.to_ -> Reach t q s'
def HoldsOk (t : ApiType) (q : BelowSequent) (b : Bool) : Prop := ∃ U : List BelowSequent, q ∈ U /\ U.length <= 1000000000000 /\ (∀ s ∈ U, ∃ k, m_below_sequent_key s = some k) /\ (∀ s ∈ U, ∀ s' ∈ U, m_below_sequent_key s = m_below_sequent_key s' -> s = s') /\
 (∀ s ∈ U, ∃ r, m_below_search_leads t s = some r /\ ∀ s' ∈ r.to_, s' ∈ U) /\ (b = true ↔ ∀ s, Reach t q s -> ∀ r, m_below_search_leads t s = some r -> r.fails = false)
open Classical in
noncomputable def m_holds (t : ApiType) (q : BelowSequent) : Option Bool := if HoldsOk t q true then some true else if HoldsOk t q false then some false else none
theorem holds_ok {t : ApiType} {q : BelowSequent} {b : Bool} (h : m_holds t q = some b) : HoldsOk t q b := by
 unfold m_holds at h
 split at h
 ·rename_i h1; cases h; exact h1
 ·split at h
  ·rename_i h1; cases h; exact h1
  ·cases h
theorem holds_of {t : ApiType} {q : BelowSequent} {b : Bool} (h : HoldsOk t q b) : m_holds t q = some b := by
 unfold m_holds
 cases b with
 | true => rw [if_pos h]
 | false =>
  rw [if_neg, if_pos h]
  intro h2
  obtain ⟨_, _, _, _, _, _, h3⟩ := h;obtain ⟨_, _, _, _, _, _, h4⟩ := h2;exact absurd (h3.2 (h4.1 rfl)) (by simp)
def OkIn (t : ApiType) (S : List BelowSequent) (s : BelowSequent) : Prop := ∃ r, m_below_search_leads t s = some r /\ r.fails = false /\ ∀ s' ∈ r.to_, s' ∈ S
structure InvS (t : ApiType) (q : BelowSequent) (U X : List BelowSequent) (seen : List (List UInt8 × Bool)) (todo S : List BelowSequent) : Prop where
 nodup : S.Nodup
 inU : ∀ s ∈ S, s ∈ U
 reach : ∀ s ∈ S, Reach t q s
 seenE : ∀ k, (mget seen k).getD false = true ↔ ∃ s ∈ S, m_below_sequent_key s = some k
 todoE : ∀ s ∈ todo, s ∈ S
 len : todo.length <= S.length
 done : ∀ s ∈ S, s ∉ todo -> s ∉ X -> OkIn t S s
theorem nodup_sub {α : Type} : ∀ (S U : List α), S.Nodup -> (∀ s ∈ S, s ∈ U) -> S.length <= U.length
 | [], U, _, _ => Nat.zero_le _
 | a :: S, U, hn, h => by
  classical
  obtain ⟨h1, h2⟩ := List.nodup_cons.1 hn
  have ha : a ∈ U := h a (by simp)
  have := nodup_sub S (U.erase a) h2 (fun s hs => (List.mem_erase_of_ne (fun e => h1 (by rw [<- e]; exact hs))).2 (h s (by simp [hs])))
  rw [List.length_erase_of_mem ha] at this
  have := List.length_pos_of_mem ha
  simp only [List.length_cons]
  omega
section
variable {t : ApiType} {q : BelowSequent} {U X : List BelowSequent} {seen : List (List UInt8 × Bool)} {todo S : List BelowSequent}
theorem InvS.le (h : InvS t q U X seen todo S) : S.length <= U.length := nodup_sub S U h.nodup h.inU
def askS (seen : List (List UInt8 × Bool)) (k : List UInt8) : List (List UInt8 × Bool) := if (mget seen k).getD false = true then seen else mset seen k true
def askT (seen : List (List UInt8 × Bool)) (k : List UInt8) (todo : List BelowSequent) (s : BelowSequent) : List BelowSequent := if (mget seen k).getD false = true then todo else todo ++ [s]
theorem InvS.ask (h : InvS t q U X seen todo S) (hinj : ∀ s ∈ U, ∀ s' ∈ U, m_below_sequent_key s = m_below_sequent_key s' -> s = s') {s : BelowSequent} {k : List UInt8} (hs : s ∈ U) (hr : Reach t q s) (hk : m_below_sequent_key s = some k) :
  InvS t q U X (askS seen k) (askT seen k todo s) (if (mget seen k).getD false = true then S else S ++ [s]) /\ s ∈ (if (mget seen k).getD false = true then S else S ++ [s]) /\
   2 * (U.length - (if (mget seen k).getD false = true then S else S ++ [s]).length) + (askT seen k todo s).length <= 2 * (U.length - S.length) + todo.length /\ ∀ x ∈ S, x ∈ (if (mget seen k).getD false = true then S else S ++ [s]) := by
 unfold askS askT
 by_cases hg : (mget seen k).getD false = true
 ·simp only [if_pos hg]
  obtain ⟨s1, h1, h2⟩ := (h.seenE k).1 hg
  have := hinj s1 (h.inU s1 h1) s hs (by rw [h2, hk])
  subst this;exact ⟨h, h1, Nat.le_refl _, fun x hx => hx⟩
 ·simp only [if_neg hg]
  have hns : s ∉ S := fun hm => hg ((h.seenE k).2 ⟨s, hm, hk⟩)
  have hI : InvS t q U X (mset seen k true) (todo ++ [s]) (S ++ [s]) := by
   refine ⟨?_, ?_, ?_, ?_, ?_, ?_, ?_⟩
   ·rw [List.nodup_append]; exact ⟨h.nodup, by simp, fun a ha b hb e => by simp at hb; subst hb; subst e; exact hns ha⟩
   ·intro x hx; rcases List.mem_append.1 hx with hx | hx
    ·exact h.inU x hx
    ·simp at hx; subst hx; exact hs
   ·intro x hx; rcases List.mem_append.1 hx with hx | hx
    ·exact h.reach x hx
    ·simp at hx; subst hx; exact hr
   ·intro k'
    rw [mget_set]
    by_cases hkk : k' = k
    ·subst hkk
     simp only [if_true, Option.getD_some, true_iff];exact ⟨s, by simp, hk⟩
    ·rw [if_neg hkk, h.seenE k']
     constructor
     ·rintro ⟨x, hx, hxk⟩; exact ⟨x, by simp [hx], hxk⟩
     ·rintro ⟨x, hx, hxk⟩
      rcases List.mem_append.1 hx with hx | hx
      ·exact ⟨x, hx, hxk⟩
      ·simp at hx; subst hx; rw [hk] at hxk; exact absurd (Option.some.inj hxk).symm hkk
   ·intro x hx; rcases List.mem_append.1 hx with hx | hx
    ·exact List.mem_append_left _ (h.todoE x hx)
    ·exact List.mem_append_right _ hx
   ·have := h.len; simp only [List.length_append, List.length_cons, List.length_nil]; omega
   ·intro x hx hxt hxX
    rcases List.mem_append.1 hx with hx | hx
    ·obtain ⟨r, r1, r2, r3⟩ := h.done x hx (fun e => hxt (List.mem_append_left _ e)) hxX
     exact ⟨r, r1, r2, fun s' hs' => List.mem_append_left _ (r3 s' hs')⟩
    ·exact absurd (List.mem_append_right _ hx) hxt
  have := hI.le
  refine ⟨hI, by simp, ?_, fun x hx => List.mem_append_left _ hx⟩;simp only [List.length_append, List.length_cons, List.length_nil] at this ⊢
  omega
theorem InvS.pop {x : BelowSequent} (h : InvS t q U [] seen (todo ++ [x]) S) : InvS t q U [x] seen todo S :=
 ⟨h.nodup, h.inU, h.reach, h.seenE, fun s hs => h.todoE s (by simp [hs]), by have := h.len; simp at this; omega, fun s hs ht hx => h.done s hs (by simp only [List.mem_append]; rintro (e | e); exact ht e; exact hx e) (by simp)⟩
theorem InvS.close {x : BelowSequent} {r : BelowAnswer} (h : InvS t q U [x] seen todo S) (hr : m_below_search_leads t x = some r) (hf : r.fails = false) (ht : ∀ s' ∈ r.to_, s' ∈ S) : InvS t q U [] seen todo S :=
 ⟨h.nodup, h.inU, h.reach, h.seenE, h.todoE, h.len, fun s hs h1 _ => by
  by_cases e : s = x
  ·subst e; exact ⟨r, hr, hf, ht⟩
  ·exact h.done s hs h1 (by simpa using e)⟩
theorem InvS.all (h : InvS t q U [] seen [] S) (hq : q ∈ S) : ∀ s, Reach t q s -> ∀ r, m_below_search_leads t s = some r -> r.fails = false := by
 have key : ∀ s, Reach t q s -> s ∈ S := by
  intro s hr
  induction hr with
  | refl => exact hq
  | step h1 h2 h3 ih =>
   obtain ⟨r', r1, _, r3⟩ := h.done _ ih (by simp) (by simp);rw [h2] at r1; cases r1
   exact r3 _ h3
 intro s hr r h2
 obtain ⟨r', r1, r2, _⟩ := h.done _ (key s hr) (by simp) (by simp);rw [h2] at r1; cases r1
 exact r2
end
theorem fi_w114_1 : FieldIs Tryz.prog 114 1 2 1 false := ⟨⟨_, _, runUnderlying114, rfl, rfl, sizeOf111, by decide, isAgg111⟩⟩
theorem fi_w114_2 : FieldIs Tryz.prog 114 2 3 1 false := ⟨⟨_, _, runUnderlying114, rfl, rfl, sizeOf112, by decide, isAgg112⟩⟩
theorem w_ask {t : ApiType} {s : BelowSequent} {k : List UInt8} {seen : List (List UInt8 × Bool)} {todo : List BelowSequent} {bs bm : Nat} {a : Option Addr} {m cap : Nat} (hk : m_below_sequent_key s = some k) (hl : todo.length <= 1000000000000) :
  Go.V.Fn Tryz.prog 95 [.v (.pointer (some ⟨bs, 0, none⟩)), BelowSequent.d s] [boxf bs 114 2 [.list 4 ApiTNode.d t.l, .i64 t.root, .v (.map (some bm)), .v (.slice a m cap)], mp bm kStr D.bool seen, arr a m cap 75 2 BelowSequent.d todo]
   (fun d ms' => d = .tup [] /\ ∃ a' m' cap', ms' = [boxf bs 114 2 [.list 4 ApiTNode.d t.l, .i64 t.root, .v (.map (some bm)), .v (.slice a' m' cap')], mp bm kStr D.bool (askS seen k), arr a' m' cap' 75 2 BelowSequent.d (askT seen k todo s)]) := by
 refine fn_intro func95 rfl ntmps95 rfl fun H0 fr w0 => ?_;refine g_seq (gRg ?_);refine go_p rfl rfl rfl (o_box rfl rfl) ?_;refine gNl (g_seq (gRg ?_));refine go_p rfl rfl rfl (o_load_agg isAgg75 sizeOf75 rfl rfl) ?_;refine go_p rfl rfl rfl (o_call0 call129 rfl (w_below_sequent_key hk)) ?_;refine go_p rfl rfl rfl (oAs rfl) ?_;refine gNl (g_seq (gRg ?_));refine go_p rfl rfl rfl (oMv rfl) ?_;refine go_p rfl rfl rfl (o_nilCheck_box rfl) ?_;refine go_p rfl rfl rfl (oFb fi_w114_1 rfl) ?_;refine go_p rfl rfl rfl (o_load_boxf 0 isAgg111 rfl rfl rfl rfl) ?_;refine go_p rfl rfl rfl (oMv rfl) ?_;refine go_p rfl rfl rfl (o_lookup (z0 := (false : Bool)) 1 runUnderlying111 (keyStr underlying9) zeroValue4 (fun _ => conc_v.2 rfl) rfl rfl rfl) ?_;refine go_p rfl rfl rfl (o_not rfl) ?_;refine gNl ?_;refine gCd rfl (fun hc1 => ?_) (fun hc1 => ?_)
 ·have hg : ¬ ((mget seen k).getD false = true) := by simpa using hc1
  have e1 : askS seen k = mset seen k true := if_neg hg
  have e2 : askT seen k todo s = todo ++ [s] := if_neg hg
  refine g_seq (gRg ?_);refine go_p rfl rfl rfl (oMv rfl) ?_;refine go_p rfl rfl rfl (o_nilCheck_box rfl) ?_;refine go_p rfl rfl rfl (oFb fi_w114_1 rfl) ?_;refine go_p rfl rfl rfl (o_load_boxf 0 isAgg111 rfl rfl rfl rfl) ?_;refine go_p rfl rfl rfl (oMv rfl) ?_;refine go_u rfl rfl (o_mapUpdate (v := true) 1 runUnderlying111 (keyStr underlying9) rfl rfl rfl rfl) ?_;rintro _ _ rfl;refine go_ms (ms' := [_, _, _]) rfl ?_;refine gNl ?_
  have hg3 : (todo.length + ([(⟨s.left, s.right⟩ : BelowSequent)] : List _).length) * 48 <= 140737488355328 := by simp only [List.length_cons, List.length_nil]; omega
  refine g_draw_c [7, 10] [0, 8, 9] [] Tryz_mixed (by decide +kernel) (by decide +kernel) rfl ?_;refine gde_p rfl rfl rfl rfl rfl rfl (oMv rfl) ?_;refine gde_p rfl rfl rfl rfl rfl rfl (oMv rfl) ?_;refine gde_p rfl rfl rfl rfl rfl rfl (o_nilCheck_box rfl) ?_;refine gde_p rfl rfl rfl rfl rfl rfl (oFb fi_w114_2 rfl) ?_;refine gde_p rfl rfl rfl rfl rfl rfl (o_load_boxf 0 isAgg112 rfl rfl rfl rfl) ?_;refine gde_p rfl rfl rfl rfl rfl rfl (o_load_agg isAgg75 sizeOf75 rfl rfl) ?_;refine gde_p rfl rfl rfl rfl rfl rfl (o_buildSlice (xs := [_]) (f := BelowSequent.d) (l := [(⟨s.left, s.right⟩ : BelowSequent)]) runUnderlying112 sizeOf75 zeroValue75 rfl rfl rfl (fun _ => ⟨rfl, rfl, rfl⟩) rfl) ?_;refine gde_e rfl ?_;refine gde_p rfl rfl rfl rfl rfl rfl (o_nilCheck_box rfl) ?_;refine gde_p rfl rfl rfl rfl rfl rfl (oFb fi_w114_2 rfl) ?_;refine gde_e rfl ?_;refine gde_nil ?_;refine gde2_t rfl rfl rfl rfl (o_append_own (a := _) 2 underlying112 type75 rfl rfl rfl rfl rfl rfl (fun _ => rfl) (fun _ => rfl) hg3 (app_len hg3 rfl)) ?_;rintro _ _ ⟨a', m', cap', rfl, rfl⟩;refine ⟨trivial, ?_⟩;refine gde2_u rfl rfl rfl (o_store_boxf 0 (by decide) sizeOf112 rfl rfl rfl rfl rfl rfl rfl rfl (Nat.le_of_ble_eq_true rfl)) ?_;rintro _ _ rfl;refine ⟨trivial, ?_⟩;refine gde2_nil ?_;exact retKn (ret_none (ms' := [_, _, _]) (drop := []) rfl (List.Perm.refl _)) ⟨rfl, a', m', cap', by rw [e1, e2]; rfl⟩
 ·have hg : (mget seen k).getD false = true := by simpa using hc1
  have e1 : askS seen k = seen := if_pos hg
  have e2 : askT seen k todo s = todo := if_pos hg
  refine gSp ?_;exact retKn (ret_none (ms' := [_, _, _]) (drop := []) rfl (List.Perm.refl _)) ⟨rfl, a, m, cap, by rw [e1, e2]⟩
theorem fi_w117_1 : FieldIs Tryz.prog 117 1 1 1 false := ⟨⟨_, _, runUnderlying117, rfl, rfl, sizeOf4, by decide, isAgg4⟩⟩
theorem pl_w114 : ∀ fs, (∀ w, (underlying 114).run Tryz.prog w = .ok (.struct fs) w) -> placesOf Tryz.prog fs [(0, 2), (2, 1), (3, 1)] := by
 intro fs h w
 have := (h w).symm.trans (runUnderlying114 w)
 simp only [Result.ok.injEq, TypeDesc.struct.injEq, and_true] at this;subst this
 simp [sizeOf24, sizeOf111, sizeOf112, Sem.run]
theorem lastS (l : List BelowSequent) (x : BelowSequent) : idx (l ++ [x]) (((l ++ [x]).length : Int) - 1) = some x := by
 have e : ((l ++ [x]).length : Int) - 1 = (l.length : Int) := by simp
 rw [e];unfold idx;rw [if_pos (by omega)]
 simp
theorem initS (l : List BelowSequent) (x : BelowSequent) : sli (l ++ [x]) 0 (((l ++ [x]).length : Int) - 1) = some l := by
 have e : ((l ++ [x]).length : Int) - 1 = (l.length : Int) := by simp
 rw [e];unfold sli;rw [if_pos ⟨Int.le_refl _, by omega, by simp; omega⟩]
 simp
theorem w_holds {t : ApiType} {q : BelowSequent} {b : Bool} (hm : m_holds t q = some b) : Fn0 Tryz.prog 57 [ApiType.d t, BelowSequent.d q] (.bool b) := by
 obtain ⟨U, hqU, hUl, hkey, hinj, hlead, hb⟩ := holds_ok hm;refine fn_intro func57 rfl ntmps57 rfl fun H0 fr w0 => ?_;refine g_seq (gRg ?_);refine go_p rfl rfl rfl (o_box rfl rfl) ?_;refine go_p rfl rfl rfl (o_box rfl rfl) ?_;refine go_p rfl rfl rfl (oAs rfl) ?_;refine gNl (g_seq (gRg ?_));refine go_p rfl rfl rfl (o_load_agg isAgg24 sizeOf24 rfl rfl) ?_;refine go_op rfl rfl rfl (o_makeMap (fk := kStr) (fv := D.bool)) ?_;rintro _ _ ⟨bm, rfl, rfl⟩;refine go_p rfl rfl rfl (o_build (zs := [.list 4 ApiTNode.d [], .v (.int .i64 0), .v (.map none), .v (.slice none 0 0)]) runUnderlying114 zeroValue114 (pl_w114 _ runUnderlying114) rfl rfl rfl rfl) ?_;refine go_op rfl rfl rfl (o_box_own rfl rfl rfl) ?_;rintro _ _ ⟨bs, rfl, rfl⟩;refine go_conv (refines_newarr (T := 75) (sz := 2) (f := BelowSequent.d)) ?_;refine go_ms (ms' := [_, box bs 114 [.list 4 ApiTNode.d t.l, .i64 t.root, .v (.map (some bm)), .v (.slice none 0 0)], _]) rfl ?_;refine go_conv (refines_boxf 1 2 rfl rfl) ?_;refine go_p rfl rfl rfl (oAs rfl) ?_;refine gNl ?_;refine g_conv (refines_perm (ms' := [boxf bs 114 2 [.list 4 ApiTNode.d t.l, .i64 t.root, .v (.map (some bm)), .v (.slice none 0 0)], mp bm kStr D.bool [], arr none 0 0 75 2 BelowSequent.d []]) (List.perm_append_comm (l₁ := [arr none 0 0 75 2 BelowSequent.d []]) (l₂ := [_, _]))) ?_;obtain ⟨k0, hk0⟩ := hkey q hqU
 have hI0 : InvS t q U [] [] [] [] := ⟨List.nodup_nil, by simp, by simp, by simp [mget], by simp, Nat.le_refl _, by simp⟩
 obtain ⟨hI1, hq1, _, _⟩ := hI0.ask hinj hqU .refl hk0;refine g_seq (gRg ?_);refine go_p rfl rfl rfl (oMv rfl) ?_;refine go_p rfl rfl rfl (o_load_agg isAgg75 sizeOf75 rfl rfl) ?_;refine go_op rfl rfl rfl (o_call_own [0, 1, 2] call95 rfl rfl (getL_c rfl (getL_c rfl (getL_c rfl getL_n))) (w_ask (s := q) hk0 (Nat.zero_le _)) (by rintro _ _ ⟨rfl, _, _, _, rfl⟩; rfl)) ?_;rintro _ _ ⟨_, ⟨rfl, a, m, cap, rfl⟩, rfl⟩;refine go_ms (ms' := [boxf bs 114 2 [_, _, _, _], _, _]) rfl ?_;refine gNl (g_seq (g_block ?_));refine g_loop_k [(5, .v (.pointer (some ⟨bs, 0, none⟩)))] (fun (s : (List (List UInt8 × Bool) × List BelowSequent × List BelowSequent × Option Addr × Nat × Nat)) => match s with | (seen, todo, S, a, m, cap) => InvS t q U [] seen todo S /\ q ∈ S) (fun _ => [])
  (fun s => match s with | (seen, todo, S, a, m, cap) => [boxf bs 114 2 [.list 4 ApiTNode.d t.l, .i64 t.root, .v (.map (some bm)), .v (.slice a m cap)], mp bm kStr D.bool seen, arr a m cap 75 2 BelowSequent.d todo]) (fun s => 2 * (U.length - s.2.2.1.length) + s.2.1.length) (askS [] k0, askT [] k0 [] q, _, a, m, cap) ⟨hI1, hq1⟩ ⟨rfl, trivial⟩ trivial rfl ?_
 rintro ⟨seen, todo, S, a, m, cap⟩ ⟨hI, hqS⟩;refine g_norm (L' := [(5, .v (.pointer (some ⟨bs, 0, none⟩)))]) (ms' := [boxf bs 114 2 [.list 4 ApiTNode.d t.l, .i64 t.root, .v (.map (some bm)), .v (.slice a m cap)], mp bm kStr D.bool seen, arr a m cap 75 2 BelowSequent.d todo]) rfl rfl ?_;refine g_seq (g_seq (gRg ?_));refine go_p rfl rfl rfl (oMv rfl) ?_;refine go_p rfl rfl rfl (o_nilCheck_box rfl) ?_;refine go_p rfl rfl rfl (oFb fi_w114_2 rfl) ?_;refine go_p rfl rfl rfl (o_load_boxf 0 isAgg112 rfl rfl rfl rfl) ?_;refine go_p rfl rfl rfl (o_len_arr 2 runUnderlying112 rfl rfl) ?_;refine go_p rfl rfl rfl (o_cmp rfl rfl rfl) ?_;refine gNl ?_;refine gCd rfl (fun hc1 => ?_) (fun hc1 => ?_)
 rotate_left
 ·have h0 : todo = [] := by
   have := of_decide_eq_false hc1
   exact List.length_eq_zero_iff.1 (by omega)
  subst h0;refine g_exit ?_
  have hbt : b = true := hb.2 (hI.all hqS)
  subst hbt;refine g_seq (gRg ?_);refine go_p rfl rfl rfl (oAs rfl) ?_;refine gNl (g_ret ?_);exact retK (ret_one' rfl (ret_tmp rfl) (perm_drop _)) rfl
 ·refine gSp ?_
  obtain ⟨todo0, x, rfl⟩ : ∃ l x, todo = l ++ [x] := by
   have := of_decide_eq_true hc1
   have hne : todo ≠ [] := by rintro rfl; simp at this
   exact ⟨todo.dropLast, todo.getLast hne, (List.dropLast_concat_getLast hne).symm⟩
  have hxS : x ∈ S := hI.todoE x (by simp)
  have hlt : ((todo0 ++ [x]).length : Int) <= 1000000000000 := by have := hI.len; have := hI.le; omega
  have hg1 : InR (((todo0 ++ [x]).length : Int) - 1) := by constructor <;> omega
  obtain ⟨r, hr, hrU⟩ := hlead x (hI.inU x hxS);refine g_block (g_seq ?_);refine g_draw_f 13 [12] Tryz_mixed (by decide +kernel) (by decide +kernel) rfl (by decide +kernel) ?_;refine gdf_p rfl rfl rfl rfl (oMv rfl) ?_;refine gdf_p rfl rfl rfl rfl (o_nilCheck_box rfl) ?_;refine gdf_p rfl rfl rfl rfl (oFb fi_w114_2 rfl) ?_;refine gdf_p rfl rfl rfl rfl (o_load_boxf 0 isAgg112 rfl rfl rfl rfl) ?_;refine gdf_p rfl rfl rfl rfl (oMv rfl) ?_;refine gdf_p rfl rfl rfl rfl (o_nilCheck_box rfl) ?_;refine gdf_p rfl rfl rfl rfl (oFb fi_w114_2 rfl) ?_;refine gdf_p rfl rfl rfl rfl (o_load_boxf 0 isAgg112 rfl rfl rfl rfl) ?_;refine gdf_p rfl rfl rfl rfl (o_len_arr 2 runUnderlying112 rfl rfl) ?_;refine gdf_p rfl rfl rfl rfl (o_sub rfl rfl (i64_id hg1)) ?_;refine gdf_p rfl rfl rfl rfl (o_indexAddr_arr 2 runUnderlying112 sizeOf75 rfl rfl rfl (lastS todo0 x)) ?_;refine gdf_p rfl rfl rfl rfl (o_load_arr_agg 2 isAgg75 sizeOf75 rfl rfl (idx_some (lastS todo0 x)).2 rfl rfl) ?_;refine gdf_fresh (R := fun d A => ∃ b, d = .v (.pointer (some ⟨b, 0, none⟩)) /\ A = box b 75 [.list 1 D.i64 [], .list 1 D.i64 []]) rfl rfl rfl (OpT.mono (o_alloc_own zeroValue75 (cs := [.list 1 D.i64 [], .list 1 D.i64 []]) rfl) (by rintro d ms' ⟨b, rfl, rfl⟩; exact ⟨_, ⟨b, rfl, rfl⟩, rfl⟩)) ?_;refine gdf_nil ?_;rintro _ _ ⟨bn, rfl, rfl⟩;refine go_u rfl rfl (oSb 0 sizeOf75 rfl rfl rfl rfl rfl rfl rfl rfl (Nat.le_of_ble_eq_true rfl)) ?_;rintro _ _ rfl;refine go_ms (ms' := [box bn 75 [.list 1 D.i64 x.left, .list 1 D.i64 x.right], _, _, _]) rfl ?_;refine gNl (g_seq ?_);refine g_draw_c [11, 14] [0, 12, 13] [] Tryz_mixed (by decide +kernel) (by decide +kernel) rfl ?_;refine gde_p rfl rfl rfl rfl rfl rfl (oMv rfl) ?_;refine gde_p rfl rfl rfl rfl rfl rfl (oMv rfl) ?_;refine gde_p rfl rfl rfl rfl rfl rfl (o_nilCheck_box rfl) ?_;refine gde_p rfl rfl rfl rfl rfl rfl (oFb fi_w114_2 rfl) ?_;refine gde_p rfl rfl rfl rfl rfl rfl (o_load_boxf 1 isAgg112 rfl rfl rfl rfl) ?_;refine gde_p rfl rfl rfl rfl rfl rfl (oMv rfl) ?_;refine gde_p rfl rfl rfl rfl rfl rfl (o_nilCheck_box rfl) ?_;refine gde_p rfl rfl rfl rfl rfl rfl (oFb fi_w114_2 rfl) ?_;refine gde_p rfl rfl rfl rfl rfl rfl (o_load_boxf 1 isAgg112 rfl rfl rfl rfl) ?_;refine gde_p rfl rfl rfl rfl rfl rfl (o_len_arr 3 runUnderlying112 rfl rfl) ?_;refine gde_p rfl rfl rfl rfl rfl rfl (o_sub rfl rfl (i64_id hg1)) ?_;refine gde_e rfl ?_;refine gde_p rfl rfl rfl rfl rfl rfl (o_nilCheck_box rfl) ?_;refine gde_p rfl rfl rfl rfl rfl rfl (oFb fi_w114_2 rfl) ?_;refine gde_e rfl ?_;refine gde_nil ?_;refine gde2_t rfl rfl rfl rfl (o_slice_trunc 3 runUnderlying112 sizeOf75 rfl rfl rfl (initS todo0 x)) ?_;rintro _ _ ⟨a2, m2, cap2, rfl, rfl⟩;refine ⟨trivial, ?_⟩;refine gde2_u rfl rfl rfl (o_store_boxf 1 (by decide) sizeOf112 rfl rfl rfl rfl rfl rfl rfl rfl (Nat.le_of_ble_eq_true rfl)) ?_;rintro _ _ rfl;refine ⟨trivial, ?_⟩
  refine gde2_nil ?_;refine g_seq (gRg ?_);refine go_ms (ms' := [box bn 75 [.list 1 D.i64 x.left, .list 1 D.i64 x.right], boxf bs 114 2 [.list 4 ApiTNode.d t.l, .i64 t.root, .v (.map (some bm)), .v (.slice a2 m2 cap2)], mp bm kStr D.bool seen, arr a2 m2 cap2 75 2 BelowSequent.d todo0]) rfl ?_;refine go_p rfl rfl rfl (oMv rfl) ?_;refine go_p rfl rfl rfl (oLg 0 isAgg75 sizeOf75 rfl rfl rfl rfl (Nat.le_of_ble_eq_true rfl)) ?_;refine go_op rfl rfl rfl (.view (peekF (i := 49) (d := ApiType.d t) 1 rfl rfl rfl rfl) (o_call (ms₁ := []) call96 rfl (List.Perm.refl _) (w_below_search_leads hr))) ?_;rintro _ _ ⟨_, ⟨p, hp, rfl, rfl⟩, rfl⟩;refine go_op rfl rfl rfl (o_alloc_own zeroValue117 (cs := [.list 2 BelowSequent.d [], .bool false]) rfl) ?_;rintro _ _ ⟨ba, rfl, rfl⟩;refine go_u rfl rfl (oSb 0 sizeOf117 rfl rfl rfl rfl rfl rfl rfl rfl (Nat.le_of_ble_eq_true rfl)) ?_;rintro _ _ rfl;refine go_ms (ms' := [box ba 117 [.list 2 BelowSequent.d p, .bool r.fails], box bn 75 [.list 1 D.i64 x.left, .list 1 D.i64 x.right], boxf bs 114 2 [.list 4 ApiTNode.d t.l, .i64 t.root, .v (.map (some bm)), .v (.slice a2 m2 cap2)], mp bm kStr D.bool seen, arr a2 m2 cap2 75 2 BelowSequent.d todo0]) rfl ?_;refine gNl (g_seq (g_seq (gRg ?_)));refine go_p rfl rfl rfl (oFb fi_w117_1 rfl) ?_;refine go_p rfl rfl rfl (oLb 0 isAgg4 rfl rfl rfl rfl) ?_;refine gNl ?_
  have hpU : ∀ s' ∈ p, s' ∈ U := fun s' hs' => hrU s' (hp.mem_iff.1 hs')
  have hpR : ∀ s' ∈ p, Reach t q s' := fun s' hs' => .step (hI.reach x hxS) hr (hp.mem_iff.1 hs')
  refine gCd rfl (fun hc2 => ?_) (fun hc2 => ?_)
  ·have hbf : b = false := by
    cases b with
    | false => rfl
    | true => have := hb.1 rfl x (hI.reach x hxS) r hr; rw [this] at hc2; cases hc2
   subst hbf;refine g_seq (gRg ?_);refine go_p rfl rfl rfl (oAs rfl) ?_;refine gNl (g_ret ?_);exact retK (ret_one' rfl (ret_tmp rfl) (perm_drop _)) rfl
  ·refine gSp ?_
   refine g_seq (gRg ?_);refine go_p rfl rfl rfl (oFb fi_w117_0 rfl) ?_;refine go_p rfl rfl rfl (oLb 0 isAgg112 rfl rfl rfl rfl) ?_;refine go_p rfl rfl rfl (o_len runUnderlying112 rfl) ?_;refine go_p rfl rfl rfl (oMv rfl) ?_;refine gNl ?_;refine g_len_tmp (i := 55) rfl fun hpl => ?_;refine g_block ?_;refine g_loop_k [(5, .v (.pointer (some ⟨bs, 0, none⟩))), (55, .list 2 BelowSequent.d p), (56, .i64 p.length)] (fun (s : Nat × (List (List UInt8 × Bool) × List BelowSequent × List BelowSequent × Option Addr × Nat × Nat)) => match s with | (i, seen', todo', S', a', m', cap') => InvS t q U [x] seen' todo' S' /\ (∀ y ∈ S, y ∈ S') /\ (∀ y ∈ p.take i, y ∈ S') /\ i <= p.length /\ 2 * (U.length - S'.length) + todo'.length <= 2 * (U.length - S.length) + todo0.length) (fun s => [(57, .i64 (s.1 : Int))])
    (fun s => match s with | (i, seen', todo', S', a', m', cap') => [box ba 117 [.list 2 BelowSequent.d p, .bool r.fails], box bn 75 [.list 1 D.i64 x.left, .list 1 D.i64 x.right], boxf bs 114 2 [.list 4 ApiTNode.d t.l, .i64 t.root, .v (.map (some bm)), .v (.slice a' m' cap')], mp bm kStr D.bool seen', arr a' m' cap' 75 2 BelowSequent.d todo']) (fun s => p.length - s.1) (0, seen, todo0, S, a2, m2, cap2) ⟨hI.pop, fun y hy => hy, by simp, Nat.zero_le _, Nat.le_refl _⟩ ⟨rfl, rfl, rfl, trivial⟩ ⟨rfl, trivial⟩ rfl ?_
   rintro ⟨i, seen', todo', S', a', m', cap'⟩ ⟨hJ, hS, htk, hil, hms⟩;refine g_norm (L' := [(57, .i64 (i : Int)), (5, .v (.pointer (some ⟨bs, 0, none⟩))), (55, .list 2 BelowSequent.d p), (56, .i64 p.length)]) (ms' := [box ba 117 [.list 2 BelowSequent.d p, .bool r.fails], box bn 75 [.list 1 D.i64 x.left, .list 1 D.i64 x.right], boxf bs 114 2 [.list 4 ApiTNode.d t.l, .i64 t.root, .v (.map (some bm)), .v (.slice a' m' cap')], mp bm kStr D.bool seen', arr a' m' cap' 75 2 BelowSequent.d todo']) rfl rfl ?_;refine g_seq (gRg ?_);refine go_p rfl rfl rfl (o_cmp rfl rfl rfl) ?_;refine gNl (g_seq ?_);refine gCd rfl (fun hc3 => ?_) (fun hc3 => ?_)
   rotate_left
   ·have hie : i = p.length := by have := of_decide_eq_false hc3; omega
    subst hie;rw [List.take_length] at htk;refine g_exit ?_
    have hK := hJ.close hr hc2 (fun s' hs' => htk s' (hp.mem_iff.2 hs'))
    exact ⟨(seen', todo', S', a', m', cap'), ⟨hK, hS q hqS⟩, by simp only [List.length_append, List.length_cons, List.length_nil] at hms ⊢; omega, trivial, ⟨rfl, trivial⟩, [_, _], rfl⟩
   ·have hlt2 : i < p.length := by have := of_decide_eq_true hc3; omega
    obtain ⟨y, hy⟩ : ∃ y, p[i]? = some y := ⟨p[i], by simp [hlt2]⟩
    have hym : y ∈ p := List.mem_of_getElem? hy
    have hyi : idx p (i : Int) = some y := by unfold idx; rw [if_pos (by omega), Int.toNat_natCast]; exact hy
    obtain ⟨ky, hky⟩ := hkey y (hpU y hym);obtain ⟨hA, hyS, hmu, hmo⟩ := hJ.ask hinj (hpU y hym) (hpR y hym) hky
    have htl : todo'.length <= 1000000000000 := by have := hJ.len; have := hJ.le; omega
    have hg4 : InR ((i : Int) + 1) := by simp only [maxLen] at hpl; constructor <;> omega
    refine gSp (g_seq (g_block (g_seq (gRg ?_))));refine go_p rfl rfl rfl (oIm runUnderlying112 sizeOf75 rfl rfl hyi) ?_;refine go_p rfl rfl rfl (o_load_agg isAgg75 sizeOf75 rfl rfl) ?_;refine go_op rfl rfl rfl (o_alloc_own zeroValue75 (cs := [.list 1 D.i64 [], .list 1 D.i64 []]) rfl) ?_;rintro _ _ ⟨b9, rfl, rfl⟩;refine go_u rfl rfl (oSb 0 sizeOf75 rfl rfl rfl rfl rfl rfl rfl rfl (Nat.le_of_ble_eq_true rfl)) ?_;rintro _ _ rfl;refine go_ms (ms' := [box b9 75 [.list 1 D.i64 y.left, .list 1 D.i64 y.right], box ba 117 [_, _], box bn 75 [_, _], boxf bs 114 2 [_, _, _, _], _, _]) rfl ?_;refine gNl (gRg ?_);refine go_p rfl rfl rfl (oMv rfl) ?_;refine go_p rfl rfl rfl (oLg 0 isAgg75 sizeOf75 rfl rfl rfl rfl (Nat.le_of_ble_eq_true rfl)) ?_;refine go_op rfl rfl rfl (o_call_own [3, 4, 5] call95 rfl rfl (getL_c rfl (getL_c rfl (getL_c rfl getL_n))) (w_ask (s := y) hky htl) (by rintro _ _ ⟨rfl, _, _, _, rfl⟩; rfl)) ?_;rintro _ _ ⟨_, ⟨rfl, a4, m4, cap4, rfl⟩, rfl⟩;refine go_ms (ms' := [box b9 75 [_, _], box ba 117 [_, _], box bn 75 [_, _], boxf bs 114 2 [_, _, _, _], _, _]) rfl ?_;refine gNl (gRg ?_);refine go_p rfl rfl rfl (o_add rfl rfl (i64_id hg4)) ?_;refine go_p rfl rfl rfl (oMv rfl) ?_;refine gNl ?_
    have htk' : p.take (i + 1) = p.take i ++ [y] := by rw [List.take_add_one, hy]; rfl
    refine ⟨(i + 1, askS seen' ky, askT seen' ky todo' y, _, a4, m4, cap4), ⟨hA, fun z hz => hmo z (hS z hz), fun z hz => ?_, hlt2, Nat.le_trans hmu hms⟩, by simp only; omega, ⟨rfl, trivial⟩, ⟨rfl, rfl, rfl, trivial⟩, [_], rfl⟩;rw [htk'] at hz
    rcases List.mem_append.1 hz with hz | hz
    ·exact hmo z (htk z hz)
    ·simp at hz; subst hz; exact hyS
end Go.Proofs.YtkfnogdccpcmhaaGreatDoor
namespace Go.Proofs.YtkfnogdccpcmhaaGreatDoor
open Go.V Tryz
theorem pl_24 : ∀ fs, (∀ w, (underlying 24).run Tryz.prog w = .ok (.struct fs) w) -> placesOf Tryz.prog fs [(0, 1), (1, 1)] := by
 intro fs h w
 have := (h w).symm.trans (runUnderlying24 w)
 simp only [Result.ok.injEq, TypeDesc.struct.injEq, and_true] at this;subst this
 simp [sizeOf22, sizeOf3, Sem.run]
noncomputable def m_lg_Few_l1 (t1 : ApiType) (most1 : Int) : Nat -> (Int × (List ApiTNode) × Int) -> Option ((List ApiTNode) × Int)
 | 0, _ => none
 | n + 1, (i1, l2, z2) =>
  bif ((decide (i1 < (t1.l.length : Int))) && ((decide (i1 < most1)) || ((decide (2000 < (t1.l.length : Int))) && (decide (i1 <= 2000))))) then
   (idx t1.l i1).bind fun x1 =>
   (sli x1.l 0 (if 40 < (x1.l.length : Int) then 40 else (x1.l.length : Int))).bind fun l3 =>
   grd ((0 + l3.length) * 24 <= 140737488355328) <|
   grd ((l2.length + ([(⟨x1.kind, x1.a, x1.b, ([] ++ l3)⟩ : ApiTNode)] : List _).length) * 48 <= 140737488355328) <|
   grd (InR (i1 + 1)) <|
   m_lg_Few_l1 t1 most1 n ((i1 + 1), (l2 ++ [(⟨x1.kind, x1.a, x1.b, ([] ++ l3)⟩ : ApiTNode)]), z2)
  else
   some (l2, z2)
noncomputable def m_lg_Few (t1 : ApiType) (most1 : Int) : Option ApiType :=
 (m_lg_Few_l1 t1 most1 FU (0, ([] : List ApiTNode), t1.root) : Option ((List ApiTNode) × Int)).bind fun (l1, z1) =>
 some (⟨l1, z1⟩ : ApiType)
theorem w_lg_Few {t1 : ApiType} {most1 : Int} {r_1 : ApiType} (hm : m_lg_Few t1 most1 = some r_1) : Fn0 Tryz.prog 37 [ApiType.d t1, .i64 most1] (ApiType.d r_1) := by
 unfold m_lg_Few at hm;refine fn_intro func37 rfl ntmps37 rfl fun H0 fr w0 => ?_;refine g_seq (gRg ?_);refine go_p rfl rfl rfl (o_box rfl rfl) ?_;refine go_op rfl rfl rfl (o_alloc_own zeroValue24 (cs := [.list 4 ApiTNode.d [], .i64 0]) rfl) ?_;rintro _ _ ⟨b1, rfl, rfl⟩;refine gNl (g_seq (gRg ?_));refine go_p rfl rfl rfl (oFa fi_24_1 rfl rfl rfl) ?_;refine go_p rfl rfl rfl (o_load isAgg3 rfl rfl) ?_;refine go_p rfl rfl rfl (o_build (zs := [.v (.slice none 0 0), .v (.int .i64 0)]) runUnderlying24 zeroValue24 (pl_24 _ runUnderlying24) rfl rfl rfl rfl) ?_;refine go_op rfl rfl rfl (o_alloc_own zeroValue24 (cs := [.list 4 ApiTNode.d [], .i64 0]) rfl) ?_;rintro _ _ ⟨b2, rfl, rfl⟩;refine go_u rfl rfl (oSb 0 sizeOf24 rfl rfl rfl rfl rfl rfl rfl rfl (Nat.le_of_ble_eq_true rfl)) ?_;rintro _ _ rfl;refine go_conv (refines_newrow (T := 44) (sz := 4) (f := ApiTNode.d)) ?_;refine go_ms (ms' := [_, box b2 24 [_, _], box b1 24 [_, _]]) rfl ?_;refine gNl (g_seq (g_seq (gRg ?_)));refine go_p rfl rfl rfl (oAs rfl) ?_;refine gNl ?_;obtain ⟨o_1, hj1, hm1⟩ := bind_some hm;refine g_cut_m [(4, _), (5, _)] [(2, _)] (fun (st : ((List ApiTNode) × Int)) (hid : (Option Addr × Nat)) => match st, hid with | (l1, z1), (a_r1, cap_r1) => []) (fun F (st : ((List ApiTNode) × Int)) (hid : (Option Addr × Nat)) => match st, hid with | (l1, z1), (a_r1, cap_r1) => [row a_r1 cap_r1 44 4 ApiTNode.d l1, box b2 24 [.v (.slice a_r1 l1.length cap_r1), .i64 z1], (nthF F 0)]) (fun st => st = o_1) ⟨rfl, rfl, trivial⟩ ⟨rfl, trivial⟩ ?_ ?_
 ·skip
  refine g_block ?_;refine g_loop_m [(1, _), (2, _), (4, _), (5, _)] [(2, _)] (fun (st : (Int × (List ApiTNode) × Int)) (hid : (Option Addr × Nat)) => match st, hid with | (i1, l2, z2), (a_r1, cap_r1) => [(6, .i64 i1)]) (fun F (st : (Int × (List ApiTNode) × Int)) (hid : (Option Addr × Nat)) => match st, hid with | (i1, l2, z2), (a_r1, cap_r1) => [row a_r1 cap_r1 44 4 ApiTNode.d l2, box b2 24 [.v (.slice a_r1 l2.length cap_r1), .i64 z2], (nthF F 0)]) (_, _) hj1 (fun _ => rfl) ⟨rfl, rfl, rfl, rfl, trivial⟩ ⟨rfl, trivial⟩ ⟨rfl, trivial⟩ rfl ?_;rintro n ⟨i1, l2, z2⟩ ⟨a_r1, cap_r1⟩ hj1;rw [m_lg_Few_l1] at hj1;refine g_norm (L' := [(6, .i64 i1), (1, _), (2, _), (4, _), (5, _)]) (ms' := [row a_r1 cap_r1 44 4 ApiTNode.d l2, box b2 24 [.v (.slice a_r1 l2.length cap_r1), .i64 z2], _]) rfl rfl ?_;refine g_seq (g_seq (gRg ?_));refine go_p rfl rfl rfl (oMv rfl) ?_;refine go_p rfl rfl rfl (oFa fi_24_0 rfl rfl rfl) ?_;refine go_p rfl rfl rfl (o_load isAgg22 rfl rfl) ?_;refine go_p rfl rfl rfl (o_len runUnderlying22 rfl) ?_;refine go_p rfl rfl rfl (o_cmp rfl rfl rfl) ?_;refine go_p rfl rfl rfl (oMv rfl) ?_
  apply go_and [(1, _), (2, _), (4, _), (5, _), (6, _)] 14 30 (t := 16) ⟨rfl, rfl, rfl, rfl, rfl, trivial⟩ rfl
  ·intro hg_1 hk1
   refine gWp rfl rfl rfl hg_1 rfl rfl (oMv rfl) ?_;refine gWp rfl rfl rfl hg_1 rfl rfl (oMv rfl) ?_;refine gWp rfl rfl rfl hg_1 rfl rfl (o_cmp rfl rfl rfl) ?_;refine gWp rfl rfl rfl hg_1 rfl rfl (oMv rfl) ?_
   apply go_or [(1, _), (2, _), (4, _), (5, _), (6, _), (16, _)] 9 29 (t := 20) ⟨rfl, rfl, rfl, rfl, rfl, rfl, trivial⟩ rfl
   ·intro hg_2 hk2
    refine gWp rfl rfl rfl hg_2 rfl rfl (oFa fi_24_0 rfl rfl rfl) ?_;refine gWp rfl rfl rfl hg_2 rfl rfl (o_load isAgg22 rfl rfl) ?_;refine gWp rfl rfl rfl hg_2 rfl rfl (o_len runUnderlying22 rfl) ?_;refine gWp rfl rfl rfl hg_2 rfl rfl (o_cmp rfl rfl rfl) ?_;refine gWp rfl rfl rfl hg_2 rfl rfl (oMv rfl) ?_
    apply go_and [(1, _), (2, _), (4, _), (5, _), (6, _), (16, _), (20, _)] 3 28 (t := 25) ⟨rfl, rfl, rfl, rfl, rfl, rfl, rfl, trivial⟩ rfl
    ·intro hg_3 hk3
     refine gWp rfl rfl rfl hg_3 rfl rfl (oMv rfl) ?_;refine gWp rfl rfl rfl hg_3 rfl rfl (o_cmp rfl rfl rfl) ?_;refine gWp rfl rfl rfl hg_2 rfl rfl (o_pickT rfl hg_3 rfl) ?_;exact gMt hk3 (rfl) ⟨rfl, rfl, rfl, rfl, rfl, rfl, rfl, trivial⟩
    ·intro hg_3 hk3
     refine gKp rfl rfl rfl hg_3 rfl rfl ?_;refine gKp rfl rfl rfl hg_3 rfl rfl ?_;refine gWp rfl rfl rfl hg_2 rfl rfl (o_pickF rfl hg_3 rfl) ?_;exact gMt hk3 (rfl) ⟨rfl, rfl, rfl, rfl, rfl, rfl, rfl, trivial⟩
    refine gWp rfl rfl rfl hg_1 rfl rfl (o_pickF rfl hg_2 rfl) ?_;exact gMt hk2 (rfl) ⟨rfl, rfl, rfl, rfl, rfl, rfl, trivial⟩
   ·intro hg_2 hk2
    refine gKp rfl rfl rfl hg_2 rfl rfl ?_;refine gKp rfl rfl rfl hg_2 rfl rfl ?_;refine gKp rfl rfl rfl hg_2 rfl rfl ?_;refine gKp rfl rfl rfl hg_2 rfl rfl ?_;refine gKp rfl rfl rfl hg_2 rfl rfl ?_;refine gKu rfl rfl rfl rfl rfl ?_;refine gKu rfl rfl rfl rfl rfl ?_;refine gKp rfl rfl rfl hg_2 rfl rfl ?_;refine gWp rfl rfl rfl hg_1 rfl rfl (o_pickT rfl hg_2 rfl) ?_;exact gMt hk2 (rfl) ⟨rfl, rfl, rfl, rfl, rfl, rfl, trivial⟩
   refine go_p rfl rfl rfl (o_pickT rfl hg_1 rfl) ?_;exact gMt hk1 (rfl) ⟨rfl, rfl, rfl, rfl, rfl, trivial⟩
  ·intro hg_1 hk1
   refine gKp rfl rfl rfl hg_1 rfl rfl ?_;refine gKp rfl rfl rfl hg_1 rfl rfl ?_;refine gKp rfl rfl rfl hg_1 rfl rfl ?_;refine gKp rfl rfl rfl hg_1 rfl rfl ?_;refine gKu rfl rfl rfl rfl rfl ?_;refine gKu rfl rfl rfl rfl rfl ?_;refine gKu rfl rfl rfl rfl rfl ?_;refine gKu rfl rfl rfl rfl rfl ?_;refine gKu rfl rfl rfl rfl rfl ?_;refine gKu rfl rfl rfl rfl rfl ?_;refine gKu rfl rfl rfl rfl rfl ?_;refine gKu rfl rfl rfl rfl rfl ?_;refine gKp rfl rfl rfl hg_1 rfl rfl ?_;refine go_p rfl rfl rfl (o_pickF rfl hg_1 rfl) ?_;exact gMt hk1 (rfl) ⟨rfl, rfl, rfl, rfl, rfl, trivial⟩
  refine gNl ?_;refine gCd rfl (fun hc1 => ?_) (fun hc1 => ?_)
  ·replace hj1 := cond_t hc1 hj1
   refine gSp (g_seq (g_block (g_seq (gRg ?_))));refine go_p rfl rfl rfl (oFa fi_24_0 rfl rfl rfl) ?_;refine go_p rfl rfl rfl (o_load isAgg22 rfl rfl) ?_;refine go_p rfl rfl rfl (oMv rfl) ?_;obtain ⟨x1, hx1, hj1⟩ := bind_some hj1;refine go_p rfl rfl rfl (oIm runUnderlying22 sizeOf44 rfl rfl hx1) ?_;refine go_p rfl rfl rfl (o_load_agg isAgg44 sizeOf44 rfl rfl) ?_;refine go_op rfl rfl rfl (o_alloc_own zeroValue44 (cs := [.i64 0, .i64 0, .i64 0, .list 2 ApiTField.d []]) rfl) ?_;rintro _ _ ⟨b3, rfl, rfl⟩;refine go_u rfl rfl (oSb 0 sizeOf44 rfl rfl rfl rfl rfl rfl rfl rfl (Nat.le_of_ble_eq_true rfl)) ?_;rintro _ _ rfl;refine go_ms (ms' := [box b3 44 [_, _, _, _], _, box b2 24 [_, _], box b1 24 [_, _]]) rfl ?_;refine gNl (g_seq (gRg ?_));refine go_op rfl rfl rfl (o_buildSlice_row (xs := []) (f := ApiTField.d) (l := []) runUnderlying42 sizeOf98 zeroValue98 rfl rfl rfl (fun _ => ⟨rfl, rfl, rfl⟩) rfl (by simp [maxLen])) ?_;rintro _ _ ⟨a_r2, rfl, rfl⟩;refine go_p rfl rfl rfl (oFb fi_44_3 rfl) ?_;refine go_p rfl rfl rfl (oLb 1 isAgg42 rfl rfl rfl rfl) ?_;refine go_p rfl rfl rfl (oFb fi_44_3 rfl) ?_;refine go_p rfl rfl rfl (oLb 1 isAgg42 rfl rfl rfl rfl) ?_;refine go_p rfl rfl rfl (o_len runUnderlying42 rfl) ?_;refine go_p rfl rfl rfl (o_min rfl rfl) ?_;obtain ⟨l3, hx2, hj1⟩ := bind_some hj1;refine go_p rfl rfl rfl (o_slice_m runUnderlying42 sizeOf98 rfl rfl ⟨_, rfl⟩ hx2) ?_;obtain ⟨hg3, hj1⟩ := grd_some hj1;refine go_op rfl rfl rfl (o_append (a := _) 0 underlying42 type98 rfl rfl rfl rfl rfl rfl rfl (fun _ => rfl) (fun _ => rfl) hg3 (app_len hg3 rfl)) ?_;rintro _ _ ⟨a_r2, cap_r2, rfl, rfl⟩;refine go_ms (ms' := [_, box b3 44 [_, _, _, _], _, box b2 24 [_, _], box b1 24 [_, _]]) rfl ?_;refine go_p rfl rfl rfl (oFb fi_44_3 rfl) ?_;refine go_u rfl rfl (oSb 1 sizeOf42 rfl rfl rfl rfl rfl rfl rfl rfl (Nat.le_of_ble_eq_true rfl)) ?_;rintro _ _ rfl;refine go_ms (ms' := [_, box b3 44 [_, _, _, _], _, box b2 24 [_, _], box b1 24 [_, _]]) rfl ?_;refine gNl (gRg ?_);refine go_p rfl rfl rfl (oFb fi_24_0 rfl) ?_;refine go_p rfl rfl rfl (oLb 3 isAgg22 rfl rfl rfl rfl) ?_;refine go_p rfl rfl rfl (oLg 1 isAgg44 sizeOf44 rfl rfl rfl rfl (Nat.le_of_ble_eq_true rfl)) ?_;refine go_conv (peekAggE (i := 50) (q := 3) 0 rfl rfl rfl rfl rfl).refines ?_;refine go_p rfl rfl rfl (o_buildSlice (xs := [_]) (f := ApiTNode.d) (l := [(⟨x1.kind, x1.a, x1.b, ([] ++ l3)⟩ : ApiTNode)]) runUnderlying22 sizeOf44 zeroValue44 rfl rfl rfl (fun _ => ⟨rfl, rfl, rfl⟩) rfl) ?_;obtain ⟨hg4, hj1⟩ := grd_some hj1;refine go_op rfl rfl rfl (o_append (a := _) 2 underlying22 type44 rfl rfl rfl rfl rfl rfl rfl (fun _ => rfl) (fun _ => rfl) hg4 (app_len hg4 rfl)) ?_;rintro _ _ ⟨a_r1, cap_r1, rfl, rfl⟩
   refine go_ms (ms' := [_, box b3 44 [_, _, _, _], _, box b2 24 [_, _], box b1 24 [_, _]]) rfl ?_;refine go_p rfl rfl rfl (oFb fi_24_0 rfl) ?_;refine go_u rfl rfl (oSb 3 sizeOf22 rfl rfl rfl rfl rfl rfl rfl rfl (Nat.le_of_ble_eq_true rfl)) ?_;rintro _ _ rfl;refine go_ms (ms' := [_, box b3 44 [_, _, _, _], _, box b2 24 [_, _], box b1 24 [_, _]]) rfl ?_;refine gNl (gRg ?_);refine go_p rfl rfl rfl (oMv rfl) ?_;obtain ⟨hg5, hj1⟩ := grd_some hj1;refine go_p rfl rfl rfl (o_add rfl rfl (i64_id hg5)) ?_;refine go_p rfl rfl rfl (oAs rfl) ?_;refine gNl ?_;exact ⟨_, (_, _), hj1, ⟨rfl, trivial⟩, ⟨rfl, rfl, rfl, rfl, trivial⟩, [_, _], rfl⟩
  ·replace hj1 := cond_f hc1 hj1
   refine g_exit ?_;exact ⟨_, (_, _), some_eq hj1, trivial, ⟨rfl, rfl, trivial⟩, [], rfl⟩
 ·rintro ⟨l1, z1⟩ ⟨a_r1, cap_r1⟩ hst
  subst hst;refine k_norm (L' := [(4, _), (5, _)]) (ms' := [row a_r1 cap_r1 44 4 ApiTNode.d l1, box b2 24 [.v (.slice a_r1 l1.length cap_r1), .i64 z1], _]) rfl rfl ?_;refine g_seq (gRg ?_);refine go_p rfl rfl rfl (oLg 1 isAgg24 sizeOf24 rfl rfl rfl rfl (Nat.le_of_ble_eq_true rfl)) ?_;refine go_conv (peekAggE (i := 54) (q := 0) 0 rfl rfl rfl rfl rfl).refines ?_;refine go_u rfl rfl (oSb 2 sizeOf24 rfl rfl rfl rfl rfl rfl rfl rfl (Nat.le_of_ble_eq_true rfl)) ?_;rintro _ _ rfl;refine go_ms (ms' := [_, box b2 24 [_, _], box b1 24 [_, _]]) rfl ?_;refine gNl (g_ret ?_);exact retK (ret_one' rfl (ret_cell 2 rfl rfl rfl isAgg24 sizeOf24 rfl) (perm_drop _)) (congrArg (fun (p : ApiType) => (ApiType.d p : D)) (some_eq hm1))
noncomputable def m_lb_few (t1 : ApiType) : Option ApiType :=
 (m_lg_Few t1 10).bind fun x1 =>
 some (⟨x1.l, x1.root⟩ : ApiType)
theorem w_lb_few {t1 : ApiType} {r_1 : ApiType} (hm : m_lb_few t1 = some r_1) : Fn0 Tryz.prog 14 [ApiType.d t1] (ApiType.d r_1) := by
 unfold m_lb_few at hm;refine fn_intro func14 rfl ntmps14 rfl fun H0 fr w0 => ?_;refine g_seq (gRg ?_);refine go_p rfl rfl rfl (o_box rfl rfl) ?_;refine go_op rfl rfl rfl (o_alloc_own zeroValue24 (cs := [.list 4 ApiTNode.d [], .i64 0]) rfl) ?_;rintro _ _ ⟨b1, rfl, rfl⟩;refine gNl (g_seq (gRg ?_));refine go_p rfl rfl rfl (o_load_agg isAgg24 sizeOf24 rfl rfl) ?_;obtain ⟨x1, hx1, hm⟩ := bind_some hm;refine go_p rfl rfl rfl (o_call0 call37 rfl (w_lg_Few hx1)) ?_;refine go_u rfl rfl (oSb 0 sizeOf24 rfl rfl rfl rfl rfl rfl rfl rfl (Nat.le_of_ble_eq_true rfl)) ?_;rintro _ _ rfl;refine go_ms (ms' := [box b1 24 [_, _]]) rfl ?_;refine gNl (g_ret ?_);exact retK (ret_one' rfl (ret_cell 0 rfl rfl rfl isAgg24 sizeOf24 rfl) (perm_drop _)) (congrArg (fun (p : ApiType) => (ApiType.d p : D)) (some_eq hm))
noncomputable def m_ra_small (c1 : UInt8) : Option Bool :=
 some (((decide (97 <= (c1.toNat : Int))) && (decide ((c1.toNat : Int) <= 122))) || (decide ((c1.toNat : Int) = 95)))
theorem w_ra_small {c1 : UInt8} {r_1 : Bool} (hm : m_ra_small c1 = some r_1) : Fn0 Tryz.prog 87 [.u8 c1] (.bool r_1) := by
 unfold m_ra_small at hm;refine fn_intro func87 rfl ntmps87 rfl fun H0 fr w0 => ?_;refine g_seq (gRg ?_);refine go_p rfl rfl rfl (oAs rfl) ?_;refine gNl (g_seq (gRg ?_));refine go_p rfl rfl rfl (oMv rfl) ?_;refine go_p rfl rfl rfl (o_cmp rfl rfl rfl) ?_;refine go_p rfl rfl rfl (oMv rfl) ?_
 apply go_and [(0, _)] 3 8 (t := 5) ⟨rfl, trivial⟩ rfl
 ·intro hg_1 hk1
  refine gWp rfl rfl rfl hg_1 rfl rfl (oMv rfl) ?_;refine gWp rfl rfl rfl hg_1 rfl rfl (o_cmp rfl rfl rfl) ?_;refine go_p rfl rfl rfl (o_pickT rfl hg_1 rfl) ?_;exact gMt hk1 (rfl) ⟨rfl, trivial⟩
 ·intro hg_1 hk1
  refine gKp rfl rfl rfl hg_1 rfl rfl ?_;refine gKp rfl rfl rfl hg_1 rfl rfl ?_;refine go_p rfl rfl rfl (o_pickF rfl hg_1 rfl) ?_;exact gMt hk1 (rfl) ⟨rfl, trivial⟩
 refine go_p rfl rfl rfl (oMv rfl) ?_
 apply go_or [] 3 12 (t := 9) trivial rfl
 ·intro hg_2 hk2
  refine gWp rfl rfl rfl hg_2 rfl rfl (oMv rfl) ?_;refine gWp rfl rfl rfl hg_2 rfl rfl (o_cmp rfl rfl rfl) ?_;refine go_p rfl rfl rfl (o_pickF rfl hg_2 rfl) ?_;exact gMt hk2 (rfl) trivial
 ·intro hg_2 hk2
  refine gKp rfl rfl rfl hg_2 rfl rfl ?_;refine gKp rfl rfl rfl hg_2 rfl rfl ?_;refine go_p rfl rfl rfl (o_pickT rfl hg_2 rfl) ?_;exact gMt hk2 (rfl) trivial
 refine go_p rfl rfl rfl (oAs rfl) ?_;refine gNl (g_ret ?_);exact retK (ret_one' rfl (ret_tmp rfl) (perm_drop _)) (congrArg (fun (p : Bool) => (.bool p : D)) (some_eq hm))
noncomputable def m_ra_great (c1 : UInt8) : Option Bool :=
 some ((decide (65 <= (c1.toNat : Int))) && (decide ((c1.toNat : Int) <= 90)))
theorem w_ra_great {c1 : UInt8} {r_1 : Bool} (hm : m_ra_great c1 = some r_1) : Fn0 Tryz.prog 118 [.u8 c1] (.bool r_1) := by
 unfold m_ra_great at hm;refine fn_intro func118 rfl ntmps118 rfl fun H0 fr w0 => ?_;refine g_seq (gRg ?_);refine go_p rfl rfl rfl (oAs rfl) ?_;refine gNl (g_seq (gRg ?_));refine go_p rfl rfl rfl (oMv rfl) ?_;refine go_p rfl rfl rfl (o_cmp rfl rfl rfl) ?_;refine go_p rfl rfl rfl (oMv rfl) ?_
 apply go_and [] 3 8 (t := 5) trivial rfl
 ·intro hg_1 hk1
  refine gWp rfl rfl rfl hg_1 rfl rfl (oMv rfl) ?_;refine gWp rfl rfl rfl hg_1 rfl rfl (o_cmp rfl rfl rfl) ?_;refine go_p rfl rfl rfl (o_pickT rfl hg_1 rfl) ?_;exact gMt hk1 (rfl) trivial
 ·intro hg_1 hk1
  refine gKp rfl rfl rfl hg_1 rfl rfl ?_;refine gKp rfl rfl rfl hg_1 rfl rfl ?_;refine go_p rfl rfl rfl (o_pickF rfl hg_1 rfl) ?_;exact gMt hk1 (rfl) trivial
 refine go_p rfl rfl rfl (oAs rfl) ?_;refine gNl (g_ret ?_);exact retK (ret_one' rfl (ret_tmp rfl) (perm_drop _)) (congrArg (fun (p : Bool) => (.bool p : D)) (some_eq hm))
noncomputable def m_ra_Word_l1 (s1 : (List UInt8)) : Nat -> Int -> Option Int
 | 0, _ => none
 | n + 1, n2 =>
  (bif (decide (n2 < (s1.length : Int))) then ((idx s1 n2).bind fun c3 =>
  (m_ra_small c3).bind fun x3 =>
  (bif x3 then (some true) else ((idx s1 n2).bind fun c4 =>
  (m_ra_great c4).bind fun x4 =>
  some x4)).bind fun p4 =>
  (bif p4 then (some true) else ((idx s1 n2).bind fun c5 =>
  (bif (decide (48 <= (c5.toNat : Int))) then ((idx s1 n2).bind fun c6 =>
  some (decide ((c6.toNat : Int) <= 57))) else (some false)).bind fun p6 =>
  some p6)).bind fun p5 =>
  some p5) else (some false)).bind fun p3 =>
  bif p3 then
   grd (InR (n2 + 1)) <|
   m_ra_Word_l1 s1 n (n2 + 1)
  else
   some n2
noncomputable def m_ra_Word (s1 : (List UInt8)) : Option Int :=
 (bif (decide ((s1.length : Int) = 0)) then (some true) else ((idx s1 0).bind fun c1 =>
 (m_ra_small c1).bind fun x1 =>
 (bif (!x1) then ((idx s1 0).bind fun c2 =>
 (m_ra_great c2).bind fun x2 =>
 some (!x2)) else (some false)).bind fun p2 =>
 some p2)).bind fun p1 =>
 bif p1 then
  some 0
 else
  (m_ra_Word_l1 s1 FU 1 : Option Int).bind fun n1 =>
  some n1
theorem w_ra_Word {s1 : (List UInt8)} {r_1 : Int} (hm : m_ra_Word s1 = some r_1) : Fn0 Tryz.prog 86 [.str s1] (.i64 r_1) := by
 unfold m_ra_Word at hm;refine fn_intro func86 rfl ntmps86 rfl fun H0 fr w0 => ?_;refine g_seq (gRg ?_);refine go_p rfl rfl rfl (oAs rfl) ?_;refine gNl (g_seq (g_seq (gRg ?_)));refine go_p rfl rfl rfl (oMv rfl) ?_;refine go_p rfl rfl rfl (o_len_str runUnderlying9 rfl) ?_;refine go_p rfl rfl rfl (o_cmp rfl rfl rfl) ?_;refine go_p rfl rfl rfl (oMv rfl) ?_;obtain ⟨p1, hp_1, hm⟩ := bind_some hm;refine go_two [(0, _)] 11 18 p1 (t := 7) ⟨rfl, trivial⟩ rfl (fun hg_1 hk1 => ?_) (fun hg_1 hk1 => ?_) ?_
 ·replace hp_1 := cond_t hg_1 hp_1
  refine gKp rfl rfl rfl hg_1 rfl rfl ?_;refine gKp rfl rfl rfl hg_1 rfl rfl ?_;refine gKp rfl rfl rfl hg_1 rfl rfl ?_;refine gKp rfl rfl rfl hg_1 rfl rfl ?_;refine gKp rfl rfl rfl hg_1 rfl rfl ?_;refine gKu rfl rfl rfl rfl rfl ?_;refine gKu rfl rfl rfl rfl rfl ?_;refine gKu rfl rfl rfl rfl rfl ?_;refine gKu rfl rfl rfl rfl rfl ?_;refine gKp rfl rfl rfl hg_1 rfl rfl ?_;refine go_p rfl rfl rfl (o_pickT rfl hg_1 rfl) ?_;exact gMt hk1 (congrArg (fun b => some (D.bool b)) (some_eq hp_1)) ⟨rfl, trivial⟩
 ·replace hp_1 := cond_f hg_1 hp_1
  refine gWp rfl rfl rfl hg_1 rfl rfl (oMv rfl) ?_;obtain ⟨c1, hx1, hp_1⟩ := bind_some hp_1;refine gWp rfl rfl rfl hg_1 rfl rfl (o_index_m runUnderlying9 rfl rfl hx1) ?_;obtain ⟨x1, hx2, hp_1⟩ := bind_some hp_1;refine gWp rfl rfl rfl hg_1 rfl rfl (o_call0 call87 rfl (w_ra_small hx2)) ?_;refine gWp rfl rfl rfl hg_1 rfl rfl (o_not rfl) ?_;refine gWp rfl rfl rfl hg_1 rfl rfl (oMv rfl) ?_;obtain ⟨p2, hp_2, hp_1⟩ := bind_some hp_1;refine go_two [(0, _), (7, _)] 5 17 p2 (t := 12) ⟨rfl, rfl, trivial⟩ rfl (fun hg_2 hk2 => ?_) (fun hg_2 hk2 => ?_) ?_
  ·replace hp_2 := cond_t hg_2 hp_2
   refine gWp rfl rfl rfl hg_2 rfl rfl (oMv rfl) ?_;obtain ⟨c2, hx3, hp_2⟩ := bind_some hp_2;refine gWp rfl rfl rfl hg_2 rfl rfl (o_index_m runUnderlying9 rfl rfl hx3) ?_;obtain ⟨x2, hx4, hp_2⟩ := bind_some hp_2;refine gWp rfl rfl rfl hg_2 rfl rfl (o_call0 call118 rfl (w_ra_great hx4)) ?_;refine gWp rfl rfl rfl hg_2 rfl rfl (o_not rfl) ?_;refine gWp rfl rfl rfl hg_1 rfl rfl (o_pickT rfl hg_2 rfl) ?_;exact gMt hk2 (congrArg (fun b => some (D.bool b)) (some_eq hp_2)) ⟨rfl, rfl, trivial⟩
  ·replace hp_2 := cond_f hg_2 hp_2
   refine gKp rfl rfl rfl hg_2 rfl rfl ?_;refine gKp rfl rfl rfl hg_2 rfl rfl ?_;refine gKp rfl rfl rfl hg_2 rfl rfl ?_;refine gKp rfl rfl rfl hg_2 rfl rfl ?_;refine gWp rfl rfl rfl hg_1 rfl rfl (o_pickF rfl hg_2 rfl) ?_;exact gMt hk2 (congrArg (fun b => some (D.bool b)) (some_eq hp_2)) ⟨rfl, rfl, trivial⟩
  refine go_p rfl rfl rfl (o_pickF rfl hg_1 rfl) ?_;exact gMt hk1 (congrArg (fun b => some (D.bool b)) (some_eq hp_1)) ⟨rfl, trivial⟩
 refine gNl ?_;refine gCd rfl (fun hc1 => ?_) (fun hc1 => ?_)
 ·replace hm := cond_t hc1 hm
  refine g_seq (gRg ?_);refine go_p rfl rfl rfl (oAs rfl) ?_;refine gNl (g_ret ?_);exact retK (ret_one' rfl (ret_tmp rfl) (perm_drop _)) (congrArg (fun (p : Int) => (.i64 p : D)) (some_eq hm))
 ·replace hm := cond_f hc1 hm
  refine gSp (g_seq (gRg ?_));refine go_p rfl rfl rfl (oAs rfl) ?_;refine gNl (g_seq ?_);obtain ⟨o_1, hj1, hm1⟩ := bind_some hm;refine g_cut_m [] [] (fun (st : Int) (hid : Unit) => match st, hid with | n1, _ => [(3, .i64 n1)]) (fun F (st : Int) (hid : Unit) => match st, hid with | n1, _ => []) (fun st => st = o_1) trivial trivial ?_ ?_
  ·skip
   refine g_block ?_;refine g_loop_m [(0, _)] [] (fun (st : Int) (hid : Unit) => match st, hid with | n2, _ => [(3, .i64 n2)]) (fun F (st : Int) (hid : Unit) => match st, hid with | n2, _ => []) () hj1 (fun _ => rfl) ⟨rfl, trivial⟩ trivial ⟨rfl, trivial⟩ rfl ?_;rintro n n2 _ hj1;rw [m_ra_Word_l1] at hj1;refine g_norm (L' := [(3, .i64 n2), (0, _)]) (ms' := []) rfl rfl ?_;refine g_seq (g_seq (gRg ?_));refine go_p rfl rfl rfl (oMv rfl) ?_;refine go_p rfl rfl rfl (oMv rfl) ?_;refine go_p rfl rfl rfl (o_len_str runUnderlying9 rfl) ?_;refine go_p rfl rfl rfl (o_cmp rfl rfl rfl) ?_;refine go_p rfl rfl rfl (oMv rfl) ?_;obtain ⟨p3, hp_3, hj1⟩ := bind_some hj1;refine go_two [(0, _), (3, _)] 23 46 p3 (t := 23) ⟨rfl, rfl, trivial⟩ rfl (fun hg_3 hk3 => ?_) (fun hg_3 hk3 => ?_) ?_
   ·replace hp_3 := cond_t hg_3 hp_3
    refine gWp rfl rfl rfl hg_3 rfl rfl (oMv rfl) ?_;refine gWp rfl rfl rfl hg_3 rfl rfl (oMv rfl) ?_;obtain ⟨c3, hx5, hp_3⟩ := bind_some hp_3;refine gWp rfl rfl rfl hg_3 rfl rfl (o_index_m runUnderlying9 rfl rfl hx5) ?_;obtain ⟨x3, hx6, hp_3⟩ := bind_some hp_3;refine gWp rfl rfl rfl hg_3 rfl rfl (o_call0 call87 rfl (w_ra_small hx6)) ?_;refine gWp rfl rfl rfl hg_3 rfl rfl (oMv rfl) ?_;obtain ⟨p4, hp_4, hp_3⟩ := bind_some hp_3;refine go_two [(0, _), (3, _), (23, _)] 5 33 p4 (t := 28) ⟨rfl, rfl, rfl, trivial⟩ rfl (fun hg_4 hk4 => ?_) (fun hg_4 hk4 => ?_) ?_
    ·replace hp_4 := cond_t hg_4 hp_4
     refine gKp rfl rfl rfl hg_4 rfl rfl ?_;refine gKp rfl rfl rfl hg_4 rfl rfl ?_;refine gKp rfl rfl rfl hg_4 rfl rfl ?_;refine gKp rfl rfl rfl hg_4 rfl rfl ?_;refine gWp rfl rfl rfl hg_3 rfl rfl (o_pickT rfl hg_4 rfl) ?_;exact gMt hk4 (congrArg (fun b => some (D.bool b)) (some_eq hp_4)) ⟨rfl, rfl, rfl, trivial⟩
    ·replace hp_4 := cond_f hg_4 hp_4
     refine gWp rfl rfl rfl hg_4 rfl rfl (oMv rfl) ?_;refine gWp rfl rfl rfl hg_4 rfl rfl (oMv rfl) ?_;obtain ⟨c4, hx7, hp_4⟩ := bind_some hp_4;refine gWp rfl rfl rfl hg_4 rfl rfl (o_index_m runUnderlying9 rfl rfl hx7) ?_;obtain ⟨x4, hx8, hp_4⟩ := bind_some hp_4;refine gWp rfl rfl rfl hg_4 rfl rfl (o_call0 call118 rfl (w_ra_great hx8)) ?_;refine gWp rfl rfl rfl hg_3 rfl rfl (o_pickF rfl hg_4 rfl) ?_;exact gMt hk4 (congrArg (fun b => some (D.bool b)) (some_eq hp_4)) ⟨rfl, rfl, rfl, trivial⟩
    refine gWp rfl rfl rfl hg_3 rfl rfl (oMv rfl) ?_;obtain ⟨p5, hp_5, hp_3⟩ := bind_some hp_3;refine go_two [(0, _), (3, _), (23, _)] 11 45 p5 (t := 34) ⟨rfl, rfl, rfl, trivial⟩ rfl (fun hg_5 hk5 => ?_) (fun hg_5 hk5 => ?_) ?_
    ·replace hp_5 := cond_t hg_5 hp_5
     refine gKp rfl rfl rfl hg_5 rfl rfl ?_;refine gKp rfl rfl rfl hg_5 rfl rfl ?_;refine gKp rfl rfl rfl hg_5 rfl rfl ?_;refine gKp rfl rfl rfl hg_5 rfl rfl ?_;refine gKp rfl rfl rfl hg_5 rfl rfl ?_;refine gKu rfl rfl rfl rfl rfl ?_;refine gKu rfl rfl rfl rfl rfl ?_;refine gKu rfl rfl rfl rfl rfl ?_;refine gKu rfl rfl rfl rfl rfl ?_;refine gKp rfl rfl rfl hg_5 rfl rfl ?_;refine gWp rfl rfl rfl hg_3 rfl rfl (o_pickT rfl hg_5 rfl) ?_;exact gMt hk5 (congrArg (fun b => some (D.bool b)) (some_eq hp_5)) ⟨rfl, rfl, rfl, trivial⟩
    ·replace hp_5 := cond_f hg_5 hp_5
     refine gWp rfl rfl rfl hg_5 rfl rfl (oMv rfl) ?_;refine gWp rfl rfl rfl hg_5 rfl rfl (oMv rfl) ?_;obtain ⟨c5, hx9, hp_5⟩ := bind_some hp_5;refine gWp rfl rfl rfl hg_5 rfl rfl (o_index_m runUnderlying9 rfl rfl hx9) ?_;refine gWp rfl rfl rfl hg_5 rfl rfl (o_cmp rfl rfl rfl) ?_;refine gWp rfl rfl rfl hg_5 rfl rfl (oMv rfl) ?_;obtain ⟨p6, hp_6, hp_5⟩ := bind_some hp_5;refine go_two [(0, _), (3, _), (23, _), (34, _)] 5 44 p6 (t := 39) ⟨rfl, rfl, rfl, rfl, trivial⟩ rfl (fun hg_6 hk6 => ?_) (fun hg_6 hk6 => ?_) ?_
     ·replace hp_6 := cond_t hg_6 hp_6
      refine gWp rfl rfl rfl hg_6 rfl rfl (oMv rfl) ?_;refine gWp rfl rfl rfl hg_6 rfl rfl (oMv rfl) ?_;obtain ⟨c6, hx10, hp_6⟩ := bind_some hp_6;refine gWp rfl rfl rfl hg_6 rfl rfl (o_index_m runUnderlying9 rfl rfl hx10) ?_;refine gWp rfl rfl rfl hg_6 rfl rfl (o_cmp rfl rfl rfl) ?_;refine gWp rfl rfl rfl hg_5 rfl rfl (o_pickT rfl hg_6 rfl) ?_;exact gMt hk6 (congrArg (fun b => some (D.bool b)) (some_eq hp_6)) ⟨rfl, rfl, rfl, rfl, trivial⟩
     ·replace hp_6 := cond_f hg_6 hp_6
      refine gKp rfl rfl rfl hg_6 rfl rfl ?_;refine gKp rfl rfl rfl hg_6 rfl rfl ?_;refine gKp rfl rfl rfl hg_6 rfl rfl ?_;refine gKp rfl rfl rfl hg_6 rfl rfl ?_;refine gWp rfl rfl rfl hg_5 rfl rfl (o_pickF rfl hg_6 rfl) ?_;exact gMt hk6 (congrArg (fun b => some (D.bool b)) (some_eq hp_6)) ⟨rfl, rfl, rfl, rfl, trivial⟩
     refine gWp rfl rfl rfl hg_3 rfl rfl (o_pickF rfl hg_5 rfl) ?_;exact gMt hk5 (congrArg (fun b => some (D.bool b)) (some_eq hp_5)) ⟨rfl, rfl, rfl, trivial⟩
    refine go_p rfl rfl rfl (o_pickT rfl hg_3 rfl) ?_;exact gMt hk3 (congrArg (fun b => some (D.bool b)) (some_eq hp_3)) ⟨rfl, rfl, trivial⟩
   ·replace hp_3 := cond_f hg_3 hp_3
    refine gKp rfl rfl rfl hg_3 rfl rfl ?_;refine gKp rfl rfl rfl hg_3 rfl rfl ?_;refine gKp rfl rfl rfl hg_3 rfl rfl ?_;refine gKp rfl rfl rfl hg_3 rfl rfl ?_;refine gKp rfl rfl rfl hg_3 rfl rfl ?_;refine gKu rfl rfl rfl rfl rfl ?_;refine gKu rfl rfl rfl rfl rfl ?_;refine gKu rfl rfl rfl rfl rfl ?_;refine gKu rfl rfl rfl rfl rfl ?_;refine gKp rfl rfl rfl hg_3 rfl rfl ?_;refine gKp rfl rfl rfl hg_3 rfl rfl ?_;refine gKu rfl rfl rfl rfl rfl ?_;refine gKu rfl rfl rfl rfl rfl ?_;refine gKu rfl rfl rfl rfl rfl ?_;refine gKu rfl rfl rfl rfl rfl ?_;refine gKu rfl rfl rfl rfl rfl ?_;refine gKu rfl rfl rfl rfl rfl ?_;refine gKu rfl rfl rfl rfl rfl ?_;refine gKu rfl rfl rfl rfl rfl ?_;refine gKu rfl rfl rfl rfl rfl ?_;refine gKu rfl rfl rfl rfl rfl ?_;refine gKp rfl rfl rfl hg_3 rfl rfl ?_;refine go_p rfl rfl rfl (o_pickF rfl hg_3 rfl) ?_;exact gMt hk3 (congrArg (fun b => some (D.bool b)) (some_eq hp_3)) ⟨rfl, rfl, trivial⟩
   refine gNl ?_;refine gCd rfl (fun hc2 => ?_) (fun hc2 => ?_)
   ·replace hj1 := cond_t hc2 hj1
    refine gSp (g_block (gRg ?_));refine go_p rfl rfl rfl (oMv rfl) ?_;obtain ⟨hg11, hj1⟩ := grd_some hj1;refine go_p rfl rfl rfl (o_add rfl rfl (i64_id hg11)) ?_;refine go_p rfl rfl rfl (oAs rfl) ?_;refine gNl ?_;exact ⟨_, (), hj1, ⟨rfl, trivial⟩, ⟨rfl, trivial⟩, [], rfl⟩
   ·replace hj1 := cond_f hc2 hj1
    refine g_exit ?_;exact ⟨_, (), some_eq hj1, ⟨rfl, trivial⟩, trivial, [], rfl⟩
  ·rintro n1 _ hst
   subst hst;refine k_norm (L' := [(3, .i64 n1)]) (ms' := []) rfl rfl ?_;refine g_seq (gRg ?_);refine go_p rfl rfl rfl (oMv rfl) ?_;refine go_p rfl rfl rfl (oAs rfl) ?_;refine gNl (g_ret ?_);exact retK (ret_one' rfl (ret_tmp rfl) (perm_drop _)) (congrArg (fun (p : Int) => (.i64 p : D)) (some_eq hm1))
noncomputable def m_ra_In_l1 (s1 : (List UInt8)) (l1 : (List (List UInt8))) : Nat -> Int -> Option (Out Bool Unit)
 | 0, _ => none
 | n + 1, i1 =>
  bif (decide (i1 < (l1.length : Int))) then
   (idx l1 i1).bind fun x1 =>
   bif (decide ((x1 : List UInt8) = s1)) then
    some (Out.ret true)
   else
    grd (InR (i1 + 1)) <|
    m_ra_In_l1 s1 l1 n (i1 + 1)
  else
   some (Out.go (()))
noncomputable def m_ra_In (s1 : (List UInt8)) (l1 : (List (List UInt8))) : Option Bool :=
 ((m_ra_In_l1 s1 l1 FU 0 : Option (Out Bool Unit))).bind (fun oo => oo.on (fun r1 => some r1) (fun _ =>
 some false))
theorem w_ra_In {s1 : (List UInt8)} {l1 : (List (List UInt8))} {r_1 : Bool} (hm : m_ra_In s1 l1 = some r_1) : Fn0 Tryz.prog 119 [.str s1, .list 1 D.str l1] (.bool r_1) := by
 unfold m_ra_In at hm;refine fn_intro func119 rfl ntmps119 rfl fun H0 fr w0 => ?_;refine g_seq (gRg ?_);refine go_p rfl rfl rfl (oAs rfl) ?_;refine gNl (g_seq (g_seq (gRg ?_)));refine go_p rfl rfl rfl (oAs rfl) ?_;refine gNl ?_;obtain ⟨o_1, hj1, hm1⟩ := bind_some hm;refine g_cut_m [] [] (fun (st : Unit) (hid : Unit) => match st, hid with | _, _ => []) (fun F (st : Unit) (hid : Unit) => match st, hid with | _, _ => []) (fun st => Out.go (st) = o_1) trivial trivial ?_ ?_
 ·skip
  refine g_block ?_;refine g_loop_m [(0, _), (1, _)] [] (fun (st : Int) (hid : Unit) => match st, hid with | i1, _ => [(5, .i64 i1)]) (fun F (st : Int) (hid : Unit) => match st, hid with | i1, _ => []) () hj1 (fun _ => rfl) ⟨rfl, rfl, trivial⟩ trivial ⟨rfl, trivial⟩ rfl ?_;rintro n i1 _ hj1;rw [m_ra_In_l1] at hj1;refine g_norm (L' := [(5, .i64 i1), (0, _), (1, _)]) (ms' := []) rfl rfl ?_;refine g_seq (g_seq (gRg ?_));refine go_p rfl rfl rfl (oMv rfl) ?_;refine go_p rfl rfl rfl (oMv rfl) ?_;refine go_p rfl rfl rfl (o_len runUnderlying65 rfl) ?_;refine go_p rfl rfl rfl (o_cmp rfl rfl rfl) ?_;refine gNl ?_;refine gCd rfl (fun hc1 => ?_) (fun hc1 => ?_)
  ·replace hj1 := cond_t hc1 hj1
   refine gSp (g_seq (g_block (g_seq (gRg ?_))));refine go_p rfl rfl rfl (oMv rfl) ?_;refine go_p rfl rfl rfl (oMv rfl) ?_;obtain ⟨x1, hx1, hj1⟩ := bind_some hj1;refine go_p rfl rfl rfl (oIm runUnderlying65 sizeOf9 rfl rfl hx1) ?_;refine go_p rfl rfl rfl (o_load isAgg9 rfl rfl) ?_;refine go_p rfl rfl rfl (oMv rfl) ?_;refine go_p rfl rfl rfl (o_cmps rfl rfl rfl) ?_;refine gNl ?_;refine gCd rfl (fun hc2 => ?_) (fun hc2 => ?_)
   ·replace hj1 := cond_t hc2 hj1
    refine g_seq (gRg ?_);refine go_p rfl rfl rfl (oAs rfl) ?_;refine gNl (g_ret ?_);obtain rfl := some_eq hj1
    replace hm1 := on_ret hm1
    exact retK (ret_one' rfl (ret_tmp rfl) (perm_drop _)) (congrArg (fun (p : Bool) => (.bool p : D)) (some_eq hm1))
   ·replace hj1 := cond_f hc2 hj1
    refine gSp (gRg ?_);refine go_p rfl rfl rfl (oMv rfl) ?_;obtain ⟨hg2, hj1⟩ := grd_some hj1;refine go_p rfl rfl rfl (o_add rfl rfl (i64_id hg2)) ?_;refine go_p rfl rfl rfl (oAs rfl) ?_;refine gNl ?_;exact ⟨_, (), hj1, ⟨rfl, trivial⟩, ⟨rfl, rfl, trivial⟩, [], rfl⟩
  ·replace hj1 := cond_f hc1 hj1
   refine g_exit ?_;exact ⟨_, (), some_eq hj1, trivial, trivial, [], rfl⟩
 ·rintro _ _ hst
  subst hst
  replace hm1 := on_go hm1
  refine k_norm (L' := []) (ms' := []) rfl rfl ?_;refine g_seq (gRg ?_);refine go_p rfl rfl rfl (oAs rfl) ?_;refine gNl (g_ret ?_);exact retK (ret_one' rfl (ret_tmp rfl) (perm_drop _)) (congrArg (fun (p : Bool) => (.bool p : D)) (some_eq hm1))
noncomputable def m_ra_Keywords  : Option (List (List UInt8)) :=
 some [([102, 117, 110] : List UInt8), ([108, 101, 116] : List UInt8), ([114, 101, 99] : List UInt8), ([105, 110] : List UInt8), ([105, 102] : List UInt8), ([116, 104, 101, 110] : List UInt8), ([101, 108, 115, 101] : List UInt8), ([99, 97, 115, 101] : List UInt8), ([111, 102] : List UInt8), ([101, 110, 100] : List UInt8), ([116, 114, 117, 101] : List UInt8), ([102, 97, 108, 115, 101] : List UInt8), ([99, 104, 101, 99, 107] : List UInt8), ([97, 115, 107] : List UInt8), ([116, 111, 112] : List UInt8), ([98, 111, 116] : List UInt8), ([105, 110, 116] : List UInt8), ([98, 111, 111, 108] : List UInt8), ([115, 116, 114, 105, 110, 103] : List UInt8), ([109, 117] : List UInt8)]
theorem w_ra_Keywords  {r_1 : (List (List UInt8))} (hm : m_ra_Keywords = some r_1) : Fn0 Tryz.prog 120 [] (.list 1 D.str r_1) := by
 unfold m_ra_Keywords at hm;refine fn_intro func120 rfl ntmps120 rfl fun H0 fr w0 => ?_;refine g_seq (gRg ?_);refine go_p rfl rfl rfl (oAs rfl) ?_;refine go_conv (nilE (i := 0) (sz := 1) (f := D.str) rfl).refines ?_;refine gNl (g_seq (gRg ?_));refine go_p rfl rfl rfl (o_buildSlice (xs := [_, _, _, _, _, _, _, _, _, _, _, _, _, _, _, _, _, _, _, _]) (f := D.str) (l := [_, _, _, _, _, _, _, _, _, _, _, _, _, _, _, _, _, _, _, _]) runUnderlying65 sizeOf9 zeroValue9 rfl rfl rfl (fun _ => ⟨rfl, rfl, rfl⟩) rfl) ?_;refine go_p rfl rfl rfl (oAs rfl) ?_;refine gNl (g_ret ?_);exact retK (ret_one' rfl (ret_tmp rfl) (perm_drop _)) (congrArg (fun (p : (List (List UInt8))) => (.list 1 D.str p : D)) (some_eq hm))
noncomputable def m_ra_Keyword (s1 : (List UInt8)) : Option Bool :=
 (m_ra_Keywords).bind fun x1 =>
 (m_ra_In s1 x1).bind fun x2 =>
 some x2
theorem w_ra_Keyword {s1 : (List UInt8)} {r_1 : Bool} (hm : m_ra_Keyword s1 = some r_1) : Fn0 Tryz.prog 88 [.str s1] (.bool r_1) := by
 unfold m_ra_Keyword at hm;refine fn_intro func88 rfl ntmps88 rfl fun H0 fr w0 => ?_;refine g_seq (gRg ?_);refine go_p rfl rfl rfl (oAs rfl) ?_;refine gNl (g_seq (gRg ?_));refine go_p rfl rfl rfl (oMv rfl) ?_;obtain ⟨x1, hx1, hm⟩ := bind_some hm;refine go_p rfl rfl rfl (o_call0 call120 rfl (w_ra_Keywords hx1)) ?_;obtain ⟨x2, hx2, hm⟩ := bind_some hm;refine go_p rfl rfl rfl (o_call0 call119 rfl (w_ra_In hx2)) ?_;refine go_p rfl rfl rfl (oAs rfl) ?_;refine gNl (g_ret ?_);exact retK (ret_one' rfl (ret_tmp rfl) (perm_drop _)) (congrArg (fun (p : Bool) => (.bool p : D)) (some_eq hm))
noncomputable def m_ra_Name (s1 : (List UInt8)) : Option Bool :=
 (bif ((decide (0 < (s1.length : Int))) && (decide ((s1.length : Int) <= 20))) then ((m_ra_Word s1).bind fun x1 =>
 some (decide (x1 = (s1.length : Int)))) else (some false)).bind fun p1 =>
 (bif p1 then ((idx s1 0).bind fun c1 =>
 (m_ra_small c1).bind fun x2 =>
 some x2) else (some false)).bind fun p2 =>
 (bif p2 then ((m_ra_Keyword s1).bind fun x3 =>
 some (!x3)) else (some false)).bind fun p3 =>
 some p3
theorem w_ra_Name {s1 : (List UInt8)} {r_1 : Bool} (hm : m_ra_Name s1 = some r_1) : Fn0 Tryz.prog 51 [.str s1] (.bool r_1) := by
 unfold m_ra_Name at hm;refine fn_intro func51 rfl ntmps51 rfl fun H0 fr w0 => ?_;refine g_seq (gRg ?_);refine go_p rfl rfl rfl (oAs rfl) ?_;refine gNl (g_seq (gRg ?_));refine go_p rfl rfl rfl (oMv rfl) ?_;refine go_p rfl rfl rfl (o_len_str runUnderlying9 rfl) ?_;refine go_p rfl rfl rfl (o_cmp rfl rfl rfl) ?_;refine go_p rfl rfl rfl (oMv rfl) ?_
 apply go_and [(0, _)] 4 10 (t := 6) ⟨rfl, trivial⟩ rfl
 ·intro hg_1 hk1
  refine gWp rfl rfl rfl hg_1 rfl rfl (oMv rfl) ?_;refine gWp rfl rfl rfl hg_1 rfl rfl (o_len_str runUnderlying9 rfl) ?_;refine gWp rfl rfl rfl hg_1 rfl rfl (o_cmp rfl rfl rfl) ?_;refine go_p rfl rfl rfl (o_pickT rfl hg_1 rfl) ?_;exact gMt hk1 (rfl) ⟨rfl, trivial⟩
 ·intro hg_1 hk1
  refine gKp rfl rfl rfl hg_1 rfl rfl ?_;refine gKp rfl rfl rfl hg_1 rfl rfl ?_;refine gKp rfl rfl rfl hg_1 rfl rfl ?_;refine go_p rfl rfl rfl (o_pickF rfl hg_1 rfl) ?_;exact gMt hk1 (rfl) ⟨rfl, trivial⟩
 refine go_p rfl rfl rfl (oMv rfl) ?_;obtain ⟨p1, hp_2, hm⟩ := bind_some hm;refine go_two [(0, _)] 6 17 p1 (t := 11) ⟨rfl, trivial⟩ rfl (fun hg_2 hk2 => ?_) (fun hg_2 hk2 => ?_) ?_
 ·replace hp_2 := cond_t hg_2 hp_2
  refine gWp rfl rfl rfl hg_2 rfl rfl (oMv rfl) ?_;obtain ⟨x1, hx1, hp_2⟩ := bind_some hp_2;refine gWp rfl rfl rfl hg_2 rfl rfl (o_call0 call86 rfl (w_ra_Word hx1)) ?_;refine gWp rfl rfl rfl hg_2 rfl rfl (oMv rfl) ?_;refine gWp rfl rfl rfl hg_2 rfl rfl (o_len_str runUnderlying9 rfl) ?_;refine gWp rfl rfl rfl hg_2 rfl rfl (o_cmp rfl rfl rfl) ?_;refine go_p rfl rfl rfl (o_pickT rfl hg_2 rfl) ?_;exact gMt hk2 (congrArg (fun b => some (D.bool b)) (some_eq hp_2)) ⟨rfl, trivial⟩
 ·replace hp_2 := cond_f hg_2 hp_2
  refine gKp rfl rfl rfl hg_2 rfl rfl ?_;refine gKp rfl rfl rfl hg_2 rfl rfl ?_;refine gKp rfl rfl rfl hg_2 rfl rfl ?_;refine gKp rfl rfl rfl hg_2 rfl rfl ?_;refine gKp rfl rfl rfl hg_2 rfl rfl ?_;refine go_p rfl rfl rfl (o_pickF rfl hg_2 rfl) ?_;exact gMt hk2 (congrArg (fun b => some (D.bool b)) (some_eq hp_2)) ⟨rfl, trivial⟩
 refine go_p rfl rfl rfl (oMv rfl) ?_;obtain ⟨p2, hp_3, hm⟩ := bind_some hm;refine go_two [(0, _)] 4 22 p2 (t := 18) ⟨rfl, trivial⟩ rfl (fun hg_3 hk3 => ?_) (fun hg_3 hk3 => ?_) ?_
 ·replace hp_3 := cond_t hg_3 hp_3
  refine gWp rfl rfl rfl hg_3 rfl rfl (oMv rfl) ?_;obtain ⟨c1, hx2, hp_3⟩ := bind_some hp_3;refine gWp rfl rfl rfl hg_3 rfl rfl (o_index_m runUnderlying9 rfl rfl hx2) ?_;obtain ⟨x2, hx3, hp_3⟩ := bind_some hp_3;refine gWp rfl rfl rfl hg_3 rfl rfl (o_call0 call87 rfl (w_ra_small hx3)) ?_;refine go_p rfl rfl rfl (o_pickT rfl hg_3 rfl) ?_;exact gMt hk3 (congrArg (fun b => some (D.bool b)) (some_eq hp_3)) ⟨rfl, trivial⟩
 ·replace hp_3 := cond_f hg_3 hp_3
  refine gKp rfl rfl rfl hg_3 rfl rfl ?_;refine gKp rfl rfl rfl hg_3 rfl rfl ?_;refine gKp rfl rfl rfl hg_3 rfl rfl ?_;refine go_p rfl rfl rfl (o_pickF rfl hg_3 rfl) ?_;exact gMt hk3 (congrArg (fun b => some (D.bool b)) (some_eq hp_3)) ⟨rfl, trivial⟩
 refine go_p rfl rfl rfl (oMv rfl) ?_;obtain ⟨p3, hp_4, hm⟩ := bind_some hm;refine go_two [] 4 27 p3 (t := 23) trivial rfl (fun hg_4 hk4 => ?_) (fun hg_4 hk4 => ?_) ?_
 ·replace hp_4 := cond_t hg_4 hp_4
  refine gWp rfl rfl rfl hg_4 rfl rfl (oMv rfl) ?_;obtain ⟨x3, hx4, hp_4⟩ := bind_some hp_4;refine gWp rfl rfl rfl hg_4 rfl rfl (o_call0 call88 rfl (w_ra_Keyword hx4)) ?_;refine gWp rfl rfl rfl hg_4 rfl rfl (o_not rfl) ?_;refine go_p rfl rfl rfl (o_pickT rfl hg_4 rfl) ?_;exact gMt hk4 (congrArg (fun b => some (D.bool b)) (some_eq hp_4)) trivial
 ·replace hp_4 := cond_f hg_4 hp_4
  refine gKp rfl rfl rfl hg_4 rfl rfl ?_;refine gKp rfl rfl rfl hg_4 rfl rfl ?_;refine gKp rfl rfl rfl hg_4 rfl rfl ?_;refine go_p rfl rfl rfl (o_pickF rfl hg_4 rfl) ?_;exact gMt hk4 (congrArg (fun b => some (D.bool b)) (some_eq hp_4)) trivial
 refine go_p rfl rfl rfl (oAs rfl) ?_;refine gNl (g_ret ?_);exact retK (ret_one' rfl (ret_tmp rfl) (perm_drop _)) (congrArg (fun (p : Bool) => (.bool p : D)) (some_eq hm))
noncomputable def m_ra_Tag (s1 : (List UInt8)) : Option Bool :=
 (bif ((decide (0 < (s1.length : Int))) && (decide ((s1.length : Int) <= 20))) then ((m_ra_Word s1).bind fun x1 =>
 some (decide (x1 = (s1.length : Int)))) else (some false)).bind fun p1 =>
 (bif p1 then ((idx s1 0).bind fun c1 =>
 (m_ra_great c1).bind fun x2 =>
 some x2) else (some false)).bind fun p2 =>
 some p2
theorem w_ra_Tag {s1 : (List UInt8)} {r_1 : Bool} (hm : m_ra_Tag s1 = some r_1) : Fn0 Tryz.prog 100 [.str s1] (.bool r_1) := by
 unfold m_ra_Tag at hm;refine fn_intro func100 rfl ntmps100 rfl fun H0 fr w0 => ?_;refine g_seq (gRg ?_);refine go_p rfl rfl rfl (oAs rfl) ?_;refine gNl (g_seq (gRg ?_));refine go_p rfl rfl rfl (oMv rfl) ?_;refine go_p rfl rfl rfl (o_len_str runUnderlying9 rfl) ?_;refine go_p rfl rfl rfl (o_cmp rfl rfl rfl) ?_;refine go_p rfl rfl rfl (oMv rfl) ?_
 apply go_and [(0, _)] 4 10 (t := 6) ⟨rfl, trivial⟩ rfl
 ·intro hg_1 hk1
  refine gWp rfl rfl rfl hg_1 rfl rfl (oMv rfl) ?_;refine gWp rfl rfl rfl hg_1 rfl rfl (o_len_str runUnderlying9 rfl) ?_;refine gWp rfl rfl rfl hg_1 rfl rfl (o_cmp rfl rfl rfl) ?_;refine go_p rfl rfl rfl (o_pickT rfl hg_1 rfl) ?_;exact gMt hk1 (rfl) ⟨rfl, trivial⟩
 ·intro hg_1 hk1
  refine gKp rfl rfl rfl hg_1 rfl rfl ?_;refine gKp rfl rfl rfl hg_1 rfl rfl ?_;refine gKp rfl rfl rfl hg_1 rfl rfl ?_;refine go_p rfl rfl rfl (o_pickF rfl hg_1 rfl) ?_;exact gMt hk1 (rfl) ⟨rfl, trivial⟩
 refine go_p rfl rfl rfl (oMv rfl) ?_;obtain ⟨p1, hp_2, hm⟩ := bind_some hm;refine go_two [(0, _)] 6 17 p1 (t := 11) ⟨rfl, trivial⟩ rfl (fun hg_2 hk2 => ?_) (fun hg_2 hk2 => ?_) ?_
 ·replace hp_2 := cond_t hg_2 hp_2
  refine gWp rfl rfl rfl hg_2 rfl rfl (oMv rfl) ?_;obtain ⟨x1, hx1, hp_2⟩ := bind_some hp_2;refine gWp rfl rfl rfl hg_2 rfl rfl (o_call0 call86 rfl (w_ra_Word hx1)) ?_;refine gWp rfl rfl rfl hg_2 rfl rfl (oMv rfl) ?_;refine gWp rfl rfl rfl hg_2 rfl rfl (o_len_str runUnderlying9 rfl) ?_;refine gWp rfl rfl rfl hg_2 rfl rfl (o_cmp rfl rfl rfl) ?_;refine go_p rfl rfl rfl (o_pickT rfl hg_2 rfl) ?_;exact gMt hk2 (congrArg (fun b => some (D.bool b)) (some_eq hp_2)) ⟨rfl, trivial⟩
 ·replace hp_2 := cond_f hg_2 hp_2
  refine gKp rfl rfl rfl hg_2 rfl rfl ?_;refine gKp rfl rfl rfl hg_2 rfl rfl ?_;refine gKp rfl rfl rfl hg_2 rfl rfl ?_;refine gKp rfl rfl rfl hg_2 rfl rfl ?_;refine gKp rfl rfl rfl hg_2 rfl rfl ?_;refine go_p rfl rfl rfl (o_pickF rfl hg_2 rfl) ?_;exact gMt hk2 (congrArg (fun b => some (D.bool b)) (some_eq hp_2)) ⟨rfl, trivial⟩
 refine go_p rfl rfl rfl (oMv rfl) ?_;obtain ⟨p2, hp_3, hm⟩ := bind_some hm;refine go_two [] 4 22 p2 (t := 18) trivial rfl (fun hg_3 hk3 => ?_) (fun hg_3 hk3 => ?_) ?_
 ·replace hp_3 := cond_t hg_3 hp_3
  refine gWp rfl rfl rfl hg_3 rfl rfl (oMv rfl) ?_;obtain ⟨c1, hx2, hp_3⟩ := bind_some hp_3;refine gWp rfl rfl rfl hg_3 rfl rfl (o_index_m runUnderlying9 rfl rfl hx2) ?_;obtain ⟨x2, hx3, hp_3⟩ := bind_some hp_3;refine gWp rfl rfl rfl hg_3 rfl rfl (o_call0 call118 rfl (w_ra_great hx3)) ?_;refine go_p rfl rfl rfl (o_pickT rfl hg_3 rfl) ?_;exact gMt hk3 (congrArg (fun b => some (D.bool b)) (some_eq hp_3)) trivial
 ·replace hp_3 := cond_f hg_3 hp_3
  refine gKp rfl rfl rfl hg_3 rfl rfl ?_;refine gKp rfl rfl rfl hg_3 rfl rfl ?_;refine gKp rfl rfl rfl hg_3 rfl rfl ?_;refine go_p rfl rfl rfl (o_pickF rfl hg_3 rfl) ?_;exact gMt hk3 (congrArg (fun b => some (D.bool b)) (some_eq hp_3)) trivial
 refine go_p rfl rfl rfl (oAs rfl) ?_;refine gNl (g_ret ?_);exact retK (ret_one' rfl (ret_tmp rfl) (perm_drop _)) (congrArg (fun (p : Bool) => (.bool p : D)) (some_eq hm))
noncomputable def m_rg_Kids_l1 (n1 : ApiTNode) : Nat -> (Int × (List Int)) -> Option (List Int)
 | 0, _ => none
 | n + 1, (i1, l2) =>
  bif (decide (i1 < (n1.l.length : Int))) then
   (idx n1.l i1).bind fun x1 =>
   grd ((l2.length + ([x1.at_] : List _).length) * 8 <= 140737488355328) <|
   grd (InR (i1 + 1)) <|
   m_rg_Kids_l1 n1 n ((i1 + 1), (l2 ++ [x1.at_]))
  else
   some l2
noncomputable def m_rg_Kids (n1 : ApiTNode) : Option (List Int) :=
 bif (((decide (n1.kind = 6)) || (decide (n1.kind = 9))) || (decide (n1.kind = 10))) then
  some [n1.a, n1.b]
 else
  bif ((decide (n1.kind = 7)) || (decide (n1.kind = 8))) then
   (m_rg_Kids_l1 n1 FU (0, []) : Option (List Int)).bind fun l1 =>
   some l1
  else
   some []
theorem w_rg_Kids {n1 : ApiTNode} {r_1 : (List Int)} (hm : m_rg_Kids n1 = some r_1) : Fn0 Tryz.prog 101 [ApiTNode.d n1] (.list 1 D.i64 r_1) := by
 unfold m_rg_Kids at hm;refine fn_intro func101 rfl ntmps101 rfl fun H0 fr w0 => ?_;refine g_seq (gRg ?_);refine go_p rfl rfl rfl (o_box rfl rfl) ?_;refine go_p rfl rfl rfl (oAs rfl) ?_;refine go_conv (nilE (i := 2) (sz := 1) (f := D.i64) rfl).refines ?_;refine gNl (g_seq (g_seq (gRg ?_)));refine go_p rfl rfl rfl (oFa fi_44_0 rfl rfl rfl) ?_;refine go_p rfl rfl rfl (o_load isAgg3 rfl rfl) ?_;refine go_p rfl rfl rfl (o_cmp rfl rfl rfl) ?_;refine go_p rfl rfl rfl (oMv rfl) ?_
 apply go_or [(1, _)] 4 12 (t := 8) ⟨rfl, trivial⟩ rfl
 ·intro hg_1 hk1
  refine gWp rfl rfl rfl hg_1 rfl rfl (oFa fi_44_0 rfl rfl rfl) ?_;refine gWp rfl rfl rfl hg_1 rfl rfl (o_load isAgg3 rfl rfl) ?_;refine gWp rfl rfl rfl hg_1 rfl rfl (o_cmp rfl rfl rfl) ?_;refine go_p rfl rfl rfl (o_pickF rfl hg_1 rfl) ?_;exact gMt hk1 (rfl) ⟨rfl, trivial⟩
 ·intro hg_1 hk1
  refine gKp rfl rfl rfl hg_1 rfl rfl ?_;refine gKp rfl rfl rfl hg_1 rfl rfl ?_;refine gKp rfl rfl rfl hg_1 rfl rfl ?_;refine go_p rfl rfl rfl (o_pickT rfl hg_1 rfl) ?_;exact gMt hk1 (rfl) ⟨rfl, trivial⟩
 refine go_p rfl rfl rfl (oMv rfl) ?_
 apply go_or [(1, _)] 4 17 (t := 13) ⟨rfl, trivial⟩ rfl
 ·intro hg_2 hk2
  refine gWp rfl rfl rfl hg_2 rfl rfl (oFa fi_44_0 rfl rfl rfl) ?_;refine gWp rfl rfl rfl hg_2 rfl rfl (o_load isAgg3 rfl rfl) ?_;refine gWp rfl rfl rfl hg_2 rfl rfl (o_cmp rfl rfl rfl) ?_;refine go_p rfl rfl rfl (o_pickF rfl hg_2 rfl) ?_;exact gMt hk2 (rfl) ⟨rfl, trivial⟩
 ·intro hg_2 hk2
  refine gKp rfl rfl rfl hg_2 rfl rfl ?_;refine gKp rfl rfl rfl hg_2 rfl rfl ?_;refine gKp rfl rfl rfl hg_2 rfl rfl ?_;refine go_p rfl rfl rfl (o_pickT rfl hg_2 rfl) ?_;exact gMt hk2 (rfl) ⟨rfl, trivial⟩
 refine gNl ?_;refine gCd rfl (fun hc1 => ?_) (fun hc1 => ?_)
 ·replace hm := cond_t hc1 hm
  refine g_seq (gRg ?_);refine go_p rfl rfl rfl (oFa fi_44_1 rfl rfl rfl) ?_;refine go_p rfl rfl rfl (o_load isAgg3 rfl rfl) ?_;refine go_p rfl rfl rfl (oFa fi_44_2 rfl rfl rfl) ?_;refine go_p rfl rfl rfl (o_load isAgg3 rfl rfl) ?_;refine go_p rfl rfl rfl (o_buildSlice (xs := [_, _]) (f := D.i64) (l := [_, _]) runUnderlying25 sizeOf3 zeroValue3 rfl rfl rfl (fun _ => ⟨rfl, rfl, rfl⟩) rfl) ?_;refine go_p rfl rfl rfl (oAs rfl) ?_;refine gNl (g_ret ?_);exact retK (ret_one' rfl (ret_tmp rfl) (perm_drop _)) (congrArg (fun (p : (List Int)) => (.list 1 D.i64 p : D)) (some_eq hm))
 ·replace hm := cond_f hc1 hm
  refine gSp (g_seq (gRg ?_));refine go_op rfl rfl rfl (o_buildSlice_row (xs := []) (f := D.i64) (l := []) runUnderlying25 sizeOf3 zeroValue3 rfl rfl rfl (fun _ => ⟨rfl, rfl, rfl⟩) rfl (by simp [maxLen])) ?_;rintro _ _ ⟨a_r1, rfl, rfl⟩;refine go_p rfl rfl rfl (oAs rfl) ?_;refine gNl (g_seq (g_seq (gRg ?_)));refine go_p rfl rfl rfl (oFa fi_44_0 rfl rfl rfl) ?_;refine go_p rfl rfl rfl (o_load isAgg3 rfl rfl) ?_;refine go_p rfl rfl rfl (o_cmp rfl rfl rfl) ?_;refine go_p rfl rfl rfl (oMv rfl) ?_
  apply go_or [(1, _), (3, _)] 4 31 (t := 27) ⟨rfl, rfl, trivial⟩ rfl
  ·intro hg_3 hk3
   refine gWp rfl rfl rfl hg_3 rfl rfl (oFa fi_44_0 rfl rfl rfl) ?_;refine gWp rfl rfl rfl hg_3 rfl rfl (o_load isAgg3 rfl rfl) ?_;refine gWp rfl rfl rfl hg_3 rfl rfl (o_cmp rfl rfl rfl) ?_;refine go_p rfl rfl rfl (o_pickF rfl hg_3 rfl) ?_;exact gMt hk3 (rfl) ⟨rfl, rfl, trivial⟩
  ·intro hg_3 hk3
   refine gKp rfl rfl rfl hg_3 rfl rfl ?_;refine gKp rfl rfl rfl hg_3 rfl rfl ?_;refine gKp rfl rfl rfl hg_3 rfl rfl ?_;refine go_p rfl rfl rfl (o_pickT rfl hg_3 rfl) ?_;exact gMt hk3 (rfl) ⟨rfl, rfl, trivial⟩
  refine gNl ?_;refine gCd rfl (fun hc2 => ?_) (fun hc2 => ?_)
  ·replace hm := cond_t hc2 hm
   refine g_seq (gRg ?_);refine go_p rfl rfl rfl (oAs rfl) ?_;refine gNl ?_;obtain ⟨o_1, hj1, hm1⟩ := bind_some hm;refine g_cut_m [] [] (fun (st : (List Int)) (hid : (Option Addr × Nat)) => match st, hid with | l1, (a_r1, cap_r1) => [(3, .v (.slice a_r1 l1.length cap_r1))]) (fun F (st : (List Int)) (hid : (Option Addr × Nat)) => match st, hid with | l1, (a_r1, cap_r1) => [row a_r1 cap_r1 3 1 D.i64 l1]) (fun st => st = o_1) trivial trivial ?_ ?_
   ·skip
    refine g_block ?_;refine g_loop_m [(1, _)] [] (fun (st : (Int × (List Int))) (hid : (Option Addr × Nat)) => match st, hid with | (i1, l2), (a_r1, cap_r1) => [(3, .v (.slice a_r1 l2.length cap_r1)), (4, .i64 i1)]) (fun F (st : (Int × (List Int))) (hid : (Option Addr × Nat)) => match st, hid with | (i1, l2), (a_r1, cap_r1) => [row a_r1 cap_r1 3 1 D.i64 l2]) (_, _) hj1 (fun _ => rfl) ⟨rfl, trivial⟩ trivial ⟨rfl, rfl, trivial⟩ rfl ?_;rintro n ⟨i1, l2⟩ ⟨a_r1, cap_r1⟩ hj1;rw [m_rg_Kids_l1] at hj1;refine g_norm (L' := [(3, .v (.slice a_r1 l2.length cap_r1)), (4, .i64 i1), (1, _)]) (ms' := [row a_r1 cap_r1 3 1 D.i64 l2]) rfl rfl ?_;refine g_seq (g_seq (gRg ?_));refine go_p rfl rfl rfl (oMv rfl) ?_;refine go_p rfl rfl rfl (oFa fi_44_3 rfl rfl rfl) ?_;refine go_p rfl rfl rfl (o_load isAgg42 rfl rfl) ?_;refine go_p rfl rfl rfl (o_len runUnderlying42 rfl) ?_;refine go_p rfl rfl rfl (o_cmp rfl rfl rfl) ?_;refine gNl ?_;refine gCd rfl (fun hc3 => ?_) (fun hc3 => ?_)
    ·replace hj1 := cond_t hc3 hj1
     refine gSp (g_seq (g_block (gRg ?_)));refine go_p rfl rfl rfl (oMv rfl) ?_;refine go_p rfl rfl rfl (oFa fi_44_3 rfl rfl rfl) ?_;refine go_p rfl rfl rfl (o_load isAgg42 rfl rfl) ?_;refine go_p rfl rfl rfl (oMv rfl) ?_;obtain ⟨x1, hx1, hj1⟩ := bind_some hj1;refine go_p rfl rfl rfl (oIm runUnderlying42 sizeOf98 rfl rfl hx1) ?_;refine go_p rfl rfl rfl (oFa fi_98_1 rfl rfl rfl) ?_;refine go_p rfl rfl rfl (o_load isAgg3 rfl rfl) ?_;refine go_p rfl rfl rfl (o_buildSlice (xs := [_]) (f := D.i64) (l := [_]) runUnderlying25 sizeOf3 zeroValue3 rfl rfl rfl (fun _ => ⟨rfl, rfl, rfl⟩) rfl) ?_;obtain ⟨hg2, hj1⟩ := grd_some hj1;refine go_op rfl rfl rfl (o_append (a := _) 0 underlying25 type3 rfl rfl rfl rfl rfl rfl rfl (fun _ => rfl) (fun _ => rfl) hg2 (app_len hg2 rfl)) ?_;rintro _ _ ⟨a_r1, cap_r1, rfl, rfl⟩;refine go_ms (ms' := [_]) rfl ?_;refine go_p rfl rfl rfl (oAs rfl) ?_;refine gNl (gRg ?_);refine go_p rfl rfl rfl (oMv rfl) ?_;obtain ⟨hg3, hj1⟩ := grd_some hj1;refine go_p rfl rfl rfl (o_add rfl rfl (i64_id hg3)) ?_;refine go_p rfl rfl rfl (oAs rfl) ?_;refine gNl ?_;exact ⟨_, (_, _), hj1, ⟨rfl, rfl, trivial⟩, ⟨rfl, trivial⟩, [], rfl⟩
    ·replace hj1 := cond_f hc3 hj1
     refine g_exit ?_;exact ⟨_, (_, _), some_eq hj1, ⟨rfl, trivial⟩, trivial, [], rfl⟩
   ·rintro l1 ⟨a_r1, cap_r1⟩ hst
    subst hst;refine k_norm (L' := [(3, .v (.slice a_r1 l1.length cap_r1))]) (ms' := [row a_r1 cap_r1 3 1 D.i64 l1]) rfl rfl ?_;refine g_seq (gRg ?_);refine go_p rfl rfl rfl (oMv rfl) ?_;refine go_p rfl rfl rfl (oAs rfl) ?_;refine gNl ?_;refine g_conv (peekE (i := 2) 0 rfl rfl rfl).refines ?_;refine g_ret ?_;exact retK (ret_one' rfl (ret_tmp rfl) (perm_drop _)) (congrArg (fun (p : (List Int)) => (.list 1 D.i64 p : D)) (some_eq hm1))
  ·replace hm := cond_f hc2 hm
   refine gSp (g_seq (gRg ?_));refine go_p rfl rfl rfl (oMv rfl) ?_;refine go_p rfl rfl rfl (oAs rfl) ?_;refine gNl ?_;refine g_conv (peekE (i := 2) 0 rfl rfl rfl).refines ?_;refine g_ret ?_;exact retK (ret_one' rfl (ret_tmp rfl) (perm_drop _)) (congrArg (fun (p : (List Int)) => (.list 1 D.i64 p : D)) (some_eq hm))
noncomputable def m_rg_right_l1 (n1 : ApiTNode) : Nat -> Int -> Option (Out Bool Unit)
 | 0, _ => none
 | n + 1, i1 =>
  bif (decide (i1 < (n1.l.length : Int))) then
   (idx n1.l i1).bind fun x1 =>
   (bif (decide (n1.kind = 7)) then ((m_ra_Name x1.name).bind fun x2 =>
   some (!x2)) else (some false)).bind fun p1 =>
   (bif p1 then (some true) else ((bif (decide (n1.kind = 8)) then ((m_ra_Tag x1.name).bind fun x3 =>
   some (!x3)) else (some false)).bind fun p3 =>
   some p3)).bind fun p2 =>
   (bif p2 then (some true) else ((bif (decide (0 < i1)) then (grd (InR (i1 - 1)) <|
   (idx n1.l (i1 - 1)).bind fun x4 =>
   some (!Op.bytesLess x4.name x1.name)) else (some false)).bind fun p5 =>
   some p5)).bind fun p4 =>
   bif p4 then
    some (Out.ret false)
   else
    grd (InR (i1 + 1)) <|
    m_rg_right_l1 n1 n (i1 + 1)
  else
   some (Out.go (()))
noncomputable def m_rg_right_l2 (all1 : Int) (x5 : (List Int)) : Nat -> Int -> Option (Out Bool Unit)
 | 0, _ => none
 | n + 1, i2 =>
  bif (decide (i2 < (x5.length : Int))) then
   (idx x5 i2).bind fun x6 =>
   (bif (decide (x6 < 0)) then (some true) else ((idx x5 i2).bind fun x7 =>
   some (decide (all1 <= x7)))).bind fun p6 =>
   bif p6 then
    some (Out.ret false)
   else
    grd (InR (i2 + 1)) <|
    m_rg_right_l2 all1 x5 n (i2 + 1)
  else
   some (Out.go (()))
noncomputable def m_rg_right (n1 : ApiTNode) (all1 : Int) : Option Bool :=
 bif ((((((decide (n1.kind < 1)) || (decide (11 < n1.kind))) || (((!(((decide (n1.kind = 6)) || (decide (n1.kind = 9))) || (decide (n1.kind = 10)))) && (!decide (n1.kind = 11))) && (!decide (n1.a = 0)))) || ((!(((decide (n1.kind = 6)) || (decide (n1.kind = 9))) || (decide (n1.kind = 10)))) && (!decide (n1.b = 0)))) || ((!((decide (n1.kind = 7)) || (decide (n1.kind = 8)))) && (decide (0 < (n1.l.length : Int))))) || (decide (30 < (n1.l.length : Int)))) then
  some false
 else
  bif ((decide (n1.kind = 11)) && ((decide (n1.a < 0)) || (decide (999 < n1.a)))) then
   some false
  else
   ((m_rg_right_l1 n1 FU 0 : Option (Out Bool Unit))).bind (fun oo => oo.on (fun r2 => some r2) (fun _ =>
   (m_rg_Kids n1).bind fun x5 =>
   ((m_rg_right_l2 all1 x5 FU 0 : Option (Out Bool Unit))).bind (fun oo => oo.on (fun r1 => some r1) (fun _ =>
   some true))))
theorem w_rg_right {n1 : ApiTNode} {all1 : Int} {r_1 : Bool} (hm : m_rg_right n1 all1 = some r_1) : Fn0 Tryz.prog 59 [ApiTNode.d n1, .i64 all1] (.bool r_1) := by
 unfold m_rg_right at hm;refine fn_intro func59 rfl ntmps59 rfl fun H0 fr w0 => ?_;refine g_seq (gRg ?_);refine go_p rfl rfl rfl (o_box rfl rfl) ?_;refine go_p rfl rfl rfl (oAs rfl) ?_;refine gNl (g_seq (gRg ?_));refine go_p rfl rfl rfl (oFa fi_44_0 rfl rfl rfl) ?_;refine go_p rfl rfl rfl (o_load isAgg3 rfl rfl) ?_;refine go_p rfl rfl rfl (o_cmp rfl rfl rfl) ?_;refine go_p rfl rfl rfl (oMv rfl) ?_
 apply go_or [(1, _), (2, _)] 4 18 (t := 14) ⟨rfl, rfl, trivial⟩ rfl
 ·intro hg_1 hk1
  refine gWp rfl rfl rfl hg_1 rfl rfl (oFa fi_44_0 rfl rfl rfl) ?_;refine gWp rfl rfl rfl hg_1 rfl rfl (o_load isAgg3 rfl rfl) ?_;refine gWp rfl rfl rfl hg_1 rfl rfl (o_cmp rfl rfl rfl) ?_;refine go_p rfl rfl rfl (o_pickF rfl hg_1 rfl) ?_;exact gMt hk1 (rfl) ⟨rfl, rfl, trivial⟩
 ·intro hg_1 hk1
  refine gKp rfl rfl rfl hg_1 rfl rfl ?_;refine gKp rfl rfl rfl hg_1 rfl rfl ?_;refine gKp rfl rfl rfl hg_1 rfl rfl ?_;refine go_p rfl rfl rfl (o_pickT rfl hg_1 rfl) ?_;exact gMt hk1 (rfl) ⟨rfl, rfl, trivial⟩
 refine go_p rfl rfl rfl (oMv rfl) ?_
 apply go_or [(1, _), (2, _)] 4 23 (t := 19) ⟨rfl, rfl, trivial⟩ rfl
 ·intro hg_2 hk2
  refine gWp rfl rfl rfl hg_2 rfl rfl (oFa fi_44_0 rfl rfl rfl) ?_;refine gWp rfl rfl rfl hg_2 rfl rfl (o_load isAgg3 rfl rfl) ?_;refine gWp rfl rfl rfl hg_2 rfl rfl (o_cmp rfl rfl rfl) ?_;refine go_p rfl rfl rfl (o_pickF rfl hg_2 rfl) ?_;exact gMt hk2 (rfl) ⟨rfl, rfl, trivial⟩
 ·intro hg_2 hk2
  refine gKp rfl rfl rfl hg_2 rfl rfl ?_;refine gKp rfl rfl rfl hg_2 rfl rfl ?_;refine gKp rfl rfl rfl hg_2 rfl rfl ?_;refine go_p rfl rfl rfl (o_pickT rfl hg_2 rfl) ?_;exact gMt hk2 (rfl) ⟨rfl, rfl, trivial⟩
 refine go_p rfl rfl rfl (oAs rfl) ?_;refine gNl (g_seq (gRg ?_));refine go_p rfl rfl rfl (oFa fi_44_0 rfl rfl rfl) ?_;refine go_p rfl rfl rfl (o_load isAgg3 rfl rfl) ?_;refine go_p rfl rfl rfl (o_cmp rfl rfl rfl) ?_;refine go_p rfl rfl rfl (oMv rfl) ?_
 apply go_or [(1, _), (2, _), (5, _)] 4 31 (t := 27) ⟨rfl, rfl, rfl, trivial⟩ rfl
 ·intro hg_3 hk3
  refine gWp rfl rfl rfl hg_3 rfl rfl (oFa fi_44_0 rfl rfl rfl) ?_;refine gWp rfl rfl rfl hg_3 rfl rfl (o_load isAgg3 rfl rfl) ?_;refine gWp rfl rfl rfl hg_3 rfl rfl (o_cmp rfl rfl rfl) ?_;refine go_p rfl rfl rfl (o_pickF rfl hg_3 rfl) ?_;exact gMt hk3 (rfl) ⟨rfl, rfl, rfl, trivial⟩
 ·intro hg_3 hk3
  refine gKp rfl rfl rfl hg_3 rfl rfl ?_;refine gKp rfl rfl rfl hg_3 rfl rfl ?_;refine gKp rfl rfl rfl hg_3 rfl rfl ?_;refine go_p rfl rfl rfl (o_pickT rfl hg_3 rfl) ?_;exact gMt hk3 (rfl) ⟨rfl, rfl, rfl, trivial⟩
 refine go_p rfl rfl rfl (oAs rfl) ?_;refine gNl (g_seq (g_seq (gRg ?_)));refine go_p rfl rfl rfl (oFa fi_44_0 rfl rfl rfl) ?_;refine go_p rfl rfl rfl (o_load isAgg3 rfl rfl) ?_;refine go_p rfl rfl rfl (o_cmp rfl rfl rfl) ?_;refine go_p rfl rfl rfl (oMv rfl) ?_
 apply go_or [(1, _), (2, _), (5, _), (6, _)] 4 39 (t := 35) ⟨rfl, rfl, rfl, rfl, trivial⟩ rfl
 ·intro hg_4 hk4
  refine gWp rfl rfl rfl hg_4 rfl rfl (oFa fi_44_0 rfl rfl rfl) ?_;refine gWp rfl rfl rfl hg_4 rfl rfl (o_load isAgg3 rfl rfl) ?_;refine gWp rfl rfl rfl hg_4 rfl rfl (o_cmp rfl rfl rfl) ?_;refine go_p rfl rfl rfl (o_pickF rfl hg_4 rfl) ?_;exact gMt hk4 (rfl) ⟨rfl, rfl, rfl, rfl, trivial⟩
 ·intro hg_4 hk4
  refine gKp rfl rfl rfl hg_4 rfl rfl ?_;refine gKp rfl rfl rfl hg_4 rfl rfl ?_;refine gKp rfl rfl rfl hg_4 rfl rfl ?_;refine go_p rfl rfl rfl (o_pickT rfl hg_4 rfl) ?_;exact gMt hk4 (rfl) ⟨rfl, rfl, rfl, rfl, trivial⟩
 refine go_p rfl rfl rfl (oMv rfl) ?_
 apply go_or [(1, _), (2, _), (5, _), (6, _)] 13 53 (t := 40) ⟨rfl, rfl, rfl, rfl, trivial⟩ rfl
 ·intro hg_5 hk5
  refine gWp rfl rfl rfl hg_5 rfl rfl (oMv rfl) ?_;refine gWp rfl rfl rfl hg_5 rfl rfl (o_not rfl) ?_;refine gWp rfl rfl rfl hg_5 rfl rfl (oMv rfl) ?_
  apply go_and [(1, _), (2, _), (5, _), (6, _), (40, _)] 4 47 (t := 43) ⟨rfl, rfl, rfl, rfl, rfl, trivial⟩ rfl
  ·intro hg_6 hk6
   refine gWp rfl rfl rfl hg_6 rfl rfl (oFa fi_44_0 rfl rfl rfl) ?_;refine gWp rfl rfl rfl hg_6 rfl rfl (o_load isAgg3 rfl rfl) ?_;refine gWp rfl rfl rfl hg_6 rfl rfl (o_cmp rfl rfl rfl) ?_;refine gWp rfl rfl rfl hg_5 rfl rfl (o_pickT rfl hg_6 rfl) ?_;exact gMt hk6 (rfl) ⟨rfl, rfl, rfl, rfl, rfl, trivial⟩
  ·intro hg_6 hk6
   refine gKp rfl rfl rfl hg_6 rfl rfl ?_;refine gKp rfl rfl rfl hg_6 rfl rfl ?_;refine gKp rfl rfl rfl hg_6 rfl rfl ?_;refine gWp rfl rfl rfl hg_5 rfl rfl (o_pickF rfl hg_6 rfl) ?_;exact gMt hk6 (rfl) ⟨rfl, rfl, rfl, rfl, rfl, trivial⟩
  refine gWp rfl rfl rfl hg_5 rfl rfl (oMv rfl) ?_
  apply go_and [(1, _), (2, _), (5, _), (6, _), (40, _)] 4 52 (t := 48) ⟨rfl, rfl, rfl, rfl, rfl, trivial⟩ rfl
  ·intro hg_7 hk7
   refine gWp rfl rfl rfl hg_7 rfl rfl (oFa fi_44_1 rfl rfl rfl) ?_;refine gWp rfl rfl rfl hg_7 rfl rfl (o_load isAgg3 rfl rfl) ?_;refine gWp rfl rfl rfl hg_7 rfl rfl (o_cmp rfl rfl rfl) ?_;refine gWp rfl rfl rfl hg_5 rfl rfl (o_pickT rfl hg_7 rfl) ?_;exact gMt hk7 (rfl) ⟨rfl, rfl, rfl, rfl, rfl, trivial⟩
  ·intro hg_7 hk7
   refine gKp rfl rfl rfl hg_7 rfl rfl ?_;refine gKp rfl rfl rfl hg_7 rfl rfl ?_;refine gKp rfl rfl rfl hg_7 rfl rfl ?_;refine gWp rfl rfl rfl hg_5 rfl rfl (o_pickF rfl hg_7 rfl) ?_;exact gMt hk7 (rfl) ⟨rfl, rfl, rfl, rfl, rfl, trivial⟩
  refine go_p rfl rfl rfl (o_pickF rfl hg_5 rfl) ?_;exact gMt hk5 (rfl) ⟨rfl, rfl, rfl, rfl, trivial⟩
 ·intro hg_5 hk5
  refine gKp rfl rfl rfl hg_5 rfl rfl ?_;refine gKp rfl rfl rfl hg_5 rfl rfl ?_;refine gKp rfl rfl rfl hg_5 rfl rfl ?_;refine gKu rfl rfl rfl rfl rfl ?_;refine gKu rfl rfl rfl rfl rfl ?_;refine gKu rfl rfl rfl rfl rfl ?_;refine gKp rfl rfl rfl hg_5 rfl rfl ?_;refine gKp rfl rfl rfl hg_5 rfl rfl ?_;refine gKu rfl rfl rfl rfl rfl ?_;refine gKu rfl rfl rfl rfl rfl ?_;refine gKu rfl rfl rfl rfl rfl ?_;refine gKp rfl rfl rfl hg_5 rfl rfl ?_;refine go_p rfl rfl rfl (o_pickT rfl hg_5 rfl) ?_;exact gMt hk5 (rfl) ⟨rfl, rfl, rfl, rfl, trivial⟩
 refine go_p rfl rfl rfl (oMv rfl) ?_
 apply go_or [(1, _), (2, _), (6, _)] 8 62 (t := 54) ⟨rfl, rfl, rfl, trivial⟩ rfl
 ·intro hg_8 hk8
  refine gWp rfl rfl rfl hg_8 rfl rfl (oMv rfl) ?_;refine gWp rfl rfl rfl hg_8 rfl rfl (o_not rfl) ?_;refine gWp rfl rfl rfl hg_8 rfl rfl (oMv rfl) ?_
  apply go_and [(1, _), (2, _), (6, _), (54, _)] 4 61 (t := 57) ⟨rfl, rfl, rfl, rfl, trivial⟩ rfl
  ·intro hg_9 hk9
   refine gWp rfl rfl rfl hg_9 rfl rfl (oFa fi_44_2 rfl rfl rfl) ?_;refine gWp rfl rfl rfl hg_9 rfl rfl (o_load isAgg3 rfl rfl) ?_;refine gWp rfl rfl rfl hg_9 rfl rfl (o_cmp rfl rfl rfl) ?_;refine gWp rfl rfl rfl hg_8 rfl rfl (o_pickT rfl hg_9 rfl) ?_;exact gMt hk9 (rfl) ⟨rfl, rfl, rfl, rfl, trivial⟩
  ·intro hg_9 hk9
   refine gKp rfl rfl rfl hg_9 rfl rfl ?_;refine gKp rfl rfl rfl hg_9 rfl rfl ?_;refine gKp rfl rfl rfl hg_9 rfl rfl ?_;refine gWp rfl rfl rfl hg_8 rfl rfl (o_pickF rfl hg_9 rfl) ?_;exact gMt hk9 (rfl) ⟨rfl, rfl, rfl, rfl, trivial⟩
  refine go_p rfl rfl rfl (o_pickF rfl hg_8 rfl) ?_;exact gMt hk8 (rfl) ⟨rfl, rfl, rfl, trivial⟩
 ·intro hg_8 hk8
  refine gKp rfl rfl rfl hg_8 rfl rfl ?_;refine gKp rfl rfl rfl hg_8 rfl rfl ?_;refine gKp rfl rfl rfl hg_8 rfl rfl ?_;refine gKu rfl rfl rfl rfl rfl ?_;refine gKu rfl rfl rfl rfl rfl ?_;refine gKu rfl rfl rfl rfl rfl ?_;refine gKp rfl rfl rfl hg_8 rfl rfl ?_;refine go_p rfl rfl rfl (o_pickT rfl hg_8 rfl) ?_;exact gMt hk8 (rfl) ⟨rfl, rfl, rfl, trivial⟩
 refine go_p rfl rfl rfl (oMv rfl) ?_
 apply go_or [(1, _), (2, _)] 9 72 (t := 63) ⟨rfl, rfl, trivial⟩ rfl
 ·intro hg_10 hk10
  refine gWp rfl rfl rfl hg_10 rfl rfl (oMv rfl) ?_;refine gWp rfl rfl rfl hg_10 rfl rfl (o_not rfl) ?_;refine gWp rfl rfl rfl hg_10 rfl rfl (oMv rfl) ?_
  apply go_and [(1, _), (2, _), (63, _)] 5 71 (t := 66) ⟨rfl, rfl, rfl, trivial⟩ rfl
  ·intro hg_11 hk11
   refine gWp rfl rfl rfl hg_11 rfl rfl (oFa fi_44_3 rfl rfl rfl) ?_;refine gWp rfl rfl rfl hg_11 rfl rfl (o_load isAgg42 rfl rfl) ?_;refine gWp rfl rfl rfl hg_11 rfl rfl (o_len runUnderlying42 rfl) ?_;refine gWp rfl rfl rfl hg_11 rfl rfl (o_cmp rfl rfl rfl) ?_;refine gWp rfl rfl rfl hg_10 rfl rfl (o_pickT rfl hg_11 rfl) ?_;exact gMt hk11 (rfl) ⟨rfl, rfl, rfl, trivial⟩
  ·intro hg_11 hk11
   refine gKp rfl rfl rfl hg_11 rfl rfl ?_;refine gKp rfl rfl rfl hg_11 rfl rfl ?_;refine gKp rfl rfl rfl hg_11 rfl rfl ?_;refine gKp rfl rfl rfl hg_11 rfl rfl ?_;refine gWp rfl rfl rfl hg_10 rfl rfl (o_pickF rfl hg_11 rfl) ?_;exact gMt hk11 (rfl) ⟨rfl, rfl, rfl, trivial⟩
  refine go_p rfl rfl rfl (o_pickF rfl hg_10 rfl) ?_;exact gMt hk10 (rfl) ⟨rfl, rfl, trivial⟩
 ·intro hg_10 hk10
  refine gKp rfl rfl rfl hg_10 rfl rfl ?_;refine gKp rfl rfl rfl hg_10 rfl rfl ?_;refine gKp rfl rfl rfl hg_10 rfl rfl ?_;refine gKu rfl rfl rfl rfl rfl ?_;refine gKu rfl rfl rfl rfl rfl ?_;refine gKu rfl rfl rfl rfl rfl ?_;refine gKu rfl rfl rfl rfl rfl ?_;refine gKp rfl rfl rfl hg_10 rfl rfl ?_;refine go_p rfl rfl rfl (o_pickT rfl hg_10 rfl) ?_;exact gMt hk10 (rfl) ⟨rfl, rfl, trivial⟩
 refine go_p rfl rfl rfl (oMv rfl) ?_
 apply go_or [(1, _), (2, _)] 5 78 (t := 73) ⟨rfl, rfl, trivial⟩ rfl
 ·intro hg_12 hk12
  refine gWp rfl rfl rfl hg_12 rfl rfl (oFa fi_44_3 rfl rfl rfl) ?_;refine gWp rfl rfl rfl hg_12 rfl rfl (o_load isAgg42 rfl rfl) ?_;refine gWp rfl rfl rfl hg_12 rfl rfl (o_len runUnderlying42 rfl) ?_;refine gWp rfl rfl rfl hg_12 rfl rfl (o_cmp rfl rfl rfl) ?_;refine go_p rfl rfl rfl (o_pickF rfl hg_12 rfl) ?_;exact gMt hk12 (rfl) ⟨rfl, rfl, trivial⟩
 ·intro hg_12 hk12
  refine gKp rfl rfl rfl hg_12 rfl rfl ?_;refine gKp rfl rfl rfl hg_12 rfl rfl ?_;refine gKp rfl rfl rfl hg_12 rfl rfl ?_;refine gKp rfl rfl rfl hg_12 rfl rfl ?_;refine go_p rfl rfl rfl (o_pickT rfl hg_12 rfl) ?_;exact gMt hk12 (rfl) ⟨rfl, rfl, trivial⟩
 refine gNl ?_;refine gCd rfl (fun hc1 => ?_) (fun hc1 => ?_)
 ·replace hm := cond_t hc1 hm
  refine g_seq (gRg ?_);refine go_p rfl rfl rfl (oAs rfl) ?_;refine gNl (g_ret ?_);exact retK (ret_one' rfl (ret_tmp rfl) (perm_drop _)) (congrArg (fun (p : Bool) => (.bool p : D)) (some_eq hm))
 ·replace hm := cond_f hc1 hm
  refine gSp (g_seq (g_seq (gRg ?_)));refine go_p rfl rfl rfl (oFa fi_44_0 rfl rfl rfl) ?_;refine go_p rfl rfl rfl (o_load isAgg3 rfl rfl) ?_;refine go_p rfl rfl rfl (o_cmp rfl rfl rfl) ?_;refine go_p rfl rfl rfl (oMv rfl) ?_
  apply go_and [(1, _), (2, _)] 9 91 (t := 82) ⟨rfl, rfl, trivial⟩ rfl
  ·intro hg_13 hk13
   refine gWp rfl rfl rfl hg_13 rfl rfl (oFa fi_44_1 rfl rfl rfl) ?_;refine gWp rfl rfl rfl hg_13 rfl rfl (o_load isAgg3 rfl rfl) ?_;refine gWp rfl rfl rfl hg_13 rfl rfl (o_cmp rfl rfl rfl) ?_;refine gWp rfl rfl rfl hg_13 rfl rfl (oMv rfl) ?_
   apply go_or [(1, _), (2, _), (82, _)] 4 90 (t := 86) ⟨rfl, rfl, rfl, trivial⟩ rfl
   ·intro hg_14 hk14
    refine gWp rfl rfl rfl hg_14 rfl rfl (oFa fi_44_1 rfl rfl rfl) ?_;refine gWp rfl rfl rfl hg_14 rfl rfl (o_load isAgg3 rfl rfl) ?_;refine gWp rfl rfl rfl hg_14 rfl rfl (o_cmp rfl rfl rfl) ?_;refine gWp rfl rfl rfl hg_13 rfl rfl (o_pickF rfl hg_14 rfl) ?_;exact gMt hk14 (rfl) ⟨rfl, rfl, rfl, trivial⟩
   ·intro hg_14 hk14
    refine gKp rfl rfl rfl hg_14 rfl rfl ?_;refine gKp rfl rfl rfl hg_14 rfl rfl ?_;refine gKp rfl rfl rfl hg_14 rfl rfl ?_;refine gWp rfl rfl rfl hg_13 rfl rfl (o_pickT rfl hg_14 rfl) ?_;exact gMt hk14 (rfl) ⟨rfl, rfl, rfl, trivial⟩
   refine go_p rfl rfl rfl (o_pickT rfl hg_13 rfl) ?_;exact gMt hk13 (rfl) ⟨rfl, rfl, trivial⟩
  ·intro hg_13 hk13
   refine gKp rfl rfl rfl hg_13 rfl rfl ?_;refine gKp rfl rfl rfl hg_13 rfl rfl ?_;refine gKp rfl rfl rfl hg_13 rfl rfl ?_;refine gKp rfl rfl rfl hg_13 rfl rfl ?_;refine gKu rfl rfl rfl rfl rfl ?_;refine gKu rfl rfl rfl rfl rfl ?_;refine gKu rfl rfl rfl rfl rfl ?_;refine gKp rfl rfl rfl hg_13 rfl rfl ?_;refine go_p rfl rfl rfl (o_pickF rfl hg_13 rfl) ?_;exact gMt hk13 (rfl) ⟨rfl, rfl, trivial⟩
  refine gNl ?_;refine gCd rfl (fun hc2 => ?_) (fun hc2 => ?_)
  ·replace hm := cond_t hc2 hm
   refine g_seq (gRg ?_);refine go_p rfl rfl rfl (oAs rfl) ?_;refine gNl (g_ret ?_);exact retK (ret_one' rfl (ret_tmp rfl) (perm_drop _)) (congrArg (fun (p : Bool) => (.bool p : D)) (some_eq hm))
  ·replace hm := cond_f hc2 hm
   refine gSp (g_seq (g_seq (gRg ?_)));refine go_p rfl rfl rfl (oAs rfl) ?_;refine gNl ?_;obtain ⟨o_1, hj1, hm1⟩ := bind_some hm;refine g_cut_m [(1, _), (2, _)] [] (fun (st : Unit) (hid : Unit) => match st, hid with | _, _ => []) (fun F (st : Unit) (hid : Unit) => match st, hid with | _, _ => []) (fun st => Out.go (st) = o_1) ⟨rfl, rfl, trivial⟩ trivial ?_ ?_
   ·skip
    refine g_block ?_;refine g_loop_m [(1, _), (2, _)] [] (fun (st : Int) (hid : Unit) => match st, hid with | i1, _ => [(7, .i64 i1)]) (fun F (st : Int) (hid : Unit) => match st, hid with | i1, _ => []) () hj1 (fun _ => rfl) ⟨rfl, rfl, trivial⟩ trivial ⟨rfl, trivial⟩ rfl ?_;rintro n i1 _ hj1;rw [m_rg_right_l1] at hj1;refine g_norm (L' := [(7, .i64 i1), (1, _), (2, _)]) (ms' := []) rfl rfl ?_;refine g_seq (g_seq (gRg ?_));refine go_p rfl rfl rfl (oMv rfl) ?_;refine go_p rfl rfl rfl (oFa fi_44_3 rfl rfl rfl) ?_;refine go_p rfl rfl rfl (o_load isAgg42 rfl rfl) ?_;refine go_p rfl rfl rfl (o_len runUnderlying42 rfl) ?_;refine go_p rfl rfl rfl (o_cmp rfl rfl rfl) ?_;refine gNl ?_;refine gCd rfl (fun hc3 => ?_) (fun hc3 => ?_)
    ·replace hj1 := cond_t hc3 hj1
     refine gSp (g_seq (g_block (g_seq (gRg ?_))));refine go_p rfl rfl rfl (oFa fi_44_3 rfl rfl rfl) ?_;refine go_p rfl rfl rfl (o_load isAgg42 rfl rfl) ?_;refine go_p rfl rfl rfl (oMv rfl) ?_;obtain ⟨x1, hx1, hj1⟩ := bind_some hj1;refine go_p rfl rfl rfl (oIm runUnderlying42 sizeOf98 rfl rfl hx1) ?_;refine go_p rfl rfl rfl (oFa fi_98_0 rfl rfl rfl) ?_;refine go_p rfl rfl rfl (o_load isAgg9 rfl rfl) ?_;refine go_p rfl rfl rfl (oAs rfl) ?_;refine gNl (g_seq (gRg ?_));refine go_p rfl rfl rfl (oFa fi_44_0 rfl rfl rfl) ?_;refine go_p rfl rfl rfl (o_load isAgg3 rfl rfl) ?_;refine go_p rfl rfl rfl (o_cmp rfl rfl rfl) ?_;refine go_p rfl rfl rfl (oMv rfl) ?_;obtain ⟨p1, hp_15, hj1⟩ := bind_some hj1;refine go_two [(1, _), (2, _), (7, _), (8, _)] 4 112 p1 (t := 108) ⟨rfl, rfl, rfl, rfl, trivial⟩ rfl (fun hg_15 hk15 => ?_) (fun hg_15 hk15 => ?_) ?_
     ·replace hp_15 := cond_t hg_15 hp_15
      refine gWp rfl rfl rfl hg_15 rfl rfl (oMv rfl) ?_;obtain ⟨x2, hx2, hp_15⟩ := bind_some hp_15;refine gWp rfl rfl rfl hg_15 rfl rfl (o_call0 call51 rfl (w_ra_Name hx2)) ?_;refine gWp rfl rfl rfl hg_15 rfl rfl (o_not rfl) ?_;refine go_p rfl rfl rfl (o_pickT rfl hg_15 rfl) ?_;exact gMt hk15 (congrArg (fun b => some (D.bool b)) (some_eq hp_15)) ⟨rfl, rfl, rfl, rfl, trivial⟩
     ·replace hp_15 := cond_f hg_15 hp_15
      refine gKp rfl rfl rfl hg_15 rfl rfl ?_;refine gKp rfl rfl rfl hg_15 rfl rfl ?_;refine gKp rfl rfl rfl hg_15 rfl rfl ?_;refine go_p rfl rfl rfl (o_pickF rfl hg_15 rfl) ?_;exact gMt hk15 (congrArg (fun b => some (D.bool b)) (some_eq hp_15)) ⟨rfl, rfl, rfl, rfl, trivial⟩
     refine go_p rfl rfl rfl (oMv rfl) ?_;obtain ⟨p2, hp_16, hj1⟩ := bind_some hj1;refine go_two [(1, _), (2, _), (7, _), (8, _)] 9 122 p2 (t := 113) ⟨rfl, rfl, rfl, rfl, trivial⟩ rfl (fun hg_16 hk16 => ?_) (fun hg_16 hk16 => ?_) ?_
     ·replace hp_16 := cond_t hg_16 hp_16
      refine gKp rfl rfl rfl hg_16 rfl rfl ?_;refine gKp rfl rfl rfl hg_16 rfl rfl ?_;refine gKp rfl rfl rfl hg_16 rfl rfl ?_;refine gKp rfl rfl rfl hg_16 rfl rfl ?_;refine gKu rfl rfl rfl rfl rfl ?_;refine gKu rfl rfl rfl rfl rfl ?_;refine gKu rfl rfl rfl rfl rfl ?_;refine gKp rfl rfl rfl hg_16 rfl rfl ?_;refine go_p rfl rfl rfl (o_pickT rfl hg_16 rfl) ?_;exact gMt hk16 (congrArg (fun b => some (D.bool b)) (some_eq hp_16)) ⟨rfl, rfl, rfl, rfl, trivial⟩
     ·replace hp_16 := cond_f hg_16 hp_16
      refine gWp rfl rfl rfl hg_16 rfl rfl (oFa fi_44_0 rfl rfl rfl) ?_;refine gWp rfl rfl rfl hg_16 rfl rfl (o_load isAgg3 rfl rfl) ?_;refine gWp rfl rfl rfl hg_16 rfl rfl (o_cmp rfl rfl rfl) ?_;refine gWp rfl rfl rfl hg_16 rfl rfl (oMv rfl) ?_;obtain ⟨p3, hp_17, hp_16⟩ := bind_some hp_16;refine go_two [(1, _), (2, _), (7, _), (8, _), (113, _)] 4 121 p3 (t := 117) ⟨rfl, rfl, rfl, rfl, rfl, trivial⟩ rfl (fun hg_17 hk17 => ?_) (fun hg_17 hk17 => ?_) ?_
      ·replace hp_17 := cond_t hg_17 hp_17
       refine gWp rfl rfl rfl hg_17 rfl rfl (oMv rfl) ?_;obtain ⟨x3, hx3, hp_17⟩ := bind_some hp_17;refine gWp rfl rfl rfl hg_17 rfl rfl (o_call0 call100 rfl (w_ra_Tag hx3)) ?_;refine gWp rfl rfl rfl hg_17 rfl rfl (o_not rfl) ?_;refine gWp rfl rfl rfl hg_16 rfl rfl (o_pickT rfl hg_17 rfl) ?_;exact gMt hk17 (congrArg (fun b => some (D.bool b)) (some_eq hp_17)) ⟨rfl, rfl, rfl, rfl, rfl, trivial⟩
      ·replace hp_17 := cond_f hg_17 hp_17
       refine gKp rfl rfl rfl hg_17 rfl rfl ?_;refine gKp rfl rfl rfl hg_17 rfl rfl ?_;refine gKp rfl rfl rfl hg_17 rfl rfl ?_;refine gWp rfl rfl rfl hg_16 rfl rfl (o_pickF rfl hg_17 rfl) ?_;exact gMt hk17 (congrArg (fun b => some (D.bool b)) (some_eq hp_17)) ⟨rfl, rfl, rfl, rfl, rfl, trivial⟩
      refine go_p rfl rfl rfl (o_pickF rfl hg_16 rfl) ?_;exact gMt hk16 (congrArg (fun b => some (D.bool b)) (some_eq hp_16)) ⟨rfl, rfl, rfl, rfl, trivial⟩
     refine go_p rfl rfl rfl (oMv rfl) ?_;obtain ⟨p4, hp_18, hj1⟩ := bind_some hj1;refine go_two [(1, _), (2, _), (7, _)] 14 137 p4 (t := 123) ⟨rfl, rfl, rfl, trivial⟩ rfl (fun hg_18 hk18 => ?_) (fun hg_18 hk18 => ?_) ?_
     ·replace hp_18 := cond_t hg_18 hp_18
      refine gKp rfl rfl rfl hg_18 rfl rfl ?_;refine gKp rfl rfl rfl hg_18 rfl rfl ?_;refine gKp rfl rfl rfl hg_18 rfl rfl ?_;refine gKu rfl rfl rfl rfl rfl ?_;refine gKu rfl rfl rfl rfl rfl ?_;refine gKu rfl rfl rfl rfl rfl ?_;refine gKu rfl rfl rfl rfl rfl ?_;refine gKu rfl rfl rfl rfl rfl ?_;refine gKu rfl rfl rfl rfl rfl ?_;refine gKu rfl rfl rfl rfl rfl ?_;refine gKu rfl rfl rfl rfl rfl ?_;refine gKu rfl rfl rfl rfl rfl ?_;refine gKp rfl rfl rfl hg_18 rfl rfl ?_;refine go_p rfl rfl rfl (o_pickT rfl hg_18 rfl) ?_;exact gMt hk18 (congrArg (fun b => some (D.bool b)) (some_eq hp_18)) ⟨rfl, rfl, rfl, trivial⟩
     ·replace hp_18 := cond_f hg_18 hp_18
      refine gWp rfl rfl rfl hg_18 rfl rfl (oMv rfl) ?_;refine gWp rfl rfl rfl hg_18 rfl rfl (o_cmp rfl rfl rfl) ?_;refine gWp rfl rfl rfl hg_18 rfl rfl (oMv rfl) ?_;obtain ⟨p5, hp_19, hp_18⟩ := bind_some hp_18;refine go_two [(1, _), (2, _), (7, _), (123, _)] 10 136 p5 (t := 126) ⟨rfl, rfl, rfl, rfl, trivial⟩ rfl (fun hg_19 hk19 => ?_) (fun hg_19 hk19 => ?_) ?_
      ·replace hp_19 := cond_t hg_19 hp_19
       refine gWp rfl rfl rfl hg_19 rfl rfl (oFa fi_44_3 rfl rfl rfl) ?_;refine gWp rfl rfl rfl hg_19 rfl rfl (o_load isAgg42 rfl rfl) ?_;refine gWp rfl rfl rfl hg_19 rfl rfl (oMv rfl) ?_;obtain ⟨hg4, hp_19⟩ := grd_some hp_19;refine gWp rfl rfl rfl hg_19 rfl rfl (o_sub rfl rfl (i64_id hg4)) ?_;obtain ⟨x4, hx5, hp_19⟩ := bind_some hp_19;refine gWp rfl rfl rfl hg_19 rfl rfl (oIm runUnderlying42 sizeOf98 rfl rfl hx5) ?_;refine gWp rfl rfl rfl hg_19 rfl rfl (oFa fi_98_0 rfl rfl rfl) ?_;refine gWp rfl rfl rfl hg_19 rfl rfl (o_load isAgg9 rfl rfl) ?_;refine gWp rfl rfl rfl hg_19 rfl rfl (oMv rfl) ?_;refine gWp rfl rfl rfl hg_19 rfl rfl (o_cmps rfl rfl rfl) ?_;refine gWp rfl rfl rfl hg_18 rfl rfl (o_pickT rfl hg_19 rfl) ?_;exact gMt hk19 (congrArg (fun b => some (D.bool b)) (some_eq hp_19)) ⟨rfl, rfl, rfl, rfl, trivial⟩
      ·replace hp_19 := cond_f hg_19 hp_19
       refine gKp rfl rfl rfl hg_19 rfl rfl ?_;refine gKp rfl rfl rfl hg_19 rfl rfl ?_;refine gKp rfl rfl rfl hg_19 rfl rfl ?_;refine gKp rfl rfl rfl hg_19 rfl rfl ?_;refine gKp rfl rfl rfl hg_19 rfl rfl ?_;refine gKp rfl rfl rfl hg_19 rfl rfl ?_;refine gKp rfl rfl rfl hg_19 rfl rfl ?_;refine gKp rfl rfl rfl hg_19 rfl rfl ?_;refine gKp rfl rfl rfl hg_19 rfl rfl ?_;refine gWp rfl rfl rfl hg_18 rfl rfl (o_pickF rfl hg_19 rfl) ?_;exact gMt hk19 (congrArg (fun b => some (D.bool b)) (some_eq hp_19)) ⟨rfl, rfl, rfl, rfl, trivial⟩
      refine go_p rfl rfl rfl (o_pickF rfl hg_18 rfl) ?_;exact gMt hk18 (congrArg (fun b => some (D.bool b)) (some_eq hp_18)) ⟨rfl, rfl, rfl, trivial⟩
     refine gNl ?_;refine gCd rfl (fun hc4 => ?_) (fun hc4 => ?_)
     ·replace hj1 := cond_t hc4 hj1
      refine g_seq (gRg ?_);refine go_p rfl rfl rfl (oAs rfl) ?_;refine gNl (g_ret ?_);obtain rfl := some_eq hj1
      replace hm1 := on_ret hm1
      exact retK (ret_one' rfl (ret_tmp rfl) (perm_drop _)) (congrArg (fun (p : Bool) => (.bool p : D)) (some_eq hm1))
     ·replace hj1 := cond_f hc4 hj1
      refine gSp (gRg ?_);refine go_p rfl rfl rfl (oMv rfl) ?_;obtain ⟨hg6, hj1⟩ := grd_some hj1;refine go_p rfl rfl rfl (o_add rfl rfl (i64_id hg6)) ?_;refine go_p rfl rfl rfl (oAs rfl) ?_;refine gNl ?_;exact ⟨_, (), hj1, ⟨rfl, trivial⟩, ⟨rfl, rfl, trivial⟩, [], rfl⟩
    ·replace hj1 := cond_f hc3 hj1
     refine g_exit ?_;exact ⟨_, (), some_eq hj1, trivial, ⟨rfl, rfl, trivial⟩, [], rfl⟩
   ·rintro _ _ hst
    subst hst
    replace hm1 := on_go hm1
    refine k_norm (L' := [(1, _), (2, _)]) (ms' := []) rfl rfl ?_;refine g_seq (gRg ?_);refine go_p rfl rfl rfl (o_load_agg isAgg44 sizeOf44 rfl rfl) ?_;obtain ⟨x5, hx7, hm1⟩ := bind_some hm1;refine go_p rfl rfl rfl (o_call0 call101 rfl (w_rg_Kids hx7)) ?_;refine go_p rfl rfl rfl (oAs rfl) ?_;refine gNl (g_seq (g_seq (gRg ?_)));refine go_p rfl rfl rfl (oAs rfl) ?_;refine gNl ?_;obtain ⟨o_2, hj2, hm2⟩ := bind_some hm1;refine g_cut_m [] [] (fun (st : Unit) (hid : Unit) => match st, hid with | _, _ => []) (fun F (st : Unit) (hid : Unit) => match st, hid with | _, _ => []) (fun st => Out.go (st) = o_2) trivial trivial ?_ ?_
    ·skip
     refine g_block ?_;refine g_loop_m [(1, _), (9, _)] [] (fun (st : Int) (hid : Unit) => match st, hid with | i2, _ => [(10, .i64 i2)]) (fun F (st : Int) (hid : Unit) => match st, hid with | i2, _ => []) () hj2 (fun _ => rfl) ⟨rfl, rfl, trivial⟩ trivial ⟨rfl, trivial⟩ rfl ?_;rintro n i2 _ hj2;rw [m_rg_right_l2] at hj2;refine g_norm (L' := [(10, .i64 i2), (1, _), (9, _)]) (ms' := []) rfl rfl ?_;refine g_seq (g_seq (gRg ?_));refine go_p rfl rfl rfl (oMv rfl) ?_;refine go_p rfl rfl rfl (oMv rfl) ?_;refine go_p rfl rfl rfl (o_len runUnderlying25 rfl) ?_;refine go_p rfl rfl rfl (o_cmp rfl rfl rfl) ?_;refine gNl ?_;refine gCd rfl (fun hc5 => ?_) (fun hc5 => ?_)
     ·replace hj2 := cond_t hc5 hj2
      refine gSp (g_seq (g_block (g_seq (gRg ?_))));refine go_p rfl rfl rfl (oMv rfl) ?_;refine go_p rfl rfl rfl (oMv rfl) ?_;obtain ⟨x6, hx8, hj2⟩ := bind_some hj2;refine go_p rfl rfl rfl (oIm runUnderlying25 sizeOf3 rfl rfl hx8) ?_;refine go_p rfl rfl rfl (o_load isAgg3 rfl rfl) ?_;refine go_p rfl rfl rfl (o_cmp rfl rfl rfl) ?_;refine go_p rfl rfl rfl (oMv rfl) ?_;obtain ⟨p6, hp_20, hj2⟩ := bind_some hj2;refine go_two [(1, _), (9, _), (10, _)] 7 158 p6 (t := 151) ⟨rfl, rfl, rfl, trivial⟩ rfl (fun hg_20 hk20 => ?_) (fun hg_20 hk20 => ?_) ?_
      ·replace hp_20 := cond_t hg_20 hp_20
       refine gKp rfl rfl rfl hg_20 rfl rfl ?_;refine gKp rfl rfl rfl hg_20 rfl rfl ?_;refine gKp rfl rfl rfl hg_20 rfl rfl ?_;refine gKp rfl rfl rfl hg_20 rfl rfl ?_;refine gKp rfl rfl rfl hg_20 rfl rfl ?_;refine gKp rfl rfl rfl hg_20 rfl rfl ?_;refine go_p rfl rfl rfl (o_pickT rfl hg_20 rfl) ?_;exact gMt hk20 (congrArg (fun b => some (D.bool b)) (some_eq hp_20)) ⟨rfl, rfl, rfl, trivial⟩
      ·replace hp_20 := cond_f hg_20 hp_20
       refine gWp rfl rfl rfl hg_20 rfl rfl (oMv rfl) ?_;refine gWp rfl rfl rfl hg_20 rfl rfl (oMv rfl) ?_;obtain ⟨x7, hx9, hp_20⟩ := bind_some hp_20;refine gWp rfl rfl rfl hg_20 rfl rfl (oIm runUnderlying25 sizeOf3 rfl rfl hx9) ?_;refine gWp rfl rfl rfl hg_20 rfl rfl (o_load isAgg3 rfl rfl) ?_;refine gWp rfl rfl rfl hg_20 rfl rfl (oMv rfl) ?_;refine gWp rfl rfl rfl hg_20 rfl rfl (o_cmp rfl rfl rfl) ?_;refine go_p rfl rfl rfl (o_pickF rfl hg_20 rfl) ?_;exact gMt hk20 (congrArg (fun b => some (D.bool b)) (some_eq hp_20)) ⟨rfl, rfl, rfl, trivial⟩
      refine gNl ?_;refine gCd rfl (fun hc6 => ?_) (fun hc6 => ?_)
      ·replace hj2 := cond_t hc6 hj2
       refine g_seq (gRg ?_);refine go_p rfl rfl rfl (oAs rfl) ?_;refine gNl (g_ret ?_);obtain rfl := some_eq hj2
       replace hm2 := on_ret hm2
       exact retK (ret_one' rfl (ret_tmp rfl) (perm_drop _)) (congrArg (fun (p : Bool) => (.bool p : D)) (some_eq hm2))
      ·replace hj2 := cond_f hc6 hj2
       refine gSp (gRg ?_);refine go_p rfl rfl rfl (oMv rfl) ?_;obtain ⟨hg10, hj2⟩ := grd_some hj2;refine go_p rfl rfl rfl (o_add rfl rfl (i64_id hg10)) ?_;refine go_p rfl rfl rfl (oAs rfl) ?_;refine gNl ?_;exact ⟨_, (), hj2, ⟨rfl, trivial⟩, ⟨rfl, rfl, trivial⟩, [], rfl⟩
     ·replace hj2 := cond_f hc5 hj2
      refine g_exit ?_;exact ⟨_, (), some_eq hj2, trivial, trivial, [], rfl⟩
    ·rintro _ _ hst
     subst hst
     replace hm2 := on_go hm2
     refine k_norm (L' := []) (ms' := []) rfl rfl ?_;refine g_seq (gRg ?_);refine go_p rfl rfl rfl (oAs rfl) ?_;refine gNl (g_ret ?_);exact retK (ret_one' rfl (ret_tmp rfl) (perm_drop _)) (congrArg (fun (p : Bool) => (.bool p : D)) (some_eq hm2))
noncomputable def m_rg_May_l1 (t1 : ApiType) : Nat -> Int -> Option (Out Int Unit)
 | 0, _ => none
 | n + 1, i1 =>
  bif (decide (i1 < (t1.l.length : Int))) then
   (idx t1.l i1).bind fun x1 =>
   (m_rg_right x1 (t1.l.length : Int)).bind fun x2 =>
   bif (!x2) then
    some (Out.ret 4)
   else
    grd (InR (i1 + 1)) <|
    m_rg_May_l1 t1 n (i1 + 1)
  else
   some (Out.go (()))
noncomputable def m_rg_May_l3 (t1 : ApiType) : Nat -> (Bool × Int × (List Bool)) -> Option (Bool × (List Bool))
 | 0, _ => none
 | n + 1, (more3, i2, l4) =>
  bif (decide (i2 < (t1.l.length : Int))) then
   (idx t1.l i2).bind fun x3 =>
   (bif ((!decide (x3.kind = 9)) && (!decide (x3.kind = 10))) then (some true) else ((idx l4 x3.a).bind fun x4 =>
   (bif x4 then ((idx l4 x3.b).bind fun x5 =>
   some x5) else (some false)).bind fun p2 =>
   some p2)).bind fun p1 =>
   (bif p1 then ((idx l4 i2).bind fun x6 =>
   some (!x6)) else (some false)).bind fun p3 =>
   bif p3 then
    (idx l4 i2).bind fun x7 =>
    grd (InR (i2 + 1)) <|
    m_rg_May_l3 t1 n (true, (i2 + 1), (l4.set (i2).toNat true))
   else
    grd (InR (i2 + 1)) <|
    m_rg_May_l3 t1 n (more3, (i2 + 1), l4)
  else
   some (more3, l4)
noncomputable def m_rg_May_l2 (t1 : ApiType) : Nat -> (Bool × (List Bool)) -> Option (List Bool)
 | 0, _ => none
 | n + 1, (more1, l2) =>
  bif more1 then
   (m_rg_May_l3 t1 FU (false, 0, l2) : Option (Bool × (List Bool))).bind fun (more2, l3) =>
   m_rg_May_l2 t1 n (more2, l3)
  else
   some l2
noncomputable def m_rg_May_l4 (l1 : (List Bool)) : Nat -> Int -> Option (Out Int Unit)
 | 0, _ => none
 | n + 1, i3 =>
  bif (decide (i3 < (l1.length : Int))) then
   (idx l1 i3).bind fun x8 =>
   bif (!x8) then
    some (Out.ret 4)
   else
    grd (InR (i3 + 1)) <|
    m_rg_May_l4 l1 n (i3 + 1)
  else
   some (Out.go (()))
noncomputable def m_rg_May (t1 : ApiType) : Option Int :=
 bif ((decide ((t1.l.length : Int) < 1)) || (decide (2000 < (t1.l.length : Int)))) then
  some 8
 else
  bif ((decide (t1.root < 0)) || (decide ((t1.l.length : Int) <= t1.root))) then
   some 4
  else
   ((m_rg_May_l1 t1 FU 0 : Option (Out Int Unit))).bind (fun oo => oo.on (fun r2 => some r2) (fun _ =>
   grd (0 <= (t1.l.length : Int)) <|
   grd (((t1.l.length : Int)).toNat * 1 <= 140737488355328) <|
   (m_rg_May_l2 t1 FU (true, (List.replicate ((t1.l.length : Int)).toNat (false : Bool))) : Option (List Bool)).bind fun l1 =>
   ((m_rg_May_l4 l1 FU 0 : Option (Out Int Unit))).bind (fun oo => oo.on (fun r1 => some r1) (fun _ =>
   some 0))))
theorem w_rg_May {t1 : ApiType} {r_1 : Int} (hm : m_rg_May t1 = some r_1) : Fn0 Tryz.prog 16 [ApiType.d t1] (.i64 r_1) := by
 unfold m_rg_May at hm;refine fn_intro func16 rfl ntmps16 rfl fun H0 fr w0 => ?_;refine g_seq (gRg ?_);refine go_p rfl rfl rfl (o_box rfl rfl) ?_;refine go_p rfl rfl rfl (oAs rfl) ?_;refine gNl (g_seq (g_seq (gRg ?_)));refine go_p rfl rfl rfl (oFa fi_24_0 rfl rfl rfl) ?_;refine go_p rfl rfl rfl (o_load isAgg22 rfl rfl) ?_;refine go_p rfl rfl rfl (o_len runUnderlying22 rfl) ?_;refine go_p rfl rfl rfl (o_cmp rfl rfl rfl) ?_;refine go_p rfl rfl rfl (oMv rfl) ?_
 apply go_or [(1, _)] 5 19 (t := 14) ⟨rfl, trivial⟩ rfl
 ·intro hg_1 hk1
  refine gWp rfl rfl rfl hg_1 rfl rfl (oFa fi_24_0 rfl rfl rfl) ?_;refine gWp rfl rfl rfl hg_1 rfl rfl (o_load isAgg22 rfl rfl) ?_;refine gWp rfl rfl rfl hg_1 rfl rfl (o_len runUnderlying22 rfl) ?_;refine gWp rfl rfl rfl hg_1 rfl rfl (o_cmp rfl rfl rfl) ?_;refine go_p rfl rfl rfl (o_pickF rfl hg_1 rfl) ?_;exact gMt hk1 (rfl) ⟨rfl, trivial⟩
 ·intro hg_1 hk1
  refine gKp rfl rfl rfl hg_1 rfl rfl ?_;refine gKp rfl rfl rfl hg_1 rfl rfl ?_;refine gKp rfl rfl rfl hg_1 rfl rfl ?_;refine gKp rfl rfl rfl hg_1 rfl rfl ?_;refine go_p rfl rfl rfl (o_pickT rfl hg_1 rfl) ?_;exact gMt hk1 (rfl) ⟨rfl, trivial⟩
 refine gNl ?_;refine gCd rfl (fun hc1 => ?_) (fun hc1 => ?_)
 ·replace hm := cond_t hc1 hm
  refine g_seq (gRg ?_);refine go_p rfl rfl rfl (oAs rfl) ?_;refine gNl (g_ret ?_);exact retK (ret_one' rfl (ret_tmp rfl) (perm_drop _)) (congrArg (fun (p : Int) => (.i64 p : D)) (some_eq hm))
 ·replace hm := cond_f hc1 hm
  refine gSp (g_seq (g_seq (gRg ?_)));refine go_p rfl rfl rfl (oFa fi_24_1 rfl rfl rfl) ?_;refine go_p rfl rfl rfl (o_load isAgg3 rfl rfl) ?_;refine go_p rfl rfl rfl (o_cmp rfl rfl rfl) ?_;refine go_p rfl rfl rfl (oMv rfl) ?_
  apply go_or [(1, _)] 7 30 (t := 23) ⟨rfl, trivial⟩ rfl
  ·intro hg_2 hk2
   refine gWp rfl rfl rfl hg_2 rfl rfl (oFa fi_24_1 rfl rfl rfl) ?_;refine gWp rfl rfl rfl hg_2 rfl rfl (o_load isAgg3 rfl rfl) ?_;refine gWp rfl rfl rfl hg_2 rfl rfl (oFa fi_24_0 rfl rfl rfl) ?_;refine gWp rfl rfl rfl hg_2 rfl rfl (o_load isAgg22 rfl rfl) ?_;refine gWp rfl rfl rfl hg_2 rfl rfl (o_len runUnderlying22 rfl) ?_;refine gWp rfl rfl rfl hg_2 rfl rfl (o_cmp rfl rfl rfl) ?_;refine go_p rfl rfl rfl (o_pickF rfl hg_2 rfl) ?_;exact gMt hk2 (rfl) ⟨rfl, trivial⟩
  ·intro hg_2 hk2
   refine gKp rfl rfl rfl hg_2 rfl rfl ?_;refine gKp rfl rfl rfl hg_2 rfl rfl ?_;refine gKp rfl rfl rfl hg_2 rfl rfl ?_;refine gKp rfl rfl rfl hg_2 rfl rfl ?_;refine gKp rfl rfl rfl hg_2 rfl rfl ?_;refine gKp rfl rfl rfl hg_2 rfl rfl ?_;refine go_p rfl rfl rfl (o_pickT rfl hg_2 rfl) ?_;exact gMt hk2 (rfl) ⟨rfl, trivial⟩
  refine gNl ?_;refine gCd rfl (fun hc2 => ?_) (fun hc2 => ?_)
  ·replace hm := cond_t hc2 hm
   refine g_seq (gRg ?_);refine go_p rfl rfl rfl (oAs rfl) ?_;refine gNl (g_ret ?_);exact retK (ret_one' rfl (ret_tmp rfl) (perm_drop _)) (congrArg (fun (p : Int) => (.i64 p : D)) (some_eq hm))
  ·replace hm := cond_f hc2 hm
   refine gSp (g_seq (g_seq (gRg ?_)));refine go_p rfl rfl rfl (oAs rfl) ?_;refine gNl ?_;obtain ⟨o_1, hj1, hm1⟩ := bind_some hm;refine g_cut_m [(1, _)] [] (fun (st : Unit) (hid : Unit) => match st, hid with | _, _ => []) (fun F (st : Unit) (hid : Unit) => match st, hid with | _, _ => []) (fun st => Out.go (st) = o_1) ⟨rfl, trivial⟩ trivial ?_ ?_
   ·skip
    refine g_block ?_;refine g_loop_m [(1, _)] [] (fun (st : Int) (hid : Unit) => match st, hid with | i1, _ => [(3, .i64 i1)]) (fun F (st : Int) (hid : Unit) => match st, hid with | i1, _ => []) () hj1 (fun _ => rfl) ⟨rfl, trivial⟩ trivial ⟨rfl, trivial⟩ rfl ?_;rintro n i1 _ hj1;rw [m_rg_May_l1] at hj1;refine g_norm (L' := [(3, .i64 i1), (1, _)]) (ms' := []) rfl rfl ?_;refine g_seq (g_seq (gRg ?_));refine go_p rfl rfl rfl (oMv rfl) ?_;refine go_p rfl rfl rfl (oFa fi_24_0 rfl rfl rfl) ?_;refine go_p rfl rfl rfl (o_load isAgg22 rfl rfl) ?_;refine go_p rfl rfl rfl (o_len runUnderlying22 rfl) ?_;refine go_p rfl rfl rfl (o_cmp rfl rfl rfl) ?_;refine gNl ?_;refine gCd rfl (fun hc3 => ?_) (fun hc3 => ?_)
    ·replace hj1 := cond_t hc3 hj1
     refine gSp (g_seq (g_block (g_seq ?_)));obtain ⟨x1, hx1, hj1⟩ := bind_some hj1;obtain ⟨x2, hx2, hj1⟩ := bind_some hj1;refine g_draw 10 Tryz_mixed (by decide +kernel) ?_;refine gd_p rfl rfl rfl (oFa fi_24_0 rfl rfl rfl) ?_;refine gd_p rfl rfl rfl (o_load isAgg22 rfl rfl) ?_;refine gd_p rfl rfl rfl (oMv rfl) ?_;refine gd_p rfl rfl rfl (oIm runUnderlying22 sizeOf44 rfl rfl hx1) ?_;refine gd_p rfl rfl rfl (o_load_agg isAgg44 sizeOf44 rfl rfl) ?_;refine gd_p rfl rfl rfl (oFa fi_24_0 rfl rfl rfl) ?_;refine gd_p rfl rfl rfl (o_load isAgg22 rfl rfl) ?_;refine gd_p rfl rfl rfl (o_len runUnderlying22 rfl) ?_;refine gd_p rfl rfl rfl (o_call0 call59 rfl (w_rg_right hx2)) ?_;refine gd_p rfl rfl rfl (o_not rfl) ?_;refine gd_nil ?_;refine gNl ?_;refine gCd rfl (fun hc4 => ?_) (fun hc4 => ?_)
     ·replace hj1 := cond_t hc4 hj1
      refine g_seq (gRg ?_);refine go_p rfl rfl rfl (oAs rfl) ?_;refine gNl (g_ret ?_);obtain rfl := some_eq hj1
      replace hm1 := on_ret hm1
      exact retK (ret_one' rfl (ret_tmp rfl) (perm_drop _)) (congrArg (fun (p : Int) => (.i64 p : D)) (some_eq hm1))
     ·replace hj1 := cond_f hc4 hj1
      refine gSp (gRg ?_);refine go_p rfl rfl rfl (oMv rfl) ?_;obtain ⟨hg3, hj1⟩ := grd_some hj1;refine go_p rfl rfl rfl (o_add rfl rfl (i64_id hg3)) ?_;refine go_p rfl rfl rfl (oAs rfl) ?_;refine gNl ?_;exact ⟨_, (), hj1, ⟨rfl, trivial⟩, ⟨rfl, trivial⟩, [], rfl⟩
    ·replace hj1 := cond_f hc3 hj1
     refine g_exit ?_;exact ⟨_, (), some_eq hj1, trivial, ⟨rfl, trivial⟩, [], rfl⟩
   ·rintro _ _ hst
    subst hst
    replace hm1 := on_go hm1
    refine k_norm (L' := [(1, _)]) (ms' := []) rfl rfl ?_;refine g_seq (gRg ?_);refine go_p rfl rfl rfl (oFa fi_24_0 rfl rfl rfl) ?_;refine go_p rfl rfl rfl (o_load isAgg22 rfl rfl) ?_;refine go_p rfl rfl rfl (o_len runUnderlying22 rfl) ?_;obtain ⟨hg4, hm1⟩ := grd_some hm1;obtain ⟨hg5, hm1⟩ := grd_some hm1;refine go_op rfl rfl rfl (o_makeSlice (f := D.bool) (z0 := false) underlying77 type4 rfl rfl rfl (Nat.le_of_ble_eq_true rfl) rfl rfl hg4 hg5 (Nat.le_of_ble_eq_true rfl)) ?_;rintro _ _ ⟨a_r1, m_r1, cap_r1, rfl, rfl⟩;refine go_p rfl rfl rfl (oAs rfl) ?_;refine gNl (g_seq (g_seq (gRg ?_)));refine go_p rfl rfl rfl (oAs rfl) ?_;refine gNl ?_;obtain ⟨o_2, hj2, hm2⟩ := bind_some hm1;refine g_cut_m [(4, _)] [] (fun (st : (List Bool)) (hid : Unit) => match st, hid with | l1, _ => []) (fun F (st : (List Bool)) (hid : Unit) => match st, hid with | l1, _ => [arr a_r1 m_r1 cap_r1 4 1 D.bool l1]) (fun st => st = o_2) ⟨rfl, trivial⟩ trivial ?_ ?_
    ·skip
     refine g_block ?_;refine g_loop_m [(1, _), (4, _)] [] (fun (st : (Bool × (List Bool))) (hid : Unit) => match st, hid with | (more1, l2), _ => [(5, .bool more1)]) (fun F (st : (Bool × (List Bool))) (hid : Unit) => match st, hid with | (more1, l2), _ => [arr a_r1 m_r1 cap_r1 4 1 D.bool l2]) () hj2 (fun _ => rfl) ⟨rfl, rfl, trivial⟩ trivial ⟨rfl, trivial⟩ rfl ?_;rintro n ⟨more1, l2⟩ ⟨⟩ hj2;rw [m_rg_May_l2] at hj2;refine g_norm (L' := [(5, .bool more1), (1, _), (4, _)]) (ms' := [arr a_r1 m_r1 cap_r1 4 1 D.bool l2]) rfl rfl ?_;refine g_seq (g_seq (gRg ?_));refine go_p rfl rfl rfl (oMv rfl) ?_;refine gNl ?_;refine gCd rfl (fun hc5 => ?_) (fun hc5 => ?_)
     ·replace hj2 := cond_t hc5 hj2
      refine gSp (g_block (g_seq (gRg ?_)));refine go_p rfl rfl rfl (oAs rfl) ?_;refine gNl (g_seq (gRg ?_));refine go_p rfl rfl rfl (oAs rfl) ?_;refine gNl ?_;obtain ⟨o_3, hj3, hm3⟩ := bind_some hj2;refine g_cut_m [(1, _), (4, _)] [] (fun (st : (Bool × (List Bool))) (hid : Unit) => match st, hid with | (more2, l3), _ => [(5, .bool more2)]) (fun F (st : (Bool × (List Bool))) (hid : Unit) => match st, hid with | (more2, l3), _ => [arr a_r1 m_r1 cap_r1 4 1 D.bool l3]) (fun st => st = o_3) ⟨rfl, rfl, trivial⟩ trivial ?_ ?_
      ·skip
       refine g_block ?_;refine g_loop_m [(1, _), (4, _)] [] (fun (st : (Bool × Int × (List Bool))) (hid : Unit) => match st, hid with | (more3, i2, l4), _ => [(5, .bool more3), (6, .i64 i2)]) (fun F (st : (Bool × Int × (List Bool))) (hid : Unit) => match st, hid with | (more3, i2, l4), _ => [arr a_r1 m_r1 cap_r1 4 1 D.bool l4]) () hj3 (fun _ => rfl) ⟨rfl, rfl, trivial⟩ trivial ⟨rfl, rfl, trivial⟩ rfl ?_;rintro n ⟨more3, i2, l4⟩ ⟨⟩ hj3;rw [m_rg_May_l3] at hj3;refine g_norm (L' := [(5, .bool more3), (6, .i64 i2), (1, _), (4, _)]) (ms' := [arr a_r1 m_r1 cap_r1 4 1 D.bool l4]) rfl rfl ?_;refine g_seq (g_seq (gRg ?_));refine go_p rfl rfl rfl (oMv rfl) ?_;refine go_p rfl rfl rfl (oFa fi_24_0 rfl rfl rfl) ?_;refine go_p rfl rfl rfl (o_load isAgg22 rfl rfl) ?_;refine go_p rfl rfl rfl (o_len runUnderlying22 rfl) ?_;refine go_p rfl rfl rfl (o_cmp rfl rfl rfl) ?_;refine gNl ?_;refine gCd rfl (fun hc6 => ?_) (fun hc6 => ?_)
       ·replace hj3 := cond_t hc6 hj3
        refine gSp (g_seq (g_block (g_seq (gRg ?_))));refine go_p rfl rfl rfl (oFa fi_24_0 rfl rfl rfl) ?_;refine go_p rfl rfl rfl (o_load isAgg22 rfl rfl) ?_;refine go_p rfl rfl rfl (oMv rfl) ?_;obtain ⟨x3, hx6, hj3⟩ := bind_some hj3;refine go_p rfl rfl rfl (oIm runUnderlying22 sizeOf44 rfl rfl hx6) ?_;refine go_p rfl rfl rfl (o_load_agg isAgg44 sizeOf44 rfl rfl) ?_;refine go_op rfl rfl rfl (o_alloc_own zeroValue44 (cs := [.i64 0, .i64 0, .i64 0, .list 2 ApiTField.d []]) rfl) ?_;rintro _ _ ⟨b1, rfl, rfl⟩;refine go_u rfl rfl (oSb 0 sizeOf44 rfl rfl rfl rfl rfl rfl rfl rfl (Nat.le_of_ble_eq_true rfl)) ?_;rintro _ _ rfl;refine go_ms (ms' := [box b1 44 [_, _, _, _], _]) rfl ?_;refine gNl (g_seq (gRg ?_));refine go_p rfl rfl rfl (oFb fi_44_0 rfl) ?_;refine go_p rfl rfl rfl (oLb 0 isAgg3 rfl rfl rfl rfl) ?_;refine go_p rfl rfl rfl (o_cmp rfl rfl rfl) ?_;refine go_p rfl rfl rfl (oMv rfl) ?_
        apply go_and [(1, _), (4, _), (5, _), (6, _), (7, _)] 4 72 (t := 68) ⟨rfl, rfl, rfl, rfl, rfl, trivial⟩ rfl
        ·intro hg_3 hk3
         refine gWp rfl rfl rfl hg_3 rfl rfl (oFb fi_44_0 rfl) ?_;refine gWp rfl rfl rfl hg_3 rfl rfl (oLb 0 isAgg3 rfl rfl rfl rfl) ?_;refine gWp rfl rfl rfl hg_3 rfl rfl (o_cmp rfl rfl rfl) ?_;refine go_p rfl rfl rfl (o_pickT rfl hg_3 rfl) ?_;exact gMt hk3 (rfl) ⟨rfl, rfl, rfl, rfl, rfl, trivial⟩
        ·intro hg_3 hk3
         refine gKp rfl rfl rfl hg_3 rfl rfl ?_;refine gKp rfl rfl rfl hg_3 rfl rfl ?_;refine gKp rfl rfl rfl hg_3 rfl rfl ?_;refine go_p rfl rfl rfl (o_pickF rfl hg_3 rfl) ?_;exact gMt hk3 (rfl) ⟨rfl, rfl, rfl, rfl, rfl, trivial⟩
        refine go_p rfl rfl rfl (oMv rfl) ?_;obtain ⟨p1, hp_4, hj3⟩ := bind_some hj3;refine go_two [(1, _), (4, _), (5, _), (6, _)] 13 86 p1 (t := 73) ⟨rfl, rfl, rfl, rfl, trivial⟩ rfl (fun hg_4 hk4 => ?_) (fun hg_4 hk4 => ?_) ?_
        ·replace hp_4 := cond_t hg_4 hp_4
         refine gKp rfl rfl rfl hg_4 rfl rfl ?_;refine gKp rfl rfl rfl hg_4 rfl rfl ?_;refine gKp rfl rfl rfl hg_4 rfl rfl ?_;refine gKp rfl rfl rfl hg_4 rfl rfl ?_;refine gKp rfl rfl rfl hg_4 rfl rfl ?_;refine gKp rfl rfl rfl hg_4 rfl rfl ?_;refine gKu rfl rfl rfl rfl rfl ?_;refine gKu rfl rfl rfl rfl rfl ?_;refine gKu rfl rfl rfl rfl rfl ?_;refine gKu rfl rfl rfl rfl rfl ?_;refine gKu rfl rfl rfl rfl rfl ?_;refine gKp rfl rfl rfl hg_4 rfl rfl ?_;refine go_p rfl rfl rfl (o_pickT rfl hg_4 rfl) ?_;exact gMt hk4 (congrArg (fun b => some (D.bool b)) (some_eq hp_4)) ⟨rfl, rfl, rfl, rfl, trivial⟩
        ·replace hp_4 := cond_f hg_4 hp_4
         refine gWp rfl rfl rfl hg_4 rfl rfl (oMv rfl) ?_;refine gWp rfl rfl rfl hg_4 rfl rfl (oFb fi_44_1 rfl) ?_;refine gWp rfl rfl rfl hg_4 rfl rfl (oLb 0 isAgg3 rfl rfl rfl rfl) ?_;obtain ⟨x4, hx7, hp_4⟩ := bind_some hp_4;refine gWp rfl rfl rfl hg_4 rfl rfl (o_indexAddr_arr 1 runUnderlying77 sizeOf4 rfl rfl rfl hx7) ?_;refine gWp rfl rfl rfl hg_4 rfl rfl (o_load_arr (off := 0) 1 isAgg4 rfl rfl (idx_some hx7).2 rfl rfl rfl) ?_;refine gWp rfl rfl rfl hg_4 rfl rfl (oMv rfl) ?_;obtain ⟨p2, hp_5, hp_4⟩ := bind_some hp_4;refine go_two [(1, _), (4, _), (5, _), (6, _), (73, _)] 6 85 p2 (t := 79) ⟨rfl, rfl, rfl, rfl, rfl, trivial⟩ rfl (fun hg_5 hk5 => ?_) (fun hg_5 hk5 => ?_) ?_
         ·replace hp_5 := cond_t hg_5 hp_5
          refine gWp rfl rfl rfl hg_5 rfl rfl (oMv rfl) ?_;refine gWp rfl rfl rfl hg_5 rfl rfl (oFb fi_44_2 rfl) ?_;refine gWp rfl rfl rfl hg_5 rfl rfl (oLb 0 isAgg3 rfl rfl rfl rfl) ?_;obtain ⟨x5, hx8, hp_5⟩ := bind_some hp_5;refine gWp rfl rfl rfl hg_5 rfl rfl (o_indexAddr_arr 1 runUnderlying77 sizeOf4 rfl rfl rfl hx8) ?_;refine gWp rfl rfl rfl hg_5 rfl rfl (o_load_arr (off := 0) 1 isAgg4 rfl rfl (idx_some hx8).2 rfl rfl rfl) ?_;refine gWp rfl rfl rfl hg_4 rfl rfl (o_pickT rfl hg_5 rfl) ?_;exact gMt hk5 (congrArg (fun b => some (D.bool b)) (some_eq hp_5)) ⟨rfl, rfl, rfl, rfl, rfl, trivial⟩
         ·replace hp_5 := cond_f hg_5 hp_5
          refine gKp rfl rfl rfl hg_5 rfl rfl ?_;refine gKp rfl rfl rfl hg_5 rfl rfl ?_;refine gKp rfl rfl rfl hg_5 rfl rfl ?_;refine gKp rfl rfl rfl hg_5 rfl rfl ?_;refine gKp rfl rfl rfl hg_5 rfl rfl ?_;refine gWp rfl rfl rfl hg_4 rfl rfl (o_pickF rfl hg_5 rfl) ?_;exact gMt hk5 (congrArg (fun b => some (D.bool b)) (some_eq hp_5)) ⟨rfl, rfl, rfl, rfl, rfl, trivial⟩
         refine go_p rfl rfl rfl (o_pickF rfl hg_4 rfl) ?_;exact gMt hk4 (congrArg (fun b => some (D.bool b)) (some_eq hp_4)) ⟨rfl, rfl, rfl, rfl, trivial⟩
        refine go_p rfl rfl rfl (oAs rfl) ?_;refine gNl (g_seq (gRg ?_));refine go_p rfl rfl rfl (oMv rfl) ?_;refine go_p rfl rfl rfl (oMv rfl) ?_;obtain ⟨p3, hp_6, hj3⟩ := bind_some hj3;refine go_two [(1, _), (4, _), (5, _), (6, _)] 6 94 p3 (t := 88) ⟨rfl, rfl, rfl, rfl, trivial⟩ rfl (fun hg_6 hk6 => ?_) (fun hg_6 hk6 => ?_) ?_
        ·replace hp_6 := cond_t hg_6 hp_6
         refine gWp rfl rfl rfl hg_6 rfl rfl (oMv rfl) ?_;refine gWp rfl rfl rfl hg_6 rfl rfl (oMv rfl) ?_;obtain ⟨x6, hx9, hp_6⟩ := bind_some hp_6;refine gWp rfl rfl rfl hg_6 rfl rfl (o_indexAddr_arr 1 runUnderlying77 sizeOf4 rfl rfl rfl hx9) ?_;refine gWp rfl rfl rfl hg_6 rfl rfl (o_load_arr (off := 0) 1 isAgg4 rfl rfl (idx_some hx9).2 rfl rfl rfl) ?_;refine gWp rfl rfl rfl hg_6 rfl rfl (o_not rfl) ?_;refine go_p rfl rfl rfl (o_pickT rfl hg_6 rfl) ?_;exact gMt hk6 (congrArg (fun b => some (D.bool b)) (some_eq hp_6)) ⟨rfl, rfl, rfl, rfl, trivial⟩
        ·replace hp_6 := cond_f hg_6 hp_6
         refine gKp rfl rfl rfl hg_6 rfl rfl ?_;refine gKp rfl rfl rfl hg_6 rfl rfl ?_;refine gKp rfl rfl rfl hg_6 rfl rfl ?_;refine gKp rfl rfl rfl hg_6 rfl rfl ?_;refine gKp rfl rfl rfl hg_6 rfl rfl ?_;refine go_p rfl rfl rfl (o_pickF rfl hg_6 rfl) ?_;exact gMt hk6 (congrArg (fun b => some (D.bool b)) (some_eq hp_6)) ⟨rfl, rfl, rfl, rfl, trivial⟩
        refine gNl ?_;refine gCd rfl (fun hc7 => ?_) (fun hc7 => ?_)
        ·replace hj3 := cond_t hc7 hj3
         refine gRg ?_;refine go_p rfl rfl rfl (oMv rfl) ?_;refine go_p rfl rfl rfl (oMv rfl) ?_;obtain ⟨x7, hx10, hj3⟩ := bind_some hj3;refine go_p rfl rfl rfl (o_indexAddr_arr 1 runUnderlying77 sizeOf4 rfl rfl rfl hx10) ?_;refine go_u rfl rfl (o_store_arr (off := 0) (z' := true) 1 sizeOf4 rfl rfl (idx_some hx10).2 rfl rfl rfl rfl rfl rfl (Nat.le_of_ble_eq_true rfl) rfl rfl) ?_;rintro _ _ rfl;refine go_ms (ms' := [box b1 44 [_, _, _, _], _]) rfl ?_;refine go_p rfl rfl rfl (oAs rfl) ?_;refine gNl (gRg ?_);refine go_p rfl rfl rfl (oMv rfl) ?_;obtain ⟨hg11, hj3⟩ := grd_some hj3;refine go_p rfl rfl rfl (o_add rfl rfl (i64_id hg11)) ?_;refine go_p rfl rfl rfl (oAs rfl) ?_;refine gNl ?_;exact ⟨_, (), hj3, ⟨rfl, rfl, trivial⟩, ⟨rfl, rfl, trivial⟩, [_], rfl⟩
        ·replace hj3 := cond_f hc7 hj3
         refine gSp (gRg ?_);refine go_p rfl rfl rfl (oMv rfl) ?_;obtain ⟨hg12, hj3⟩ := grd_some hj3;refine go_p rfl rfl rfl (o_add rfl rfl (i64_id hg12)) ?_;refine go_p rfl rfl rfl (oAs rfl) ?_;refine gNl ?_;exact ⟨_, (), hj3, ⟨rfl, rfl, trivial⟩, ⟨rfl, rfl, trivial⟩, [_], rfl⟩
       ·replace hj3 := cond_f hc6 hj3
        refine g_exit ?_;exact ⟨_, (), some_eq hj3, ⟨rfl, trivial⟩, ⟨rfl, rfl, trivial⟩, [], rfl⟩
      ·rintro ⟨more2, l3⟩ ⟨⟩ hst
       subst hst;refine k_norm (L' := [(5, .bool more2), (1, _), (4, _)]) (ms' := [arr a_r1 m_r1 cap_r1 4 1 D.bool l3]) rfl rfl ?_;exact ⟨_, (), hm3, ⟨rfl, trivial⟩, ⟨rfl, rfl, trivial⟩, [], rfl⟩
     ·replace hj2 := cond_f hc5 hj2
      refine g_exit ?_;exact ⟨_, (), some_eq hj2, trivial, ⟨rfl, trivial⟩, [], rfl⟩
    ·rintro l1 ⟨⟩ hst
     subst hst;refine k_norm (L' := [(4, _)]) (ms' := [arr a_r1 m_r1 cap_r1 4 1 D.bool l1]) rfl rfl ?_;refine g_seq (g_seq (gRg ?_));refine go_p rfl rfl rfl (oAs rfl) ?_;refine gNl ?_;obtain ⟨o_4, hj4, hm4⟩ := bind_some hm2;refine g_cut_m [] [(0, _)] (fun (st : Unit) (hid : Unit) => match st, hid with | _, _ => []) (fun F (st : Unit) (hid : Unit) => match st, hid with | _, _ => [(nthF F 0)]) (fun st => Out.go (st) = o_4) trivial ⟨rfl, trivial⟩ ?_ ?_
     ·skip
      refine g_block ?_;refine g_loop_m [(4, _)] [(0, _)] (fun (st : Int) (hid : Unit) => match st, hid with | i3, _ => [(9, .i64 i3)]) (fun F (st : Int) (hid : Unit) => match st, hid with | i3, _ => [(nthF F 0)]) () hj4 (fun _ => rfl) ⟨rfl, trivial⟩ ⟨rfl, trivial⟩ ⟨rfl, trivial⟩ rfl ?_;rintro n i3 _ hj4;rw [m_rg_May_l4] at hj4;refine g_norm (L' := [(9, .i64 i3), (4, _)]) (ms' := [_]) rfl rfl ?_;refine g_seq (g_seq (gRg ?_));refine go_p rfl rfl rfl (oMv rfl) ?_;refine go_p rfl rfl rfl (oMv rfl) ?_;refine go_p rfl rfl rfl (o_len_arr 0 runUnderlying77 rfl rfl) ?_;refine go_p rfl rfl rfl (o_cmp rfl rfl rfl) ?_;refine gNl ?_;refine gCd rfl (fun hc8 => ?_) (fun hc8 => ?_)
      ·replace hj4 := cond_t hc8 hj4
       refine gSp (g_seq (g_block (g_seq (gRg ?_))));refine go_p rfl rfl rfl (oMv rfl) ?_;refine go_p rfl rfl rfl (oMv rfl) ?_;obtain ⟨x8, hx13, hj4⟩ := bind_some hj4;refine go_p rfl rfl rfl (o_indexAddr_arr 0 runUnderlying77 sizeOf4 rfl rfl rfl hx13) ?_;refine go_p rfl rfl rfl (o_load_arr (off := 0) 0 isAgg4 rfl rfl (idx_some hx13).2 rfl rfl rfl) ?_;refine go_p rfl rfl rfl (o_not rfl) ?_;refine gNl ?_;refine gCd rfl (fun hc9 => ?_) (fun hc9 => ?_)
       ·replace hj4 := cond_t hc9 hj4
        refine g_seq (gRg ?_);refine go_p rfl rfl rfl (oAs rfl) ?_;refine gNl (g_ret ?_);obtain rfl := some_eq hj4
        replace hm4 := on_ret hm4
        exact retK (ret_one' rfl (ret_tmp rfl) (perm_drop _)) (congrArg (fun (p : Int) => (.i64 p : D)) (some_eq hm4))
       ·replace hj4 := cond_f hc9 hj4
        refine gSp (gRg ?_);refine go_p rfl rfl rfl (oMv rfl) ?_;obtain ⟨hg14, hj4⟩ := grd_some hj4;refine go_p rfl rfl rfl (o_add rfl rfl (i64_id hg14)) ?_;refine go_p rfl rfl rfl (oAs rfl) ?_;refine gNl ?_;exact ⟨_, (), hj4, ⟨rfl, trivial⟩, ⟨rfl, trivial⟩, [], rfl⟩
      ·replace hj4 := cond_f hc8 hj4
       refine g_exit ?_;exact ⟨_, (), some_eq hj4, trivial, trivial, [], rfl⟩
     ·rintro _ _ hst
      subst hst
      replace hm4 := on_go hm4
      refine k_norm (L' := []) (ms' := [_]) rfl rfl ?_;refine g_seq (gRg ?_);refine go_p rfl rfl rfl (oAs rfl) ?_;refine gNl (g_ret ?_);exact retK (ret_one' rfl (ret_tmp rfl) (perm_drop _)) (congrArg (fun (p : Int) => (.i64 p : D)) (some_eq hm4))
noncomputable def m_below_may (a1 : ApiType) (bv1 : ApiType) : Option Int :=
 (m_graph_May a1).bind fun x1 =>
 bif (!decide (x1 = 0)) then
  some x1
 else
  (m_graph_May bv1).bind fun x2 =>
  some x2
theorem w_below_may {a1 : ApiType} {bv1 : ApiType} {r_1 : Int} (hm : m_below_may a1 bv1 = some r_1) : Fn0 Tryz.prog 65 [ApiType.d a1, ApiType.d bv1] (.i64 r_1) := by
 unfold m_below_may at hm;refine fn_intro func65 rfl ntmps65 rfl fun H0 fr w0 => ?_;refine g_seq (gRg ?_);refine go_p rfl rfl rfl (o_box rfl rfl) ?_;refine go_p rfl rfl rfl (o_box rfl rfl) ?_;refine go_p rfl rfl rfl (oAs rfl) ?_;refine gNl (g_seq (g_seq (gRg ?_)));refine go_p rfl rfl rfl (o_load_agg isAgg24 sizeOf24 rfl rfl) ?_;obtain ⟨x1, hx1, hm⟩ := bind_some hm;refine go_p rfl rfl rfl (o_call0 call53 rfl (w_graph_May hx1)) ?_;refine go_p rfl rfl rfl (oAs rfl) ?_;refine gNl (g_seq (gRg ?_));refine go_p rfl rfl rfl (oMv rfl) ?_;refine go_p rfl rfl rfl (o_cmp rfl rfl rfl) ?_;refine gNl ?_;refine gCd rfl (fun hc1 => ?_) (fun hc1 => ?_)
 ·replace hm := cond_t hc1 hm
  refine g_seq (gRg ?_);refine go_p rfl rfl rfl (oMv rfl) ?_;refine go_p rfl rfl rfl (oAs rfl) ?_;refine gNl (g_ret ?_);exact retK (ret_one' rfl (ret_tmp rfl) (perm_drop _)) (congrArg (fun (p : Int) => (.i64 p : D)) (some_eq hm))
 ·replace hm := cond_f hc1 hm
  refine gSp (g_seq (gRg ?_));refine go_p rfl rfl rfl (o_load_agg isAgg24 sizeOf24 rfl rfl) ?_;obtain ⟨x2, hx2, hm⟩ := bind_some hm;refine go_p rfl rfl rfl (o_call0 call53 rfl (w_graph_May hx2)) ?_;refine go_p rfl rfl rfl (oAs rfl) ?_;refine gNl (g_ret ?_);exact retK (ret_one' rfl (ret_tmp rfl) (perm_drop _)) (congrArg (fun (p : Int) => (.i64 p : D)) (some_eq hm))
noncomputable def m_graph_moved_l1 (to1 : (Int -> Option Int)) (z4 : (List ApiTField)) : Nat -> (Int × (List ApiTField) × Int × Int × Int) -> Option ((List ApiTField) × Int × Int × Int)
 | 0, _ => none
 | n + 1, (x4, l2, z8, z9, z10) =>
  bif (decide (x4 < (z4.length : Int))) then
   (idx l2 x4).bind fun x5 =>
   (to1 x5.at_).bind fun x6 =>
   (idx l2 x4).bind fun x7 =>
   grd (InR (x4 + 1)) <|
   m_graph_moved_l1 to1 z4 n ((x4 + 1), (l2.set (x4).toNat (⟨x7.name, x6⟩ : ApiTField)), z8, z9, z10)
  else
   some (l2, z8, z9, z10)
noncomputable def m_graph_moved (n1 : ApiTNode) (to1 : (Int -> Option Int)) : Option ApiTNode :=
 (m_graph_pair n1.kind).bind fun x1 =>
 (bif x1 then
  (to1 n1.a).bind fun x2 =>
  (to1 n1.b).bind fun x3 =>
  some (n1.kind, x2, x3, n1.l)
 else
  some (n1.kind, n1.a, n1.b, n1.l) : Option (Int × Int × Int × (List ApiTField))).bind fun (z1, z2, z3, z4) =>
 grd (z4.length * 24 <= 140737488355328) <|
 (m_graph_moved_l1 to1 z4 FU (0, z4, z1, z2, z3) : Option ((List ApiTField) × Int × Int × Int)).bind fun (l1, z5, z6, z7) =>
 some (⟨z5, z6, z7, l1⟩ : ApiTNode)
theorem w_graph_moved {n1 : ApiTNode} {to1 : (Int -> Option Int)} {r_1 : ApiTNode} {tl_0 : List Asrt} {fv_to1 : D} (hfto1 : FunOk1T Tryz.prog fv_to1 D.i64 D.i64 tl_0 to1) (hm : m_graph_moved n1 to1 = some r_1) : FnT Tryz.prog 109 [ApiTNode.d n1, fv_to1] tl_0 (ApiTNode.d r_1) := by
 unfold m_graph_moved at hm;refine fn_intro func109 rfl ntmps109 rfl fun H0 fr w0 => ?_;refine g_seq (gRg ?_);refine go_op rfl rfl rfl (o_box_own rfl rfl rfl) ?_;rintro _ _ ⟨b1, rfl, rfl⟩;refine go_op rfl rfl rfl (o_alloc_own zeroValue44 (cs := [.i64 0, .i64 0, .i64 0, .list 2 ApiTField.d []]) rfl) ?_;rintro _ _ ⟨b2, rfl, rfl⟩;refine gNl (g_seq (g_seq (gRg ?_)));refine go_p rfl rfl rfl (oFb fi_44_0 rfl) ?_;refine go_p rfl rfl rfl (oLb 1 isAgg3 rfl rfl rfl rfl) ?_;obtain ⟨x1, hx1, hm⟩ := bind_some hm;refine go_p rfl rfl rfl (o_call0 call122 rfl (w_graph_pair hx1)) ?_;refine gNl ?_;obtain ⟨o_1, hj1, hm1⟩ := bind_some hm;refine g_cut_m [(1, _), (2, _), (4, _)] [(0, _)] (fun (st : (Int × Int × Int × (List ApiTField))) (hid : Unit) => match st, hid with | (z1, z2, z3, z4), _ => []) (fun F (st : (Int × Int × Int × (List ApiTField))) (hid : Unit) => match st, hid with | (z1, z2, z3, z4), _ => [(nthF F 0), box b1 44 [.i64 z1, .i64 z2, .i64 z3, .list 2 ApiTField.d z4]] ++ tl_0) (fun st => st = o_1) ⟨rfl, rfl, rfl, trivial⟩ ⟨rfl, trivial⟩ ?_ ?_
 ·skip
  refine gCd rfl (fun hc1 => ?_) (fun hc1 => ?_)
  ·replace hj1 := cond_t hc1 hj1
   obtain ⟨x2, hx2, hj1⟩ := bind_some hj1;obtain ⟨x3, hx3, hj1⟩ := bind_some hj1;refine g_draw 9 Tryz_mixed (by decide +kernel) ?_;refine gd_p rfl rfl rfl (oMv rfl) ?_;refine gd_p rfl rfl rfl (oFb fi_44_1 rfl) ?_;refine gd_p rfl rfl rfl (oLb 1 isAgg3 rfl rfl rfl rfl) ?_;refine gd_p rfl rfl rfl (o_callv_t (tl := tl_0) [_, _] rfl rfl rfl (hfto1 _ _ hx2)) ?_;refine gd_p rfl rfl rfl (oMv rfl) ?_;refine gd_p rfl rfl rfl (oFb fi_44_2 rfl) ?_;refine gd_p rfl rfl rfl (oLb 1 isAgg3 rfl rfl rfl rfl) ?_;refine gd_p rfl rfl rfl (o_callv_t (tl := tl_0) [_, _] rfl rfl rfl (hfto1 _ _ hx3)) ?_;refine gd_p rfl rfl rfl (oFb fi_44_1 rfl) ?_;refine gd_nil ?_;refine go_u rfl rfl (oSb 1 sizeOf3 rfl rfl rfl rfl rfl rfl rfl rfl (Nat.le_of_ble_eq_true rfl)) ?_;rintro _ _ rfl;refine go_ms (ms' := [box b2 44 [_, _, _, _], box b1 44 [_, _, _, _]] ++ tl_0) rfl ?_;refine go_p rfl rfl rfl (oFb fi_44_2 rfl) ?_;refine go_u rfl rfl (oSb 1 sizeOf3 rfl rfl rfl rfl rfl rfl rfl rfl (Nat.le_of_ble_eq_true rfl)) ?_;rintro _ _ rfl;refine go_ms (ms' := [box b2 44 [_, _, _, _], box b1 44 [_, _, _, _]] ++ tl_0) rfl ?_;refine gNl ?_;exact ⟨_, (), some_eq hj1, trivial, ⟨rfl, rfl, rfl, trivial⟩, [], rfl⟩
  ·replace hj1 := cond_f hc1 hj1
   refine gSp ?_;exact ⟨_, (), some_eq hj1, trivial, ⟨rfl, rfl, rfl, trivial⟩, [], rfl⟩
 ·rintro ⟨z1, z2, z3, z4⟩ _ hst
  subst hst;refine k_norm (L' := [(1, _), (2, _), (4, _)]) (ms' := [_, box b1 44 [.i64 z1, .i64 z2, .i64 z3, .list 2 ApiTField.d z4]] ++ tl_0) rfl rfl ?_;refine g_seq (gRg ?_);refine go_p rfl rfl rfl (oFb fi_44_3 rfl) ?_;refine go_p rfl rfl rfl (oLb 1 isAgg42 rfl rfl rfl rfl) ?_;obtain ⟨hg4, hm1⟩ := grd_some hm1;refine go_op rfl rfl rfl (o_call (ms₁ := []) call77 rfl (List.Perm.refl _) (w_Clone_77 hg4)) ?_;rintro _ _ ⟨_, ⟨a_r1, cap_r1, rfl, rfl⟩, rfl⟩
  generalize hm_r1 : z4.length = m_r1
  clear hm_r1
  refine go_p rfl rfl rfl (oFb fi_44_3 rfl) ?_;refine go_u rfl rfl (oSb 2 sizeOf42 rfl rfl rfl rfl rfl rfl rfl rfl (Nat.le_of_ble_eq_true rfl)) ?_;rintro _ _ rfl;refine go_ms (ms' := [_, box b2 44 [_, _, _, _], box b1 44 [_, _, _, _]] ++ tl_0) rfl ?_;refine gNl (g_seq (g_seq (gRg ?_)));refine go_p rfl rfl rfl (oFb fi_44_3 rfl) ?_;refine go_p rfl rfl rfl (oLb 2 isAgg42 rfl rfl rfl rfl) ?_;refine go_p rfl rfl rfl (o_len_arr 0 runUnderlying42 rfl rfl) ?_;refine go_p rfl rfl rfl (oMv rfl) ?_;refine gNl ?_;obtain ⟨o_2, hj2, hm2⟩ := bind_some hm1;refine g_cut_m [(2, _), (4, _)] [(1, _)] (fun (st : ((List ApiTField) × Int × Int × Int)) (hid : Unit) => match st, hid with | (l1, z5, z6, z7), _ => []) (fun F (st : ((List ApiTField) × Int × Int × Int)) (hid : Unit) => match st, hid with | (l1, z5, z6, z7), _ => [arr a_r1 m_r1 cap_r1 98 2 ApiTField.d l1, (nthF F 0), box b1 44 [.i64 z5, .i64 z6, .i64 z7, .v (.slice a_r1 m_r1 cap_r1)]] ++ tl_0) (fun st => st = o_2) ⟨rfl, rfl, trivial⟩ ⟨rfl, trivial⟩ ?_ ?_
  ·skip
   refine g_block ?_;refine g_loop_m [(1, _), (2, _), (4, _), (25, _)] [(1, _)] (fun (st : (Int × (List ApiTField) × Int × Int × Int)) (hid : Unit) => match st, hid with | (x4, l2, z8, z9, z10), _ => [(26, .i64 x4)]) (fun F (st : (Int × (List ApiTField) × Int × Int × Int)) (hid : Unit) => match st, hid with | (x4, l2, z8, z9, z10), _ => [arr a_r1 m_r1 cap_r1 98 2 ApiTField.d l2, (nthF F 0), box b1 44 [.i64 z8, .i64 z9, .i64 z10, .v (.slice a_r1 m_r1 cap_r1)]] ++ tl_0) () hj2 (fun _ => rfl) ⟨rfl, rfl, rfl, rfl, trivial⟩ ⟨rfl, trivial⟩ ⟨rfl, trivial⟩ rfl ?_;rintro n ⟨x4, l2, z8, z9, z10⟩ ⟨⟩ hj2;rw [m_graph_moved_l1] at hj2;refine g_norm (L' := [(26, .i64 x4), (1, _), (2, _), (4, _), (25, _)]) (ms' := [arr a_r1 m_r1 cap_r1 98 2 ApiTField.d l2, _, box b1 44 [.i64 z8, .i64 z9, .i64 z10, .v (.slice a_r1 m_r1 cap_r1)]] ++ tl_0) rfl rfl ?_;refine g_seq (gRg ?_);refine go_p rfl rfl rfl (o_cmp rfl rfl rfl) ?_;refine gNl (g_seq ?_);refine gCd rfl (fun hc2 => ?_) (fun hc2 => ?_)
   ·replace hj2 := cond_t hc2 hj2
    refine gSp (g_seq (g_block (g_seq (gRg ?_))));refine go_p rfl rfl rfl (oMv rfl) ?_;refine go_p rfl rfl rfl (oAs rfl) ?_;refine gNl ?_;obtain ⟨x5, hx5, hj2⟩ := bind_some hj2;obtain ⟨x6, hx6, hj2⟩ := bind_some hj2;obtain ⟨x7, hx7, hj2⟩ := bind_some hj2;refine g_draw 13 Tryz_mixed (by decide +kernel) ?_;refine gd_p rfl rfl rfl (oFb fi_44_3 rfl) ?_;refine gd_p rfl rfl rfl (oLb 2 isAgg42 rfl rfl rfl rfl) ?_;refine gd_p rfl rfl rfl (oMv rfl) ?_;refine gd_p rfl rfl rfl (oMv rfl) ?_;refine gd_p rfl rfl rfl (oFb fi_44_3 rfl) ?_;refine gd_p rfl rfl rfl (oLb 2 isAgg42 rfl rfl rfl rfl) ?_;refine gd_p rfl rfl rfl (oMv rfl) ?_;refine gd_p rfl rfl rfl (o_indexAddr_arr 0 runUnderlying42 sizeOf98 rfl rfl rfl hx5) ?_;refine gd_p rfl rfl rfl (o_fieldAddr_apt (b := 0) 0 fi_98_1 rfl rfl (idx_some hx5).2) ?_;refine gd_p rfl rfl rfl (o_load_arr (off := 1) 0 isAgg3 rfl rfl (idx_some hx5).2 rfl rfl rfl) ?_;refine gd_p rfl rfl rfl (o_callv_t (tl := tl_0) [_, _, _] rfl rfl rfl (hfto1 _ _ hx6)) ?_;refine gd_p rfl rfl rfl (o_indexAddr_arr 0 runUnderlying42 sizeOf98 rfl rfl rfl hx7) ?_;refine gd_p rfl rfl rfl (o_fieldAddr_apt (b := 0) 0 fi_98_1 rfl rfl (idx_some hx7).2) ?_;refine gd_nil ?_;refine go_u rfl rfl (o_store_arr (off := 1) (z' := (⟨x7.name, x6⟩ : ApiTField)) 0 sizeOf3 rfl rfl (idx_some hx7).2 rfl rfl rfl rfl rfl rfl (Nat.le_of_ble_eq_true rfl) rfl rfl) ?_;rintro _ _ rfl;refine go_ms (ms' := [_, box b2 44 [_, _, _, _], box b1 44 [_, _, _, _]] ++ tl_0) rfl ?_;refine gNl (gRg ?_);obtain ⟨hg8, hj2⟩ := grd_some hj2;refine go_p rfl rfl rfl (o_add rfl rfl (i64_id hg8)) ?_;refine go_p rfl rfl rfl (oMv rfl) ?_;refine gNl ?_;exact ⟨_, (), hj2, ⟨rfl, trivial⟩, ⟨rfl, rfl, rfl, rfl, trivial⟩, [], rfl⟩
   ·replace hj2 := cond_f hc2 hj2
    refine g_exit ?_;exact ⟨_, (), some_eq hj2, trivial, ⟨rfl, rfl, trivial⟩, [], rfl⟩
  ·rintro ⟨l1, z5, z6, z7⟩ ⟨⟩ hst
   subst hst;refine k_norm (L' := [(2, _), (4, _)]) (ms' := [arr a_r1 m_r1 cap_r1 98 2 ApiTField.d l1, _, box b1 44 [.i64 z5, .i64 z6, .i64 z7, .v (.slice a_r1 m_r1 cap_r1)]] ++ tl_0) rfl rfl ?_;refine g_seq (gRg ?_);refine go_thaw 0 rfl rfl ?_;rintro rfl;refine go_p rfl rfl rfl (oLg 2 isAgg44 sizeOf44 rfl rfl rfl rfl (Nat.le_of_ble_eq_true rfl)) ?_;refine go_conv (peekAggE (i := 43) (q := 3) 0 rfl rfl rfl rfl rfl).refines ?_;refine go_u rfl rfl (oSb 1 sizeOf44 rfl rfl rfl rfl rfl rfl rfl rfl (Nat.le_of_ble_eq_true rfl)) ?_;rintro _ _ rfl;refine go_ms (ms' := [_, box b2 44 [_, _, _, _], box b1 44 [_, _, _, _]] ++ tl_0) rfl ?_;refine gNl (g_ret ?_);exact retK (ret_one' (ms' := tl_0) (drop := [_, _, _]) rfl (ret_cell 1 rfl rfl rfl isAgg44 sizeOf44 rfl) (List.Perm.refl _)) ⟨congrArg (fun (p : ApiTNode) => (ApiTNode.d p : D)) (some_eq hm2), rfl⟩
noncomputable def m_graph_Graft_1 (k1 : Int) (c1 : Int) : Option Int :=
 grd (InR (k1 + c1)) <|
 some (k1 + c1)
theorem w_graph_Graft_1 {k1 : Int} {c1 : Int} {r_1 : Int} (hm : m_graph_Graft_1 k1 c1 = some r_1) : Fn0 Tryz.prog 110 [.i64 k1, .ref (.i64 c1)] (.i64 r_1) := by
 unfold m_graph_Graft_1 at hm;refine fn_intro func110 rfl ntmps110 rfl fun H0 fr w0 => ?_;refine g_seq (gRg ?_);refine go_p rfl rfl rfl (oAs rfl) ?_;refine gNl (g_seq (gRg ?_));refine go_p rfl rfl rfl (oMv rfl) ?_;refine go_p rfl rfl rfl (o_load isAgg3 rfl rfl) ?_;obtain ⟨hg1, hm⟩ := grd_some hm;refine go_p rfl rfl rfl (o_add rfl rfl (i64_id hg1)) ?_;refine go_p rfl rfl rfl (oAs rfl) ?_;refine gNl (g_ret ?_);exact retK (ret_one' rfl (ret_tmp rfl) (perm_drop _)) (congrArg (fun (p : Int) => (.i64 p : D)) (some_eq hm))
noncomputable def m_graph_Graft_l1 (a1 : ApiType) (bv1 : ApiType) : Nat -> (Int × Int × (List ApiTNode)) -> Option (Int × (List ApiTNode))
 | 0, _ => none
 | n + 1, (x1, z2, l2) =>
  bif (decide (x1 < (bv1.l.length : Int))) then
   (idx bv1.l x1).bind fun x2 =>
   (m_graph_moved (⟨x2.kind, x2.a, x2.b, x2.l⟩ : ApiTNode) (fun y0 => m_graph_Graft_1 y0 (a1.l.length : Int))).bind fun x3 =>
   grd ((l2.length + ([x3] : List _).length) * 48 <= 140737488355328) <|
   grd (InR (x1 + 1)) <|
   m_graph_Graft_l1 a1 bv1 n ((x1 + 1), z2, (l2 ++ [x3]))
  else
   some (z2, l2)
noncomputable def m_graph_Graft (a1 : ApiType) (bv1 : ApiType) : Option (ApiType × Int) :=
 grd (a1.l.length * 48 <= 140737488355328) <|
 (m_graph_Graft_l1 a1 bv1 FU (0, a1.root, a1.l) : Option (Int × (List ApiTNode))).bind fun (z1, l1) =>
 some ((⟨l1, z1⟩ : ApiType), (a1.l.length : Int))
theorem w_graph_Graft {a1 : ApiType} {bv1 : ApiType} {r_1 : ApiType} {r_2 : Int} (hm : m_graph_Graft a1 bv1 = some (r_1, r_2)) : Fn0 Tryz.prog 75 [ApiType.d a1, ApiType.d bv1] (.tup [ApiType.d r_1, .i64 r_2]) := by
 unfold m_graph_Graft at hm;refine fn_intro func75 rfl ntmps75 rfl fun H0 fr w0 => ?_;refine g_seq (gRg ?_);refine go_p rfl rfl rfl (o_box rfl rfl) ?_;refine go_p rfl rfl rfl (o_box rfl rfl) ?_;refine go_op rfl rfl rfl (o_alloc_own zeroValue24 (cs := [.list 4 ApiTNode.d [], .i64 0]) rfl) ?_;rintro _ _ ⟨b1, rfl, rfl⟩;refine go_p rfl rfl rfl (oAs rfl) ?_;refine gNl (g_seq (gRg ?_));refine go_p rfl rfl rfl (oFa fi_24_0 rfl rfl rfl) ?_;refine go_p rfl rfl rfl (o_load isAgg22 rfl rfl) ?_;refine go_p rfl rfl rfl (o_len runUnderlying22 rfl) ?_;refine go_op rfl rfl rfl (o_alloc_own zeroValue3 (cs := [.i64 0]) rfl) ?_;rintro _ _ ⟨b2, rfl, rfl⟩;refine go_u rfl rfl (oSb 0 sizeOf3 rfl rfl rfl rfl rfl rfl rfl rfl (Nat.le_of_ble_eq_true rfl)) ?_;rintro _ _ rfl;refine go_ms (ms' := [box b2 3 [_], box b1 24 [_, _]]) rfl ?_;refine go_conv (refines_freeze (d := .i64 (a1.l.length : Int)) 0 6 rfl rfl rfl rfl) ?_;refine gNl (g_seq ?_);obtain ⟨hg1, hm⟩ := grd_some hm;refine g_draw_x [2, 5] [7] [3, 4] [6] [] Tryz_mixed (by decide +kernel) (by decide +kernel) rfl ?_;refine gdx_p rfl rfl rfl rfl rfl rfl (oFa fi_24_0 rfl rfl rfl) ?_;refine gdx_p rfl rfl rfl rfl rfl rfl (o_load isAgg22 rfl rfl) ?_;refine gdx_e rfl ?_;refine gdx_p rfl rfl rfl rfl rfl rfl (oFa fi_24_1 rfl rfl rfl) ?_;refine gdx_p rfl rfl rfl rfl rfl rfl (o_load isAgg3 rfl rfl) ?_;refine gdx_e rfl ?_;refine gdx_fresh (R0 := fun d A => ∃ b, d = .v (.pointer (some ⟨b, 0, none⟩)) /\ A = box b 24 [.list 4 ApiTNode.d [], .i64 0]) rfl rfl rfl rfl (OpT.mono (o_alloc_own zeroValue24 (cs := [.list 4 ApiTNode.d [], .i64 0]) rfl) (by rintro d ms' ⟨b, rfl, rfl⟩; exact ⟨_, ⟨b, rfl, rfl⟩, rfl⟩)) ?_;refine gdx_e rfl ?_;refine gdx_nil ?_;refine gf_t rfl rfl rfl rfl (o_call (ms₁ := []) call74 rfl (List.Perm.refl _) (w_Clone_74 hg1)) ?_;rintro _ _ ⟨_, ⟨a_r1, cap_r1, rfl, rfl⟩, rfl⟩
 generalize hm_r1 : a1.l.length = m_r1
 clear hm_r1
 refine ⟨(trivial : True), ?_⟩;refine gf_t rfl rfl rfl rfl (o_build (zs := [.list 4 ApiTNode.d [], .v (.int .i64 0)]) runUnderlying24 zeroValue24 (pl_24 _ runUnderlying24) rfl rfl rfl rfl) ?_;rintro _ _ ⟨rfl, rfl⟩;refine ⟨(trivial : True), ?_⟩;refine gf_nil [(6, 7)] rfl ?_;rintro _ _ ⟨b3, rfl, rfl⟩
 show _ /\ _
 refine ⟨(trivial : True), ?_⟩;refine gde2_u rfl rfl rfl (oSb 0 sizeOf24 rfl rfl rfl rfl rfl rfl rfl rfl (Nat.le_of_ble_eq_true rfl)) ?_;rintro _ _ rfl;refine ⟨(trivial : True), ?_⟩;refine gde2_nil ?_;refine g_seq (g_seq (gRg ?_));refine go_p rfl rfl rfl (oFa fi_24_0 rfl rfl rfl) ?_;refine go_p rfl rfl rfl (o_load isAgg22 rfl rfl) ?_;refine go_p rfl rfl rfl (o_len runUnderlying22 rfl) ?_;refine go_p rfl rfl rfl (oMv rfl) ?_;refine gNl ?_;refine g_thaw 1 rfl rfl ?_;rintro rfl;obtain ⟨o_1, hj1, hm1⟩ := bind_some hm;refine g_cut_m [(4, _), (6, _), (7, _)] [(2, _)] (fun (st : (Int × (List ApiTNode))) (hid : (Option Addr × Nat)) => match st, hid with | (z1, l1), (a_r1, cap_r1) => []) (fun F (st : (Int × (List ApiTNode))) (hid : (Option Addr × Nat)) => match st, hid with | (z1, l1), (a_r1, cap_r1) => [box b3 24 [.v (.slice a_r1 l1.length cap_r1), .i64 z1], row a_r1 cap_r1 44 4 ApiTNode.d l1, (nthF F 0)]) (fun st => st = o_1) ⟨rfl, rfl, rfl, trivial⟩ ⟨rfl, trivial⟩ ?_ ?_
 ·skip
  refine g_block ?_;refine g_loop_m [(4, _), (6, _), (7, _), (20, _), (21, _)] [(2, _)] (fun (st : (Int × Int × (List ApiTNode))) (hid : (Option Addr × Nat)) => match st, hid with | (x1, z2, l2), (a_r1, cap_r1) => [(22, .i64 x1)]) (fun F (st : (Int × Int × (List ApiTNode))) (hid : (Option Addr × Nat)) => match st, hid with | (x1, z2, l2), (a_r1, cap_r1) => [box b3 24 [.v (.slice a_r1 l2.length cap_r1), .i64 z2], row a_r1 cap_r1 44 4 ApiTNode.d l2, (nthF F 0)]) (_, _) hj1 (fun _ => rfl) ⟨rfl, rfl, rfl, rfl, rfl, trivial⟩ ⟨rfl, trivial⟩ ⟨rfl, trivial⟩ rfl ?_;rintro n ⟨x1, z2, l2⟩ ⟨a_r1, cap_r1⟩ hj1;rw [m_graph_Graft_l1] at hj1;refine g_norm (L' := [(22, .i64 x1), (4, _), (6, _), (7, _), (20, _), (21, _)]) (ms' := [box b3 24 [.v (.slice a_r1 l2.length cap_r1), .i64 z2], row a_r1 cap_r1 44 4 ApiTNode.d l2, _]) rfl rfl ?_;refine g_seq (gRg ?_);refine go_p rfl rfl rfl (o_cmp rfl rfl rfl) ?_;refine gNl (g_seq ?_);refine gCd rfl (fun hc1 => ?_) (fun hc1 => ?_)
  ·replace hj1 := cond_t hc1 hj1
   refine gSp (g_seq (g_block (g_seq (gRg ?_))));obtain ⟨x2, hx2, hj1⟩ := bind_some hj1;refine go_p rfl rfl rfl (oIm runUnderlying22 sizeOf44 rfl rfl hx2) ?_;refine go_p rfl rfl rfl (o_load_agg isAgg44 sizeOf44 rfl rfl) ?_;refine go_op rfl rfl rfl (o_alloc_own zeroValue44 (cs := [.i64 0, .i64 0, .i64 0, .list 2 ApiTField.d []]) rfl) ?_;rintro _ _ ⟨b4, rfl, rfl⟩;refine go_u rfl rfl (oSb 0 sizeOf44 rfl rfl rfl rfl rfl rfl rfl rfl (Nat.le_of_ble_eq_true rfl)) ?_;rintro _ _ rfl;refine go_ms (ms' := [box b4 44 [_, _, _, _], box b3 24 [_, _], _, box b1 24 [_, _]]) rfl ?_;refine gNl ?_;obtain ⟨x3, hx3, hj1⟩ := bind_some hj1;refine g_draw 6 Tryz_mixed (by decide +kernel) ?_;refine gd_p rfl rfl rfl (oFb fi_24_0 rfl) ?_;refine gd_p rfl rfl rfl (oLb 1 isAgg22 rfl rfl rfl rfl) ?_;refine gd_p rfl rfl rfl (oLg 0 isAgg44 sizeOf44 rfl rfl rfl rfl (Nat.le_of_ble_eq_true rfl)) ?_;refine gd_p rfl rfl rfl (o_makeFunc rfl rfl) ?_;refine gd_p rfl rfl rfl (o_call_t [] call109 rfl rfl getL_n (w_graph_moved (fun _ _ h => fv_nil (fv_clo call110 (w_graph_Graft_1 h))) hx3)) ?_;refine gd_p rfl rfl rfl (o_buildSlice (xs := [_]) (f := ApiTNode.d) (l := [_]) runUnderlying22 sizeOf44 zeroValue44 rfl rfl rfl (fun _ => ⟨rfl, rfl, rfl⟩) rfl) ?_;refine gd_nil ?_;obtain ⟨hg4, hj1⟩ := grd_some hj1;refine go_op rfl rfl rfl (o_append (a := _) 2 underlying22 type44 rfl rfl rfl rfl rfl rfl rfl (fun _ => rfl) (fun _ => rfl) hg4 (app_len hg4 rfl)) ?_;rintro _ _ ⟨a_r1, cap_r1, rfl, rfl⟩;refine go_ms (ms' := [box b4 44 [_, _, _, _], box b3 24 [_, _], _, box b1 24 [_, _]]) rfl ?_;refine go_p rfl rfl rfl (oFb fi_24_0 rfl) ?_;refine go_u rfl rfl (oSb 1 sizeOf22 rfl rfl rfl rfl rfl rfl rfl rfl (Nat.le_of_ble_eq_true rfl)) ?_;rintro _ _ rfl;refine go_ms (ms' := [box b4 44 [_, _, _, _], box b3 24 [_, _], _, box b1 24 [_, _]]) rfl ?_;refine gNl (gRg ?_);obtain ⟨hg5, hj1⟩ := grd_some hj1;refine go_p rfl rfl rfl (o_add rfl rfl (i64_id hg5)) ?_;refine go_p rfl rfl rfl (oMv rfl) ?_;refine gNl ?_;exact ⟨_, (_, _), hj1, ⟨rfl, trivial⟩, ⟨rfl, rfl, rfl, rfl, rfl, trivial⟩, [_], rfl⟩
  ·replace hj1 := cond_f hc1 hj1
   refine g_exit ?_;exact ⟨_, (_, _), some_eq hj1, trivial, ⟨rfl, rfl, rfl, trivial⟩, [], rfl⟩
 ·rintro ⟨z1, l1⟩ ⟨a_r1, cap_r1⟩ hst
  subst hst;refine k_norm (L' := [(4, _), (6, _), (7, _)]) (ms' := [box b3 24 [.v (.slice a_r1 l1.length cap_r1), .i64 z1], row a_r1 cap_r1 44 4 ApiTNode.d l1, _]) rfl rfl ?_;refine g_seq ?_;refine g_conv (refines_cellrow 0 0 1 rfl rfl rfl rfl rfl rfl) ?_;refine g_draw_c [2] [1, 3] [] Tryz_mixed (by decide +kernel) (by decide +kernel) rfl ?_;refine gde_p rfl rfl rfl rfl rfl rfl (oLg 0 isAgg24 sizeOf24 rfl rfl rfl rfl (Nat.le_of_ble_eq_true rfl)) ?_;refine gde_p rfl rfl rfl rfl rfl rfl (o_load isAgg3 rfl rfl) ?_;refine gde_e rfl ?_;refine gde_p rfl rfl rfl rfl rfl rfl (oAs rfl) ?_;refine gde_nil ?_;refine gde2_u rfl rfl rfl (oSb 2 sizeOf24 rfl rfl rfl rfl rfl rfl rfl rfl (Nat.le_of_ble_eq_true rfl)) ?_;rintro _ _ rfl;refine ⟨(trivial : True), ?_⟩;refine gde2_nil ?_;refine g_ret ?_;exact retK (ret_many (ds := [_, _]) rfl (by decide) ⟨ret_cell 2 rfl rfl rfl isAgg24 sizeOf24 rfl, ⟨ret_tmp rfl, rfl⟩⟩ (perm_drop _)) (congrArg (fun (p : (ApiType × Int)) => D.tup [ApiType.d p.1, .i64 p.2]) (some_eq hm1))
noncomputable def m_below_below (a1 : ApiType) (bv1 : ApiType) : Option Bool :=
 (m_graph_Graft a1 bv1).bind fun (x1, x2) =>
 grd (InR (bv1.root + x2)) <|
 (m_holds (⟨x1.l, x1.root⟩ : ApiType) (⟨[a1.root], [(bv1.root + x2)]⟩ : BelowSequent)).bind fun x3 =>
 some x3
theorem w_below_below {a1 : ApiType} {bv1 : ApiType} {r_1 : Bool} (hm : m_below_below a1 bv1 = some r_1) : Fn0 Tryz.prog 66 [ApiType.d a1, ApiType.d bv1] (.bool r_1) := by
 unfold m_below_below at hm;refine fn_intro func66 rfl ntmps66 rfl fun H0 fr w0 => ?_;refine g_seq (gRg ?_);refine go_p rfl rfl rfl (o_box rfl rfl) ?_;refine go_p rfl rfl rfl (o_box rfl rfl) ?_;refine go_p rfl rfl rfl (oAs rfl) ?_;refine gNl (g_seq (gRg ?_));refine go_p rfl rfl rfl (o_load_agg isAgg24 sizeOf24 rfl rfl) ?_;refine go_p rfl rfl rfl (o_load_agg isAgg24 sizeOf24 rfl rfl) ?_;obtain ⟨⟨x1, x2⟩, hx1, hm⟩ := bind_some hm;refine go_p rfl rfl rfl (o_call0 call75 rfl (w_graph_Graft hx1)) ?_;refine go_p rfl rfl rfl (oMv rfl) ?_;refine go_p rfl rfl rfl (o_extract rfl rfl) ?_;refine go_p rfl rfl rfl (o_extract rfl rfl) ?_;refine go_op rfl rfl rfl (o_alloc_own zeroValue24 (cs := [.list 4 ApiTNode.d [], .i64 0]) rfl) ?_;rintro _ _ ⟨b1, rfl, rfl⟩;refine go_u rfl rfl (oSb 0 sizeOf24 rfl rfl rfl rfl rfl rfl rfl rfl (Nat.le_of_ble_eq_true rfl)) ?_;rintro _ _ rfl;refine go_ms (ms' := [box b1 24 [_, _]]) rfl ?_;refine go_p rfl rfl rfl (oAs rfl) ?_;refine gNl (g_seq (gRg ?_));refine go_p rfl rfl rfl (oLg 0 isAgg24 sizeOf24 rfl rfl rfl rfl (Nat.le_of_ble_eq_true rfl)) ?_;refine go_p rfl rfl rfl (oFa fi_24_1 rfl rfl rfl) ?_;refine go_p rfl rfl rfl (o_load isAgg3 rfl rfl) ?_;refine go_p rfl rfl rfl (o_buildSlice (xs := [_]) (f := D.i64) (l := [_]) runUnderlying25 sizeOf3 zeroValue3 rfl rfl rfl (fun _ => ⟨rfl, rfl, rfl⟩) rfl) ?_;refine go_p rfl rfl rfl (oFa fi_24_1 rfl rfl rfl) ?_;refine go_p rfl rfl rfl (o_load isAgg3 rfl rfl) ?_;refine go_p rfl rfl rfl (oMv rfl) ?_;obtain ⟨hg2, hm⟩ := grd_some hm;refine go_p rfl rfl rfl (o_add rfl rfl (i64_id hg2)) ?_;refine go_p rfl rfl rfl (o_buildSlice (xs := [_]) (f := D.i64) (l := [_]) runUnderlying25 sizeOf3 zeroValue3 rfl rfl rfl (fun _ => ⟨rfl, rfl, rfl⟩) rfl) ?_;refine go_p rfl rfl rfl (o_build (zs := [.list 1 D.i64 [], .list 1 D.i64 []]) runUnderlying75 zeroValue75 (pl_75 _ runUnderlying75) rfl rfl rfl rfl) ?_;obtain ⟨x3, hx3, hm⟩ := bind_some hm;refine go_p rfl rfl rfl (o_call0 call57 rfl (w_holds hx3)) ?_;refine go_p rfl rfl rfl (oAs rfl) ?_;refine gNl (g_ret ?_);exact retK (ret_one' rfl (ret_tmp rfl) (perm_drop _)) (congrArg (fun (p : Bool) => (.bool p : D)) (some_eq hm))
noncomputable def m_below_Below (a1 : ApiType) (bv1 : ApiType) : Option (Bool × Int) :=
 (m_below_may a1 bv1).bind fun x1 =>
 bif (!decide (x1 = 0)) then
  some (false, x1)
 else
  (m_below_below a1 bv1).bind fun x2 =>
  some (x2, 0)
theorem w_below_Below {a1 : ApiType} {bv1 : ApiType} {r_1 : Bool} {r_2 : Int} (hm : m_below_Below a1 bv1 = some (r_1, r_2)) : Fn0 Tryz.prog 26 [ApiType.d a1, ApiType.d bv1] (.tup [.bool r_1, .i64 r_2]) := by
 unfold m_below_Below at hm;refine fn_intro func26 rfl ntmps26 rfl fun H0 fr w0 => ?_;refine g_seq (gRg ?_);refine go_p rfl rfl rfl (o_box rfl rfl) ?_;refine go_p rfl rfl rfl (o_box rfl rfl) ?_;refine go_p rfl rfl rfl (oAs rfl) ?_;refine go_p rfl rfl rfl (oAs rfl) ?_;refine gNl (g_seq (g_seq (gRg ?_)));refine go_p rfl rfl rfl (o_load_agg isAgg24 sizeOf24 rfl rfl) ?_;refine go_p rfl rfl rfl (o_load_agg isAgg24 sizeOf24 rfl rfl) ?_;obtain ⟨x1, hx1, hm⟩ := bind_some hm;refine go_p rfl rfl rfl (o_call0 call65 rfl (w_below_may hx1)) ?_;refine go_p rfl rfl rfl (oAs rfl) ?_;refine gNl (g_seq (gRg ?_));refine go_p rfl rfl rfl (oMv rfl) ?_;refine go_p rfl rfl rfl (o_cmp rfl rfl rfl) ?_;refine gNl ?_;refine gCd rfl (fun hc1 => ?_) (fun hc1 => ?_)
 ·replace hm := cond_t hc1 hm
  refine g_seq (gRg ?_);refine go_p rfl rfl rfl (oMv rfl) ?_;refine go_p rfl rfl rfl (oAs rfl) ?_;refine go_p rfl rfl rfl (oAs rfl) ?_;refine gNl (g_ret ?_);exact retK (ret_many (ds := [_, _]) rfl (by decide) ⟨ret_tmp rfl, ⟨ret_tmp rfl, rfl⟩⟩ (perm_drop _)) (congrArg (fun (p : (Bool × Int)) => D.tup [.bool p.1, .i64 p.2]) (some_eq hm))
 ·replace hm := cond_f hc1 hm
  refine gSp (g_seq (gRg ?_));refine go_p rfl rfl rfl (o_load_agg isAgg24 sizeOf24 rfl rfl) ?_;refine go_p rfl rfl rfl (o_load_agg isAgg24 sizeOf24 rfl rfl) ?_;obtain ⟨x2, hx2, hm⟩ := bind_some hm;refine go_p rfl rfl rfl (o_call0 call66 rfl (w_below_below hx2)) ?_;refine go_p rfl rfl rfl (oAs rfl) ?_;refine go_p rfl rfl rfl (oAs rfl) ?_;refine gNl (g_ret ?_);exact retK (ret_many (ds := [_, _]) rfl (by decide) ⟨ret_tmp rfl, ⟨ret_tmp rfl, rfl⟩⟩ (perm_drop _)) (congrArg (fun (p : (Bool × Int)) => D.tup [.bool p.1, .i64 p.2]) (some_eq hm))
noncomputable def m_graph_Leaf (kind1 : Int) : Option ApiType :=
 some (⟨[(⟨kind1, 0, 0, ([] : List ApiTField)⟩ : ApiTNode)], 0⟩ : ApiType)
theorem w_graph_Leaf {kind1 : Int} {r_1 : ApiType} (hm : m_graph_Leaf kind1 = some r_1) : Fn0 Tryz.prog 60 [.i64 kind1] (ApiType.d r_1) := by
 unfold m_graph_Leaf at hm;refine fn_intro func60 rfl ntmps60 rfl fun H0 fr w0 => ?_;refine g_seq (gRg ?_);refine go_op rfl rfl rfl (o_alloc_own zeroValue24 (cs := [.list 4 ApiTNode.d [], .i64 0]) rfl) ?_;rintro _ _ ⟨b1, rfl, rfl⟩;refine gNl (g_seq (gRg ?_));refine go_p rfl rfl rfl (oMv rfl) ?_;refine go_p rfl rfl rfl (o_build (zs := [.v (.int .i64 0), .v (.int .i64 0), .v (.int .i64 0), .list 2 ApiTField.d []]) runUnderlying44 zeroValue44 (pl_44 _ runUnderlying44) rfl rfl rfl rfl) ?_;refine go_p rfl rfl rfl (o_buildSlice (xs := [_]) (f := ApiTNode.d) (l := [(⟨kind1, 0, 0, ([] : List ApiTField)⟩ : ApiTNode)]) runUnderlying22 sizeOf44 zeroValue44 rfl rfl rfl (fun _ => ⟨rfl, rfl, rfl⟩) rfl) ?_;refine go_p rfl rfl rfl (o_build (zs := [.list 4 ApiTNode.d [], .v (.int .i64 0)]) runUnderlying24 zeroValue24 (pl_24 _ runUnderlying24) rfl rfl rfl rfl) ?_;refine go_u rfl rfl (oSb 0 sizeOf24 rfl rfl rfl rfl rfl rfl rfl rfl (Nat.le_of_ble_eq_true rfl)) ?_;rintro _ _ rfl;refine go_ms (ms' := [box b1 24 [_, _]]) rfl ?_;refine gNl (g_ret ?_);exact retK (ret_one' rfl (ret_cell 0 rfl rfl rfl isAgg24 sizeOf24 rfl) (perm_drop _)) (congrArg (fun (p : ApiType) => (ApiType.d p : D)) (some_eq hm))
noncomputable def m_below_Least (t1 : ApiType) : Option Bool :=
 (m_graph_Leaf 2).bind fun x1 =>
 (m_below_Below t1 x1).bind fun (x2, x3) =>
 some x2
theorem w_below_Least {t1 : ApiType} {r_1 : Bool} (hm : m_below_Least t1 = some r_1) : Fn0 Tryz.prog 29 [ApiType.d t1] (.bool r_1) := by
 unfold m_below_Least at hm;refine fn_intro func29 rfl ntmps29 rfl fun H0 fr w0 => ?_;refine g_seq (gRg ?_);refine go_p rfl rfl rfl (o_box rfl rfl) ?_;refine go_p rfl rfl rfl (oAs rfl) ?_;refine gNl (g_seq ?_);obtain ⟨x1, hx1, hm⟩ := bind_some hm;obtain ⟨⟨x2, x3⟩, hx2, hm⟩ := bind_some hm;refine g_draw 8 Tryz_mixed (by decide +kernel) ?_;refine gd_p rfl rfl rfl (o_load_agg isAgg24 sizeOf24 rfl rfl) ?_;refine gd_p rfl rfl rfl (o_call0 call60 rfl (w_graph_Leaf hx1)) ?_;refine gd_p rfl rfl rfl (o_call0 call26 rfl (w_below_Below hx2)) ?_;refine gd_p rfl rfl rfl (oMv rfl) ?_;refine gd_p rfl rfl rfl (o_extract rfl rfl) ?_;refine gd_p rfl rfl rfl (o_extract rfl rfl) ?_;refine gd_p rfl rfl rfl (oAs rfl) ?_;refine gd_p rfl rfl rfl (oAs rfl) ?_;refine gd_nil ?_;refine gNl (g_seq (gRg ?_));refine go_p rfl rfl rfl (oMv rfl) ?_;refine go_p rfl rfl rfl (oAs rfl) ?_;refine gNl (g_ret ?_);exact retK (ret_one' rfl (ret_tmp rfl) (perm_drop _)) (congrArg (fun (p : Bool) => (.bool p : D)) (some_eq hm))
noncomputable def m_lb_works  : Option Bool :=
 (m_below_Below (⟨[(⟨3, 0, 0, ([] : List ApiTField)⟩ : ApiTNode), (⟨6, 0, 0, ([] : List ApiTField)⟩ : ApiTNode)], 1⟩ : ApiType) (⟨[(⟨3, 0, 0, ([] : List ApiTField)⟩ : ApiTNode), (⟨4, 0, 0, ([] : List ApiTField)⟩ : ApiTNode), (⟨10, 0, 1, ([] : List ApiTField)⟩ : ApiTNode), (⟨1, 0, 0, ([] : List ApiTField)⟩ : ApiTNode), (⟨6, 2, 3, ([] : List ApiTField)⟩ : ApiTNode)], 4⟩ : ApiType)).bind fun (x1, x2) =>
 (m_below_Below (⟨[(⟨3, 0, 0, ([] : List ApiTField)⟩ : ApiTNode), (⟨4, 0, 0, ([] : List ApiTField)⟩ : ApiTNode), (⟨10, 0, 1, ([] : List ApiTField)⟩ : ApiTNode), (⟨1, 0, 0, ([] : List ApiTField)⟩ : ApiTNode), (⟨6, 2, 3, ([] : List ApiTField)⟩ : ApiTNode)], 4⟩ : ApiType) (⟨[(⟨3, 0, 0, ([] : List ApiTField)⟩ : ApiTNode), (⟨6, 0, 0, ([] : List ApiTField)⟩ : ApiTNode)], 1⟩ : ApiType)).bind fun (x3, x4) =>
 (bif (((x1 && (decide (x2 = 0))) && (!x3)) && (decide (x4 = 0))) then ((m_graph_Leaf 2).bind fun x5 =>
 (m_below_Least x5).bind fun x6 =>
 some x6) else (some false)).bind fun p1 =>
 (bif p1 then ((m_below_Least (⟨[(⟨3, 0, 0, ([] : List ApiTField)⟩ : ApiTNode), (⟨6, 0, 0, ([] : List ApiTField)⟩ : ApiTNode)], 1⟩ : ApiType)).bind fun x7 =>
 some (!x7)) else (some false)).bind fun p2 =>
 some p2
theorem w_lb_works  {r_1 : Bool} (hm : m_lb_works = some r_1) : Fn0 Tryz.prog 17 [] (.bool r_1) := by
 unfold m_lb_works at hm;refine fn_intro func17 rfl ntmps17 rfl fun H0 fr w0 => ?_;refine g_seq (gRg ?_);refine go_p rfl rfl rfl (oAs rfl) ?_;refine gNl (g_seq (gRg ?_));refine go_p rfl rfl rfl (o_build (zs := [.v (.int .i64 0), .v (.int .i64 0), .v (.int .i64 0), .list 2 ApiTField.d []]) runUnderlying44 zeroValue44 (pl_44 _ runUnderlying44) rfl rfl rfl rfl) ?_;refine go_p rfl rfl rfl (o_build (zs := [.v (.int .i64 0), .v (.int .i64 0), .v (.int .i64 0), .list 2 ApiTField.d []]) runUnderlying44 zeroValue44 (pl_44 _ runUnderlying44) rfl rfl rfl rfl) ?_;refine go_p rfl rfl rfl (o_buildSlice (xs := [_, _]) (f := ApiTNode.d) (l := [(⟨3, 0, 0, ([] : List ApiTField)⟩ : ApiTNode), (⟨6, 0, 0, ([] : List ApiTField)⟩ : ApiTNode)]) runUnderlying22 sizeOf44 zeroValue44 rfl rfl rfl (fun _ => ⟨rfl, rfl, rfl⟩) rfl) ?_;refine go_p rfl rfl rfl (o_build (zs := [.list 4 ApiTNode.d [], .v (.int .i64 0)]) runUnderlying24 zeroValue24 (pl_24 _ runUnderlying24) rfl rfl rfl rfl) ?_;refine go_op rfl rfl rfl (o_alloc_own zeroValue24 (cs := [.list 4 ApiTNode.d [], .i64 0]) rfl) ?_;rintro _ _ ⟨b1, rfl, rfl⟩;refine go_u rfl rfl (oSb 0 sizeOf24 rfl rfl rfl rfl rfl rfl rfl rfl (Nat.le_of_ble_eq_true rfl)) ?_;rintro _ _ rfl;refine go_ms (ms' := [box b1 24 [_, _]]) rfl ?_;refine gNl (g_seq (gRg ?_));refine go_p rfl rfl rfl (o_build (zs := [.v (.int .i64 0), .v (.int .i64 0), .v (.int .i64 0), .list 2 ApiTField.d []]) runUnderlying44 zeroValue44 (pl_44 _ runUnderlying44) rfl rfl rfl rfl) ?_;refine go_p rfl rfl rfl (o_build (zs := [.v (.int .i64 0), .v (.int .i64 0), .v (.int .i64 0), .list 2 ApiTField.d []]) runUnderlying44 zeroValue44 (pl_44 _ runUnderlying44) rfl rfl rfl rfl) ?_;refine go_p rfl rfl rfl (o_build (zs := [.v (.int .i64 0), .v (.int .i64 0), .v (.int .i64 0), .list 2 ApiTField.d []]) runUnderlying44 zeroValue44 (pl_44 _ runUnderlying44) rfl rfl rfl rfl) ?_;refine go_p rfl rfl rfl (o_build (zs := [.v (.int .i64 0), .v (.int .i64 0), .v (.int .i64 0), .list 2 ApiTField.d []]) runUnderlying44 zeroValue44 (pl_44 _ runUnderlying44) rfl rfl rfl rfl) ?_;refine go_p rfl rfl rfl (o_build (zs := [.v (.int .i64 0), .v (.int .i64 0), .v (.int .i64 0), .list 2 ApiTField.d []]) runUnderlying44 zeroValue44 (pl_44 _ runUnderlying44) rfl rfl rfl rfl) ?_;refine go_p rfl rfl rfl (o_buildSlice (xs := [_, _, _, _, _]) (f := ApiTNode.d) (l := [(⟨3, 0, 0, ([] : List ApiTField)⟩ : ApiTNode), (⟨4, 0, 0, ([] : List ApiTField)⟩ : ApiTNode), (⟨10, 0, 1, ([] : List ApiTField)⟩ : ApiTNode), (⟨1, 0, 0, ([] : List ApiTField)⟩ : ApiTNode), (⟨6, 2, 3, ([] : List ApiTField)⟩ : ApiTNode)]) runUnderlying22 sizeOf44 zeroValue44 rfl rfl rfl (fun _ => ⟨rfl, rfl, rfl⟩) rfl) ?_;refine go_p rfl rfl rfl (o_build (zs := [.list 4 ApiTNode.d [], .v (.int .i64 0)]) runUnderlying24 zeroValue24 (pl_24 _ runUnderlying24) rfl rfl rfl rfl) ?_
 refine go_op rfl rfl rfl (o_alloc_own zeroValue24 (cs := [.list 4 ApiTNode.d [], .i64 0]) rfl) ?_;rintro _ _ ⟨b2, rfl, rfl⟩;refine go_u rfl rfl (oSb 0 sizeOf24 rfl rfl rfl rfl rfl rfl rfl rfl (Nat.le_of_ble_eq_true rfl)) ?_;rintro _ _ rfl;refine go_ms (ms' := [box b2 24 [_, _], box b1 24 [_, _]]) rfl ?_;refine gNl (g_seq (gRg ?_));refine go_p rfl rfl rfl (oLg 1 isAgg24 sizeOf24 rfl rfl rfl rfl (Nat.le_of_ble_eq_true rfl)) ?_;refine go_p rfl rfl rfl (oLg 0 isAgg24 sizeOf24 rfl rfl rfl rfl (Nat.le_of_ble_eq_true rfl)) ?_;obtain ⟨⟨x1, x2⟩, hx1, hm⟩ := bind_some hm;refine go_p rfl rfl rfl (o_call0 call26 rfl (w_below_Below hx1)) ?_;refine go_p rfl rfl rfl (oMv rfl) ?_;refine go_p rfl rfl rfl (o_extract rfl rfl) ?_;refine go_p rfl rfl rfl (o_extract rfl rfl) ?_;refine go_p rfl rfl rfl (oAs rfl) ?_;refine go_p rfl rfl rfl (oAs rfl) ?_;refine gNl (g_seq (gRg ?_));refine go_p rfl rfl rfl (oLg 0 isAgg24 sizeOf24 rfl rfl rfl rfl (Nat.le_of_ble_eq_true rfl)) ?_;refine go_p rfl rfl rfl (oLg 1 isAgg24 sizeOf24 rfl rfl rfl rfl (Nat.le_of_ble_eq_true rfl)) ?_;obtain ⟨⟨x3, x4⟩, hx2, hm⟩ := bind_some hm;refine go_p rfl rfl rfl (o_call0 call26 rfl (w_below_Below hx2)) ?_;refine go_p rfl rfl rfl (oMv rfl) ?_;refine go_p rfl rfl rfl (o_extract rfl rfl) ?_;refine go_p rfl rfl rfl (o_extract rfl rfl) ?_;refine go_p rfl rfl rfl (oAs rfl) ?_;refine go_p rfl rfl rfl (oAs rfl) ?_;refine gNl (g_seq (gRg ?_));refine go_p rfl rfl rfl (oMv rfl) ?_;refine go_p rfl rfl rfl (oMv rfl) ?_
 apply go_and [(1, _), (5, _), (6, _)] 3 34 (t := 31) ⟨rfl, rfl, rfl, trivial⟩ rfl
 ·intro hg_1 hk1
  refine gWp rfl rfl rfl hg_1 rfl rfl (oMv rfl) ?_;refine gWp rfl rfl rfl hg_1 rfl rfl (o_cmp rfl rfl rfl) ?_;refine go_p rfl rfl rfl (o_pickT rfl hg_1 rfl) ?_;exact gMt hk1 (rfl) ⟨rfl, rfl, rfl, trivial⟩
 ·intro hg_1 hk1
  refine gKp rfl rfl rfl hg_1 rfl rfl ?_;refine gKp rfl rfl rfl hg_1 rfl rfl ?_;refine go_p rfl rfl rfl (o_pickF rfl hg_1 rfl) ?_;exact gMt hk1 (rfl) ⟨rfl, rfl, rfl, trivial⟩
 refine go_p rfl rfl rfl (oMv rfl) ?_
 apply go_and [(1, _), (6, _)] 3 38 (t := 35) ⟨rfl, rfl, trivial⟩ rfl
 ·intro hg_2 hk2
  refine gWp rfl rfl rfl hg_2 rfl rfl (oMv rfl) ?_;refine gWp rfl rfl rfl hg_2 rfl rfl (o_not rfl) ?_;refine go_p rfl rfl rfl (o_pickT rfl hg_2 rfl) ?_;exact gMt hk2 (rfl) ⟨rfl, rfl, trivial⟩
 ·intro hg_2 hk2
  refine gKp rfl rfl rfl hg_2 rfl rfl ?_;refine gKp rfl rfl rfl hg_2 rfl rfl ?_;refine go_p rfl rfl rfl (o_pickF rfl hg_2 rfl) ?_;exact gMt hk2 (rfl) ⟨rfl, rfl, trivial⟩
 refine go_p rfl rfl rfl (oMv rfl) ?_
 apply go_and [(1, _)] 3 42 (t := 39) ⟨rfl, trivial⟩ rfl
 ·intro hg_3 hk3
  refine gWp rfl rfl rfl hg_3 rfl rfl (oMv rfl) ?_;refine gWp rfl rfl rfl hg_3 rfl rfl (o_cmp rfl rfl rfl) ?_;refine go_p rfl rfl rfl (o_pickT rfl hg_3 rfl) ?_;exact gMt hk3 (rfl) ⟨rfl, trivial⟩
 ·intro hg_3 hk3
  refine gKp rfl rfl rfl hg_3 rfl rfl ?_;refine gKp rfl rfl rfl hg_3 rfl rfl ?_;refine go_p rfl rfl rfl (o_pickF rfl hg_3 rfl) ?_;exact gMt hk3 (rfl) ⟨rfl, trivial⟩
 refine go_p rfl rfl rfl (oMv rfl) ?_;obtain ⟨p1, hp_4, hm⟩ := bind_some hm;refine go_two [(1, _)] 3 46 p1 (t := 43) ⟨rfl, trivial⟩ rfl (fun hg_4 hk4 => ?_) (fun hg_4 hk4 => ?_) ?_
 ·replace hp_4 := cond_t hg_4 hp_4
  obtain ⟨x5, hx3, hp_4⟩ := bind_some hp_4;refine gWp rfl rfl rfl hg_4 rfl rfl (o_call0 call60 rfl (w_graph_Leaf hx3)) ?_;obtain ⟨x6, hx4, hp_4⟩ := bind_some hp_4;refine gWp rfl rfl rfl hg_4 rfl rfl (o_call0 call29 rfl (w_below_Least hx4)) ?_;refine go_p rfl rfl rfl (o_pickT rfl hg_4 rfl) ?_;exact gMt hk4 (congrArg (fun b => some (D.bool b)) (some_eq hp_4)) ⟨rfl, trivial⟩
 ·replace hp_4 := cond_f hg_4 hp_4
  refine gKp rfl rfl rfl hg_4 rfl rfl ?_;refine gKp rfl rfl rfl hg_4 rfl rfl ?_;refine go_p rfl rfl rfl (o_pickF rfl hg_4 rfl) ?_;exact gMt hk4 (congrArg (fun b => some (D.bool b)) (some_eq hp_4)) ⟨rfl, trivial⟩
 refine go_p rfl rfl rfl (oMv rfl) ?_;obtain ⟨p2, hp_5, hm⟩ := bind_some hm;refine go_two [] 4 51 p2 (t := 47) trivial rfl (fun hg_5 hk5 => ?_) (fun hg_5 hk5 => ?_) ?_
 ·replace hp_5 := cond_t hg_5 hp_5
  refine gWp rfl rfl rfl hg_5 rfl rfl (oLg 1 isAgg24 sizeOf24 rfl rfl rfl rfl (Nat.le_of_ble_eq_true rfl)) ?_;obtain ⟨x7, hx5, hp_5⟩ := bind_some hp_5;refine gWp rfl rfl rfl hg_5 rfl rfl (o_call0 call29 rfl (w_below_Least hx5)) ?_;refine gWp rfl rfl rfl hg_5 rfl rfl (o_not rfl) ?_;refine go_p rfl rfl rfl (o_pickT rfl hg_5 rfl) ?_;exact gMt hk5 (congrArg (fun b => some (D.bool b)) (some_eq hp_5)) trivial
 ·replace hp_5 := cond_f hg_5 hp_5
  refine gKp rfl rfl rfl hg_5 rfl rfl ?_;refine gKp rfl rfl rfl hg_5 rfl rfl ?_;refine gKp rfl rfl rfl hg_5 rfl rfl ?_;refine go_p rfl rfl rfl (o_pickF rfl hg_5 rfl) ?_;exact gMt hk5 (congrArg (fun b => some (D.bool b)) (some_eq hp_5)) trivial
 refine go_p rfl rfl rfl (oAs rfl) ?_;refine gNl (g_ret ?_);exact retK (ret_one' rfl (ret_tmp rfl) (perm_drop _)) (congrArg (fun (p : Bool) => (.bool p : D)) (some_eq hm))
structure RSeq where
 l : (List Int)
 r : (List Int)
def RSeq.d (x : RSeq) : D := .agg [.list 1 D.i64 x.l, .list 1 D.i64 x.r]
noncomputable def m_lb_is (a1 : ApiType) (bv1 : ApiType) : Option Bool :=
 (m_below_Below a1 bv1).bind fun (x1, x2) =>
 some (x1 && (decide (x2 = 0)))
theorem w_lb_is {a1 : ApiType} {bv1 : ApiType} {r_1 : Bool} (hm : m_lb_is a1 bv1 = some r_1) : Fn0 Tryz.prog 35 [ApiType.d a1, ApiType.d bv1] (.bool r_1) := by
 unfold m_lb_is at hm;refine fn_intro func35 rfl ntmps35 rfl fun H0 fr w0 => ?_;refine g_seq (gRg ?_);refine go_p rfl rfl rfl (o_box rfl rfl) ?_;refine go_p rfl rfl rfl (o_box rfl rfl) ?_;refine go_p rfl rfl rfl (oAs rfl) ?_;refine gNl (g_seq (gRg ?_));refine go_p rfl rfl rfl (o_load_agg isAgg24 sizeOf24 rfl rfl) ?_;refine go_p rfl rfl rfl (o_load_agg isAgg24 sizeOf24 rfl rfl) ?_;obtain ⟨⟨x1, x2⟩, hx1, hm⟩ := bind_some hm;refine go_p rfl rfl rfl (o_call0 call26 rfl (w_below_Below hx1)) ?_;refine go_p rfl rfl rfl (oMv rfl) ?_;refine go_p rfl rfl rfl (o_extract rfl rfl) ?_;refine go_p rfl rfl rfl (o_extract rfl rfl) ?_;refine go_p rfl rfl rfl (oAs rfl) ?_;refine go_p rfl rfl rfl (oAs rfl) ?_;refine gNl (g_seq (gRg ?_));refine go_p rfl rfl rfl (oMv rfl) ?_;refine go_p rfl rfl rfl (oMv rfl) ?_
 apply go_and [] 3 17 (t := 14) trivial rfl
 ·intro hg_1 hk1
  refine gWp rfl rfl rfl hg_1 rfl rfl (oMv rfl) ?_;refine gWp rfl rfl rfl hg_1 rfl rfl (o_cmp rfl rfl rfl) ?_;refine go_p rfl rfl rfl (o_pickT rfl hg_1 rfl) ?_;exact gMt hk1 (rfl) trivial
 ·intro hg_1 hk1
  refine gKp rfl rfl rfl hg_1 rfl rfl ?_;refine gKp rfl rfl rfl hg_1 rfl rfl ?_;refine go_p rfl rfl rfl (o_pickF rfl hg_1 rfl) ?_;exact gMt hk1 (rfl) trivial
 refine go_p rfl rfl rfl (oAs rfl) ?_;refine gNl (g_ret ?_);exact retK (ret_one' rfl (ret_tmp rfl) (perm_drop _)) (congrArg (fun (p : Bool) => (.bool p : D)) (some_eq hm))
noncomputable def m_graph_Vars_r1 (t1 : ApiType) : List Int -> (List Int) -> Option (List Int)
 | [], l2 =>
  some l2
 | x2 :: rr, l2 =>
  (idx t1.l x2).bind fun x3 =>
  bif (decide (x3.kind = 11)) then
   grd ((l2.length + ([x3.a] : List _).length) * 8 <= 140737488355328) <|
   m_graph_Vars_r1 t1 rr (l2 ++ [x3.a])
  else
   m_graph_Vars_r1 t1 rr l2
noncomputable def m_graph_Vars (t1 : ApiType) : Option (List Int) :=
 (m_graph_May t1).bind fun x1 =>
 bif (!decide (x1 = 0)) then
  some []
 else
  ((m_below t1 t1.root).bind fun xs1 =>
  m_graph_Vars_r1 t1 xs1 [] : Option (List Int)).bind fun l1 =>
  grd (l1.length < 4611686018427387904) <|
  some (Lib.compact (List.mergeSort l1 fun x y => decide (x <= y)))
theorem w_graph_Vars {t1 : ApiType} {r_1 : (List Int)} (hm : m_graph_Vars t1 = some r_1) : Fn0 Tryz.prog 71 [ApiType.d t1] (.list 1 D.i64 r_1) := by
 unfold m_graph_Vars at hm;refine fn_intro func71 rfl ntmps71 rfl fun H0 fr w0 => ?_;refine g_seq (gRg ?_);refine go_p rfl rfl rfl (o_box rfl rfl) ?_;refine go_p rfl rfl rfl (oAs rfl) ?_;refine go_conv (nilE (i := 2) (sz := 1) (f := D.i64) rfl).refines ?_;refine gNl (g_seq (g_seq (gRg ?_)));refine go_p rfl rfl rfl (o_load_agg isAgg24 sizeOf24 rfl rfl) ?_;obtain ⟨x1, hx1, hm⟩ := bind_some hm;refine go_p rfl rfl rfl (o_call0 call53 rfl (w_graph_May hx1)) ?_;refine go_p rfl rfl rfl (o_cmp rfl rfl rfl) ?_;refine gNl ?_;refine gCd rfl (fun hc1 => ?_) (fun hc1 => ?_)
 ·replace hm := cond_t hc1 hm
  refine g_seq (gRg ?_);refine go_p rfl rfl rfl (oAs rfl) ?_;refine go_conv (nilE (i := 2) (sz := 1) (f := D.i64) rfl).refines ?_;refine gNl (g_ret ?_);exact retK (ret_one' rfl (ret_tmp rfl) (perm_drop _)) (congrArg (fun (p : (List Int)) => (.list 1 D.i64 p : D)) (some_eq hm))
 ·replace hm := cond_f hc1 hm
  refine gSp (g_seq (gRg ?_));refine go_op rfl rfl rfl (o_alloc_own zeroValue25 (cs := [.v (.slice none 0 0)]) rfl) ?_;rintro _ _ ⟨b1, rfl, rfl⟩;refine go_conv (refines_newarr (T := 3) (sz := 1) (f := D.i64)) ?_;refine gNl (g_seq (g_seq (gRg ?_)));refine go_p rfl rfl rfl (o_load_agg isAgg24 sizeOf24 rfl rfl) ?_;refine go_p rfl rfl rfl (oFa fi_24_1 rfl rfl rfl) ?_;refine go_p rfl rfl rfl (o_load isAgg3 rfl rfl) ?_;refine go_p rfl rfl rfl (o_call0 call107 rfl w_below) ?_;refine gNl ?_;obtain ⟨o_1, hj1, hm1⟩ := bind_some hm;refine g_cut_m [(3, _)] [] (fun (st : (List Int)) (hid : (Option Addr × Nat × Nat)) => match st, hid with | l1, (a_r1, m_r1, cap_r1) => []) (fun F (st : (List Int)) (hid : (Option Addr × Nat × Nat)) => match st, hid with | l1, (a_r1, m_r1, cap_r1) => [arr a_r1 m_r1 cap_r1 3 1 D.i64 l1, box b1 25 [.v (.slice a_r1 m_r1 cap_r1)]]) (fun st => st = o_1) ⟨rfl, trivial⟩ trivial ?_ ?_
  ·skip
   refine g_block ?_;obtain ⟨xs1, hx2, hj1⟩ := bind_some hj1;refine g_range_m (fun (p : Int) => [.i64 p]) [] (fun F (st : (List Int)) (hid : (Option Addr × Nat × Nat)) => match st, hid with | l2, (a_r1, m_r1, cap_r1) => [arr a_r1 m_r1 cap_r1 3 1 D.i64 l2, box b1 25 [.v (.slice a_r1 m_r1 cap_r1)]]) (_, _, _) hj1 trivial rfl rfl call138 (it_below hx2) (fun _ => rfl) rfl ?_ ?_
   ·rintro H0r frr ror w0r hrr x2 rr l2 ⟨a_r1, m_r1, cap_r1⟩ hj1
    rw [m_graph_Vars_r1] at hj1;refine g_norm (ms' := [arr a_r1 m_r1 cap_r1 3 1 D.i64 l2, box b1 25 [.v (.slice a_r1 m_r1 cap_r1)]]) rfl rfl ?_;refine gRg ?_;refine go_p rfl rfl rfl (oAs rfl) ?_;refine gNl ?_
    intro H0r frr ror w0r hrr
    refine g_block (g_seq (gRg ?_));refine go_p rfl rfl rfl (oFa fi_24_0 rfl rfl rfl) ?_;refine go_p rfl rfl rfl (o_load isAgg22 rfl rfl) ?_;refine go_p rfl rfl rfl (oMv rfl) ?_;obtain ⟨x3, hx3, hj1⟩ := bind_some hj1;refine go_p rfl rfl rfl (oIm runUnderlying22 sizeOf44 rfl rfl hx3) ?_;refine go_p rfl rfl rfl (o_load_agg isAgg44 sizeOf44 rfl rfl) ?_;refine go_op rfl rfl rfl (o_alloc_own zeroValue44 (cs := [.i64 0, .i64 0, .i64 0, .list 2 ApiTField.d []]) rfl) ?_;rintro _ _ ⟨b2, rfl, rfl⟩;refine go_u rfl rfl (oSb 0 sizeOf44 rfl rfl rfl rfl rfl rfl rfl rfl (Nat.le_of_ble_eq_true rfl)) ?_;rintro _ _ rfl;refine go_ms (ms' := [box b2 44 [_, _, _, _], _, box b1 25 [_]]) rfl ?_;refine gNl (g_seq (gRg ?_));refine go_p rfl rfl rfl (oFb fi_44_0 rfl) ?_;refine go_p rfl rfl rfl (oLb 0 isAgg3 rfl rfl rfl rfl) ?_;refine go_p rfl rfl rfl (o_cmp rfl rfl rfl) ?_;refine gNl ?_;refine gCd rfl (fun hc2 => ?_) (fun hc2 => ?_)
    ·replace hj1 := cond_t hc2 hj1
     refine gRg ?_;refine go_p rfl rfl rfl (oLb 2 isAgg25 rfl rfl rfl rfl) ?_;refine go_p rfl rfl rfl (oFb fi_44_1 rfl) ?_;refine go_p rfl rfl rfl (oLb 0 isAgg3 rfl rfl rfl rfl) ?_;refine go_p rfl rfl rfl (o_buildSlice (xs := [_]) (f := D.i64) (l := [_]) runUnderlying25 sizeOf3 zeroValue3 rfl rfl rfl (fun _ => ⟨rfl, rfl, rfl⟩) rfl) ?_;obtain ⟨hg4, hj1⟩ := grd_some hj1;refine go_op rfl rfl rfl (o_append_own (a := _) 1 underlying25 type3 rfl rfl rfl rfl rfl rfl (fun _ => rfl) (fun _ => rfl) hg4 (app_len hg4 rfl)) ?_;rintro _ _ ⟨a_r1, m_r1, cap_r1, rfl, rfl⟩;refine go_ms (ms' := [box b2 44 [_, _, _, _], _, box b1 25 [_]]) rfl ?_;refine go_u rfl rfl (oSb 2 sizeOf25 rfl rfl rfl rfl rfl rfl rfl rfl (Nat.le_of_ble_eq_true rfl)) ?_;rintro _ _ rfl;refine go_ms (ms' := [box b2 44 [_, _, _, _], _, box b1 25 [_]]) rfl ?_;refine gNl ?_;exact ⟨_, (_, _, _), hj1, [_], rfl⟩
    ·replace hj1 := cond_f hc2 hj1
     refine gSp ?_;exact ⟨_, (_, _, _), hj1, [_], rfl⟩
   ·rintro l2 ⟨a_r1, m_r1, cap_r1⟩ hj1
    rw [m_graph_Vars_r1] at hj1;refine k_norm (ms' := [arr a_r1 m_r1 cap_r1 3 1 D.i64 l2, box b1 25 [.v (.slice a_r1 m_r1 cap_r1)]]) rfl rfl ?_;exact ⟨_, (_, _, _), some_eq hj1, trivial, ⟨rfl, trivial⟩, [], rfl⟩
  ·rintro l1 ⟨a_r1, m_r1, cap_r1⟩ hst
   subst hst;refine k_norm (L' := [(3, _)]) (ms' := [arr a_r1 m_r1 cap_r1 3 1 D.i64 l1, box b1 25 [.v (.slice a_r1 m_r1 cap_r1)]]) rfl rfl ?_;refine g_seq (gRg ?_);refine go_p rfl rfl rfl (oLb 1 isAgg25 rfl rfl rfl rfl) ?_;obtain ⟨hg5, hm1⟩ := grd_some hm1;refine go_op rfl rfl rfl (o_call_own [0] call98 rfl rfl (getL_c rfl getL_n) (sh_Sort hg5) (by rintro _ _ ⟨_, rfl⟩; rfl)) ?_;rintro _ _ ⟨_, ⟨rfl, rfl⟩, rfl⟩;refine go_ms (ms' := [_, box b1 25 [_]]) rfl ?_;refine gNl (g_seq (gRg ?_));refine go_p rfl rfl rfl (oLb 1 isAgg25 rfl rfl rfl rfl) ?_;refine go_op rfl rfl rfl (o_call_own [0] call99 rfl rfl (getL_c rfl getL_n) sh_Compact (by rintro _ _ ⟨_, _, rfl⟩; rfl)) ?_;rintro _ _ ⟨_, ⟨m_r1, rfl, rfl⟩, rfl⟩;refine go_ms (ms' := [_, box b1 25 [_]]) rfl ?_;refine go_p rfl rfl rfl (oAs rfl) ?_;refine gNl ?_;refine g_thaw 0 rfl rfl ?_;rintro rfl;refine g_conv (peekE (i := 2) 0 rfl rfl rfl).refines ?_;refine g_ret ?_;exact retK (ret_one' rfl (ret_tmp rfl) (perm_drop _)) (congrArg (fun (p : (List Int)) => (.list 1 D.i64 p : D)) (some_eq hm1))
noncomputable def m_graph_Ground (t1 : ApiType) : Option Bool :=
 (m_graph_May t1).bind fun x1 =>
 (bif (decide (x1 = 0)) then ((m_graph_Vars t1).bind fun x2 =>
 some (decide ((x2.length : Int) = 0))) else (some false)).bind fun p1 =>
 some p1
theorem w_graph_Ground {t1 : ApiType} {r_1 : Bool} (hm : m_graph_Ground t1 = some r_1) : Fn0 Tryz.prog 36 [ApiType.d t1] (.bool r_1) := by
 unfold m_graph_Ground at hm;refine fn_intro func36 rfl ntmps36 rfl fun H0 fr w0 => ?_;refine g_seq (gRg ?_);refine go_p rfl rfl rfl (o_box rfl rfl) ?_;refine go_p rfl rfl rfl (oAs rfl) ?_;refine gNl (g_seq (gRg ?_));refine go_p rfl rfl rfl (o_load_agg isAgg24 sizeOf24 rfl rfl) ?_;obtain ⟨x1, hx1, hm⟩ := bind_some hm;refine go_p rfl rfl rfl (o_call0 call53 rfl (w_graph_May hx1)) ?_;refine go_p rfl rfl rfl (o_cmp rfl rfl rfl) ?_;refine go_p rfl rfl rfl (oMv rfl) ?_;obtain ⟨p1, hp_1, hm⟩ := bind_some hm;refine go_two [] 5 11 p1 (t := 6) trivial rfl (fun hg_1 hk1 => ?_) (fun hg_1 hk1 => ?_) ?_
 ·replace hp_1 := cond_t hg_1 hp_1
  refine gWp rfl rfl rfl hg_1 rfl rfl (o_load_agg isAgg24 sizeOf24 rfl rfl) ?_;obtain ⟨x2, hx2, hp_1⟩ := bind_some hp_1;refine gWp rfl rfl rfl hg_1 rfl rfl (o_call0 call71 rfl (w_graph_Vars hx2)) ?_;refine gWp rfl rfl rfl hg_1 rfl rfl (o_len runUnderlying25 rfl) ?_;refine gWp rfl rfl rfl hg_1 rfl rfl (o_cmp rfl rfl rfl) ?_;refine go_p rfl rfl rfl (o_pickT rfl hg_1 rfl) ?_;exact gMt hk1 (congrArg (fun b => some (D.bool b)) (some_eq hp_1)) trivial
 ·replace hp_1 := cond_f hg_1 hp_1
  refine gKp rfl rfl rfl hg_1 rfl rfl ?_;refine gKp rfl rfl rfl hg_1 rfl rfl ?_;refine gKp rfl rfl rfl hg_1 rfl rfl ?_;refine gKp rfl rfl rfl hg_1 rfl rfl ?_;refine go_p rfl rfl rfl (o_pickF rfl hg_1 rfl) ?_;exact gMt hk1 (congrArg (fun b => some (D.bool b)) (some_eq hp_1)) trivial
 refine go_p rfl rfl rfl (oAs rfl) ?_;refine gNl (g_ret ?_);exact retK (ret_one' rfl (ret_tmp rfl) (perm_drop _)) (congrArg (fun (p : Bool) => (.bool p : D)) (some_eq hm))
noncomputable def m_lb_BelowOrder (a1 : ApiType) (bv1 : ApiType) (c1 : ApiType) : Option Bool :=
 (m_lb_works).bind fun x1 =>
 bif (!x1) then
  some false
 else
  (m_lb_few (⟨a1.l, a1.root⟩ : ApiType)).bind fun x2 =>
  (m_lb_few (⟨bv1.l, bv1.root⟩ : ApiType)).bind fun x3 =>
  (m_lb_few (⟨c1.l, c1.root⟩ : ApiType)).bind fun x4 =>
  (m_rg_May (⟨x2.l, x2.root⟩ : ApiType)).bind fun x5 =>
  bif (!decide (x5 = 0)) then
   (m_lb_is (⟨x2.l, x2.root⟩ : ApiType) (⟨x2.l, x2.root⟩ : ApiType)).bind fun x6 =>
   some (!x6)
  else
   (m_lb_is (⟨x2.l, x2.root⟩ : ApiType) (⟨x2.l, x2.root⟩ : ApiType)).bind fun x7 =>
   bif (!x7) then
    some false
   else
    (m_graph_Ground (⟨x2.l, x2.root⟩ : ApiType)).bind fun x8 =>
    (bif (!x8) then (some true) else ((m_graph_Ground (⟨x3.l, x3.root⟩ : ApiType)).bind fun x9 =>
    some (!x9))).bind fun p1 =>
    (bif p1 then (some true) else ((m_graph_Ground (⟨x4.l, x4.root⟩ : ApiType)).bind fun x10 =>
    some (!x10))).bind fun p2 =>
    bif p2 then
     some true
    else
     (m_lb_is (⟨x2.l, x2.root⟩ : ApiType) (⟨x3.l, x3.root⟩ : ApiType)).bind fun x11 =>
     (bif (!x11) then (some true) else ((m_lb_is (⟨x3.l, x3.root⟩ : ApiType) (⟨x4.l, x4.root⟩ : ApiType)).bind fun x12 =>
     some (!x12))).bind fun p3 =>
     (bif p3 then (some true) else ((m_lb_is (⟨x2.l, x2.root⟩ : ApiType) (⟨x4.l, x4.root⟩ : ApiType)).bind fun x13 =>
     some x13)).bind fun p4 =>
     some p4
theorem w_lb_BelowOrder {a1 : ApiType} {bv1 : ApiType} {c1 : ApiType} {r_1 : Bool} (hm : m_lb_BelowOrder a1 bv1 c1 = some r_1) : Fn0 Tryz.prog 8 [ApiType.d a1, ApiType.d bv1, ApiType.d c1] (.bool r_1) := by
 unfold m_lb_BelowOrder at hm;refine fn_intro func8 rfl ntmps8 rfl fun H0 fr w0 => ?_;refine g_seq (gRg ?_);refine go_op rfl rfl rfl (o_box_own rfl rfl rfl) ?_;rintro _ _ ⟨b1, rfl, rfl⟩;refine go_op rfl rfl rfl (o_box_own rfl rfl rfl) ?_;rintro _ _ ⟨b2, rfl, rfl⟩;refine go_op rfl rfl rfl (o_box_own rfl rfl rfl) ?_;rintro _ _ ⟨b3, rfl, rfl⟩;refine go_p rfl rfl rfl (oAs rfl) ?_;refine gNl (g_seq (g_seq (gRg ?_)));obtain ⟨x1, hx1, hm⟩ := bind_some hm;refine go_p rfl rfl rfl (o_call0 call17 rfl (w_lb_works hx1)) ?_;refine go_p rfl rfl rfl (o_not rfl) ?_;refine gNl ?_;refine gCd rfl (fun hc1 => ?_) (fun hc1 => ?_)
 ·replace hm := cond_t hc1 hm
  refine g_seq (gRg ?_);refine go_p rfl rfl rfl (oAs rfl) ?_;refine gNl (g_ret ?_);exact retK (ret_one' rfl (ret_tmp rfl) (perm_drop _)) (congrArg (fun (p : Bool) => (.bool p : D)) (some_eq hm))
 ·replace hm := cond_f hc1 hm
  refine gSp (g_seq ?_);obtain ⟨x2, hx2, hm⟩ := bind_some hm;obtain ⟨x3, hx3, hm⟩ := bind_some hm;obtain ⟨x4, hx4, hm⟩ := bind_some hm;refine g_draw 6 Tryz_mixed (by decide +kernel) ?_;refine gd_p rfl rfl rfl (oLg 2 isAgg24 sizeOf24 rfl rfl rfl rfl (Nat.le_of_ble_eq_true rfl)) ?_;refine gd_p rfl rfl rfl (o_call0 call14 rfl (w_lb_few hx2)) ?_;refine gd_p rfl rfl rfl (oLg 1 isAgg24 sizeOf24 rfl rfl rfl rfl (Nat.le_of_ble_eq_true rfl)) ?_;refine gd_p rfl rfl rfl (o_call0 call14 rfl (w_lb_few hx3)) ?_;refine gd_p rfl rfl rfl (oLg 0 isAgg24 sizeOf24 rfl rfl rfl rfl (Nat.le_of_ble_eq_true rfl)) ?_;refine gd_p rfl rfl rfl (o_call0 call14 rfl (w_lb_few hx4)) ?_;refine gd_nil ?_;refine go_u rfl rfl (oSb 2 sizeOf24 rfl rfl rfl rfl rfl rfl rfl rfl (Nat.le_of_ble_eq_true rfl)) ?_;rintro _ _ rfl;refine go_ms (ms' := [box b3 24 [_, _], box b2 24 [_, _], box b1 24 [_, _]]) rfl ?_;refine go_u rfl rfl (oSb 1 sizeOf24 rfl rfl rfl rfl rfl rfl rfl rfl (Nat.le_of_ble_eq_true rfl)) ?_;rintro _ _ rfl;refine go_ms (ms' := [box b3 24 [_, _], box b2 24 [_, _], box b1 24 [_, _]]) rfl ?_;refine go_u rfl rfl (oSb 0 sizeOf24 rfl rfl rfl rfl rfl rfl rfl rfl (Nat.le_of_ble_eq_true rfl)) ?_;rintro _ _ rfl;refine go_ms (ms' := [box b3 24 [_, _], box b2 24 [_, _], box b1 24 [_, _]]) rfl ?_;refine gNl (g_seq (g_seq (gRg ?_)));refine go_p rfl rfl rfl (oLg 2 isAgg24 sizeOf24 rfl rfl rfl rfl (Nat.le_of_ble_eq_true rfl)) ?_;obtain ⟨x5, hx5, hm⟩ := bind_some hm;refine go_p rfl rfl rfl (o_call0 call16 rfl (w_rg_May hx5)) ?_;refine go_p rfl rfl rfl (o_cmp rfl rfl rfl) ?_;refine gNl ?_;refine gCd rfl (fun hc2 => ?_) (fun hc2 => ?_)
  ·replace hm := cond_t hc2 hm
   refine g_seq (gRg ?_);refine go_p rfl rfl rfl (oLg 2 isAgg24 sizeOf24 rfl rfl rfl rfl (Nat.le_of_ble_eq_true rfl)) ?_;refine go_p rfl rfl rfl (oLg 2 isAgg24 sizeOf24 rfl rfl rfl rfl (Nat.le_of_ble_eq_true rfl)) ?_;obtain ⟨x6, hx6, hm⟩ := bind_some hm;refine go_p rfl rfl rfl (o_call0 call35 rfl (w_lb_is hx6)) ?_;refine go_p rfl rfl rfl (o_not rfl) ?_;refine go_p rfl rfl rfl (oAs rfl) ?_;refine gNl (g_ret ?_);exact retK (ret_one' rfl (ret_tmp rfl) (perm_drop _)) (congrArg (fun (p : Bool) => (.bool p : D)) (some_eq hm))
  ·replace hm := cond_f hc2 hm
   refine gSp (g_seq (g_seq (gRg ?_)));refine go_p rfl rfl rfl (oLg 2 isAgg24 sizeOf24 rfl rfl rfl rfl (Nat.le_of_ble_eq_true rfl)) ?_;refine go_p rfl rfl rfl (oLg 2 isAgg24 sizeOf24 rfl rfl rfl rfl (Nat.le_of_ble_eq_true rfl)) ?_;obtain ⟨x7, hx7, hm⟩ := bind_some hm;refine go_p rfl rfl rfl (o_call0 call35 rfl (w_lb_is hx7)) ?_;refine go_p rfl rfl rfl (o_not rfl) ?_;refine gNl ?_;refine gCd rfl (fun hc3 => ?_) (fun hc3 => ?_)
   ·replace hm := cond_t hc3 hm
    refine g_seq (gRg ?_);refine go_p rfl rfl rfl (oAs rfl) ?_;refine gNl (g_ret ?_);exact retK (ret_one' rfl (ret_tmp rfl) (perm_drop _)) (congrArg (fun (p : Bool) => (.bool p : D)) (some_eq hm))
   ·replace hm := cond_f hc3 hm
    refine gSp (g_seq (g_seq (gRg ?_)));refine go_p rfl rfl rfl (oLg 2 isAgg24 sizeOf24 rfl rfl rfl rfl (Nat.le_of_ble_eq_true rfl)) ?_;obtain ⟨x8, hx8, hm⟩ := bind_some hm;refine go_p rfl rfl rfl (o_call0 call36 rfl (w_graph_Ground hx8)) ?_;refine go_p rfl rfl rfl (o_not rfl) ?_;refine go_p rfl rfl rfl (oMv rfl) ?_;obtain ⟨p1, hp_1, hm⟩ := bind_some hm;refine go_two [(3, _), (4, _), (5, _)] 4 33 p1 (t := 29) ⟨rfl, rfl, rfl, trivial⟩ rfl (fun hg_1 hk1 => ?_) (fun hg_1 hk1 => ?_) ?_
    ·replace hp_1 := cond_t hg_1 hp_1
     refine gKp rfl rfl rfl hg_1 rfl rfl ?_;refine gKp rfl rfl rfl hg_1 rfl rfl ?_;refine gKp rfl rfl rfl hg_1 rfl rfl ?_;refine go_p rfl rfl rfl (o_pickT rfl hg_1 rfl) ?_;exact gMt hk1 (congrArg (fun b => some (D.bool b)) (some_eq hp_1)) ⟨rfl, rfl, rfl, trivial⟩
    ·replace hp_1 := cond_f hg_1 hp_1
     refine gWp rfl rfl rfl hg_1 rfl rfl (oLg 1 isAgg24 sizeOf24 rfl rfl rfl rfl (Nat.le_of_ble_eq_true rfl)) ?_;obtain ⟨x9, hx9, hp_1⟩ := bind_some hp_1;refine gWp rfl rfl rfl hg_1 rfl rfl (o_call0 call36 rfl (w_graph_Ground hx9)) ?_;refine gWp rfl rfl rfl hg_1 rfl rfl (o_not rfl) ?_;refine go_p rfl rfl rfl (o_pickF rfl hg_1 rfl) ?_;exact gMt hk1 (congrArg (fun b => some (D.bool b)) (some_eq hp_1)) ⟨rfl, rfl, rfl, trivial⟩
    refine go_p rfl rfl rfl (oMv rfl) ?_;obtain ⟨p2, hp_2, hm⟩ := bind_some hm;refine go_two [(3, _), (4, _), (5, _)] 4 38 p2 (t := 34) ⟨rfl, rfl, rfl, trivial⟩ rfl (fun hg_2 hk2 => ?_) (fun hg_2 hk2 => ?_) ?_
    ·replace hp_2 := cond_t hg_2 hp_2
     refine gKp rfl rfl rfl hg_2 rfl rfl ?_;refine gKp rfl rfl rfl hg_2 rfl rfl ?_;refine gKp rfl rfl rfl hg_2 rfl rfl ?_;refine go_p rfl rfl rfl (o_pickT rfl hg_2 rfl) ?_;exact gMt hk2 (congrArg (fun b => some (D.bool b)) (some_eq hp_2)) ⟨rfl, rfl, rfl, trivial⟩
    ·replace hp_2 := cond_f hg_2 hp_2
     refine gWp rfl rfl rfl hg_2 rfl rfl (oLg 0 isAgg24 sizeOf24 rfl rfl rfl rfl (Nat.le_of_ble_eq_true rfl)) ?_;obtain ⟨x10, hx10, hp_2⟩ := bind_some hp_2;refine gWp rfl rfl rfl hg_2 rfl rfl (o_call0 call36 rfl (w_graph_Ground hx10)) ?_;refine gWp rfl rfl rfl hg_2 rfl rfl (o_not rfl) ?_;refine go_p rfl rfl rfl (o_pickF rfl hg_2 rfl) ?_;exact gMt hk2 (congrArg (fun b => some (D.bool b)) (some_eq hp_2)) ⟨rfl, rfl, rfl, trivial⟩
    refine gNl ?_;refine gCd rfl (fun hc4 => ?_) (fun hc4 => ?_)
    ·replace hm := cond_t hc4 hm
     refine g_seq (gRg ?_);refine go_p rfl rfl rfl (oAs rfl) ?_;refine gNl (g_ret ?_);exact retK (ret_one' rfl (ret_tmp rfl) (perm_drop _)) (congrArg (fun (p : Bool) => (.bool p : D)) (some_eq hm))
    ·replace hm := cond_f hc4 hm
     refine gSp (g_seq (gRg ?_));refine go_p rfl rfl rfl (oLg 2 isAgg24 sizeOf24 rfl rfl rfl rfl (Nat.le_of_ble_eq_true rfl)) ?_;refine go_p rfl rfl rfl (oLg 1 isAgg24 sizeOf24 rfl rfl rfl rfl (Nat.le_of_ble_eq_true rfl)) ?_;obtain ⟨x11, hx11, hm⟩ := bind_some hm;refine go_p rfl rfl rfl (o_call0 call35 rfl (w_lb_is hx11)) ?_;refine go_p rfl rfl rfl (o_not rfl) ?_;refine go_p rfl rfl rfl (oMv rfl) ?_;obtain ⟨p3, hp_3, hm⟩ := bind_some hm;refine go_two [(3, _), (5, _)] 5 48 p3 (t := 43) ⟨rfl, rfl, trivial⟩ rfl (fun hg_3 hk3 => ?_) (fun hg_3 hk3 => ?_) ?_
     ·replace hp_3 := cond_t hg_3 hp_3
      refine gKp rfl rfl rfl hg_3 rfl rfl ?_;refine gKp rfl rfl rfl hg_3 rfl rfl ?_;refine gKp rfl rfl rfl hg_3 rfl rfl ?_;refine gKp rfl rfl rfl hg_3 rfl rfl ?_;refine go_p rfl rfl rfl (o_pickT rfl hg_3 rfl) ?_;exact gMt hk3 (congrArg (fun b => some (D.bool b)) (some_eq hp_3)) ⟨rfl, rfl, trivial⟩
     ·replace hp_3 := cond_f hg_3 hp_3
      refine gWp rfl rfl rfl hg_3 rfl rfl (oLg 1 isAgg24 sizeOf24 rfl rfl rfl rfl (Nat.le_of_ble_eq_true rfl)) ?_;refine gWp rfl rfl rfl hg_3 rfl rfl (oLg 0 isAgg24 sizeOf24 rfl rfl rfl rfl (Nat.le_of_ble_eq_true rfl)) ?_;obtain ⟨x12, hx12, hp_3⟩ := bind_some hp_3;refine gWp rfl rfl rfl hg_3 rfl rfl (o_call0 call35 rfl (w_lb_is hx12)) ?_;refine gWp rfl rfl rfl hg_3 rfl rfl (o_not rfl) ?_;refine go_p rfl rfl rfl (o_pickF rfl hg_3 rfl) ?_;exact gMt hk3 (congrArg (fun b => some (D.bool b)) (some_eq hp_3)) ⟨rfl, rfl, trivial⟩
     refine go_p rfl rfl rfl (oMv rfl) ?_;obtain ⟨p4, hp_4, hm⟩ := bind_some hm;refine go_two [] 4 53 p4 (t := 49) trivial rfl (fun hg_4 hk4 => ?_) (fun hg_4 hk4 => ?_) ?_
     ·replace hp_4 := cond_t hg_4 hp_4
      refine gKp rfl rfl rfl hg_4 rfl rfl ?_;refine gKp rfl rfl rfl hg_4 rfl rfl ?_;refine gKp rfl rfl rfl hg_4 rfl rfl ?_;refine go_p rfl rfl rfl (o_pickT rfl hg_4 rfl) ?_;exact gMt hk4 (congrArg (fun b => some (D.bool b)) (some_eq hp_4)) trivial
     ·replace hp_4 := cond_f hg_4 hp_4
      refine gWp rfl rfl rfl hg_4 rfl rfl (oLg 2 isAgg24 sizeOf24 rfl rfl rfl rfl (Nat.le_of_ble_eq_true rfl)) ?_;refine gWp rfl rfl rfl hg_4 rfl rfl (oLg 0 isAgg24 sizeOf24 rfl rfl rfl rfl (Nat.le_of_ble_eq_true rfl)) ?_;obtain ⟨x13, hx13, hp_4⟩ := bind_some hp_4;refine gWp rfl rfl rfl hg_4 rfl rfl (o_call0 call35 rfl (w_lb_is hx13)) ?_;refine go_p rfl rfl rfl (o_pickF rfl hg_4 rfl) ?_;exact gMt hk4 (congrArg (fun b => some (D.bool b)) (some_eq hp_4)) trivial
     refine go_p rfl rfl rfl (oAs rfl) ?_;refine gNl (g_ret ?_);exact retK (ret_one' rfl (ret_tmp rfl) (perm_drop _)) (congrArg (fun (p : Bool) => (.bool p : D)) (some_eq hm))
end Go.Proofs.YtkfnogdccpcmhaaGreatDoor
