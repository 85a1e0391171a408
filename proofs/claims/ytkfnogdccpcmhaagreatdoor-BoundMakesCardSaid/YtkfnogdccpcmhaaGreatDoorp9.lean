/- Part 9 of the proof: a program logic, what the functions compute, and what these answer; no condition. -/
import Derived.Test.YtkfnogdccpcmhaaGreatDoorp8
set_option linter.unusedVariables false
set_option linter.unusedSimpArgs false
set_option maxRecDepth 100000
set_option maxHeartbeats 2000000
namespace Go.Proofs.YtkfnogdccpcmhaaGreatDoor
open Go.V Tryz
theorem Sl {k : Int} : Fn0 Tryz.prog 83 [.i64 k] (.clo (.func 114) [] [.ref (.i64 k)]) := by
 refine Ae func83 Uj ntmps83 Uj fun H0 fr w0 => ?_;refine zq7 ?_;refine Ah Uj Uj Uj (BU (fs := []) (cs := [_]) rfl Uj) ?_;refine zq2 ?_;refine Af ?_;exact retK (AE Uj (Bo Uj) (E7 _)) rfl
noncomputable def B4 (a1 : ATy) (bv1 : ATy) : Nat -> (Int × Int × (List ANd)) -> Option (Int × (List ANd))
 | 0, _ => none
 | n + 1, (x1, z2, l2) =>
  bif (decide (x1 < (bv1.l.length : Int))) then
   (idx bv1.l x1).bind fun x2 =>
   (C2 (⟨x2.kind, x2.a, x2.b, x2.l⟩ : ANd) (fun y0 => BK y0 (a1.l.length : Int))).bind fun x3 =>
   grd ((l2.length + ([x3] : List _).length) * 48 <= 140737488355328) <|
   grd (InR (x1 + 1)) <|
   B4 a1 bv1 n ((x1 + 1), z2, (l2 ++ [x3]))
  else
   some (z2, l2)
noncomputable def Ck (a1 : ATy) (bv1 : ATy)  : Option (Int × ATy) :=
 grd (a1.l.length * 48 <= 140737488355328) <|
 (B4 a1 bv1 FU (0, a1.root, a1.l) : Option (Int × (List ANd))).bind fun (z1, l1) =>
 some ((a1.l.length : Int), (⟨l1, z1⟩ : ATy))
theorem HR {a1 : ATy} {bv1 : ATy}  {r_2 : Int} {s_1 : ATy} (hm : Ck a1 bv1 = some (r_2, s_1)) : Go.V.Fn Tryz.prog 75 [ATy.d a1, ATy.d bv1] [] (fun d ms' => ∃ a_s_1c0 m_s_1c0 cap_s_1c0, d = .tup [.agg [.v (.slice a_s_1c0 m_s_1c0 cap_s_1c0), .i64 s_1.root], .i64 r_2] /\ ms' = [arr a_s_1c0 m_s_1c0 cap_s_1c0 44 4 ANd.d s_1.l]) := by
 unfold Ck at hm;refine Ae func75 Uj ntmps75 Uj fun H0 fr w0 => ?_;refine zq4 ?_;refine Be fun b1 => ?_;refine zq7 ?_;refine zal3a fun b2 => ?_;refine zst 0 ?_;refine Ag (ms' := [box b2 3 [_], box b1 24 [_, _]]) rfl ?_;refine Am (DJ (d := .i64 (a1.l.length : Int)) 0 6 rfl Uj Uj Uj) ?_;refine zq2 ?_;obtain ⟨hg1, hm⟩ := Aa hm;refine Gd [2, 5] [7] [3, 4] [6] [] AC (by decide +kernel) (by decide +kernel) rfl ?_;refine Bd Uj Uj Uj Uj Uj Uj (oFa DH Uj Uj Uj) ?_;refine Bd Uj Uj Uj Uj Uj Uj (Bm isAgg22 Uj Uj) ?_;refine Eh Uj ?_;refine Bd Uj Uj Uj Uj Uj Uj (oFa Iy Uj Uj Uj) ?_;refine Bd Uj Uj Uj Uj Uj Uj (Bm isAgg3 Uj Uj) ?_;refine Eh Uj ?_;refine DZ (R0 := fun d A => ∃ b, d = .v (.pointer (some ⟨b, 0, none⟩)) /\ A = box b 24 [.list 4 ANd.d [], .i64 0]) rfl Uj Uj Uj (OpT.mono (Ay zeroValue24 (cs := [.list 4 ANd.d [], .i64 0]) rfl) (by rintro d ms' ⟨b, rfl, rfl⟩; exact ⟨_, ⟨b, rfl, rfl⟩, rfl⟩)) ?_;refine Eh Uj ?_;refine Hf ?_;refine KI Uj Uj Uj Uj (Cm (ms₁ := []) call74 Uj (List.Perm.refl _) (I5 hg1)) ?_;rintro _ _ ⟨_, ⟨a_r1, cap_r1, hd_r1, hq_r1⟩, rfl⟩;obtain ⟨m_r1, hm_r1⟩ : ∃ m, m = a1.l.length := ⟨_, rfl⟩;rw [<- hm_r1] at hd_r1 hq_r1;subst hd_r1 hq_r1
 clear hm_r1
 refine ⟨(trivial : True), ?_⟩;refine KI Uj Uj Uj Uj (Aw (zs := [.list 4 ANd.d [], .v (.int .i64 0)]) runUnderlying24 zeroValue24 (Gl _ runUnderlying24) rfl Uj Uj Uj) ?_;rintro _ _ ⟨rfl, rfl⟩;refine ⟨(trivial : True), ?_⟩;refine I8 [(6, 7)] rfl ?_;rintro _ _ ⟨b3, rfl, rfl⟩
 show _ /\ _
 refine ⟨(trivial : True), ?_⟩;refine Cn Uj Uj Uj (oSb 0 sizeOf24 Uj Uj Uj Uj Uj Uj Uj Uj (nB Uj)) ?_;rintro _ _ rfl;refine ⟨(trivial : True), ?_⟩;refine BH ?_;refine zq8 ?_;obtain ⟨o_1, hj1, hm1⟩ := bS hm;refine Ak [(4, _), (6, _), (7, _)] [(2, _)] (fun (st : (Int × (List ANd))) (hid : (Option Addr × Nat × Nat)) => match st, hid with | (z1, l1), (a_r1, m_r1, cap_r1) => []) (fun F (st : (Int × (List ANd))) (hid : (Option Addr × Nat × Nat)) => match st, hid with | (z1, l1), (a_r1, m_r1, cap_r1) => [box b3 24 [.v (.slice a_r1 m_r1 cap_r1), .i64 z1], arr a_r1 m_r1 cap_r1 44 4 ANd.d l1, (nthF F 0)]) (fun st => st = o_1) ⟨rfl, rfl, rfl, trivial⟩ ⟨rfl, trivial⟩ ?_ ?_
 ·refine Aj ?_
  refine Ai [(4, _), (6, _), (7, _), (20, _), (21, _)] [(2, _)] (fun (st : (Int × Int × (List ANd))) (hid : (Option Addr × Nat × Nat)) => match st, hid with | (x1, z2, l2), (a_r1, m_r1, cap_r1) => [(22, .i64 x1)]) (fun F (st : (Int × Int × (List ANd))) (hid : (Option Addr × Nat × Nat)) => match st, hid with | (x1, z2, l2), (a_r1, m_r1, cap_r1) => [box b3 24 [.v (.slice a_r1 m_r1 cap_r1), .i64 z2], arr a_r1 m_r1 cap_r1 44 4 ANd.d l2, (nthF F 0)]) (_, _, _) hj1 (fun _ => rfl) ⟨rfl, rfl, rfl, rfl, rfl, trivial⟩ ⟨rfl, trivial⟩ ⟨rfl, trivial⟩ rfl ?_;rintro n ⟨x1, z2, l2⟩ ⟨a_r1, m_r1, cap_r1⟩ hj1;rw [B4] at hj1;refine Av (L' := [(22, .i64 x1), (4, _), (6, _), (7, _), (20, _), (21, _)]) (ms' := [box b3 24 [.v (.slice a_r1 m_r1 cap_r1), .i64 z2], arr a_r1 m_r1 cap_r1 44 4 ANd.d l2, _]) rfl Uj ?_;refine zq5 ?_;refine zcn hj1 (fun hc1 hj1 => ?_) (fun hc1 hj1 => ?_)
  ·refine zq5 ?_
   obtain ⟨x2, hx2, hj1⟩ := bS hj1;refine zq2 ?_;refine DL fun b4 => ?_;refine zst 0 ?_;refine Ag (ms' := [box b4 44 [_, _, _, _], box b3 24 [_, _], _, box b1 24 [_, _]]) rfl ?_;refine gNl ?_;obtain ⟨x3, hx3, hj1⟩ := bS hj1;refine zdr 6 ?_;refine zq3 ?_;refine Az Uj Uj Uj (BU Uj Uj) ?_;refine Az Uj Uj Uj (FS [] call109 Uj Uj DF (GE (fun _ _ h => LX (Ed call110 (Hv h))) hx3)) ?_;refine Az Uj Uj Uj (Ac (xs := [_]) (f := ANd.d) (l := [_]) runUnderlying22 sizeOf44 zeroValue44 Uj Uj Uj (fun _ => ⟨rfl, rfl, rfl⟩) rfl) ?_;refine Cq ?_;obtain ⟨hg4, hj1⟩ := Aa hj1;refine An Uj Uj Uj (Ca (a := _) 2 underlying22 type44 Uj Uj Uj Uj Uj Uj (fun _ => rfl) (fun _ => rfl) hg4 (AA hg4 Uj)) ?_;rintro _ _ ⟨a_r1, m_r1, cap_r1, rfl, rfl⟩;refine Ag (ms' := [box b4 44 [_, _, _, _], box b3 24 [_, _], _, box b1 24 [_, _]]) rfl ?_;refine zq1 ?_;refine zst 1 ?_;refine Ag (ms' := [box b4 44 [_, _, _, _], box b3 24 [_, _], _, box b1 24 [_, _]]) rfl ?_;refine zq2 ?_;obtain ⟨hg5, hj1⟩ := Aa hj1;refine zq3 ?_;exact ⟨_, (_, _, _), hj1, ⟨rfl, trivial⟩, ⟨rfl, rfl, rfl, rfl, rfl, trivial⟩, [_], rfl⟩
  ·refine Ap ?_
   exact ⟨_, (_, _, _), Ad hj1, trivial, ⟨rfl, rfl, rfl, trivial⟩, [], rfl⟩
 ·rintro ⟨z1, l1⟩ ⟨a_r1, m_r1, cap_r1⟩ hst
  subst hst;refine Aq (L' := [(4, _), (6, _), (7, _)]) (ms' := [box b3 24 [.v (.slice a_r1 m_r1 cap_r1), .i64 z1], arr a_r1 m_r1 cap_r1 44 4 ANd.d l1, _]) rfl Uj ?_;refine AO ?_;refine Du [2] [1, 3] [] AC (by decide +kernel) (by decide +kernel) rfl ?_;refine Ar Uj Uj Uj Uj Uj Uj (oLg 0 isAgg24 sizeOf24 Uj Uj Uj Uj (nB Uj)) ?_;refine Ar Uj Uj Uj Uj Uj Uj (Bm isAgg3 Uj Uj) ?_;refine Ds Uj ?_;refine Ar Uj Uj Uj Uj Uj Uj (oAs Uj) ?_;refine Es ?_;refine Cn Uj Uj Uj (oSb 2 sizeOf24 Uj Uj Uj Uj Uj Uj Uj Uj (nB Uj)) ?_;rintro _ _ rfl;refine ⟨(trivial : True), ?_⟩;refine BH ?_;refine Af ?_
  have hq1 := Ad hm1
  obtain ⟨rfl, rfl⟩ := Prod.mk.inj hq1;exact retK (JI (ds := [_, _]) rfl (by decide) ⟨Bb 2 rfl rfl rfl isAgg24 sizeOf24 rfl, ⟨Bo rfl, rfl⟩⟩ (permA 1 rfl permN)) ⟨_, _, _, rfl, rfl⟩
noncomputable def Cj (roots1 : (List Int)) (c1 : Int) : Option ANd :=
 (idx roots1 0).bind fun x1 =>
 (idx roots1 1).bind fun x2 =>
 some (⟨c1, x1, x2, ([] : List AFd)⟩ : ANd)
theorem Ia {roots1 : (List Int)} {c1 : Int} {r_1 : ANd} (hm : Cj roots1 c1 = some r_1) : Fn0 Tryz.prog 114 [.list 1 D.i64 roots1, .ref (.i64 c1)] (ANd.d r_1) := by
 unfold Cj at hm;refine Ae func114 Uj ntmps114 Uj fun H0 fr w0 => ?_;refine zq2 ?_;refine DL fun b1 => ?_;refine zq2 ?_;obtain ⟨x1, hx1, hm⟩ := bS hm;obtain ⟨x2, hx2, hm⟩ := bS hm;refine zdr 8 ?_;refine zq7 ?_;refine Az Uj Uj Uj (Aw (zs := [.v (.int .i64 0), .v (.int .i64 0), .v (.int .i64 0), .list 2 AFd.d []]) runUnderlying44 zeroValue44 (KB _ runUnderlying44) rfl Uj Uj Uj) ?_;refine Cq ?_;refine zst 0 ?_;refine Ag (ms' := [box b1 44 [_, _, _, _]]) rfl ?_;refine gNl ?_
 cases hm; exact Af zr1
noncomputable def EF (l1 : (List ATy)) (most1 : Int) : Nat -> (Int × (List ATy)) -> Option (List ATy)
 | 0, _ => none
 | n + 1, (i1, l3) =>
  bif ((decide (i1 < (l1.length : Int))) && (decide (i1 < most1))) then
   (idx l1 i1).bind fun x1 =>
   (HY x1 7).bind fun x2 =>
   grd ((l3.length + ([x2] : List _).length) * 32 <= 140737488355328) <|
   grd (InR (i1 + 1)) <|
   EF l1 most1 n ((i1 + 1), (l3 ++ [x2]))
  else
   some l3
noncomputable def Fm (l1 : (List ATy)) (most1 : Int) : Option (List ATy) :=
 (EF l1 most1 FU (0, []) : Option (List ATy)).bind fun l2 =>
 some l2
theorem K1 {l1 : (List ATy)} {most1 : Int} {r_1 : (List ATy)} (hm : Fm l1 most1 = some r_1) : Fn0 Tryz.prog 39 [.list 2 ATy.d l1, .i64 most1] (.list 2 ATy.d r_1) := by
 unfold Fm at hm;refine Ae func39 Uj ntmps39 Uj fun H0 fr w0 => ?_;refine zq3 ?_;refine Am (nilE (i := 4) (sz := 2) (f := ATy.d) rfl).refines ?_;refine zq3 ?_;refine An Uj Uj Uj (Ax (xs := []) (f := ATy.d) (l := []) runUnderlying53 sizeOf24 zeroValue24 Uj Uj Uj (fun _ => ⟨rfl, rfl, rfl⟩) rfl (by simp [maxLen])) ?_;rintro _ _ ⟨a_r1, rfl, rfl⟩;refine zq7 ?_;obtain ⟨o_1, hj1, hm1⟩ := bS hm;refine Ak [] [] (fun (st : (List ATy)) (hid : (Option Addr × Nat)) => match st, hid with | l2, (a_r1, cap_r1) => [(5, .v (.slice a_r1 l2.length cap_r1))]) (fun F (st : (List ATy)) (hid : (Option Addr × Nat)) => match st, hid with | l2, (a_r1, cap_r1) => [row a_r1 cap_r1 24 2 ATy.d l2]) (fun st => st = o_1) trivial trivial ?_ ?_
 ·refine Aj ?_
  refine Ai [(0, _), (1, _)] [] (fun (st : (Int × (List ATy))) (hid : (Option Addr × Nat)) => match st, hid with | (i1, l3), (a_r1, cap_r1) => [(5, .v (.slice a_r1 l3.length cap_r1)), (6, .i64 i1)]) (fun F (st : (Int × (List ATy))) (hid : (Option Addr × Nat)) => match st, hid with | (i1, l3), (a_r1, cap_r1) => [row a_r1 cap_r1 24 2 ATy.d l3]) (_, _) hj1 (fun _ => rfl) ⟨rfl, rfl, trivial⟩ trivial ⟨rfl, rfl, trivial⟩ rfl ?_;rintro n ⟨i1, l3⟩ ⟨a_r1, cap_r1⟩ hj1;rw [EF] at hj1;refine Av (L' := [(5, .v (.slice a_r1 l3.length cap_r1)), (6, .i64 i1), (0, _), (1, _)]) (ms' := [row a_r1 cap_r1 24 2 ATy.d l3]) rfl Uj ?_;refine zq8 ?_
  apply Bw [(0, _), (1, _), (5, _), (6, _)] 4 16 (t := 12) ⟨rfl, rfl, rfl, rfl, trivial⟩ rfl
  ·intro hg_1 hk1
   refine zq4 ?_;exact zgm hk1
  ·intro hg_1 hk1
   refine zq4 ?_;exact zgm hk1
  refine gNl ?_;refine zcn hj1 (fun hc1 hj1 => ?_) (fun hc1 hj1 => ?_)
  ·refine zq7 ?_
   obtain ⟨x1, hx1, hj1⟩ := bS hj1;refine zq2 ?_;obtain ⟨x2, hx2, hj1⟩ := bS hj1;refine zc0 (RQ hx2) ?_;refine Ah Uj Uj Uj (Ac (xs := [_]) (f := ATy.d) (l := [_]) runUnderlying53 sizeOf24 zeroValue24 Uj Uj Uj (fun _ => ⟨rfl, rfl, rfl⟩) rfl) ?_;obtain ⟨hg3, hj1⟩ := Aa hj1;refine An Uj Uj Uj (AB (a := _) 0 underlying53 type24 Uj Uj Uj Uj Uj Uj Uj (fun _ => rfl) (fun _ => rfl) hg3 (AA hg3 Uj)) ?_;rintro _ _ ⟨a_r1, cap_r1, rfl, rfl⟩;refine Ag (ms' := [_]) rfl ?_;refine zq4 ?_;obtain ⟨hg4, hj1⟩ := Aa hj1;refine zq3 ?_;exact ⟨_, (_, _), hj1, ⟨rfl, rfl, trivial⟩, ⟨rfl, rfl, trivial⟩, [], rfl⟩
  ·refine Ap ?_
   exact ⟨_, (_, _), Ad hj1, ⟨rfl, trivial⟩, trivial, [], rfl⟩
 ·rintro l2 ⟨a_r1, cap_r1⟩ hst
  subst hst;refine Aq (L' := [(5, .v (.slice a_r1 l2.length cap_r1))]) (ms' := [row a_r1 cap_r1 24 2 ATy.d l2]) rfl Uj ?_;refine zq5 ?_;refine BL (peekE (i := 4) 0 rfl Uj Uj).refines ?_
  cases hm1; exact Af zr1
noncomputable def Dy (l1 : (List ATy)) : Nat -> Int -> Option (Out Int Unit)
 | 0, _ => none
 | n + 1, i1 =>
  bif (decide (i1 < (l1.length : Int))) then
   (idx l1 i1).bind fun x1 =>
   (GW x1).bind fun x2 =>
   bif (!decide (x2 = 0)) then
    some (Out.ret x2)
   else
    grd (InR (i1 + 1)) <|
    Dy l1 n (i1 + 1)
  else
   some (Out.go (()))
noncomputable def Gi (l1 : (List ATy)) : Option Int :=
 ((Dy l1 FU 0 : Option (Out Int Unit))).bind (fun oo => oo.on (fun r1 => some r1) (fun _ =>
 some 0))
theorem Pq {l1 : (List ATy)} {r_1 : Int} (hm : Gi l1 = some r_1) : Fn0 Tryz.prog 41 [.list 2 ATy.d l1] (.i64 r_1) := by
 unfold Gi at hm;refine Ae func41 Uj ntmps41 Uj fun H0 fr w0 => ?_;refine zq9 ?_;obtain ⟨o_1, hj1, hm1⟩ := bS hm;refine Ak [] [] (fun (st : Unit) (hid : Unit) => match st, hid with | _, _ => []) (fun F (st : Unit) (hid : Unit) => match st, hid with | _, _ => []) (fun st => Out.go (st) = o_1) trivial trivial ?_ ?_
 ·refine Aj ?_
  refine Ai [(0, _)] [] (fun (st : Int) (hid : Unit) => match st, hid with | i1, _ => [(3, .i64 i1)]) (fun F (st : Int) (hid : Unit) => match st, hid with | i1, _ => []) () hj1 (fun _ => rfl) ⟨rfl, trivial⟩ trivial ⟨rfl, trivial⟩ rfl ?_;rintro n i1 _ hj1;rw [Dy] at hj1;refine Av (L' := [(3, .i64 i1), (0, _)]) (ms' := []) rfl Uj ?_;refine zq8 ?_;refine zcn hj1 (fun hc1 hj1 => ?_) (fun hc1 hj1 => ?_)
  ·refine zq7 ?_
   obtain ⟨x1, hx1, hj1⟩ := bS hj1;refine zq2 ?_;obtain ⟨x2, hx2, hj1⟩ := bS hj1;refine zc0 (HJ hx2) ?_;refine zq7 ?_;refine zcn hj1 (fun hc2 hj1 => ?_) (fun hc2 hj1 => ?_)
   ·refine zq5 ?_
    refine Af ?_;obtain rfl := Ad hj1
    replace hm1 := BT hm1
    cases hm1; exact zr1
   ·refine zq3 ?_
    obtain ⟨hg3, hj1⟩ := Aa hj1;refine zq3 ?_;exact ⟨_, (), hj1, ⟨rfl, trivial⟩, ⟨rfl, trivial⟩, [], rfl⟩
  ·refine Ap ?_
   exact ⟨_, (), Ad hj1, trivial, trivial, [], rfl⟩
 ·rintro _ _ hst
  subst hst
  replace hm1 := Dq hm1
  refine Aq (L' := []) (ms' := []) rfl Uj ?_;refine zq4 ?_
  cases hm1; exact Af zr1
noncomputable def C8 (l1 : (List ATy)) : Nat -> Int -> Option (Out Int Unit)
 | 0, _ => none
 | n + 1, x1 =>
  bif (decide (x1 < (l1.length : Int))) then
   (idx l1 x1).bind fun x2 =>
   (Bt (⟨x2.l, x2.root⟩ : ATy)).bind fun x3 =>
   bif (!decide (x3 = 0)) then
    some (Out.ret x3)
   else
    grd (InR (x1 + 1)) <|
    C8 l1 n (x1 + 1)
  else
   some (Out.go (()))
noncomputable def DP (l1 : (List ATy)) : Option Int :=
 ((C8 l1 FU 0 : Option (Out Int Unit))).bind (fun oo => oo.on (fun r1 => some r1) (fun _ =>
 some 0))
theorem H7 {l1 : (List ATy)} {r_1 : Int} (hm : DP l1 = some r_1) : Fn0 Tryz.prog 72 [.list 2 ATy.d l1] (.i64 r_1) := by
 unfold DP at hm;refine Ae func72 Uj ntmps72 Uj fun H0 fr w0 => ?_;refine zq11 ?_;obtain ⟨o_1, hj1, hm1⟩ := bS hm;refine Ak [] [] (fun (st : Unit) (hid : Unit) => match st, hid with | _, _ => []) (fun F (st : Unit) (hid : Unit) => match st, hid with | _, _ => []) (fun st => Out.go (st) = o_1) trivial trivial ?_ ?_
 ·refine Aj ?_
  refine Ai [(6, _), (7, _)] [] (fun (st : Int) (hid : Unit) => match st, hid with | x1, _ => [(8, .i64 x1)]) (fun F (st : Int) (hid : Unit) => match st, hid with | x1, _ => []) () hj1 (fun _ => rfl) ⟨rfl, rfl, trivial⟩ trivial ⟨rfl, trivial⟩ rfl ?_;rintro n x1 _ hj1;rw [C8] at hj1;refine Av (L' := [(8, .i64 x1), (6, _), (7, _)]) (ms' := []) rfl Uj ?_;refine zq5 ?_;refine zcn hj1 (fun hc1 hj1 => ?_) (fun hc1 hj1 => ?_)
  ·refine zq5 ?_
   obtain ⟨x2, hx1, hj1⟩ := bS hj1;refine zq2 ?_;refine Be fun b1 => ?_;refine zst 0 ?_;refine Ag (ms' := [box b1 24 [_, _]]) rfl ?_;refine zq4 ?_;obtain ⟨x3, hx2, hj1⟩ := bS hj1;refine zc0 (EB hx2) ?_;refine zq7 ?_;refine zcn hj1 (fun hc2 hj1 => ?_) (fun hc2 hj1 => ?_)
   ·refine zq5 ?_
    refine Af ?_;obtain rfl := Ad hj1
    replace hm1 := BT hm1
    cases hm1; exact zr1
   ·refine zq2 ?_
    obtain ⟨hg3, hj1⟩ := Aa hj1;refine zq3 ?_;exact ⟨_, (), hj1, ⟨rfl, trivial⟩, ⟨rfl, rfl, trivial⟩, [_], rfl⟩
  ·refine Ap ?_
   exact ⟨_, (), Ad hj1, trivial, trivial, [], rfl⟩
 ·rintro _ _ hst
  subst hst
  replace hm1 := Dq hm1
  refine Aq (L' := []) (ms' := []) rfl Uj ?_;refine zq4 ?_
  cases hm1; exact Af zr1
noncomputable def Br (slices1 : (List (List ATy))) : Nat -> (Int × Int) -> Option Int
 | 0, _ => none
 | n + 1, (size2, x1) =>
  bif (decide (x1 < (slices1.length : Int))) then
   (idx slices1 x1).bind fun x2 =>
   grd (InR (size2 + (x2.length : Int))) <|
   bif (decide ((size2 + (x2.length : Int)) < 0)) then
    none
   else
    grd (InR (x1 + 1)) <|
    Br slices1 n ((size2 + (x2.length : Int)), (x1 + 1))
  else
   some size2
noncomputable def Bs (slices1 : (List (List ATy))) : Nat -> (Int × (List ATy)) -> Option (List ATy)
 | 0, _ => none
 | n + 1, (x3, l2) =>
  bif (decide (x3 < (slices1.length : Int))) then
   (idx slices1 x3).bind fun x4 =>
   grd ((l2.length + x4.length) * 32 <= 140737488355328) <|
   grd (InR (x3 + 1)) <|
   Bs slices1 n ((x3 + 1), (l2 ++ x4))
  else
   some l2
noncomputable def BE (slices1 : (List (List ATy))) : Option (List ATy) :=
 (Br slices1 FU (0, 0) : Option Int).bind fun size1 =>
 grd (0 <= size1) <|
 grd ((size1).toNat * 32 <= 140737488355328) <|
 (Bs slices1 FU (0, ([] : List ATy)) : Option (List ATy)).bind fun l1 =>
 some l1
theorem EJ {slices1 : (List (List ATy))} {r_1 : (List ATy)} (hm : BE slices1 = some r_1) : Fn0 Tryz.prog 73 [.list 1 (D.list 2 ATy.d) slices1] (.list 2 ATy.d r_1) := by
 unfold BE at hm;refine Ae func73 Uj ntmps73 Uj fun H0 fr w0 => ?_;refine zq3 ?_;refine Am (nilE (i := 2) (sz := 2) (f := ATy.d) rfl).refines ?_;refine zq12 ?_;obtain ⟨o_1, hj1, hm1⟩ := bS hm;refine Ak [(0, _)] [] (fun (st : Int) (hid : Unit) => match st, hid with | size1, _ => [(3, .i64 size1)]) (fun F (st : Int) (hid : Unit) => match st, hid with | size1, _ => []) (fun st => st = o_1) ⟨rfl, trivial⟩ trivial ?_ ?_
 ·refine Aj ?_
  refine Ai [(0, _), (9, _), (10, _)] [] (fun (st : (Int × Int)) (hid : Unit) => match st, hid with | (size2, x1), _ => [(3, .i64 size2), (11, .i64 x1)]) (fun F (st : (Int × Int)) (hid : Unit) => match st, hid with | (size2, x1), _ => []) () hj1 (fun _ => rfl) ⟨rfl, rfl, rfl, trivial⟩ trivial ⟨rfl, rfl, trivial⟩ rfl ?_;rintro n ⟨size2, x1⟩ _ hj1;rw [Br] at hj1;refine Av (L' := [(3, .i64 size2), (11, .i64 x1), (0, _), (9, _), (10, _)]) (ms' := []) rfl Uj ?_;refine zq5 ?_;refine zcn hj1 (fun hc1 hj1 => ?_) (fun hc1 hj1 => ?_)
  ·refine zq5 ?_
   obtain ⟨x2, hx1, hj1⟩ := bS hj1;refine zq9 ?_;obtain ⟨hg2, hj1⟩ := Aa hj1;refine zq8 ?_;refine zcn hj1 (fun hc2 hj1 => ?_) (fun hc2 hj1 => ?_)
   ·cases hj1
   ·refine zq2 ?_
    obtain ⟨hg3, hj1⟩ := Aa hj1;refine zq3 ?_;exact ⟨_, (), hj1, ⟨rfl, rfl, trivial⟩, ⟨rfl, rfl, rfl, trivial⟩, [], rfl⟩
  ·refine Ap ?_
   exact ⟨_, (), Ad hj1, ⟨rfl, trivial⟩, ⟨rfl, trivial⟩, [], rfl⟩
 ·rintro size1 _ hst
  subst hst;refine Aq (L' := [(3, .i64 size1), (0, _)]) (ms' := []) rfl Uj ?_;refine zq3 ?_;obtain ⟨hg4, hm1⟩ := Aa hm1;obtain ⟨hg5, hm1⟩ := Aa hm1;refine An Uj Uj Uj (Cm (ms₁ := []) call108 Uj (List.Perm.refl _) (PA hg4 hg5)) ?_;rintro _ _ ⟨_, ⟨a_r1, cap_r1, rfl, rfl⟩, rfl⟩;refine zq9 ?_;obtain ⟨o_2, hj2, hm2⟩ := bS hm1;refine Ak [] [] (fun (st : (List ATy)) (hid : (Option Addr × Nat)) => match st, hid with | l1, (a_r1, cap_r1) => [(6, .v (.slice a_r1 l1.length cap_r1))]) (fun F (st : (List ATy)) (hid : (Option Addr × Nat)) => match st, hid with | l1, (a_r1, cap_r1) => [row a_r1 cap_r1 24 2 ATy.d l1]) (fun st => st = o_2) trivial trivial ?_ ?_
  ·refine Aj ?_
   refine Ai [(25, _), (26, _)] [] (fun (st : (Int × (List ATy))) (hid : (Option Addr × Nat)) => match st, hid with | (x3, l2), (a_r1, cap_r1) => [(6, .v (.slice a_r1 l2.length cap_r1)), (27, .i64 x3)]) (fun F (st : (Int × (List ATy))) (hid : (Option Addr × Nat)) => match st, hid with | (x3, l2), (a_r1, cap_r1) => [row a_r1 cap_r1 24 2 ATy.d l2]) (_, _) hj2 (fun _ => rfl) ⟨rfl, rfl, trivial⟩ trivial ⟨rfl, rfl, trivial⟩ rfl ?_;rintro n ⟨x3, l2⟩ ⟨a_r1, cap_r1⟩ hj2;rw [Bs] at hj2;refine Av (L' := [(6, .v (.slice a_r1 l2.length cap_r1)), (27, .i64 x3), (25, _), (26, _)]) (ms' := [row a_r1 cap_r1 24 2 ATy.d l2]) rfl Uj ?_;refine zq5 ?_;refine zcn hj2 (fun hc3 hj2 => ?_) (fun hc3 hj2 => ?_)
   ·refine zq5 ?_
    obtain ⟨x4, hx6, hj2⟩ := bS hj2;refine zq7 ?_;obtain ⟨hg7, hj2⟩ := Aa hj2;refine An Uj Uj Uj (AB (a := _) 0 underlying53 type24 Uj Uj Uj Uj Uj Uj Uj (fun _ => rfl) (fun _ => rfl) hg7 (AA hg7 Uj)) ?_;rintro _ _ ⟨a_r1, cap_r1, rfl, rfl⟩;refine Ag (ms' := [_]) rfl ?_;refine zq3 ?_;obtain ⟨hg8, hj2⟩ := Aa hj2;refine zq3 ?_;exact ⟨_, (_, _), hj2, ⟨rfl, rfl, trivial⟩, ⟨rfl, rfl, trivial⟩, [], rfl⟩
   ·refine Ap ?_
    exact ⟨_, (_, _), Ad hj2, ⟨rfl, trivial⟩, trivial, [], rfl⟩
  ·rintro l1 ⟨a_r1, cap_r1⟩ hst
   subst hst;refine Aq (L' := [(6, .v (.slice a_r1 l1.length cap_r1))]) (ms' := [row a_r1 cap_r1 24 2 ATy.d l1]) rfl Uj ?_;refine zq5 ?_;refine BL (peekE (i := 2) 0 rfl Uj Uj).refines ?_
   cases hm2; exact Af zr1
noncomputable def DE (k1 : Int) (c1 : ATy) (c2 : (List ATy)) (c3 : (List Int)) : Option Int :=
 bif (decide (k1 < (c1.l.length : Int))) then
  (idx c1.l k1).bind fun x1 =>
  bif ((decide (x1.kind = 11)) && (decide (x1.a < (c2.length : Int)))) then
   (idx c3 x1.a).bind fun x2 =>
   some x2
  else
   some k1
 else
  some k1
theorem Fg {k1 : Int} {c1 : ATy} {c2 : (List ATy)} {c3 : (List Int)} {r_1 : Int} (hm : DE k1 c1 c2 c3 = some r_1) : Fn0 Tryz.prog 76 [.i64 k1, .ref (ATy.d c1), .ref (.list 2 ATy.d c2), .ref (.list 1 D.i64 c3)] (.i64 r_1) := by
 unfold DE at hm;refine Ae func76 Uj ntmps76 Uj fun H0 fr w0 => ?_;refine zq13 ?_;refine zcn hm (fun hc1 hm => ?_) (fun hc1 hm => ?_)
 ·refine zq5 ?_
  obtain ⟨x1, hx1, hm⟩ := bS hm;refine zq2 ?_;refine DL fun b1 => ?_;refine zst 0 ?_;refine Ag (ms' := [box b1 44 [_, _, _, _]]) rfl ?_;refine zq7 ?_
  apply Bw [(0, _), (3, _), (6, _)] 6 26 (t := 20) ⟨rfl, rfl, rfl, trivial⟩ rfl
  ·intro hg_1 hk1
   refine zq6 ?_;exact zgm hk1
  ·intro hg_1 hk1
   refine zq6 ?_;exact zgm hk1
  refine gNl ?_;refine zcn hm (fun hc2 hm => ?_) (fun hc2 hm => ?_)
  ·refine zq5 ?_
   obtain ⟨x2, hx2, hm⟩ := bS hm;refine zq4 ?_
   cases hm; exact Af zr1
  ·refine zq6 ?_
   cases hm; exact Af zr1
 ·refine zq6 ?_
  cases hm; exact Af zr1
noncomputable def DT (k1 : Int) (z1 : (List (Int × Int))) : Option Int :=
 some ((mget z1 k1).getD (0 : Int))
theorem LO {k1 : Int} {z1 : (List (Int × Int))} {r_1 : Int} {b_q1 : Nat} (hm : DT k1 z1 = some r_1) : FnT Tryz.prog 170 [.i64 k1, .ref (.v (.map (some b_q1)))] [mp b_q1 kI64 D.i64 z1] (.i64 r_1) := by
 unfold DT at hm;refine Ae func170 Uj ntmps170 Uj fun H0 fr w0 => ?_;refine zq8 ?_;refine Ah Uj Uj Uj (Fu (z0 := (0 : Int)) 0 runUnderlying170 (NE underlying3) zeroValue3 (fun _ => conc_v.2 Uj) rfl Uj Uj) ?_;refine zq2 ?_;refine Af ?_;exact retK (AE (ms' := [_]) (drop := []) rfl (Bo Uj) (List.Perm.refl _)) ⟨congrArg (fun (p : Int) => (.i64 p : D)) (Ad hm), rfl⟩
noncomputable def B7  : List Int -> ((List Int) × (List (Int × Int))) -> Option ((List Int) × (List (Int × Int)))
 | [], (l2, mm2) =>
  some (l2, mm2)
 | x1 :: rr, (l2, mm2) =>
  grd ((l2.length + ([x1] : List _).length) * 8 <= 140737488355328) <|
  B7 rr ((l2 ++ [x1]), (mset mm2 x1 (l2.length : Int)))
noncomputable def Cw (t1 : ATy) (l1 : (List Int)) (mm1 : (List (Int × Int))) : Nat -> (Int × (List ANd) × Int) -> Option ((List ANd) × Int)
 | 0, _ => none
 | n + 1, (x2, l4, z2) =>
  bif (decide (x2 < (l1.length : Int))) then
   (idx l1 x2).bind fun x3 =>
   (idx t1.l x3).bind fun x4 =>
   (C2 x4 (fun y0 => DT y0 mm1)).bind fun x5 =>
   grd ((l4.length + ([x5] : List _).length) * 48 <= 140737488355328) <|
   grd (InR (x2 + 1)) <|
   Cw t1 l1 mm1 n ((x2 + 1), (l4 ++ [x5]), z2)
  else
   some (l4, z2)
noncomputable def EP (t1 : ATy) (root1 : Int) : Option ATy :=
 ((Hj t1 root1).bind fun xs1 =>
 B7 xs1 ([], ([] : List (Int × Int))) : Option ((List Int) × (List (Int × Int)))).bind fun (l1, mm1) =>
 (Cw t1 l1 mm1 FU (0, [], 0) : Option ((List ANd) × Int)).bind fun (l3, z1) =>
 some (⟨l3, z1⟩ : ATy)
theorem NQ {t1 : ATy} {root1 : Int} {r_1 : ATy} (hm : EP t1 root1 = some r_1) : Fn0 Tryz.prog 140 [ATy.d t1, .i64 root1] (ATy.d r_1) := by
 unfold EP at hm;refine Ae func140 Uj ntmps140 Uj fun H0 fr w0 => ?_;refine zq3 ?_;refine Be fun b1 => ?_;refine zq3 ?_;refine An Uj Uj Uj (IM (fk := kI64) (fv := D.i64)) ?_;rintro _ _ ⟨b2, rfl, rfl⟩;refine S5 fun b3 => ?_;refine zst 0 ?_;refine Ag (ms' := [box b3 170 [_], _, box b1 24 [_, _]]) rfl ?_;refine Am (DJ (d := .v (.map (some b2))) 0 5 rfl Uj Uj Uj) ?_;refine zq3 ?_;refine PI fun b4 => ?_;refine Am (AF (T := 3) (sz := 1) (f := D.i64)) ?_;refine zq6 ?_;refine Ah Uj Uj Uj (A2 call107 Uj Qq) ?_;refine gNl ?_;obtain ⟨o_1, hj1, hm1⟩ := bS hm;refine Ak [(2, _), (4, _), (5, _), (6, _)] [(3, _)] (fun (st : ((List Int) × (List (Int × Int)))) (hid : (Option Addr × Nat)) => match st, hid with | (l1, mm1), (a_r1, cap_r1) => []) (fun F (st : ((List Int) × (List (Int × Int)))) (hid : (Option Addr × Nat)) => match st, hid with | (l1, mm1), (a_r1, cap_r1) => [row a_r1 cap_r1 3 1 D.i64 l1, box b4 25 [.v (.slice a_r1 l1.length cap_r1)], mp b2 kI64 D.i64 mm1, (nthF F 0)]) (fun st => st = o_1) ⟨rfl, rfl, rfl, rfl, trivial⟩ ⟨rfl, trivial⟩ ?_ ?_
 ·refine Aj ?_
  obtain ⟨xs1, hx1, hj1⟩ := bS hj1;refine MP (fun (p : Int) => [.i64 p]) [(3, _)] (fun F (st : ((List Int) × (List (Int × Int)))) (hid : (Option Addr × Nat)) => match st, hid with | (l2, mm2), (a_r1, cap_r1) => [row a_r1 cap_r1 3 1 D.i64 l2, box b4 25 [.v (.slice a_r1 l2.length cap_r1)], mp b2 kI64 D.i64 mm2, (nthF F 0)]) (_, _) hj1 ⟨rfl, trivial⟩ rfl Uj call138 (ON hx1) (fun _ => rfl) rfl ?_ ?_
  ·rintro H0r frr ror w0r hrr x1 rr ⟨l2, mm2⟩ ⟨a_r1, cap_r1⟩ hj1
   rw [B7] at hj1;refine Av (ms' := [row a_r1 cap_r1 3 1 D.i64 l2, box b4 25 [.v (.slice a_r1 l2.length cap_r1)], mp b2 kI64 D.i64 mm2, _]) rfl Uj ?_;refine zq3 ?_
   intro H0r frr ror w0r hrr
   refine zq6 ?_;refine Ah Uj Uj Uj (.view (peekE (i := 18) 0 rfl Uj Uj) (EY runUnderlying25 Uj)) ?_;refine Gk Uj Uj (Gs (v := (l2.length : Int)) 2 runUnderlying170 (NE underlying3) rfl Uj Uj Uj) ?_;rintro _ _ rfl;refine zq4 ?_;refine Ah Uj Uj Uj (Ac (xs := [_]) (f := D.i64) (l := [_]) runUnderlying25 sizeOf3 zeroValue3 Uj Uj Uj (fun _ => ⟨rfl, rfl, rfl⟩) rfl) ?_;obtain ⟨hg2, hj1⟩ := Aa hj1;refine An Uj Uj Uj (AB (a := _) 0 underlying25 type3 Uj Uj Uj Uj Uj Uj Uj (fun _ => rfl) (fun _ => rfl) hg2 (AA hg2 Uj)) ?_;rintro _ _ ⟨a_r1, cap_r1, rfl, rfl⟩;refine Ag (ms' := [_, box b4 25 [_], _, box b1 24 [_, _]]) rfl ?_;refine zst 1 ?_;refine Ag (ms' := [_, box b4 25 [_], _, box b1 24 [_, _]]) rfl ?_;refine gNl ?_;exact ⟨_, (_, _), hj1, [], rfl⟩
  ·rintro ⟨l2, mm2⟩ ⟨a_r1, cap_r1⟩ hj1
   rw [B7] at hj1;refine Aq (ms' := [row a_r1 cap_r1 3 1 D.i64 l2, box b4 25 [.v (.slice a_r1 l2.length cap_r1)], mp b2 kI64 D.i64 mm2, _]) rfl Uj ?_;exact ⟨_, (_, _), Ad hj1, trivial, ⟨rfl, rfl, rfl, rfl, trivial⟩, [], rfl⟩
 ·rintro ⟨l1, mm1⟩ ⟨a_r1, cap_r1⟩ hst
  subst hst;refine Aq (L' := [(2, _), (4, _), (5, _), (6, _)]) (ms' := [row a_r1 cap_r1 3 1 D.i64 l1, box b4 25 [.v (.slice a_r1 l1.length cap_r1)], mp b2 kI64 D.i64 mm1, _]) rfl Uj ?_;refine zq2 ?_;refine RK fun b6 => ?_;refine Am (AF (T := 44) (sz := 4) (f := ANd.d)) ?_;refine zq5 ?_;refine Ah Uj Uj Uj (.view (peekE (i := 24) 2 rfl Uj Uj) (EY runUnderlying25 Uj)) ?_;refine zq2 ?_;obtain ⟨o_2, hj2, hm2⟩ := bS hm1;refine Ak [(4, _), (8, _)] [(2, _), (3, _), (4, _), (5, _)] (fun (st : ((List ANd) × Int)) (hid : (Option Addr × Nat)) => match st, hid with | (l3, z1), (a_r2, cap_r2) => []) (fun F (st : ((List ANd) × Int)) (hid : (Option Addr × Nat)) => match st, hid with | (l3, z1), (a_r2, cap_r2) => [row a_r2 cap_r2 44 4 ANd.d l3, box b6 24 [.v (.slice a_r2 l3.length cap_r2), .i64 z1], (nthF F 0), (nthF F 1), (nthF F 2), (nthF F 3)]) (fun st => st = o_2) ⟨rfl, rfl, trivial⟩ ⟨rfl, rfl, rfl, rfl, trivial⟩ ?_ ?_
  ·refine Aj ?_
   refine Ai [(2, _), (4, _), (5, _), (8, _), (24, _), (25, _)] [(2, _), (3, _), (4, _), (5, _)] (fun (st : (Int × (List ANd) × Int)) (hid : (Option Addr × Nat)) => match st, hid with | (x2, l4, z2), (a_r2, cap_r2) => [(26, .i64 x2)]) (fun F (st : (Int × (List ANd) × Int)) (hid : (Option Addr × Nat)) => match st, hid with | (x2, l4, z2), (a_r2, cap_r2) => [row a_r2 cap_r2 44 4 ANd.d l4, box b6 24 [.v (.slice a_r2 l4.length cap_r2), .i64 z2], (nthF F 0), (nthF F 1), (nthF F 2), (nthF F 3)]) (_, _) hj2 (fun _ => rfl) ⟨rfl, rfl, rfl, rfl, rfl, rfl, trivial⟩ ⟨rfl, rfl, rfl, rfl, trivial⟩ ⟨rfl, trivial⟩ rfl ?_;rintro n ⟨x2, l4, z2⟩ ⟨a_r2, cap_r2⟩ hj2;rw [Cw] at hj2;refine Av (L' := [(26, .i64 x2), (2, _), (4, _), (5, _), (8, _), (24, _), (25, _)]) (ms' := [row a_r2 cap_r2 44 4 ANd.d l4, box b6 24 [.v (.slice a_r2 l4.length cap_r2), .i64 z2], _, _, _, _]) rfl Uj ?_;refine zq5 ?_;refine zcn hj2 (fun hc1 hj2 => ?_) (fun hc1 hj2 => ?_)
   ·refine zq5 ?_
    obtain ⟨x3, hx3, hj2⟩ := bS hj2;refine Ah Uj Uj Uj (.view (peekE (i := 24) 2 rfl Uj Uj) (oIm runUnderlying25 sizeOf3 Uj Uj hx3)) ?_;refine zq3 ?_;obtain ⟨x4, hx4, hj2⟩ := bS hj2;obtain ⟨x5, hx5, hj2⟩ := bS hj2;refine zdr 10 ?_;refine zq7 ?_;refine Az Uj Uj Uj (BU Uj Uj) ?_;refine Az Uj Uj Uj (FS [4] call109 Uj Uj (CJ Uj DF) (GE (fun _ _ h => Ed call170 (LO h)) hx5)) ?_;refine Az Uj Uj Uj (Ac (xs := [_]) (f := ANd.d) (l := [_]) runUnderlying22 sizeOf44 zeroValue44 Uj Uj Uj (fun _ => ⟨rfl, rfl, rfl⟩) rfl) ?_;refine Cq ?_;obtain ⟨hg6, hj2⟩ := Aa hj2;refine An Uj Uj Uj (AB (a := _) 0 underlying22 type44 Uj Uj Uj Uj Uj Uj Uj (fun _ => rfl) (fun _ => rfl) hg6 (AA hg6 Uj)) ?_;rintro _ _ ⟨a_r2, cap_r2, rfl, rfl⟩;refine Ag (ms' := [_, box b6 24 [_, _], _, box b4 25 [_], _, box b1 24 [_, _]]) rfl ?_;refine zq1 ?_;refine zst 1 ?_;refine Ag (ms' := [_, box b6 24 [_, _], _, box b4 25 [_], _, box b1 24 [_, _]]) rfl ?_;refine zq2 ?_;obtain ⟨hg7, hj2⟩ := Aa hj2;refine zq3 ?_;exact ⟨_, (_, _), hj2, ⟨rfl, trivial⟩, ⟨rfl, rfl, rfl, rfl, rfl, rfl, trivial⟩, [], rfl⟩
   ·refine Ap ?_
    exact ⟨_, (_, _), Ad hj2, trivial, ⟨rfl, rfl, trivial⟩, [], rfl⟩
  ·rintro ⟨l3, z1⟩ ⟨a_r2, cap_r2⟩ hst
   subst hst;refine Aq (L' := [(4, _), (8, _)]) (ms' := [row a_r2 cap_r2 44 4 ANd.d l3, box b6 24 [.v (.slice a_r2 l3.length cap_r2), .i64 z1], _, _, _, _]) rfl Uj ?_;refine zq3 ?_;refine Am (CG (i := 43) (q := 0) 0 rfl Uj Uj Uj Uj).refines ?_;refine zst 5 ?_;refine Ag (ms' := [_, box b6 24 [_, _], _, box b4 25 [_], _, box b1 24 [_, _]]) rfl ?_;refine gNl ?_
   cases hm2; exact Af zr1
noncomputable def Bz (t1 : ATy) : Option (ATy × Int) :=
 (Bt t1).bind fun x1 =>
 bif (!decide (x1 = 0)) then
  some ((⟨([] : List ANd), 0⟩ : ATy), x1)
 else
  (EP t1 t1.root).bind fun x2 =>
  some ((⟨x2.l, x2.root⟩ : ATy), 0)
theorem NI {t1 : ATy} {r_1 : ATy} {r_2 : Int} (hm : Bz t1 = some (r_1, r_2)) : Fn0 Tryz.prog 111 [ATy.d t1] (.tup [ATy.d r_1, .i64 r_2]) := by
 unfold Bz at hm;refine Ae func111 Uj ntmps111 Uj fun H0 fr w0 => ?_;refine zq3 ?_;refine Be fun b1 => ?_;refine zq6 ?_;obtain ⟨x1, hx1, hm⟩ := bS hm;refine zc0 (EB hx1) ?_;refine zq7 ?_;refine zcn hm (fun hc1 hm => ?_) (fun hc1 hm => ?_)
 ·refine zq2 ?_
  refine Ah Uj Uj Uj (Aw (zs := [.list 4 ANd.d [], .v (.int .i64 0)]) runUnderlying24 zeroValue24 (Gl _ runUnderlying24) rfl Uj Uj Uj) ?_;refine zq1 ?_;refine zst 0 ?_;refine Ag (ms' := [box b1 24 [_, _]]) rfl ?_;refine zq2 ?_
  cases hm; exact Af zr2
 ·refine zq6 ?_
  obtain ⟨x2, hx2, hm⟩ := bS hm;refine zc0 (NQ hx2) ?_;refine zst 0 ?_;refine Ag (ms' := [box b1 24 [_, _]]) rfl ?_;refine zq2 ?_
  cases hm; exact Af zr2
noncomputable def Dn (t1 : ATy) : Option (ATy × Int) :=
 (Bz t1).bind fun (x1, x2) =>
 some ((⟨x1.l, x1.root⟩ : ATy), x2)
theorem Hh {t1 : ATy} {r_1 : ATy} {r_2 : Int} (hm : Dn t1 = some (r_1, r_2)) : Fn0 Tryz.prog 78 [ATy.d t1] (.tup [ATy.d r_1, .i64 r_2]) := by
 unfold Dn at hm;refine Ae func78 Uj ntmps78 Uj fun H0 fr w0 => ?_;refine zq3 ?_;refine Be fun b1 => ?_;refine zq5 ?_;obtain ⟨⟨x1, x2⟩, hx1, hm⟩ := bS hm;refine zc0 (NI hx1) ?_;refine zq2 ?_;refine zst 0 ?_;refine Ag (ms' := [box b1 24 [_, _]]) rfl ?_;refine zq2 ?_
 cases hm; exact Af zr2
noncomputable def FW (l1 : (List ATy)) : Nat -> (Int × (List Int) × Int × (List ANd)) -> Option ((List Int) × Int × (List ANd))
 | 0, _ => none
 | n + 1, (x3, l4, z2, l5) =>
  bif (decide (x3 < (l1.length : Int))) then
   (idx l1 x3).bind fun x4 =>
   (Ck (⟨l5, z2⟩ : ATy) (⟨x4.l, x4.root⟩ : ATy)).bind fun (x5, s1) =>
   grd (InR (x4.root + x5)) <|
   grd ((l4.length + ([(x4.root + x5)] : List _).length) * 8 <= 140737488355328) <|
   grd (InR (x3 + 1)) <|
   FW l1 n ((x3 + 1), (l4 ++ [(x4.root + x5)]), s1.root, s1.l)
  else
   some (l4, z2, l5)
noncomputable def F2 (t1 : ATy) (l1 : (List ATy)) (l2 : (List Int)) (x12 : ANd) : Nat -> (Int × (List AFd)) -> Option (List AFd)
 | 0, _ => none
 | n + 1, (x14, l10) =>
  bif (decide (x14 < (x12.l.length : Int))) then
   (idx l10 x14).bind fun x15 =>
   (DE x15.at_ t1 l1 l2).bind fun x16 =>
   (idx l10 x14).bind fun x17 =>
   grd (InR (x14 + 1)) <|
   F2 t1 l1 l2 x12 n ((x14 + 1), (l10.set (x14).toNat (⟨x17.name, x16⟩ : AFd)))
  else
   some l10
noncomputable def FZ (t1 : ATy) (l1 : (List ATy)) (l2 : (List Int)) : Nat -> (Int × Int × (List ANd)) -> Option (Int × (List ANd))
 | 0, _ => none
 | n + 1, (x6, z4, l7) =>
  bif (decide (x6 < (t1.l.length : Int))) then
   (idx l7 x6).bind fun x7 =>
   ((bif (decide (x7.kind = 6)) then
    some (decide (x7.kind = 6))
   else
    bif (decide (x7.kind = 9)) then
     some (decide (x7.kind = 9))
    else
     some (decide (x7.kind = 10)) : Option Bool).bind fun x8 =>
   bif x8 then
    (DE x7.a t1 l1 l2).bind fun x9 =>
    (DE x7.b t1 l1 l2).bind fun x10 =>
    (idx (l7.set (x6).toNat (⟨x7.kind, x9, x7.b, x7.l⟩ : ANd)) x6).bind fun x11 =>
    some (z4, ((l7.set (x6).toNat (⟨x7.kind, x9, x7.b, x7.l⟩ : ANd)).set (x6).toNat (⟨x11.kind, x11.a, x10, x11.l⟩ : ANd)))
   else
    some (z4, l7) : Option (Int × (List ANd))).bind fun (z5, l8) =>
   (idx l8 x6).bind fun x12 =>
   grd (x12.l.length * 24 <= 140737488355328) <|
   (idx l8 x6).bind fun x13 =>
   (F2 t1 l1 l2 x12 FU (0, x12.l) : Option (List AFd)).bind fun l9 =>
   grd (InR (x6 + 1)) <|
   FZ t1 l1 l2 n ((x6 + 1), z5, (l8.set (x6).toNat (⟨x13.kind, x13.a, x13.b, l9⟩ : ANd)))
  else
   some (z4, l7)
noncomputable def Fl (t1 : ATy) (l1 : (List ATy)) : Option (ATy × Int) :=
 (BE [[t1], l1]).bind fun x1 =>
 (DP x1).bind fun x2 =>
 bif (!decide (x2 = 0)) then
  some ((⟨([] : List ANd), 0⟩ : ATy), x2)
 else
  grd (t1.l.length * 48 <= 140737488355328) <|
  (FW l1 FU (0, [], t1.root, t1.l) : Option ((List Int) × Int × (List ANd))).bind fun (l2, z1, l3) =>
  (FZ t1 l1 l2 FU (0, z1, l3) : Option (Int × (List ANd))).bind fun (z3, l6) =>
  (DE z3 t1 l1 l2).bind fun x18 =>
  (Dn (⟨l6, x18⟩ : ATy)).bind fun (x19, x20) =>
  some ((⟨x19.l, x19.root⟩ : ATy), x20)
theorem N6 {t1 : ATy} {l1 : (List ATy)} {r_1 : ATy} {r_2 : Int} (hm : Fl t1 l1 = some (r_1, r_2)) : Fn0 Tryz.prog 40 [ATy.d t1, .list 2 ATy.d l1] (.tup [ATy.d r_1, .i64 r_2]) := by
 unfold Fl at hm;refine Ae func40 Uj ntmps40 Uj fun H0 fr w0 => ?_;refine zq4 ?_;refine Be fun b1 => ?_;refine zq6 ?_;refine Ah Uj Uj Uj (Ac (xs := [_]) (f := ATy.d) (l := [_]) runUnderlying53 sizeOf24 zeroValue24 Uj Uj Uj (fun _ => ⟨rfl, rfl, rfl⟩) rfl) ?_;refine zq1 ?_;refine Ah Uj Uj Uj (Ac (xs := [_, _]) (f := (D.list 2 ATy.d)) (l := [_, _]) runUnderlying128 sizeOf53 zeroValue53 Uj Uj Uj (fun _ => ⟨rfl, rfl, rfl⟩) rfl) ?_;obtain ⟨x1, hx1, hm⟩ := bS hm;refine zc0 (EJ hx1) ?_;obtain ⟨x2, hx2, hm⟩ := bS hm;refine zc0 (H7 hx2) ?_;refine zq7 ?_;refine zcn hm (fun hc1 hm => ?_) (fun hc1 hm => ?_)
 ·refine zq2 ?_
  refine Ah Uj Uj Uj (Aw (zs := [.list 4 ANd.d [], .v (.int .i64 0)]) runUnderlying24 zeroValue24 (Gl _ runUnderlying24) rfl Uj Uj Uj) ?_;refine zq1 ?_;refine zst 0 ?_;refine Ag (ms' := [box b1 24 [_, _]]) rfl ?_;refine zq2 ?_
  cases hm; exact Af zr2
 ·refine zq2 ?_
  obtain ⟨hg3, hm⟩ := Aa hm;refine Gd [2, 5] [7] [3, 4] [6] [] AC (by decide +kernel) (by decide +kernel) rfl ?_;refine Bd Uj Uj Uj Uj Uj Uj (oFa DH Uj Uj Uj) ?_;refine Bd Uj Uj Uj Uj Uj Uj (Bm isAgg22 Uj Uj) ?_;refine Eh Uj ?_;refine Bd Uj Uj Uj Uj Uj Uj (oFa Iy Uj Uj Uj) ?_;refine Bd Uj Uj Uj Uj Uj Uj (Bm isAgg3 Uj Uj) ?_;refine Eh Uj ?_;refine DZ (R0 := fun d A => ∃ b, d = .v (.pointer (some ⟨b, 0, none⟩)) /\ A = box b 24 [.list 4 ANd.d [], .i64 0]) rfl Uj Uj Uj (OpT.mono (Ay zeroValue24 (cs := [.list 4 ANd.d [], .i64 0]) rfl) (by rintro d ms' ⟨b, rfl, rfl⟩; exact ⟨_, ⟨b, rfl, rfl⟩, rfl⟩)) ?_;refine Eh Uj ?_;refine Hf ?_;refine KI Uj Uj Uj Uj (Cm (ms₁ := []) call74 Uj (List.Perm.refl _) (I5 hg3)) ?_;rintro _ _ ⟨_, ⟨a_r1, cap_r1, hd_r1, hq_r1⟩, rfl⟩;obtain ⟨m_r1, hm_r1⟩ : ∃ m, m = t1.l.length := ⟨_, rfl⟩;rw [<- hm_r1] at hd_r1 hq_r1;subst hd_r1 hq_r1
  clear hm_r1
  refine ⟨(trivial : True), ?_⟩;refine KI Uj Uj Uj Uj (Aw (zs := [.list 4 ANd.d [], .v (.int .i64 0)]) runUnderlying24 zeroValue24 (Gl _ runUnderlying24) rfl Uj Uj Uj) ?_;rintro _ _ ⟨rfl, rfl⟩;refine ⟨(trivial : True), ?_⟩;refine I8 [(6, 7)] rfl ?_;rintro _ _ ⟨b2, rfl, rfl⟩
  show _ /\ _
  refine ⟨(trivial : True), ?_⟩;refine Cn Uj Uj Uj (oSb 0 sizeOf24 Uj Uj Uj Uj Uj Uj Uj Uj (nB Uj)) ?_;rintro _ _ rfl;refine ⟨(trivial : True), ?_⟩;refine BH ?_;refine zq2 ?_;refine PI fun b3 => ?_;refine Am (AF (T := 3) (sz := 1) (f := D.i64)) ?_;refine zq8 ?_;obtain ⟨o_1, hj1, hm1⟩ := bS hm;refine Ak [(2, _), (3, _), (4, _), (7, _), (8, _)] [(4, _)] (fun (st : ((List Int) × Int × (List ANd))) (hid : (Option Addr × Nat) × (Option Addr × Nat × Nat)) => match st, hid with | (l2, z1, l3), ((a_r2, cap_r2), (a_r1, m_r1, cap_r1)) => []) (fun F (st : ((List Int) × Int × (List ANd))) (hid : (Option Addr × Nat) × (Option Addr × Nat × Nat)) => match st, hid with | (l2, z1, l3), ((a_r2, cap_r2), (a_r1, m_r1, cap_r1)) => [row a_r2 cap_r2 3 1 D.i64 l2, box b3 25 [.v (.slice a_r2 l2.length cap_r2)], box b2 24 [.v (.slice a_r1 m_r1 cap_r1), .i64 z1], arr a_r1 m_r1 cap_r1 44 4 ANd.d l3, (nthF F 0)]) (fun st => st = o_1) ⟨rfl, rfl, rfl, rfl, rfl, trivial⟩ ⟨rfl, trivial⟩ ?_ ?_
  ·refine Aj ?_
   refine Ai [(2, _), (3, _), (4, _), (7, _), (8, _), (33, _), (34, _)] [(4, _)] (fun (st : (Int × (List Int) × Int × (List ANd))) (hid : (Option Addr × Nat) × (Option Addr × Nat × Nat)) => match st, hid with | (x3, l4, z2, l5), ((a_r2, cap_r2), (a_r1, m_r1, cap_r1)) => [(35, .i64 x3)]) (fun F (st : (Int × (List Int) × Int × (List ANd))) (hid : (Option Addr × Nat) × (Option Addr × Nat × Nat)) => match st, hid with | (x3, l4, z2, l5), ((a_r2, cap_r2), (a_r1, m_r1, cap_r1)) => [row a_r2 cap_r2 3 1 D.i64 l4, box b3 25 [.v (.slice a_r2 l4.length cap_r2)], box b2 24 [.v (.slice a_r1 m_r1 cap_r1), .i64 z2], arr a_r1 m_r1 cap_r1 44 4 ANd.d l5, (nthF F 0)]) ((_, _), (_, _, _)) hj1 (fun _ => rfl) ⟨rfl, rfl, rfl, rfl, rfl, rfl, rfl, trivial⟩ ⟨rfl, trivial⟩ ⟨rfl, trivial⟩ rfl ?_;rintro n ⟨x3, l4, z2, l5⟩ ⟨⟨a_r2, cap_r2⟩, ⟨a_r1, m_r1, cap_r1⟩⟩ hj1;rw [FW] at hj1;refine Av (L' := [(35, .i64 x3), (2, _), (3, _), (4, _), (7, _), (8, _), (33, _), (34, _)]) (ms' := [row a_r2 cap_r2 3 1 D.i64 l4, box b3 25 [.v (.slice a_r2 l4.length cap_r2)], box b2 24 [.v (.slice a_r1 m_r1 cap_r1), .i64 z2], arr a_r1 m_r1 cap_r1 44 4 ANd.d l5, _]) rfl Uj ?_;refine zq5 ?_;refine zcn hj1 (fun hc2 hj1 => ?_) (fun hc2 hj1 => ?_)
   ·refine zq5 ?_
    obtain ⟨x4, hx4, hj1⟩ := bS hj1;refine Ah Uj Uj Uj (oIm runUnderlying53 sizeOf24 Uj Uj hx4) ?_;refine zq1 ?_;refine Be fun b4 => ?_;refine zst 0 ?_;refine Ag (ms' := [box b4 24 [_, _], _, box b3 25 [_], box b2 24 [_, _], _, box b1 24 [_, _]]) rfl ?_;refine zq3 ?_;refine Gt 4 rfl Uj ?_;rintro rfl;refine zq1 ?_;refine Am (CG (i := 40) (q := 0) 4 rfl Uj Uj Uj Uj).refines ?_;refine zq1 ?_;obtain ⟨⟨x5, s1⟩, hx5, hj1⟩ := bS hj1;refine An Uj Uj Uj (Cm (ms₁ := []) call75 Uj (List.Perm.refl _) (HR hx5)) ?_;rintro _ _ ⟨_, ⟨a_r3, m_r3, cap_r3, rfl, rfl⟩, rfl⟩;refine zq3 ?_;refine Be fun b5 => ?_;refine zst 0 ?_;refine Ag (ms' := [box b5 24 [_, _], _, box b4 24 [_, _], _, box b3 25 [_], box b2 24 [_, _], _, box b1 24 [_, _]]) rfl ?_;refine zq5 ?_;refine zst 5 ?_;refine Ag (ms' := [box b5 24 [_, _], _, box b4 24 [_, _], _, box b3 25 [_], box b2 24 [_, _], _, box b1 24 [_, _]]) rfl ?_;refine Am (Fd 1 6 rfl Uj Uj Uj) ?_;refine zq6 ?_;obtain ⟨hg6, hj1⟩ := Aa hj1;refine zq1 ?_;refine Ah Uj Uj Uj (Ac (xs := [_]) (f := D.i64) (l := [_]) runUnderlying25 sizeOf3 zeroValue3 Uj Uj Uj (fun _ => ⟨rfl, rfl, rfl⟩) rfl) ?_;obtain ⟨hg7, hj1⟩ := Aa hj1;refine An Uj Uj Uj (AB (a := _) 2 underlying25 type3 Uj Uj Uj Uj Uj Uj Uj (fun _ => rfl) (fun _ => rfl) hg7 (AA hg7 Uj)) ?_;rintro _ _ ⟨a_r2, cap_r2, rfl, rfl⟩;refine Ag (ms' := [box b5 24 [_, _], box b4 24 [_, _], _, box b3 25 [_], box b2 24 [_, _], _, box b1 24 [_, _]]) rfl ?_;refine zst 3 ?_;refine Ag (ms' := [box b5 24 [_, _], box b4 24 [_, _], _, box b3 25 [_], box b2 24 [_, _], _, box b1 24 [_, _]]) rfl ?_;refine zq2 ?_;obtain ⟨hg8, hj1⟩ := Aa hj1;refine zq3 ?_;exact ⟨_, ((_, _), (_, _, _)), hj1, ⟨rfl, trivial⟩, ⟨rfl, rfl, rfl, rfl, rfl, rfl, rfl, trivial⟩, [_, _], rfl⟩
   ·refine Ap ?_
    exact ⟨_, ((_, _), (_, _, _)), Ad hj1, trivial, ⟨rfl, rfl, rfl, rfl, rfl, trivial⟩, [], rfl⟩
  ·rintro ⟨l2, z1, l3⟩ ⟨⟨a_r2, cap_r2⟩, ⟨a_r1, m_r1, cap_r1⟩⟩ hst
   subst hst;refine Aq (L' := [(2, _), (3, _), (4, _), (7, _), (8, _)]) (ms' := [row a_r2 cap_r2 3 1 D.i64 l2, box b3 25 [.v (.slice a_r2 l2.length cap_r2)], box b2 24 [.v (.slice a_r1 m_r1 cap_r1), .i64 z1], arr a_r1 m_r1 cap_r1 44 4 ANd.d l3, _]) rfl Uj ?_;refine AO ?_;refine BL (Ep 1 0 0 rfl Uj Uj Uj Uj Uj) ?_;refine BL (DJ (d := .list 1 D.i64 l2) 1 8 rfl Uj Uj Uj) ?_;refine gRg ?_;refine Ah Uj Uj Uj (BU Uj Uj) ?_;refine zq10 ?_;obtain ⟨o_2, hj2, hm2⟩ := bS hm1;refine Ak [(4, _), (7, _), (13, _)] [(0, _), (3, _)] (fun (st : (Int × (List ANd))) (hid : Unit) => match st, hid with | (z3, l6), _ => []) (fun F (st : (Int × (List ANd))) (hid : Unit) => match st, hid with | (z3, l6), _ => [(nthF F 0), box b2 24 [.v (.slice a_r1 m_r1 cap_r1), .i64 z3], arr a_r1 m_r1 cap_r1 44 4 ANd.d l6, (nthF F 1)]) (fun st => st = o_2) ⟨rfl, rfl, rfl, trivial⟩ ⟨rfl, rfl, trivial⟩ ?_ ?_
   ·refine Aj ?_
    refine Ai [(4, _), (7, _), (13, _), (57, _)] [(0, _), (3, _)] (fun (st : (Int × Int × (List ANd))) (hid : Unit) => match st, hid with | (x6, z4, l7), _ => [(58, .i64 x6)]) (fun F (st : (Int × Int × (List ANd))) (hid : Unit) => match st, hid with | (x6, z4, l7), _ => [(nthF F 0), box b2 24 [.v (.slice a_r1 m_r1 cap_r1), .i64 z4], arr a_r1 m_r1 cap_r1 44 4 ANd.d l7, (nthF F 1)]) () hj2 (fun _ => rfl) ⟨rfl, rfl, rfl, rfl, trivial⟩ ⟨rfl, rfl, trivial⟩ ⟨rfl, trivial⟩ rfl ?_;rintro n ⟨x6, z4, l7⟩ ⟨⟩ hj2;rw [FZ] at hj2;refine Av (L' := [(58, .i64 x6), (4, _), (7, _), (13, _), (57, _)]) (ms' := [_, box b2 24 [.v (.slice a_r1 m_r1 cap_r1), .i64 z4], arr a_r1 m_r1 cap_r1 44 4 ANd.d l7, _]) rfl Uj ?_;refine zq5 ?_;refine zcn hj2 (fun hc3 hj2 => ?_) (fun hc3 hj2 => ?_)
    ·refine zq13 ?_
     obtain ⟨x7, hx9, hj2⟩ := bS hj2;refine Ah Uj Uj Uj (At 2 runUnderlying22 sizeOf44 Uj Uj Uj hx9) ?_;refine zq6 ?_;refine Ah Uj Uj Uj (A4 2 rfl Uj (Ao hx9).2) ?_;refine Ah Uj Uj Uj (AI (b := 0) 2 PW Uj Uj (Ao hx9).2) ?_;refine Ah Uj Uj Uj (AW (off := 0) 2 isAgg3 Uj Uj (Ao hx9).2 rfl Uj Uj) ?_;refine gNl ?_;obtain ⟨o_3, hj3, hm3⟩ := bS hj2;refine Ak [(4, _), (7, _), (13, _), (15, _), (57, _), (58, _)] [(0, _), (3, _)] (fun (st : (Int × (List ANd))) (hid : Unit) => match st, hid with | (z5, l8), _ => []) (fun F (st : (Int × (List ANd))) (hid : Unit) => match st, hid with | (z5, l8), _ => [(nthF F 0), box b2 24 [.v (.slice a_r1 m_r1 cap_r1), .i64 z5], arr a_r1 m_r1 cap_r1 44 4 ANd.d l8, (nthF F 1)]) (fun st => st = o_3) ⟨rfl, rfl, rfl, rfl, rfl, rfl, trivial⟩ ⟨rfl, rfl, trivial⟩ ?_ ?_
     ·refine zq7 ?_
      obtain ⟨o_4, hj4, hm4⟩ := bS hj3;refine Ak [(4, _), (7, _), (13, _), (15, _), (57, _), (58, _)] [(0, _), (1, _), (2, _), (3, _)] (fun (st : Bool) (hid : Unit) => match st, hid with | x8, _ => [(69, .bool x8)]) (fun F (st : Bool) (hid : Unit) => match st, hid with | x8, _ => [(nthF F 0), (nthF F 1), (nthF F 2), (nthF F 3)]) (fun st => st = o_4) ⟨rfl, rfl, rfl, rfl, rfl, rfl, trivial⟩ ⟨rfl, rfl, rfl, rfl, trivial⟩ ?_ ?_
      ·refine zcn hj4 (fun hc4 hj4 => ?_) (fun hc4 hj4 => ?_)
       ·refine gSp ?_
        exact ⟨_, (), Ad hj4, ⟨rfl, trivial⟩, ⟨rfl, rfl, rfl, rfl, rfl, rfl, trivial⟩, [], rfl⟩
       ·refine zq5 ?_
        refine zcn hj4 (fun hc5 hj4 => ?_) (fun hc5 hj4 => ?_)
        ·refine gSp ?_
         exact ⟨_, (), Ad hj4, ⟨rfl, trivial⟩, ⟨rfl, rfl, rfl, rfl, rfl, rfl, trivial⟩, [], rfl⟩
        ·refine zq4 ?_
         exact ⟨_, (), Ad hj4, ⟨rfl, trivial⟩, ⟨rfl, rfl, rfl, rfl, rfl, rfl, trivial⟩, [], rfl⟩
      ·rintro x8 _ hst
       subst hst;refine Aq (L' := [(69, .bool x8), (4, _), (7, _), (13, _), (15, _), (57, _), (58, _)]) (ms' := [_, _, _, _]) rfl Uj ?_;refine zcn hm4 (fun hc6 hm4 => ?_) (fun hc6 hm4 => ?_)
       ·obtain ⟨x9, hx10, hm4⟩ := bS hm4
        obtain ⟨x10, hx11, hm4⟩ := bS hm4;obtain ⟨x11, hx12, hm4⟩ := bS hm4;refine Du [16, 19] [1, 17, 18] [17, 18] AC (by decide +kernel) (by decide +kernel) rfl ?_;refine Ar Uj Uj Uj Uj Uj Uj (oMv Uj) ?_;refine Ar Uj Uj Uj Uj Uj Uj (oMv Uj) ?_;refine Ar Uj Uj Uj Uj Uj Uj (oMv Uj) ?_;refine Ar Uj Uj Uj Uj Uj Uj (oMv Uj) ?_;refine Ar Uj Uj Uj Uj Uj Uj (A4 2 rfl Uj (Ao hx9).2) ?_;refine Ar Uj Uj Uj Uj Uj Uj (AI (b := 0) 2 KU Uj Uj (Ao hx9).2) ?_;refine Ar Uj Uj Uj Uj Uj Uj (AW (off := 1) 2 isAgg3 Uj Uj (Ao hx9).2 rfl Uj Uj) ?_;refine Ar Uj Uj Uj Uj Uj Uj (GP Uj Uj (Ed call76 (Fg hx10))) ?_;refine Ar Uj Uj Uj Uj Uj Uj (oMv Uj) ?_;refine Ar Uj Uj Uj Uj Uj Uj (oMv Uj) ?_;refine Ar Uj Uj Uj Uj Uj Uj (A4 2 rfl Uj (Ao hx9).2) ?_;refine Ar Uj Uj Uj Uj Uj Uj (AI (b := 0) 2 II Uj Uj (Ao hx9).2) ?_;refine Ar Uj Uj Uj Uj Uj Uj (AW (off := 2) 2 isAgg3 Uj Uj (Ao hx9).2 rfl Uj Uj) ?_;refine Ar Uj Uj Uj Uj Uj Uj (GP Uj Uj (Ed call76 (Fg hx11))) ?_;refine Ar Uj Uj Uj Uj Uj Uj (A4 2 rfl Uj (Ao hx9).2) ?_;refine Ar Uj Uj Uj Uj Uj Uj (AI (b := 0) 2 KU Uj Uj (Ao hx9).2) ?_;refine Ds Uj ?_;refine MS Uj Uj Uj Uj Uj (A4 2 rfl Uj (by first | exact (Ao hx9).2 | exact IF hx9 | exact GZ hx9)) ?_;refine MS Uj Uj Uj Uj Uj (AI (b := 0) 2 II Uj Uj (by first | exact (Ao hx9).2 | exact IF hx9 | exact GZ hx9)) ?_;refine Ds Uj ?_;refine Es ?_;refine Cn Uj Uj Uj (BD (off := 1) (z' := (⟨x7.kind, x9, x7.b, x7.l⟩ : ANd)) 2 sizeOf3 Uj Uj (Ao hx9).2 rfl Uj Uj Uj Uj Uj (nB Uj) rfl Uj) ?_;rintro _ _ rfl;refine ⟨⟨⟨trivial, A4 2 rfl Uj (by first | exact (Ao hx9).2 | exact IF hx9 | exact GZ hx9)⟩, AI (b := 0) 2 II Uj Uj (by first | exact (Ao hx9).2 | exact IF hx9 | exact GZ hx9)⟩, ?_⟩;refine Cn Uj Uj Uj (BD (off := 2) (z' := (⟨x11.kind, x11.a, x10, x11.l⟩ : ANd)) 2 sizeOf3 Uj Uj (Ao hx12).2 rfl Uj Uj Uj Uj Uj (nB Uj) rfl Uj) ?_;rintro _ _ rfl;refine ⟨⟨⟨trivial, A4 2 rfl Uj (by first | exact (Ao hx9).2 | exact IF hx9 | exact GZ hx9)⟩, AI (b := 0) 2 II Uj Uj (by first | exact (Ao hx9).2 | exact IF hx9 | exact GZ hx9)⟩, ?_⟩;refine BH ?_;exact ⟨_, (), Ad hm4, trivial, ⟨rfl, rfl, rfl, rfl, rfl, rfl, trivial⟩, [], rfl⟩
       ·refine gSp ?_
        exact ⟨_, (), Ad hm4, trivial, ⟨rfl, rfl, rfl, rfl, rfl, rfl, trivial⟩, [], rfl⟩
     ·rintro ⟨z5, l8⟩ ⟨⟩ hst
      subst hst;refine Aq (L' := [(4, _), (7, _), (13, _), (15, _), (57, _), (58, _)]) (ms' := [_, box b2 24 [.v (.slice a_r1 m_r1 cap_r1), .i64 z5], arr a_r1 m_r1 cap_r1 44 4 ANd.d l8, _]) rfl Uj ?_;refine zq4 ?_;obtain ⟨x12, hx13, hm3⟩ := bS hm3;refine Ah Uj Uj Uj (A4 2 rfl Uj (Ao hx13).2) ?_;refine Ah Uj Uj Uj (AI (b := 0) 2 Iw Uj Uj (Ao hx13).2) ?_;refine Ah Uj Uj Uj (AW (off := 3) 2 isAgg42 Uj Uj (Ao hx13).2 rfl Uj Uj) ?_;obtain ⟨hg14, hm3⟩ := Aa hm3;refine An Uj Uj Uj (Cm (ms₁ := []) call77 Uj (List.Perm.refl _) (K9 hg14)) ?_;rintro _ _ ⟨_, ⟨a_r4, cap_r4, hd_r4, hq_r4⟩, rfl⟩;obtain ⟨m_r4, hm_r4⟩ : ∃ m, m = x12.l.length := ⟨_, rfl⟩;rw [<- hm_r4] at hd_r4 hq_r4;subst hd_r4 hq_r4
      clear hm_r4
      obtain ⟨x13, hx15, hm3⟩ := bS hm3;refine Ah Uj Uj Uj (A4 3 rfl Uj (Ao hx15).2) ?_;refine Ah Uj Uj Uj (AI (b := 0) 3 Iw Uj Uj (Ao hx15).2) ?_;refine Am (Nj (.agg [.i64 x13.kind, .i64 x13.a, .i64 x13.b, .v (.slice a_r4 m_r4 cap_r4)]) 3 rfl Uj) ?_;refine Gk Uj Uj (BD (off := 3) (z' := none) 3 sizeOf42 Uj Uj (RB hx15) rfl Uj Uj Uj Uj Uj (nB Uj) rfl Uj) ?_;rintro _ _ rfl;refine Ag (ms' := [_, _, box b2 24 [_, _], _, box b1 24 [_, _]]) rfl ?_;refine zq4 ?_;refine Ah Uj Uj Uj (A4 3 rfl Uj (EV hx15)) ?_;refine Ah Uj Uj Uj (AI (b := 0) 3 Iw Uj Uj (EV hx15)) ?_;refine Ah Uj Uj Uj (AW (off := 3) 3 isAgg42 Uj Uj (EV hx15) rfl Uj Uj) ?_;refine Ah Uj Uj Uj (BR 0 runUnderlying42 Uj Uj) ?_;refine zq2 ?_;obtain ⟨o_5, hj5, hm5⟩ := bS hm3;refine Ak [(4, _), (7, _), (13, _), (57, _), (58, _)] [(1, _), (2, _), (3, _), (4, _)] (fun (st : (List AFd)) (hid : Unit) => match st, hid with | l9, _ => []) (fun F (st : (List AFd)) (hid : Unit) => match st, hid with | l9, _ => [arr a_r4 m_r4 cap_r4 98 2 AFd.d l9, (nthF F 0), (nthF F 1), (nthF F 2), (nthF F 3)]) (fun st => st = o_5) ⟨rfl, rfl, rfl, rfl, rfl, trivial⟩ ⟨rfl, rfl, rfl, rfl, trivial⟩ ?_ ?_
      ·refine Aj ?_
       refine Ai [(4, _), (7, _), (13, _), (15, _), (57, _), (58, _), (103, _)] [(1, _), (2, _), (3, _), (4, _)] (fun (st : (Int × (List AFd))) (hid : Unit) => match st, hid with | (x14, l10), _ => [(104, .i64 x14)]) (fun F (st : (Int × (List AFd))) (hid : Unit) => match st, hid with | (x14, l10), _ => [arr a_r4 m_r4 cap_r4 98 2 AFd.d l10, (nthF F 0), (nthF F 1), (nthF F 2), (nthF F 3)]) () hj5 (fun _ => rfl) ⟨rfl, rfl, rfl, rfl, rfl, rfl, rfl, trivial⟩ ⟨rfl, rfl, rfl, rfl, trivial⟩ ⟨rfl, trivial⟩ rfl ?_;rintro n ⟨x14, l10⟩ ⟨⟩ hj5;rw [F2] at hj5;refine Av (L' := [(104, .i64 x14), (4, _), (7, _), (13, _), (15, _), (57, _), (58, _), (103, _)]) (ms' := [arr a_r4 m_r4 cap_r4 98 2 AFd.d l10, _, _, _, _]) rfl Uj ?_;refine zq5 ?_;refine zcn hj5 (fun hc7 hj5 => ?_) (fun hc7 hj5 => ?_)
       ·refine zq8 ?_
        obtain ⟨x15, hx16, hj5⟩ := bS hj5;obtain ⟨x16, hx17, hj5⟩ := bS hj5;obtain ⟨x17, hx18, hj5⟩ := bS hj5;refine zdr 17 ?_;refine zq1 ?_;refine Az Uj Uj Uj (A4 3 rfl Uj (EV hx15)) ?_;refine Az Uj Uj Uj (AI (b := 0) 3 Iw Uj Uj (EV hx15)) ?_;refine Az Uj Uj Uj (AW (off := 3) 3 isAgg42 Uj Uj (EV hx15) rfl Uj Uj) ?_;refine zq3 ?_;refine Az Uj Uj Uj (A4 3 rfl Uj (EV hx15)) ?_;refine Az Uj Uj Uj (AI (b := 0) 3 Iw Uj Uj (EV hx15)) ?_;refine Az Uj Uj Uj (AW (off := 3) 3 isAgg42 Uj Uj (EV hx15) rfl Uj Uj) ?_;refine zq1 ?_;refine Az Uj Uj Uj (At 0 runUnderlying42 sizeOf98 Uj Uj Uj hx16) ?_;refine Az Uj Uj Uj (AI (b := 0) 0 IB Uj Uj (Ao hx16).2) ?_;refine Az Uj Uj Uj (AW (off := 1) 0 isAgg3 Uj Uj (Ao hx16).2 rfl Uj Uj) ?_;refine Az Uj Uj Uj (GP Uj Uj (Ed call76 (Fg hx17))) ?_;refine Az Uj Uj Uj (At 0 runUnderlying42 sizeOf98 Uj Uj Uj hx18) ?_;refine Az Uj Uj Uj (AI (b := 0) 0 IB Uj Uj (Ao hx18).2) ?_;refine Cq ?_;refine Gk Uj Uj (BD (off := 1) (z' := (⟨x17.name, x16⟩ : AFd)) 0 sizeOf3 Uj Uj (Ao hx18).2 rfl Uj Uj Uj Uj Uj (nB Uj) rfl Uj) ?_;rintro _ _ rfl;refine Ag (ms' := [_, _, box b2 24 [_, _], _, box b1 24 [_, _]]) rfl ?_;refine zq2 ?_;obtain ⟨hg19, hj5⟩ := Aa hj5;refine zq3 ?_;exact ⟨_, (), hj5, ⟨rfl, trivial⟩, ⟨rfl, rfl, rfl, rfl, rfl, rfl, rfl, trivial⟩, [], rfl⟩
       ·refine Ap ?_
        exact ⟨_, (), Ad hj5, trivial, ⟨rfl, rfl, rfl, rfl, rfl, trivial⟩, [], rfl⟩
      ·rintro l9 ⟨⟩ hst
       subst hst;refine Aq (L' := [(4, _), (7, _), (13, _), (57, _), (58, _)]) (ms' := [arr a_r4 m_r4 cap_r4 98 2 AFd.d l9, _, _, _, _]) rfl Uj ?_;refine Kg 0 rfl Uj ?_;rintro rfl;refine BL (LK (z' := (⟨x13.kind, x13.a, x13.b, l9⟩ : ANd)) 3 0 3 rfl Uj Uj Uj Uj Uj) ?_;refine gRg ?_;obtain ⟨hg20, hm5⟩ := Aa hm5;refine zq3 ?_;exact ⟨_, (), hm5, ⟨rfl, trivial⟩, ⟨rfl, rfl, rfl, rfl, trivial⟩, [_], rfl⟩
    ·refine Ap ?_
     exact ⟨_, (), Ad hj2, trivial, ⟨rfl, rfl, rfl, trivial⟩, [], rfl⟩
   ·rintro ⟨z3, l6⟩ ⟨⟩ hst
    subst hst;refine Aq (L' := [(4, _), (7, _), (13, _)]) (ms' := [_, box b2 24 [.v (.slice a_r1 m_r1 cap_r1), .i64 z3], arr a_r1 m_r1 cap_r1 44 4 ANd.d l6, _]) rfl Uj ?_;refine zq5 ?_;obtain ⟨x18, hx21, hm2⟩ := bS hm2;refine Ah Uj Uj Uj (GP Uj Uj (Ed call76 (Fg hx21))) ?_;refine zq1 ?_;refine zst 1 ?_;refine Ag (ms' := [_, box b2 24 [_, _], _, box b1 24 [_, _]]) rfl ?_;refine zq3 ?_;refine Gt 2 rfl Uj ?_;rintro rfl;refine zq1 ?_;refine Am (CG (i := 131) (q := 0) 2 rfl Uj Uj Uj Uj).refines ?_;obtain ⟨⟨x19, x20⟩, hx22, hm2⟩ := bS hm2;refine zc0 (Hh hx22) ?_;refine zq2 ?_;refine zst 3 ?_;refine Ag (ms' := [_, box b2 24 [_, _], _, box b1 24 [_, _]]) rfl ?_;refine zq2 ?_
    cases hm2; exact Af zr2
noncomputable def B8 (l1 : (List ATy)) : Nat -> (Int × (List Int) × (List ANd) × Int) -> Option ((List Int) × (List ANd) × Int)
 | 0, _ => none
 | n + 1, (x1, l4, l5, z2) =>
  bif (decide (x1 < (l1.length : Int))) then
   (idx l1 x1).bind fun x2 =>
   (Ck (⟨l5, z2⟩ : ATy) (⟨x2.l, x2.root⟩ : ATy)).bind fun (x3, s1) =>
   grd (InR (x2.root + x3)) <|
   grd ((l4.length + ([(x2.root + x3)] : List _).length) * 8 <= 140737488355328) <|
   grd (InR (x1 + 1)) <|
   B8 l1 n ((x1 + 1), (l4 ++ [(x2.root + x3)]), s1.l, s1.root)
  else
   some (l4, l5, z2)
noncomputable def CI (n1 : ((List Int) -> Option ANd)) (l1 : (List ATy)) : Option ATy :=
 (B8 l1 FU (0, [], [], 0) : Option ((List Int) × (List ANd) × Int)).bind fun (l2, l3, z1) =>
 (n1 l2).bind fun x4 =>
 grd ((l3.length + ([x4] : List _).length) * 48 <= 140737488355328) <|
 grd (InR (((l3 ++ [x4]).length : Int) - 1)) <|
 some (⟨(l3 ++ [x4]), (((l3 ++ [x4]).length : Int) - 1)⟩ : ATy)
theorem JU {n1 : ((List Int) -> Option ANd)} {l1 : (List ATy)} {r_1 : ATy} {fv_n1 : D} (hfn1 : PG Tryz.prog fv_n1 (D.list 1 D.i64) ANd.d n1) (hm : CI n1 l1 = some r_1) : Fn0 Tryz.prog 82 [fv_n1, .list 2 ATy.d l1] (ATy.d r_1) := by
 unfold CI at hm;refine Ae func82 Uj ntmps82 Uj fun H0 fr w0 => ?_;refine zq2 ?_;refine Be fun b1 => ?_;refine zq3 ?_;refine RK fun b2 => ?_;refine Am (Db (T := 44) (sz := 4) (f := ANd.d)) ?_;refine zq4 ?_;refine Am (AF (T := 3) (sz := 1) (f := D.i64)) ?_;refine zq8 ?_;obtain ⟨o_1, hj1, hm1⟩ := bS hm;refine Ak [(0, _), (4, _), (5, _)] [(3, _)] (fun (st : ((List Int) × (List ANd) × Int)) (hid : (Option Addr × Nat) × (Option Addr × Nat × Nat)) => match st, hid with | (l2, l3, z1), ((a_r2, cap_r2), (a_r1, m_r1, cap_r1)) => [(6, .v (.slice a_r2 l2.length cap_r2))]) (fun F (st : ((List Int) × (List ANd) × Int)) (hid : (Option Addr × Nat) × (Option Addr × Nat × Nat)) => match st, hid with | (l2, l3, z1), ((a_r2, cap_r2), (a_r1, m_r1, cap_r1)) => [row a_r2 cap_r2 3 1 D.i64 l2, arr a_r1 m_r1 cap_r1 44 4 ANd.d l3, box b2 24 [.v (.slice a_r1 m_r1 cap_r1), .i64 z1], (nthF F 0)]) (fun st => st = o_1) ⟨rfl, rfl, rfl, trivial⟩ ⟨rfl, trivial⟩ ?_ ?_
 ·refine Aj ?_
  refine Ai [(0, _), (4, _), (5, _), (11, _), (12, _)] [(3, _)] (fun (st : (Int × (List Int) × (List ANd) × Int)) (hid : (Option Addr × Nat) × (Option Addr × Nat × Nat)) => match st, hid with | (x1, l4, l5, z2), ((a_r2, cap_r2), (a_r1, m_r1, cap_r1)) => [(6, .v (.slice a_r2 l4.length cap_r2)), (13, .i64 x1)]) (fun F (st : (Int × (List Int) × (List ANd) × Int)) (hid : (Option Addr × Nat) × (Option Addr × Nat × Nat)) => match st, hid with | (x1, l4, l5, z2), ((a_r2, cap_r2), (a_r1, m_r1, cap_r1)) => [row a_r2 cap_r2 3 1 D.i64 l4, arr a_r1 m_r1 cap_r1 44 4 ANd.d l5, box b2 24 [.v (.slice a_r1 m_r1 cap_r1), .i64 z2], (nthF F 0)]) ((_, _), (_, _, _)) hj1 (fun _ => rfl) ⟨rfl, rfl, rfl, rfl, rfl, trivial⟩ ⟨rfl, trivial⟩ ⟨rfl, rfl, trivial⟩ rfl ?_;rintro n ⟨x1, l4, l5, z2⟩ ⟨⟨a_r2, cap_r2⟩, ⟨a_r1, m_r1, cap_r1⟩⟩ hj1;rw [B8] at hj1;refine Av (L' := [(6, .v (.slice a_r2 l4.length cap_r2)), (13, .i64 x1), (0, _), (4, _), (5, _), (11, _), (12, _)]) (ms' := [row a_r2 cap_r2 3 1 D.i64 l4, arr a_r1 m_r1 cap_r1 44 4 ANd.d l5, box b2 24 [.v (.slice a_r1 m_r1 cap_r1), .i64 z2], _]) rfl Uj ?_;refine zq5 ?_;refine zcn hj1 (fun hc1 hj1 => ?_) (fun hc1 hj1 => ?_)
  ·refine zq5 ?_
   obtain ⟨x2, hx1, hj1⟩ := bS hj1;refine zq2 ?_;refine Be fun b3 => ?_;refine zst 0 ?_;refine Ag (ms' := [box b3 24 [_, _], _, _, box b2 24 [_, _], box b1 24 [_, _]]) rfl ?_;refine zq3 ?_;refine Gt 2 rfl Uj ?_;rintro rfl;refine zq1 ?_;refine Am (CG (i := 18) (q := 0) 2 rfl Uj Uj Uj Uj).refines ?_;refine zq1 ?_;obtain ⟨⟨x3, s1⟩, hx2, hj1⟩ := bS hj1;refine An Uj Uj Uj (Cm (ms₁ := []) call75 Uj (List.Perm.refl _) (HR hx2)) ?_;rintro _ _ ⟨_, ⟨a_r3, m_r3, cap_r3, rfl, rfl⟩, rfl⟩;refine zq3 ?_;refine Be fun b4 => ?_;refine zst 0 ?_;refine Ag (ms' := [box b4 24 [_, _], _, box b3 24 [_, _], _, _, box b2 24 [_, _], box b1 24 [_, _]]) rfl ?_;refine zq5 ?_;refine zst 5 ?_;refine Ag (ms' := [box b4 24 [_, _], _, box b3 24 [_, _], _, _, box b2 24 [_, _], box b1 24 [_, _]]) rfl ?_;refine Am (Fd 1 4 rfl Uj Uj Uj) ?_;refine zq6 ?_;obtain ⟨hg3, hj1⟩ := Aa hj1;refine zq1 ?_;refine Ah Uj Uj Uj (Ac (xs := [_]) (f := D.i64) (l := [_]) runUnderlying25 sizeOf3 zeroValue3 Uj Uj Uj (fun _ => ⟨rfl, rfl, rfl⟩) rfl) ?_;obtain ⟨hg4, hj1⟩ := Aa hj1;refine An Uj Uj Uj (AB (a := _) 2 underlying25 type3 Uj Uj Uj Uj Uj Uj Uj (fun _ => rfl) (fun _ => rfl) hg4 (AA hg4 Uj)) ?_;rintro _ _ ⟨a_r2, cap_r2, rfl, rfl⟩;refine Ag (ms' := [box b4 24 [_, _], box b3 24 [_, _], _, _, box b2 24 [_, _], box b1 24 [_, _]]) rfl ?_;refine zq3 ?_;obtain ⟨hg5, hj1⟩ := Aa hj1;refine zq3 ?_;exact ⟨_, ((_, _), (_, _, _)), hj1, ⟨rfl, rfl, trivial⟩, ⟨rfl, rfl, rfl, rfl, rfl, trivial⟩, [_, _], rfl⟩
  ·refine Ap ?_
   exact ⟨_, ((_, _), (_, _, _)), Ad hj1, ⟨rfl, trivial⟩, ⟨rfl, rfl, rfl, trivial⟩, [], rfl⟩
 ·rintro ⟨l2, l3, z1⟩ ⟨⟨a_r2, cap_r2⟩, ⟨a_r1, m_r1, cap_r1⟩⟩ hst
  subst hst;refine Aq (L' := [(6, .v (.slice a_r2 l2.length cap_r2)), (0, _), (4, _), (5, _)]) (ms' := [row a_r2 cap_r2 3 1 D.i64 l2, arr a_r1 m_r1 cap_r1 44 4 ANd.d l3, box b2 24 [.v (.slice a_r1 m_r1 cap_r1), .i64 z1], _]) rfl Uj ?_;refine AO ?_;obtain ⟨x4, hx6, hm1⟩ := bS hm1;refine zdr 6 ?_;refine zq4 ?_;refine Az Uj Uj Uj (.view (peekE (i := 35) 0 rfl Uj Uj) (GP Uj Uj (hfn1 _ _ hx6))) ?_;refine Az Uj Uj Uj (Ac (xs := [_]) (f := ANd.d) (l := [_]) runUnderlying22 sizeOf44 zeroValue44 Uj Uj Uj (fun _ => ⟨rfl, rfl, rfl⟩) rfl) ?_;refine Cq ?_;obtain ⟨hg7, hm1⟩ := Aa hm1;refine An Uj Uj Uj (Ca (a := _) 1 underlying22 type44 Uj Uj Uj Uj Uj Uj (fun _ => rfl) (fun _ => rfl) hg7 (AA hg7 Uj)) ?_;rintro _ _ ⟨a_r1, m_r1, cap_r1, rfl, rfl⟩;refine Ag (ms' := [_, _, box b2 24 [_, _], box b1 24 [_, _]]) rfl ?_;refine zq1 ?_;refine zst 2 ?_;refine Ag (ms' := [_, _, box b2 24 [_, _], box b1 24 [_, _]]) rfl ?_;refine zq5 ?_;refine Ah Uj Uj Uj (BR 1 runUnderlying22 Uj Uj) ?_;obtain ⟨hg8, hm1⟩ := Aa hm1;refine zq2 ?_;refine zst 2 ?_;refine Ag (ms' := [_, _, box b2 24 [_, _], box b1 24 [_, _]]) rfl ?_;refine zq3 ?_;refine Gt 1 rfl Uj ?_;rintro rfl;refine zq1 ?_;refine Am (CG (i := 45) (q := 0) 1 rfl Uj Uj Uj Uj).refines ?_;refine zst 3 ?_;refine Ag (ms' := [_, _, box b2 24 [_, _], box b1 24 [_, _]]) rfl ?_;refine gNl ?_
  cases hm1; exact Af zr1
noncomputable def CK (a1 : ATy) (bv1 : ATy) : Option (ATy × Int) :=
 (DP [a1, bv1]).bind fun x1 =>
 bif (!decide (x1 = 0)) then
  some ((⟨([] : List ANd), 0⟩ : ATy), x1)
 else
  (CI (fun y0 => Cj y0 6) [a1, bv1]).bind fun x2 =>
  (Dn x2).bind fun (x3, x4) =>
  some ((⟨x3.l, x3.root⟩ : ATy), x4)
theorem IR {a1 : ATy} {bv1 : ATy} {r_1 : ATy} {r_2 : Int} (hm : CK a1 bv1 = some (r_1, r_2)) : Fn0 Tryz.prog 48 [ATy.d a1, ATy.d bv1] (.tup [ATy.d r_1, .i64 r_2]) := by
 unfold CK at hm;refine Ae func48 Uj ntmps48 Uj fun H0 fr w0 => ?_;refine zq4 ?_;refine Be fun b1 => ?_;refine zq7 ?_;refine Ah Uj Uj Uj (Ac (xs := [_, _]) (f := ATy.d) (l := [_, _]) runUnderlying53 sizeOf24 zeroValue24 Uj Uj Uj (fun _ => ⟨rfl, rfl, rfl⟩) rfl) ?_;obtain ⟨x1, hx1, hm⟩ := bS hm;refine zc0 (H7 hx1) ?_;refine zq7 ?_;refine zcn hm (fun hc1 hm => ?_) (fun hc1 hm => ?_)
 ·refine zq2 ?_
  refine Ah Uj Uj Uj (Aw (zs := [.list 4 ANd.d [], .v (.int .i64 0)]) runUnderlying24 zeroValue24 (Gl _ runUnderlying24) rfl Uj Uj Uj) ?_;refine zq1 ?_;refine zst 0 ?_;refine Ag (ms' := [box b1 24 [_, _]]) rfl ?_;refine zq2 ?_
  cases hm; exact Af zr2
 ·refine zq2 ?_
  obtain ⟨x2, hx2, hm⟩ := bS hm;obtain ⟨⟨x3, x4⟩, hx3, hm⟩ := bS hm;refine zdr 8 ?_;refine zcd (Sl (k := 6)) ?_;refine zq2 ?_;refine Az Uj Uj Uj (Ac (xs := [_, _]) (f := ATy.d) (l := [_, _]) runUnderlying53 sizeOf24 zeroValue24 Uj Uj Uj (fun _ => ⟨rfl, rfl, rfl⟩) rfl) ?_;refine Az Uj Uj Uj (A2 call82 Uj (JU (fun _ _ h => Ed call114 (Ia h)) hx2)) ?_;refine zcd (Hh hx3) ?_;refine zq3 ?_;refine zst 0 ?_;refine Ag (ms' := [box b1 24 [_, _]]) rfl ?_;refine zq2 ?_
  cases hm; exact Af zr2
noncomputable def Ex  : Option Bool :=
 (Dh 3).bind fun x1 =>
 (Fl (⟨[(⟨11, 0, 0, ([] : List AFd)⟩ : ANd), (⟨6, 0, 0, ([] : List AFd)⟩ : ANd)], 1⟩ : ATy) [x1]).bind fun (x2, x3) =>
 (Dh 3).bind fun x4 =>
 (Dh 3).bind fun x5 =>
 (CK x4 x5).bind fun (x6, x7) =>
 (DB (⟨x2.l, x2.root⟩ : ATy) (⟨x6.l, x6.root⟩ : ATy)).bind fun (x8, x9) =>
 (bif ((((decide (x3 = 0)) && (decide (x7 = 0))) && (decide (x9 = 0))) && x8) then ((C7 (⟨x2.l, x2.root⟩ : ATy)).bind fun x10 =>
 some x10) else (some false)).bind fun p1 =>
 some p1
theorem I7  {r_1 : Bool} (hm : Ex = some r_1) : Fn0 Tryz.prog 42 [] (.bool r_1) := by
 unfold Ex at hm;refine Ae func42 Uj ntmps42 Uj fun H0 fr w0 => ?_;refine zq6 ?_;refine Ah Uj Uj Uj (Aw (zs := [.v (.int .i64 0), .v (.int .i64 0), .v (.int .i64 0), .list 2 AFd.d []]) runUnderlying44 zeroValue44 (KB _ runUnderlying44) rfl Uj Uj Uj) ?_;refine Ah Uj Uj Uj (Aw (zs := [.v (.int .i64 0), .v (.int .i64 0), .v (.int .i64 0), .list 2 AFd.d []]) runUnderlying44 zeroValue44 (KB _ runUnderlying44) rfl Uj Uj Uj) ?_;refine Ah Uj Uj Uj (Ac (xs := [_, _]) (f := ANd.d) (l := [(⟨11, 0, 0, ([] : List AFd)⟩ : ANd), (⟨6, 0, 0, ([] : List AFd)⟩ : ANd)]) runUnderlying22 sizeOf44 zeroValue44 Uj Uj Uj (fun _ => ⟨rfl, rfl, rfl⟩) rfl) ?_;refine Ah Uj Uj Uj (Aw (zs := [.list 4 ANd.d [], .v (.int .i64 0)]) runUnderlying24 zeroValue24 (Gl _ runUnderlying24) rfl Uj Uj Uj) ?_;refine Be fun b1 => ?_;refine zst 0 ?_;refine Ag (ms' := [box b1 24 [_, _]]) rfl ?_;refine zq2 ?_;obtain ⟨x1, hx1, hm⟩ := bS hm;obtain ⟨⟨x2, x3⟩, hx2, hm⟩ := bS hm;refine Du [7, 8] [0, 1, 2, 3, 4, 5, 6, 9] [0] AC (by decide +kernel) (by decide +kernel) rfl ?_;refine MS Uj Uj Uj Uj Uj (oLg 0 isAgg24 sizeOf24 Uj Uj Uj Uj (nB Uj)) ?_;refine Ar Uj Uj Uj Uj Uj Uj (A2 call60 Uj (FF hx1)) ?_;refine Ar Uj Uj Uj Uj Uj Uj (Ac (xs := [_]) (f := ATy.d) (l := [_]) runUnderlying53 sizeOf24 zeroValue24 Uj Uj Uj (fun _ => ⟨rfl, rfl, rfl⟩) rfl) ?_;refine Ar Uj Uj Uj Uj Uj Uj (A2 call40 Uj (N6 hx2)) ?_;refine Ar Uj Uj Uj Uj Uj Uj (oMv Uj) ?_;refine Ar Uj Uj Uj Uj Uj Uj (Ci Uj Uj) ?_;refine Ar Uj Uj Uj Uj Uj Uj (Ci Uj Uj) ?_;refine Ds Uj ?_;refine Ds Uj ?_;refine Ar Uj Uj Uj Uj Uj Uj (oAs Uj) ?_;refine Es ?_;refine F6 Uj Uj Uj Uj (Ay zeroValue24 (cs := [.list 4 ANd.d [], .i64 0]) rfl) ?_;rintro _ _ ⟨b2, rfl, rfl⟩;refine ⟨⟨trivial, oLg 1 isAgg24 sizeOf24 Uj Uj Uj Uj (nB Uj)⟩, ?_⟩;refine Cn Uj Uj Uj (oSb 0 sizeOf24 Uj Uj Uj Uj Uj Uj Uj Uj (nB Uj)) ?_;rintro _ _ rfl;refine ⟨⟨trivial, oLg 1 isAgg24 sizeOf24 Uj Uj Uj Uj (nB Uj)⟩, ?_⟩;refine BH ?_;refine zq2 ?_;obtain ⟨x4, hx3, hm⟩ := bS hm;refine zc0 (FF hx3) ?_;obtain ⟨x5, hx4, hm⟩ := bS hm;refine zc0 (FF hx4) ?_;obtain ⟨⟨x6, x7⟩, hx5, hm⟩ := bS hm;refine zc0 (IR hx5) ?_;refine zq3 ?_;refine Be fun b3 => ?_;refine zst 0 ?_;refine Ag (ms' := [box b3 24 [_, _], box b2 24 [_, _], box b1 24 [_, _]]) rfl ?_;refine zq6 ?_;obtain ⟨⟨x8, x9⟩, hx6, hm⟩ := bS hm;refine zc0 (Ms hx6) ?_
 refine zq11 ?_
 apply Bw [(2, _), (6, _), (7, _)] 3 36 (t := 33) ⟨rfl, rfl, rfl, trivial⟩ rfl
 ·intro hg_1 hk1
  refine zq3 ?_;exact zgm hk1
 ·intro hg_1 hk1
  refine zq3 ?_;exact zgm hk1
 refine zq1 ?_
 apply Bw [(2, _), (6, _)] 3 40 (t := 37) ⟨rfl, rfl, trivial⟩ rfl
 ·intro hg_2 hk2
  refine zq3 ?_;exact zgm hk2
 ·intro hg_2 hk2
  refine zq3 ?_;exact zgm hk2
 refine zq1 ?_
 apply Bw [(2, _)] 2 43 (t := 41) ⟨rfl, trivial⟩ rfl
 ·intro hg_3 hk3
  refine zq2 ?_;exact zgm hk3
 ·intro hg_3 hk3
  refine zq2 ?_;exact zgm hk3
 refine zq1 ?_;obtain ⟨p1, hp_4, hm⟩ := bS hm;refine AP [] 3 47 p1 (t := 44) trivial Uj (fun hg_4 hk4 => ?_) (fun hg_4 hk4 => ?_) ?_
 ·replace hp_4 := AR hg_4 hp_4
  refine zq1 ?_;obtain ⟨x10, hx7, hp_4⟩ := bS hp_4;refine zcw (LY hx7) ?_;refine zq1 ?_;exact zgb hk4 hp_4
 ·replace hp_4 := AQ hg_4 hp_4
  refine zq3 ?_;exact zgb hk4 hp_4
 refine zq2 ?_
 cases hm; exact Af zr1
def AFd.eqv (x y : AFd) : Bool := ((x.name == y.name) && ((x.at_ == y.at_) && true))
theorem TQ : ∀ fs : Array Field, Tryz.prog.underlying 98 = some (.struct fs) -> F9 Tryz.prog fs.toList 0 [.str, .int] := by
 intro fs h
 have := h.symm.trans underlying98
 simp only [Option.some.injEq, TypeDesc.struct.injEq] at this;subst this;exact ⟨by decide, rfl, isAgg9, underlying9, ⟨by decide, rfl, isAgg3, ⟨_, underlying3⟩, trivial⟩⟩
noncomputable def BP (x1 : ANd) (x2 : ANd) : Nat -> Int -> Option (Out Bool Unit)
 | 0, _ => none
 | n + 1, k1 =>
  bif (decide (k1 < (x1.l.length : Int))) then
   (idx x1.l k1).bind fun x3 =>
   (idx x2.l k1).bind fun x4 =>
   bif (!(AFd.eqv x3 x4)) then
    some (Out.ret false)
   else
    grd (InR (k1 + 1)) <|
    BP x1 x2 n (k1 + 1)
  else
   some (Out.go (()))
noncomputable def Cf (a1 : ATy) (bv1 : ATy) : Nat -> Int -> Option (Out Bool Unit)
 | 0, _ => none
 | n + 1, i1 =>
  bif (decide (i1 < (a1.l.length : Int))) then
   (idx a1.l i1).bind fun x1 =>
   (idx bv1.l i1).bind fun x2 =>
   bif ((((!decide (x1.kind = x2.kind)) || (!decide (x1.a = x2.a))) || (!decide (x1.b = x2.b))) || (!decide ((x1.l.length : Int) = (x2.l.length : Int)))) then
    some (Out.ret false)
   else
    ((BP x1 x2 FU 0 : Option (Out Bool Unit))).bind (fun oo => oo.on (fun r1 => some (Out.ret r1)) (fun _ =>
    grd (InR (i1 + 1)) <|
    Cf a1 bv1 n (i1 + 1)))
  else
   some (Out.go (()))
noncomputable def Ei (a1 : ATy) (bv1 : ATy) : Option Bool :=
 bif ((!decide ((a1.l.length : Int) = (bv1.l.length : Int))) || (!decide (a1.root = bv1.root))) then
  some false
 else
  ((Cf a1 bv1 FU 0 : Option (Out Bool Unit))).bind (fun oo => oo.on (fun r2 => some r2) (fun _ =>
  some true))
theorem GA {a1 : ATy} {bv1 : ATy} {r_1 : Bool} (hm : Ei a1 bv1 = some r_1) : Fn0 Tryz.prog 79 [ATy.d a1, ATy.d bv1] (.bool r_1) := by
 unfold Ei at hm;refine Ae func79 Uj ntmps79 Uj fun H0 fr w0 => ?_;refine zq17 ?_
 apply BC [(2, _), (3, _)] 6 22 (t := 16) ⟨rfl, rfl, trivial⟩ rfl
 ·intro hg_1 hk1
  refine zq6 ?_;exact zgm hk1
 ·intro hg_1 hk1
  refine zq6 ?_;exact zgm hk1
 refine gNl ?_;refine zcn hm (fun hc1 hm => ?_) (fun hc1 hm => ?_)
 ·refine zq4 ?_
  cases hm; exact Af zr1
 ·refine zq6 ?_
  obtain ⟨o_1, hj1, hm1⟩ := bS hm;refine Ak [] [] (fun (st : Unit) (hid : Unit) => match st, hid with | _, _ => []) (fun F (st : Unit) (hid : Unit) => match st, hid with | _, _ => []) (fun st => Out.go (st) = o_1) trivial trivial ?_ ?_
  ·refine Aj ?_
   refine Ai [(2, _), (3, _)] [] (fun (st : Int) (hid : Unit) => match st, hid with | i1, _ => [(5, .i64 i1)]) (fun F (st : Int) (hid : Unit) => match st, hid with | i1, _ => []) () hj1 (fun _ => rfl) ⟨rfl, rfl, trivial⟩ trivial ⟨rfl, trivial⟩ rfl ?_;rintro n i1 _ hj1;rw [Cf] at hj1;refine Av (L' := [(5, .i64 i1), (2, _), (3, _)]) (ms' := []) rfl Uj ?_;refine zq9 ?_;refine zcn hj1 (fun hc2 hj1 => ?_) (fun hc2 hj1 => ?_)
   ·refine zq4 ?_
    obtain ⟨x1, hx1, hj1⟩ := bS hj1;obtain ⟨x2, hx2, hj1⟩ := bS hj1;refine Gd [] [12, 13] [5, 6, 7, 8, 9] [10, 11] [] AC (by decide +kernel) (by decide +kernel) rfl ?_;refine Bd Uj Uj Uj Uj Uj Uj (oFa DH Uj Uj Uj) ?_;refine Bd Uj Uj Uj Uj Uj Uj (Bm isAgg22 Uj Uj) ?_;refine Bd Uj Uj Uj Uj Uj Uj (oMv Uj) ?_;refine Bd Uj Uj Uj Uj Uj Uj (oIm runUnderlying22 sizeOf44 Uj Uj hx1) ?_;refine Bd Uj Uj Uj Uj Uj Uj (Bq isAgg44 sizeOf44 Uj Uj) ?_;refine Bd Uj Uj Uj Uj Uj Uj (oFa DH Uj Uj Uj) ?_;refine Bd Uj Uj Uj Uj Uj Uj (Bm isAgg22 Uj Uj) ?_;refine Bd Uj Uj Uj Uj Uj Uj (oMv Uj) ?_;refine Bd Uj Uj Uj Uj Uj Uj (oIm runUnderlying22 sizeOf44 Uj Uj hx2) ?_;refine Bd Uj Uj Uj Uj Uj Uj (Bq isAgg44 sizeOf44 Uj Uj) ?_;refine DZ (R0 := fun d A => ∃ b, d = .v (.pointer (some ⟨b, 0, none⟩)) /\ A = box b 44 [.i64 0, .i64 0, .i64 0, .list 2 AFd.d []]) rfl Uj Uj Uj (OpT.mono (Ay zeroValue44 (cs := [.i64 0, .i64 0, .i64 0, .list 2 AFd.d []]) rfl) (by rintro d ms' ⟨b, rfl, rfl⟩; exact ⟨_, ⟨b, rfl, rfl⟩, rfl⟩)) ?_;refine DZ (R0 := fun d A => ∃ b, d = .v (.pointer (some ⟨b, 0, none⟩)) /\ A = box b 44 [.i64 0, .i64 0, .i64 0, .list 2 AFd.d []]) rfl Uj Uj Uj (OpT.mono (Ay zeroValue44 (cs := [.i64 0, .i64 0, .i64 0, .list 2 AFd.d []]) rfl) (by rintro d ms' ⟨b, rfl, rfl⟩; exact ⟨_, ⟨b, rfl, rfl⟩, rfl⟩)) ?_;refine Eh Uj ?_;refine Eh Uj ?_;refine Hf ?_;refine I8 [(10, 6), (11, 7)] rfl ?_;rintro _ _ ⟨b1, rfl, rfl⟩;rintro _ _ ⟨b2, rfl, rfl⟩
    show _ /\ _
    refine ⟨(trivial : True), ?_⟩;refine Cn Uj Uj Uj (oSb 0 sizeOf44 Uj Uj Uj Uj Uj Uj Uj Uj (nB Uj)) ?_;rintro _ _ rfl;refine ⟨(trivial : True), ?_⟩;refine Cn Uj Uj Uj (oSb 1 sizeOf44 Uj Uj Uj Uj Uj Uj Uj Uj (nB Uj)) ?_;rintro _ _ rfl;refine ⟨(trivial : True), ?_⟩;refine BH ?_;refine zq9 ?_
    apply BC [(2, _), (3, _), (5, _), (6, _), (7, _)] 6 51 (t := 45) ⟨rfl, rfl, rfl, rfl, rfl, trivial⟩ rfl
    ·intro hg_2 hk2
     refine zq6 ?_;exact zgm hk2
    ·intro hg_2 hk2
     refine zq6 ?_;exact zgm hk2
    refine zq1 ?_
    apply BC [(2, _), (3, _), (5, _), (6, _), (7, _)] 6 58 (t := 52) ⟨rfl, rfl, rfl, rfl, rfl, trivial⟩ rfl
    ·intro hg_3 hk3
     refine zq6 ?_;exact zgm hk3
    ·intro hg_3 hk3
     refine zq6 ?_;exact zgm hk3
    refine zq1 ?_
    apply BC [(2, _), (3, _), (5, _), (6, _), (7, _)] 8 67 (t := 59) ⟨rfl, rfl, rfl, rfl, rfl, trivial⟩ rfl
    ·intro hg_4 hk4
     refine zq8 ?_;exact zgm hk4
    ·intro hg_4 hk4
     refine zq8 ?_;exact zgm hk4
    refine gNl ?_;refine zcn hj1 (fun hc3 hj1 => ?_) (fun hc3 hj1 => ?_)
    ·refine zq4 ?_
     refine Af ?_;obtain rfl := Ad hj1
     replace hm1 := BT hm1
     cases hm1; exact zr1
    ·refine zq5 ?_
     obtain ⟨o_2, hj2, hm2⟩ := bS hj1;refine Ak [(2, _), (3, _), (5, _)] [(0, _), (1, _)] (fun (st : Unit) (hid : Unit) => match st, hid with | _, _ => []) (fun F (st : Unit) (hid : Unit) => match st, hid with | _, _ => [(nthF F 0), (nthF F 1)]) (fun st => Out.go (st) = o_2) ⟨rfl, rfl, rfl, trivial⟩ ⟨rfl, rfl, trivial⟩ ?_ ?_
     ·refine Aj ?_
      refine Ai [(2, _), (3, _), (5, _), (6, _), (7, _)] [(0, _), (1, _)] (fun (st : Int) (hid : Unit) => match st, hid with | k1, _ => [(8, .i64 k1)]) (fun F (st : Int) (hid : Unit) => match st, hid with | k1, _ => [(nthF F 0), (nthF F 1)]) () hj2 (fun _ => rfl) ⟨rfl, rfl, rfl, rfl, rfl, trivial⟩ ⟨rfl, rfl, trivial⟩ ⟨rfl, trivial⟩ rfl ?_;rintro n k1 _ hj2;rw [BP] at hj2;refine Av (L' := [(8, .i64 k1), (2, _), (3, _), (5, _), (6, _), (7, _)]) (ms' := [_, _]) rfl Uj ?_;refine zq9 ?_;refine zcn hj2 (fun hc4 hj2 => ?_) (fun hc4 hj2 => ?_)
      ·refine zq4 ?_
       obtain ⟨x3, hx3, hj2⟩ := bS hj2;obtain ⟨x4, hx4, hj2⟩ := bS hj2;refine zdr 11 ?_;refine zq10 ?_;refine Az Uj Uj Uj (Ro (ks := [.str, .int]) underlying98 (by kernel_rfl) (by kernel_rfl) (TQ _ underlying98) rfl Uj Uj) ?_;refine zq2 ?_;refine zcn hj2 (fun hc5 hj2 => ?_) (fun hc5 hj2 => ?_)
       ·refine zq4 ?_
        refine Af ?_;obtain rfl := Ad hj2
        replace hm2 := BT hm2
        obtain rfl := Ad hm2
        replace hm1 := BT hm1
        cases hm1; exact zr1
       ·refine zq3 ?_
        obtain ⟨hg5, hj2⟩ := Aa hj2;refine zq3 ?_;exact ⟨_, (), hj2, ⟨rfl, trivial⟩, ⟨rfl, rfl, rfl, rfl, rfl, trivial⟩, [], rfl⟩
      ·refine Ap ?_
       exact ⟨_, (), Ad hj2, trivial, ⟨rfl, rfl, rfl, trivial⟩, [], rfl⟩
     ·rintro _ _ hst
      subst hst
      replace hm2 := Dq hm2
      refine Aq (L' := [(2, _), (3, _), (5, _)]) (ms' := [_, _]) rfl Uj ?_;refine zq2 ?_;obtain ⟨hg6, hm2⟩ := Aa hm2;refine zq3 ?_;exact ⟨_, (), hm2, ⟨rfl, trivial⟩, ⟨rfl, rfl, trivial⟩, [_, _], rfl⟩
   ·refine Ap ?_
    exact ⟨_, (), Ad hj1, trivial, trivial, [], rfl⟩
  ·rintro _ _ hst
   subst hst
   replace hm1 := Dq hm1
   refine Aq (L' := []) (ms' := []) rfl Uj ?_;refine zq4 ?_
   cases hm1; exact Af zr1
noncomputable def Da (l1 : (List Int)) (n1 : Int) : Nat -> Int -> Option (Out Bool Unit)
 | 0, _ => none
 | n + 1, i1 =>
  bif (decide (i1 < (l1.length : Int))) then
   (idx l1 i1).bind fun x1 =>
   bif (decide (x1 = n1)) then
    some (Out.ret true)
   else
    grd (InR (i1 + 1)) <|
    Da l1 n1 n (i1 + 1)
  else
   some (Out.go (()))
noncomputable def Fj (l1 : (List Int)) (n1 : Int) : Option Bool :=
 ((Da l1 n1 FU 0 : Option (Out Bool Unit))).bind (fun oo => oo.on (fun r1 => some r1) (fun _ =>
 some false))
theorem O9 {l1 : (List Int)} {n1 : Int} {r_1 : Bool} (hm : Fj l1 n1 = some r_1) : Fn0 Tryz.prog 141 [.list 1 D.i64 l1, .i64 n1] (.bool r_1) := by
 unfold Fj at hm;refine Ae func141 Uj ntmps141 Uj fun H0 fr w0 => ?_;refine zq9 ?_;obtain ⟨o_1, hj1, hm1⟩ := bS hm;refine Ak [] [] (fun (st : Unit) (hid : Unit) => match st, hid with | _, _ => []) (fun F (st : Unit) (hid : Unit) => match st, hid with | _, _ => []) (fun st => Out.go (st) = o_1) trivial trivial ?_ ?_
 ·refine Aj ?_
  refine Ai [(0, _), (1, _)] [] (fun (st : Int) (hid : Unit) => match st, hid with | i1, _ => [(5, .i64 i1)]) (fun F (st : Int) (hid : Unit) => match st, hid with | i1, _ => []) () hj1 (fun _ => rfl) ⟨rfl, rfl, trivial⟩ trivial ⟨rfl, trivial⟩ rfl ?_;rintro n i1 _ hj1;rw [Da] at hj1;refine Av (L' := [(5, .i64 i1), (0, _), (1, _)]) (ms' := []) rfl Uj ?_;refine zq8 ?_;refine zcn hj1 (fun hc1 hj1 => ?_) (fun hc1 hj1 => ?_)
  ·refine zq7 ?_
   obtain ⟨x1, hx1, hj1⟩ := bS hj1;refine zq5 ?_;refine zcn hj1 (fun hc2 hj1 => ?_) (fun hc2 hj1 => ?_)
   ·refine zq4 ?_
    refine Af ?_;obtain rfl := Ad hj1
    replace hm1 := BT hm1
    cases hm1; exact zr1
   ·refine zq3 ?_
    obtain ⟨hg2, hj1⟩ := Aa hj1;refine zq3 ?_;exact ⟨_, (), hj1, ⟨rfl, trivial⟩, ⟨rfl, rfl, trivial⟩, [], rfl⟩
  ·refine Ap ?_
   exact ⟨_, (), Ad hj1, trivial, trivial, [], rfl⟩
 ·rintro _ _ hst
  subst hst
  replace hm1 := Dq hm1
  refine Aq (L' := []) (ms' := []) rfl Uj ?_;refine zq4 ?_
  cases hm1; exact Af zr1
noncomputable def Dx (x4 : (List Int)) : Nat -> (Int × (List Int)) -> Option (List Int)
 | 0, _ => none
 | n + 1, (j1, l7) =>
  bif (decide (0 <= j1)) then
   (idx x4 j1).bind fun x5 =>
   grd ((l7.length + ([x5] : List _).length) * 8 <= 140737488355328) <|
   grd (InR (j1 - 1)) <|
   Dx x4 n ((j1 - 1), (l7 ++ [x5]))
  else
   some l7
noncomputable def Cc (t1 : ATy) : Nat -> ((List Int) × (List Int)) -> Option ((List Int) × (List Int))
 | 0, _ => none
 | n + 1, (l3, l4) =>
  bif (decide (0 < (l3.length : Int))) then
   grd (InR ((l3.length : Int) - 1)) <|
   (idx l3 ((l3.length : Int) - 1)).bind fun x1 =>
   grd (InR ((l3.length : Int) - 1)) <|
   (sli l3 0 ((l3.length : Int) - 1)).bind fun l5 =>
   (Fj l4 x1).bind fun x2 =>
   bif x2 then
    Cc t1 n (l5, l4)
   else
    grd ((l4.length + ([x1] : List _).length) * 8 <= 140737488355328) <|
    (idx t1.l x1).bind fun x3 =>
    (E5 x3).bind fun x4 =>
    grd (InR ((x4.length : Int) - 1)) <|
    (Dx x4 FU (((x4.length : Int) - 1), l5) : Option (List Int)).bind fun l6 =>
    Cc t1 n (l6, (l4 ++ [x1]))
  else
   some (l3, l4)
noncomputable def Gb (t1 : ATy) (root1 : Int) : Option (List Int) :=
 (Cc t1 FU ([root1], []) : Option ((List Int) × (List Int))).bind fun (l1, l2) =>
 some l2
theorem PB {t1 : ATy} {root1 : Int} {r_1 : (List Int)} (hm : Gb t1 root1 = some r_1) : Fn0 Tryz.prog 112 [ATy.d t1, .i64 root1] (.list 1 D.i64 r_1) := by
 unfold Gb at hm;refine Ae func112 Uj ntmps112 Uj fun H0 fr w0 => ?_;refine zq4 ?_;refine Am (nilE (i := 4) (sz := 1) (f := D.i64) rfl).refines ?_;refine zq3 ?_;refine An Uj Uj Uj (Ax (xs := []) (f := D.i64) (l := []) runUnderlying25 sizeOf3 zeroValue3 Uj Uj Uj (fun _ => ⟨rfl, rfl, rfl⟩) rfl (by simp [maxLen])) ?_;rintro _ _ ⟨a_r1, rfl, rfl⟩;refine zq1 ?_;refine An Uj Uj Uj (Fc (xs := [_]) (f := D.i64) (l := [_]) runUnderlying25 sizeOf3 zeroValue3 Uj Uj Uj (fun _ => ⟨rfl, rfl, rfl⟩) rfl (by simp [maxLen])) ?_;rintro _ _ ⟨a_r2, m_r2, cap_r2, rfl, rfl⟩;refine zq4 ?_;obtain ⟨o_1, hj1, hm1⟩ := bS hm;refine Ak [] [] (fun (st : ((List Int) × (List Int))) (hid : (Option Addr × Nat × Nat) × (Option Addr × Nat)) => match st, hid with | (l1, l2), ((a_r2, m_r2, cap_r2), (a_r1, cap_r1)) => [(5, .v (.slice a_r1 l2.length cap_r1))]) (fun F (st : ((List Int) × (List Int))) (hid : (Option Addr × Nat × Nat) × (Option Addr × Nat)) => match st, hid with | (l1, l2), ((a_r2, m_r2, cap_r2), (a_r1, cap_r1)) => [arr a_r2 m_r2 cap_r2 3 1 D.i64 l1, row a_r1 cap_r1 3 1 D.i64 l2]) (fun st => st = o_1) trivial trivial ?_ ?_
 ·refine Aj ?_
  refine Ai [(2, _)] [] (fun (st : ((List Int) × (List Int))) (hid : (Option Addr × Nat × Nat) × (Option Addr × Nat)) => match st, hid with | (l3, l4), ((a_r2, m_r2, cap_r2), (a_r1, cap_r1)) => [(5, .v (.slice a_r1 l4.length cap_r1)), (6, .v (.slice a_r2 m_r2 cap_r2))]) (fun F (st : ((List Int) × (List Int))) (hid : (Option Addr × Nat × Nat) × (Option Addr × Nat)) => match st, hid with | (l3, l4), ((a_r2, m_r2, cap_r2), (a_r1, cap_r1)) => [arr a_r2 m_r2 cap_r2 3 1 D.i64 l3, row a_r1 cap_r1 3 1 D.i64 l4]) ((_, _, _), (_, _)) hj1 (fun _ => rfl) ⟨rfl, trivial⟩ trivial ⟨rfl, rfl, trivial⟩ rfl ?_;rintro n ⟨l3, l4⟩ ⟨⟨a_r2, m_r2, cap_r2⟩, ⟨a_r1, cap_r1⟩⟩ hj1;rw [Cc] at hj1;refine Av (L' := [(5, .v (.slice a_r1 l4.length cap_r1)), (6, .v (.slice a_r2 m_r2 cap_r2)), (2, _)]) (ms' := [arr a_r2 m_r2 cap_r2 3 1 D.i64 l3, row a_r1 cap_r1 3 1 D.i64 l4]) rfl Uj ?_;refine zq4 ?_;refine Ah Uj Uj Uj (BR 0 runUnderlying25 Uj Uj) ?_;refine zq2 ?_;refine zcn hj1 (fun hc1 hj1 => ?_) (fun hc1 hj1 => ?_)
  ·refine zq6 ?_
   refine Ah Uj Uj Uj (BR 0 runUnderlying25 Uj Uj) ?_;obtain ⟨hg1, hj1⟩ := Aa hj1;refine zq1 ?_;obtain ⟨x1, hx2, hj1⟩ := bS hj1;refine Ah Uj Uj Uj (At 0 runUnderlying25 sizeOf3 Uj Uj Uj hx2) ?_;refine Ah Uj Uj Uj (AW (off := 0) 0 isAgg3 Uj Uj (Ao hx2).2 rfl Uj Uj) ?_;refine zq6 ?_;refine Ah Uj Uj Uj (BR 0 runUnderlying25 Uj Uj) ?_;obtain ⟨hg3, hj1⟩ := Aa hj1;refine zq1 ?_;obtain ⟨l5, hx4, hj1⟩ := bS hj1;refine An Uj Uj Uj (GC 0 runUnderlying25 sizeOf3 Uj Uj Uj hx4) ?_;rintro _ _ ⟨a_r2, m_r2, cap_r2, rfl, rfl⟩;refine zq7 ?_;obtain ⟨x2, hx5, hj1⟩ := bS hj1;refine Ah Uj Uj Uj (.view (peekE (i := 27) 1 rfl Uj Uj) (A2 call141 Uj (O9 hx5))) ?_;refine gNl ?_;refine zcn hj1 (fun hc2 hj1 => ?_) (fun hc2 hj1 => ?_)
   ·refine Ap ?_
    exact ⟨_, ((_, _, _), (_, _)), hj1, ⟨rfl, rfl, trivial⟩, ⟨rfl, trivial⟩, [], rfl⟩
   ·refine zq5 ?_
    refine Ah Uj Uj Uj (Ac (xs := [_]) (f := D.i64) (l := [_]) runUnderlying25 sizeOf3 zeroValue3 Uj Uj Uj (fun _ => ⟨rfl, rfl, rfl⟩) rfl) ?_;obtain ⟨hg6, hj1⟩ := Aa hj1;refine An Uj Uj Uj (AB (a := _) 1 underlying25 type3 Uj Uj Uj Uj Uj Uj Uj (fun _ => rfl) (fun _ => rfl) hg6 (AA hg6 Uj)) ?_;rintro _ _ ⟨a_r1, cap_r1, rfl, rfl⟩;refine Ag (ms' := [_, _]) rfl ?_;refine zq7 ?_;obtain ⟨x3, hx7, hj1⟩ := bS hj1;refine zq2 ?_;obtain ⟨x4, hx8, hj1⟩ := bS hj1;refine zc0 (J9 hx8) ?_;refine zq6 ?_;obtain ⟨hg9, hj1⟩ := Aa hj1;refine zq3 ?_;obtain ⟨o_2, hj2, hm2⟩ := bS hj1;refine Ak [(2, _), (5, _)] [(1, _)] (fun (st : (List Int)) (hid : (Option Addr × Nat × Nat)) => match st, hid with | l6, (a_r2, m_r2, cap_r2) => [(6, .v (.slice a_r2 m_r2 cap_r2))]) (fun F (st : (List Int)) (hid : (Option Addr × Nat × Nat)) => match st, hid with | l6, (a_r2, m_r2, cap_r2) => [arr a_r2 m_r2 cap_r2 3 1 D.i64 l6, (nthF F 0)]) (fun st => st = o_2) ⟨rfl, rfl, trivial⟩ ⟨rfl, trivial⟩ ?_ ?_
    ·refine Aj ?_
     refine Ai [(2, _), (5, _), (8, _)] [(1, _)] (fun (st : (Int × (List Int))) (hid : (Option Addr × Nat × Nat)) => match st, hid with | (j1, l7), (a_r2, m_r2, cap_r2) => [(6, .v (.slice a_r2 m_r2 cap_r2)), (9, .i64 j1)]) (fun F (st : (Int × (List Int))) (hid : (Option Addr × Nat × Nat)) => match st, hid with | (j1, l7), (a_r2, m_r2, cap_r2) => [arr a_r2 m_r2 cap_r2 3 1 D.i64 l7, (nthF F 0)]) (_, _, _) hj2 (fun _ => rfl) ⟨rfl, rfl, rfl, trivial⟩ ⟨rfl, trivial⟩ ⟨rfl, rfl, trivial⟩ rfl ?_;rintro n ⟨j1, l7⟩ ⟨a_r2, m_r2, cap_r2⟩ hj2;rw [Dx] at hj2;refine Av (L' := [(6, .v (.slice a_r2 m_r2 cap_r2)), (9, .i64 j1), (2, _), (5, _), (8, _)]) (ms' := [arr a_r2 m_r2 cap_r2 3 1 D.i64 l7, _]) rfl Uj ?_;refine zq6 ?_;refine zcn hj2 (fun hc3 hj2 => ?_) (fun hc3 hj2 => ?_)
     ·refine zq7 ?_
      obtain ⟨x5, hx10, hj2⟩ := bS hj2;refine zq2 ?_;refine Ah Uj Uj Uj (Ac (xs := [_]) (f := D.i64) (l := [_]) runUnderlying25 sizeOf3 zeroValue3 Uj Uj Uj (fun _ => ⟨rfl, rfl, rfl⟩) rfl) ?_;obtain ⟨hg11, hj2⟩ := Aa hj2;refine An Uj Uj Uj (Ca (a := _) 0 underlying25 type3 Uj Uj Uj Uj Uj Uj (fun _ => rfl) (fun _ => rfl) hg11 (AA hg11 Uj)) ?_;rintro _ _ ⟨a_r2, m_r2, cap_r2, rfl, rfl⟩;refine Ag (ms' := [_, _]) rfl ?_;refine zq4 ?_;obtain ⟨hg12, hj2⟩ := Aa hj2;refine zq3 ?_;exact ⟨_, (_, _, _), hj2, ⟨rfl, rfl, trivial⟩, ⟨rfl, rfl, rfl, trivial⟩, [], rfl⟩
     ·refine Ap ?_
      exact ⟨_, (_, _, _), Ad hj2, ⟨rfl, trivial⟩, ⟨rfl, rfl, trivial⟩, [], rfl⟩
    ·rintro l6 ⟨a_r2, m_r2, cap_r2⟩ hst
     subst hst;refine Aq (L' := [(6, .v (.slice a_r2 m_r2 cap_r2)), (2, _), (5, _)]) (ms' := [arr a_r2 m_r2 cap_r2 3 1 D.i64 l6, _]) rfl Uj ?_;exact ⟨_, ((_, _, _), (_, _)), hm2, ⟨rfl, rfl, trivial⟩, ⟨rfl, trivial⟩, [], rfl⟩
  ·refine Ap ?_
   exact ⟨_, ((_, _, _), (_, _)), Ad hj1, ⟨rfl, trivial⟩, trivial, [], rfl⟩
 ·rintro ⟨l1, l2⟩ ⟨⟨a_r2, m_r2, cap_r2⟩, ⟨a_r1, cap_r1⟩⟩ hst
  subst hst;refine Aq (L' := [(5, .v (.slice a_r1 l2.length cap_r1))]) (ms' := [arr a_r2 m_r2 cap_r2 3 1 D.i64 l1, row a_r1 cap_r1 3 1 D.i64 l2]) rfl Uj ?_;refine zq5 ?_;refine BL (peekE (i := 4) 1 rfl Uj Uj).refines ?_
  cases hm1; exact Af zr1
noncomputable def Dg (n1 : ANd) (kids1 : (List Int)) : Nat -> (Int × (List AFd) × Int × Int × Int) -> Option ((List AFd) × Int × Int × Int)
 | 0, _ => none
 | n + 1, (i1, l4, z10, z11, z12) =>
  bif (decide (i1 < (n1.l.length : Int))) then
   (idx n1.l i1).bind fun x3 =>
   (idx kids1 i1).bind fun x4 =>
   grd ((l4.length + ([(⟨x3.name, x4⟩ : AFd)] : List _).length) * 24 <= 140737488355328) <|
   grd (InR (i1 + 1)) <|
   Dg n1 kids1 n ((i1 + 1), (l4 ++ [(⟨x3.name, x4⟩ : AFd)]), z10, z11, z12)
  else
   some (l4, z10, z11, z12)
noncomputable def G0 (n1 : ANd) (kids1 : (List Int)) : Option ANd :=
 (bif (decide (n1.kind = 11)) then
  some (([] : List AFd), n1.kind, n1.a, 0)
 else
  some (([] : List AFd), n1.kind, 0, 0) : Option ((List AFd) × Int × Int × Int)).bind fun (l1, z1, z2, z3) =>
 (bif (((decide (n1.kind = 6)) || (decide (n1.kind = 9))) || (decide (n1.kind = 10))) then
  (idx kids1 0).bind fun x1 =>
  (idx kids1 1).bind fun x2 =>
  some (l1, z1, x1, x2)
 else
  some (l1, z1, z2, z3) : Option ((List AFd) × Int × Int × Int)).bind fun (l2, z4, z5, z6) =>
 (Dg n1 kids1 FU (0, l2, z4, z5, z6) : Option ((List AFd) × Int × Int × Int)).bind fun (l3, z7, z8, z9) =>
 some (⟨z7, z8, z9, l3⟩ : ANd)
theorem Q2 {n1 : ANd} {kids1 : (List Int)} {r_1 : ANd} (hm : G0 n1 kids1 = some r_1) : Fn0 Tryz.prog 113 [ANd.d n1, .list 1 D.i64 kids1] (ANd.d r_1) := by
 unfold G0 at hm;refine Ae func113 Uj ntmps113 Uj fun H0 fr w0 => ?_;refine zq3 ?_;refine DL fun b1 => ?_;refine zq5 ?_;refine Ah Uj Uj Uj (Aw (zs := [.v (.int .i64 0), .v (.int .i64 0), .v (.int .i64 0), .v (.slice none 0 0)]) runUnderlying44 zeroValue44 (KB _ runUnderlying44) rfl Uj Uj Uj) ?_;refine DL fun b2 => ?_;refine zst 0 ?_;refine Am (AF (T := 98) (sz := 2) (f := AFd.d)) ?_;refine Ag (ms' := [_, box b2 44 [_, _, _, _], box b1 44 [_, _, _, _]]) rfl ?_;refine zq8 ?_;obtain ⟨o_1, hj1, hm1⟩ := bS hm;refine Ak [(1, _), (2, _), (4, _), (5, _)] [(2, _)] (fun (st : ((List AFd) × Int × Int × Int)) (hid : (Option Addr × Nat)) => match st, hid with | (l1, z1, z2, z3), (a_r1, cap_r1) => []) (fun F (st : ((List AFd) × Int × Int × Int)) (hid : (Option Addr × Nat)) => match st, hid with | (l1, z1, z2, z3), (a_r1, cap_r1) => [row a_r1 cap_r1 98 2 AFd.d l1, box b2 44 [.i64 z1, .i64 z2, .i64 z3, .v (.slice a_r1 l1.length cap_r1)], (nthF F 0)]) (fun st => st = o_1) ⟨rfl, rfl, rfl, rfl, trivial⟩ ⟨rfl, trivial⟩ ?_ ?_
 ·refine zcn hj1 (fun hc1 hj1 => ?_) (fun hc1 hj1 => ?_)
  ·refine zq4 ?_
   refine zst 1 ?_;refine Ag (ms' := [_, box b2 44 [_, _, _, _], box b1 44 [_, _, _, _]]) rfl ?_;refine gNl ?_;exact ⟨_, (_, _), Ad hj1, trivial, ⟨rfl, rfl, rfl, rfl, trivial⟩, [], rfl⟩
  ·refine gSp ?_
   exact ⟨_, (_, _), Ad hj1, trivial, ⟨rfl, rfl, rfl, rfl, trivial⟩, [], rfl⟩
 ·rintro ⟨l1, z1, z2, z3⟩ ⟨a_r1, cap_r1⟩ hst
  subst hst;refine Aq (L' := [(1, _), (2, _), (4, _), (5, _)]) (ms' := [row a_r1 cap_r1 98 2 AFd.d l1, box b2 44 [.i64 z1, .i64 z2, .i64 z3, .v (.slice a_r1 l1.length cap_r1)], _]) rfl Uj ?_;refine zq7 ?_
  apply BC [(1, _), (2, _), (4, _), (5, _)] 4 23 (t := 19) ⟨rfl, rfl, rfl, rfl, trivial⟩ rfl
  ·intro hg_1 hk1
   refine zq4 ?_;exact zgm hk1
  ·intro hg_1 hk1
   refine zq4 ?_;exact zgm hk1
  refine zq1 ?_
  apply BC [(1, _), (2, _), (4, _), (5, _)] 4 28 (t := 24) ⟨rfl, rfl, rfl, rfl, trivial⟩ rfl
  ·intro hg_2 hk2
   refine zq4 ?_;exact zgm hk2
  ·intro hg_2 hk2
   refine zq4 ?_;exact zgm hk2
  refine gNl ?_;obtain ⟨o_2, hj2, hm2⟩ := bS hm1;refine Ak [(1, _), (2, _), (4, _), (5, _)] [(2, _)] (fun (st : ((List AFd) × Int × Int × Int)) (hid : (Option Addr × Nat)) => match st, hid with | (l2, z4, z5, z6), (a_r1, cap_r1) => []) (fun F (st : ((List AFd) × Int × Int × Int)) (hid : (Option Addr × Nat)) => match st, hid with | (l2, z4, z5, z6), (a_r1, cap_r1) => [row a_r1 cap_r1 98 2 AFd.d l2, box b2 44 [.i64 z4, .i64 z5, .i64 z6, .v (.slice a_r1 l2.length cap_r1)], (nthF F 0)]) (fun st => st = o_2) ⟨rfl, rfl, rfl, rfl, trivial⟩ ⟨rfl, trivial⟩ ?_ ?_
  ·refine zcn hj2 (fun hc2 hj2 => ?_) (fun hc2 hj2 => ?_)
   ·obtain ⟨x1, hx1, hj2⟩ := bS hj2
    obtain ⟨x2, hx2, hj2⟩ := bS hj2;refine Du [7, 9] [3, 4, 5, 8] [] AC (by decide +kernel) (by decide +kernel) rfl ?_;refine Ar Uj Uj Uj Uj Uj Uj (oMv Uj) ?_;refine Ar Uj Uj Uj Uj Uj Uj (oIm runUnderlying25 sizeOf3 Uj Uj hx1) ?_;refine Ar Uj Uj Uj Uj Uj Uj (Bm isAgg3 Uj Uj) ?_;refine Ar Uj Uj Uj Uj Uj Uj (oMv Uj) ?_;refine Ar Uj Uj Uj Uj Uj Uj (oIm runUnderlying25 sizeOf3 Uj Uj hx2) ?_;refine Ar Uj Uj Uj Uj Uj Uj (Bm isAgg3 Uj Uj) ?_;refine Ar Uj Uj Uj Uj Uj Uj (oFb KU Uj) ?_;refine Ds Uj ?_;refine Ar Uj Uj Uj Uj Uj Uj (oFb II Uj) ?_;refine Ds Uj ?_;refine Es ?_;refine Cn Uj Uj Uj (oSb 1 sizeOf3 Uj Uj Uj Uj Uj Uj Uj Uj (nB Uj)) ?_;rintro _ _ rfl;refine ⟨(trivial : True), ?_⟩;refine Cn Uj Uj Uj (oSb 1 sizeOf3 Uj Uj Uj Uj Uj Uj Uj Uj (nB Uj)) ?_;rintro _ _ rfl;refine ⟨(trivial : True), ?_⟩;refine BH ?_;exact ⟨_, (_, _), Ad hj2, trivial, ⟨rfl, rfl, rfl, rfl, trivial⟩, [], rfl⟩
   ·refine gSp ?_
    exact ⟨_, (_, _), Ad hj2, trivial, ⟨rfl, rfl, rfl, rfl, trivial⟩, [], rfl⟩
  ·rintro ⟨l2, z4, z5, z6⟩ ⟨a_r1, cap_r1⟩ hst
   subst hst;refine Aq (L' := [(1, _), (2, _), (4, _), (5, _)]) (ms' := [row a_r1 cap_r1 98 2 AFd.d l2, box b2 44 [.i64 z4, .i64 z5, .i64 z6, .v (.slice a_r1 l2.length cap_r1)], _]) rfl Uj ?_;refine zq5 ?_;obtain ⟨o_3, hj3, hm3⟩ := bS hm2;refine Ak [(4, _), (5, _)] [(2, _)] (fun (st : ((List AFd) × Int × Int × Int)) (hid : (Option Addr × Nat)) => match st, hid with | (l3, z7, z8, z9), (a_r1, cap_r1) => []) (fun F (st : ((List AFd) × Int × Int × Int)) (hid : (Option Addr × Nat)) => match st, hid with | (l3, z7, z8, z9), (a_r1, cap_r1) => [row a_r1 cap_r1 98 2 AFd.d l3, box b2 44 [.i64 z7, .i64 z8, .i64 z9, .v (.slice a_r1 l3.length cap_r1)], (nthF F 0)]) (fun st => st = o_3) ⟨rfl, rfl, trivial⟩ ⟨rfl, trivial⟩ ?_ ?_
   ·refine Aj ?_
    refine Ai [(1, _), (2, _), (4, _), (5, _)] [(2, _)] (fun (st : (Int × (List AFd) × Int × Int × Int)) (hid : (Option Addr × Nat)) => match st, hid with | (i1, l4, z10, z11, z12), (a_r1, cap_r1) => [(6, .i64 i1)]) (fun F (st : (Int × (List AFd) × Int × Int × Int)) (hid : (Option Addr × Nat)) => match st, hid with | (i1, l4, z10, z11, z12), (a_r1, cap_r1) => [row a_r1 cap_r1 98 2 AFd.d l4, box b2 44 [.i64 z10, .i64 z11, .i64 z12, .v (.slice a_r1 l4.length cap_r1)], (nthF F 0)]) (_, _) hj3 (fun _ => rfl) ⟨rfl, rfl, rfl, rfl, trivial⟩ ⟨rfl, trivial⟩ ⟨rfl, trivial⟩ rfl ?_;rintro n ⟨i1, l4, z10, z11, z12⟩ ⟨a_r1, cap_r1⟩ hj3;rw [Dg] at hj3;refine Av (L' := [(6, .i64 i1), (1, _), (2, _), (4, _), (5, _)]) (ms' := [row a_r1 cap_r1 98 2 AFd.d l4, box b2 44 [.i64 z10, .i64 z11, .i64 z12, .v (.slice a_r1 l4.length cap_r1)], _]) rfl Uj ?_;refine zq9 ?_;refine zcn hj3 (fun hc3 hj3 => ?_) (fun hc3 hj3 => ?_)
    ·refine zq3 ?_
     obtain ⟨x3, hx3, hj3⟩ := bS hj3;obtain ⟨x4, hx4, hj3⟩ := bS hj3;refine zdr 14 ?_;refine zq12 ?_;refine Az Uj Uj Uj (Aw (zs := [.str [], .v (.int .i64 0)]) runUnderlying98 zeroValue98 (SB _ runUnderlying98) rfl Uj Uj Uj) ?_;refine Az Uj Uj Uj (Ac (xs := [_]) (f := AFd.d) (l := [(⟨x3.name, x4⟩ : AFd)]) runUnderlying42 sizeOf98 zeroValue98 Uj Uj Uj (fun _ => ⟨rfl, rfl, rfl⟩) rfl) ?_;refine Cq ?_;obtain ⟨hg5, hj3⟩ := Aa hj3;refine An Uj Uj Uj (AB (a := _) 0 underlying42 type98 Uj Uj Uj Uj Uj Uj Uj (fun _ => rfl) (fun _ => rfl) hg5 (AA hg5 Uj)) ?_;rintro _ _ ⟨a_r1, cap_r1, rfl, rfl⟩;refine Ag (ms' := [_, box b2 44 [_, _, _, _], box b1 44 [_, _, _, _]]) rfl ?_;refine zq1 ?_;refine zst 1 ?_;refine Ag (ms' := [_, box b2 44 [_, _, _, _], box b1 44 [_, _, _, _]]) rfl ?_;refine zq3 ?_;obtain ⟨hg6, hj3⟩ := Aa hj3;refine zq3 ?_;exact ⟨_, (_, _), hj3, ⟨rfl, trivial⟩, ⟨rfl, rfl, rfl, rfl, trivial⟩, [], rfl⟩
    ·refine Ap ?_
     exact ⟨_, (_, _), Ad hj3, trivial, ⟨rfl, rfl, trivial⟩, [], rfl⟩
   ·rintro ⟨l3, z7, z8, z9⟩ ⟨a_r1, cap_r1⟩ hst
    subst hst;refine Aq (L' := [(4, _), (5, _)]) (ms' := [row a_r1 cap_r1 98 2 AFd.d l3, box b2 44 [.i64 z7, .i64 z8, .i64 z9, .v (.slice a_r1 l3.length cap_r1)], _]) rfl Uj ?_;refine zq3 ?_;refine Am (CG (i := 60) (q := 3) 0 rfl Uj Uj Uj Uj).refines ?_;refine zst 2 ?_;refine Ag (ms' := [_, box b2 44 [_, _, _, _], box b1 44 [_, _, _, _]]) rfl ?_;refine gNl ?_
    cases hm3; exact Af zr1
noncomputable def Di (x1 : (List Int)) : Nat -> (Int × (List Int)) -> Option (List Int)
 | 0, _ => none
 | n + 1, (i1, l2) =>
  bif (decide (i1 < (x1.length : Int))) then
   (idx x1 i1).bind fun x2 =>
   (idx l2 x2).bind fun x3 =>
   grd (InR (i1 + 1)) <|
   Di x1 n ((i1 + 1), (l2.set (x2).toNat i1))
  else
   some l2
noncomputable def Do (l1 : (List Int)) (x6 : (List Int)) : Nat -> (Int × (List Int)) -> Option (List Int)
 | 0, _ => none
 | n + 1, (j1, l6) =>
  bif (decide (j1 < (x6.length : Int))) then
   (idx x6 j1).bind fun x7 =>
   (idx l1 x7).bind fun x8 =>
   grd ((l6.length + ([x8] : List _).length) * 8 <= 140737488355328) <|
   grd (InR (j1 + 1)) <|
   Do l1 x6 n ((j1 + 1), (l6 ++ [x8]))
  else
   some l6
noncomputable def D0 (t1 : ATy) (x1 : (List Int)) (l1 : (List Int)) : Nat -> (Int × (List ANd) × Int) -> Option ((List ANd) × Int)
 | 0, _ => none
 | n + 1, (i2, l4, z2) =>
  bif (decide (i2 < (x1.length : Int))) then
   (idx x1 i2).bind fun x4 =>
   (idx t1.l x4).bind fun x5 =>
   (E5 x5).bind fun x6 =>
   (Do l1 x6 FU (0, []) : Option (List Int)).bind fun l5 =>
   (idx x1 i2).bind fun x9 =>
   (idx t1.l x9).bind fun x10 =>
   (G0 x10 l5).bind fun x11 =>
   grd ((l4.length + ([x11] : List _).length) * 48 <= 140737488355328) <|
   grd (InR (i2 + 1)) <|
   D0 t1 x1 l1 n ((i2 + 1), (l4 ++ [x11]), z2)
  else
   some (l4, z2)
noncomputable def GT (t1 : ATy) (root1 : Int) : Option ATy :=
 (Gb t1 root1).bind fun x1 =>
 grd (0 <= (t1.l.length : Int)) <|
 grd (((t1.l.length : Int)).toNat * 8 <= 140737488355328) <|
 (Di x1 FU (0, (List.replicate ((t1.l.length : Int)).toNat (0 : Int))) : Option (List Int)).bind fun l1 =>
 (D0 t1 x1 l1 FU (0, ([] : List ANd), 0) : Option ((List ANd) × Int)).bind fun (l3, z1) =>
 some (⟨l3, z1⟩ : ATy)
theorem J7 {t1 : ATy} {root1 : Int} {r_1 : ATy} (hm : GT t1 root1 = some r_1) : Fn0 Tryz.prog 80 [ATy.d t1, .i64 root1] (ATy.d r_1) := by
 unfold GT at hm;refine Ae func80 Uj ntmps80 Uj fun H0 fr w0 => ?_;refine zq3 ?_;refine Be fun b1 => ?_;refine zq5 ?_;obtain ⟨x1, hx1, hm⟩ := bS hm;refine zc0 (PB hx1) ?_;refine zq7 ?_;obtain ⟨hg2, hm⟩ := Aa hm;obtain ⟨hg3, hm⟩ := Aa hm;refine An Uj Uj Uj (Fv (f := D.i64) (z0 := 0) underlying25 type3 Uj Uj Uj (nB Uj) rfl Uj hg2 hg3 (nB Uj)) ?_;rintro _ _ ⟨a_r1, m_r1, cap_r1, rfl, rfl⟩;refine zq7 ?_;obtain ⟨o_1, hj1, hm1⟩ := bS hm;refine Ak [(2, _), (4, _), (5, _), (6, _)] [(1, _)] (fun (st : (List Int)) (hid : Unit) => match st, hid with | l1, _ => []) (fun F (st : (List Int)) (hid : Unit) => match st, hid with | l1, _ => [arr a_r1 m_r1 cap_r1 3 1 D.i64 l1, (nthF F 0)]) (fun st => st = o_1) ⟨rfl, rfl, rfl, rfl, trivial⟩ ⟨rfl, trivial⟩ ?_ ?_
 ·refine Aj ?_
  refine Ai [(2, _), (4, _), (5, _), (6, _)] [(1, _)] (fun (st : (Int × (List Int))) (hid : Unit) => match st, hid with | (i1, l2), _ => [(7, .i64 i1)]) (fun F (st : (Int × (List Int))) (hid : Unit) => match st, hid with | (i1, l2), _ => [arr a_r1 m_r1 cap_r1 3 1 D.i64 l2, (nthF F 0)]) () hj1 (fun _ => rfl) ⟨rfl, rfl, rfl, rfl, trivial⟩ ⟨rfl, trivial⟩ ⟨rfl, trivial⟩ rfl ?_;rintro n ⟨i1, l2⟩ ⟨⟩ hj1;rw [Di] at hj1;refine Av (L' := [(7, .i64 i1), (2, _), (4, _), (5, _), (6, _)]) (ms' := [arr a_r1 m_r1 cap_r1 3 1 D.i64 l2, _]) rfl Uj ?_;refine zq8 ?_;refine zcn hj1 (fun hc1 hj1 => ?_) (fun hc1 hj1 => ?_)
  ·refine zq7 ?_
   obtain ⟨x2, hx4, hj1⟩ := bS hj1;refine Ah Uj Uj Uj (oIm runUnderlying25 sizeOf3 Uj Uj hx4) ?_;refine zq2 ?_;obtain ⟨x3, hx5, hj1⟩ := bS hj1;refine Ah Uj Uj Uj (At 0 runUnderlying25 sizeOf3 Uj Uj Uj hx5) ?_;refine Gk Uj Uj (BD (off := 0) (z' := i1) 0 sizeOf3 Uj Uj (Ao hx5).2 rfl Uj Uj Uj Uj Uj (nB Uj) rfl Uj) ?_;rintro _ _ rfl;refine Ag (ms' := [_, box b1 24 [_, _]]) rfl ?_;refine zq3 ?_;obtain ⟨hg6, hj1⟩ := Aa hj1;refine zq3 ?_;exact ⟨_, (), hj1, ⟨rfl, trivial⟩, ⟨rfl, rfl, rfl, rfl, trivial⟩, [], rfl⟩
  ·refine Ap ?_
   exact ⟨_, (), Ad hj1, trivial, ⟨rfl, rfl, rfl, rfl, trivial⟩, [], rfl⟩
 ·rintro l1 ⟨⟩ hst
  subst hst;refine Aq (L' := [(2, _), (4, _), (5, _), (6, _)]) (ms' := [arr a_r1 m_r1 cap_r1 3 1 D.i64 l1, _]) rfl Uj ?_;refine zq2 ?_;refine Ah Uj Uj Uj (Aw (zs := [.v (.slice none 0 0), .v (.int .i64 0)]) runUnderlying24 zeroValue24 (Gl _ runUnderlying24) rfl Uj Uj Uj) ?_;refine Be fun b2 => ?_;refine zst 0 ?_;refine Am (AF (T := 44) (sz := 4) (f := ANd.d)) ?_;refine Ag (ms' := [_, box b2 24 [_, _], _, box b1 24 [_, _]]) rfl ?_;refine zq6 ?_;obtain ⟨o_2, hj2, hm2⟩ := bS hm1;refine Ak [(4, _), (8, _)] [(2, _), (3, _)] (fun (st : ((List ANd) × Int)) (hid : (Option Addr × Nat)) => match st, hid with | (l3, z1), (a_r2, cap_r2) => []) (fun F (st : ((List ANd) × Int)) (hid : (Option Addr × Nat)) => match st, hid with | (l3, z1), (a_r2, cap_r2) => [row a_r2 cap_r2 44 4 ANd.d l3, box b2 24 [.v (.slice a_r2 l3.length cap_r2), .i64 z1], (nthF F 0), (nthF F 1)]) (fun st => st = o_2) ⟨rfl, rfl, trivial⟩ ⟨rfl, rfl, trivial⟩ ?_ ?_
  ·refine Aj ?_
   refine Ai [(2, _), (4, _), (5, _), (6, _), (8, _)] [(2, _), (3, _)] (fun (st : (Int × (List ANd) × Int)) (hid : (Option Addr × Nat)) => match st, hid with | (i2, l4, z2), (a_r2, cap_r2) => [(9, .i64 i2)]) (fun F (st : (Int × (List ANd) × Int)) (hid : (Option Addr × Nat)) => match st, hid with | (i2, l4, z2), (a_r2, cap_r2) => [row a_r2 cap_r2 44 4 ANd.d l4, box b2 24 [.v (.slice a_r2 l4.length cap_r2), .i64 z2], (nthF F 0), (nthF F 1)]) (_, _) hj2 (fun _ => rfl) ⟨rfl, rfl, rfl, rfl, rfl, trivial⟩ ⟨rfl, rfl, trivial⟩ ⟨rfl, trivial⟩ rfl ?_;rintro n ⟨i2, l4, z2⟩ ⟨a_r2, cap_r2⟩ hj2;rw [D0] at hj2;refine Av (L' := [(9, .i64 i2), (2, _), (4, _), (5, _), (6, _), (8, _)]) (ms' := [row a_r2 cap_r2 44 4 ANd.d l4, box b2 24 [.v (.slice a_r2 l4.length cap_r2), .i64 z2], _, _]) rfl Uj ?_;refine zq8 ?_;refine zcn hj2 (fun hc2 hj2 => ?_) (fun hc2 hj2 => ?_)
   ·refine zq4 ?_
    obtain ⟨x4, hx7, hj2⟩ := bS hj2;obtain ⟨x5, hx8, hj2⟩ := bS hj2;obtain ⟨x6, hx9, hj2⟩ := bS hj2;refine Du [9, 11] [0, 1, 2, 3, 4, 5, 6, 7, 8, 10] [] AC (by decide +kernel) (by decide +kernel) rfl ?_;refine Ar Uj Uj Uj Uj Uj Uj (oFa DH Uj Uj Uj) ?_;refine Ar Uj Uj Uj Uj Uj Uj (Bm isAgg22 Uj Uj) ?_;refine Ar Uj Uj Uj Uj Uj Uj (oMv Uj) ?_;refine Ar Uj Uj Uj Uj Uj Uj (oMv Uj) ?_;refine Ar Uj Uj Uj Uj Uj Uj (oIm runUnderlying25 sizeOf3 Uj Uj hx7) ?_;refine Ar Uj Uj Uj Uj Uj Uj (Bm isAgg3 Uj Uj) ?_;refine Ar Uj Uj Uj Uj Uj Uj (oIm runUnderlying22 sizeOf44 Uj Uj hx8) ?_;refine Ar Uj Uj Uj Uj Uj Uj (Bq isAgg44 sizeOf44 Uj Uj) ?_;refine Ar Uj Uj Uj Uj Uj Uj (A2 call101 Uj (J9 hx9)) ?_;refine Ds Uj ?_;refine Ar Uj Uj Uj Uj Uj Uj (oAs Uj) ?_;refine Ds Uj ?_;refine Es ?_;refine F6 Uj Uj Uj Uj (Ax (xs := []) (f := D.i64) (l := []) runUnderlying25 sizeOf3 zeroValue3 Uj Uj Uj (fun _ => ⟨rfl, rfl, rfl⟩) rfl (by simp [maxLen])) ?_;rintro _ _ ⟨a_r3, rfl, rfl⟩;refine ⟨(trivial : True), ?_⟩;refine F6 Uj Uj Uj Uj (oAs Uj) ?_;rintro _ _ ⟨rfl, rfl⟩;refine ⟨(trivial : True), ?_⟩;refine BH ?_;refine zq5 ?_;obtain ⟨o_3, hj3, hm3⟩ := bS hj2;refine Ak [(2, _), (4, _), (5, _), (6, _), (8, _), (9, _)] [(1, _), (2, _), (3, _), (4, _)] (fun (st : (List Int)) (hid : (Option Addr × Nat)) => match st, hid with | l5, (a_r3, cap_r3) => [(11, .v (.slice a_r3 l5.length cap_r3))]) (fun F (st : (List Int)) (hid : (Option Addr × Nat)) => match st, hid with | l5, (a_r3, cap_r3) => [row a_r3 cap_r3 3 1 D.i64 l5, (nthF F 0), (nthF F 1), (nthF F 2), (nthF F 3)]) (fun st => st = o_3) ⟨rfl, rfl, rfl, rfl, rfl, rfl, trivial⟩ ⟨rfl, rfl, rfl, rfl, trivial⟩ ?_ ?_
    ·refine Aj ?_
     refine Ai [(2, _), (4, _), (5, _), (6, _), (8, _), (9, _), (10, _)] [(1, _), (2, _), (3, _), (4, _)] (fun (st : (Int × (List Int))) (hid : (Option Addr × Nat)) => match st, hid with | (j1, l6), (a_r3, cap_r3) => [(11, .v (.slice a_r3 l6.length cap_r3)), (12, .i64 j1)]) (fun F (st : (Int × (List Int))) (hid : (Option Addr × Nat)) => match st, hid with | (j1, l6), (a_r3, cap_r3) => [row a_r3 cap_r3 3 1 D.i64 l6, (nthF F 0), (nthF F 1), (nthF F 2), (nthF F 3)]) (_, _) hj3 (fun _ => rfl) ⟨rfl, rfl, rfl, rfl, rfl, rfl, rfl, trivial⟩ ⟨rfl, rfl, rfl, rfl, trivial⟩ ⟨rfl, rfl, trivial⟩ rfl ?_;rintro n ⟨j1, l6⟩ ⟨a_r3, cap_r3⟩ hj3;rw [Do] at hj3;refine Av (L' := [(11, .v (.slice a_r3 l6.length cap_r3)), (12, .i64 j1), (2, _), (4, _), (5, _), (6, _), (8, _), (9, _), (10, _)]) (ms' := [row a_r3 cap_r3 3 1 D.i64 l6, _, _, _, _]) rfl Uj ?_;refine zq8 ?_;refine zcn hj3 (fun hc3 hj3 => ?_) (fun hc3 hj3 => ?_)
     ·refine zq8 ?_
      obtain ⟨x7, hx10, hj3⟩ := bS hj3;refine Ah Uj Uj Uj (oIm runUnderlying25 sizeOf3 Uj Uj hx10) ?_;refine zq1 ?_;obtain ⟨x8, hx11, hj3⟩ := bS hj3;refine Ah Uj Uj Uj (At 3 runUnderlying25 sizeOf3 Uj Uj Uj hx11) ?_;refine Ah Uj Uj Uj (AW (off := 0) 3 isAgg3 Uj Uj (Ao hx11).2 rfl Uj Uj) ?_;refine Ah Uj Uj Uj (Ac (xs := [_]) (f := D.i64) (l := [_]) runUnderlying25 sizeOf3 zeroValue3 Uj Uj Uj (fun _ => ⟨rfl, rfl, rfl⟩) rfl) ?_;obtain ⟨hg12, hj3⟩ := Aa hj3;refine An Uj Uj Uj (AB (a := _) 0 underlying25 type3 Uj Uj Uj Uj Uj Uj Uj (fun _ => rfl) (fun _ => rfl) hg12 (AA hg12 Uj)) ?_;rintro _ _ ⟨a_r3, cap_r3, rfl, rfl⟩;refine Ag (ms' := [_, _, box b2 24 [_, _], _, box b1 24 [_, _]]) rfl ?_;refine zq4 ?_;obtain ⟨hg13, hj3⟩ := Aa hj3;refine zq3 ?_;exact ⟨_, (_, _), hj3, ⟨rfl, rfl, trivial⟩, ⟨rfl, rfl, rfl, rfl, rfl, rfl, rfl, trivial⟩, [], rfl⟩
     ·refine Ap ?_
      exact ⟨_, (_, _), Ad hj3, ⟨rfl, trivial⟩, ⟨rfl, rfl, rfl, rfl, rfl, rfl, trivial⟩, [], rfl⟩
    ·rintro l5 ⟨a_r3, cap_r3⟩ hst
     subst hst;refine Aq (L' := [(11, .v (.slice a_r3 l5.length cap_r3)), (2, _), (4, _), (5, _), (6, _), (8, _), (9, _)]) (ms' := [row a_r3 cap_r3 3 1 D.i64 l5, _, _, _, _]) rfl Uj ?_;obtain ⟨x9, hx14, hm3⟩ := bS hm3;obtain ⟨x10, hx15, hm3⟩ := bS hm3;obtain ⟨x11, hx16, hm3⟩ := bS hm3;refine zdr 13 ?_;refine zq6 ?_;refine Az Uj Uj Uj (oIm runUnderlying25 sizeOf3 Uj Uj hx14) ?_;refine zq1 ?_;refine Az Uj Uj Uj (oIm runUnderlying22 sizeOf44 Uj Uj hx15) ?_;refine zq2 ?_;refine Az Uj Uj Uj (.view (peekE (i := 76) 0 rfl Uj Uj) (A2 call113 Uj (Q2 hx16))) ?_;refine Az Uj Uj Uj (Ac (xs := [_]) (f := ANd.d) (l := [_]) runUnderlying22 sizeOf44 zeroValue44 Uj Uj Uj (fun _ => ⟨rfl, rfl, rfl⟩) rfl) ?_;refine Cq ?_;obtain ⟨hg17, hm3⟩ := Aa hm3;refine An Uj Uj Uj (AB (a := _) 1 underlying22 type44 Uj Uj Uj Uj Uj Uj Uj (fun _ => rfl) (fun _ => rfl) hg17 (AA hg17 Uj)) ?_;rintro _ _ ⟨a_r2, cap_r2, rfl, rfl⟩;refine Ag (ms' := [_, _, box b2 24 [_, _], _, box b1 24 [_, _]]) rfl ?_;refine zq1 ?_;refine zst 2 ?_;refine Ag (ms' := [_, _, box b2 24 [_, _], _, box b1 24 [_, _]]) rfl ?_;refine zq3 ?_;obtain ⟨hg18, hm3⟩ := Aa hm3;refine zq3 ?_;exact ⟨_, (_, _), hm3, ⟨rfl, trivial⟩, ⟨rfl, rfl, rfl, rfl, rfl, trivial⟩, [_], rfl⟩
   ·refine Ap ?_
    exact ⟨_, (_, _), Ad hj2, trivial, ⟨rfl, rfl, trivial⟩, [], rfl⟩
  ·rintro ⟨l3, z1⟩ ⟨a_r2, cap_r2⟩ hst
   subst hst;refine Aq (L' := [(4, _), (8, _)]) (ms' := [row a_r2 cap_r2 44 4 ANd.d l3, box b2 24 [.v (.slice a_r2 l3.length cap_r2), .i64 z1], _, _]) rfl Uj ?_;refine zq3 ?_;refine Am (CG (i := 81) (q := 0) 0 rfl Uj Uj Uj Uj).refines ?_;refine zst 3 ?_;refine Ag (ms' := [_, box b2 24 [_, _], _, box b1 24 [_, _]]) rfl ?_;refine gNl ?_
   cases hm2; exact Af zr1
noncomputable def Bf (a1 : ATy) (bv1 : ATy) : Option Bool :=
 (GW a1).bind fun x1 =>
 bif (decide (x1 = 0)) then ((GT a1 a1.root).bind fun x2 =>
 (Ei a1 x2).bind fun x3 =>
 bif x3 then ((CY a1 bv1).bind fun x4 =>
 bif x4 then ((CY bv1 a1).bind fun x5 =>
 some x5) else (some false)) else (some false)) else (some false)
theorem F7 {a1 : ATy} {bv1 : ATy} {r_1 : Bool} (hm : Bf a1 bv1 = some r_1) : Fn0 Tryz.prog 43 [ATy.d a1, ATy.d bv1] (.bool r_1) := by
 unfold Bf at hm;refine Ae func43 Uj ntmps43 Uj fun H0 fr w0 => ?_;refine zq7 ?_;obtain ⟨x1, hx1, hm⟩ := bS hm
 rcases Cl hm with ⟨hg_1, hm⟩ | ⟨hg_1, hm⟩
 ·
  skip
  obtain ⟨x2, hx2, hm⟩ := bS hm;obtain ⟨x3, hx3, hm⟩ := bS hm
  rcases Cl hm with ⟨hg_2, hm⟩ | ⟨hg_2, hm⟩
  ·
   skip
   obtain ⟨x4, hx4, hm⟩ := bS hm
   rcases Cl hm with ⟨hg_3, hm⟩ | ⟨hg_3, hm⟩
   ·
    skip
    obtain ⟨x5, hx5, hm⟩ := bS hm;refine zdr 22 ?_;refine zq1 ?_;refine zcd (HJ hx1) ?_;refine zq6 ?_;refine zce (J7 hx2) ?_;refine zce (GA hx3) ?_;refine zq4 ?_;refine zce (I0 hx4) ?_;refine zq4 ?_;refine zce (I0 hx5) ?_;refine zq4 ?_
    cases hm; exact Af zr1
   ·
    skip
    refine zdr 22 ?_;refine zq1 ?_;refine zcd (HJ hx1) ?_;refine zq6 ?_;refine zce (J7 hx2) ?_;refine zce (GA hx3) ?_;refine zq4 ?_;refine zce (I0 hx4) ?_;refine zq9 ?_
    cases hm; exact Af zr1
  ·
   skip
   refine zdr 22 ?_;refine zq1 ?_;refine zcd (HJ hx1) ?_;refine zq6 ?_;refine zce (J7 hx2) ?_;refine zce (GA hx3) ?_;refine zq14 ?_
   cases hm; exact Af zr1
 ·
  skip
  refine zdr 22 ?_;refine zq1 ?_;refine zcd (HJ hx1) ?_;refine zq22 ?_
  cases hm; exact Af zr1
noncomputable def B0 (kind1 : Int) (l2 : (List ATy)) : Nat -> (Int × (List ANd) × Int) -> Option ((List ANd) × Int)
 | 0, _ => none
 | n + 1, (x4, z3, z4) =>
  bif (decide (x4 < (l2.length : Int))) then
   (idx l2 x4).bind fun x5 =>
   (CI (fun y0 => Cj y0 kind1) [(⟨z3, z4⟩ : ATy), (⟨x5.l, x5.root⟩ : ATy)]).bind fun x6 =>
   grd (InR (x4 + 1)) <|
   B0 kind1 l2 n ((x4 + 1), x6.l, x6.root)
  else
   some (z3, z4)
noncomputable def Bu (kind1 : Int) (none1 : Int) (l1 : (List ATy)) : Option (ATy × Int) :=
 (DP l1).bind fun x1 =>
 bif (!decide (x1 = 0)) then
  some ((⟨([] : List ANd), 0⟩ : ATy), x1)
 else
  bif (decide ((l1.length : Int) = 0)) then
   (Dh none1).bind fun x2 =>
   some ((⟨x2.l, x2.root⟩ : ATy), 0)
  else
   (idx l1 0).bind fun x3 =>
   (sli l1 1 (l1.length : Int)).bind fun l2 =>
   (B0 kind1 l2 FU (0, x3.l, x3.root) : Option ((List ANd) × Int)).bind fun (z1, z2) =>
   (Dn (⟨z1, z2⟩ : ATy)).bind fun (x7, x8) =>
   some ((⟨x7.l, x7.root⟩ : ATy), x8)
theorem KD {kind1 : Int} {none1 : Int} {l1 : (List ATy)} {r_1 : ATy} {r_2 : Int} (hm : Bu kind1 none1 l1 = some (r_1, r_2)) : Fn0 Tryz.prog 81 [.i64 kind1, .i64 none1, .list 2 ATy.d l1] (.tup [ATy.d r_1, .i64 r_2]) := by
 unfold Bu at hm;refine Ae func81 Uj ntmps81 Uj fun H0 fr w0 => ?_;refine zq2 ?_;refine Be fun b1 => ?_;refine zq6 ?_;obtain ⟨x1, hx1, hm⟩ := bS hm;refine zc0 (H7 hx1) ?_;refine zq7 ?_;refine zcn hm (fun hc1 hm => ?_) (fun hc1 hm => ?_)
 ·refine zq2 ?_
  refine Ah Uj Uj Uj (Aw (zs := [.list 4 ANd.d [], .v (.int .i64 0)]) runUnderlying24 zeroValue24 (Gl _ runUnderlying24) rfl Uj Uj Uj) ?_;refine zq1 ?_;refine zst 0 ?_;refine Ag (ms' := [box b1 24 [_, _]]) rfl ?_;refine zq2 ?_
  cases hm; exact Af zr2
 ·refine zq8 ?_
  refine zcn hm (fun hc2 hm => ?_) (fun hc2 hm => ?_)
  ·refine zq3 ?_
   obtain ⟨x2, hx2, hm⟩ := bS hm;refine zc0 (FF hx2) ?_;refine zst 0 ?_;refine Ag (ms' := [box b1 24 [_, _]]) rfl ?_;refine zq2 ?_
   cases hm; exact Af zr2
  ·refine zq4 ?_
   obtain ⟨x3, hx3, hm⟩ := bS hm;refine zq2 ?_;refine Be fun b2 => ?_;refine zst 0 ?_;refine Ag (ms' := [box b2 24 [_, _], box b1 24 [_, _]]) rfl ?_;refine zq5 ?_;obtain ⟨l2, hx4, hm⟩ := bS hm;refine Ah Uj Uj Uj (Bc runUnderlying53 sizeOf24 Uj ⟨_, rfl⟩ rfl hx4) ?_;refine zq3 ?_;obtain ⟨o_1, hj1, hm1⟩ := bS hm;refine Ak [(6, _), (9, _)] [(1, _)] (fun (st : ((List ANd) × Int)) (hid : Unit) => match st, hid with | (z1, z2), _ => []) (fun F (st : ((List ANd) × Int)) (hid : Unit) => match st, hid with | (z1, z2), _ => [box b2 24 [.list 4 ANd.d z1, .i64 z2], (nthF F 0)]) (fun st => st = o_1) ⟨rfl, rfl, trivial⟩ ⟨rfl, trivial⟩ ?_ ?_
   ·refine Aj ?_
    refine Ai [(0, _), (6, _), (9, _), (27, _), (28, _)] [(1, _)] (fun (st : (Int × (List ANd) × Int)) (hid : Unit) => match st, hid with | (x4, z3, z4), _ => [(29, .i64 x4)]) (fun F (st : (Int × (List ANd) × Int)) (hid : Unit) => match st, hid with | (x4, z3, z4), _ => [box b2 24 [.list 4 ANd.d z3, .i64 z4], (nthF F 0)]) () hj1 (fun _ => rfl) ⟨rfl, rfl, rfl, rfl, rfl, trivial⟩ ⟨rfl, trivial⟩ ⟨rfl, trivial⟩ rfl ?_;rintro n ⟨x4, z3, z4⟩ _ hj1;rw [B0] at hj1;refine Av (L' := [(29, .i64 x4), (0, _), (6, _), (9, _), (27, _), (28, _)]) (ms' := [box b2 24 [.list 4 ANd.d z3, .i64 z4], _]) rfl Uj ?_;refine zq5 ?_;refine zcn hj1 (fun hc3 hj1 => ?_) (fun hc3 hj1 => ?_)
    ·refine zq5 ?_
     obtain ⟨x5, hx5, hj1⟩ := bS hj1;refine zq2 ?_;refine Be fun b3 => ?_;refine zst 0 ?_;refine Ag (ms' := [box b3 24 [_, _], box b2 24 [_, _], box b1 24 [_, _]]) rfl ?_;refine gNl ?_;obtain ⟨x6, hx6, hj1⟩ := bS hj1;refine zdr 6 ?_;refine zq1 ?_;refine zcd (Sl (k := kind1)) ?_;refine zq2 ?_;refine Az Uj Uj Uj (Ac (xs := [_, _]) (f := ATy.d) (l := [(⟨z3, z4⟩ : ATy), (⟨x5.l, x5.root⟩ : ATy)]) runUnderlying53 sizeOf24 zeroValue24 Uj Uj Uj (fun _ => ⟨rfl, rfl, rfl⟩) rfl) ?_;refine Az Uj Uj Uj (A2 call82 Uj (JU (fun _ _ h => Ed call114 (Ia h)) hx6)) ?_;refine Cq ?_;refine zst 1 ?_;refine Ag (ms' := [box b3 24 [_, _], box b2 24 [_, _], box b1 24 [_, _]]) rfl ?_;refine zq2 ?_;obtain ⟨hg7, hj1⟩ := Aa hj1;refine zq3 ?_;exact ⟨_, (), hj1, ⟨rfl, trivial⟩, ⟨rfl, rfl, rfl, rfl, rfl, trivial⟩, [_], rfl⟩
    ·refine Ap ?_
     exact ⟨_, (), Ad hj1, trivial, ⟨rfl, rfl, trivial⟩, [], rfl⟩
   ·rintro ⟨z1, z2⟩ _ hst
    subst hst;refine Aq (L' := [(6, _), (9, _)]) (ms' := [box b2 24 [.list 4 ANd.d z1, .i64 z2], _]) rfl Uj ?_;refine zq3 ?_;obtain ⟨⟨x7, x8⟩, hx8, hm1⟩ := bS hm1;refine zc0 (Hh hx8) ?_;refine zq2 ?_;refine zst 1 ?_;refine Ag (ms' := [box b2 24 [_, _], box b1 24 [_, _]]) rfl ?_;refine zq2 ?_
    cases hm1; exact Af zr2
noncomputable def EX (l1 : (List ATy)) : Option (ATy × Int) :=
 (Bu 9 2 l1).bind fun (x1, x2) =>
 some ((⟨x1.l, x1.root⟩ : ATy), x2)
theorem NC {l1 : (List ATy)} {r_1 : ATy} {r_2 : Int} (hm : EX l1 = some (r_1, r_2)) : Fn0 Tryz.prog 45 [.list 2 ATy.d l1] (.tup [ATy.d r_1, .i64 r_2]) := by
 unfold EX at hm;refine Ae func45 Uj ntmps45 Uj fun H0 fr w0 => ?_;refine zq2 ?_;refine Be fun b1 => ?_;refine zq5 ?_;obtain ⟨⟨x1, x2⟩, hx1, hm⟩ := bS hm;refine zc0 (KD hx1) ?_;refine zq2 ?_;refine zst 0 ?_;refine Ag (ms' := [box b1 24 [_, _]]) rfl ?_;refine zq2 ?_
 cases hm; exact Af zr2
noncomputable def EN (l1 : (List ATy)) : Option (ATy × Int) :=
 (Bu 10 1 l1).bind fun (x1, x2) =>
 some ((⟨x1.l, x1.root⟩ : ATy), x2)
theorem NL {l1 : (List ATy)} {r_1 : ATy} {r_2 : Int} (hm : EN l1 = some (r_1, r_2)) : Fn0 Tryz.prog 46 [.list 2 ATy.d l1] (.tup [ATy.d r_1, .i64 r_2]) := by
 unfold EN at hm;refine Ae func46 Uj ntmps46 Uj fun H0 fr w0 => ?_;refine zq2 ?_;refine Be fun b1 => ?_;refine zq5 ?_;obtain ⟨⟨x1, x2⟩, hx1, hm⟩ := bS hm;refine zc0 (KD hx1) ?_;refine zq2 ?_;refine zst 0 ?_;refine Ag (ms' := [box b1 24 [_, _]]) rfl ?_;refine zq2 ?_
 cases hm; exact Af zr2
noncomputable def Fb (kind1 : Int) (a1 : ATy) (bv1 : ATy) : Option ATy :=
 (DM a1 bv1).bind fun (x1, s1) =>
 grd (InR (bv1.root + x1)) <|
 grd ((s1.l.length + ([(⟨kind1, a1.root, (bv1.root + x1), ([] : List AFd)⟩ : ANd)] : List _).length) * 48 <= 140737488355328) <|
 grd (InR (((s1.l ++ [(⟨kind1, a1.root, (bv1.root + x1), ([] : List AFd)⟩ : ANd)]).length : Int) - 1)) <|
 some (⟨(s1.l ++ [(⟨kind1, a1.root, (bv1.root + x1), ([] : List AFd)⟩ : ANd)]), (((s1.l ++ [(⟨kind1, a1.root, (bv1.root + x1), ([] : List AFd)⟩ : ANd)]).length : Int) - 1)⟩ : ATy)
theorem J1 {kind1 : Int} {a1 : ATy} {bv1 : ATy} {r_1 : ATy} (hm : Fb kind1 a1 bv1 = some r_1) : Fn0 Tryz.prog 49 [.i64 kind1, ATy.d a1, ATy.d bv1] (ATy.d r_1) := by
 unfold Fb at hm;refine Ae func49 Uj ntmps49 Uj fun H0 fr w0 => ?_;refine zq4 ?_;refine Be fun b1 => ?_;refine zq5 ?_;obtain ⟨⟨x1, s1⟩, hx1, hm⟩ := bS hm;refine An Uj Uj Uj (Cm (ms₁ := []) call67 Uj (List.Perm.refl _) (Lz hx1)) ?_;rintro _ _ ⟨_, ⟨a_r1, m_r1, cap_r1, rfl, rfl⟩, rfl⟩;refine zq3 ?_;refine Be fun b2 => ?_;refine zst 0 ?_;refine Ag (ms' := [box b2 24 [_, _], _, box b1 24 [_, _]]) rfl ?_;refine zq12 ?_;obtain ⟨hg2, hm⟩ := Aa hm;refine zq1 ?_;refine Ah Uj Uj Uj (Aw (zs := [.v (.int .i64 0), .v (.int .i64 0), .v (.int .i64 0), .list 2 AFd.d []]) runUnderlying44 zeroValue44 (KB _ runUnderlying44) rfl Uj Uj Uj) ?_;refine Ah Uj Uj Uj (Ac (xs := [_]) (f := ANd.d) (l := [(⟨kind1, a1.root, (bv1.root + x1), ([] : List AFd)⟩ : ANd)]) runUnderlying22 sizeOf44 zeroValue44 Uj Uj Uj (fun _ => ⟨rfl, rfl, rfl⟩) rfl) ?_;obtain ⟨hg3, hm⟩ := Aa hm;refine An Uj Uj Uj (Ca (a := _) 1 underlying22 type44 Uj Uj Uj Uj Uj Uj (fun _ => rfl) (fun _ => rfl) hg3 (AA hg3 Uj)) ?_;rintro _ _ ⟨a_r1, m_r1, cap_r1, rfl, rfl⟩;refine Ag (ms' := [box b2 24 [_, _], _, box b1 24 [_, _]]) rfl ?_;refine zq1 ?_;refine zst 0 ?_;refine Ag (ms' := [box b2 24 [_, _], _, box b1 24 [_, _]]) rfl ?_;refine zq5 ?_;refine Ah Uj Uj Uj (BR 1 runUnderlying22 Uj Uj) ?_;obtain ⟨hg4, hm⟩ := Aa hm;refine zq2 ?_;refine zst 0 ?_;refine Ag (ms' := [box b2 24 [_, _], _, box b1 24 [_, _]]) rfl ?_;refine zq3 ?_;refine Gt 1 rfl Uj ?_;rintro rfl;refine zq1 ?_;refine Am (CG (i := 33) (q := 0) 1 rfl Uj Uj Uj Uj).refines ?_;refine zst 2 ?_;refine Ag (ms' := [box b2 24 [_, _], _, box b1 24 [_, _]]) rfl ?_;refine gNl ?_
 cases hm; exact Af zr1
noncomputable def DV (kind1 : Int) (l1 : (List ATy)) : Nat -> (Int × (List ANd) × Int) -> Option ((List ANd) × Int)
 | 0, _ => none
 | n + 1, (i1, z3, z4) =>
  bif (decide (i1 < (l1.length : Int))) then
   (idx l1 i1).bind fun x2 =>
   (Fb kind1 (⟨z3, z4⟩ : ATy) x2).bind fun x3 =>
   grd (InR (i1 + 1)) <|
   DV kind1 l1 n ((i1 + 1), x3.l, x3.root)
  else
   some (z3, z4)
noncomputable def Dr (kind1 : Int) (none1 : Int) (l1 : (List ATy)) : Option ATy :=
 bif (decide ((l1.length : Int) = 0)) then
  some (⟨[(⟨none1, 0, 0, ([] : List AFd)⟩ : ANd)], 0⟩ : ATy)
 else
  (idx l1 0).bind fun x1 =>
  (DV kind1 l1 FU (1, x1.l, x1.root) : Option ((List ANd) × Int)).bind fun (z1, z2) =>
  some (⟨z1, z2⟩ : ATy)
theorem Md {kind1 : Int} {none1 : Int} {l1 : (List ATy)} {r_1 : ATy} (hm : Dr kind1 none1 l1 = some r_1) : Fn0 Tryz.prog 47 [.i64 kind1, .i64 none1, .list 2 ATy.d l1] (ATy.d r_1) := by
 unfold Dr at hm;refine Ae func47 Uj ntmps47 Uj fun H0 fr w0 => ?_;refine zq2 ?_;refine Be fun b1 => ?_;refine zq8 ?_;refine zcn hm (fun hc1 hm => ?_) (fun hc1 hm => ?_)
 ·refine zq3 ?_
  refine Ah Uj Uj Uj (Aw (zs := [.v (.int .i64 0), .v (.int .i64 0), .v (.int .i64 0), .list 2 AFd.d []]) runUnderlying44 zeroValue44 (KB _ runUnderlying44) rfl Uj Uj Uj) ?_;refine Ah Uj Uj Uj (Ac (xs := [_]) (f := ANd.d) (l := [(⟨none1, 0, 0, ([] : List AFd)⟩ : ANd)]) runUnderlying22 sizeOf44 zeroValue44 Uj Uj Uj (fun _ => ⟨rfl, rfl, rfl⟩) rfl) ?_;refine Ah Uj Uj Uj (Aw (zs := [.list 4 ANd.d [], .v (.int .i64 0)]) runUnderlying24 zeroValue24 (Gl _ runUnderlying24) rfl Uj Uj Uj) ?_;refine zst 0 ?_;refine Ag (ms' := [box b1 24 [_, _]]) rfl ?_;refine gNl ?_
  cases hm; exact Af zr1
 ·refine zq4 ?_
  obtain ⟨x1, hx1, hm⟩ := bS hm;refine zq2 ?_;refine Be fun b2 => ?_;refine zst 0 ?_;refine Ag (ms' := [box b2 24 [_, _], box b1 24 [_, _]]) rfl ?_;refine zq6 ?_;obtain ⟨o_1, hj1, hm1⟩ := bS hm;refine Ak [(6, _), (7, _)] [(1, _)] (fun (st : ((List ANd) × Int)) (hid : Unit) => match st, hid with | (z1, z2), _ => []) (fun F (st : ((List ANd) × Int)) (hid : Unit) => match st, hid with | (z1, z2), _ => [box b2 24 [.list 4 ANd.d z1, .i64 z2], (nthF F 0)]) (fun st => st = o_1) ⟨rfl, rfl, trivial⟩ ⟨rfl, trivial⟩ ?_ ?_
  ·refine Aj ?_
   refine Ai [(0, _), (2, _), (6, _), (7, _)] [(1, _)] (fun (st : (Int × (List ANd) × Int)) (hid : Unit) => match st, hid with | (i1, z3, z4), _ => [(8, .i64 i1)]) (fun F (st : (Int × (List ANd) × Int)) (hid : Unit) => match st, hid with | (i1, z3, z4), _ => [box b2 24 [.list 4 ANd.d z3, .i64 z4], (nthF F 0)]) () hj1 (fun _ => rfl) ⟨rfl, rfl, rfl, rfl, trivial⟩ ⟨rfl, trivial⟩ ⟨rfl, trivial⟩ rfl ?_;rintro n ⟨i1, z3, z4⟩ _ hj1;rw [DV] at hj1;refine Av (L' := [(8, .i64 i1), (0, _), (2, _), (6, _), (7, _)]) (ms' := [box b2 24 [.list 4 ANd.d z3, .i64 z4], _]) rfl Uj ?_;refine zq8 ?_;refine zcn hj1 (fun hc2 hj1 => ?_) (fun hc2 hj1 => ?_)
   ·refine zq3 ?_
    obtain ⟨x2, hx2, hj1⟩ := bS hj1;obtain ⟨x3, hx3, hj1⟩ := bS hj1;refine zdr 7 ?_;refine zq6 ?_;refine zcd (J1 hx3) ?_;refine Cq ?_;refine zst 0 ?_;refine Ag (ms' := [box b2 24 [_, _], box b1 24 [_, _]]) rfl ?_;refine zq3 ?_;obtain ⟨hg4, hj1⟩ := Aa hj1;refine zq3 ?_;exact ⟨_, (), hj1, ⟨rfl, trivial⟩, ⟨rfl, rfl, rfl, rfl, trivial⟩, [], rfl⟩
   ·refine Ap ?_
    exact ⟨_, (), Ad hj1, trivial, ⟨rfl, rfl, trivial⟩, [], rfl⟩
  ·rintro ⟨z1, z2⟩ _ hst
   subst hst;refine Aq (L' := [(6, _), (7, _)]) (ms' := [box b2 24 [.list 4 ANd.d z1, .i64 z2], _]) rfl Uj ?_;refine zq3 ?_;refine zst 1 ?_;refine Ag (ms' := [box b2 24 [_, _], box b1 24 [_, _]]) rfl ?_;refine gNl ?_
   cases hm1; exact Af zr1
noncomputable def Eo (l1 : (List ATy)) : Option Bool :=
 (Fm l1 3).bind fun x1 =>
 (Fm x1 3).bind fun x2 =>
 (EX x2).bind fun (x3, x4) =>
 (Fm x1 3).bind fun x5 =>
 (EN x5).bind fun (x6, x7) =>
 (Gi x1).bind fun x8 =>
 bif (!decide (x8 = 0)) then
  (bif ((decide (x4 = x8)) && (decide (x7 = x8))) then (grd (InR ((x3.l.length : Int) + (x6.l.length : Int))) <|
  some (decide (((x3.l.length : Int) + (x6.l.length : Int)) = 0))) else (some false)).bind fun p1 =>
  (bif p1 then ((Ex).bind fun x9 =>
  some x9) else (some false)).bind fun p2 =>
  some p2
 else
  bif (!decide (x4 = 0)) then (some false) else (bif (!decide (x7 = 0)) then (some false) else ((Dr 9 2 x1).bind fun x10 =>
  (Bf (⟨x3.l, x3.root⟩ : ATy) x10).bind fun x11 =>
  bif (!x11) then (some false) else ((Dr 10 1 x1).bind fun x12 =>
  (Bf (⟨x6.l, x6.root⟩ : ATy) x12).bind fun x13 =>
  bif (!x13) then
   some false
  else
   bif (decide ((x1.length : Int) < 2)) then
    (Ex).bind fun x14 =>
    some x14
   else
    (idx x1 0).bind fun x15 =>
    (idx x1 1).bind fun x16 =>
    (CK x15 x16).bind fun (x17, x18) =>
    bif (decide (x18 = 0)) then ((idx x1 0).bind fun x19 =>
    (idx x1 1).bind fun x20 =>
    (Fb 6 x19 x20).bind fun x21 =>
    (Bf (⟨x17.l, x17.root⟩ : ATy) x21).bind fun x22 =>
    bif x22 then ((Ex).bind fun x23 =>
    some x23) else (some false)) else (some false))))
theorem w_lo_BoundMakes {l1 : (List ATy)} {r_1 : Bool} (hm : Eo l1 = some r_1) : Fn0 Tryz.prog 12 [.list 2 ATy.d l1] (.bool r_1) := by
 unfold Eo at hm;refine Ae func12 Uj ntmps12 Uj fun H0 fr w0 => ?_;refine zq7 ?_;obtain ⟨x1, hx1, hm⟩ := bS hm;refine zc0 (K1 hx1) ?_;refine zq5 ?_;obtain ⟨x2, hx2, hm⟩ := bS hm;refine zc0 (K1 hx2) ?_;obtain ⟨⟨x3, x4⟩, hx3, hm⟩ := bS hm;refine zc0 (NC hx3) ?_;refine zq3 ?_;refine Be fun b1 => ?_;refine zst 0 ?_;refine Ag (ms' := [box b1 24 [_, _]]) rfl ?_;refine zq5 ?_;obtain ⟨x5, hx4, hm⟩ := bS hm;refine zc0 (K1 hx4) ?_;obtain ⟨⟨x6, x7⟩, hx5, hm⟩ := bS hm;refine zc0 (NL hx5) ?_;refine zq3 ?_;refine Be fun b2 => ?_;refine zst 0 ?_;refine Ag (ms' := [box b2 24 [_, _], box b1 24 [_, _]]) rfl ?_;refine zq6 ?_;obtain ⟨x8, hx6, hm⟩ := bS hm;refine zc0 (Pq hx6) ?_;refine zq7 ?_;refine zcn hm (fun hc1 hm => ?_) (fun hc1 hm => ?_)
 ·refine zq6 ?_
  apply Bw [(3, _), (5, _)] 4 35 (t := 31) ⟨rfl, rfl, trivial⟩ rfl
  ·intro hg_1 hk1
   refine zq4 ?_;exact zgm hk1
  ·intro hg_1 hk1
   refine zq4 ?_;exact zgm hk1
  refine zq1 ?_;obtain ⟨p1, hp_2, hm⟩ := bS hm;refine AP [] 9 45 p1 (t := 36) trivial Uj (fun hg_2 hk2 => ?_) (fun hg_2 hk2 => ?_) ?_
  ·replace hp_2 := AR hg_2 hp_2
   refine zq6 ?_;obtain ⟨hg7, hp_2⟩ := Aa hp_2;refine zq3 ?_;exact zgb hk2 hp_2
  ·replace hp_2 := AQ hg_2 hp_2
   refine zq9 ?_;exact zgb hk2 hp_2
  refine zq1 ?_;obtain ⟨p2, hp_3, hm⟩ := bS hm;refine AP [] 2 48 p2 (t := 46) trivial Uj (fun hg_3 hk3 => ?_) (fun hg_3 hk3 => ?_) ?_
  ·replace hp_3 := AR hg_3 hp_3
   obtain ⟨x9, hx8, hp_3⟩ := bS hp_3;refine zcw (I7 hx8) ?_;refine zq1 ?_;exact zgb hk3 hp_3
  ·replace hp_3 := AQ hg_3 hp_3
   refine zq2 ?_;exact zgb hk3 hp_3
  refine zq2 ?_
  cases hm; exact Af zr1
 ·refine zq3 ?_
  rcases Cl hm with ⟨hg_4, hm⟩ | ⟨hg_4, hm⟩
  ·
   skip
   refine zdr 20 ?_;refine zq22 ?_;refine EG Uj Uj ?_;refine zq4 ?_
   cases hm; exact Af zr1
  ·
   skip
   rcases Cl hm with ⟨hg_5, hm⟩ | ⟨hg_5, hm⟩
   ·
    skip
    refine zdr 20 ?_;refine zq22 ?_;refine EG Uj Uj ?_;refine zq4 ?_
    cases hm; exact Af zr1
   ·
    skip
    obtain ⟨x10, hx9, hm⟩ := bS hm;obtain ⟨x11, hx10, hm⟩ := bS hm
    rcases Cl hm with ⟨hg_6, hm⟩ | ⟨hg_6, hm⟩
    ·
     skip
     refine zdr 20 ?_;refine zq9 ?_;refine zce (Md hx9) ?_;refine zce (F7 hx10) ?_;refine zq11 ?_;refine EG Uj Uj ?_;refine zq4 ?_
     cases hm; exact Af zr1
    ·
     skip
     obtain ⟨x12, hx11, hm⟩ := bS hm;obtain ⟨x13, hx12, hm⟩ := bS hm;refine zdr 20 ?_;refine zq9 ?_;refine zce (Md hx9) ?_;refine zce (F7 hx10) ?_;refine zq5 ?_;refine zce (Md hx11) ?_;refine zce (F7 hx12) ?_;refine zq4 ?_;refine zcn hm (fun hc2 hm => ?_) (fun hc2 hm => ?_)
     ·refine zq4 ?_
      cases hm; exact Af zr1
     ·refine zq8 ?_
      refine zcn hm (fun hc3 hm => ?_) (fun hc3 hm => ?_)
      ·refine zq2 ?_
       obtain ⟨x14, hx13, hm⟩ := bS hm;refine zc0 (I7 hx13) ?_;refine zq2 ?_
       cases hm; exact Af zr1
      ·refine zq2 ?_
       obtain ⟨x15, hx14, hm⟩ := bS hm;obtain ⟨x16, hx15, hm⟩ := bS hm;obtain ⟨⟨x17, x18⟩, hx16, hm⟩ := bS hm;refine Du [10, 11] [0, 1, 2, 3, 4, 5, 6, 7, 8, 9, 12] [] AC (by decide +kernel) (by decide +kernel) rfl ?_;refine Ar Uj Uj Uj Uj Uj Uj (oMv Uj) ?_;refine Ar Uj Uj Uj Uj Uj Uj (oIm runUnderlying53 sizeOf24 Uj Uj hx14) ?_;refine Ar Uj Uj Uj Uj Uj Uj (Bq isAgg24 sizeOf24 Uj Uj) ?_;refine Ar Uj Uj Uj Uj Uj Uj (oMv Uj) ?_;refine Ar Uj Uj Uj Uj Uj Uj (oIm runUnderlying53 sizeOf24 Uj Uj hx15) ?_;refine Ar Uj Uj Uj Uj Uj Uj (Bq isAgg24 sizeOf24 Uj Uj) ?_;refine Ar Uj Uj Uj Uj Uj Uj (A2 call48 Uj (IR hx16)) ?_;refine Ar Uj Uj Uj Uj Uj Uj (oMv Uj) ?_;refine Ar Uj Uj Uj Uj Uj Uj (Ci Uj Uj) ?_;refine Ar Uj Uj Uj Uj Uj Uj (Ci Uj Uj) ?_;refine Ds Uj ?_;refine Ds Uj ?_;refine Ar Uj Uj Uj Uj Uj Uj (oAs Uj) ?_;refine Es ?_;refine F6 Uj Uj Uj Uj (Ay zeroValue24 (cs := [.list 4 ANd.d [], .i64 0]) rfl) ?_;rintro _ _ ⟨b3, rfl, rfl⟩;refine ⟨(trivial : True), ?_⟩;refine Cn Uj Uj Uj (oSb 0 sizeOf24 Uj Uj Uj Uj Uj Uj Uj Uj (nB Uj)) ?_;rintro _ _ rfl;refine ⟨(trivial : True), ?_⟩;refine BH ?_;refine AO ?_
       rcases Cl hm with ⟨hg_7, hm⟩ | ⟨hg_7, hm⟩
       ·
        skip
        obtain ⟨x19, hx17, hm⟩ := bS hm;obtain ⟨x20, hx18, hm⟩ := bS hm;obtain ⟨x21, hx19, hm⟩ := bS hm;obtain ⟨x22, hx20, hm⟩ := bS hm
        rcases Cl hm with ⟨hg_8, hm⟩ | ⟨hg_8, hm⟩
        ·
         skip
         obtain ⟨x23, hx21, hm⟩ := bS hm;refine zdr 17 ?_;refine zq5 ?_;refine Ff Uj Uj Uj hg_7 Uj Uj (oIm runUnderlying53 sizeOf24 Uj Uj hx17) ?_;refine zq2 ?_;refine Ff Uj Uj Uj hg_7 Uj Uj (oIm runUnderlying53 sizeOf24 Uj Uj hx18) ?_;refine zq1 ?_;refine zce (J1 hx19) ?_;refine zce (F7 hx20) ?_;refine zq2 ?_;refine zce (I7 hx21) ?_;refine zq4 ?_
         cases hm; exact Af zr1
        ·
         skip
         refine zdr 17 ?_;refine zq5 ?_;refine Ff Uj Uj Uj hg_7 Uj Uj (oIm runUnderlying53 sizeOf24 Uj Uj hx17) ?_;refine zq2 ?_;refine Ff Uj Uj Uj hg_7 Uj Uj (oIm runUnderlying53 sizeOf24 Uj Uj hx18) ?_;refine zq1 ?_;refine zce (J1 hx19) ?_;refine zce (F7 hx20) ?_;refine zq7 ?_
         cases hm; exact Af zr1
       ·
        skip
        refine zdr 17 ?_;refine zq19 ?_
        cases hm; exact Af zr1
end Go.Proofs.YtkfnogdccpcmhaaGreatDoor
namespace Go.Proofs.YtkfnogdccpcmhaaGreatDoor
open Go.V Tryz
open Classical
theorem Ql (x : List Int) (hx : x.length <= 1000) : ∀ (n q : Nat) (l : List Int), q <= x.length -> q < n -> l.length + q <= 1000000000 -> Dx x n ((q : Int) - 1, l) = some (l ++ (x.take q).reverse)
 | 0, q, l, _, h, _ => by omega
 | n + 1, 0, l, _, _, _ => by
  simp only [Dx];rw [dF (by omega), cF_]; simp
 | n + 1, q + 1, l, hq, hn, hl => by
  have hxq : x[q]? = some x[q] := List.getElem?_eq_getElem (by omega)
  simp only [Dx];rw [dT (by omega), cT, show (((q + 1 : Nat) : Int) - 1) = (q : Int) by omega, getI hxq, oB, Ab (by simp only [List.length_cons, List.length_nil]; omega), Ab (by omega), Ql x hx n q (l ++ [x[q]]) (by omega) (by omega) (by simp only [List.length_append, List.length_cons, List.length_nil]; omega)];rw [List.take_succ_eq_append_getElem (by omega), List.reverse_append]
  simp
theorem QU (l : List Int) (x : Int) (h : l.length <= 1000000000) : Fj l x = some (decide (x ∈ l)) := by
 unfold Fj;rw [HX (φ := Da l x) (l := l) true (fun _ k => k = x) ?_ ?_ (by rw [FUv]; omega), oB]
 ·have e : (∃ (i : Nat) (y : Int), l[i]? = some y /\ y = x) ↔ x ∈ l := by
   constructor
   ·rintro ⟨i, y, h1, rfl⟩; exact List.mem_of_getElem? h1
   ·intro h1; obtain ⟨i, hi⟩ := List.getElem?_of_mem h1; exact ⟨i, x, hi, rfl⟩
  by_cases h2 : x ∈ l
  ·rw [if_pos (e.2 h2), dT h2]; rfl
  ·rw [if_neg (fun h3 => h2 (e.1 h3)), dF h2]; rfl
 ·intro n i y hy hi
  simp only [Da];rw [dT (show (i : Int) < l.length by omega), cT, getI hy, oB]
  by_cases h2 : y = x
  ·rw [dT h2]; exact ⟨fun h => absurd h2 h, fun _ => rfl⟩
  ·rw [dF h2]; exact ⟨fun _ => by rw [cF_, Ab (by omega)], fun h => absurd h h2⟩
 ·intro n
  simp only [Da];rw [dF (by omega), cF_]
theorem Il {t : ATy} (hR : InL t.l) (hN : ∀ n ∈ t.l, NB n) (hlen : t.l.length <= 2001) : ∀ (n : Nat) (s out : List Int) (seen : List Bool), (∀ x ∈ s, 0 <= x /\ x < (t.l.length : Int)) -> seen.length = t.l.length ->
  (∀ i : Nat, seen[i]? = some true ↔ ((i : Int) ∈ out /\ i < t.l.length)) -> out.length + s.length + wt (kat t.l) t.l.length out <= 100000000 -> s.length + wt (kat t.l) t.l.length out < n ->
  ∃ ys, DQ t n (s.reverse, seen) = some ys /\ dfs (kat t.l) n s out = out ++ ys /\ Cc t n (s.reverse, out) = some ([], out ++ ys)
 | 0, s, out, seen, _, _, _, _, h => by omega
 | n + 1, [], out, seen, _, _, _, _, _ => by
  refine ⟨[], ?_, by simp [dfs], ?_⟩
  ·simp only [DQ, List.reverse_nil, List.length_nil]; rfl
  ·simp only [Cc, List.reverse_nil, List.length_nil, List.append_nil]; rfl
 | n + 1, x :: s, out, seen, hs, hsl, hse, hB, hn => by
  obtain ⟨x0, x1⟩ := hs x (by simp);obtain ⟨i, rfl⟩ := Int.eq_ofNat_of_zero_le x0
  have hi : i < t.l.length := by omega
  have hx : t.l[i]? = some t.l[i] := List.getElem?_eq_getElem hi
  have hv : seen[i]? = some (seen[i]'(by omega)) := List.getElem?_eq_getElem (by omega)
  have hk : kat t.l (i : Int) = kidsL t.l[i] := by unfold kat; rw [Int.toNat_natCast, hx]
  have hkl := P7 hN (i : Int)
  have hNi := hN _ (List.getElem_mem hi)
  simp only [List.length_cons] at hB hn;rw [List.reverse_cons]
  have hl1 : (s.reverse ++ [(i : Int)]).length = s.length + 1 := by simp
  simp only [DQ, Cc];rw [dT (show (0 : Int) < ((s.reverse ++ [(i : Int)]).length : Int) by rw [hl1]; omega), cT, Ab (by rw [hl1]; omega), lastI, oB, Ab (by rw [hl1]; omega), initI, oB, getI hv, oB, cT, Ab (by rw [hl1]; omega), oB, oB, Ab (by rw [hl1]; omega), oB, QU out _ (by omega), oB]
  have hd : dfs (kat t.l) (n + 1) ((i : Int) :: s) out = if (i : Int) ∈ out then dfs (kat t.l) n s out else dfs (kat t.l) n (kat t.l i ++ s) (out ++ [(i : Int)]) := rfl
  rw [hd]
  by_cases ho : (i : Int) ∈ out
  ·have h1 : seen[i]'(by omega) = true := by have := (hse i).2 ⟨ho, hi⟩; rw [hv] at this; exact Option.some.inj this
   rw [h1, cT, if_pos ho, dT ho, cT];exact Il hR hN hlen n s out seen (fun x hx => hs x (by simp [hx])) hsl hse (by omega) (by omega)
  ·have h1 : seen[i]'(by omega) = false := by
    cases hq : seen[i]'(by omega) with
    | false => rfl
    | true => exact absurd ((hse i).1 (by rw [hv, hq])).1 ho
   have hw := SA (K := kat t.l) hi ho
   obtain ⟨ys, e1, e2, e3⟩ := Il hR hN hlen n (kat t.l i ++ s) (out ++ [(i : Int)]) (seen.set i true) (fun y hy => by
    rcases List.mem_append.1 hy with hy | hy
    ·exact Px hR _ _ hy
    ·exact hs y (by simp [hy])) (by simpa using hsl) (fun j => by
    rw [List.getElem?_set]
    by_cases hij : i = j
    ·subst hij; simp; omega
    ·rw [if_neg hij, hse j]; simp; omega) (by simp only [List.length_append, List.length_cons, List.length_nil]; omega) (by simp only [List.length_append]; omega)
   rw [h1, cF_, if_neg ho, dF ho, cF_, getI hx, oB, No _ hNi, oB, <- hk, Ab (by omega), Pl _ (by omega), oB, Ab (by simp only [List.length_reverse]; omega), Int.toNat_natCast];refine ⟨(i : Int) :: ys, ?_, by rw [e2]; simp, ?_⟩
   ·rw [List.reverse_append] at e1
    rw [e1]; rfl
   ·rw [Ab (by simp only [List.length_cons, List.length_nil]; omega), oB, KZ _ hNi, oB, <- hk, Ab (by omega), Ql _ (by omega) FU _ _ (Nat.le_refl _) (by rw [FUv]; omega) (by simp only [List.length_reverse]; omega), oB, List.take_length]
    rw [List.reverse_append] at e3;rw [e3]; simp
theorem LH {t : ATy} (hR : InL t.l) (hN : ∀ n ∈ t.l, NB n) (hlen : t.l.length <= 2001) {root : Int} (h0 : 0 <= root) (h1 : root < (t.l.length : Int)) :
  Hj t root = some (AM t.l root) /\ Gb t root = some (AM t.l root) := by
 have hw := Ok hN []
 obtain ⟨ys, e1, e2, e3⟩ := Il hR hN hlen FU [root] [] (List.replicate t.l.length false) (fun x hx => by simp at hx; subst hx; exact ⟨h0, h1⟩) (by simp) (fun i => by rw [List.getElem?_replicate]; split <;> simp) (by simp only [List.length_cons, List.length_nil]; omega) (by rw [FUv]; simp only [List.length_cons, List.length_nil]; omega);rw [List.nil_append] at e2 e3
 constructor
 ·unfold Hj
  rw [Ab (by omega), Ab (by omega), Int.toNat_natCast]
  show DQ t FU ([root].reverse, _) = _
  rw [e1, AM, e2]
 ·unfold Gb
  show (Cc t FU ([root].reverse, [])).bind _ = _
  rw [e3, AM, e2]; rfl
def BA (L : List ANd) (x : Int) : ANd := match L[x.toNat]? with
 | some n => n
 | none => ⟨0, 0, 0, []⟩
noncomputable def posOf (B : List Int) (k : Int) : Int := if k ∈ B then ((B.idxOf k : Nat) : Int) else 0
theorem F5 {L : List ANd} {x : Int} (h0 : 0 <= x) (h1 : x < (L.length : Int)) : idx L x = some (BA L x) /\ BA L x ∈ L := by
 have hn : L[x.toNat]? = some (L[x.toNat]'(by omega)) := List.getElem?_eq_getElem (by omega)
 unfold BA idx;rw [if_pos h0, hn];exact ⟨rfl, List.getElem_mem _⟩
theorem On : ∀ (xs l : List Int) (mm : List (Int × Int)), xs.Nodup -> l.length + xs.length <= 1000000 -> ∃ mm', B7 xs (l, mm) = some (l ++ xs, mm') /\ ∀ k, mget mm' k = if k ∈ xs then some (((l.length + xs.idxOf k : Nat)) : Int) else mget mm k
 | [], l, mm, _, _ => ⟨mm, by simp [B7], fun k => by simp⟩
 | x :: xs, l, mm, hn, hl => by
  rw [List.nodup_cons] at hn;simp only [List.length_cons] at hl;obtain ⟨mm', e1, e2⟩ := On xs (l ++ [x]) (mset mm x (l.length : Int)) hn.2 (by simp only [List.length_append, List.length_cons, List.length_nil]; omega);refine ⟨mm', ?_, fun k => ?_⟩
  ·unfold B7
   rw [Ab (by simp only [List.length_cons, List.length_nil]; omega), e1]; simp
  ·rw [e2 k, JH]
   by_cases hk : k ∈ xs
   ·have hkx : ¬ x = k := fun e => hn.1 (e ▸ hk)
    rw [if_pos hk, if_pos (by simp [hk]), List.idxOf_cons]
    have : (x == k) = false := by simp [hkx]
    rw [this];simp only [List.length_append, List.length_cons, List.length_nil, cF_]
    congr 2; omega
   ·rw [if_neg hk]
    by_cases hkx : k = x
    ·subst hkx
     rw [if_pos rfl, if_pos (by simp), List.idxOf_cons]
     simp
    ·rw [if_neg hkx, if_neg (by simp [hk, hkx])]
noncomputable def normL (L : List ANd) (root : Int) : List ANd := (AM L root).map (fun x => Au (posOf (AM L root)) (BA L x))
theorem ST {t : ATy} (hA : Bg t.l) (hN : ∀ n ∈ t.l, NB n) (hlen : t.l.length <= 2001) {root : Int} (h0 : 0 <= root) (h1 : root < (t.l.length : Int)) : EP t root = some ⟨normL t.l root, 0⟩ := by
 obtain ⟨b1, b2, b3⟩ := CC (AD hA) h0 h1;unfold EP;rw [(LH (AD hA) hN hlen h0 h1).1, oB]
 generalize hB : AM t.l root = B at *
 obtain ⟨mm, e1, e2⟩ := On B [] [] b2 (by simp only [List.length_nil]; omega);rw [List.nil_append] at e1;rw [e1, oB]
 dsimp only
 have hp : ∀ k, DT k mm = some (posOf B k) := by
  intro k
  unfold DT posOf;rw [e2 k]
  by_cases hk : k ∈ B
  ·rw [if_pos hk, if_pos hk]; simp
  ·rw [if_neg hk, if_neg hk]; rfl
 rw [CF (φ := fun n i s => Cw t B mm n (i, s, 0)) (l := B) (fun x => Au (posOf B) (BA t.l x)) (fun s => (s, 0)) 0 ?_ ?_ (by rw [FUv]; omega) [] rfl]
 ·rw [oB]
  dsimp only
  unfold normL;rw [hB]; rfl
 ·intro n i x s hx hi hs
  obtain ⟨x0, x1⟩ := b1 x (List.mem_of_getElem? hx);obtain ⟨ix, hm⟩ := F5 x0 x1;simp only [Cw];rw [dT (show (i : Int) < B.length by omega), cT, getI hx, oB, ix, oB, LG _ _ (posOf B) (hN _ hm) (fun _ => ⟨hp _, hp _⟩) (fun y _ => hp _), oB, Ab (by simp only [List.length_cons, List.length_nil]; omega), Ab (by omega)]
 ·intro n s hs
  simp only [Cw];rw [dF (by omega), cF_]
end Go.Proofs.YtkfnogdccpcmhaaGreatDoor
namespace Go.Proofs.YtkfnogdccpcmhaaGreatDoor
open Go.V Tryz
open Classical
theorem RH (n : ANd) (all : Int) (f : Int -> Int) (h : NB n) (hr : Bi n all = true) : G0 n ((kidsL n).map f) = some (Au f n) := by
 have hz : (!((!pB n.kind) && ((!decide (n.b = 0)) || ((!decide (n.kind = 11)) && (!decide (n.a = 0)))))) = true := by
  unfold Bi at hr;simp only [Bool.and_eq_true] at hr;exact hr.2.1
 have hlen : n.l.length <= 40 := h
 have key : ∀ z1 z2 z3, Dg n ((kidsL n).map f) FU (0, [], z1, z2, z3) = some (n.l.map (fun x => ⟨x.name, f x.at_⟩), z1, z2, z3) := by
  intro z1 z2 z3
  rw [CF (φ := fun m i s => Dg n ((kidsL n).map f) m (i, s, z1, z2, z3)) (l := n.l) (fun x => (⟨x.name, f x.at_⟩ : AFd)) (fun s => (s, z1, z2, z3)) 0 ?_ ?_ (by rw [FUv]; omega) [] rfl]
  ·rfl
  ·intro m i x s hx hi hs
   have hw : wB n.kind = true := by
    cases hw : wB n.kind with
    | true => rfl
    | false => rw [Jd hr hw] at hx; simp at hx
   have hk : kidsL n = n.l.map (·.at_) := by unfold kidsL; rw [Rz hw, cF_, hw, cT]
   have hy : ((kidsL n).map f)[i]? = some (f x.at_) := by rw [hk, List.getElem?_map, List.getElem?_map, hx]; rfl
   simp only [Dg];rw [dT (show (i : Int) < n.l.length by omega), cT, getI hx, oB, getI hy, oB, Ab (by simp only [List.length_cons, List.length_nil]; omega), Ab (by omega)]
  ·intro m s hs
   simp only [Dg];rw [dF (by omega), cF_]
 unfold G0 Au
 change ((bif decide (n.kind = 11) then _ else _ : Option ((List AFd) × Int × Int × Int)).bind fun q => (bif pB n.kind then _ else _ : Option ((List AFd) × Int × Int × Int)).bind _) = _
 cases hp : pB n.kind with
 | true =>
  have h11 : ¬ n.kind = 11 := fun e => by rw [e] at hp; exact absurd hp (by decide)
  have hk : kidsL n = [n.a, n.b] := by unfold kidsL; rw [hp, cT]
  rw [dF h11, cF_, oB]
  dsimp only
  rw [cT, show idx ((kidsL n).map f) 0 = some (f n.a) by rw [hk]; rfl, oB, show idx ((kidsL n).map f) 1 = some (f n.b) by rw [hk]; rfl, oB, oB]
  dsimp only
  rw [key, oB]; rfl
 | false =>
  rw [hp] at hz;simp only [Bool.not_false, Bool.true_and, Bool.not_eq_true', Bool.or_eq_false_iff, Bool.and_eq_false_iff, decide_eq_true_eq, Bool.not_eq_false'] at hz;obtain ⟨hb, ha⟩ := hz
  by_cases h11 : n.kind = 11
  ·rw [dT h11, cT, oB]
   dsimp only
   rw [cF_, oB]
   dsimp only
   rw [key, oB, hb]; rfl
  ·have ha0 : n.a = 0 := by
    rcases ha with ha | ha
    ·exact absurd ha h11
    ·exact ha
   rw [dF h11, cF_, oB]
   dsimp only
   rw [cF_, oB]
   dsimp only
   rw [key, oB, hb, ha0]; rfl
theorem M3 {B : List Int} {i : Nat} {x : Int} (hn : B.Nodup) (hx : B[i]? = some x) : B.idxOf x = i := by
 have hi := getLt hx
 have e : B[i] = x := by rw [List.getElem?_eq_getElem hi] at hx; exact Option.some.inj hx
 rw [<- e]; exact List.Nodup.idxOf_getElem hn i hi
theorem Ri (B : List Int) (len : Nat) (hn : B.Nodup) (hB : ∀ x ∈ B, 0 <= x /\ x < (len : Int)) (hl : B.length <= 2001) :
  ∃ A, Di B FU (0, List.replicate len 0) = some A /\ A.length = len /\ ∀ k : Nat, k < len -> A[k]? = some (posOf B (k : Int)) := by
 obtain ⟨A, e1, e2, e3⟩ := AU (φ := fun n i s => Di B n (i, s)) (l := B)
  (fun i s => s.length = len /\ ∀ k : Nat, k < len -> s[k]? = some (if (k : Int) ∈ B.take i then ((B.idxOf (k : Int) : Nat) : Int) else 0))
  (fun A => A.length = len /\ ∀ k : Nat, k < len -> A[k]? = some (posOf B (k : Int)))
  (by
   rintro n i x s hx hi ⟨s1, s2⟩;obtain ⟨x0, x1⟩ := hB x (List.mem_of_getElem? hx);obtain ⟨a, rfl⟩ := Int.eq_ofNat_of_zero_le x0
   have ha : a < len := by omega
   have hy : s[a]? = some (s[a]'(by omega)) := List.getElem?_eq_getElem (by omega)
   refine .inl ⟨s.set a (i : Int), ?_, by simpa using s1, fun k hk => ?_⟩
   ·simp only [Di]
    rw [dT (show (i : Int) < B.length by omega), cT, getI hx, oB, getI hy, oB, Ab (by omega), Int.toNat_natCast]
   ·have hBi : B[i] = (a : Int) := by rw [List.getElem?_eq_getElem hi] at hx; exact Option.some.inj hx
    rw [List.take_succ_eq_append_getElem hi, hBi]
    by_cases hka : k = a
    ·subst hka
     rw [List.getElem?_set_self (by omega), if_pos (by simp), M3 hn hx]
    ·rw [List.getElem?_set_ne (by omega), s2 k hk]
     have e : ((k : Int) ∈ B.take i ++ [(a : Int)]) ↔ (k : Int) ∈ B.take i := by simp; omega
     by_cases h : (k : Int) ∈ B.take i
     ·rw [if_pos h, if_pos (e.2 h)]
     ·rw [if_neg h, if_neg (fun h2 => h (e.1 h2))])
  (by
   rintro n s ⟨s1, s2⟩;refine ⟨s, ?_, s1, fun k hk => ?_⟩
   ·simp only [Di]
    rw [dF (by omega), cF_]
   ·rw [s2 k hk, List.take_length]; rfl) (by rw [FUv]; omega) (List.replicate len 0) ⟨by simp, fun k hk => by simp [hk]⟩
 exact ⟨A, e1, e2, e3⟩
theorem Pd (A ks : List Int) (f : Int -> Int) (hk : ∀ k ∈ ks, idx A k = some (f k)) (hl : ks.length <= 1000) : Do A ks FU (0, []) = some (ks.map f) := by
 rw [CF (φ := fun n i s => Do A ks n (i, s)) (l := ks) f id 0 ?_ ?_ (by rw [FUv]; omega) [] rfl]
 ·rfl
 ·intro n i x s hx hi hs
  simp only [Do];rw [dT (show (i : Int) < ks.length by omega), cT, getI hx, oB, hk x (List.mem_of_getElem? hx), oB, Ab (by simp only [List.length_cons, List.length_nil]; omega), Ab (by omega)]
 ·intro n s hs
  simp only [Do];rw [dF (by omega), cF_]; rfl
theorem Sm {t : ATy} (hA : Bg t.l) (hN : ∀ n ∈ t.l, NB n) (hlen : t.l.length <= 2001) {root : Int} (h0 : 0 <= root) (h1 : root < (t.l.length : Int)) : GT t root = some ⟨normL t.l root, 0⟩ := by
 obtain ⟨b1, b2, b3⟩ := CC (AD hA) h0 h1;unfold GT;rw [(LH (AD hA) hN hlen h0 h1).2, oB, Ab (by omega), Ab (by omega), Int.toNat_natCast]
 generalize hB : AM t.l root = B at *
 obtain ⟨A, a1, a2, a3⟩ := Ri B t.l.length b2 b1 (by omega);rw [a1, oB]
 have hp : ∀ k, 0 <= k -> k < (t.l.length : Int) -> idx A k = some (posOf B k) := by
  intro k k0 k1
  obtain ⟨q, rfl⟩ := Int.eq_ofNat_of_zero_le k0;exact getI (a3 q (by omega))
 rw [CF (φ := fun n i s => D0 t B A n (i, s, 0)) (l := B) (fun x => Au (posOf B) (BA t.l x)) (fun s => (s, 0)) 0 ?_ ?_ (by rw [FUv]; omega) [] rfl]
 ·rw [oB]
  dsimp only
  unfold normL;rw [hB]; rfl
 ·intro n i x s hx hi hs
  obtain ⟨x0, x1⟩ := b1 x (List.mem_of_getElem? hx);obtain ⟨ix, hm⟩ := F5 x0 x1
  have hr := hA _ hm
  have hkl := GR _ (hN _ hm)
  simp only [D0];rw [dT (show (i : Int) < B.length by omega), cT, getI hx, oB, ix, oB, KZ _ (hN _ hm), oB, Pd A _ (posOf B) (fun k hk => by
   obtain ⟨k0, k1⟩ := JW hr k hk;exact hp k k0 k1) (by omega), oB, oB, ix, oB, RH _ _ (posOf B) (hN _ hm) hr, oB, Ab (by simp only [List.length_cons, List.length_nil]; omega), Ab (by omega)]
 ·intro n s hs
  simp only [D0];rw [dF (by omega), cF_]
end Go.Proofs.YtkfnogdccpcmhaaGreatDoor
namespace Go.Proofs.YtkfnogdccpcmhaaGreatDoor
open Go.V Tryz
open Classical
theorem Lu {L : List ANd} (hR : InL L) (hN : ∀ n ∈ L, NB n) {root : Int} (h0 : 0 <= root) (h1 : root < (L.length : Int)) : (∀ n ∈ normL L root, NB n) /\ (normL L root).length <= L.length := by
 obtain ⟨b1, b2, b3⟩ := CC hR h0 h1;unfold normL;refine ⟨fun n hn => ?_, by rw [List.length_map]; exact b3⟩;obtain ⟨x, hx, rfl⟩ := List.mem_map.1 hn;obtain ⟨x0, x1⟩ := b1 x hx;exact MH (hN _ (F5 x0 x1).2)
noncomputable def normT (t : ATy) : ATy × Int := if mayT t.l t.root = 0 then (⟨normL t.l t.root, 0⟩, 0) else (⟨[], 0⟩, mayT t.l t.root)
theorem SM (t : ATy) (hlen : t.l.length <= 2001) (hN : ∀ n ∈ t.l, NB n) : Bz t = some (normT t) := by
 unfold Bz normT;rw [K2 t hlen hN, oB]
 by_cases h : mayT t.l t.root = 0
 ·obtain ⟨_, _, r0, r1, hA, _⟩ := En h
  rw [dT h, if_pos h, Bool.not_true, cF_, ST hA hN hlen r0 r1, oB]
 ·rw [dF h, if_neg h]; rfl
theorem Tq {t : ATy} (hlen : t.l.length <= 2001) (hN : ∀ n ∈ t.l, NB n) (h : mayT t.l t.root = 0) : Bz t = some (⟨normL t.l t.root, 0⟩, 0) := by
 rw [SM t hlen hN]; unfold normT; rw [if_pos h]
end Go.Proofs.YtkfnogdccpcmhaaGreatDoor
namespace Go.Proofs.YtkfnogdccpcmhaaGreatDoor
open Go.V Tryz
open Classical
theorem Ko (f : Int -> Int) (n : ANd) : kidsL (Au f n) = (kidsL n).map f := by
 unfold kidsL Au
 dsimp only
 cases pB n.kind
 ·cases wB n.kind
  ·rfl
  ·simp only [cF_, cT, List.map_map]; rfl
 ·rfl
theorem Hn (f g : Int -> Int) (n : ANd) : Au f (Au g n) = Au (fun k => f (g k)) n := by
 unfold Au
 dsimp only
 cases pB n.kind <;> simp [List.map_map, Function.comp_def]
theorem Js {n : ANd} {all : Int} {f g : Int -> Int} (hr : Bi n all = true) (h : ∀ k ∈ kidsL n, f k = g k) : Au f n = Au g n := by
 have hw := Jd hr
 unfold kidsL at h;unfold Au
 cases hp : pB n.kind with
 | true =>
  rw [hp, cT] at h
  have hl : n.l = [] := hw (by
   cases hq : wB n.kind with
   | false => rfl
   | true => rw [Rz hq] at hp; cases hp)
  rw [hl, cT, cT, cT, cT, h n.a (by simp), h n.b (by simp)]
  rfl
 | false =>
  rw [hp, cF_] at h;rw [cF_, cF_, cF_, cF_]
  cases hq : wB n.kind with
  | false => rw [hw hq]; rfl
  | true =>
   rw [hq, cT] at h
   congr 1
   exact List.map_congr_left fun x hx => by rw [h x.at_ (List.mem_map.2 ⟨x, hx, rfl⟩)]
theorem NG {n : ANd} {f : Int -> Int} (h : Ev n) : Ev (Au f n) := by
 intro i x hx
 have hx2 : (n.l.map (fun x => (⟨x.name, f x.at_⟩ : AFd)))[i]? = some x := hx
 rw [List.getElem?_map] at hx2
 cases h0 : n.l[i]? with
 | none => rw [h0] at hx2; cases hx2
 | some x0 =>
  rw [h0] at hx2
  have e := Option.some.inj hx2
  subst e;obtain ⟨h1, h2⟩ := h i x0 h0;refine ⟨h1, fun hi y hy => ?_⟩
  have hy2 : (n.l.map (fun x => (⟨x.name, f x.at_⟩ : AFd)))[i - 1]? = some y := hy
  rw [List.getElem?_map] at hy2
  cases h3 : n.l[i - 1]? with
  | none => rw [h3] at hy2; cases hy2
  | some y0 =>
   rw [h3] at hy2
   have e := Option.some.inj hy2
   subst e;exact h2 hi y0 h3
theorem Og {n : ANd} {all all' : Int} {f : Int -> Int} (h : Bi n all = true) (hf : ∀ k ∈ kidsL n, 0 <= f k /\ f k < all') : Bi (Au f n) all' = true := by
 unfold Bi at h ⊢;simp only [Bool.and_eq_true] at h ⊢;obtain ⟨h1, h2, h3, h4, ⟨h5, h6⟩, _⟩ := h;refine ⟨h1, ?_, ?_, ?_, ⟨?_, ?_⟩, ?_⟩
 ·show (!((!pB n.kind) && ((!decide ((Au f n).b = 0)) || ((!decide (n.kind = 11)) && (!decide ((Au f n).a = 0)))))) = true
  cases hp : pB n.kind with
  | true => rfl
  | false =>
   rw [hp] at h2;unfold Au
   dsimp only
   rw [hp, cF_, cF_];exact h2
 ·show (!(decide (n.kind = 11) && (decide ((Au f n).a < 0) || decide (999 < (Au f n).a)))) = true
  cases hp : pB n.kind with
  | true =>
   have h11 : ¬ n.kind = 11 := fun e => by rw [e] at hp; exact absurd hp (by decide)
   rw [dF h11]; rfl
  | false =>
   unfold Au
   dsimp only
   rw [hp, cF_];exact h3
 ·show (!((!wB n.kind) && decide (0 < ((Au f n).l.length : Int)))) = true
  unfold Au;simp only [List.length_map];exact h4
 ·rw [decide_eq_true_eq] at h5 ⊢
  exact NG h5
 ·unfold Au
  simp only [List.length_map];exact h6
 ·rw [Bool.not_eq_true', decide_eq_false_iff_not]
  rintro ⟨k, hk, hb⟩;rw [Ko] at hk;obtain ⟨q, hq, rfl⟩ := List.mem_map.1 hk;obtain ⟨q0, q1⟩ := hf q hq;unfold inB at hb;rw [Bool.or_eq_true, decide_eq_true_eq, decide_eq_true_eq] at hb
  omega
theorem JE (L : List ANd) (x : Int) : kat L x = kidsL (BA L x) := by
 unfold kat BA
 cases L[x.toNat]? <;> rfl
theorem Kx {L : List ANd} {x : Int} (h0 : 0 <= x) (h1 : x < (L.length : Int)) : L[x.toNat]? = some (BA L x) := by
 have hn : L[x.toNat]? = some (L[x.toNat]'(by omega)) := List.getElem?_eq_getElem (by omega)
 unfold BA;rw [hn]
structure EmbL (L M : List ANd) (B : List Int) (f : Int -> Int) : Prop where
 inn : ∀ x ∈ B, 0 <= x /\ x < (L.length : Int)
 closed : ∀ x ∈ B, ∀ k ∈ kidsL (BA L x), k ∈ B
 inj : ∀ x ∈ B, ∀ y ∈ B, f x = f y -> x = y
 out : ∀ x ∈ B, 0 <= f x /\ f x < (M.length : Int)
 node : ∀ x ∈ B, BA M (f x) = Au f (BA L x)
theorem FT (K : Int -> List Int) : ∀ (n : Nat) (s out : List Int), ∃ ys, dfs K n s out = out ++ ys
 | 0, s, out => ⟨[], by simp [dfs]⟩
 | n + 1, [], out => ⟨[], by simp [dfs]⟩
 | n + 1, x :: s, out => by
  unfold dfs
  split
  ·exact FT K n s out
  ·obtain ⟨ys, e⟩ := FT K n (K x ++ s) (out ++ [x])
   exact ⟨[x] ++ ys, by rw [e, List.append_assoc]⟩
theorem Jc {L : List ANd} (hR : InL L) : ∀ (n : Nat) (s out : List Int), (∀ x ∈ s, 0 <= x /\ x < (L.length : Int)) -> s.length + wt (kat L) L.length out < n ->
  (∀ x ∈ s, x ∈ dfs (kat L) n s out) /\ (∀ x ∈ dfs (kat L) n s out, x ∈ out \/ ∀ k ∈ kat L x, k ∈ dfs (kat L) n s out)
 | 0, s, out, _, h => by omega
 | n + 1, [], out, _, _ => ⟨fun x hx => by simp at hx, fun x hx => .inl (by simpa [dfs] using hx)⟩
 | n + 1, x :: s, out, hs, h => by
  obtain ⟨x0, x1⟩ := hs x (by simp);simp only [List.length_cons] at h;unfold dfs
  by_cases hx : x ∈ out
  ·rw [if_pos hx]
   obtain ⟨i1, i2⟩ := Jc hR n s out (fun y hy => hs y (by simp [hy])) (by omega);obtain ⟨ys, e⟩ := FT (kat L) n s out;refine ⟨fun y hy => ?_, i2⟩
   rcases List.mem_cons.1 hy with rfl | hy
   ·rw [e]; exact List.mem_append_left _ hx
   ·exact i1 y hy
  ·rw [if_neg hx]
   obtain ⟨q, rfl⟩ := Int.eq_ofNat_of_zero_le x0
   have hw := SA (K := kat L) (len := L.length) (out := out) (i := q) (by omega) hx
   obtain ⟨i1, i2⟩ := Jc hR n (kat L (q : Int) ++ s) (out ++ [(q : Int)]) (fun y hy => by
    rcases List.mem_append.1 hy with hy | hy
    ·exact Px hR _ _ hy
    ·exact hs y (by simp [hy])) (by rw [List.length_append]; omega)
   obtain ⟨ys, e⟩ := FT (kat L) n (kat L (q : Int) ++ s) (out ++ [(q : Int)]);refine ⟨fun y hy => ?_, fun y hy => ?_⟩
   ·rcases List.mem_cons.1 hy with rfl | hy
    ·rw [e]; simp
    ·exact i1 y (by simp [hy])
   ·rcases i2 y hy with h3 | h3
    ·rcases List.mem_append.1 h3 with h3 | h3
     ·exact .inl h3
     ·simp at h3
      subst h3;exact .inr fun k hk => i1 k (List.mem_append_left _ hk)
    ·exact .inr h3
theorem Nv {K K' : Int -> List Int} {D : Int -> Prop} {f : Int -> Int} (hK : ∀ x, D x -> K' (f x) = (K x).map f /\ ∀ k ∈ K x, D k) (hi : ∀ x y, D x -> D y -> f x = f y -> x = y) :
  ∀ (n : Nat) (s out : List Int), (∀ x ∈ s, D x) -> (∀ x ∈ out, D x) -> dfs K' n (s.map f) (out.map f) = (dfs K n s out).map f
 | 0, s, out, _, _ => by simp [dfs]
 | n + 1, [], out, _, _ => by simp [dfs]
 | n + 1, x :: s, out, hs, ho => by
  have hx := hs x (by simp)
  rw [List.map_cons];unfold dfs
  have e : f x ∈ out.map f ↔ x ∈ out := ⟨fun h => by
   obtain ⟨y, hy, he⟩ := List.mem_map.1 h;rw [<- hi y x (ho y hy) hx he]; exact hy, fun h => List.mem_map.2 ⟨x, h, rfl⟩⟩
  by_cases hm : x ∈ out
  ·rw [if_pos hm, if_pos (e.2 hm)]
   exact Nv hK hi n s out (fun y hy => hs y (by simp [hy])) ho
  ·rw [if_neg hm, if_neg (fun h => hm (e.1 h)), (hK x hx).1, <- List.map_append, show out.map f ++ [f x] = (out ++ [x]).map f by simp]
   refine Nv hK hi n _ _ (fun y hy => ?_) (fun y hy => ?_)
   ·rcases List.mem_append.1 hy with hy | hy
    ·exact (hK x hx).2 y hy
    ·exact hs y (by simp [hy])
   ·rcases List.mem_append.1 hy with hy | hy
    ·exact ho y hy
    ·simp at hy; subst hy; exact hx
theorem EM {L : List ANd} (hR : InL L) (hN : ∀ n ∈ L, NB n) (hlen : L.length <= 2001) {root : Int} (h0 : 0 <= root) (h1 : root < (L.length : Int)) :
  (∀ x ∈ AM L root, ∀ k ∈ kidsL (BA L x), k ∈ AM L root) /\ ∃ ys, AM L root = root :: ys := by
 have hw := Ok hN []
 obtain ⟨i1, i2⟩ := Jc hR FU [root] [] (fun x hx => by simp at hx; subst hx; exact ⟨h0, h1⟩) (by rw [FUv]; simp only [List.length_cons, List.length_nil]; omega);refine ⟨fun x hx k hk => ?_, ?_⟩
 ·rw [<- JE] at hk
  rcases i2 x hx with h | h
  ·simp at h
  ·exact h k hk
 ·obtain ⟨m, hm⟩ : ∃ m, FU = m + 1 := ⟨18446744073709551615, by rw [FUv]⟩
  unfold AM;rw [hm];unfold dfs;rw [if_neg (by simp)];obtain ⟨ys, e⟩ := FT (kat L) m (kat L root ++ []) ([] ++ [root]);exact ⟨ys, by rw [e]; rfl⟩
theorem M2 {f : Int -> Int} {k : Int} : ∀ B : List Int, (∀ x ∈ B, f x = f k -> x = k) -> (B.map f).idxOf (f k) = B.idxOf k
 | [], _ => rfl
 | x :: B, h => by
  rw [List.map_cons, List.idxOf_cons, List.idxOf_cons]
  by_cases e : x = k
  ·subst e; simp
  ·have e2 : ¬ f x = f k := fun h2 => e (h x (by simp) h2)
   rw [show (f x == f k) = false by simp [e2], show (x == k) = false by simp [e], cF_, cF_, M2 B (fun y hy => h y (by simp [hy]))]
theorem QX {L M : List ANd} {root : Int} {f : Int -> Int} (E : EmbL L M (AM L root) f) (hr : root ∈ AM L root) : AM M (f root) = (AM L root).map f := by
 have := Nv (K := kat L) (K' := kat M) (D := fun x => x ∈ AM L root) (f := f) (fun x hx => ⟨by rw [JE, JE, E.node x hx, Ko], fun k hk => by rw [JE] at hk; exact E.closed x hx k hk⟩) (fun x y hx hy => E.inj x hx y hy) FU [root] [] (fun x hx => by simp at hx; subst hx; exact hr) (fun x hx => by simp at hx)
 exact this
theorem Rn {L M : List ANd} {root : Int} {f : Int -> Int} (hA : Bg L) (E : EmbL L M (AM L root) f) (hr : root ∈ AM L root) : normL M (f root) = normL L root := by
 unfold normL;rw [QX E hr, List.map_map];refine List.map_congr_left fun x hx => ?_;obtain ⟨x0, x1⟩ := E.inn x hx
 show Au _ (BA M (f x)) = _
 rw [E.node x hx, Hn];refine Js (hA _ (F5 x0 x1).2) fun k hk => ?_
 have hkB := E.closed x hx k hk
 show posOf ((AM L root).map f) (f k) = posOf (AM L root) k
 unfold posOf;rw [if_pos hkB, if_pos (List.mem_map.2 ⟨k, hkB, rfl⟩), M2 _ (fun y hy e => E.inj y hy k hkB e)]
theorem L7 {L M : List ANd} {B : List Int} {f : Int -> Int} (E : EmbL L M B f) : ∀ (k : Nat) (x : Int), x ∈ B -> endk M k (f x).toNat = endk L k x.toNat
 | 0, _, _ => rfl
 | k + 1, x, hx => by
  obtain ⟨x0, x1⟩ := E.inn x hx;obtain ⟨y0, y1⟩ := E.out x hx;unfold endk;rw [Kx x0 x1, Kx y0 y1, E.node x hx]
  show (!latB (BA L x).kind || (endk M k (Au f (BA L x)).a.toNat && endk M k (Au f (BA L x)).b.toNat)) = (!latB (BA L x).kind || (endk L k (BA L x).a.toNat && endk L k (BA L x).b.toNat))
  cases hl : latB (BA L x).kind with
  | false => rfl
  | true =>
   have hk := Fk hl
   have hc := E.closed x hx
   rw [hk] at hc
   have hp : pB (BA L x).kind = true := by
    unfold latB at hl; unfold pB
    rw [Bool.or_eq_true, decide_eq_true_eq, decide_eq_true_eq] at hl
    rcases hl with h | h <;> rw [h] <;> rfl
   have ha : (Au f (BA L x)).a = f (BA L x).a := by unfold Au; rw [hp]; rfl
   have hb : (Au f (BA L x)).b = f (BA L x).b := by unfold Au; rw [hp]; rfl
   rw [ha, hb, L7 E k _ (hc _ (by simp)), L7 E k _ (hc _ (by simp))]
theorem Od {B : List Int} {k : Int} (h : k ∈ B) : 0 <= posOf B k /\ posOf B k < (B.length : Int) := by
 unfold posOf;rw [if_pos h]
 have := List.idxOf_lt_length_of_mem h
 omega
theorem Iq {B : List Int} {k : Int} (h : k ∈ B) : B[(posOf B k).toNat]? = some k := by
 unfold posOf;rw [if_pos h, Int.toNat_natCast]
 have hlt := List.idxOf_lt_length_of_mem h
 rw [List.getElem?_eq_getElem hlt, List.getElem_idxOf hlt]
theorem QN {B : List Int} {x y : Int} (hx : x ∈ B) (hy : y ∈ B) (h : posOf B x = posOf B y) : x = y := by
 have h1 := Iq hx
 have h2 := Iq hy
 rw [h, h2] at h1;exact (Option.some.inj h1).symm
theorem Sw {L : List ANd} {root x : Int} (hx : x ∈ AM L root) : (normL L root)[(posOf (AM L root) x).toNat]? = some (Au (posOf (AM L root)) (BA L x)) := by
 unfold normL;rw [List.getElem?_map, Iq hx]; rfl
theorem FM (L : List ANd) (root : Int) : (normL L root).length = (AM L root).length := by unfold normL; rw [List.length_map]
theorem QP {L : List ANd} {root : Int} (hR : InL L) (hN : ∀ n ∈ L, NB n) (hlen : L.length <= 2001) (h0 : 0 <= root) (h1 : root < (L.length : Int)) (X : List ANd) :
  EmbL L (normL L root ++ X) (AM L root) (posOf (AM L root)) := by
 obtain ⟨b1, b2, b3⟩ := CC hR h0 h1;refine ⟨b1, (EM hR hN hlen h0 h1).1, fun x hx y hy => QN hx hy, fun x hx => ?_, fun x hx => ?_⟩
 ·have := Od hx
  rw [List.length_append, FM]; omega
 ·have h2 := Sw hx
  have h3 := getLt h2
  unfold BA;rw [List.getElem?_append_left h3, h2]
  rfl
theorem Ts {L : List ANd} {r : Int} (h1 : 0 < L.length) (h2 : L.length <= 2000) (h3 : 0 <= r) (h4 : r < (L.length : Int)) (h5 : Bg L) (h6 : D6 L) : mayT L r = 0 := by
 unfold mayT;rw [if_neg (by omega), if_neg (by omega), if_pos ⟨h5, h6⟩]
theorem Ol {L : List ANd} {root : Int} (hA : Bg L) (hN : ∀ n ∈ L, NB n) (hlen : L.length <= 2001) (h0 : 0 <= root) (h1 : root < (L.length : Int)) (f : Int -> Int) (all : Int) (hf : ∀ k, 0 <= k -> k < ((normL L root).length : Int) -> 0 <= f k /\ f k < all) :
  ∀ n ∈ normL L root, Bi (Au f n) all = true := by
 obtain ⟨b1, b2, b3⟩ := CC (AD hA) h0 h1
 intro n hn
 unfold normL at hn;obtain ⟨x, hx, rfl⟩ := List.mem_map.1 hn;obtain ⟨x0, x1⟩ := b1 x hx;rw [Hn];refine Og (hA _ (F5 x0 x1).2) fun k hk => ?_
 have hp := Od ((EM (AD hA) hN hlen h0 h1).1 x hx k hk)
 rw [<- FM] at hp;exact hf _ hp.1 hp.2
theorem I9 (n : ANd) : Au (fun k => k) n = n := by
 unfold Au
 cases pB n.kind <;> simp
theorem RM {L M : List ANd} {root : Int} {f : Int -> Int} (hE : D6 L) (E : EmbL L M (AM L root) f) {x : Int} (hx : x ∈ AM L root) : Ends M (f x).toNat := by
 obtain ⟨x0, x1⟩ := E.inn x hx;obtain ⟨k, hk⟩ := hE x.toNat (by omega);exact ⟨k, by rw [L7 E k x hx]; exact hk⟩
theorem OQ {L : List ANd} {r : Int} (hl : mayT L r = 0) (hN : ∀ n ∈ L, NB n) (hlen : L.length <= 2000) : mayT (normL L r) 0 = 0 /\ normL (normL L r) 0 = normL L r := by
 obtain ⟨_, l2, l3, l4, lA, lE⟩ := En hl;obtain ⟨_, ys, ey⟩ := EM (AD lA) hN (by omega) l3 l4
 have hr : r ∈ AM L r := by rw [ey]; simp
 have pr : posOf (AM L r) r = 0 := by unfold posOf; rw [if_pos hr, ey]; simp
 have El := QP (AD lA) hN (by omega) l3 l4 []
 rw [List.append_nil] at El;obtain ⟨_, n2⟩ := Lu (AD lA) hN l3 l4
 have hl0 : 0 < (normL L r).length := by rw [FM, ey]; simp
 refine ⟨?_, ?_⟩
 ·refine Ts hl0 (by omega) (by omega) (by omega) ?_ ?_
  ·intro n hn
   have := Ol lA hN (by omega) l3 l4 (fun k => k) ((normL L r).length : Int) (fun k k0 k1 => ⟨k0, k1⟩) n hn
   rwa [I9] at this
  ·intro i hi
   have hb : i < (AM L r).length := by rw [<- FM]; exact hi
   have hx : (AM L r)[i]? = some ((AM L r)[i]) := List.getElem?_eq_getElem hb
   have hm2 := List.mem_of_getElem? hx
   have h3 := RM lE El hm2
   have h4 : posOf (AM L r) ((AM L r)[i]) = (i : Int) := by
    unfold posOf;rw [if_pos hm2, M3 (CC (AD lA) l3 l4).2.1 hx]
   rw [h4, Int.toNat_natCast] at h3;exact h3
 ·have := Rn lA El hr
  rwa [pr] at this
end Go.Proofs.YtkfnogdccpcmhaaGreatDoor
namespace Go.Proofs.YtkfnogdccpcmhaaGreatDoor
open Go.V Tryz
open Classical
theorem M9 {t : ATy} {x : Int} (h : In t x) : BA t.l x = nd t x := by
 unfold BA;rw [Lw h]
noncomputable def normG (t : ATy) : ATy := ⟨normL t.l t.root, 0⟩
noncomputable def upN (t : ATy) (k : Int) : Int := (AM t.l t.root)[k.toNat]?.getD 0
theorem TH {t : ATy} {k : Int} (h : k ∈ AM t.l t.root) : upN t (posOf (AM t.l t.root) k) = k := by
 unfold upN;rw [Iq h]; rfl
theorem F3 {t : ATy} (h : MayO t) (hl : t.l.length <= 2000) : MayO (normG t) := by
 obtain ⟨_, l2, l3, l4, lA, lE⟩ := En h.may;exact ⟨(OQ h.may h.nb hl).1, (Lu (AD lA) h.nb l3 l4).1⟩
theorem Li {t : ATy} (h : MayO t) : (normG t).l.length <= t.l.length := by
 obtain ⟨_, l2, l3, l4, lA, lE⟩ := En h.may;exact (Lu (AD lA) h.nb l3 l4).2
theorem Lh {t : ATy} (h : MayO t) (hl : t.l.length <= 2000) : Emb (normG t) t (upN t) := by
 obtain ⟨_, l2, l3, l4, lA, lE⟩ := En h.may;obtain ⟨b1, b2, b3⟩ := CC (AD lA) l3 l4;obtain ⟨c1, _⟩ := EM (AD lA) h.nb (by omega) l3 l4;refine ⟨fun i hi => ?_⟩
 have hi1 : i.toNat < (AM t.l t.root).length := by
  have h1 := hi.1; have h2 := hi.2
  unfold normG at h2;rw [FM] at h2
  omega
 have hx : (AM t.l t.root)[i.toNat]? = some ((AM t.l t.root)[i.toNat]) := List.getElem?_eq_getElem hi1
 generalize (AM t.l t.root)[i.toNat] = x at hx
 have hxm := List.mem_of_getElem? hx
 have hxi : In t x := b1 x hxm
 have e1 : upN t i = x := by unfold upN; rw [hx]; rfl
 have e2 : nd (normG t) i = Au (posOf (AM t.l t.root)) (nd t x) := by
  unfold nd normG normL;simp only [List.getElem?_map, hx, Option.map_some, Option.getD_some];rw [M9 hxi]; rfl
 rw [e1, e2, Hn]
 have hr := lA _ (Fw hxi)
 rw [Js (g := fun k => k) hr (fun k hk => by
  have := c1 x hxm k (by rw [M9 hxi]; exact hk)
  exact TH this), I9]
theorem Qp {t : ATy} (h : MayO t) (hl : t.l.length <= 2000) : upN t 0 = t.root := by
 obtain ⟨_, l2, l3, l4, lA, lE⟩ := En h.may;obtain ⟨_, ys, ey⟩ := EM (AD lA) h.nb (by omega) l3 l4;unfold upN;rw [ey]; rfl
theorem OT {t : ATy} (h : MayO t) (hl : t.l.length <= 2000) (p : Pt) : Sat (normG t) p (normG t).root ↔ Sat t p t.root := by
 have := Nm (F3 h hl).ok (Lh h hl) p (normG t).root (F3 h hl).root
 show Sat (normG t) p 0 ↔ _
 rw [<- Qp h hl];exact this.symm
theorem Rd {t : ATy} (h : MayO t) (hl : t.l.length <= 2000) : Sub (normG t) t := fun p hp => (OT h hl p).1 hp
theorem QF {t : ATy} (h : MayO t) (hl : t.l.length <= 2000) : Sub t (normG t) := fun p hp => (OT h hl p).2 hp
theorem NJ {t : ATy} (h : MayO t) (hl : t.l.length <= 2000) : Bz t = some (normG t, 0) := Tq (by omega) h.nb h.may
end Go.Proofs.YtkfnogdccpcmhaaGreatDoor
namespace Go.Proofs.YtkfnogdccpcmhaaGreatDoor
open Go.V Tryz
open Classical
theorem O1 (l : List ATy) : Fm l 3 = some ((l.take 3).map (fewT 7)) := by
 unfold Fm
 have hL : (l.take 3).length <= 3 /\ (l.take 3).length <= l.length := by rw [List.length_take]; omega
 rw [CF (φ := fun n i s => EF l 3 n (i, s)) (l := l.take 3) (fewT 7) id 0 ?_ ?_ (by rw [FUv]; omega) [] rfl]
 ·rfl
 ·intro n i x s hx hi hs
  have hx2 : l[i]? = some x := by
   rw [List.getElem?_take, if_pos (by omega)] at hx;exact hx
  simp only [EF];rw [dT (show (i : Int) < l.length by omega), dT (show (i : Int) < 3 by omega), Bool.and_true, cT, getI hx2, oB, TW x 7 7 rfl (by omega), oB, Ab (by simp only [List.length_cons, List.length_nil]; omega), Ab (by constructor <;> omega)]
 ·intro n s hs
  simp only [EF];rw [show (decide (((l.take 3).length : Int) < l.length) && decide (((l.take 3).length : Int) < 3)) = false by
   rw [List.length_take, Bool.and_eq_false_iff, decide_eq_false_iff_not, decide_eq_false_iff_not]; omega, cF_]
  rfl
noncomputable def errL : List ATy -> Int
 | [] => 0
 | t :: r => if mayT t.l t.root = 0 then errL r else mayT t.l t.root
theorem Qw {l : List ATy} (h : errL l = 0) : ∀ t ∈ l, mayT t.l t.root = 0 := by
 induction l with
 | nil => intro t ht; cases ht
 | cons a r ih =>
  unfold errL at h
  split at h
  ·rename_i h0
   intro t ht
   rcases List.mem_cons.1 ht with rfl | ht
   ·exact h0
   ·exact ih h t ht
  ·contradiction
theorem MV {l : List ATy} {i : Nat} {x : ATy} (hx : l[i]? = some x) : errL (l.drop i) = if mayT x.l x.root = 0 then errL (l.drop (i + 1)) else mayT x.l x.root := by
 have hi := (List.getElem?_eq_some_iff.1 hx)
 obtain ⟨h1, h2⟩ := hi;rw [List.drop_eq_getElem_cons h1, h2]
 rfl
theorem JA (l : List ATy) (hl : l.length <= 1000) (hlen : ∀ t ∈ l, t.l.length <= 2001) (hN : ∀ t ∈ l, ∀ n ∈ t.l, NB n) : DP l = some (errL l) := by
 unfold DP;obtain ⟨o, e1, e2⟩ := AU (φ := fun n i (_ : Unit) => C8 l n i) (l := l) (fun i _ => errL l = errL (l.drop i)) (fun o => o = if errL l = 0 then Out.go () else Out.ret (errL l)) (by
  intro n i x s hx hi h
  simp only [C8]
  have hm := List.mem_of_getElem? hx
  rw [MV hx] at h;rw [dT (show (i : Int) < l.length by omega), cT, getI hx, oB]
  change (∃ s', ((Bt x).bind _) = _ /\ _) \/ (∃ o, ((Bt x).bind _) = _ /\ _)
  rw [K2 x (hlen x hm) (hN x hm), oB]
  by_cases h0 : mayT x.l x.root = 0
  ·rw [if_pos h0] at h
   left
   rw [dT h0, Bool.not_true, cF_, Ab (by constructor <;> omega)];exact ⟨(), rfl, h⟩
  ·rw [if_neg h0] at h
   right
   rw [dF h0, Bool.not_false, cT];exact ⟨_, rfl, by rw [if_neg (by rw [h]; exact h0), h]⟩) (by
  intro n s h
  simp only [C8];rw [List.drop_length] at h;rw [dF (by omega), cF_];exact ⟨_, rfl, by rw [if_pos (by rw [h]; rfl)]⟩) (by rw [FUv]; omega) () rfl
 rw [e1, e2, oB]
 by_cases h0 : errL l = 0
 ·rw [if_pos h0, h0]; rfl
 ·rw [if_neg h0]; rfl
theorem IT (l : List ATy) (hl : l.length <= 1000) (hlen : ∀ t ∈ l, t.l.length <= 2001) (hN : ∀ t ∈ l, ∀ n ∈ t.l, NB n) : Gi l = some (errL l) := by
 unfold Gi;obtain ⟨o, e1, e2⟩ := AU (φ := fun n i (_ : Unit) => Dy l n i) (l := l) (fun i _ => errL l = errL (l.drop i)) (fun o => o = if errL l = 0 then Out.go () else Out.ret (errL l)) (by
  intro n i x s hx hi h
  simp only [Dy]
  have hm := List.mem_of_getElem? hx
  rw [MV hx] at h;rw [dT (show (i : Int) < l.length by omega), cT, getI hx, oB, P9 x (hlen x hm) (hN x hm), oB]
  by_cases h0 : mayT x.l x.root = 0
  ·rw [if_pos h0] at h
   left
   rw [dT h0, Bool.not_true, cF_, Ab (by constructor <;> omega)];exact ⟨(), rfl, h⟩
  ·rw [if_neg h0] at h
   right
   rw [dF h0, Bool.not_false, cT];exact ⟨_, rfl, by rw [if_neg (by rw [h]; exact h0), h]⟩) (by
  intro n s h
  simp only [Dy];rw [List.drop_length] at h;rw [dF (by omega), cF_];exact ⟨_, rfl, by rw [if_pos (by rw [h]; rfl)]⟩) (by rw [FUv]; omega) () rfl
 rw [e1, e2, oB]
 by_cases h0 : errL l = 0
 ·rw [if_pos h0, h0]; rfl
 ·rw [if_neg h0]; rfl
end Go.Proofs.YtkfnogdccpcmhaaGreatDoor
namespace Go.Proofs.YtkfnogdccpcmhaaGreatDoor
open Go.V Tryz
open Classical
theorem QQ (a b : ATy) (ha : a.l.length <= 4001) (hb : b.l.length <= 2001) (hN : ∀ n ∈ b.l, NB n) (hR : Bg b.l) : Ck a b = some ((a.l.length : Int), AS a b) := by
 unfold Ck;rw [Ab (by omega)];rw [CF (φ := fun n i s => B4 a b n (i, a.root, s)) (l := b.l) (Au (fun k => k + (a.l.length : Int))) (fun s => (a.root, s)) a.l.length ?_ ?_ (by rw [FUv]; omega) a.l rfl]
 ·rfl
 ·intro n i x s hx hi hs
  have hr := Gc (hR x (List.mem_of_getElem? hx))
  simp only [B4];rw [dT (show (i : Int) < b.l.length by omega), cT, getI hx, oB, show (⟨x.kind, x.a, x.b, x.l⟩ : ANd) = x from rfl, LG x _ (fun k => k + (a.l.length : Int)) (hN x (List.mem_of_getElem? hx)) (fun hp => by
   obtain ⟨⟨a0, a1⟩, b0, b1⟩ := hr.1 hp;unfold BK;rw [Ab (by omega), Ab (by omega)]; exact ⟨rfl, rfl⟩) (fun y hy => by
   obtain ⟨y0, y1⟩ := hr.2 y hy;unfold BK;rw [Ab (by omega)]), oB, Ab (by simp only [List.length_cons, List.length_nil]; omega), Ab (by omega)]
 ·intro n s hs
  simp only [B4];rw [dF (by omega), cF_]
noncomputable def overS (s : List ANd × List Int) (x : ATy) : List ANd × List Int := (s.1 ++ x.l.map (Au (fun k => k + (s.1.length : Int))), s.2 ++ [x.root + (s.1.length : Int)])
noncomputable def overL (l : List ATy) : List ANd × List Int := l.foldl overS ([], [])
theorem Jh {l : List ATy} {i : Nat} {x : ATy} (hx : l[i]? = some x) : overL (l.take (i + 1)) = overS (overL (l.take i)) x := by
 obtain ⟨h1, h2⟩ := List.getElem?_eq_some_iff.1 hx;unfold overL;rw [List.take_succ_eq_append_getElem h1, List.foldl_append, h2]
 rfl
theorem TG {l : List ATy} (hl : l.length <= 10) (hM : ∀ x ∈ l, MayO x /\ x.l.length <= 100) : B8 l FU (0, [], [], 0) = some ((overL l).2, (overL l).1, 0) /\ (overL l).1.length <= l.length * 100 /\ (overL l).2.length = l.length := by
 obtain ⟨o, e1, e2⟩ := AU (φ := fun n i (s : List Int × List ANd × Int) => B8 l n (i, s)) (l := l) (fun i s => s = ((overL (l.take i)).2, (overL (l.take i)).1, 0) /\ (overL (l.take i)).1.length <= i * 100 /\ (overL (l.take i)).2.length = i) (fun o => o = ((overL l).2, (overL l).1, 0) /\ (overL l).1.length <= l.length * 100 /\ (overL l).2.length = l.length) (by
  rintro n i x s hx hi ⟨rfl, h1, h2⟩
  left
  obtain ⟨hx1, hx2⟩ := hM x (List.mem_of_getElem? hx)
  have hr := hx1.root
  have r0 := hr.1; have r1 := hr.2
  simp only [B8];rw [dT (show (i : Int) < l.length by omega), cT, getI hx, oB]
  change ∃ s', ((Ck (⟨(overL (l.take i)).1, 0⟩ : ATy) x).bind _) = _ /\ _
  rw [QQ _ x (by simp only; omega) (by omega) hx1.nb hx1.ok.right, oB]
  dsimp only
  rw [Ab (by constructor <;> omega), Ab (by simp only [List.length_cons, List.length_nil]; omega), Ab (by constructor <;> omega)];refine ⟨_, rfl, ?_, ?_, ?_⟩
  ·rw [Jh hx]; rfl
  ·rw [Jh hx]
   unfold overS;simp only [List.length_append, List.length_map]
   omega
  ·rw [Jh hx]
   unfold overS;simp only [List.length_append, List.length_cons, List.length_nil]
   omega) (by
  rintro n s ⟨rfl, h1, h2⟩;simp only [B8];rw [dF (by omega), cF_];rw [List.take_length] at h1 h2 ⊢;exact ⟨_, rfl, rfl, h1, h2⟩) (by rw [FUv]; omega) ([], [], 0) (by simp [overL])
 obtain ⟨rfl, h1, h2⟩ := e2;exact ⟨e1, h1, h2⟩
theorem SX {N : List Int -> Option ANd} {l : List ATy} {x : ANd} (hl : l.length <= 10) (hM : ∀ x ∈ l, MayO x /\ x.l.length <= 100) (hn : N (overL l).2 = some x) : CI N l = some ⟨(overL l).1 ++ [x], ((overL l).1.length : Int)⟩ := by
 obtain ⟨e, h1, h2⟩ := TG hl hM;unfold CI;rw [e, oB]
 dsimp only
 rw [hn, oB, Ab (by simp only [List.length_cons, List.length_nil]; omega), Ab (by rw [List.length_append]; simp only [List.length_cons, List.length_nil]; constructor <;> omega)]
 congr 2
 rw [List.length_append];simp only [List.length_cons, List.length_nil]
 omega
theorem M4 (a b : ATy) : overL [a, b] = ((AS a b).l, [a.root, b.root + (a.l.length : Int)]) := by
 have e : a.l.map (Au fun k => k) = a.l := by
  have h : a.l.map (Au fun k => k) = a.l.map id := List.map_congr_left fun n _ => I9 n
  rw [h, List.map_id]
 unfold overL overS AS;simp only [List.foldl_cons, List.foldl_nil, List.nil_append, List.length_nil, List.length_map, Int.natCast_zero, Int.add_zero, List.cons_append, e]
theorem MD {k : Int} {a b : ATy} (ha : MayO a) (hb : MayO b) (la : a.l.length <= 100) (lb : b.l.length <= 100) : CI (fun y0 => Cj y0 k) [a, b] = some (withT k a b) := by
 have h := SX (N := fun y0 => Cj y0 k) (l := [a, b]) (x := ⟨k, a.root, b.root + (a.l.length : Int), []⟩) (by simp) (fun x hx => by
  rcases List.mem_cons.1 hx with rfl | hx
  ·exact ⟨ha, la⟩
  ·rw [List.mem_singleton.1 hx]; exact ⟨hb, lb⟩) (by
  rw [M4]
  rfl)
 rw [h, M4]
 rfl
theorem P5 {k : Int} {a b : ATy} (ha : MayO a) (hb : MayO b) (hl : a.l.length + b.l.length <= 200) : Fb k a b = some (withT k a b) := by
 have hrb := hb.root
 have h3 := hrb.1; have h4 := hrb.2
 unfold Fb;rw [PO a b (by omega) (by omega) hb.nb hb.ok.right, oB]
 simp only
 rw [Ab (by constructor <;> omega), Ab (by rw [A0]; simp only [List.length_cons, List.length_nil]; omega), Ab (by rw [List.length_append, A0]; simp only [List.length_cons, List.length_nil]; constructor <;> omega)]
 congr 1
 unfold withT
 congr 1
 rw [List.length_append];simp only [List.length_cons, List.length_nil]; omega
end Go.Proofs.YtkfnogdccpcmhaaGreatDoor
namespace Go.Proofs.YtkfnogdccpcmhaaGreatDoor
open Go.V Tryz
open Classical
noncomputable def foldW (k : Int) (a : ATy) (r : List ATy) : ATy := r.foldl (withT k) a
theorem LP {k : Int} {a : ATy} {r : List ATy} {i : Nat} {x : ATy} (hx : r[i]? = some x) : foldW k a (r.take (i + 1)) = withT k (foldW k a (r.take i)) x := by
 unfold foldW;rw [takeS hx, List.foldl_append]; rfl
def FewO (a : ATy) : Prop := MayO a /\ a.l.length <= 7
theorem MG {k : Int} (hk : k = 9 \/ k = 10) {t x : ATy} {i : Nat} (hi : i < 3) (h : MayO t /\ t.l.length <= 7 + 8 * i) (hx : FewO x) : MayO (withT k t x) /\ (withT k t x).l.length <= 7 + 8 * (i + 1) := by
 have h1 := h.2; have h2 := hx.2
 exact ⟨GH hk h.1 hx.1 (by omega), by rw [BZ]; omega⟩
theorem T0 {k : Int} (hk : k = 9 \/ k = 10) {a : ATy} {r : List ATy} (ha : FewO a) (hr : ∀ x ∈ r, FewO x) (hl : r.length <= 2) : B0 k r FU (0, a.l, a.root) = some ((foldW k a r).l, (foldW k a r).root) /\ MayO (foldW k a r) /\ (foldW k a r).l.length <= 7 + 8 * r.length := by
 obtain ⟨o, e1, e2⟩ := AU (φ := fun n i (s : List ANd × Int) => B0 k r n (i, s)) (l := r) (fun i s => s = ((foldW k a (r.take i)).l, (foldW k a (r.take i)).root) /\ MayO (foldW k a (r.take i)) /\ (foldW k a (r.take i)).l.length <= 7 + 8 * i) (fun o => o = ((foldW k a r).l, (foldW k a r).root) /\ MayO (foldW k a r) /\ (foldW k a r).l.length <= 7 + 8 * r.length) (by
  rintro n i x s hx hi ⟨rfl, h1, h2⟩
  left
  have hx1 := hr x (List.mem_of_getElem? hx)
  have hx2 := hx1.2
  simp only [B0];rw [dT (show (i : Int) < r.length by omega), cT, getI hx, oB]
  change ∃ s', ((CI (fun y0 => Cj y0 k) [foldW k a (r.take i), x]).bind _) = _ /\ _
  rw [MD h1 hx1.1 (by omega) (by omega), oB, Ab (by constructor <;> omega)];refine ⟨_, rfl, ?_⟩;rw [LP hx];exact ⟨rfl, MG hk (by omega) ⟨h1, h2⟩ hx1⟩) (by
  rintro n s ⟨rfl, h1, h2⟩;simp only [B0];rw [List.take_length] at h1 h2 ⊢;rw [dF (by omega), cF_];exact ⟨_, rfl, rfl, h1, h2⟩) (by rw [FUv]; omega) (a.l, a.root) (by
  refine ⟨rfl, ha.1, ?_⟩
  have := ha.2
  show a.l.length <= _
  omega)
 obtain ⟨rfl, h1⟩ := e2;exact ⟨e1, h1⟩
theorem Ug {k : Int} (hk : k = 9 \/ k = 10) {a : ATy} {r : List ATy} (ha : FewO a) (hr : ∀ x ∈ r, FewO x) (hl : r.length <= 2) : DV k (a :: r) FU (1, a.l, a.root) = some ((foldW k a r).l, (foldW k a r).root) := by
 obtain ⟨o, e1, e2⟩ := AU (φ := fun n i (s : List ANd × Int) => DV k (a :: r) n (i + 1, s)) (l := r) (fun i s => s = ((foldW k a (r.take i)).l, (foldW k a (r.take i)).root) /\ MayO (foldW k a (r.take i)) /\ (foldW k a (r.take i)).l.length <= 7 + 8 * i) (fun o => o = ((foldW k a r).l, (foldW k a r).root)) (by
  rintro n i x s hx hi ⟨rfl, h1, h2⟩
  left
  have hx1 := hr x (List.mem_of_getElem? hx)
  have hx2 := hx1.2
  have hx3 : (a :: r)[i + 1]? = some x := by rw [List.getElem?_cons_succ]; exact hx
  simp only [DV];rw [dT (show (i : Int) + 1 < ((a :: r).length : Int) by rw [List.length_cons]; omega), cT, show (i : Int) + 1 = ((i + 1 : Nat) : Int) by omega, getI hx3, oB]
  change ∃ s', ((Fb k (foldW k a (r.take i)) x).bind _) = _ /\ _
  rw [P5 h1 hx1.1 (by omega), oB, Ab (by constructor <;> omega)];refine ⟨_, rfl, ?_⟩;rw [LP hx];exact ⟨rfl, MG hk (by omega) ⟨h1, h2⟩ hx1⟩) (by
  rintro n s ⟨rfl, h1, h2⟩;simp only [DV];rw [List.take_length] at h1 h2 ⊢;rw [dF (by rw [List.length_cons]; omega), cF_];exact ⟨_, rfl, rfl⟩) (by rw [FUv]; omega) (a.l, a.root) (by
  refine ⟨rfl, ha.1, ?_⟩
  have := ha.2
  show a.l.length <= _
  omega)
 subst e2;exact e1
theorem Nb {l : List ATy} (h : ∀ t ∈ l, mayT t.l t.root = 0) : errL l = 0 := by
 induction l with
 | nil => rfl
 | cons a r ih =>
  unfold errL;rw [if_pos (h a (by simp))];exact ih fun t ht => h t (by simp [ht])
theorem RG {k nn : Int} (hk : k = 9 \/ k = 10) {a : ATy} {r : List ATy} (ha : FewO a) (hr : ∀ x ∈ r, FewO x) (hl : r.length <= 2) : Bu k nn (a :: r) = some (normG (foldW k a r), 0) := by
 obtain ⟨e, h1, h2⟩ := T0 hk ha hr hl
 have hm : ∀ x ∈ a :: r, FewO x := fun x hx => by
  rcases List.mem_cons.1 hx with rfl | hx
  ·exact ha
  ·exact hr x hx
 unfold Bu;rw [JA (a :: r) (by rw [List.length_cons]; omega) (fun t ht => by have := (hm t ht).2; omega) (fun t ht => (hm t ht).1.nb), oB, Nb fun t ht => (hm t ht).1.may];rw [dT rfl, Bool.not_true, cF_, dF (by rw [List.length_cons]; omega), cF_, show (0 : Int) = ((0 : Nat) : Int) from rfl, getI (l := a :: r) (i := 0) rfl, oB]
 have hs : sli (a :: r) 1 ((a :: r).length : Int) = some r := by
  unfold sli;rw [if_pos (by rw [List.length_cons]; omega)]
  simp
 rw [hs, oB]
 change ((B0 k r FU (0, a.l, a.root)).bind _) = _
 rw [e, oB]
 dsimp only
 unfold Dn
 change (((Bz (foldW k a r)).bind _).bind _) = _
 rw [NJ h1 (by omega), oB, oB]
 rfl
theorem Sf {k nn : Int} (hk : k = 9 \/ k = 10) {a : ATy} {r : List ATy} (ha : FewO a) (hr : ∀ x ∈ r, FewO x) (hl : r.length <= 2) : Dr k nn (a :: r) = some (foldW k a r) := by
 unfold Dr;rw [dF (by rw [List.length_cons]; omega), cF_, show (0 : Int) = ((0 : Nat) : Int) from rfl, getI (l := a :: r) (i := 0) rfl, oB, Ug hk ha hr hl, oB]
end Go.Proofs.YtkfnogdccpcmhaaGreatDoor
namespace Go.Proofs.YtkfnogdccpcmhaaGreatDoor
open Go.V Tryz
open Classical
theorem QB (x y : AFd) : AFd.eqv x y = decide (x = y) := by
 obtain ⟨n, a⟩ := x;obtain ⟨m, b⟩ := y;unfold AFd.eqv
 by_cases h1 : n = m <;> by_cases h2 : a = b <;> simp [h1, h2]
theorem RL (x y : ANd) (h : x.l.length = y.l.length) (hN : NB x) : BP x y FU 0 = some (if x.l = y.l then .go () else .ret false) := by
 unfold NB at hN;refine MR (φ := BP x y) (l := x.l) (m := y.l) false h ?_ ?_ (by rw [FUv]; omega)
 ·intro n i a b ha hb hi
  simp only [BP];rw [dT (show (i : Int) < x.l.length by omega), cT, getI ha, oB, getI hb, oB, QB]
  constructor
  ·intro e; rw [dT e, Bool.not_true, cF_, Ab (by omega)]
  ·intro e; rw [dF e, Bool.not_false, cT]
 ·intro n
  simp only [BP];rw [dF (by omega), cF_]
theorem N7 (a b : ATy) (hl : a.l.length <= 10000) (hN : ∀ n ∈ a.l, NB n) : Ei a b = some (decide (a.l = b.l /\ a.root = b.root)) := by
 unfold Ei
 by_cases h1 : a.l.length = b.l.length /\ a.root = b.root
 ·rw [dT (show (a.l.length : Int) = b.l.length by omega), dT h1.2, Bool.not_true, Bool.or_false, cF_]
  rw [MR (φ := Cf a b) (l := a.l) (m := b.l) false h1.1 ?_ ?_ (by rw [FUv]; omega), oB]
  ·by_cases h2 : a.l = b.l
   ·rw [if_pos h2, dT ⟨h2, h1.2⟩]; rfl
   ·rw [if_neg h2, dF (fun h => h2 h.1)]; rfl
  ·intro n i x y hx hy hi
   simp only [Cf];rw [dT (show (i : Int) < a.l.length by omega), cT, getI hx, oB, getI hy, oB]
   by_cases h4 : x.kind = y.kind /\ x.a = y.a /\ x.b = y.b /\ x.l.length = y.l.length
   ·obtain ⟨e1, e2, e3, e4⟩ := h4
    rw [dT e1, dT e2, dT e3, dT (show (x.l.length : Int) = y.l.length by omega), Bool.not_true, Bool.or_false, Bool.or_false, Bool.or_false, cF_, RL x y e4 (hN x (List.mem_of_getElem? hx)), oB]
    constructor
    ·intro e; rw [if_pos (by rw [e]), Ub, Ab (by omega)]
    ·intro e; rw [if_neg (fun h => e (node_ext.2 ⟨e1, e2, e3, h⟩))]; rfl
   ·rw [show (((!decide (x.kind = y.kind)) || (!decide (x.a = y.a))) || (!decide (x.b = y.b)) || (!decide ((x.l.length : Int) = (y.l.length : Int)))) = true by
     simp only [Bool.or_eq_true, Bool.not_eq_true', decide_eq_false_iff_not];refine Classical.byContradiction fun h => h4 ?_;simp only [not_or, Classical.not_not] at h;obtain ⟨⟨⟨h5, h6⟩, h7⟩, h8⟩ := h;exact ⟨h5, h6, h7, by omega⟩, cT]
    exact ⟨fun e => absurd (by subst e; exact ⟨rfl, rfl, rfl, rfl⟩) h4, fun _ => rfl⟩
  ·intro n
   simp only [Cf];rw [dF (by omega), cF_]
 ·rw [show ((!decide ((a.l.length : Int) = (b.l.length : Int))) || (!decide (a.root = b.root))) = true by
   simp only [Bool.or_eq_true, Bool.not_eq_true', decide_eq_false_iff_not];refine Classical.byContradiction fun h => h1 ?_;simp only [not_or, Classical.not_not] at h;exact ⟨by omega, h.2⟩, cT, dF (fun h => h1 ⟨by rw [h.1], h.2⟩)]
theorem Ix {a b : ATy} {U : List BSq} (ha : MayO a) (hb : MayO b) (hl : a.l.length + b.l.length <= 60) (hU : UOk (AS a b) ⟨[a.root], [b.root + (a.l.length : Int)]⟩ U) : CY a b = some (decide (Sub a b)) := by
 unfold CY
 have hr := hb.root
 rw [Mw a b (by omega) (by omega) hb.nb hb.ok.right, oB]
 simp only
 rw [Ab (by have := hr.1; have := hr.2; constructor <;> omega)];rw [show (⟨(AS a b).l, (AS a b).root⟩ : ATy) = AS a b from rfl, Nd (HI ha.ok hb.ok) (H8 ha.nb hb.nb) (by rw [A0]; omega) (by simp) (by simp) (by rw [Ig, Ig]; exact hU), oB, Ig, Ig]
 congr 1
 exact decide_eq_decide.2 (Ip ha hb)
theorem Jb {t : ATy} (h : MayO t) (hl : t.l.length <= 2000) (h1 : CY (normG t) t = some (decide (Sub (normG t) t))) (h2 : CY t (normG t) = some (decide (Sub t (normG t)))) : Bf (normG t) t = some true := by
 have hm := F3 h hl
 have hle := Li h
 have hr := hm.root
 unfold Bf;rw [P9 _ (by omega) hm.nb, oB, hm.may, dT rfl, cT, Sm hm.ok.right hm.nb (by omega) hr.1 hr.2, oB]
 have e : (⟨normL (normG t).l (normG t).root, 0⟩ : ATy) = normG t := by
  have := (OQ h.may h.nb hl).2
  unfold normG;rw [this]
 rw [e, N7 _ _ (by omega) hm.nb, dT ⟨rfl, rfl⟩, oB, cT, h1, dT (Rd h hl), oB, cT, h2, dT (QF h hl), oB]
theorem Fh {t : ATy} (h : MayO t) (hl : t.l.length <= 19) : Bf (normG t) t = some true := by
 have hm := F3 h (by omega)
 have hle := Li h
 exact Jb h (by omega) (Mu hm h (by omega)) (Mu h hm (by omega))
end Go.Proofs.YtkfnogdccpcmhaaGreatDoor
namespace Go.Proofs.YtkfnogdccpcmhaaGreatDoor
open Go.V Tryz
open Classical
structure TriS (t : ATy) (k r j : Int) (la lb lc : List Int) : Prop where
 ka : Kept t (· ∈ la)
 kb : Kept t (· ∈ lb)
 kc : Kept t (· ∈ lc)
 ir : In t r
 ij : In t j
 rk : (nd t r).kind = k
 ra : (nd t r).a = j
 rb : (nd t r).b ∈ lc
 jk : (nd t j).kind = k
 ja : (nd t j).a ∈ la
 jb : (nd t j).b ∈ lb
def tp9 (r j : Int) (la lb lc W : List Int) : List (List Int × List Int) := [([r], W), ([j], W), (la, W), (lb, W), (lc, W), (W, la), (W, lb), (W, lc)]
def tp10 (r j : Int) (la lb lc W : List Int) : List (List Int × List Int) := [(W, [r]), (W, [j]), (W, la), (W, lb), (W, lc), (la, W), (lb, W), (lc, W)]
section
variable {t : ATy} {r j : Int} {la lb lc W : List Int}
theorem TriS.step9 (h : TriS t 9 r j la lb lc) (hW : Kept t (· ∈ W)) {q s : BSq} (hq : Srt q) (hs : s ∈ (AX t q).2) {p : List Int × List Int} (hp : p ∈ tp9 r j la lb lc W) (hqp : SubP p q) : ∃ p' ∈ tp9 r j la lb lc W, SubP p' s := by
 have latr : latB (nd t r).kind = true := by rw [h.rk]; rfl
 have latj : latB (nd t j).kind = true := by rw [h.jk]; rfl
 have fin : ∀ {X : List Int}, Kept t (· ∈ X) -> (X, W) ∈ tp9 r j la lb lc W -> (W, X) ∈ tp9 r j la lb lc W -> SubP (X, W) q -> ∃ p' ∈ tp9 r j la lb lc W, SubP p' s := fun hX h1 h2 hq2 => (Hd hX hW hq2 hs).elim (fun h => ⟨_, h1, h⟩) (fun h => ⟨_, h2, h⟩)
 have fin' : ∀ {X : List Int}, Kept t (· ∈ X) -> (X, W) ∈ tp9 r j la lb lc W -> (W, X) ∈ tp9 r j la lb lc W -> SubP (W, X) q -> ∃ p' ∈ tp9 r j la lb lc W, SubP p' s := fun hX h1 h2 hq2 => (Hd hW hX hq2 hs).elim (fun h => ⟨_, h2, h⟩) (fun h => ⟨_, h1, h⟩)
 have one : ∀ {m : Int} {Y Z : List Int}, (nd t m).kind = 9 -> (nd t m).a ∈ Y -> (nd t m).b ∈ Z -> (Y, W) ∈ tp9 r j la lb lc W -> (Z, W) ∈ tp9 r j la lb lc W -> SubP ([m], W) q -> ∃ p' ∈ tp9 r j la lb lc W, SubP p' s := by
  intro m Y Z hm ha hb hY hZ hq2
  have none_ : (∀ i ∈ q.left, latB (nd t i).kind = false) -> ∃ p' ∈ tp9 r j la lb lc W, SubP p' s := fun a0 => fin (X := la) h.ka (by simp [tp9]) (by simp [tp9]) ⟨fun x hx => (by
   have e : x = m := by simpa using hq2.1 x hx
   subst e
   have := a0 _ hx
   rw [hm] at this; cases this), hq2.2⟩
  rcases L8 hs with ⟨i, rest, M, a1, a2, rfl, a4⟩ | ⟨a0, _⟩ | ⟨a0, _⟩
  ·have hr := NP hq.1 a2
   have hi : i = m := by simpa using hq2.1 i (a2.mem_iff.2 (by simp))
   subst hi
   have hre : ∀ x ∈ rest, False := fun x hx => absurd (by simpa using hq2.1 x (hr x hx).1) (hr x hx).2
   rcases a4 with ⟨b1, _⟩ | ⟨_, rfl | rfl⟩
   ·rw [hm] at b1; omega
   ·exact ⟨_, hY, Ih (l := []) (fun x hx => (hre x hx).elim) (fun x hx => by simp at hx; subst hx; exact ha), hq2.2⟩
   ·exact ⟨_, hZ, Ih (l := []) (fun x hx => (hre x hx).elim) (fun x hx => by simp at hx; subst hx; exact hb), hq2.2⟩
  ·exact none_ a0
  ·exact none_ a0
 unfold tp9 at hp;simp only [List.mem_cons, List.not_mem_nil, or_false] at hp
 rcases hp with rfl | rfl | rfl | rfl | rfl | rfl | rfl | rfl
 ·exact one (Y := [j]) h.rk (by rw [h.ra]; simp) h.rb (by simp [tp9]) (by simp [tp9]) hqp
 ·exact one h.jk h.ja h.jb (by simp [tp9]) (by simp [tp9]) hqp
 ·exact fin h.ka (by simp [tp9]) (by simp [tp9]) hqp
 ·exact fin h.kb (by simp [tp9]) (by simp [tp9]) hqp
 ·exact fin h.kc (by simp [tp9]) (by simp [tp9]) hqp
 ·exact fin' h.ka (by simp [tp9]) (by simp [tp9]) hqp
 ·exact fin' h.kb (by simp [tp9]) (by simp [tp9]) hqp
 ·exact fin' h.kc (by simp [tp9]) (by simp [tp9]) hqp
theorem TriS.step10 (h : TriS t 10 r j la lb lc) (hW : Kept t (· ∈ W)) {q s : BSq} (hq : Srt q) (hs : s ∈ (AX t q).2) {p : List Int × List Int} (hp : p ∈ tp10 r j la lb lc W) (hqp : SubP p q) : ∃ p' ∈ tp10 r j la lb lc W, SubP p' s := by
 have fin : ∀ {X : List Int}, Kept t (· ∈ X) -> (W, X) ∈ tp10 r j la lb lc W -> (X, W) ∈ tp10 r j la lb lc W -> SubP (W, X) q -> ∃ p' ∈ tp10 r j la lb lc W, SubP p' s := fun hX h1 h2 hq2 => (Hd hW hX hq2 hs).elim (fun h => ⟨_, h1, h⟩) (fun h => ⟨_, h2, h⟩)
 have fin' : ∀ {X : List Int}, Kept t (· ∈ X) -> (W, X) ∈ tp10 r j la lb lc W -> (X, W) ∈ tp10 r j la lb lc W -> SubP (X, W) q -> ∃ p' ∈ tp10 r j la lb lc W, SubP p' s := fun hX h1 h2 hq2 => (Hd hX hW hq2 hs).elim (fun h => ⟨_, h2, h⟩) (fun h => ⟨_, h1, h⟩)
 have one : ∀ {m : Int} {Y Z : List Int}, (nd t m).kind = 10 -> (nd t m).a ∈ Y -> (nd t m).b ∈ Z -> (W, [m]) ∈ tp10 r j la lb lc W -> (W, Y) ∈ tp10 r j la lb lc W -> (W, Z) ∈ tp10 r j la lb lc W -> SubP (W, [m]) q -> ∃ p' ∈ tp10 r j la lb lc W, SubP p' s := by
  intro m Y Z hm ha hb hM hY hZ hq2
  rcases L8 hs with ⟨i, rest, M, a1, a2, rfl, a4⟩ | ⟨_, i, rest, M, a1, a2, rfl, a4⟩ | ⟨_, a0⟩
  ·have hr := NP hq.1 a2
   have hi := hq2.1 i (a2.mem_iff.2 (by simp))
   have hab := hW.pair i hi (.inr (Fe a1))
   refine ⟨_, hM, Ih (l := []) (fun x hx => hq2.1 x (hr x hx).1) (fun x hx => ?_), hq2.2⟩
   rcases a4 with ⟨_, rfl⟩ | ⟨_, rfl | rfl⟩
   ·simp at hx; rcases hx with rfl | rfl; exact hab.1; exact hab.2
   ·simp at hx; subst hx; exact hab.1
   ·simp at hx; subst hx; exact hab.2
  ·have hr := NP hq.2 a2
   have hi : i = m := by simpa using hq2.2 i (a2.mem_iff.2 (by simp))
   subst hi
   have hre : ∀ x ∈ rest, False := fun x hx => absurd (by simpa using hq2.2 x (hr x hx).1) (hr x hx).2
   rcases a4 with ⟨b1, _⟩ | ⟨_, rfl | rfl⟩
   ·rw [hm] at b1; omega
   ·exact ⟨_, hY, hq2.1, Ih (l := []) (fun x hx => (hre x hx).elim) (fun x hx => by simp at hx; subst hx; exact ha)⟩
   ·exact ⟨_, hZ, hq2.1, Ih (l := []) (fun x hx => (hre x hx).elim) (fun x hx => by simp at hx; subst hx; exact hb)⟩
  ·exact fin (X := la) h.ka (by simp [tp10]) (by simp [tp10]) ⟨hq2.1, fun x hx => by
    have e : x = m := by simpa using hq2.2 x hx
    subst e
    have := a0 _ hx; rw [hm] at this; cases this⟩
 unfold tp10 at hp;simp only [List.mem_cons, List.not_mem_nil, or_false] at hp
 rcases hp with rfl | rfl | rfl | rfl | rfl | rfl | rfl | rfl
 ·exact one (Y := [j]) h.rk (by rw [h.ra]; simp) h.rb (by simp [tp10]) (by simp [tp10]) (by simp [tp10]) hqp
 ·exact one h.jk h.ja h.jb (by simp [tp10]) (by simp [tp10]) (by simp [tp10]) hqp
 ·exact fin h.ka (by simp [tp10]) (by simp [tp10]) hqp
 ·exact fin h.kb (by simp [tp10]) (by simp [tp10]) hqp
 ·exact fin h.kc (by simp [tp10]) (by simp [tp10]) hqp
 ·exact fin' h.ka (by simp [tp10]) (by simp [tp10]) hqp
 ·exact fin' h.kb (by simp [tp10]) (by simp [tp10]) hqp
 ·exact fin' h.kc (by simp [tp10]) (by simp [tp10]) hqp
theorem TA {F : List (List Int × List Int)} {q : BSq} (hl : F.length <= 30) (hF : ∀ p ∈ F, (∀ i ∈ p.1, In t i) /\ (∀ i ∈ p.2, In t i) /\ p.1.length + p.2.length <= 32) (hq : Srt q) (hq2 : ∃ p ∈ F, SubP p q)
  (hst : ∀ {q s : BSq}, Srt q -> s ∈ (AX t q).2 -> ∀ {p : List Int × List Int}, p ∈ F -> SubP p q -> ∃ p' ∈ F, SubP p' s) : ∃ U, UOk t q U := by
 have hmem : ∀ s, s ∈ F.flatMap (fun p => UAB (cs p.1) (cs p.2)) ↔ Srt s /\ ∃ p ∈ F, SubP p s := by
  intro s
  rw [List.mem_flatMap]
  constructor
  ·rintro ⟨p, hp, hs⟩
   obtain ⟨a, b, c⟩ := (D2 (Bk _) (Bk _)).1 hs;exact ⟨a, p, hp, fun i hi => mem_cs.1 (b i hi), fun i hi => mem_cs.1 (c i hi)⟩
  ·rintro ⟨a, p, hp, b, c⟩
   exact ⟨p, hp, (D2 (Bk _) (Bk _)).2 ⟨a, fun i hi => mem_cs.2 (b i hi), fun i hi => mem_cs.2 (c i hi)⟩⟩
 refine ⟨_, (hmem _).2 ⟨hq, hq2⟩, fun s hs => ((hmem s).1 hs).1, fun s hs => ?_, fun s hs s' hs' => ?_, ?_⟩
 ·obtain ⟨_, p, hp, a, b⟩ := (hmem s).1 hs
  obtain ⟨c, d, _⟩ := hF p hp;exact ⟨fun i hi => c i (a i hi), fun i hi => d i (b i hi)⟩
 ·obtain ⟨a, p, hp, b⟩ := (hmem s).1 hs
  exact (hmem s').2 ⟨HG a hs', hst a hs' hp b⟩
 ·refine Nat.le_trans (N9 _ (2 ^ 32) _ fun p hp => ?_) (Nat.le_trans (Nat.mul_le_mul_right _ hl) (by decide))
  obtain ⟨_, _, e⟩ := hF p hp;rw [Nl]
  have := RY p.1
  have := RY p.2
  exact Nat.pow_le_pow_right (by omega) (by omega)
theorem TriS.U9 (h : TriS t 9 r j la lb lc) (hW : Kept t (· ∈ W)) {r2 : Int} (hr2 : r2 ∈ W) (l1 : la.length <= 7) (l2 : lb.length <= 7) (l3 : lc.length <= 7) (lW : W.length <= 25) : ∃ U, UOk t ⟨[r], [r2]⟩ U := by
 refine TA (F := tp9 r j la lb lc W) (by simp [tp9]) (fun p hp => ?_) ⟨by simp, by simp⟩ ⟨([r], W), by simp [tp9], fun i hi => hi, fun i hi => by rw [List.mem_singleton.1 hi]; exact hr2⟩ (fun hq hs _ hp hqp => h.step9 hW hq hs hp hqp)
 have q1 := h.ka.inn; have q2 := h.kb.inn; have q3 := h.kc.inn; have q4 := hW.inn
 have co : ∀ {x : Int}, In t x -> ∀ i ∈ [x], In t i := fun h1 i hi => by rw [List.mem_singleton.1 hi]; exact h1
 unfold tp9 at hp;simp only [List.mem_cons, List.not_mem_nil, or_false] at hp
 rcases hp with rfl | rfl | rfl | rfl | rfl | rfl | rfl | rfl
 ·exact ⟨co h.ir, q4, by simp; omega⟩
 ·exact ⟨co h.ij, q4, by simp; omega⟩
 ·exact ⟨q1, q4, by simp only; omega⟩
 ·exact ⟨q2, q4, by simp only; omega⟩
 ·exact ⟨q3, q4, by simp only; omega⟩
 ·exact ⟨q4, q1, by simp only; omega⟩
 ·exact ⟨q4, q2, by simp only; omega⟩
 ·exact ⟨q4, q3, by simp only; omega⟩
theorem TriS.U10 (h : TriS t 10 r j la lb lc) (hW : Kept t (· ∈ W)) {r2 : Int} (hr2 : r2 ∈ W) (l1 : la.length <= 7) (l2 : lb.length <= 7) (l3 : lc.length <= 7) (lW : W.length <= 25) : ∃ U, UOk t ⟨[r2], [r]⟩ U := by
 refine TA (F := tp10 r j la lb lc W) (by simp [tp10]) (fun p hp => ?_) ⟨by simp, by simp⟩ ⟨(W, [r]), by simp [tp10], fun i hi => by rw [List.mem_singleton.1 hi]; exact hr2, fun i hi => hi⟩ (fun hq hs _ hp hqp => h.step10 hW hq hs hp hqp)
 have q1 := h.ka.inn; have q2 := h.kb.inn; have q3 := h.kc.inn; have q4 := hW.inn
 have co : ∀ {x : Int}, In t x -> ∀ i ∈ [x], In t i := fun h1 i hi => by rw [List.mem_singleton.1 hi]; exact h1
 unfold tp10 at hp;simp only [List.mem_cons, List.not_mem_nil, or_false] at hp
 rcases hp with rfl | rfl | rfl | rfl | rfl | rfl | rfl | rfl
 ·exact ⟨q4, co h.ir, by simp; omega⟩
 ·exact ⟨q4, co h.ij, by simp; omega⟩
 ·exact ⟨q4, q1, by simp only; omega⟩
 ·exact ⟨q4, q2, by simp only; omega⟩
 ·exact ⟨q4, q3, by simp only; omega⟩
 ·exact ⟨q1, q4, by simp only; omega⟩
 ·exact ⟨q2, q4, by simp only; omega⟩
 ·exact ⟨q3, q4, by simp only; omega⟩
end
end Go.Proofs.YtkfnogdccpcmhaaGreatDoor
namespace Go.Proofs.YtkfnogdccpcmhaaGreatDoor
open Go.V Tryz
open Classical
theorem Lq {s t : ATy} {f : Int -> Int} {l : List Int} (hk : Kept s (· ∈ l)) (h : Emb s t f) (hin : ∀ i, In s i -> In t (f i)) : Kept t (· ∈ l.map f) := by
 refine ⟨fun x hx => ?_, fun x hx hxk => ?_, fun x hx g hg => ?_⟩
 ·obtain ⟨i, hi, rfl⟩ := List.mem_map.1 hx
  exact hin i (hk.inn i hi)
 ·obtain ⟨i, hi, rfl⟩ := List.mem_map.1 hx
  rw [h.node i (hk.inn i hi)] at hxk ⊢;obtain ⟨e1, e2⟩ := AY (f := f) (n := nd s i) hxk;rw [e1, e2];obtain ⟨h1, h2⟩ := hk.pair i hi hxk;exact ⟨List.mem_map.2 ⟨_, h1, rfl⟩, List.mem_map.2 ⟨_, h2, rfl⟩⟩
 ·obtain ⟨i, hi, rfl⟩ := List.mem_map.1 hx
  rw [h.node i (hk.inn i hi)] at hg;obtain ⟨g0, hg0, rfl⟩ := List.mem_map.1 hg;exact List.mem_map.2 ⟨_, hk.fld i hi g0 hg0, rfl⟩
theorem PY {s t : ATy} {f : Int -> Int} {k r j : Int} {la lb lc : List Int} (hk : k = 9 \/ k = 10) (h : TriS s k r j la lb lc) (he : Emb s t f) (hin : ∀ i, In s i -> In t (f i)) : TriS t k (f r) (f j) (la.map f) (lb.map f) (lc.map f) := by
 have er := he.node r h.ir
 have ej := he.node j h.ij
 have kr : (nd s r).kind = 6 \/ (nd s r).kind = 9 \/ (nd s r).kind = 10 := by rw [h.rk]; rcases hk with rfl | rfl; exact .inr (.inl rfl); exact .inr (.inr rfl)
 have kj : (nd s j).kind = 6 \/ (nd s j).kind = 9 \/ (nd s j).kind = 10 := by rw [h.jk]; rcases hk with rfl | rfl; exact .inr (.inl rfl); exact .inr (.inr rfl)
 refine ⟨Lq h.ka he hin, Lq h.kb he hin, Lq h.kc he hin, hin r h.ir, hin j h.ij, ?_, ?_, ?_, ?_, ?_, ?_⟩
 ·rw [er]; exact h.rk
 ·rw [er, (AY kr).1, h.ra]
 ·rw [er, (AY kr).2]; exact List.mem_map.2 ⟨_, h.rb, rfl⟩
 ·rw [ej]; exact h.jk
 ·rw [ej, (AY kj).1]; exact List.mem_map.2 ⟨_, h.ja, rfl⟩
 ·rw [ej, (AY kj).2]; exact List.mem_map.2 ⟨_, h.jb, rfl⟩
theorem Sv {k : Int} (hk : k = 9 \/ k = 10) {a b c : ATy} (ha : FewO a) (hb : FewO b) (hc : FewO c) : ∃ j la lb lc, TriS (withT k (withT k a b) c) k (withT k (withT k a b) c).root j la lb lc /\ la.length <= 7 /\ lb.length <= 7 /\ lc.length <= 7 := by
 have l1 := ha.2; have l2 := hb.2; have l3 := hc.2
 have hj : MayO (withT k a b) := GH hk ha.1 hb.1 (by omega)
 have lj := BZ k a b
 have hT : MayO (withT k (withT k a b) c) := GH hk hj hc.1 (by omega)
 have tT := Oc k (withT k a b) c
 have tj := Oc k a b
 have ej := Qc k (withT k a b) c
 have ec := Qe k (withT k a b) c
 have ij : ∀ i, In (withT k a b) i -> In (withT k (withT k a b) c) i := fun i h => LE h
 have ic : ∀ i, In c i -> In (withT k (withT k a b) c) (i + ((withT k a b).l.length : Int)) := fun i h => LC h
 have ea := (Qc k a b).comp ej (fun i h => LE h)
 have eb := (Qe k a b).comp ej (fun i h => LC h)
 have kj := TD ej hj.root hk tj
 refine ⟨(withT k a b).root, (rngI a.l.length).map (fun x => x), (rngI b.l.length).map (fun x => x + (a.l.length : Int)), (rngI c.l.length).map (fun x => x + ((withT k a b).l.length : Int)),
  ⟨HH ha.1.ok ea (fun i h => ij i (LE h)), HH hb.1.ok eb (fun i h => ij _ (LC h)), HH hc.1.ok ec ic, hT.root, ij _ hj.root, by rw [tT], by rw [tT], by rw [tT]; exact HO hc.1.root _, kj.1, by rw [kj.2.1]; exact HO ha.1.root _, by rw [kj.2.2]; exact HO hb.1.root _⟩, by rw [JB]; exact l1, by rw [JB]; exact l2, by rw [JB]; exact l3⟩
noncomputable def preL (t : ATy) (l : List Int) : List Int := (rngI (normG t).l.length).filter (fun i => decide (upN t i ∈ l))
theorem mem_pre {t : ATy} {l : List Int} {i : Int} : i ∈ preL t l ↔ In (normG t) i /\ upN t i ∈ l := by
 unfold preL;rw [List.mem_filter, mem_rngI, decide_eq_true_eq]; rfl
theorem TI {t : ATy} (h : MayO t) {x y : Int} (hx : In (normG t) x) (hy : In (normG t) y) (e : upN t x = upN t y) : x = y := by
 obtain ⟨_, l2, l3, l4, lA, lE⟩ := En h.may;obtain ⟨b1, b2, b3⟩ := CC (AD lA) l3 l4
 have q : ∀ {z : Int}, In (normG t) z -> z.toNat < (AM t.l t.root).length := fun {z} hz => by
  have h1 := hz.1; have h2 := hz.2
  unfold normG at h2;rw [FM] at h2
  omega
 have hx1 := q hx; have hy1 := q hy
 unfold upN at e;rw [List.getElem?_eq_getElem hx1, List.getElem?_eq_getElem hy1] at e
 have e2 : (AM t.l t.root)[x.toNat] = (AM t.l t.root)[y.toNat] := e
 have := (List.getElem_inj b2).1 e2
 have := hx.1; have := hy.1
 omega
theorem Pu (n : Nat) : (rngI n).Nodup := by
 unfold rngI;refine List.Pairwise.map _ (fun a b h => ?_) List.nodup_range
 intro e; exact h (by omega)
theorem NF {t : ATy} (h : MayO t) (l : List Int) : (preL t l).length <= l.length := by
 have hn : ((preL t l).map (upN t)).Nodup := by
  have h1 : (preL t l).Nodup := (Pu _).filter _
  rw [List.nodup_iff_pairwise_ne] at h1 ⊢;rw [List.pairwise_map];exact h1.imp_of_mem fun {x y} hx hy hne e => hne (TI h (mem_pre.1 hx).1 (mem_pre.1 hy).1 e)
 have := IY _ l hn (fun x hx => by
  obtain ⟨i, hi, rfl⟩ := List.mem_map.1 hx;exact (mem_pre.1 hi).2)
 rw [List.length_map] at this;exact this
theorem Lr {t : ATy} (h : MayO t) (hl : t.l.length <= 2000) {l : List Int} (hk : Kept t (· ∈ l)) : Kept (normG t) (· ∈ preL t l) := by
 have hX := (F3 h hl).ok
 have he := Lh h hl
 refine ⟨fun i hi => (mem_pre.1 hi).1, fun i hi hik => ?_, fun i hi g hg => ?_⟩
 ·obtain ⟨h1, h2⟩ := mem_pre.1 hi
  have hn := he.node i h1
  have hp := hX.pair h1 hik
  have := hk.pair _ h2 (by rw [hn]; exact hik)
  rw [hn, (AY hik).1, (AY hik).2] at this;exact ⟨mem_pre.2 ⟨hp.1, this.1⟩, mem_pre.2 ⟨hp.2, this.2⟩⟩
 ·obtain ⟨h1, h2⟩ := mem_pre.1 hi
  have hn := he.node i h1
  refine mem_pre.2 ⟨hX.at_ h1 hg, ?_⟩
  have := hk.fld _ h2 ⟨g.name, upN t g.at_⟩ (by rw [hn]; exact List.mem_map.2 ⟨g, hg, rfl⟩)
  exact this
theorem R4 {k j : Int} (hk : k = 9 \/ k = 10) {t : ATy} {la lb lc : List Int} (h : MayO t) (hl : t.l.length <= 2000) (hT : TriS t k t.root j la lb lc) : TriS (normG t) k (normG t).root (nd (normG t) (normG t).root).a (preL t la) (preL t lb) (preL t lc) := by
 have hX := F3 h hl
 have he := Lh h hl
 have r1 := hX.root
 have er := he.node _ r1
 have e0 : upN t (normG t).root = t.root := Qp h hl
 rw [e0] at er
 have rk : (nd (normG t) (normG t).root).kind = k := by have := hT.rk; rw [er] at this; exact this
 have kr : (nd (normG t) (normG t).root).kind = 6 \/ (nd (normG t) (normG t).root).kind = 9 \/ (nd (normG t) (normG t).root).kind = 10 := by rw [rk]; rcases hk with rfl | rfl; exact .inr (.inl rfl); exact .inr (.inr rfl)
 have hp := hX.ok.pair r1 kr
 have ra := hT.ra
 have rb := hT.rb
 rw [er, (AY kr).1] at ra;rw [er, (AY kr).2] at rb
 have ej := he.node _ hp.1
 rw [ra] at ej
 have jk : (nd (normG t) (nd (normG t) (normG t).root).a).kind = k := by have := hT.jk; rw [ej] at this; exact this
 have kj : (nd (normG t) (nd (normG t) (normG t).root).a).kind = 6 \/ (nd (normG t) (nd (normG t) (normG t).root).a).kind = 9 \/ (nd (normG t) (nd (normG t) (normG t).root).a).kind = 10 := by rw [jk]; rcases hk with rfl | rfl; exact .inr (.inl rfl); exact .inr (.inr rfl)
 have hpj := hX.ok.pair hp.1 kj
 have ja := hT.ja
 have jb := hT.jb
 rw [ej, (AY kj).1] at ja;rw [ej, (AY kj).2] at jb;exact ⟨Lr h hl hT.ka, Lr h hl hT.kb, Lr h hl hT.kc, r1, hp.1, rk, rfl, mem_pre.2 ⟨hp.2, rb⟩, jk, mem_pre.2 ⟨hpj.1, ja⟩, mem_pre.2 ⟨hpj.2, jb⟩⟩
end Go.Proofs.YtkfnogdccpcmhaaGreatDoor
namespace Go.Proofs.YtkfnogdccpcmhaaGreatDoor
open Go.V Tryz
open Classical
theorem K6 {s t : ATy} {j : Int} {la lb lc : List Int} (hs : MayO s) (ht : MayO t) (h : TriS s 9 s.root j la lb lc) (l1 : la.length <= 7) (l2 : lb.length <= 7) (l3 : lc.length <= 7) (lt : t.l.length <= 25) : ∃ U, UOk (AS s t) ⟨[s.root], [t.root + (s.l.length : Int)]⟩ U := by
 have h1 := PY (.inl rfl) h (JR s t) (fun i hi => J6 hi)
 have hW := HH ht.ok (JN s t) (fun i hi => JY hi)
 exact h1.U9 hW (HO ht.root _) (by rw [List.length_map]; exact l1) (by rw [List.length_map]; exact l2) (by rw [List.length_map]; exact l3) (by rw [JB]; exact lt)
theorem Km {s t : ATy} {j : Int} {la lb lc : List Int} (hs : MayO s) (ht : MayO t) (h : TriS t 10 t.root j la lb lc) (l1 : la.length <= 7) (l2 : lb.length <= 7) (l3 : lc.length <= 7) (ls : s.l.length <= 25) : ∃ U, UOk (AS s t) ⟨[s.root], [t.root + (s.l.length : Int)]⟩ U := by
 have h1 := PY (.inr rfl) h (JN s t) (fun i hi => JY hi)
 have hW := HH hs.ok (JR s t) (fun i hi => J6 hi)
 exact h1.U10 hW (HO hs.root _) (by rw [List.length_map]; exact l1) (by rw [List.length_map]; exact l2) (by rw [List.length_map]; exact l3) (by rw [JB]; exact ls)
theorem Mn {k : Int} (hk : k = 9 \/ k = 10) {a b c : ATy} (ha : FewO a) (hb : FewO b) (hc : FewO c) : Bf (normG (withT k (withT k a b) c)) (withT k (withT k a b) c) = some true := by
 obtain ⟨j, la, lb, lc, hT, l1, l2, l3⟩ := Sv hk ha hb hc
 have q1 := ha.2; have q2 := hb.2; have q3 := hc.2
 have hj : MayO (withT k a b) := GH hk ha.1 hb.1 (by omega)
 have lj := BZ k a b
 have hM : MayO (withT k (withT k a b) c) := GH hk hj hc.1 (by omega)
 have lT := BZ k (withT k a b) c
 generalize withT k (withT k a b) c = T at *
 have lT2 : T.l.length <= 23 := by omega
 have hX := F3 hM (by omega)
 have lX := Li hM
 have hN := R4 hk hM (by omega) hT
 have n1 := Nat.le_trans (NF hM la) l1
 have n2 := Nat.le_trans (NF hM lb) l2
 have n3 := Nat.le_trans (NF hM lc) l3
 rcases hk with rfl | rfl
 ·obtain ⟨U, hU⟩ := K6 hX hM hN n1 n2 n3 (by omega)
  obtain ⟨V, hV⟩ := K6 hM hX hT l1 l2 l3 (by omega);exact Jb hM (by omega) (Ix hX hM (by omega) hU) (Ix hM hX (by omega) hV)
 ·obtain ⟨U, hU⟩ := Km hX hM hT l1 l2 l3 (by omega)
  obtain ⟨V, hV⟩ := Km hM hX hN n1 n2 n3 (by omega);exact Jb hM (by omega) (Ix hX hM (by omega) hU) (Ix hM hX (by omega) hV)
theorem JD {k : Int} (hk : k = 9 \/ k = 10) {a : ATy} {r : List ATy} (ha : FewO a) (hr : ∀ x ∈ r, FewO x) (hl : r.length <= 2) : Bf (normG (foldW k a r)) (foldW k a r) = some true := by
 have q1 := ha.2
 match r, hl with
 | [], _ => exact Fh ha.1 (by show a.l.length <= _; omega)
 | [b], _ =>
  have hb := hr b (by simp)
  have q2 := hb.2
  exact Fh (t := withT k a b) (GH hk ha.1 hb.1 (by omega)) (by rw [BZ]; omega)
 | [b, c], _ => exact Mn hk ha (hr b (by simp)) (hr c (by simp))
end Go.Proofs.YtkfnogdccpcmhaaGreatDoor
namespace Go.Proofs.YtkfnogdccpcmhaaGreatDoor
open Go.V Tryz
open Classical
def exV : ATy := ⟨[⟨11, 0, 0, []⟩, ⟨6, 0, 0, []⟩], 1⟩
def exP : ATy := ⟨[⟨6, 1, 1, []⟩, ⟨3, 0, 0, []⟩], 0⟩
def exQ : ATy := ⟨[⟨6, 1, 2, []⟩, ⟨3, 0, 0, []⟩, ⟨3, 0, 0, []⟩], 0⟩
set_option maxHeartbeats 4000000 in
theorem TJ : Fl exV [leafT 3] = some (exP, 0) := by rfl
set_option maxHeartbeats 4000000 in
theorem St : CK (leafT 3) (leafT 3) = some (exQ, 0) := by rfl
theorem Pk : C7 exP = some true := by
 have e1 : Bt exP = some 0 := by rfl
 have e2 : ((Hj exP exP.root).bind fun xs1 => Cu exP xs1 [] : Option (List Int)) = some [] := by rfl
 unfold C7 FH;rw [e1, oB, oB, e2];rw [dT rfl, cT, Bool.not_true, cF_, oB, Ab (by simp)]
 simp [Lib.compact]
 first | rfl | (unfold Lib.compactUpTo; rfl) | simp [Lib.compactUpTo]
theorem exP_may : MayO exP := NU (by decide) (by intro n hn; simp [exP] at hn; rcases hn with rfl | rfl <;> simp [NB]) (by rfl)
theorem exQ_may : MayO exQ := NU (by decide) (by intro n hn; simp [exQ] at hn; rcases hn with rfl | rfl | rfl <;> simp [NB]) (by rfl)
theorem exPQ : Sub exP exQ := by
 intro p hp
 have h1 := (FA (t := exP) (i := 0) (by decide) (by decide)).1 hp
 refine (FA (t := exQ) (i := 0) (by decide) (by decide)).2 ?_;rw [Oj (by decide)] at h1 ⊢
 cases p with
 | tag S k => exact h1
 | dom S q => exact fun h2 => h1 ((Fp (t := exP) (i := 1) (k := 3) (by decide) (by decide)).2 ((Fp (t := exQ) (i := 1) (k := 3) (by decide) (by decide)).1 h2))
 | cod S q => exact (Fp (t := exQ) (i := 2) (k := 3) (by decide) (by decide)).2 ((Fp (t := exP) (i := 1) (k := 3) (by decide) (by decide)).1 h1)
 | absent S q => exact h1.elim
 | field S s q => exact h1.elim
 | hasc S q => exact h1.elim
 | case S s q => exact h1.elim
theorem exQP : Sub exQ exP := by
 intro p hp
 have h1 := (FA (t := exQ) (i := 0) (by decide) (by decide)).1 hp
 refine (FA (t := exP) (i := 0) (by decide) (by decide)).2 ?_;rw [Oj (by decide)] at h1 ⊢
 cases p with
 | tag S k => exact h1
 | dom S q => exact fun h2 => h1 ((Fp (t := exQ) (i := 1) (k := 3) (by decide) (by decide)).2 ((Fp (t := exP) (i := 1) (k := 3) (by decide) (by decide)).1 h2))
 | cod S q => exact (Fp (t := exP) (i := 1) (k := 3) (by decide) (by decide)).2 ((Fp (t := exQ) (i := 2) (k := 3) (by decide) (by decide)).1 h1)
 | absent S q => exact h1.elim
 | field S s q => exact h1.elim
 | hasc S q => exact h1.elim
 | case S s q => exact h1.elim
theorem G8 : Ex = some true := by
 unfold Ex;rw [show Dh 3 = some (leafT 3) from rfl, oB]
 change ((Fl exV [leafT 3]).bind _) = _
 rw [TJ, oB]
 dsimp only
 rw [oB, oB, St, oB]
 dsimp only
 change ((DB exP exQ).bind _) = _
 rw [Si (by decide) (by decide) exP_may.nb exQ_may.nb (fun _ _ => by decide), if_pos exP_may.may, if_pos exQ_may.may, dT exPQ, dT exQP, oB]
 change (Option.bind (bif true then ((C7 exP).bind fun x10 => some x10) else some false) fun p1 => some p1) = _
 rw [Pk]; rfl
end Go.Proofs.YtkfnogdccpcmhaaGreatDoor
namespace Go.Proofs.YtkfnogdccpcmhaaGreatDoor
open Go.V Tryz
open Classical
theorem MC {k : Int} (hk : k = 6 \/ k = 6) {a b : ATy} (ha : MayO a) (hb : MayO b) (hl : a.l.length + b.l.length <= 100) : MayO (withT k a b) := by
 have hg := HI ha.ok hb.ok
 have hra := ha.root
 have hrb := hb.root
 have hR : Bg (withT k a b).l := by
  intro n hn
  rw [BZ]
  rcases List.mem_append.1 hn with hn | hn
  ·exact IU (hg.right n hn) (by rw [A0]; omega)
  ·rw [List.mem_singleton] at hn
   subst hn
   have h1 := hra.1; have h2 := hra.2; have h3 := hrb.1; have h4 := hrb.2
   have hnm : Ev ⟨k, a.root, b.root + (a.l.length : Int), []⟩ := fun i x hx => by simp at hx
   have hkid : ¬ ∃ q ∈ kidsL ⟨k, a.root, b.root + (a.l.length : Int), []⟩, inB ((a.l.length + b.l.length + 1 : Nat) : Int) q = true := by
    rintro ⟨q, hq, h5⟩
    have e : kidsL ⟨k, a.root, b.root + (a.l.length : Int), []⟩ = [a.root, b.root + (a.l.length : Int)] := by
     unfold kidsL pB
     rcases hk with rfl | rfl <;> rfl
    rw [e] at hq;unfold inB at h5;simp only [Bool.or_eq_true, decide_eq_true_eq] at h5;simp only [List.mem_cons, List.not_mem_nil, or_false] at hq
    rcases hq with rfl | rfl <;> omega
   unfold Bi;rw [dT hnm, dF hkid]
   rcases hk with rfl | rfl <;> rfl
 have hE : D6 (withT k a b).l := by
  intro i hi
  rw [BZ] at hi
  by_cases h : i < (AS a b).l.length
  ·obtain ⟨m, hm⟩ := hg.ends i h
   exact ⟨m, DW (AD hg.right) m i h hm⟩
  ·rw [A0] at h
   have hii : i = a.l.length + b.l.length := by omega
   subst hii
   have h1 := hra.1; have h2 := hra.2; have h3 := hrb.1; have h4 := hrb.2
   have la : a.root.toNat < (AS a b).l.length := by rw [A0]; omega
   have lb : (b.root + (a.l.length : Int)).toNat < (AS a b).l.length := by rw [A0]; omega
   obtain ⟨m1, hm1⟩ := hg.ends _ la;obtain ⟨m2, hm2⟩ := hg.ends _ lb
   have e1 := DW (B := [⟨k, a.root, b.root + (a.l.length : Int), []⟩]) (AD hg.right) m1 _ la hm1
   have e2 := DW (B := [⟨k, a.root, b.root + (a.l.length : Int), []⟩]) (AD hg.right) m2 _ lb hm2
   refine ⟨max m1 m2 + 1, ?_⟩
   have e3 := EC (Nat.le_max_left m1 m2) e1
   have e4 := EC (Nat.le_max_right m1 m2) e2
   unfold endk
   have eq : (withT k a b).l[a.l.length + b.l.length]? = some ⟨k, a.root, b.root + (a.l.length : Int), []⟩ := by
    unfold withT
    simp only
    rw [List.getElem?_append_right (by rw [A0]; omega), A0, Nat.sub_self]; rfl
   rw [eq]
   simp only
   show (!latB k || _) = true
   rw [Bool.or_eq_true, Bool.and_eq_true];exact .inr ⟨e3, e4⟩
 refine ⟨?_, fun n hn => ?_⟩
 ·unfold mayT
  rw [if_neg (by rw [BZ]; omega), if_neg (by rw [BZ, ME]; omega), if_pos ⟨hR, hE⟩]
 ·rcases List.mem_append.1 hn with hn | hn
  ·exact H8 ha.nb hb.nb n hn
  ·rw [List.mem_singleton] at hn; subst hn; simp [NB]
theorem RN {a b : ATy} (ha : MayO a) (hb : MayO b) : errL [a, b] = 0 := Nb fun t ht => by
 rcases List.mem_cons.1 ht with rfl | ht
 ·exact ha.may
 ·rw [List.mem_singleton.1 ht]; exact hb.may
theorem PE {a b : ATy} (ha : FewO a) (hb : FewO b) : CK a b = some (normG (withT 6 a b), 0) := by
 have q1 := ha.2; have q2 := hb.2
 have hM : MayO (withT 6 a b) := MC (.inl rfl) ha.1 hb.1 (by omega)
 unfold CK;rw [JA [a, b] (by simp) (fun t ht => by
  rcases List.mem_cons.1 ht with rfl | ht
  ·omega
  ·rw [List.mem_singleton.1 ht]; omega) (fun t ht => by
  rcases List.mem_cons.1 ht with rfl | ht
  ·exact ha.1.nb
  ·rw [List.mem_singleton.1 ht]; exact hb.1.nb), oB, RN ha.1 hb.1, dT rfl, Bool.not_true, cF_, MD ha.1 hb.1 (by omega) (by omega), oB]
 unfold Dn;rw [NJ hM (by rw [BZ]; omega), oB, oB]
theorem N3 {a b : ATy} (ha : FewO a) (hb : FewO b) : Bf (normG (withT 6 a b)) (withT 6 a b) = some true := by
 have q1 := ha.2; have q2 := hb.2
 exact Fh (MC (.inl rfl) ha.1 hb.1 (by omega)) (by rw [BZ]; omega)
theorem Qo {k nn : Int} {l : List ATy} (hl : l.length <= 1000) (hlen : ∀ t ∈ l, t.l.length <= 2001) (hN : ∀ t ∈ l, ∀ n ∈ t.l, NB n) (h : ¬ errL l = 0) : Bu k nn l = some (⟨[], 0⟩, errL l) := by
 unfold Bu;rw [JA l hl hlen hN, oB, dF h, Bool.not_false, cT]
theorem OI {k nn : Int} : Bu k nn [] = some (leafT nn, 0) := by
 unfold Bu;rw [JA [] (by simp) (fun t ht => by cases ht) (fun t ht => by cases ht), oB]
 rfl
theorem Pj {k : Int} (h : MayO (leafT k)) (he : Bz (leafT k) = some (leafT k, 0)) : normG (leafT k) = leafT k := by
 have := NJ h (by show 1 <= 2000; decide)
 rw [he] at this;exact (Prod.mk.inj (Option.some.inj this)).1.symm
theorem LR {k : Int} (h : MayO (leafT k)) (he : Bz (leafT k) = some (leafT k, 0)) : Bf (leafT k) (leafT k) = some true := by
 have := Fh h (by show 1 <= 19; decide)
 rw [Pj h he] at this;exact this
theorem PT : Bz (leafT 1) = some (leafT 1, 0) := by rfl
theorem Pw : Bz (leafT 2) = some (leafT 2, 0) := by rfl
end Go.Proofs.YtkfnogdccpcmhaaGreatDoor
namespace Go.Proofs.YtkfnogdccpcmhaaGreatDoor
open Go.V Tryz
open Classical
theorem TE (l : List ATy) : EX l = Bu 9 2 l := by
 unfold EX
 cases Bu 9 2 l with
 | none => rfl
 | some x => rfl
theorem Pf (l : List ATy) : EN l = Bu 10 1 l := by
 unfold EN
 cases Bu 10 1 l with
 | none => rfl
 | some x => rfl
theorem law_BoundMakes (l : List ATy) : Eo l = some true := by
 unfold Eo;rw [O1 l, oB]
 have hLl : ((l.take 3).map (fewT 7)).length <= 3 := by rw [List.length_map, List.length_take]; omega
 have hL2 : ((l.take 3).map (fewT 7)).map (fewT 7) = (l.take 3).map (fewT 7) := by
  rw [List.map_map];exact List.map_congr_left fun t _ => QR 7 (by omega) t
 have hm : ∀ t ∈ (l.take 3).map (fewT 7), t.l.length <= 2001 /\ (∀ n ∈ t.l, NB n) /\ (mayT t.l t.root = 0 -> t.l.length <= 7) := fun t ht => by
  obtain ⟨s, _, rfl⟩ := List.mem_map.1 ht;exact ⟨N4 7 (by omega) s, Ti 7 s, fun h => PN 7 s (En h).2.1⟩
 generalize (l.take 3).map (fewT 7) = L at *
 have hf : Fm L 3 = some L := by rw [O1, List.take_of_length_le hLl, hL2]
 have hlen : ∀ t ∈ L, t.l.length <= 2001 := fun t ht => (hm t ht).1
 have hN : ∀ t ∈ L, ∀ n ∈ t.l, NB n := fun t ht => (hm t ht).2.1
 rw [hf, oB, TE]
 by_cases h0 : errL L = 0
 ·have hF : ∀ t ∈ L, FewO t := fun t ht => ⟨⟨Qw h0 t ht, hN t ht⟩, (hm t ht).2.2 (Qw h0 t ht)⟩
  cases L with
  | nil =>
   rw [OI, oB]
   dsimp only
   rw [oB, Pf, OI, oB]
   dsimp only
   rw [IT [] (by simp) hlen hN, oB, show errL [] = 0 from rfl, show (decide ((0 : Int) = 0)) = true from rfl, Bool.not_true, cF_, cF_, cF_]
   change ((Dr 9 2 []).bind _) = _
   rw [show Dr 9 2 [] = some (leafT 2) from rfl, oB]
   change ((Bf (leafT 2) (leafT 2)).bind _) = _
   rw [LR SR Pw, oB, Bool.not_true, cF_]
   change ((Dr 10 1 []).bind _) = _
   rw [show Dr 10 1 [] = some (leafT 1) from rfl, oB]
   change ((Bf (leafT 1) (leafT 1)).bind _) = _
   rw [LR Tp PT, oB, Bool.not_true, cF_, dT (by simp), cT, G8, oB]
  | cons a r =>
   have ha := hF a (by simp)
   have hr : ∀ x ∈ r, FewO x := fun x hx => hF x (by simp [hx])
   have hl2 : r.length <= 2 := by rw [List.length_cons] at hLl; omega
   rw [RG (.inl rfl) ha hr hl2, oB]
   dsimp only
   rw [oB, Pf, RG (.inr rfl) ha hr hl2, oB]
   dsimp only
   rw [IT (a :: r) (by omega) hlen hN, oB, h0]
   change ((Dr 9 2 (a :: r)).bind _) = _
   rw [Sf (.inl rfl) ha hr hl2, oB]
   change ((Bf (normG (foldW 9 a r)) (foldW 9 a r)).bind _) = _
   rw [JD (.inl rfl) ha hr hl2, oB]
   change ((Dr 10 1 (a :: r)).bind _) = _
   rw [Sf (.inr rfl) ha hr hl2, oB]
   change ((Bf (normG (foldW 10 a r)) (foldW 10 a r)).bind _) = _
   rw [JD (.inr rfl) ha hr hl2, oB, Bool.not_true, cF_]
   cases r with
   | nil =>
    rw [dT (by simp), cT, G8, oB]
   | cons b r =>
    have hb := hr b (by simp)
    have i0 : idx (a :: b :: r) 0 = some a := by have := getI (l := a :: b :: r) (i := 0) rfl; exact this
    have i1 : idx (a :: b :: r) 1 = some b := by have := getI (l := a :: b :: r) (i := 1) rfl; exact this
    rw [dF (by simp only [List.length_cons]; omega), cF_, i0, oB, i1, oB, PE ha hb, oB]
    dsimp only
    rw [dT rfl, cT, oB, oB];rw [P5 ha.1 hb.1 (by have := ha.2; have := hb.2; omega), oB]
    change ((Bf (normG (withT 6 a b)) (withT 6 a b)).bind _) = _
    rw [N3 ha hb, oB, cT, G8, oB]
 ·rw [Qo (by omega) hlen hN h0, oB]
  dsimp only
  rw [oB, Pf, Qo (by omega) hlen hN h0, oB]
  dsimp only
  rw [IT L (by omega) hlen hN, oB, dF h0, Bool.not_false, cT, dT rfl, Bool.and_true, cT, Ab (by constructor <;> simp), G8]
  rfl
end Go.Proofs.YtkfnogdccpcmhaaGreatDoor
