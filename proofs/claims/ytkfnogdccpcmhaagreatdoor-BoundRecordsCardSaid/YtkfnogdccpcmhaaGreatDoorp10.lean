/- Part 10 of the proof: a program logic, what the functions compute, and what these answer; no condition. -/
import Derived.Test.YtkfnogdccpcmhaaGreatDoorp9
set_option linter.unusedVariables false
set_option linter.unusedSimpArgs false
set_option maxRecDepth 100000
set_option maxHeartbeats 2000000
namespace Go.Proofs.YtkfnogdccpcmhaaGreatDoor
open Go.V Tryz
theorem TX {k:Int}:Fn0 Tryz.prog 83 [.i64 k] (.clo (.func 114) [] [.ref (.i64 k)]):=by
 refine Ad func83 rfl ntmps83 rfl fun H0 fr w0=>?_;refine zq7 ?_;refine Af rfl rfl rfl (BC (fs:=[]) (cs:=[_]) rfl rfl) ?_;refine zq2 ?_;refine Ae ?_;exact retK (AC rfl (Bh rfl) (E6 _)) rfl
noncomputable def B3 (a1:ATy) (bv1:ATy):Nat->(Int×Int×(List ANd))->Option (Int×(List ANd))
 | 0,_=>none
 | n+1,(x1,z2,l2) =>
  bif (decide (x1<(bv1.l.length:Int))) then
   (idx bv1.l x1).bind fun x2 =>
   (CO (⟨x2.kind,x2.a,x2.b,x2.l⟩:ANd) (fun y0=>BG y0 (a1.l.length:Int))).bind fun x3 =>
   grd ((l2.length+([x3]:List _).length)*48<=140737488355328) <|
   grd (InR (x1+1)) <|
   B3 a1 bv1 n ((x1+1),z2,(l2++[x3]))
  else
   some (z2,l2)
noncomputable def Ck (a1:ATy) (bv1:ATy)  : Option (Int×ATy):=
 grd (a1.l.length*48<=140737488355328) <|
 (B3 a1 bv1 FU (0,a1.root,a1.l):Option (Int×(List ANd))).bind fun (z1,l1) =>
 some ((a1.l.length:Int),(⟨l1,z1⟩:ATy))
theorem HQ {a1:ATy} {bv1:ATy}  {r_2:Int} {s_1:ATy} (hm:Ck a1 bv1=some (r_2,s_1)):Go.V.Fn Tryz.prog 75 [ATy.d a1,ATy.d bv1] [] (fun d ms'=>∃ a_s_1c0 m_s_1c0 cap_s_1c0,d = .tup [.agg [.v (.slice a_s_1c0 m_s_1c0 cap_s_1c0),.i64 s_1.root],.i64 r_2]/\ms'=[arr a_s_1c0 m_s_1c0 cap_s_1c0 44 4 ANd.d s_1.l]):=by
 unfold Ck at hm;refine Ad func75 rfl ntmps75 rfl fun H0 fr w0=>?_;refine zq4 ?_;refine BI fun b1=>?_;refine zq7 ?_;refine zal3a fun b2=>?_;refine zst 0 ?_;refine Ag (ms':=[box b2 3 [_],box b1 24 [_,_]]) rfl ?_;refine Al (DN (d := .i64 (a1.l.length:Int)) 0 6 rfl rfl rfl rfl) ?_;refine zq2 ?_;obtain ⟨hg1,hm⟩:=Aa hm;refine F7 [2,5] [7] [3,4] [6] [] AA (by decide +kernel) (by decide +kernel) rfl ?_;refine Bb rfl rfl rfl rfl rfl rfl (oFa DI rfl rfl rfl) ?_;refine Bb rfl rfl rfl rfl rfl rfl (Bg isAgg22 rfl rfl) ?_;refine Er rfl ?_;refine Bb rfl rfl rfl rfl rfl rfl (oFa IE rfl rfl rfl) ?_;refine Bb rfl rfl rfl rfl rfl rfl (Bg isAgg3 rfl rfl) ?_;refine Er rfl ?_;refine D4 (R0:=fun d A=>∃ b,d = .v (.pointer (some ⟨b,0,none⟩))/\A=box b 24 [.list 4 ANd.d [],.i64 0]) rfl rfl rfl rfl (OpT.mono (Ay zeroValue24 (cs:=[.list 4 ANd.d [],.i64 0]) rfl) (by rintro d ms' ⟨b,rfl,rfl⟩;exact ⟨_,⟨b,rfl,rfl⟩,rfl⟩)) ?_;refine Er rfl ?_;refine Hy ?_;refine KC rfl rfl rfl rfl (B7 (ms₁:=[]) call74 rfl (List.Perm.refl _) (IZ hg1)) ?_;rintro _ _ ⟨_,⟨a_r1,cap_r1,hd_r1,hq_r1⟩,rfl⟩;obtain ⟨m_r1,hm_r1⟩:∃ m,m=a1.l.length:=⟨_,rfl⟩;rw [<- hm_r1] at hd_r1 hq_r1;subst hd_r1 hq_r1
 clear hm_r1
 refine ⟨(trivial:True),?_⟩;refine KC rfl rfl rfl rfl zb24b ?_;rintro _ _ ⟨rfl,rfl⟩;refine ⟨(trivial:True),?_⟩;refine I0 [(6,7)] rfl ?_;rintro _ _ ⟨b3,rfl,rfl⟩
 show _/\_
 refine ⟨(trivial:True),?_⟩;refine Cv rfl rfl rfl (oSb 0 sizeOf24 rfl rfl rfl rfl rfl rfl rfl rfl (nB rfl)) ?_;rintro _ _ rfl;refine ⟨(trivial:True),?_⟩;refine BL ?_;refine zq8 ?_;obtain ⟨o_1,hj1,hm1⟩:=bS hm;refine Ak [(4,_),(6,_),(7,_)] [(2,_)] (fun (st:(Int×(List ANd))) (hid:(Option Addr×Nat×Nat))=>match st,hid with | (z1,l1),(a_r1,m_r1,cap_r1)=>[]) (fun F (st:(Int×(List ANd))) (hid:(Option Addr×Nat×Nat))=>match st,hid with | (z1,l1),(a_r1,m_r1,cap_r1)=>[box b3 24 [.v (.slice a_r1 m_r1 cap_r1),.i64 z1],arr a_r1 m_r1 cap_r1 44 4 ANd.d l1,(nthF F 0)]) (fun st=>st=o_1) ⟨rfl,rfl,rfl,trivial⟩ ⟨rfl,trivial⟩ ?_ ?_
 ·refine Aj ?_
  refine Ai [(4,_),(6,_),(7,_),(20,_),(21,_)] [(2,_)] (fun (st:(Int×Int×(List ANd))) (hid:(Option Addr×Nat×Nat))=>match st,hid with | (x1,z2,l2),(a_r1,m_r1,cap_r1)=>[(22,.i64 x1)]) (fun F (st:(Int×Int×(List ANd))) (hid:(Option Addr×Nat×Nat))=>match st,hid with | (x1,z2,l2),(a_r1,m_r1,cap_r1)=>[box b3 24 [.v (.slice a_r1 m_r1 cap_r1),.i64 z2],arr a_r1 m_r1 cap_r1 44 4 ANd.d l2,(nthF F 0)]) (_,_,_) hj1 (fun _=>rfl) ⟨rfl,rfl,rfl,rfl,rfl,trivial⟩ ⟨rfl,trivial⟩ ⟨rfl,trivial⟩ rfl ?_;rintro n ⟨x1,z2,l2⟩ ⟨a_r1,m_r1,cap_r1⟩ hj1;rw [B3] at hj1;refine Ar (L':=[(22,.i64 x1),(4,_),(6,_),(7,_),(20,_),(21,_)]) (ms':=[box b3 24 [.v (.slice a_r1 m_r1 cap_r1),.i64 z2],arr a_r1 m_r1 cap_r1 44 4 ANd.d l2,_]) rfl rfl ?_;refine zq5 ?_;refine zcn hj1 (fun hc1 hj1=>?_) (fun hc1 hj1=>?_)
  ·refine zq5 ?_
   obtain ⟨x2,hx2,hj1⟩:=bS hj1;refine zq2 ?_;refine Dq fun b4=>?_;refine zst 0 ?_;refine Ag (ms':=[box b4 44 [_,_,_,_],box b3 24 [_,_],_,box b1 24 [_,_]]) rfl ?_;refine gNl ?_;obtain ⟨x3,hx3,hj1⟩:=bS hj1;refine zdr 6 ?_;refine zq3 ?_;refine Aw rfl rfl rfl (BC rfl rfl) ?_;refine Aw rfl rfl rfl (Gd [] call109 rfl rfl DG (Gz (fun _ _ h=>K7 (Em call110 (HA h))) hx3)) ?_;refine Aw rfl rfl rfl (zs1 ANd.d) ?_;refine Cu ?_;obtain ⟨hg4,hj1⟩:=Aa hj1;refine Av rfl rfl rfl (Ca (a:=_) 2 underlying22 type44 rfl rfl rfl rfl rfl rfl (fun _=>rfl) (fun _=>rfl) hg4 (A2 hg4 rfl)) ?_;rintro _ _ ⟨a_r1,m_r1,cap_r1,rfl,rfl⟩;refine Ag (ms':=[box b4 44 [_,_,_,_],box b3 24 [_,_],_,box b1 24 [_,_]]) rfl ?_;refine zq1 ?_;refine zst 1 ?_;refine Ag (ms':=[box b4 44 [_,_,_,_],box b3 24 [_,_],_,box b1 24 [_,_]]) rfl ?_;refine zq2 ?_;obtain ⟨hg5,hj1⟩:=Aa hj1;refine zq3 ?_;exact ⟨_,(_,_,_),hj1,⟨rfl,trivial⟩,⟨rfl,rfl,rfl,rfl,rfl,trivial⟩,[_],rfl⟩
  ·refine Ao ?_
   exact ⟨_,(_,_,_),Ac hj1,trivial,⟨rfl,rfl,rfl,trivial⟩,[],rfl⟩
 ·rintro ⟨z1,l1⟩ ⟨a_r1,m_r1,cap_r1⟩ hst
  subst hst;refine An (L':=[(4,_),(6,_),(7,_)]) (ms':=[box b3 24 [.v (.slice a_r1 m_r1 cap_r1),.i64 z1],arr a_r1 m_r1 cap_r1 44 4 ANd.d l1,_]) rfl rfl ?_;refine AQ ?_;refine DS [2] [1,3] [] AA (by decide +kernel) (by decide +kernel) rfl ?_;refine Au rfl rfl rfl rfl rfl rfl (oLg 0 isAgg24 sizeOf24 rfl rfl rfl rfl (nB rfl)) ?_;refine Au rfl rfl rfl rfl rfl rfl (Bg isAgg3 rfl rfl) ?_;refine DU rfl ?_;refine Au rfl rfl rfl rfl rfl rfl (oAs rfl) ?_;refine EQ ?_;refine Cv rfl rfl rfl (oSb 2 sizeOf24 rfl rfl rfl rfl rfl rfl rfl rfl (nB rfl)) ?_;rintro _ _ rfl;refine ⟨(trivial:True),?_⟩;refine BL ?_;refine Ae ?_
  have hq1:=Ac hm1
  obtain ⟨rfl,rfl⟩:=Prod.mk.inj hq1;exact retK (JL (ds:=[_,_]) rfl (by decide) ⟨A9 2 rfl rfl rfl isAgg24 sizeOf24 rfl,⟨Bh rfl,rfl⟩⟩ (permA 1 rfl permN)) ⟨_,_,_,rfl,rfl⟩
noncomputable def FQ (roots1:(List Int)) (c1:Int):Option ANd:=
 (idx roots1 0).bind fun x1 =>
 (idx roots1 1).bind fun x2 =>
 some (⟨c1,x1,x2,([]:List AFd)⟩:ANd)
theorem LD {roots1:(List Int)} {c1:Int} {r_1:ANd} (hm:FQ roots1 c1=some r_1):Fn0 Tryz.prog 114 [.list 1 D.i64 roots1,.ref (.i64 c1)] (ANd.d r_1):=by
 unfold FQ at hm;refine Ad func114 rfl ntmps114 rfl fun H0 fr w0=>?_;refine zq2 ?_;refine Dq fun b1=>?_;refine zq2 ?_;obtain ⟨x1,hx1,hm⟩:=bS hm;obtain ⟨x2,hx2,hm⟩:=bS hm;refine zdr 8 ?_;refine zq7 ?_;refine Aw rfl rfl rfl zb44a ?_;refine Cu ?_;refine zst 0 ?_;refine Ag (ms':=[box b1 44 [_,_,_,_]]) rfl ?_;refine gNl ?_
 cases hm;exact Ae zr1
noncomputable def EG (l1:(List ATy)) (most1:Int):Nat->(Int×(List ATy))->Option (List ATy)
 | 0,_=>none
 | n+1,(i1,l3) =>
  bif ((decide (i1<(l1.length:Int)))&&(decide (i1<most1))) then
   (idx l1 i1).bind fun x1 =>
   (HX x1 7).bind fun x2 =>
   grd ((l3.length+([x2]:List _).length)*32<=140737488355328) <|
   grd (InR (i1+1)) <|
   EG l1 most1 n ((i1+1),(l3++[x2]))
  else
   some l3
noncomputable def Gg (l1:(List ATy)) (most1:Int):Option (List ATy):=
 (EG l1 most1 FU (0,[]):Option (List ATy)).bind fun l2 =>
 some l2
theorem NR {l1:(List ATy)} {most1:Int} {r_1:(List ATy)} (hm:Gg l1 most1=some r_1):Fn0 Tryz.prog 39 [.list 2 ATy.d l1,.i64 most1] (.list 2 ATy.d r_1):=by
 unfold Gg at hm;refine Ad func39 rfl ntmps39 rfl fun H0 fr w0=>?_;refine zq3 ?_;refine Al (nilE (i:=4) (sz:=2) (f:=ATy.d) rfl).refines ?_;refine zq3 ?_;refine Av rfl rfl rfl (Aq (xs:=[]) (f:=ATy.d) (l:=[]) runUnderlying53 sizeOf24 zeroValue24 rfl rfl rfl (fun _=>⟨rfl,rfl,rfl⟩) rfl (by simp [maxLen])) ?_;rintro _ _ ⟨a_r1,rfl,rfl⟩;refine zq7 ?_;obtain ⟨o_1,hj1,hm1⟩:=bS hm;refine Ak [] [] (fun (st:(List ATy)) (hid:(Option Addr×Nat))=>match st,hid with | l2,(a_r1,cap_r1)=>[(5,.v (.slice a_r1 l2.length cap_r1))]) (fun F (st:(List ATy)) (hid:(Option Addr×Nat))=>match st,hid with | l2,(a_r1,cap_r1)=>[row a_r1 cap_r1 24 2 ATy.d l2]) (fun st=>st=o_1) trivial trivial ?_ ?_
 ·refine Aj ?_
  refine Ai [(0,_),(1,_)] [] (fun (st:(Int×(List ATy))) (hid:(Option Addr×Nat))=>match st,hid with | (i1,l3),(a_r1,cap_r1)=>[(5,.v (.slice a_r1 l3.length cap_r1)),(6,.i64 i1)]) (fun F (st:(Int×(List ATy))) (hid:(Option Addr×Nat))=>match st,hid with | (i1,l3),(a_r1,cap_r1)=>[row a_r1 cap_r1 24 2 ATy.d l3]) (_,_) hj1 (fun _=>rfl) ⟨rfl,rfl,trivial⟩ trivial ⟨rfl,rfl,trivial⟩ rfl ?_;rintro n ⟨i1,l3⟩ ⟨a_r1,cap_r1⟩ hj1;rw [EG] at hj1;refine Ar (L':=[(5,.v (.slice a_r1 l3.length cap_r1)),(6,.i64 i1),(0,_),(1,_)]) (ms':=[row a_r1 cap_r1 24 2 ATy.d l3]) rfl rfl ?_;refine zq8 ?_
  apply Bo [(0,_),(1,_),(5,_),(6,_)] 4 16 (t:=12) ⟨rfl,rfl,rfl,rfl,trivial⟩ rfl
  ·intro hg_1 hk1
   refine zq4 ?_;exact zgm hk1
  ·intro hg_1 hk1
   refine zq4 ?_;exact zgm hk1
  refine gNl ?_;refine zcn hj1 (fun hc1 hj1=>?_) (fun hc1 hj1=>?_)
  ·refine zq7 ?_
   obtain ⟨x1,hx1,hj1⟩:=bS hj1;refine zq2 ?_;obtain ⟨x2,hx2,hj1⟩:=bS hj1;refine zc0 (Rh hx2) ?_;refine Af rfl rfl rfl (zs1 ATy.d) ?_;obtain ⟨hg3,hj1⟩:=Aa hj1;refine zap 0 hg3 fun a_r1 cap_r1=>?_;refine Ag (ms':=[_]) rfl ?_;refine zq4 ?_;obtain ⟨hg4,hj1⟩:=Aa hj1;refine zq3 ?_;exact ⟨_,(_,_),hj1,⟨rfl,rfl,trivial⟩,⟨rfl,rfl,trivial⟩,[],rfl⟩
  ·refine Ao ?_
   exact ⟨_,(_,_),Ac hj1,⟨rfl,trivial⟩,trivial,[],rfl⟩
 ·rintro l2 ⟨a_r1,cap_r1⟩ hst
  subst hst;refine An (L':=[(5,.v (.slice a_r1 l2.length cap_r1))]) (ms':=[row a_r1 cap_r1 24 2 ATy.d l2]) rfl rfl ?_;refine zq5 ?_;refine BA (peekE (i:=4) 0 rfl rfl rfl).refines ?_
  cases hm1;exact Ae zr1
noncomputable def DB (l1:(List ATy)):Nat->Int->Option (Out Int Unit)
 | 0,_=>none
 | n+1,i1 =>
  bif (decide (i1<(l1.length:Int))) then
   (idx l1 i1).bind fun x1 =>
   (G2 x1).bind fun x2 =>
   bif (!decide (x2=0)) then
    some (Out.ret x2)
   else
    grd (InR (i1+1)) <|
    DB l1 n (i1+1)
  else
   some (Out.go (()))
noncomputable def F8 (l1:(List ATy)):Option Int:=
 ((DB l1 FU 0:Option (Out Int Unit))).bind (fun oo=>oo.on (fun r1=>some r1) (fun _ =>
 some 0))
theorem O9 {l1:(List ATy)} {r_1:Int} (hm:F8 l1=some r_1):Fn0 Tryz.prog 41 [.list 2 ATy.d l1] (.i64 r_1):=by
 unfold F8 at hm;refine Ad func41 rfl ntmps41 rfl fun H0 fr w0=>?_;refine zq9 ?_;obtain ⟨o_1,hj1,hm1⟩:=bS hm;refine Ak [] [] (fun (st:Unit) (hid:Unit)=>match st,hid with | _,_=>[]) (fun F (st:Unit) (hid:Unit)=>match st,hid with | _,_=>[]) (fun st=>Out.go (st)=o_1) trivial trivial ?_ ?_
 ·refine Aj ?_
  refine Ai [(0,_)] [] (fun (st:Int) (hid:Unit)=>match st,hid with | i1,_=>[(3,.i64 i1)]) (fun F (st:Int) (hid:Unit)=>match st,hid with | i1,_=>[]) () hj1 (fun _=>rfl) ⟨rfl,trivial⟩ trivial ⟨rfl,trivial⟩ rfl ?_;rintro n i1 _ hj1;rw [DB] at hj1;refine Ar (L':=[(3,.i64 i1),(0,_)]) (ms':=[]) rfl rfl ?_;refine zq8 ?_;refine zcn hj1 (fun hc1 hj1=>?_) (fun hc1 hj1=>?_)
  ·refine zq7 ?_
   obtain ⟨x1,hx1,hj1⟩:=bS hj1;refine zq2 ?_;obtain ⟨x2,hx2,hj1⟩:=bS hj1;refine zc0 (HO hx2) ?_;refine zq7 ?_;refine zcn hj1 (fun hc2 hj1=>?_) (fun hc2 hj1=>?_)
   ·refine zq5 ?_
    refine Ae ?_;obtain rfl:=Ac hj1
    replace hm1:=BJ hm1
    cases hm1;exact zr1
   ·refine zq3 ?_
    obtain ⟨hg3,hj1⟩:=Aa hj1;refine zq3 ?_;exact ⟨_,(),hj1,⟨rfl,trivial⟩,⟨rfl,trivial⟩,[],rfl⟩
  ·refine Ao ?_
   exact ⟨_,(),Ac hj1,trivial,trivial,[],rfl⟩
 ·rintro _ _ hst
  subst hst
  replace hm1:=Dh hm1
  refine An (L':=[]) (ms':=[]) rfl rfl ?_;refine zq4 ?_
  cases hm1;exact Ae zr1
noncomputable def C5 (l1:(List ATy)):Nat->Int->Option (Out Int Unit)
 | 0,_=>none
 | n+1,x1 =>
  bif (decide (x1<(l1.length:Int))) then
   (idx l1 x1).bind fun x2 =>
   (Bp (⟨x2.l,x2.root⟩:ATy)).bind fun x3 =>
   bif (!decide (x3=0)) then
    some (Out.ret x3)
   else
    grd (InR (x1+1)) <|
    C5 l1 n (x1+1)
  else
   some (Out.go (()))
noncomputable def DZ (l1:(List ATy)):Option Int:=
 ((C5 l1 FU 0:Option (Out Int Unit))).bind (fun oo=>oo.on (fun r1=>some r1) (fun _ =>
 some 0))
theorem HK {l1:(List ATy)} {r_1:Int} (hm:DZ l1=some r_1):Fn0 Tryz.prog 72 [.list 2 ATy.d l1] (.i64 r_1):=by
 unfold DZ at hm;refine Ad func72 rfl ntmps72 rfl fun H0 fr w0=>?_;refine zq11 ?_;obtain ⟨o_1,hj1,hm1⟩:=bS hm;refine Ak [] [] (fun (st:Unit) (hid:Unit)=>match st,hid with | _,_=>[]) (fun F (st:Unit) (hid:Unit)=>match st,hid with | _,_=>[]) (fun st=>Out.go (st)=o_1) trivial trivial ?_ ?_
 ·refine Aj ?_
  refine Ai [(6,_),(7,_)] [] (fun (st:Int) (hid:Unit)=>match st,hid with | x1,_=>[(8,.i64 x1)]) (fun F (st:Int) (hid:Unit)=>match st,hid with | x1,_=>[]) () hj1 (fun _=>rfl) ⟨rfl,rfl,trivial⟩ trivial ⟨rfl,trivial⟩ rfl ?_;rintro n x1 _ hj1;rw [C5] at hj1;refine Ar (L':=[(8,.i64 x1),(6,_),(7,_)]) (ms':=[]) rfl rfl ?_;refine zq5 ?_;refine zcn hj1 (fun hc1 hj1=>?_) (fun hc1 hj1=>?_)
  ·refine zq5 ?_
   obtain ⟨x2,hx1,hj1⟩:=bS hj1;refine zq2 ?_;refine BI fun b1=>?_;refine zst 0 ?_;refine Ag (ms':=[box b1 24 [_,_]]) rfl ?_;refine zq4 ?_;obtain ⟨x3,hx2,hj1⟩:=bS hj1;refine zc0 (EJ hx2) ?_;refine zq7 ?_;refine zcn hj1 (fun hc2 hj1=>?_) (fun hc2 hj1=>?_)
   ·refine zq5 ?_
    refine Ae ?_;obtain rfl:=Ac hj1
    replace hm1:=BJ hm1
    cases hm1;exact zr1
   ·refine zq2 ?_
    obtain ⟨hg3,hj1⟩:=Aa hj1;refine zq3 ?_;exact ⟨_,(),hj1,⟨rfl,trivial⟩,⟨rfl,rfl,trivial⟩,[_],rfl⟩
  ·refine Ao ?_
   exact ⟨_,(),Ac hj1,trivial,trivial,[],rfl⟩
 ·rintro _ _ hst
  subst hst
  replace hm1:=Dh hm1
  refine An (L':=[]) (ms':=[]) rfl rfl ?_;refine zq4 ?_
  cases hm1;exact Ae zr1
noncomputable def Bl (slices1:(List (List ATy))):Nat->(Int×Int)->Option Int
 | 0,_=>none
 | n+1,(size2,x1) =>
  bif (decide (x1<(slices1.length:Int))) then
   (idx slices1 x1).bind fun x2 =>
   grd (InR (size2+(x2.length:Int))) <|
   bif (decide ((size2+(x2.length:Int))<0)) then
    none
   else
    grd (InR (x1+1)) <|
    Bl slices1 n ((size2+(x2.length:Int)),(x1+1))
  else
   some size2
noncomputable def Bm (slices1:(List (List ATy))):Nat->(Int×(List ATy))->Option (List ATy)
 | 0,_=>none
 | n+1,(x3,l2) =>
  bif (decide (x3<(slices1.length:Int))) then
   (idx slices1 x3).bind fun x4 =>
   grd ((l2.length+x4.length)*32<=140737488355328) <|
   grd (InR (x3+1)) <|
   Bm slices1 n ((x3+1),(l2++x4))
  else
   some l2
noncomputable def By (slices1:(List (List ATy))):Option (List ATy):=
 (Bl slices1 FU (0,0):Option Int).bind fun size1 =>
 grd (0<=size1) <|
 grd ((size1).toNat*32<=140737488355328) <|
 (Bm slices1 FU (0,([]:List ATy)):Option (List ATy)).bind fun l1 =>
 some l1
theorem EL {slices1:(List (List ATy))} {r_1:(List ATy)} (hm:By slices1=some r_1):Fn0 Tryz.prog 73 [.list 1 (D.list 2 ATy.d) slices1] (.list 2 ATy.d r_1):=by
 unfold By at hm;refine Ad func73 rfl ntmps73 rfl fun H0 fr w0=>?_;refine zq3 ?_;refine Al (nilE (i:=2) (sz:=2) (f:=ATy.d) rfl).refines ?_;refine zq12 ?_;obtain ⟨o_1,hj1,hm1⟩:=bS hm;refine Ak [(0,_)] [] (fun (st:Int) (hid:Unit)=>match st,hid with | size1,_=>[(3,.i64 size1)]) (fun F (st:Int) (hid:Unit)=>match st,hid with | size1,_=>[]) (fun st=>st=o_1) ⟨rfl,trivial⟩ trivial ?_ ?_
 ·refine Aj ?_
  refine Ai [(0,_),(9,_),(10,_)] [] (fun (st:(Int×Int)) (hid:Unit)=>match st,hid with | (size2,x1),_=>[(3,.i64 size2),(11,.i64 x1)]) (fun F (st:(Int×Int)) (hid:Unit)=>match st,hid with | (size2,x1),_=>[]) () hj1 (fun _=>rfl) ⟨rfl,rfl,rfl,trivial⟩ trivial ⟨rfl,rfl,trivial⟩ rfl ?_;rintro n ⟨size2,x1⟩ _ hj1;rw [Bl] at hj1;refine Ar (L':=[(3,.i64 size2),(11,.i64 x1),(0,_),(9,_),(10,_)]) (ms':=[]) rfl rfl ?_;refine zq5 ?_;refine zcn hj1 (fun hc1 hj1=>?_) (fun hc1 hj1=>?_)
  ·refine zq5 ?_
   obtain ⟨x2,hx1,hj1⟩:=bS hj1;refine zq9 ?_;obtain ⟨hg2,hj1⟩:=Aa hj1;refine zq8 ?_;refine zcn hj1 (fun hc2 hj1=>?_) (fun hc2 hj1=>?_)
   ·cases hj1
   ·refine zq2 ?_
    obtain ⟨hg3,hj1⟩:=Aa hj1;refine zq3 ?_;exact ⟨_,(),hj1,⟨rfl,rfl,trivial⟩,⟨rfl,rfl,rfl,trivial⟩,[],rfl⟩
  ·refine Ao ?_
   exact ⟨_,(),Ac hj1,⟨rfl,trivial⟩,⟨rfl,trivial⟩,[],rfl⟩
 ·rintro size1 _ hst
  subst hst;refine An (L':=[(3,.i64 size1),(0,_)]) (ms':=[]) rfl rfl ?_;refine zq3 ?_;obtain ⟨hg4,hm1⟩:=Aa hm1;obtain ⟨hg5,hm1⟩:=Aa hm1;refine Av rfl rfl rfl (B7 (ms₁:=[]) call108 rfl (List.Perm.refl _) (O8 hg4 hg5)) ?_;rintro _ _ ⟨_,⟨a_r1,cap_r1,rfl,rfl⟩,rfl⟩;refine zq9 ?_;obtain ⟨o_2,hj2,hm2⟩:=bS hm1;refine Ak [] [] (fun (st:(List ATy)) (hid:(Option Addr×Nat))=>match st,hid with | l1,(a_r1,cap_r1)=>[(6,.v (.slice a_r1 l1.length cap_r1))]) (fun F (st:(List ATy)) (hid:(Option Addr×Nat))=>match st,hid with | l1,(a_r1,cap_r1)=>[row a_r1 cap_r1 24 2 ATy.d l1]) (fun st=>st=o_2) trivial trivial ?_ ?_
  ·refine Aj ?_
   refine Ai [(25,_),(26,_)] [] (fun (st:(Int×(List ATy))) (hid:(Option Addr×Nat))=>match st,hid with | (x3,l2),(a_r1,cap_r1)=>[(6,.v (.slice a_r1 l2.length cap_r1)),(27,.i64 x3)]) (fun F (st:(Int×(List ATy))) (hid:(Option Addr×Nat))=>match st,hid with | (x3,l2),(a_r1,cap_r1)=>[row a_r1 cap_r1 24 2 ATy.d l2]) (_,_) hj2 (fun _=>rfl) ⟨rfl,rfl,trivial⟩ trivial ⟨rfl,rfl,trivial⟩ rfl ?_;rintro n ⟨x3,l2⟩ ⟨a_r1,cap_r1⟩ hj2;rw [Bm] at hj2;refine Ar (L':=[(6,.v (.slice a_r1 l2.length cap_r1)),(27,.i64 x3),(25,_),(26,_)]) (ms':=[row a_r1 cap_r1 24 2 ATy.d l2]) rfl rfl ?_;refine zq5 ?_;refine zcn hj2 (fun hc3 hj2=>?_) (fun hc3 hj2=>?_)
   ·refine zq5 ?_
    obtain ⟨x4,hx6,hj2⟩:=bS hj2;refine zq7 ?_;obtain ⟨hg7,hj2⟩:=Aa hj2;refine zap 0 hg7 fun a_r1 cap_r1=>?_;refine Ag (ms':=[_]) rfl ?_;refine zq3 ?_;obtain ⟨hg8,hj2⟩:=Aa hj2;refine zq3 ?_;exact ⟨_,(_,_),hj2,⟨rfl,rfl,trivial⟩,⟨rfl,rfl,trivial⟩,[],rfl⟩
   ·refine Ao ?_
    exact ⟨_,(_,_),Ac hj2,⟨rfl,trivial⟩,trivial,[],rfl⟩
  ·rintro l1 ⟨a_r1,cap_r1⟩ hst
   subst hst;refine An (L':=[(6,.v (.slice a_r1 l1.length cap_r1))]) (ms':=[row a_r1 cap_r1 24 2 ATy.d l1]) rfl rfl ?_;refine zq5 ?_;refine BA (peekE (i:=2) 0 rfl rfl rfl).refines ?_
   cases hm2;exact Ae zr1
noncomputable def DA (k1:Int) (c1:ATy) (c2:(List ATy)) (c3:(List Int)):Option Int:=
 bif (decide (k1<(c1.l.length:Int))) then
  (idx c1.l k1).bind fun x1 =>
  bif ((decide (x1.kind=11))&&(decide (x1.a<(c2.length:Int)))) then
   (idx c3 x1.a).bind fun x2 =>
   some x2
  else
   some k1
 else
  some k1
theorem Fg {k1:Int} {c1:ATy} {c2:(List ATy)} {c3:(List Int)} {r_1:Int} (hm:DA k1 c1 c2 c3=some r_1):Fn0 Tryz.prog 76 [.i64 k1,.ref (ATy.d c1),.ref (.list 2 ATy.d c2),.ref (.list 1 D.i64 c3)] (.i64 r_1):=by
 unfold DA at hm;refine Ad func76 rfl ntmps76 rfl fun H0 fr w0=>?_;refine zq13 ?_;refine zcn hm (fun hc1 hm=>?_) (fun hc1 hm=>?_)
 ·refine zq5 ?_
  obtain ⟨x1,hx1,hm⟩:=bS hm;refine zq2 ?_;refine Dq fun b1=>?_;refine zst 0 ?_;refine Ag (ms':=[box b1 44 [_,_,_,_]]) rfl ?_;refine zq7 ?_
  apply Bo [(0,_),(3,_),(6,_)] 6 26 (t:=20) ⟨rfl,rfl,rfl,trivial⟩ rfl
  ·intro hg_1 hk1
   refine zq6 ?_;exact zgm hk1
  ·intro hg_1 hk1
   refine zq6 ?_;exact zgm hk1
  refine gNl ?_;refine zcn hm (fun hc2 hm=>?_) (fun hc2 hm=>?_)
  ·refine zq5 ?_
   obtain ⟨x2,hx2,hm⟩:=bS hm;refine zq4 ?_
   cases hm;exact Ae zr1
  ·refine zq6 ?_
   cases hm;exact Ae zr1
 ·refine zq6 ?_
  cases hm;exact Ae zr1
noncomputable def DP (k1:Int) (z1:(List (Int×Int))):Option Int:=
 some ((mget z1 k1).getD (0:Int))
theorem LC {k1:Int} {z1:(List (Int×Int))} {r_1:Int} {b_q1:Nat} (hm:DP k1 z1=some r_1):FnT Tryz.prog 170 [.i64 k1,.ref (.v (.map (some b_q1)))] [mp b_q1 kI64 D.i64 z1] (.i64 r_1):=by
 unfold DP at hm;refine Ad func170 rfl ntmps170 rfl fun H0 fr w0=>?_;refine zq8 ?_;refine Af rfl rfl rfl (Fq (z0:=(0:Int)) 0 runUnderlying170 (ND underlying3) zeroValue3 (fun _=>conc_v.2 rfl) rfl rfl rfl) ?_;refine zq2 ?_;refine Ae ?_;exact retK (AC (ms':=[_]) (drop:=[]) rfl (Bh rfl) (List.Perm.refl _)) ⟨congrArg (fun (p:Int)=>(.i64 p:D)) (Ac hm),rfl⟩
noncomputable def B4  : List Int->((List Int)×(List (Int×Int)))->Option ((List Int)×(List (Int×Int)))
 | [],(l2,mm2) =>
  some (l2,mm2)
 | x1::rr,(l2,mm2) =>
  grd ((l2.length+([x1]:List _).length)*8<=140737488355328) <|
  B4 rr ((l2++[x1]),(mset mm2 x1 (l2.length:Int)))
noncomputable def Cw (t1:ATy) (l1:(List Int)) (mm1:(List (Int×Int))):Nat->(Int×(List ANd)×Int)->Option ((List ANd)×Int)
 | 0,_=>none
 | n+1,(x2,l4,z2) =>
  bif (decide (x2<(l1.length:Int))) then
   (idx l1 x2).bind fun x3 =>
   (idx t1.l x3).bind fun x4 =>
   (CO x4 (fun y0=>DP y0 mm1)).bind fun x5 =>
   grd ((l4.length+([x5]:List _).length)*48<=140737488355328) <|
   grd (InR (x2+1)) <|
   Cw t1 l1 mm1 n ((x2+1),(l4++[x5]),z2)
  else
   some (l4,z2)
noncomputable def EX (t1:ATy) (root1:Int):Option ATy:=
 ((Hm t1 root1).bind fun xs1 =>
 B4 xs1 ([],([]:List (Int×Int))):Option ((List Int)×(List (Int×Int)))).bind fun (l1,mm1) =>
 (Cw t1 l1 mm1 FU (0,[],0):Option ((List ANd)×Int)).bind fun (l3,z1) =>
 some (⟨l3,z1⟩:ATy)
theorem No {t1:ATy} {root1:Int} {r_1:ATy} (hm:EX t1 root1=some r_1):Fn0 Tryz.prog 140 [ATy.d t1,.i64 root1] (ATy.d r_1):=by
 unfold EX at hm;refine Ad func140 rfl ntmps140 rfl fun H0 fr w0=>?_;refine zq3 ?_;refine BI fun b1=>?_;refine zq3 ?_;refine Av rfl rfl rfl (Iv (fk:=kI64) (fv:=D.i64)) ?_;rintro _ _ ⟨b2,rfl,rfl⟩;refine S6 fun b3=>?_;refine zst 0 ?_;refine Ag (ms':=[box b3 170 [_],_,box b1 24 [_,_]]) rfl ?_;refine Al (DN (d := .v (.map (some b2))) 0 5 rfl rfl rfl rfl) ?_;refine zq3 ?_;refine O0 fun b4=>?_;refine Al (AB (T:=3) (sz:=1) (f:=D.i64)) ?_;refine zq6 ?_;refine Af rfl rfl rfl (AY call107 rfl PR) ?_;refine gNl ?_;obtain ⟨o_1,hj1,hm1⟩:=bS hm;refine Ak [(2,_),(4,_),(5,_),(6,_)] [(3,_)] (fun (st:((List Int)×(List (Int×Int)))) (hid:(Option Addr×Nat))=>match st,hid with | (l1,mm1),(a_r1,cap_r1)=>[]) (fun F (st:((List Int)×(List (Int×Int)))) (hid:(Option Addr×Nat))=>match st,hid with | (l1,mm1),(a_r1,cap_r1)=>[row a_r1 cap_r1 3 1 D.i64 l1,box b4 25 [.v (.slice a_r1 l1.length cap_r1)],mp b2 kI64 D.i64 mm1,(nthF F 0)]) (fun st=>st=o_1) ⟨rfl,rfl,rfl,rfl,trivial⟩ ⟨rfl,trivial⟩ ?_ ?_
 ·refine Aj ?_
  obtain ⟨xs1,hx1,hj1⟩:=bS hj1;refine Mm (fun (p:Int)=>[.i64 p]) [(3,_)] (fun F (st:((List Int)×(List (Int×Int)))) (hid:(Option Addr×Nat))=>match st,hid with | (l2,mm2),(a_r1,cap_r1)=>[row a_r1 cap_r1 3 1 D.i64 l2,box b4 25 [.v (.slice a_r1 l2.length cap_r1)],mp b2 kI64 D.i64 mm2,(nthF F 0)]) (_,_) hj1 ⟨rfl,trivial⟩ rfl rfl call138 (Oy hx1) (fun _=>rfl) rfl ?_ ?_
  ·rintro H0r frr ror w0r hrr x1 rr ⟨l2,mm2⟩ ⟨a_r1,cap_r1⟩ hj1
   rw [B4] at hj1;refine Ar (ms':=[row a_r1 cap_r1 3 1 D.i64 l2,box b4 25 [.v (.slice a_r1 l2.length cap_r1)],mp b2 kI64 D.i64 mm2,_]) rfl rfl ?_;refine zq3 ?_
   intro H0r frr ror w0r hrr
   refine zq6 ?_;refine Af rfl rfl rfl (.view (peekE (i:=18) 0 rfl rfl rfl) (EF runUnderlying25 rfl)) ?_;refine Gk rfl rfl (Gt (v:=(l2.length:Int)) 2 runUnderlying170 (ND underlying3) rfl rfl rfl rfl) ?_;rintro _ _ rfl;refine zq4 ?_;refine Af rfl rfl rfl (zs1 D.i64) ?_;obtain ⟨hg2,hj1⟩:=Aa hj1;refine zap 0 hg2 fun a_r1 cap_r1=>?_;refine Ag (ms':=[_,box b4 25 [_],_,box b1 24 [_,_]]) rfl ?_;refine zst 1 ?_;refine Ag (ms':=[_,box b4 25 [_],_,box b1 24 [_,_]]) rfl ?_;refine gNl ?_;exact ⟨_,(_,_),hj1,[],rfl⟩
  ·rintro ⟨l2,mm2⟩ ⟨a_r1,cap_r1⟩ hj1
   rw [B4] at hj1;refine An (ms':=[row a_r1 cap_r1 3 1 D.i64 l2,box b4 25 [.v (.slice a_r1 l2.length cap_r1)],mp b2 kI64 D.i64 mm2,_]) rfl rfl ?_;exact ⟨_,(_,_),Ac hj1,trivial,⟨rfl,rfl,rfl,rfl,trivial⟩,[],rfl⟩
 ·rintro ⟨l1,mm1⟩ ⟨a_r1,cap_r1⟩ hst
  subst hst;refine An (L':=[(2,_),(4,_),(5,_),(6,_)]) (ms':=[row a_r1 cap_r1 3 1 D.i64 l1,box b4 25 [.v (.slice a_r1 l1.length cap_r1)],mp b2 kI64 D.i64 mm1,_]) rfl rfl ?_;refine zq2 ?_;refine Rv fun b6=>?_;refine Al (AB (T:=44) (sz:=4) (f:=ANd.d)) ?_;refine zq5 ?_;refine Af rfl rfl rfl (.view (peekE (i:=24) 2 rfl rfl rfl) (EF runUnderlying25 rfl)) ?_;refine zq2 ?_;obtain ⟨o_2,hj2,hm2⟩:=bS hm1;refine Ak [(4,_),(8,_)] [(2,_),(3,_),(4,_),(5,_)] (fun (st:((List ANd)×Int)) (hid:(Option Addr×Nat))=>match st,hid with | (l3,z1),(a_r2,cap_r2)=>[]) (fun F (st:((List ANd)×Int)) (hid:(Option Addr×Nat))=>match st,hid with | (l3,z1),(a_r2,cap_r2)=>[row a_r2 cap_r2 44 4 ANd.d l3,box b6 24 [.v (.slice a_r2 l3.length cap_r2),.i64 z1],(nthF F 0),(nthF F 1),(nthF F 2),(nthF F 3)]) (fun st=>st=o_2) ⟨rfl,rfl,trivial⟩ ⟨rfl,rfl,rfl,rfl,trivial⟩ ?_ ?_
  ·refine Aj ?_
   refine Ai [(2,_),(4,_),(5,_),(8,_),(24,_),(25,_)] [(2,_),(3,_),(4,_),(5,_)] (fun (st:(Int×(List ANd)×Int)) (hid:(Option Addr×Nat))=>match st,hid with | (x2,l4,z2),(a_r2,cap_r2)=>[(26,.i64 x2)]) (fun F (st:(Int×(List ANd)×Int)) (hid:(Option Addr×Nat))=>match st,hid with | (x2,l4,z2),(a_r2,cap_r2)=>[row a_r2 cap_r2 44 4 ANd.d l4,box b6 24 [.v (.slice a_r2 l4.length cap_r2),.i64 z2],(nthF F 0),(nthF F 1),(nthF F 2),(nthF F 3)]) (_,_) hj2 (fun _=>rfl) ⟨rfl,rfl,rfl,rfl,rfl,rfl,trivial⟩ ⟨rfl,rfl,rfl,rfl,trivial⟩ ⟨rfl,trivial⟩ rfl ?_;rintro n ⟨x2,l4,z2⟩ ⟨a_r2,cap_r2⟩ hj2;rw [Cw] at hj2;refine Ar (L':=[(26,.i64 x2),(2,_),(4,_),(5,_),(8,_),(24,_),(25,_)]) (ms':=[row a_r2 cap_r2 44 4 ANd.d l4,box b6 24 [.v (.slice a_r2 l4.length cap_r2),.i64 z2],_,_,_,_]) rfl rfl ?_;refine zq5 ?_;refine zcn hj2 (fun hc1 hj2=>?_) (fun hc1 hj2=>?_)
   ·refine zq5 ?_
    obtain ⟨x3,hx3,hj2⟩:=bS hj2;refine Af rfl rfl rfl (.view (peekE (i:=24) 2 rfl rfl rfl) (oIm runUnderlying25 sizeOf3 rfl rfl hx3)) ?_;refine zq3 ?_;obtain ⟨x4,hx4,hj2⟩:=bS hj2;obtain ⟨x5,hx5,hj2⟩:=bS hj2;refine zdr 10 ?_;refine zq7 ?_;refine Aw rfl rfl rfl (BC rfl rfl) ?_;refine Aw rfl rfl rfl (Gd [4] call109 rfl rfl (C3 rfl DG) (Gz (fun _ _ h=>Em call170 (LC h)) hx5)) ?_;refine Aw rfl rfl rfl (zs1 ANd.d) ?_;refine Cu ?_;obtain ⟨hg6,hj2⟩:=Aa hj2;refine zap 0 hg6 fun a_r2 cap_r2=>?_;refine Ag (ms':=[_,box b6 24 [_,_],_,box b4 25 [_],_,box b1 24 [_,_]]) rfl ?_;refine zq1 ?_;refine zst 1 ?_;refine Ag (ms':=[_,box b6 24 [_,_],_,box b4 25 [_],_,box b1 24 [_,_]]) rfl ?_;refine zq2 ?_;obtain ⟨hg7,hj2⟩:=Aa hj2;refine zq3 ?_;exact ⟨_,(_,_),hj2,⟨rfl,trivial⟩,⟨rfl,rfl,rfl,rfl,rfl,rfl,trivial⟩,[],rfl⟩
   ·refine Ao ?_
    exact ⟨_,(_,_),Ac hj2,trivial,⟨rfl,rfl,trivial⟩,[],rfl⟩
  ·rintro ⟨l3,z1⟩ ⟨a_r2,cap_r2⟩ hst
   subst hst;refine An (L':=[(4,_),(8,_)]) (ms':=[row a_r2 cap_r2 44 4 ANd.d l3,box b6 24 [.v (.slice a_r2 l3.length cap_r2),.i64 z1],_,_,_,_]) rfl rfl ?_;refine zq3 ?_;refine Al (Cl (i:=43) (q:=0) 0 rfl rfl rfl rfl rfl).refines ?_;refine zst 5 ?_;refine Ag (ms':=[_,box b6 24 [_,_],_,box b4 25 [_],_,box b1 24 [_,_]]) rfl ?_;refine gNl ?_
   cases hm2;exact Ae zr1
noncomputable def CM (t1:ATy):Option (ATy×Int):=
 (Bp t1).bind fun x1 =>
 bif (!decide (x1=0)) then
  some ((⟨([]:List ANd),0⟩:ATy),x1)
 else
  (EX t1 t1.root).bind fun x2 =>
  some ((⟨x2.l,x2.root⟩:ATy),0)
theorem M7 {t1:ATy} {r_1:ATy} {r_2:Int} (hm:CM t1=some (r_1,r_2)):Fn0 Tryz.prog 111 [ATy.d t1] (.tup [ATy.d r_1,.i64 r_2]):=by
 unfold CM at hm;refine Ad func111 rfl ntmps111 rfl fun H0 fr w0=>?_;refine zq3 ?_;refine BI fun b1=>?_;refine zq6 ?_;obtain ⟨x1,hx1,hm⟩:=bS hm;refine zc0 (EJ hx1) ?_;refine zq7 ?_;refine zcn hm (fun hc1 hm=>?_) (fun hc1 hm=>?_)
 ·refine zq2 ?_
  refine Af rfl rfl rfl zb24b ?_;refine zq1 ?_;refine zst 0 ?_;refine Ag (ms':=[box b1 24 [_,_]]) rfl ?_;refine zq2 ?_
  cases hm;exact Ae zr2
 ·refine zq6 ?_
  obtain ⟨x2,hx2,hm⟩:=bS hm;refine zc0 (No hx2) ?_;refine zst 0 ?_;refine Ag (ms':=[box b1 24 [_,_]]) rfl ?_;refine zq2 ?_
  cases hm;exact Ae zr2
noncomputable def Eb (t1:ATy):Option (ATy×Int):=
 (CM t1).bind fun (x1,x2) =>
 some ((⟨x1.l,x1.root⟩:ATy),x2)
theorem Hk {t1:ATy} {r_1:ATy} {r_2:Int} (hm:Eb t1=some (r_1,r_2)):Fn0 Tryz.prog 78 [ATy.d t1] (.tup [ATy.d r_1,.i64 r_2]):=by
 unfold Eb at hm;refine Ad func78 rfl ntmps78 rfl fun H0 fr w0=>?_;refine zq3 ?_;refine BI fun b1=>?_;refine zq5 ?_;obtain ⟨⟨x1,x2⟩,hx1,hm⟩:=bS hm;refine zc0 (M7 hx1) ?_;refine zq2 ?_;refine zst 0 ?_;refine Ag (ms':=[box b1 24 [_,_]]) rfl ?_;refine zq2 ?_
 cases hm;exact Ae zr2
noncomputable def Gf (l1:(List ATy)):Nat->(Int×(List Int)×Int×(List ANd))->Option ((List Int)×Int×(List ANd))
 | 0,_=>none
 | n+1,(x3,l4,z2,l5) =>
  bif (decide (x3<(l1.length:Int))) then
   (idx l1 x3).bind fun x4 =>
   (Ck (⟨l5,z2⟩:ATy) (⟨x4.l,x4.root⟩:ATy)).bind fun (x5,s1) =>
   grd (InR (x4.root+x5)) <|
   grd ((l4.length+([(x4.root+x5)]:List _).length)*8<=140737488355328) <|
   grd (InR (x3+1)) <|
   Gf l1 n ((x3+1),(l4++[(x4.root+x5)]),s1.root,s1.l)
  else
   some (l4,z2,l5)
noncomputable def F5 (t1:ATy) (l1:(List ATy)) (l2:(List Int)) (x12:ANd):Nat->(Int×(List AFd))->Option (List AFd)
 | 0,_=>none
 | n+1,(x14,l10) =>
  bif (decide (x14<(x12.l.length:Int))) then
   (idx l10 x14).bind fun x15 =>
   (DA x15.at_ t1 l1 l2).bind fun x16 =>
   (idx l10 x14).bind fun x17 =>
   grd (InR (x14+1)) <|
   F5 t1 l1 l2 x12 n ((x14+1),(l10.set (x14).toNat (⟨x17.name,x16⟩:AFd)))
  else
   some l10
noncomputable def Ga (t1:ATy) (l1:(List ATy)) (l2:(List Int)):Nat->(Int×Int×(List ANd))->Option (Int×(List ANd))
 | 0,_=>none
 | n+1,(x6,z4,l7) =>
  bif (decide (x6<(t1.l.length:Int))) then
   (idx l7 x6).bind fun x7 =>
   ((bif (decide (x7.kind=6)) then
    some (decide (x7.kind=6))
   else
    bif (decide (x7.kind=9)) then
     some (decide (x7.kind=9))
    else
     some (decide (x7.kind=10)):Option Bool).bind fun x8 =>
   bif x8 then
    (DA x7.a t1 l1 l2).bind fun x9 =>
    (DA x7.b t1 l1 l2).bind fun x10 =>
    (idx (l7.set (x6).toNat (⟨x7.kind,x9,x7.b,x7.l⟩:ANd)) x6).bind fun x11 =>
    some (z4,((l7.set (x6).toNat (⟨x7.kind,x9,x7.b,x7.l⟩:ANd)).set (x6).toNat (⟨x11.kind,x11.a,x10,x11.l⟩:ANd)))
   else
    some (z4,l7):Option (Int×(List ANd))).bind fun (z5,l8) =>
   (idx l8 x6).bind fun x12 =>
   grd (x12.l.length*24<=140737488355328) <|
   (idx l8 x6).bind fun x13 =>
   (F5 t1 l1 l2 x12 FU (0,x12.l):Option (List AFd)).bind fun l9 =>
   grd (InR (x6+1)) <|
   Ga t1 l1 l2 n ((x6+1),z5,(l8.set (x6).toNat (⟨x13.kind,x13.a,x13.b,l9⟩:ANd)))
  else
   some (z4,l7)
noncomputable def Fp (t1:ATy) (l1:(List ATy)):Option (ATy×Int):=
 (By [[t1],l1]).bind fun x1 =>
 (DZ x1).bind fun x2 =>
 bif (!decide (x2=0)) then
  some ((⟨([]:List ANd),0⟩:ATy),x2)
 else
  grd (t1.l.length*48<=140737488355328) <|
  (Gf l1 FU (0,[],t1.root,t1.l):Option ((List Int)×Int×(List ANd))).bind fun (l2,z1,l3) =>
  (Ga t1 l1 l2 FU (0,z1,l3):Option (Int×(List ANd))).bind fun (z3,l6) =>
  (DA z3 t1 l1 l2).bind fun x18 =>
  (Eb (⟨l6,x18⟩:ATy)).bind fun (x19,x20) =>
  some ((⟨x19.l,x19.root⟩:ATy),x20)
theorem OC {t1:ATy} {l1:(List ATy)} {r_1:ATy} {r_2:Int} (hm:Fp t1 l1=some (r_1,r_2)):Fn0 Tryz.prog 40 [ATy.d t1,.list 2 ATy.d l1] (.tup [ATy.d r_1,.i64 r_2]):=by
 unfold Fp at hm;refine Ad func40 rfl ntmps40 rfl fun H0 fr w0=>?_;refine zq4 ?_;refine BI fun b1=>?_;refine zq6 ?_;refine Af rfl rfl rfl (zs1 ATy.d) ?_;refine zq1 ?_;refine Af rfl rfl rfl (zs2 (D.list 2 ATy.d)) ?_;obtain ⟨x1,hx1,hm⟩:=bS hm;refine zc0 (EL hx1) ?_;obtain ⟨x2,hx2,hm⟩:=bS hm;refine zc0 (HK hx2) ?_;refine zq7 ?_;refine zcn hm (fun hc1 hm=>?_) (fun hc1 hm=>?_)
 ·refine zq2 ?_
  refine Af rfl rfl rfl zb24b ?_;refine zq1 ?_;refine zst 0 ?_;refine Ag (ms':=[box b1 24 [_,_]]) rfl ?_;refine zq2 ?_
  cases hm;exact Ae zr2
 ·refine zq2 ?_
  obtain ⟨hg3,hm⟩:=Aa hm;refine F7 [2,5] [7] [3,4] [6] [] AA (by decide +kernel) (by decide +kernel) rfl ?_;refine Bb rfl rfl rfl rfl rfl rfl (oFa DI rfl rfl rfl) ?_;refine Bb rfl rfl rfl rfl rfl rfl (Bg isAgg22 rfl rfl) ?_;refine Er rfl ?_;refine Bb rfl rfl rfl rfl rfl rfl (oFa IE rfl rfl rfl) ?_;refine Bb rfl rfl rfl rfl rfl rfl (Bg isAgg3 rfl rfl) ?_;refine Er rfl ?_;refine D4 (R0:=fun d A=>∃ b,d = .v (.pointer (some ⟨b,0,none⟩))/\A=box b 24 [.list 4 ANd.d [],.i64 0]) rfl rfl rfl rfl (OpT.mono (Ay zeroValue24 (cs:=[.list 4 ANd.d [],.i64 0]) rfl) (by rintro d ms' ⟨b,rfl,rfl⟩;exact ⟨_,⟨b,rfl,rfl⟩,rfl⟩)) ?_;refine Er rfl ?_;refine Hy ?_;refine KC rfl rfl rfl rfl (B7 (ms₁:=[]) call74 rfl (List.Perm.refl _) (IZ hg3)) ?_;rintro _ _ ⟨_,⟨a_r1,cap_r1,hd_r1,hq_r1⟩,rfl⟩;obtain ⟨m_r1,hm_r1⟩:∃ m,m=t1.l.length:=⟨_,rfl⟩;rw [<- hm_r1] at hd_r1 hq_r1;subst hd_r1 hq_r1
  clear hm_r1
  refine ⟨(trivial:True),?_⟩;refine KC rfl rfl rfl rfl zb24b ?_;rintro _ _ ⟨rfl,rfl⟩;refine ⟨(trivial:True),?_⟩;refine I0 [(6,7)] rfl ?_;rintro _ _ ⟨b2,rfl,rfl⟩
  show _/\_
  refine ⟨(trivial:True),?_⟩;refine Cv rfl rfl rfl (oSb 0 sizeOf24 rfl rfl rfl rfl rfl rfl rfl rfl (nB rfl)) ?_;rintro _ _ rfl;refine ⟨(trivial:True),?_⟩;refine BL ?_;refine zq2 ?_;refine O0 fun b3=>?_;refine Al (AB (T:=3) (sz:=1) (f:=D.i64)) ?_;refine zq8 ?_;obtain ⟨o_1,hj1,hm1⟩:=bS hm;refine Ak [(2,_),(3,_),(4,_),(7,_),(8,_)] [(4,_)] (fun (st:((List Int)×Int×(List ANd))) (hid:(Option Addr×Nat)×(Option Addr×Nat×Nat))=>match st,hid with | (l2,z1,l3),((a_r2,cap_r2),(a_r1,m_r1,cap_r1))=>[]) (fun F (st:((List Int)×Int×(List ANd))) (hid:(Option Addr×Nat)×(Option Addr×Nat×Nat))=>match st,hid with | (l2,z1,l3),((a_r2,cap_r2),(a_r1,m_r1,cap_r1))=>[row a_r2 cap_r2 3 1 D.i64 l2,box b3 25 [.v (.slice a_r2 l2.length cap_r2)],box b2 24 [.v (.slice a_r1 m_r1 cap_r1),.i64 z1],arr a_r1 m_r1 cap_r1 44 4 ANd.d l3,(nthF F 0)]) (fun st=>st=o_1) ⟨rfl,rfl,rfl,rfl,rfl,trivial⟩ ⟨rfl,trivial⟩ ?_ ?_
  ·refine Aj ?_
   refine Ai [(2,_),(3,_),(4,_),(7,_),(8,_),(33,_),(34,_)] [(4,_)] (fun (st:(Int×(List Int)×Int×(List ANd))) (hid:(Option Addr×Nat)×(Option Addr×Nat×Nat))=>match st,hid with | (x3,l4,z2,l5),((a_r2,cap_r2),(a_r1,m_r1,cap_r1))=>[(35,.i64 x3)]) (fun F (st:(Int×(List Int)×Int×(List ANd))) (hid:(Option Addr×Nat)×(Option Addr×Nat×Nat))=>match st,hid with | (x3,l4,z2,l5),((a_r2,cap_r2),(a_r1,m_r1,cap_r1))=>[row a_r2 cap_r2 3 1 D.i64 l4,box b3 25 [.v (.slice a_r2 l4.length cap_r2)],box b2 24 [.v (.slice a_r1 m_r1 cap_r1),.i64 z2],arr a_r1 m_r1 cap_r1 44 4 ANd.d l5,(nthF F 0)]) ((_,_),(_,_,_)) hj1 (fun _=>rfl) ⟨rfl,rfl,rfl,rfl,rfl,rfl,rfl,trivial⟩ ⟨rfl,trivial⟩ ⟨rfl,trivial⟩ rfl ?_;rintro n ⟨x3,l4,z2,l5⟩ ⟨⟨a_r2,cap_r2⟩,⟨a_r1,m_r1,cap_r1⟩⟩ hj1;rw [Gf] at hj1;refine Ar (L':=[(35,.i64 x3),(2,_),(3,_),(4,_),(7,_),(8,_),(33,_),(34,_)]) (ms':=[row a_r2 cap_r2 3 1 D.i64 l4,box b3 25 [.v (.slice a_r2 l4.length cap_r2)],box b2 24 [.v (.slice a_r1 m_r1 cap_r1),.i64 z2],arr a_r1 m_r1 cap_r1 44 4 ANd.d l5,_]) rfl rfl ?_;refine zq5 ?_;refine zcn hj1 (fun hc2 hj1=>?_) (fun hc2 hj1=>?_)
   ·refine zq5 ?_
    obtain ⟨x4,hx4,hj1⟩:=bS hj1;refine Af rfl rfl rfl (oIm runUnderlying53 sizeOf24 rfl rfl hx4) ?_;refine zq1 ?_;refine BI fun b4=>?_;refine zst 0 ?_;refine Ag (ms':=[box b4 24 [_,_],_,box b3 25 [_],box b2 24 [_,_],_,box b1 24 [_,_]]) rfl ?_;refine zq3 ?_;refine Gu 4 rfl rfl ?_;rintro rfl;refine zq1 ?_;refine Al (Cl (i:=40) (q:=0) 4 rfl rfl rfl rfl rfl).refines ?_;refine zq1 ?_;obtain ⟨⟨x5,s1⟩,hx5,hj1⟩:=bS hj1;refine Av rfl rfl rfl (B7 (ms₁:=[]) call75 rfl (List.Perm.refl _) (HQ hx5)) ?_;rintro _ _ ⟨_,⟨a_r3,m_r3,cap_r3,rfl,rfl⟩,rfl⟩;refine zq3 ?_;refine BI fun b5=>?_;refine zst 0 ?_;refine Ag (ms':=[box b5 24 [_,_],_,box b4 24 [_,_],_,box b3 25 [_],box b2 24 [_,_],_,box b1 24 [_,_]]) rfl ?_;refine zq5 ?_;refine zst 5 ?_;refine Ag (ms':=[box b5 24 [_,_],_,box b4 24 [_,_],_,box b3 25 [_],box b2 24 [_,_],_,box b1 24 [_,_]]) rfl ?_;refine Al (Es 1 6 rfl rfl rfl rfl) ?_;refine zq6 ?_;obtain ⟨hg6,hj1⟩:=Aa hj1;refine zq1 ?_;refine Af rfl rfl rfl (zs1 D.i64) ?_;obtain ⟨hg7,hj1⟩:=Aa hj1;refine zap 2 hg7 fun a_r2 cap_r2=>?_;refine Ag (ms':=[box b5 24 [_,_],box b4 24 [_,_],_,box b3 25 [_],box b2 24 [_,_],_,box b1 24 [_,_]]) rfl ?_;refine zst 3 ?_;refine Ag (ms':=[box b5 24 [_,_],box b4 24 [_,_],_,box b3 25 [_],box b2 24 [_,_],_,box b1 24 [_,_]]) rfl ?_;refine zq2 ?_;obtain ⟨hg8,hj1⟩:=Aa hj1;refine zq3 ?_;exact ⟨_,((_,_),(_,_,_)),hj1,⟨rfl,trivial⟩,⟨rfl,rfl,rfl,rfl,rfl,rfl,rfl,trivial⟩,[_,_],rfl⟩
   ·refine Ao ?_
    exact ⟨_,((_,_),(_,_,_)),Ac hj1,trivial,⟨rfl,rfl,rfl,rfl,rfl,trivial⟩,[],rfl⟩
  ·rintro ⟨l2,z1,l3⟩ ⟨⟨a_r2,cap_r2⟩,⟨a_r1,m_r1,cap_r1⟩⟩ hst
   subst hst;refine An (L':=[(2,_),(3,_),(4,_),(7,_),(8,_)]) (ms':=[row a_r2 cap_r2 3 1 D.i64 l2,box b3 25 [.v (.slice a_r2 l2.length cap_r2)],box b2 24 [.v (.slice a_r1 m_r1 cap_r1),.i64 z1],arr a_r1 m_r1 cap_r1 44 4 ANd.d l3,_]) rfl rfl ?_;refine AQ ?_;refine BA (Dw 1 0 0 rfl rfl rfl rfl rfl rfl) ?_;refine BA (DN (d := .list 1 D.i64 l2) 1 8 rfl rfl rfl rfl) ?_;refine gRg ?_;refine Af rfl rfl rfl (BC rfl rfl) ?_;refine zq10 ?_;obtain ⟨o_2,hj2,hm2⟩:=bS hm1;refine Ak [(4,_),(7,_),(13,_)] [(0,_),(3,_)] (fun (st:(Int×(List ANd))) (hid:Unit)=>match st,hid with | (z3,l6),_=>[]) (fun F (st:(Int×(List ANd))) (hid:Unit)=>match st,hid with | (z3,l6),_=>[(nthF F 0),box b2 24 [.v (.slice a_r1 m_r1 cap_r1),.i64 z3],arr a_r1 m_r1 cap_r1 44 4 ANd.d l6,(nthF F 1)]) (fun st=>st=o_2) ⟨rfl,rfl,rfl,trivial⟩ ⟨rfl,rfl,trivial⟩ ?_ ?_
   ·refine Aj ?_
    refine Ai [(4,_),(7,_),(13,_),(57,_)] [(0,_),(3,_)] (fun (st:(Int×Int×(List ANd))) (hid:Unit)=>match st,hid with | (x6,z4,l7),_=>[(58,.i64 x6)]) (fun F (st:(Int×Int×(List ANd))) (hid:Unit)=>match st,hid with | (x6,z4,l7),_=>[(nthF F 0),box b2 24 [.v (.slice a_r1 m_r1 cap_r1),.i64 z4],arr a_r1 m_r1 cap_r1 44 4 ANd.d l7,(nthF F 1)]) () hj2 (fun _=>rfl) ⟨rfl,rfl,rfl,rfl,trivial⟩ ⟨rfl,rfl,trivial⟩ ⟨rfl,trivial⟩ rfl ?_;rintro n ⟨x6,z4,l7⟩ ⟨⟩ hj2;rw [Ga] at hj2;refine Ar (L':=[(58,.i64 x6),(4,_),(7,_),(13,_),(57,_)]) (ms':=[_,box b2 24 [.v (.slice a_r1 m_r1 cap_r1),.i64 z4],arr a_r1 m_r1 cap_r1 44 4 ANd.d l7,_]) rfl rfl ?_;refine zq5 ?_;refine zcn hj2 (fun hc3 hj2=>?_) (fun hc3 hj2=>?_)
    ·refine zq13 ?_
     obtain ⟨x7,hx9,hj2⟩:=bS hj2;refine Af rfl rfl rfl (Ap 2 runUnderlying22 sizeOf44 rfl rfl rfl hx9) ?_;refine zq6 ?_;refine Af rfl rfl rfl (A3 2 rfl rfl (Am hx9).2) ?_;refine Af rfl rfl rfl (AE (b:=0) 2 Qg rfl rfl (Am hx9).2) ?_;refine Af rfl rfl rfl (AV (off:=0) 2 isAgg3 rfl rfl (Am hx9).2 rfl rfl rfl) ?_;refine gNl ?_;obtain ⟨o_3,hj3,hm3⟩:=bS hj2;refine Ak [(4,_),(7,_),(13,_),(15,_),(57,_),(58,_)] [(0,_),(3,_)] (fun (st:(Int×(List ANd))) (hid:Unit)=>match st,hid with | (z5,l8),_=>[]) (fun F (st:(Int×(List ANd))) (hid:Unit)=>match st,hid with | (z5,l8),_=>[(nthF F 0),box b2 24 [.v (.slice a_r1 m_r1 cap_r1),.i64 z5],arr a_r1 m_r1 cap_r1 44 4 ANd.d l8,(nthF F 1)]) (fun st=>st=o_3) ⟨rfl,rfl,rfl,rfl,rfl,rfl,trivial⟩ ⟨rfl,rfl,trivial⟩ ?_ ?_
     ·refine zq7 ?_
      obtain ⟨o_4,hj4,hm4⟩:=bS hj3;refine Ak [(4,_),(7,_),(13,_),(15,_),(57,_),(58,_)] [(0,_),(1,_),(2,_),(3,_)] (fun (st:Bool) (hid:Unit)=>match st,hid with | x8,_=>[(69,.bool x8)]) (fun F (st:Bool) (hid:Unit)=>match st,hid with | x8,_=>[(nthF F 0),(nthF F 1),(nthF F 2),(nthF F 3)]) (fun st=>st=o_4) ⟨rfl,rfl,rfl,rfl,rfl,rfl,trivial⟩ ⟨rfl,rfl,rfl,rfl,trivial⟩ ?_ ?_
      ·refine zcn hj4 (fun hc4 hj4=>?_) (fun hc4 hj4=>?_)
       ·refine gSp ?_
        exact ⟨_,(),Ac hj4,⟨rfl,trivial⟩,⟨rfl,rfl,rfl,rfl,rfl,rfl,trivial⟩,[],rfl⟩
       ·refine zq5 ?_
        refine zcn hj4 (fun hc5 hj4=>?_) (fun hc5 hj4=>?_)
        ·refine gSp ?_
         exact ⟨_,(),Ac hj4,⟨rfl,trivial⟩,⟨rfl,rfl,rfl,rfl,rfl,rfl,trivial⟩,[],rfl⟩
        ·refine zq4 ?_
         exact ⟨_,(),Ac hj4,⟨rfl,trivial⟩,⟨rfl,rfl,rfl,rfl,rfl,rfl,trivial⟩,[],rfl⟩
      ·rintro x8 _ hst
       subst hst;refine An (L':=[(69,.bool x8),(4,_),(7,_),(13,_),(15,_),(57,_),(58,_)]) (ms':=[_,_,_,_]) rfl rfl ?_;refine zcn hm4 (fun hc6 hm4=>?_) (fun hc6 hm4=>?_)
       ·obtain ⟨x9,hx10,hm4⟩:=bS hm4
        obtain ⟨x10,hx11,hm4⟩:=bS hm4;obtain ⟨x11,hx12,hm4⟩:=bS hm4;refine DS [16,19] [1,17,18] [17,18] AA (by decide +kernel) (by decide +kernel) rfl ?_;refine Au rfl rfl rfl rfl rfl rfl (oMv rfl) ?_;refine Au rfl rfl rfl rfl rfl rfl (oMv rfl) ?_;refine Au rfl rfl rfl rfl rfl rfl (oMv rfl) ?_;refine Au rfl rfl rfl rfl rfl rfl (oMv rfl) ?_;refine Au rfl rfl rfl rfl rfl rfl (A3 2 rfl rfl (Am hx9).2) ?_;refine Au rfl rfl rfl rfl rfl rfl (AE (b:=0) 2 KL rfl rfl (Am hx9).2) ?_;refine Au rfl rfl rfl rfl rfl rfl (AV (off:=1) 2 isAgg3 rfl rfl (Am hx9).2 rfl rfl rfl) ?_;refine Au rfl rfl rfl rfl rfl rfl (GV rfl rfl (Em call76 (Fg hx10))) ?_;refine Au rfl rfl rfl rfl rfl rfl (oMv rfl) ?_;refine Au rfl rfl rfl rfl rfl rfl (oMv rfl) ?_;refine Au rfl rfl rfl rfl rfl rfl (A3 2 rfl rfl (Am hx9).2) ?_;refine Au rfl rfl rfl rfl rfl rfl (AE (b:=0) 2 IF rfl rfl (Am hx9).2) ?_;refine Au rfl rfl rfl rfl rfl rfl (AV (off:=2) 2 isAgg3 rfl rfl (Am hx9).2 rfl rfl rfl) ?_;refine Au rfl rfl rfl rfl rfl rfl (GV rfl rfl (Em call76 (Fg hx11))) ?_;refine Au rfl rfl rfl rfl rfl rfl (A3 2 rfl rfl (Am hx9).2) ?_;refine Au rfl rfl rfl rfl rfl rfl (AE (b:=0) 2 KL rfl rfl (Am hx9).2) ?_;refine DU rfl ?_;refine MF rfl rfl rfl rfl rfl (A3 2 rfl rfl (by first | exact (Am hx9).2 | exact IH hx9 | exact G0 hx9)) ?_;refine MF rfl rfl rfl rfl rfl (AE (b:=0) 2 IF rfl rfl (by first | exact (Am hx9).2 | exact IH hx9 | exact G0 hx9)) ?_;refine DU rfl ?_;refine EQ ?_;refine Cv rfl rfl rfl (Bx (off:=1) (z':=(⟨x7.kind,x9,x7.b,x7.l⟩:ANd)) 2 sizeOf3 rfl rfl (Am hx9).2 rfl rfl rfl rfl rfl rfl (nB rfl) rfl rfl) ?_;rintro _ _ rfl;refine ⟨⟨⟨trivial,A3 2 rfl rfl (by first | exact (Am hx9).2 | exact IH hx9 | exact G0 hx9)⟩,AE (b:=0) 2 IF rfl rfl (by first | exact (Am hx9).2 | exact IH hx9 | exact G0 hx9)⟩,?_⟩;refine Cv rfl rfl rfl (Bx (off:=2) (z':=(⟨x11.kind,x11.a,x10,x11.l⟩:ANd)) 2 sizeOf3 rfl rfl (Am hx12).2 rfl rfl rfl rfl rfl rfl (nB rfl) rfl rfl) ?_;rintro _ _ rfl;refine ⟨⟨⟨trivial,A3 2 rfl rfl (by first | exact (Am hx9).2 | exact IH hx9 | exact G0 hx9)⟩,AE (b:=0) 2 IF rfl rfl (by first | exact (Am hx9).2 | exact IH hx9 | exact G0 hx9)⟩,?_⟩;refine BL ?_;exact ⟨_,(),Ac hm4,trivial,⟨rfl,rfl,rfl,rfl,rfl,rfl,trivial⟩,[],rfl⟩
       ·refine gSp ?_
        exact ⟨_,(),Ac hm4,trivial,⟨rfl,rfl,rfl,rfl,rfl,rfl,trivial⟩,[],rfl⟩
     ·rintro ⟨z5,l8⟩ ⟨⟩ hst
      subst hst;refine An (L':=[(4,_),(7,_),(13,_),(15,_),(57,_),(58,_)]) (ms':=[_,box b2 24 [.v (.slice a_r1 m_r1 cap_r1),.i64 z5],arr a_r1 m_r1 cap_r1 44 4 ANd.d l8,_]) rfl rfl ?_;refine zq4 ?_;obtain ⟨x12,hx13,hm3⟩:=bS hm3;refine Af rfl rfl rfl (A3 2 rfl rfl (Am hx13).2) ?_;refine Af rfl rfl rfl (AE (b:=0) 2 IJ rfl rfl (Am hx13).2) ?_;refine Af rfl rfl rfl (AV (off:=3) 2 isAgg42 rfl rfl (Am hx13).2 rfl rfl rfl) ?_;obtain ⟨hg14,hm3⟩:=Aa hm3;refine Av rfl rfl rfl (B7 (ms₁:=[]) call77 rfl (List.Perm.refl _) (L6 hg14)) ?_;rintro _ _ ⟨_,⟨a_r4,cap_r4,hd_r4,hq_r4⟩,rfl⟩;obtain ⟨m_r4,hm_r4⟩:∃ m,m=x12.l.length:=⟨_,rfl⟩;rw [<- hm_r4] at hd_r4 hq_r4;subst hd_r4 hq_r4
      clear hm_r4
      obtain ⟨x13,hx15,hm3⟩:=bS hm3;refine Af rfl rfl rfl (A3 3 rfl rfl (Am hx15).2) ?_;refine Af rfl rfl rfl (AE (b:=0) 3 IJ rfl rfl (Am hx15).2) ?_;refine Al (Nf (.agg [.i64 x13.kind,.i64 x13.a,.i64 x13.b,.v (.slice a_r4 m_r4 cap_r4)]) 3 rfl rfl) ?_;refine Gk rfl rfl (Bx (off:=3) (z':=none) 3 sizeOf42 rfl rfl (RY hx15) rfl rfl rfl rfl rfl rfl (nB rfl) rfl rfl) ?_;rintro _ _ rfl;refine Ag (ms':=[_,_,box b2 24 [_,_],_,box b1 24 [_,_]]) rfl ?_;refine zq4 ?_;refine Af rfl rfl rfl (A3 3 rfl rfl (EU hx15)) ?_;refine Af rfl rfl rfl (AE (b:=0) 3 IJ rfl rfl (EU hx15)) ?_;refine Af rfl rfl rfl (AV (off:=3) 3 isAgg42 rfl rfl (EU hx15) rfl rfl rfl) ?_;refine Af rfl rfl rfl (BP 0 runUnderlying42 rfl rfl) ?_;refine zq2 ?_;obtain ⟨o_5,hj5,hm5⟩:=bS hm3;refine Ak [(4,_),(7,_),(13,_),(57,_),(58,_)] [(1,_),(2,_),(3,_),(4,_)] (fun (st:(List AFd)) (hid:Unit)=>match st,hid with | l9,_=>[]) (fun F (st:(List AFd)) (hid:Unit)=>match st,hid with | l9,_=>[arr a_r4 m_r4 cap_r4 98 2 AFd.d l9,(nthF F 0),(nthF F 1),(nthF F 2),(nthF F 3)]) (fun st=>st=o_5) ⟨rfl,rfl,rfl,rfl,rfl,trivial⟩ ⟨rfl,rfl,rfl,rfl,trivial⟩ ?_ ?_
      ·refine Aj ?_
       refine Ai [(4,_),(7,_),(13,_),(15,_),(57,_),(58,_),(103,_)] [(1,_),(2,_),(3,_),(4,_)] (fun (st:(Int×(List AFd))) (hid:Unit)=>match st,hid with | (x14,l10),_=>[(104,.i64 x14)]) (fun F (st:(Int×(List AFd))) (hid:Unit)=>match st,hid with | (x14,l10),_=>[arr a_r4 m_r4 cap_r4 98 2 AFd.d l10,(nthF F 0),(nthF F 1),(nthF F 2),(nthF F 3)]) () hj5 (fun _=>rfl) ⟨rfl,rfl,rfl,rfl,rfl,rfl,rfl,trivial⟩ ⟨rfl,rfl,rfl,rfl,trivial⟩ ⟨rfl,trivial⟩ rfl ?_;rintro n ⟨x14,l10⟩ ⟨⟩ hj5;rw [F5] at hj5;refine Ar (L':=[(104,.i64 x14),(4,_),(7,_),(13,_),(15,_),(57,_),(58,_),(103,_)]) (ms':=[arr a_r4 m_r4 cap_r4 98 2 AFd.d l10,_,_,_,_]) rfl rfl ?_;refine zq5 ?_;refine zcn hj5 (fun hc7 hj5=>?_) (fun hc7 hj5=>?_)
       ·refine zq8 ?_
        obtain ⟨x15,hx16,hj5⟩:=bS hj5;obtain ⟨x16,hx17,hj5⟩:=bS hj5;obtain ⟨x17,hx18,hj5⟩:=bS hj5;refine zdr 17 ?_;refine zq1 ?_;refine Aw rfl rfl rfl (A3 3 rfl rfl (EU hx15)) ?_;refine Aw rfl rfl rfl (AE (b:=0) 3 IJ rfl rfl (EU hx15)) ?_;refine Aw rfl rfl rfl (AV (off:=3) 3 isAgg42 rfl rfl (EU hx15) rfl rfl rfl) ?_;refine zq3 ?_;refine Aw rfl rfl rfl (A3 3 rfl rfl (EU hx15)) ?_;refine Aw rfl rfl rfl (AE (b:=0) 3 IJ rfl rfl (EU hx15)) ?_;refine Aw rfl rfl rfl (AV (off:=3) 3 isAgg42 rfl rfl (EU hx15) rfl rfl rfl) ?_;refine zq1 ?_;refine Aw rfl rfl rfl (Ap 0 runUnderlying42 sizeOf98 rfl rfl rfl hx16) ?_;refine Aw rfl rfl rfl (AE (b:=0) 0 Ix rfl rfl (Am hx16).2) ?_;refine Aw rfl rfl rfl (AV (off:=1) 0 isAgg3 rfl rfl (Am hx16).2 rfl rfl rfl) ?_;refine Aw rfl rfl rfl (GV rfl rfl (Em call76 (Fg hx17))) ?_;refine Aw rfl rfl rfl (Ap 0 runUnderlying42 sizeOf98 rfl rfl rfl hx18) ?_;refine Aw rfl rfl rfl (AE (b:=0) 0 Ix rfl rfl (Am hx18).2) ?_;refine Cu ?_;refine Gk rfl rfl (Bx (off:=1) (z':=(⟨x17.name,x16⟩:AFd)) 0 sizeOf3 rfl rfl (Am hx18).2 rfl rfl rfl rfl rfl rfl (nB rfl) rfl rfl) ?_;rintro _ _ rfl;refine Ag (ms':=[_,_,box b2 24 [_,_],_,box b1 24 [_,_]]) rfl ?_;refine zq2 ?_;obtain ⟨hg19,hj5⟩:=Aa hj5;refine zq3 ?_;exact ⟨_,(),hj5,⟨rfl,trivial⟩,⟨rfl,rfl,rfl,rfl,rfl,rfl,rfl,trivial⟩,[],rfl⟩
       ·refine Ao ?_
        exact ⟨_,(),Ac hj5,trivial,⟨rfl,rfl,rfl,rfl,rfl,trivial⟩,[],rfl⟩
      ·rintro l9 ⟨⟩ hst
       subst hst;refine An (L':=[(4,_),(7,_),(13,_),(57,_),(58,_)]) (ms':=[arr a_r4 m_r4 cap_r4 98 2 AFd.d l9,_,_,_,_]) rfl rfl ?_;refine IW 0 rfl rfl ?_;rintro rfl;refine BA (LS (z':=(⟨x13.kind,x13.a,x13.b,l9⟩:ANd)) 3 0 3 rfl rfl rfl rfl rfl rfl) ?_;refine gRg ?_;obtain ⟨hg20,hm5⟩:=Aa hm5;refine zq3 ?_;exact ⟨_,(),hm5,⟨rfl,trivial⟩,⟨rfl,rfl,rfl,rfl,trivial⟩,[_],rfl⟩
    ·refine Ao ?_
     exact ⟨_,(),Ac hj2,trivial,⟨rfl,rfl,rfl,trivial⟩,[],rfl⟩
   ·rintro ⟨z3,l6⟩ ⟨⟩ hst
    subst hst;refine An (L':=[(4,_),(7,_),(13,_)]) (ms':=[_,box b2 24 [.v (.slice a_r1 m_r1 cap_r1),.i64 z3],arr a_r1 m_r1 cap_r1 44 4 ANd.d l6,_]) rfl rfl ?_;refine zq5 ?_;obtain ⟨x18,hx21,hm2⟩:=bS hm2;refine Af rfl rfl rfl (GV rfl rfl (Em call76 (Fg hx21))) ?_;refine zq1 ?_;refine zst 1 ?_;refine Ag (ms':=[_,box b2 24 [_,_],_,box b1 24 [_,_]]) rfl ?_;refine zq3 ?_;refine Gu 2 rfl rfl ?_;rintro rfl;refine zq1 ?_;refine Al (Cl (i:=131) (q:=0) 2 rfl rfl rfl rfl rfl).refines ?_;obtain ⟨⟨x19,x20⟩,hx22,hm2⟩:=bS hm2;refine zc0 (Hk hx22) ?_;refine zq2 ?_;refine zst 3 ?_;refine Ag (ms':=[_,box b2 24 [_,_],_,box b1 24 [_,_]]) rfl ?_;refine zq2 ?_
    cases hm2;exact Ae zr2
noncomputable def B6 (l1:(List ATy)):Nat->(Int×(List Int)×(List ANd)×Int)->Option ((List Int)×(List ANd)×Int)
 | 0,_=>none
 | n+1,(x1,l4,l5,z2) =>
  bif (decide (x1<(l1.length:Int))) then
   (idx l1 x1).bind fun x2 =>
   (Ck (⟨l5,z2⟩:ATy) (⟨x2.l,x2.root⟩:ATy)).bind fun (x3,s1) =>
   grd (InR (x2.root+x3)) <|
   grd ((l4.length+([(x2.root+x3)]:List _).length)*8<=140737488355328) <|
   grd (InR (x1+1)) <|
   B6 l1 n ((x1+1),(l4++[(x2.root+x3)]),s1.l,s1.root)
  else
   some (l4,l5,z2)
noncomputable def D9 (n1:((List Int)->Option ANd)) (l1:(List ATy)):Option ATy:=
 (B6 l1 FU (0,[],[],0):Option ((List Int)×(List ANd)×Int)).bind fun (l2,l3,z1) =>
 (n1 l2).bind fun x4 =>
 grd ((l3.length+([x4]:List _).length)*48<=140737488355328) <|
 grd (InR (((l3++[x4]).length:Int) - 1)) <|
 some (⟨(l3++[x4]),(((l3++[x4]).length:Int) - 1)⟩:ATy)
theorem Jy {n1:((List Int)->Option ANd)} {l1:(List ATy)} {r_1:ATy} {fv_n1:D} (hfn1:OY Tryz.prog fv_n1 (D.list 1 D.i64) ANd.d n1) (hm:D9 n1 l1=some r_1):Fn0 Tryz.prog 82 [fv_n1,.list 2 ATy.d l1] (ATy.d r_1):=by
 unfold D9 at hm;refine Ad func82 rfl ntmps82 rfl fun H0 fr w0=>?_;refine zq2 ?_;refine BI fun b1=>?_;refine zq3 ?_;refine Rv fun b2=>?_;refine Al (Cm (T:=44) (sz:=4) (f:=ANd.d)) ?_;refine zq4 ?_;refine Al (AB (T:=3) (sz:=1) (f:=D.i64)) ?_;refine zq8 ?_;obtain ⟨o_1,hj1,hm1⟩:=bS hm;refine Ak [(0,_),(4,_),(5,_)] [(3,_)] (fun (st:((List Int)×(List ANd)×Int)) (hid:(Option Addr×Nat)×(Option Addr×Nat×Nat))=>match st,hid with | (l2,l3,z1),((a_r2,cap_r2),(a_r1,m_r1,cap_r1))=>[(6,.v (.slice a_r2 l2.length cap_r2))]) (fun F (st:((List Int)×(List ANd)×Int)) (hid:(Option Addr×Nat)×(Option Addr×Nat×Nat))=>match st,hid with | (l2,l3,z1),((a_r2,cap_r2),(a_r1,m_r1,cap_r1))=>[row a_r2 cap_r2 3 1 D.i64 l2,arr a_r1 m_r1 cap_r1 44 4 ANd.d l3,box b2 24 [.v (.slice a_r1 m_r1 cap_r1),.i64 z1],(nthF F 0)]) (fun st=>st=o_1) ⟨rfl,rfl,rfl,trivial⟩ ⟨rfl,trivial⟩ ?_ ?_
 ·refine Aj ?_
  refine Ai [(0,_),(4,_),(5,_),(11,_),(12,_)] [(3,_)] (fun (st:(Int×(List Int)×(List ANd)×Int)) (hid:(Option Addr×Nat)×(Option Addr×Nat×Nat))=>match st,hid with | (x1,l4,l5,z2),((a_r2,cap_r2),(a_r1,m_r1,cap_r1))=>[(6,.v (.slice a_r2 l4.length cap_r2)),(13,.i64 x1)]) (fun F (st:(Int×(List Int)×(List ANd)×Int)) (hid:(Option Addr×Nat)×(Option Addr×Nat×Nat))=>match st,hid with | (x1,l4,l5,z2),((a_r2,cap_r2),(a_r1,m_r1,cap_r1))=>[row a_r2 cap_r2 3 1 D.i64 l4,arr a_r1 m_r1 cap_r1 44 4 ANd.d l5,box b2 24 [.v (.slice a_r1 m_r1 cap_r1),.i64 z2],(nthF F 0)]) ((_,_),(_,_,_)) hj1 (fun _=>rfl) ⟨rfl,rfl,rfl,rfl,rfl,trivial⟩ ⟨rfl,trivial⟩ ⟨rfl,rfl,trivial⟩ rfl ?_;rintro n ⟨x1,l4,l5,z2⟩ ⟨⟨a_r2,cap_r2⟩,⟨a_r1,m_r1,cap_r1⟩⟩ hj1;rw [B6] at hj1;refine Ar (L':=[(6,.v (.slice a_r2 l4.length cap_r2)),(13,.i64 x1),(0,_),(4,_),(5,_),(11,_),(12,_)]) (ms':=[row a_r2 cap_r2 3 1 D.i64 l4,arr a_r1 m_r1 cap_r1 44 4 ANd.d l5,box b2 24 [.v (.slice a_r1 m_r1 cap_r1),.i64 z2],_]) rfl rfl ?_;refine zq5 ?_;refine zcn hj1 (fun hc1 hj1=>?_) (fun hc1 hj1=>?_)
  ·refine zq5 ?_
   obtain ⟨x2,hx1,hj1⟩:=bS hj1;refine zq2 ?_;refine BI fun b3=>?_;refine zst 0 ?_;refine Ag (ms':=[box b3 24 [_,_],_,_,box b2 24 [_,_],box b1 24 [_,_]]) rfl ?_;refine zq3 ?_;refine Gu 2 rfl rfl ?_;rintro rfl;refine zq1 ?_;refine Al (Cl (i:=18) (q:=0) 2 rfl rfl rfl rfl rfl).refines ?_;refine zq1 ?_;obtain ⟨⟨x3,s1⟩,hx2,hj1⟩:=bS hj1;refine Av rfl rfl rfl (B7 (ms₁:=[]) call75 rfl (List.Perm.refl _) (HQ hx2)) ?_;rintro _ _ ⟨_,⟨a_r3,m_r3,cap_r3,rfl,rfl⟩,rfl⟩;refine zq3 ?_;refine BI fun b4=>?_;refine zst 0 ?_;refine Ag (ms':=[box b4 24 [_,_],_,box b3 24 [_,_],_,_,box b2 24 [_,_],box b1 24 [_,_]]) rfl ?_;refine zq5 ?_;refine zst 5 ?_;refine Ag (ms':=[box b4 24 [_,_],_,box b3 24 [_,_],_,_,box b2 24 [_,_],box b1 24 [_,_]]) rfl ?_;refine Al (Es 1 4 rfl rfl rfl rfl) ?_;refine zq6 ?_;obtain ⟨hg3,hj1⟩:=Aa hj1;refine zq1 ?_;refine Af rfl rfl rfl (zs1 D.i64) ?_;obtain ⟨hg4,hj1⟩:=Aa hj1;refine zap 2 hg4 fun a_r2 cap_r2=>?_;refine Ag (ms':=[box b4 24 [_,_],box b3 24 [_,_],_,_,box b2 24 [_,_],box b1 24 [_,_]]) rfl ?_;refine zq3 ?_;obtain ⟨hg5,hj1⟩:=Aa hj1;refine zq3 ?_;exact ⟨_,((_,_),(_,_,_)),hj1,⟨rfl,rfl,trivial⟩,⟨rfl,rfl,rfl,rfl,rfl,trivial⟩,[_,_],rfl⟩
  ·refine Ao ?_
   exact ⟨_,((_,_),(_,_,_)),Ac hj1,⟨rfl,trivial⟩,⟨rfl,rfl,rfl,trivial⟩,[],rfl⟩
 ·rintro ⟨l2,l3,z1⟩ ⟨⟨a_r2,cap_r2⟩,⟨a_r1,m_r1,cap_r1⟩⟩ hst
  subst hst;refine An (L':=[(6,.v (.slice a_r2 l2.length cap_r2)),(0,_),(4,_),(5,_)]) (ms':=[row a_r2 cap_r2 3 1 D.i64 l2,arr a_r1 m_r1 cap_r1 44 4 ANd.d l3,box b2 24 [.v (.slice a_r1 m_r1 cap_r1),.i64 z1],_]) rfl rfl ?_;refine AQ ?_;obtain ⟨x4,hx6,hm1⟩:=bS hm1;refine zdr 6 ?_;refine zq4 ?_;refine Aw rfl rfl rfl (.view (peekE (i:=35) 0 rfl rfl rfl) (GV rfl rfl (hfn1 _ _ hx6))) ?_;refine Aw rfl rfl rfl (zs1 ANd.d) ?_;refine Cu ?_;obtain ⟨hg7,hm1⟩:=Aa hm1;refine Av rfl rfl rfl (Ca (a:=_) 1 underlying22 type44 rfl rfl rfl rfl rfl rfl (fun _=>rfl) (fun _=>rfl) hg7 (A2 hg7 rfl)) ?_;rintro _ _ ⟨a_r1,m_r1,cap_r1,rfl,rfl⟩;refine Ag (ms':=[_,_,box b2 24 [_,_],box b1 24 [_,_]]) rfl ?_;refine zq1 ?_;refine zst 2 ?_;refine Ag (ms':=[_,_,box b2 24 [_,_],box b1 24 [_,_]]) rfl ?_;refine zq5 ?_;refine Af rfl rfl rfl (BP 1 runUnderlying22 rfl rfl) ?_;obtain ⟨hg8,hm1⟩:=Aa hm1;refine zq2 ?_;refine zst 2 ?_;refine Ag (ms':=[_,_,box b2 24 [_,_],box b1 24 [_,_]]) rfl ?_;refine zq3 ?_;refine Gu 1 rfl rfl ?_;rintro rfl;refine zq1 ?_;refine Al (Cl (i:=45) (q:=0) 1 rfl rfl rfl rfl rfl).refines ?_;refine zst 3 ?_;refine Ag (ms':=[_,_,box b2 24 [_,_],box b1 24 [_,_]]) rfl ?_;refine gNl ?_
  cases hm1;exact Ae zr1
noncomputable def Ff (a1:ATy) (bv1:ATy):Option (ATy×Int):=
 (DZ [a1,bv1]).bind fun x1 =>
 bif (!decide (x1=0)) then
  some ((⟨([]:List ANd),0⟩:ATy),x1)
 else
  (D9 (fun y0=>FQ y0 6) [a1,bv1]).bind fun x2 =>
  (Eb x2).bind fun (x3,x4) =>
  some ((⟨x3.l,x3.root⟩:ATy),x4)
theorem L8 {a1:ATy} {bv1:ATy} {r_1:ATy} {r_2:Int} (hm:Ff a1 bv1=some (r_1,r_2)):Fn0 Tryz.prog 48 [ATy.d a1,ATy.d bv1] (.tup [ATy.d r_1,.i64 r_2]):=by
 unfold Ff at hm;refine Ad func48 rfl ntmps48 rfl fun H0 fr w0=>?_;refine zq4 ?_;refine BI fun b1=>?_;refine zq7 ?_;refine Af rfl rfl rfl (zs2 ATy.d) ?_;obtain ⟨x1,hx1,hm⟩:=bS hm;refine zc0 (HK hx1) ?_;refine zq7 ?_;refine zcn hm (fun hc1 hm=>?_) (fun hc1 hm=>?_)
 ·refine zq2 ?_
  refine Af rfl rfl rfl zb24b ?_;refine zq1 ?_;refine zst 0 ?_;refine Ag (ms':=[box b1 24 [_,_]]) rfl ?_;refine zq2 ?_
  cases hm;exact Ae zr2
 ·refine zq2 ?_
  obtain ⟨x2,hx2,hm⟩:=bS hm;obtain ⟨⟨x3,x4⟩,hx3,hm⟩:=bS hm;refine zdr 8 ?_;refine zcd (TX (k:=6)) ?_;refine zq2 ?_;refine Aw rfl rfl rfl (zs2 ATy.d) ?_;refine Aw rfl rfl rfl (AY call82 rfl (Jy (fun _ _ h=>Em call114 (LD h)) hx2)) ?_;refine zcd (Hk hx3) ?_;refine zq3 ?_;refine zst 0 ?_;refine Ag (ms':=[box b1 24 [_,_]]) rfl ?_;refine zq2 ?_
  cases hm;exact Ae zr2
noncomputable def Ez  : Option Bool:=
 (D0 3).bind fun x1 =>
 (Fp (⟨[(⟨11,0,0,([]:List AFd)⟩:ANd),(⟨6,0,0,([]:List AFd)⟩:ANd)],1⟩:ATy) [x1]).bind fun (x2,x3) =>
 (D0 3).bind fun x4 =>
 (D0 3).bind fun x5 =>
 (Ff x4 x5).bind fun (x6,x7) =>
 (Dx (⟨x2.l,x2.root⟩:ATy) (⟨x6.l,x6.root⟩:ATy)).bind fun (x8,x9) =>
 (bif ((((decide (x3=0))&&(decide (x7=0)))&&(decide (x9=0)))&&x8) then ((Da (⟨x2.l,x2.root⟩:ATy)).bind fun x10 =>
 some x10) else (some false)).bind fun p1 =>
 some p1
theorem Ja  {r_1:Bool} (hm:Ez=some r_1):Fn0 Tryz.prog 42 [] (.bool r_1):=by
 unfold Ez at hm;refine Ad func42 rfl ntmps42 rfl fun H0 fr w0=>?_;refine zq6 ?_;refine Af rfl rfl rfl zb44a ?_;refine Af rfl rfl rfl zb44a ?_;refine Af rfl rfl rfl (Ax (xs:=[_,_]) (f:=ANd.d) (l:=[(⟨11,0,0,([]:List AFd)⟩:ANd),(⟨6,0,0,([]:List AFd)⟩:ANd)]) runUnderlying22 sizeOf44 zeroValue44 rfl rfl rfl (fun _=>⟨rfl,rfl,rfl⟩) rfl) ?_;refine Af rfl rfl rfl zb24b ?_;refine BI fun b1=>?_;refine zst 0 ?_;refine Ag (ms':=[box b1 24 [_,_]]) rfl ?_;refine zq2 ?_;obtain ⟨x1,hx1,hm⟩:=bS hm;obtain ⟨⟨x2,x3⟩,hx2,hm⟩:=bS hm;refine DS [7,8] [0,1,2,3,4,5,6,9] [0] AA (by decide +kernel) (by decide +kernel) rfl ?_;refine MF rfl rfl rfl rfl rfl (oLg 0 isAgg24 sizeOf24 rfl rfl rfl rfl (nB rfl)) ?_;refine Au rfl rfl rfl rfl rfl rfl (AY call60 rfl (Hn hx1)) ?_;refine Au rfl rfl rfl rfl rfl rfl (zs1 ATy.d) ?_;refine Au rfl rfl rfl rfl rfl rfl (AY call40 rfl (OC hx2)) ?_;refine Au rfl rfl rfl rfl rfl rfl (oMv rfl) ?_;refine Au rfl rfl rfl rfl rfl rfl (C8 rfl rfl) ?_;refine Au rfl rfl rfl rfl rfl rfl (C8 rfl rfl) ?_;refine DU rfl ?_;refine DU rfl ?_;refine Au rfl rfl rfl rfl rfl rfl (oAs rfl) ?_;refine EQ ?_;refine GB rfl rfl rfl rfl (Ay zeroValue24 (cs:=[.list 4 ANd.d [],.i64 0]) rfl) ?_;rintro _ _ ⟨b2,rfl,rfl⟩;refine ⟨⟨trivial,oLg 1 isAgg24 sizeOf24 rfl rfl rfl rfl (nB rfl)⟩,?_⟩;refine Cv rfl rfl rfl (oSb 0 sizeOf24 rfl rfl rfl rfl rfl rfl rfl rfl (nB rfl)) ?_;rintro _ _ rfl;refine ⟨⟨trivial,oLg 1 isAgg24 sizeOf24 rfl rfl rfl rfl (nB rfl)⟩,?_⟩;refine BL ?_;refine zq2 ?_;obtain ⟨x4,hx3,hm⟩:=bS hm;refine zc0 (Hn hx3) ?_;obtain ⟨x5,hx4,hm⟩:=bS hm;refine zc0 (Hn hx4) ?_;obtain ⟨⟨x6,x7⟩,hx5,hm⟩:=bS hm;refine zc0 (L8 hx5) ?_;refine zq3 ?_;refine BI fun b3=>?_;refine zst 0 ?_;refine Ag (ms':=[box b3 24 [_,_],box b2 24 [_,_],box b1 24 [_,_]]) rfl ?_;refine zq6 ?_;obtain ⟨⟨x8,x9⟩,hx6,hm⟩:=bS hm;refine zc0 (Mb hx6) ?_;refine zq11 ?_
 apply Bo [(2,_),(6,_),(7,_)] 3 36 (t:=33) ⟨rfl,rfl,rfl,trivial⟩ rfl
 ·intro hg_1 hk1
  refine zq3 ?_;exact zgm hk1
 ·intro hg_1 hk1
  refine zq3 ?_;exact zgm hk1
 refine zq1 ?_
 apply Bo [(2,_),(6,_)] 3 40 (t:=37) ⟨rfl,rfl,trivial⟩ rfl
 ·intro hg_2 hk2
  refine zq3 ?_;exact zgm hk2
 ·intro hg_2 hk2
  refine zq3 ?_;exact zgm hk2
 refine zq1 ?_
 apply Bo [(2,_)] 2 43 (t:=41) ⟨rfl,trivial⟩ rfl
 ·intro hg_3 hk3
  refine zq2 ?_;exact zgm hk3
 ·intro hg_3 hk3
  refine zq2 ?_;exact zgm hk3
 refine zq1 ?_;obtain ⟨p1,hp_4,hm⟩:=bS hm;refine AL [] 3 47 p1 (t:=44) trivial rfl (fun hg_4 hk4=>?_) (fun hg_4 hk4=>?_) ?_
 ·replace hp_4:=AO hg_4 hp_4
  refine zq1 ?_;obtain ⟨x10,hx7,hp_4⟩:=bS hp_4;refine zcw (K4 hx7) ?_;refine zq1 ?_;exact zgb hk4 hp_4
 ·replace hp_4:=AP hg_4 hp_4
  refine zq3 ?_;exact zgb hk4 hp_4
 refine zq2 ?_
 cases hm;exact Ae zr1
def AFd.eqv (x y:AFd):Bool:=((x.name == y.name)&&((x.at_ == y.at_)&&true))
theorem TT:∀ fs:Array Field,Tryz.prog.underlying 98=some (.struct fs)->Zj Tryz.prog fs.toList 0 [.str,.int]:=by
 intro fs h
 have:=h.symm.trans underlying98
 simp only [Option.some.injEq,TypeDesc.struct.injEq] at this;subst this;exact ⟨by decide,rfl,isAgg9,underlying9,⟨by decide,rfl,isAgg3,⟨_,underlying3⟩,trivial⟩⟩
noncomputable def BS (x1:ANd) (x2:ANd):Nat->Int->Option (Out Bool Unit)
 | 0,_=>none
 | n+1,k1 =>
  bif (decide (k1<(x1.l.length:Int))) then
   (idx x1.l k1).bind fun x3 =>
   (idx x2.l k1).bind fun x4 =>
   bif (!(AFd.eqv x3 x4)) then
    some (Out.ret false)
   else
    grd (InR (k1+1)) <|
    BS x1 x2 n (k1+1)
  else
   some (Out.go (()))
noncomputable def Ci (a1:ATy) (bv1:ATy):Nat->Int->Option (Out Bool Unit)
 | 0,_=>none
 | n+1,i1 =>
  bif (decide (i1<(a1.l.length:Int))) then
   (idx a1.l i1).bind fun x1 =>
   (idx bv1.l i1).bind fun x2 =>
   bif ((((!decide (x1.kind=x2.kind))||(!decide (x1.a=x2.a)))||(!decide (x1.b=x2.b)))||(!decide ((x1.l.length:Int)=(x2.l.length:Int)))) then
    some (Out.ret false)
   else
    ((BS x1 x2 FU 0:Option (Out Bool Unit))).bind (fun oo=>oo.on (fun r1=>some (Out.ret r1)) (fun _ =>
    grd (InR (i1+1)) <|
    Ci a1 bv1 n (i1+1)))
  else
   some (Out.go (()))
noncomputable def Et (a1:ATy) (bv1:ATy):Option Bool:=
 bif ((!decide ((a1.l.length:Int)=(bv1.l.length:Int)))||(!decide (a1.root=bv1.root))) then
  some false
 else
  ((Ci a1 bv1 FU 0:Option (Out Bool Unit))).bind (fun oo=>oo.on (fun r2=>some r2) (fun _ =>
  some true))
theorem Gy {a1:ATy} {bv1:ATy} {r_1:Bool} (hm:Et a1 bv1=some r_1):Fn0 Tryz.prog 79 [ATy.d a1,ATy.d bv1] (.bool r_1):=by
 unfold Et at hm;refine Ad func79 rfl ntmps79 rfl fun H0 fr w0=>?_;refine zq17 ?_
 apply Bt [(2,_),(3,_)] 6 22 (t:=16) ⟨rfl,rfl,trivial⟩ rfl
 ·intro hg_1 hk1
  refine zq6 ?_;exact zgm hk1
 ·intro hg_1 hk1
  refine zq6 ?_;exact zgm hk1
 refine gNl ?_;refine zcn hm (fun hc1 hm=>?_) (fun hc1 hm=>?_)
 ·refine zq4 ?_
  cases hm;exact Ae zr1
 ·refine zq6 ?_
  obtain ⟨o_1,hj1,hm1⟩:=bS hm;refine Ak [] [] (fun (st:Unit) (hid:Unit)=>match st,hid with | _,_=>[]) (fun F (st:Unit) (hid:Unit)=>match st,hid with | _,_=>[]) (fun st=>Out.go (st)=o_1) trivial trivial ?_ ?_
  ·refine Aj ?_
   refine Ai [(2,_),(3,_)] [] (fun (st:Int) (hid:Unit)=>match st,hid with | i1,_=>[(5,.i64 i1)]) (fun F (st:Int) (hid:Unit)=>match st,hid with | i1,_=>[]) () hj1 (fun _=>rfl) ⟨rfl,rfl,trivial⟩ trivial ⟨rfl,trivial⟩ rfl ?_;rintro n i1 _ hj1;rw [Ci] at hj1;refine Ar (L':=[(5,.i64 i1),(2,_),(3,_)]) (ms':=[]) rfl rfl ?_;refine zq9 ?_;refine zcn hj1 (fun hc2 hj1=>?_) (fun hc2 hj1=>?_)
   ·refine zq4 ?_
    obtain ⟨x1,hx1,hj1⟩:=bS hj1;obtain ⟨x2,hx2,hj1⟩:=bS hj1;refine F7 [] [12,13] [5,6,7,8,9] [10,11] [] AA (by decide +kernel) (by decide +kernel) rfl ?_;refine Bb rfl rfl rfl rfl rfl rfl (oFa DI rfl rfl rfl) ?_;refine Bb rfl rfl rfl rfl rfl rfl (Bg isAgg22 rfl rfl) ?_;refine Bb rfl rfl rfl rfl rfl rfl (oMv rfl) ?_;refine Bb rfl rfl rfl rfl rfl rfl (oIm runUnderlying22 sizeOf44 rfl rfl hx1) ?_;refine Bb rfl rfl rfl rfl rfl rfl (Bu isAgg44 sizeOf44 rfl rfl) ?_;refine Bb rfl rfl rfl rfl rfl rfl (oFa DI rfl rfl rfl) ?_;refine Bb rfl rfl rfl rfl rfl rfl (Bg isAgg22 rfl rfl) ?_;refine Bb rfl rfl rfl rfl rfl rfl (oMv rfl) ?_;refine Bb rfl rfl rfl rfl rfl rfl (oIm runUnderlying22 sizeOf44 rfl rfl hx2) ?_;refine Bb rfl rfl rfl rfl rfl rfl (Bu isAgg44 sizeOf44 rfl rfl) ?_;refine D4 (R0:=fun d A=>∃ b,d = .v (.pointer (some ⟨b,0,none⟩))/\A=box b 44 [.i64 0,.i64 0,.i64 0,.list 2 AFd.d []]) rfl rfl rfl rfl (OpT.mono (Ay zeroValue44 (cs:=[.i64 0,.i64 0,.i64 0,.list 2 AFd.d []]) rfl) (by rintro d ms' ⟨b,rfl,rfl⟩;exact ⟨_,⟨b,rfl,rfl⟩,rfl⟩)) ?_;refine D4 (R0:=fun d A=>∃ b,d = .v (.pointer (some ⟨b,0,none⟩))/\A=box b 44 [.i64 0,.i64 0,.i64 0,.list 2 AFd.d []]) rfl rfl rfl rfl (OpT.mono (Ay zeroValue44 (cs:=[.i64 0,.i64 0,.i64 0,.list 2 AFd.d []]) rfl) (by rintro d ms' ⟨b,rfl,rfl⟩;exact ⟨_,⟨b,rfl,rfl⟩,rfl⟩)) ?_;refine Er rfl ?_;refine Er rfl ?_;refine Hy ?_;refine I0 [(10,6),(11,7)] rfl ?_;rintro _ _ ⟨b1,rfl,rfl⟩;rintro _ _ ⟨b2,rfl,rfl⟩
    show _/\_
    refine ⟨(trivial:True),?_⟩;refine Cv rfl rfl rfl (oSb 0 sizeOf44 rfl rfl rfl rfl rfl rfl rfl rfl (nB rfl)) ?_;rintro _ _ rfl;refine ⟨(trivial:True),?_⟩;refine Cv rfl rfl rfl (oSb 1 sizeOf44 rfl rfl rfl rfl rfl rfl rfl rfl (nB rfl)) ?_;rintro _ _ rfl;refine ⟨(trivial:True),?_⟩;refine BL ?_;refine zq9 ?_
    apply Bt [(2,_),(3,_),(5,_),(6,_),(7,_)] 6 51 (t:=45) ⟨rfl,rfl,rfl,rfl,rfl,trivial⟩ rfl
    ·intro hg_2 hk2
     refine zq6 ?_;exact zgm hk2
    ·intro hg_2 hk2
     refine zq6 ?_;exact zgm hk2
    refine zq1 ?_
    apply Bt [(2,_),(3,_),(5,_),(6,_),(7,_)] 6 58 (t:=52) ⟨rfl,rfl,rfl,rfl,rfl,trivial⟩ rfl
    ·intro hg_3 hk3
     refine zq6 ?_;exact zgm hk3
    ·intro hg_3 hk3
     refine zq6 ?_;exact zgm hk3
    refine zq1 ?_
    apply Bt [(2,_),(3,_),(5,_),(6,_),(7,_)] 8 67 (t:=59) ⟨rfl,rfl,rfl,rfl,rfl,trivial⟩ rfl
    ·intro hg_4 hk4
     refine zq8 ?_;exact zgm hk4
    ·intro hg_4 hk4
     refine zq8 ?_;exact zgm hk4
    refine gNl ?_;refine zcn hj1 (fun hc3 hj1=>?_) (fun hc3 hj1=>?_)
    ·refine zq4 ?_
     refine Ae ?_;obtain rfl:=Ac hj1
     replace hm1:=BJ hm1
     cases hm1;exact zr1
    ·refine zq5 ?_
     obtain ⟨o_2,hj2,hm2⟩:=bS hj1;refine Ak [(2,_),(3,_),(5,_)] [(0,_),(1,_)] (fun (st:Unit) (hid:Unit)=>match st,hid with | _,_=>[]) (fun F (st:Unit) (hid:Unit)=>match st,hid with | _,_=>[(nthF F 0),(nthF F 1)]) (fun st=>Out.go (st)=o_2) ⟨rfl,rfl,rfl,trivial⟩ ⟨rfl,rfl,trivial⟩ ?_ ?_
     ·refine Aj ?_
      refine Ai [(2,_),(3,_),(5,_),(6,_),(7,_)] [(0,_),(1,_)] (fun (st:Int) (hid:Unit)=>match st,hid with | k1,_=>[(8,.i64 k1)]) (fun F (st:Int) (hid:Unit)=>match st,hid with | k1,_=>[(nthF F 0),(nthF F 1)]) () hj2 (fun _=>rfl) ⟨rfl,rfl,rfl,rfl,rfl,trivial⟩ ⟨rfl,rfl,trivial⟩ ⟨rfl,trivial⟩ rfl ?_;rintro n k1 _ hj2;rw [BS] at hj2;refine Ar (L':=[(8,.i64 k1),(2,_),(3,_),(5,_),(6,_),(7,_)]) (ms':=[_,_]) rfl rfl ?_;refine zq9 ?_;refine zcn hj2 (fun hc4 hj2=>?_) (fun hc4 hj2=>?_)
      ·refine zq4 ?_
       obtain ⟨x3,hx3,hj2⟩:=bS hj2;obtain ⟨x4,hx4,hj2⟩:=bS hj2;refine zdr 11 ?_;refine zq10 ?_;refine Aw rfl rfl rfl (RB (ks:=[.str,.int]) underlying98 (by kernel_rfl) (by kernel_rfl) (TT _ underlying98) rfl rfl rfl) ?_;refine zq2 ?_;refine zcn hj2 (fun hc5 hj2=>?_) (fun hc5 hj2=>?_)
       ·refine zq4 ?_
        refine Ae ?_;obtain rfl:=Ac hj2
        replace hm2:=BJ hm2
        obtain rfl:=Ac hm2
        replace hm1:=BJ hm1
        cases hm1;exact zr1
       ·refine zq3 ?_
        obtain ⟨hg5,hj2⟩:=Aa hj2;refine zq3 ?_;exact ⟨_,(),hj2,⟨rfl,trivial⟩,⟨rfl,rfl,rfl,rfl,rfl,trivial⟩,[],rfl⟩
      ·refine Ao ?_
       exact ⟨_,(),Ac hj2,trivial,⟨rfl,rfl,rfl,trivial⟩,[],rfl⟩
     ·rintro _ _ hst
      subst hst
      replace hm2:=Dh hm2
      refine An (L':=[(2,_),(3,_),(5,_)]) (ms':=[_,_]) rfl rfl ?_;refine zq2 ?_;obtain ⟨hg6,hm2⟩:=Aa hm2;refine zq3 ?_;exact ⟨_,(),hm2,⟨rfl,trivial⟩,⟨rfl,rfl,trivial⟩,[_,_],rfl⟩
   ·refine Ao ?_
    exact ⟨_,(),Ac hj1,trivial,trivial,[],rfl⟩
  ·rintro _ _ hst
   subst hst
   replace hm1:=Dh hm1
   refine An (L':=[]) (ms':=[]) rfl rfl ?_;refine zq4 ?_
   cases hm1;exact Ae zr1
noncomputable def C9 (l1:(List Int)) (n1:Int):Nat->Int->Option (Out Bool Unit)
 | 0,_=>none
 | n+1,i1 =>
  bif (decide (i1<(l1.length:Int))) then
   (idx l1 i1).bind fun x1 =>
   bif (decide (x1=n1)) then
    some (Out.ret true)
   else
    grd (InR (i1+1)) <|
    C9 l1 n1 n (i1+1)
  else
   some (Out.go (()))
noncomputable def Fi (l1:(List Int)) (n1:Int):Option Bool:=
 ((C9 l1 n1 FU 0:Option (Out Bool Unit))).bind (fun oo=>oo.on (fun r1=>some r1) (fun _ =>
 some false))
theorem OD {l1:(List Int)} {n1:Int} {r_1:Bool} (hm:Fi l1 n1=some r_1):Fn0 Tryz.prog 141 [.list 1 D.i64 l1,.i64 n1] (.bool r_1):=by
 unfold Fi at hm;refine Ad func141 rfl ntmps141 rfl fun H0 fr w0=>?_;refine zq9 ?_;obtain ⟨o_1,hj1,hm1⟩:=bS hm;refine Ak [] [] (fun (st:Unit) (hid:Unit)=>match st,hid with | _,_=>[]) (fun F (st:Unit) (hid:Unit)=>match st,hid with | _,_=>[]) (fun st=>Out.go (st)=o_1) trivial trivial ?_ ?_
 ·refine Aj ?_
  refine Ai [(0,_),(1,_)] [] (fun (st:Int) (hid:Unit)=>match st,hid with | i1,_=>[(5,.i64 i1)]) (fun F (st:Int) (hid:Unit)=>match st,hid with | i1,_=>[]) () hj1 (fun _=>rfl) ⟨rfl,rfl,trivial⟩ trivial ⟨rfl,trivial⟩ rfl ?_;rintro n i1 _ hj1;rw [C9] at hj1;refine Ar (L':=[(5,.i64 i1),(0,_),(1,_)]) (ms':=[]) rfl rfl ?_;refine zq8 ?_;refine zcn hj1 (fun hc1 hj1=>?_) (fun hc1 hj1=>?_)
  ·refine zq7 ?_
   obtain ⟨x1,hx1,hj1⟩:=bS hj1;refine zq5 ?_;refine zcn hj1 (fun hc2 hj1=>?_) (fun hc2 hj1=>?_)
   ·refine zq4 ?_
    refine Ae ?_;obtain rfl:=Ac hj1
    replace hm1:=BJ hm1
    cases hm1;exact zr1
   ·refine zq3 ?_
    obtain ⟨hg2,hj1⟩:=Aa hj1;refine zq3 ?_;exact ⟨_,(),hj1,⟨rfl,trivial⟩,⟨rfl,rfl,trivial⟩,[],rfl⟩
  ·refine Ao ?_
   exact ⟨_,(),Ac hj1,trivial,trivial,[],rfl⟩
 ·rintro _ _ hst
  subst hst
  replace hm1:=Dh hm1
  refine An (L':=[]) (ms':=[]) rfl rfl ?_;refine zq4 ?_
  cases hm1;exact Ae zr1
noncomputable def DD (x4:(List Int)):Nat->(Int×(List Int))->Option (List Int)
 | 0,_=>none
 | n+1,(j1,l7) =>
  bif (decide (0<=j1)) then
   (idx x4 j1).bind fun x5 =>
   grd ((l7.length+([x5]:List _).length)*8<=140737488355328) <|
   grd (InR (j1 - 1)) <|
   DD x4 n ((j1 - 1),(l7++[x5]))
  else
   some l7
noncomputable def Cb (t1:ATy):Nat->((List Int)×(List Int))->Option ((List Int)×(List Int))
 | 0,_=>none
 | n+1,(l3,l4) =>
  bif (decide (0<(l3.length:Int))) then
   grd (InR ((l3.length:Int) - 1)) <|
   (idx l3 ((l3.length:Int) - 1)).bind fun x1 =>
   grd (InR ((l3.length:Int) - 1)) <|
   (sli l3 0 ((l3.length:Int) - 1)).bind fun l5 =>
   (Fi l4 x1).bind fun x2 =>
   bif x2 then
    Cb t1 n (l5,l4)
   else
    grd ((l4.length+([x1]:List _).length)*8<=140737488355328) <|
    (idx t1.l x1).bind fun x3 =>
    (Fd x3).bind fun x4 =>
    grd (InR ((x4.length:Int) - 1)) <|
    (DD x4 FU (((x4.length:Int) - 1),l5):Option (List Int)).bind fun l6 =>
    Cb t1 n (l6,(l4++[x1]))
  else
   some (l3,l4)
noncomputable def Gh (t1:ATy) (root1:Int):Option (List Int):=
 (Cb t1 FU ([root1],[]):Option ((List Int)×(List Int))).bind fun (l1,l2) =>
 some l2
theorem PJ {t1:ATy} {root1:Int} {r_1:(List Int)} (hm:Gh t1 root1=some r_1):Fn0 Tryz.prog 112 [ATy.d t1,.i64 root1] (.list 1 D.i64 r_1):=by
 unfold Gh at hm;refine Ad func112 rfl ntmps112 rfl fun H0 fr w0=>?_;refine zq4 ?_;refine Al (nilE (i:=4) (sz:=1) (f:=D.i64) rfl).refines ?_;refine zq3 ?_;refine Av rfl rfl rfl (Aq (xs:=[]) (f:=D.i64) (l:=[]) runUnderlying25 sizeOf3 zeroValue3 rfl rfl rfl (fun _=>⟨rfl,rfl,rfl⟩) rfl (by simp [maxLen])) ?_;rintro _ _ ⟨a_r1,rfl,rfl⟩;refine zq1 ?_;refine Av rfl rfl rfl (E8 (xs:=[_]) (f:=D.i64) (l:=[_]) runUnderlying25 sizeOf3 zeroValue3 rfl rfl rfl (fun _=>⟨rfl,rfl,rfl⟩) rfl (by simp [maxLen])) ?_;rintro _ _ ⟨a_r2,m_r2,cap_r2,rfl,rfl⟩;refine zq4 ?_;obtain ⟨o_1,hj1,hm1⟩:=bS hm;refine Ak [] [] (fun (st:((List Int)×(List Int))) (hid:(Option Addr×Nat×Nat)×(Option Addr×Nat))=>match st,hid with | (l1,l2),((a_r2,m_r2,cap_r2),(a_r1,cap_r1))=>[(5,.v (.slice a_r1 l2.length cap_r1))]) (fun F (st:((List Int)×(List Int))) (hid:(Option Addr×Nat×Nat)×(Option Addr×Nat))=>match st,hid with | (l1,l2),((a_r2,m_r2,cap_r2),(a_r1,cap_r1))=>[arr a_r2 m_r2 cap_r2 3 1 D.i64 l1,row a_r1 cap_r1 3 1 D.i64 l2]) (fun st=>st=o_1) trivial trivial ?_ ?_
 ·refine Aj ?_
  refine Ai [(2,_)] [] (fun (st:((List Int)×(List Int))) (hid:(Option Addr×Nat×Nat)×(Option Addr×Nat))=>match st,hid with | (l3,l4),((a_r2,m_r2,cap_r2),(a_r1,cap_r1))=>[(5,.v (.slice a_r1 l4.length cap_r1)),(6,.v (.slice a_r2 m_r2 cap_r2))]) (fun F (st:((List Int)×(List Int))) (hid:(Option Addr×Nat×Nat)×(Option Addr×Nat))=>match st,hid with | (l3,l4),((a_r2,m_r2,cap_r2),(a_r1,cap_r1))=>[arr a_r2 m_r2 cap_r2 3 1 D.i64 l3,row a_r1 cap_r1 3 1 D.i64 l4]) ((_,_,_),(_,_)) hj1 (fun _=>rfl) ⟨rfl,trivial⟩ trivial ⟨rfl,rfl,trivial⟩ rfl ?_;rintro n ⟨l3,l4⟩ ⟨⟨a_r2,m_r2,cap_r2⟩,⟨a_r1,cap_r1⟩⟩ hj1;rw [Cb] at hj1;refine Ar (L':=[(5,.v (.slice a_r1 l4.length cap_r1)),(6,.v (.slice a_r2 m_r2 cap_r2)),(2,_)]) (ms':=[arr a_r2 m_r2 cap_r2 3 1 D.i64 l3,row a_r1 cap_r1 3 1 D.i64 l4]) rfl rfl ?_;refine zq4 ?_;refine Af rfl rfl rfl (BP 0 runUnderlying25 rfl rfl) ?_;refine zq2 ?_;refine zcn hj1 (fun hc1 hj1=>?_) (fun hc1 hj1=>?_)
  ·refine zq6 ?_
   refine Af rfl rfl rfl (BP 0 runUnderlying25 rfl rfl) ?_;obtain ⟨hg1,hj1⟩:=Aa hj1;refine zq1 ?_;obtain ⟨x1,hx2,hj1⟩:=bS hj1;refine Af rfl rfl rfl (Ap 0 runUnderlying25 sizeOf3 rfl rfl rfl hx2) ?_;refine Af rfl rfl rfl (AV (off:=0) 0 isAgg3 rfl rfl (Am hx2).2 rfl rfl rfl) ?_;refine zq6 ?_;refine Af rfl rfl rfl (BP 0 runUnderlying25 rfl rfl) ?_;obtain ⟨hg3,hj1⟩:=Aa hj1;refine zq1 ?_;obtain ⟨l5,hx4,hj1⟩:=bS hj1;refine Av rfl rfl rfl (GA 0 runUnderlying25 sizeOf3 rfl rfl rfl hx4) ?_;rintro _ _ ⟨a_r2,m_r2,cap_r2,rfl,rfl⟩;refine zq7 ?_;obtain ⟨x2,hx5,hj1⟩:=bS hj1;refine Af rfl rfl rfl (.view (peekE (i:=27) 1 rfl rfl rfl) (AY call141 rfl (OD hx5))) ?_;refine gNl ?_;refine zcn hj1 (fun hc2 hj1=>?_) (fun hc2 hj1=>?_)
   ·refine Ao ?_
    exact ⟨_,((_,_,_),(_,_)),hj1,⟨rfl,rfl,trivial⟩,⟨rfl,trivial⟩,[],rfl⟩
   ·refine zq5 ?_
    refine Af rfl rfl rfl (zs1 D.i64) ?_;obtain ⟨hg6,hj1⟩:=Aa hj1;refine zap 1 hg6 fun a_r1 cap_r1=>?_;refine Ag (ms':=[_,_]) rfl ?_;refine zq7 ?_;obtain ⟨x3,hx7,hj1⟩:=bS hj1;refine zq2 ?_;obtain ⟨x4,hx8,hj1⟩:=bS hj1;refine zc0 (J6 hx8) ?_;refine zq6 ?_;obtain ⟨hg9,hj1⟩:=Aa hj1;refine zq3 ?_;obtain ⟨o_2,hj2,hm2⟩:=bS hj1;refine Ak [(2,_),(5,_)] [(1,_)] (fun (st:(List Int)) (hid:(Option Addr×Nat×Nat))=>match st,hid with | l6,(a_r2,m_r2,cap_r2)=>[(6,.v (.slice a_r2 m_r2 cap_r2))]) (fun F (st:(List Int)) (hid:(Option Addr×Nat×Nat))=>match st,hid with | l6,(a_r2,m_r2,cap_r2)=>[arr a_r2 m_r2 cap_r2 3 1 D.i64 l6,(nthF F 0)]) (fun st=>st=o_2) ⟨rfl,rfl,trivial⟩ ⟨rfl,trivial⟩ ?_ ?_
    ·refine Aj ?_
     refine Ai [(2,_),(5,_),(8,_)] [(1,_)] (fun (st:(Int×(List Int))) (hid:(Option Addr×Nat×Nat))=>match st,hid with | (j1,l7),(a_r2,m_r2,cap_r2)=>[(6,.v (.slice a_r2 m_r2 cap_r2)),(9,.i64 j1)]) (fun F (st:(Int×(List Int))) (hid:(Option Addr×Nat×Nat))=>match st,hid with | (j1,l7),(a_r2,m_r2,cap_r2)=>[arr a_r2 m_r2 cap_r2 3 1 D.i64 l7,(nthF F 0)]) (_,_,_) hj2 (fun _=>rfl) ⟨rfl,rfl,rfl,trivial⟩ ⟨rfl,trivial⟩ ⟨rfl,rfl,trivial⟩ rfl ?_;rintro n ⟨j1,l7⟩ ⟨a_r2,m_r2,cap_r2⟩ hj2;rw [DD] at hj2;refine Ar (L':=[(6,.v (.slice a_r2 m_r2 cap_r2)),(9,.i64 j1),(2,_),(5,_),(8,_)]) (ms':=[arr a_r2 m_r2 cap_r2 3 1 D.i64 l7,_]) rfl rfl ?_;refine zq6 ?_;refine zcn hj2 (fun hc3 hj2=>?_) (fun hc3 hj2=>?_)
     ·refine zq7 ?_
      obtain ⟨x5,hx10,hj2⟩:=bS hj2;refine zq2 ?_;refine Af rfl rfl rfl (zs1 D.i64) ?_;obtain ⟨hg11,hj2⟩:=Aa hj2;refine Av rfl rfl rfl (Ca (a:=_) 0 underlying25 type3 rfl rfl rfl rfl rfl rfl (fun _=>rfl) (fun _=>rfl) hg11 (A2 hg11 rfl)) ?_;rintro _ _ ⟨a_r2,m_r2,cap_r2,rfl,rfl⟩;refine Ag (ms':=[_,_]) rfl ?_;refine zq4 ?_;obtain ⟨hg12,hj2⟩:=Aa hj2;refine zq3 ?_;exact ⟨_,(_,_,_),hj2,⟨rfl,rfl,trivial⟩,⟨rfl,rfl,rfl,trivial⟩,[],rfl⟩
     ·refine Ao ?_
      exact ⟨_,(_,_,_),Ac hj2,⟨rfl,trivial⟩,⟨rfl,rfl,trivial⟩,[],rfl⟩
    ·rintro l6 ⟨a_r2,m_r2,cap_r2⟩ hst
     subst hst;refine An (L':=[(6,.v (.slice a_r2 m_r2 cap_r2)),(2,_),(5,_)]) (ms':=[arr a_r2 m_r2 cap_r2 3 1 D.i64 l6,_]) rfl rfl ?_;exact ⟨_,((_,_,_),(_,_)),hm2,⟨rfl,rfl,trivial⟩,⟨rfl,trivial⟩,[],rfl⟩
  ·refine Ao ?_
   exact ⟨_,((_,_,_),(_,_)),Ac hj1,⟨rfl,trivial⟩,trivial,[],rfl⟩
 ·rintro ⟨l1,l2⟩ ⟨⟨a_r2,m_r2,cap_r2⟩,⟨a_r1,cap_r1⟩⟩ hst
  subst hst;refine An (L':=[(5,.v (.slice a_r1 l2.length cap_r1))]) (ms':=[arr a_r2 m_r2 cap_r2 3 1 D.i64 l1,row a_r1 cap_r1 3 1 D.i64 l2]) rfl rfl ?_;refine zq5 ?_;refine BA (peekE (i:=4) 1 rfl rfl rfl).refines ?_
  cases hm1;exact Ae zr1
noncomputable def Dl (n1:ANd) (kids1:(List Int)):Nat->(Int×(List AFd)×Int×Int×Int)->Option ((List AFd)×Int×Int×Int)
 | 0,_=>none
 | n+1,(i1,l4,z10,z11,z12) =>
  bif (decide (i1<(n1.l.length:Int))) then
   (idx n1.l i1).bind fun x3 =>
   (idx kids1 i1).bind fun x4 =>
   grd ((l4.length+([(⟨x3.name,x4⟩:AFd)]:List _).length)*24<=140737488355328) <|
   grd (InR (i1+1)) <|
   Dl n1 kids1 n ((i1+1),(l4++[(⟨x3.name,x4⟩:AFd)]),z10,z11,z12)
  else
   some (l4,z10,z11,z12)
noncomputable def GL (n1:ANd) (kids1:(List Int)):Option ANd:=
 (bif (decide (n1.kind=11)) then
  some (([]:List AFd),n1.kind,n1.a,0)
 else
  some (([]:List AFd),n1.kind,0,0):Option ((List AFd)×Int×Int×Int)).bind fun (l1,z1,z2,z3) =>
 (bif (((decide (n1.kind=6))||(decide (n1.kind=9)))||(decide (n1.kind=10))) then
  (idx kids1 0).bind fun x1 =>
  (idx kids1 1).bind fun x2 =>
  some (l1,z1,x1,x2)
 else
  some (l1,z1,z2,z3):Option ((List AFd)×Int×Int×Int)).bind fun (l2,z4,z5,z6) =>
 (Dl n1 kids1 FU (0,l2,z4,z5,z6):Option ((List AFd)×Int×Int×Int)).bind fun (l3,z7,z8,z9) =>
 some (⟨z7,z8,z9,l3⟩:ANd)
theorem QR {n1:ANd} {kids1:(List Int)} {r_1:ANd} (hm:GL n1 kids1=some r_1):Fn0 Tryz.prog 113 [ANd.d n1,.list 1 D.i64 kids1] (ANd.d r_1):=by
 unfold GL at hm;refine Ad func113 rfl ntmps113 rfl fun H0 fr w0=>?_;refine zq3 ?_;refine Dq fun b1=>?_;refine zq5 ?_;refine Af rfl rfl rfl zb44b ?_;refine Dq fun b2=>?_;refine zst 0 ?_;refine Al (AB (T:=98) (sz:=2) (f:=AFd.d)) ?_;refine Ag (ms':=[_,box b2 44 [_,_,_,_],box b1 44 [_,_,_,_]]) rfl ?_;refine zq8 ?_;obtain ⟨o_1,hj1,hm1⟩:=bS hm;refine Ak [(1,_),(2,_),(4,_),(5,_)] [(2,_)] (fun (st:((List AFd)×Int×Int×Int)) (hid:(Option Addr×Nat))=>match st,hid with | (l1,z1,z2,z3),(a_r1,cap_r1)=>[]) (fun F (st:((List AFd)×Int×Int×Int)) (hid:(Option Addr×Nat))=>match st,hid with | (l1,z1,z2,z3),(a_r1,cap_r1)=>[row a_r1 cap_r1 98 2 AFd.d l1,box b2 44 [.i64 z1,.i64 z2,.i64 z3,.v (.slice a_r1 l1.length cap_r1)],(nthF F 0)]) (fun st=>st=o_1) ⟨rfl,rfl,rfl,rfl,trivial⟩ ⟨rfl,trivial⟩ ?_ ?_
 ·refine zcn hj1 (fun hc1 hj1=>?_) (fun hc1 hj1=>?_)
  ·refine zq4 ?_
   refine zst 1 ?_;refine Ag (ms':=[_,box b2 44 [_,_,_,_],box b1 44 [_,_,_,_]]) rfl ?_;refine gNl ?_;exact ⟨_,(_,_),Ac hj1,trivial,⟨rfl,rfl,rfl,rfl,trivial⟩,[],rfl⟩
  ·refine gSp ?_
   exact ⟨_,(_,_),Ac hj1,trivial,⟨rfl,rfl,rfl,rfl,trivial⟩,[],rfl⟩
 ·rintro ⟨l1,z1,z2,z3⟩ ⟨a_r1,cap_r1⟩ hst
  subst hst;refine An (L':=[(1,_),(2,_),(4,_),(5,_)]) (ms':=[row a_r1 cap_r1 98 2 AFd.d l1,box b2 44 [.i64 z1,.i64 z2,.i64 z3,.v (.slice a_r1 l1.length cap_r1)],_]) rfl rfl ?_;refine zq7 ?_
  apply Bt [(1,_),(2,_),(4,_),(5,_)] 4 23 (t:=19) ⟨rfl,rfl,rfl,rfl,trivial⟩ rfl
  ·intro hg_1 hk1
   refine zq4 ?_;exact zgm hk1
  ·intro hg_1 hk1
   refine zq4 ?_;exact zgm hk1
  refine zq1 ?_
  apply Bt [(1,_),(2,_),(4,_),(5,_)] 4 28 (t:=24) ⟨rfl,rfl,rfl,rfl,trivial⟩ rfl
  ·intro hg_2 hk2
   refine zq4 ?_;exact zgm hk2
  ·intro hg_2 hk2
   refine zq4 ?_;exact zgm hk2
  refine gNl ?_;obtain ⟨o_2,hj2,hm2⟩:=bS hm1;refine Ak [(1,_),(2,_),(4,_),(5,_)] [(2,_)] (fun (st:((List AFd)×Int×Int×Int)) (hid:(Option Addr×Nat))=>match st,hid with | (l2,z4,z5,z6),(a_r1,cap_r1)=>[]) (fun F (st:((List AFd)×Int×Int×Int)) (hid:(Option Addr×Nat))=>match st,hid with | (l2,z4,z5,z6),(a_r1,cap_r1)=>[row a_r1 cap_r1 98 2 AFd.d l2,box b2 44 [.i64 z4,.i64 z5,.i64 z6,.v (.slice a_r1 l2.length cap_r1)],(nthF F 0)]) (fun st=>st=o_2) ⟨rfl,rfl,rfl,rfl,trivial⟩ ⟨rfl,trivial⟩ ?_ ?_
  ·refine zcn hj2 (fun hc2 hj2=>?_) (fun hc2 hj2=>?_)
   ·obtain ⟨x1,hx1,hj2⟩:=bS hj2
    obtain ⟨x2,hx2,hj2⟩:=bS hj2;refine DS [7,9] [3,4,5,8] [] AA (by decide +kernel) (by decide +kernel) rfl ?_;refine Au rfl rfl rfl rfl rfl rfl (oMv rfl) ?_;refine Au rfl rfl rfl rfl rfl rfl (oIm runUnderlying25 sizeOf3 rfl rfl hx1) ?_;refine Au rfl rfl rfl rfl rfl rfl (Bg isAgg3 rfl rfl) ?_;refine Au rfl rfl rfl rfl rfl rfl (oMv rfl) ?_;refine Au rfl rfl rfl rfl rfl rfl (oIm runUnderlying25 sizeOf3 rfl rfl hx2) ?_;refine Au rfl rfl rfl rfl rfl rfl (Bg isAgg3 rfl rfl) ?_;refine Au rfl rfl rfl rfl rfl rfl (oFb KL rfl) ?_;refine DU rfl ?_;refine Au rfl rfl rfl rfl rfl rfl (oFb IF rfl) ?_;refine DU rfl ?_;refine EQ ?_;refine Cv rfl rfl rfl (oSb 1 sizeOf3 rfl rfl rfl rfl rfl rfl rfl rfl (nB rfl)) ?_;rintro _ _ rfl;refine ⟨(trivial:True),?_⟩;refine Cv rfl rfl rfl (oSb 1 sizeOf3 rfl rfl rfl rfl rfl rfl rfl rfl (nB rfl)) ?_;rintro _ _ rfl;refine ⟨(trivial:True),?_⟩;refine BL ?_;exact ⟨_,(_,_),Ac hj2,trivial,⟨rfl,rfl,rfl,rfl,trivial⟩,[],rfl⟩
   ·refine gSp ?_
    exact ⟨_,(_,_),Ac hj2,trivial,⟨rfl,rfl,rfl,rfl,trivial⟩,[],rfl⟩
  ·rintro ⟨l2,z4,z5,z6⟩ ⟨a_r1,cap_r1⟩ hst
   subst hst;refine An (L':=[(1,_),(2,_),(4,_),(5,_)]) (ms':=[row a_r1 cap_r1 98 2 AFd.d l2,box b2 44 [.i64 z4,.i64 z5,.i64 z6,.v (.slice a_r1 l2.length cap_r1)],_]) rfl rfl ?_;refine zq5 ?_;obtain ⟨o_3,hj3,hm3⟩:=bS hm2;refine Ak [(4,_),(5,_)] [(2,_)] (fun (st:((List AFd)×Int×Int×Int)) (hid:(Option Addr×Nat))=>match st,hid with | (l3,z7,z8,z9),(a_r1,cap_r1)=>[]) (fun F (st:((List AFd)×Int×Int×Int)) (hid:(Option Addr×Nat))=>match st,hid with | (l3,z7,z8,z9),(a_r1,cap_r1)=>[row a_r1 cap_r1 98 2 AFd.d l3,box b2 44 [.i64 z7,.i64 z8,.i64 z9,.v (.slice a_r1 l3.length cap_r1)],(nthF F 0)]) (fun st=>st=o_3) ⟨rfl,rfl,trivial⟩ ⟨rfl,trivial⟩ ?_ ?_
   ·refine Aj ?_
    refine Ai [(1,_),(2,_),(4,_),(5,_)] [(2,_)] (fun (st:(Int×(List AFd)×Int×Int×Int)) (hid:(Option Addr×Nat))=>match st,hid with | (i1,l4,z10,z11,z12),(a_r1,cap_r1)=>[(6,.i64 i1)]) (fun F (st:(Int×(List AFd)×Int×Int×Int)) (hid:(Option Addr×Nat))=>match st,hid with | (i1,l4,z10,z11,z12),(a_r1,cap_r1)=>[row a_r1 cap_r1 98 2 AFd.d l4,box b2 44 [.i64 z10,.i64 z11,.i64 z12,.v (.slice a_r1 l4.length cap_r1)],(nthF F 0)]) (_,_) hj3 (fun _=>rfl) ⟨rfl,rfl,rfl,rfl,trivial⟩ ⟨rfl,trivial⟩ ⟨rfl,trivial⟩ rfl ?_;rintro n ⟨i1,l4,z10,z11,z12⟩ ⟨a_r1,cap_r1⟩ hj3;rw [Dl] at hj3;refine Ar (L':=[(6,.i64 i1),(1,_),(2,_),(4,_),(5,_)]) (ms':=[row a_r1 cap_r1 98 2 AFd.d l4,box b2 44 [.i64 z10,.i64 z11,.i64 z12,.v (.slice a_r1 l4.length cap_r1)],_]) rfl rfl ?_;refine zq9 ?_;refine zcn hj3 (fun hc3 hj3=>?_) (fun hc3 hj3=>?_)
    ·refine zq3 ?_
     obtain ⟨x3,hx3,hj3⟩:=bS hj3;obtain ⟨x4,hx4,hj3⟩:=bS hj3;refine zdr 14 ?_;refine zq12 ?_;refine Aw rfl rfl rfl zb98a ?_;refine Aw rfl rfl rfl (Ax (xs:=[_]) (f:=AFd.d) (l:=[(⟨x3.name,x4⟩:AFd)]) runUnderlying42 sizeOf98 zeroValue98 rfl rfl rfl (fun _=>⟨rfl,rfl,rfl⟩) rfl) ?_;refine Cu ?_;obtain ⟨hg5,hj3⟩:=Aa hj3;refine zap 0 hg5 fun a_r1 cap_r1=>?_;refine Ag (ms':=[_,box b2 44 [_,_,_,_],box b1 44 [_,_,_,_]]) rfl ?_;refine zq1 ?_;refine zst 1 ?_;refine Ag (ms':=[_,box b2 44 [_,_,_,_],box b1 44 [_,_,_,_]]) rfl ?_;refine zq3 ?_;obtain ⟨hg6,hj3⟩:=Aa hj3;refine zq3 ?_;exact ⟨_,(_,_),hj3,⟨rfl,trivial⟩,⟨rfl,rfl,rfl,rfl,trivial⟩,[],rfl⟩
    ·refine Ao ?_
     exact ⟨_,(_,_),Ac hj3,trivial,⟨rfl,rfl,trivial⟩,[],rfl⟩
   ·rintro ⟨l3,z7,z8,z9⟩ ⟨a_r1,cap_r1⟩ hst
    subst hst;refine An (L':=[(4,_),(5,_)]) (ms':=[row a_r1 cap_r1 98 2 AFd.d l3,box b2 44 [.i64 z7,.i64 z8,.i64 z9,.v (.slice a_r1 l3.length cap_r1)],_]) rfl rfl ?_;refine zq3 ?_;refine Al (Cl (i:=60) (q:=3) 0 rfl rfl rfl rfl rfl).refines ?_;refine zst 2 ?_;refine Ag (ms':=[_,box b2 44 [_,_,_,_],box b1 44 [_,_,_,_]]) rfl ?_;refine gNl ?_
    cases hm3;exact Ae zr1
noncomputable def Dr (x1:(List Int)):Nat->(Int×(List Int))->Option (List Int)
 | 0,_=>none
 | n+1,(i1,l2) =>
  bif (decide (i1<(x1.length:Int))) then
   (idx x1 i1).bind fun x2 =>
   (idx l2 x2).bind fun x3 =>
   grd (InR (i1+1)) <|
   Dr x1 n ((i1+1),(l2.set (x2).toNat i1))
  else
   some l2
noncomputable def Di (l1:(List Int)) (x6:(List Int)):Nat->(Int×(List Int))->Option (List Int)
 | 0,_=>none
 | n+1,(j1,l6) =>
  bif (decide (j1<(x6.length:Int))) then
   (idx x6 j1).bind fun x7 =>
   (idx l1 x7).bind fun x8 =>
   grd ((l6.length+([x8]:List _).length)*8<=140737488355328) <|
   grd (InR (j1+1)) <|
   Di l1 x6 n ((j1+1),(l6++[x8]))
  else
   some l6
noncomputable def D1 (t1:ATy) (x1:(List Int)) (l1:(List Int)):Nat->(Int×(List ANd)×Int)->Option ((List ANd)×Int)
 | 0,_=>none
 | n+1,(i2,l4,z2) =>
  bif (decide (i2<(x1.length:Int))) then
   (idx x1 i2).bind fun x4 =>
   (idx t1.l x4).bind fun x5 =>
   (Fd x5).bind fun x6 =>
   (Di l1 x6 FU (0,[]):Option (List Int)).bind fun l5 =>
   (idx x1 i2).bind fun x9 =>
   (idx t1.l x9).bind fun x10 =>
   (GL x10 l5).bind fun x11 =>
   grd ((l4.length+([x11]:List _).length)*48<=140737488355328) <|
   grd (InR (i2+1)) <|
   D1 t1 x1 l1 n ((i2+1),(l4++[x11]),z2)
  else
   some (l4,z2)
noncomputable def GZ (t1:ATy) (root1:Int):Option ATy:=
 (Gh t1 root1).bind fun x1 =>
 grd (0<=(t1.l.length:Int)) <|
 grd (((t1.l.length:Int)).toNat*8<=140737488355328) <|
 (Dr x1 FU (0,(List.replicate ((t1.l.length:Int)).toNat (0:Int))):Option (List Int)).bind fun l1 =>
 (D1 t1 x1 l1 FU (0,([]:List ANd),0):Option ((List ANd)×Int)).bind fun (l3,z1) =>
 some (⟨l3,z1⟩:ATy)
theorem J2 {t1:ATy} {root1:Int} {r_1:ATy} (hm:GZ t1 root1=some r_1):Fn0 Tryz.prog 80 [ATy.d t1,.i64 root1] (ATy.d r_1):=by
 unfold GZ at hm;refine Ad func80 rfl ntmps80 rfl fun H0 fr w0=>?_;refine zq3 ?_;refine BI fun b1=>?_;refine zq5 ?_;obtain ⟨x1,hx1,hm⟩:=bS hm;refine zc0 (PJ hx1) ?_;refine zq7 ?_;obtain ⟨hg2,hm⟩:=Aa hm;obtain ⟨hg3,hm⟩:=Aa hm;refine Av rfl rfl rfl (Fh (f:=D.i64) (z0:=0) underlying25 type3 rfl rfl rfl (nB rfl) rfl rfl hg2 hg3 (nB rfl)) ?_;rintro _ _ ⟨a_r1,m_r1,cap_r1,rfl,rfl⟩;refine zq7 ?_;obtain ⟨o_1,hj1,hm1⟩:=bS hm;refine Ak [(2,_),(4,_),(5,_),(6,_)] [(1,_)] (fun (st:(List Int)) (hid:Unit)=>match st,hid with | l1,_=>[]) (fun F (st:(List Int)) (hid:Unit)=>match st,hid with | l1,_=>[arr a_r1 m_r1 cap_r1 3 1 D.i64 l1,(nthF F 0)]) (fun st=>st=o_1) ⟨rfl,rfl,rfl,rfl,trivial⟩ ⟨rfl,trivial⟩ ?_ ?_
 ·refine Aj ?_
  refine Ai [(2,_),(4,_),(5,_),(6,_)] [(1,_)] (fun (st:(Int×(List Int))) (hid:Unit)=>match st,hid with | (i1,l2),_=>[(7,.i64 i1)]) (fun F (st:(Int×(List Int))) (hid:Unit)=>match st,hid with | (i1,l2),_=>[arr a_r1 m_r1 cap_r1 3 1 D.i64 l2,(nthF F 0)]) () hj1 (fun _=>rfl) ⟨rfl,rfl,rfl,rfl,trivial⟩ ⟨rfl,trivial⟩ ⟨rfl,trivial⟩ rfl ?_;rintro n ⟨i1,l2⟩ ⟨⟩ hj1;rw [Dr] at hj1;refine Ar (L':=[(7,.i64 i1),(2,_),(4,_),(5,_),(6,_)]) (ms':=[arr a_r1 m_r1 cap_r1 3 1 D.i64 l2,_]) rfl rfl ?_;refine zq8 ?_;refine zcn hj1 (fun hc1 hj1=>?_) (fun hc1 hj1=>?_)
  ·refine zq7 ?_
   obtain ⟨x2,hx4,hj1⟩:=bS hj1;refine Af rfl rfl rfl (oIm runUnderlying25 sizeOf3 rfl rfl hx4) ?_;refine zq2 ?_;obtain ⟨x3,hx5,hj1⟩:=bS hj1;refine Af rfl rfl rfl (Ap 0 runUnderlying25 sizeOf3 rfl rfl rfl hx5) ?_;refine Gk rfl rfl (Bx (off:=0) (z':=i1) 0 sizeOf3 rfl rfl (Am hx5).2 rfl rfl rfl rfl rfl rfl (nB rfl) rfl rfl) ?_;rintro _ _ rfl;refine Ag (ms':=[_,box b1 24 [_,_]]) rfl ?_;refine zq3 ?_;obtain ⟨hg6,hj1⟩:=Aa hj1;refine zq3 ?_;exact ⟨_,(),hj1,⟨rfl,trivial⟩,⟨rfl,rfl,rfl,rfl,trivial⟩,[],rfl⟩
  ·refine Ao ?_
   exact ⟨_,(),Ac hj1,trivial,⟨rfl,rfl,rfl,rfl,trivial⟩,[],rfl⟩
 ·rintro l1 ⟨⟩ hst
  subst hst;refine An (L':=[(2,_),(4,_),(5,_),(6,_)]) (ms':=[arr a_r1 m_r1 cap_r1 3 1 D.i64 l1,_]) rfl rfl ?_;refine zq2 ?_;refine Af rfl rfl rfl zb24a ?_;refine BI fun b2=>?_;refine zst 0 ?_;refine Al (AB (T:=44) (sz:=4) (f:=ANd.d)) ?_;refine Ag (ms':=[_,box b2 24 [_,_],_,box b1 24 [_,_]]) rfl ?_;refine zq6 ?_;obtain ⟨o_2,hj2,hm2⟩:=bS hm1;refine Ak [(4,_),(8,_)] [(2,_),(3,_)] (fun (st:((List ANd)×Int)) (hid:(Option Addr×Nat))=>match st,hid with | (l3,z1),(a_r2,cap_r2)=>[]) (fun F (st:((List ANd)×Int)) (hid:(Option Addr×Nat))=>match st,hid with | (l3,z1),(a_r2,cap_r2)=>[row a_r2 cap_r2 44 4 ANd.d l3,box b2 24 [.v (.slice a_r2 l3.length cap_r2),.i64 z1],(nthF F 0),(nthF F 1)]) (fun st=>st=o_2) ⟨rfl,rfl,trivial⟩ ⟨rfl,rfl,trivial⟩ ?_ ?_
  ·refine Aj ?_
   refine Ai [(2,_),(4,_),(5,_),(6,_),(8,_)] [(2,_),(3,_)] (fun (st:(Int×(List ANd)×Int)) (hid:(Option Addr×Nat))=>match st,hid with | (i2,l4,z2),(a_r2,cap_r2)=>[(9,.i64 i2)]) (fun F (st:(Int×(List ANd)×Int)) (hid:(Option Addr×Nat))=>match st,hid with | (i2,l4,z2),(a_r2,cap_r2)=>[row a_r2 cap_r2 44 4 ANd.d l4,box b2 24 [.v (.slice a_r2 l4.length cap_r2),.i64 z2],(nthF F 0),(nthF F 1)]) (_,_) hj2 (fun _=>rfl) ⟨rfl,rfl,rfl,rfl,rfl,trivial⟩ ⟨rfl,rfl,trivial⟩ ⟨rfl,trivial⟩ rfl ?_;rintro n ⟨i2,l4,z2⟩ ⟨a_r2,cap_r2⟩ hj2;rw [D1] at hj2;refine Ar (L':=[(9,.i64 i2),(2,_),(4,_),(5,_),(6,_),(8,_)]) (ms':=[row a_r2 cap_r2 44 4 ANd.d l4,box b2 24 [.v (.slice a_r2 l4.length cap_r2),.i64 z2],_,_]) rfl rfl ?_;refine zq8 ?_;refine zcn hj2 (fun hc2 hj2=>?_) (fun hc2 hj2=>?_)
   ·refine zq4 ?_
    obtain ⟨x4,hx7,hj2⟩:=bS hj2;obtain ⟨x5,hx8,hj2⟩:=bS hj2;obtain ⟨x6,hx9,hj2⟩:=bS hj2;refine DS [9,11] [0,1,2,3,4,5,6,7,8,10] [] AA (by decide +kernel) (by decide +kernel) rfl ?_;refine Au rfl rfl rfl rfl rfl rfl (oFa DI rfl rfl rfl) ?_;refine Au rfl rfl rfl rfl rfl rfl (Bg isAgg22 rfl rfl) ?_;refine Au rfl rfl rfl rfl rfl rfl (oMv rfl) ?_;refine Au rfl rfl rfl rfl rfl rfl (oMv rfl) ?_;refine Au rfl rfl rfl rfl rfl rfl (oIm runUnderlying25 sizeOf3 rfl rfl hx7) ?_;refine Au rfl rfl rfl rfl rfl rfl (Bg isAgg3 rfl rfl) ?_;refine Au rfl rfl rfl rfl rfl rfl (oIm runUnderlying22 sizeOf44 rfl rfl hx8) ?_;refine Au rfl rfl rfl rfl rfl rfl (Bu isAgg44 sizeOf44 rfl rfl) ?_;refine Au rfl rfl rfl rfl rfl rfl (AY call101 rfl (J6 hx9)) ?_;refine DU rfl ?_;refine Au rfl rfl rfl rfl rfl rfl (oAs rfl) ?_;refine DU rfl ?_;refine EQ ?_;refine GB rfl rfl rfl rfl (Aq (xs:=[]) (f:=D.i64) (l:=[]) runUnderlying25 sizeOf3 zeroValue3 rfl rfl rfl (fun _=>⟨rfl,rfl,rfl⟩) rfl (by simp [maxLen])) ?_;rintro _ _ ⟨a_r3,rfl,rfl⟩;refine ⟨(trivial:True),?_⟩;refine GB rfl rfl rfl rfl (oAs rfl) ?_;rintro _ _ ⟨rfl,rfl⟩;refine ⟨(trivial:True),?_⟩;refine BL ?_;refine zq5 ?_;obtain ⟨o_3,hj3,hm3⟩:=bS hj2;refine Ak [(2,_),(4,_),(5,_),(6,_),(8,_),(9,_)] [(1,_),(2,_),(3,_),(4,_)] (fun (st:(List Int)) (hid:(Option Addr×Nat))=>match st,hid with | l5,(a_r3,cap_r3)=>[(11,.v (.slice a_r3 l5.length cap_r3))]) (fun F (st:(List Int)) (hid:(Option Addr×Nat))=>match st,hid with | l5,(a_r3,cap_r3)=>[row a_r3 cap_r3 3 1 D.i64 l5,(nthF F 0),(nthF F 1),(nthF F 2),(nthF F 3)]) (fun st=>st=o_3) ⟨rfl,rfl,rfl,rfl,rfl,rfl,trivial⟩ ⟨rfl,rfl,rfl,rfl,trivial⟩ ?_ ?_
    ·refine Aj ?_
     refine Ai [(2,_),(4,_),(5,_),(6,_),(8,_),(9,_),(10,_)] [(1,_),(2,_),(3,_),(4,_)] (fun (st:(Int×(List Int))) (hid:(Option Addr×Nat))=>match st,hid with | (j1,l6),(a_r3,cap_r3)=>[(11,.v (.slice a_r3 l6.length cap_r3)),(12,.i64 j1)]) (fun F (st:(Int×(List Int))) (hid:(Option Addr×Nat))=>match st,hid with | (j1,l6),(a_r3,cap_r3)=>[row a_r3 cap_r3 3 1 D.i64 l6,(nthF F 0),(nthF F 1),(nthF F 2),(nthF F 3)]) (_,_) hj3 (fun _=>rfl) ⟨rfl,rfl,rfl,rfl,rfl,rfl,rfl,trivial⟩ ⟨rfl,rfl,rfl,rfl,trivial⟩ ⟨rfl,rfl,trivial⟩ rfl ?_;rintro n ⟨j1,l6⟩ ⟨a_r3,cap_r3⟩ hj3;rw [Di] at hj3;refine Ar (L':=[(11,.v (.slice a_r3 l6.length cap_r3)),(12,.i64 j1),(2,_),(4,_),(5,_),(6,_),(8,_),(9,_),(10,_)]) (ms':=[row a_r3 cap_r3 3 1 D.i64 l6,_,_,_,_]) rfl rfl ?_;refine zq8 ?_;refine zcn hj3 (fun hc3 hj3=>?_) (fun hc3 hj3=>?_)
     ·refine zq8 ?_
      obtain ⟨x7,hx10,hj3⟩:=bS hj3;refine Af rfl rfl rfl (oIm runUnderlying25 sizeOf3 rfl rfl hx10) ?_;refine zq1 ?_;obtain ⟨x8,hx11,hj3⟩:=bS hj3;refine Af rfl rfl rfl (Ap 3 runUnderlying25 sizeOf3 rfl rfl rfl hx11) ?_;refine Af rfl rfl rfl (AV (off:=0) 3 isAgg3 rfl rfl (Am hx11).2 rfl rfl rfl) ?_;refine Af rfl rfl rfl (zs1 D.i64) ?_;obtain ⟨hg12,hj3⟩:=Aa hj3;refine zap 0 hg12 fun a_r3 cap_r3=>?_;refine Ag (ms':=[_,_,box b2 24 [_,_],_,box b1 24 [_,_]]) rfl ?_;refine zq4 ?_;obtain ⟨hg13,hj3⟩:=Aa hj3;refine zq3 ?_;exact ⟨_,(_,_),hj3,⟨rfl,rfl,trivial⟩,⟨rfl,rfl,rfl,rfl,rfl,rfl,rfl,trivial⟩,[],rfl⟩
     ·refine Ao ?_
      exact ⟨_,(_,_),Ac hj3,⟨rfl,trivial⟩,⟨rfl,rfl,rfl,rfl,rfl,rfl,trivial⟩,[],rfl⟩
    ·rintro l5 ⟨a_r3,cap_r3⟩ hst
     subst hst;refine An (L':=[(11,.v (.slice a_r3 l5.length cap_r3)),(2,_),(4,_),(5,_),(6,_),(8,_),(9,_)]) (ms':=[row a_r3 cap_r3 3 1 D.i64 l5,_,_,_,_]) rfl rfl ?_;obtain ⟨x9,hx14,hm3⟩:=bS hm3;obtain ⟨x10,hx15,hm3⟩:=bS hm3;obtain ⟨x11,hx16,hm3⟩:=bS hm3;refine zdr 13 ?_;refine zq6 ?_;refine Aw rfl rfl rfl (oIm runUnderlying25 sizeOf3 rfl rfl hx14) ?_;refine zq1 ?_;refine Aw rfl rfl rfl (oIm runUnderlying22 sizeOf44 rfl rfl hx15) ?_;refine zq2 ?_;refine Aw rfl rfl rfl (.view (peekE (i:=76) 0 rfl rfl rfl) (AY call113 rfl (QR hx16))) ?_;refine Aw rfl rfl rfl (zs1 ANd.d) ?_;refine Cu ?_;obtain ⟨hg17,hm3⟩:=Aa hm3;refine zap 1 hg17 fun a_r2 cap_r2=>?_;refine Ag (ms':=[_,_,box b2 24 [_,_],_,box b1 24 [_,_]]) rfl ?_;refine zq1 ?_;refine zst 2 ?_;refine Ag (ms':=[_,_,box b2 24 [_,_],_,box b1 24 [_,_]]) rfl ?_;refine zq3 ?_;obtain ⟨hg18,hm3⟩:=Aa hm3;refine zq3 ?_;exact ⟨_,(_,_),hm3,⟨rfl,trivial⟩,⟨rfl,rfl,rfl,rfl,rfl,trivial⟩,[_],rfl⟩
   ·refine Ao ?_
    exact ⟨_,(_,_),Ac hj2,trivial,⟨rfl,rfl,trivial⟩,[],rfl⟩
  ·rintro ⟨l3,z1⟩ ⟨a_r2,cap_r2⟩ hst
   subst hst;refine An (L':=[(4,_),(8,_)]) (ms':=[row a_r2 cap_r2 44 4 ANd.d l3,box b2 24 [.v (.slice a_r2 l3.length cap_r2),.i64 z1],_,_]) rfl rfl ?_;refine zq3 ?_;refine Al (Cl (i:=81) (q:=0) 0 rfl rfl rfl rfl rfl).refines ?_;refine zst 3 ?_;refine Ag (ms':=[_,box b2 24 [_,_],_,box b1 24 [_,_]]) rfl ?_;refine gNl ?_
   cases hm2;exact Ae zr1
noncomputable def Dm (a1:ATy) (bv1:ATy):Option Bool:=
 (G2 a1).bind fun x1 =>
 bif (decide (x1=0)) then ((GZ a1 a1.root).bind fun x2 =>
 (Et a1 x2).bind fun x3 =>
 bif x3 then ((CN a1 bv1).bind fun x4 =>
 bif x4 then ((CN bv1 a1).bind fun x5 =>
 some x5) else (some false)) else (some false)) else (some false)
theorem Ln {a1:ATy} {bv1:ATy} {r_1:Bool} (hm:Dm a1 bv1=some r_1):Fn0 Tryz.prog 43 [ATy.d a1,ATy.d bv1] (.bool r_1):=by
 unfold Dm at hm;refine Ad func43 rfl ntmps43 rfl fun H0 fr w0=>?_;refine zq7 ?_;obtain ⟨x1,hx1,hm⟩:=bS hm
 rcases Cj hm with ⟨hg_1,hm⟩ | ⟨hg_1,hm⟩
 ·
  skip
  obtain ⟨x2,hx2,hm⟩:=bS hm;obtain ⟨x3,hx3,hm⟩:=bS hm
  rcases Cj hm with ⟨hg_2,hm⟩ | ⟨hg_2,hm⟩
  ·
   skip
   obtain ⟨x4,hx4,hm⟩:=bS hm
   rcases Cj hm with ⟨hg_3,hm⟩ | ⟨hg_3,hm⟩
   ·
    skip
    obtain ⟨x5,hx5,hm⟩:=bS hm;refine zdr 22 ?_;refine zq1 ?_;refine zcd (HO hx1) ?_;refine zq6 ?_;refine zce (J2 hx2) ?_;refine zce (Gy hx3) ?_;refine zq4 ?_;refine zce (Jd hx4) ?_;refine zq4 ?_;refine zce (Jd hx5) ?_;refine zq4 ?_
    cases hm;exact Ae zr1
   ·
    skip
    refine zdr 22 ?_;refine zq1 ?_;refine zcd (HO hx1) ?_;refine zq6 ?_;refine zce (J2 hx2) ?_;refine zce (Gy hx3) ?_;refine zq4 ?_;refine zce (Jd hx4) ?_;refine zq9 ?_
    cases hm;exact Ae zr1
  ·
   skip
   refine zdr 22 ?_;refine zq1 ?_;refine zcd (HO hx1) ?_;refine zq6 ?_;refine zce (J2 hx2) ?_;refine zce (Gy hx3) ?_;refine zq14 ?_
   cases hm;exact Ae zr1
 ·
  skip
  refine zdr 22 ?_;refine zq1 ?_;refine zcd (HO hx1) ?_;refine zq22 ?_
  cases hm;exact Ae zr1
noncomputable def BE (roots1:(List Int)) (c1:(List (List UInt8))):Nat->(Int×(List AFd)×Int×Int×Int)->Option ((List AFd)×Int×Int×Int)
 | 0,_=>none
 | n+1,(x1,l2,z4,z5,z6) =>
  bif (decide (x1<(c1.length:Int))) then
   (idx c1 x1).bind fun x2 =>
   (idx roots1 x1).bind fun x3 =>
   grd ((l2.length+([(⟨x2,x3⟩:AFd)]:List _).length)*24<=140737488355328) <|
   grd (InR (x1+1)) <|
   BE roots1 c1 n ((x1+1),(l2++[(⟨x2,x3⟩:AFd)]),z4,z5,z6)
  else
   some (l2,z4,z5,z6)
noncomputable def Db (roots1:(List Int)) (c1:(List (List UInt8))):Option ANd:=
 (BE roots1 c1 FU (0,([]:List AFd),7,0,0):Option ((List AFd)×Int×Int×Int)).bind fun (l1,z1,z2,z3) =>
 some (⟨z1,z2,z3,l1⟩:ANd)
theorem JY {roots1:(List Int)} {c1:(List (List UInt8))} {r_1:ANd} (hm:Db roots1 c1=some r_1):Fn0 Tryz.prog 85 [.list 1 D.i64 roots1,.ref (.list 1 D.str c1)] (ANd.d r_1):=by
 unfold Db at hm;refine Ad func85 rfl ntmps85 rfl fun H0 fr w0=>?_;refine zq2 ?_;refine Dq fun b1=>?_;refine zq3 ?_;refine Af rfl rfl rfl zb44b ?_;refine Dq fun b2=>?_;refine zst 0 ?_;refine Al (AB (T:=98) (sz:=2) (f:=AFd.d)) ?_;refine Ag (ms':=[_,box b2 44 [_,_,_,_],box b1 44 [_,_,_,_]]) rfl ?_;refine zq8 ?_;obtain ⟨o_1,hj1,hm1⟩:=bS hm;refine Ak [(3,_),(4,_)] [(2,_)] (fun (st:((List AFd)×Int×Int×Int)) (hid:(Option Addr×Nat))=>match st,hid with | (l1,z1,z2,z3),(a_r1,cap_r1)=>[]) (fun F (st:((List AFd)×Int×Int×Int)) (hid:(Option Addr×Nat))=>match st,hid with | (l1,z1,z2,z3),(a_r1,cap_r1)=>[row a_r1 cap_r1 98 2 AFd.d l1,box b2 44 [.i64 z1,.i64 z2,.i64 z3,.v (.slice a_r1 l1.length cap_r1)],(nthF F 0)]) (fun st=>st=o_1) ⟨rfl,rfl,trivial⟩ ⟨rfl,trivial⟩ ?_ ?_
 ·refine Aj ?_
  refine Ai [(0,_),(3,_),(4,_),(8,_),(9,_)] [(2,_)] (fun (st:(Int×(List AFd)×Int×Int×Int)) (hid:(Option Addr×Nat))=>match st,hid with | (x1,l2,z4,z5,z6),(a_r1,cap_r1)=>[(10,.i64 x1)]) (fun F (st:(Int×(List AFd)×Int×Int×Int)) (hid:(Option Addr×Nat))=>match st,hid with | (x1,l2,z4,z5,z6),(a_r1,cap_r1)=>[row a_r1 cap_r1 98 2 AFd.d l2,box b2 44 [.i64 z4,.i64 z5,.i64 z6,.v (.slice a_r1 l2.length cap_r1)],(nthF F 0)]) (_,_) hj1 (fun _=>rfl) ⟨rfl,rfl,rfl,rfl,rfl,trivial⟩ ⟨rfl,trivial⟩ ⟨rfl,trivial⟩ rfl ?_;rintro n ⟨x1,l2,z4,z5,z6⟩ ⟨a_r1,cap_r1⟩ hj1;rw [BE] at hj1;refine Ar (L':=[(10,.i64 x1),(0,_),(3,_),(4,_),(8,_),(9,_)]) (ms':=[row a_r1 cap_r1 98 2 AFd.d l2,box b2 44 [.i64 z4,.i64 z5,.i64 z6,.v (.slice a_r1 l2.length cap_r1)],_]) rfl rfl ?_;refine zq5 ?_;refine zcn hj1 (fun hc1 hj1=>?_) (fun hc1 hj1=>?_)
  ·refine zq6 ?_
   obtain ⟨x2,hx1,hj1⟩:=bS hj1;refine zq5 ?_;obtain ⟨x3,hx2,hj1⟩:=bS hj1;refine zdr 9 ?_;refine zq7 ?_;refine Aw rfl rfl rfl zb98a ?_;refine Aw rfl rfl rfl (Ax (xs:=[_]) (f:=AFd.d) (l:=[(⟨x2,x3⟩:AFd)]) runUnderlying42 sizeOf98 zeroValue98 rfl rfl rfl (fun _=>⟨rfl,rfl,rfl⟩) rfl) ?_;refine Cu ?_;obtain ⟨hg3,hj1⟩:=Aa hj1;refine zap 0 hg3 fun a_r1 cap_r1=>?_;refine Ag (ms':=[_,box b2 44 [_,_,_,_],box b1 44 [_,_,_,_]]) rfl ?_;refine zq1 ?_;refine zst 1 ?_;refine Ag (ms':=[_,box b2 44 [_,_,_,_],box b1 44 [_,_,_,_]]) rfl ?_;refine zq2 ?_;obtain ⟨hg4,hj1⟩:=Aa hj1;refine zq3 ?_;exact ⟨_,(_,_),hj1,⟨rfl,trivial⟩,⟨rfl,rfl,rfl,rfl,rfl,trivial⟩,[],rfl⟩
  ·refine Ao ?_
   exact ⟨_,(_,_),Ac hj1,trivial,⟨rfl,rfl,trivial⟩,[],rfl⟩
 ·rintro ⟨l1,z1,z2,z3⟩ ⟨a_r1,cap_r1⟩ hst
  subst hst;refine An (L':=[(3,_),(4,_)]) (ms':=[row a_r1 cap_r1 98 2 AFd.d l1,box b2 44 [.i64 z1,.i64 z2,.i64 z3,.v (.slice a_r1 l1.length cap_r1)],_]) rfl rfl ?_;refine zq3 ?_;refine Al (Cl (i:=27) (q:=3) 0 rfl rfl rfl rfl rfl).refines ?_;refine zst 2 ?_;refine Ag (ms':=[_,box b2 44 [_,_,_,_],box b1 44 [_,_,_,_]]) rfl ?_;refine gNl ?_
  cases hm1;exact Ae zr1
noncomputable def BB (names1:(List (List UInt8))):Nat->Int->Option (Out (ATy×Int) Unit)
 | 0,_=>none
 | n+1,x2 =>
  bif (decide (x2<(names1.length:Int))) then
   (idx names1 x2).bind fun x3 =>
   (DL x3).bind fun x4 =>
   (bif (!x4) then (some true) else ((bif (decide (0<x2)) then (grd (InR (x2 - 1)) <|
   (idx names1 (x2 - 1)).bind fun x5 =>
   some (!Op.bytesLess x5 x3)) else (some false)).bind fun p2 =>
   some p2)).bind fun p1 =>
   bif p1 then
    some (Out.ret ((⟨([]:List ANd),0⟩:ATy),2))
   else
    grd (InR (x2+1)) <|
    BB names1 n (x2+1)
  else
   some (Out.go (()))
noncomputable def Co (names1:(List (List UInt8))) (l1:(List ATy)):Option (ATy×Int):=
 (DZ l1).bind fun x1 =>
 bif (!decide (x1=0)) then
  some ((⟨([]:List ANd),0⟩:ATy),x1)
 else
  bif ((!decide ((names1.length:Int)=(l1.length:Int)))||(decide (30<(names1.length:Int)))) then
   some ((⟨([]:List ANd),0⟩:ATy),2)
  else
   ((BB names1 FU 0:Option (Out (ATy×Int) Unit))).bind (fun oo=>oo.on (fun r1=>some r1) (fun _ =>
   (D9 (fun y0=>Db y0 names1) l1).bind fun x6 =>
   (Eb x6).bind fun (x7,x8) =>
   some ((⟨x7.l,x7.root⟩:ATy),x8)))
theorem LB {names1:(List (List UInt8))} {l1:(List ATy)} {r_1:ATy} {r_2:Int} (hm:Co names1 l1=some (r_1,r_2)):Fn0 Tryz.prog 50 [.list 1 D.str names1,.list 2 ATy.d l1] (.tup [ATy.d r_1,.i64 r_2]):=by
 unfold Co at hm;refine Ad func50 rfl ntmps50 rfl fun H0 fr w0=>?_;refine zq3 ?_;refine BI fun b1=>?_;refine zq6 ?_;obtain ⟨x1,hx1,hm⟩:=bS hm;refine zc0 (HK hx1) ?_;refine zq7 ?_;refine zcn hm (fun hc1 hm=>?_) (fun hc1 hm=>?_)
 ·refine zq2 ?_
  refine Af rfl rfl rfl zb24b ?_;refine zq1 ?_;refine zst 0 ?_;refine Ag (ms':=[box b1 24 [_,_]]) rfl ?_;refine zq2 ?_
  cases hm;exact Ae zr2
 ·refine zq10 ?_
  apply Bt [(1,_),(2,_),(4,_)] 4 24 (t:=20) ⟨rfl,rfl,rfl,trivial⟩ rfl
  ·intro hg_1 hk1
   refine zq4 ?_;exact zgm hk1
  ·intro hg_1 hk1
   refine zq4 ?_;exact zgm hk1
  refine gNl ?_;refine zcn hm (fun hc2 hm=>?_) (fun hc2 hm=>?_)
  ·refine zq2 ?_
   refine Af rfl rfl rfl zb24b ?_;refine zst 0 ?_;refine Ag (ms':=[box b1 24 [_,_]]) rfl ?_;refine zq2 ?_
   cases hm;exact Ae zr2
  ·refine zq8 ?_
   obtain ⟨o_1,hj1,hm1⟩:=bS hm;refine Ak [(1,_),(2,_),(4,_)] [(0,_)] (fun (st:Unit) (hid:Unit)=>match st,hid with | _,_=>[]) (fun F (st:Unit) (hid:Unit)=>match st,hid with | _,_=>[(nthF F 0)]) (fun st=>Out.go (st)=o_1) ⟨rfl,rfl,rfl,trivial⟩ ⟨rfl,trivial⟩ ?_ ?_
   ·refine Aj ?_
    refine Ai [(1,_),(2,_),(4,_),(26,_),(27,_)] [(0,_)] (fun (st:Int) (hid:Unit)=>match st,hid with | x2,_=>[(28,.i64 x2)]) (fun F (st:Int) (hid:Unit)=>match st,hid with | x2,_=>[(nthF F 0)]) () hj1 (fun _=>rfl) ⟨rfl,rfl,rfl,rfl,rfl,trivial⟩ ⟨rfl,trivial⟩ ⟨rfl,trivial⟩ rfl ?_;rintro n x2 _ hj1;rw [BB] at hj1;refine Ar (L':=[(28,.i64 x2),(1,_),(2,_),(4,_),(26,_),(27,_)]) (ms':=[_]) rfl rfl ?_;refine zq5 ?_;refine zcn hj1 (fun hc3 hj1=>?_) (fun hc3 hj1=>?_)
    ·refine zq6 ?_
     obtain ⟨x3,hx2,hj1⟩:=bS hj1;refine zq8 ?_;obtain ⟨x4,hx3,hj1⟩:=bS hj1;refine zc0 (Ki hx3) ?_;refine zq2 ?_;obtain ⟨p1,hp_2,hj1⟩:=bS hj1;refine AL [(1,_),(2,_),(4,_),(26,_),(27,_),(28,_)] 12 48 p1 (t:=36) ⟨rfl,rfl,rfl,rfl,rfl,rfl,trivial⟩ rfl (fun hg_2 hk2=>?_) (fun hg_2 hk2=>?_) ?_
     ·replace hp_2:=AO hg_2 hp_2
      refine zq12 ?_;exact zgb hk2 hp_2
     ·replace hp_2:=AP hg_2 hp_2
      refine zq3 ?_;obtain ⟨p2,hp_3,hp_2⟩:=bS hp_2;refine AL [(1,_),(2,_),(4,_),(26,_),(27,_),(28,_),(36,_)] 8 47 p2 (t:=39) ⟨rfl,rfl,rfl,rfl,rfl,rfl,rfl,trivial⟩ rfl (fun hg_3 hk3=>?_) (fun hg_3 hk3=>?_) ?_
      ·replace hp_3:=AO hg_3 hp_3
       refine zq2 ?_;obtain ⟨hg4,hp_3⟩:=Aa hp_3;refine zq1 ?_;obtain ⟨x5,hx5,hp_3⟩:=bS hp_3;refine zq5 ?_;exact zgb hk3 hp_3
      ·replace hp_3:=AP hg_3 hp_3
       refine zq8 ?_;exact zgb hk3 hp_3
      refine zq1 ?_;exact zgb hk2 hp_2
     refine gNl ?_;refine zcn hj1 (fun hc4 hj1=>?_) (fun hc4 hj1=>?_)
     ·refine zq2 ?_
      refine Af rfl rfl rfl zb24b ?_;refine zst 0 ?_;refine Ag (ms':=[box b1 24 [_,_]]) rfl ?_;refine zq2 ?_;refine Ae ?_;obtain rfl:=Ac hj1
      replace hm1:=BJ hm1
      cases hm1;exact zr2
     ·refine zq2 ?_
      obtain ⟨hg6,hj1⟩:=Aa hj1;refine zq3 ?_;exact ⟨_,(),hj1,⟨rfl,trivial⟩,⟨rfl,rfl,rfl,rfl,rfl,trivial⟩,[],rfl⟩
    ·refine Ao ?_
     exact ⟨_,(),Ac hj1,trivial,⟨rfl,rfl,rfl,trivial⟩,[],rfl⟩
   ·rintro _ _ hst
    subst hst
    replace hm1:=Dh hm1
    refine An (L':=[(1,_),(2,_),(4,_)]) (ms':=[_]) rfl rfl ?_;refine zq2 ?_;refine Af rfl rfl rfl (BC rfl rfl) ?_;refine zq1 ?_;obtain ⟨x6,hx7,hm1⟩:=bS hm1;refine Af rfl rfl rfl (AY call82 rfl (Jy (fun _ _ h=>Em call85 (JY h)) hx7)) ?_;obtain ⟨⟨x7,x8⟩,hx8,hm1⟩:=bS hm1;refine zc0 (Hk hx8) ?_;refine zq2 ?_;refine zst 0 ?_;refine Ag (ms':=[box b1 24 [_,_]]) rfl ?_;refine zq2 ?_
    cases hm1;exact Ae zr2
noncomputable def Cn (names1:(List (List UInt8))) (l1:(List ATy)):Nat->(Int×(List ANd)×Int×(List AFd))->Option ((List ANd)×Int×(List AFd))
 | 0,_=>none
 | n+1,(i1,l4,z2,l5) =>
  bif (decide (i1<(l1.length:Int))) then
   (idx l1 i1).bind fun x1 =>
   (DV (⟨l4,z2⟩:ATy) x1).bind fun (x2,s1) =>
   (idx names1 i1).bind fun x3 =>
   (idx l1 i1).bind fun x4 =>
   grd (InR (x2+x4.root)) <|
   grd ((l5.length+([(⟨x3,(x2+x4.root)⟩:AFd)]:List _).length)*24<=140737488355328) <|
   grd (InR (i1+1)) <|
   Cn names1 l1 n ((i1+1),s1.l,s1.root,(l5++[(⟨x3,(x2+x4.root)⟩:AFd)]))
  else
   some (l4,z2,l5)
noncomputable def Fo (names1:(List (List UInt8))) (l1:(List ATy)):Option ATy:=
 (Cn names1 l1 FU (0,([]:List ANd),0,[]):Option ((List ANd)×Int×(List AFd))).bind fun (l2,z1,l3) =>
 grd ((l2.length+([(⟨7,0,0,l3⟩:ANd)]:List _).length)*48<=140737488355328) <|
 grd (InR (((l2++[(⟨7,0,0,l3⟩:ANd)]).length:Int) - 1)) <|
 some (⟨(l2++[(⟨7,0,0,l3⟩:ANd)]),(((l2++[(⟨7,0,0,l3⟩:ANd)]).length:Int) - 1)⟩:ATy)
theorem Kp {names1:(List (List UInt8))} {l1:(List ATy)} {r_1:ATy} (hm:Fo names1 l1=some r_1):Fn0 Tryz.prog 52 [.list 1 D.str names1,.list 2 ATy.d l1] (ATy.d r_1):=by
 unfold Fo at hm;refine Ad func52 rfl ntmps52 rfl fun H0 fr w0=>?_;refine zq2 ?_;refine BI fun b1=>?_;refine zq3 ?_;refine Af rfl rfl rfl zb24a ?_;refine Av rfl rfl rfl (Aq (xs:=[]) (f:=AFd.d) (l:=[]) runUnderlying42 sizeOf98 zeroValue98 rfl rfl rfl (fun _=>⟨rfl,rfl,rfl⟩) rfl (by simp [maxLen])) ?_;rintro _ _ ⟨a_r1,rfl,rfl⟩;refine BI fun b2=>?_;refine zst 0 ?_;refine Al (Cm (T:=44) (sz:=4) (f:=ANd.d)) ?_;refine Ag (ms':=[_,box b2 24 [_,_],_,box b1 24 [_,_]]) rfl ?_;refine zq7 ?_;obtain ⟨o_1,hj1,hm1⟩:=bS hm;refine Ak [(4,_),(5,_)] [(3,_)] (fun (st:((List ANd)×Int×(List AFd))) (hid:(Option Addr×Nat×Nat)×(Option Addr×Nat))=>match st,hid with | (l2,z1,l3),((a_r2,m_r2,cap_r2),(a_r1,cap_r1))=>[(6,.v (.slice a_r1 l3.length cap_r1))]) (fun F (st:((List ANd)×Int×(List AFd))) (hid:(Option Addr×Nat×Nat)×(Option Addr×Nat))=>match st,hid with | (l2,z1,l3),((a_r2,m_r2,cap_r2),(a_r1,cap_r1))=>[arr a_r2 m_r2 cap_r2 44 4 ANd.d l2,box b2 24 [.v (.slice a_r2 m_r2 cap_r2),.i64 z1],row a_r1 cap_r1 98 2 AFd.d l3,(nthF F 0)]) (fun st=>st=o_1) ⟨rfl,rfl,trivial⟩ ⟨rfl,trivial⟩ ?_ ?_
 ·refine Aj ?_
  refine Ai [(0,_),(1,_),(4,_),(5,_)] [(3,_)] (fun (st:(Int×(List ANd)×Int×(List AFd))) (hid:(Option Addr×Nat×Nat)×(Option Addr×Nat))=>match st,hid with | (i1,l4,z2,l5),((a_r2,m_r2,cap_r2),(a_r1,cap_r1))=>[(6,.v (.slice a_r1 l5.length cap_r1)),(7,.i64 i1)]) (fun F (st:(Int×(List ANd)×Int×(List AFd))) (hid:(Option Addr×Nat×Nat)×(Option Addr×Nat))=>match st,hid with | (i1,l4,z2,l5),((a_r2,m_r2,cap_r2),(a_r1,cap_r1))=>[arr a_r2 m_r2 cap_r2 44 4 ANd.d l4,box b2 24 [.v (.slice a_r2 m_r2 cap_r2),.i64 z2],row a_r1 cap_r1 98 2 AFd.d l5,(nthF F 0)]) ((_,_,_),(_,_)) hj1 (fun _=>rfl) ⟨rfl,rfl,rfl,rfl,trivial⟩ ⟨rfl,trivial⟩ ⟨rfl,rfl,trivial⟩ rfl ?_;rintro n ⟨i1,l4,z2,l5⟩ ⟨⟨a_r2,m_r2,cap_r2⟩,⟨a_r1,cap_r1⟩⟩ hj1;rw [Cn] at hj1;refine Ar (L':=[(6,.v (.slice a_r1 l5.length cap_r1)),(7,.i64 i1),(0,_),(1,_),(4,_),(5,_)]) (ms':=[arr a_r2 m_r2 cap_r2 44 4 ANd.d l4,box b2 24 [.v (.slice a_r2 m_r2 cap_r2),.i64 z2],row a_r1 cap_r1 98 2 AFd.d l5,_]) rfl rfl ?_;refine zq8 ?_;refine zcn hj1 (fun hc1 hj1=>?_) (fun hc1 hj1=>?_)
  ·refine zq4 ?_
   refine IW 0 rfl rfl ?_;rintro rfl;refine BA (Dw 1 0 0 rfl rfl rfl rfl rfl rfl) ?_;obtain ⟨x1,hx1,hj1⟩:=bS hj1;obtain ⟨⟨x2,s1⟩,hx2,hj1⟩:=bS hj1;refine Ri (σ:=Option Addr×Nat×Nat×Nat) (fun s=>match s with | (a_r3,m_r3,cap_r3,b3)=>[(8,.v (.pointer (some ⟨b3,0,none⟩))),(9,.i64 x2)]) (fun s=>match s with | (a_r3,m_r3,cap_r3,b3)=>[arr a_r3 m_r3 cap_r3 44 4 ANd.d s1.l,box b3 24 [.v (.slice a_r3 m_r3 cap_r3),.i64 s1.root],row a_r2 cap_r2 44 4 ANd.d l4,box b2 24 [.list 4 ANd.d l4,.i64 z2],row a_r1 cap_r1 98 2 AFd.d l5,box b1 24 [.list 4 ANd.d [],.i64 0]]) ?_ ?_
   ·refine R3 [0,5,6,7,8,9,10,11] AA (by decide +kernel) (by decide +kernel) (by decide) _ rfl ?_
    refine Kl rfl ?_;refine P6 rfl rfl rfl rfl (oMv rfl) ?_;refine P6 rfl rfl rfl rfl (oMv rfl) ?_;refine P6 rfl rfl rfl rfl (oIm runUnderlying53 sizeOf24 rfl rfl hx1) ?_;refine P6 rfl rfl rfl rfl (Bu isAgg24 sizeOf24 rfl rfl) ?_;refine Kl rfl ?_;refine Kl rfl ?_;refine Kl rfl ?_;refine Kl rfl ?_;refine Kl rfl ?_;refine Kl rfl ?_;refine Kl rfl ?_;refine S2 ?_;refine zg2 0 9 ?_ ?_
    ·refine zgp ?_
     refine zg2 5 9 ?_ ?_
     ·refine NJ (R':=[6,7,8,9,10,11]) rfl rfl rfl rfl (by decide) (B7 (ms₁:=[]) call67 rfl (List.Perm.refl _) (FX hx2)) ?_
      rintro _ _ ⟨_,⟨a_r4,m_r4,cap_r4,rfl,rfl⟩,rfl⟩;refine zg2 6 9 ?_ ?_
      ·refine zgp ?_
       refine zg3 7 8 9 ?_ ?_ ?_
       ·refine zgp ?_
        refine zg2 8 9 ?_ ?_
        ·refine zgp ?_
         refine zg1 9 ?_;refine Im fun b4=>?_;refine zg1 10 ?_;refine zgs 0 ?_;refine zg1 11 ?_;refine zgp ?_;exact BY (a_r4,m_r4,cap_r4,b4) (zse (M0:=[(8,_),(9,_)]) (N0:=[(9,_),(8,_),(26,_),(25,_),(18,_),(24,_),(19,_),(23,_),(22,_),(21,_),(20,_)])) (permA 1 rfl (permA 0 rfl (permA 0 rfl (permA 0 rfl (permA 0 rfl (permA 0 rfl permN))))))
        ·refine Im fun b5=>?_
         refine zg2 8 10 ?_ ?_
         ·refine zgp ?_
          refine zg1 10 ?_;refine zgs 0 ?_;refine zg1 11 ?_;refine zgp ?_;exact BY (a_r4,m_r4,cap_r4,b5) (zse (M0:=[(8,_),(9,_)]) (N0:=[(9,_),(26,_),(8,_),(25,_),(18,_),(24,_),(19,_),(23,_),(22,_),(21,_),(20,_)])) (permA 1 rfl (permA 0 rfl (permA 0 rfl (permA 0 rfl (permA 0 rfl (permA 0 rfl permN))))))
         ·refine zgs 0 ?_
          refine zg1 8 ?_;refine zgp ?_;refine zg1 11 ?_;refine zgp ?_;exact BY (a_r4,m_r4,cap_r4,b5) (zse (M0:=[(8,_),(9,_)]) (N0:=[(9,_),(26,_),(8,_),(25,_),(18,_),(24,_),(19,_),(23,_),(22,_),(21,_),(20,_)])) (permA 1 rfl (permA 0 rfl (permA 0 rfl (permA 0 rfl (permA 0 rfl (permA 0 rfl permN))))))
       ·refine zgp ?_
        refine zg2 7 9 ?_ ?_
        ·refine zgp ?_
         refine zg1 9 ?_;refine Im fun b6=>?_;refine zg1 10 ?_;refine zgs 0 ?_;refine zg1 11 ?_;refine zgp ?_;exact BY (a_r4,m_r4,cap_r4,b6) (zse (M0:=[(8,_),(9,_)]) (N0:=[(9,_),(8,_),(25,_),(26,_),(18,_),(24,_),(19,_),(23,_),(22,_),(21,_),(20,_)])) (permA 1 rfl (permA 0 rfl (permA 0 rfl (permA 0 rfl (permA 0 rfl (permA 0 rfl permN))))))
        ·refine Im fun b7=>?_
         refine zg1 7 ?_;refine zgp ?_;refine zg1 10 ?_;refine zgs 0 ?_;refine zg1 11 ?_;refine zgp ?_;exact BY (a_r4,m_r4,cap_r4,b7) (zse (M0:=[(8,_),(9,_)]) (N0:=[(9,_),(25,_),(8,_),(26,_),(18,_),(24,_),(19,_),(23,_),(22,_),(21,_),(20,_)])) (permA 1 rfl (permA 0 rfl (permA 0 rfl (permA 0 rfl (permA 0 rfl (permA 0 rfl permN))))))
       ·refine Im fun b8=>?_
        refine zg2 7 8 ?_ ?_
        ·refine zgp ?_
         refine zg2 8 10 ?_ ?_
         ·refine zgp ?_
          refine zg1 10 ?_;refine zgs 0 ?_;refine zg1 11 ?_;refine zgp ?_;exact BY (a_r4,m_r4,cap_r4,b8) (zse (M0:=[(8,_),(9,_)]) (N0:=[(9,_),(26,_),(25,_),(8,_),(18,_),(24,_),(19,_),(23,_),(22,_),(21,_),(20,_)])) (permA 1 rfl (permA 0 rfl (permA 0 rfl (permA 0 rfl (permA 0 rfl (permA 0 rfl permN))))))
         ·refine zgs 0 ?_
          refine zg1 8 ?_;refine zgp ?_;refine zg1 11 ?_;refine zgp ?_;exact BY (a_r4,m_r4,cap_r4,b8) (zse (M0:=[(8,_),(9,_)]) (N0:=[(9,_),(26,_),(25,_),(8,_),(18,_),(24,_),(19,_),(23,_),(22,_),(21,_),(20,_)])) (permA 1 rfl (permA 0 rfl (permA 0 rfl (permA 0 rfl (permA 0 rfl (permA 0 rfl permN))))))
        ·refine zgp ?_
         refine zg1 7 ?_;refine zgp ?_;refine zg1 10 ?_;refine zgs 0 ?_;refine zg1 11 ?_;refine zgp ?_;exact BY (a_r4,m_r4,cap_r4,b8) (zse (M0:=[(8,_),(9,_)]) (N0:=[(9,_),(25,_),(26,_),(8,_),(18,_),(24,_),(19,_),(23,_),(22,_),(21,_),(20,_)])) (permA 1 rfl (permA 0 rfl (permA 0 rfl (permA 0 rfl (permA 0 rfl (permA 0 rfl permN))))))
      ·refine Im fun b9=>?_
       refine zg1 6 ?_;refine zgp ?_;refine zg2 7 8 ?_ ?_
       ·refine zgp ?_
        refine zg2 8 10 ?_ ?_
        ·refine zgp ?_
         refine zg1 10 ?_;refine zgs 0 ?_;refine zg1 11 ?_;refine zgp ?_;exact BY (a_r4,m_r4,cap_r4,b9) (zse (M0:=[(8,_),(9,_)]) (N0:=[(9,_),(26,_),(25,_),(18,_),(8,_),(24,_),(19,_),(23,_),(22,_),(21,_),(20,_)])) (permA 1 rfl (permA 0 rfl (permA 0 rfl (permA 0 rfl (permA 0 rfl (permA 0 rfl permN))))))
        ·refine zgs 0 ?_
         refine zg1 8 ?_;refine zgp ?_;refine zg1 11 ?_;refine zgp ?_;exact BY (a_r4,m_r4,cap_r4,b9) (zse (M0:=[(8,_),(9,_)]) (N0:=[(9,_),(26,_),(25,_),(18,_),(8,_),(24,_),(19,_),(23,_),(22,_),(21,_),(20,_)])) (permA 1 rfl (permA 0 rfl (permA 0 rfl (permA 0 rfl (permA 0 rfl (permA 0 rfl permN))))))
       ·refine zgp ?_
        refine zg1 7 ?_;refine zgp ?_;refine zg1 10 ?_;refine zgs 0 ?_;refine zg1 11 ?_;refine zgp ?_;exact BY (a_r4,m_r4,cap_r4,b9) (zse (M0:=[(8,_),(9,_)]) (N0:=[(9,_),(25,_),(26,_),(18,_),(8,_),(24,_),(19,_),(23,_),(22,_),(21,_),(20,_)])) (permA 1 rfl (permA 0 rfl (permA 0 rfl (permA 0 rfl (permA 0 rfl (permA 0 rfl permN))))))
     ·refine Im fun b10=>?_
      refine zg1 5 ?_;refine NJ (R':=[6,7,8,10,11]) rfl rfl rfl rfl (by decide) (B7 (ms₁:=[]) call67 rfl (List.Perm.refl _) (FX hx2)) ?_;rintro _ _ ⟨_,⟨a_r5,m_r5,cap_r5,rfl,rfl⟩,rfl⟩;refine zg1 6 ?_;refine zgp ?_;refine zg2 7 8 ?_ ?_
      ·refine zgp ?_
       refine zg2 8 10 ?_ ?_
       ·refine zgp ?_
        refine zg1 10 ?_;refine zgs 1 ?_;refine zg1 11 ?_;refine zgp ?_;exact BY (a_r5,m_r5,cap_r5,b10) (zse (M0:=[(8,_),(9,_)]) (N0:=[(9,_),(26,_),(25,_),(18,_),(24,_),(8,_),(19,_),(23,_),(22,_),(21,_),(20,_)])) (permA 0 rfl (permA 0 rfl (permA 0 rfl (permA 0 rfl (permA 0 rfl (permA 0 rfl permN))))))
       ·refine zgs 1 ?_
        refine zg1 8 ?_;refine zgp ?_;refine zg1 11 ?_;refine zgp ?_;exact BY (a_r5,m_r5,cap_r5,b10) (zse (M0:=[(8,_),(9,_)]) (N0:=[(9,_),(26,_),(25,_),(18,_),(24,_),(8,_),(19,_),(23,_),(22,_),(21,_),(20,_)])) (permA 0 rfl (permA 0 rfl (permA 0 rfl (permA 0 rfl (permA 0 rfl (permA 0 rfl permN))))))
      ·refine zgp ?_
       refine zg1 7 ?_;refine zgp ?_;refine zg1 10 ?_;refine zgs 1 ?_;refine zg1 11 ?_;refine zgp ?_;exact BY (a_r5,m_r5,cap_r5,b10) (zse (M0:=[(8,_),(9,_)]) (N0:=[(9,_),(25,_),(26,_),(18,_),(24,_),(8,_),(19,_),(23,_),(22,_),(21,_),(20,_)])) (permA 0 rfl (permA 0 rfl (permA 0 rfl (permA 0 rfl (permA 0 rfl (permA 0 rfl permN))))))
    ·refine Im fun b11=>?_
     refine zg1 0 ?_;refine zgp ?_;refine zg1 5 ?_;refine NJ (R':=[6,7,8,10,11]) rfl rfl rfl rfl (by decide) (B7 (ms₁:=[]) call67 rfl (List.Perm.refl _) (FX hx2)) ?_;rintro _ _ ⟨_,⟨a_r6,m_r6,cap_r6,rfl,rfl⟩,rfl⟩;refine zg1 6 ?_;refine zgp ?_;refine zg2 7 8 ?_ ?_
     ·refine zgp ?_
      refine zg2 8 10 ?_ ?_
      ·refine zgp ?_
       refine zg1 10 ?_;refine zgs 1 ?_;refine zg1 11 ?_;refine zgp ?_;exact BY (a_r6,m_r6,cap_r6,b11) (zse (M0:=[(8,_),(9,_)]) (N0:=[(9,_),(26,_),(25,_),(18,_),(24,_),(19,_),(8,_),(23,_),(22,_),(21,_),(20,_)])) (permA 0 rfl (permA 0 rfl (permA 0 rfl (permA 0 rfl (permA 0 rfl (permA 0 rfl permN))))))
      ·refine zgs 1 ?_
       refine zg1 8 ?_;refine zgp ?_;refine zg1 11 ?_;refine zgp ?_;exact BY (a_r6,m_r6,cap_r6,b11) (zse (M0:=[(8,_),(9,_)]) (N0:=[(9,_),(26,_),(25,_),(18,_),(24,_),(19,_),(8,_),(23,_),(22,_),(21,_),(20,_)])) (permA 0 rfl (permA 0 rfl (permA 0 rfl (permA 0 rfl (permA 0 rfl (permA 0 rfl permN))))))
     ·refine zgp ?_
      refine zg1 7 ?_;refine zgp ?_;refine zg1 10 ?_;refine zgs 1 ?_;refine zg1 11 ?_;refine zgp ?_;exact BY (a_r6,m_r6,cap_r6,b11) (zse (M0:=[(8,_),(9,_)]) (N0:=[(9,_),(25,_),(26,_),(18,_),(24,_),(19,_),(8,_),(23,_),(22,_),(21,_),(20,_)])) (permA 0 rfl (permA 0 rfl (permA 0 rfl (permA 0 rfl (permA 0 rfl (permA 0 rfl permN))))))
   ·rintro ⟨a_r3,m_r3,cap_r3,b3⟩
    refine An (L':=[(8,.v (.pointer (some ⟨b3,0,none⟩))),(9,.i64 x2)]++_) (ms':=[arr a_r3 m_r3 cap_r3 44 4 ANd.d s1.l,box b3 24 [.v (.slice a_r3 m_r3 cap_r3),.i64 s1.root],row a_r2 cap_r2 44 4 ANd.d l4,box b2 24 [.list 4 ANd.d l4,.i64 z2],row a_r1 cap_r1 98 2 AFd.d l5,box b1 24 [.list 4 ANd.d [],.i64 0]]) rfl rfl ?_;refine zq3 ?_;refine zst 3 ?_;refine Ag (ms':=[_,box b3 24 [_,_],_,box b2 24 [_,_],_,box b1 24 [_,_]]) rfl ?_;refine Al (Es 0 2 rfl rfl rfl rfl) ?_;refine gNl ?_;obtain ⟨x3,hx3,hj1⟩:=bS hj1;obtain ⟨x4,hx4,hj1⟩:=bS hj1;obtain ⟨hg5,hj1⟩:=Aa hj1;refine zdr 14 ?_;refine zq3 ?_;refine Aw rfl rfl rfl (oIm runUnderlying65 sizeOf9 rfl rfl hx3) ?_;refine zq4 ?_;refine Aw rfl rfl rfl (oIm runUnderlying53 sizeOf24 rfl rfl hx4) ?_;refine zq3 ?_;refine Aw rfl rfl rfl zb98a ?_;refine Aw rfl rfl rfl (Ax (xs:=[_]) (f:=AFd.d) (l:=[(⟨x3,(x2+x4.root)⟩:AFd)]) runUnderlying42 sizeOf98 zeroValue98 rfl rfl rfl (fun _=>⟨rfl,rfl,rfl⟩) rfl) ?_;refine Cu ?_;obtain ⟨hg6,hj1⟩:=Aa hj1;refine zap 3 hg6 fun a_r1 cap_r1=>?_;refine Ag (ms':=[box b3 24 [_,_],_,box b2 24 [_,_],_,box b1 24 [_,_]]) rfl ?_;refine zq4 ?_;obtain ⟨hg7,hj1⟩:=Aa hj1;refine zq3 ?_;exact ⟨_,((_,_,_),(_,_)),hj1,⟨rfl,rfl,trivial⟩,⟨rfl,rfl,rfl,rfl,trivial⟩,[_],rfl⟩
  ·refine Ao ?_
   exact ⟨_,((_,_,_),(_,_)),Ac hj1,⟨rfl,trivial⟩,⟨rfl,rfl,trivial⟩,[],rfl⟩
 ·rintro ⟨l2,z1,l3⟩ ⟨⟨a_r2,m_r2,cap_r2⟩,⟨a_r1,cap_r1⟩⟩ hst
  subst hst;refine An (L':=[(6,.v (.slice a_r1 l3.length cap_r1)),(4,_),(5,_)]) (ms':=[arr a_r2 m_r2 cap_r2 44 4 ANd.d l2,box b2 24 [.v (.slice a_r2 m_r2 cap_r2),.i64 z1],row a_r1 cap_r1 98 2 AFd.d l3,_]) rfl rfl ?_;refine zq5 ?_;refine Af rfl rfl rfl (.view (peekE (i:=45) 2 rfl rfl rfl) zb44a) ?_;refine Af rfl rfl rfl (Ax (xs:=[_]) (f:=ANd.d) (l:=[(⟨7,0,0,l3⟩:ANd)]) runUnderlying22 sizeOf44 zeroValue44 rfl rfl rfl (fun _=>⟨rfl,rfl,rfl⟩) rfl) ?_;obtain ⟨hg8,hm1⟩:=Aa hm1;refine Av rfl rfl rfl (Ca (a:=_) 0 underlying22 type44 rfl rfl rfl rfl rfl rfl (fun _=>rfl) (fun _=>rfl) hg8 (A2 hg8 rfl)) ?_;rintro _ _ ⟨a_r2,m_r2,cap_r2,rfl,rfl⟩;refine Ag (ms':=[_,box b2 24 [_,_],_,box b1 24 [_,_]]) rfl ?_;refine zq1 ?_;refine zst 1 ?_;refine Ag (ms':=[_,box b2 24 [_,_],_,box b1 24 [_,_]]) rfl ?_;refine zq5 ?_;refine Af rfl rfl rfl (BP 0 runUnderlying22 rfl rfl) ?_;obtain ⟨hg9,hm1⟩:=Aa hm1;refine zq2 ?_;refine zst 1 ?_;refine Ag (ms':=[_,box b2 24 [_,_],_,box b1 24 [_,_]]) rfl ?_;refine zq3 ?_;refine Gu 0 rfl rfl ?_;rintro rfl;refine zq1 ?_;refine Al (Cl (i:=55) (q:=0) 0 rfl rfl rfl rfl rfl).refines ?_;refine zst 3 ?_;refine Ag (ms':=[_,box b2 24 [_,_],_,box b1 24 [_,_]]) rfl ?_;refine gNl ?_
  cases hm1;exact Ae zr1
noncomputable def AN (l2:(List (List UInt8))):Nat->(Bool×Int)->Option Bool
 | 0,_=>none
 | n+1,(ok2,i1) =>
  bif (decide (i1<(([]++l2).length:Int))) then
   bif ok2 then ((idx ([]++l2) i1).bind fun x7 =>
   (E1 x7).bind fun x8 =>
   bif x8 then (bif (decide (i1=0)) then (grd (InR (i1+1)) <|
   AN l2 n (true,(i1+1))) else (grd (InR (i1 - 1)) <|
   (idx ([]++l2) (i1 - 1)).bind fun x9 =>
   (idx ([]++l2) i1).bind fun x10 =>
   grd (InR (i1+1)) <|
   AN l2 n ((Op.bytesLess x9 x10),(i1+1)))) else (grd (InR (i1+1)) <|
   AN l2 n (false,(i1+1)))) else (grd (InR (i1+1)) <|
   AN l2 n (false,(i1+1)))
  else
   some ok2
noncomputable def DJ (names1:(List (List UInt8))) (l1:(List ATy)):Option Bool:=
 (Gg l1 3).bind fun x1 =>
 (sli names1 0 (if 4<(names1.length:Int) then 4 else (names1.length:Int))).bind fun l2 =>
 grd ((0+l2.length)*16<=140737488355328) <|
 grd ((0+([]++l2).length)*16<=140737488355328) <|
 (Gg x1 3).bind fun x2 =>
 (Co ([]++([]++l2)) x2).bind fun (x3,x4) =>
 (F8 x1).bind fun x5 =>
 bif (!decide (x5=0)) then
  (bif ((decide (x4=x5))&&(decide ((x3.l.length:Int)=0))) then ((Ez).bind fun x6 =>
  some x6) else (some false)).bind fun p1 =>
  some p1
 else
  (AN l2 FU ((decide ((([]++l2).length:Int)=(x1.length:Int))),0):Option Bool).bind fun ok1 =>
  bif (!ok1) then
   (bif ((decide (x4=2))&&(decide ((x3.l.length:Int)=0))) then ((Ez).bind fun x11 =>
   some x11) else (some false)).bind fun p2 =>
   some p2
  else
   bif (decide (x4=0)) then ((Fo ([]++l2) x1).bind fun x12 =>
   (Dm (⟨x3.l,x3.root⟩:ATy) x12).bind fun x13 =>
   bif x13 then ((Ez).bind fun x14 =>
   some x14) else (some false)) else (some false)
theorem w_lo_BoundRecords {names1:(List (List UInt8))} {l1:(List ATy)} {r_1:Bool} (hm:DJ names1 l1=some r_1):Fn0 Tryz.prog 13 [.list 1 D.str names1,.list 2 ATy.d l1] (.bool r_1):=by
 unfold DJ at hm;refine Ad func13 rfl ntmps13 rfl fun H0 fr w0=>?_;refine zq7 ?_;obtain ⟨x1,hx1,hm⟩:=bS hm;refine zc0 (NR hx1) ?_;refine zq4 ?_;refine Av rfl rfl rfl (Aq (xs:=[]) (f:=D.str) (l:=[]) runUnderlying65 sizeOf9 zeroValue9 rfl rfl rfl (fun _=>⟨rfl,rfl,rfl⟩) rfl (by simp [maxLen])) ?_;rintro _ _ ⟨a_r1,rfl,rfl⟩;refine zq3 ?_;refine Af rfl rfl rfl (TM rfl rfl) ?_;obtain ⟨l2,hx2,hm⟩:=bS hm;refine Af rfl rfl rfl (Ba runUnderlying65 sizeOf9 rfl rfl ⟨_,rfl⟩ hx2) ?_;obtain ⟨hg3,hm⟩:=Aa hm;refine zap 0 hg3 fun a_r1 cap_r1=>?_;refine Ag (ms':=[_]) rfl ?_;refine zq4 ?_;refine Av rfl rfl rfl (Aq (xs:=[]) (f:=D.str) (l:=[]) runUnderlying65 sizeOf9 zeroValue9 rfl rfl rfl (fun _=>⟨rfl,rfl,rfl⟩) rfl (by simp [maxLen])) ?_;rintro _ _ ⟨a_r2,rfl,rfl⟩;refine zq1 ?_;obtain ⟨hg4,hm⟩:=Aa hm;refine Av rfl rfl rfl (.view (peekE (i:=21) 1 rfl rfl rfl) (Bw (a:=_) 0 underlying65 type9 rfl rfl rfl rfl rfl rfl rfl (fun _=>rfl) (fun _=>rfl) hg4 (A2 hg4 rfl))) ?_;rintro _ _ ⟨a_r2,cap_r2,rfl,rfl⟩;refine Ag (ms':=[_,_]) rfl ?_;refine zq1 ?_;obtain ⟨x2,hx5,hm⟩:=bS hm;refine zc0 (NR hx5) ?_;obtain ⟨⟨x3,x4⟩,hx6,hm⟩:=bS hm;refine Af rfl rfl rfl (.view (peekE (i:=22) 0 rfl rfl rfl) (AY call50 rfl (LB hx6))) ?_;refine zq3 ?_;refine BI fun b3=>?_;refine zst 0 ?_;refine Ag (ms':=[box b3 24 [_,_],_,_]) rfl ?_;refine zq6 ?_;obtain ⟨x5,hx7,hm⟩:=bS hm;refine zc0 (O9 hx7) ?_;refine zq7 ?_;refine zcn hm (fun hc1 hm=>?_) (fun hc1 hm=>?_)
 ·refine zq6 ?_
  apply Bo [] 5 40 (t:=35) trivial rfl
  ·intro hg_1 hk1
   refine zq5 ?_;exact zgm hk1
  ·intro hg_1 hk1
   refine zq5 ?_;exact zgm hk1
  refine zq1 ?_;obtain ⟨p1,hp_2,hm⟩:=bS hm;refine AL [] 2 43 p1 (t:=41) trivial rfl (fun hg_2 hk2=>?_) (fun hg_2 hk2=>?_) ?_
  ·replace hp_2:=AO hg_2 hp_2
   obtain ⟨x6,hx8,hp_2⟩:=bS hp_2;refine zcw (Ja hx8) ?_;refine zq1 ?_;exact zgb hk2 hp_2
  ·replace hp_2:=AP hg_2 hp_2
   refine zq2 ?_;exact zgb hk2 hp_2
  refine zq2 ?_
  cases hm;exact Ae zr1
 ·refine zq4 ?_
  refine Af rfl rfl rfl (.view (peekE (i:=44) 2 rfl rfl rfl) (EF runUnderlying65 rfl)) ?_;refine zq10 ?_;obtain ⟨o_1,hj1,hm1⟩:=bS hm;refine Ak [(0,_),(1,_),(5,_),(6,_)] [(0,_),(1,_),(2,_)] (fun (st:Bool) (hid:Unit)=>match st,hid with | ok1,_=>[(8,.bool ok1)]) (fun F (st:Bool) (hid:Unit)=>match st,hid with | ok1,_=>[(nthF F 0),(nthF F 1),(nthF F 2)]) (fun st=>st=o_1) ⟨rfl,rfl,rfl,rfl,trivial⟩ ⟨rfl,rfl,rfl,trivial⟩ ?_ ?_
  ·refine Aj ?_
   refine Ai [(0,_),(1,_),(5,_),(6,_)] [(0,_),(1,_),(2,_)] (fun (st:(Bool×Int)) (hid:Unit)=>match st,hid with | (ok2,i1),_=>[(8,.bool ok2),(9,.i64 i1)]) (fun F (st:(Bool×Int)) (hid:Unit)=>match st,hid with | (ok2,i1),_=>[(nthF F 0),(nthF F 1),(nthF F 2)]) () hj1 (fun _=>rfl) ⟨rfl,rfl,rfl,rfl,trivial⟩ ⟨rfl,rfl,rfl,trivial⟩ ⟨rfl,rfl,trivial⟩ rfl ?_;rintro n ⟨ok2,i1⟩ _ hj1;rw [AN] at hj1;refine Ar (L':=[(8,.bool ok2),(9,.i64 i1),(0,_),(1,_),(5,_),(6,_)]) (ms':=[_,_,_]) rfl rfl ?_;refine zq5 ?_;refine Af rfl rfl rfl (.view (peekE (i:=50) 2 rfl rfl rfl) (EF runUnderlying65 rfl)) ?_;refine zq2 ?_;refine zcn hj1 (fun hc2 hj1=>?_) (fun hc2 hj1=>?_)
   ·refine zq3 ?_
    rcases Cj hj1 with ⟨hg_3,hj1⟩ | ⟨hg_3,hj1⟩
    ·
     skip
     obtain ⟨x7,hx9,hj1⟩:=bS hj1;obtain ⟨x8,hx10,hj1⟩:=bS hj1
     rcases Cj hj1 with ⟨hg_4,hj1⟩ | ⟨hg_4,hj1⟩
     ·
      skip
      rcases Cj hj1 with ⟨hg_5,hj1⟩ | ⟨hg_5,hj1⟩
      ·
       skip
       refine zdr 25 ?_;refine zq4 ?_;refine Ei rfl rfl rfl hg_3 rfl rfl (.view (peekE (i:=57) 2 rfl rfl rfl) (oIm runUnderlying65 sizeOf9 rfl rfl hx9)) ?_;refine zq1 ?_;refine zce (IP hx10) ?_;refine zq22 ?_;obtain ⟨hg11,hj1⟩:=Aa hj1;refine zq3 ?_;exact ⟨_,(),hj1,⟨rfl,rfl,trivial⟩,⟨rfl,rfl,rfl,rfl,trivial⟩,[],rfl⟩
      ·
       skip
       obtain ⟨hg12,hj1⟩:=Aa hj1;obtain ⟨x9,hx13,hj1⟩:=bS hj1;obtain ⟨x10,hx14,hj1⟩:=bS hj1;refine zdr 25 ?_;refine zq4 ?_;refine Ei rfl rfl rfl hg_3 rfl rfl (.view (peekE (i:=57) 2 rfl rfl rfl) (oIm runUnderlying65 sizeOf9 rfl rfl hx9)) ?_;refine zq1 ?_;refine zce (IP hx10) ?_;refine zq8 ?_;refine Ei rfl rfl rfl hg_5 rfl rfl (.view (peekE (i:=67) 2 rfl rfl rfl) (oIm runUnderlying65 sizeOf9 rfl rfl hx13)) ?_;refine zq3 ?_;refine Ei rfl rfl rfl hg_5 rfl rfl (.view (peekE (i:=72) 2 rfl rfl rfl) (oIm runUnderlying65 sizeOf9 rfl rfl hx14)) ?_;refine zq9 ?_;obtain ⟨hg15,hj1⟩:=Aa hj1;refine zq3 ?_;exact ⟨_,(),hj1,⟨rfl,rfl,trivial⟩,⟨rfl,rfl,rfl,rfl,trivial⟩,[],rfl⟩
     ·
      skip
      refine zdr 25 ?_;refine zq4 ?_;refine Ei rfl rfl rfl hg_3 rfl rfl (.view (peekE (i:=57) 2 rfl rfl rfl) (oIm runUnderlying65 sizeOf9 rfl rfl hx9)) ?_;refine zq1 ?_;refine zce (IP hx10) ?_;refine zq22 ?_;obtain ⟨hg16,hj1⟩:=Aa hj1;refine zq3 ?_;exact ⟨_,(),hj1,⟨rfl,rfl,trivial⟩,⟨rfl,rfl,rfl,rfl,trivial⟩,[],rfl⟩
    ·
     skip
     refine zdr 25 ?_;refine zq29 ?_;obtain ⟨hg17,hj1⟩:=Aa hj1;refine zq3 ?_;exact ⟨_,(),hj1,⟨rfl,rfl,trivial⟩,⟨rfl,rfl,rfl,rfl,trivial⟩,[],rfl⟩
   ·refine Ao ?_
    exact ⟨_,(),Ac hj1,⟨rfl,trivial⟩,⟨rfl,rfl,rfl,rfl,trivial⟩,[],rfl⟩
  ·rintro ok1 _ hst
   subst hst;refine An (L':=[(8,.bool ok1),(0,_),(1,_),(5,_),(6,_)]) (ms':=[_,_,_]) rfl rfl ?_;refine zq6 ?_;refine zcn hm1 (fun hc3 hm1=>?_) (fun hc3 hm1=>?_)
   ·refine zq5 ?_
    apply Bo [] 5 88 (t:=83) trivial rfl
    ·intro hg_6 hk6
     refine zq5 ?_;exact zgm hk6
    ·intro hg_6 hk6
     refine zq5 ?_;exact zgm hk6
    refine zq1 ?_;obtain ⟨p2,hp_7,hm1⟩:=bS hm1;refine AL [] 2 91 p2 (t:=89) trivial rfl (fun hg_7 hk7=>?_) (fun hg_7 hk7=>?_) ?_
    ·replace hp_7:=AO hg_7 hp_7
     obtain ⟨x11,hx18,hp_7⟩:=bS hp_7;refine zcw (Ja hx18) ?_;refine zq1 ?_;exact zgb hk7 hp_7
    ·replace hp_7:=AP hg_7 hp_7
     refine zq2 ?_;exact zgb hk7 hp_7
    refine zq2 ?_
    cases hm1;exact Ae zr1
   ·refine zq2 ?_
    rcases Cj hm1 with ⟨hg_8,hm1⟩ | ⟨hg_8,hm1⟩
    ·
     skip
     obtain ⟨x12,hx19,hm1⟩:=bS hm1;obtain ⟨x13,hx20,hm1⟩:=bS hm1
     rcases Cj hm1 with ⟨hg_9,hm1⟩ | ⟨hg_9,hm1⟩
     ·
      skip
      obtain ⟨x14,hx21,hm1⟩:=bS hm1;refine zdr 13 ?_;refine zq6 ?_;refine Ei rfl rfl rfl hg_8 rfl rfl (.view (peekE (i:=96) 2 rfl rfl rfl) (AY call52 rfl (Kp hx19))) ?_;refine zce (Ln hx20) ?_;refine zq2 ?_;refine zce (Ja hx21) ?_;refine zq4 ?_
      cases hm1;exact Ae zr1
     ·
      skip
      refine zdr 13 ?_;refine zq6 ?_;refine Ei rfl rfl rfl hg_8 rfl rfl (.view (peekE (i:=96) 2 rfl rfl rfl) (AY call52 rfl (Kp hx19))) ?_;refine zce (Ln hx20) ?_;refine zq7 ?_
      cases hm1;exact Ae zr1
    ·
     skip
     refine zdr 13 ?_;refine zq15 ?_
     cases hm1;exact Ae zr1
end Go.Proofs.YtkfnogdccpcmhaaGreatDoor
namespace Go.Proofs.YtkfnogdccpcmhaaGreatDoor
open Go.V Tryz
open Classical
theorem Qb (x:List Int) (hx:x.length<=1000):∀ (n q:Nat) (l:List Int),q<=x.length->q<n->l.length+q<=1000000000->DD x n ((q:Int) - 1,l)=some (l++(x.take q).reverse)
 | 0,q,l,_,h,_=>by omega
 | n+1,0,l,_,_,_=>by
  simp only [DD];rw [dF (by omega),cF_];simp
 | n+1,q+1,l,hq,hn,hl=>by
  have hxq:x[q]? = some x[q]:=List.getElem?_eq_getElem (by omega)
  simp only [DD];rw [dT (by omega),cT,show (((q+1:Nat):Int) - 1)=(q:Int) by omega,getI hxq,oB,Ab (by simp only [List.length_cons,List.length_nil];omega),Ab (by omega),Qb x hx n q (l++[x[q]]) (by omega) (by omega) (by simp only [List.length_append,List.length_cons,List.length_nil];omega)];rw [List.take_succ_eq_append_getElem (by omega),List.reverse_append]
  simp
theorem QS (l:List Int) (x:Int) (h:l.length<=1000000000):Fi l x=some (decide (x∈l)):=by
 unfold Fi;rw [HZ (φ:=C9 l x) (l:=l) true (fun _ k=>k=x) ?_ ?_ (by rw [FUv];omega),oB]
 ·have e:(∃ (i:Nat) (y:Int),l[i]? = some y/\y=x)↔x∈l:=by
   constructor
   ·rintro ⟨i,y,h1,rfl⟩;exact List.mem_of_getElem? h1
   ·intro h1;obtain ⟨i,hi⟩:=List.getElem?_of_mem h1;exact ⟨i,x,hi,rfl⟩
  by_cases h2:x∈l
  ·rw [if_pos (e.2 h2),dT h2];rfl
  ·rw [if_neg (fun h3=>h2 (e.1 h3)),dF h2];rfl
 ·intro n i y hy hi
  simp only [C9];rw [dT (show (i:Int)<l.length by omega),cT,getI hy,oB]
  by_cases h2:y=x
  ·rw [dT h2];exact ⟨fun h=>absurd h2 h,fun _=>rfl⟩
  ·rw [dF h2];exact ⟨fun _=>by rw [cF_,Ab (by omega)],fun h=>absurd h h2⟩
 ·intro n
  simp only [C9];rw [dF (by omega),cF_]
theorem Ik {t:ATy} (hR:InL t.l) (hN:∀ n∈t.l,NB n) (hlen:t.l.length<=2001):∀ (n:Nat) (s out:List Int) (seen:List Bool),(∀ x∈s,0<=x/\x<(t.l.length:Int))->seen.length=t.l.length ->
  (∀ i:Nat,seen[i]? = some true↔((i:Int)∈out/\i<t.l.length))->out.length+s.length+wt (kat t.l) t.l.length out<=100000000->s.length+wt (kat t.l) t.l.length out<n ->
  ∃ ys,DK t n (s.reverse,seen)=some ys/\dfs (kat t.l) n s out=out++ys/\Cb t n (s.reverse,out)=some ([],out++ys)
 | 0,s,out,seen,_,_,_,_,h=>by omega
 | n+1,[],out,seen,_,_,_,_,_=>by
  refine ⟨[],?_,by simp [dfs],?_⟩
  ·simp only [DK,List.reverse_nil,List.length_nil];rfl
  ·simp only [Cb,List.reverse_nil,List.length_nil,List.append_nil];rfl
 | n+1,x::s,out,seen,hs,hsl,hse,hB,hn=>by
  obtain ⟨x0,x1⟩:=hs x (by simp);obtain ⟨i,rfl⟩:=Int.eq_ofNat_of_zero_le x0
  have hi:i<t.l.length:=by omega
  have hx:t.l[i]? = some t.l[i]:=List.getElem?_eq_getElem hi
  have hv:seen[i]? = some (seen[i]'(by omega)):=List.getElem?_eq_getElem (by omega)
  have hk:kat t.l (i:Int)=kidsL t.l[i]:=by unfold kat;rw [Int.toNat_natCast,hx]
  have hkl:=P3 hN (i:Int)
  have hNi:=hN _ (List.getElem_mem hi)
  simp only [List.length_cons] at hB hn;rw [List.reverse_cons]
  have hl1:(s.reverse++[(i:Int)]).length=s.length+1:=by simp
  simp only [DK,Cb];rw [dT (show (0:Int)<((s.reverse++[(i:Int)]).length:Int) by rw [hl1];omega),cT,Ab (by rw [hl1];omega),lastI,oB,Ab (by rw [hl1];omega),initI,oB,getI hv,oB,cT,Ab (by rw [hl1];omega),oB,oB,Ab (by rw [hl1];omega),oB,QS out _ (by omega),oB]
  have hd:dfs (kat t.l) (n+1) ((i:Int)::s) out=if (i:Int)∈out then dfs (kat t.l) n s out else dfs (kat t.l) n (kat t.l i++s) (out++[(i:Int)]):=rfl
  rw [hd]
  by_cases ho:(i:Int)∈out
  ·have h1:seen[i]'(by omega)=true:=by have:=(hse i).2 ⟨ho,hi⟩;rw [hv] at this;exact Option.some.inj this
   rw [h1,cT,if_pos ho,dT ho,cT];exact Ik hR hN hlen n s out seen (fun x hx=>hs x (by simp [hx])) hsl hse (by omega) (by omega)
  ·have h1:seen[i]'(by omega)=false:=by
    cases hq:seen[i]'(by omega) with
    | false=>rfl
    | true=>exact absurd ((hse i).1 (by rw [hv,hq])).1 ho
   have hw:=RZ (K:=kat t.l) hi ho
   obtain ⟨ys,e1,e2,e3⟩:=Ik hR hN hlen n (kat t.l i++s) (out++[(i:Int)]) (seen.set i true) (fun y hy=>by
    rcases List.mem_append.1 hy with hy | hy
    ·exact Pw hR _ _ hy
    ·exact hs y (by simp [hy])) (by simpa using hsl) (fun j=>by
    rw [List.getElem?_set]
    by_cases hij:i=j
    ·subst hij;simp;omega
    ·rw [if_neg hij,hse j];simp;omega) (by simp only [List.length_append,List.length_cons,List.length_nil];omega) (by simp only [List.length_append];omega)
   rw [h1,cF_,if_neg ho,dF ho,cF_,getI hx,oB,NC _ hNi,oB,<- hk,Ab (by omega),Py _ (by omega),oB,Ab (by simp only [List.length_reverse];omega),Int.toNat_natCast];refine ⟨(i:Int)::ys,?_,by rw [e2];simp,?_⟩
   ·rw [List.reverse_append] at e1
    rw [e1];rfl
   ·rw [Ab (by simp only [List.length_cons,List.length_nil];omega),oB,K5 _ hNi,oB,<- hk,Ab (by omega),Qb _ (by omega) FU _ _ (Nat.le_refl _) (by rw [FUv];omega) (by simp only [List.length_reverse];omega),oB,List.take_length]
    rw [List.reverse_append] at e3;rw [e3];simp
theorem L0 {t:ATy} (hR:InL t.l) (hN:∀ n∈t.l,NB n) (hlen:t.l.length<=2001) {root:Int} (h0:0<=root) (h1:root<(t.l.length:Int)) :
  Hm t root=some (AJ t.l root)/\Gh t root=some (AJ t.l root):=by
 have hw:=Ot hN []
 obtain ⟨ys,e1,e2,e3⟩:=Ik hR hN hlen FU [root] [] (List.replicate t.l.length false) (fun x hx=>by simp at hx;subst hx;exact ⟨h0,h1⟩) (by simp) (fun i=>by rw [List.getElem?_replicate];split <;> simp) (by simp only [List.length_cons,List.length_nil];omega) (by rw [FUv];simp only [List.length_cons,List.length_nil];omega);rw [List.nil_append] at e2 e3
 constructor
 ·unfold Hm
  rw [Ab (by omega),Ab (by omega),Int.toNat_natCast]
  show DK t FU ([root].reverse,_)=_
  rw [e1,AJ,e2]
 ·unfold Gh
  show (Cb t FU ([root].reverse,[])).bind _=_
  rw [e3,AJ,e2];rfl
def Bv (L:List ANd) (x:Int):ANd:=match L[x.toNat]? with
 | some n=>n
 | none=>⟨0,0,0,[]⟩
noncomputable def posOf (B:List Int) (k:Int):Int:=if k∈B then ((B.idxOf k:Nat):Int) else 0
theorem F9 {L:List ANd} {x:Int} (h0:0<=x) (h1:x<(L.length:Int)):idx L x=some (Bv L x)/\Bv L x∈L:=by
 have hn:L[x.toNat]? = some (L[x.toNat]'(by omega)):=List.getElem?_eq_getElem (by omega)
 unfold Bv idx;rw [if_pos h0,hn];exact ⟨rfl,List.getElem_mem _⟩
theorem OO:∀ (xs l:List Int) (mm:List (Int×Int)),xs.Nodup->l.length+xs.length<=1000000->∃ mm',B4 xs (l,mm)=some (l++xs,mm')/\∀ k,mget mm' k=if k∈xs then some (((l.length+xs.idxOf k:Nat)):Int) else mget mm k
 | [],l,mm,_,_=>⟨mm,by simp [B4],fun k=>by simp⟩
 | x::xs,l,mm,hn,hl=>by
  rw [List.nodup_cons] at hn;simp only [List.length_cons] at hl;obtain ⟨mm',e1,e2⟩:=OO xs (l++[x]) (mset mm x (l.length:Int)) hn.2 (by simp only [List.length_append,List.length_cons,List.length_nil];omega);refine ⟨mm',?_,fun k=>?_⟩
  ·unfold B4
   rw [Ab (by simp only [List.length_cons,List.length_nil];omega),e1];simp
  ·rw [e2 k,Jt]
   by_cases hk:k∈xs
   ·have hkx:¬ x=k:=fun e=>hn.1 (e▸hk)
    rw [if_pos hk,if_pos (by simp [hk]),List.idxOf_cons]
    have:(x == k)=false:=by simp [hkx]
    rw [this];simp only [List.length_append,List.length_cons,List.length_nil,cF_]
    congr 2;omega
   ·rw [if_neg hk]
    by_cases hkx:k=x
    ·subst hkx
     rw [if_pos rfl,if_pos (by simp),List.idxOf_cons]
     simp
    ·rw [if_neg hkx,if_neg (by simp [hk,hkx])]
noncomputable def normL (L:List ANd) (root:Int):List ANd:=(AJ L root).map (fun x=>At (posOf (AJ L root)) (Bv L x))
theorem SK {t:ATy} (hA:Bk t.l) (hN:∀ n∈t.l,NB n) (hlen:t.l.length<=2001) {root:Int} (h0:0<=root) (h1:root<(t.l.length:Int)):EX t root=some ⟨normL t.l root,0⟩:=by
 obtain ⟨b1,b2,b3⟩:=CG (AI hA) h0 h1;unfold EX;rw [(L0 (AI hA) hN hlen h0 h1).1,oB]
 generalize hB:AJ t.l root=B at *
 obtain ⟨mm,e1,e2⟩:=OO B [] [] b2 (by simp only [List.length_nil];omega);rw [List.nil_append] at e1;rw [e1,oB]
 dsimp only
 have hp:∀ k,DP k mm=some (posOf B k):=by
  intro k
  unfold DP posOf;rw [e2 k]
  by_cases hk:k∈B
  ·rw [if_pos hk,if_pos hk];simp
  ·rw [if_neg hk,if_neg hk];rfl
 rw [CI (φ:=fun n i s=>Cw t B mm n (i,s,0)) (l:=B) (fun x=>At (posOf B) (Bv t.l x)) (fun s=>(s,0)) 0 ?_ ?_ (by rw [FUv];omega) [] rfl]
 ·rw [oB]
  dsimp only
  unfold normL;rw [hB];rfl
 ·intro n i x s hx hi hs
  obtain ⟨x0,x1⟩:=b1 x (List.mem_of_getElem? hx);obtain ⟨ix,hm⟩:=F9 x0 x1;simp only [Cw];rw [dT (show (i:Int)<B.length by omega),cT,getI hx,oB,ix,oB,LJ _ _ (posOf B) (hN _ hm) (fun _=>⟨hp _,hp _⟩) (fun y _=>hp _),oB,Ab (by simp only [List.length_cons,List.length_nil];omega),Ab (by omega)]
 ·intro n s hs
  simp only [Cw];rw [dF (by omega),cF_]
end Go.Proofs.YtkfnogdccpcmhaaGreatDoor
namespace Go.Proofs.YtkfnogdccpcmhaaGreatDoor
open Go.V Tryz
open Classical
theorem Ro (n:ANd) (all:Int) (f:Int->Int) (h:NB n) (hr:Bn n all=true):GL n ((kidsL n).map f)=some (At f n):=by
 have hz:(!((!pB n.kind)&&((!decide (n.b=0))||((!decide (n.kind=11))&&(!decide (n.a=0))))))=true:=by
  unfold Bn at hr;simp only [Bool.and_eq_true] at hr;exact hr.2.1
 have hlen:n.l.length<=40:=h
 have key:∀ z1 z2 z3,Dl n ((kidsL n).map f) FU (0,[],z1,z2,z3)=some (n.l.map (fun x=>⟨x.name,f x.at_⟩),z1,z2,z3):=by
  intro z1 z2 z3
  rw [CI (φ:=fun m i s=>Dl n ((kidsL n).map f) m (i,s,z1,z2,z3)) (l:=n.l) (fun x=>(⟨x.name,f x.at_⟩:AFd)) (fun s=>(s,z1,z2,z3)) 0 ?_ ?_ (by rw [FUv];omega) [] rfl]
  ·rfl
  ·intro m i x s hx hi hs
   have hw:wB n.kind=true:=by
    cases hw:wB n.kind with
    | true=>rfl
    | false=>rw [Je hr hw] at hx;simp at hx
   have hk:kidsL n=n.l.map (·.at_):=by unfold kidsL;rw [Rs hw,cF_,hw,cT]
   have hy:((kidsL n).map f)[i]? = some (f x.at_):=by rw [hk,List.getElem?_map,List.getElem?_map,hx];rfl
   simp only [Dl];rw [dT (show (i:Int)<n.l.length by omega),cT,getI hx,oB,getI hy,oB,Ab (by simp only [List.length_cons,List.length_nil];omega),Ab (by omega)]
  ·intro m s hs
   simp only [Dl];rw [dF (by omega),cF_]
 unfold GL At
 change ((bif decide (n.kind=11) then _ else _:Option ((List AFd)×Int×Int×Int)).bind fun q=>(bif pB n.kind then _ else _:Option ((List AFd)×Int×Int×Int)).bind _)=_
 cases hp:pB n.kind with
 | true =>
  have h11:¬ n.kind=11:=fun e=>by rw [e] at hp;exact absurd hp (by decide)
  have hk:kidsL n=[n.a,n.b]:=by unfold kidsL;rw [hp,cT]
  rw [dF h11,cF_,oB]
  dsimp only
  rw [cT,show idx ((kidsL n).map f) 0=some (f n.a) by rw [hk];rfl,oB,show idx ((kidsL n).map f) 1=some (f n.b) by rw [hk];rfl,oB,oB]
  dsimp only
  rw [key,oB];rfl
 | false =>
  rw [hp] at hz;simp only [Bool.not_false,Bool.true_and,Bool.not_eq_true',Bool.or_eq_false_iff,Bool.and_eq_false_iff,decide_eq_true_eq,Bool.not_eq_false'] at hz;obtain ⟨hb,ha⟩:=hz
  by_cases h11:n.kind=11
  ·rw [dT h11,cT,oB]
   dsimp only
   rw [cF_,oB]
   dsimp only
   rw [key,oB,hb];rfl
  ·have ha0:n.a=0:=by
    rcases ha with ha | ha
    ·exact absurd ha h11
    ·exact ha
   rw [dF h11,cF_,oB]
   dsimp only
   rw [cF_,oB]
   dsimp only
   rw [key,oB,hb,ha0];rfl
theorem Mo {B:List Int} {i:Nat} {x:Int} (hn:B.Nodup) (hx:B[i]? = some x):B.idxOf x=i:=by
 have hi:=getLt hx
 have e:B[i]=x:=by rw [List.getElem?_eq_getElem hi] at hx;exact Option.some.inj hx
 rw [<- e];exact List.Nodup.idxOf_getElem hn i hi
theorem Rd (B:List Int) (len:Nat) (hn:B.Nodup) (hB:∀ x∈B,0<=x/\x<(len:Int)) (hl:B.length<=2001) :
  ∃ A,Dr B FU (0,List.replicate len 0)=some A/\A.length=len/\∀ k:Nat,k<len->A[k]? = some (posOf B (k:Int)):=by
 obtain ⟨A,e1,e2,e3⟩:=AR (φ:=fun n i s=>Dr B n (i,s)) (l:=B)
  (fun i s=>s.length=len/\∀ k:Nat,k<len->s[k]? = some (if (k:Int)∈B.take i then ((B.idxOf (k:Int):Nat):Int) else 0))
  (fun A=>A.length=len/\∀ k:Nat,k<len->A[k]? = some (posOf B (k:Int)))
  (by
   rintro n i x s hx hi ⟨s1,s2⟩;obtain ⟨x0,x1⟩:=hB x (List.mem_of_getElem? hx);obtain ⟨a,rfl⟩:=Int.eq_ofNat_of_zero_le x0
   have ha:a<len:=by omega
   have hy:s[a]? = some (s[a]'(by omega)):=List.getElem?_eq_getElem (by omega)
   refine .inl ⟨s.set a (i:Int),?_,by simpa using s1,fun k hk=>?_⟩
   ·simp only [Dr]
    rw [dT (show (i:Int)<B.length by omega),cT,getI hx,oB,getI hy,oB,Ab (by omega),Int.toNat_natCast]
   ·have hBi:B[i]=(a:Int):=by rw [List.getElem?_eq_getElem hi] at hx;exact Option.some.inj hx
    rw [List.take_succ_eq_append_getElem hi,hBi]
    by_cases hka:k=a
    ·subst hka
     rw [List.getElem?_set_self (by omega),if_pos (by simp),Mo hn hx]
    ·rw [List.getElem?_set_ne (by omega),s2 k hk]
     have e:((k:Int)∈B.take i++[(a:Int)])↔(k:Int)∈B.take i:=by simp;omega
     by_cases h:(k:Int)∈B.take i
     ·rw [if_pos h,if_pos (e.2 h)]
     ·rw [if_neg h,if_neg (fun h2=>h (e.1 h2))])
  (by
   rintro n s ⟨s1,s2⟩;refine ⟨s,?_,s1,fun k hk=>?_⟩
   ·simp only [Dr]
    rw [dF (by omega),cF_]
   ·rw [s2 k hk,List.take_length];rfl) (by rw [FUv];omega) (List.replicate len 0) ⟨by simp,fun k hk=>by simp [hk]⟩
 exact ⟨A,e1,e2,e3⟩
theorem Pp (A ks:List Int) (f:Int->Int) (hk:∀ k∈ks,idx A k=some (f k)) (hl:ks.length<=1000):Di A ks FU (0,[])=some (ks.map f):=by
 rw [CI (φ:=fun n i s=>Di A ks n (i,s)) (l:=ks) f id 0 ?_ ?_ (by rw [FUv];omega) [] rfl]
 ·rfl
 ·intro n i x s hx hi hs
  simp only [Di];rw [dT (show (i:Int)<ks.length by omega),cT,getI hx,oB,hk x (List.mem_of_getElem? hx),oB,Ab (by simp only [List.length_cons,List.length_nil];omega),Ab (by omega)]
 ·intro n s hs
  simp only [Di];rw [dF (by omega),cF_];rfl
theorem Sz {t:ATy} (hA:Bk t.l) (hN:∀ n∈t.l,NB n) (hlen:t.l.length<=2001) {root:Int} (h0:0<=root) (h1:root<(t.l.length:Int)):GZ t root=some ⟨normL t.l root,0⟩:=by
 obtain ⟨b1,b2,b3⟩:=CG (AI hA) h0 h1;unfold GZ;rw [(L0 (AI hA) hN hlen h0 h1).2,oB,Ab (by omega),Ab (by omega),Int.toNat_natCast]
 generalize hB:AJ t.l root=B at *
 obtain ⟨A,a1,a2,a3⟩:=Rd B t.l.length b2 b1 (by omega);rw [a1,oB]
 have hp:∀ k,0<=k->k<(t.l.length:Int)->idx A k=some (posOf B k):=by
  intro k k0 k1
  obtain ⟨q,rfl⟩:=Int.eq_ofNat_of_zero_le k0;exact getI (a3 q (by omega))
 rw [CI (φ:=fun n i s=>D1 t B A n (i,s,0)) (l:=B) (fun x=>At (posOf B) (Bv t.l x)) (fun s=>(s,0)) 0 ?_ ?_ (by rw [FUv];omega) [] rfl]
 ·rw [oB]
  dsimp only
  unfold normL;rw [hB];rfl
 ·intro n i x s hx hi hs
  obtain ⟨x0,x1⟩:=b1 x (List.mem_of_getElem? hx);obtain ⟨ix,hm⟩:=F9 x0 x1
  have hr:=hA _ hm
  have hkl:=G6 _ (hN _ hm)
  simp only [D1];rw [dT (show (i:Int)<B.length by omega),cT,getI hx,oB,ix,oB,K5 _ (hN _ hm),oB,Pp A _ (posOf B) (fun k hk=>by
   obtain ⟨k0,k1⟩:=JI hr k hk;exact hp k k0 k1) (by omega),oB,oB,ix,oB,Ro _ _ (posOf B) (hN _ hm) hr,oB,Ab (by simp only [List.length_cons,List.length_nil];omega),Ab (by omega)]
 ·intro n s hs
  simp only [D1];rw [dF (by omega),cF_]
end Go.Proofs.YtkfnogdccpcmhaaGreatDoor
namespace Go.Proofs.YtkfnogdccpcmhaaGreatDoor
open Go.V Tryz
open Classical
theorem LP {L:List ANd} (hR:InL L) (hN:∀ n∈L,NB n) {root:Int} (h0:0<=root) (h1:root<(L.length:Int)):(∀ n∈normL L root,NB n)/\(normL L root).length<=L.length:=by
 obtain ⟨b1,b2,b3⟩:=CG hR h0 h1;unfold normL;refine ⟨fun n hn=>?_,by rw [List.length_map];exact b3⟩;obtain ⟨x,hx,rfl⟩:=List.mem_map.1 hn;obtain ⟨x0,x1⟩:=b1 x hx;exact Mt (hN _ (F9 x0 x1).2)
noncomputable def normT (t:ATy):ATy×Int:=if mayT t.l t.root=0 then (⟨normL t.l t.root,0⟩,0) else (⟨[],0⟩,mayT t.l t.root)
theorem SU (t:ATy) (hlen:t.l.length<=2001) (hN:∀ n∈t.l,NB n):CM t=some (normT t):=by
 unfold CM normT;rw [Le t hlen hN,oB]
 by_cases h:mayT t.l t.root=0
 ·obtain ⟨_,_,r0,r1,hA,_⟩:=Ev h
  rw [dT h,if_pos h,Bool.not_true,cF_,SK hA hN hlen r0 r1,oB]
 ·rw [dF h,if_neg h];rfl
theorem SI {t:ATy} (hlen:t.l.length<=2001) (hN:∀ n∈t.l,NB n) (h:mayT t.l t.root=0):CM t=some (⟨normL t.l t.root,0⟩,0):=by
 rw [SU t hlen hN];unfold normT;rw [if_pos h]
end Go.Proofs.YtkfnogdccpcmhaaGreatDoor
namespace Go.Proofs.YtkfnogdccpcmhaaGreatDoor
open Go.V Tryz
open Classical
theorem Kk (f:Int->Int) (n:ANd):kidsL (At f n)=(kidsL n).map f:=by
 unfold kidsL At
 dsimp only
 cases pB n.kind
 ·cases wB n.kind
  ·rfl
  ·simp only [cF_,cT,List.map_map];rfl
 ·rfl
theorem G7 (f g:Int->Int) (n:ANd):At f (At g n)=At (fun k=>f (g k)) n:=by
 unfold At
 dsimp only
 cases pB n.kind <;> simp [List.map_map,Function.comp_def]
theorem Jw {n:ANd} {all:Int} {f g:Int->Int} (hr:Bn n all=true) (h:∀ k∈kidsL n,f k=g k):At f n=At g n:=by
 have hw:=Je hr
 unfold kidsL at h;unfold At
 cases hp:pB n.kind with
 | true =>
  rw [hp,cT] at h
  have hl:n.l=[]:=hw (by
   cases hq:wB n.kind with
   | false=>rfl
   | true=>rw [Rs hq] at hp;cases hp)
  rw [hl,cT,cT,cT,cT,h n.a (by simp),h n.b (by simp)]
  rfl
 | false =>
  rw [hp,cF_] at h;rw [cF_,cF_,cF_,cF_]
  cases hq:wB n.kind with
  | false=>rw [hw hq];rfl
  | true =>
   rw [hq,cT] at h
   congr 1
   exact List.map_congr_left fun x hx=>by rw [h x.at_ (List.mem_map.2 ⟨x,hx,rfl⟩)]
theorem M5 {n:ANd} {f:Int->Int} (h:ER n):ER (At f n):=by
 intro i x hx
 have hx2:(n.l.map (fun x=>(⟨x.name,f x.at_⟩:AFd)))[i]? = some x:=hx
 rw [List.getElem?_map] at hx2
 cases h0:n.l[i]? with
 | none=>rw [h0] at hx2;cases hx2
 | some x0 =>
  rw [h0] at hx2
  have e:=Option.some.inj hx2
  subst e;obtain ⟨h1,h2⟩:=h i x0 h0;refine ⟨h1,fun hi y hy=>?_⟩
  have hy2:(n.l.map (fun x=>(⟨x.name,f x.at_⟩:AFd)))[i - 1]? = some y:=hy
  rw [List.getElem?_map] at hy2
  cases h3:n.l[i - 1]? with
  | none=>rw [h3] at hy2;cases hy2
  | some y0 =>
   rw [h3] at hy2
   have e:=Option.some.inj hy2
   subst e;exact h2 hi y0 h3
theorem OT {n:ANd} {all all':Int} {f:Int->Int} (h:Bn n all=true) (hf:∀ k∈kidsL n,0<=f k/\f k<all'):Bn (At f n) all'=true:=by
 unfold Bn at h ⊢;simp only [Bool.and_eq_true] at h ⊢;obtain ⟨h1,h2,h3,h4,⟨h5,h6⟩,_⟩:=h;refine ⟨h1,?_,?_,?_,⟨?_,?_⟩,?_⟩
 ·show (!((!pB n.kind)&&((!decide ((At f n).b=0))||((!decide (n.kind=11))&&(!decide ((At f n).a=0))))))=true
  cases hp:pB n.kind with
  | true=>rfl
  | false =>
   rw [hp] at h2;unfold At
   dsimp only
   rw [hp,cF_,cF_];exact h2
 ·show (!(decide (n.kind=11)&&(decide ((At f n).a<0)||decide (999<(At f n).a))))=true
  cases hp:pB n.kind with
  | true =>
   have h11:¬ n.kind=11:=fun e=>by rw [e] at hp;exact absurd hp (by decide)
   rw [dF h11];rfl
  | false =>
   unfold At
   dsimp only
   rw [hp,cF_];exact h3
 ·show (!((!wB n.kind)&&decide (0<((At f n).l.length:Int))))=true
  unfold At;simp only [List.length_map];exact h4
 ·rw [decide_eq_true_eq] at h5 ⊢
  exact M5 h5
 ·unfold At
  simp only [List.length_map];exact h6
 ·rw [Bool.not_eq_true',decide_eq_false_iff_not]
  rintro ⟨k,hk,hb⟩;rw [Kk] at hk;obtain ⟨q,hq,rfl⟩:=List.mem_map.1 hk;obtain ⟨q0,q1⟩:=hf q hq;unfold inB at hb;rw [Bool.or_eq_true,decide_eq_true_eq,decide_eq_true_eq] at hb
  omega
theorem Jk (L:List ANd) (x:Int):kat L x=kidsL (Bv L x):=by
 unfold kat Bv
 cases L[x.toNat]? <;> rfl
theorem Ko {L:List ANd} {x:Int} (h0:0<=x) (h1:x<(L.length:Int)):L[x.toNat]? = some (Bv L x):=by
 have hn:L[x.toNat]? = some (L[x.toNat]'(by omega)):=List.getElem?_eq_getElem (by omega)
 unfold Bv;rw [hn]
structure EmbL (L M:List ANd) (B:List Int) (f:Int->Int):Prop where
 inn:∀ x∈B,0<=x/\x<(L.length:Int)
 closed:∀ x∈B,∀ k∈kidsL (Bv L x),k∈B
 inj:∀ x∈B,∀ y∈B,f x=f y->x=y
 out:∀ x∈B,0<=f x/\f x<(M.length:Int)
 node:∀ x∈B,Bv M (f x)=At f (Bv L x)
theorem FT (K:Int->List Int):∀ (n:Nat) (s out:List Int),∃ ys,dfs K n s out=out++ys
 | 0,s,out=>⟨[],by simp [dfs]⟩
 | n+1,[],out=>⟨[],by simp [dfs]⟩
 | n+1,x::s,out=>by
  unfold dfs
  split
  ·exact FT K n s out
  ·obtain ⟨ys,e⟩:=FT K n (K x++s) (out++[x])
   exact ⟨[x]++ys,by rw [e,List.append_assoc]⟩
theorem I2 {L:List ANd} (hR:InL L):∀ (n:Nat) (s out:List Int),(∀ x∈s,0<=x/\x<(L.length:Int))->s.length+wt (kat L) L.length out<n ->
  (∀ x∈s,x∈dfs (kat L) n s out)/\(∀ x∈dfs (kat L) n s out,x∈out\/∀ k∈kat L x,k∈dfs (kat L) n s out)
 | 0,s,out,_,h=>by omega
 | n+1,[],out,_,_=>⟨fun x hx=>by simp at hx,fun x hx => .inl (by simpa [dfs] using hx)⟩
 | n+1,x::s,out,hs,h=>by
  obtain ⟨x0,x1⟩:=hs x (by simp);simp only [List.length_cons] at h;unfold dfs
  by_cases hx:x∈out
  ·rw [if_pos hx]
   obtain ⟨i1,i2⟩:=I2 hR n s out (fun y hy=>hs y (by simp [hy])) (by omega);obtain ⟨ys,e⟩:=FT (kat L) n s out;refine ⟨fun y hy=>?_,i2⟩
   rcases List.mem_cons.1 hy with rfl | hy
   ·rw [e];exact List.mem_append_left _ hx
   ·exact i1 y hy
  ·rw [if_neg hx]
   obtain ⟨q,rfl⟩:=Int.eq_ofNat_of_zero_le x0
   have hw:=RZ (K:=kat L) (len:=L.length) (out:=out) (i:=q) (by omega) hx
   obtain ⟨i1,i2⟩:=I2 hR n (kat L (q:Int)++s) (out++[(q:Int)]) (fun y hy=>by
    rcases List.mem_append.1 hy with hy | hy
    ·exact Pw hR _ _ hy
    ·exact hs y (by simp [hy])) (by rw [List.length_append];omega)
   obtain ⟨ys,e⟩:=FT (kat L) n (kat L (q:Int)++s) (out++[(q:Int)]);refine ⟨fun y hy=>?_,fun y hy=>?_⟩
   ·rcases List.mem_cons.1 hy with rfl | hy
    ·rw [e];simp
    ·exact i1 y (by simp [hy])
   ·rcases i2 y hy with h3 | h3
    ·rcases List.mem_append.1 h3 with h3 | h3
     ·exact .inl h3
     ·simp at h3
      subst h3;exact .inr fun k hk=>i1 k (List.mem_append_left _ hk)
    ·exact .inr h3
theorem Ns {K K':Int->List Int} {D:Int->Prop} {f:Int->Int} (hK:∀ x,D x->K' (f x)=(K x).map f/\∀ k∈K x,D k) (hi:∀ x y,D x->D y->f x=f y->x=y) :
  ∀ (n:Nat) (s out:List Int),(∀ x∈s,D x)->(∀ x∈out,D x)->dfs K' n (s.map f) (out.map f)=(dfs K n s out).map f
 | 0,s,out,_,_=>by simp [dfs]
 | n+1,[],out,_,_=>by simp [dfs]
 | n+1,x::s,out,hs,ho=>by
  have hx:=hs x (by simp)
  rw [List.map_cons];unfold dfs
  have e:f x∈out.map f↔x∈out:=⟨fun h=>by
   obtain ⟨y,hy,he⟩:=List.mem_map.1 h;rw [<- hi y x (ho y hy) hx he];exact hy,fun h=>List.mem_map.2 ⟨x,h,rfl⟩⟩
  by_cases hm:x∈out
  ·rw [if_pos hm,if_pos (e.2 hm)]
   exact Ns hK hi n s out (fun y hy=>hs y (by simp [hy])) ho
  ·rw [if_neg hm,if_neg (fun h=>hm (e.1 h)),(hK x hx).1,<- List.map_append,show out.map f++[f x]=(out++[x]).map f by simp]
   refine Ns hK hi n _ _ (fun y hy=>?_) (fun y hy=>?_)
   ·rcases List.mem_append.1 hy with hy | hy
    ·exact (hK x hx).2 y hy
    ·exact hs y (by simp [hy])
   ·rcases List.mem_append.1 hy with hy | hy
    ·exact ho y hy
    ·simp at hy;subst hy;exact hx
theorem EV {L:List ANd} (hR:InL L) (hN:∀ n∈L,NB n) (hlen:L.length<=2001) {root:Int} (h0:0<=root) (h1:root<(L.length:Int)) :
  (∀ x∈AJ L root,∀ k∈kidsL (Bv L x),k∈AJ L root)/\∃ ys,AJ L root=root::ys:=by
 have hw:=Ot hN []
 obtain ⟨i1,i2⟩:=I2 hR FU [root] [] (fun x hx=>by simp at hx;subst hx;exact ⟨h0,h1⟩) (by rw [FUv];simp only [List.length_cons,List.length_nil];omega);refine ⟨fun x hx k hk=>?_,?_⟩
 ·rw [<- Jk] at hk
  rcases i2 x hx with h | h
  ·simp at h
  ·exact h k hk
 ·obtain ⟨m,hm⟩:∃ m,FU=m+1:=⟨18446744073709551615,by rw [FUv]⟩
  unfold AJ;rw [hm];unfold dfs;rw [if_neg (by simp)];obtain ⟨ys,e⟩:=FT (kat L) m (kat L root++[]) ([]++[root]);exact ⟨ys,by rw [e];rfl⟩
theorem Mp {f:Int->Int} {k:Int}:∀ B:List Int,(∀ x∈B,f x=f k->x=k)->(B.map f).idxOf (f k)=B.idxOf k
 | [],_=>rfl
 | x::B,h=>by
  rw [List.map_cons,List.idxOf_cons,List.idxOf_cons]
  by_cases e:x=k
  ·subst e;simp
  ·have e2:¬ f x=f k:=fun h2=>e (h x (by simp) h2)
   rw [show (f x == f k)=false by simp [e2],show (x == k)=false by simp [e],cF_,cF_,Mp B (fun y hy=>h y (by simp [hy]))]
theorem Q1 {L M:List ANd} {root:Int} {f:Int->Int} (E:EmbL L M (AJ L root) f) (hr:root∈AJ L root):AJ M (f root)=(AJ L root).map f:=by
 have:=Ns (K:=kat L) (K':=kat M) (D:=fun x=>x∈AJ L root) (f:=f) (fun x hx=>⟨by rw [Jk,Jk,E.node x hx,Kk],fun k hk=>by rw [Jk] at hk;exact E.closed x hx k hk⟩) (fun x y hx hy=>E.inj x hx y hy) FU [root] [] (fun x hx=>by simp at hx;subst hx;exact hr) (fun x hx=>by simp at hx)
 exact this
theorem Sq {L M:List ANd} {root:Int} {f:Int->Int} (hA:Bk L) (E:EmbL L M (AJ L root) f) (hr:root∈AJ L root):normL M (f root)=normL L root:=by
 unfold normL;rw [Q1 E hr,List.map_map];refine List.map_congr_left fun x hx=>?_;obtain ⟨x0,x1⟩:=E.inn x hx
 show At _ (Bv M (f x))=_
 rw [E.node x hx,G7];refine Jw (hA _ (F9 x0 x1).2) fun k hk=>?_
 have hkB:=E.closed x hx k hk
 show posOf ((AJ L root).map f) (f k)=posOf (AJ L root) k
 unfold posOf;rw [if_pos hkB,if_pos (List.mem_map.2 ⟨k,hkB,rfl⟩),Mp _ (fun y hy e=>E.inj y hy k hkB e)]
theorem K0 {L M:List ANd} {B:List Int} {f:Int->Int} (E:EmbL L M B f):∀ (k:Nat) (x:Int),x∈B->endk M k (f x).toNat=endk L k x.toNat
 | 0,_,_=>rfl
 | k+1,x,hx=>by
  obtain ⟨x0,x1⟩:=E.inn x hx;obtain ⟨y0,y1⟩:=E.out x hx;unfold endk;rw [Ko x0 x1,Ko y0 y1,E.node x hx]
  show (!latB (Bv L x).kind||(endk M k (At f (Bv L x)).a.toNat&&endk M k (At f (Bv L x)).b.toNat))=(!latB (Bv L x).kind||(endk L k (Bv L x).a.toNat&&endk L k (Bv L x).b.toNat))
  cases hl:latB (Bv L x).kind with
  | false=>rfl
  | true =>
   have hk:=Fj hl
   have hc:=E.closed x hx
   rw [hk] at hc
   have hp:pB (Bv L x).kind=true:=by
    unfold latB at hl;unfold pB
    rw [Bool.or_eq_true,decide_eq_true_eq,decide_eq_true_eq] at hl
    rcases hl with h | h <;> rw [h] <;> rfl
   have ha:(At f (Bv L x)).a=f (Bv L x).a:=by unfold At;rw [hp];rfl
   have hb:(At f (Bv L x)).b=f (Bv L x).b:=by unfold At;rw [hp];rfl
   rw [ha,hb,K0 E k _ (hc _ (by simp)),K0 E k _ (hc _ (by simp))]
theorem Oo {B:List Int} {k:Int} (h:k∈B):0<=posOf B k/\posOf B k<(B.length:Int):=by
 unfold posOf;rw [if_pos h]
 have:=List.idxOf_lt_length_of_mem h
 omega
theorem It {B:List Int} {k:Int} (h:k∈B):B[(posOf B k).toNat]? = some k:=by
 unfold posOf;rw [if_pos h,Int.toNat_natCast]
 have hlt:=List.idxOf_lt_length_of_mem h
 rw [List.getElem?_eq_getElem hlt,List.getElem_idxOf hlt]
theorem QP {B:List Int} {x y:Int} (hx:x∈B) (hy:y∈B) (h:posOf B x=posOf B y):x=y:=by
 have h1:=It hx
 have h2:=It hy
 rw [h,h2] at h1;exact (Option.some.inj h1).symm
theorem So {L:List ANd} {root x:Int} (hx:x∈AJ L root):(normL L root)[(posOf (AJ L root) x).toNat]? = some (At (posOf (AJ L root)) (Bv L x)):=by
 unfold normL;rw [List.getElem?_map,It hx];rfl
theorem FL (L:List ANd) (root:Int):(normL L root).length=(AJ L root).length:=by unfold normL;rw [List.length_map]
theorem Q4 {L:List ANd} {root:Int} (hR:InL L) (hN:∀ n∈L,NB n) (hlen:L.length<=2001) (h0:0<=root) (h1:root<(L.length:Int)) (X:List ANd) :
  EmbL L (normL L root++X) (AJ L root) (posOf (AJ L root)):=by
 obtain ⟨b1,b2,b3⟩:=CG hR h0 h1;refine ⟨b1,(EV hR hN hlen h0 h1).1,fun x hx y hy=>QP hx hy,fun x hx=>?_,fun x hx=>?_⟩
 ·have:=Oo hx
  rw [List.length_append,FL];omega
 ·have h2:=So hx
  have h3:=getLt h2
  unfold Bv;rw [List.getElem?_append_left h3,h2]
  rfl
theorem S8 {L:List ANd} {r:Int} (h1:0<L.length) (h2:L.length<=2000) (h3:0<=r) (h4:r<(L.length:Int)) (h5:Bk L) (h6:Eu L):mayT L r=0:=by
 unfold mayT;rw [if_neg (by omega),if_neg (by omega),if_pos ⟨h5,h6⟩]
theorem OH {L:List ANd} {root:Int} (hA:Bk L) (hN:∀ n∈L,NB n) (hlen:L.length<=2001) (h0:0<=root) (h1:root<(L.length:Int)) (f:Int->Int) (all:Int) (hf:∀ k,0<=k->k<((normL L root).length:Int)->0<=f k/\f k<all) :
  ∀ n∈normL L root,Bn (At f n) all=true:=by
 obtain ⟨b1,b2,b3⟩:=CG (AI hA) h0 h1
 intro n hn
 unfold normL at hn;obtain ⟨x,hx,rfl⟩:=List.mem_map.1 hn;obtain ⟨x0,x1⟩:=b1 x hx;rw [G7];refine OT (hA _ (F9 x0 x1).2) fun k hk=>?_
 have hp:=Oo ((EV (AI hA) hN hlen h0 h1).1 x hx k hk)
 rw [<- FL] at hp;exact hf _ hp.1 hp.2
theorem Ji (n:ANd):At (fun k=>k) n=n:=by
 unfold At
 cases pB n.kind <;> simp
theorem Sd {L M:List ANd} {root:Int} {f:Int->Int} (hE:Eu L) (E:EmbL L M (AJ L root) f) {x:Int} (hx:x∈AJ L root):Ends M (f x).toNat:=by
 obtain ⟨x0,x1⟩:=E.inn x hx;obtain ⟨k,hk⟩:=hE x.toNat (by omega);exact ⟨k,by rw [K0 E k x hx];exact hk⟩
theorem NX {L:List ANd} {r:Int} (hl:mayT L r=0) (hN:∀ n∈L,NB n) (hlen:L.length<=2000):mayT (normL L r) 0=0/\normL (normL L r) 0=normL L r:=by
 obtain ⟨_,l2,l3,l4,lA,lE⟩:=Ev hl;obtain ⟨_,ys,ey⟩:=EV (AI lA) hN (by omega) l3 l4
 have hr:r∈AJ L r:=by rw [ey];simp
 have pr:posOf (AJ L r) r=0:=by unfold posOf;rw [if_pos hr,ey];simp
 have El:=Q4 (AI lA) hN (by omega) l3 l4 []
 rw [List.append_nil] at El;obtain ⟨_,n2⟩:=LP (AI lA) hN l3 l4
 have hl0:0<(normL L r).length:=by rw [FL,ey];simp
 refine ⟨?_,?_⟩
 ·refine S8 hl0 (by omega) (by omega) (by omega) ?_ ?_
  ·intro n hn
   have:=OH lA hN (by omega) l3 l4 (fun k=>k) ((normL L r).length:Int) (fun k k0 k1=>⟨k0,k1⟩) n hn
   rwa [Ji] at this
  ·intro i hi
   have hb:i<(AJ L r).length:=by rw [<- FL];exact hi
   have hx:(AJ L r)[i]? = some ((AJ L r)[i]):=List.getElem?_eq_getElem hb
   have hm2:=List.mem_of_getElem? hx
   have h3:=Sd lE El hm2
   have h4:posOf (AJ L r) ((AJ L r)[i])=(i:Int):=by
    unfold posOf;rw [if_pos hm2,Mo (CG (AI lA) l3 l4).2.1 hx]
   rw [h4,Int.toNat_natCast] at h3;exact h3
 ·have:=Sq lA El hr
  rwa [pr] at this
end Go.Proofs.YtkfnogdccpcmhaaGreatDoor
namespace Go.Proofs.YtkfnogdccpcmhaaGreatDoor
open Go.V Tryz
open Classical
theorem MO {t:ATy} {x:Int} (h:In t x):Bv t.l x=nd t x:=by
 unfold Bv;rw [LZ h]
noncomputable def normG (t:ATy):ATy:=⟨normL t.l t.root,0⟩
noncomputable def upN (t:ATy) (k:Int):Int:=(AJ t.l t.root)[k.toNat]?.getD 0
theorem T0 {t:ATy} {k:Int} (h:k∈AJ t.l t.root):upN t (posOf (AJ t.l t.root) k)=k:=by
 unfold upN;rw [It h];rfl
theorem FZ {t:ATy} (h:MayO t) (hl:t.l.length<=2000):MayO (normG t):=by
 obtain ⟨_,l2,l3,l4,lA,lE⟩:=Ev h.may;exact ⟨(NX h.may h.nb hl).1,(LP (AI lA) h.nb l3 l4).1⟩
theorem LR {t:ATy} (h:MayO t):(normG t).l.length<=t.l.length:=by
 obtain ⟨_,l2,l3,l4,lA,lE⟩:=Ev h.may;exact (LP (AI lA) h.nb l3 l4).2
theorem L4 {t:ATy} (h:MayO t) (hl:t.l.length<=2000):Emb (normG t) t (upN t):=by
 obtain ⟨_,l2,l3,l4,lA,lE⟩:=Ev h.may;obtain ⟨b1,b2,b3⟩:=CG (AI lA) l3 l4;obtain ⟨c1,_⟩:=EV (AI lA) h.nb (by omega) l3 l4;refine ⟨fun i hi=>?_⟩
 have hi1:i.toNat<(AJ t.l t.root).length:=by
  have h1:=hi.1;have h2:=hi.2
  unfold normG at h2;rw [FL] at h2
  omega
 have hx:(AJ t.l t.root)[i.toNat]? = some ((AJ t.l t.root)[i.toNat]):=List.getElem?_eq_getElem hi1
 generalize (AJ t.l t.root)[i.toNat]=x at hx
 have hxm:=List.mem_of_getElem? hx
 have hxi:In t x:=b1 x hxm
 have e1:upN t i=x:=by unfold upN;rw [hx];rfl
 have e2:nd (normG t) i=At (posOf (AJ t.l t.root)) (nd t x):=by
  unfold nd normG normL;simp only [List.getElem?_map,hx,Option.map_some,Option.getD_some];rw [MO hxi];rfl
 rw [e1,e2,G7]
 have hr:=lA _ (Fx hxi)
 rw [Jw (g:=fun k=>k) hr (fun k hk=>by
  have:=c1 x hxm k (by rw [MO hxi];exact hk)
  exact T0 this),Ji]
theorem PX {t:ATy} (h:MayO t) (hl:t.l.length<=2000):upN t 0=t.root:=by
 obtain ⟨_,l2,l3,l4,lA,lE⟩:=Ev h.may;obtain ⟨_,ys,ey⟩:=EV (AI lA) h.nb (by omega) l3 l4;unfold upN;rw [ey];rfl
theorem Ob {t:ATy} (h:MayO t) (hl:t.l.length<=2000) (p:Pt):Sat (normG t) p (normG t).root↔Sat t p t.root:=by
 have:=Nu (FZ h hl).ok (L4 h hl) p (normG t).root (FZ h hl).root
 show Sat (normG t) p 0↔_
 rw [<- PX h hl];exact this.symm
theorem Qp {t:ATy} (h:MayO t) (hl:t.l.length<=2000):Sub (normG t) t:=fun p hp=>(Ob h hl p).1 hp
theorem QZ {t:ATy} (h:MayO t) (hl:t.l.length<=2000):Sub t (normG t):=fun p hp=>(Ob h hl p).2 hp
theorem Te {t:ATy} (h:MayO t) (hl:t.l.length<=2000):CM t=some (normG t,0):=SI (by omega) h.nb h.may
end Go.Proofs.YtkfnogdccpcmhaaGreatDoor
namespace Go.Proofs.YtkfnogdccpcmhaaGreatDoor
open Go.V Tryz
open Classical
theorem OQ (l:List ATy):Gg l 3=some ((l.take 3).map (fewT 7)):=by
 unfold Gg
 have hL:(l.take 3).length<=3/\(l.take 3).length<=l.length:=by rw [List.length_take];omega
 rw [CI (φ:=fun n i s=>EG l 3 n (i,s)) (l:=l.take 3) (fewT 7) id 0 ?_ ?_ (by rw [FUv];omega) [] rfl]
 ·rfl
 ·intro n i x s hx hi hs
  have hx2:l[i]? = some x:=by
   rw [List.getElem?_take,if_pos (by omega)] at hx;exact hx
  simp only [EG];rw [dT (show (i:Int)<l.length by omega),dT (show (i:Int)<3 by omega),Bool.and_true,cT,getI hx2,oB,TZ x 7 7 rfl (by omega),oB,Ab (by simp only [List.length_cons,List.length_nil];omega),Ab (by constructor <;> omega)]
 ·intro n s hs
  simp only [EG];rw [show (decide (((l.take 3).length:Int)<l.length)&&decide (((l.take 3).length:Int)<3))=false by
   rw [List.length_take,Bool.and_eq_false_iff,decide_eq_false_iff_not,decide_eq_false_iff_not];omega,cF_]
  rfl
noncomputable def errL:List ATy->Int
 | []=>0
 | t::r=>if mayT t.l t.root=0 then errL r else mayT t.l t.root
theorem P9 {l:List ATy} (h:errL l=0):∀ t∈l,mayT t.l t.root=0:=by
 induction l with
 | nil=>intro t ht;cases ht
 | cons a r ih =>
  unfold errL at h
  split at h
  ·rename_i h0
   intro t ht
   rcases List.mem_cons.1 ht with rfl | ht
   ·exact h0
   ·exact ih h t ht
  ·contradiction
theorem MH {l:List ATy} {i:Nat} {x:ATy} (hx:l[i]? = some x):errL (l.drop i)=if mayT x.l x.root=0 then errL (l.drop (i+1)) else mayT x.l x.root:=by
 have hi:=(List.getElem?_eq_some_iff.1 hx)
 obtain ⟨h1,h2⟩:=hi;rw [List.drop_eq_getElem_cons h1,h2]
 rfl
theorem NM (l:List ATy) (hl:l.length<=1000) (hlen:∀ t∈l,t.l.length<=2001) (hN:∀ t∈l,∀ n∈t.l,NB n):DZ l=some (errL l):=by
 unfold DZ;obtain ⟨o,e1,e2⟩:=AR (φ:=fun n i (_:Unit)=>C5 l n i) (l:=l) (fun i _=>errL l=errL (l.drop i)) (fun o=>o=if errL l=0 then Out.go () else Out.ret (errL l)) (by
  intro n i x s hx hi h
  simp only [C5]
  have hm:=List.mem_of_getElem? hx
  rw [MH hx] at h;rw [dT (show (i:Int)<l.length by omega),cT,getI hx,oB]
  change (∃ s',((Bp x).bind _)=_/\_)\/(∃ o,((Bp x).bind _)=_/\_)
  rw [Le x (hlen x hm) (hN x hm),oB]
  by_cases h0:mayT x.l x.root=0
  ·rw [if_pos h0] at h
   left
   rw [dT h0,Bool.not_true,cF_,Ab (by constructor <;> omega)];exact ⟨(),rfl,h⟩
  ·rw [if_neg h0] at h
   right
   rw [dF h0,Bool.not_false,cT];exact ⟨_,rfl,by rw [if_neg (by rw [h];exact h0),h]⟩) (by
  intro n s h
  simp only [C5];rw [List.drop_length] at h;rw [dF (by omega),cF_];exact ⟨_,rfl,by rw [if_pos (by rw [h];rfl)]⟩) (by rw [FUv];omega) () rfl
 rw [e1,e2,oB]
 by_cases h0:errL l=0
 ·rw [if_pos h0,h0];rfl
 ·rw [if_neg h0];rfl
theorem I5 (l:List ATy) (hl:l.length<=1000) (hlen:∀ t∈l,t.l.length<=2001) (hN:∀ t∈l,∀ n∈t.l,NB n):F8 l=some (errL l):=by
 unfold F8;obtain ⟨o,e1,e2⟩:=AR (φ:=fun n i (_:Unit)=>DB l n i) (l:=l) (fun i _=>errL l=errL (l.drop i)) (fun o=>o=if errL l=0 then Out.go () else Out.ret (errL l)) (by
  intro n i x s hx hi h
  simp only [DB]
  have hm:=List.mem_of_getElem? hx
  rw [MH hx] at h;rw [dT (show (i:Int)<l.length by omega),cT,getI hx,oB,P5 x (hlen x hm) (hN x hm),oB]
  by_cases h0:mayT x.l x.root=0
  ·rw [if_pos h0] at h
   left
   rw [dT h0,Bool.not_true,cF_,Ab (by constructor <;> omega)];exact ⟨(),rfl,h⟩
  ·rw [if_neg h0] at h
   right
   rw [dF h0,Bool.not_false,cT];exact ⟨_,rfl,by rw [if_neg (by rw [h];exact h0),h]⟩) (by
  intro n s h
  simp only [DB];rw [List.drop_length] at h;rw [dF (by omega),cF_];exact ⟨_,rfl,by rw [if_pos (by rw [h];rfl)]⟩) (by rw [FUv];omega) () rfl
 rw [e1,e2,oB]
 by_cases h0:errL l=0
 ·rw [if_pos h0,h0];rfl
 ·rw [if_neg h0];rfl
end Go.Proofs.YtkfnogdccpcmhaaGreatDoor
namespace Go.Proofs.YtkfnogdccpcmhaaGreatDoor
open Go.V Tryz
open Classical
theorem QU (a b:ATy) (ha:a.l.length<=4001) (hb:b.l.length<=2001) (hN:∀ n∈b.l,NB n) (hR:Bk b.l):Ck a b=some ((a.l.length:Int),AM a b):=by
 unfold Ck;rw [Ab (by omega)];rw [CI (φ:=fun n i s=>B3 a b n (i,a.root,s)) (l:=b.l) (At (fun k=>k+(a.l.length:Int))) (fun s=>(a.root,s)) a.l.length ?_ ?_ (by rw [FUv];omega) a.l rfl]
 ·rfl
 ·intro n i x s hx hi hs
  have hr:=FY (hR x (List.mem_of_getElem? hx))
  simp only [B3];rw [dT (show (i:Int)<b.l.length by omega),cT,getI hx,oB,show (⟨x.kind,x.a,x.b,x.l⟩:ANd)=x from rfl,LJ x _ (fun k=>k+(a.l.length:Int)) (hN x (List.mem_of_getElem? hx)) (fun hp=>by
   obtain ⟨⟨a0,a1⟩,b0,b1⟩:=hr.1 hp;unfold BG;rw [Ab (by omega),Ab (by omega)];exact ⟨rfl,rfl⟩) (fun y hy=>by
   obtain ⟨y0,y1⟩:=hr.2 y hy;unfold BG;rw [Ab (by omega)]),oB,Ab (by simp only [List.length_cons,List.length_nil];omega),Ab (by omega)]
 ·intro n s hs
  simp only [B3];rw [dF (by omega),cF_]
noncomputable def overS (s:List ANd×List Int) (x:ATy):List ANd×List Int:=(s.1++x.l.map (At (fun k=>k+(s.1.length:Int))),s.2++[x.root+(s.1.length:Int)])
noncomputable def overL (l:List ATy):List ANd×List Int:=l.foldl overS ([],[])
theorem Hr {l:List ATy} {i:Nat} {x:ATy} (hx:l[i]? = some x):overL (l.take (i+1))=overS (overL (l.take i)) x:=by
 obtain ⟨h1,h2⟩:=List.getElem?_eq_some_iff.1 hx;unfold overL;rw [List.take_succ_eq_append_getElem h1,List.foldl_append,h2]
 rfl
theorem Ue {l:List ATy} (hl:l.length<=10) (hM:∀ x∈l,MayO x/\x.l.length<=100):B6 l FU (0,[],[],0)=some ((overL l).2,(overL l).1,0)/\(overL l).1.length<=l.length*100/\(overL l).2.length=l.length:=by
 obtain ⟨o,e1,e2⟩:=AR (φ:=fun n i (s:List Int×List ANd×Int)=>B6 l n (i,s)) (l:=l) (fun i s=>s=((overL (l.take i)).2,(overL (l.take i)).1,0)/\(overL (l.take i)).1.length<=i*100/\(overL (l.take i)).2.length=i) (fun o=>o=((overL l).2,(overL l).1,0)/\(overL l).1.length<=l.length*100/\(overL l).2.length=l.length) (by
  rintro n i x s hx hi ⟨rfl,h1,h2⟩
  left
  obtain ⟨hx1,hx2⟩:=hM x (List.mem_of_getElem? hx)
  have hr:=hx1.root
  have r0:=hr.1;have r1:=hr.2
  simp only [B6];rw [dT (show (i:Int)<l.length by omega),cT,getI hx,oB]
  change ∃ s',((Ck (⟨(overL (l.take i)).1,0⟩:ATy) x).bind _)=_/\_
  rw [QU _ x (by simp only;omega) (by omega) hx1.nb hx1.ok.right,oB]
  dsimp only
  rw [Ab (by constructor <;> omega),Ab (by simp only [List.length_cons,List.length_nil];omega),Ab (by constructor <;> omega)];refine ⟨_,rfl,?_,?_,?_⟩
  ·rw [Hr hx];rfl
  ·rw [Hr hx]
   unfold overS;simp only [List.length_append,List.length_map]
   omega
  ·rw [Hr hx]
   unfold overS;simp only [List.length_append,List.length_cons,List.length_nil]
   omega) (by
  rintro n s ⟨rfl,h1,h2⟩;simp only [B6];rw [dF (by omega),cF_];rw [List.take_length] at h1 h2 ⊢;exact ⟨_,rfl,rfl,h1,h2⟩) (by rw [FUv];omega) ([],[],0) (by simp [overL])
 obtain ⟨rfl,h1,h2⟩:=e2;exact ⟨e1,h1,h2⟩
theorem Ty {N:List Int->Option ANd} {l:List ATy} {x:ANd} (hl:l.length<=10) (hM:∀ x∈l,MayO x/\x.l.length<=100) (hn:N (overL l).2=some x):D9 N l=some ⟨(overL l).1++[x],((overL l).1.length:Int)⟩:=by
 obtain ⟨e,h1,h2⟩:=Ue hl hM;unfold D9;rw [e,oB]
 dsimp only
 rw [hn,oB,Ab (by simp only [List.length_cons,List.length_nil];omega),Ab (by rw [List.length_append];simp only [List.length_cons,List.length_nil];constructor <;> omega)]
 congr 2
 rw [List.length_append];simp only [List.length_cons,List.length_nil]
 omega
theorem Qq (a b:ATy):overL [a,b]=((AM a b).l,[a.root,b.root+(a.l.length:Int)]):=by
 have e:a.l.map (At fun k=>k)=a.l:=by
  have h:a.l.map (At fun k=>k)=a.l.map id:=List.map_congr_left fun n _=>Ji n
  rw [h,List.map_id]
 unfold overL overS AM;simp only [List.foldl_cons,List.foldl_nil,List.nil_append,List.length_nil,List.length_map,Int.natCast_zero,Int.add_zero,List.cons_append,e]
end Go.Proofs.YtkfnogdccpcmhaaGreatDoor
namespace Go.Proofs.YtkfnogdccpcmhaaGreatDoor
open Go.V Tryz
open Classical
def FewO (a:ATy):Prop:=MayO a/\a.l.length<=7
theorem QJ {l:List ATy} (h:∀ t∈l,mayT t.l t.root=0):errL l=0:=by
 induction l with
 | nil=>rfl
 | cons a r ih =>
  unfold errL;rw [if_pos (h a (by simp))];exact ih fun t ht=>h t (by simp [ht])
end Go.Proofs.YtkfnogdccpcmhaaGreatDoor
namespace Go.Proofs.YtkfnogdccpcmhaaGreatDoor
open Go.V Tryz
open Classical
theorem Qo (x y:AFd):AFd.eqv x y=decide (x=y):=by
 obtain ⟨n,a⟩:=x;obtain ⟨m,b⟩:=y;unfold AFd.eqv
 by_cases h1:n=m <;> by_cases h2:a=b <;> simp [h1,h2]
theorem SD (x y:ANd) (h:x.l.length=y.l.length) (hN:NB x):BS x y FU 0=some (if x.l=y.l then .go () else .ret false):=by
 unfold NB at hN;refine Mu (φ:=BS x y) (l:=x.l) (m:=y.l) false h ?_ ?_ (by rw [FUv];omega)
 ·intro n i a b ha hb hi
  simp only [BS];rw [dT (show (i:Int)<x.l.length by omega),cT,getI ha,oB,getI hb,oB,Qo]
  constructor
  ·intro e;rw [dT e,Bool.not_true,cF_,Ab (by omega)]
  ·intro e;rw [dF e,Bool.not_false,cT]
 ·intro n
  simp only [BS];rw [dF (by omega),cF_]
theorem NZ (a b:ATy) (hl:a.l.length<=10000) (hN:∀ n∈a.l,NB n):Et a b=some (decide (a.l=b.l/\a.root=b.root)):=by
 unfold Et
 by_cases h1:a.l.length=b.l.length/\a.root=b.root
 ·rw [dT (show (a.l.length:Int)=b.l.length by omega),dT h1.2,Bool.not_true,Bool.or_false,cF_]
  rw [Mu (φ:=Ci a b) (l:=a.l) (m:=b.l) false h1.1 ?_ ?_ (by rw [FUv];omega),oB]
  ·by_cases h2:a.l=b.l
   ·rw [if_pos h2,dT ⟨h2,h1.2⟩];rfl
   ·rw [if_neg h2,dF (fun h=>h2 h.1)];rfl
  ·intro n i x y hx hy hi
   simp only [Ci];rw [dT (show (i:Int)<a.l.length by omega),cT,getI hx,oB,getI hy,oB]
   by_cases h4:x.kind=y.kind/\x.a=y.a/\x.b=y.b/\x.l.length=y.l.length
   ·obtain ⟨e1,e2,e3,e4⟩:=h4
    rw [dT e1,dT e2,dT e3,dT (show (x.l.length:Int)=y.l.length by omega),Bool.not_true,Bool.or_false,Bool.or_false,Bool.or_false,cF_,SD x y e4 (hN x (List.mem_of_getElem? hx)),oB]
    constructor
    ·intro e;rw [if_pos (by rw [e]),TP,Ab (by omega)]
    ·intro e;rw [if_neg (fun h=>e (node_ext.2 ⟨e1,e2,e3,h⟩))];rfl
   ·rw [show (((!decide (x.kind=y.kind))||(!decide (x.a=y.a)))||(!decide (x.b=y.b))||(!decide ((x.l.length:Int)=(y.l.length:Int))))=true by
     simp only [Bool.or_eq_true,Bool.not_eq_true',decide_eq_false_iff_not];refine Classical.byContradiction fun h=>h4 ?_;simp only [not_or,Classical.not_not] at h;obtain ⟨⟨⟨h5,h6⟩,h7⟩,h8⟩:=h;exact ⟨h5,h6,h7,by omega⟩,cT]
    exact ⟨fun e=>absurd (by subst e;exact ⟨rfl,rfl,rfl,rfl⟩) h4,fun _=>rfl⟩
  ·intro n
   simp only [Ci];rw [dF (by omega),cF_]
 ·rw [show ((!decide ((a.l.length:Int)=(b.l.length:Int)))||(!decide (a.root=b.root)))=true by
   simp only [Bool.or_eq_true,Bool.not_eq_true',decide_eq_false_iff_not];refine Classical.byContradiction fun h=>h1 ?_;simp only [not_or,Classical.not_not] at h;exact ⟨by omega,h.2⟩,cT,dF (fun h=>h1 ⟨by rw [h.1],h.2⟩)]
theorem MR {a b:ATy} {U:List BSq} (ha:MayO a) (hb:MayO b) (hl:a.l.length+b.l.length<=60) (hU:UOk (AM a b) ⟨[a.root],[b.root+(a.l.length:Int)]⟩ U):CN a b=some (decide (Sub a b)):=by
 unfold CN
 have hr:=hb.root
 rw [MS a b (by omega) (by omega) hb.nb hb.ok.right,oB]
 simp only
 rw [Ab (by have:=hr.1;have:=hr.2;constructor <;> omega)];rw [show (⟨(AM a b).l,(AM a b).root⟩:ATy)=AM a b from rfl,MK (Jp ha.ok hb.ok) (JU ha.nb hb.nb) (by rw [ED];omega) (by simp) (by simp) (by rw [HW,HW];exact hU),oB,HW,HW]
 congr 1
 exact decide_eq_decide.2 (Io ha hb)
theorem KQ {t:ATy} (h:MayO t) (hl:t.l.length<=2000) (h1:CN (normG t) t=some (decide (Sub (normG t) t))) (h2:CN t (normG t)=some (decide (Sub t (normG t)))):Dm (normG t) t=some true:=by
 have hm:=FZ h hl
 have hle:=LR h
 have hr:=hm.root
 unfold Dm;rw [P5 _ (by omega) hm.nb,oB,hm.may,dT rfl,cT,Sz hm.ok.right hm.nb (by omega) hr.1 hr.2,oB]
 have e:(⟨normL (normG t).l (normG t).root,0⟩:ATy)=normG t:=by
  have:=(NX h.may h.nb hl).2
  unfold normG;rw [this]
 rw [e,NZ _ _ (by omega) hm.nb,dT ⟨rfl,rfl⟩,oB,cT,h1,dT (Qp h hl),oB,cT,h2,dT (QZ h hl),oB]
theorem Mk {t:ATy} (h:MayO t) (hl:t.l.length<=19):Dm (normG t) t=some true:=by
 have hm:=FZ h (by omega)
 have hle:=LR h
 exact KQ h (by omega) (MZ hm h (by omega)) (MZ h hm (by omega))
end Go.Proofs.YtkfnogdccpcmhaaGreatDoor
namespace Go.Proofs.YtkfnogdccpcmhaaGreatDoor
open Go.V Tryz
open Classical
section
variable {t:ATy} {r j:Int} {la lb lc W:List Int}
theorem Ux {F:List (List Int×List Int)} {q:BSq} (hl:F.length<=30) (hF:∀ p∈F,(∀ i∈p.1,In t i)/\(∀ i∈p.2,In t i)/\p.1.length+p.2.length<=32) (hq:Srt q) (hq2:∃ p∈F,SubP p q)
  (hst:∀ {q s:BSq},Srt q->s∈(AS t q).2->∀ {p:List Int×List Int},p∈F->SubP p q->∃ p'∈F,SubP p' s):∃ U,UOk t q U:=by
 have hmem:∀ s,s∈F.flatMap (fun p=>UAB (cs p.1) (cs p.2))↔Srt s/\∃ p∈F,SubP p s:=by
  intro s
  rw [List.mem_flatMap]
  constructor
  ·rintro ⟨p,hp,hs⟩
   obtain ⟨a,b,c⟩:=(Dp (A1 _) (A1 _)).1 hs;exact ⟨a,p,hp,fun i hi=>mem_cs.1 (b i hi),fun i hi=>mem_cs.1 (c i hi)⟩
  ·rintro ⟨a,p,hp,b,c⟩
   exact ⟨p,hp,(Dp (A1 _) (A1 _)).2 ⟨a,fun i hi=>mem_cs.2 (b i hi),fun i hi=>mem_cs.2 (c i hi)⟩⟩
 refine ⟨_,(hmem _).2 ⟨hq,hq2⟩,fun s hs=>((hmem s).1 hs).1,fun s hs=>?_,fun s hs s' hs'=>?_,?_⟩
 ·obtain ⟨_,p,hp,a,b⟩:=(hmem s).1 hs
  obtain ⟨c,d,_⟩:=hF p hp;exact ⟨fun i hi=>c i (a i hi),fun i hi=>d i (b i hi)⟩
 ·obtain ⟨a,p,hp,b⟩:=(hmem s).1 hs
  exact (hmem s').2 ⟨GG a hs',hst a hs' hp b⟩
 ·refine Nat.le_trans (KR _ (2 ^ 32) _ fun p hp=>?_) (Nat.le_trans (Nat.mul_le_mul_right _ hl) (by decide))
  obtain ⟨_,_,e⟩:=hF p hp;rw [KM]
  have:=M6 p.1
  have:=M6 p.2
  exact Nat.pow_le_pow_right (by omega) (by omega)
end
end Go.Proofs.YtkfnogdccpcmhaaGreatDoor
namespace Go.Proofs.YtkfnogdccpcmhaaGreatDoor
open Go.V Tryz
open Classical
theorem RQ {s t:ATy} {f:Int->Int} {l:List Int} (hk:Kept s (· ∈ l)) (h:Emb s t f) (hin:∀ i,In s i->In t (f i)):Kept t (· ∈ l.map f):=by
 refine ⟨fun x hx=>?_,fun x hx hxk=>?_,fun x hx g hg=>?_⟩
 ·obtain ⟨i,hi,rfl⟩:=List.mem_map.1 hx
  exact hin i (hk.inn i hi)
 ·obtain ⟨i,hi,rfl⟩:=List.mem_map.1 hx
  rw [h.node i (hk.inn i hi)] at hxk ⊢;obtain ⟨e1,e2⟩:=BT (f:=f) (n:=nd s i) hxk;rw [e1,e2];obtain ⟨h1,h2⟩:=hk.pair i hi hxk;exact ⟨List.mem_map.2 ⟨_,h1,rfl⟩,List.mem_map.2 ⟨_,h2,rfl⟩⟩
 ·obtain ⟨i,hi,rfl⟩:=List.mem_map.1 hx
  rw [h.node i (hk.inn i hi)] at hg;obtain ⟨g0,hg0,rfl⟩:=List.mem_map.1 hg;exact List.mem_map.2 ⟨_,hk.fld i hi g0 hg0,rfl⟩
noncomputable def preL (t:ATy) (l:List Int):List Int:=(rngI (normG t).l.length).filter (fun i=>decide (upN t i∈l))
theorem mem_pre {t:ATy} {l:List Int} {i:Int}:i∈preL t l↔In (normG t) i/\upN t i∈l:=by
 unfold preL;rw [List.mem_filter,mem_rngI,decide_eq_true_eq];rfl
theorem Uc {t:ATy} (h:MayO t) {x y:Int} (hx:In (normG t) x) (hy:In (normG t) y) (e:upN t x=upN t y):x=y:=by
 obtain ⟨_,l2,l3,l4,lA,lE⟩:=Ev h.may;obtain ⟨b1,b2,b3⟩:=CG (AI lA) l3 l4
 have q:∀ {z:Int},In (normG t) z->z.toNat<(AJ t.l t.root).length:=fun {z} hz=>by
  have h1:=hz.1;have h2:=hz.2
  unfold normG at h2;rw [FL] at h2
  omega
 have hx1:=q hx;have hy1:=q hy
 unfold upN at e;rw [List.getElem?_eq_getElem hx1,List.getElem?_eq_getElem hy1] at e
 have e2:(AJ t.l t.root)[x.toNat]=(AJ t.l t.root)[y.toNat]:=e
 have:=(List.getElem_inj b2).1 e2
 have:=hx.1;have:=hy.1
 omega
theorem O1 (n:Nat):(rngI n).Nodup:=by
 unfold rngI;refine List.Pairwise.map _ (fun a b h=>?_) List.nodup_range
 intro e;exact h (by omega)
theorem Tv {t:ATy} (h:MayO t) (l:List Int):(preL t l).length<=l.length:=by
 have hn:((preL t l).map (upN t)).Nodup:=by
  have h1:(preL t l).Nodup:=(O1 _).filter _
  rw [List.nodup_iff_pairwise_ne] at h1 ⊢;rw [List.pairwise_map];exact h1.imp_of_mem fun {x y} hx hy hne e=>hne (Uc h (mem_pre.1 hx).1 (mem_pre.1 hy).1 e)
 have:=I4 _ l hn (fun x hx=>by
  obtain ⟨i,hi,rfl⟩:=List.mem_map.1 hx;exact (mem_pre.1 hi).2)
 rw [List.length_map] at this;exact this
theorem Sg {t:ATy} (h:MayO t) (hl:t.l.length<=2000) {l:List Int} (hk:Kept t (· ∈ l)):Kept (normG t) (· ∈ preL t l):=by
 have hX:=(FZ h hl).ok
 have he:=L4 h hl
 refine ⟨fun i hi=>(mem_pre.1 hi).1,fun i hi hik=>?_,fun i hi g hg=>?_⟩
 ·obtain ⟨h1,h2⟩:=mem_pre.1 hi
  have hn:=he.node i h1
  have hp:=hX.pair h1 hik
  have:=hk.pair _ h2 (by rw [hn];exact hik)
  rw [hn,(BT hik).1,(BT hik).2] at this;exact ⟨mem_pre.2 ⟨hp.1,this.1⟩,mem_pre.2 ⟨hp.2,this.2⟩⟩
 ·obtain ⟨h1,h2⟩:=mem_pre.1 hi
  have hn:=he.node i h1
  refine mem_pre.2 ⟨hX.at_ h1 hg,?_⟩
  have:=hk.fld _ h2 ⟨g.name,upN t g.at_⟩ (by rw [hn];exact List.mem_map.2 ⟨g,hg,rfl⟩)
  exact this
end Go.Proofs.YtkfnogdccpcmhaaGreatDoor
namespace Go.Proofs.YtkfnogdccpcmhaaGreatDoor
open Go.V Tryz
open Classical
def exV:ATy:=⟨[⟨11,0,0,[]⟩,⟨6,0,0,[]⟩],1⟩
def exP:ATy:=⟨[⟨6,1,1,[]⟩,⟨3,0,0,[]⟩],0⟩
def exQ:ATy:=⟨[⟨6,1,2,[]⟩,⟨3,0,0,[]⟩,⟨3,0,0,[]⟩],0⟩
set_option maxHeartbeats 4000000 in
theorem Ua:Fp exV [leafT 3]=some (exP,0):=by rfl
set_option maxHeartbeats 4000000 in
theorem Sa:Ff (leafT 3) (leafT 3)=some (exQ,0):=by rfl
theorem Pu:Da exP=some true:=by
 have e1:Bp exP=some 0:=by rfl
 have e2:((Hm exP exP.root).bind fun xs1=>Cx exP xs1 []:Option (List Int))=some []:=by rfl
 unfold Da FG;rw [e1,oB,oB,e2];rw [dT rfl,cT,Bool.not_true,cF_,oB,Ab (by simp)]
 simp [Lib.compact]
 first | rfl | (unfold Lib.compactUpTo;rfl) | simp [Lib.compactUpTo]
theorem exP_may:MayO exP:=Se (by decide) (by intro n hn;simp [exP] at hn;rcases hn with rfl | rfl <;> simp [NB]) (by rfl)
theorem exQ_may:MayO exQ:=Se (by decide) (by intro n hn;simp [exQ] at hn;rcases hn with rfl | rfl | rfl <;> simp [NB]) (by rfl)
theorem exPQ:Sub exP exQ:=by
 intro p hp
 have h1:=(FB (t:=exP) (i:=0) (by decide) (by decide)).1 hp
 refine (FB (t:=exQ) (i:=0) (by decide) (by decide)).2 ?_;rw [OM (by decide)] at h1 ⊢
 cases p with
 | tag S k=>exact h1
 | dom S q=>exact fun h2=>h1 ((Fm (t:=exP) (i:=1) (k:=3) (by decide) (by decide)).2 ((Fm (t:=exQ) (i:=1) (k:=3) (by decide) (by decide)).1 h2))
 | cod S q=>exact (Fm (t:=exQ) (i:=2) (k:=3) (by decide) (by decide)).2 ((Fm (t:=exP) (i:=1) (k:=3) (by decide) (by decide)).1 h1)
 | absent S q=>exact h1.elim
 | field S s q=>exact h1.elim
 | hasc S q=>exact h1.elim
 | case S s q=>exact h1.elim
theorem exQP:Sub exQ exP:=by
 intro p hp
 have h1:=(FB (t:=exQ) (i:=0) (by decide) (by decide)).1 hp
 refine (FB (t:=exP) (i:=0) (by decide) (by decide)).2 ?_;rw [OM (by decide)] at h1 ⊢
 cases p with
 | tag S k=>exact h1
 | dom S q=>exact fun h2=>h1 ((Fm (t:=exQ) (i:=1) (k:=3) (by decide) (by decide)).2 ((Fm (t:=exP) (i:=1) (k:=3) (by decide) (by decide)).1 h2))
 | cod S q=>exact (Fm (t:=exP) (i:=1) (k:=3) (by decide) (by decide)).2 ((Fm (t:=exQ) (i:=2) (k:=3) (by decide) (by decide)).1 h1)
 | absent S q=>exact h1.elim
 | field S s q=>exact h1.elim
 | hasc S q=>exact h1.elim
 | case S s q=>exact h1.elim
theorem I6:Ez=some true:=by
 unfold Ez;rw [show D0 3=some (leafT 3) from rfl,oB]
 change ((Fp exV [leafT 3]).bind _)=_
 rw [Ua,oB]
 dsimp only
 rw [oB,oB,Sa,oB]
 dsimp only
 change ((Dx exP exQ).bind _)=_
 rw [Sn (by decide) (by decide) exP_may.nb exQ_may.nb (fun _ _=>by decide),if_pos exP_may.may,if_pos exQ_may.may,dT exPQ,dT exQP,oB]
 change (Option.bind (bif true then ((Da exP).bind fun x10=>some x10) else some false) fun p1=>some p1)=_
 rw [Pu];rfl
end Go.Proofs.YtkfnogdccpcmhaaGreatDoor
namespace Go.Proofs.YtkfnogdccpcmhaaGreatDoor
open Go.V Tryz
open Classical
theorem Qx {l:List ATy}:∀ s:List ANd×List Int,(∀ x∈l,MayO x)->OkT ⟨s.1,0⟩->(∀ n∈s.1,NB n)->(∀ r∈s.2,0<=r/\r<(s.1.length:Int)) ->
  OkT ⟨(l.foldl overS s).1,0⟩/\(∀ n∈(l.foldl overS s).1,NB n)/\∀ r∈(l.foldl overS s).2,0<=r/\r<((l.foldl overS s).1.length:Int):=by
 induction l with
 | nil=>intro s _ h1 h2 h3;exact ⟨h1,h2,h3⟩
 | cons x l ih =>
  intro s hx h1 h2 h3
  have hx0:=hx x (by simp)
  have hr:=hx0.root
  have r0:=hr.1;have r1:=hr.2
  have hg:=Jp (a:=⟨s.1,0⟩) h1 hx0.ok
  have e:(overS s x).1=(AM ⟨s.1,0⟩ x).l:=rfl
  have el:(overS s x).1.length=s.1.length+x.l.length:=by rw [e,ED]
  refine ih (overS s x) (fun y hy=>hx y (by simp [hy])) ⟨hg.right,hg.ends⟩ (JU (a:=⟨s.1,0⟩) h2 hx0.nb) (fun r hm=>?_)
  rcases List.mem_append.1 hm with hm | hm
  ·have:=h3 r hm;omega
  ·rw [List.mem_singleton] at hm;omega
theorem RA {l:List ATy} (h:∀ x∈l,MayO x):OkT ⟨(overL l).1,0⟩/\(∀ n∈(overL l).1,NB n)/\∀ r∈(overL l).2,0<=r/\r<((overL l).1.length:Int):=
 Qx ([],[]) h ⟨fun n hn=>(by cases hn),fun i hi=>(by simp at hi)⟩ (fun n hn=>by cases hn) (fun r hr=>by cases hr)
theorem Hi {l:List ATy} (h:∀ x∈l,x.l.length<=7):∀ s:List ANd×List Int,(l.foldl overS s).1.length<=s.1.length+7*l.length/\(l.foldl overS s).2.length=s.2.length+l.length:=by
 induction l with
 | nil=>intro s;exact ⟨by simp,by simp⟩
 | cons x l ih =>
  intro s
  have:=h x (by simp)
  obtain ⟨h1,h2⟩:=ih (fun y hy=>h y (by simp [hy])) (overS s x)
  have e1:(overS s x).1.length=s.1.length+x.l.length:=by unfold overS;simp
  have e2:(overS s x).2.length=s.2.length+1:=by unfold overS;simp
  rw [e1] at h1;rw [e2] at h2
  simp only [List.foldl_cons,List.length_cons]
  omega
noncomputable def fldL (ns:List (List UInt8)) (rs:List Int):List AFd:=List.zipWith (fun s r=>⟨s,r⟩) ns rs
noncomputable def recT (ns:List (List UInt8)) (l:List ATy):ATy:=⟨(overL l).1++[⟨7,0,0,fldL ns (overL l).2⟩],((overL l).1.length:Int)⟩
def okN (ns:List (List UInt8)):Prop:=∀ (i:Nat) x,ns[i]? = some x->nameP x=true/\(0<i->∀ y,ns[i - 1]? = some y->Op.bytesLess y x=true)
theorem Qi {ns:List (List UInt8)} {rs:List Int} {f:AFd} (h:f∈fldL ns rs):f.at_∈rs:=by
 unfold fldL at h;rw [List.zipWith_eq_zipWith_take_min] at h
 induction ns generalizing rs with
 | nil=>simp at h
 | cons a ns ih =>
  cases rs with
  | nil=>simp at h
  | cons b rs =>
   rw [<- List.zipWith_eq_zipWith_take_min] at h;simp only [List.zipWith_cons_cons,List.mem_cons] at h
   rcases h with rfl | h
   ·simp
   ·exact List.mem_cons_of_mem _ (ih (by rw [<- List.zipWith_eq_zipWith_take_min];exact h))
theorem Rz {ns:List (List UInt8)} {rs:List Int} (h:ns.length=rs.length):(fldL ns rs).length=ns.length:=by
 unfold fldL;rw [List.length_zipWith];omega
theorem NS {ns:List (List UInt8)} {rs:List Int} {i:Nat} {f:AFd} (h:(fldL ns rs)[i]? = some f):ns[i]? = some f.name:=by
 unfold fldL at h;rw [List.getElem?_zipWith] at h
 cases h1:ns[i]? with
 | none=>rw [h1] at h;simp at h
 | some a =>
  cases h2:rs[i]? with
  | none=>rw [h1,h2] at h;simp at h
  | some b=>rw [h1,h2] at h;simp at h;subst h;rfl
theorem Ir (ns:List (List UInt8)) (l:List ATy):(recT ns l).l.length=(overL l).1.length+1:=by unfold recT;simp
theorem Qj (ns:List (List UInt8)) (l:List ATy):nd (recT ns l) (recT ns l).root=⟨7,0,0,fldL ns (overL l).2⟩:=by
 refine Uy ?_
 show ((overL l).1++[⟨7,0,0,fldL ns (overL l).2⟩])[(overL l).1.length]? = _
 rw [List.getElem?_append_right (Nat.le_refl _),Nat.sub_self];rfl
theorem P8 {ns:List (List UInt8)} {l:List ATy} (h:∀ x∈l,FewO x) (hl:l.length<=3) (hn:ns.length=l.length) (ho:okN ns):MayO (recT ns l)/\(recT ns l).l.length<=7*l.length+1:=by
 obtain ⟨g1,g2,g3⟩:=RA (l:=l) (fun x hx=>(h x hx).1);obtain ⟨k1,k2⟩:=Hi (l:=l) (fun x hx=>(h x hx).2) ([],[])
 have k1:(overL l).1.length<=7*l.length:=by have:(overL l).1.length<=0+7*l.length:=k1;omega
 have k2:(overL l).2.length=l.length:=by have:(overL l).2.length=0+l.length:=k2;omega
 have hf:(fldL ns (overL l).2).length=ns.length:=Rz (by omega)
 refine ⟨⟨?_,fun n hm=>?_⟩,by rw [Ir];omega⟩
 ·have hR:Bk (recT ns l).l:=by
   intro n hm
   rw [Ir]
   rcases List.mem_append.1 hm with hm | hm
   ·exact LH (g1.right n hm) (by show ((overL l).1.length:Int)<=_;omega)
   ·rw [List.mem_singleton] at hm
    subst hm
    have hnm:ER ⟨7,0,0,fldL ns (overL l).2⟩:=fun i x hx=>by
     obtain ⟨a,b⟩:=ho i x.name (NS hx);refine ⟨?_,fun h0 y hy=>b h0 y.name (NS hy)⟩;unfold badF
     simp [a]
    have hkid:¬ ∃ q∈kidsL ⟨7,0,0,fldL ns (overL l).2⟩,inB (((overL l).1.length+1:Nat):Int) q=true:=by
     rintro ⟨q,hq,h5⟩
     have e:kidsL ⟨7,0,0,fldL ns (overL l).2⟩=(fldL ns (overL l).2).map (·.at_):=rfl
     rw [e] at hq;obtain ⟨f,hf,rfl⟩:=List.mem_map.1 hq
     have:=g3 _ (Qi hf)
     unfold inB at h5;simp only [Bool.or_eq_true,decide_eq_true_eq] at h5
     omega
    unfold Bn;rw [dT hnm,dF hkid,dT (show ((fldL ns (overL l).2).length:Int)<=30 by omega)]
    rfl
  have hE:Eu (recT ns l).l:=by
   intro i hi
   rw [Ir] at hi
   by_cases h0:i<(overL l).1.length
   ·obtain ⟨m,hm⟩:=g1.ends i h0
    exact ⟨m,II (AI g1.right) m i h0 hm⟩
   ·have hii:i=(overL l).1.length:=by omega
    subst hii;refine ⟨1,?_⟩;unfold endk
    have eq:(recT ns l).l[(overL l).1.length]? = some ⟨7,0,0,fldL ns (overL l).2⟩:=by
     show ((overL l).1++[⟨7,0,0,fldL ns (overL l).2⟩])[(overL l).1.length]? = _
     rw [List.getElem?_append_right (Nat.le_refl _),Nat.sub_self];rfl
    rw [eq]
    rfl
  unfold mayT;rw [if_neg (by rw [Ir];omega),if_neg (by rw [Ir];show ¬ (((overL l).1.length:Int)<0\/_<=((overL l).1.length:Int));omega),if_pos ⟨hR,hE⟩]
 ·rcases List.mem_append.1 hm with hm | hm
  ·exact g2 n hm
  ·rw [List.mem_singleton] at hm;subst hm
   show (fldL ns (overL l).2).length<=40
   omega
end Go.Proofs.YtkfnogdccpcmhaaGreatDoor
namespace Go.Proofs.YtkfnogdccpcmhaaGreatDoor
open Go.V Tryz
open Classical
structure RecS (t:ATy) (r:Int) (Q:List (List Int)):Prop where
 kq:∀ l∈Q,Kept t (· ∈ l)
 ir:In t r
 rk:(nd t r).kind=7
 rf:∀ f∈(nd t r).l,∃ l∈Q,f.at_∈l
def tpr (r:Int) (Q:List (List Int)) (W:List Int):List (List Int×List Int):=([r],W)::(Q.map (fun l=>(l,W))++Q.map (fun l=>(W,l)))
theorem RT {r:Int} {Q:List (List Int)} {W:List Int}:([r],W)∈tpr r Q W:=by unfold tpr;simp
theorem RP {r:Int} {Q:List (List Int)} {W l:List Int} (h:l∈Q):(l,W)∈tpr r Q W:=by
 unfold tpr;exact List.mem_cons_of_mem _ (List.mem_append_left _ (List.mem_map.2 ⟨l,h,rfl⟩))
theorem TI {r:Int} {Q:List (List Int)} {W l:List Int} (h:l∈Q):(W,l)∈tpr r Q W:=by
 unfold tpr;exact List.mem_cons_of_mem _ (List.mem_append_right _ (List.mem_map.2 ⟨l,h,rfl⟩))
theorem RecS.head {t:ATy} {r:Int} {Q:List (List Int)} {W:List Int} (h:RecS t r Q) (hW:Kept t (· ∈ W)) {q s:BSq} (hq:Srt q) (hs:s∈(AS t q).2) (hqp:SubP ([r],W) q):∃ p'∈tpr r Q W,SubP p' s:=by
 have ri:∀ {i},i∈q.left->i=r:=fun {i} hi=>by simpa using hqp.1 i hi
 rcases Hl hs with ⟨i,rest,M,a1,a2,rfl,a4⟩ | ⟨a0,i,rest,M,a1,a2,rfl,a4⟩ | ⟨a0,a0'⟩
 ·have hi:i=r:=ri (i:=i) (a2.mem_iff.2 (by simp))
  subst hi;rw [h.rk] at a1;cases a1
 ·have hi:=hqp.2 i (a2.mem_iff.2 (by simp))
  have hab:=hW.pair i hi (.inr (D7 a1))
  have hr:=Hd hq.2 a2
  refine ⟨_,RT,hqp.1,F2 (l:=[]) (fun x hx=>hqp.2 x (hr x hx).1) (fun x hx=>?_)⟩
  rcases a4 with ⟨_,rfl⟩ | ⟨_,rfl | rfl⟩
  ·simp at hx;rcases hx with rfl | rfl;exact hab.1;exact hab.2
  ·simp at hx;subst hx;exact hab.1
  ·simp at hx;subst hx;exact hab.2
 ·unfold AS at hs
  split at hs
  ·cases hs
  ·split at hs
   ·rename_i l h2
    unfold openA at h2
    split at h2
    ·rename_i n rest hl
     obtain ⟨i,rfl,hk,hpm⟩:=C6 hl
     have:=a0 i (hpm.mem_iff.2 (by simp))
     rw [hk] at this;cases this
    ·split at h2
     ·rename_i n rest hl
      obtain ⟨i,rfl,hk,hpm⟩:=C6 hl
      have:=a0' i (hpm.mem_iff.2 (by simp))
      rw [hk] at this;cases this
     ·cases h2
   ·split at hs
    ·cases hs
    ·unfold Do at hs
     split at hs
     ·cases hs
     ·rename_i k hk
      have hR:∀ i∈ofK t q.right k,i∈W:=fun i hi=>hqp.2 i (mem_ofK.1 hi).1
      have hk7:k=7:=by
       have hm:k∈Cp t q.left:=by rw [hk];simp
       unfold Cp at hm;rw [List.mem_filter,List.any_eq_true] at hm;obtain ⟨_,i,hi,h2⟩:=hm;rw [ri hi,h.rk] at h2;exact (of_decide_eq_true h2).symm
      subst hk7;unfold B5 at hs
      split at hs
      ·cases hs
      ·split at hs
       ·rename_i h6;cases h6
       ·split at hs
        ·cases hs
        ·obtain ⟨n,hn,rfl⟩:=List.mem_map.1 hs
         have hWr:=hW.parts hR n
         cases hc:atN (nd t r) n with
         | none =>
          refine ⟨_,RT,fun x hx=>?_,hWr⟩;obtain ⟨i,hi,h2⟩:=mem_parts.1 (mem_cs.1 hx);rw [ri (mem_ofK.1 hi).1,hc] at h2;cases h2
         | some x0 =>
          obtain ⟨f,hf,_,rfl⟩:=NF hc;obtain ⟨l,hl,hfl⟩:=h.rf f hf;refine ⟨_,RP hl,fun x hx=>?_,hWr⟩;obtain ⟨i,hi,h2⟩:=mem_parts.1 (mem_cs.1 hx);rw [ri (mem_ofK.1 hi).1,hc] at h2
          cases h2;exact hfl
     ·cases hs
theorem RecS.step {t:ATy} {r:Int} {Q:List (List Int)} {W:List Int} (h:RecS t r Q) (hW:Kept t (· ∈ W)) {q s:BSq} (hq:Srt q) (hs:s∈(AS t q).2) {p:List Int×List Int} (hp:p∈tpr r Q W) (hqp:SubP p q):∃ p'∈tpr r Q W,SubP p' s:=by
 unfold tpr at hp
 rcases List.mem_cons.1 hp with rfl | hp
 ·exact h.head hW hq hs hqp
 ·rcases List.mem_append.1 hp with hp | hp <;> obtain ⟨l,hl,rfl⟩:=List.mem_map.1 hp
  ·exact (Hp (h.kq l hl) hW hqp hs).elim (fun h=>⟨_,RP hl,h⟩) (fun h=>⟨_,TI hl,h⟩)
  ·exact (Hp hW (h.kq l hl) hqp hs).elim (fun h=>⟨_,TI hl,h⟩) (fun h=>⟨_,RP hl,h⟩)
theorem RecS.U {t:ATy} {r:Int} {Q:List (List Int)} {W:List Int} (h:RecS t r Q) (hW:Kept t (· ∈ W)) {r2:Int} (hr2:r2∈W) (lQ:Q.length<=10) (lq:∀ l∈Q,l.length<=7) (lW:W.length<=25):∃ U,UOk t ⟨[r],[r2]⟩ U:=by
 refine Ux (F:=tpr r Q W) (by unfold tpr;simp;omega) (fun p hp=>?_) ⟨by simp,by simp⟩ ⟨([r],W),RT,fun i hi=>hi,fun i hi=>by rw [List.mem_singleton.1 hi];exact hr2⟩ (fun hq hs _ hp hqp=>h.step hW hq hs hp hqp);unfold tpr at hp
 rcases List.mem_cons.1 hp with rfl | hp
 ·exact ⟨fun i hi=>by rw [List.mem_singleton.1 hi];exact h.ir,hW.inn,by simp;omega⟩
 ·rcases List.mem_append.1 hp with hp | hp <;> obtain ⟨l,hl,rfl⟩:=List.mem_map.1 hp <;> have:=lq l hl
  ·exact ⟨(h.kq l hl).inn,hW.inn,by simp only;omega⟩
  ·exact ⟨hW.inn,(h.kq l hl).inn,by simp only;omega⟩
theorem SY {s t:ATy} {f:Int->Int} {r:Int} {Q:List (List Int)} (h:RecS s r Q) (he:Emb s t f) (hin:∀ i,In s i->In t (f i)):RecS t (f r) (Q.map (fun l=>l.map f)):=by
 refine ⟨fun l hl=>?_,hin r h.ir,by rw [he.node r h.ir];exact h.rk,fun g hg=>?_⟩
 ·obtain ⟨l0,h0,rfl⟩:=List.mem_map.1 hl
  exact RQ (h.kq l0 h0) he hin
 ·rw [he.node r h.ir] at hg
  obtain ⟨g0,hg0,rfl⟩:=List.mem_map.1 hg;obtain ⟨l,hl,h2⟩:=h.rf g0 hg0;exact ⟨_,List.mem_map.2 ⟨l,hl,rfl⟩,List.mem_map.2 ⟨_,h2,rfl⟩⟩
theorem Rx {t:ATy} {Q:List (List Int)} (h:MayO t) (hl:t.l.length<=2000) (hT:RecS t t.root Q):RecS (normG t) (normG t).root (Q.map (preL t)):=by
 have hX:=FZ h hl
 have he:=L4 h hl
 have r1:=hX.root
 have er:=he.node _ r1
 have e0:upN t (normG t).root=t.root:=PX h hl
 rw [e0] at er;refine ⟨fun l hl2=>?_,r1,by have:=hT.rk;rw [er] at this;exact this,fun g hg=>?_⟩
 ·obtain ⟨l0,h0,rfl⟩:=List.mem_map.1 hl2
  exact Sg h hl (hT.kq l0 h0)
 ·obtain ⟨l,h1,h2⟩:=hT.rf ⟨g.name,upN t g.at_⟩ (by rw [er];exact List.mem_map.2 ⟨g,hg,rfl⟩)
  exact ⟨_,List.mem_map.2 ⟨l,h1,rfl⟩,mem_pre.2 ⟨hX.ok.at_ r1 hg,h2⟩⟩
theorem MQ {s t:ATy} {Q:List (List Int)} (hs:MayO s) (ht:MayO t) (h:RecS s s.root Q) (lQ:Q.length<=10) (lq:∀ l∈Q,l.length<=7) (lt:t.l.length<=25):∃ U,UOk (AM s t) ⟨[s.root],[t.root+(s.l.length:Int)]⟩ U:=by
 have h1:=SY h (GJ s t) (fun i hi=>D2 hi)
 have hW:=JF ht.ok (H5 s t) (fun i hi=>E9 hi)
 exact h1.U hW (Jo ht.root _) (by rw [List.length_map];exact lQ) (fun l hl=>by
  obtain ⟨l0,h0,rfl⟩:=List.mem_map.1 hl;rw [List.length_map];exact lq l0 h0) (by rw [Qe];exact lt)
theorem OR {T:ATy} {Q:List (List Int)} (hM:MayO T) (hl:T.l.length<=25) (hT:RecS T T.root Q) (lQ:Q.length<=10) (lq:∀ l∈Q,l.length<=7):Dm (normG T) T=some true:=by
 have hX:=FZ hM (by omega)
 have lX:=LR hM
 have hN:=Rx hM (by omega) hT
 obtain ⟨U,hU⟩:=MQ hX hM hN (by rw [List.length_map];exact lQ) (fun l hl2=>by
  obtain ⟨l0,h0,rfl⟩:=List.mem_map.1 hl2;exact Nat.le_trans (Tv hM l0) (lq l0 h0)) (by omega)
 obtain ⟨V,hV⟩:=MQ hM hX hT lQ lq (by omega);exact KQ hM (by omega) (MR hX hM (by omega) hU) (MR hM hX (by omega) hV)
end Go.Proofs.YtkfnogdccpcmhaaGreatDoor
namespace Go.Proofs.YtkfnogdccpcmhaaGreatDoor
open Go.V Tryz
open Classical
theorem H8 (a b c:ATy):overL [a,b,c]=((AM (AM a b) c).l,[a.root,b.root+(a.l.length:Int),c.root+((AM a b).l.length:Int)]):=by
 have e:overL [a,b,c]=overS (overL [a,b]) c:=rfl
 rw [e,Qq]
 rfl
theorem Pr {ns:List (List UInt8)} {a b c:ATy} (ha:MayO a) (hb:MayO b) (hc:MayO c) (hM:MayO (recT ns [a,b,c])) :
  RecS (recT ns [a,b,c]) (recT ns [a,b,c]).root [(rngI a.l.length).map (fun x=>x),(rngI b.l.length).map (fun x=>x+(a.l.length:Int)),(rngI c.l.length).map (fun x=>x+((AM a b).l.length:Int))]:=by
 have eG:Emb (AM (AM a b) c) (recT ns [a,b,c]) (fun x=>x):=N7 (X:=[⟨7,0,0,fldL ns (overL [a,b,c]).2⟩]) (by
  unfold recT;simp only;rw [H8])
 have lT:(recT ns [a,b,c]).l.length=(AM (AM a b) c).l.length+1:=by rw [Ir,H8]
 have iG:∀ i,In (AM (AM a b) c) i->In (recT ns [a,b,c]) i:=fun i h=>⟨h.1,by rw [lT];have:=h.2;omega⟩
 have ea:=((GJ a b).comp (GJ (AM a b) c) (fun i h=>D2 h)).comp eG (fun i h=>D2 (D2 h))
 have eb:=((H5 a b).comp (GJ (AM a b) c) (fun i h=>E9 h)).comp eG (fun i h=>D2 (E9 h))
 have ec:=(H5 (AM a b) c).comp eG (fun i h=>E9 h)
 refine ⟨fun l hl=>?_,hM.root,by rw [Qj],fun f hf=>?_⟩
 ·simp only [List.mem_cons,List.not_mem_nil,or_false] at hl
  rcases hl with rfl | rfl | rfl
  ·exact JF ha.ok ea (fun i h=>iG _ (D2 (D2 h)))
  ·exact JF hb.ok eb (fun i h=>iG _ (D2 (E9 h)))
  ·exact JF hc.ok ec (fun i h=>iG _ (E9 h))
 ·rw [Qj] at hf
  have h1:=Qi hf
  rw [H8] at h1;simp only [List.mem_cons,List.not_mem_nil,or_false] at h1
  rcases h1 with h1 | h1 | h1
  ·exact ⟨_,List.mem_cons_self ..,by rw [h1];exact Jo ha.root (fun x=>x)⟩
  ·exact ⟨_,List.mem_cons_of_mem _ (List.mem_cons_self ..),by rw [h1];exact Jo hb.root (fun x=>x+(a.l.length:Int))⟩
  ·exact ⟨_,List.mem_cons_of_mem _ (List.mem_cons_of_mem _ (List.mem_cons_self ..)),by rw [h1];exact Jo hc.root (fun x=>x+((AM a b).l.length:Int))⟩
theorem QD {ns:List (List UInt8)} {l:List ATy} (h:∀ x∈l,FewO x) (hl:l.length<=3) (hn:ns.length=l.length) (ho:okN ns):Dm (normG (recT ns l)) (recT ns l)=some true:=by
 obtain ⟨hM,hL⟩:=P8 h hl hn ho
 by_cases h2:l.length<=2
 ·exact Mk hM (by omega)
 ·obtain ⟨a,b,c,rfl⟩:∃ a b c,l=[a,b,c]:=by
   match l,hl,h2 with
   | [a,b,c],_,_=>exact ⟨a,b,c,rfl⟩
   | [],_,h2=>exact absurd (by simp) h2
   | [_],_,h2=>exact absurd (by simp) h2
   | [_,_],_,h2=>exact absurd (by simp) h2
   | _::_::_::_::_,hl,_=>simp only [List.length_cons] at hl;omega
  ·skip
   have ha:=h a (by simp);have hb:=h b (by simp);have hc:=h c (by simp)
   have l1:=ha.2;have l2:=hb.2;have l3:=hc.2
   refine OR hM (by simp only [List.length_cons,List.length_nil] at hL;omega) (Pr ha.1 hb.1 hc.1 hM) (by simp) (fun l hl=>?_);simp only [List.mem_cons,List.not_mem_nil,or_false] at hl
   rcases hl with rfl | rfl | rfl <;> rw [Qe] <;> omega
theorem Pg {ns:List (List UInt8)} {rs:List Int} {i:Nat} {x:List UInt8} {r:Int} (hx:ns[i]? = some x) (hr:rs[i]? = some r):fldL (ns.take (i+1)) rs=fldL (ns.take i) rs++[⟨x,r⟩]:=by
 induction i generalizing ns rs with
 | zero =>
  cases ns with
  | nil=>simp at hx
  | cons a ns =>
   cases rs with
   | nil=>simp at hr
   | cons b rs=>simp at hx hr;subst hx;subst hr;simp [fldL]
 | succ i ih =>
  cases ns with
  | nil=>simp at hx
  | cons a ns =>
   cases rs with
   | nil=>simp at hr
   | cons b rs =>
    have:=ih (ns:=ns) (rs:=rs) (by simpa using hx) (by simpa using hr)
    unfold fldL at this ⊢;rw [List.take_succ_cons,List.zipWith_cons_cons,this,List.take_succ_cons,List.zipWith_cons_cons]
    rfl
theorem Pi {ns:List (List UInt8)} {rs:List Int} {x:List UInt8} {r:Int} (hx:ns[rs.length]? = some x):fldL ns (rs++[r])=fldL ns rs++[⟨x,r⟩]:=by
 induction rs generalizing ns with
 | nil =>
  cases ns with
  | nil=>simp at hx
  | cons a ns=>simp at hx;subst hx;simp [fldL]
 | cons b rs ih =>
  cases ns with
  | nil=>simp at hx
  | cons a ns =>
   have:=ih (ns:=ns) (by simpa using hx)
   unfold fldL at this ⊢;rw [List.cons_append,List.zipWith_cons_cons,this,List.zipWith_cons_cons]
   rfl
theorem RH {ns:List (List UInt8)} {rs:List Int} (h:ns.length=rs.length) (hl:ns.length<=1000):Db rs ns=some ⟨7,0,0,fldL ns rs⟩:=by
 unfold Db;obtain ⟨o,e1,e2⟩:=AR (φ:=fun n i (s:List AFd×Int×Int×Int)=>BE rs ns n (i,s)) (l:=ns) (fun i s=>s=(fldL (ns.take i) rs,7,0,0)) (fun o=>o=(fldL ns rs,7,0,0)) (by
  rintro n i x s hx hi rfl
  left
  obtain ⟨r,hr⟩:∃ r,rs[i]? = some r:=⟨_,List.getElem?_eq_getElem (by omega)⟩
  have hz:(fldL (ns.take i) rs).length<=i:=by unfold fldL;rw [List.length_zipWith,List.length_take];omega
  simp only [BE];rw [dT (show (i:Int)<ns.length by omega),cT,getI hx,oB,getI hr,oB,Ab (by simp only [List.length_cons,List.length_nil];omega),Ab (by constructor <;> omega)];exact ⟨_,rfl,by rw [Pg hx hr]⟩) (by
  rintro n s rfl;simp only [BE];rw [dF (by omega),cF_,List.take_length];exact ⟨_,rfl,rfl⟩) (by rw [FUv];omega) (([]:List AFd),7,0,0) (by simp [fldL])
 subst e2;rw [e1]
 rfl
def okAt (ns:List (List UInt8)) (i:Nat) (x:List UInt8):Prop:=nameP x=true/\(0<i->∀ y,ns[i - 1]? = some y->Op.bytesLess y x=true)
theorem Uf {ns:List (List UInt8)} (hl:ns.length<=1000):BB ns FU 0=some (if okN ns then Out.go () else Out.ret (⟨[],0⟩,2)):=by
 obtain ⟨o,e1,e2⟩:=AR (φ:=fun n i (_:Unit)=>BB ns n i) (l:=ns) (fun i _=>∀ (j:Nat) x,j<i->ns[j]? = some x->okAt ns j x) (fun o=>o=if okN ns then Out.go () else Out.ret (⟨[],0⟩,2)) (by
  intro n i x s hx hi hI
  simp only [BB];rw [dT (show (i:Int)<ns.length by omega),cT,getI hx,oB,Qh,oB]
  have bad:¬ okAt ns i x->∃ o,some (Out.ret ((⟨([]:List ANd),0⟩:ATy),(2:Int)):Out (ATy×Int) Unit)=some o/\o=if okN ns then Out.go () else Out.ret (⟨[],0⟩,2):=fun h=>⟨_,rfl,by rw [if_neg (fun h2=>h (h2 i x hx))]⟩
  have good:okAt ns i x->∀ (j:Nat) y,j<i+1->ns[j]? = some y->okAt ns j y:=fun h j y hj hy=>by
   rcases Nat.lt_or_ge j i with h2 | h2
   ·exact hI j y h2 hy
   ·have:j=i:=by omega
    subst this;rw [hx] at hy;cases hy;exact h
  cases hnm:nameP x with
  | false =>
   right
   rw [Bool.not_false,cT,oB,cT];exact bad (fun h=>by have:=h.1;rw [hnm] at this;cases this)
  | true =>
   rw [Bool.not_true,cF_]
   by_cases h0:0<i
   ·have hy:ns[i - 1]? = some ns[i - 1]:=List.getElem?_eq_getElem (by omega)
    rw [dT (show (0:Int)<(i:Int) by omega),cT,Ab (by constructor <;> omega),show ((i:Int) - 1)=((i - 1:Nat):Int) by omega,getI hy,oB,oB,oB]
    cases hb:Op.bytesLess ns[i - 1] x with
    | true =>
     left
     rw [Bool.not_true,cF_,Ab (by constructor <;> omega)];exact ⟨(),rfl,good ⟨hnm,fun _ y hy2=>by rw [hy] at hy2;cases hy2;exact hb⟩⟩
    | false =>
     right
     rw [Bool.not_false,cT];exact bad (fun h=>by have:=h.2 h0 _ hy;rw [hb] at this;cases this)
   ·left
    rw [dF (show ¬ (0:Int)<(i:Int) by omega),cF_,oB,oB,cF_,Ab (by constructor <;> omega)];exact ⟨(),rfl,good ⟨hnm,fun h=>absurd h h0⟩⟩) (by
  intro n s hI
  simp only [BB];rw [dF (by omega),cF_];exact ⟨_,rfl,by rw [if_pos (show okN ns from fun i x hx=>hI i x (List.getElem?_eq_some_iff.1 hx).1 hx)]⟩) (by rw [FUv];omega) () (fun j x hj=>by omega)
 rw [<- e2];exact e1
theorem Pm {ns:List (List UInt8)} {l:List ATy} (h:∀ x∈l,FewO x) (hl:l.length<=3) (hns:ns.length<=1000):Co ns l=some (if ns.length=l.length/\okN ns then (normG (recT ns l),0) else (⟨[],0⟩,2)):=by
 unfold Co;rw [NM l (by omega) (fun t ht=>by have:=(h t ht).2;omega) (fun t ht=>(h t ht).1.nb),oB,QJ fun t ht=>(h t ht).1.may];rw [dT rfl,Bool.not_true,cF_]
 by_cases hn:ns.length=l.length
 ·rw [dT (show (ns.length:Int)=l.length by omega),dF (show ¬ (30:Int)<ns.length by omega),Bool.not_true,Bool.or_false,cF_,Uf hns,oB]
  by_cases ho:okN ns
  ·obtain ⟨hM,hL⟩:=P8 h hl hn ho
   have k2:(overL l).2.length=l.length:=by
    have:=(Hi (l:=l) (fun x hx=>(h x hx).2) ([],[])).2
    have:(overL l).2.length=0+l.length:=this
    omega
   rw [if_pos ho,if_pos ⟨hn,ho⟩,TP,Ty (l:=l) (x:=⟨7,0,0,fldL ns (overL l).2⟩) (by omega) (fun x hx=>⟨(h x hx).1,by have:=(h x hx).2;omega⟩) (RH (by omega) hns),oB];unfold Eb
   change (((CM (recT ns l)).bind _).bind _)=_
   rw [Te hM (by omega),oB,oB]
  ·rw [if_neg ho,if_neg (fun h=>ho h.2)];rfl
 ·rw [dF (show ¬ (ns.length:Int)=l.length by omega),Bool.not_false,Bool.true_or,cT,if_neg (fun h=>hn h.1)]
theorem N6 {ns:List (List UInt8)} {l:List ATy} (hl:l.length<=1000) (hlen:∀ t∈l,t.l.length<=2001) (hN:∀ t∈l,∀ n∈t.l,NB n) (h:¬ errL l=0):Co ns l=some (⟨[],0⟩,errL l):=by
 unfold Co;rw [NM l hl hlen hN,oB,dF h,Bool.not_false,cT]
theorem O7 {ns:List (List UInt8)} {l:List ATy} (h:∀ x∈l,FewO x) (hl:l.length<=3) (hn:ns.length=l.length):Fo ns l=some (recT ns l):=by
 obtain ⟨k1,k2⟩:=Hi (l:=l) (fun x hx=>(h x hx).2) ([],[])
 have k1:(overL l).1.length<=7*l.length:=by have:(overL l).1.length<=0+7*l.length:=k1;omega
 have k2:(overL l).2.length=l.length:=by have:(overL l).2.length=0+l.length:=k2;omega
 unfold Fo;obtain ⟨o,e1,e2⟩:=AR (φ:=fun n i (s:List ANd×Int×List AFd)=>Cn ns l n (i,s)) (l:=l) (fun i s=>s=((overL (l.take i)).1,0,fldL ns (overL (l.take i)).2)) (fun o=>o=((overL l).1,0,fldL ns (overL l).2)) (by
  rintro n i x s hx hi rfl
  left
  have hxm:=h x (List.mem_of_getElem? hx)
  have hr:=hxm.1.root
  have r0:=hr.1;have r1:=hr.2;have x7:=hxm.2
  obtain ⟨q1,q2⟩:=Hi (l:=l.take i) (fun x hx=>(h x (List.mem_of_mem_take hx)).2) ([],[])
  have q1:(overL (l.take i)).1.length<=7*i:=by
   have:(overL (l.take i)).1.length<=0+7*(l.take i).length:=q1
   rw [List.length_take] at this;omega
  have q2:(overL (l.take i)).2.length=i:=by
   have:(overL (l.take i)).2.length=0+(l.take i).length:=q2
   rw [List.length_take] at this;omega
  obtain ⟨m,hm⟩:∃ m,ns[i]? = some m:=⟨_,List.getElem?_eq_getElem (by omega)⟩
  have hz:(fldL ns (overL (l.take i)).2).length<=i:=by unfold fldL;rw [List.length_zipWith];omega
  simp only [Cn];rw [dT (show (i:Int)<l.length by omega),cT,getI hx,oB,Po _ x (by simp only;omega) (by omega) hxm.1.nb hxm.1.ok.right,oB]
  dsimp only
  rw [getI hm,oB,oB,Ab (by constructor <;> omega),Ab (by simp only [List.length_cons,List.length_nil];omega),Ab (by constructor <;> omega)];refine ⟨_,rfl,?_⟩;rw [Hr hx];unfold overS
  simp only
  rw [Pi (by rw [q2];exact hm),Int.add_comm x.root]
  rfl) (by
  rintro n s rfl;simp only [Cn];rw [dF (by omega),cF_,List.take_length];exact ⟨_,rfl,rfl⟩) (by rw [FUv];omega) (([]:List ANd),0,([]:List AFd)) (by simp [fldL,overL])
 subst e2
 change ((Cn ns l FU (0,([]:List ANd),0,([]:List AFd))).bind _)=_
 rw [e1,oB]
 dsimp only
 rw [Ab (by simp only [List.length_cons,List.length_nil];omega),Ab (by rw [List.length_append];simp only [List.length_cons,List.length_nil];constructor <;> omega)];unfold recT
 congr 2
 rw [List.length_append];simp only [List.length_cons,List.length_nil]
 omega
theorem St {ns:List (List UInt8)} {ok0:Bool} (hl:ns.length<=1000):AN ns FU (ok0,0)=some (decide (ok0=true/\okN ns)):=by
 obtain ⟨o,e1,e2⟩:=AR (φ:=fun n i (s:Bool)=>AN ns n (s,i)) (l:=ns) (fun i s=>s=true↔(ok0=true/\∀ (j:Nat) x,j<i->ns[j]? = some x->okAt ns j x)) (fun o=>o=decide (ok0=true/\okN ns)) (by
  intro n i x s hx hi hI
  left
  simp only [AN,List.nil_append];rw [dT (show (i:Int)<ns.length by omega),cT]
  have bad:(s=true->¬ okAt ns i x)->(false=true↔(ok0=true/\∀ (j:Nat) y,j<i+1->ns[j]? = some y->okAt ns j y)):=fun h=>⟨fun h2=>(by cases h2),fun h2=>absurd (h2.2 i x (by omega) hx) (h (hI.2 ⟨h2.1,fun j y hj hy=>h2.2 j y (by omega) hy⟩))⟩
  have good:okAt ns i x->s=true->(true=true↔(ok0=true/\∀ (j:Nat) y,j<i+1->ns[j]? = some y->okAt ns j y)):=fun h hs=>⟨fun _=>⟨(hI.1 hs).1,fun j y hj hy=>by
   rcases Nat.lt_or_ge j i with h2 | h2
   ·exact (hI.1 hs).2 j y h2 hy
   ·have:j=i:=by omega
    subst this;rw [hx] at hy;cases hy;exact h⟩,fun _=>rfl⟩
  cases s with
  | false =>
   rw [cF_,Ab (by constructor <;> omega)];exact ⟨_,rfl,bad (fun h=>by cases h)⟩
  | true =>
   rw [cT,getI hx,oB,Ou,oB]
   cases hnm:nameP x with
   | false =>
    rw [cF_,Ab (by constructor <;> omega)];exact ⟨_,rfl,bad (fun _ h=>by have:=h.1;rw [hnm] at this;cases this)⟩
   | true =>
    rw [cT]
    by_cases h0:0<i
    ·have hy:ns[i - 1]? = some ns[i - 1]:=List.getElem?_eq_getElem (by omega)
     rw [dF (show ¬ (i:Int)=0 by omega),cF_,Ab (by constructor <;> omega),show ((i:Int) - 1)=((i - 1:Nat):Int) by omega,getI hy,oB,oB,Ab (by constructor <;> omega)];refine ⟨_,rfl,?_⟩
     cases hb:Op.bytesLess ns[i - 1] x with
     | true=>exact good ⟨hnm,fun _ y hy2=>by rw [hy] at hy2;cases hy2;exact hb⟩ rfl
     | false=>exact bad (fun _ h=>by have:=h.2 h0 _ hy;rw [hb] at this;cases this)
    ·have:i=0:=by omega
     subst this;rw [show (decide (((0:Nat):Int)=0))=true from rfl,cT,Ab (by constructor <;> omega)];exact ⟨_,rfl,good ⟨hnm,fun h=>absurd h h0⟩ rfl⟩) (by
  intro n s hI
  simp only [AN,List.nil_append];rw [dF (by omega),cF_];refine ⟨_,rfl,?_⟩
  have e:(ok0=true/\okN ns)↔s=true:=by
   rw [hI];exact ⟨fun h=>⟨h.1,fun j x _ hx=>h.2 j x hx⟩,fun h=>⟨h.1,fun i x hx=>h.2 i x (List.getElem?_eq_some_iff.1 hx).1 hx⟩⟩
  rw [decide_eq_decide.2 e]
  cases s <;> rfl) (by rw [FUv];omega) ok0 ⟨fun h=>⟨h,fun j x hj=>by omega⟩,fun h=>h.1⟩
 rw [<- e2];exact e1
theorem law_BoundRecords (names:List (List UInt8)) (l:List ATy):DJ names l=some true:=by
 unfold DJ;rw [OQ l,oB]
 have hLl:((l.take 3).map (fewT 7)).length<=3:=by rw [List.length_map,List.length_take];omega
 have hL2:((l.take 3).map (fewT 7)).map (fewT 7)=(l.take 3).map (fewT 7):=by
  rw [List.map_map];exact List.map_congr_left fun t _=>Ql 7 (by omega) t
 have hm:∀ t∈(l.take 3).map (fewT 7),t.l.length<=2001/\(∀ n∈t.l,NB n)/\(mayT t.l t.root=0->t.l.length<=7):=fun t ht=>by
  obtain ⟨s,_,rfl⟩:=List.mem_map.1 ht;exact ⟨OS 7 (by omega) s,Tu 7 s,fun h=>Pk 7 s (Ev h).2.1⟩
 generalize (l.take 3).map (fewT 7)=L at *
 have hf:Gg L 3=some L:=by rw [OQ,List.take_of_length_le hLl,hL2]
 have hlen:∀ t∈L,t.l.length<=2001:=fun t ht=>(hm t ht).1
 have hN:∀ t∈L,∀ n∈t.l,NB n:=fun t ht=>(hm t ht).2.1
 obtain ⟨ns,hns,hs⟩:∃ ns:List (List UInt8),ns.length<=4/\sli names 0 (if 4<(names.length:Int) then 4 else (names.length:Int))=some ns:=by
  refine ⟨names.take 4,by rw [List.length_take];omega,?_⟩;unfold sli
  by_cases h4:4<(names.length:Int)
  ·rw [if_pos h4,if_pos (by omega)];simp
  ·rw [if_neg h4,if_pos (by omega),List.take_of_length_le (l:=names) (i:=4) (by omega)];simp
 rw [hs,oB];simp only [List.nil_append];rw [Ab (by omega),Ab (by omega),hf,oB]
 by_cases h0:errL L=0
 ·have hF:∀ t∈L,FewO t:=fun t ht=>⟨⟨P9 h0 t ht,hN t ht⟩,(hm t ht).2.2 (P9 h0 t ht)⟩
  rw [Pm hF hLl (by omega),oB]
  have tail:∀ (X:ATy×Int),(ns.length=L.length/\okN ns->X=(normG (recT ns L),0))->(¬ (ns.length=L.length/\okN ns)->X=(⟨[],0⟩,2))->_:=fun X h1 h2=>(⟨h1,h2⟩:_/\_)
  clear tail
  by_cases hc:ns.length=L.length/\okN ns
  ·rw [if_pos hc]
   dsimp only
   rw [I5 L (by omega) hlen hN,oB,h0,show (decide ((0:Int)=0))=true from rfl,Bool.not_true,cF_,St (by omega),oB,dT (show decide ((ns.length:Int)=(L.length:Int))=true/\okN ns from ⟨dT (by omega),hc.2⟩),Bool.not_true,cF_,cT,O7 hF hLl hc.1,oB]
   change ((Dm (normG (recT ns L)) (recT ns L)).bind _)=_
   rw [QD hF hLl hc.1 hc.2,oB,cT,I6]
   rfl
  ·rw [if_neg hc]
   dsimp only
   rw [I5 L (by omega) hlen hN,oB,h0,show (decide ((0:Int)=0))=true from rfl,Bool.not_true,cF_,St (by omega),oB,dF (fun h=>hc ⟨by have:=of_decide_eq_true h.1;omega,h.2⟩),Bool.not_false,cT];rw [I6]
   rfl
 ·rw [N6 (by omega) hlen hN h0,oB]
  dsimp only
  rw [I5 L (by omega) hlen hN,oB,dF h0,Bool.not_false,cT,dT rfl,I6]
  rfl
end Go.Proofs.YtkfnogdccpcmhaaGreatDoor
