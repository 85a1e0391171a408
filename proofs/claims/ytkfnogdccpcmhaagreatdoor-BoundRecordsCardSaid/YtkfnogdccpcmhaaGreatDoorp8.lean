/- Part 8 of the proof: a program logic, what the functions compute, and what these answer; no condition. -/
import Derived.Test.YtkfnogdccpcmhaaGreatDoorp7
set_option linter.unusedVariables false
set_option linter.unusedSimpArgs false
set_option maxRecDepth 100000
set_option maxHeartbeats 2000000
namespace Go.Proofs.YtkfnogdccpcmhaaGreatDoor
open Go.V Tryz
noncomputable def EH (t1:ATy) (most1:Int):Nat->(Int×(List ANd)×Int)->Option ((List ANd)×Int)
 | 0,_=>none
 | n+1,(i1,l2,z2) =>
  bif ((decide (i1<(t1.l.length:Int)))&&((decide (i1<most1))||((decide (2000<(t1.l.length:Int)))&&(decide (i1<=2000))))) then
   (idx t1.l i1).bind fun x1 =>
   (sli x1.l 0 (if 40<(x1.l.length:Int) then 40 else (x1.l.length:Int))).bind fun l3 =>
   grd ((0+l3.length)*24<=140737488355328) <|
   grd ((l2.length+([(⟨x1.kind,x1.a,x1.b,([]++l3)⟩:ANd)]:List _).length)*48<=140737488355328) <|
   grd (InR (i1+1)) <|
   EH t1 most1 n ((i1+1),(l2++[(⟨x1.kind,x1.a,x1.b,([]++l3)⟩:ANd)]),z2)
  else
   some (l2,z2)
noncomputable def HX (t1:ATy) (most1:Int):Option ATy:=
 (EH t1 most1 FU (0,([]:List ANd),t1.root):Option ((List ANd)×Int)).bind fun (l1,z1) =>
 some (⟨l1,z1⟩:ATy)
theorem Rh {t1:ATy} {most1:Int} {r_1:ATy} (hm:HX t1 most1=some r_1):Fn0 Tryz.prog 37 [ATy.d t1,.i64 most1] (ATy.d r_1):=by
 unfold HX at hm;refine Ad func37 rfl ntmps37 rfl fun H0 fr w0=>?_;refine zq3 ?_;refine BI fun b1=>?_;refine zq5 ?_;refine Af rfl rfl rfl zb24a ?_;refine BI fun b2=>?_;refine zst 0 ?_;refine Al (AB (T:=44) (sz:=4) (f:=ANd.d)) ?_;refine Ag (ms':=[_,box b2 24 [_,_],box b1 24 [_,_]]) rfl ?_;refine zq6 ?_;obtain ⟨o_1,hj1,hm1⟩:=bS hm;refine Ak [(4,_),(5,_)] [(2,_)] (fun (st:((List ANd)×Int)) (hid:(Option Addr×Nat))=>match st,hid with | (l1,z1),(a_r1,cap_r1)=>[]) (fun F (st:((List ANd)×Int)) (hid:(Option Addr×Nat))=>match st,hid with | (l1,z1),(a_r1,cap_r1)=>[row a_r1 cap_r1 44 4 ANd.d l1,box b2 24 [.v (.slice a_r1 l1.length cap_r1),.i64 z1],(nthF F 0)]) (fun st=>st=o_1) ⟨rfl,rfl,trivial⟩ ⟨rfl,trivial⟩ ?_ ?_
 ·refine Aj ?_
  refine Ai [(1,_),(2,_),(4,_),(5,_)] [(2,_)] (fun (st:(Int×(List ANd)×Int)) (hid:(Option Addr×Nat))=>match st,hid with | (i1,l2,z2),(a_r1,cap_r1)=>[(6,.i64 i1)]) (fun F (st:(Int×(List ANd)×Int)) (hid:(Option Addr×Nat))=>match st,hid with | (i1,l2,z2),(a_r1,cap_r1)=>[row a_r1 cap_r1 44 4 ANd.d l2,box b2 24 [.v (.slice a_r1 l2.length cap_r1),.i64 z2],(nthF F 0)]) (_,_) hj1 (fun _=>rfl) ⟨rfl,rfl,rfl,rfl,trivial⟩ ⟨rfl,trivial⟩ ⟨rfl,trivial⟩ rfl ?_;rintro n ⟨i1,l2,z2⟩ ⟨a_r1,cap_r1⟩ hj1;rw [EH] at hj1;refine Ar (L':=[(6,.i64 i1),(1,_),(2,_),(4,_),(5,_)]) (ms':=[row a_r1 cap_r1 44 4 ANd.d l2,box b2 24 [.v (.slice a_r1 l2.length cap_r1),.i64 z2],_]) rfl rfl ?_;refine zq9 ?_
  apply Bo [(1,_),(2,_),(4,_),(5,_),(6,_)] 14 30 (t:=16) ⟨rfl,rfl,rfl,rfl,rfl,trivial⟩ rfl
  ·intro hg_1 hk1
   refine zq4 ?_
   apply Bt [(1,_),(2,_),(4,_),(5,_),(6,_),(16,_)] 9 29 (t:=20) ⟨rfl,rfl,rfl,rfl,rfl,rfl,trivial⟩ rfl
   ·intro hg_2 hk2
    refine zq5 ?_
    apply Bo [(1,_),(2,_),(4,_),(5,_),(6,_),(16,_),(20,_)] 3 28 (t:=25) ⟨rfl,rfl,rfl,rfl,rfl,rfl,rfl,trivial⟩ rfl
    ·intro hg_3 hk3
     refine zq3 ?_;exact zgm hk3
    ·intro hg_3 hk3
     refine zq3 ?_;exact zgm hk3
    refine zq1 ?_;exact zgm hk2
   ·intro hg_2 hk2
    refine zq9 ?_;exact zgm hk2
   refine zq1 ?_;exact zgm hk1
  ·intro hg_1 hk1
   refine zq14 ?_;exact zgm hk1
  refine gNl ?_;refine zcn hj1 (fun hc1 hj1=>?_) (fun hc1 hj1=>?_)
  ·refine zq8 ?_
   obtain ⟨x1,hx1,hj1⟩:=bS hj1;refine zq2 ?_;refine Dq fun b3=>?_;refine zst 0 ?_;refine Ag (ms':=[box b3 44 [_,_,_,_],_,box b2 24 [_,_],box b1 24 [_,_]]) rfl ?_;refine zq3 ?_;refine Av rfl rfl rfl (Aq (xs:=[]) (f:=AFd.d) (l:=[]) runUnderlying42 sizeOf98 zeroValue98 rfl rfl rfl (fun _=>⟨rfl,rfl,rfl⟩) rfl (by simp [maxLen])) ?_;rintro _ _ ⟨a_r2,rfl,rfl⟩;refine zq5 ?_;refine Af rfl rfl rfl (TM rfl rfl) ?_;obtain ⟨l3,hx2,hj1⟩:=bS hj1;refine Af rfl rfl rfl (Ba runUnderlying42 sizeOf98 rfl rfl ⟨_,rfl⟩ hx2) ?_;obtain ⟨hg3,hj1⟩:=Aa hj1;refine zap 0 hg3 fun a_r2 cap_r2=>?_;refine Ag (ms':=[_,box b3 44 [_,_,_,_],_,box b2 24 [_,_],box b1 24 [_,_]]) rfl ?_;refine zq1 ?_;refine zst 1 ?_;refine Ag (ms':=[_,box b3 44 [_,_,_,_],_,box b2 24 [_,_],box b1 24 [_,_]]) rfl ?_;refine zq5 ?_;refine Al (Cl (i:=50) (q:=3) 0 rfl rfl rfl rfl rfl).refines ?_;refine Af rfl rfl rfl (Ax (xs:=[_]) (f:=ANd.d) (l:=[(⟨x1.kind,x1.a,x1.b,([]++l3)⟩:ANd)]) runUnderlying22 sizeOf44 zeroValue44 rfl rfl rfl (fun _=>⟨rfl,rfl,rfl⟩) rfl) ?_;obtain ⟨hg4,hj1⟩:=Aa hj1;refine zap 2 hg4 fun a_r1 cap_r1=>?_;refine Ag (ms':=[_,box b3 44 [_,_,_,_],_,box b2 24 [_,_],box b1 24 [_,_]]) rfl ?_;refine zq1 ?_;refine zst 3 ?_;refine Ag (ms':=[_,box b3 44 [_,_,_,_],_,box b2 24 [_,_],box b1 24 [_,_]]) rfl ?_;refine zq3 ?_;obtain ⟨hg5,hj1⟩:=Aa hj1;refine zq3 ?_;exact ⟨_,(_,_),hj1,⟨rfl,trivial⟩,⟨rfl,rfl,rfl,rfl,trivial⟩,[_,_],rfl⟩
  ·refine Ao ?_
   exact ⟨_,(_,_),Ac hj1,trivial,⟨rfl,rfl,trivial⟩,[],rfl⟩
 ·rintro ⟨l1,z1⟩ ⟨a_r1,cap_r1⟩ hst
  subst hst;refine An (L':=[(4,_),(5,_)]) (ms':=[row a_r1 cap_r1 44 4 ANd.d l1,box b2 24 [.v (.slice a_r1 l1.length cap_r1),.i64 z1],_]) rfl rfl ?_;refine zq3 ?_;refine Al (Cl (i:=54) (q:=0) 0 rfl rfl rfl rfl rfl).refines ?_;refine zst 2 ?_;refine Ag (ms':=[_,box b2 24 [_,_],box b1 24 [_,_]]) rfl ?_;refine gNl ?_
  cases hm1;exact Ae zr1
noncomputable def DQ (c1:UInt8):Option Bool:=
 some (((decide (97<=(c1.toNat:Int)))&&(decide ((c1.toNat:Int)<=122)))||(decide ((c1.toNat:Int)=95)))
theorem I1 {c1:UInt8} {r_1:Bool} (hm:DQ c1=some r_1):Fn0 Tryz.prog 87 [.u8 c1] (.bool r_1):=by
 unfold DQ at hm;refine Ad func87 rfl ntmps87 rfl fun H0 fr w0=>?_;refine zq9 ?_
 apply Bo [(0,_)] 3 8 (t:=5) ⟨rfl,trivial⟩ rfl
 ·intro hg_1 hk1
  refine zq3 ?_;exact zgm hk1
 ·intro hg_1 hk1
  refine zq3 ?_;exact zgm hk1
 refine zq1 ?_
 apply Bt [] 3 12 (t:=9) trivial rfl
 ·intro hg_2 hk2
  refine zq3 ?_;exact zgm hk2
 ·intro hg_2 hk2
  refine zq3 ?_;exact zgm hk2
 refine zq2 ?_
 cases hm;exact Ae zr1
noncomputable def Ey (c1:UInt8):Option Bool:=
 some ((decide (65<=(c1.toNat:Int)))&&(decide ((c1.toNat:Int)<=90)))
theorem I3 {c1:UInt8} {r_1:Bool} (hm:Ey c1=some r_1):Fn0 Tryz.prog 118 [.u8 c1] (.bool r_1):=by
 unfold Ey at hm;refine Ad func118 rfl ntmps118 rfl fun H0 fr w0=>?_;refine zq9 ?_
 apply Bo [] 3 8 (t:=5) trivial rfl
 ·intro hg_1 hk1
  refine zq3 ?_;exact zgm hk1
 ·intro hg_1 hk1
  refine zq3 ?_;exact zgm hk1
 refine zq2 ?_
 cases hm;exact Ae zr1
noncomputable def D6 (s1:(List UInt8)):Nat->Int->Option Int
 | 0,_=>none
 | n+1,n2 =>
  (bif (decide (n2<(s1.length:Int))) then ((idx s1 n2).bind fun c3 =>
  (DQ c3).bind fun x3 =>
  (bif x3 then (some true) else ((idx s1 n2).bind fun c4 =>
  (Ey c4).bind fun x4 =>
  some x4)).bind fun p4 =>
  (bif p4 then (some true) else ((idx s1 n2).bind fun c5 =>
  (bif (decide (48<=(c5.toNat:Int))) then ((idx s1 n2).bind fun c6 =>
  some (decide ((c6.toNat:Int)<=57))) else (some false)).bind fun p6 =>
  some p6)).bind fun p5 =>
  some p5) else (some false)).bind fun p3 =>
  bif p3 then
   grd (InR (n2+1)) <|
   D6 s1 n (n2+1)
  else
   some n2
noncomputable def E2 (s1:(List UInt8)):Option Int:=
 (bif (decide ((s1.length:Int)=0)) then (some true) else ((idx s1 0).bind fun c1 =>
 (DQ c1).bind fun x1 =>
 (bif (!x1) then ((idx s1 0).bind fun c2 =>
 (Ey c2).bind fun x2 =>
 some (!x2)) else (some false)).bind fun p2 =>
 some p2)).bind fun p1 =>
 bif p1 then
  some 0
 else
  (D6 s1 FU 1:Option Int).bind fun n1 =>
  some n1
theorem Mv {s1:(List UInt8)} {r_1:Int} (hm:E2 s1=some r_1):Fn0 Tryz.prog 86 [.str s1] (.i64 r_1):=by
 unfold E2 at hm;refine Ad func86 rfl ntmps86 rfl fun H0 fr w0=>?_;refine zq8 ?_;refine Af rfl rfl rfl (Dd runUnderlying9 rfl) ?_;refine zq2 ?_;obtain ⟨p1,hp_1,hm⟩:=bS hm;refine AL [(0,_)] 11 18 p1 (t:=7) ⟨rfl,trivial⟩ rfl (fun hg_1 hk1=>?_) (fun hg_1 hk1=>?_) ?_
 ·replace hp_1:=AO hg_1 hp_1
  refine zq11 ?_;exact zgb hk1 hp_1
 ·replace hp_1:=AP hg_1 hp_1
  refine zq1 ?_;obtain ⟨c1,hx1,hp_1⟩:=bS hp_1;refine gWp rfl rfl rfl hg_1 rfl rfl (Cf runUnderlying9 rfl rfl hx1) ?_;obtain ⟨x1,hx2,hp_1⟩:=bS hp_1;refine zcw (I1 hx2) ?_;refine zq2 ?_;obtain ⟨p2,hp_2,hp_1⟩:=bS hp_1;refine AL [(0,_),(7,_)] 5 17 p2 (t:=12) ⟨rfl,rfl,trivial⟩ rfl (fun hg_2 hk2=>?_) (fun hg_2 hk2=>?_) ?_
  ·replace hp_2:=AO hg_2 hp_2
   refine zq1 ?_;obtain ⟨c2,hx3,hp_2⟩:=bS hp_2;refine gWp rfl rfl rfl hg_2 rfl rfl (Cf runUnderlying9 rfl rfl hx3) ?_;obtain ⟨x2,hx4,hp_2⟩:=bS hp_2;refine zcw (I3 hx4) ?_;refine zq2 ?_;exact zgb hk2 hp_2
  ·replace hp_2:=AP hg_2 hp_2
   refine zq5 ?_;exact zgb hk2 hp_2
  refine zq1 ?_;exact zgb hk1 hp_1
 refine gNl ?_;refine zcn hm (fun hc1 hm=>?_) (fun hc1 hm=>?_)
 ·refine zq4 ?_
  cases hm;exact Ae zr1
 ·refine zq6 ?_
  obtain ⟨o_1,hj1,hm1⟩:=bS hm;refine Ak [] [] (fun (st:Int) (hid:Unit)=>match st,hid with | n1,_=>[(3,.i64 n1)]) (fun F (st:Int) (hid:Unit)=>match st,hid with | n1,_=>[]) (fun st=>st=o_1) trivial trivial ?_ ?_
  ·refine Aj ?_
   refine Ai [(0,_)] [] (fun (st:Int) (hid:Unit)=>match st,hid with | n2,_=>[(3,.i64 n2)]) (fun F (st:Int) (hid:Unit)=>match st,hid with | n2,_=>[]) () hj1 (fun _=>rfl) ⟨rfl,trivial⟩ trivial ⟨rfl,trivial⟩ rfl ?_;rintro n n2 _ hj1;rw [D6] at hj1;refine Ar (L':=[(3,.i64 n2),(0,_)]) (ms':=[]) rfl rfl ?_;refine zq5 ?_;refine Af rfl rfl rfl (Dd runUnderlying9 rfl) ?_;refine zq2 ?_;obtain ⟨p3,hp_3,hj1⟩:=bS hj1;refine AL [(0,_),(3,_)] 23 46 p3 (t:=23) ⟨rfl,rfl,trivial⟩ rfl (fun hg_3 hk3=>?_) (fun hg_3 hk3=>?_) ?_
   ·replace hp_3:=AO hg_3 hp_3
    refine zq2 ?_;obtain ⟨c3,hx5,hp_3⟩:=bS hp_3;refine gWp rfl rfl rfl hg_3 rfl rfl (Cf runUnderlying9 rfl rfl hx5) ?_;obtain ⟨x3,hx6,hp_3⟩:=bS hp_3;refine zcw (I1 hx6) ?_;refine zq1 ?_;obtain ⟨p4,hp_4,hp_3⟩:=bS hp_3;refine AL [(0,_),(3,_),(23,_)] 5 33 p4 (t:=28) ⟨rfl,rfl,rfl,trivial⟩ rfl (fun hg_4 hk4=>?_) (fun hg_4 hk4=>?_) ?_
    ·replace hp_4:=AO hg_4 hp_4
     refine zq5 ?_;exact zgb hk4 hp_4
    ·replace hp_4:=AP hg_4 hp_4
     refine zq2 ?_;obtain ⟨c4,hx7,hp_4⟩:=bS hp_4;refine gWp rfl rfl rfl hg_4 rfl rfl (Cf runUnderlying9 rfl rfl hx7) ?_;obtain ⟨x4,hx8,hp_4⟩:=bS hp_4;refine zcw (I3 hx8) ?_;refine zq1 ?_;exact zgb hk4 hp_4
    refine zq1 ?_;obtain ⟨p5,hp_5,hp_3⟩:=bS hp_3;refine AL [(0,_),(3,_),(23,_)] 11 45 p5 (t:=34) ⟨rfl,rfl,rfl,trivial⟩ rfl (fun hg_5 hk5=>?_) (fun hg_5 hk5=>?_) ?_
    ·replace hp_5:=AO hg_5 hp_5
     refine zq11 ?_;exact zgb hk5 hp_5
    ·replace hp_5:=AP hg_5 hp_5
     refine zq2 ?_;obtain ⟨c5,hx9,hp_5⟩:=bS hp_5;refine gWp rfl rfl rfl hg_5 rfl rfl (Cf runUnderlying9 rfl rfl hx9) ?_;refine zq2 ?_;obtain ⟨p6,hp_6,hp_5⟩:=bS hp_5;refine AL [(0,_),(3,_),(23,_),(34,_)] 5 44 p6 (t:=39) ⟨rfl,rfl,rfl,rfl,trivial⟩ rfl (fun hg_6 hk6=>?_) (fun hg_6 hk6=>?_) ?_
     ·replace hp_6:=AO hg_6 hp_6
      refine zq2 ?_;obtain ⟨c6,hx10,hp_6⟩:=bS hp_6;refine gWp rfl rfl rfl hg_6 rfl rfl (Cf runUnderlying9 rfl rfl hx10) ?_;refine zq2 ?_;exact zgb hk6 hp_6
     ·replace hp_6:=AP hg_6 hp_6
      refine zq5 ?_;exact zgb hk6 hp_6
     refine zq1 ?_;exact zgb hk5 hp_5
    refine zq1 ?_;exact zgb hk3 hp_3
   ·replace hp_3:=AP hg_3 hp_3
    refine zq23 ?_;exact zgb hk3 hp_3
   refine gNl ?_;refine zcn hj1 (fun hc2 hj1=>?_) (fun hc2 hj1=>?_)
   ·refine zq4 ?_
    obtain ⟨hg11,hj1⟩:=Aa hj1;refine zq3 ?_;exact ⟨_,(),hj1,⟨rfl,trivial⟩,⟨rfl,trivial⟩,[],rfl⟩
   ·refine Ao ?_
    exact ⟨_,(),Ac hj1,⟨rfl,trivial⟩,trivial,[],rfl⟩
  ·rintro n1 _ hst
   subst hst;refine An (L':=[(3,.i64 n1)]) (ms':=[]) rfl rfl ?_;refine zq5 ?_
   cases hm1;exact Ae zr1
noncomputable def E4 (s1:(List UInt8)) (l1:(List (List UInt8))):Nat->Int->Option (Out Bool Unit)
 | 0,_=>none
 | n+1,i1 =>
  bif (decide (i1<(l1.length:Int))) then
   (idx l1 i1).bind fun x1 =>
   bif (decide ((x1:List UInt8)=s1)) then
    some (Out.ret true)
   else
    grd (InR (i1+1)) <|
    E4 s1 l1 n (i1+1)
  else
   some (Out.go (()))
noncomputable def Iu (s1:(List UInt8)) (l1:(List (List UInt8))):Option Bool:=
 ((E4 s1 l1 FU 0:Option (Out Bool Unit))).bind (fun oo=>oo.on (fun r1=>some r1) (fun _ =>
 some false))
theorem PT {s1:(List UInt8)} {l1:(List (List UInt8))} {r_1:Bool} (hm:Iu s1 l1=some r_1):Fn0 Tryz.prog 119 [.str s1,.list 1 D.str l1] (.bool r_1):=by
 unfold Iu at hm;refine Ad func119 rfl ntmps119 rfl fun H0 fr w0=>?_;refine zq9 ?_;obtain ⟨o_1,hj1,hm1⟩:=bS hm;refine Ak [] [] (fun (st:Unit) (hid:Unit)=>match st,hid with | _,_=>[]) (fun F (st:Unit) (hid:Unit)=>match st,hid with | _,_=>[]) (fun st=>Out.go (st)=o_1) trivial trivial ?_ ?_
 ·refine Aj ?_
  refine Ai [(0,_),(1,_)] [] (fun (st:Int) (hid:Unit)=>match st,hid with | i1,_=>[(5,.i64 i1)]) (fun F (st:Int) (hid:Unit)=>match st,hid with | i1,_=>[]) () hj1 (fun _=>rfl) ⟨rfl,rfl,trivial⟩ trivial ⟨rfl,trivial⟩ rfl ?_;rintro n i1 _ hj1;rw [E4] at hj1;refine Ar (L':=[(5,.i64 i1),(0,_),(1,_)]) (ms':=[]) rfl rfl ?_;refine zq8 ?_;refine zcn hj1 (fun hc1 hj1=>?_) (fun hc1 hj1=>?_)
  ·refine zq7 ?_
   obtain ⟨x1,hx1,hj1⟩:=bS hj1;refine zq5 ?_;refine zcn hj1 (fun hc2 hj1=>?_) (fun hc2 hj1=>?_)
   ·refine zq4 ?_
    refine Ae ?_;obtain rfl:=Ac hj1
    replace hm1:=BJ hm1
    cases hm1;exact zr1
   ·refine zq3 ?_
    obtain ⟨hg2,hj1⟩:=Aa hj1;refine zq3 ?_;exact ⟨_,(),hj1,⟨rfl,trivial⟩,⟨rfl,rfl,trivial⟩,[],rfl⟩
  ·refine Ao ?_
   exact ⟨_,(),Ac hj1,trivial,trivial,[],rfl⟩
 ·rintro _ _ hst
  subst hst
  replace hm1:=Dh hm1
  refine An (L':=[]) (ms':=[]) rfl rfl ?_;refine zq4 ?_
  cases hm1;exact Ae zr1
noncomputable def Fe  : Option (List (List UInt8)):=
 some [([102,117,110]:List UInt8),([108,101,116]:List UInt8),([114,101,99]:List UInt8),([105,110]:List UInt8),([105,102]:List UInt8),([116,104,101,110]:List UInt8),([101,108,115,101]:List UInt8),([99,97,115,101]:List UInt8),([111,102]:List UInt8),([101,110,100]:List UInt8),([116,114,117,101]:List UInt8),([102,97,108,115,101]:List UInt8),([99,104,101,99,107]:List UInt8),([97,115,107]:List UInt8),([116,111,112]:List UInt8),([98,111,116]:List UInt8),([105,110,116]:List UInt8),([98,111,111,108]:List UInt8),([115,116,114,105,110,103]:List UInt8),([109,117]:List UInt8)]
theorem Mf  {r_1:(List (List UInt8))} (hm:Fe=some r_1):Fn0 Tryz.prog 120 [] (.list 1 D.str r_1):=by
 unfold Fe at hm;refine Ad func120 rfl ntmps120 rfl fun H0 fr w0=>?_;refine zq3 ?_;refine Al (nilE (i:=0) (sz:=1) (f:=D.str) rfl).refines ?_;refine zq3 ?_;refine Af rfl rfl rfl (Ax (xs:=[_,_,_,_,_,_,_,_,_,_,_,_,_,_,_,_,_,_,_,_]) (f:=D.str) (l:=[_,_,_,_,_,_,_,_,_,_,_,_,_,_,_,_,_,_,_,_]) runUnderlying65 sizeOf9 zeroValue9 rfl rfl rfl (fun _=>⟨rfl,rfl,rfl⟩) rfl) ?_;refine zq2 ?_
 cases hm;exact Ae zr1
noncomputable def FE (s1:(List UInt8)):Option Bool:=
 (Fe).bind fun x1 =>
 (Iu s1 x1).bind fun x2 =>
 some x2
theorem Nq {s1:(List UInt8)} {r_1:Bool} (hm:FE s1=some r_1):Fn0 Tryz.prog 88 [.str s1] (.bool r_1):=by
 unfold FE at hm;refine Ad func88 rfl ntmps88 rfl fun H0 fr w0=>?_;refine zq7 ?_;obtain ⟨x1,hx1,hm⟩:=bS hm;refine zc0 (Mf hx1) ?_;obtain ⟨x2,hx2,hm⟩:=bS hm;refine zc0 (PT hx2) ?_;refine zq2 ?_
 cases hm;exact Ae zr1
noncomputable def E1 (s1:(List UInt8)):Option Bool:=
 (bif ((decide (0<(s1.length:Int)))&&(decide ((s1.length:Int)<=20))) then ((E2 s1).bind fun x1 =>
 some (decide (x1=(s1.length:Int)))) else (some false)).bind fun p1 =>
 (bif p1 then ((idx s1 0).bind fun c1 =>
 (DQ c1).bind fun x2 =>
 some x2) else (some false)).bind fun p2 =>
 (bif p2 then ((FE s1).bind fun x3 =>
 some (!x3)) else (some false)).bind fun p3 =>
 some p3
theorem IP {s1:(List UInt8)} {r_1:Bool} (hm:E1 s1=some r_1):Fn0 Tryz.prog 51 [.str s1] (.bool r_1):=by
 unfold E1 at hm;refine Ad func51 rfl ntmps51 rfl fun H0 fr w0=>?_;refine zq7 ?_;refine Af rfl rfl rfl (Dd runUnderlying9 rfl) ?_;refine zq2 ?_
 apply Bo [(0,_)] 4 10 (t:=6) ⟨rfl,trivial⟩ rfl
 ·intro hg_1 hk1
  refine zq1 ?_;refine gWp rfl rfl rfl hg_1 rfl rfl (Dd runUnderlying9 rfl) ?_;refine zq2 ?_;exact zgm hk1
 ·intro hg_1 hk1
  refine zq4 ?_;exact zgm hk1
 refine zq1 ?_;obtain ⟨p1,hp_2,hm⟩:=bS hm;refine AL [(0,_)] 6 17 p1 (t:=11) ⟨rfl,trivial⟩ rfl (fun hg_2 hk2=>?_) (fun hg_2 hk2=>?_) ?_
 ·replace hp_2:=AO hg_2 hp_2
  refine zq1 ?_;obtain ⟨x1,hx1,hp_2⟩:=bS hp_2;refine zcw (Mv hx1) ?_;refine zq1 ?_;refine gWp rfl rfl rfl hg_2 rfl rfl (Dd runUnderlying9 rfl) ?_;refine zq2 ?_;exact zgb hk2 hp_2
 ·replace hp_2:=AP hg_2 hp_2
  refine zq6 ?_;exact zgb hk2 hp_2
 refine zq1 ?_;obtain ⟨p2,hp_3,hm⟩:=bS hm;refine AL [(0,_)] 4 22 p2 (t:=18) ⟨rfl,trivial⟩ rfl (fun hg_3 hk3=>?_) (fun hg_3 hk3=>?_) ?_
 ·replace hp_3:=AO hg_3 hp_3
  refine zq1 ?_;obtain ⟨c1,hx2,hp_3⟩:=bS hp_3;refine gWp rfl rfl rfl hg_3 rfl rfl (Cf runUnderlying9 rfl rfl hx2) ?_;obtain ⟨x2,hx3,hp_3⟩:=bS hp_3;refine zcw (I1 hx3) ?_;refine zq1 ?_;exact zgb hk3 hp_3
 ·replace hp_3:=AP hg_3 hp_3
  refine zq4 ?_;exact zgb hk3 hp_3
 refine zq1 ?_;obtain ⟨p3,hp_4,hm⟩:=bS hm;refine AL [] 4 27 p3 (t:=23) trivial rfl (fun hg_4 hk4=>?_) (fun hg_4 hk4=>?_) ?_
 ·replace hp_4:=AO hg_4 hp_4
  refine zq1 ?_;obtain ⟨x3,hx4,hp_4⟩:=bS hp_4;refine zcw (Nq hx4) ?_;refine zq2 ?_;exact zgb hk4 hp_4
 ·replace hp_4:=AP hg_4 hp_4
  refine zq4 ?_;exact zgb hk4 hp_4
 refine zq2 ?_
 cases hm;exact Ae zr1
noncomputable def GN (s1:(List UInt8)):Option Bool:=
 (bif ((decide (0<(s1.length:Int)))&&(decide ((s1.length:Int)<=20))) then ((E2 s1).bind fun x1 =>
 some (decide (x1=(s1.length:Int)))) else (some false)).bind fun p1 =>
 (bif p1 then ((idx s1 0).bind fun c1 =>
 (Ey c1).bind fun x2 =>
 some x2) else (some false)).bind fun p2 =>
 some p2
theorem RV {s1:(List UInt8)} {r_1:Bool} (hm:GN s1=some r_1):Fn0 Tryz.prog 100 [.str s1] (.bool r_1):=by
 unfold GN at hm;refine Ad func100 rfl ntmps100 rfl fun H0 fr w0=>?_;refine zq7 ?_;refine Af rfl rfl rfl (Dd runUnderlying9 rfl) ?_;refine zq2 ?_
 apply Bo [(0,_)] 4 10 (t:=6) ⟨rfl,trivial⟩ rfl
 ·intro hg_1 hk1
  refine zq1 ?_;refine gWp rfl rfl rfl hg_1 rfl rfl (Dd runUnderlying9 rfl) ?_;refine zq2 ?_;exact zgm hk1
 ·intro hg_1 hk1
  refine zq4 ?_;exact zgm hk1
 refine zq1 ?_;obtain ⟨p1,hp_2,hm⟩:=bS hm;refine AL [(0,_)] 6 17 p1 (t:=11) ⟨rfl,trivial⟩ rfl (fun hg_2 hk2=>?_) (fun hg_2 hk2=>?_) ?_
 ·replace hp_2:=AO hg_2 hp_2
  refine zq1 ?_;obtain ⟨x1,hx1,hp_2⟩:=bS hp_2;refine zcw (Mv hx1) ?_;refine zq1 ?_;refine gWp rfl rfl rfl hg_2 rfl rfl (Dd runUnderlying9 rfl) ?_;refine zq2 ?_;exact zgb hk2 hp_2
 ·replace hp_2:=AP hg_2 hp_2
  refine zq6 ?_;exact zgb hk2 hp_2
 refine zq1 ?_;obtain ⟨p2,hp_3,hm⟩:=bS hm;refine AL [] 4 22 p2 (t:=18) trivial rfl (fun hg_3 hk3=>?_) (fun hg_3 hk3=>?_) ?_
 ·replace hp_3:=AO hg_3 hp_3
  refine zq1 ?_;obtain ⟨c1,hx2,hp_3⟩:=bS hp_3;refine gWp rfl rfl rfl hg_3 rfl rfl (Cf runUnderlying9 rfl rfl hx2) ?_;obtain ⟨x2,hx3,hp_3⟩:=bS hp_3;refine zcw (I3 hx3) ?_;refine zq1 ?_;exact zgb hk3 hp_3
 ·replace hp_3:=AP hg_3 hp_3
  refine zq4 ?_;exact zgb hk3 hp_3
 refine zq2 ?_
 cases hm;exact Ae zr1
noncomputable def Eh (n1:ANd):Nat->(Int×(List Int))->Option (List Int)
 | 0,_=>none
 | n+1,(i1,l2) =>
  bif (decide (i1<(n1.l.length:Int))) then
   (idx n1.l i1).bind fun x1 =>
   grd ((l2.length+([x1.at_]:List _).length)*8<=140737488355328) <|
   grd (InR (i1+1)) <|
   Eh n1 n ((i1+1),(l2++[x1.at_]))
  else
   some l2
noncomputable def Fd (n1:ANd):Option (List Int):=
 bif (((decide (n1.kind=6))||(decide (n1.kind=9)))||(decide (n1.kind=10))) then
  some [n1.a,n1.b]
 else
  bif ((decide (n1.kind=7))||(decide (n1.kind=8))) then
   (Eh n1 FU (0,[]):Option (List Int)).bind fun l1 =>
   some l1
  else
   some []
theorem J6 {n1:ANd} {r_1:(List Int)} (hm:Fd n1=some r_1):Fn0 Tryz.prog 101 [ANd.d n1] (.list 1 D.i64 r_1):=by
 unfold Fd at hm;refine Ad func101 rfl ntmps101 rfl fun H0 fr w0=>?_;refine zq4 ?_;refine Al (nilE (i:=2) (sz:=1) (f:=D.i64) rfl).refines ?_;refine zq8 ?_
 apply Bt [(1,_)] 4 12 (t:=8) ⟨rfl,trivial⟩ rfl
 ·intro hg_1 hk1
  refine zq4 ?_;exact zgm hk1
 ·intro hg_1 hk1
  refine zq4 ?_;exact zgm hk1
 refine zq1 ?_
 apply Bt [(1,_)] 4 17 (t:=13) ⟨rfl,trivial⟩ rfl
 ·intro hg_2 hk2
  refine zq4 ?_;exact zgm hk2
 ·intro hg_2 hk2
  refine zq4 ?_;exact zgm hk2
 refine gNl ?_;refine zcn hm (fun hc1 hm=>?_) (fun hc1 hm=>?_)
 ·refine zq6 ?_
  refine Af rfl rfl rfl (zs2 D.i64) ?_;refine zq2 ?_
  cases hm;exact Ae zr1
 ·refine zq3 ?_
  refine Av rfl rfl rfl (Aq (xs:=[]) (f:=D.i64) (l:=[]) runUnderlying25 sizeOf3 zeroValue3 rfl rfl rfl (fun _=>⟨rfl,rfl,rfl⟩) rfl (by simp [maxLen])) ?_;rintro _ _ ⟨a_r1,rfl,rfl⟩;refine zq9 ?_
  apply Bt [(1,_),(3,_)] 4 31 (t:=27) ⟨rfl,rfl,trivial⟩ rfl
  ·intro hg_3 hk3
   refine zq4 ?_;exact zgm hk3
  ·intro hg_3 hk3
   refine zq4 ?_;exact zgm hk3
  refine gNl ?_;refine zcn hm (fun hc2 hm=>?_) (fun hc2 hm=>?_)
  ·refine zq4 ?_
   obtain ⟨o_1,hj1,hm1⟩:=bS hm;refine Ak [] [] (fun (st:(List Int)) (hid:(Option Addr×Nat))=>match st,hid with | l1,(a_r1,cap_r1)=>[(3,.v (.slice a_r1 l1.length cap_r1))]) (fun F (st:(List Int)) (hid:(Option Addr×Nat))=>match st,hid with | l1,(a_r1,cap_r1)=>[row a_r1 cap_r1 3 1 D.i64 l1]) (fun st=>st=o_1) trivial trivial ?_ ?_
   ·refine Aj ?_
    refine Ai [(1,_)] [] (fun (st:(Int×(List Int))) (hid:(Option Addr×Nat))=>match st,hid with | (i1,l2),(a_r1,cap_r1)=>[(3,.v (.slice a_r1 l2.length cap_r1)),(4,.i64 i1)]) (fun F (st:(Int×(List Int))) (hid:(Option Addr×Nat))=>match st,hid with | (i1,l2),(a_r1,cap_r1)=>[row a_r1 cap_r1 3 1 D.i64 l2]) (_,_) hj1 (fun _=>rfl) ⟨rfl,trivial⟩ trivial ⟨rfl,rfl,trivial⟩ rfl ?_;rintro n ⟨i1,l2⟩ ⟨a_r1,cap_r1⟩ hj1;rw [Eh] at hj1;refine Ar (L':=[(3,.v (.slice a_r1 l2.length cap_r1)),(4,.i64 i1),(1,_)]) (ms':=[row a_r1 cap_r1 3 1 D.i64 l2]) rfl rfl ?_;refine zq9 ?_;refine zcn hj1 (fun hc3 hj1=>?_) (fun hc3 hj1=>?_)
    ·refine zq8 ?_
     obtain ⟨x1,hx1,hj1⟩:=bS hj1;refine zq3 ?_;refine Af rfl rfl rfl (zs1 D.i64) ?_;obtain ⟨hg2,hj1⟩:=Aa hj1;refine zap 0 hg2 fun a_r1 cap_r1=>?_;refine Ag (ms':=[_]) rfl ?_;refine zq4 ?_;obtain ⟨hg3,hj1⟩:=Aa hj1;refine zq3 ?_;exact ⟨_,(_,_),hj1,⟨rfl,rfl,trivial⟩,⟨rfl,trivial⟩,[],rfl⟩
    ·refine Ao ?_
     exact ⟨_,(_,_),Ac hj1,⟨rfl,trivial⟩,trivial,[],rfl⟩
   ·rintro l1 ⟨a_r1,cap_r1⟩ hst
    subst hst;refine An (L':=[(3,.v (.slice a_r1 l1.length cap_r1))]) (ms':=[row a_r1 cap_r1 3 1 D.i64 l1]) rfl rfl ?_;refine zq5 ?_;refine BA (peekE (i:=2) 0 rfl rfl rfl).refines ?_
    cases hm1;exact Ae zr1
  ·refine zq6 ?_
   refine BA (peekE (i:=2) 0 rfl rfl rfl).refines ?_
   cases hm;exact Ae zr1
noncomputable def C2 (n1:ANd):Nat->Int->Option (Out Bool Unit)
 | 0,_=>none
 | n+1,i1 =>
  bif (decide (i1<(n1.l.length:Int))) then
   (idx n1.l i1).bind fun x1 =>
   (bif (decide (n1.kind=7)) then ((E1 x1.name).bind fun x2 =>
   some (!x2)) else (some false)).bind fun p1 =>
   (bif p1 then (some true) else ((bif (decide (n1.kind=8)) then ((GN x1.name).bind fun x3 =>
   some (!x3)) else (some false)).bind fun p3 =>
   some p3)).bind fun p2 =>
   (bif p2 then (some true) else ((bif (decide (0<i1)) then (grd (InR (i1 - 1)) <|
   (idx n1.l (i1 - 1)).bind fun x4 =>
   some (!Op.bytesLess x4.name x1.name)) else (some false)).bind fun p5 =>
   some p5)).bind fun p4 =>
   bif p4 then
    some (Out.ret false)
   else
    grd (InR (i1+1)) <|
    C2 n1 n (i1+1)
  else
   some (Out.go (()))
noncomputable def CS (all1:Int) (x5:(List Int)):Nat->Int->Option (Out Bool Unit)
 | 0,_=>none
 | n+1,i2 =>
  bif (decide (i2<(x5.length:Int))) then
   (idx x5 i2).bind fun x6 =>
   (bif (decide (x6<0)) then (some true) else ((idx x5 i2).bind fun x7 =>
   some (decide (all1<=x7)))).bind fun p6 =>
   bif p6 then
    some (Out.ret false)
   else
    grd (InR (i2+1)) <|
    CS all1 x5 n (i2+1)
  else
   some (Out.go (()))
noncomputable def Gb (n1:ANd) (all1:Int):Option Bool:=
 bif ((((((decide (n1.kind<1))||(decide (11<n1.kind)))||(((!(((decide (n1.kind=6))||(decide (n1.kind=9)))||(decide (n1.kind=10))))&&(!decide (n1.kind=11)))&&(!decide (n1.a=0))))||((!(((decide (n1.kind=6))||(decide (n1.kind=9)))||(decide (n1.kind=10))))&&(!decide (n1.b=0))))||((!((decide (n1.kind=7))||(decide (n1.kind=8))))&&(decide (0<(n1.l.length:Int)))))||(decide (30<(n1.l.length:Int)))) then
  some false
 else
  bif ((decide (n1.kind=11))&&((decide (n1.a<0))||(decide (999<n1.a)))) then
   some false
  else
   ((C2 n1 FU 0:Option (Out Bool Unit))).bind (fun oo=>oo.on (fun r2=>some r2) (fun _ =>
   (Fd n1).bind fun x5 =>
   ((CS all1 x5 FU 0:Option (Out Bool Unit))).bind (fun oo=>oo.on (fun r1=>some r1) (fun _ =>
   some true))))
theorem Ps {n1:ANd} {all1:Int} {r_1:Bool} (hm:Gb n1 all1=some r_1):Fn0 Tryz.prog 59 [ANd.d n1,.i64 all1] (.bool r_1):=by
 unfold Gb at hm;refine Ad func59 rfl ntmps59 rfl fun H0 fr w0=>?_;refine zq11 ?_
 apply Bt [(1,_),(2,_)] 4 18 (t:=14) ⟨rfl,rfl,trivial⟩ rfl
 ·intro hg_1 hk1
  refine zq4 ?_;exact zgm hk1
 ·intro hg_1 hk1
  refine zq4 ?_;exact zgm hk1
 refine zq1 ?_
 apply Bt [(1,_),(2,_)] 4 23 (t:=19) ⟨rfl,rfl,trivial⟩ rfl
 ·intro hg_2 hk2
  refine zq4 ?_;exact zgm hk2
 ·intro hg_2 hk2
  refine zq4 ?_;exact zgm hk2
 refine zq8 ?_
 apply Bt [(1,_),(2,_),(5,_)] 4 31 (t:=27) ⟨rfl,rfl,rfl,trivial⟩ rfl
 ·intro hg_3 hk3
  refine zq4 ?_;exact zgm hk3
 ·intro hg_3 hk3
  refine zq4 ?_;exact zgm hk3
 refine zq9 ?_
 apply Bt [(1,_),(2,_),(5,_),(6,_)] 4 39 (t:=35) ⟨rfl,rfl,rfl,rfl,trivial⟩ rfl
 ·intro hg_4 hk4
  refine zq4 ?_;exact zgm hk4
 ·intro hg_4 hk4
  refine zq4 ?_;exact zgm hk4
 refine zq1 ?_
 apply Bt [(1,_),(2,_),(5,_),(6,_)] 13 53 (t:=40) ⟨rfl,rfl,rfl,rfl,trivial⟩ rfl
 ·intro hg_5 hk5
  refine zq3 ?_
  apply Bo [(1,_),(2,_),(5,_),(6,_),(40,_)] 4 47 (t:=43) ⟨rfl,rfl,rfl,rfl,rfl,trivial⟩ rfl
  ·intro hg_6 hk6
   refine zq4 ?_;exact zgm hk6
  ·intro hg_6 hk6
   refine zq4 ?_;exact zgm hk6
  refine zq1 ?_
  apply Bo [(1,_),(2,_),(5,_),(6,_),(40,_)] 4 52 (t:=48) ⟨rfl,rfl,rfl,rfl,rfl,trivial⟩ rfl
  ·intro hg_7 hk7
   refine zq4 ?_;exact zgm hk7
  ·intro hg_7 hk7
   refine zq4 ?_;exact zgm hk7
  refine zq1 ?_;exact zgm hk5
 ·intro hg_5 hk5
  refine zq13 ?_;exact zgm hk5
 refine zq1 ?_
 apply Bt [(1,_),(2,_),(6,_)] 8 62 (t:=54) ⟨rfl,rfl,rfl,trivial⟩ rfl
 ·intro hg_8 hk8
  refine zq3 ?_
  apply Bo [(1,_),(2,_),(6,_),(54,_)] 4 61 (t:=57) ⟨rfl,rfl,rfl,rfl,trivial⟩ rfl
  ·intro hg_9 hk9
   refine zq4 ?_;exact zgm hk9
  ·intro hg_9 hk9
   refine zq4 ?_;exact zgm hk9
  refine zq1 ?_;exact zgm hk8
 ·intro hg_8 hk8
  refine zq8 ?_;exact zgm hk8
 refine zq1 ?_
 apply Bt [(1,_),(2,_)] 9 72 (t:=63) ⟨rfl,rfl,trivial⟩ rfl
 ·intro hg_10 hk10
  refine zq3 ?_
  apply Bo [(1,_),(2,_),(63,_)] 5 71 (t:=66) ⟨rfl,rfl,rfl,trivial⟩ rfl
  ·intro hg_11 hk11
   refine zq5 ?_;exact zgm hk11
  ·intro hg_11 hk11
   refine zq5 ?_;exact zgm hk11
  refine zq1 ?_;exact zgm hk10
 ·intro hg_10 hk10
  refine zq9 ?_;exact zgm hk10
 refine zq1 ?_
 apply Bt [(1,_),(2,_)] 5 78 (t:=73) ⟨rfl,rfl,trivial⟩ rfl
 ·intro hg_12 hk12
  refine zq5 ?_;exact zgm hk12
 ·intro hg_12 hk12
  refine zq5 ?_;exact zgm hk12
 refine gNl ?_;refine zcn hm (fun hc1 hm=>?_) (fun hc1 hm=>?_)
 ·refine zq4 ?_
  cases hm;exact Ae zr1
 ·refine zq8 ?_
  apply Bo [(1,_),(2,_)] 9 91 (t:=82) ⟨rfl,rfl,trivial⟩ rfl
  ·intro hg_13 hk13
   refine zq4 ?_
   apply Bt [(1,_),(2,_),(82,_)] 4 90 (t:=86) ⟨rfl,rfl,rfl,trivial⟩ rfl
   ·intro hg_14 hk14
    refine zq4 ?_;exact zgm hk14
   ·intro hg_14 hk14
    refine zq4 ?_;exact zgm hk14
   refine zq1 ?_;exact zgm hk13
  ·intro hg_13 hk13
   refine zq9 ?_;exact zgm hk13
  refine gNl ?_;refine zcn hm (fun hc2 hm=>?_) (fun hc2 hm=>?_)
  ·refine zq4 ?_
   cases hm;exact Ae zr1
  ·refine zq6 ?_
   obtain ⟨o_1,hj1,hm1⟩:=bS hm;refine Ak [(1,_),(2,_)] [] (fun (st:Unit) (hid:Unit)=>match st,hid with | _,_=>[]) (fun F (st:Unit) (hid:Unit)=>match st,hid with | _,_=>[]) (fun st=>Out.go (st)=o_1) ⟨rfl,rfl,trivial⟩ trivial ?_ ?_
   ·refine Aj ?_
    refine Ai [(1,_),(2,_)] [] (fun (st:Int) (hid:Unit)=>match st,hid with | i1,_=>[(7,.i64 i1)]) (fun F (st:Int) (hid:Unit)=>match st,hid with | i1,_=>[]) () hj1 (fun _=>rfl) ⟨rfl,rfl,trivial⟩ trivial ⟨rfl,trivial⟩ rfl ?_;rintro n i1 _ hj1;rw [C2] at hj1;refine Ar (L':=[(7,.i64 i1),(1,_),(2,_)]) (ms':=[]) rfl rfl ?_;refine zq9 ?_;refine zcn hj1 (fun hc3 hj1=>?_) (fun hc3 hj1=>?_)
    ·refine zq8 ?_
     obtain ⟨x1,hx1,hj1⟩:=bS hj1;refine Af rfl rfl rfl (oIm runUnderlying42 sizeOf98 rfl rfl hx1) ?_;refine zq10 ?_;obtain ⟨p1,hp_15,hj1⟩:=bS hj1;refine AL [(1,_),(2,_),(7,_),(8,_)] 4 112 p1 (t:=108) ⟨rfl,rfl,rfl,rfl,trivial⟩ rfl (fun hg_15 hk15=>?_) (fun hg_15 hk15=>?_) ?_
     ·replace hp_15:=AO hg_15 hp_15
      refine zq1 ?_;obtain ⟨x2,hx2,hp_15⟩:=bS hp_15;refine zcw (IP hx2) ?_;refine zq2 ?_;exact zgb hk15 hp_15
     ·replace hp_15:=AP hg_15 hp_15
      refine zq4 ?_;exact zgb hk15 hp_15
     refine zq1 ?_;obtain ⟨p2,hp_16,hj1⟩:=bS hj1;refine AL [(1,_),(2,_),(7,_),(8,_)] 9 122 p2 (t:=113) ⟨rfl,rfl,rfl,rfl,trivial⟩ rfl (fun hg_16 hk16=>?_) (fun hg_16 hk16=>?_) ?_
     ·replace hp_16:=AO hg_16 hp_16
      refine zq9 ?_;exact zgb hk16 hp_16
     ·replace hp_16:=AP hg_16 hp_16
      refine zq4 ?_;obtain ⟨p3,hp_17,hp_16⟩:=bS hp_16;refine AL [(1,_),(2,_),(7,_),(8,_),(113,_)] 4 121 p3 (t:=117) ⟨rfl,rfl,rfl,rfl,rfl,trivial⟩ rfl (fun hg_17 hk17=>?_) (fun hg_17 hk17=>?_) ?_
      ·replace hp_17:=AO hg_17 hp_17
       refine zq1 ?_;obtain ⟨x3,hx3,hp_17⟩:=bS hp_17;refine zcw (RV hx3) ?_;refine zq2 ?_;exact zgb hk17 hp_17
      ·replace hp_17:=AP hg_17 hp_17
       refine zq4 ?_;exact zgb hk17 hp_17
      refine zq1 ?_;exact zgb hk16 hp_16
     refine zq1 ?_;obtain ⟨p4,hp_18,hj1⟩:=bS hj1;refine AL [(1,_),(2,_),(7,_)] 14 137 p4 (t:=123) ⟨rfl,rfl,rfl,trivial⟩ rfl (fun hg_18 hk18=>?_) (fun hg_18 hk18=>?_) ?_
     ·replace hp_18:=AO hg_18 hp_18
      refine zq14 ?_;exact zgb hk18 hp_18
     ·replace hp_18:=AP hg_18 hp_18
      refine zq3 ?_;obtain ⟨p5,hp_19,hp_18⟩:=bS hp_18;refine AL [(1,_),(2,_),(7,_),(123,_)] 10 136 p5 (t:=126) ⟨rfl,rfl,rfl,rfl,trivial⟩ rfl (fun hg_19 hk19=>?_) (fun hg_19 hk19=>?_) ?_
      ·replace hp_19:=AO hg_19 hp_19
       refine zq3 ?_;obtain ⟨hg4,hp_19⟩:=Aa hp_19;refine zq1 ?_;obtain ⟨x4,hx5,hp_19⟩:=bS hp_19;refine gWp rfl rfl rfl hg_19 rfl rfl (oIm runUnderlying42 sizeOf98 rfl rfl hx5) ?_;refine zq5 ?_;exact zgb hk19 hp_19
      ·replace hp_19:=AP hg_19 hp_19
       refine zq10 ?_;exact zgb hk19 hp_19
      refine zq1 ?_;exact zgb hk18 hp_18
     refine gNl ?_;refine zcn hj1 (fun hc4 hj1=>?_) (fun hc4 hj1=>?_)
     ·refine zq4 ?_
      refine Ae ?_;obtain rfl:=Ac hj1
      replace hm1:=BJ hm1
      cases hm1;exact zr1
     ·refine zq3 ?_
      obtain ⟨hg6,hj1⟩:=Aa hj1;refine zq3 ?_;exact ⟨_,(),hj1,⟨rfl,trivial⟩,⟨rfl,rfl,trivial⟩,[],rfl⟩
    ·refine Ao ?_
     exact ⟨_,(),Ac hj1,trivial,⟨rfl,rfl,trivial⟩,[],rfl⟩
   ·rintro _ _ hst
    subst hst
    replace hm1:=Dh hm1
    refine An (L':=[(1,_),(2,_)]) (ms':=[]) rfl rfl ?_;refine zq3 ?_;obtain ⟨x5,hx7,hm1⟩:=bS hm1;refine zc0 (J6 hx7) ?_;refine zq7 ?_;obtain ⟨o_2,hj2,hm2⟩:=bS hm1;refine Ak [] [] (fun (st:Unit) (hid:Unit)=>match st,hid with | _,_=>[]) (fun F (st:Unit) (hid:Unit)=>match st,hid with | _,_=>[]) (fun st=>Out.go (st)=o_2) trivial trivial ?_ ?_
    ·refine Aj ?_
     refine Ai [(1,_),(9,_)] [] (fun (st:Int) (hid:Unit)=>match st,hid with | i2,_=>[(10,.i64 i2)]) (fun F (st:Int) (hid:Unit)=>match st,hid with | i2,_=>[]) () hj2 (fun _=>rfl) ⟨rfl,rfl,trivial⟩ trivial ⟨rfl,trivial⟩ rfl ?_;rintro n i2 _ hj2;rw [CS] at hj2;refine Ar (L':=[(10,.i64 i2),(1,_),(9,_)]) (ms':=[]) rfl rfl ?_;refine zq8 ?_;refine zcn hj2 (fun hc5 hj2=>?_) (fun hc5 hj2=>?_)
     ·refine zq7 ?_
      obtain ⟨x6,hx8,hj2⟩:=bS hj2;refine Af rfl rfl rfl (oIm runUnderlying25 sizeOf3 rfl rfl hx8) ?_;refine zq3 ?_;obtain ⟨p6,hp_20,hj2⟩:=bS hj2;refine AL [(1,_),(9,_),(10,_)] 7 158 p6 (t:=151) ⟨rfl,rfl,rfl,trivial⟩ rfl (fun hg_20 hk20=>?_) (fun hg_20 hk20=>?_) ?_
      ·replace hp_20:=AO hg_20 hp_20
       refine zq7 ?_;exact zgb hk20 hp_20
      ·replace hp_20:=AP hg_20 hp_20
       refine zq2 ?_;obtain ⟨x7,hx9,hp_20⟩:=bS hp_20;refine gWp rfl rfl rfl hg_20 rfl rfl (oIm runUnderlying25 sizeOf3 rfl rfl hx9) ?_;refine zq4 ?_;exact zgb hk20 hp_20
      refine gNl ?_;refine zcn hj2 (fun hc6 hj2=>?_) (fun hc6 hj2=>?_)
      ·refine zq4 ?_
       refine Ae ?_;obtain rfl:=Ac hj2
       replace hm2:=BJ hm2
       cases hm2;exact zr1
      ·refine zq3 ?_
       obtain ⟨hg10,hj2⟩:=Aa hj2;refine zq3 ?_;exact ⟨_,(),hj2,⟨rfl,trivial⟩,⟨rfl,rfl,trivial⟩,[],rfl⟩
     ·refine Ao ?_
      exact ⟨_,(),Ac hj2,trivial,trivial,[],rfl⟩
    ·rintro _ _ hst
     subst hst
     replace hm2:=Dh hm2
     refine An (L':=[]) (ms':=[]) rfl rfl ?_;refine zq4 ?_
     cases hm2;exact Ae zr1
noncomputable def DO (t1:ATy):Nat->Int->Option (Out Int Unit)
 | 0,_=>none
 | n+1,i1 =>
  bif (decide (i1<(t1.l.length:Int))) then
   (idx t1.l i1).bind fun x1 =>
   (Gb x1 (t1.l.length:Int)).bind fun x2 =>
   bif (!x2) then
    some (Out.ret 4)
   else
    grd (InR (i1+1)) <|
    DO t1 n (i1+1)
  else
   some (Out.go (()))
noncomputable def De (t1:ATy):Nat->(Bool×Int×(List Bool))->Option (Bool×(List Bool))
 | 0,_=>none
 | n+1,(more3,i2,l4) =>
  bif (decide (i2<(t1.l.length:Int))) then
   (idx t1.l i2).bind fun x3 =>
   (bif ((!decide (x3.kind=9))&&(!decide (x3.kind=10))) then (some true) else ((idx l4 x3.a).bind fun x4 =>
   (bif x4 then ((idx l4 x3.b).bind fun x5 =>
   some x5) else (some false)).bind fun p2 =>
   some p2)).bind fun p1 =>
   (bif p1 then ((idx l4 i2).bind fun x6 =>
   some (!x6)) else (some false)).bind fun p3 =>
   bif p3 then
    (idx l4 i2).bind fun x7 =>
    grd (InR (i2+1)) <|
    De t1 n (true,(i2+1),(l4.set (i2).toNat true))
   else
    grd (InR (i2+1)) <|
    De t1 n (more3,(i2+1),l4)
  else
   some (more3,l4)
noncomputable def DT (t1:ATy):Nat->(Bool×(List Bool))->Option (List Bool)
 | 0,_=>none
 | n+1,(more1,l2) =>
  bif more1 then
   (De t1 FU (false,0,l2):Option (Bool×(List Bool))).bind fun (more2,l3) =>
   DT t1 n (more2,l3)
  else
   some l2
noncomputable def DX (l1:(List Bool)):Nat->Int->Option (Out Int Unit)
 | 0,_=>none
 | n+1,i3 =>
  bif (decide (i3<(l1.length:Int))) then
   (idx l1 i3).bind fun x8 =>
   bif (!x8) then
    some (Out.ret 4)
   else
    grd (InR (i3+1)) <|
    DX l1 n (i3+1)
  else
   some (Out.go (()))
noncomputable def G2 (t1:ATy):Option Int:=
 bif ((decide ((t1.l.length:Int)<1))||(decide (2000<(t1.l.length:Int)))) then
  some 8
 else
  bif ((decide (t1.root<0))||(decide ((t1.l.length:Int)<=t1.root))) then
   some 4
  else
   ((DO t1 FU 0:Option (Out Int Unit))).bind (fun oo=>oo.on (fun r2=>some r2) (fun _ =>
   grd (0<=(t1.l.length:Int)) <|
   grd (((t1.l.length:Int)).toNat*1<=140737488355328) <|
   (DT t1 FU (true,(List.replicate ((t1.l.length:Int)).toNat (false:Bool))):Option (List Bool)).bind fun l1 =>
   ((DX l1 FU 0:Option (Out Int Unit))).bind (fun oo=>oo.on (fun r1=>some r1) (fun _ =>
   some 0))))
theorem HO {t1:ATy} {r_1:Int} (hm:G2 t1=some r_1):Fn0 Tryz.prog 16 [ATy.d t1] (.i64 r_1):=by
 unfold G2 at hm;refine Ad func16 rfl ntmps16 rfl fun H0 fr w0=>?_;refine zq13 ?_
 apply Bt [(1,_)] 5 19 (t:=14) ⟨rfl,trivial⟩ rfl
 ·intro hg_1 hk1
  refine zq5 ?_;exact zgm hk1
 ·intro hg_1 hk1
  refine zq5 ?_;exact zgm hk1
 refine gNl ?_;refine zcn hm (fun hc1 hm=>?_) (fun hc1 hm=>?_)
 ·refine zq4 ?_
  cases hm;exact Ae zr1
 ·refine zq8 ?_
  apply Bt [(1,_)] 7 30 (t:=23) ⟨rfl,trivial⟩ rfl
  ·intro hg_2 hk2
   refine zq7 ?_;exact zgm hk2
  ·intro hg_2 hk2
   refine zq7 ?_;exact zgm hk2
  refine gNl ?_;refine zcn hm (fun hc2 hm=>?_) (fun hc2 hm=>?_)
  ·refine zq4 ?_
   cases hm;exact Ae zr1
  ·refine zq6 ?_
   obtain ⟨o_1,hj1,hm1⟩:=bS hm;refine Ak [(1,_)] [] (fun (st:Unit) (hid:Unit)=>match st,hid with | _,_=>[]) (fun F (st:Unit) (hid:Unit)=>match st,hid with | _,_=>[]) (fun st=>Out.go (st)=o_1) ⟨rfl,trivial⟩ trivial ?_ ?_
   ·refine Aj ?_
    refine Ai [(1,_)] [] (fun (st:Int) (hid:Unit)=>match st,hid with | i1,_=>[(3,.i64 i1)]) (fun F (st:Int) (hid:Unit)=>match st,hid with | i1,_=>[]) () hj1 (fun _=>rfl) ⟨rfl,trivial⟩ trivial ⟨rfl,trivial⟩ rfl ?_;rintro n i1 _ hj1;rw [DO] at hj1;refine Ar (L':=[(3,.i64 i1),(1,_)]) (ms':=[]) rfl rfl ?_;refine zq9 ?_;refine zcn hj1 (fun hc3 hj1=>?_) (fun hc3 hj1=>?_)
    ·refine zq4 ?_
     obtain ⟨x1,hx1,hj1⟩:=bS hj1;obtain ⟨x2,hx2,hj1⟩:=bS hj1;refine zdr 10 ?_;refine zq3 ?_;refine Aw rfl rfl rfl (oIm runUnderlying22 sizeOf44 rfl rfl hx1) ?_;refine zq4 ?_;refine zcd (Ps hx2) ?_;refine zq3 ?_;refine zcn hj1 (fun hc4 hj1=>?_) (fun hc4 hj1=>?_)
     ·refine zq4 ?_
      refine Ae ?_;obtain rfl:=Ac hj1
      replace hm1:=BJ hm1
      cases hm1;exact zr1
     ·refine zq3 ?_
      obtain ⟨hg3,hj1⟩:=Aa hj1;refine zq3 ?_;exact ⟨_,(),hj1,⟨rfl,trivial⟩,⟨rfl,trivial⟩,[],rfl⟩
    ·refine Ao ?_
     exact ⟨_,(),Ac hj1,trivial,⟨rfl,trivial⟩,[],rfl⟩
   ·rintro _ _ hst
    subst hst
    replace hm1:=Dh hm1
    refine An (L':=[(1,_)]) (ms':=[]) rfl rfl ?_;refine zq5 ?_;obtain ⟨hg4,hm1⟩:=Aa hm1;obtain ⟨hg5,hm1⟩:=Aa hm1;refine Av rfl rfl rfl (Fh (f:=D.bool) (z0:=false) underlying77 type4 rfl rfl rfl (nB rfl) rfl rfl hg4 hg5 (nB rfl)) ?_;rintro _ _ ⟨a_r1,m_r1,cap_r1,rfl,rfl⟩;refine zq7 ?_;obtain ⟨o_2,hj2,hm2⟩:=bS hm1;refine Ak [(4,_)] [] (fun (st:(List Bool)) (hid:Unit)=>match st,hid with | l1,_=>[]) (fun F (st:(List Bool)) (hid:Unit)=>match st,hid with | l1,_=>[arr a_r1 m_r1 cap_r1 4 1 D.bool l1]) (fun st=>st=o_2) ⟨rfl,trivial⟩ trivial ?_ ?_
    ·refine Aj ?_
     refine Ai [(1,_),(4,_)] [] (fun (st:(Bool×(List Bool))) (hid:Unit)=>match st,hid with | (more1,l2),_=>[(5,.bool more1)]) (fun F (st:(Bool×(List Bool))) (hid:Unit)=>match st,hid with | (more1,l2),_=>[arr a_r1 m_r1 cap_r1 4 1 D.bool l2]) () hj2 (fun _=>rfl) ⟨rfl,rfl,trivial⟩ trivial ⟨rfl,trivial⟩ rfl ?_;rintro n ⟨more1,l2⟩ ⟨⟩ hj2;rw [DT] at hj2;refine Ar (L':=[(5,.bool more1),(1,_),(4,_)]) (ms':=[arr a_r1 m_r1 cap_r1 4 1 D.bool l2]) rfl rfl ?_;refine zq5 ?_;refine zcn hj2 (fun hc5 hj2=>?_) (fun hc5 hj2=>?_)
     ·refine zq10 ?_
      obtain ⟨o_3,hj3,hm3⟩:=bS hj2;refine Ak [(1,_),(4,_)] [] (fun (st:(Bool×(List Bool))) (hid:Unit)=>match st,hid with | (more2,l3),_=>[(5,.bool more2)]) (fun F (st:(Bool×(List Bool))) (hid:Unit)=>match st,hid with | (more2,l3),_=>[arr a_r1 m_r1 cap_r1 4 1 D.bool l3]) (fun st=>st=o_3) ⟨rfl,rfl,trivial⟩ trivial ?_ ?_
      ·refine Aj ?_
       refine Ai [(1,_),(4,_)] [] (fun (st:(Bool×Int×(List Bool))) (hid:Unit)=>match st,hid with | (more3,i2,l4),_=>[(5,.bool more3),(6,.i64 i2)]) (fun F (st:(Bool×Int×(List Bool))) (hid:Unit)=>match st,hid with | (more3,i2,l4),_=>[arr a_r1 m_r1 cap_r1 4 1 D.bool l4]) () hj3 (fun _=>rfl) ⟨rfl,rfl,trivial⟩ trivial ⟨rfl,rfl,trivial⟩ rfl ?_;rintro n ⟨more3,i2,l4⟩ ⟨⟩ hj3;rw [De] at hj3;refine Ar (L':=[(5,.bool more3),(6,.i64 i2),(1,_),(4,_)]) (ms':=[arr a_r1 m_r1 cap_r1 4 1 D.bool l4]) rfl rfl ?_;refine zq9 ?_;refine zcn hj3 (fun hc6 hj3=>?_) (fun hc6 hj3=>?_)
       ·refine zq8 ?_
        obtain ⟨x3,hx6,hj3⟩:=bS hj3;refine Af rfl rfl rfl (oIm runUnderlying22 sizeOf44 rfl rfl hx6) ?_;refine zq1 ?_;refine Dq fun b1=>?_;refine zst 0 ?_;refine Ag (ms':=[box b1 44 [_,_,_,_],_]) rfl ?_;refine zq7 ?_
        apply Bo [(1,_),(4,_),(5,_),(6,_),(7,_)] 4 72 (t:=68) ⟨rfl,rfl,rfl,rfl,rfl,trivial⟩ rfl
        ·intro hg_3 hk3
         refine zq4 ?_;exact zgm hk3
        ·intro hg_3 hk3
         refine zq4 ?_;exact zgm hk3
        refine zq1 ?_;obtain ⟨p1,hp_4,hj3⟩:=bS hj3;refine AL [(1,_),(4,_),(5,_),(6,_)] 13 86 p1 (t:=73) ⟨rfl,rfl,rfl,rfl,trivial⟩ rfl (fun hg_4 hk4=>?_) (fun hg_4 hk4=>?_) ?_
        ·replace hp_4:=AO hg_4 hp_4
         refine zq13 ?_;exact zgb hk4 hp_4
        ·replace hp_4:=AP hg_4 hp_4
         refine zq3 ?_;obtain ⟨x4,hx7,hp_4⟩:=bS hp_4;refine gWp rfl rfl rfl hg_4 rfl rfl (Ap 1 runUnderlying77 sizeOf4 rfl rfl rfl hx7) ?_;refine gWp rfl rfl rfl hg_4 rfl rfl (AV (off:=0) 1 isAgg4 rfl rfl (Am hx7).2 rfl rfl rfl) ?_;refine zq1 ?_;obtain ⟨p2,hp_5,hp_4⟩:=bS hp_4;refine AL [(1,_),(4,_),(5,_),(6,_),(73,_)] 6 85 p2 (t:=79) ⟨rfl,rfl,rfl,rfl,rfl,trivial⟩ rfl (fun hg_5 hk5=>?_) (fun hg_5 hk5=>?_) ?_
         ·replace hp_5:=AO hg_5 hp_5
          refine zq3 ?_;obtain ⟨x5,hx8,hp_5⟩:=bS hp_5;refine gWp rfl rfl rfl hg_5 rfl rfl (Ap 1 runUnderlying77 sizeOf4 rfl rfl rfl hx8) ?_;refine gWp rfl rfl rfl hg_5 rfl rfl (AV (off:=0) 1 isAgg4 rfl rfl (Am hx8).2 rfl rfl rfl) ?_;refine zq1 ?_;exact zgb hk5 hp_5
         ·replace hp_5:=AP hg_5 hp_5
          refine zq6 ?_;exact zgb hk5 hp_5
         refine zq1 ?_;exact zgb hk4 hp_4
        refine zq6 ?_;obtain ⟨p3,hp_6,hj3⟩:=bS hj3;refine AL [(1,_),(4,_),(5,_),(6,_)] 6 94 p3 (t:=88) ⟨rfl,rfl,rfl,rfl,trivial⟩ rfl (fun hg_6 hk6=>?_) (fun hg_6 hk6=>?_) ?_
        ·replace hp_6:=AO hg_6 hp_6
         refine zq2 ?_;obtain ⟨x6,hx9,hp_6⟩:=bS hp_6;refine gWp rfl rfl rfl hg_6 rfl rfl (Ap 1 runUnderlying77 sizeOf4 rfl rfl rfl hx9) ?_;refine gWp rfl rfl rfl hg_6 rfl rfl (AV (off:=0) 1 isAgg4 rfl rfl (Am hx9).2 rfl rfl rfl) ?_;refine zq2 ?_;exact zgb hk6 hp_6
        ·replace hp_6:=AP hg_6 hp_6
         refine zq6 ?_;exact zgb hk6 hp_6
        refine gNl ?_;refine zcn hj3 (fun hc7 hj3=>?_) (fun hc7 hj3=>?_)
        ·refine zq3 ?_
         obtain ⟨x7,hx10,hj3⟩:=bS hj3;refine Af rfl rfl rfl (Ap 1 runUnderlying77 sizeOf4 rfl rfl rfl hx10) ?_;refine Gk rfl rfl (Bx (off:=0) (z':=true) 1 sizeOf4 rfl rfl (Am hx10).2 rfl rfl rfl rfl rfl rfl (nB rfl) rfl rfl) ?_;rintro _ _ rfl;refine Ag (ms':=[box b1 44 [_,_,_,_],_]) rfl ?_;refine zq4 ?_;obtain ⟨hg11,hj3⟩:=Aa hj3;refine zq3 ?_;exact ⟨_,(),hj3,⟨rfl,rfl,trivial⟩,⟨rfl,rfl,trivial⟩,[_],rfl⟩
        ·refine zq3 ?_
         obtain ⟨hg12,hj3⟩:=Aa hj3;refine zq3 ?_;exact ⟨_,(),hj3,⟨rfl,rfl,trivial⟩,⟨rfl,rfl,trivial⟩,[_],rfl⟩
       ·refine Ao ?_
        exact ⟨_,(),Ac hj3,⟨rfl,trivial⟩,⟨rfl,rfl,trivial⟩,[],rfl⟩
      ·rintro ⟨more2,l3⟩ ⟨⟩ hst
       subst hst;refine An (L':=[(5,.bool more2),(1,_),(4,_)]) (ms':=[arr a_r1 m_r1 cap_r1 4 1 D.bool l3]) rfl rfl ?_;exact ⟨_,(),hm3,⟨rfl,trivial⟩,⟨rfl,rfl,trivial⟩,[],rfl⟩
     ·refine Ao ?_
      exact ⟨_,(),Ac hj2,trivial,⟨rfl,trivial⟩,[],rfl⟩
    ·rintro l1 ⟨⟩ hst
     subst hst;refine An (L':=[(4,_)]) (ms':=[arr a_r1 m_r1 cap_r1 4 1 D.bool l1]) rfl rfl ?_;refine zq5 ?_;obtain ⟨o_4,hj4,hm4⟩:=bS hm2;refine Ak [] [(0,_)] (fun (st:Unit) (hid:Unit)=>match st,hid with | _,_=>[]) (fun F (st:Unit) (hid:Unit)=>match st,hid with | _,_=>[(nthF F 0)]) (fun st=>Out.go (st)=o_4) trivial ⟨rfl,trivial⟩ ?_ ?_
     ·refine Aj ?_
      refine Ai [(4,_)] [(0,_)] (fun (st:Int) (hid:Unit)=>match st,hid with | i3,_=>[(9,.i64 i3)]) (fun F (st:Int) (hid:Unit)=>match st,hid with | i3,_=>[(nthF F 0)]) () hj4 (fun _=>rfl) ⟨rfl,trivial⟩ ⟨rfl,trivial⟩ ⟨rfl,trivial⟩ rfl ?_;rintro n i3 _ hj4;rw [DX] at hj4;refine Ar (L':=[(9,.i64 i3),(4,_)]) (ms':=[_]) rfl rfl ?_;refine zq5 ?_;refine Af rfl rfl rfl (BP 0 runUnderlying77 rfl rfl) ?_;refine zq2 ?_;refine zcn hj4 (fun hc8 hj4=>?_) (fun hc8 hj4=>?_)
      ·refine zq7 ?_
       obtain ⟨x8,hx13,hj4⟩:=bS hj4;refine Af rfl rfl rfl (Ap 0 runUnderlying77 sizeOf4 rfl rfl rfl hx13) ?_;refine Af rfl rfl rfl (AV (off:=0) 0 isAgg4 rfl rfl (Am hx13).2 rfl rfl rfl) ?_;refine zq2 ?_;refine zcn hj4 (fun hc9 hj4=>?_) (fun hc9 hj4=>?_)
       ·refine zq4 ?_
        refine Ae ?_;obtain rfl:=Ac hj4
        replace hm4:=BJ hm4
        cases hm4;exact zr1
       ·refine zq3 ?_
        obtain ⟨hg14,hj4⟩:=Aa hj4;refine zq3 ?_;exact ⟨_,(),hj4,⟨rfl,trivial⟩,⟨rfl,trivial⟩,[],rfl⟩
      ·refine Ao ?_
       exact ⟨_,(),Ac hj4,trivial,trivial,[],rfl⟩
     ·rintro _ _ hst
      subst hst
      replace hm4:=Dh hm4
      refine An (L':=[]) (ms':=[_]) rfl rfl ?_;refine zq4 ?_
      cases hm4;exact Ae zr1
noncomputable def Fk (a1:ATy) (bv1:ATy):Option Int:=
 (Bp a1).bind fun x1 =>
 bif (!decide (x1=0)) then
  some x1
 else
  (Bp bv1).bind fun x2 =>
  some x2
theorem NP {a1:ATy} {bv1:ATy} {r_1:Int} (hm:Fk a1 bv1=some r_1):Fn0 Tryz.prog 65 [ATy.d a1,ATy.d bv1] (.i64 r_1):=by
 unfold Fk at hm;refine Ad func65 rfl ntmps65 rfl fun H0 fr w0=>?_;refine zq10 ?_;obtain ⟨x1,hx1,hm⟩:=bS hm;refine zc0 (EJ hx1) ?_;refine zq7 ?_;refine zcn hm (fun hc1 hm=>?_) (fun hc1 hm=>?_)
 ·refine zq5 ?_
  cases hm;exact Ae zr1
 ·refine zq4 ?_
  obtain ⟨x2,hx2,hm⟩:=bS hm;refine zc0 (EJ hx2) ?_;refine zq2 ?_
  cases hm;exact Ae zr1
noncomputable def BQ (to1:(Int->Option Int)) (z4:(List AFd)):Nat->(Int×(List AFd)×Int×Int×Int)->Option ((List AFd)×Int×Int×Int)
 | 0,_=>none
 | n+1,(x4,l2,z8,z9,z10) =>
  bif (decide (x4<(z4.length:Int))) then
   (idx l2 x4).bind fun x5 =>
   (to1 x5.at_).bind fun x6 =>
   (idx l2 x4).bind fun x7 =>
   grd (InR (x4+1)) <|
   BQ to1 z4 n ((x4+1),(l2.set (x4).toNat (⟨x7.name,x6⟩:AFd)),z8,z9,z10)
  else
   some (l2,z8,z9,z10)
noncomputable def CO (n1:ANd) (to1:(Int->Option Int)):Option ANd:=
 (CK n1.kind).bind fun x1 =>
 (bif x1 then
  (to1 n1.a).bind fun x2 =>
  (to1 n1.b).bind fun x3 =>
  some (n1.kind,x2,x3,n1.l)
 else
  some (n1.kind,n1.a,n1.b,n1.l):Option (Int×Int×Int×(List AFd))).bind fun (z1,z2,z3,z4) =>
 grd (z4.length*24<=140737488355328) <|
 (BQ to1 z4 FU (0,z4,z1,z2,z3):Option ((List AFd)×Int×Int×Int)).bind fun (l1,z5,z6,z7) =>
 some (⟨z5,z6,z7,l1⟩:ANd)
theorem Gz {n1:ANd} {to1:(Int->Option Int)} {r_1:ANd} {tl_0:List Asrt} {fv_to1:D} (hfto1:Nc Tryz.prog fv_to1 D.i64 D.i64 tl_0 to1) (hm:CO n1 to1=some r_1):FnT Tryz.prog 109 [ANd.d n1,fv_to1] tl_0 (ANd.d r_1):=by
 unfold CO at hm;refine Ad func109 rfl ntmps109 rfl fun H0 fr w0=>?_;refine zq2 ?_;refine Av rfl rfl rfl (Kd rfl rfl rfl) ?_;rintro _ _ ⟨b1,rfl,rfl⟩;refine Dq fun b2=>?_;refine zq6 ?_;obtain ⟨x1,hx1,hm⟩:=bS hm;refine zc0 (Ht hx1) ?_;refine gNl ?_;obtain ⟨o_1,hj1,hm1⟩:=bS hm;refine Ak [(1,_),(2,_),(4,_)] [(0,_)] (fun (st:(Int×Int×Int×(List AFd))) (hid:Unit)=>match st,hid with | (z1,z2,z3,z4),_=>[]) (fun F (st:(Int×Int×Int×(List AFd))) (hid:Unit)=>match st,hid with | (z1,z2,z3,z4),_=>[(nthF F 0),box b1 44 [.i64 z1,.i64 z2,.i64 z3,.list 2 AFd.d z4]]++tl_0) (fun st=>st=o_1) ⟨rfl,rfl,rfl,trivial⟩ ⟨rfl,trivial⟩ ?_ ?_
 ·refine zcn hj1 (fun hc1 hj1=>?_) (fun hc1 hj1=>?_)
  ·obtain ⟨x2,hx2,hj1⟩:=bS hj1
   obtain ⟨x3,hx3,hj1⟩:=bS hj1;refine zdr 9 ?_;refine zq3 ?_;refine Aw rfl rfl rfl (Zq (tl:=tl_0) [_,_] rfl rfl rfl (hfto1 _ _ hx2)) ?_;refine zq3 ?_;refine Aw rfl rfl rfl (Zq (tl:=tl_0) [_,_] rfl rfl rfl (hfto1 _ _ hx3)) ?_;refine zq2 ?_;refine zst 1 ?_;refine Ag (ms':=[box b2 44 [_,_,_,_],box b1 44 [_,_,_,_]]++tl_0) rfl ?_;refine zq1 ?_;refine zst 1 ?_;refine Ag (ms':=[box b2 44 [_,_,_,_],box b1 44 [_,_,_,_]]++tl_0) rfl ?_;refine gNl ?_;exact ⟨_,(),Ac hj1,trivial,⟨rfl,rfl,rfl,trivial⟩,[],rfl⟩
  ·refine gSp ?_
   exact ⟨_,(),Ac hj1,trivial,⟨rfl,rfl,rfl,trivial⟩,[],rfl⟩
 ·rintro ⟨z1,z2,z3,z4⟩ _ hst
  subst hst;refine An (L':=[(1,_),(2,_),(4,_)]) (ms':=[_,box b1 44 [.i64 z1,.i64 z2,.i64 z3,.list 2 AFd.d z4]]++tl_0) rfl rfl ?_;refine zq4 ?_;obtain ⟨hg4,hm1⟩:=Aa hm1;refine Av rfl rfl rfl (B7 (ms₁:=[]) call77 rfl (List.Perm.refl _) (L6 hg4)) ?_;rintro _ _ ⟨_,⟨a_r1,cap_r1,rfl,rfl⟩,rfl⟩
  generalize hm_r1:z4.length=m_r1
  clear hm_r1
  refine zq1 ?_;refine zst 2 ?_;refine Ag (ms':=[_,box b2 44 [_,_,_,_],box b1 44 [_,_,_,_]]++tl_0) rfl ?_;refine zq6 ?_;refine Af rfl rfl rfl (BP 0 runUnderlying42 rfl rfl) ?_;refine zq2 ?_;obtain ⟨o_2,hj2,hm2⟩:=bS hm1;refine Ak [(2,_),(4,_)] [(1,_)] (fun (st:((List AFd)×Int×Int×Int)) (hid:Unit)=>match st,hid with | (l1,z5,z6,z7),_=>[]) (fun F (st:((List AFd)×Int×Int×Int)) (hid:Unit)=>match st,hid with | (l1,z5,z6,z7),_=>[arr a_r1 m_r1 cap_r1 98 2 AFd.d l1,(nthF F 0),box b1 44 [.i64 z5,.i64 z6,.i64 z7,.v (.slice a_r1 m_r1 cap_r1)]]++tl_0) (fun st=>st=o_2) ⟨rfl,rfl,trivial⟩ ⟨rfl,trivial⟩ ?_ ?_
  ·refine Aj ?_
   refine Ai [(1,_),(2,_),(4,_),(25,_)] [(1,_)] (fun (st:(Int×(List AFd)×Int×Int×Int)) (hid:Unit)=>match st,hid with | (x4,l2,z8,z9,z10),_=>[(26,.i64 x4)]) (fun F (st:(Int×(List AFd)×Int×Int×Int)) (hid:Unit)=>match st,hid with | (x4,l2,z8,z9,z10),_=>[arr a_r1 m_r1 cap_r1 98 2 AFd.d l2,(nthF F 0),box b1 44 [.i64 z8,.i64 z9,.i64 z10,.v (.slice a_r1 m_r1 cap_r1)]]++tl_0) () hj2 (fun _=>rfl) ⟨rfl,rfl,rfl,rfl,trivial⟩ ⟨rfl,trivial⟩ ⟨rfl,trivial⟩ rfl ?_;rintro n ⟨x4,l2,z8,z9,z10⟩ ⟨⟩ hj2;rw [BQ] at hj2;refine Ar (L':=[(26,.i64 x4),(1,_),(2,_),(4,_),(25,_)]) (ms':=[arr a_r1 m_r1 cap_r1 98 2 AFd.d l2,_,box b1 44 [.i64 z8,.i64 z9,.i64 z10,.v (.slice a_r1 m_r1 cap_r1)]]++tl_0) rfl rfl ?_;refine zq5 ?_;refine zcn hj2 (fun hc2 hj2=>?_) (fun hc2 hj2=>?_)
   ·refine zq8 ?_
    obtain ⟨x5,hx5,hj2⟩:=bS hj2;obtain ⟨x6,hx6,hj2⟩:=bS hj2;obtain ⟨x7,hx7,hj2⟩:=bS hj2;refine zdr 13 ?_;refine zq7 ?_;refine Aw rfl rfl rfl (Ap 0 runUnderlying42 sizeOf98 rfl rfl rfl hx5) ?_;refine Aw rfl rfl rfl (AE (b:=0) 0 Ix rfl rfl (Am hx5).2) ?_;refine Aw rfl rfl rfl (AV (off:=1) 0 isAgg3 rfl rfl (Am hx5).2 rfl rfl rfl) ?_;refine Aw rfl rfl rfl (Zq (tl:=tl_0) [_,_,_] rfl rfl rfl (hfto1 _ _ hx6)) ?_;refine Aw rfl rfl rfl (Ap 0 runUnderlying42 sizeOf98 rfl rfl rfl hx7) ?_;refine Aw rfl rfl rfl (AE (b:=0) 0 Ix rfl rfl (Am hx7).2) ?_;refine Cu ?_;refine Gk rfl rfl (Bx (off:=1) (z':=(⟨x7.name,x6⟩:AFd)) 0 sizeOf3 rfl rfl (Am hx7).2 rfl rfl rfl rfl rfl rfl (nB rfl) rfl rfl) ?_;rintro _ _ rfl;refine Ag (ms':=[_,box b2 44 [_,_,_,_],box b1 44 [_,_,_,_]]++tl_0) rfl ?_;refine zq2 ?_;obtain ⟨hg8,hj2⟩:=Aa hj2;refine zq3 ?_;exact ⟨_,(),hj2,⟨rfl,trivial⟩,⟨rfl,rfl,rfl,rfl,trivial⟩,[],rfl⟩
   ·refine Ao ?_
    exact ⟨_,(),Ac hj2,trivial,⟨rfl,rfl,trivial⟩,[],rfl⟩
  ·rintro ⟨l1,z5,z6,z7⟩ ⟨⟩ hst
   subst hst;refine An (L':=[(2,_),(4,_)]) (ms':=[arr a_r1 m_r1 cap_r1 98 2 AFd.d l1,_,box b1 44 [.i64 z5,.i64 z6,.i64 z7,.v (.slice a_r1 m_r1 cap_r1)]]++tl_0) rfl rfl ?_;refine zq2 ?_;refine Gu 0 rfl rfl ?_;rintro rfl;refine zq1 ?_;refine Al (Cl (i:=43) (q:=3) 0 rfl rfl rfl rfl rfl).refines ?_;refine zst 1 ?_;refine Ag (ms':=[_,box b2 44 [_,_,_,_],box b1 44 [_,_,_,_]]++tl_0) rfl ?_;refine gNl (Ae ?_);exact retK (AC (ms':=tl_0) (drop:=[_,_,_]) rfl (A9 1 rfl rfl rfl isAgg44 sizeOf44 rfl) (List.Perm.refl _)) ⟨congrArg (fun (p:ANd)=>(ANd.d p:D)) (Ac hm2),rfl⟩
noncomputable def BG (k1:Int) (c1:Int):Option Int:=
 grd (InR (k1+c1)) <|
 some (k1+c1)
theorem HA {k1:Int} {c1:Int} {r_1:Int} (hm:BG k1 c1=some r_1):Fn0 Tryz.prog 110 [.i64 k1,.ref (.i64 c1)] (.i64 r_1):=by
 unfold BG at hm;refine Ad func110 rfl ntmps110 rfl fun H0 fr w0=>?_;refine zq8 ?_;obtain ⟨hg1,hm⟩:=Aa hm;refine zq3 ?_
 cases hm;exact Ae zr1
noncomputable def Cg (a1:ATy) (bv1:ATy):Nat->(Int×Int×(List ANd))->Option (Int×(List ANd))
 | 0,_=>none
 | n+1,(x1,z2,l2) =>
  bif (decide (x1<(bv1.l.length:Int))) then
   (idx bv1.l x1).bind fun x2 =>
   (CO (⟨x2.kind,x2.a,x2.b,x2.l⟩:ANd) (fun y0=>BG y0 (a1.l.length:Int))).bind fun x3 =>
   grd ((l2.length+([x3]:List _).length)*48<=140737488355328) <|
   grd (InR (x1+1)) <|
   Cg a1 bv1 n ((x1+1),z2,(l2++[x3]))
  else
   some (z2,l2)
noncomputable def Eo (a1:ATy) (bv1:ATy):Option (ATy×Int):=
 grd (a1.l.length*48<=140737488355328) <|
 (Cg a1 bv1 FU (0,a1.root,a1.l):Option (Int×(List ANd))).bind fun (z1,l1) =>
 some ((⟨l1,z1⟩:ATy),(a1.l.length:Int))
theorem Md {a1:ATy} {bv1:ATy} {r_1:ATy} {r_2:Int} (hm:Eo a1 bv1=some (r_1,r_2)):Fn0 Tryz.prog 75 [ATy.d a1,ATy.d bv1] (.tup [ATy.d r_1,.i64 r_2]):=by
 unfold Eo at hm;refine Ad func75 rfl ntmps75 rfl fun H0 fr w0=>?_;refine zq4 ?_;refine BI fun b1=>?_;refine zq7 ?_;refine zal3a fun b2=>?_;refine zst 0 ?_;refine Ag (ms':=[box b2 3 [_],box b1 24 [_,_]]) rfl ?_;refine Al (DN (d := .i64 (a1.l.length:Int)) 0 6 rfl rfl rfl rfl) ?_;refine zq2 ?_;obtain ⟨hg1,hm⟩:=Aa hm;refine F7 [2,5] [7] [3,4] [6] [] AA (by decide +kernel) (by decide +kernel) rfl ?_;refine Bb rfl rfl rfl rfl rfl rfl (oFa DI rfl rfl rfl) ?_;refine Bb rfl rfl rfl rfl rfl rfl (Bg isAgg22 rfl rfl) ?_;refine Er rfl ?_;refine Bb rfl rfl rfl rfl rfl rfl (oFa IE rfl rfl rfl) ?_;refine Bb rfl rfl rfl rfl rfl rfl (Bg isAgg3 rfl rfl) ?_;refine Er rfl ?_;refine D4 (R0:=fun d A=>∃ b,d = .v (.pointer (some ⟨b,0,none⟩))/\A=box b 24 [.list 4 ANd.d [],.i64 0]) rfl rfl rfl rfl (OpT.mono (Ay zeroValue24 (cs:=[.list 4 ANd.d [],.i64 0]) rfl) (by rintro d ms' ⟨b,rfl,rfl⟩;exact ⟨_,⟨b,rfl,rfl⟩,rfl⟩)) ?_;refine Er rfl ?_;refine Hy ?_;refine KC rfl rfl rfl rfl (B7 (ms₁:=[]) call74 rfl (List.Perm.refl _) (IZ hg1)) ?_;rintro _ _ ⟨_,⟨a_r1,cap_r1,rfl,rfl⟩,rfl⟩
 generalize hm_r1:a1.l.length=m_r1
 clear hm_r1
 refine ⟨(trivial:True),?_⟩;refine KC rfl rfl rfl rfl zb24b ?_;rintro _ _ ⟨rfl,rfl⟩;refine ⟨(trivial:True),?_⟩;refine I0 [(6,7)] rfl ?_;rintro _ _ ⟨b3,rfl,rfl⟩
 show _/\_
 refine ⟨(trivial:True),?_⟩;refine Cv rfl rfl rfl (oSb 0 sizeOf24 rfl rfl rfl rfl rfl rfl rfl rfl (nB rfl)) ?_;rintro _ _ rfl;refine ⟨(trivial:True),?_⟩;refine BL ?_;refine zq8 ?_;refine IW 1 rfl rfl ?_;rintro rfl;obtain ⟨o_1,hj1,hm1⟩:=bS hm;refine Ak [(4,_),(6,_),(7,_)] [(2,_)] (fun (st:(Int×(List ANd))) (hid:(Option Addr×Nat))=>match st,hid with | (z1,l1),(a_r1,cap_r1)=>[]) (fun F (st:(Int×(List ANd))) (hid:(Option Addr×Nat))=>match st,hid with | (z1,l1),(a_r1,cap_r1)=>[box b3 24 [.v (.slice a_r1 l1.length cap_r1),.i64 z1],row a_r1 cap_r1 44 4 ANd.d l1,(nthF F 0)]) (fun st=>st=o_1) ⟨rfl,rfl,rfl,trivial⟩ ⟨rfl,trivial⟩ ?_ ?_
 ·refine Aj ?_
  refine Ai [(4,_),(6,_),(7,_),(20,_),(21,_)] [(2,_)] (fun (st:(Int×Int×(List ANd))) (hid:(Option Addr×Nat))=>match st,hid with | (x1,z2,l2),(a_r1,cap_r1)=>[(22,.i64 x1)]) (fun F (st:(Int×Int×(List ANd))) (hid:(Option Addr×Nat))=>match st,hid with | (x1,z2,l2),(a_r1,cap_r1)=>[box b3 24 [.v (.slice a_r1 l2.length cap_r1),.i64 z2],row a_r1 cap_r1 44 4 ANd.d l2,(nthF F 0)]) (_,_) hj1 (fun _=>rfl) ⟨rfl,rfl,rfl,rfl,rfl,trivial⟩ ⟨rfl,trivial⟩ ⟨rfl,trivial⟩ rfl ?_;rintro n ⟨x1,z2,l2⟩ ⟨a_r1,cap_r1⟩ hj1;rw [Cg] at hj1;refine Ar (L':=[(22,.i64 x1),(4,_),(6,_),(7,_),(20,_),(21,_)]) (ms':=[box b3 24 [.v (.slice a_r1 l2.length cap_r1),.i64 z2],row a_r1 cap_r1 44 4 ANd.d l2,_]) rfl rfl ?_;refine zq5 ?_;refine zcn hj1 (fun hc1 hj1=>?_) (fun hc1 hj1=>?_)
  ·refine zq5 ?_
   obtain ⟨x2,hx2,hj1⟩:=bS hj1;refine zq2 ?_;refine Dq fun b4=>?_;refine zst 0 ?_;refine Ag (ms':=[box b4 44 [_,_,_,_],box b3 24 [_,_],_,box b1 24 [_,_]]) rfl ?_;refine gNl ?_;obtain ⟨x3,hx3,hj1⟩:=bS hj1;refine zdr 6 ?_;refine zq3 ?_;refine Aw rfl rfl rfl (BC rfl rfl) ?_;refine Aw rfl rfl rfl (Gd [] call109 rfl rfl DG (Gz (fun _ _ h=>K7 (Em call110 (HA h))) hx3)) ?_;refine Aw rfl rfl rfl (zs1 ANd.d) ?_;refine Cu ?_;obtain ⟨hg4,hj1⟩:=Aa hj1;refine zap 2 hg4 fun a_r1 cap_r1=>?_;refine Ag (ms':=[box b4 44 [_,_,_,_],box b3 24 [_,_],_,box b1 24 [_,_]]) rfl ?_;refine zq1 ?_;refine zst 1 ?_;refine Ag (ms':=[box b4 44 [_,_,_,_],box b3 24 [_,_],_,box b1 24 [_,_]]) rfl ?_;refine zq2 ?_;obtain ⟨hg5,hj1⟩:=Aa hj1;refine zq3 ?_;exact ⟨_,(_,_),hj1,⟨rfl,trivial⟩,⟨rfl,rfl,rfl,rfl,rfl,trivial⟩,[_],rfl⟩
  ·refine Ao ?_
   exact ⟨_,(_,_),Ac hj1,trivial,⟨rfl,rfl,rfl,trivial⟩,[],rfl⟩
 ·rintro ⟨z1,l1⟩ ⟨a_r1,cap_r1⟩ hst
  subst hst;refine An (L':=[(4,_),(6,_),(7,_)]) (ms':=[box b3 24 [.v (.slice a_r1 l1.length cap_r1),.i64 z1],row a_r1 cap_r1 44 4 ANd.d l1,_]) rfl rfl ?_;refine AQ ?_;refine BA (Dw 0 0 1 rfl rfl rfl rfl rfl rfl) ?_;refine DS [2] [1,3] [] AA (by decide +kernel) (by decide +kernel) rfl ?_;refine Au rfl rfl rfl rfl rfl rfl (oLg 0 isAgg24 sizeOf24 rfl rfl rfl rfl (nB rfl)) ?_;refine Au rfl rfl rfl rfl rfl rfl (Bg isAgg3 rfl rfl) ?_;refine DU rfl ?_;refine Au rfl rfl rfl rfl rfl rfl (oAs rfl) ?_;refine EQ ?_;refine Cv rfl rfl rfl (oSb 2 sizeOf24 rfl rfl rfl rfl rfl rfl rfl rfl (nB rfl)) ?_;rintro _ _ rfl;refine ⟨(trivial:True),?_⟩;refine BL ?_
  cases hm1;exact Ae zr2
noncomputable def CW (a1:ATy) (bv1:ATy):Option Bool:=
 (Eo a1 bv1).bind fun (x1,x2) =>
 grd (InR (bv1.root+x2)) <|
 (He (⟨x1.l,x1.root⟩:ATy) (⟨[a1.root],[(bv1.root+x2)]⟩:BSq)).bind fun x3 =>
 some x3
theorem IU {a1:ATy} {bv1:ATy} {r_1:Bool} (hm:CW a1 bv1=some r_1):Fn0 Tryz.prog 66 [ATy.d a1,ATy.d bv1] (.bool r_1):=by
 unfold CW at hm;refine Ad func66 rfl ntmps66 rfl fun H0 fr w0=>?_;refine zq10 ?_;obtain ⟨⟨x1,x2⟩,hx1,hm⟩:=bS hm;refine zc0 (Md hx1) ?_;refine zq3 ?_;refine BI fun b1=>?_;refine zst 0 ?_;refine Ag (ms':=[box b1 24 [_,_]]) rfl ?_;refine zq7 ?_;refine Af rfl rfl rfl (zs1 D.i64) ?_;refine zq3 ?_;obtain ⟨hg2,hm⟩:=Aa hm;refine zq1 ?_;refine Af rfl rfl rfl (zs1 D.i64) ?_;refine Af rfl rfl rfl zb75a ?_;obtain ⟨x3,hx3,hm⟩:=bS hm;refine zc0 (S9 hx3) ?_;refine zq2 ?_
 cases hm;exact Ae zr1
noncomputable def D0 (kind1:Int):Option ATy:=
 some (⟨[(⟨kind1,0,0,([]:List AFd)⟩:ANd)],0⟩:ATy)
theorem Hn {kind1:Int} {r_1:ATy} (hm:D0 kind1=some r_1):Fn0 Tryz.prog 60 [.i64 kind1] (ATy.d r_1):=by
 unfold D0 at hm;refine Ad func60 rfl ntmps60 rfl fun H0 fr w0=>?_;refine zq2 ?_;refine BI fun b1=>?_;refine zq4 ?_;refine Af rfl rfl rfl zb44a ?_;refine Af rfl rfl rfl (Ax (xs:=[_]) (f:=ANd.d) (l:=[(⟨kind1,0,0,([]:List AFd)⟩:ANd)]) runUnderlying22 sizeOf44 zeroValue44 rfl rfl rfl (fun _=>⟨rfl,rfl,rfl⟩) rfl) ?_;refine Af rfl rfl rfl zb24b ?_;refine zst 0 ?_;refine Ag (ms':=[box b1 24 [_,_]]) rfl ?_;refine gNl ?_
 cases hm;exact Ae zr1
noncomputable def DR (l1:(List Int)) (i1:Int) (l3:(List Int)):Nat->Int->Option Int
 | 0,_=>none
 | n+1,k2 =>
  bif (decide (k2<(l3.length:Int))) then ((idx l3 k2).bind fun x1 =>
  (idx l1 i1).bind fun x2 =>
  bif (decide (x1<x2)) then
   grd (InR (k2+1)) <|
   DR l1 i1 l3 n (k2+1)
  else
   some k2) else (some k2)
noncomputable def Df (l1:(List Int)):Nat->(Int×(List Int))->Option (List Int)
 | 0,_=>none
 | n+1,(i1,l3) =>
  bif (decide (i1<(l1.length:Int))) then
   (DR l1 i1 l3 FU 0:Option Int).bind fun k1 =>
   bif (decide (k1<(l3.length:Int))) then ((idx l3 k1).bind fun x3 =>
   (idx l1 i1).bind fun x4 =>
   bif (decide (x3=x4)) then
    grd (InR (i1+1)) <|
    Df l1 n ((i1+1),l3)
   else
    (sli l3 0 k1).bind fun l4 =>
    grd ((0+l4.length)*8<=140737488355328) <|
    (idx l1 i1).bind fun x5 =>
    grd ((([]++l4).length+([x5]:List _).length)*8<=140737488355328) <|
    (sli l3 k1 (l3.length:Int)).bind fun l5 =>
    grd (((([]++l4)++[x5]).length+l5.length)*8<=140737488355328) <|
    grd (InR (i1+1)) <|
    Df l1 n ((i1+1),((([]++l4)++[x5])++l5))) else ((sli l3 0 k1).bind fun l6 =>
   grd ((0+l6.length)*8<=140737488355328) <|
   (idx l1 i1).bind fun x6 =>
   grd ((([]++l6).length+([x6]:List _).length)*8<=140737488355328) <|
   (sli l3 k1 (l3.length:Int)).bind fun l7 =>
   grd (((([]++l6)++[x6]).length+l7.length)*8<=140737488355328) <|
   grd (InR (i1+1)) <|
   Df l1 n ((i1+1),((([]++l6)++[x6])++l7)))
  else
   some l3
noncomputable def Dv (l1:(List Int)):Option (List Int):=
 (Df l1 FU (0,[]):Option (List Int)).bind fun l2 =>
 some l2
theorem Fu {l1:(List Int)} {r_1:(List Int)} (hm:Dv l1=some r_1):Fn0 Tryz.prog 61 [.list 1 D.i64 l1] (.list 1 D.i64 r_1):=by
 unfold Dv at hm;refine Ad func61 rfl ntmps61 rfl fun H0 fr w0=>?_;refine zq3 ?_;refine Al (nilE (i:=2) (sz:=1) (f:=D.i64) rfl).refines ?_;refine zq3 ?_;refine Av rfl rfl rfl (Aq (xs:=[]) (f:=D.i64) (l:=[]) runUnderlying25 sizeOf3 zeroValue3 rfl rfl rfl (fun _=>⟨rfl,rfl,rfl⟩) rfl (by simp [maxLen])) ?_;rintro _ _ ⟨a_r1,rfl,rfl⟩;refine zq7 ?_;obtain ⟨o_1,hj1,hm1⟩:=bS hm;refine Ak [] [] (fun (st:(List Int)) (hid:(Option Addr×Nat))=>match st,hid with | l2,(a_r1,cap_r1)=>[(3,.v (.slice a_r1 l2.length cap_r1))]) (fun F (st:(List Int)) (hid:(Option Addr×Nat))=>match st,hid with | l2,(a_r1,cap_r1)=>[row a_r1 cap_r1 3 1 D.i64 l2]) (fun st=>st=o_1) trivial trivial ?_ ?_
 ·refine Aj ?_
  refine Ai [(0,_)] [] (fun (st:(Int×(List Int))) (hid:(Option Addr×Nat))=>match st,hid with | (i1,l3),(a_r1,cap_r1)=>[(3,.v (.slice a_r1 l3.length cap_r1)),(4,.i64 i1)]) (fun F (st:(Int×(List Int))) (hid:(Option Addr×Nat))=>match st,hid with | (i1,l3),(a_r1,cap_r1)=>[row a_r1 cap_r1 3 1 D.i64 l3]) (_,_) hj1 (fun _=>rfl) ⟨rfl,trivial⟩ trivial ⟨rfl,rfl,trivial⟩ rfl ?_;rintro n ⟨i1,l3⟩ ⟨a_r1,cap_r1⟩ hj1;rw [Df] at hj1;refine Ar (L':=[(3,.v (.slice a_r1 l3.length cap_r1)),(4,.i64 i1),(0,_)]) (ms':=[row a_r1 cap_r1 3 1 D.i64 l3]) rfl rfl ?_;refine zq8 ?_;refine zcn hj1 (fun hc1 hj1=>?_) (fun hc1 hj1=>?_)
  ·refine zq8 ?_
   obtain ⟨o_2,hj2,hm2⟩:=bS hj1;refine Ak [(0,_),(3,_),(4,_)] [(0,_)] (fun (st:Int) (hid:Unit)=>match st,hid with | k1,_=>[(5,.i64 k1)]) (fun F (st:Int) (hid:Unit)=>match st,hid with | k1,_=>[(nthF F 0)]) (fun st=>st=o_2) ⟨rfl,rfl,rfl,trivial⟩ ⟨rfl,trivial⟩ ?_ ?_
   ·refine Aj ?_
    refine Ai [(0,_),(3,_),(4,_)] [(0,_)] (fun (st:Int) (hid:Unit)=>match st,hid with | k2,_=>[(5,.i64 k2)]) (fun F (st:Int) (hid:Unit)=>match st,hid with | k2,_=>[(nthF F 0)]) () hj2 (fun _=>rfl) ⟨rfl,rfl,rfl,trivial⟩ ⟨rfl,trivial⟩ ⟨rfl,trivial⟩ rfl ?_;rintro n k2 _ hj2;rw [DR] at hj2;refine Ar (L':=[(5,.i64 k2),(0,_),(3,_),(4,_)]) (ms':=[_]) rfl rfl ?_;refine zq2 ?_
    rcases Cj hj2 with ⟨hg_1,hj2⟩ | ⟨hg_1,hj2⟩
    ·
     skip
     obtain ⟨x1,hx1,hj2⟩:=bS hj2;obtain ⟨x2,hx2,hj2⟩:=bS hj2;refine zdr 15 ?_;refine zq2 ?_;refine Aw rfl rfl rfl (.view (peekE (i:=14) 0 rfl rfl rfl) (EF runUnderlying25 rfl)) ?_;refine zq4 ?_;refine Ei rfl rfl rfl hg_1 rfl rfl (.view (peekE (i:=18) 0 rfl rfl rfl) (oIm runUnderlying25 sizeOf3 rfl rfl hx1)) ?_;refine zq3 ?_;refine Ei rfl rfl rfl hg_1 rfl rfl (oIm runUnderlying25 sizeOf3 rfl rfl hx2) ?_;refine zq5 ?_;refine zcn hj2 (fun hc2 hj2=>?_) (fun hc2 hj2=>?_)
     ·refine zq4 ?_
      obtain ⟨hg3,hj2⟩:=Aa hj2;refine zq3 ?_;exact ⟨_,(),hj2,⟨rfl,trivial⟩,⟨rfl,rfl,rfl,trivial⟩,[],rfl⟩
     ·refine Ao ?_
      exact ⟨_,(),Ac hj2,⟨rfl,trivial⟩,⟨rfl,rfl,rfl,trivial⟩,[],rfl⟩
    ·
     skip
     refine zdr 15 ?_;refine zq2 ?_;refine Aw rfl rfl rfl (.view (peekE (i:=14) 0 rfl rfl rfl) (EF runUnderlying25 rfl)) ?_;refine zq14 ?_;refine D3 rfl rfl ?_;refine Ao ?_;exact ⟨_,(),Ac hj2,⟨rfl,trivial⟩,⟨rfl,rfl,rfl,trivial⟩,[],rfl⟩
   ·rintro k1 _ hst
    subst hst;refine An (L':=[(5,.i64 k1),(0,_),(3,_),(4,_)]) (ms':=[_]) rfl rfl ?_;refine zq2 ?_
    rcases Cj hm2 with ⟨hg_2,hm2⟩ | ⟨hg_2,hm2⟩
    ·
     skip
     obtain ⟨x3,hx4,hm2⟩:=bS hm2;obtain ⟨x4,hx5,hm2⟩:=bS hm2;refine zdr 15 ?_;refine zq2 ?_;refine Aw rfl rfl rfl (.view (peekE (i:=31) 0 rfl rfl rfl) (EF runUnderlying25 rfl)) ?_;refine zq4 ?_;refine Ei rfl rfl rfl hg_2 rfl rfl (.view (peekE (i:=35) 0 rfl rfl rfl) (oIm runUnderlying25 sizeOf3 rfl rfl hx4)) ?_;refine zq3 ?_;refine Ei rfl rfl rfl hg_2 rfl rfl (oIm runUnderlying25 sizeOf3 rfl rfl hx5) ?_;refine zq5 ?_;refine zcn hm2 (fun hc3 hm2=>?_) (fun hc3 hm2=>?_)
     ·refine Ao ?_
      refine zq2 ?_;obtain ⟨hg6,hm2⟩:=Aa hm2;refine zq3 ?_;exact ⟨_,(_,_),hm2,⟨rfl,rfl,trivial⟩,⟨rfl,trivial⟩,[],rfl⟩
     ·refine gSp ?_
      obtain ⟨l4,hx7,hm2⟩:=bS hm2;obtain ⟨hg8,hm2⟩:=Aa hm2;obtain ⟨x5,hx9,hm2⟩:=bS hm2;obtain ⟨hg10,hm2⟩:=Aa hm2;obtain ⟨l5,hx11,hm2⟩:=bS hm2;obtain ⟨hg12,hm2⟩:=Aa hm2;refine EZ 2 [0,4,10,14,15] [1,2,3,5,6,7,8,9,11,12,13] [3,13] (by decide +kernel) (by decide +kernel) AA (by decide +kernel) (by decide +kernel) rfl ?_;refine Cs rfl ?_;refine zq2 ?_;refine Jl rfl rfl rfl rfl rfl (.view (peekE (i:=46) 0 rfl rfl rfl) (Ba runUnderlying25 sizeOf3 rfl rfl ⟨_,rfl⟩ hx7)) ?_;refine Cs rfl ?_;refine zq2 ?_;refine CL rfl rfl rfl rfl rfl rfl (oIm runUnderlying25 sizeOf3 rfl rfl hx9) ?_;refine zq1 ?_;refine CL rfl rfl rfl rfl rfl rfl (zs1 D.i64) ?_;refine Cs rfl ?_;refine zq2 ?_;refine Jl rfl rfl rfl rfl rfl (.view (peekE (i:=56) 0 rfl rfl rfl) (Ba runUnderlying25 sizeOf3 rfl ⟨_,rfl⟩ rfl hx11)) ?_;refine Cs rfl ?_;refine Cs rfl ?_;refine Hj ?_;refine Ct rfl rfl rfl rfl (Aq (xs:=[]) (f:=D.i64) (l:=[]) runUnderlying25 sizeOf3 zeroValue3 rfl rfl rfl (fun _=>⟨rfl,rfl,rfl⟩) rfl (by simp [maxLen])) ?_;rintro _ _ ⟨a_r2,rfl,rfl⟩;refine ⟨fun _=>⟨⟨trivial,.view (peekE (i:=46) 1 rfl rfl rfl) (Ba runUnderlying25 sizeOf3 rfl rfl ⟨_,rfl⟩ hx7)⟩,.view (peekE (i:=56) 1 rfl rfl rfl) (Ba runUnderlying25 sizeOf3 rfl ⟨_,rfl⟩ rfl hx11)⟩,?_⟩;refine Ct rfl rfl rfl rfl (Bw (a:=_) 0 underlying25 type3 rfl rfl rfl rfl rfl rfl rfl (fun _=>rfl) (fun _=>rfl) hg8 (A2 hg8 rfl)) ?_;rintro _ _ ⟨a_r2,cap_r2,rfl,rfl⟩;refine ⟨fun _=>⟨⟨trivial,.view (peekE (i:=46) 1 rfl rfl rfl) (Ba runUnderlying25 sizeOf3 rfl rfl ⟨_,rfl⟩ hx7)⟩,.view (peekE (i:=56) 1 rfl rfl rfl) (Ba runUnderlying25 sizeOf3 rfl ⟨_,rfl⟩ rfl hx11)⟩,?_⟩;refine Ct rfl rfl rfl rfl (Bw (a:=_) 0 underlying25 type3 rfl rfl rfl rfl rfl rfl rfl (fun _=>rfl) (fun _=>rfl) hg10 (A2 hg10 rfl)) ?_;rintro _ _ ⟨a_r2,cap_r2,rfl,rfl⟩;refine ⟨fun _=>⟨⟨trivial,.view (peekE (i:=46) 1 rfl rfl rfl) (Ba runUnderlying25 sizeOf3 rfl rfl ⟨_,rfl⟩ hx7)⟩,.view (peekE (i:=56) 1 rfl rfl rfl) (Ba runUnderlying25 sizeOf3 rfl ⟨_,rfl⟩ rfl hx11)⟩,?_⟩;refine Ct rfl rfl rfl rfl (Bw (a:=_) 0 underlying25 type3 rfl rfl rfl rfl rfl rfl rfl (fun _=>rfl) (fun _=>rfl) hg12 (A2 hg12 rfl)) ?_;rintro _ _ ⟨a_r2,cap_r2,rfl,rfl⟩;refine ⟨fun hc=>absurd hc (by decide),?_⟩;refine Ct rfl rfl rfl rfl (oAs rfl) ?_;rintro _ _ ⟨rfl,rfl⟩;refine ⟨fun hc=>absurd hc (by decide),?_⟩;refine Ge ?_;refine BA (Es 0 1 rfl rfl rfl rfl) ?_;refine zq2 ?_;obtain ⟨hg13,hm2⟩:=Aa hm2;refine zq3 ?_;exact ⟨_,(_,_),hm2,⟨rfl,rfl,trivial⟩,⟨rfl,trivial⟩,[],rfl⟩
    ·
     skip
     refine zdr 15 ?_;refine zq2 ?_;refine Aw rfl rfl rfl (.view (peekE (i:=31) 0 rfl rfl rfl) (EF runUnderlying25 rfl)) ?_;refine zq14 ?_;refine D3 rfl rfl ?_;refine gSp ?_;obtain ⟨l6,hx14,hm2⟩:=bS hm2;obtain ⟨hg15,hm2⟩:=Aa hm2;obtain ⟨x6,hx16,hm2⟩:=bS hm2;obtain ⟨hg17,hm2⟩:=Aa hm2;obtain ⟨l7,hx18,hm2⟩:=bS hm2;obtain ⟨hg19,hm2⟩:=Aa hm2;refine EZ 2 [0,4,10,14,15] [1,2,3,5,6,7,8,9,11,12,13] [3,13] (by decide +kernel) (by decide +kernel) AA (by decide +kernel) (by decide +kernel) rfl ?_;refine Cs rfl ?_;refine zq2 ?_;refine Jl rfl rfl rfl rfl rfl (.view (peekE (i:=46) 0 rfl rfl rfl) (Ba runUnderlying25 sizeOf3 rfl rfl ⟨_,rfl⟩ hx14)) ?_;refine Cs rfl ?_;refine zq2 ?_;refine CL rfl rfl rfl rfl rfl rfl (oIm runUnderlying25 sizeOf3 rfl rfl hx16) ?_;refine zq1 ?_;refine CL rfl rfl rfl rfl rfl rfl (zs1 D.i64) ?_;refine Cs rfl ?_;refine zq2 ?_;refine Jl rfl rfl rfl rfl rfl (.view (peekE (i:=56) 0 rfl rfl rfl) (Ba runUnderlying25 sizeOf3 rfl ⟨_,rfl⟩ rfl hx18)) ?_;refine Cs rfl ?_;refine Cs rfl ?_;refine Hj ?_;refine Ct rfl rfl rfl rfl (Aq (xs:=[]) (f:=D.i64) (l:=[]) runUnderlying25 sizeOf3 zeroValue3 rfl rfl rfl (fun _=>⟨rfl,rfl,rfl⟩) rfl (by simp [maxLen])) ?_;rintro _ _ ⟨a_r3,rfl,rfl⟩;refine ⟨fun _=>⟨⟨trivial,.view (peekE (i:=46) 1 rfl rfl rfl) (Ba runUnderlying25 sizeOf3 rfl rfl ⟨_,rfl⟩ hx14)⟩,.view (peekE (i:=56) 1 rfl rfl rfl) (Ba runUnderlying25 sizeOf3 rfl ⟨_,rfl⟩ rfl hx18)⟩,?_⟩;refine Ct rfl rfl rfl rfl (Bw (a:=_) 0 underlying25 type3 rfl rfl rfl rfl rfl rfl rfl (fun _=>rfl) (fun _=>rfl) hg15 (A2 hg15 rfl)) ?_;rintro _ _ ⟨a_r3,cap_r3,rfl,rfl⟩;refine ⟨fun _=>⟨⟨trivial,.view (peekE (i:=46) 1 rfl rfl rfl) (Ba runUnderlying25 sizeOf3 rfl rfl ⟨_,rfl⟩ hx14)⟩,.view (peekE (i:=56) 1 rfl rfl rfl) (Ba runUnderlying25 sizeOf3 rfl ⟨_,rfl⟩ rfl hx18)⟩,?_⟩;refine Ct rfl rfl rfl rfl (Bw (a:=_) 0 underlying25 type3 rfl rfl rfl rfl rfl rfl rfl (fun _=>rfl) (fun _=>rfl) hg17 (A2 hg17 rfl)) ?_;rintro _ _ ⟨a_r3,cap_r3,rfl,rfl⟩;refine ⟨fun _=>⟨⟨trivial,.view (peekE (i:=46) 1 rfl rfl rfl) (Ba runUnderlying25 sizeOf3 rfl rfl ⟨_,rfl⟩ hx14)⟩,.view (peekE (i:=56) 1 rfl rfl rfl) (Ba runUnderlying25 sizeOf3 rfl ⟨_,rfl⟩ rfl hx18)⟩,?_⟩;refine Ct rfl rfl rfl rfl (Bw (a:=_) 0 underlying25 type3 rfl rfl rfl rfl rfl rfl rfl (fun _=>rfl) (fun _=>rfl) hg19 (A2 hg19 rfl)) ?_;rintro _ _ ⟨a_r3,cap_r3,rfl,rfl⟩;refine ⟨fun hc=>absurd hc (by decide),?_⟩;refine Ct rfl rfl rfl rfl (oAs rfl) ?_;rintro _ _ ⟨rfl,rfl⟩;refine ⟨fun hc=>absurd hc (by decide),?_⟩;refine Ge ?_;refine BA (Es 0 1 rfl rfl rfl rfl) ?_
     refine zq2 ?_;obtain ⟨hg20,hm2⟩:=Aa hm2;refine zq3 ?_;exact ⟨_,(_,_),hm2,⟨rfl,rfl,trivial⟩,⟨rfl,trivial⟩,[],rfl⟩
  ·refine Ao ?_
   exact ⟨_,(_,_),Ac hj1,⟨rfl,trivial⟩,trivial,[],rfl⟩
 ·rintro l2 ⟨a_r1,cap_r1⟩ hst
  subst hst;refine An (L':=[(3,.v (.slice a_r1 l2.length cap_r1))]) (ms':=[row a_r1 cap_r1 3 1 D.i64 l2]) rfl rfl ?_;refine zq5 ?_;refine BA (peekE (i:=2) 0 rfl rfl rfl).refines ?_
  cases hm1;exact Ae zr1
noncomputable def Ee (t1:ATy) (l1:(List Int)) (kind1:Int):Nat->Int->Option (Out Int Unit)
 | 0,_=>none
 | n+1,i1 =>
  bif (decide (i1<(l1.length:Int))) then
   (idx l1 i1).bind fun x1 =>
   (idx t1.l x1).bind fun x2 =>
   bif (decide (x2.kind=kind1)) then
    some (Out.ret i1)
   else
    grd (InR (i1+1)) <|
    Ee t1 l1 kind1 n (i1+1)
  else
   some (Out.go (()))
noncomputable def Fb (t1:ATy) (l1:(List Int)) (kind1:Int):Option Int:=
 ((Ee t1 l1 kind1 FU 0:Option (Out Int Unit))).bind (fun oo=>oo.on (fun r1=>some r1) (fun _ =>
 some (-1)))
theorem J8 {t1:ATy} {l1:(List Int)} {kind1:Int} {r_1:Int} (hm:Fb t1 l1 kind1=some r_1):Fn0 Tryz.prog 102 [ATy.d t1,.list 1 D.i64 l1,.i64 kind1] (.i64 r_1):=by
 unfold Fb at hm;refine Ad func102 rfl ntmps102 rfl fun H0 fr w0=>?_;refine zq10 ?_;obtain ⟨o_1,hj1,hm1⟩:=bS hm;refine Ak [] [] (fun (st:Unit) (hid:Unit)=>match st,hid with | _,_=>[]) (fun F (st:Unit) (hid:Unit)=>match st,hid with | _,_=>[]) (fun st=>Out.go (st)=o_1) trivial trivial ?_ ?_
 ·refine Aj ?_
  refine Ai [(1,_),(2,_),(3,_)] [] (fun (st:Int) (hid:Unit)=>match st,hid with | i1,_=>[(7,.i64 i1)]) (fun F (st:Int) (hid:Unit)=>match st,hid with | i1,_=>[]) () hj1 (fun _=>rfl) ⟨rfl,rfl,rfl,trivial⟩ trivial ⟨rfl,trivial⟩ rfl ?_;rintro n i1 _ hj1;rw [Ee] at hj1;refine Ar (L':=[(7,.i64 i1),(1,_),(2,_),(3,_)]) (ms':=[]) rfl rfl ?_;refine zq8 ?_;refine zcn hj1 (fun hc1 hj1=>?_) (fun hc1 hj1=>?_)
  ·refine zq4 ?_
   obtain ⟨x1,hx1,hj1⟩:=bS hj1;obtain ⟨x2,hx2,hj1⟩:=bS hj1;refine zdr 11 ?_;refine zq13 ?_;refine zcn hj1 (fun hc2 hj1=>?_) (fun hc2 hj1=>?_)
   ·refine zq5 ?_
    refine Ae ?_;obtain rfl:=Ac hj1
    replace hm1:=BJ hm1
    cases hm1;exact zr1
   ·refine zq3 ?_
    obtain ⟨hg3,hj1⟩:=Aa hj1;refine zq3 ?_;exact ⟨_,(),hj1,⟨rfl,trivial⟩,⟨rfl,rfl,rfl,trivial⟩,[],rfl⟩
  ·refine Ao ?_
   exact ⟨_,(),Ac hj1,trivial,trivial,[],rfl⟩
 ·rintro _ _ hst
  subst hst
  replace hm1:=Dh hm1
  refine An (L':=[]) (ms':=[]) rfl rfl ?_;refine zq4 ?_
  cases hm1;exact Ae zr1
noncomputable def Dz (t1:ATy) (l1:(List Int)) (a1:Int) (bv1:Int):Nat->Int->Option (Out Int Unit)
 | 0,_=>none
 | n+1,i1 =>
  bif (decide (i1<(l1.length:Int))) then
   (idx l1 i1).bind fun x1 =>
   (idx t1.l x1).bind fun x2 =>
   bif ((decide (x2.kind=a1))||(decide (x2.kind=bv1))) then
    some (Out.ret i1)
   else
    grd (InR (i1+1)) <|
    Dz t1 l1 a1 bv1 n (i1+1)
  else
   some (Out.go (()))
noncomputable def EC (t1:ATy) (l1:(List Int)) (a1:Int) (bv1:Int):Option Int:=
 ((Dz t1 l1 a1 bv1 FU 0:Option (Out Int Unit))).bind (fun oo=>oo.on (fun r1=>some r1) (fun _ =>
 some (-1)))
theorem Ll {t1:ATy} {l1:(List Int)} {a1:Int} {bv1:Int} {r_1:Int} (hm:EC t1 l1 a1 bv1=some r_1):Fn0 Tryz.prog 103 [ATy.d t1,.list 1 D.i64 l1,.i64 a1,.i64 bv1] (.i64 r_1):=by
 unfold EC at hm;refine Ad func103 rfl ntmps103 rfl fun H0 fr w0=>?_;refine zq10 ?_;obtain ⟨o_1,hj1,hm1⟩:=bS hm;refine Ak [] [] (fun (st:Unit) (hid:Unit)=>match st,hid with | _,_=>[]) (fun F (st:Unit) (hid:Unit)=>match st,hid with | _,_=>[]) (fun st=>Out.go (st)=o_1) trivial trivial ?_ ?_
 ·refine Aj ?_
  refine Ai [(1,_),(2,_),(3,_),(4,_)] [] (fun (st:Int) (hid:Unit)=>match st,hid with | i1,_=>[(9,.i64 i1)]) (fun F (st:Int) (hid:Unit)=>match st,hid with | i1,_=>[]) () hj1 (fun _=>rfl) ⟨rfl,rfl,rfl,rfl,trivial⟩ trivial ⟨rfl,trivial⟩ rfl ?_;rintro n i1 _ hj1;rw [Dz] at hj1;refine Ar (L':=[(9,.i64 i1),(1,_),(2,_),(3,_),(4,_)]) (ms':=[]) rfl rfl ?_;refine zq8 ?_;refine zcn hj1 (fun hc1 hj1=>?_) (fun hc1 hj1=>?_)
  ·refine zq4 ?_
   obtain ⟨x1,hx1,hj1⟩:=bS hj1;obtain ⟨x2,hx2,hj1⟩:=bS hj1;refine zdr 10 ?_;refine zq18 ?_
   apply Bt [(1,_),(2,_),(3,_),(4,_),(9,_)] 4 33 (t:=29) ⟨rfl,rfl,rfl,rfl,rfl,trivial⟩ rfl
   ·intro hg_1 hk1
    refine zq4 ?_;exact zgm hk1
   ·intro hg_1 hk1
    refine zq4 ?_;exact zgm hk1
   refine gNl ?_;refine zcn hj1 (fun hc2 hj1=>?_) (fun hc2 hj1=>?_)
   ·refine zq5 ?_
    refine Ae ?_;obtain rfl:=Ac hj1
    replace hm1:=BJ hm1
    cases hm1;exact zr1
   ·refine zq3 ?_
    obtain ⟨hg3,hj1⟩:=Aa hj1;refine zq3 ?_;exact ⟨_,(),hj1,⟨rfl,trivial⟩,⟨rfl,rfl,rfl,rfl,trivial⟩,[],rfl⟩
  ·refine Ao ?_
   exact ⟨_,(),Ac hj1,trivial,trivial,[],rfl⟩
 ·rintro _ _ hst
  subst hst
  replace hm1:=Dh hm1
  refine An (L':=[]) (ms':=[]) rfl rfl ?_;refine zq4 ?_
  cases hm1;exact Ae zr1
noncomputable def Dc (l1:(List Int)) (i1:Int) (in1:(List Int)):Option (List Int):=
 (sli l1 0 i1).bind fun l2 =>
 grd ((0+l2.length)*8<=140737488355328) <|
 grd (InR (i1+1)) <|
 (sli l1 (i1+1) (l1.length:Int)).bind fun l3 =>
 grd ((([]++l2).length+l3.length)*8<=140737488355328) <|
 grd (((([]++l2)++l3).length+in1.length)*8<=140737488355328) <|
 (Dv ((([]++l2)++l3)++in1)).bind fun x1 =>
 some x1
theorem FM {l1:(List Int)} {i1:Int} {in1:(List Int)} {r_1:(List Int)} (hm:Dc l1 i1 in1=some r_1):Fn0 Tryz.prog 104 [.list 1 D.i64 l1,.i64 i1,.list 1 D.i64 in1] (.list 1 D.i64 r_1):=by
 unfold Dc at hm;refine Ad func104 rfl ntmps104 rfl fun H0 fr w0=>?_;refine zq3 ?_;refine Al (nilE (i:=6) (sz:=1) (f:=D.i64) rfl).refines ?_;refine zq3 ?_;refine Av rfl rfl rfl (Aq (xs:=[]) (f:=D.i64) (l:=[]) runUnderlying25 sizeOf3 zeroValue3 rfl rfl rfl (fun _=>⟨rfl,rfl,rfl⟩) rfl (by simp [maxLen])) ?_;rintro _ _ ⟨a_r1,rfl,rfl⟩;refine zq2 ?_;obtain ⟨l2,hx1,hm⟩:=bS hm;refine Af rfl rfl rfl (Ba runUnderlying25 sizeOf3 rfl rfl ⟨_,rfl⟩ hx1) ?_;obtain ⟨hg2,hm⟩:=Aa hm;refine zap 0 hg2 fun a_r1 cap_r1=>?_;refine Ag (ms':=[_]) rfl ?_;refine zq7 ?_;obtain ⟨hg3,hm⟩:=Aa hm;refine zq1 ?_;obtain ⟨l3,hx4,hm⟩:=bS hm;refine Af rfl rfl rfl (Ba runUnderlying25 sizeOf3 rfl ⟨_,rfl⟩ rfl hx4) ?_;obtain ⟨hg5,hm⟩:=Aa hm;refine zap 0 hg5 fun a_r1 cap_r1=>?_;refine Ag (ms':=[_]) rfl ?_;refine zq6 ?_;obtain ⟨hg6,hm⟩:=Aa hm;refine zap 0 hg6 fun a_r1 cap_r1=>?_;refine Ag (ms':=[_]) rfl ?_;obtain ⟨x1,hx7,hm⟩:=bS hm;refine Af rfl rfl rfl (.view (peekE (i:=21) 0 rfl rfl rfl) (AY call61 rfl (Fu hx7))) ?_;refine zq2 ?_
 cases hm;exact Ae zr1
noncomputable def Ed (n1:ANd) (s1:(List UInt8)):Nat->Int->Option (Out Int Unit)
 | 0,_=>none
 | n+1,i1 =>
  bif (decide (i1<(n1.l.length:Int))) then
   (idx n1.l i1).bind fun x1 =>
   bif (decide ((x1.name:List UInt8)=s1)) then
    (idx n1.l i1).bind fun x2 =>
    some (Out.ret x2.at_)
   else
    grd (InR (i1+1)) <|
    Ed n1 s1 n (i1+1)
  else
   some (Out.go (()))
noncomputable def FH (n1:ANd) (s1:(List UInt8)):Option Int:=
 ((Ed n1 s1 FU 0:Option (Out Int Unit))).bind (fun oo=>oo.on (fun r1=>some r1) (fun _ =>
 some (-1)))
theorem Mz {n1:ANd} {s1:(List UInt8)} {r_1:Int} (hm:FH n1 s1=some r_1):Fn0 Tryz.prog 169 [ANd.d n1,.str s1] (.i64 r_1):=by
 unfold FH at hm;refine Ad func169 rfl ntmps169 rfl fun H0 fr w0=>?_;refine zq10 ?_;obtain ⟨o_1,hj1,hm1⟩:=bS hm;refine Ak [] [] (fun (st:Unit) (hid:Unit)=>match st,hid with | _,_=>[]) (fun F (st:Unit) (hid:Unit)=>match st,hid with | _,_=>[]) (fun st=>Out.go (st)=o_1) trivial trivial ?_ ?_
 ·refine Aj ?_
  refine Ai [(1,_),(2,_)] [] (fun (st:Int) (hid:Unit)=>match st,hid with | i1,_=>[(5,.i64 i1)]) (fun F (st:Int) (hid:Unit)=>match st,hid with | i1,_=>[]) () hj1 (fun _=>rfl) ⟨rfl,rfl,trivial⟩ trivial ⟨rfl,trivial⟩ rfl ?_;rintro n i1 _ hj1;rw [Ed] at hj1;refine Ar (L':=[(5,.i64 i1),(1,_),(2,_)]) (ms':=[]) rfl rfl ?_;refine zq9 ?_;refine zcn hj1 (fun hc1 hj1=>?_) (fun hc1 hj1=>?_)
  ·refine zq8 ?_
   obtain ⟨x1,hx1,hj1⟩:=bS hj1;refine Af rfl rfl rfl (oIm runUnderlying42 sizeOf98 rfl rfl hx1) ?_;refine zq5 ?_;refine zcn hj1 (fun hc2 hj1=>?_) (fun hc2 hj1=>?_)
   ·refine zq5 ?_
    obtain ⟨x2,hx2,hj1⟩:=bS hj1;refine Af rfl rfl rfl (oIm runUnderlying42 sizeOf98 rfl rfl hx2) ?_;refine zq4 ?_;refine Ae ?_;obtain rfl:=Ac hj1
    replace hm1:=BJ hm1
    cases hm1;exact zr1
   ·refine zq3 ?_
    obtain ⟨hg3,hj1⟩:=Aa hj1;refine zq3 ?_;exact ⟨_,(),hj1,⟨rfl,trivial⟩,⟨rfl,rfl,trivial⟩,[],rfl⟩
  ·refine Ao ?_
   exact ⟨_,(),Ac hj1,trivial,trivial,[],rfl⟩
 ·rintro _ _ hst
  subst hst
  replace hm1:=Dh hm1
  refine An (L':=[]) (ms':=[]) rfl rfl ?_;refine zq4 ?_
  cases hm1;exact Ae zr1
noncomputable def CT (t1:ATy) (l1:(List Int)) (s1:(List UInt8)):Nat->(Int×(List Int))->Option (List Int)
 | 0,_=>none
 | n+1,(i1,l3) =>
  bif (decide (i1<(l1.length:Int))) then
   (idx l1 i1).bind fun x1 =>
   (idx t1.l x1).bind fun x2 =>
   (FH x2 s1).bind fun x3 =>
   bif (decide (0<=x3)) then
    grd ((l3.length+([x3]:List _).length)*8<=140737488355328) <|
    grd (InR (i1+1)) <|
    CT t1 l1 s1 n ((i1+1),(l3++[x3]))
   else
    grd (InR (i1+1)) <|
    CT t1 l1 s1 n ((i1+1),l3)
  else
   some l3
noncomputable def EA (t1:ATy) (l1:(List Int)) (s1:(List UInt8)):Option (List Int):=
 (CT t1 l1 s1 FU (0,[]):Option (List Int)).bind fun l2 =>
 (Dv l2).bind fun x4 =>
 some x4
theorem IX {t1:ATy} {l1:(List Int)} {s1:(List UInt8)} {r_1:(List Int)} (hm:EA t1 l1 s1=some r_1):Fn0 Tryz.prog 137 [ATy.d t1,.list 1 D.i64 l1,.str s1] (.list 1 D.i64 r_1):=by
 unfold EA at hm;refine Ad func137 rfl ntmps137 rfl fun H0 fr w0=>?_;refine zq4 ?_;refine Al (nilE (i:=6) (sz:=1) (f:=D.i64) rfl).refines ?_;refine zq3 ?_;refine Av rfl rfl rfl (Aq (xs:=[]) (f:=D.i64) (l:=[]) runUnderlying25 sizeOf3 zeroValue3 rfl rfl rfl (fun _=>⟨rfl,rfl,rfl⟩) rfl (by simp [maxLen])) ?_;rintro _ _ ⟨a_r1,rfl,rfl⟩;refine zq7 ?_;obtain ⟨o_1,hj1,hm1⟩:=bS hm;refine Ak [] [] (fun (st:(List Int)) (hid:(Option Addr×Nat))=>match st,hid with | l2,(a_r1,cap_r1)=>[(7,.v (.slice a_r1 l2.length cap_r1))]) (fun F (st:(List Int)) (hid:(Option Addr×Nat))=>match st,hid with | l2,(a_r1,cap_r1)=>[row a_r1 cap_r1 3 1 D.i64 l2]) (fun st=>st=o_1) trivial trivial ?_ ?_
 ·refine Aj ?_
  refine Ai [(1,_),(2,_),(3,_)] [] (fun (st:(Int×(List Int))) (hid:(Option Addr×Nat))=>match st,hid with | (i1,l3),(a_r1,cap_r1)=>[(7,.v (.slice a_r1 l3.length cap_r1)),(8,.i64 i1)]) (fun F (st:(Int×(List Int))) (hid:(Option Addr×Nat))=>match st,hid with | (i1,l3),(a_r1,cap_r1)=>[row a_r1 cap_r1 3 1 D.i64 l3]) (_,_) hj1 (fun _=>rfl) ⟨rfl,rfl,rfl,trivial⟩ trivial ⟨rfl,rfl,trivial⟩ rfl ?_;rintro n ⟨i1,l3⟩ ⟨a_r1,cap_r1⟩ hj1;rw [CT] at hj1;refine Ar (L':=[(7,.v (.slice a_r1 l3.length cap_r1)),(8,.i64 i1),(1,_),(2,_),(3,_)]) (ms':=[row a_r1 cap_r1 3 1 D.i64 l3]) rfl rfl ?_;refine zq8 ?_;refine zcn hj1 (fun hc1 hj1=>?_) (fun hc1 hj1=>?_)
  ·refine zq4 ?_
   obtain ⟨x1,hx1,hj1⟩:=bS hj1;obtain ⟨x2,hx2,hj1⟩:=bS hj1;obtain ⟨x3,hx3,hj1⟩:=bS hj1;refine zdr 11 ?_;refine zq9 ?_;refine zcd (Mz hx3) ?_;refine zq8 ?_;refine zcn hj1 (fun hc2 hj1=>?_) (fun hc2 hj1=>?_)
   ·refine zq3 ?_
    refine Af rfl rfl rfl (zs1 D.i64) ?_;obtain ⟨hg4,hj1⟩:=Aa hj1;refine zap 0 hg4 fun a_r1 cap_r1=>?_;refine Ag (ms':=[_]) rfl ?_;refine zq4 ?_;obtain ⟨hg5,hj1⟩:=Aa hj1;refine zq3 ?_;exact ⟨_,(_,_),hj1,⟨rfl,rfl,trivial⟩,⟨rfl,rfl,rfl,trivial⟩,[],rfl⟩
   ·refine zq3 ?_
    obtain ⟨hg6,hj1⟩:=Aa hj1;refine zq3 ?_;exact ⟨_,(_,_),hj1,⟨rfl,rfl,trivial⟩,⟨rfl,rfl,rfl,trivial⟩,[],rfl⟩
  ·refine Ao ?_
   exact ⟨_,(_,_),Ac hj1,⟨rfl,trivial⟩,trivial,[],rfl⟩
 ·rintro l2 ⟨a_r1,cap_r1⟩ hst
  subst hst;refine An (L':=[(7,.v (.slice a_r1 l2.length cap_r1))]) (ms':=[row a_r1 cap_r1 3 1 D.i64 l2]) rfl rfl ?_;refine zq3 ?_;obtain ⟨x4,hx7,hm1⟩:=bS hm1;refine Af rfl rfl rfl (.view (peekE (i:=33) 0 rfl rfl rfl) (AY call61 rfl (Fu hx7))) ?_;refine zq2 ?_
  cases hm1;exact Ae zr1
noncomputable def B8 (t1:ATy) (l1:(List Int)) (s1:(List UInt8)):Nat->(Int×Int)->Option Int
 | 0,_=>none
 | n+1,(n2,i1) =>
  bif (decide (i1<(l1.length:Int))) then
   (idx l1 i1).bind fun x1 =>
   (idx t1.l x1).bind fun x2 =>
   (FH x2 s1).bind fun x3 =>
   bif (decide (0<=x3)) then
    grd (InR (n2+1)) <|
    grd (InR (i1+1)) <|
    B8 t1 l1 s1 n ((n2+1),(i1+1))
   else
    grd (InR (i1+1)) <|
    B8 t1 l1 s1 n (n2,(i1+1))
  else
   some n2
noncomputable def ET (t1:ATy) (l1:(List Int)) (s1:(List UInt8)):Option Int:=
 (B8 t1 l1 s1 FU (0,0):Option Int).bind fun n1 =>
 some n1
theorem Nn {t1:ATy} {l1:(List Int)} {s1:(List UInt8)} {r_1:Int} (hm:ET t1 l1 s1=some r_1):Fn0 Tryz.prog 168 [ATy.d t1,.list 1 D.i64 l1,.str s1] (.i64 r_1):=by
 unfold ET at hm;refine Ad func168 rfl ntmps168 rfl fun H0 fr w0=>?_;refine zq14 ?_;obtain ⟨o_1,hj1,hm1⟩:=bS hm;refine Ak [] [] (fun (st:Int) (hid:Unit)=>match st,hid with | n1,_=>[(7,.i64 n1)]) (fun F (st:Int) (hid:Unit)=>match st,hid with | n1,_=>[]) (fun st=>st=o_1) trivial trivial ?_ ?_
 ·refine Aj ?_
  refine Ai [(1,_),(2,_),(3,_)] [] (fun (st:(Int×Int)) (hid:Unit)=>match st,hid with | (n2,i1),_=>[(7,.i64 n2),(8,.i64 i1)]) (fun F (st:(Int×Int)) (hid:Unit)=>match st,hid with | (n2,i1),_=>[]) () hj1 (fun _=>rfl) ⟨rfl,rfl,rfl,trivial⟩ trivial ⟨rfl,rfl,trivial⟩ rfl ?_;rintro n ⟨n2,i1⟩ _ hj1;rw [B8] at hj1;refine Ar (L':=[(7,.i64 n2),(8,.i64 i1),(1,_),(2,_),(3,_)]) (ms':=[]) rfl rfl ?_;refine zq8 ?_;refine zcn hj1 (fun hc1 hj1=>?_) (fun hc1 hj1=>?_)
  ·refine zq4 ?_
   obtain ⟨x1,hx1,hj1⟩:=bS hj1;obtain ⟨x2,hx2,hj1⟩:=bS hj1;obtain ⟨x3,hx3,hj1⟩:=bS hj1;refine zdr 11 ?_;refine zq9 ?_;refine zcd (Mz hx3) ?_;refine zq3 ?_;refine zcn hj1 (fun hc2 hj1=>?_) (fun hc2 hj1=>?_)
   ·refine zq2 ?_
    obtain ⟨hg4,hj1⟩:=Aa hj1;refine zq5 ?_;obtain ⟨hg5,hj1⟩:=Aa hj1;refine zq3 ?_;exact ⟨_,(),hj1,⟨rfl,rfl,trivial⟩,⟨rfl,rfl,rfl,trivial⟩,[],rfl⟩
   ·refine zq3 ?_
    obtain ⟨hg6,hj1⟩:=Aa hj1;refine zq3 ?_;exact ⟨_,(),hj1,⟨rfl,rfl,trivial⟩,⟨rfl,rfl,rfl,trivial⟩,[],rfl⟩
  ·refine Ao ?_
   exact ⟨_,(),Ac hj1,⟨rfl,trivial⟩,trivial,[],rfl⟩
 ·rintro n1 _ hst
  subst hst;refine An (L':=[(7,.i64 n1)]) (ms':=[]) rfl rfl ?_;refine zq5 ?_
  cases hm1;exact Ae zr1
noncomputable def CY (t1:ATy) (l1:(List Int)):Nat->(Int×(List (List UInt8)))->Option (List (List UInt8))
 | 0,_=>none
 | n+1,(i1,l3) =>
  (idx l1 0).bind fun x1 =>
  (idx t1.l x1).bind fun x2 =>
  bif (decide (i1<(x2.l.length:Int))) then
   (idx l1 0).bind fun x3 =>
   (idx t1.l x3).bind fun x4 =>
   (idx x4.l i1).bind fun x5 =>
   (EA t1 l1 x5.name).bind fun x6 =>
   (bif (decide (0<(x6.length:Int))) then ((ET t1 l1 x5.name).bind fun x7 =>
   some (decide (x7=(l1.length:Int)))) else (some false)).bind fun p1 =>
   (bif p1 then ((Iu x5.name l3).bind fun x8 =>
   some (!x8)) else (some false)).bind fun p2 =>
   bif p2 then
    grd ((l3.length+([x5.name]:List _).length)*16<=140737488355328) <|
    grd (InR (i1+1)) <|
    CY t1 l1 n ((i1+1),(l3++[x5.name]))
   else
    grd (InR (i1+1)) <|
    CY t1 l1 n ((i1+1),l3)
  else
   some l3
noncomputable def DM (t1:ATy) (l1:(List Int)):Option (List (List UInt8)):=
 (CY t1 l1 FU (0,[]):Option (List (List UInt8))).bind fun l2 =>
 some l2
theorem K1 {t1:ATy} {l1:(List Int)} {r_1:(List (List UInt8))} (hm:DM t1 l1=some r_1):Fn0 Tryz.prog 136 [ATy.d t1,.list 1 D.i64 l1] (.list 1 D.str r_1):=by
 unfold DM at hm;refine Ad func136 rfl ntmps136 rfl fun H0 fr w0=>?_;refine zq4 ?_;refine Al (nilE (i:=4) (sz:=1) (f:=D.str) rfl).refines ?_;refine zq3 ?_;refine Av rfl rfl rfl (Aq (xs:=[]) (f:=D.str) (l:=[]) runUnderlying65 sizeOf9 zeroValue9 rfl rfl rfl (fun _=>⟨rfl,rfl,rfl⟩) rfl (by simp [maxLen])) ?_;rintro _ _ ⟨a_r1,rfl,rfl⟩;refine zq7 ?_;obtain ⟨o_1,hj1,hm1⟩:=bS hm;refine Ak [] [] (fun (st:(List (List UInt8))) (hid:(Option Addr×Nat))=>match st,hid with | l2,(a_r1,cap_r1)=>[(5,.v (.slice a_r1 l2.length cap_r1))]) (fun F (st:(List (List UInt8))) (hid:(Option Addr×Nat))=>match st,hid with | l2,(a_r1,cap_r1)=>[row a_r1 cap_r1 9 1 D.str l2]) (fun st=>st=o_1) trivial trivial ?_ ?_
 ·refine Aj ?_
  refine Ai [(1,_),(2,_)] [] (fun (st:(Int×(List (List UInt8)))) (hid:(Option Addr×Nat))=>match st,hid with | (i1,l3),(a_r1,cap_r1)=>[(5,.v (.slice a_r1 l3.length cap_r1)),(6,.i64 i1)]) (fun F (st:(Int×(List (List UInt8)))) (hid:(Option Addr×Nat))=>match st,hid with | (i1,l3),(a_r1,cap_r1)=>[row a_r1 cap_r1 9 1 D.str l3]) (_,_) hj1 (fun _=>rfl) ⟨rfl,rfl,trivial⟩ trivial ⟨rfl,rfl,trivial⟩ rfl ?_;rintro n ⟨i1,l3⟩ ⟨a_r1,cap_r1⟩ hj1;rw [CY] at hj1;refine Ar (L':=[(5,.v (.slice a_r1 l3.length cap_r1)),(6,.i64 i1),(1,_),(2,_)]) (ms':=[row a_r1 cap_r1 9 1 D.str l3]) rfl rfl ?_;refine zq2 ?_;obtain ⟨x1,hx1,hj1⟩:=bS hj1;obtain ⟨x2,hx2,hj1⟩:=bS hj1;refine zdr 11 ?_;refine zq4 ?_;refine Aw rfl rfl rfl (oIm runUnderlying25 sizeOf3 rfl rfl hx1) ?_;refine zq1 ?_;refine Aw rfl rfl rfl (oIm runUnderlying22 sizeOf44 rfl rfl hx2) ?_;refine zq6 ?_;refine zcn hj1 (fun hc1 hj1=>?_) (fun hc1 hj1=>?_)
  ·refine zq4 ?_
   obtain ⟨x3,hx3,hj1⟩:=bS hj1;obtain ⟨x4,hx4,hj1⟩:=bS hj1;obtain ⟨x5,hx5,hj1⟩:=bS hj1;refine zdr 13 ?_;refine zq3 ?_;refine Aw rfl rfl rfl (oIm runUnderlying25 sizeOf3 rfl rfl hx3) ?_;refine zq1 ?_;refine Aw rfl rfl rfl (oIm runUnderlying22 sizeOf44 rfl rfl hx4) ?_;refine zq3 ?_;refine Aw rfl rfl rfl (oIm runUnderlying42 sizeOf98 rfl rfl hx5) ?_;refine zq10 ?_;obtain ⟨x6,hx6,hj1⟩:=bS hj1;refine zc0 (IX hx6) ?_;refine zq3 ?_;obtain ⟨p1,hp_1,hj1⟩:=bS hj1;refine AL [(1,_),(2,_),(5,_),(6,_),(7,_)] 8 48 p1 (t:=40) ⟨rfl,rfl,rfl,rfl,rfl,trivial⟩ rfl (fun hg_1 hk1=>?_) (fun hg_1 hk1=>?_) ?_
   ·replace hp_1:=AO hg_1 hp_1
    refine zq3 ?_;obtain ⟨x7,hx7,hp_1⟩:=bS hp_1;refine zcw (Nn hx7) ?_;refine zq4 ?_;exact zgb hk1 hp_1
   ·replace hp_1:=AP hg_1 hp_1
    refine zq8 ?_;exact zgb hk1 hp_1
   refine zq1 ?_;obtain ⟨p2,hp_2,hj1⟩:=bS hj1;refine AL [(1,_),(2,_),(5,_),(6,_),(7,_)] 5 54 p2 (t:=49) ⟨rfl,rfl,rfl,rfl,rfl,trivial⟩ rfl (fun hg_2 hk2=>?_) (fun hg_2 hk2=>?_) ?_
   ·replace hp_2:=AO hg_2 hp_2
    refine zq2 ?_;obtain ⟨x8,hx8,hp_2⟩:=bS hp_2;refine gWp rfl rfl rfl hg_2 rfl rfl (.view (peekE (i:=51) 0 rfl rfl rfl) (AY call119 rfl (PT hx8))) ?_;refine zq2 ?_;exact zgb hk2 hp_2
   ·replace hp_2:=AP hg_2 hp_2
    refine zq5 ?_;exact zgb hk2 hp_2
   refine gNl ?_;refine zcn hj1 (fun hc2 hj1=>?_) (fun hc2 hj1=>?_)
   ·refine zq3 ?_
    refine Af rfl rfl rfl (zs1 D.str) ?_;obtain ⟨hg9,hj1⟩:=Aa hj1;refine zap 0 hg9 fun a_r1 cap_r1=>?_;refine Ag (ms':=[_]) rfl ?_;refine zq4 ?_;obtain ⟨hg10,hj1⟩:=Aa hj1;refine zq3 ?_;exact ⟨_,(_,_),hj1,⟨rfl,rfl,trivial⟩,⟨rfl,rfl,trivial⟩,[],rfl⟩
   ·refine zq3 ?_
    obtain ⟨hg11,hj1⟩:=Aa hj1;refine zq3 ?_;exact ⟨_,(_,_),hj1,⟨rfl,rfl,trivial⟩,⟨rfl,rfl,trivial⟩,[],rfl⟩
  ·refine Ao ?_
   exact ⟨_,(_,_),Ac hj1,⟨rfl,trivial⟩,trivial,[],rfl⟩
 ·rintro l2 ⟨a_r1,cap_r1⟩ hst
  subst hst;refine An (L':=[(5,.v (.slice a_r1 l2.length cap_r1))]) (ms':=[row a_r1 cap_r1 9 1 D.str l2]) rfl rfl ?_;refine zq5 ?_;refine BA (peekE (i:=4) 0 rfl rfl rfl).refines ?_
  cases hm1;exact Ae zr1
noncomputable def CU (t1:ATy) (l1:(List Int)):Nat->(Int×(List Int)×(List Int)×(List Int)×(List Int))->Option ((List Int)×(List Int)×(List Int)×(List Int))
 | 0,_=>none
 | n+1,(i1,l6,l7,l8,l9) =>
  bif (decide (i1<(l1.length:Int))) then
   (idx l1 i1).bind fun x1 =>
   (idx t1.l x1).bind fun x2 =>
   grd ((l8.length+([x2.a]:List _).length)*8<=140737488355328) <|
   (idx l1 i1).bind fun x3 =>
   (idx t1.l x3).bind fun x4 =>
   grd ((l7.length+([x4.b]:List _).length)*8<=140737488355328) <|
   grd (InR (i1+1)) <|
   CU t1 l1 n ((i1+1),l6,(l7++[x4.b]),(l8++[x2.a]),l9)
  else
   some (l6,l7,l8,l9)
noncomputable def CP (t1:ATy) (r1:(List Int)):Nat->(Int×(List Int)×(List Int)×(List Int)×(List Int))->Option ((List Int)×(List Int)×(List Int)×(List Int))
 | 0,_=>none
 | n+1,(i2,l14,l15,l16,l17) =>
  bif (decide (i2<(r1.length:Int))) then
   (idx r1 i2).bind fun x5 =>
   (idx t1.l x5).bind fun x6 =>
   grd ((l17.length+([x6.a]:List _).length)*8<=140737488355328) <|
   (idx r1 i2).bind fun x7 =>
   (idx t1.l x7).bind fun x8 =>
   grd ((l14.length+([x8.b]:List _).length)*8<=140737488355328) <|
   grd (InR (i2+1)) <|
   CP t1 r1 n ((i2+1),(l14++[x8.b]),l15,l16,(l17++[x6.a]))
  else
   some (l14,l15,l16,l17)
noncomputable def CZ (t1:ATy) (l1:(List Int)) (r1:(List Int)) (all2:(List (List UInt8))):Nat->(Int×(List RSeq))->Option (Out ((List RSeq)×Bool) (List RSeq))
 | 0,_=>none
 | n+1,(i3,l19) =>
  bif (decide (i3<(all2.length:Int))) then
   (idx all2 i3).bind fun x15 =>
   (EA t1 l1 x15).bind fun x16 =>
   (idx all2 i3).bind fun x17 =>
   (EA t1 r1 x17).bind fun x18 =>
   bif ((decide ((x16.length:Int)=0))||(decide ((x18.length:Int)=0))) then
    some (Out.ret ([],false))
   else
    grd ((l19.length+([(⟨x16,x18⟩:RSeq)]:List _).length)*48<=140737488355328) <|
    grd (InR (i3+1)) <|
    CZ t1 l1 r1 all2 n ((i3+1),(l19++[(⟨x16,x18⟩:RSeq)]))
  else
   some (Out.go (l19))
noncomputable def F6 (t1:ATy) (kind1:Int) (l1:(List Int)) (r1:(List Int)):Option ((List RSeq)×Bool):=
 bif ((!decide (kind1=8))&&(decide ((r1.length:Int)=0))) then
  some ([],false)
 else
  bif (decide (kind1=6)) then
   (CU t1 l1 FU (0,([]:List Int),([]:List Int),([]:List Int),([]:List Int)):Option ((List Int)×(List Int)×(List Int)×(List Int))).bind fun (l2,l3,l4,l5) =>
   (CP t1 r1 FU (0,l2,l3,l4,l5):Option ((List Int)×(List Int)×(List Int)×(List Int))).bind fun (l10,l11,l12,l13) =>
   (Dv l13).bind fun x9 =>
   (Dv l12).bind fun x10 =>
   (Dv l11).bind fun x11 =>
   (Dv l10).bind fun x12 =>
   some ([(⟨x9,x10⟩:RSeq),(⟨x11,x12⟩:RSeq)],true)
  else
   (bif (decide (kind1=7)) then
    (DM t1 r1).bind fun x13 =>
    some x13
   else
    some []:Option (List (List UInt8))).bind fun all1 =>
   (bif (decide (kind1=8)) then
    (DM t1 l1).bind fun x14 =>
    some x14
   else
    some all1:Option (List (List UInt8))).bind fun all2 =>
   ((CZ t1 l1 r1 all2 FU (0,[]):Option (Out ((List RSeq)×Bool) (List RSeq)))).bind (fun oo=>oo.on (fun r2=>some r2) (fun l18 =>
   some (l18,true)))
theorem Ph {t1:ATy} {kind1:Int} {l1:(List Int)} {r1:(List Int)} {r_1:(List RSeq)} {r_2:Bool} (hm:F6 t1 kind1 l1 r1=some (r_1,r_2)):Fn0 Tryz.prog 105 [ATy.d t1,.i64 kind1,.list 1 D.i64 l1,.list 1 D.i64 r1] (.tup [.list 2 RSeq.d r_1,.bool r_2]):=by
 unfold F6 at hm;refine Ad func105 rfl ntmps105 rfl fun H0 fr w0=>?_;refine zq4 ?_;refine Al (nilE (i:=8) (sz:=2) (f:=RSeq.d) rfl).refines ?_;refine zq8 ?_
 apply Bo [(1,_),(2,_),(3,_),(4,_)] 4 25 (t:=21) ⟨rfl,rfl,rfl,rfl,trivial⟩ rfl
 ·intro hg_1 hk1
  refine zq4 ?_;exact zgm hk1
 ·intro hg_1 hk1
  refine zq4 ?_;exact zgm hk1
 refine gNl ?_;refine zcn hm (fun hc1 hm=>?_) (fun hc1 hm=>?_)
 ·refine zq3 ?_
  refine Al (nilE (i:=8) (sz:=2) (f:=RSeq.d) rfl).refines ?_;refine zq2 ?_
  cases hm;exact Ae zr2
 ·refine zq3 ?_
  refine Av rfl rfl rfl (Aq (xs:=[]) (f:=RSeq.d) (l:=[]) runUnderlying81 sizeOf80 zeroValue80 rfl rfl rfl (fun _=>⟨rfl,rfl,rfl⟩) rfl (by simp [maxLen])) ?_;rintro _ _ ⟨a_r1,rfl,rfl⟩;refine zq8 ?_;refine zcn hm (fun hc2 hm=>?_) (fun hc2 hm=>?_)
  ·refine zq2 ?_
   refine Af rfl rfl rfl zb80a ?_;refine Af rfl rfl rfl zb80a ?_;refine Rq fun b1=>?_;refine Rq fun b2=>?_;refine zst 1 ?_;refine Al (AB (T:=3) (sz:=1) (f:=D.i64)) ?_;refine Al (AB (T:=3) (sz:=1) (f:=D.i64)) ?_;refine Ag (ms':=[_,_,box b2 80 [_,_],box b1 80 [_,_],_]) rfl ?_;refine zst 2 ?_;refine Al (AB (T:=3) (sz:=1) (f:=D.i64)) ?_;refine Al (AB (T:=3) (sz:=1) (f:=D.i64)) ?_;refine Ag (ms':=[_,_,_,_,box b2 80 [_,_],box b1 80 [_,_],_]) rfl ?_;refine zq6 ?_;obtain ⟨o_1,hj1,hm1⟩:=bS hm;refine Ak [(3,_),(4,_),(11,_),(12,_)] [(6,_)] (fun (st:((List Int)×(List Int)×(List Int)×(List Int))) (hid:(Option Addr×Nat)×(Option Addr×Nat)×(Option Addr×Nat)×(Option Addr×Nat))=>match st,hid with | (l2,l3,l4,l5),((a_r5,cap_r5),(a_r4,cap_r4),(a_r3,cap_r3),(a_r2,cap_r2))=>[]) (fun F (st:((List Int)×(List Int)×(List Int)×(List Int))) (hid:(Option Addr×Nat)×(Option Addr×Nat)×(Option Addr×Nat)×(Option Addr×Nat))=>match st,hid with | (l2,l3,l4,l5),((a_r5,cap_r5),(a_r4,cap_r4),(a_r3,cap_r3),(a_r2,cap_r2))=>[row a_r5 cap_r5 3 1 D.i64 l2,row a_r4 cap_r4 3 1 D.i64 l3,row a_r3 cap_r3 3 1 D.i64 l4,row a_r2 cap_r2 3 1 D.i64 l5,box b2 80 [.v (.slice a_r4 l3.length cap_r4),.v (.slice a_r5 l2.length cap_r5)],box b1 80 [.v (.slice a_r2 l5.length cap_r2),.v (.slice a_r3 l4.length cap_r3)],(nthF F 0)]) (fun st=>st=o_1) ⟨rfl,rfl,rfl,rfl,trivial⟩ ⟨rfl,trivial⟩ ?_ ?_
   ·refine Aj ?_
    refine Ai [(2,_),(3,_),(4,_),(11,_),(12,_)] [(6,_)] (fun (st:(Int×(List Int)×(List Int)×(List Int)×(List Int))) (hid:(Option Addr×Nat)×(Option Addr×Nat)×(Option Addr×Nat)×(Option Addr×Nat))=>match st,hid with | (i1,l6,l7,l8,l9),((a_r5,cap_r5),(a_r4,cap_r4),(a_r3,cap_r3),(a_r2,cap_r2))=>[(13,.i64 i1)]) (fun F (st:(Int×(List Int)×(List Int)×(List Int)×(List Int))) (hid:(Option Addr×Nat)×(Option Addr×Nat)×(Option Addr×Nat)×(Option Addr×Nat))=>match st,hid with | (i1,l6,l7,l8,l9),((a_r5,cap_r5),(a_r4,cap_r4),(a_r3,cap_r3),(a_r2,cap_r2))=>[row a_r5 cap_r5 3 1 D.i64 l6,row a_r4 cap_r4 3 1 D.i64 l7,row a_r3 cap_r3 3 1 D.i64 l8,row a_r2 cap_r2 3 1 D.i64 l9,box b2 80 [.v (.slice a_r4 l7.length cap_r4),.v (.slice a_r5 l6.length cap_r5)],box b1 80 [.v (.slice a_r2 l9.length cap_r2),.v (.slice a_r3 l8.length cap_r3)],(nthF F 0)]) ((_,_),(_,_),(_,_),(_,_)) hj1 (fun _=>rfl) ⟨rfl,rfl,rfl,rfl,rfl,trivial⟩ ⟨rfl,trivial⟩ ⟨rfl,trivial⟩ rfl ?_;rintro n ⟨i1,l6,l7,l8,l9⟩ ⟨⟨a_r5,cap_r5⟩,⟨a_r4,cap_r4⟩,⟨a_r3,cap_r3⟩,⟨a_r2,cap_r2⟩⟩ hj1;rw [CU] at hj1;refine Ar (L':=[(13,.i64 i1),(2,_),(3,_),(4,_),(11,_),(12,_)]) (ms':=[row a_r5 cap_r5 3 1 D.i64 l6,row a_r4 cap_r4 3 1 D.i64 l7,row a_r3 cap_r3 3 1 D.i64 l8,row a_r2 cap_r2 3 1 D.i64 l9,box b2 80 [.v (.slice a_r4 l7.length cap_r4),.v (.slice a_r5 l6.length cap_r5)],box b1 80 [.v (.slice a_r2 l9.length cap_r2),.v (.slice a_r3 l8.length cap_r3)],_]) rfl rfl ?_;refine zq8 ?_;refine zcn hj1 (fun hc3 hj1=>?_) (fun hc3 hj1=>?_)
    ·refine zq3 ?_
     obtain ⟨x1,hx1,hj1⟩:=bS hj1;obtain ⟨x2,hx2,hj1⟩:=bS hj1;obtain ⟨hg3,hj1⟩:=Aa hj1;obtain ⟨x3,hx4,hj1⟩:=bS hj1;obtain ⟨x4,hx5,hj1⟩:=bS hj1;obtain ⟨hg6,hj1⟩:=Aa hj1;refine EZ 3 [12,25,27,29] [13,14,15,16,17,18,19,20,21,22,23,24,26,28] [14] (by decide +kernel) (by decide +kernel) AA (by decide +kernel) (by decide +kernel) rfl ?_;refine zq6 ?_;refine CL rfl rfl rfl rfl rfl rfl (oIm runUnderlying25 sizeOf3 rfl rfl hx1) ?_;refine zq1 ?_;refine CL rfl rfl rfl rfl rfl rfl (oIm runUnderlying22 sizeOf44 rfl rfl hx2) ?_;refine zq2 ?_;refine CL rfl rfl rfl rfl rfl rfl (zs1 D.i64) ?_;refine Cs rfl ?_;refine zq1 ?_;refine Jl rfl rfl rfl rfl rfl (oLb 4 isAgg25 rfl rfl rfl rfl) ?_;refine zq4 ?_;refine CL rfl rfl rfl rfl rfl rfl (oIm runUnderlying25 sizeOf3 rfl rfl hx4) ?_;refine zq1 ?_;refine CL rfl rfl rfl rfl rfl rfl (oIm runUnderlying22 sizeOf44 rfl rfl hx5) ?_;refine zq2 ?_;refine CL rfl rfl rfl rfl rfl rfl (zs1 D.i64) ?_;refine Cs rfl ?_;refine zq1 ?_;refine Cs rfl ?_;refine zq1 ?_;refine Cs rfl ?_;refine Hj ?_;refine Ct rfl rfl rfl rfl (Bw (a:=_) 2 underlying25 type3 rfl rfl rfl rfl rfl rfl rfl (fun _=>rfl) (fun _=>rfl) hg3 (A2 hg3 rfl)) ?_;rintro _ _ ⟨a_r3,cap_r3,rfl,rfl⟩;refine ⟨fun _=>⟨trivial,oLb 4 isAgg25 rfl rfl rfl rfl⟩,?_⟩;refine Ct rfl rfl rfl rfl (Bw (a:=_) 1 underlying25 type3 rfl rfl rfl rfl rfl rfl rfl (fun _=>rfl) (fun _=>rfl) hg6 (A2 hg6 rfl)) ?_;rintro _ _ ⟨a_r4,cap_r4,rfl,rfl⟩;refine ⟨fun hc=>absurd hc (by decide),?_⟩;refine HS rfl rfl rfl (oSb 5 sizeOf25 rfl rfl rfl rfl rfl rfl rfl rfl (nB rfl)) ?_;rintro _ _ rfl;refine ⟨fun hc=>absurd hc (by decide),?_⟩;refine HS rfl rfl rfl (oSb 4 sizeOf25 rfl rfl rfl rfl rfl rfl rfl rfl (nB rfl)) ?_;rintro _ _ rfl;refine ⟨fun hc=>absurd hc (by decide),?_⟩;refine Ge ?_;refine zq2 ?_;obtain ⟨hg7,hj1⟩:=Aa hj1;refine zq3 ?_;exact ⟨_,((_,_),(_,_),(_,_),(_,_)),hj1,⟨rfl,trivial⟩,⟨rfl,rfl,rfl,rfl,rfl,trivial⟩,[],rfl⟩
    ·refine Ao ?_
     exact ⟨_,((_,_),(_,_),(_,_),(_,_)),Ac hj1,trivial,⟨rfl,rfl,rfl,rfl,trivial⟩,[],rfl⟩
   ·rintro ⟨l2,l3,l4,l5⟩ ⟨⟨a_r5,cap_r5⟩,⟨a_r4,cap_r4⟩,⟨a_r3,cap_r3⟩,⟨a_r2,cap_r2⟩⟩ hst
    subst hst;refine An (L':=[(3,_),(4,_),(11,_),(12,_)]) (ms':=[row a_r5 cap_r5 3 1 D.i64 l2,row a_r4 cap_r4 3 1 D.i64 l3,row a_r3 cap_r3 3 1 D.i64 l4,row a_r2 cap_r2 3 1 D.i64 l5,box b2 80 [.v (.slice a_r4 l3.length cap_r4),.v (.slice a_r5 l2.length cap_r5)],box b1 80 [.v (.slice a_r2 l5.length cap_r2),.v (.slice a_r3 l4.length cap_r3)],_]) rfl rfl ?_;refine zq5 ?_;obtain ⟨o_2,hj2,hm2⟩:=bS hm1;refine Ak [(11,_),(12,_)] [(6,_)] (fun (st:((List Int)×(List Int)×(List Int)×(List Int))) (hid:(Option Addr×Nat)×(Option Addr×Nat)×(Option Addr×Nat)×(Option Addr×Nat))=>match st,hid with | (l10,l11,l12,l13),((a_r5,cap_r5),(a_r4,cap_r4),(a_r3,cap_r3),(a_r2,cap_r2))=>[]) (fun F (st:((List Int)×(List Int)×(List Int)×(List Int))) (hid:(Option Addr×Nat)×(Option Addr×Nat)×(Option Addr×Nat)×(Option Addr×Nat))=>match st,hid with | (l10,l11,l12,l13),((a_r5,cap_r5),(a_r4,cap_r4),(a_r3,cap_r3),(a_r2,cap_r2))=>[row a_r5 cap_r5 3 1 D.i64 l10,row a_r4 cap_r4 3 1 D.i64 l11,row a_r3 cap_r3 3 1 D.i64 l12,row a_r2 cap_r2 3 1 D.i64 l13,box b2 80 [.v (.slice a_r4 l11.length cap_r4),.v (.slice a_r5 l10.length cap_r5)],box b1 80 [.v (.slice a_r2 l13.length cap_r2),.v (.slice a_r3 l12.length cap_r3)],(nthF F 0)]) (fun st=>st=o_2) ⟨rfl,rfl,trivial⟩ ⟨rfl,trivial⟩ ?_ ?_
    ·refine Aj ?_
     refine Ai [(3,_),(4,_),(11,_),(12,_)] [(6,_)] (fun (st:(Int×(List Int)×(List Int)×(List Int)×(List Int))) (hid:(Option Addr×Nat)×(Option Addr×Nat)×(Option Addr×Nat)×(Option Addr×Nat))=>match st,hid with | (i2,l14,l15,l16,l17),((a_r5,cap_r5),(a_r4,cap_r4),(a_r3,cap_r3),(a_r2,cap_r2))=>[(14,.i64 i2)]) (fun F (st:(Int×(List Int)×(List Int)×(List Int)×(List Int))) (hid:(Option Addr×Nat)×(Option Addr×Nat)×(Option Addr×Nat)×(Option Addr×Nat))=>match st,hid with | (i2,l14,l15,l16,l17),((a_r5,cap_r5),(a_r4,cap_r4),(a_r3,cap_r3),(a_r2,cap_r2))=>[row a_r5 cap_r5 3 1 D.i64 l14,row a_r4 cap_r4 3 1 D.i64 l15,row a_r3 cap_r3 3 1 D.i64 l16,row a_r2 cap_r2 3 1 D.i64 l17,box b2 80 [.v (.slice a_r4 l15.length cap_r4),.v (.slice a_r5 l14.length cap_r5)],box b1 80 [.v (.slice a_r2 l17.length cap_r2),.v (.slice a_r3 l16.length cap_r3)],(nthF F 0)]) ((_,_),(_,_),(_,_),(_,_)) hj2 (fun _=>rfl) ⟨rfl,rfl,rfl,rfl,trivial⟩ ⟨rfl,trivial⟩ ⟨rfl,trivial⟩ rfl ?_;rintro n ⟨i2,l14,l15,l16,l17⟩ ⟨⟨a_r5,cap_r5⟩,⟨a_r4,cap_r4⟩,⟨a_r3,cap_r3⟩,⟨a_r2,cap_r2⟩⟩ hj2;rw [CP] at hj2;refine Ar (L':=[(14,.i64 i2),(3,_),(4,_),(11,_),(12,_)]) (ms':=[row a_r5 cap_r5 3 1 D.i64 l14,row a_r4 cap_r4 3 1 D.i64 l15,row a_r3 cap_r3 3 1 D.i64 l16,row a_r2 cap_r2 3 1 D.i64 l17,box b2 80 [.v (.slice a_r4 l15.length cap_r4),.v (.slice a_r5 l14.length cap_r5)],box b1 80 [.v (.slice a_r2 l17.length cap_r2),.v (.slice a_r3 l16.length cap_r3)],_]) rfl rfl ?_;refine zq8 ?_;refine zcn hj2 (fun hc4 hj2=>?_) (fun hc4 hj2=>?_)
     ·refine zq3 ?_
      obtain ⟨x5,hx8,hj2⟩:=bS hj2;obtain ⟨x6,hx9,hj2⟩:=bS hj2;obtain ⟨hg10,hj2⟩:=Aa hj2;obtain ⟨x7,hx11,hj2⟩:=bS hj2;obtain ⟨x8,hx12,hj2⟩:=bS hj2;obtain ⟨hg13,hj2⟩:=Aa hj2;refine EZ 3 [12,25,27,29] [13,14,15,16,17,18,19,20,21,22,23,24,26,28] [14] (by decide +kernel) (by decide +kernel) AA (by decide +kernel) (by decide +kernel) rfl ?_;refine zq6 ?_;refine CL rfl rfl rfl rfl rfl rfl (oIm runUnderlying25 sizeOf3 rfl rfl hx8) ?_;refine zq1 ?_;refine CL rfl rfl rfl rfl rfl rfl (oIm runUnderlying22 sizeOf44 rfl rfl hx9) ?_;refine zq2 ?_;refine CL rfl rfl rfl rfl rfl rfl (zs1 D.i64) ?_;refine Cs rfl ?_;refine zq1 ?_;refine Jl rfl rfl rfl rfl rfl (oLb 4 isAgg25 rfl rfl rfl rfl) ?_;refine zq4 ?_;refine CL rfl rfl rfl rfl rfl rfl (oIm runUnderlying25 sizeOf3 rfl rfl hx11) ?_;refine zq1 ?_;refine CL rfl rfl rfl rfl rfl rfl (oIm runUnderlying22 sizeOf44 rfl rfl hx12) ?_;refine zq2 ?_;refine CL rfl rfl rfl rfl rfl rfl (zs1 D.i64) ?_;refine Cs rfl ?_;refine zq1 ?_;refine Cs rfl ?_;refine zq1 ?_;refine Cs rfl ?_;refine Hj ?_;refine Ct rfl rfl rfl rfl (Bw (a:=_) 3 underlying25 type3 rfl rfl rfl rfl rfl rfl rfl (fun _=>rfl) (fun _=>rfl) hg10 (A2 hg10 rfl)) ?_;rintro _ _ ⟨a_r2,cap_r2,rfl,rfl⟩;refine ⟨fun _=>⟨trivial,oLb 4 isAgg25 rfl rfl rfl rfl⟩,?_⟩;refine Ct rfl rfl rfl rfl (Bw (a:=_) 0 underlying25 type3 rfl rfl rfl rfl rfl rfl rfl (fun _=>rfl) (fun _=>rfl) hg13 (A2 hg13 rfl)) ?_;rintro _ _ ⟨a_r5,cap_r5,rfl,rfl⟩;refine ⟨fun hc=>absurd hc (by decide),?_⟩;refine HS rfl rfl rfl (oSb 5 sizeOf25 rfl rfl rfl rfl rfl rfl rfl rfl (nB rfl)) ?_;rintro _ _ rfl;refine ⟨fun hc=>absurd hc (by decide),?_⟩;refine HS rfl rfl rfl (oSb 4 sizeOf25 rfl rfl rfl rfl rfl rfl rfl rfl (nB rfl)) ?_;rintro _ _ rfl;refine ⟨fun hc=>absurd hc (by decide),?_⟩;refine Ge ?_;refine zq2 ?_;obtain ⟨hg14,hj2⟩:=Aa hj2;refine zq3 ?_;exact ⟨_,((_,_),(_,_),(_,_),(_,_)),hj2,⟨rfl,trivial⟩,⟨rfl,rfl,rfl,rfl,trivial⟩,[],rfl⟩
     ·refine Ao ?_
      exact ⟨_,((_,_),(_,_),(_,_),(_,_)),Ac hj2,trivial,⟨rfl,rfl,trivial⟩,[],rfl⟩
    ·rintro ⟨l10,l11,l12,l13⟩ ⟨⟨a_r5,cap_r5⟩,⟨a_r4,cap_r4⟩,⟨a_r3,cap_r3⟩,⟨a_r2,cap_r2⟩⟩ hst
     subst hst;refine An (L':=[(11,_),(12,_)]) (ms':=[row a_r5 cap_r5 3 1 D.i64 l10,row a_r4 cap_r4 3 1 D.i64 l11,row a_r3 cap_r3 3 1 D.i64 l12,row a_r2 cap_r2 3 1 D.i64 l13,box b2 80 [.v (.slice a_r4 l11.length cap_r4),.v (.slice a_r5 l10.length cap_r5)],box b1 80 [.v (.slice a_r2 l13.length cap_r2),.v (.slice a_r3 l12.length cap_r3)],_]) rfl rfl ?_;refine AQ ?_;obtain ⟨x9,hx15,hm2⟩:=bS hm2;obtain ⟨x10,hx16,hm2⟩:=bS hm2;obtain ⟨x11,hx17,hm2⟩:=bS hm2;obtain ⟨x12,hx18,hm2⟩:=bS hm2;refine zdr 17 ?_;refine zq2 ?_;refine Aw rfl rfl rfl (.view (peekE (i:=100) 3 rfl rfl rfl) (AY call61 rfl (Fu hx15))) ?_;refine zq2 ?_;refine Aw rfl rfl rfl (.view (peekE (i:=103) 2 rfl rfl rfl) (AY call61 rfl (Fu hx16))) ?_;refine Aw rfl rfl rfl zb80b ?_;refine zq2 ?_;refine Aw rfl rfl rfl (.view (peekE (i:=107) 1 rfl rfl rfl) (AY call61 rfl (Fu hx17))) ?_;refine zq2 ?_;refine Aw rfl rfl rfl (.view (peekE (i:=110) 0 rfl rfl rfl) (AY call61 rfl (Fu hx18))) ?_;refine Aw rfl rfl rfl zb80b ?_;refine Aw rfl rfl rfl (Ax (xs:=[_,_]) (f:=RSeq.d) (l:=[(⟨x9,x10⟩:RSeq),(⟨x11,x12⟩:RSeq)]) runUnderlying81 sizeOf80 zeroValue80 rfl rfl rfl (fun _=>⟨rfl,rfl,rfl⟩) rfl) ?_;refine zq4 ?_
     cases hm2;exact Ae zr2
  ·refine zq3 ?_
   refine Af rfl rfl rfl (Ax (xs:=[]) (f:=D.str) (l:=[]) runUnderlying65 sizeOf9 zeroValue9 rfl rfl rfl (fun _=>⟨rfl,rfl,rfl⟩) rfl) ?_;refine zq8 ?_;obtain ⟨o_3,hj3,hm3⟩:=bS hm;refine Ak [(1,_),(2,_),(3,_),(4,_),(10,_)] [(0,_)] (fun (st:(List (List UInt8))) (hid:Unit)=>match st,hid with | all1,_=>[(15,.list 1 D.str all1)]) (fun F (st:(List (List UInt8))) (hid:Unit)=>match st,hid with | all1,_=>[(nthF F 0)]) (fun st=>st=o_3) ⟨rfl,rfl,rfl,rfl,rfl,trivial⟩ ⟨rfl,trivial⟩ ?_ ?_
   ·refine zcn hj3 (fun hc5 hj3=>?_) (fun hc5 hj3=>?_)
    ·refine zq3 ?_
     obtain ⟨x13,hx19,hj3⟩:=bS hj3;refine zc0 (K1 hx19) ?_;refine zq2 ?_;exact ⟨_,(),Ac hj3,⟨rfl,trivial⟩,⟨rfl,rfl,rfl,rfl,rfl,trivial⟩,[],rfl⟩
    ·refine gSp ?_
     exact ⟨_,(),Ac hj3,⟨rfl,trivial⟩,⟨rfl,rfl,rfl,rfl,rfl,trivial⟩,[],rfl⟩
   ·rintro all1 _ hst
    subst hst;refine An (L':=[(15,.list 1 D.str all1),(1,_),(2,_),(3,_),(4,_),(10,_)]) (ms':=[_]) rfl rfl ?_;refine zq6 ?_;obtain ⟨o_4,hj4,hm4⟩:=bS hm3;refine Ak [(2,_),(3,_),(4,_),(10,_)] [(0,_)] (fun (st:(List (List UInt8))) (hid:Unit)=>match st,hid with | all2,_=>[(15,.list 1 D.str all2)]) (fun F (st:(List (List UInt8))) (hid:Unit)=>match st,hid with | all2,_=>[(nthF F 0)]) (fun st=>st=o_4) ⟨rfl,rfl,rfl,rfl,trivial⟩ ⟨rfl,trivial⟩ ?_ ?_
    ·refine zcn hj4 (fun hc6 hj4=>?_) (fun hc6 hj4=>?_)
     ·refine zq3 ?_
      obtain ⟨x14,hx20,hj4⟩:=bS hj4;refine zc0 (K1 hx20) ?_;refine zq2 ?_;exact ⟨_,(),Ac hj4,⟨rfl,trivial⟩,⟨rfl,rfl,rfl,rfl,trivial⟩,[],rfl⟩
     ·refine gSp ?_
      exact ⟨_,(),Ac hj4,⟨rfl,trivial⟩,⟨rfl,rfl,rfl,rfl,trivial⟩,[],rfl⟩
    ·rintro all2 _ hst
     subst hst;refine An (L':=[(15,.list 1 D.str all2),(2,_),(3,_),(4,_),(10,_)]) (ms':=[_]) rfl rfl ?_;refine zq5 ?_;obtain ⟨o_5,hj5,hm5⟩:=bS hm4;refine Ak [] [] (fun (st:(List RSeq)) (hid:(Option Addr×Nat))=>match st,hid with | l18,(a_r1,cap_r1)=>[(10,.v (.slice a_r1 l18.length cap_r1))]) (fun F (st:(List RSeq)) (hid:(Option Addr×Nat))=>match st,hid with | l18,(a_r1,cap_r1)=>[row a_r1 cap_r1 80 2 RSeq.d l18]) (fun st=>Out.go (st)=o_5) trivial trivial ?_ ?_
     ·refine Aj ?_
      refine Ai [(2,_),(3,_),(4,_),(15,_)] [] (fun (st:(Int×(List RSeq))) (hid:(Option Addr×Nat))=>match st,hid with | (i3,l19),(a_r1,cap_r1)=>[(10,.v (.slice a_r1 l19.length cap_r1)),(16,.i64 i3)]) (fun F (st:(Int×(List RSeq))) (hid:(Option Addr×Nat))=>match st,hid with | (i3,l19),(a_r1,cap_r1)=>[row a_r1 cap_r1 80 2 RSeq.d l19]) (_,_) hj5 (fun _=>rfl) ⟨rfl,rfl,rfl,rfl,trivial⟩ trivial ⟨rfl,rfl,trivial⟩ rfl ?_;rintro n ⟨i3,l19⟩ ⟨a_r1,cap_r1⟩ hj5;rw [CZ] at hj5;refine Ar (L':=[(10,.v (.slice a_r1 l19.length cap_r1)),(16,.i64 i3),(2,_),(3,_),(4,_),(15,_)]) (ms':=[row a_r1 cap_r1 80 2 RSeq.d l19]) rfl rfl ?_;refine zq8 ?_;refine zcn hj5 (fun hc7 hj5=>?_) (fun hc7 hj5=>?_)
      ·refine zq4 ?_
       obtain ⟨x15,hx21,hj5⟩:=bS hj5;obtain ⟨x16,hx22,hj5⟩:=bS hj5;obtain ⟨x17,hx23,hj5⟩:=bS hj5;obtain ⟨x18,hx24,hj5⟩:=bS hj5;refine zdr 16 ?_;refine zq4 ?_;refine Aw rfl rfl rfl (oIm runUnderlying65 sizeOf9 rfl rfl hx21) ?_;refine zq1 ?_;refine zcd (IX hx22) ?_;refine zq4 ?_;refine Aw rfl rfl rfl (oIm runUnderlying65 sizeOf9 rfl rfl hx23) ?_;refine zq1 ?_;refine zcd (IX hx24) ?_;refine zq11 ?_
       apply Bt [(2,_),(3,_),(4,_),(10,_),(15,_),(16,_),(17,_),(18,_)] 4 152 (t:=148) ⟨rfl,rfl,rfl,rfl,rfl,rfl,rfl,rfl,trivial⟩ rfl
       ·intro hg_2 hk2
        refine zq4 ?_;exact zgm hk2
       ·intro hg_2 hk2
        refine zq4 ?_;exact zgm hk2
       refine gNl ?_;refine zcn hj5 (fun hc8 hj5=>?_) (fun hc8 hj5=>?_)
       ·refine zq3 ?_
        refine Al (nilE (i:=8) (sz:=2) (f:=RSeq.d) rfl).refines ?_;refine zq2 ?_;refine Ae ?_;obtain rfl:=Ac hj5
        replace hm5:=BJ hm5
        cases hm5;exact zr2
       ·refine zq5 ?_
        refine Af rfl rfl rfl zb80b ?_;refine Af rfl rfl rfl (Ax (xs:=[_]) (f:=RSeq.d) (l:=[(⟨x16,x18⟩:RSeq)]) runUnderlying81 sizeOf80 zeroValue80 rfl rfl rfl (fun _=>⟨rfl,rfl,rfl⟩) rfl) ?_;obtain ⟨hg25,hj5⟩:=Aa hj5;refine zap 0 hg25 fun a_r1 cap_r1=>?_;refine Ag (ms':=[_]) rfl ?_;refine zq4 ?_;obtain ⟨hg26,hj5⟩:=Aa hj5;refine zq3 ?_;exact ⟨_,(_,_),hj5,⟨rfl,rfl,trivial⟩,⟨rfl,rfl,rfl,rfl,trivial⟩,[],rfl⟩
      ·refine Ao ?_
       exact ⟨_,(_,_),Ac hj5,⟨rfl,trivial⟩,trivial,[],rfl⟩
     ·rintro l18 ⟨a_r1,cap_r1⟩ hst
      subst hst
      replace hm5:=Dh hm5
      refine An (L':=[(10,.v (.slice a_r1 l18.length cap_r1))]) (ms':=[row a_r1 cap_r1 80 2 RSeq.d l18]) rfl rfl ?_;refine zq6 ?_;refine BA (peekE (i:=8) 0 rfl rfl rfl).refines ?_
      cases hm5;exact Ae zr2
noncomputable def EB (t1:ATy) (l1:(List Int)) (kind1:Int):Nat->(Int×(List Int))->Option (List Int)
 | 0,_=>none
 | n+1,(i1,l3) =>
  bif (decide (i1<(l1.length:Int))) then
   (idx l1 i1).bind fun x1 =>
   (idx t1.l x1).bind fun x2 =>
   bif (decide (x2.kind=kind1)) then
    (idx l1 i1).bind fun x3 =>
    grd ((l3.length+([x3]:List _).length)*8<=140737488355328) <|
    grd (InR (i1+1)) <|
    EB t1 l1 kind1 n ((i1+1),(l3++[x3]))
   else
    grd (InR (i1+1)) <|
    EB t1 l1 kind1 n ((i1+1),l3)
  else
   some l3
noncomputable def Iz (t1:ATy) (l1:(List Int)) (kind1:Int):Option (List Int):=
 (EB t1 l1 kind1 FU (0,[]):Option (List Int)).bind fun l2 =>
 some l2
theorem P2 {t1:ATy} {l1:(List Int)} {kind1:Int} {r_1:(List Int)} (hm:Iz t1 l1 kind1=some r_1):Fn0 Tryz.prog 106 [ATy.d t1,.list 1 D.i64 l1,.i64 kind1] (.list 1 D.i64 r_1):=by
 unfold Iz at hm;refine Ad func106 rfl ntmps106 rfl fun H0 fr w0=>?_;refine zq4 ?_;refine Al (nilE (i:=6) (sz:=1) (f:=D.i64) rfl).refines ?_;refine zq3 ?_;refine Av rfl rfl rfl (Aq (xs:=[]) (f:=D.i64) (l:=[]) runUnderlying25 sizeOf3 zeroValue3 rfl rfl rfl (fun _=>⟨rfl,rfl,rfl⟩) rfl (by simp [maxLen])) ?_;rintro _ _ ⟨a_r1,rfl,rfl⟩;refine zq7 ?_;obtain ⟨o_1,hj1,hm1⟩:=bS hm;refine Ak [] [] (fun (st:(List Int)) (hid:(Option Addr×Nat))=>match st,hid with | l2,(a_r1,cap_r1)=>[(7,.v (.slice a_r1 l2.length cap_r1))]) (fun F (st:(List Int)) (hid:(Option Addr×Nat))=>match st,hid with | l2,(a_r1,cap_r1)=>[row a_r1 cap_r1 3 1 D.i64 l2]) (fun st=>st=o_1) trivial trivial ?_ ?_
 ·refine Aj ?_
  refine Ai [(1,_),(2,_),(3,_)] [] (fun (st:(Int×(List Int))) (hid:(Option Addr×Nat))=>match st,hid with | (i1,l3),(a_r1,cap_r1)=>[(7,.v (.slice a_r1 l3.length cap_r1)),(8,.i64 i1)]) (fun F (st:(Int×(List Int))) (hid:(Option Addr×Nat))=>match st,hid with | (i1,l3),(a_r1,cap_r1)=>[row a_r1 cap_r1 3 1 D.i64 l3]) (_,_) hj1 (fun _=>rfl) ⟨rfl,rfl,rfl,trivial⟩ trivial ⟨rfl,rfl,trivial⟩ rfl ?_;rintro n ⟨i1,l3⟩ ⟨a_r1,cap_r1⟩ hj1;rw [EB] at hj1;refine Ar (L':=[(7,.v (.slice a_r1 l3.length cap_r1)),(8,.i64 i1),(1,_),(2,_),(3,_)]) (ms':=[row a_r1 cap_r1 3 1 D.i64 l3]) rfl rfl ?_;refine zq8 ?_;refine zcn hj1 (fun hc1 hj1=>?_) (fun hc1 hj1=>?_)
  ·refine zq4 ?_
   obtain ⟨x1,hx1,hj1⟩:=bS hj1;obtain ⟨x2,hx2,hj1⟩:=bS hj1;refine zdr 11 ?_;refine zq4 ?_;refine Aw rfl rfl rfl (oIm runUnderlying25 sizeOf3 rfl rfl hx1) ?_;refine zq1 ?_;refine Aw rfl rfl rfl (oIm runUnderlying22 sizeOf44 rfl rfl hx2) ?_;refine zq6 ?_;refine zcn hj1 (fun hc2 hj1=>?_) (fun hc2 hj1=>?_)
   ·refine zq4 ?_
    obtain ⟨x3,hx3,hj1⟩:=bS hj1;refine Af rfl rfl rfl (oIm runUnderlying25 sizeOf3 rfl rfl hx3) ?_;refine zq1 ?_;refine Af rfl rfl rfl (zs1 D.i64) ?_;obtain ⟨hg4,hj1⟩:=Aa hj1;refine zap 0 hg4 fun a_r1 cap_r1=>?_;refine Ag (ms':=[_]) rfl ?_;refine zq4 ?_;obtain ⟨hg5,hj1⟩:=Aa hj1;refine zq3 ?_;exact ⟨_,(_,_),hj1,⟨rfl,rfl,trivial⟩,⟨rfl,rfl,rfl,trivial⟩,[],rfl⟩
   ·refine zq3 ?_
    obtain ⟨hg6,hj1⟩:=Aa hj1;refine zq3 ?_;exact ⟨_,(_,_),hj1,⟨rfl,rfl,trivial⟩,⟨rfl,rfl,rfl,trivial⟩,[],rfl⟩
  ·refine Ao ?_
   exact ⟨_,(_,_),Ac hj1,⟨rfl,trivial⟩,trivial,[],rfl⟩
 ·rintro l2 ⟨a_r1,cap_r1⟩ hst
  subst hst;refine An (L':=[(7,.v (.slice a_r1 l2.length cap_r1))]) (ms':=[row a_r1 cap_r1 3 1 D.i64 l2]) rfl rfl ?_;refine zq5 ?_;refine BA (peekE (i:=6) 0 rfl rfl rfl).refines ?_
  cases hm1;exact Ae zr1
noncomputable def CV (t1:ATy) (q1:RSeq) (i1:Int):Nat->Int->Option (Out ((List RSeq)×Bool) Unit)
 | 0,_=>none
 | n+1,k1 =>
  bif (decide (k1<(q1.r.length:Int))) then
   (idx q1.l i1).bind fun x15 =>
   (idx t1.l x15).bind fun x16 =>
   (idx q1.r k1).bind fun x17 =>
   (idx t1.l x17).bind fun x18 =>
   bif (((decide (x16.kind=11))&&(decide (x18.kind=11)))&&(decide (x16.a=x18.a))) then
    some (Out.ret ([],true))
   else
    grd (InR (k1+1)) <|
    CV t1 q1 i1 n (k1+1)
  else
   some (Out.go (()))
noncomputable def C0 (t1:ATy) (q1:RSeq):Nat->Int->Option (Out ((List RSeq)×Bool) Unit)
 | 0,_=>none
 | n+1,i1 =>
  bif (decide (i1<(q1.l.length:Int))) then
   ((CV t1 q1 i1 FU 0:Option (Out ((List RSeq)×Bool) Unit))).bind (fun oo=>oo.on (fun r1=>some (Out.ret r1)) (fun _ =>
   grd (InR (i1+1)) <|
   C0 t1 q1 n (i1+1)))
  else
   some (Out.go (()))
noncomputable def Br (t1:ATy) (q1:RSeq):Nat->(Int×(List Int))->Option (List Int)
 | 0,_=>none
 | n+1,(i2,l2) =>
  bif (decide (i2<=8)) then
   (Fb t1 q1.l i2).bind fun x19 =>
   bif (decide (0<=x19)) then
    grd ((l2.length+([i2]:List _).length)*8<=140737488355328) <|
    grd (InR (i2+1)) <|
    Br t1 q1 n ((i2+1),(l2++[i2]))
   else
    grd (InR (i2+1)) <|
    Br t1 q1 n ((i2+1),l2)
  else
   some l2
noncomputable def Fc (t1:ATy) (q1:RSeq):Option ((List RSeq)×Bool):=
 (Fb t1 q1.l 2).bind fun x1 =>
 (bif (decide (0<=x1)) then (some true) else ((Fb t1 q1.r 1).bind fun x2 =>
 some (decide (0<=x2)))).bind fun p1 =>
 bif p1 then
  some ([],true)
 else
  (EC t1 q1.l 9 10).bind fun x3 =>
  bif (decide (0<=x3)) then
   (idx q1.l x3).bind fun x4 =>
   (idx t1.l x4).bind fun x5 =>
   bif (decide (x5.kind=10)) then
    (Dc q1.l x3 [x5.a,x5.b]).bind fun x6 =>
    some ([(⟨x6,q1.r⟩:RSeq)],true)
   else
    (Dc q1.l x3 [x5.a]).bind fun x7 =>
    (Dc q1.l x3 [x5.b]).bind fun x8 =>
    some ([(⟨x7,q1.r⟩:RSeq),(⟨x8,q1.r⟩:RSeq)],true)
  else
   (EC t1 q1.r 9 10).bind fun x9 =>
   bif (decide (0<=x9)) then
    (idx q1.r x9).bind fun x10 =>
    (idx t1.l x10).bind fun x11 =>
    bif (decide (x11.kind=9)) then
     (Dc q1.r x9 [x11.a,x11.b]).bind fun x12 =>
     some ([(⟨q1.l,x12⟩:RSeq)],true)
    else
     (Dc q1.r x9 [x11.a]).bind fun x13 =>
     (Dc q1.r x9 [x11.b]).bind fun x14 =>
     some ([(⟨q1.l,x13⟩:RSeq),(⟨q1.l,x14⟩:RSeq)],true)
   else
    ((C0 t1 q1 FU 0:Option (Out ((List RSeq)×Bool) Unit))).bind (fun oo=>oo.on (fun r2=>some r2) (fun _ =>
    (Br t1 q1 FU (3,[]):Option (List Int)).bind fun l1 =>
    bif (decide ((l1.length:Int)=0)) then
     some ([],false)
    else
     bif (decide (1<(l1.length:Int))) then
      some ([],true)
     else
      (idx l1 0).bind fun x20 =>
      (idx l1 0).bind fun x21 =>
      (Iz t1 q1.l x21).bind fun x22 =>
      (idx l1 0).bind fun x23 =>
      (Iz t1 q1.r x23).bind fun x24 =>
      (F6 t1 x20 x22 x24).bind fun (x25,x26) =>
      some (x25,x26)))
theorem Pq {t1:ATy} {q1:RSeq} {r_1:(List RSeq)} {r_2:Bool} (hm:Fc t1 q1=some (r_1,r_2)):Fn0 Tryz.prog 62 [ATy.d t1,RSeq.d q1] (.tup [.list 2 RSeq.d r_1,.bool r_2]):=by
 unfold Fc at hm;refine Ad func62 rfl ntmps62 rfl fun H0 fr w0=>?_;refine zq5 ?_;refine Al (nilE (i:=4) (sz:=2) (f:=RSeq.d) rfl).refines ?_;refine zq8 ?_;obtain ⟨x1,hx1,hm⟩:=bS hm;refine zc0 (J8 hx1) ?_;refine zq2 ?_;obtain ⟨p1,hp_1,hm⟩:=bS hm;refine AL [(2,_),(3,_)] 6 27 p1 (t:=21) ⟨rfl,rfl,trivial⟩ rfl (fun hg_1 hk1=>?_) (fun hg_1 hk1=>?_) ?_
 ·replace hp_1:=AO hg_1 hp_1
  refine zq6 ?_;exact zgb hk1 hp_1
 ·replace hp_1:=AP hg_1 hp_1
  refine zq3 ?_;obtain ⟨x2,hx2,hp_1⟩:=bS hp_1;refine zcw (J8 hx2) ?_;refine zq2 ?_;exact zgb hk1 hp_1
 refine gNl ?_;refine zcn hm (fun hc1 hm=>?_) (fun hc1 hm=>?_)
 ·refine zq3 ?_
  refine Al (nilE (i:=4) (sz:=2) (f:=RSeq.d) rfl).refines ?_;refine zq2 ?_
  cases hm;exact Ae zr2
 ·refine zq7 ?_
  obtain ⟨x3,hx3,hm⟩:=bS hm;refine zc0 (Ll hx3) ?_;refine zq7 ?_;refine zcn hm (fun hc2 hm=>?_) (fun hc2 hm=>?_)
  ·refine AQ ?_
   obtain ⟨x4,hx4,hm⟩:=bS hm;obtain ⟨x5,hx5,hm⟩:=bS hm;refine KS 10 [9] AA (by decide +kernel) (by decide +kernel) rfl (by decide +kernel) ?_;refine Cr rfl rfl rfl rfl (oFa DI rfl rfl rfl) ?_;refine Cr rfl rfl rfl rfl (Bg isAgg22 rfl rfl) ?_;refine Cr rfl rfl rfl rfl (oFa Nm rfl rfl rfl) ?_;refine Cr rfl rfl rfl rfl (Bg isAgg25 rfl rfl) ?_;refine Cr rfl rfl rfl rfl (oMv rfl) ?_;refine Cr rfl rfl rfl rfl (oIm runUnderlying25 sizeOf3 rfl rfl hx4) ?_;refine Cr rfl rfl rfl rfl (Bg isAgg3 rfl rfl) ?_;refine Cr rfl rfl rfl rfl (oIm runUnderlying22 sizeOf44 rfl rfl hx5) ?_;refine Cr rfl rfl rfl rfl (Bu isAgg44 sizeOf44 rfl rfl) ?_;refine Kb (R:=fun d A=>∃ b,d = .v (.pointer (some ⟨b,0,none⟩))/\A=box b 44 [.i64 0,.i64 0,.i64 0,.list 2 AFd.d []]) rfl rfl rfl (OpT.mono (Ay zeroValue44 (cs:=[.i64 0,.i64 0,.i64 0,.list 2 AFd.d []]) rfl) (by rintro d ms' ⟨b,rfl,rfl⟩;exact ⟨_,⟨b,rfl,rfl⟩,rfl⟩)) ?_;refine Nk ?_;rintro _ _ ⟨b1,rfl,rfl⟩;refine zst 0 ?_;refine Ag (ms':=[box b1 44 [_,_,_,_]]) rfl ?_;refine zq8 ?_;refine zcn hm (fun hc3 hm=>?_) (fun hc3 hm=>?_)
   ·refine AQ ?_
    obtain ⟨x6,hx6,hm⟩:=bS hm;refine zdr 15 ?_;refine zq7 ?_;refine Aw rfl rfl rfl (zs2 D.i64) ?_;refine zcd (FM hx6) ?_;refine zq2 ?_;refine Aw rfl rfl rfl zb80b ?_;refine Aw rfl rfl rfl (Ax (xs:=[_]) (f:=RSeq.d) (l:=[(⟨x6,q1.r⟩:RSeq)]) runUnderlying81 sizeOf80 zeroValue80 rfl rfl rfl (fun _=>⟨rfl,rfl,rfl⟩) rfl) ?_;refine zq4 ?_
    cases hm;exact Ae zr2
   ·refine zq2 ?_
    obtain ⟨x7,hx7,hm⟩:=bS hm;obtain ⟨x8,hx8,hm⟩:=bS hm;refine zdr 23 ?_;refine zq5 ?_;refine Aw rfl rfl rfl (zs1 D.i64) ?_;refine zcd (FM hx7) ?_;refine zq2 ?_;refine Aw rfl rfl rfl zb80b ?_;refine zq5 ?_;refine Aw rfl rfl rfl (zs1 D.i64) ?_;refine zcd (FM hx8) ?_;refine zq2 ?_;refine Aw rfl rfl rfl zb80b ?_;refine Aw rfl rfl rfl (Ax (xs:=[_,_]) (f:=RSeq.d) (l:=[(⟨x7,q1.r⟩:RSeq),(⟨x8,q1.r⟩:RSeq)]) runUnderlying81 sizeOf80 zeroValue80 rfl rfl rfl (fun _=>⟨rfl,rfl,rfl⟩) rfl) ?_;refine zq4 ?_
    cases hm;exact Ae zr2
  ·refine zq7 ?_
   obtain ⟨x9,hx9,hm⟩:=bS hm;refine zc0 (Ll hx9) ?_;refine zq7 ?_;refine zcn hm (fun hc4 hm=>?_) (fun hc4 hm=>?_)
   ·refine AQ ?_
    obtain ⟨x10,hx10,hm⟩:=bS hm;obtain ⟨x11,hx11,hm⟩:=bS hm;refine KS 10 [9] AA (by decide +kernel) (by decide +kernel) rfl (by decide +kernel) ?_;refine Cr rfl rfl rfl rfl (oFa DI rfl rfl rfl) ?_;refine Cr rfl rfl rfl rfl (Bg isAgg22 rfl rfl) ?_;refine Cr rfl rfl rfl rfl (oFa NA rfl rfl rfl) ?_;refine Cr rfl rfl rfl rfl (Bg isAgg25 rfl rfl) ?_;refine Cr rfl rfl rfl rfl (oMv rfl) ?_;refine Cr rfl rfl rfl rfl (oIm runUnderlying25 sizeOf3 rfl rfl hx10) ?_;refine Cr rfl rfl rfl rfl (Bg isAgg3 rfl rfl) ?_;refine Cr rfl rfl rfl rfl (oIm runUnderlying22 sizeOf44 rfl rfl hx11) ?_;refine Cr rfl rfl rfl rfl (Bu isAgg44 sizeOf44 rfl rfl) ?_;refine Kb (R:=fun d A=>∃ b,d = .v (.pointer (some ⟨b,0,none⟩))/\A=box b 44 [.i64 0,.i64 0,.i64 0,.list 2 AFd.d []]) rfl rfl rfl (OpT.mono (Ay zeroValue44 (cs:=[.i64 0,.i64 0,.i64 0,.list 2 AFd.d []]) rfl) (by rintro d ms' ⟨b,rfl,rfl⟩;exact ⟨_,⟨b,rfl,rfl⟩,rfl⟩)) ?_;refine Nk ?_;rintro _ _ ⟨b2,rfl,rfl⟩;refine zst 0 ?_;refine Ag (ms':=[box b2 44 [_,_,_,_]]) rfl ?_;refine zq8 ?_;refine zcn hm (fun hc5 hm=>?_) (fun hc5 hm=>?_)
    ·refine AQ ?_
     obtain ⟨x12,hx12,hm⟩:=bS hm;refine zdr 15 ?_;refine zq9 ?_;refine Aw rfl rfl rfl (zs2 D.i64) ?_;refine zcd (FM hx12) ?_;refine Aw rfl rfl rfl zb80b ?_;refine Aw rfl rfl rfl (Ax (xs:=[_]) (f:=RSeq.d) (l:=[(⟨q1.l,x12⟩:RSeq)]) runUnderlying81 sizeOf80 zeroValue80 rfl rfl rfl (fun _=>⟨rfl,rfl,rfl⟩) rfl) ?_;refine zq4 ?_
     cases hm;exact Ae zr2
    ·refine zq2 ?_
     obtain ⟨x13,hx13,hm⟩:=bS hm;obtain ⟨x14,hx14,hm⟩:=bS hm;refine zdr 23 ?_;refine zq7 ?_;refine Aw rfl rfl rfl (zs1 D.i64) ?_;refine zcd (FM hx13) ?_;refine Aw rfl rfl rfl zb80b ?_;refine zq7 ?_;refine Aw rfl rfl rfl (zs1 D.i64) ?_;refine zcd (FM hx14) ?_;refine Aw rfl rfl rfl zb80b ?_;refine Aw rfl rfl rfl (Ax (xs:=[_,_]) (f:=RSeq.d) (l:=[(⟨q1.l,x13⟩:RSeq),(⟨q1.l,x14⟩:RSeq)]) runUnderlying81 sizeOf80 zeroValue80 rfl rfl rfl (fun _=>⟨rfl,rfl,rfl⟩) rfl) ?_;refine zq4 ?_
     cases hm;exact Ae zr2
   ·refine zq6 ?_
    obtain ⟨o_1,hj1,hm1⟩:=bS hm;refine Ak [(2,_),(3,_)] [] (fun (st:Unit) (hid:Unit)=>match st,hid with | _,_=>[]) (fun F (st:Unit) (hid:Unit)=>match st,hid with | _,_=>[]) (fun st=>Out.go (st)=o_1) ⟨rfl,rfl,trivial⟩ trivial ?_ ?_
    ·refine Aj ?_
     refine Ai [(2,_),(3,_)] [] (fun (st:Int) (hid:Unit)=>match st,hid with | i1,_=>[(10,.i64 i1)]) (fun F (st:Int) (hid:Unit)=>match st,hid with | i1,_=>[]) () hj1 (fun _=>rfl) ⟨rfl,rfl,trivial⟩ trivial ⟨rfl,trivial⟩ rfl ?_;rintro n i1 _ hj1;rw [C0] at hj1;refine Ar (L':=[(10,.i64 i1),(2,_),(3,_)]) (ms':=[]) rfl rfl ?_;refine zq9 ?_;refine zcn hj1 (fun hc6 hj1=>?_) (fun hc6 hj1=>?_)
     ·refine zq7 ?_
      obtain ⟨o_2,hj2,hm2⟩:=bS hj1;refine Ak [(2,_),(3,_),(10,_)] [] (fun (st:Unit) (hid:Unit)=>match st,hid with | _,_=>[]) (fun F (st:Unit) (hid:Unit)=>match st,hid with | _,_=>[]) (fun st=>Out.go (st)=o_2) ⟨rfl,rfl,rfl,trivial⟩ trivial ?_ ?_
      ·refine Aj ?_
       refine Ai [(2,_),(3,_),(10,_)] [] (fun (st:Int) (hid:Unit)=>match st,hid with | k1,_=>[(11,.i64 k1)]) (fun F (st:Int) (hid:Unit)=>match st,hid with | k1,_=>[]) () hj2 (fun _=>rfl) ⟨rfl,rfl,rfl,trivial⟩ trivial ⟨rfl,trivial⟩ rfl ?_;rintro n k1 _ hj2;rw [CV] at hj2;refine Ar (L':=[(11,.i64 k1),(2,_),(3,_),(10,_)]) (ms':=[]) rfl rfl ?_;refine zq9 ?_;refine zcn hj2 (fun hc7 hj2=>?_) (fun hc7 hj2=>?_)
       ·refine zq4 ?_
        obtain ⟨x15,hx15,hj2⟩:=bS hj2;obtain ⟨x16,hx16,hj2⟩:=bS hj2;obtain ⟨x17,hx17,hj2⟩:=bS hj2;obtain ⟨x18,hx18,hj2⟩:=bS hj2;refine F7 [] [20,21] [9,10,11,12,13,14,15,16,17] [18,19] [] AA (by decide +kernel) (by decide +kernel) rfl ?_;refine Bb rfl rfl rfl rfl rfl rfl (oFa DI rfl rfl rfl) ?_;refine Bb rfl rfl rfl rfl rfl rfl (Bg isAgg22 rfl rfl) ?_;refine Bb rfl rfl rfl rfl rfl rfl (oFa Nm rfl rfl rfl) ?_;refine Bb rfl rfl rfl rfl rfl rfl (Bg isAgg25 rfl rfl) ?_;refine Bb rfl rfl rfl rfl rfl rfl (oMv rfl) ?_;refine Bb rfl rfl rfl rfl rfl rfl (oIm runUnderlying25 sizeOf3 rfl rfl hx15) ?_;refine Bb rfl rfl rfl rfl rfl rfl (Bg isAgg3 rfl rfl) ?_;refine Bb rfl rfl rfl rfl rfl rfl (oIm runUnderlying22 sizeOf44 rfl rfl hx16) ?_;refine Bb rfl rfl rfl rfl rfl rfl (Bu isAgg44 sizeOf44 rfl rfl) ?_;refine Bb rfl rfl rfl rfl rfl rfl (oFa DI rfl rfl rfl) ?_;refine Bb rfl rfl rfl rfl rfl rfl (Bg isAgg22 rfl rfl) ?_;refine Bb rfl rfl rfl rfl rfl rfl (oFa NA rfl rfl rfl) ?_;refine Bb rfl rfl rfl rfl rfl rfl (Bg isAgg25 rfl rfl) ?_;refine Bb rfl rfl rfl rfl rfl rfl (oMv rfl) ?_;refine Bb rfl rfl rfl rfl rfl rfl (oIm runUnderlying25 sizeOf3 rfl rfl hx17) ?_;refine Bb rfl rfl rfl rfl rfl rfl (Bg isAgg3 rfl rfl) ?_;refine Bb rfl rfl rfl rfl rfl rfl (oIm runUnderlying22 sizeOf44 rfl rfl hx18) ?_;refine Bb rfl rfl rfl rfl rfl rfl (Bu isAgg44 sizeOf44 rfl rfl) ?_;refine D4 (R0:=fun d A=>∃ b,d = .v (.pointer (some ⟨b,0,none⟩))/\A=box b 44 [.i64 0,.i64 0,.i64 0,.list 2 AFd.d []]) rfl rfl rfl rfl (OpT.mono (Ay zeroValue44 (cs:=[.i64 0,.i64 0,.i64 0,.list 2 AFd.d []]) rfl) (by rintro d ms' ⟨b,rfl,rfl⟩;exact ⟨_,⟨b,rfl,rfl⟩,rfl⟩)) ?_;refine D4 (R0:=fun d A=>∃ b,d = .v (.pointer (some ⟨b,0,none⟩))/\A=box b 44 [.i64 0,.i64 0,.i64 0,.list 2 AFd.d []]) rfl rfl rfl rfl (OpT.mono (Ay zeroValue44 (cs:=[.i64 0,.i64 0,.i64 0,.list 2 AFd.d []]) rfl) (by rintro d ms' ⟨b,rfl,rfl⟩;exact ⟨_,⟨b,rfl,rfl⟩,rfl⟩)) ?_;refine Er rfl ?_;refine Er rfl ?_;refine Hy ?_;refine I0 [(18,12),(19,13)] rfl ?_;rintro _ _ ⟨b3,rfl,rfl⟩;rintro _ _ ⟨b4,rfl,rfl⟩
        show _/\_
        refine ⟨(trivial:True),?_⟩;refine Cv rfl rfl rfl (oSb 0 sizeOf44 rfl rfl rfl rfl rfl rfl rfl rfl (nB rfl)) ?_;rintro _ _ rfl;refine ⟨(trivial:True),?_⟩;refine Cv rfl rfl rfl (oSb 1 sizeOf44 rfl rfl rfl rfl rfl rfl rfl rfl (nB rfl)) ?_;rintro _ _ rfl;refine ⟨(trivial:True),?_⟩;refine BL ?_;refine zq6 ?_
        apply Bo [(2,_),(3,_),(10,_),(11,_),(12,_),(13,_)] 4 171 (t:=167) ⟨rfl,rfl,rfl,rfl,rfl,rfl,trivial⟩ rfl
        ·intro hg_2 hk2
         refine zq4 ?_;exact zgm hk2
        ·intro hg_2 hk2
         refine zq4 ?_;exact zgm hk2
        refine zq1 ?_
        apply Bo [(2,_),(3,_),(10,_),(11,_)] 6 178 (t:=172) ⟨rfl,rfl,rfl,rfl,trivial⟩ rfl
        ·intro hg_3 hk3
         refine zq6 ?_;exact zgm hk3
        ·intro hg_3 hk3
         refine zq6 ?_;exact zgm hk3
        refine gNl ?_;refine zcn hj2 (fun hc8 hj2=>?_) (fun hc8 hj2=>?_)
        ·refine zq3 ?_
         refine Al (nilE (i:=4) (sz:=2) (f:=RSeq.d) rfl).refines ?_;refine zq2 ?_;refine Ae ?_;obtain rfl:=Ac hj2
         replace hm2:=BJ hm2
         obtain rfl:=Ac hm2
         replace hm1:=BJ hm1
         cases hm1;exact zr2
        ·refine zq3 ?_
         obtain ⟨hg19,hj2⟩:=Aa hj2;refine zq3 ?_;exact ⟨_,(),hj2,⟨rfl,trivial⟩,⟨rfl,rfl,rfl,trivial⟩,[_,_],rfl⟩
       ·refine Ao ?_
        exact ⟨_,(),Ac hj2,trivial,⟨rfl,rfl,rfl,trivial⟩,[],rfl⟩
      ·rintro _ _ hst
       subst hst
       replace hm2:=Dh hm2
       refine An (L':=[(2,_),(3,_),(10,_)]) (ms':=[]) rfl rfl ?_;refine zq2 ?_;obtain ⟨hg20,hm2⟩:=Aa hm2;refine zq3 ?_;exact ⟨_,(),hm2,⟨rfl,trivial⟩,⟨rfl,rfl,trivial⟩,[],rfl⟩
     ·refine Ao ?_
      exact ⟨_,(),Ac hj1,trivial,⟨rfl,rfl,trivial⟩,[],rfl⟩
    ·rintro _ _ hst
     subst hst
     replace hm1:=Dh hm1
     refine An (L':=[(2,_),(3,_)]) (ms':=[]) rfl rfl ?_;refine zq2 ?_;refine Av rfl rfl rfl (Aq (xs:=[]) (f:=D.i64) (l:=[]) runUnderlying25 sizeOf3 zeroValue3 rfl rfl rfl (fun _=>⟨rfl,rfl,rfl⟩) rfl (by simp [maxLen])) ?_;rintro _ _ ⟨a_r1,rfl,rfl⟩;refine zq7 ?_;obtain ⟨o_3,hj3,hm3⟩:=bS hm1;refine Ak [(2,_),(3,_)] [] (fun (st:(List Int)) (hid:(Option Addr×Nat))=>match st,hid with | l1,(a_r1,cap_r1)=>[(14,.v (.slice a_r1 l1.length cap_r1))]) (fun F (st:(List Int)) (hid:(Option Addr×Nat))=>match st,hid with | l1,(a_r1,cap_r1)=>[row a_r1 cap_r1 3 1 D.i64 l1]) (fun st=>st=o_3) ⟨rfl,rfl,trivial⟩ trivial ?_ ?_
     ·refine Aj ?_
      refine Ai [(2,_),(3,_)] [] (fun (st:(Int×(List Int))) (hid:(Option Addr×Nat))=>match st,hid with | (i2,l2),(a_r1,cap_r1)=>[(14,.v (.slice a_r1 l2.length cap_r1)),(15,.i64 i2)]) (fun F (st:(Int×(List Int))) (hid:(Option Addr×Nat))=>match st,hid with | (i2,l2),(a_r1,cap_r1)=>[row a_r1 cap_r1 3 1 D.i64 l2]) (_,_) hj3 (fun _=>rfl) ⟨rfl,rfl,trivial⟩ trivial ⟨rfl,rfl,trivial⟩ rfl ?_;rintro n ⟨i2,l2⟩ ⟨a_r1,cap_r1⟩ hj3;rw [Br] at hj3;refine Ar (L':=[(14,.v (.slice a_r1 l2.length cap_r1)),(15,.i64 i2),(2,_),(3,_)]) (ms':=[row a_r1 cap_r1 3 1 D.i64 l2]) rfl rfl ?_;refine zq6 ?_;refine zcn hj3 (fun hc9 hj3=>?_) (fun hc9 hj3=>?_)
      ·refine zq9 ?_
       obtain ⟨x19,hx21,hj3⟩:=bS hj3;refine zc0 (J8 hx21) ?_;refine zq2 ?_;refine zcn hj3 (fun hc10 hj3=>?_) (fun hc10 hj3=>?_)
       ·refine zq3 ?_
        refine Af rfl rfl rfl (zs1 D.i64) ?_;obtain ⟨hg22,hj3⟩:=Aa hj3;refine zap 0 hg22 fun a_r1 cap_r1=>?_;refine Ag (ms':=[_]) rfl ?_;refine zq4 ?_;obtain ⟨hg23,hj3⟩:=Aa hj3;refine zq3 ?_;exact ⟨_,(_,_),hj3,⟨rfl,rfl,trivial⟩,⟨rfl,rfl,trivial⟩,[],rfl⟩
       ·refine zq3 ?_
        obtain ⟨hg24,hj3⟩:=Aa hj3;refine zq3 ?_;exact ⟨_,(_,_),hj3,⟨rfl,rfl,trivial⟩,⟨rfl,rfl,trivial⟩,[],rfl⟩
      ·refine Ao ?_
       exact ⟨_,(_,_),Ac hj3,⟨rfl,trivial⟩,⟨rfl,rfl,trivial⟩,[],rfl⟩
     ·rintro l1 ⟨a_r1,cap_r1⟩ hst
      subst hst;refine An (L':=[(14,.v (.slice a_r1 l1.length cap_r1)),(2,_),(3,_)]) (ms':=[row a_r1 cap_r1 3 1 D.i64 l1]) rfl rfl ?_;refine zq4 ?_;refine Af rfl rfl rfl (.view (peekE (i:=194) 0 rfl rfl rfl) (EF runUnderlying25 rfl)) ?_;refine zq2 ?_;refine zcn hm3 (fun hc11 hm3=>?_) (fun hc11 hm3=>?_)
      ·refine zq3 ?_
       refine Al (nilE (i:=4) (sz:=2) (f:=RSeq.d) rfl).refines ?_;refine zq2 ?_
       cases hm3;exact Ae zr2
      ·refine zq5 ?_
       refine Af rfl rfl rfl (.view (peekE (i:=197) 0 rfl rfl rfl) (EF runUnderlying25 rfl)) ?_;refine zq2 ?_;refine zcn hm3 (fun hc12 hm3=>?_) (fun hc12 hm3=>?_)
       ·refine zq3 ?_
        refine Al (nilE (i:=4) (sz:=2) (f:=RSeq.d) rfl).refines ?_;refine zq2 ?_
        cases hm3;exact Ae zr2
       ·refine zq2 ?_
        obtain ⟨x20,hx25,hm3⟩:=bS hm3;obtain ⟨x21,hx26,hm3⟩:=bS hm3;obtain ⟨x22,hx27,hm3⟩:=bS hm3;obtain ⟨x23,hx28,hm3⟩:=bS hm3;obtain ⟨x24,hx29,hm3⟩:=bS hm3;obtain ⟨⟨x25,x26⟩,hx30,hm3⟩:=bS hm3;refine zdr 23 ?_;refine zq2 ?_;refine Aw rfl rfl rfl (.view (peekE (i:=201) 0 rfl rfl rfl) (oIm runUnderlying25 sizeOf3 rfl rfl hx25)) ?_;refine zq5 ?_;refine Aw rfl rfl rfl (.view (peekE (i:=207) 0 rfl rfl rfl) (oIm runUnderlying25 sizeOf3 rfl rfl hx26)) ?_;refine zq1 ?_;refine zcd (P2 hx27) ?_;refine zq4 ?_;refine Aw rfl rfl rfl (.view (peekE (i:=214) 0 rfl rfl rfl) (oIm runUnderlying25 sizeOf3 rfl rfl hx28)) ?_;refine zq1 ?_;refine zcd (P2 hx29) ?_;refine zcd (Ph hx30) ?_;refine zq6 ?_
        cases hm3;exact Ae zr2
noncomputable def Ch (a1:(List Int)) (bv1:(List Int)):Nat->Int->Option (Out Bool Unit)
 | 0,_=>none
 | n+1,i1 =>
  bif (decide (i1<(a1.length:Int))) then
   (idx a1 i1).bind fun x1 =>
   (idx bv1 i1).bind fun x2 =>
   bif (!decide (x1=x2)) then
    some (Out.ret false)
   else
    grd (InR (i1+1)) <|
    Ch a1 bv1 n (i1+1)
  else
   some (Out.go (()))
noncomputable def DC (a1:(List Int)) (bv1:(List Int)):Option Bool:=
 bif (!decide ((a1.length:Int)=(bv1.length:Int))) then
  some false
 else
  ((Ch a1 bv1 FU 0:Option (Out Bool Unit))).bind (fun oo=>oo.on (fun r1=>some r1) (fun _ =>
  some true))
theorem IT {a1:(List Int)} {bv1:(List Int)} {r_1:Bool} (hm:DC a1 bv1=some r_1):Fn0 Tryz.prog 24 [.list 1 D.i64 a1,.list 1 D.i64 bv1] (.bool r_1):=by
 unfold DC at hm;refine Ad func24 rfl ntmps24 rfl fun H0 fr w0=>?_;refine zq13 ?_;refine zcn hm (fun hc1 hm=>?_) (fun hc1 hm=>?_)
 ·refine zq4 ?_
  cases hm;exact Ae zr1
 ·refine zq6 ?_
  obtain ⟨o_1,hj1,hm1⟩:=bS hm;refine Ak [] [] (fun (st:Unit) (hid:Unit)=>match st,hid with | _,_=>[]) (fun F (st:Unit) (hid:Unit)=>match st,hid with | _,_=>[]) (fun st=>Out.go (st)=o_1) trivial trivial ?_ ?_
  ·refine Aj ?_
   refine Ai [(0,_),(1,_)] [] (fun (st:Int) (hid:Unit)=>match st,hid with | i1,_=>[(5,.i64 i1)]) (fun F (st:Int) (hid:Unit)=>match st,hid with | i1,_=>[]) () hj1 (fun _=>rfl) ⟨rfl,rfl,trivial⟩ trivial ⟨rfl,trivial⟩ rfl ?_;rintro n i1 _ hj1;rw [Ch] at hj1;refine Ar (L':=[(5,.i64 i1),(0,_),(1,_)]) (ms':=[]) rfl rfl ?_;refine zq8 ?_;refine zcn hj1 (fun hc2 hj1=>?_) (fun hc2 hj1=>?_)
   ·refine zq4 ?_
    obtain ⟨x1,hx1,hj1⟩:=bS hj1;obtain ⟨x2,hx2,hj1⟩:=bS hj1;refine zdr 9 ?_;refine zq11 ?_;refine zcn hj1 (fun hc3 hj1=>?_) (fun hc3 hj1=>?_)
    ·refine zq4 ?_
     refine Ae ?_;obtain rfl:=Ac hj1
     replace hm1:=BJ hm1
     cases hm1;exact zr1
    ·refine zq3 ?_
     obtain ⟨hg3,hj1⟩:=Aa hj1;refine zq3 ?_;exact ⟨_,(),hj1,⟨rfl,trivial⟩,⟨rfl,rfl,trivial⟩,[],rfl⟩
   ·refine Ao ?_
    exact ⟨_,(),Ac hj1,trivial,trivial,[],rfl⟩
  ·rintro _ _ hst
   subst hst
   replace hm1:=Dh hm1
   refine An (L':=[]) (ms':=[]) rfl rfl ?_;refine zq4 ?_
   cases hm1;exact Ae zr1
noncomputable def GS (a1:RSeq) (bv1:RSeq):Option Bool:=
 (DC a1.l bv1.l).bind fun x1 =>
 (bif x1 then ((DC a1.r bv1.r).bind fun x2 =>
 some x2) else (some false)).bind fun p1 =>
 some p1
theorem QQ {a1:RSeq} {bv1:RSeq} {r_1:Bool} (hm:GS a1 bv1=some r_1):Fn0 Tryz.prog 63 [RSeq.d a1,RSeq.d bv1] (.bool r_1):=by
 unfold GS at hm;refine Ad func63 rfl ntmps63 rfl fun H0 fr w0=>?_;refine zq12 ?_;obtain ⟨x1,hx1,hm⟩:=bS hm;refine zc0 (IT hx1) ?_;refine zq1 ?_;obtain ⟨p1,hp_1,hm⟩:=bS hm;refine AL [] 6 16 p1 (t:=10) trivial rfl (fun hg_1 hk1=>?_) (fun hg_1 hk1=>?_) ?_
 ·replace hp_1:=AO hg_1 hp_1
  refine zq4 ?_;obtain ⟨x2,hx2,hp_1⟩:=bS hp_1;refine zcw (IT hx2) ?_;refine zq1 ?_;exact zgb hk1 hp_1
 ·replace hp_1:=AP hg_1 hp_1
  refine zq6 ?_;exact zgb hk1 hp_1
 refine zq2 ?_
 cases hm;exact Ae zr1
noncomputable def CQ (x4:(List RSeq)) (k1:Int) (l4:(List RSeq)):Nat->(Bool×Int)->Option Bool
 | 0,_=>none
 | n+1,(is2,j1) =>
  bif ((decide (j1<(l4.length:Int)))&&(!is2)) then
   (idx l4 j1).bind fun x6 =>
   (idx x4 k1).bind fun x7 =>
   (GS x6 x7).bind fun x8 =>
   grd (InR (j1+1)) <|
   CQ x4 k1 l4 n (x8,(j1+1))
  else
   some is2
noncomputable def Cc (x4:(List RSeq)):Nat->(Int×(List RSeq))->Option (List RSeq)
 | 0,_=>none
 | n+1,(k1,l4) =>
  bif (decide (k1<(x4.length:Int))) then
   (CQ x4 k1 l4 FU (false,0):Option Bool).bind fun is1 =>
   bif (!is1) then
    (idx x4 k1).bind fun x9 =>
    grd ((l4.length+([x9]:List _).length)*48<=140737488355328) <|
    grd (InR (k1+1)) <|
    Cc x4 n ((k1+1),(l4++[x9]))
   else
    grd (InR (k1+1)) <|
    Cc x4 n ((k1+1),l4)
  else
   some l4
noncomputable def DE (t1:ATy):Nat->(Int×(List RSeq))->Option (Out Bool (List RSeq))
 | 0,_=>none
 | n+1,(i1,l2) =>
  bif (decide (i1<(l2.length:Int))) then
   (idx l2 i1).bind fun x3 =>
   (Fc t1 x3).bind fun (x4,x5) =>
   bif (!x5) then
    some (Out.ret false)
   else
    (Cc x4 FU (0,l2):Option (List RSeq)).bind fun l3 =>
    grd (InR (i1+1)) <|
    DE t1 n ((i1+1),l3)
  else
   some (Out.go (l2))
noncomputable def FO (t1:ATy) (left1:(List Int)) (right1:(List Int)):Option Bool:=
 (Dv left1).bind fun x1 =>
 (Dv right1).bind fun x2 =>
 ((DE t1 FU (0,[(⟨x1,x2⟩:RSeq)]):Option (Out Bool (List RSeq)))).bind (fun oo=>oo.on (fun r1=>some r1) (fun l1 =>
 some true))
theorem Pl {t1:ATy} {left1:(List Int)} {right1:(List Int)} {r_1:Bool} (hm:FO t1 left1 right1=some r_1):Fn0 Tryz.prog 18 [ATy.d t1,.list 1 D.i64 left1,.list 1 D.i64 right1] (.bool r_1):=by
 unfold FO at hm;refine Ad func18 rfl ntmps18 rfl fun H0 fr w0=>?_;refine zq8 ?_;obtain ⟨x1,hx1,hm⟩:=bS hm;refine zc0 (Fu hx1) ?_;refine zq1 ?_;obtain ⟨x2,hx2,hm⟩:=bS hm;refine zc0 (Fu hx2) ?_;refine Af rfl rfl rfl zb80b ?_;refine Av rfl rfl rfl (Aq (xs:=[_]) (f:=RSeq.d) (l:=[(⟨x1,x2⟩:RSeq)]) runUnderlying81 sizeOf80 zeroValue80 rfl rfl rfl (fun _=>⟨rfl,rfl,rfl⟩) rfl (by simp [maxLen])) ?_;rintro _ _ ⟨a_r1,rfl,rfl⟩;refine zq7 ?_;obtain ⟨o_1,hj1,hm1⟩:=bS hm;refine Ak [] [] (fun (st:(List RSeq)) (hid:(Option Addr×Nat))=>match st,hid with | l1,(a_r1,cap_r1)=>[]) (fun F (st:(List RSeq)) (hid:(Option Addr×Nat))=>match st,hid with | l1,(a_r1,cap_r1)=>[row a_r1 cap_r1 80 2 RSeq.d l1]) (fun st=>Out.go (st)=o_1) trivial trivial ?_ ?_
 ·refine Aj ?_
  refine Ai [(3,_)] [] (fun (st:(Int×(List RSeq))) (hid:(Option Addr×Nat))=>match st,hid with | (i1,l2),(a_r1,cap_r1)=>[(7,.v (.slice a_r1 l2.length cap_r1)),(8,.i64 i1)]) (fun F (st:(Int×(List RSeq))) (hid:(Option Addr×Nat))=>match st,hid with | (i1,l2),(a_r1,cap_r1)=>[row a_r1 cap_r1 80 2 RSeq.d l2]) (_,_) hj1 (fun _=>rfl) ⟨rfl,trivial⟩ trivial ⟨rfl,rfl,trivial⟩ rfl ?_;rintro n ⟨i1,l2⟩ ⟨a_r1,cap_r1⟩ hj1;rw [DE] at hj1;refine Ar (L':=[(7,.v (.slice a_r1 l2.length cap_r1)),(8,.i64 i1),(3,_)]) (ms':=[row a_r1 cap_r1 80 2 RSeq.d l2]) rfl rfl ?_;refine zq5 ?_;refine Af rfl rfl rfl (.view (peekE (i:=21) 0 rfl rfl rfl) (EF runUnderlying81 rfl)) ?_;refine zq2 ?_;refine zcn hj1 (fun hc1 hj1=>?_) (fun hc1 hj1=>?_)
  ·refine zq4 ?_
   obtain ⟨x3,hx3,hj1⟩:=bS hj1;obtain ⟨⟨x4,x5⟩,hx4,hj1⟩:=bS hj1;refine zdr 11 ?_;refine zq3 ?_;refine Aw rfl rfl rfl (.view (peekE (i:=28) 0 rfl rfl rfl) (oIm runUnderlying81 sizeOf80 rfl rfl hx3)) ?_;refine zq1 ?_;refine zcd (Pq hx4) ?_;refine zq13 ?_;refine zcn hj1 (fun hc2 hj1=>?_) (fun hc2 hj1=>?_)
   ·refine zq4 ?_
    refine Ae ?_;obtain rfl:=Ac hj1
    replace hm1:=BJ hm1
    cases hm1;exact zr1
   ·refine zq5 ?_
    obtain ⟨o_2,hj2,hm2⟩:=bS hj1;refine Ak [(3,_),(8,_)] [] (fun (st:(List RSeq)) (hid:(Option Addr×Nat))=>match st,hid with | l3,(a_r1,cap_r1)=>[(7,.v (.slice a_r1 l3.length cap_r1))]) (fun F (st:(List RSeq)) (hid:(Option Addr×Nat))=>match st,hid with | l3,(a_r1,cap_r1)=>[row a_r1 cap_r1 80 2 RSeq.d l3]) (fun st=>st=o_2) ⟨rfl,rfl,trivial⟩ trivial ?_ ?_
    ·refine Aj ?_
     refine Ai [(3,_),(8,_),(9,_)] [] (fun (st:(Int×(List RSeq))) (hid:(Option Addr×Nat))=>match st,hid with | (k1,l4),(a_r1,cap_r1)=>[(7,.v (.slice a_r1 l4.length cap_r1)),(11,.i64 k1)]) (fun F (st:(Int×(List RSeq))) (hid:(Option Addr×Nat))=>match st,hid with | (k1,l4),(a_r1,cap_r1)=>[row a_r1 cap_r1 80 2 RSeq.d l4]) (_,_) hj2 (fun _=>rfl) ⟨rfl,rfl,rfl,trivial⟩ trivial ⟨rfl,rfl,trivial⟩ rfl ?_;rintro n ⟨k1,l4⟩ ⟨a_r1,cap_r1⟩ hj2;rw [Cc] at hj2;refine Ar (L':=[(7,.v (.slice a_r1 l4.length cap_r1)),(11,.i64 k1),(3,_),(8,_),(9,_)]) (ms':=[row a_r1 cap_r1 80 2 RSeq.d l4]) rfl rfl ?_;refine zq8 ?_;refine zcn hj2 (fun hc3 hj2=>?_) (fun hc3 hj2=>?_)
     ·refine zq12 ?_
      obtain ⟨o_3,hj3,hm3⟩:=bS hj2;refine Ak [(3,_),(7,_),(8,_),(9,_),(11,_)] [(0,_)] (fun (st:Bool) (hid:Unit)=>match st,hid with | is1,_=>[(12,.bool is1)]) (fun F (st:Bool) (hid:Unit)=>match st,hid with | is1,_=>[(nthF F 0)]) (fun st=>st=o_3) ⟨rfl,rfl,rfl,rfl,rfl,trivial⟩ ⟨rfl,trivial⟩ ?_ ?_
      ·refine Aj ?_
       refine Ai [(3,_),(7,_),(8,_),(9,_),(11,_)] [(0,_)] (fun (st:(Bool×Int)) (hid:Unit)=>match st,hid with | (is2,j1),_=>[(12,.bool is2),(13,.i64 j1)]) (fun F (st:(Bool×Int)) (hid:Unit)=>match st,hid with | (is2,j1),_=>[(nthF F 0)]) () hj3 (fun _=>rfl) ⟨rfl,rfl,rfl,rfl,rfl,trivial⟩ ⟨rfl,trivial⟩ ⟨rfl,rfl,trivial⟩ rfl ?_;rintro n ⟨is2,j1⟩ _ hj3;rw [CQ] at hj3;refine Ar (L':=[(12,.bool is2),(13,.i64 j1),(3,_),(7,_),(8,_),(9,_),(11,_)]) (ms':=[_]) rfl rfl ?_;refine zq5 ?_;refine Af rfl rfl rfl (.view (peekE (i:=44) 0 rfl rfl rfl) (EF runUnderlying81 rfl)) ?_;refine zq2 ?_
       apply Bo [(3,_),(7,_),(8,_),(9,_),(11,_),(12,_),(13,_)] 3 50 (t:=47) ⟨rfl,rfl,rfl,rfl,rfl,rfl,rfl,trivial⟩ rfl
       ·intro hg_1 hk1
        refine zq3 ?_;exact zgm hk1
       ·intro hg_1 hk1
        refine zq3 ?_;exact zgm hk1
       refine gNl ?_;refine zcn hj3 (fun hc4 hj3=>?_) (fun hc4 hj3=>?_)
       ·refine zq3 ?_
        obtain ⟨x6,hx5,hj3⟩:=bS hj3;obtain ⟨x7,hx6,hj3⟩:=bS hj3;obtain ⟨x8,hx7,hj3⟩:=bS hj3;refine zdr 10 ?_;refine zq2 ?_;refine Aw rfl rfl rfl (.view (peekE (i:=53) 0 rfl rfl rfl) (oIm runUnderlying81 sizeOf80 rfl rfl hx5)) ?_;refine zq3 ?_;refine Aw rfl rfl rfl (oIm runUnderlying81 sizeOf80 rfl rfl hx6) ?_;refine zq1 ?_;refine zcd (QQ hx7) ?_;refine zq5 ?_;obtain ⟨hg8,hj3⟩:=Aa hj3;refine zq3 ?_;exact ⟨_,(),hj3,⟨rfl,rfl,trivial⟩,⟨rfl,rfl,rfl,rfl,rfl,trivial⟩,[],rfl⟩
       ·refine Ao ?_
        exact ⟨_,(),Ac hj3,⟨rfl,trivial⟩,⟨rfl,rfl,rfl,rfl,rfl,trivial⟩,[],rfl⟩
      ·rintro is1 _ hst
       subst hst;refine An (L':=[(12,.bool is1),(3,_),(7,_),(8,_),(9,_),(11,_)]) (ms':=[_]) rfl rfl ?_;refine zq5 ?_;refine zcn hm3 (fun hc5 hm3=>?_) (fun hc5 hm3=>?_)
       ·refine zq4 ?_
        obtain ⟨x9,hx9,hm3⟩:=bS hm3;refine Af rfl rfl rfl (oIm runUnderlying81 sizeOf80 rfl rfl hx9) ?_;refine zq1 ?_;refine Af rfl rfl rfl (zs1 RSeq.d) ?_;obtain ⟨hg10,hm3⟩:=Aa hm3;refine zap 0 hg10 fun a_r1 cap_r1=>?_;refine Ag (ms':=[_]) rfl ?_;refine zq4 ?_;obtain ⟨hg11,hm3⟩:=Aa hm3;refine zq3 ?_;exact ⟨_,(_,_),hm3,⟨rfl,rfl,trivial⟩,⟨rfl,rfl,rfl,trivial⟩,[],rfl⟩
       ·refine zq3 ?_
        obtain ⟨hg12,hm3⟩:=Aa hm3;refine zq3 ?_;exact ⟨_,(_,_),hm3,⟨rfl,rfl,trivial⟩,⟨rfl,rfl,rfl,trivial⟩,[],rfl⟩
     ·refine Ao ?_
      exact ⟨_,(_,_),Ac hj2,⟨rfl,trivial⟩,⟨rfl,rfl,trivial⟩,[],rfl⟩
    ·rintro l3 ⟨a_r1,cap_r1⟩ hst
     subst hst;refine An (L':=[(7,.v (.slice a_r1 l3.length cap_r1)),(3,_),(8,_)]) (ms':=[row a_r1 cap_r1 80 2 RSeq.d l3]) rfl rfl ?_;refine zq2 ?_;obtain ⟨hg13,hm2⟩:=Aa hm2;refine zq3 ?_;exact ⟨_,(_,_),hm2,⟨rfl,rfl,trivial⟩,⟨rfl,trivial⟩,[],rfl⟩
  ·refine Ao ?_
   exact ⟨_,(_,_),Ac hj1,trivial,trivial,[],rfl⟩
 ·rintro l1 ⟨a_r1,cap_r1⟩ hst
  subst hst
  replace hm1:=Dh hm1
  refine An (L':=[]) (ms':=[row a_r1 cap_r1 80 2 RSeq.d l1]) rfl rfl ?_;refine zq4 ?_
  cases hm1;exact Ae zr1
noncomputable def Dx (a1:ATy) (bv1:ATy):Option (Bool×Int):=
 (Fk a1 bv1).bind fun x1 =>
 bif (!decide (x1=0)) then
  some (false,x1)
 else
  (CW a1 bv1).bind fun x2 =>
  (bif x2 then ((CW bv1 a1).bind fun x3 =>
  some x3) else (some false)).bind fun p1 =>
  some (p1,0)
theorem Mb {a1:ATy} {bv1:ATy} {r_1:Bool} {r_2:Int} (hm:Dx a1 bv1=some (r_1,r_2)):Fn0 Tryz.prog 27 [ATy.d a1,ATy.d bv1] (.tup [.bool r_1,.i64 r_2]):=by
 unfold Dx at hm;refine Ad func27 rfl ntmps27 rfl fun H0 fr w0=>?_;refine zq12 ?_;obtain ⟨x1,hx1,hm⟩:=bS hm;refine zc0 (NP hx1) ?_;refine zq7 ?_;refine zcn hm (fun hc1 hm=>?_) (fun hc1 hm=>?_)
 ·refine zq6 ?_
  cases hm;exact Ae zr2
 ·refine zq5 ?_
  obtain ⟨x2,hx2,hm⟩:=bS hm;refine zc0 (IU hx2) ?_;refine zq1 ?_;obtain ⟨p1,hp_1,hm⟩:=bS hm;refine AL [] 4 20 p1 (t:=16) trivial rfl (fun hg_1 hk1=>?_) (fun hg_1 hk1=>?_) ?_
  ·replace hp_1:=AO hg_1 hp_1
   refine zq2 ?_;obtain ⟨x3,hx3,hp_1⟩:=bS hp_1;refine zcw (IU hx3) ?_;refine zq1 ?_;exact zgb hk1 hp_1
  ·replace hp_1:=AP hg_1 hp_1
   refine zq4 ?_;exact zgb hk1 hp_1
  refine zq3 ?_
  cases hm;exact Ae zr2
noncomputable def CX (a1:ATy) (z6:(List AFd)):Nat->(Int×(List AFd))->Option (List AFd)
 | 0,_=>none
 | n+1,(k1,l4) =>
  bif (decide (k1<(z6.length:Int))) then
   (idx z6 k1).bind fun x2 =>
   (idx z6 k1).bind fun x3 =>
   grd (InR (x3.at_+(a1.l.length:Int))) <|
   grd ((l4.length+([(⟨x2.name,(x3.at_+(a1.l.length:Int))⟩:AFd)]:List _).length)*24<=140737488355328) <|
   grd (InR (k1+1)) <|
   CX a1 z6 n ((k1+1),(l4++[(⟨x2.name,(x3.at_+(a1.l.length:Int))⟩:AFd)]))
  else
   some l4
noncomputable def DF (a1:ATy) (bv1:ATy):Nat->(Int×Int×(List ANd))->Option (Int×(List ANd))
 | 0,_=>none
 | n+1,(i1,z2,l2) =>
  bif (decide (i1<(bv1.l.length:Int))) then
   (idx bv1.l i1).bind fun x1 =>
   (bif (((decide (x1.kind=6))||(decide (x1.kind=9)))||(decide (x1.kind=10))) then
    grd (InR (x1.a+(a1.l.length:Int))) <|
    grd (InR (x1.b+(a1.l.length:Int))) <|
    some (x1.kind,(x1.a+(a1.l.length:Int)),(x1.b+(a1.l.length:Int)),x1.l)
   else
    some (x1.kind,x1.a,x1.b,x1.l):Option (Int×Int×Int×(List AFd))).bind fun (z3,z4,z5,z6) =>
   (CX a1 z6 FU (0,[]):Option (List AFd)).bind fun l3 =>
   grd ((l2.length+([(⟨z3,z4,z5,l3⟩:ANd)]:List _).length)*48<=140737488355328) <|
   grd (InR (i1+1)) <|
   DF a1 bv1 n ((i1+1),z2,(l2++[(⟨z3,z4,z5,l3⟩:ANd)]))
  else
   some (z2,l2)
noncomputable def F4 (a1:ATy) (bv1:ATy):Option (ATy×Int):=
 grd ((0+a1.l.length)*48<=140737488355328) <|
 (DF a1 bv1 FU (0,a1.root,([]++a1.l)):Option (Int×(List ANd))).bind fun (z1,l1) =>
 some ((⟨l1,z1⟩:ATy),(a1.l.length:Int))
theorem OX {a1:ATy} {bv1:ATy} {r_1:ATy} {r_2:Int} (hm:F4 a1 bv1=some (r_1,r_2)):Fn0 Tryz.prog 67 [ATy.d a1,ATy.d bv1] (.tup [ATy.d r_1,.i64 r_2]):=by
 unfold F4 at hm;refine Ad func67 rfl ntmps67 rfl fun H0 fr w0=>?_;refine zq4 ?_;refine BI fun b1=>?_;refine zq3 ?_;obtain ⟨hg1,hm⟩:=Aa hm;refine F7 [0,3,6] [8] [1,2,4,5] [7] [] AA (by decide +kernel) (by decide +kernel) rfl ?_;refine Er rfl ?_;refine Bb rfl rfl rfl rfl rfl rfl (oFa DI rfl rfl rfl) ?_;refine Bb rfl rfl rfl rfl rfl rfl (Bg isAgg22 rfl rfl) ?_;refine Er rfl ?_;refine Bb rfl rfl rfl rfl rfl rfl (oFa IE rfl rfl rfl) ?_;refine Bb rfl rfl rfl rfl rfl rfl (Bg isAgg3 rfl rfl) ?_;refine Er rfl ?_;refine D4 (R0:=fun d A=>∃ b,d = .v (.pointer (some ⟨b,0,none⟩))/\A=box b 24 [.list 4 ANd.d [],.i64 0]) rfl rfl rfl rfl (OpT.mono (Ay zeroValue24 (cs:=[.list 4 ANd.d [],.i64 0]) rfl) (by rintro d ms' ⟨b,rfl,rfl⟩;exact ⟨_,⟨b,rfl,rfl⟩,rfl⟩)) ?_;refine Er rfl ?_;refine Hy ?_;refine KC rfl rfl rfl rfl (Aq (xs:=[]) (f:=ANd.d) (l:=[]) runUnderlying22 sizeOf44 zeroValue44 rfl rfl rfl (fun _=>⟨rfl,rfl,rfl⟩) rfl (by simp [maxLen])) ?_;rintro _ _ ⟨a_r1,rfl,rfl⟩;refine ⟨(trivial:True),?_⟩;refine KC rfl rfl rfl rfl (Bw (a:=_) 0 underlying22 type44 rfl rfl rfl rfl rfl rfl rfl (fun _=>rfl) (fun _=>rfl) hg1 (A2 hg1 rfl)) ?_;rintro _ _ ⟨a_r1,cap_r1,rfl,rfl⟩;refine ⟨(trivial:True),?_⟩;refine KC rfl rfl rfl rfl zb24b ?_;rintro _ _ ⟨rfl,rfl⟩;refine ⟨(trivial:True),?_⟩;refine I0 [(7,6)] rfl ?_;rintro _ _ ⟨b3,rfl,rfl⟩
 show _/\_
 refine ⟨(trivial:True),?_⟩;refine Cv rfl rfl rfl (oSb 0 sizeOf24 rfl rfl rfl rfl rfl rfl rfl rfl (nB rfl)) ?_;rintro _ _ rfl;refine ⟨(trivial:True),?_⟩;refine BL ?_;refine zq12 ?_;obtain ⟨o_1,hj1,hm1⟩:=bS hm;refine Ak [(4,_),(6,_),(7,_)] [(2,_)] (fun (st:(Int×(List ANd))) (hid:(Option Addr×Nat))=>match st,hid with | (z1,l1),(a_r1,cap_r1)=>[]) (fun F (st:(Int×(List ANd))) (hid:(Option Addr×Nat))=>match st,hid with | (z1,l1),(a_r1,cap_r1)=>[box b3 24 [.v (.slice a_r1 l1.length cap_r1),.i64 z1],row a_r1 cap_r1 44 4 ANd.d l1,(nthF F 0)]) (fun st=>st=o_1) ⟨rfl,rfl,rfl,trivial⟩ ⟨rfl,trivial⟩ ?_ ?_
 ·refine Aj ?_
  refine Ai [(3,_),(4,_),(6,_),(7,_)] [(2,_)] (fun (st:(Int×Int×(List ANd))) (hid:(Option Addr×Nat))=>match st,hid with | (i1,z2,l2),(a_r1,cap_r1)=>[(8,.i64 i1)]) (fun F (st:(Int×Int×(List ANd))) (hid:(Option Addr×Nat))=>match st,hid with | (i1,z2,l2),(a_r1,cap_r1)=>[box b3 24 [.v (.slice a_r1 l2.length cap_r1),.i64 z2],row a_r1 cap_r1 44 4 ANd.d l2,(nthF F 0)]) (_,_) hj1 (fun _=>rfl) ⟨rfl,rfl,rfl,rfl,trivial⟩ ⟨rfl,trivial⟩ ⟨rfl,trivial⟩ rfl ?_;rintro n ⟨i1,z2,l2⟩ ⟨a_r1,cap_r1⟩ hj1;rw [DF] at hj1;refine Ar (L':=[(8,.i64 i1),(3,_),(4,_),(6,_),(7,_)]) (ms':=[box b3 24 [.v (.slice a_r1 l2.length cap_r1),.i64 z2],row a_r1 cap_r1 44 4 ANd.d l2,_]) rfl rfl ?_;refine zq9 ?_;refine zcn hj1 (fun hc1 hj1=>?_) (fun hc1 hj1=>?_)
  ·refine zq8 ?_
   obtain ⟨x1,hx2,hj1⟩:=bS hj1;refine Af rfl rfl rfl (oIm runUnderlying22 sizeOf44 rfl rfl hx2) ?_;refine zq1 ?_;refine Dq fun b4=>?_;refine zst 0 ?_;refine Ag (ms':=[box b4 44 [_,_,_,_],box b3 24 [_,_],_,box b1 24 [_,_]]) rfl ?_;refine zq8 ?_
   apply Bt [(3,_),(4,_),(6,_),(7,_),(8,_),(9,_)] 4 41 (t:=37) ⟨rfl,rfl,rfl,rfl,rfl,rfl,trivial⟩ rfl
   ·intro hg_1 hk1
    refine zq4 ?_;exact zgm hk1
   ·intro hg_1 hk1
    refine zq4 ?_;exact zgm hk1
   refine zq1 ?_
   apply Bt [(3,_),(4,_),(6,_),(7,_),(8,_),(9,_)] 4 46 (t:=42) ⟨rfl,rfl,rfl,rfl,rfl,rfl,trivial⟩ rfl
   ·intro hg_2 hk2
    refine zq4 ?_;exact zgm hk2
   ·intro hg_2 hk2
    refine zq4 ?_;exact zgm hk2
   refine gNl ?_;obtain ⟨o_2,hj2,hm2⟩:=bS hj1;refine Ak [(3,_),(4,_),(6,_),(7,_),(8,_),(9,_)] [(1,_),(2,_),(3,_)] (fun (st:(Int×Int×Int×(List AFd))) (hid:Unit)=>match st,hid with | (z3,z4,z5,z6),_=>[]) (fun F (st:(Int×Int×Int×(List AFd))) (hid:Unit)=>match st,hid with | (z3,z4,z5,z6),_=>[box b4 44 [.i64 z3,.i64 z4,.i64 z5,.list 2 AFd.d z6],(nthF F 0),(nthF F 1),(nthF F 2)]) (fun st=>st=o_2) ⟨rfl,rfl,rfl,rfl,rfl,rfl,trivial⟩ ⟨rfl,rfl,rfl,trivial⟩ ?_ ?_
   ·refine zcn hj2 (fun hc2 hj2=>?_) (fun hc2 hj2=>?_)
    ·refine zq4 ?_
     obtain ⟨hg3,hj2⟩:=Aa hj2;refine zq4 ?_;obtain ⟨hg4,hj2⟩:=Aa hj2;refine zq2 ?_;refine zst 0 ?_;refine Ag (ms':=[box b4 44 [_,_,_,_],box b3 24 [_,_],_,box b1 24 [_,_]]) rfl ?_;refine zq1 ?_;refine zst 0 ?_;refine Ag (ms':=[box b4 44 [_,_,_,_],box b3 24 [_,_],_,box b1 24 [_,_]]) rfl ?_;refine gNl ?_;exact ⟨_,(),Ac hj2,trivial,⟨rfl,rfl,rfl,rfl,rfl,rfl,trivial⟩,[],rfl⟩
    ·refine gSp ?_
     exact ⟨_,(),Ac hj2,trivial,⟨rfl,rfl,rfl,rfl,rfl,rfl,trivial⟩,[],rfl⟩
   ·rintro ⟨z3,z4,z5,z6⟩ _ hst
    subst hst;refine An (L':=[(3,_),(4,_),(6,_),(7,_),(8,_),(9,_)]) (ms':=[box b4 44 [.i64 z3,.i64 z4,.i64 z5,.list 2 AFd.d z6],_,_,_]) rfl rfl ?_;refine zq2 ?_;refine Av rfl rfl rfl (Aq (xs:=[]) (f:=AFd.d) (l:=[]) runUnderlying42 sizeOf98 zeroValue98 rfl rfl rfl (fun _=>⟨rfl,rfl,rfl⟩) rfl (by simp [maxLen])) ?_;rintro _ _ ⟨a_r2,rfl,rfl⟩;refine zq7 ?_;obtain ⟨o_3,hj3,hm3⟩:=bS hm2;refine Ak [(3,_),(4,_),(6,_),(7,_),(8,_),(9,_)] [(1,_),(2,_),(3,_),(4,_)] (fun (st:(List AFd)) (hid:(Option Addr×Nat))=>match st,hid with | l3,(a_r2,cap_r2)=>[(10,.v (.slice a_r2 l3.length cap_r2))]) (fun F (st:(List AFd)) (hid:(Option Addr×Nat))=>match st,hid with | l3,(a_r2,cap_r2)=>[row a_r2 cap_r2 98 2 AFd.d l3,(nthF F 0),(nthF F 1),(nthF F 2),(nthF F 3)]) (fun st=>st=o_3) ⟨rfl,rfl,rfl,rfl,rfl,rfl,trivial⟩ ⟨rfl,rfl,rfl,rfl,trivial⟩ ?_ ?_
    ·refine Aj ?_
     refine Ai [(3,_),(4,_),(6,_),(7,_),(8,_),(9,_)] [(1,_),(2,_),(3,_),(4,_)] (fun (st:(Int×(List AFd))) (hid:(Option Addr×Nat))=>match st,hid with | (k1,l4),(a_r2,cap_r2)=>[(10,.v (.slice a_r2 l4.length cap_r2)),(11,.i64 k1)]) (fun F (st:(Int×(List AFd))) (hid:(Option Addr×Nat))=>match st,hid with | (k1,l4),(a_r2,cap_r2)=>[row a_r2 cap_r2 98 2 AFd.d l4,(nthF F 0),(nthF F 1),(nthF F 2),(nthF F 3)]) (_,_) hj3 (fun _=>rfl) ⟨rfl,rfl,rfl,rfl,rfl,rfl,trivial⟩ ⟨rfl,rfl,rfl,rfl,trivial⟩ ⟨rfl,rfl,trivial⟩ rfl ?_;rintro n ⟨k1,l4⟩ ⟨a_r2,cap_r2⟩ hj3;rw [CX] at hj3;refine Ar (L':=[(10,.v (.slice a_r2 l4.length cap_r2)),(11,.i64 k1),(3,_),(4,_),(6,_),(7,_),(8,_),(9,_)]) (ms':=[row a_r2 cap_r2 98 2 AFd.d l4,_,_,_,_]) rfl rfl ?_;refine zq9 ?_;refine zcn hj3 (fun hc3 hj3=>?_) (fun hc3 hj3=>?_)
     ·refine zq3 ?_
      obtain ⟨x2,hx5,hj3⟩:=bS hj3;obtain ⟨x3,hx6,hj3⟩:=bS hj3;obtain ⟨hg7,hj3⟩:=Aa hj3;refine zdr 17 ?_;refine zq4 ?_;refine Aw rfl rfl rfl (oIm runUnderlying42 sizeOf98 rfl rfl hx5) ?_;refine zq5 ?_;refine Aw rfl rfl rfl (oIm runUnderlying42 sizeOf98 rfl rfl hx6) ?_;refine zq4 ?_;refine Aw rfl rfl rfl zb98a ?_;refine Aw rfl rfl rfl (Ax (xs:=[_]) (f:=AFd.d) (l:=[(⟨x2.name,(x3.at_+(a1.l.length:Int))⟩:AFd)]) runUnderlying42 sizeOf98 zeroValue98 rfl rfl rfl (fun _=>⟨rfl,rfl,rfl⟩) rfl) ?_;refine Cu ?_;obtain ⟨hg8,hj3⟩:=Aa hj3;refine zap 0 hg8 fun a_r2 cap_r2=>?_;refine Ag (ms':=[_,box b4 44 [_,_,_,_],box b3 24 [_,_],_,box b1 24 [_,_]]) rfl ?_;refine zq4 ?_;obtain ⟨hg9,hj3⟩:=Aa hj3;refine zq3 ?_;exact ⟨_,(_,_),hj3,⟨rfl,rfl,trivial⟩,⟨rfl,rfl,rfl,rfl,rfl,rfl,trivial⟩,[],rfl⟩
     ·refine Ao ?_
      exact ⟨_,(_,_),Ac hj3,⟨rfl,trivial⟩,⟨rfl,rfl,rfl,rfl,rfl,rfl,trivial⟩,[],rfl⟩
    ·rintro l3 ⟨a_r2,cap_r2⟩ hst
     subst hst;refine An (L':=[(10,.v (.slice a_r2 l3.length cap_r2)),(3,_),(4,_),(6,_),(7,_),(8,_),(9,_)]) (ms':=[row a_r2 cap_r2 98 2 AFd.d l3,_,_,_,_]) rfl rfl ?_;refine zq4 ?_;refine zst 1 ?_;refine Ag (ms':=[_,box b4 44 [_,_,_,_],box b3 24 [_,_],_,box b1 24 [_,_]]) rfl ?_;refine zq5 ?_;refine Al (Cl (i:=87) (q:=3) 0 rfl rfl rfl rfl rfl).refines ?_;refine Af rfl rfl rfl (Ax (xs:=[_]) (f:=ANd.d) (l:=[(⟨z3,z4,z5,l3⟩:ANd)]) runUnderlying22 sizeOf44 zeroValue44 rfl rfl rfl (fun _=>⟨rfl,rfl,rfl⟩) rfl) ?_;obtain ⟨hg10,hm3⟩:=Aa hm3;refine zap 3 hg10 fun a_r1 cap_r1=>?_;refine Ag (ms':=[_,box b4 44 [_,_,_,_],box b3 24 [_,_],_,box b1 24 [_,_]]) rfl ?_;refine zq1 ?_;refine zst 2 ?_;refine Ag (ms':=[_,box b4 44 [_,_,_,_],box b3 24 [_,_],_,box b1 24 [_,_]]) rfl ?_;refine zq3 ?_;obtain ⟨hg11,hm3⟩:=Aa hm3;refine zq3 ?_;exact ⟨_,(_,_),hm3,⟨rfl,trivial⟩,⟨rfl,rfl,rfl,rfl,trivial⟩,[_,_],rfl⟩
  ·refine Ao ?_
   exact ⟨_,(_,_),Ac hj1,trivial,⟨rfl,rfl,rfl,trivial⟩,[],rfl⟩
 ·rintro ⟨z1,l1⟩ ⟨a_r1,cap_r1⟩ hst
  subst hst;refine An (L':=[(4,_),(6,_),(7,_)]) (ms':=[box b3 24 [.v (.slice a_r1 l1.length cap_r1),.i64 z1],row a_r1 cap_r1 44 4 ANd.d l1,_]) rfl rfl ?_;refine zq3 ?_;refine Al (Cl (i:=91) (q:=0) 1 rfl rfl rfl rfl rfl).refines ?_;refine zq1 ?_;refine zst 2 ?_;refine Ag (ms':=[box b3 24 [_,_],_,box b1 24 [_,_]]) rfl ?_;refine zq2 ?_
  cases hm1;exact Ae zr2
noncomputable def BD (a1:ATy) (z6:(List AFd)):Nat->(Int×(List AFd))->Option (List AFd)
 | 0,_=>none
 | n+1,(k1,l4) =>
  bif (decide (k1<(z6.length:Int))) then
   (idx z6 k1).bind fun x2 =>
   (idx z6 k1).bind fun x3 =>
   grd (InR (x3.at_+(a1.l.length:Int))) <|
   grd ((l4.length+([(⟨x2.name,(x3.at_+(a1.l.length:Int))⟩:AFd)]:List _).length)*24<=140737488355328) <|
   grd (InR (k1+1)) <|
   BD a1 z6 n ((k1+1),(l4++[(⟨x2.name,(x3.at_+(a1.l.length:Int))⟩:AFd)]))
  else
   some l4
noncomputable def B1 (a1:ATy) (bv1:ATy):Nat->(Int×Int×(List ANd))->Option (Int×(List ANd))
 | 0,_=>none
 | n+1,(i1,z2,l2) =>
  bif (decide (i1<(bv1.l.length:Int))) then
   (idx bv1.l i1).bind fun x1 =>
   (bif (((decide (x1.kind=6))||(decide (x1.kind=9)))||(decide (x1.kind=10))) then
    grd (InR (x1.a+(a1.l.length:Int))) <|
    grd (InR (x1.b+(a1.l.length:Int))) <|
    some (x1.kind,(x1.a+(a1.l.length:Int)),(x1.b+(a1.l.length:Int)),x1.l)
   else
    some (x1.kind,x1.a,x1.b,x1.l):Option (Int×Int×Int×(List AFd))).bind fun (z3,z4,z5,z6) =>
   (BD a1 z6 FU (0,[]):Option (List AFd)).bind fun l3 =>
   grd ((l2.length+([(⟨z3,z4,z5,l3⟩:ANd)]:List _).length)*48<=140737488355328) <|
   grd (InR (i1+1)) <|
   B1 a1 bv1 n ((i1+1),z2,(l2++[(⟨z3,z4,z5,l3⟩:ANd)]))
  else
   some (z2,l2)
noncomputable def DV (a1:ATy) (bv1:ATy)  : Option (Int×ATy):=
 grd ((0+a1.l.length)*48<=140737488355328) <|
 (B1 a1 bv1 FU (0,a1.root,([]++a1.l)):Option (Int×(List ANd))).bind fun (z1,l1) =>
 some ((a1.l.length:Int),(⟨l1,z1⟩:ATy))
theorem FX {a1:ATy} {bv1:ATy}  {r_2:Int} {s_1:ATy} (hm:DV a1 bv1=some (r_2,s_1)):Go.V.Fn Tryz.prog 67 [ATy.d a1,ATy.d bv1] [] (fun d ms'=>∃ a_s_1c0 m_s_1c0 cap_s_1c0,d = .tup [.agg [.v (.slice a_s_1c0 m_s_1c0 cap_s_1c0),.i64 s_1.root],.i64 r_2]/\ms'=[arr a_s_1c0 m_s_1c0 cap_s_1c0 44 4 ANd.d s_1.l]):=by
 unfold DV at hm;refine Ad func67 rfl ntmps67 rfl fun H0 fr w0=>?_;refine zq4 ?_;refine BI fun b1=>?_;refine zq3 ?_;obtain ⟨hg1,hm⟩:=Aa hm;refine F7 [0,3,6] [8] [1,2,4,5] [7] [] AA (by decide +kernel) (by decide +kernel) rfl ?_;refine Er rfl ?_;refine Bb rfl rfl rfl rfl rfl rfl (oFa DI rfl rfl rfl) ?_;refine Bb rfl rfl rfl rfl rfl rfl (Bg isAgg22 rfl rfl) ?_;refine Er rfl ?_;refine Bb rfl rfl rfl rfl rfl rfl (oFa IE rfl rfl rfl) ?_;refine Bb rfl rfl rfl rfl rfl rfl (Bg isAgg3 rfl rfl) ?_;refine Er rfl ?_;refine D4 (R0:=fun d A=>∃ b,d = .v (.pointer (some ⟨b,0,none⟩))/\A=box b 24 [.list 4 ANd.d [],.i64 0]) rfl rfl rfl rfl (OpT.mono (Ay zeroValue24 (cs:=[.list 4 ANd.d [],.i64 0]) rfl) (by rintro d ms' ⟨b,rfl,rfl⟩;exact ⟨_,⟨b,rfl,rfl⟩,rfl⟩)) ?_;refine Er rfl ?_;refine Hy ?_;refine KC rfl rfl rfl rfl (E8 (xs:=[]) (f:=ANd.d) (l:=[]) runUnderlying22 sizeOf44 zeroValue44 rfl rfl rfl (fun _=>⟨rfl,rfl,rfl⟩) rfl (by simp [maxLen])) ?_;rintro _ _ ⟨a_r1,m_r1,cap_r1,rfl,rfl⟩;refine ⟨(trivial:True),?_⟩;refine KC rfl rfl rfl rfl (Ca (a:=_) 0 underlying22 type44 rfl rfl rfl rfl rfl rfl (fun _=>rfl) (fun _=>rfl) hg1 (A2 hg1 rfl)) ?_;rintro _ _ ⟨a_r1,m_r1,cap_r1,rfl,rfl⟩;refine ⟨(trivial:True),?_⟩;refine KC rfl rfl rfl rfl zb24b ?_;rintro _ _ ⟨rfl,rfl⟩;refine ⟨(trivial:True),?_⟩;refine I0 [(7,6)] rfl ?_;rintro _ _ ⟨b2,rfl,rfl⟩
 show _/\_
 refine ⟨(trivial:True),?_⟩;refine Cv rfl rfl rfl (oSb 0 sizeOf24 rfl rfl rfl rfl rfl rfl rfl rfl (nB rfl)) ?_;rintro _ _ rfl;refine ⟨(trivial:True),?_⟩;refine BL ?_;refine zq12 ?_;obtain ⟨o_1,hj1,hm1⟩:=bS hm;refine Ak [(4,_),(6,_),(7,_)] [(2,_)] (fun (st:(Int×(List ANd))) (hid:(Option Addr×Nat×Nat))=>match st,hid with | (z1,l1),(a_r1,m_r1,cap_r1)=>[]) (fun F (st:(Int×(List ANd))) (hid:(Option Addr×Nat×Nat))=>match st,hid with | (z1,l1),(a_r1,m_r1,cap_r1)=>[box b2 24 [.v (.slice a_r1 m_r1 cap_r1),.i64 z1],arr a_r1 m_r1 cap_r1 44 4 ANd.d l1,(nthF F 0)]) (fun st=>st=o_1) ⟨rfl,rfl,rfl,trivial⟩ ⟨rfl,trivial⟩ ?_ ?_
 ·refine Aj ?_
  refine Ai [(3,_),(4,_),(6,_),(7,_)] [(2,_)] (fun (st:(Int×Int×(List ANd))) (hid:(Option Addr×Nat×Nat))=>match st,hid with | (i1,z2,l2),(a_r1,m_r1,cap_r1)=>[(8,.i64 i1)]) (fun F (st:(Int×Int×(List ANd))) (hid:(Option Addr×Nat×Nat))=>match st,hid with | (i1,z2,l2),(a_r1,m_r1,cap_r1)=>[box b2 24 [.v (.slice a_r1 m_r1 cap_r1),.i64 z2],arr a_r1 m_r1 cap_r1 44 4 ANd.d l2,(nthF F 0)]) (_,_,_) hj1 (fun _=>rfl) ⟨rfl,rfl,rfl,rfl,trivial⟩ ⟨rfl,trivial⟩ ⟨rfl,trivial⟩ rfl ?_;rintro n ⟨i1,z2,l2⟩ ⟨a_r1,m_r1,cap_r1⟩ hj1;rw [B1] at hj1;refine Ar (L':=[(8,.i64 i1),(3,_),(4,_),(6,_),(7,_)]) (ms':=[box b2 24 [.v (.slice a_r1 m_r1 cap_r1),.i64 z2],arr a_r1 m_r1 cap_r1 44 4 ANd.d l2,_]) rfl rfl ?_;refine zq9 ?_;refine zcn hj1 (fun hc1 hj1=>?_) (fun hc1 hj1=>?_)
  ·refine zq8 ?_
   obtain ⟨x1,hx2,hj1⟩:=bS hj1;refine Af rfl rfl rfl (oIm runUnderlying22 sizeOf44 rfl rfl hx2) ?_;refine zq1 ?_;refine Dq fun b3=>?_;refine zst 0 ?_;refine Ag (ms':=[box b3 44 [_,_,_,_],box b2 24 [_,_],_,box b1 24 [_,_]]) rfl ?_;refine zq8 ?_
   apply Bt [(3,_),(4,_),(6,_),(7,_),(8,_),(9,_)] 4 41 (t:=37) ⟨rfl,rfl,rfl,rfl,rfl,rfl,trivial⟩ rfl
   ·intro hg_1 hk1
    refine zq4 ?_;exact zgm hk1
   ·intro hg_1 hk1
    refine zq4 ?_;exact zgm hk1
   refine zq1 ?_
   apply Bt [(3,_),(4,_),(6,_),(7,_),(8,_),(9,_)] 4 46 (t:=42) ⟨rfl,rfl,rfl,rfl,rfl,rfl,trivial⟩ rfl
   ·intro hg_2 hk2
    refine zq4 ?_;exact zgm hk2
   ·intro hg_2 hk2
    refine zq4 ?_;exact zgm hk2
   refine gNl ?_;obtain ⟨o_2,hj2,hm2⟩:=bS hj1;refine Ak [(3,_),(4,_),(6,_),(7,_),(8,_),(9,_)] [(1,_),(2,_),(3,_)] (fun (st:(Int×Int×Int×(List AFd))) (hid:Unit)=>match st,hid with | (z3,z4,z5,z6),_=>[]) (fun F (st:(Int×Int×Int×(List AFd))) (hid:Unit)=>match st,hid with | (z3,z4,z5,z6),_=>[box b3 44 [.i64 z3,.i64 z4,.i64 z5,.list 2 AFd.d z6],(nthF F 0),(nthF F 1),(nthF F 2)]) (fun st=>st=o_2) ⟨rfl,rfl,rfl,rfl,rfl,rfl,trivial⟩ ⟨rfl,rfl,rfl,trivial⟩ ?_ ?_
   ·refine zcn hj2 (fun hc2 hj2=>?_) (fun hc2 hj2=>?_)
    ·refine zq4 ?_
     obtain ⟨hg3,hj2⟩:=Aa hj2;refine zq4 ?_;obtain ⟨hg4,hj2⟩:=Aa hj2;refine zq2 ?_;refine zst 0 ?_;refine Ag (ms':=[box b3 44 [_,_,_,_],box b2 24 [_,_],_,box b1 24 [_,_]]) rfl ?_;refine zq1 ?_;refine zst 0 ?_;refine Ag (ms':=[box b3 44 [_,_,_,_],box b2 24 [_,_],_,box b1 24 [_,_]]) rfl ?_;refine gNl ?_;exact ⟨_,(),Ac hj2,trivial,⟨rfl,rfl,rfl,rfl,rfl,rfl,trivial⟩,[],rfl⟩
    ·refine gSp ?_
     exact ⟨_,(),Ac hj2,trivial,⟨rfl,rfl,rfl,rfl,rfl,rfl,trivial⟩,[],rfl⟩
   ·rintro ⟨z3,z4,z5,z6⟩ _ hst
    subst hst;refine An (L':=[(3,_),(4,_),(6,_),(7,_),(8,_),(9,_)]) (ms':=[box b3 44 [.i64 z3,.i64 z4,.i64 z5,.list 2 AFd.d z6],_,_,_]) rfl rfl ?_;refine zq2 ?_;refine Av rfl rfl rfl (Aq (xs:=[]) (f:=AFd.d) (l:=[]) runUnderlying42 sizeOf98 zeroValue98 rfl rfl rfl (fun _=>⟨rfl,rfl,rfl⟩) rfl (by simp [maxLen])) ?_;rintro _ _ ⟨a_r2,rfl,rfl⟩;refine zq7 ?_;obtain ⟨o_3,hj3,hm3⟩:=bS hm2;refine Ak [(3,_),(4,_),(6,_),(7,_),(8,_),(9,_)] [(1,_),(2,_),(3,_),(4,_)] (fun (st:(List AFd)) (hid:(Option Addr×Nat))=>match st,hid with | l3,(a_r2,cap_r2)=>[(10,.v (.slice a_r2 l3.length cap_r2))]) (fun F (st:(List AFd)) (hid:(Option Addr×Nat))=>match st,hid with | l3,(a_r2,cap_r2)=>[row a_r2 cap_r2 98 2 AFd.d l3,(nthF F 0),(nthF F 1),(nthF F 2),(nthF F 3)]) (fun st=>st=o_3) ⟨rfl,rfl,rfl,rfl,rfl,rfl,trivial⟩ ⟨rfl,rfl,rfl,rfl,trivial⟩ ?_ ?_
    ·refine Aj ?_
     refine Ai [(3,_),(4,_),(6,_),(7,_),(8,_),(9,_)] [(1,_),(2,_),(3,_),(4,_)] (fun (st:(Int×(List AFd))) (hid:(Option Addr×Nat))=>match st,hid with | (k1,l4),(a_r2,cap_r2)=>[(10,.v (.slice a_r2 l4.length cap_r2)),(11,.i64 k1)]) (fun F (st:(Int×(List AFd))) (hid:(Option Addr×Nat))=>match st,hid with | (k1,l4),(a_r2,cap_r2)=>[row a_r2 cap_r2 98 2 AFd.d l4,(nthF F 0),(nthF F 1),(nthF F 2),(nthF F 3)]) (_,_) hj3 (fun _=>rfl) ⟨rfl,rfl,rfl,rfl,rfl,rfl,trivial⟩ ⟨rfl,rfl,rfl,rfl,trivial⟩ ⟨rfl,rfl,trivial⟩ rfl ?_;rintro n ⟨k1,l4⟩ ⟨a_r2,cap_r2⟩ hj3;rw [BD] at hj3;refine Ar (L':=[(10,.v (.slice a_r2 l4.length cap_r2)),(11,.i64 k1),(3,_),(4,_),(6,_),(7,_),(8,_),(9,_)]) (ms':=[row a_r2 cap_r2 98 2 AFd.d l4,_,_,_,_]) rfl rfl ?_;refine zq9 ?_;refine zcn hj3 (fun hc3 hj3=>?_) (fun hc3 hj3=>?_)
     ·refine zq3 ?_
      obtain ⟨x2,hx5,hj3⟩:=bS hj3;obtain ⟨x3,hx6,hj3⟩:=bS hj3;obtain ⟨hg7,hj3⟩:=Aa hj3;refine zdr 17 ?_;refine zq4 ?_;refine Aw rfl rfl rfl (oIm runUnderlying42 sizeOf98 rfl rfl hx5) ?_;refine zq5 ?_;refine Aw rfl rfl rfl (oIm runUnderlying42 sizeOf98 rfl rfl hx6) ?_;refine zq4 ?_;refine Aw rfl rfl rfl zb98a ?_;refine Aw rfl rfl rfl (Ax (xs:=[_]) (f:=AFd.d) (l:=[(⟨x2.name,(x3.at_+(a1.l.length:Int))⟩:AFd)]) runUnderlying42 sizeOf98 zeroValue98 rfl rfl rfl (fun _=>⟨rfl,rfl,rfl⟩) rfl) ?_;refine Cu ?_;obtain ⟨hg8,hj3⟩:=Aa hj3;refine zap 0 hg8 fun a_r2 cap_r2=>?_;refine Ag (ms':=[_,box b3 44 [_,_,_,_],box b2 24 [_,_],_,box b1 24 [_,_]]) rfl ?_;refine zq4 ?_;obtain ⟨hg9,hj3⟩:=Aa hj3;refine zq3 ?_;exact ⟨_,(_,_),hj3,⟨rfl,rfl,trivial⟩,⟨rfl,rfl,rfl,rfl,rfl,rfl,trivial⟩,[],rfl⟩
     ·refine Ao ?_
      exact ⟨_,(_,_),Ac hj3,⟨rfl,trivial⟩,⟨rfl,rfl,rfl,rfl,rfl,rfl,trivial⟩,[],rfl⟩
    ·rintro l3 ⟨a_r2,cap_r2⟩ hst
     subst hst;refine An (L':=[(10,.v (.slice a_r2 l3.length cap_r2)),(3,_),(4,_),(6,_),(7,_),(8,_),(9,_)]) (ms':=[row a_r2 cap_r2 98 2 AFd.d l3,_,_,_,_]) rfl rfl ?_;refine zq4 ?_;refine zst 1 ?_;refine Ag (ms':=[_,box b3 44 [_,_,_,_],box b2 24 [_,_],_,box b1 24 [_,_]]) rfl ?_;refine zq5 ?_;refine Al (Cl (i:=87) (q:=3) 0 rfl rfl rfl rfl rfl).refines ?_;refine Af rfl rfl rfl (Ax (xs:=[_]) (f:=ANd.d) (l:=[(⟨z3,z4,z5,l3⟩:ANd)]) runUnderlying22 sizeOf44 zeroValue44 rfl rfl rfl (fun _=>⟨rfl,rfl,rfl⟩) rfl) ?_;obtain ⟨hg10,hm3⟩:=Aa hm3;refine Av rfl rfl rfl (Ca (a:=_) 3 underlying22 type44 rfl rfl rfl rfl rfl rfl (fun _=>rfl) (fun _=>rfl) hg10 (A2 hg10 rfl)) ?_;rintro _ _ ⟨a_r1,m_r1,cap_r1,rfl,rfl⟩;refine Ag (ms':=[_,box b3 44 [_,_,_,_],box b2 24 [_,_],_,box b1 24 [_,_]]) rfl ?_;refine zq1 ?_;refine zst 2 ?_;refine Ag (ms':=[_,box b3 44 [_,_,_,_],box b2 24 [_,_],_,box b1 24 [_,_]]) rfl ?_;refine zq3 ?_;obtain ⟨hg11,hm3⟩:=Aa hm3;refine zq3 ?_;exact ⟨_,(_,_,_),hm3,⟨rfl,trivial⟩,⟨rfl,rfl,rfl,rfl,trivial⟩,[_,_],rfl⟩
  ·refine Ao ?_
   exact ⟨_,(_,_,_),Ac hj1,trivial,⟨rfl,rfl,rfl,trivial⟩,[],rfl⟩
 ·rintro ⟨z1,l1⟩ ⟨a_r1,m_r1,cap_r1⟩ hst
  subst hst;refine An (L':=[(4,_),(6,_),(7,_)]) (ms':=[box b2 24 [.v (.slice a_r1 m_r1 cap_r1),.i64 z1],arr a_r1 m_r1 cap_r1 44 4 ANd.d l1,_]) rfl rfl ?_;refine zq4 ?_;refine zst 2 ?_;refine Ag (ms':=[box b2 24 [_,_],_,box b1 24 [_,_]]) rfl ?_;refine zq2 ?_;refine Ae ?_
  have hq1:=Ac hm1
  obtain ⟨rfl,rfl⟩:=Prod.mk.inj hq1;exact retK (JL (ds:=[_,_]) rfl (by decide) ⟨A9 2 rfl rfl rfl isAgg24 sizeOf24 rfl,⟨Bh rfl,rfl⟩⟩ (permA 1 rfl permN)) ⟨_,_,_,rfl,rfl⟩
noncomputable def CN (a1:ATy) (bv1:ATy):Option Bool:=
 (F4 a1 bv1).bind fun (x1,x2) =>
 grd (InR (bv1.root+x2)) <|
 (FO (⟨x1.l,x1.root⟩:ATy) [a1.root] [(bv1.root+x2)]).bind fun x3 =>
 some x3
theorem Jd {a1:ATy} {bv1:ATy} {r_1:Bool} (hm:CN a1 bv1=some r_1):Fn0 Tryz.prog 28 [ATy.d a1,ATy.d bv1] (.bool r_1):=by
 unfold CN at hm;refine Ad func28 rfl ntmps28 rfl fun H0 fr w0=>?_;refine zq10 ?_;obtain ⟨⟨x1,x2⟩,hx1,hm⟩:=bS hm;refine zc0 (OX hx1) ?_;refine zq3 ?_;refine BI fun b1=>?_;refine zst 0 ?_;refine Ag (ms':=[box b1 24 [_,_]]) rfl ?_;refine zq7 ?_;refine Af rfl rfl rfl (zs1 D.i64) ?_;refine zq3 ?_;obtain ⟨hg2,hm⟩:=Aa hm;refine zq1 ?_;refine Af rfl rfl rfl (zs1 D.i64) ?_;obtain ⟨x3,hx3,hm⟩:=bS hm;refine zc0 (Pl hx3) ?_;refine zq2 ?_
 cases hm;exact Ae zr1
noncomputable def Cx (t1:ATy):List Int->(List Int)->Option (List Int)
 | [],l2 =>
  some l2
 | x2::rr,l2 =>
  (idx t1.l x2).bind fun x3 =>
  bif (decide (x3.kind=11)) then
   grd ((l2.length+([x3.a]:List _).length)*8<=140737488355328) <|
   Cx t1 rr (l2++[x3.a])
  else
   Cx t1 rr l2
noncomputable def FG (t1:ATy):Option (List Int):=
 (Bp t1).bind fun x1 =>
 bif (!decide (x1=0)) then
  some []
 else
  ((Hm t1 t1.root).bind fun xs1 =>
  Cx t1 xs1 []:Option (List Int)).bind fun l1 =>
  grd (l1.length<4611686018427387904) <|
  some (Lib.compact (List.mergeSort l1 fun x y=>decide (x<=y)))
theorem M9 {t1:ATy} {r_1:(List Int)} (hm:FG t1=some r_1):Fn0 Tryz.prog 71 [ATy.d t1] (.list 1 D.i64 r_1):=by
 unfold FG at hm;refine Ad func71 rfl ntmps71 rfl fun H0 fr w0=>?_;refine zq4 ?_;refine Al (nilE (i:=2) (sz:=1) (f:=D.i64) rfl).refines ?_;refine zq5 ?_;obtain ⟨x1,hx1,hm⟩:=bS hm;refine zc0 (EJ hx1) ?_;refine zq2 ?_;refine zcn hm (fun hc1 hm=>?_) (fun hc1 hm=>?_)
 ·refine zq3 ?_
  refine Al (nilE (i:=2) (sz:=1) (f:=D.i64) rfl).refines ?_;refine gNl ?_
  cases hm;exact Ae zr1
 ·refine zq3 ?_
  refine O0 fun b1=>?_;refine Al (Cm (T:=3) (sz:=1) (f:=D.i64)) ?_;refine zq7 ?_;refine Af rfl rfl rfl (AY call107 rfl PR) ?_;refine gNl ?_;obtain ⟨o_1,hj1,hm1⟩:=bS hm;refine Ak [(3,_)] [] (fun (st:(List Int)) (hid:(Option Addr×Nat×Nat))=>match st,hid with | l1,(a_r1,m_r1,cap_r1)=>[]) (fun F (st:(List Int)) (hid:(Option Addr×Nat×Nat))=>match st,hid with | l1,(a_r1,m_r1,cap_r1)=>[arr a_r1 m_r1 cap_r1 3 1 D.i64 l1,box b1 25 [.v (.slice a_r1 m_r1 cap_r1)]]) (fun st=>st=o_1) ⟨rfl,trivial⟩ trivial ?_ ?_
  ·refine Aj ?_
   obtain ⟨xs1,hx2,hj1⟩:=bS hj1;refine Mm (fun (p:Int)=>[.i64 p]) [] (fun F (st:(List Int)) (hid:(Option Addr×Nat×Nat))=>match st,hid with | l2,(a_r1,m_r1,cap_r1)=>[arr a_r1 m_r1 cap_r1 3 1 D.i64 l2,box b1 25 [.v (.slice a_r1 m_r1 cap_r1)]]) (_,_,_) hj1 trivial rfl rfl call138 (Oy hx2) (fun _=>rfl) rfl ?_ ?_
   ·rintro H0r frr ror w0r hrr x2 rr l2 ⟨a_r1,m_r1,cap_r1⟩ hj1
    rw [Cx] at hj1;refine Ar (ms':=[arr a_r1 m_r1 cap_r1 3 1 D.i64 l2,box b1 25 [.v (.slice a_r1 m_r1 cap_r1)]]) rfl rfl ?_;refine zq3 ?_
    intro H0r frr ror w0r hrr
    refine zq6 ?_;obtain ⟨x3,hx3,hj1⟩:=bS hj1;refine zq2 ?_;refine Dq fun b2=>?_;refine zst 0 ?_;refine Ag (ms':=[box b2 44 [_,_,_,_],_,box b1 25 [_]]) rfl ?_;refine zq7 ?_;refine zcn hj1 (fun hc2 hj1=>?_) (fun hc2 hj1=>?_)
    ·refine zq4 ?_
     refine Af rfl rfl rfl (zs1 D.i64) ?_;obtain ⟨hg4,hj1⟩:=Aa hj1;refine Av rfl rfl rfl (Ca (a:=_) 1 underlying25 type3 rfl rfl rfl rfl rfl rfl (fun _=>rfl) (fun _=>rfl) hg4 (A2 hg4 rfl)) ?_;rintro _ _ ⟨a_r1,m_r1,cap_r1,rfl,rfl⟩;refine Ag (ms':=[box b2 44 [_,_,_,_],_,box b1 25 [_]]) rfl ?_;refine zst 2 ?_;refine Ag (ms':=[box b2 44 [_,_,_,_],_,box b1 25 [_]]) rfl ?_;refine gNl ?_;exact ⟨_,(_,_,_),hj1,[_],rfl⟩
    ·refine gSp ?_
     exact ⟨_,(_,_,_),hj1,[_],rfl⟩
   ·rintro l2 ⟨a_r1,m_r1,cap_r1⟩ hj1
    rw [Cx] at hj1;refine An (ms':=[arr a_r1 m_r1 cap_r1 3 1 D.i64 l2,box b1 25 [.v (.slice a_r1 m_r1 cap_r1)]]) rfl rfl ?_;exact ⟨_,(_,_,_),Ac hj1,trivial,⟨rfl,trivial⟩,[],rfl⟩
  ·rintro l1 ⟨a_r1,m_r1,cap_r1⟩ hst
   subst hst;refine An (L':=[(3,_)]) (ms':=[arr a_r1 m_r1 cap_r1 3 1 D.i64 l1,box b1 25 [.v (.slice a_r1 m_r1 cap_r1)]]) rfl rfl ?_;refine zq3 ?_;obtain ⟨hg5,hm1⟩:=Aa hm1;refine Av rfl rfl rfl (C1 [0] call98 rfl rfl (C3 rfl DG) (Qc hg5) (by rintro _ _ ⟨_,rfl⟩;rfl)) ?_;rintro _ _ ⟨_,⟨rfl,rfl⟩,rfl⟩;refine Ag (ms':=[_,box b1 25 [_]]) rfl ?_;refine zq4 ?_;refine Av rfl rfl rfl (C1 [0] call99 rfl rfl (C3 rfl DG) LU (by rintro _ _ ⟨_,_,rfl⟩;rfl)) ?_;rintro _ _ ⟨_,⟨m_r1,rfl,rfl⟩,rfl⟩;refine Ag (ms':=[_,box b1 25 [_]]) rfl ?_;refine zq2 ?_;refine IW 0 rfl rfl ?_;rintro rfl;refine BA (peekE (i:=2) 0 rfl rfl rfl).refines ?_
   cases hm1;exact Ae zr1
noncomputable def Da (t1:ATy):Option Bool:=
 (Bp t1).bind fun x1 =>
 (bif (decide (x1=0)) then ((FG t1).bind fun x2 =>
 some (decide ((x2.length:Int)=0))) else (some false)).bind fun p1 =>
 some p1
theorem K4 {t1:ATy} {r_1:Bool} (hm:Da t1=some r_1):Fn0 Tryz.prog 36 [ATy.d t1] (.bool r_1):=by
 unfold Da at hm;refine Ad func36 rfl ntmps36 rfl fun H0 fr w0=>?_;refine zq8 ?_;obtain ⟨x1,hx1,hm⟩:=bS hm;refine zc0 (EJ hx1) ?_;refine zq2 ?_;obtain ⟨p1,hp_1,hm⟩:=bS hm;refine AL [] 5 11 p1 (t:=6) trivial rfl (fun hg_1 hk1=>?_) (fun hg_1 hk1=>?_) ?_
 ·replace hp_1:=AO hg_1 hp_1
  refine zq1 ?_;obtain ⟨x2,hx2,hp_1⟩:=bS hp_1;refine zcw (M9 hx2) ?_;refine zq3 ?_;exact zgb hk1 hp_1
 ·replace hp_1:=AP hg_1 hp_1
  refine zq5 ?_;exact zgb hk1 hp_1
 refine zq2 ?_
 cases hm;exact Ae zr1
end Go.Proofs.YtkfnogdccpcmhaaGreatDoor
namespace Go.Proofs.YtkfnogdccpcmhaaGreatDoor
open Go.V Tryz
open Classical
theorem FUv:FU=18446744073709551616:=rfl
theorem bt (b c:Bool):(bif b then some true else some c:Option Bool)=some (b||c):=by cases b <;> rfl
theorem bf (b c:Bool):(bif b then some c else some false:Option Bool)=some (b&&c):=by cases b <;> rfl
def Ej (c:UInt8):Bool:=(decide (97<=(c.toNat:Int))&&decide ((c.toNat:Int)<=122))||decide ((c.toNat:Int)=95)
def Ek (c:UInt8):Bool:=decide (65<=(c.toNat:Int))&&decide ((c.toNat:Int)<=90)
def moreB (c:UInt8):Bool:=(Ej c||Ek c)||(decide (48<=(c.toNat:Int))&&decide ((c.toNat:Int)<=57))
def wordP:List UInt8->Nat
 | []=>0
 | c::r=>if Ej c=true\/Ek c=true then 1+(r.takeWhile moreB).length else 0
theorem Rw (c:UInt8) (r:List UInt8):wordP (c::r)=if Ej c=true\/Ek c=true then 1+(r.takeWhile moreB).length else 0:=rfl
theorem Tf (s:List UInt8) (h:s.length<=1000000000000):Fl s=some (wordP s:Int):=by
 unfold Fl
 rcases s with _ | ⟨c,r⟩
 ·rfl
 ·rw [dF (by simp),cF_,J3,oB]
  simp only [CC,Dk,oB,bf];rw [show (((decide (97<=(c.toNat:Int)))&&(decide ((c.toNat:Int)<=122)))||(decide ((c.toNat:Int)=95)))=Ej c from rfl,show ((decide (65<=(c.toNat:Int)))&&(decide ((c.toNat:Int)<=90)))=Ek c from rfl];rw [Rw]
  cases h1:Ej c||Ek c with
  | false =>
   simp only [Bool.or_eq_false_iff] at h1;rw [h1.1,h1.2];simp
  | true =>
   rw [if_pos (by simpa using h1)]
   have:(!Ej c && !Ek c)=false:=by cases hs:Ej c <;> cases hg:Ek c <;> simp_all
   rw [this,cF_];simp only [List.length_cons] at h;refine bnd (LE (φ:=C7 (c::r)) (l:=c::r) moreB (fun i=>(i:Int)) ?_ ?_ FU 1 (by simp) (by rw [FUv];simp;omega)) rfl
   ·intro n i x hx hi
    simp only [List.length_cons] at hi;simp only [C7];rw [dT (by simp only [List.length_cons];omega),cT,getI hx,oB];simp only [Gs,CC,Dk,oB,bt]
    constructor
    ·intro hq
     simp only [moreB,Ej,Ek] at hq;rw [hq,cT,Ab (by omega)]
    ·intro hq
     simp only [moreB,Ej,Ek] at hq;rw [hq,cF_]
   ·intro n
    simp only [C7];rw [dF (by omega),cF_,oB,cF_]
theorem Sx (s:List UInt8) (h:s.length<=1000000000000):E2 s=some (wordP s:Int):=by
 unfold E2
 rcases s with _ | ⟨c,r⟩
 ·rfl
 ·rw [dF (by simp;omega),cF_,J3,oB]
  simp only [DQ,Ey,oB,bf];rw [show (((decide (97<=(c.toNat:Int)))&&(decide ((c.toNat:Int)<=122)))||(decide ((c.toNat:Int)=95)))=Ej c from rfl,show ((decide (65<=(c.toNat:Int)))&&(decide ((c.toNat:Int)<=90)))=Ek c from rfl];rw [Rw]
  cases h1:Ej c||Ek c with
  | false =>
   simp only [Bool.or_eq_false_iff] at h1;rw [h1.1,h1.2];simp
  | true =>
   rw [if_pos (by simpa using h1)]
   have:(!Ej c && !Ek c)=false:=by cases hs:Ej c <;> cases hg:Ek c <;> simp_all
   rw [this,cF_];simp only [List.length_cons] at h;refine bnd (LE (φ:=D6 (c::r)) (l:=c::r) moreB (fun i=>(i:Int)) ?_ ?_ FU 1 (by simp) (by rw [FUv];simp;omega)) rfl
   ·intro n i x hx hi
    simp only [List.length_cons] at hi;simp only [D6];rw [dT (by simp only [List.length_cons];omega),cT,getI hx,oB];simp only [DQ,Ey,oB,bt,bf]
    constructor
    ·intro hq
     simp only [moreB,Ej,Ek] at hq;rw [hq,cT,Ab (by omega)]
    ·intro hq
     simp only [moreB,Ej,Ek] at hq;rw [hq,cF_]
   ·intro n
    simp only [D6];rw [dF (by omega),cF_,oB,cF_]
def keysL:List (List UInt8):=match Du with | some l=>l | none=>[]
theorem Tw:Du=some keysL:=rfl
theorem Sj:Fe=some keysL:=rfl
theorem Sc (l:List (List UInt8)) (s:List UInt8) (h:l.length<=1000):Od l s=some (decide (s∈l)):=by
 unfold Od PV
 have e:=FJ (φ:=GW l s) (l:=l) (fun i=>(i:Int)) (fun x=>decide (s=x)) (by
  intro n i x hx hi
  simp only [GW];rw [dT (show (i:Int)<l.length by omega),cT,getI hx,oB]
  constructor
  ·intro hq;rw [show decide (s=x)=false from by simpa using hq,cF_,Ab (by omega)]
  ·intro hq;rw [show decide (s=x)=true from by simpa using hq,cT]) (by
  intro n
  simp only [GW];rw [dF (by omega),cF_]) (by rw [FUv];omega)
 rw [Ta e]
 cases hf:l.findIdx? (fun x=>decide (s=x)) with
 | none =>
  rw [List.findIdx?_eq_none_iff] at hf
  show some (decide _)=_
  congr 1
  rw [dF (by omega),dF]
  intro hs
  have:=hf s hs
  simp at this
 | some k =>
  rw [List.findIdx?_eq_some_iff_getElem] at hf;obtain ⟨hk,h1,_⟩:=hf
  show some (decide _)=_
  congr 1
  rw [dT (by omega),dT];simp only [decide_eq_true_eq] at h1;rw [h1];exact List.getElem_mem hk
theorem MJ (l:List (List UInt8)) (s:List UInt8) (h:l.length<=1000):Iu s l=some (decide (s∈l)):=by
 unfold Iu;refine bnd (HZ (φ:=E4 s l) (l:=l) true (fun _ x=>x=s) ?_ ?_ (by rw [FUv];omega)) ?_
 ·intro n i x hx hi
  simp only [E4];rw [dT (by omega),cT,getI hx,oB]
  constructor
  ·intro hq;rw [dF hq,cF_,Ab (by omega)]
  ·intro hq;rw [dT hq,cT]
 ·intro n
  simp only [E4];rw [dF (by omega),cF_]
 ·by_cases hs:s∈l
  ·obtain ⟨i,hi,h2⟩:=List.getElem_of_mem hs
   rw [if_pos ⟨i,s,by rw [<- h2];exact List.getElem?_eq_getElem hi,rfl⟩,dT hs];rfl
  ·rw [if_neg,dF hs];rfl
   rintro ⟨i,x,h1,rfl⟩;exact hs (List.mem_of_getElem? h1)
def headP (p:UInt8->Bool):List UInt8->Bool
 | []=>false
 | c::_=>p c
def EP (s:List UInt8):Bool:=decide (s≠[])&&decide (s.length<=20)&&decide (wordP s=s.length)
def nameP (s:List UInt8):Bool:=EP s&&headP Ej s && !decide (s∈keysL)
def tagP (s:List UInt8):Bool:=EP s&&headP Ek s
theorem NI (s:List UInt8):D8 s=some (EP s):=by
 unfold D8 EP
 by_cases h1:s=[]
 ·subst h1;rfl
 by_cases h2:s.length<=20
 ·rw [dF h1,dT (show (s.length:Int)<=20 by omega),Tf s (by omega)]
  simp only [Bool.not_false,Bool.true_and,cT,oB,dT (show s≠[] from h1),dT h2]
  congr 1
  exact decide_eq_decide.2 (by omega)
 ·rw [dF (show ¬ (s.length:Int)<=20 by omega),dF h2];simp
theorem Qh (s:List UInt8):DL s=some (nameP s):=by
 unfold DL nameP;rw [NI,oB]
 cases hw:EP s with
 | false=>rfl
 | true =>
  rcases s with _ | ⟨c,r⟩
  ·simp [EP] at hw
  ·rw [cT,J3,oB]
   simp only [CC,oB,EN,Tw,Bool.true_and];rw [Sc _ _ (by decide),oB,oB,bf,oB];rfl
theorem TU (s:List UInt8):EY s=some (tagP s):=by
 unfold EY tagP;rw [NI,oB]
 cases hw:EP s with
 | false=>rfl
 | true =>
  rcases s with _ | ⟨c,r⟩
  ·simp [EP] at hw
  ·rw [cT,J3,oB];rfl
theorem M1 (s:List UInt8):(bif ((decide (0<(s.length:Int)))&&(decide ((s.length:Int)<=20))) then ((E2 s).bind fun x1=>some (decide (x1=(s.length:Int)))) else (some false))=some (EP s):=by
 unfold EP
 by_cases h1:s=[]
 ·subst h1;rfl
 have h0:0<s.length:=List.length_pos_iff.2 h1
 by_cases h2:s.length<=20
 ·rw [dT (show 0<(s.length:Int) by omega),dT (show (s.length:Int)<=20 by omega),Sx s (by omega)]
  simp only [Bool.true_and,cT,oB,dT (show s≠[] from h1),dT h2]
  congr 1
  exact decide_eq_decide.2 (by omega)
 ·rw [dF (show ¬ (s.length:Int)<=20 by omega),dF h2];simp
theorem Ou (s:List UInt8):E1 s=some (nameP s):=by
 unfold E1 nameP;refine bnd (M1 s) ?_
 cases hw:EP s with
 | false=>rfl
 | true =>
  rcases s with _ | ⟨c,r⟩
  ·simp [EP] at hw
  ·rw [cT,J3,oB]
   simp only [DQ,oB,FE,Sj,Bool.true_and];rw [MJ _ _ (by decide),oB,oB,bf,oB];rfl
theorem TA (s:List UInt8):GN s=some (tagP s):=by
 unfold GN tagP;refine bnd (M1 s) ?_
 cases hw:EP s with
 | false=>rfl
 | true =>
  rcases s with _ | ⟨c,r⟩
  ·simp [EP] at hw
  ·rw [cT,J3,oB];rfl
theorem Kg (a b:List Int) (h:a.length<=3000):DC a b=some (decide (a=b)):=by
 unfold DC;simp only [Bool.cond_eq_ite,Bool.not_eq_true',decide_eq_false_iff_not]
 by_cases hl:a.length=b.length
 ·rw [if_neg (by omega)]
  refine bnd (FN (φ:=Ch a b) (l:=a) false (fun i x=>b[i]? = some x) ?_ ?_ (by rw [FUv];omega)) ?_
  ·intro n i x hx hi
   simp only [Ch]
   have hy:b[i]? = some b[i]:=List.getElem?_eq_getElem (by omega)
   rw [dT (by omega),cT,getI hx,oB,getI hy,oB,hy];simp only [Bool.cond_eq_ite,Bool.not_eq_true',decide_eq_false_iff_not]
   constructor
   ·intro h;rw [if_neg (by simpa using (Option.some.inj h).symm),Ab (by omega)]
   ·intro h;rw [if_pos (by intro h2;exact h (by rw [h2]))]
  ·intro n
   simp only [Ch];rw [dF (by omega),cF_]
  ·by_cases h3:a=b
   ·subst h3
    rw [if_pos (fun i x h=>h),dT rfl];rfl
   ·rw [if_neg,dF h3];rfl
    intro h4
    refine h3 (List.ext_getElem? fun i=>?_)
    by_cases hi:i<a.length
    ·rw [h4 i a[i] (List.getElem?_eq_getElem hi),List.getElem?_eq_getElem hi]
    ·rw [List.getElem?_eq_none (by omega),List.getElem?_eq_none (by omega)]
 ·rw [if_pos (by omega),dF (fun h=>hl (by rw [h]))]
def fewN (n:ANd):ANd:=⟨n.kind,n.a,n.b,[]++n.l.take 40⟩
def fewC (m:Nat) (l:List ANd):Nat:=if 2000<l.length then 2001 else m
def fewT (m:Nat) (t:ATy):ATy:=⟨(t.l.take (fewC m t.l)).map fewN,t.root⟩
theorem min40 (l:List AFd):sli l 0 (if 40<(l.length:Int) then 40 else (l.length:Int))=some (l.take 40):=by
 by_cases h:40<(l.length:Int)
 ·rw [if_pos h];exact GH (k:=40) (by omega)
 ·rw [if_neg h,GH (by omega),List.take_of_length_le (by omega),List.take_of_length_le (by omega)]
theorem TZ (t:ATy) (m:Nat) (M:Int) (hM:M=m) (hm:m<=2000):HX t M=some (fewT m t):=by
 subst hM;unfold HX fewT
 have hC:fewC m t.l=2001/\2000<t.l.length\/fewC m t.l=m/\¬ 2000<t.l.length:=by unfold fewC;split <;> simp_all
 have hL:(t.l.take (fewC m t.l)).length<=2001/\(t.l.take (fewC m t.l)).length<=t.l.length/\(t.l.take (fewC m t.l)).length<=fewC m t.l:=by rw [List.length_take];omega
 rw [CI (φ:=fun n i s=>EH t (m:Int) n (i,s,t.root)) (l:=t.l.take (fewC m t.l)) fewN (fun s=>(s,t.root)) 0 ?_ ?_ (by rw [FUv];omega) [] rfl]
 ·rfl
 ·intro n i x s hx hi hs
  have hx2:t.l[i]? = some x:=by
   rw [List.getElem?_take,if_pos (by omega)] at hx;exact hx
  have h40:(x.l.take 40).length<=40:=by rw [List.length_take];omega
  simp only [EH];rw [dT (show (i:Int)<t.l.length by omega),Bool.true_and,show (decide ((i:Int)<(m:Int))||(decide (2000<(t.l.length:Int))&&decide ((i:Int)<=2000)))=true by
   rw [Bool.or_eq_true,Bool.and_eq_true,decide_eq_true_eq,decide_eq_true_eq,decide_eq_true_eq];omega,cT,getI hx2,oB,min40,oB,Ab (by omega),Ab (by simp only [List.length_cons,List.length_nil];omega),Ab (by omega)]
  rfl
 ·intro n s hs
  simp only [EH];rw [show (decide (((t.l.take (fewC m t.l)).length:Int)<t.l.length)&&(decide (((t.l.take (fewC m t.l)).length:Int)<(m:Int))||(decide (2000<(t.l.length:Int))&&decide (((t.l.take (fewC m t.l)).length:Int)<=2000))))=false by
   rw [List.length_take,Bool.and_eq_false_iff,Bool.or_eq_false_iff,Bool.and_eq_false_iff,decide_eq_false_iff_not,decide_eq_false_iff_not,decide_eq_false_iff_not,decide_eq_false_iff_not];omega,cF_]
theorem OS (m:Nat) (hm:m<=2000) (t:ATy):(fewT m t).l.length<=2001:=by unfold fewT fewC;simp only [List.length_map,List.length_take];split <;> omega
def NB (n:ANd):Prop:=n.l.length<=40
theorem SR (n:ANd):NB (fewN n):=by unfold fewN NB;simp;omega
theorem Tu (m:Nat) (t:ATy):∀ n∈(fewT m t).l,NB n:=by
 intro n hn
 obtain ⟨k,_,rfl⟩:=List.mem_map.1 hn;exact SR k
theorem Q2 (n:ANd):fewN (fewN n)=fewN n:=by
 unfold fewN;simp only [List.nil_append,ANd.mk.injEq,true_and];exact List.take_of_length_le (by rw [List.length_take];omega)
theorem Ql (m:Nat) (hm:m<=2000) (t:ATy):fewT m (fewT m t)=fewT m t:=by
 have h1:=OS m hm t
 have h2:fewC m (fewT m t).l=fewC m t.l:=by
  unfold fewC
  have:(fewT m t).l.length=min (fewC m t.l) t.l.length:=by unfold fewT;simp
  rw [this];unfold fewC
  split <;> split <;> omega
 have h3:(fewT m t).l.length<=fewC m t.l:=by unfold fewT;simp;omega
 show (⟨((fewT m t).l.take (fewC m (fewT m t).l)).map fewN,t.root⟩:ATy)=_
 rw [h2,List.take_of_length_le h3];unfold fewT;simp only [List.map_map]
 congr 1
 exact List.map_congr_left fun n _=>Q2 n
theorem Pk (m:Nat) (t:ATy) (h:(fewT m t).l.length<=2000):(fewT m t).l.length<=m:=by
 unfold fewT fewC at h ⊢;simp only [List.length_map,List.length_take] at h ⊢
 split at h <;> split <;> omega
def pB (k:Int):Bool:=(decide (k=6)||decide (k=9))||decide (k=10)
def wB (k:Int):Bool:=decide (k=7)||decide (k=8)
def kidsL (n:ANd):List Int:=bif pB n.kind then [n.a,n.b] else bif wB n.kind then n.l.map (·.at_) else []
theorem NC (n:ANd) (h:NB n):Dn n=some (kidsL n):=by
 unfold Dn kidsL CK Ea;unfold NB at h;rw [oB,oB]
 change (bif pB n.kind then _ else bif wB n.kind then _ else _)=_
 cases pB n.kind
 ·cases wB n.kind
  ·rfl
  ·rw [cF_,cT,cF_,cT,CI (φ:=fun k i s=>Cy n k (i,s)) (l:=n.l) (·.at_) id 0 ?_ ?_ (by rw [FUv];omega) [] rfl]
   ·rfl
   ·intro k i x s hx hi hs
    simp only [Cy];rw [dT (show (i:Int)<n.l.length by omega),cT,getI hx,oB,Ab (by simp only [List.length_cons,List.length_nil];omega),Ab (by omega)]
   ·intro k s hs
    simp only [Cy];rw [dF (by omega),cF_];rfl
 ·rfl
theorem K5 (n:ANd) (h:NB n):Fd n=some (kidsL n):=by
 unfold Fd kidsL;unfold NB at h
 change (bif pB n.kind then _ else bif wB n.kind then _ else _)=_
 cases pB n.kind
 ·cases wB n.kind
  ·rfl
  ·rw [cF_,cT,cF_,cT,CI (φ:=fun k i s=>Eh n k (i,s)) (l:=n.l) (·.at_) id 0 ?_ ?_ (by rw [FUv];omega) [] rfl]
   ·rfl
   ·intro k i x s hx hi hs
    simp only [Eh];rw [dT (show (i:Int)<n.l.length by omega),cT,getI hx,oB,Ab (by simp only [List.length_cons,List.length_nil];omega),Ab (by omega)]
   ·intro k s hs
    simp only [Eh];rw [dF (by omega),cF_];rfl
 ·rfl
theorem G6 (n:ANd) (h:NB n):(kidsL n).length<=40:=by
 unfold kidsL;unfold NB at h
 cases pB n.kind
 ·cases wB n.kind
  ·simp
  ·simpa using h
 ·simp
def badF (n:ANd) (x:AFd):Bool:=(decide (n.kind=7) && !nameP x.name)||(decide (n.kind=8) && !tagP x.name)
def okF (n:ANd) (i:Nat) (x:AFd):Prop:=badF n x=false/\(0<i->∀ y,n.l[i - 1]? = some y->Op.bytesLess y.name x.name=true)
def ER (n:ANd):Prop:=∀ i x,n.l[i]? = some x->okF n i x
theorem RO (n:ANd) (h:NB n):En n=some (decide (ER n)&&decide ((n.l.length:Int)<=30)):=by
 unfold En;unfold NB at h;rw [FN (φ:=BR n) (l:=n.l) false (okF n) ?_ ?_ (by rw [FUv];omega),oB]
 ·by_cases hp:ER n
  ·rw [if_pos (show ∀ i x,n.l[i]? = some x->okF n i x from hp),dT hp];rfl
  ·rw [if_neg (show ¬ ∀ i x,n.l[i]? = some x->okF n i x from hp),dF hp];rfl
 ·intro k i x hx hi
  simp only [BR]
  have e1:((bif (decide (n.kind=7)) then ((DL x.name).bind fun x3=>some (!x3)) else (some false)).bind fun p1 =>
   (bif p1 then (some true) else ((bif (decide (n.kind=8)) then ((EY x.name).bind fun x4=>some (!x4)) else (some false)).bind fun p3=>some p3)))=some (badF n x):=by
   rw [Qh,TU,oB,oB,bf,oB,bf,oB,bt];rfl
  rw [dT (show (i:Int)<n.l.length by omega),cT,getI hx,oB,<- Option.bind_assoc,e1,oB];unfold okF
  cases hb:badF n x
  ·rw [cF_]
   by_cases h0:0<i
   ·have hy:n.l[i - 1]? = some n.l[i - 1]:=List.getElem?_eq_getElem (by omega)
    rw [dT (show (0:Int)<(i:Int) by omega),cT,Ab (by omega),show ((i:Int) - 1)=((i - 1:Nat):Int) by omega,getI hy,oB]
    constructor
    ·rintro ⟨_,h2⟩
     rw [h2 h0 _ hy,Bool.not_true,cF_,Ab (by omega)]
    ·intro h2
     cases hl:Op.bytesLess (n.l[i - 1]).name x.name
     ·rfl
     ·exact absurd ⟨rfl,fun _ y hy2=>by rw [hy] at hy2;cases hy2;exact hl⟩ h2
   ·rw [dF (show ¬ (0:Int)<(i:Int) by omega),cF_]
    exact ⟨fun _=>by rw [Ab (by omega)],fun h2=>absurd ⟨rfl,fun h3=>absurd h3 h0⟩ h2⟩
  ·rw [cT]
   exact ⟨fun h2=>by simp at h2,fun _=>rfl⟩
 ·intro k
  simp only [BR];rw [dF (by omega),cF_]
theorem QI (n:ANd) (h:NB n):C2 n FU 0=some (if ER n then .go () else .ret false):=by
 unfold NB at h;rw [FN (φ:=C2 n) (l:=n.l) false (okF n) ?_ ?_ (by rw [FUv];omega)]
 ·rfl
 ·intro k i x hx hi
  simp only [C2]
  have e1:((bif (decide (n.kind=7)) then ((E1 x.name).bind fun x3=>some (!x3)) else (some false)).bind fun p1 =>
   (bif p1 then (some true) else ((bif (decide (n.kind=8)) then ((GN x.name).bind fun x4=>some (!x4)) else (some false)).bind fun p3=>some p3)))=some (badF n x):=by
   rw [Ou,TA,oB,oB,bf,oB,bf,oB,bt];rfl
  rw [dT (show (i:Int)<n.l.length by omega),cT,getI hx,oB,<- Option.bind_assoc,e1,oB];unfold okF
  cases hb:badF n x
  ·rw [cF_]
   by_cases h0:0<i
   ·have hy:n.l[i - 1]? = some n.l[i - 1]:=List.getElem?_eq_getElem (by omega)
    rw [dT (show (0:Int)<(i:Int) by omega),cT,Ab (by omega),show ((i:Int) - 1)=((i - 1:Nat):Int) by omega,getI hy,oB,oB,oB]
    constructor
    ·rintro ⟨_,h2⟩
     rw [h2 h0 _ hy,Bool.not_true,cF_,Ab (by omega)]
    ·intro h2
     cases hl:Op.bytesLess (n.l[i - 1]).name x.name
     ·rfl
     ·exact absurd ⟨rfl,fun _ y hy2=>by rw [hy] at hy2;cases hy2;exact hl⟩ h2
   ·rw [dF (show ¬ (0:Int)<(i:Int) by omega),cF_,oB,oB,cF_]
    exact ⟨fun _=>by rw [Ab (by omega)],fun h2=>absurd ⟨rfl,fun h3=>absurd h3 h0⟩ h2⟩
  ·rw [cT,oB,cT]
   exact ⟨fun h2=>by simp at h2,fun _=>rfl⟩
 ·intro k
  simp only [C2];rw [dF (by omega),cF_]
def inB (all k:Int):Bool:=decide (k<0)||decide (all<=k)
theorem Pf (l:List Int) (all:Int) (h:l.length<=1000):Jq l (fun y0=>CB y0 all)=some (decide (∃ k∈l,inB all k=true)):=by
 unfold Jq LK;rw [FJ (φ:=EW l (fun y0=>CB y0 all)) (l:=l) (fun i=>(i:Int)) (inB all) ?_ ?_ (by rw [FUv];omega)]
 ·rw [oB]
  cases hf:l.findIdx? (inB all) with
  | none =>
   have:¬ ∃ k∈l,inB all k=true:=by
    rintro ⟨c,hc,hne⟩
    have:=List.findIdx?_eq_none_iff.1 hf c hc
    rw [hne] at this;cases this
   rw [dF this];rfl
  | some i =>
   obtain ⟨hi,h1,_⟩:=List.findIdx?_eq_some_iff_getElem.1 hf
   have:∃ k∈l,inB all k=true:=⟨l[i],List.getElem_mem hi,h1⟩
   rw [dT this]
   show some (decide (0<=(i:Int)))=some true
   rw [dT (by omega)]
 ·intro n i x hx hi
  simp only [EW];rw [dT (show (i:Int)<l.length by omega),cT,getI hx,oB,show CB x all=some (inB all x) from rfl,oB];exact ⟨fun hq=>by rw [hq,cF_,Ab (by omega)],fun hq=>by rw [hq,cT]⟩
 ·intro n
  simp only [EW];rw [dF (by omega),cF_]
theorem ON (l:List Int) (all:Int) (h:l.length<=1000):CS all l FU 0=some (if (∃ k∈l,inB all k=true) then .ret false else .go ()):=by
 rw [HZ (φ:=CS all l) (l:=l) false (fun _ k=>inB all k=true) ?_ ?_ (by rw [FUv];omega)]
 ·have e:(∃ (i:Nat) (x:Int),l[i]? = some x/\inB all x=true)↔∃ k∈l,inB all k=true:=by
   constructor
   ·rintro ⟨i,x,h1,h2⟩;exact ⟨x,List.mem_of_getElem? h1,h2⟩
   ·rintro ⟨k,h1,h2⟩;obtain ⟨i,hi⟩:=List.getElem?_of_mem h1;exact ⟨i,k,hi,h2⟩
  by_cases h2:∃ k∈l,inB all k=true
  ·rw [if_pos (e.2 h2),if_pos h2]
  ·rw [if_neg (fun h3=>h2 (e.1 h3)),if_neg h2]
 ·intro n i x hx hi
  simp only [CS];rw [dT (show (i:Int)<l.length by omega),cT,getI hx,oB,oB,bt,oB]
  change (¬ inB all x=true->(bif inB all x then _ else _)=_)/\(inB all x=true->(bif inB all x then _ else _)=_)
  cases inB all x
  ·exact ⟨fun _=>by rw [cF_,Ab (by omega)],fun h=>by cases h⟩
  ·exact ⟨fun h=>absurd rfl h,fun _=>by rw [cT]⟩
 ·intro n
  simp only [CS];rw [dF (by omega),cF_]
noncomputable def Bn (n:ANd) (all:Int):Bool:=
 !(decide (n.kind<1)||decide (11<n.kind))&&(!((!pB n.kind)&&((!decide (n.b=0))||((!decide (n.kind=11))&&(!decide (n.a=0)))))&&(!(decide (n.kind=11)&&(decide (n.a<0)||decide (999<n.a))) &&
  (!((!wB n.kind)&&decide (0<(n.l.length:Int)))&&((decide (ER n)&&decide ((n.l.length:Int)<=30)) && !decide (∃ k∈kidsL n,inB all k=true)))))
theorem RU (n:ANd) (all:Int) (h:NB n):Ep n all=some (Bn n all):=by
 unfold Ep Bn;rw [show CK n.kind=some (pB n.kind) from rfl,show Ea n.kind=some (wB n.kind) from rfl,oB,oB,RO n h,NC n h,oB,oB,Pf _ _ (by have:=G6 n h;omega),oB]
 cases (decide (n.kind<1)||decide (11<n.kind))
 ·cases ((!pB n.kind)&&((!decide (n.b=0))||((!decide (n.kind=11))&&(!decide (n.a=0)))))
  ·cases (decide (n.kind=11)&&(decide (n.a<0)||decide (999<n.a)))
   ·cases ((!wB n.kind)&&decide (0<(n.l.length:Int)))
    ·cases (decide (ER n)&&decide ((n.l.length:Int)<=30)) <;> rfl
    ·rfl
   ·rfl
  ·rfl
 ·rfl
theorem Rf (n:ANd) (all:Int) (h:NB n):Gb n all=some (Bn n all):=by
 unfold Gb Bn;rw [QI n h,K5 n h,oB,oB,ON _ _ (by have:=G6 n h;omega),oB]
 change (bif ((((((decide (n.kind<1))||(decide (11<n.kind)))||(((!pB n.kind)&&(!decide (n.kind=11)))&&(!decide (n.a=0))))||((!pB n.kind)&&(!decide (n.b=0))))||((!wB n.kind)&&(decide (0<(n.l.length:Int)))))||(decide (30<(n.l.length:Int)))) then _ else _)=_
 rw [show decide (30<(n.l.length:Int)) = !decide ((n.l.length:Int)<=30) by rw [<- decide_not];exact decide_eq_decide.2 (by omega)]
 by_cases hn:ER n
 ·rw [if_pos hn,dT hn]
  by_cases hk:∃ k∈kidsL n,inB all k=true
  ·rw [if_pos hk,dT hk]
   cases decide (n.kind<1) <;> cases decide (11<n.kind) <;> cases pB n.kind <;> cases wB n.kind <;> cases decide (n.kind=11) <;> cases decide (n.a=0) <;> cases decide (n.b=0) <;> cases decide (0<(n.l.length:Int)) <;> cases decide ((n.l.length:Int)<=30) <;> cases decide (n.a<0) <;> cases decide (999<n.a) <;> rfl
  ·rw [if_neg hk,dF hk]
   cases decide (n.kind<1) <;> cases decide (11<n.kind) <;> cases pB n.kind <;> cases wB n.kind <;> cases decide (n.kind=11) <;> cases decide (n.a=0) <;> cases decide (n.b=0) <;> cases decide (0<(n.l.length:Int)) <;> cases decide ((n.l.length:Int)<=30) <;> cases decide (n.a<0) <;> cases decide (999<n.a) <;> rfl
 ·rw [if_neg hn,dF hn]
  cases decide (n.kind<1) <;> cases decide (11<n.kind) <;> cases pB n.kind <;> cases wB n.kind <;> cases decide (n.kind=11) <;> cases decide (n.a=0) <;> cases decide (n.b=0) <;> cases decide (0<(n.l.length:Int)) <;> cases decide ((n.l.length:Int)<=30) <;> cases decide (n.a<0) <;> cases decide (999<n.a) <;> rfl
end Go.Proofs.YtkfnogdccpcmhaaGreatDoor
namespace Go.Proofs.YtkfnogdccpcmhaaGreatDoor
open Go.V Tryz
open Classical
def latB (k:Int):Bool:=decide (k=9)||decide (k=10)
def endk (L:List ANd):Nat->Nat->Bool
 | 0,_=>false
 | k+1,i=>match L[i]? with
  | some n => !latB n.kind||(endk L k n.a.toNat&&endk L k n.b.toNat)
  | none=>false
theorem J0 (L:List ANd):∀ (k i:Nat),endk L k i=true->endk L (k+1) i=true
 | 0,i,h=>by simp [endk] at h
 | k+1,i,h=>by
  unfold endk at h ⊢
  cases hq:L[i]? with
  | none=>rw [hq] at h;exact h
  | some n =>
   rw [hq] at h
   simp only at h ⊢
   cases hl:latB n.kind
   ·rfl
   ·rw [hl] at h
    simp only [Bool.not_true,Bool.false_or,Bool.and_eq_true] at h ⊢;exact ⟨J0 L k _ h.1,J0 L k _ h.2⟩
theorem Iy {L:List ANd} {k m i:Nat} (hkm:k<=m) (h:endk L k i=true):endk L m i=true:=by
 induction hkm with
 | refl=>exact h
 | step _ ih=>exact J0 L _ _ ih
def Ends (L:List ANd) (i:Nat):Prop:=∃ k,endk L k i=true
def Eu (L:List ANd):Prop:=∀ i,i<L.length->Ends L i
def InL (L:List ANd):Prop:=∀ n∈L,∀ k∈kidsL n,0<=k/\k<(L.length:Int)
theorem Fj {n:ANd} (h:latB n.kind=true):kidsL n=[n.a,n.b]:=by
 unfold kidsL
 have:pB n.kind=true:=by
  unfold latB at h;unfold pB
  rw [Bool.or_eq_true,decide_eq_true_eq,decide_eq_true_eq] at h
  rcases h with h | h <;> rw [h] <;> rfl
 rw [this];rfl
theorem M8 {L:List ANd} {i:Nat} {n:ANd} (hi:L[i]? = some n) (h:latB n.kind=true->Ends L n.a.toNat/\Ends L n.b.toNat):Ends L i:=by
 cases hl:latB n.kind with
 | false=>exact ⟨1,by simp [endk,hi,hl]⟩
 | true =>
  obtain ⟨⟨k1,h1⟩,⟨k2,h2⟩⟩:=h hl;exact ⟨max k1 k2+1,by simp [endk,hi,hl,Iy (Nat.le_max_left k1 k2) h1,Iy (Nat.le_max_right k1 k2) h2]⟩
def cnd (L:List ANd) (l:List Bool) (i:Nat):Bool:=match L[i]? with
 | some n => !latB n.kind||(l.getD n.a.toNat false&&l.getD n.b.toNat false)
 | none=>false
theorem count_set {l:List Bool} {i:Nat} (h:l[i]? = some false):(l.set i true).count true=l.count true+1:=by
 have hi:=(List.getElem?_eq_some_iff.1 h).1
 have h2:=(List.getElem?_eq_some_iff.1 h).2
 rw [List.count_set hi,h2]
 simp
theorem TS {L:List ANd} {l:List Bool} {i:Nat} {n:ANd} (hR:InL L) (hl:l.length=L.length) (hi:L[i]? = some n) {β:Type} (K:Bool->Option β) :
  ((bif ((!decide (n.kind=9))&&(!decide (n.kind=10))) then (some true) else ((idx l n.a).bind fun x4=>(bif x4 then ((idx l n.b).bind fun x5=>some x5) else (some false)).bind fun p2=>some p2)).bind K)=K (cnd L l i):=by
 have e:((!decide (n.kind=9))&&(!decide (n.kind=10))) = !latB n.kind:=by unfold latB;rw [Bool.not_or]
 rw [e];unfold cnd;rw [hi]
 simp only
 cases hb:latB n.kind with
 | false=>simp
 | true =>
  have hk:=hR n (List.mem_of_getElem? hi)
  rw [Fj hb] at hk;obtain ⟨a0,a1⟩:=hk n.a (by simp);obtain ⟨b0,b1⟩:=hk n.b (by simp)
  have ha:l[n.a.toNat]? = some (l[n.a.toNat]'(by omega)):=List.getElem?_eq_getElem (by omega)
  have hb2:l[n.b.toNat]? = some (l[n.b.toNat]'(by omega)):=List.getElem?_eq_getElem (by omega)
  have ia:idx l n.a=some (l[n.a.toNat]'(by omega)):=by rw [<- ha];unfold idx;rw [if_pos a0]
  have ib:idx l n.b=some (l[n.b.toNat]'(by omega)):=by rw [<- hb2];unfold idx;rw [if_pos b0]
  rw [Bool.not_true,cF_,ia,oB,ib,oB,List.getD_eq_getElem?_getD,List.getD_eq_getElem?_getD,ha,hb2]
  cases l[n.a.toNat]'(by omega) <;> simp
theorem pass {t:ATy} (hR:InL t.l) (hlen:t.l.length<=2001) (l0:List Bool) (h0:l0.length=t.l.length) (hs:∀ i:Nat,l0[i]? = some true->Ends t.l i) :
  ∃ m l,De t FU (false,0,l0)=some (m,l)/\l.length=t.l.length/\(∀ i:Nat,l[i]? = some true->Ends t.l i)/\(m=false->l=l0/\∀ j,j<t.l.length->cnd t.l l0 j=true->l0[j]? = some true)/\(m=true->l0.count true<l.count true):=by
 obtain ⟨o,h1,h2⟩:=AR (φ:=fun n i (s:Bool×List Bool)=>De t n (s.1,i,s.2)) (l:=t.l)
  (fun i s=>s.2.length=t.l.length/\(∀ i:Nat,s.2[i]? = some true->Ends t.l i)/\l0.count true<=s.2.count true/\(s.1=false->s.2=l0/\∀ j,j<i->cnd t.l l0 j=true->l0[j]? = some true)/\(s.1=true->l0.count true<s.2.count true))
  (fun o:Bool×List Bool=>o.2.length=t.l.length/\(∀ i:Nat,o.2[i]? = some true->Ends t.l i)/\(o.1=false->o.2=l0/\∀ j,j<t.l.length->cnd t.l l0 j=true->l0[j]? = some true)/\(o.1=true->l0.count true<o.2.count true))
  (by
   rintro n i x ⟨m,l⟩ hx hi ⟨i1,i2,i3,i4,i5⟩
   simp only at i1 i2 i3 i4 i5
   left
   simp only [De];rw [dT (show (i:Int)<t.l.length by omega),cT,getI hx,oB,TS hR i1 hx]
   have hy:l[i]? = some (l[i]'(by omega)):=List.getElem?_eq_getElem (by omega)
   cases hc:cnd t.l l i with
   | false =>
    refine ⟨(m,l),by rw [cF_,oB,cF_,Ab (by omega)],i1,i2,i3,fun hm=>⟨(i4 hm).1,fun j hj hcj=>?_⟩,i5⟩
    by_cases hji:j=i
    ·subst hji;rw [<- (i4 hm).1,hc] at hcj;cases hcj
    ·exact (i4 hm).2 j (by omega) hcj
   | true =>
    rw [cT,getI hy,oB,oB]
    cases hv:l[i]'(by omega) with
    | true =>
     refine ⟨(m,l),by rw [Bool.not_true,cF_,Ab (by omega)],i1,i2,i3,fun hm=>⟨(i4 hm).1,fun j hj hcj=>?_⟩,i5⟩
     by_cases hji:j=i
     ·subst hji;rw [<- (i4 hm).1,hy,hv]
     ·exact (i4 hm).2 j (by omega) hcj
    | false =>
     rw [hv] at hy
     have hct:=count_set hy
     refine ⟨(true,l.set i true),by rw [Bool.not_false,cT,oB,Ab (by omega),Int.toNat_natCast],by simpa using i1,fun j hj=>?_,by simp only;omega,fun h=>(by cases h),fun _=>by simp only;omega⟩
     simp only at hj
     rw [List.getElem?_set] at hj
     by_cases hji:i=j
     ·subst hji
      refine M8 hx fun hlat=>?_
      have hk:=hR x (List.mem_of_getElem? hx)
      rw [Fj hlat] at hk;unfold cnd at hc;rw [hx] at hc;simp only [hlat,Bool.not_true,Bool.false_or,Bool.and_eq_true] at hc;rw [List.getD_eq_getElem?_getD,List.getD_eq_getElem?_getD] at hc
      constructor
      ·refine i2 _ ?_
       cases hq:l[x.a.toNat]? with
       | none=>rw [hq] at hc;simp at hc
       | some v=>rw [hq] at hc;simp at hc;rw [hc.1]
      ·refine i2 _ ?_
       cases hq:l[x.b.toNat]? with
       | none=>rw [hq] at hc;simp at hc
       | some v=>rw [hq] at hc;simp at hc;rw [hc.2]
     ·rw [if_neg hji] at hj;exact i2 j hj)
  (by
   rintro n ⟨m,l⟩ ⟨i1,i2,i3,i4,i5⟩;refine ⟨(m,l),?_,i1,i2,i4,i5⟩;simp only [De];rw [dF (by omega),cF_]) (by rw [FUv];omega) (false,l0) ⟨h0,hs,Nat.le_refl _,fun _=>⟨rfl,fun j hj=>by omega⟩,fun h=>by cases h⟩
 obtain ⟨a,b,c,d⟩:=h2;exact ⟨o.1,o.2,h1,a,b,c,d⟩
theorem H6 {L:List ANd} {l:List Bool} (hl:l.length=L.length) (hR:InL L) (hc:∀ j,j<L.length->cnd L l j=true->l[j]? = some true):∀ (k i:Nat),i<L.length->endk L k i=true->l[i]? = some true
 | 0,i,_,h=>by simp [endk] at h
 | k+1,i,hi,h=>by
  refine hc i hi ?_;unfold endk at h;unfold cnd
  have hx:L[i]? = some L[i]:=List.getElem?_eq_getElem hi
  rw [hx] at h ⊢
  simp only at h ⊢
  cases hlat:latB (L[i]).kind with
  | false=>rfl
  | true =>
   have hk:=hR L[i] (List.getElem_mem hi)
   rw [Fj hlat] at hk;obtain ⟨a0,a1⟩:=hk (L[i]).a (by simp);obtain ⟨b0,b1⟩:=hk (L[i]).b (by simp);rw [hlat] at h;simp only [Bool.not_true,Bool.false_or,Bool.and_eq_true] at h ⊢
   have e1:=H6 hl hR hc k _ (by omega) h.1
   have e2:=H6 hl hR hc k _ (by omega) h.2
   rw [List.getD_eq_getElem?_getD,List.getD_eq_getElem?_getD,e1,e2];exact ⟨rfl,rfl⟩
theorem T4 {t:ATy} (hR:InL t.l) (hlen:t.l.length<=2001) :
  ∃ l,DT t FU (true,List.replicate t.l.length false)=some l/\l.length=t.l.length/\∀ i,i<t.l.length->(l[i]? = some true↔Ends t.l i):=by
 obtain ⟨l,h1,h2,h3,h4⟩:=N3 (φ:=DT t) (fun s=>2*(t.l.length - s.2.count true)+(if s.1=true then 1 else 0))
  (fun s=>s.2.length=t.l.length/\(∀ i:Nat,s.2[i]? = some true->Ends t.l i)/\(s.1=false->∀ j,j<t.l.length->cnd t.l s.2 j=true->s.2[j]? = some true))
  (fun l=>l.length=t.l.length/\(∀ i:Nat,l[i]? = some true->Ends t.l i)/\∀ j,j<t.l.length->cnd t.l l j=true->l[j]? = some true)
  (by
   rintro n ⟨m,l⟩ ⟨i1,i2,i3⟩
   simp only at i1 i2 i3
   cases m with
   | false=>exact .inr ⟨l,⟨i1,i2,i3 rfl⟩,by simp only [DT];rfl⟩
   | true =>
    obtain ⟨m,l',e1,e2,e3,e4,e5⟩:=pass hR hlen l i1 i2;refine .inl ⟨(m,l'),⟨e2,e3,fun hm=>?_⟩,?_,?_⟩
    ·simp only at hm ⊢
     obtain ⟨rfl,h⟩:=e4 hm;exact h
    ·have hc1:l'.count true<=t.l.length:=by rw [<- e2];exact List.count_le_length
     cases m with
     | false=>obtain ⟨rfl,_⟩:=e4 rfl;simp
     | true=>have:=e5 rfl;simp;omega
    ·simp only [DT]
     rw [cT,e1,oB])
  FU (true,List.replicate t.l.length false) ⟨by simp,fun i hi=>by rw [List.getElem?_replicate] at hi;split at hi <;> simp at hi,fun h=>by cases h⟩ (by rw [FUv];simp only [List.count_replicate];simp;omega)
 exact ⟨l,h1,h2,fun i hi=>⟨h3 i,fun ⟨k,hk⟩=>H6 h2 hR h4 k i hi hk⟩⟩
theorem PC (l:List Bool) (h:l.length<=2001):DX l FU 0=some (if (∀ b∈l,b=true) then .go () else .ret 4):=by
 rw [FN (φ:=DX l) (l:=l) 4 (fun _ b=>b=true) ?_ ?_ (by rw [FUv];omega)]
 ·have e:(∀ (i:Nat) (x:Bool),l[i]? = some x->x=true)↔∀ b∈l,b=true:=⟨fun h b hb=>by obtain ⟨i,hi⟩:=List.getElem?_of_mem hb;exact h i b hi,fun h i x hx=>h x (List.mem_of_getElem? hx)⟩
  by_cases h2:∀ b∈l,b=true
  ·rw [if_pos (e.2 h2),if_pos h2]
  ·rw [if_neg (fun h3=>h2 (e.1 h3)),if_neg h2]
 ·intro n i x hx hi
  simp only [DX];rw [dT (show (i:Int)<l.length by omega),cT,getI hx,oB]
  cases x
  ·exact ⟨fun h=>(by cases h),fun _=>by rw [Bool.not_false,cT]⟩
  ·exact ⟨fun _=>by rw [Bool.not_true,cF_,Ab (by omega)],fun h=>absurd rfl h⟩
 ·intro n
  simp only [DX];rw [dF (by omega),cF_]
end Go.Proofs.YtkfnogdccpcmhaaGreatDoor
