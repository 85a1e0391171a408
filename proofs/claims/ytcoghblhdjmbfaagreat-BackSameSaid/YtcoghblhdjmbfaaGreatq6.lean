/- Part 6 of the proof: a program logic, what the functions compute, and what these answer; no condition. -/
import Derived.Test.YtcoghblhdjmbfaaGreatq5
import Derived.Shelf.Sort.Plain
import Derived.Ground.Names2Prog
import Derived.Shelf.Slices.CompactI
import Derived.Shelf.Slices.In.SortNone
import Derived.Test.YtcoghblhdjmbfaaGreatProg
set_option linter.unusedVariables false
set_option linter.unusedSimpArgs false
set_option maxRecDepth 100000
set_option maxHeartbeats 2000000
namespace Go.Proofs.YtcoghblhdjmbfaaGreat
open Go.V Tryz
theorem Py {a1:ATy} {b1:ATy} {r_1:ATy} {r_2:Int} (hm:Gc a1 b1=some (r_1,r_2)):Fn0 Tryz.prog 43 [ATy.d a1,ATy.d b1] (.tup [ATy.d r_1,.i64 r_2]):=by
 unfold Gc at hm;refine Ae func43 rfl ntmps43 rfl fun H0 fr w0=>?_;refine zq4 ?_;refine F7 fun b1=>?_;refine zq3 ?_;obtain ⟨hg1,hm⟩:=Aa hm;refine Oy [0,3,6] [8] [1,2,4,5] [7] [] AY (by decide +kernel) (by decide +kernel) rfl ?_;refine MT rfl ?_;refine Eh rfl rfl rfl rfl rfl rfl (oFa Fi rfl rfl rfl) ?_;refine Eh rfl rfl rfl rfl rfl rfl (BK isAgg29 rfl rfl) ?_;refine MT rfl ?_;refine Eh rfl rfl rfl rfl rfl rfl (oFa QB rfl rfl rfl) ?_;refine Eh rfl rfl rfl rfl rfl rfl (BK isAgg3 rfl rfl) ?_;refine MT rfl ?_;refine JN (R0:=fun d A=>∃ b,d = .v (.pointer (some ⟨b,0,none⟩))/\A=box b 31 [.list 4 ANd.d [],.i64 0]) rfl rfl rfl rfl (OpT.mono (AL zeroValue31 (cs:=[.list 4 ANd.d [],.i64 0]) rfl) (by rintro d ms' ⟨b,rfl,rfl⟩;exact ⟨_,⟨b,rfl,rfl⟩,rfl⟩)) ?_;refine MT rfl ?_;refine Re ?_;refine VF rfl rfl rfl rfl (Ax (xs:=[]) (f:=ANd.d) (l:=[]) runUnderlying29 sizeOf49 zeroValue49 rfl rfl rfl (fun _=>⟨rfl,rfl,rfl⟩) rfl (by simp [maxLen])) ?_;rintro _ _ ⟨a_r1,rfl,rfl⟩;refine ⟨(trivial:True),?_⟩;refine VF rfl rfl rfl rfl (Co (a:=_) 0 underlying29 type49 rfl rfl rfl rfl rfl rfl rfl (fun _=>rfl) (fun _=>rfl) hg1 (BJ hg1 rfl)) ?_;rintro _ _ ⟨a_r1,cap_r1,rfl,rfl⟩;refine ⟨(trivial:True),?_⟩;refine VF rfl rfl rfl rfl zb31a ?_;rintro _ _ ⟨rfl,rfl⟩;refine ⟨(trivial:True),?_⟩;refine TK [(7,6)] rfl ?_;rintro _ _ ⟨b3,rfl,rfl⟩
 show _/\_
 refine ⟨(trivial:True),?_⟩;refine Fa rfl rfl rfl (oSb 0 sizeOf31 rfl rfl rfl rfl rfl rfl rfl rfl (nB rfl)) ?_;rintro _ _ rfl;refine ⟨(trivial:True),?_⟩;refine Ek ?_;refine zq12 ?_;obtain ⟨o_1,hj1,hm1⟩:=bS hm;refine Al [(4,_),(6,_),(7,_)] [(2,_)] (fun (st:(Int×(List ANd))) (hid:(Option Addr×Nat))=>match st,hid with | (z1,l1),(a_r1,cap_r1)=>[]) (fun F (st:(Int×(List ANd))) (hid:(Option Addr×Nat))=>match st,hid with | (z1,l1),(a_r1,cap_r1)=>[box b3 31 [.v (.slice a_r1 l1.length cap_r1),.i64 z1],row a_r1 cap_r1 49 4 ANd.d l1,(nthF F 0)]) (fun st=>st=o_1) ⟨rfl,rfl,rfl,trivial⟩ ⟨rfl,trivial⟩ ?_ ?_
 ·refine Aq ?_
  refine Am [(3,_),(4,_),(6,_),(7,_)] [(2,_)] (fun (st:(Int×Int×(List ANd))) (hid:(Option Addr×Nat))=>match st,hid with | (i1,z2,l2),(a_r1,cap_r1)=>[(8,.i64 i1)]) (fun F (st:(Int×Int×(List ANd))) (hid:(Option Addr×Nat))=>match st,hid with | (i1,z2,l2),(a_r1,cap_r1)=>[box b3 31 [.v (.slice a_r1 l2.length cap_r1),.i64 z2],row a_r1 cap_r1 49 4 ANd.d l2,(nthF F 0)]) (_,_) hj1 (fun _=>rfl) ⟨rfl,rfl,rfl,rfl,trivial⟩ ⟨rfl,trivial⟩ ⟨rfl,trivial⟩ rfl ?_;rintro n ⟨i1,z2,l2⟩ ⟨a_r1,cap_r1⟩ hj1;rw [DM] at hj1;refine At (L':=[(8,.i64 i1),(3,_),(4,_),(6,_),(7,_)]) (ms':=[box b3 31 [.v (.slice a_r1 l2.length cap_r1),.i64 z2],row a_r1 cap_r1 49 4 ANd.d l2,_]) rfl rfl ?_;refine zq9 ?_;refine zcn hj1 (fun hc1 hj1=>?_) (fun hc1 hj1=>?_)
  ·refine zq8 ?_
   obtain ⟨x1,hx2,hj1⟩:=bS hj1;refine Ak rfl rfl rfl (oIm runUnderlying29 sizeOf49 rfl rfl hx2) ?_;refine zq1 ?_;refine NF fun b4=>?_;refine zst 0 ?_;refine Aj (ms':=[box b4 49 [_,_,_,_],box b3 31 [_,_],_,box b1 31 [_,_]]) rfl ?_;refine zq8 ?_
   apply Cv [(3,_),(4,_),(6,_),(7,_),(8,_),(9,_)] 4 41 (t:=37) ⟨rfl,rfl,rfl,rfl,rfl,rfl,trivial⟩ rfl
   ·intro hg_1 hk1
    refine zq4 ?_;exact zgm hk1
   ·intro hg_1 hk1
    refine zq4 ?_;exact zgm hk1
   refine zq1 ?_
   apply Cv [(3,_),(4,_),(6,_),(7,_),(8,_),(9,_)] 4 46 (t:=42) ⟨rfl,rfl,rfl,rfl,rfl,rfl,trivial⟩ rfl
   ·intro hg_2 hk2
    refine zq4 ?_;exact zgm hk2
   ·intro hg_2 hk2
    refine zq4 ?_;exact zgm hk2
   refine gNl ?_;obtain ⟨o_2,hj2,hm2⟩:=bS hj1;refine Al [(3,_),(4,_),(6,_),(7,_),(8,_),(9,_)] [(1,_),(2,_),(3,_)] (fun (st:(Int×Int×Int×(List AFd))) (hid:Unit)=>match st,hid with | (z3,z4,z5,z6),_=>[]) (fun F (st:(Int×Int×Int×(List AFd))) (hid:Unit)=>match st,hid with | (z3,z4,z5,z6),_=>[box b4 49 [.i64 z3,.i64 z4,.i64 z5,.list 2 AFd.d z6],(nthF F 0),(nthF F 1),(nthF F 2)]) (fun st=>st=o_2) ⟨rfl,rfl,rfl,rfl,rfl,rfl,trivial⟩ ⟨rfl,rfl,rfl,trivial⟩ ?_ ?_
   ·refine zcn hj2 (fun hc2 hj2=>?_) (fun hc2 hj2=>?_)
    ·refine zq4 ?_
     obtain ⟨hg3,hj2⟩:=Aa hj2;refine zq4 ?_;obtain ⟨hg4,hj2⟩:=Aa hj2;refine zq2 ?_;refine zst 0 ?_;refine Aj (ms':=[box b4 49 [_,_,_,_],box b3 31 [_,_],_,box b1 31 [_,_]]) rfl ?_;refine zq1 ?_;refine zst 0 ?_;refine Aj (ms':=[box b4 49 [_,_,_,_],box b3 31 [_,_],_,box b1 31 [_,_]]) rfl ?_;refine gNl ?_;exact ⟨_,(),Ac hj2,trivial,⟨rfl,rfl,rfl,rfl,rfl,rfl,trivial⟩,[],rfl⟩
    ·refine gSp ?_
     exact ⟨_,(),Ac hj2,trivial,⟨rfl,rfl,rfl,rfl,rfl,rfl,trivial⟩,[],rfl⟩
   ·rintro ⟨z3,z4,z5,z6⟩ _ hst
    subst hst;refine An (L':=[(3,_),(4,_),(6,_),(7,_),(8,_),(9,_)]) (ms':=[box b4 49 [.i64 z3,.i64 z4,.i64 z5,.list 2 AFd.d z6],_,_,_]) rfl rfl ?_;refine zq2 ?_;refine AJ rfl rfl rfl (Ax (xs:=[]) (f:=AFd.d) (l:=[]) runUnderlying47 sizeOf71 zeroValue71 rfl rfl rfl (fun _=>⟨rfl,rfl,rfl⟩) rfl (by simp [maxLen])) ?_;rintro _ _ ⟨a_r2,rfl,rfl⟩;refine zq7 ?_;obtain ⟨o_3,hj3,hm3⟩:=bS hm2;refine Al [(3,_),(4,_),(6,_),(7,_),(8,_),(9,_)] [(1,_),(2,_),(3,_),(4,_)] (fun (st:(List AFd)) (hid:(Option Addr×Nat))=>match st,hid with | l3,(a_r2,cap_r2)=>[(10,.v (.slice a_r2 l3.length cap_r2))]) (fun F (st:(List AFd)) (hid:(Option Addr×Nat))=>match st,hid with | l3,(a_r2,cap_r2)=>[row a_r2 cap_r2 71 2 AFd.d l3,(nthF F 0),(nthF F 1),(nthF F 2),(nthF F 3)]) (fun st=>st=o_3) ⟨rfl,rfl,rfl,rfl,rfl,rfl,trivial⟩ ⟨rfl,rfl,rfl,rfl,trivial⟩ ?_ ?_
    ·refine Aq ?_
     refine Am [(3,_),(4,_),(6,_),(7,_),(8,_),(9,_)] [(1,_),(2,_),(3,_),(4,_)] (fun (st:(Int×(List AFd))) (hid:(Option Addr×Nat))=>match st,hid with | (k1,l4),(a_r2,cap_r2)=>[(10,.v (.slice a_r2 l4.length cap_r2)),(11,.i64 k1)]) (fun F (st:(Int×(List AFd))) (hid:(Option Addr×Nat))=>match st,hid with | (k1,l4),(a_r2,cap_r2)=>[row a_r2 cap_r2 71 2 AFd.d l4,(nthF F 0),(nthF F 1),(nthF F 2),(nthF F 3)]) (_,_) hj3 (fun _=>rfl) ⟨rfl,rfl,rfl,rfl,rfl,rfl,trivial⟩ ⟨rfl,rfl,rfl,rfl,trivial⟩ ⟨rfl,rfl,trivial⟩ rfl ?_;rintro n ⟨k1,l4⟩ ⟨a_r2,cap_r2⟩ hj3;rw [Dj] at hj3;refine At (L':=[(10,.v (.slice a_r2 l4.length cap_r2)),(11,.i64 k1),(3,_),(4,_),(6,_),(7,_),(8,_),(9,_)]) (ms':=[row a_r2 cap_r2 71 2 AFd.d l4,_,_,_,_]) rfl rfl ?_;refine zq9 ?_;refine zcn hj3 (fun hc3 hj3=>?_) (fun hc3 hj3=>?_)
     ·refine zq3 ?_
      obtain ⟨x2,hx5,hj3⟩:=bS hj3;obtain ⟨x3,hx6,hj3⟩:=bS hj3;obtain ⟨hg7,hj3⟩:=Aa hj3;refine zdr 17 ?_;refine zq4 ?_;refine Av rfl rfl rfl (oIm runUnderlying47 sizeOf71 rfl rfl hx5) ?_;refine zq5 ?_;refine Av rfl rfl rfl (oIm runUnderlying47 sizeOf71 rfl rfl hx6) ?_;refine zq4 ?_;refine Av rfl rfl rfl zb71a ?_;refine Av rfl rfl rfl (Ai (xs:=[_]) (f:=AFd.d) (l:=[(⟨x2.name,(x3.at_+(a1.l.length:Int))⟩:AFd)]) runUnderlying47 sizeOf71 zeroValue71 rfl rfl rfl (fun _=>⟨rfl,rfl,rfl⟩) rfl) ?_;refine EB ?_;obtain ⟨hg8,hj3⟩:=Aa hj3;refine zap 0 hg8 fun a_r2 cap_r2=>?_;refine Aj (ms':=[_,box b4 49 [_,_,_,_],box b3 31 [_,_],_,box b1 31 [_,_]]) rfl ?_;refine zq4 ?_;obtain ⟨hg9,hj3⟩:=Aa hj3;refine zq3 ?_;exact ⟨_,(_,_),hj3,⟨rfl,rfl,trivial⟩,⟨rfl,rfl,rfl,rfl,rfl,rfl,trivial⟩,[],rfl⟩
     ·refine Au ?_
      exact ⟨_,(_,_),Ac hj3,⟨rfl,trivial⟩,⟨rfl,rfl,rfl,rfl,rfl,rfl,trivial⟩,[],rfl⟩
    ·rintro l3 ⟨a_r2,cap_r2⟩ hst
     subst hst;refine An (L':=[(10,.v (.slice a_r2 l3.length cap_r2)),(3,_),(4,_),(6,_),(7,_),(8,_),(9,_)]) (ms':=[row a_r2 cap_r2 71 2 AFd.d l3,_,_,_,_]) rfl rfl ?_;refine zq4 ?_;refine zst 1 ?_;refine Aj (ms':=[_,box b4 49 [_,_,_,_],box b3 31 [_,_],_,box b1 31 [_,_]]) rfl ?_;refine zq5 ?_;refine Ap (CP (i:=87) (q:=3) 0 rfl rfl rfl rfl rfl).refines ?_;refine Ak rfl rfl rfl (Ai (xs:=[_]) (f:=ANd.d) (l:=[(⟨z3,z4,z5,l3⟩:ANd)]) runUnderlying29 sizeOf49 zeroValue49 rfl rfl rfl (fun _=>⟨rfl,rfl,rfl⟩) rfl) ?_;obtain ⟨hg10,hm3⟩:=Aa hm3;refine zap 3 hg10 fun a_r1 cap_r1=>?_;refine Aj (ms':=[_,box b4 49 [_,_,_,_],box b3 31 [_,_],_,box b1 31 [_,_]]) rfl ?_;refine zq1 ?_;refine zst 2 ?_;refine Aj (ms':=[_,box b4 49 [_,_,_,_],box b3 31 [_,_],_,box b1 31 [_,_]]) rfl ?_;refine zq3 ?_;obtain ⟨hg11,hm3⟩:=Aa hm3;refine zq3 ?_;exact ⟨_,(_,_),hm3,⟨rfl,trivial⟩,⟨rfl,rfl,rfl,rfl,trivial⟩,[_,_],rfl⟩
  ·refine Au ?_
   exact ⟨_,(_,_),Ac hj1,trivial,⟨rfl,rfl,rfl,trivial⟩,[],rfl⟩
 ·rintro ⟨z1,l1⟩ ⟨a_r1,cap_r1⟩ hst
  subst hst;refine An (L':=[(4,_),(6,_),(7,_)]) (ms':=[box b3 31 [.v (.slice a_r1 l1.length cap_r1),.i64 z1],row a_r1 cap_r1 49 4 ANd.d l1,_]) rfl rfl ?_;refine zq3 ?_;refine Ap (CP (i:=91) (q:=0) 1 rfl rfl rfl rfl rfl).refines ?_;refine zq1 ?_;refine zst 2 ?_;refine Aj (ms':=[box b3 31 [_,_],_,box b1 31 [_,_]]) rfl ?_;refine zq2 ?_
  cases hm1;exact Af zr2
def D2 (l1:(List Int)) (i1:Int) (l3:(List Int)):Nat->Int->Option Int
 | 0,_=>none
 | n+1,k2 =>
  bif (decide (k2<(l3.length:Int))) then ((idx l3 k2).bind fun x1 =>
  (idx l1 i1).bind fun x2 =>
  bif (decide (x1<x2)) then
   grd (InR (k2+1)) <|
   D2 l1 i1 l3 n (k2+1)
  else
   some k2) else (some k2)
def Dv (l1:(List Int)):Nat->(Int×(List Int))->Option (List Int)
 | 0,_=>none
 | n+1,(i1,l3) =>
  bif (decide (i1<(l1.length:Int))) then
   (D2 l1 i1 l3 FU 0:Option Int).bind fun k1 =>
   bif (decide (k1<(l3.length:Int))) then ((idx l3 k1).bind fun x3 =>
   (idx l1 i1).bind fun x4 =>
   bif (decide (x3=x4)) then
    grd (InR (i1+1)) <|
    Dv l1 n ((i1+1),l3)
   else
    (sli l3 0 k1).bind fun l4 =>
    grd ((0+l4.length)*8<=140737488355328) <|
    (idx l1 i1).bind fun x5 =>
    grd ((([]++l4).length+([x5]:List _).length)*8<=140737488355328) <|
    (sli l3 k1 (l3.length:Int)).bind fun l5 =>
    grd (((([]++l4)++[x5]).length+l5.length)*8<=140737488355328) <|
    grd (InR (i1+1)) <|
    Dv l1 n ((i1+1),((([]++l4)++[x5])++l5))) else ((sli l3 0 k1).bind fun l6 =>
   grd ((0+l6.length)*8<=140737488355328) <|
   (idx l1 i1).bind fun x6 =>
   grd ((([]++l6).length+([x6]:List _).length)*8<=140737488355328) <|
   (sli l3 k1 (l3.length:Int)).bind fun l7 =>
   grd (((([]++l6)++[x6]).length+l7.length)*8<=140737488355328) <|
   grd (InR (i1+1)) <|
   Dv l1 n ((i1+1),((([]++l6)++[x6])++l7)))
  else
   some l3
def Dr (l1:(List Int)):Option (List Int):=
 (Dv l1 FU (0,[]):Option (List Int)).bind fun l2 =>
 some l2
theorem Fx {l1:(List Int)} {r_1:(List Int)} (hm:Dr l1=some r_1):Fn0 Tryz.prog 74 [.list 1 D.i64 l1] (.list 1 D.i64 r_1):=by
 unfold Dr at hm;refine Ae func74 rfl ntmps74 rfl fun H0 fr w0=>?_;refine zq3 ?_;refine Ap (nilE (i:=2) (sz:=1) (f:=D.i64) rfl).refines ?_;refine zq3 ?_;refine AJ rfl rfl rfl (Ax (xs:=[]) (f:=D.i64) (l:=[]) runUnderlying43 sizeOf3 zeroValue3 rfl rfl rfl (fun _=>⟨rfl,rfl,rfl⟩) rfl (by simp [maxLen])) ?_;rintro _ _ ⟨a_r1,rfl,rfl⟩;refine zq7 ?_;obtain ⟨o_1,hj1,hm1⟩:=bS hm;refine Al [] [] (fun (st:(List Int)) (hid:(Option Addr×Nat))=>match st,hid with | l2,(a_r1,cap_r1)=>[(3,.v (.slice a_r1 l2.length cap_r1))]) (fun F (st:(List Int)) (hid:(Option Addr×Nat))=>match st,hid with | l2,(a_r1,cap_r1)=>[row a_r1 cap_r1 3 1 D.i64 l2]) (fun st=>st=o_1) trivial trivial ?_ ?_
 ·refine Aq ?_
  refine Am [(0,_)] [] (fun (st:(Int×(List Int))) (hid:(Option Addr×Nat))=>match st,hid with | (i1,l3),(a_r1,cap_r1)=>[(3,.v (.slice a_r1 l3.length cap_r1)),(4,.i64 i1)]) (fun F (st:(Int×(List Int))) (hid:(Option Addr×Nat))=>match st,hid with | (i1,l3),(a_r1,cap_r1)=>[row a_r1 cap_r1 3 1 D.i64 l3]) (_,_) hj1 (fun _=>rfl) ⟨rfl,trivial⟩ trivial ⟨rfl,rfl,trivial⟩ rfl ?_;rintro n ⟨i1,l3⟩ ⟨a_r1,cap_r1⟩ hj1;rw [Dv] at hj1;refine At (L':=[(3,.v (.slice a_r1 l3.length cap_r1)),(4,.i64 i1),(0,_)]) (ms':=[row a_r1 cap_r1 3 1 D.i64 l3]) rfl rfl ?_;refine zq8 ?_;refine zcn hj1 (fun hc1 hj1=>?_) (fun hc1 hj1=>?_)
  ·refine zq8 ?_
   obtain ⟨o_2,hj2,hm2⟩:=bS hj1;refine Al [(0,_),(3,_),(4,_)] [(0,_)] (fun (st:Int) (hid:Unit)=>match st,hid with | k1,_=>[(5,.i64 k1)]) (fun F (st:Int) (hid:Unit)=>match st,hid with | k1,_=>[(nthF F 0)]) (fun st=>st=o_2) ⟨rfl,rfl,rfl,trivial⟩ ⟨rfl,trivial⟩ ?_ ?_
   ·refine Aq ?_
    refine Am [(0,_),(3,_),(4,_)] [(0,_)] (fun (st:Int) (hid:Unit)=>match st,hid with | k2,_=>[(5,.i64 k2)]) (fun F (st:Int) (hid:Unit)=>match st,hid with | k2,_=>[(nthF F 0)]) () hj2 (fun _=>rfl) ⟨rfl,rfl,rfl,trivial⟩ ⟨rfl,trivial⟩ ⟨rfl,trivial⟩ rfl ?_;rintro n k2 _ hj2;rw [D2] at hj2;refine At (L':=[(5,.i64 k2),(0,_),(3,_),(4,_)]) (ms':=[_]) rfl rfl ?_;refine zq2 ?_
    rcases Ex hj2 with ⟨hg_1,hj2⟩ | ⟨hg_1,hj2⟩
    ·
     skip
     obtain ⟨x1,hx1,hj2⟩:=bS hj2;obtain ⟨x2,hx2,hj2⟩:=bS hj2;refine zdr 15 ?_;refine zq2 ?_;refine Av rfl rfl rfl (.view (peekE (i:=14) 0 rfl rfl rfl) (Em runUnderlying43 rfl)) ?_;refine zq4 ?_;refine DT rfl rfl rfl hg_1 rfl rfl (.view (peekE (i:=18) 0 rfl rfl rfl) (oIm runUnderlying43 sizeOf3 rfl rfl hx1)) ?_;refine zq3 ?_;refine DT rfl rfl rfl hg_1 rfl rfl (oIm runUnderlying43 sizeOf3 rfl rfl hx2) ?_;refine zq5 ?_;refine zcn hj2 (fun hc2 hj2=>?_) (fun hc2 hj2=>?_)
     ·refine zq4 ?_
      obtain ⟨hg3,hj2⟩:=Aa hj2;refine zq3 ?_;exact ⟨_,(),hj2,⟨rfl,trivial⟩,⟨rfl,rfl,rfl,trivial⟩,[],rfl⟩
     ·refine Au ?_
      exact ⟨_,(),Ac hj2,⟨rfl,trivial⟩,⟨rfl,rfl,rfl,trivial⟩,[],rfl⟩
    ·
     skip
     refine zdr 15 ?_;refine zq2 ?_;refine Av rfl rfl rfl (.view (peekE (i:=14) 0 rfl rfl rfl) (Em runUnderlying43 rfl)) ?_;refine zq14 ?_;refine Bo rfl rfl ?_;refine Au ?_;exact ⟨_,(),Ac hj2,⟨rfl,trivial⟩,⟨rfl,rfl,rfl,trivial⟩,[],rfl⟩
   ·rintro k1 _ hst
    subst hst;refine An (L':=[(5,.i64 k1),(0,_),(3,_),(4,_)]) (ms':=[_]) rfl rfl ?_;refine zq2 ?_
    rcases Ex hm2 with ⟨hg_2,hm2⟩ | ⟨hg_2,hm2⟩
    ·
     skip
     obtain ⟨x3,hx4,hm2⟩:=bS hm2;obtain ⟨x4,hx5,hm2⟩:=bS hm2;refine zdr 15 ?_;refine zq2 ?_;refine Av rfl rfl rfl (.view (peekE (i:=31) 0 rfl rfl rfl) (Em runUnderlying43 rfl)) ?_;refine zq4 ?_;refine DT rfl rfl rfl hg_2 rfl rfl (.view (peekE (i:=35) 0 rfl rfl rfl) (oIm runUnderlying43 sizeOf3 rfl rfl hx4)) ?_;refine zq3 ?_;refine DT rfl rfl rfl hg_2 rfl rfl (oIm runUnderlying43 sizeOf3 rfl rfl hx5) ?_;refine zq5 ?_;refine zcn hm2 (fun hc3 hm2=>?_) (fun hc3 hm2=>?_)
     ·refine Au ?_
      refine zq2 ?_;obtain ⟨hg6,hm2⟩:=Aa hm2;refine zq3 ?_;exact ⟨_,(_,_),hm2,⟨rfl,rfl,trivial⟩,⟨rfl,trivial⟩,[],rfl⟩
     ·refine gSp ?_
      obtain ⟨l4,hx7,hm2⟩:=bS hm2;obtain ⟨hg8,hm2⟩:=Aa hm2;obtain ⟨x5,hx9,hm2⟩:=bS hm2;obtain ⟨hg10,hm2⟩:=Aa hm2;obtain ⟨l5,hx11,hm2⟩:=bS hm2;obtain ⟨hg12,hm2⟩:=Aa hm2;refine Iu 2 [0,4,10,14,15] [1,2,3,5,6,7,8,9,11,12,13] [3,13] (by decide +kernel) (by decide +kernel) AY (by decide +kernel) (by decide +kernel) rfl ?_;refine E7 rfl ?_;refine zq2 ?_;refine Mr rfl rfl rfl rfl rfl (.view (peekE (i:=46) 0 rfl rfl rfl) (Bu runUnderlying43 sizeOf3 rfl rfl ⟨_,rfl⟩ hx7)) ?_;refine E7 rfl ?_;refine zq2 ?_;refine Fo rfl rfl rfl rfl rfl rfl (oIm runUnderlying43 sizeOf3 rfl rfl hx9) ?_;refine zq1 ?_;refine Fo rfl rfl rfl rfl rfl rfl (zs1 D.i64) ?_;refine E7 rfl ?_;refine zq2 ?_;refine Mr rfl rfl rfl rfl rfl (.view (peekE (i:=56) 0 rfl rfl rfl) (Bu runUnderlying43 sizeOf3 rfl ⟨_,rfl⟩ rfl hx11)) ?_;refine E7 rfl ?_;refine E7 rfl ?_;refine KP ?_;refine EU rfl rfl rfl rfl (Ax (xs:=[]) (f:=D.i64) (l:=[]) runUnderlying43 sizeOf3 zeroValue3 rfl rfl rfl (fun _=>⟨rfl,rfl,rfl⟩) rfl (by simp [maxLen])) ?_;rintro _ _ ⟨a_r2,rfl,rfl⟩;refine ⟨fun _=>⟨⟨trivial,.view (peekE (i:=46) 1 rfl rfl rfl) (Bu runUnderlying43 sizeOf3 rfl rfl ⟨_,rfl⟩ hx7)⟩,.view (peekE (i:=56) 1 rfl rfl rfl) (Bu runUnderlying43 sizeOf3 rfl ⟨_,rfl⟩ rfl hx11)⟩,?_⟩;refine EU rfl rfl rfl rfl (Co (a:=_) 0 underlying43 type3 rfl rfl rfl rfl rfl rfl rfl (fun _=>rfl) (fun _=>rfl) hg8 (BJ hg8 rfl)) ?_;rintro _ _ ⟨a_r2,cap_r2,rfl,rfl⟩;refine ⟨fun _=>⟨⟨trivial,.view (peekE (i:=46) 1 rfl rfl rfl) (Bu runUnderlying43 sizeOf3 rfl rfl ⟨_,rfl⟩ hx7)⟩,.view (peekE (i:=56) 1 rfl rfl rfl) (Bu runUnderlying43 sizeOf3 rfl ⟨_,rfl⟩ rfl hx11)⟩,?_⟩;refine EU rfl rfl rfl rfl (Co (a:=_) 0 underlying43 type3 rfl rfl rfl rfl rfl rfl rfl (fun _=>rfl) (fun _=>rfl) hg10 (BJ hg10 rfl)) ?_;rintro _ _ ⟨a_r2,cap_r2,rfl,rfl⟩;refine ⟨fun _=>⟨⟨trivial,.view (peekE (i:=46) 1 rfl rfl rfl) (Bu runUnderlying43 sizeOf3 rfl rfl ⟨_,rfl⟩ hx7)⟩,.view (peekE (i:=56) 1 rfl rfl rfl) (Bu runUnderlying43 sizeOf3 rfl ⟨_,rfl⟩ rfl hx11)⟩,?_⟩;refine EU rfl rfl rfl rfl (Co (a:=_) 0 underlying43 type3 rfl rfl rfl rfl rfl rfl rfl (fun _=>rfl) (fun _=>rfl) hg12 (BJ hg12 rfl)) ?_;rintro _ _ ⟨a_r2,cap_r2,rfl,rfl⟩;refine ⟨fun hc=>absurd hc (by decide),?_⟩;refine EU rfl rfl rfl rfl (oAs rfl) ?_;rintro _ _ ⟨rfl,rfl⟩;refine ⟨fun hc=>absurd hc (by decide),?_⟩;refine Je ?_;refine BY (Iz 0 1 rfl rfl rfl rfl) ?_;refine zq2 ?_;obtain ⟨hg13,hm2⟩:=Aa hm2;refine zq3 ?_;exact ⟨_,(_,_),hm2,⟨rfl,rfl,trivial⟩,⟨rfl,trivial⟩,[],rfl⟩
    ·
     skip
     refine zdr 15 ?_;refine zq2 ?_;refine Av rfl rfl rfl (.view (peekE (i:=31) 0 rfl rfl rfl) (Em runUnderlying43 rfl)) ?_;refine zq14 ?_;refine Bo rfl rfl ?_;refine gSp ?_;obtain ⟨l6,hx14,hm2⟩:=bS hm2;obtain ⟨hg15,hm2⟩:=Aa hm2;obtain ⟨x6,hx16,hm2⟩:=bS hm2;obtain ⟨hg17,hm2⟩:=Aa hm2;obtain ⟨l7,hx18,hm2⟩:=bS hm2;obtain ⟨hg19,hm2⟩:=Aa hm2;refine Iu 2 [0,4,10,14,15] [1,2,3,5,6,7,8,9,11,12,13] [3,13] (by decide +kernel) (by decide +kernel) AY (by decide +kernel) (by decide +kernel) rfl ?_;refine E7 rfl ?_;refine zq2 ?_;refine Mr rfl rfl rfl rfl rfl (.view (peekE (i:=46) 0 rfl rfl rfl) (Bu runUnderlying43 sizeOf3 rfl rfl ⟨_,rfl⟩ hx14)) ?_;refine E7 rfl ?_;refine zq2 ?_;refine Fo rfl rfl rfl rfl rfl rfl (oIm runUnderlying43 sizeOf3 rfl rfl hx16) ?_;refine zq1 ?_;refine Fo rfl rfl rfl rfl rfl rfl (zs1 D.i64) ?_;refine E7 rfl ?_;refine zq2 ?_;refine Mr rfl rfl rfl rfl rfl (.view (peekE (i:=56) 0 rfl rfl rfl) (Bu runUnderlying43 sizeOf3 rfl ⟨_,rfl⟩ rfl hx18)) ?_;refine E7 rfl ?_;refine E7 rfl ?_;refine KP ?_;refine EU rfl rfl rfl rfl (Ax (xs:=[]) (f:=D.i64) (l:=[]) runUnderlying43 sizeOf3 zeroValue3 rfl rfl rfl (fun _=>⟨rfl,rfl,rfl⟩) rfl (by simp [maxLen])) ?_;rintro _ _ ⟨a_r3,rfl,rfl⟩;refine ⟨fun _=>⟨⟨trivial,.view (peekE (i:=46) 1 rfl rfl rfl) (Bu runUnderlying43 sizeOf3 rfl rfl ⟨_,rfl⟩ hx14)⟩,.view (peekE (i:=56) 1 rfl rfl rfl) (Bu runUnderlying43 sizeOf3 rfl ⟨_,rfl⟩ rfl hx18)⟩,?_⟩;refine EU rfl rfl rfl rfl (Co (a:=_) 0 underlying43 type3 rfl rfl rfl rfl rfl rfl rfl (fun _=>rfl) (fun _=>rfl) hg15 (BJ hg15 rfl)) ?_;rintro _ _ ⟨a_r3,cap_r3,rfl,rfl⟩;refine ⟨fun _=>⟨⟨trivial,.view (peekE (i:=46) 1 rfl rfl rfl) (Bu runUnderlying43 sizeOf3 rfl rfl ⟨_,rfl⟩ hx14)⟩,.view (peekE (i:=56) 1 rfl rfl rfl) (Bu runUnderlying43 sizeOf3 rfl ⟨_,rfl⟩ rfl hx18)⟩,?_⟩;refine EU rfl rfl rfl rfl (Co (a:=_) 0 underlying43 type3 rfl rfl rfl rfl rfl rfl rfl (fun _=>rfl) (fun _=>rfl) hg17 (BJ hg17 rfl)) ?_;rintro _ _ ⟨a_r3,cap_r3,rfl,rfl⟩;refine ⟨fun _=>⟨⟨trivial,.view (peekE (i:=46) 1 rfl rfl rfl) (Bu runUnderlying43 sizeOf3 rfl rfl ⟨_,rfl⟩ hx14)⟩,.view (peekE (i:=56) 1 rfl rfl rfl) (Bu runUnderlying43 sizeOf3 rfl ⟨_,rfl⟩ rfl hx18)⟩,?_⟩;refine EU rfl rfl rfl rfl (Co (a:=_) 0 underlying43 type3 rfl rfl rfl rfl rfl rfl rfl (fun _=>rfl) (fun _=>rfl) hg19 (BJ hg19 rfl)) ?_;rintro _ _ ⟨a_r3,cap_r3,rfl,rfl⟩;refine ⟨fun hc=>absurd hc (by decide),?_⟩;refine EU rfl rfl rfl rfl (oAs rfl) ?_;rintro _ _ ⟨rfl,rfl⟩;refine ⟨fun hc=>absurd hc (by decide),?_⟩;refine Je ?_;refine BY (Iz 0 1 rfl rfl rfl rfl) ?_
     refine zq2 ?_;obtain ⟨hg20,hm2⟩:=Aa hm2;refine zq3 ?_;exact ⟨_,(_,_),hm2,⟨rfl,rfl,trivial⟩,⟨rfl,trivial⟩,[],rfl⟩
  ·refine Au ?_
   exact ⟨_,(_,_),Ac hj1,⟨rfl,trivial⟩,trivial,[],rfl⟩
 ·rintro l2 ⟨a_r1,cap_r1⟩ hst
  subst hst;refine An (L':=[(3,.v (.slice a_r1 l2.length cap_r1))]) (ms':=[row a_r1 cap_r1 3 1 D.i64 l2]) rfl rfl ?_;refine zq5 ?_;refine BY (peekE (i:=2) 0 rfl rfl rfl).refines ?_
  cases hm1;exact Af zr1
def CL (a1:(List Int)) (b1:(List Int)):Nat->Int->Option (Out Bool Unit)
 | 0,_=>none
 | n+1,i1 =>
  bif (decide (i1<(a1.length:Int))) then
   (idx a1 i1).bind fun x1 =>
   (idx b1 i1).bind fun x2 =>
   bif (!decide (x1=x2)) then
    some (Out.ret false)
   else
    grd (InR (i1+1)) <|
    CL a1 b1 n (i1+1)
  else
   some (Out.go (()))
def C8 (a1:(List Int)) (b1:(List Int)):Option Bool:=
 bif (!decide ((a1.length:Int)=(b1.length:Int))) then
  some false
 else
  ((CL a1 b1 FU 0:Option (Out Bool Unit))).bind (fun oo=>oo.on (fun r1=>some r1) (fun _ =>
  some true))
theorem Gw {a1:(List Int)} {b1:(List Int)} {r_1:Bool} (hm:C8 a1 b1=some r_1):Fn0 Tryz.prog 53 [.list 1 D.i64 a1,.list 1 D.i64 b1] (.bool r_1):=by
 unfold C8 at hm;refine Ae func53 rfl ntmps53 rfl fun H0 fr w0=>?_;refine zq13 ?_;refine zcn hm (fun hc1 hm=>?_) (fun hc1 hm=>?_)
 ·refine zq4 ?_
  cases hm;exact Af zr1
 ·refine zq6 ?_
  obtain ⟨o_1,hj1,hm1⟩:=bS hm;refine Al [] [] (fun (st:Unit) (hid:Unit)=>match st,hid with | _,_=>[]) (fun F (st:Unit) (hid:Unit)=>match st,hid with | _,_=>[]) (fun st=>Out.go (st)=o_1) trivial trivial ?_ ?_
  ·refine Aq ?_
   refine Am [(0,_),(1,_)] [] (fun (st:Int) (hid:Unit)=>match st,hid with | i1,_=>[(5,.i64 i1)]) (fun F (st:Int) (hid:Unit)=>match st,hid with | i1,_=>[]) () hj1 (fun _=>rfl) ⟨rfl,rfl,trivial⟩ trivial ⟨rfl,trivial⟩ rfl ?_;rintro n i1 _ hj1;rw [CL] at hj1;refine At (L':=[(5,.i64 i1),(0,_),(1,_)]) (ms':=[]) rfl rfl ?_;refine zq8 ?_;refine zcn hj1 (fun hc2 hj1=>?_) (fun hc2 hj1=>?_)
   ·refine zq4 ?_
    obtain ⟨x1,hx1,hj1⟩:=bS hj1;obtain ⟨x2,hx2,hj1⟩:=bS hj1;refine zdr 9 ?_;refine zq11 ?_;refine zcn hj1 (fun hc3 hj1=>?_) (fun hc3 hj1=>?_)
    ·refine zq4 ?_
     refine Af ?_;obtain rfl:=Ac hj1
     replace hm1:=B8 hm1
     cases hm1;exact zr1
    ·refine zq3 ?_
     obtain ⟨hg3,hj1⟩:=Aa hj1;refine zq3 ?_;exact ⟨_,(),hj1,⟨rfl,trivial⟩,⟨rfl,rfl,trivial⟩,[],rfl⟩
   ·refine Au ?_
    exact ⟨_,(),Ac hj1,trivial,trivial,[],rfl⟩
  ·rintro _ _ hst
   subst hst
   replace hm1:=DH hm1
   refine An (L':=[]) (ms':=[]) rfl rfl ?_;refine zq4 ?_
   cases hm1;exact Af zr1
def G4 (a1:RSeq) (b1:RSeq):Option Bool:=
 (C8 a1.l b1.l).bind fun x1 =>
 (bif x1 then ((C8 a1.r b1.r).bind fun x2 =>
 some x2) else (some false)).bind fun p1 =>
 some p1
theorem RP {a1:RSeq} {b1:RSeq} {r_1:Bool} (hm:G4 a1 b1=some r_1):Fn0 Tryz.prog 76 [RSeq.d a1,RSeq.d b1] (.bool r_1):=by
 unfold G4 at hm;refine Ae func76 rfl ntmps76 rfl fun H0 fr w0=>?_;refine zq12 ?_;obtain ⟨x1,hx1,hm⟩:=bS hm;refine zc0 (Gw hx1) ?_;refine zq1 ?_;obtain ⟨p1,hp_1,hm⟩:=bS hm;refine Bs [] 6 16 p1 (t:=10) trivial rfl (fun hg_1 hk1=>?_) (fun hg_1 hk1=>?_) ?_
 ·replace hp_1:=Bg hg_1 hp_1
  refine zq4 ?_;obtain ⟨x2,hx2,hp_1⟩:=bS hp_1;refine zcw (Gw hx2) ?_;refine zq1 ?_;exact zgb hk1 hp_1
 ·replace hp_1:=Be hg_1 hp_1
  refine zq6 ?_;exact zgb hk1 hp_1
 refine zq2 ?_
 cases hm;exact Af zr1
def Bx (q1:RSeq):Nat->(Int×Int)->Option Int
 | 0,_=>none
 | n+1,(n2,i1) =>
  bif (decide (i1<(q1.l.length:Int))) then
   (idx q1.l i1).bind fun x1 =>
   grd (InR (31*x1)) <|
   grd (InR (n2+(31*x1))) <|
   grd (InR (i1+1)) <|
   Bx q1 n ((n2+(31*x1)),(i1+1))
  else
   some n2
def Bv (q1:RSeq):Nat->(Int×Int)->Option Int
 | 0,_=>none
 | n+1,(n4,i2) =>
  bif (decide (i2<(q1.r.length:Int))) then
   (idx q1.r i2).bind fun x2 =>
   grd (InR (17*x2)) <|
   grd (InR (n4+(17*x2))) <|
   grd (InR (i2+1)) <|
   Bv q1 n ((n4+(17*x2)),(i2+1))
  else
   some n4
def BB (q1:RSeq):Option Int:=
 grd (InR (7*(q1.l.length:Int))) <|
 grd (InR (11*(q1.r.length:Int))) <|
 grd (InR ((7*(q1.l.length:Int))+(11*(q1.r.length:Int)))) <|
 (Bx q1 FU (((7*(q1.l.length:Int))+(11*(q1.r.length:Int))),0):Option Int).bind fun n1 =>
 (Bv q1 FU (n1,0):Option Int).bind fun n3 =>
 some (Int.tmod n3 997)
theorem Hb {q1:RSeq} {r_1:Int} (hm:BB q1=some r_1):Fn0 Tryz.prog 124 [RSeq.d q1] (.i64 r_1):=by
 unfold BB at hm;refine Ae func124 rfl ntmps124 rfl fun H0 fr w0=>?_;refine zq10 ?_;obtain ⟨hg1,hm⟩:=Aa hm;refine Ak rfl rfl rfl (Qw rfl rfl (CS hg1)) ?_;refine zq3 ?_;obtain ⟨hg2,hm⟩:=Aa hm;refine Ak rfl rfl rfl (Qw rfl rfl (CS hg2)) ?_;obtain ⟨hg3,hm⟩:=Aa hm;refine zq8 ?_;obtain ⟨o_1,hj1,hm1⟩:=bS hm;refine Al [(1,_)] [] (fun (st:Int) (hid:Unit)=>match st,hid with | n1,_=>[(3,.i64 n1)]) (fun F (st:Int) (hid:Unit)=>match st,hid with | n1,_=>[]) (fun st=>st=o_1) ⟨rfl,trivial⟩ trivial ?_ ?_
 ·refine Aq ?_
  refine Am [(1,_)] [] (fun (st:(Int×Int)) (hid:Unit)=>match st,hid with | (n2,i1),_=>[(3,.i64 n2),(4,.i64 i1)]) (fun F (st:(Int×Int)) (hid:Unit)=>match st,hid with | (n2,i1),_=>[]) () hj1 (fun _=>rfl) ⟨rfl,trivial⟩ trivial ⟨rfl,rfl,trivial⟩ rfl ?_;rintro n ⟨n2,i1⟩ _ hj1;rw [Bx] at hj1;refine At (L':=[(3,.i64 n2),(4,.i64 i1),(1,_)]) (ms':=[]) rfl rfl ?_;refine zq9 ?_;refine zcn hj1 (fun hc1 hj1=>?_) (fun hc1 hj1=>?_)
  ·refine zq8 ?_
   obtain ⟨x1,hx4,hj1⟩:=bS hj1;refine zq2 ?_;obtain ⟨hg5,hj1⟩:=Aa hj1;refine Ak rfl rfl rfl (Qw rfl rfl (CS hg5)) ?_;obtain ⟨hg6,hj1⟩:=Aa hj1;refine zq5 ?_;obtain ⟨hg7,hj1⟩:=Aa hj1;refine zq3 ?_;exact ⟨_,(),hj1,⟨rfl,rfl,trivial⟩,⟨rfl,trivial⟩,[],rfl⟩
  ·refine Au ?_
   exact ⟨_,(),Ac hj1,⟨rfl,trivial⟩,⟨rfl,trivial⟩,[],rfl⟩
 ·rintro n1 _ hst
  subst hst;refine An (L':=[(3,.i64 n1),(1,_)]) (ms':=[]) rfl rfl ?_;refine zq5 ?_;obtain ⟨o_2,hj2,hm2⟩:=bS hm1;refine Al [] [] (fun (st:Int) (hid:Unit)=>match st,hid with | n3,_=>[(3,.i64 n3)]) (fun F (st:Int) (hid:Unit)=>match st,hid with | n3,_=>[]) (fun st=>st=o_2) trivial trivial ?_ ?_
  ·refine Aq ?_
   refine Am [(1,_)] [] (fun (st:(Int×Int)) (hid:Unit)=>match st,hid with | (n4,i2),_=>[(3,.i64 n4),(5,.i64 i2)]) (fun F (st:(Int×Int)) (hid:Unit)=>match st,hid with | (n4,i2),_=>[]) () hj2 (fun _=>rfl) ⟨rfl,trivial⟩ trivial ⟨rfl,rfl,trivial⟩ rfl ?_;rintro n ⟨n4,i2⟩ _ hj2;rw [Bv] at hj2;refine At (L':=[(3,.i64 n4),(5,.i64 i2),(1,_)]) (ms':=[]) rfl rfl ?_;refine zq9 ?_;refine zcn hj2 (fun hc2 hj2=>?_) (fun hc2 hj2=>?_)
   ·refine zq8 ?_
    obtain ⟨x2,hx8,hj2⟩:=bS hj2;refine zq2 ?_;obtain ⟨hg9,hj2⟩:=Aa hj2;refine Ak rfl rfl rfl (Qw rfl rfl (CS hg9)) ?_;obtain ⟨hg10,hj2⟩:=Aa hj2;refine zq5 ?_;obtain ⟨hg11,hj2⟩:=Aa hj2;refine zq3 ?_;exact ⟨_,(),hj2,⟨rfl,rfl,trivial⟩,⟨rfl,trivial⟩,[],rfl⟩
   ·refine Au ?_
    exact ⟨_,(),Ac hj2,⟨rfl,trivial⟩,trivial,[],rfl⟩
  ·rintro n3 _ hst
   subst hst;refine An (L':=[(3,.i64 n3)]) (ms':=[]) rfl rfl ?_;refine zq3 ?_;refine Ak rfl rfl rfl (V5 rfl rfl (by decide)) ?_;refine zq2 ?_
   cases hm2;exact Af zr1
def A9 (w1:Syntagmaref19World) (q1:RSeq) (x1:Int):Nat->Int->Option (Out Syntagmaref19World Unit)
 | 0,_=>none
 | n+1,i1 =>
  (idx w1.buckets x1).bind fun x2 =>
  bif (decide (i1<(x2.length:Int))) then
   (idx w1.buckets x1).bind fun x3 =>
   (idx x3 i1).bind fun x4 =>
   (idx w1.all x4).bind fun x5 =>
   (G4 x5 q1).bind fun x6 =>
   bif x6 then
    some (Out.ret (⟨(⟨w1.t.l,w1.t.root⟩:ATy),w1.flex,w1.all,w1.buckets,w1.below_,w1.above,w1.mixed,w1.fails⟩:Syntagmaref19World))
   else
    grd (InR (i1+1)) <|
    A9 w1 q1 x1 n (i1+1)
  else
   some (Out.go (()))
def Az (w1:Syntagmaref19World) (q1:RSeq)  : Option Syntagmaref19World:=
 (BB q1).bind fun x1 =>
 ((A9 w1 q1 x1 FU 0:Option (Out Syntagmaref19World Unit))).bind (fun oo=>oo.on (fun r1=>some r1) (fun _ =>
 (idx w1.buckets x1).bind fun x7 =>
 grd ((x7.length+([(w1.all.length:Int)]:List _).length)*8<=140737488355328) <|
 (idx w1.buckets x1).bind fun x8 =>
 grd ((w1.all.length+([q1]:List _).length)*48<=140737488355328) <|
 some (⟨(⟨w1.t.l,w1.t.root⟩:ATy),w1.flex,(w1.all++[q1]),(w1.buckets.set (x1).toNat (x7++[(w1.all.length:Int)])),w1.below_,w1.above,w1.mixed,w1.fails⟩:Syntagmaref19World)))
theorem CT {w1:Syntagmaref19World} {q1:RSeq}  {s_1:Syntagmaref19World} {b_q0:Nat} {a_q0c3:Option Addr} {cap_q0c3:Nat} {a_q0c4:Option Addr} {m_q0c4:Nat} {cap_q0c4:Nat} {q_q0c4:(List ((List Int)×Option Addr×Nat))} {a_q0c5:Option Addr} {m_q0c5:Nat} {cap_q0c5:Nat} {a_q0c6:Option Addr} {m_q0c6:Nat} {cap_q0c6:Nat} (hm:Az w1 q1=some s_1):Go.V.Fn Tryz.prog 86 [.v (.pointer (some ⟨b_q0,0,none⟩)),RSeq.d q1] [box b_q0 133 [.list 4 ANd.d w1.t.l,.i64 w1.t.root,.i64 w1.flex,.v (.slice a_q0c3 w1.all.length cap_q0c3),.v (.slice a_q0c4 m_q0c4 cap_q0c4),.v (.slice a_q0c5 m_q0c5 cap_q0c5),.v (.slice a_q0c6 m_q0c6 cap_q0c6),.bool w1.mixed,.bool w1.fails],row a_q0c3 cap_q0c3 95 2 RSeq.d w1.all,bks a_q0c4 m_q0c4 cap_q0c4 43 3 1 D.i64 w1.buckets q_q0c4,arr a_q0c5 m_q0c5 cap_q0c5 131 1 (D.list 1 (D.list 1 D.i64)) w1.below_,arr a_q0c6 m_q0c6 cap_q0c6 131 1 (D.list 1 (D.list 1 D.i64)) w1.above] (fun d ms'=>∃ a_s_1c3 cap_s_1c3 q_s_1c4,d = .tup []/\ms'=[box b_q0 133 [.list 4 ANd.d s_1.t.l,.i64 s_1.t.root,.i64 s_1.flex,.v (.slice a_s_1c3 s_1.all.length cap_s_1c3),.v (.slice a_q0c4 m_q0c4 cap_q0c4),.v (.slice a_q0c5 m_q0c5 cap_q0c5),.v (.slice a_q0c6 m_q0c6 cap_q0c6),.bool s_1.mixed,.bool s_1.fails],row a_s_1c3 cap_s_1c3 95 2 RSeq.d s_1.all,bks a_q0c4 m_q0c4 cap_q0c4 43 3 1 D.i64 s_1.buckets q_s_1c4,arr a_q0c5 m_q0c5 cap_q0c5 131 1 (D.list 1 (D.list 1 D.i64)) s_1.below_,arr a_q0c6 m_q0c6 cap_q0c6 131 1 (D.list 1 (D.list 1 D.i64)) s_1.above]):=by
 unfold Az at hm;refine Ae func86 rfl ntmps86 rfl fun H0 fr w0=>?_;refine zq7 ?_;obtain ⟨x1,hx1,hm⟩:=bS hm;refine zc0 (Hb hx1) ?_;refine zq7 ?_;obtain ⟨o_1,hj1,hm1⟩:=bS hm;refine Al [(0,_),(3,_),(4,_)] [(0,_),(1,_),(2,_),(3,_),(4,_)] (fun (st:Unit) (hid:Unit)=>match st,hid with | _,_=>[]) (fun F (st:Unit) (hid:Unit)=>match st,hid with | _,_=>[(nthF F 0),(nthF F 1),(nthF F 2),(nthF F 3),(nthF F 4)]) (fun st=>Out.go (st)=o_1) ⟨rfl,rfl,rfl,trivial⟩ ⟨rfl,rfl,rfl,rfl,rfl,trivial⟩ ?_ ?_
 ·refine Aq ?_
  refine Am [(0,_),(3,_),(4,_)] [(0,_),(1,_),(2,_),(3,_),(4,_)] (fun (st:Int) (hid:Unit)=>match st,hid with | i1,_=>[(5,.i64 i1)]) (fun F (st:Int) (hid:Unit)=>match st,hid with | i1,_=>[(nthF F 0),(nthF F 1),(nthF F 2),(nthF F 3),(nthF F 4)]) () hj1 (fun _=>rfl) ⟨rfl,rfl,rfl,trivial⟩ ⟨rfl,rfl,rfl,rfl,rfl,trivial⟩ ⟨rfl,trivial⟩ rfl ?_;rintro n i1 _ hj1;rw [A9] at hj1;refine At (L':=[(5,.i64 i1),(0,_),(3,_),(4,_)]) (ms':=[_,_,_,_,_]) rfl rfl ?_;refine zq5 ?_;refine Ak rfl rfl rfl (Ad rfl) ?_;refine zq3 ?_;obtain ⟨x2,hx2,hj1⟩:=bS hj1;refine Ak rfl rfl rfl (DI 2 runUnderlying131 sizeOf43 rfl rfl rfl hx2) ?_;refine Ak rfl rfl rfl (IJ 2 isAgg43 rfl rfl hx2) ?_;refine Ak rfl rfl rfl (.view (peekB (i:=15) 2 rfl rfl hx2) (Em runUnderlying43 rfl)) ?_;refine zq2 ?_;refine zcn hj1 (fun hc1 hj1=>?_) (fun hc1 hj1=>?_)
  ·refine zq4 ?_
   obtain ⟨x3,hx3,hj1⟩:=bS hj1;obtain ⟨x4,hx4,hj1⟩:=bS hj1;obtain ⟨x5,hx5,hj1⟩:=bS hj1;obtain ⟨x6,hx6,hj1⟩:=bS hj1;refine zdr 18 ?_;refine zq1 ?_;refine Av rfl rfl rfl (Ad rfl) ?_;refine zq3 ?_;refine Av rfl rfl rfl (Ad rfl) ?_;refine zq3 ?_;refine Av rfl rfl rfl (DI 2 runUnderlying131 sizeOf43 rfl rfl rfl hx3) ?_;refine Av rfl rfl rfl (IJ 2 isAgg43 rfl rfl hx3) ?_;refine zq1 ?_;refine Av rfl rfl rfl (.view (peekB (i:=30) 2 rfl rfl hx3) (oIm runUnderlying43 sizeOf3 rfl rfl hx4)) ?_;refine zq1 ?_;refine Av rfl rfl rfl (.view (peekE (i:=23) 1 rfl rfl rfl) (oIm runUnderlying96 sizeOf95 rfl rfl hx5)) ?_;refine zq2 ?_;refine zcd (RP hx6) ?_;refine zq2 ?_;refine zcn hj1 (fun hc2 hj1=>?_) (fun hc2 hj1=>?_)
   ·refine Af ?_
    obtain rfl:=Ac hj1
    replace hm1:=B8 hm1
    obtain rfl:=Ac hm1;exact retK (Cp rfl (permA 0 rfl (permA 0 rfl (permA 0 rfl (permA 0 rfl (permA 0 rfl permN)))))) ⟨_,_,_,rfl,rfl⟩
   ·refine zq3 ?_
    obtain ⟨hg7,hj1⟩:=Aa hj1;refine zq3 ?_;exact ⟨_,(),hj1,⟨rfl,trivial⟩,⟨rfl,rfl,rfl,trivial⟩,[],rfl⟩
  ·refine Au ?_
   exact ⟨_,(),Ac hj1,trivial,⟨rfl,rfl,rfl,trivial⟩,[],rfl⟩
 ·rintro _ _ hst
  subst hst
  replace hm1:=DH hm1
  refine An (L':=[(0,_),(3,_),(4,_)]) (ms':=[_,_,_,_,_]) rfl rfl ?_;refine Gl ?_;obtain ⟨x7,hx8,hm1⟩:=bS hm1;obtain ⟨hg9,hm1⟩:=Aa hm1;obtain ⟨x8,hx10,hm1⟩:=bS hm1;refine Fw [11,18,20] [0,1,2,3,4,12,13,14,15,16,17,19] [3,15,16,19] AY (by decide +kernel) (by decide +kernel) rfl ?_;refine AE rfl rfl rfl rfl rfl rfl (oMv rfl) ?_;refine AE rfl rfl rfl rfl rfl rfl (Ad rfl) ?_;refine AE rfl rfl rfl rfl rfl rfl (oFb K2 rfl) ?_;refine I9 rfl rfl rfl rfl rfl (oLb 0 isAgg131 rfl rfl rfl rfl) ?_;refine AE rfl rfl rfl rfl rfl rfl (oMv rfl) ?_;refine AE rfl rfl rfl rfl rfl rfl (oMv rfl) ?_;refine AE rfl rfl rfl rfl rfl rfl (Ad rfl) ?_;refine AE rfl rfl rfl rfl rfl rfl (oFb K2 rfl) ?_;refine AE rfl rfl rfl rfl rfl rfl (oLb 0 isAgg131 rfl rfl rfl rfl) ?_;refine AE rfl rfl rfl rfl rfl rfl (oMv rfl) ?_;refine AE rfl rfl rfl rfl rfl rfl (DI 2 runUnderlying131 sizeOf43 rfl rfl rfl hx8) ?_;refine Es rfl ?_;refine AE rfl rfl rfl rfl rfl rfl (oMv rfl) ?_;refine AE rfl rfl rfl rfl rfl rfl (Ad rfl) ?_;refine AE rfl rfl rfl rfl rfl rfl (oFb Jf rfl) ?_;refine I9 rfl rfl rfl rfl rfl (oLb 0 isAgg96 rfl rfl rfl rfl) ?_;refine I9 rfl rfl rfl rfl rfl (.view (peekE (i:=53) 1 rfl rfl rfl) (Em runUnderlying96 rfl)) ?_;refine AE rfl rfl rfl rfl rfl rfl (zs1 D.i64) ?_;refine Es rfl ?_;refine I9 rfl rfl rfl rfl rfl (DI 2 runUnderlying131 sizeOf43 rfl rfl rfl (by first | exact hx10 | exact Jm hx10)) ?_;refine Es rfl ?_;refine Gk ?_;refine FZ rfl rfl rfl rfl (Ox 2 isAgg43 rfl rfl hx8) ?_;rintro _ _ ⟨a_r1,cap_r1,rfl,rfl⟩;refine ⟨⟨⟨⟨⟨trivial,oLb 1 isAgg131 rfl rfl rfl rfl⟩,oLb 1 isAgg96 rfl rfl rfl rfl⟩,.view (peekE (i:=53) 2 rfl rfl rfl) (Em runUnderlying96 rfl)⟩,GS 3 runUnderlying131 sizeOf43 rfl rfl rfl (by first | exact hx10 | exact Jm hx10)⟩,?_⟩;refine FZ rfl rfl rfl rfl (Co (a:=_) 0 underlying43 type3 rfl rfl rfl rfl rfl rfl rfl (fun _=>rfl) (fun _=>rfl) hg9 (BJ hg9 rfl)) ?_;rintro _ _ ⟨a_r1,cap_r1,rfl,rfl⟩;refine ⟨⟨⟨⟨⟨trivial,oLb 1 isAgg131 rfl rfl rfl rfl⟩,oLb 1 isAgg96 rfl rfl rfl rfl⟩,.view (peekE (i:=53) 2 rfl rfl rfl) (Em runUnderlying96 rfl)⟩,GS 3 runUnderlying131 sizeOf43 rfl rfl rfl (by first | exact hx10 | exact Jm hx10)⟩,?_⟩;refine Fa rfl rfl rfl (Oi [box b_q0 133 [_,_,_,_,_,_,_,_,_],_] [_,_] sizeOf43 ((permA 3 rfl (permA 0 rfl permN)).trans List.perm_append_comm) rfl hx10 rfl rfl (ms'':=fun q'=>[box b_q0 133 [_,_,_,_,_,_,_,_,_],_,bks _ _ _ _ _ _ _ _ q',_,_]) rfl) ?_;rintro _ _ ⟨q_q0c4,rfl⟩;refine ⟨⟨⟨⟨⟨trivial,oLb 0 isAgg131 rfl rfl rfl rfl⟩,oLb 0 isAgg96 rfl rfl rfl rfl⟩,.view (peekE (i:=53) 1 rfl rfl rfl) (Em runUnderlying96 rfl)⟩,DI 2 runUnderlying131 sizeOf43 rfl rfl rfl (by first | exact hx10 | exact Jm hx10)⟩,?_⟩
  refine Ek ?_;obtain ⟨hg11,hm1⟩:=Aa hm1;refine Fw [7,10] [0,8,9] [] AY (by decide +kernel) (by decide +kernel) rfl ?_;refine AE rfl rfl rfl rfl rfl rfl (oMv rfl) ?_;refine AE rfl rfl rfl rfl rfl rfl (oMv rfl) ?_;refine AE rfl rfl rfl rfl rfl rfl (Ad rfl) ?_;refine AE rfl rfl rfl rfl rfl rfl (oFb Jf rfl) ?_;refine AE rfl rfl rfl rfl rfl rfl (oLb 0 isAgg96 rfl rfl rfl rfl) ?_;refine AE rfl rfl rfl rfl rfl rfl (C7 isAgg95 sizeOf95 rfl rfl) ?_;refine AE rfl rfl rfl rfl rfl rfl (zs1 RSeq.d) ?_;refine Es rfl ?_;refine AE rfl rfl rfl rfl rfl rfl (Ad rfl) ?_;refine AE rfl rfl rfl rfl rfl rfl (oFb Jf rfl) ?_;refine Es rfl ?_;refine Gk ?_;refine FZ rfl rfl rfl rfl (Co (a:=_) 1 underlying96 type95 rfl rfl rfl rfl rfl rfl rfl (fun _=>rfl) (fun _=>rfl) hg11 (BJ hg11 rfl)) ?_;rintro _ _ ⟨a_q0c3,cap_q0c3,rfl,rfl⟩;refine ⟨(trivial:True),?_⟩;refine Fa rfl rfl rfl (oSb 0 sizeOf96 rfl rfl rfl rfl rfl rfl rfl rfl (nB rfl)) ?_;rintro _ _ rfl;refine ⟨(trivial:True),?_⟩;refine Ek ?_;obtain rfl:=Ac hm1;exact retKn (Cp rfl (permA 0 rfl (permA 0 rfl (permA 0 rfl (permA 0 rfl (permA 0 rfl permN)))))) ⟨_,_,_,rfl,rfl⟩
def D9 (t1:ATy) (l1:(List Int)) (kind1:Int):Nat->Int->Option (Out Int Unit)
 | 0,_=>none
 | n+1,i1 =>
  bif (decide (i1<(l1.length:Int))) then
   (idx l1 i1).bind fun x1 =>
   (idx t1.l x1).bind fun x2 =>
   bif (decide (x2.kind=kind1)) then
    some (Out.ret i1)
   else
    grd (InR (i1+1)) <|
    D9 t1 l1 kind1 n (i1+1)
  else
   some (Out.go (()))
def Fb (t1:ATy) (l1:(List Int)) (kind1:Int):Option Int:=
 ((D9 t1 l1 kind1 FU 0:Option (Out Int Unit))).bind (fun oo=>oo.on (fun r1=>some r1) (fun _ =>
 some (-1)))
theorem Kf {t1:ATy} {l1:(List Int)} {kind1:Int} {r_1:Int} (hm:Fb t1 l1 kind1=some r_1):Fn0 Tryz.prog 104 [ATy.d t1,.list 1 D.i64 l1,.i64 kind1] (.i64 r_1):=by
 unfold Fb at hm;refine Ae func104 rfl ntmps104 rfl fun H0 fr w0=>?_;refine zq10 ?_;obtain ⟨o_1,hj1,hm1⟩:=bS hm;refine Al [] [] (fun (st:Unit) (hid:Unit)=>match st,hid with | _,_=>[]) (fun F (st:Unit) (hid:Unit)=>match st,hid with | _,_=>[]) (fun st=>Out.go (st)=o_1) trivial trivial ?_ ?_
 ·refine Aq ?_
  refine Am [(1,_),(2,_),(3,_)] [] (fun (st:Int) (hid:Unit)=>match st,hid with | i1,_=>[(7,.i64 i1)]) (fun F (st:Int) (hid:Unit)=>match st,hid with | i1,_=>[]) () hj1 (fun _=>rfl) ⟨rfl,rfl,rfl,trivial⟩ trivial ⟨rfl,trivial⟩ rfl ?_;rintro n i1 _ hj1;rw [D9] at hj1;refine At (L':=[(7,.i64 i1),(1,_),(2,_),(3,_)]) (ms':=[]) rfl rfl ?_;refine zq8 ?_;refine zcn hj1 (fun hc1 hj1=>?_) (fun hc1 hj1=>?_)
  ·refine zq4 ?_
   obtain ⟨x1,hx1,hj1⟩:=bS hj1;obtain ⟨x2,hx2,hj1⟩:=bS hj1;refine zdr 11 ?_;refine zq13 ?_;refine zcn hj1 (fun hc2 hj1=>?_) (fun hc2 hj1=>?_)
   ·refine zq5 ?_
    refine Af ?_;obtain rfl:=Ac hj1
    replace hm1:=B8 hm1
    cases hm1;exact zr1
   ·refine zq3 ?_
    obtain ⟨hg3,hj1⟩:=Aa hj1;refine zq3 ?_;exact ⟨_,(),hj1,⟨rfl,trivial⟩,⟨rfl,rfl,rfl,trivial⟩,[],rfl⟩
  ·refine Au ?_
   exact ⟨_,(),Ac hj1,trivial,trivial,[],rfl⟩
 ·rintro _ _ hst
  subst hst
  replace hm1:=DH hm1
  refine An (L':=[]) (ms':=[]) rfl rfl ?_;refine zq4 ?_
  cases hm1;exact Af zr1
def DK (t1:ATy) (l1:(List Int)) (a1:Int) (b1:Int):Nat->Int->Option (Out Int Unit)
 | 0,_=>none
 | n+1,i1 =>
  bif (decide (i1<(l1.length:Int))) then
   (idx l1 i1).bind fun x1 =>
   (idx t1.l x1).bind fun x2 =>
   bif ((decide (x2.kind=a1))||(decide (x2.kind=b1))) then
    some (Out.ret i1)
   else
    grd (InR (i1+1)) <|
    DK t1 l1 a1 b1 n (i1+1)
  else
   some (Out.go (()))
def ED (t1:ATy) (l1:(List Int)) (a1:Int) (b1:Int):Option Int:=
 ((DK t1 l1 a1 b1 FU 0:Option (Out Int Unit))).bind (fun oo=>oo.on (fun r1=>some r1) (fun _ =>
 some (-1)))
theorem Lf {t1:ATy} {l1:(List Int)} {a1:Int} {b1:Int} {r_1:Int} (hm:ED t1 l1 a1 b1=some r_1):Fn0 Tryz.prog 105 [ATy.d t1,.list 1 D.i64 l1,.i64 a1,.i64 b1] (.i64 r_1):=by
 unfold ED at hm;refine Ae func105 rfl ntmps105 rfl fun H0 fr w0=>?_;refine zq10 ?_;obtain ⟨o_1,hj1,hm1⟩:=bS hm;refine Al [] [] (fun (st:Unit) (hid:Unit)=>match st,hid with | _,_=>[]) (fun F (st:Unit) (hid:Unit)=>match st,hid with | _,_=>[]) (fun st=>Out.go (st)=o_1) trivial trivial ?_ ?_
 ·refine Aq ?_
  refine Am [(1,_),(2,_),(3,_),(4,_)] [] (fun (st:Int) (hid:Unit)=>match st,hid with | i1,_=>[(9,.i64 i1)]) (fun F (st:Int) (hid:Unit)=>match st,hid with | i1,_=>[]) () hj1 (fun _=>rfl) ⟨rfl,rfl,rfl,rfl,trivial⟩ trivial ⟨rfl,trivial⟩ rfl ?_;rintro n i1 _ hj1;rw [DK] at hj1;refine At (L':=[(9,.i64 i1),(1,_),(2,_),(3,_),(4,_)]) (ms':=[]) rfl rfl ?_;refine zq8 ?_;refine zcn hj1 (fun hc1 hj1=>?_) (fun hc1 hj1=>?_)
  ·refine zq4 ?_
   obtain ⟨x1,hx1,hj1⟩:=bS hj1;obtain ⟨x2,hx2,hj1⟩:=bS hj1;refine zdr 10 ?_;refine zq18 ?_
   apply Cv [(1,_),(2,_),(3,_),(4,_),(9,_)] 4 33 (t:=29) ⟨rfl,rfl,rfl,rfl,rfl,trivial⟩ rfl
   ·intro hg_1 hk1
    refine zq4 ?_;exact zgm hk1
   ·intro hg_1 hk1
    refine zq4 ?_;exact zgm hk1
   refine gNl ?_;refine zcn hj1 (fun hc2 hj1=>?_) (fun hc2 hj1=>?_)
   ·refine zq5 ?_
    refine Af ?_;obtain rfl:=Ac hj1
    replace hm1:=B8 hm1
    cases hm1;exact zr1
   ·refine zq3 ?_
    obtain ⟨hg3,hj1⟩:=Aa hj1;refine zq3 ?_;exact ⟨_,(),hj1,⟨rfl,trivial⟩,⟨rfl,rfl,rfl,rfl,trivial⟩,[],rfl⟩
  ·refine Au ?_
   exact ⟨_,(),Ac hj1,trivial,trivial,[],rfl⟩
 ·rintro _ _ hst
  subst hst
  replace hm1:=DH hm1
  refine An (L':=[]) (ms':=[]) rfl rfl ?_;refine zq4 ?_
  cases hm1;exact Af zr1
def Dn (l1:(List Int)) (i1:Int) (in1:(List Int)):Option (List Int):=
 (sli l1 0 i1).bind fun l2 =>
 grd ((0+l2.length)*8<=140737488355328) <|
 grd (InR (i1+1)) <|
 (sli l1 (i1+1) (l1.length:Int)).bind fun l3 =>
 grd ((([]++l2).length+l3.length)*8<=140737488355328) <|
 grd (((([]++l2)++l3).length+in1.length)*8<=140737488355328) <|
 (Dr ((([]++l2)++l3)++in1)).bind fun x1 =>
 some x1
theorem FL {l1:(List Int)} {i1:Int} {in1:(List Int)} {r_1:(List Int)} (hm:Dn l1 i1 in1=some r_1):Fn0 Tryz.prog 106 [.list 1 D.i64 l1,.i64 i1,.list 1 D.i64 in1] (.list 1 D.i64 r_1):=by
 unfold Dn at hm;refine Ae func106 rfl ntmps106 rfl fun H0 fr w0=>?_;refine zq3 ?_;refine Ap (nilE (i:=6) (sz:=1) (f:=D.i64) rfl).refines ?_;refine zq3 ?_;refine AJ rfl rfl rfl (Ax (xs:=[]) (f:=D.i64) (l:=[]) runUnderlying43 sizeOf3 zeroValue3 rfl rfl rfl (fun _=>⟨rfl,rfl,rfl⟩) rfl (by simp [maxLen])) ?_;rintro _ _ ⟨a_r1,rfl,rfl⟩;refine zq2 ?_;obtain ⟨l2,hx1,hm⟩:=bS hm;refine Ak rfl rfl rfl (Bu runUnderlying43 sizeOf3 rfl rfl ⟨_,rfl⟩ hx1) ?_;obtain ⟨hg2,hm⟩:=Aa hm;refine zap 0 hg2 fun a_r1 cap_r1=>?_;refine Aj (ms':=[_]) rfl ?_;refine zq7 ?_;obtain ⟨hg3,hm⟩:=Aa hm;refine zq1 ?_;obtain ⟨l3,hx4,hm⟩:=bS hm;refine Ak rfl rfl rfl (Bu runUnderlying43 sizeOf3 rfl ⟨_,rfl⟩ rfl hx4) ?_;obtain ⟨hg5,hm⟩:=Aa hm;refine zap 0 hg5 fun a_r1 cap_r1=>?_;refine Aj (ms':=[_]) rfl ?_;refine zq6 ?_;obtain ⟨hg6,hm⟩:=Aa hm;refine zap 0 hg6 fun a_r1 cap_r1=>?_;refine Aj (ms':=[_]) rfl ?_;obtain ⟨x1,hx7,hm⟩:=bS hm;refine Ak rfl rfl rfl (.view (peekE (i:=21) 0 rfl rfl rfl) (B7 call74 rfl (Fx hx7))) ?_;refine zq2 ?_
 cases hm;exact Af zr1
def D7 (n1:ANd) (s1:(List UInt8)):Nat->Int->Option (Out Int Unit)
 | 0,_=>none
 | n+1,i1 =>
  bif (decide (i1<(n1.l.length:Int))) then
   (idx n1.l i1).bind fun x1 =>
   bif (decide ((x1.name:List UInt8)=s1)) then
    (idx n1.l i1).bind fun x2 =>
    some (Out.ret x2.at_)
   else
    grd (InR (i1+1)) <|
    D7 n1 s1 n (i1+1)
  else
   some (Out.go (()))
def FP (n1:ANd) (s1:(List UInt8)):Option Int:=
 ((D7 n1 s1 FU 0:Option (Out Int Unit))).bind (fun oo=>oo.on (fun r1=>some r1) (fun _ =>
 some (-1)))
theorem Mm {n1:ANd} {s1:(List UInt8)} {r_1:Int} (hm:FP n1 s1=some r_1):Fn0 Tryz.prog 173 [ANd.d n1,.str s1] (.i64 r_1):=by
 unfold FP at hm;refine Ae func173 rfl ntmps173 rfl fun H0 fr w0=>?_;refine zq10 ?_;obtain ⟨o_1,hj1,hm1⟩:=bS hm;refine Al [] [] (fun (st:Unit) (hid:Unit)=>match st,hid with | _,_=>[]) (fun F (st:Unit) (hid:Unit)=>match st,hid with | _,_=>[]) (fun st=>Out.go (st)=o_1) trivial trivial ?_ ?_
 ·refine Aq ?_
  refine Am [(1,_),(2,_)] [] (fun (st:Int) (hid:Unit)=>match st,hid with | i1,_=>[(5,.i64 i1)]) (fun F (st:Int) (hid:Unit)=>match st,hid with | i1,_=>[]) () hj1 (fun _=>rfl) ⟨rfl,rfl,trivial⟩ trivial ⟨rfl,trivial⟩ rfl ?_;rintro n i1 _ hj1;rw [D7] at hj1;refine At (L':=[(5,.i64 i1),(1,_),(2,_)]) (ms':=[]) rfl rfl ?_;refine zq9 ?_;refine zcn hj1 (fun hc1 hj1=>?_) (fun hc1 hj1=>?_)
  ·refine zq8 ?_
   obtain ⟨x1,hx1,hj1⟩:=bS hj1;refine Ak rfl rfl rfl (oIm runUnderlying47 sizeOf71 rfl rfl hx1) ?_;refine zq5 ?_;refine zcn hj1 (fun hc2 hj1=>?_) (fun hc2 hj1=>?_)
   ·refine zq5 ?_
    obtain ⟨x2,hx2,hj1⟩:=bS hj1;refine Ak rfl rfl rfl (oIm runUnderlying47 sizeOf71 rfl rfl hx2) ?_;refine zq4 ?_;refine Af ?_;obtain rfl:=Ac hj1
    replace hm1:=B8 hm1
    cases hm1;exact zr1
   ·refine zq3 ?_
    obtain ⟨hg3,hj1⟩:=Aa hj1;refine zq3 ?_;exact ⟨_,(),hj1,⟨rfl,trivial⟩,⟨rfl,rfl,trivial⟩,[],rfl⟩
  ·refine Au ?_
   exact ⟨_,(),Ac hj1,trivial,trivial,[],rfl⟩
 ·rintro _ _ hst
  subst hst
  replace hm1:=DH hm1
  refine An (L':=[]) (ms':=[]) rfl rfl ?_;refine zq4 ?_
  cases hm1;exact Af zr1
def Db (t1:ATy) (l1:(List Int)) (s1:(List UInt8)):Nat->(Int×(List Int))->Option (List Int)
 | 0,_=>none
 | n+1,(i1,l3) =>
  bif (decide (i1<(l1.length:Int))) then
   (idx l1 i1).bind fun x1 =>
   (idx t1.l x1).bind fun x2 =>
   (FP x2 s1).bind fun x3 =>
   bif (decide (0<=x3)) then
    grd ((l3.length+([x3]:List _).length)*8<=140737488355328) <|
    grd (InR (i1+1)) <|
    Db t1 l1 s1 n ((i1+1),(l3++[x3]))
   else
    grd (InR (i1+1)) <|
    Db t1 l1 s1 n ((i1+1),l3)
  else
   some l3
def Ez (t1:ATy) (l1:(List Int)) (s1:(List UInt8)):Option (List Int):=
 (Db t1 l1 s1 FU (0,[]):Option (List Int)).bind fun l2 =>
 (Dr l2).bind fun x4 =>
 some x4
theorem IB {t1:ATy} {l1:(List Int)} {s1:(List UInt8)} {r_1:(List Int)} (hm:Ez t1 l1 s1=some r_1):Fn0 Tryz.prog 149 [ATy.d t1,.list 1 D.i64 l1,.str s1] (.list 1 D.i64 r_1):=by
 unfold Ez at hm;refine Ae func149 rfl ntmps149 rfl fun H0 fr w0=>?_;refine zq4 ?_;refine Ap (nilE (i:=6) (sz:=1) (f:=D.i64) rfl).refines ?_;refine zq3 ?_;refine AJ rfl rfl rfl (Ax (xs:=[]) (f:=D.i64) (l:=[]) runUnderlying43 sizeOf3 zeroValue3 rfl rfl rfl (fun _=>⟨rfl,rfl,rfl⟩) rfl (by simp [maxLen])) ?_;rintro _ _ ⟨a_r1,rfl,rfl⟩;refine zq7 ?_;obtain ⟨o_1,hj1,hm1⟩:=bS hm;refine Al [] [] (fun (st:(List Int)) (hid:(Option Addr×Nat))=>match st,hid with | l2,(a_r1,cap_r1)=>[(7,.v (.slice a_r1 l2.length cap_r1))]) (fun F (st:(List Int)) (hid:(Option Addr×Nat))=>match st,hid with | l2,(a_r1,cap_r1)=>[row a_r1 cap_r1 3 1 D.i64 l2]) (fun st=>st=o_1) trivial trivial ?_ ?_
 ·refine Aq ?_
  refine Am [(1,_),(2,_),(3,_)] [] (fun (st:(Int×(List Int))) (hid:(Option Addr×Nat))=>match st,hid with | (i1,l3),(a_r1,cap_r1)=>[(7,.v (.slice a_r1 l3.length cap_r1)),(8,.i64 i1)]) (fun F (st:(Int×(List Int))) (hid:(Option Addr×Nat))=>match st,hid with | (i1,l3),(a_r1,cap_r1)=>[row a_r1 cap_r1 3 1 D.i64 l3]) (_,_) hj1 (fun _=>rfl) ⟨rfl,rfl,rfl,trivial⟩ trivial ⟨rfl,rfl,trivial⟩ rfl ?_;rintro n ⟨i1,l3⟩ ⟨a_r1,cap_r1⟩ hj1;rw [Db] at hj1;refine At (L':=[(7,.v (.slice a_r1 l3.length cap_r1)),(8,.i64 i1),(1,_),(2,_),(3,_)]) (ms':=[row a_r1 cap_r1 3 1 D.i64 l3]) rfl rfl ?_;refine zq8 ?_;refine zcn hj1 (fun hc1 hj1=>?_) (fun hc1 hj1=>?_)
  ·refine zq4 ?_
   obtain ⟨x1,hx1,hj1⟩:=bS hj1;obtain ⟨x2,hx2,hj1⟩:=bS hj1;obtain ⟨x3,hx3,hj1⟩:=bS hj1;refine zdr 11 ?_;refine zq9 ?_;refine zcd (Mm hx3) ?_;refine zq8 ?_;refine zcn hj1 (fun hc2 hj1=>?_) (fun hc2 hj1=>?_)
   ·refine zq3 ?_
    refine Ak rfl rfl rfl (zs1 D.i64) ?_;obtain ⟨hg4,hj1⟩:=Aa hj1;refine zap 0 hg4 fun a_r1 cap_r1=>?_;refine Aj (ms':=[_]) rfl ?_;refine zq4 ?_;obtain ⟨hg5,hj1⟩:=Aa hj1;refine zq3 ?_;exact ⟨_,(_,_),hj1,⟨rfl,rfl,trivial⟩,⟨rfl,rfl,rfl,trivial⟩,[],rfl⟩
   ·refine zq3 ?_
    obtain ⟨hg6,hj1⟩:=Aa hj1;refine zq3 ?_;exact ⟨_,(_,_),hj1,⟨rfl,rfl,trivial⟩,⟨rfl,rfl,rfl,trivial⟩,[],rfl⟩
  ·refine Au ?_
   exact ⟨_,(_,_),Ac hj1,⟨rfl,trivial⟩,trivial,[],rfl⟩
 ·rintro l2 ⟨a_r1,cap_r1⟩ hst
  subst hst;refine An (L':=[(7,.v (.slice a_r1 l2.length cap_r1))]) (ms':=[row a_r1 cap_r1 3 1 D.i64 l2]) rfl rfl ?_;refine zq3 ?_;obtain ⟨x4,hx7,hm1⟩:=bS hm1;refine Ak rfl rfl rfl (.view (peekE (i:=33) 0 rfl rfl rfl) (B7 call74 rfl (Fx hx7))) ?_;refine zq2 ?_
  cases hm1;exact Af zr1
def Ff (s1:(List UInt8)) (l1:(List (List UInt8))):Nat->Int->Option (Out Bool Unit)
 | 0,_=>none
 | n+1,i1 =>
  bif (decide (i1<(l1.length:Int))) then
   (idx l1 i1).bind fun x1 =>
   bif (decide ((x1:List UInt8)=s1)) then
    some (Out.ret true)
   else
    grd (InR (i1+1)) <|
    Ff s1 l1 n (i1+1)
  else
   some (Out.go (()))
def IS (s1:(List UInt8)) (l1:(List (List UInt8))):Option Bool:=
 ((Ff s1 l1 FU 0:Option (Out Bool Unit))).bind (fun oo=>oo.on (fun r1=>some r1) (fun _ =>
 some false))
theorem Uw {s1:(List UInt8)} {l1:(List (List UInt8))} {r_1:Bool} (hm:IS s1 l1=some r_1):Fn0 Tryz.prog 170 [.str s1,.list 1 D.str l1] (.bool r_1):=by
 unfold IS at hm;refine Ae func170 rfl ntmps170 rfl fun H0 fr w0=>?_;refine zq9 ?_;obtain ⟨o_1,hj1,hm1⟩:=bS hm;refine Al [] [] (fun (st:Unit) (hid:Unit)=>match st,hid with | _,_=>[]) (fun F (st:Unit) (hid:Unit)=>match st,hid with | _,_=>[]) (fun st=>Out.go (st)=o_1) trivial trivial ?_ ?_
 ·refine Aq ?_
  refine Am [(0,_),(1,_)] [] (fun (st:Int) (hid:Unit)=>match st,hid with | i1,_=>[(5,.i64 i1)]) (fun F (st:Int) (hid:Unit)=>match st,hid with | i1,_=>[]) () hj1 (fun _=>rfl) ⟨rfl,rfl,trivial⟩ trivial ⟨rfl,trivial⟩ rfl ?_;rintro n i1 _ hj1;rw [Ff] at hj1;refine At (L':=[(5,.i64 i1),(0,_),(1,_)]) (ms':=[]) rfl rfl ?_;refine zq8 ?_;refine zcn hj1 (fun hc1 hj1=>?_) (fun hc1 hj1=>?_)
  ·refine zq7 ?_
   obtain ⟨x1,hx1,hj1⟩:=bS hj1;refine zq5 ?_;refine zcn hj1 (fun hc2 hj1=>?_) (fun hc2 hj1=>?_)
   ·refine zq4 ?_
    refine Af ?_;obtain rfl:=Ac hj1
    replace hm1:=B8 hm1
    cases hm1;exact zr1
   ·refine zq3 ?_
    obtain ⟨hg2,hj1⟩:=Aa hj1;refine zq3 ?_;exact ⟨_,(),hj1,⟨rfl,trivial⟩,⟨rfl,rfl,trivial⟩,[],rfl⟩
  ·refine Au ?_
   exact ⟨_,(),Ac hj1,trivial,trivial,[],rfl⟩
 ·rintro _ _ hst
  subst hst
  replace hm1:=DH hm1
  refine An (L':=[]) (ms':=[]) rfl rfl ?_;refine zq4 ?_
  cases hm1;exact Af zr1
def CB (t1:ATy) (l1:(List Int)) (s1:(List UInt8)):Nat->(Int×Int)->Option Int
 | 0,_=>none
 | n+1,(n2,i1) =>
  bif (decide (i1<(l1.length:Int))) then
   (idx l1 i1).bind fun x1 =>
   (idx t1.l x1).bind fun x2 =>
   (FP x2 s1).bind fun x3 =>
   bif (decide (0<=x3)) then
    grd (InR (n2+1)) <|
    grd (InR (i1+1)) <|
    CB t1 l1 s1 n ((n2+1),(i1+1))
   else
    grd (InR (i1+1)) <|
    CB t1 l1 s1 n (n2,(i1+1))
  else
   some n2
def EV (t1:ATy) (l1:(List Int)) (s1:(List UInt8)):Option Int:=
 (CB t1 l1 s1 FU (0,0):Option Int).bind fun n1 =>
 some n1
theorem MZ {t1:ATy} {l1:(List Int)} {s1:(List UInt8)} {r_1:Int} (hm:EV t1 l1 s1=some r_1):Fn0 Tryz.prog 172 [ATy.d t1,.list 1 D.i64 l1,.str s1] (.i64 r_1):=by
 unfold EV at hm;refine Ae func172 rfl ntmps172 rfl fun H0 fr w0=>?_;refine zq14 ?_;obtain ⟨o_1,hj1,hm1⟩:=bS hm;refine Al [] [] (fun (st:Int) (hid:Unit)=>match st,hid with | n1,_=>[(7,.i64 n1)]) (fun F (st:Int) (hid:Unit)=>match st,hid with | n1,_=>[]) (fun st=>st=o_1) trivial trivial ?_ ?_
 ·refine Aq ?_
  refine Am [(1,_),(2,_),(3,_)] [] (fun (st:(Int×Int)) (hid:Unit)=>match st,hid with | (n2,i1),_=>[(7,.i64 n2),(8,.i64 i1)]) (fun F (st:(Int×Int)) (hid:Unit)=>match st,hid with | (n2,i1),_=>[]) () hj1 (fun _=>rfl) ⟨rfl,rfl,rfl,trivial⟩ trivial ⟨rfl,rfl,trivial⟩ rfl ?_;rintro n ⟨n2,i1⟩ _ hj1;rw [CB] at hj1;refine At (L':=[(7,.i64 n2),(8,.i64 i1),(1,_),(2,_),(3,_)]) (ms':=[]) rfl rfl ?_;refine zq8 ?_;refine zcn hj1 (fun hc1 hj1=>?_) (fun hc1 hj1=>?_)
  ·refine zq4 ?_
   obtain ⟨x1,hx1,hj1⟩:=bS hj1;obtain ⟨x2,hx2,hj1⟩:=bS hj1;obtain ⟨x3,hx3,hj1⟩:=bS hj1;refine zdr 11 ?_;refine zq9 ?_;refine zcd (Mm hx3) ?_;refine zq3 ?_;refine zcn hj1 (fun hc2 hj1=>?_) (fun hc2 hj1=>?_)
   ·refine zq2 ?_
    obtain ⟨hg4,hj1⟩:=Aa hj1;refine zq5 ?_;obtain ⟨hg5,hj1⟩:=Aa hj1;refine zq3 ?_;exact ⟨_,(),hj1,⟨rfl,rfl,trivial⟩,⟨rfl,rfl,rfl,trivial⟩,[],rfl⟩
   ·refine zq3 ?_
    obtain ⟨hg6,hj1⟩:=Aa hj1;refine zq3 ?_;exact ⟨_,(),hj1,⟨rfl,rfl,trivial⟩,⟨rfl,rfl,rfl,trivial⟩,[],rfl⟩
  ·refine Au ?_
   exact ⟨_,(),Ac hj1,⟨rfl,trivial⟩,trivial,[],rfl⟩
 ·rintro n1 _ hst
  subst hst;refine An (L':=[(7,.i64 n1)]) (ms':=[]) rfl rfl ?_;refine zq5 ?_
  cases hm1;exact Af zr1
def Df (t1:ATy) (l1:(List Int)):Nat->(Int×(List (List UInt8)))->Option (List (List UInt8))
 | 0,_=>none
 | n+1,(i1,l3) =>
  (idx l1 0).bind fun x1 =>
  (idx t1.l x1).bind fun x2 =>
  bif (decide (i1<(x2.l.length:Int))) then
   (idx l1 0).bind fun x3 =>
   (idx t1.l x3).bind fun x4 =>
   (idx x4.l i1).bind fun x5 =>
   (Ez t1 l1 x5.name).bind fun x6 =>
   (bif (decide (0<(x6.length:Int))) then ((EV t1 l1 x5.name).bind fun x7 =>
   some (decide (x7=(l1.length:Int)))) else (some false)).bind fun p1 =>
   (bif p1 then ((IS x5.name l3).bind fun x8 =>
   some (!x8)) else (some false)).bind fun p2 =>
   bif p2 then
    grd ((l3.length+([x5.name]:List _).length)*16<=140737488355328) <|
    grd (InR (i1+1)) <|
    Df t1 l1 n ((i1+1),(l3++[x5.name]))
   else
    grd (InR (i1+1)) <|
    Df t1 l1 n ((i1+1),l3)
  else
   some l3
def D3 (t1:ATy) (l1:(List Int)):Option (List (List UInt8)):=
 (Df t1 l1 FU (0,[]):Option (List (List UInt8))).bind fun l2 =>
 some l2
theorem Ld {t1:ATy} {l1:(List Int)} {r_1:(List (List UInt8))} (hm:D3 t1 l1=some r_1):Fn0 Tryz.prog 148 [ATy.d t1,.list 1 D.i64 l1] (.list 1 D.str r_1):=by
 unfold D3 at hm;refine Ae func148 rfl ntmps148 rfl fun H0 fr w0=>?_;refine zq4 ?_;refine Ap (nilE (i:=4) (sz:=1) (f:=D.str) rfl).refines ?_;refine zq3 ?_;refine AJ rfl rfl rfl (Ax (xs:=[]) (f:=D.str) (l:=[]) runUnderlying174 sizeOf9 zeroValue9 rfl rfl rfl (fun _=>⟨rfl,rfl,rfl⟩) rfl (by simp [maxLen])) ?_;rintro _ _ ⟨a_r1,rfl,rfl⟩;refine zq7 ?_;obtain ⟨o_1,hj1,hm1⟩:=bS hm;refine Al [] [] (fun (st:(List (List UInt8))) (hid:(Option Addr×Nat))=>match st,hid with | l2,(a_r1,cap_r1)=>[(5,.v (.slice a_r1 l2.length cap_r1))]) (fun F (st:(List (List UInt8))) (hid:(Option Addr×Nat))=>match st,hid with | l2,(a_r1,cap_r1)=>[row a_r1 cap_r1 9 1 D.str l2]) (fun st=>st=o_1) trivial trivial ?_ ?_
 ·refine Aq ?_
  refine Am [(1,_),(2,_)] [] (fun (st:(Int×(List (List UInt8)))) (hid:(Option Addr×Nat))=>match st,hid with | (i1,l3),(a_r1,cap_r1)=>[(5,.v (.slice a_r1 l3.length cap_r1)),(6,.i64 i1)]) (fun F (st:(Int×(List (List UInt8)))) (hid:(Option Addr×Nat))=>match st,hid with | (i1,l3),(a_r1,cap_r1)=>[row a_r1 cap_r1 9 1 D.str l3]) (_,_) hj1 (fun _=>rfl) ⟨rfl,rfl,trivial⟩ trivial ⟨rfl,rfl,trivial⟩ rfl ?_;rintro n ⟨i1,l3⟩ ⟨a_r1,cap_r1⟩ hj1;rw [Df] at hj1;refine At (L':=[(5,.v (.slice a_r1 l3.length cap_r1)),(6,.i64 i1),(1,_),(2,_)]) (ms':=[row a_r1 cap_r1 9 1 D.str l3]) rfl rfl ?_;refine zq2 ?_;obtain ⟨x1,hx1,hj1⟩:=bS hj1;obtain ⟨x2,hx2,hj1⟩:=bS hj1;refine zdr 11 ?_;refine zq4 ?_;refine Av rfl rfl rfl (oIm runUnderlying43 sizeOf3 rfl rfl hx1) ?_;refine zq1 ?_;refine Av rfl rfl rfl (oIm runUnderlying29 sizeOf49 rfl rfl hx2) ?_;refine zq6 ?_;refine zcn hj1 (fun hc1 hj1=>?_) (fun hc1 hj1=>?_)
  ·refine zq4 ?_
   obtain ⟨x3,hx3,hj1⟩:=bS hj1;obtain ⟨x4,hx4,hj1⟩:=bS hj1;obtain ⟨x5,hx5,hj1⟩:=bS hj1;refine zdr 13 ?_;refine zq3 ?_;refine Av rfl rfl rfl (oIm runUnderlying43 sizeOf3 rfl rfl hx3) ?_;refine zq1 ?_;refine Av rfl rfl rfl (oIm runUnderlying29 sizeOf49 rfl rfl hx4) ?_;refine zq3 ?_;refine Av rfl rfl rfl (oIm runUnderlying47 sizeOf71 rfl rfl hx5) ?_;refine zq10 ?_;obtain ⟨x6,hx6,hj1⟩:=bS hj1;refine zc0 (IB hx6) ?_;refine zq3 ?_;obtain ⟨p1,hp_1,hj1⟩:=bS hj1;refine Bs [(1,_),(2,_),(5,_),(6,_),(7,_)] 8 48 p1 (t:=40) ⟨rfl,rfl,rfl,rfl,rfl,trivial⟩ rfl (fun hg_1 hk1=>?_) (fun hg_1 hk1=>?_) ?_
   ·replace hp_1:=Bg hg_1 hp_1
    refine zq3 ?_;obtain ⟨x7,hx7,hp_1⟩:=bS hp_1;refine zcw (MZ hx7) ?_;refine zq4 ?_;exact zgb hk1 hp_1
   ·replace hp_1:=Be hg_1 hp_1
    refine zq8 ?_;exact zgb hk1 hp_1
   refine zq1 ?_;obtain ⟨p2,hp_2,hj1⟩:=bS hj1;refine Bs [(1,_),(2,_),(5,_),(6,_),(7,_)] 5 54 p2 (t:=49) ⟨rfl,rfl,rfl,rfl,rfl,trivial⟩ rfl (fun hg_2 hk2=>?_) (fun hg_2 hk2=>?_) ?_
   ·replace hp_2:=Bg hg_2 hp_2
    refine zq2 ?_;obtain ⟨x8,hx8,hp_2⟩:=bS hp_2;refine gWp rfl rfl rfl hg_2 rfl rfl (.view (peekE (i:=51) 0 rfl rfl rfl) (B7 call170 rfl (Uw hx8))) ?_;refine zq2 ?_;exact zgb hk2 hp_2
   ·replace hp_2:=Be hg_2 hp_2
    refine zq5 ?_;exact zgb hk2 hp_2
   refine gNl ?_;refine zcn hj1 (fun hc2 hj1=>?_) (fun hc2 hj1=>?_)
   ·refine zq3 ?_
    refine Ak rfl rfl rfl (zs1 D.str) ?_;obtain ⟨hg9,hj1⟩:=Aa hj1;refine zap 0 hg9 fun a_r1 cap_r1=>?_;refine Aj (ms':=[_]) rfl ?_;refine zq4 ?_;obtain ⟨hg10,hj1⟩:=Aa hj1;refine zq3 ?_;exact ⟨_,(_,_),hj1,⟨rfl,rfl,trivial⟩,⟨rfl,rfl,trivial⟩,[],rfl⟩
   ·refine zq3 ?_
    obtain ⟨hg11,hj1⟩:=Aa hj1;refine zq3 ?_;exact ⟨_,(_,_),hj1,⟨rfl,rfl,trivial⟩,⟨rfl,rfl,trivial⟩,[],rfl⟩
  ·refine Au ?_
   exact ⟨_,(_,_),Ac hj1,⟨rfl,trivial⟩,trivial,[],rfl⟩
 ·rintro l2 ⟨a_r1,cap_r1⟩ hst
  subst hst;refine An (L':=[(5,.v (.slice a_r1 l2.length cap_r1))]) (ms':=[row a_r1 cap_r1 9 1 D.str l2]) rfl rfl ?_;refine zq5 ?_;refine BY (peekE (i:=4) 0 rfl rfl rfl).refines ?_
  cases hm1;exact Af zr1
def De (t1:ATy) (l1:(List Int)):Nat->(Int×(List Int)×(List Int)×(List Int)×(List Int))->Option ((List Int)×(List Int)×(List Int)×(List Int))
 | 0,_=>none
 | n+1,(i1,l6,l7,l8,l9) =>
  bif (decide (i1<(l1.length:Int))) then
   (idx l1 i1).bind fun x1 =>
   (idx t1.l x1).bind fun x2 =>
   grd ((l8.length+([x2.a]:List _).length)*8<=140737488355328) <|
   (idx l1 i1).bind fun x3 =>
   (idx t1.l x3).bind fun x4 =>
   grd ((l7.length+([x4.b]:List _).length)*8<=140737488355328) <|
   grd (InR (i1+1)) <|
   De t1 l1 n ((i1+1),l6,(l7++[x4.b]),(l8++[x2.a]),l9)
  else
   some (l6,l7,l8,l9)
def C9 (t1:ATy) (r1:(List Int)):Nat->(Int×(List Int)×(List Int)×(List Int)×(List Int))->Option ((List Int)×(List Int)×(List Int)×(List Int))
 | 0,_=>none
 | n+1,(i2,l14,l15,l16,l17) =>
  bif (decide (i2<(r1.length:Int))) then
   (idx r1 i2).bind fun x5 =>
   (idx t1.l x5).bind fun x6 =>
   grd ((l17.length+([x6.a]:List _).length)*8<=140737488355328) <|
   (idx r1 i2).bind fun x7 =>
   (idx t1.l x7).bind fun x8 =>
   grd ((l14.length+([x8.b]:List _).length)*8<=140737488355328) <|
   grd (InR (i2+1)) <|
   C9 t1 r1 n ((i2+1),(l14++[x8.b]),l15,l16,(l17++[x6.a]))
  else
   some (l14,l15,l16,l17)
def Dc (t1:ATy) (l1:(List Int)) (r1:(List Int)) (all2:(List (List UInt8))):Nat->(Int×(List RSeq))->Option (Out ((List RSeq)×Bool) (List RSeq))
 | 0,_=>none
 | n+1,(i3,l19) =>
  bif (decide (i3<(all2.length:Int))) then
   (idx all2 i3).bind fun x15 =>
   (Ez t1 l1 x15).bind fun x16 =>
   (idx all2 i3).bind fun x17 =>
   (Ez t1 r1 x17).bind fun x18 =>
   bif ((decide ((x16.length:Int)=0))||(decide ((x18.length:Int)=0))) then
    some (Out.ret ([],false))
   else
    grd ((l19.length+([(⟨x16,x18⟩:RSeq)]:List _).length)*48<=140737488355328) <|
    grd (InR (i3+1)) <|
    Dc t1 l1 r1 all2 n ((i3+1),(l19++[(⟨x16,x18⟩:RSeq)]))
  else
   some (Out.go (l19))
def Ga (t1:ATy) (kind1:Int) (l1:(List Int)) (r1:(List Int)):Option ((List RSeq)×Bool):=
 bif ((!decide (kind1=8))&&(decide ((r1.length:Int)=0))) then
  some ([],false)
 else
  bif (decide (kind1=6)) then
   (De t1 l1 FU (0,([]:List Int),([]:List Int),([]:List Int),([]:List Int)):Option ((List Int)×(List Int)×(List Int)×(List Int))).bind fun (l2,l3,l4,l5) =>
   (C9 t1 r1 FU (0,l2,l3,l4,l5):Option ((List Int)×(List Int)×(List Int)×(List Int))).bind fun (l10,l11,l12,l13) =>
   (Dr l13).bind fun x9 =>
   (Dr l12).bind fun x10 =>
   (Dr l11).bind fun x11 =>
   (Dr l10).bind fun x12 =>
   some ([(⟨x9,x10⟩:RSeq),(⟨x11,x12⟩:RSeq)],true)
  else
   (bif (decide (kind1=7)) then
    (D3 t1 r1).bind fun x13 =>
    some x13
   else
    some []:Option (List (List UInt8))).bind fun all1 =>
   (bif (decide (kind1=8)) then
    (D3 t1 l1).bind fun x14 =>
    some x14
   else
    some all1:Option (List (List UInt8))).bind fun all2 =>
   ((Dc t1 l1 r1 all2 FU (0,[]):Option (Out ((List RSeq)×Bool) (List RSeq)))).bind (fun oo=>oo.on (fun r2=>some r2) (fun l18 =>
   some (l18,true)))
theorem PQ {t1:ATy} {kind1:Int} {l1:(List Int)} {r1:(List Int)} {r_1:(List RSeq)} {r_2:Bool} (hm:Ga t1 kind1 l1 r1=some (r_1,r_2)):Fn0 Tryz.prog 107 [ATy.d t1,.i64 kind1,.list 1 D.i64 l1,.list 1 D.i64 r1] (.tup [.list 2 RSeq.d r_1,.bool r_2]):=by
 unfold Ga at hm;refine Ae func107 rfl ntmps107 rfl fun H0 fr w0=>?_;refine zq4 ?_;refine Ap (nilE (i:=8) (sz:=2) (f:=RSeq.d) rfl).refines ?_;refine zq8 ?_
 apply Cz [(1,_),(2,_),(3,_),(4,_)] 4 25 (t:=21) ⟨rfl,rfl,rfl,rfl,trivial⟩ rfl
 ·intro hg_1 hk1
  refine zq4 ?_;exact zgm hk1
 ·intro hg_1 hk1
  refine zq4 ?_;exact zgm hk1
 refine gNl ?_;refine zcn hm (fun hc1 hm=>?_) (fun hc1 hm=>?_)
 ·refine zq3 ?_
  refine Ap (nilE (i:=8) (sz:=2) (f:=RSeq.d) rfl).refines ?_;refine zq2 ?_
  cases hm;exact Af zr2
 ·refine zq3 ?_
  refine AJ rfl rfl rfl (Ax (xs:=[]) (f:=RSeq.d) (l:=[]) runUnderlying96 sizeOf95 zeroValue95 rfl rfl rfl (fun _=>⟨rfl,rfl,rfl⟩) rfl (by simp [maxLen])) ?_;rintro _ _ ⟨a_r1,rfl,rfl⟩;refine zq8 ?_;refine zcn hm (fun hc2 hm=>?_) (fun hc2 hm=>?_)
  ·refine zq2 ?_
   refine Ak rfl rfl rfl zb95a ?_;refine Ak rfl rfl rfl zb95a ?_;refine Ss fun b1=>?_;refine Ss fun b2=>?_;refine zst 1 ?_;refine Ap (AK (T:=3) (sz:=1) (f:=D.i64)) ?_;refine Ap (AK (T:=3) (sz:=1) (f:=D.i64)) ?_;refine Aj (ms':=[_,_,box b2 95 [_,_],box b1 95 [_,_],_]) rfl ?_;refine zst 2 ?_;refine Ap (AK (T:=3) (sz:=1) (f:=D.i64)) ?_;refine Ap (AK (T:=3) (sz:=1) (f:=D.i64)) ?_;refine Aj (ms':=[_,_,_,_,box b2 95 [_,_],box b1 95 [_,_],_]) rfl ?_;refine zq6 ?_;obtain ⟨o_1,hj1,hm1⟩:=bS hm;refine Al [(3,_),(4,_),(11,_),(12,_)] [(6,_)] (fun (st:((List Int)×(List Int)×(List Int)×(List Int))) (hid:(Option Addr×Nat)×(Option Addr×Nat)×(Option Addr×Nat)×(Option Addr×Nat))=>match st,hid with | (l2,l3,l4,l5),((a_r5,cap_r5),(a_r4,cap_r4),(a_r3,cap_r3),(a_r2,cap_r2))=>[]) (fun F (st:((List Int)×(List Int)×(List Int)×(List Int))) (hid:(Option Addr×Nat)×(Option Addr×Nat)×(Option Addr×Nat)×(Option Addr×Nat))=>match st,hid with | (l2,l3,l4,l5),((a_r5,cap_r5),(a_r4,cap_r4),(a_r3,cap_r3),(a_r2,cap_r2))=>[row a_r5 cap_r5 3 1 D.i64 l2,row a_r4 cap_r4 3 1 D.i64 l3,row a_r3 cap_r3 3 1 D.i64 l4,row a_r2 cap_r2 3 1 D.i64 l5,box b2 95 [.v (.slice a_r4 l3.length cap_r4),.v (.slice a_r5 l2.length cap_r5)],box b1 95 [.v (.slice a_r2 l5.length cap_r2),.v (.slice a_r3 l4.length cap_r3)],(nthF F 0)]) (fun st=>st=o_1) ⟨rfl,rfl,rfl,rfl,trivial⟩ ⟨rfl,trivial⟩ ?_ ?_
   ·refine Aq ?_
    refine Am [(2,_),(3,_),(4,_),(11,_),(12,_)] [(6,_)] (fun (st:(Int×(List Int)×(List Int)×(List Int)×(List Int))) (hid:(Option Addr×Nat)×(Option Addr×Nat)×(Option Addr×Nat)×(Option Addr×Nat))=>match st,hid with | (i1,l6,l7,l8,l9),((a_r5,cap_r5),(a_r4,cap_r4),(a_r3,cap_r3),(a_r2,cap_r2))=>[(13,.i64 i1)]) (fun F (st:(Int×(List Int)×(List Int)×(List Int)×(List Int))) (hid:(Option Addr×Nat)×(Option Addr×Nat)×(Option Addr×Nat)×(Option Addr×Nat))=>match st,hid with | (i1,l6,l7,l8,l9),((a_r5,cap_r5),(a_r4,cap_r4),(a_r3,cap_r3),(a_r2,cap_r2))=>[row a_r5 cap_r5 3 1 D.i64 l6,row a_r4 cap_r4 3 1 D.i64 l7,row a_r3 cap_r3 3 1 D.i64 l8,row a_r2 cap_r2 3 1 D.i64 l9,box b2 95 [.v (.slice a_r4 l7.length cap_r4),.v (.slice a_r5 l6.length cap_r5)],box b1 95 [.v (.slice a_r2 l9.length cap_r2),.v (.slice a_r3 l8.length cap_r3)],(nthF F 0)]) ((_,_),(_,_),(_,_),(_,_)) hj1 (fun _=>rfl) ⟨rfl,rfl,rfl,rfl,rfl,trivial⟩ ⟨rfl,trivial⟩ ⟨rfl,trivial⟩ rfl ?_;rintro n ⟨i1,l6,l7,l8,l9⟩ ⟨⟨a_r5,cap_r5⟩,⟨a_r4,cap_r4⟩,⟨a_r3,cap_r3⟩,⟨a_r2,cap_r2⟩⟩ hj1;rw [De] at hj1;refine At (L':=[(13,.i64 i1),(2,_),(3,_),(4,_),(11,_),(12,_)]) (ms':=[row a_r5 cap_r5 3 1 D.i64 l6,row a_r4 cap_r4 3 1 D.i64 l7,row a_r3 cap_r3 3 1 D.i64 l8,row a_r2 cap_r2 3 1 D.i64 l9,box b2 95 [.v (.slice a_r4 l7.length cap_r4),.v (.slice a_r5 l6.length cap_r5)],box b1 95 [.v (.slice a_r2 l9.length cap_r2),.v (.slice a_r3 l8.length cap_r3)],_]) rfl rfl ?_;refine zq8 ?_;refine zcn hj1 (fun hc3 hj1=>?_) (fun hc3 hj1=>?_)
    ·refine zq3 ?_
     obtain ⟨x1,hx1,hj1⟩:=bS hj1;obtain ⟨x2,hx2,hj1⟩:=bS hj1;obtain ⟨hg3,hj1⟩:=Aa hj1;obtain ⟨x3,hx4,hj1⟩:=bS hj1;obtain ⟨x4,hx5,hj1⟩:=bS hj1;obtain ⟨hg6,hj1⟩:=Aa hj1;refine Iu 3 [12,25,27,29] [13,14,15,16,17,18,19,20,21,22,23,24,26,28] [14] (by decide +kernel) (by decide +kernel) AY (by decide +kernel) (by decide +kernel) rfl ?_;refine zq6 ?_;refine Fo rfl rfl rfl rfl rfl rfl (oIm runUnderlying43 sizeOf3 rfl rfl hx1) ?_;refine zq1 ?_;refine Fo rfl rfl rfl rfl rfl rfl (oIm runUnderlying29 sizeOf49 rfl rfl hx2) ?_;refine zq2 ?_;refine Fo rfl rfl rfl rfl rfl rfl (zs1 D.i64) ?_;refine E7 rfl ?_;refine zq1 ?_;refine Mr rfl rfl rfl rfl rfl (oLb 4 isAgg43 rfl rfl rfl rfl) ?_;refine zq4 ?_;refine Fo rfl rfl rfl rfl rfl rfl (oIm runUnderlying43 sizeOf3 rfl rfl hx4) ?_;refine zq1 ?_;refine Fo rfl rfl rfl rfl rfl rfl (oIm runUnderlying29 sizeOf49 rfl rfl hx5) ?_;refine zq2 ?_;refine Fo rfl rfl rfl rfl rfl rfl (zs1 D.i64) ?_;refine E7 rfl ?_;refine zq1 ?_;refine E7 rfl ?_;refine zq1 ?_;refine E7 rfl ?_;refine KP ?_;refine EU rfl rfl rfl rfl (Co (a:=_) 2 underlying43 type3 rfl rfl rfl rfl rfl rfl rfl (fun _=>rfl) (fun _=>rfl) hg3 (BJ hg3 rfl)) ?_;rintro _ _ ⟨a_r3,cap_r3,rfl,rfl⟩;refine ⟨fun _=>⟨trivial,oLb 4 isAgg43 rfl rfl rfl rfl⟩,?_⟩;refine EU rfl rfl rfl rfl (Co (a:=_) 1 underlying43 type3 rfl rfl rfl rfl rfl rfl rfl (fun _=>rfl) (fun _=>rfl) hg6 (BJ hg6 rfl)) ?_;rintro _ _ ⟨a_r4,cap_r4,rfl,rfl⟩;refine ⟨fun hc=>absurd hc (by decide),?_⟩;refine NI rfl rfl rfl (oSb 5 sizeOf43 rfl rfl rfl rfl rfl rfl rfl rfl (nB rfl)) ?_;rintro _ _ rfl;refine ⟨fun hc=>absurd hc (by decide),?_⟩;refine NI rfl rfl rfl (oSb 4 sizeOf43 rfl rfl rfl rfl rfl rfl rfl rfl (nB rfl)) ?_;rintro _ _ rfl;refine ⟨fun hc=>absurd hc (by decide),?_⟩;refine Je ?_;refine zq2 ?_;obtain ⟨hg7,hj1⟩:=Aa hj1;refine zq3 ?_;exact ⟨_,((_,_),(_,_),(_,_),(_,_)),hj1,⟨rfl,trivial⟩,⟨rfl,rfl,rfl,rfl,rfl,trivial⟩,[],rfl⟩
    ·refine Au ?_
     exact ⟨_,((_,_),(_,_),(_,_),(_,_)),Ac hj1,trivial,⟨rfl,rfl,rfl,rfl,trivial⟩,[],rfl⟩
   ·rintro ⟨l2,l3,l4,l5⟩ ⟨⟨a_r5,cap_r5⟩,⟨a_r4,cap_r4⟩,⟨a_r3,cap_r3⟩,⟨a_r2,cap_r2⟩⟩ hst
    subst hst;refine An (L':=[(3,_),(4,_),(11,_),(12,_)]) (ms':=[row a_r5 cap_r5 3 1 D.i64 l2,row a_r4 cap_r4 3 1 D.i64 l3,row a_r3 cap_r3 3 1 D.i64 l4,row a_r2 cap_r2 3 1 D.i64 l5,box b2 95 [.v (.slice a_r4 l3.length cap_r4),.v (.slice a_r5 l2.length cap_r5)],box b1 95 [.v (.slice a_r2 l5.length cap_r2),.v (.slice a_r3 l4.length cap_r3)],_]) rfl rfl ?_;refine zq5 ?_;obtain ⟨o_2,hj2,hm2⟩:=bS hm1;refine Al [(11,_),(12,_)] [(6,_)] (fun (st:((List Int)×(List Int)×(List Int)×(List Int))) (hid:(Option Addr×Nat)×(Option Addr×Nat)×(Option Addr×Nat)×(Option Addr×Nat))=>match st,hid with | (l10,l11,l12,l13),((a_r5,cap_r5),(a_r4,cap_r4),(a_r3,cap_r3),(a_r2,cap_r2))=>[]) (fun F (st:((List Int)×(List Int)×(List Int)×(List Int))) (hid:(Option Addr×Nat)×(Option Addr×Nat)×(Option Addr×Nat)×(Option Addr×Nat))=>match st,hid with | (l10,l11,l12,l13),((a_r5,cap_r5),(a_r4,cap_r4),(a_r3,cap_r3),(a_r2,cap_r2))=>[row a_r5 cap_r5 3 1 D.i64 l10,row a_r4 cap_r4 3 1 D.i64 l11,row a_r3 cap_r3 3 1 D.i64 l12,row a_r2 cap_r2 3 1 D.i64 l13,box b2 95 [.v (.slice a_r4 l11.length cap_r4),.v (.slice a_r5 l10.length cap_r5)],box b1 95 [.v (.slice a_r2 l13.length cap_r2),.v (.slice a_r3 l12.length cap_r3)],(nthF F 0)]) (fun st=>st=o_2) ⟨rfl,rfl,trivial⟩ ⟨rfl,trivial⟩ ?_ ?_
    ·refine Aq ?_
     refine Am [(3,_),(4,_),(11,_),(12,_)] [(6,_)] (fun (st:(Int×(List Int)×(List Int)×(List Int)×(List Int))) (hid:(Option Addr×Nat)×(Option Addr×Nat)×(Option Addr×Nat)×(Option Addr×Nat))=>match st,hid with | (i2,l14,l15,l16,l17),((a_r5,cap_r5),(a_r4,cap_r4),(a_r3,cap_r3),(a_r2,cap_r2))=>[(14,.i64 i2)]) (fun F (st:(Int×(List Int)×(List Int)×(List Int)×(List Int))) (hid:(Option Addr×Nat)×(Option Addr×Nat)×(Option Addr×Nat)×(Option Addr×Nat))=>match st,hid with | (i2,l14,l15,l16,l17),((a_r5,cap_r5),(a_r4,cap_r4),(a_r3,cap_r3),(a_r2,cap_r2))=>[row a_r5 cap_r5 3 1 D.i64 l14,row a_r4 cap_r4 3 1 D.i64 l15,row a_r3 cap_r3 3 1 D.i64 l16,row a_r2 cap_r2 3 1 D.i64 l17,box b2 95 [.v (.slice a_r4 l15.length cap_r4),.v (.slice a_r5 l14.length cap_r5)],box b1 95 [.v (.slice a_r2 l17.length cap_r2),.v (.slice a_r3 l16.length cap_r3)],(nthF F 0)]) ((_,_),(_,_),(_,_),(_,_)) hj2 (fun _=>rfl) ⟨rfl,rfl,rfl,rfl,trivial⟩ ⟨rfl,trivial⟩ ⟨rfl,trivial⟩ rfl ?_;rintro n ⟨i2,l14,l15,l16,l17⟩ ⟨⟨a_r5,cap_r5⟩,⟨a_r4,cap_r4⟩,⟨a_r3,cap_r3⟩,⟨a_r2,cap_r2⟩⟩ hj2;rw [C9] at hj2;refine At (L':=[(14,.i64 i2),(3,_),(4,_),(11,_),(12,_)]) (ms':=[row a_r5 cap_r5 3 1 D.i64 l14,row a_r4 cap_r4 3 1 D.i64 l15,row a_r3 cap_r3 3 1 D.i64 l16,row a_r2 cap_r2 3 1 D.i64 l17,box b2 95 [.v (.slice a_r4 l15.length cap_r4),.v (.slice a_r5 l14.length cap_r5)],box b1 95 [.v (.slice a_r2 l17.length cap_r2),.v (.slice a_r3 l16.length cap_r3)],_]) rfl rfl ?_;refine zq8 ?_;refine zcn hj2 (fun hc4 hj2=>?_) (fun hc4 hj2=>?_)
     ·refine zq3 ?_
      obtain ⟨x5,hx8,hj2⟩:=bS hj2;obtain ⟨x6,hx9,hj2⟩:=bS hj2;obtain ⟨hg10,hj2⟩:=Aa hj2;obtain ⟨x7,hx11,hj2⟩:=bS hj2;obtain ⟨x8,hx12,hj2⟩:=bS hj2;obtain ⟨hg13,hj2⟩:=Aa hj2;refine Iu 3 [12,25,27,29] [13,14,15,16,17,18,19,20,21,22,23,24,26,28] [14] (by decide +kernel) (by decide +kernel) AY (by decide +kernel) (by decide +kernel) rfl ?_;refine zq6 ?_;refine Fo rfl rfl rfl rfl rfl rfl (oIm runUnderlying43 sizeOf3 rfl rfl hx8) ?_;refine zq1 ?_;refine Fo rfl rfl rfl rfl rfl rfl (oIm runUnderlying29 sizeOf49 rfl rfl hx9) ?_;refine zq2 ?_;refine Fo rfl rfl rfl rfl rfl rfl (zs1 D.i64) ?_;refine E7 rfl ?_;refine zq1 ?_;refine Mr rfl rfl rfl rfl rfl (oLb 4 isAgg43 rfl rfl rfl rfl) ?_;refine zq4 ?_;refine Fo rfl rfl rfl rfl rfl rfl (oIm runUnderlying43 sizeOf3 rfl rfl hx11) ?_;refine zq1 ?_;refine Fo rfl rfl rfl rfl rfl rfl (oIm runUnderlying29 sizeOf49 rfl rfl hx12) ?_;refine zq2 ?_;refine Fo rfl rfl rfl rfl rfl rfl (zs1 D.i64) ?_;refine E7 rfl ?_;refine zq1 ?_;refine E7 rfl ?_;refine zq1 ?_;refine E7 rfl ?_;refine KP ?_;refine EU rfl rfl rfl rfl (Co (a:=_) 3 underlying43 type3 rfl rfl rfl rfl rfl rfl rfl (fun _=>rfl) (fun _=>rfl) hg10 (BJ hg10 rfl)) ?_;rintro _ _ ⟨a_r2,cap_r2,rfl,rfl⟩;refine ⟨fun _=>⟨trivial,oLb 4 isAgg43 rfl rfl rfl rfl⟩,?_⟩;refine EU rfl rfl rfl rfl (Co (a:=_) 0 underlying43 type3 rfl rfl rfl rfl rfl rfl rfl (fun _=>rfl) (fun _=>rfl) hg13 (BJ hg13 rfl)) ?_;rintro _ _ ⟨a_r5,cap_r5,rfl,rfl⟩;refine ⟨fun hc=>absurd hc (by decide),?_⟩;refine NI rfl rfl rfl (oSb 5 sizeOf43 rfl rfl rfl rfl rfl rfl rfl rfl (nB rfl)) ?_;rintro _ _ rfl;refine ⟨fun hc=>absurd hc (by decide),?_⟩;refine NI rfl rfl rfl (oSb 4 sizeOf43 rfl rfl rfl rfl rfl rfl rfl rfl (nB rfl)) ?_;rintro _ _ rfl;refine ⟨fun hc=>absurd hc (by decide),?_⟩;refine Je ?_;refine zq2 ?_;obtain ⟨hg14,hj2⟩:=Aa hj2;refine zq3 ?_;exact ⟨_,((_,_),(_,_),(_,_),(_,_)),hj2,⟨rfl,trivial⟩,⟨rfl,rfl,rfl,rfl,trivial⟩,[],rfl⟩
     ·refine Au ?_
      exact ⟨_,((_,_),(_,_),(_,_),(_,_)),Ac hj2,trivial,⟨rfl,rfl,trivial⟩,[],rfl⟩
    ·rintro ⟨l10,l11,l12,l13⟩ ⟨⟨a_r5,cap_r5⟩,⟨a_r4,cap_r4⟩,⟨a_r3,cap_r3⟩,⟨a_r2,cap_r2⟩⟩ hst
     subst hst;refine An (L':=[(11,_),(12,_)]) (ms':=[row a_r5 cap_r5 3 1 D.i64 l10,row a_r4 cap_r4 3 1 D.i64 l11,row a_r3 cap_r3 3 1 D.i64 l12,row a_r2 cap_r2 3 1 D.i64 l13,box b2 95 [.v (.slice a_r4 l11.length cap_r4),.v (.slice a_r5 l10.length cap_r5)],box b1 95 [.v (.slice a_r2 l13.length cap_r2),.v (.slice a_r3 l12.length cap_r3)],_]) rfl rfl ?_;refine Gl ?_;obtain ⟨x9,hx15,hm2⟩:=bS hm2;obtain ⟨x10,hx16,hm2⟩:=bS hm2;obtain ⟨x11,hx17,hm2⟩:=bS hm2;obtain ⟨x12,hx18,hm2⟩:=bS hm2;refine zdr 17 ?_;refine zq2 ?_;refine Av rfl rfl rfl (.view (peekE (i:=100) 3 rfl rfl rfl) (B7 call74 rfl (Fx hx15))) ?_;refine zq2 ?_;refine Av rfl rfl rfl (.view (peekE (i:=103) 2 rfl rfl rfl) (B7 call74 rfl (Fx hx16))) ?_;refine Av rfl rfl rfl zb95b ?_;refine zq2 ?_;refine Av rfl rfl rfl (.view (peekE (i:=107) 1 rfl rfl rfl) (B7 call74 rfl (Fx hx17))) ?_;refine zq2 ?_;refine Av rfl rfl rfl (.view (peekE (i:=110) 0 rfl rfl rfl) (B7 call74 rfl (Fx hx18))) ?_;refine Av rfl rfl rfl zb95b ?_;refine Av rfl rfl rfl (Ai (xs:=[_,_]) (f:=RSeq.d) (l:=[(⟨x9,x10⟩:RSeq),(⟨x11,x12⟩:RSeq)]) runUnderlying96 sizeOf95 zeroValue95 rfl rfl rfl (fun _=>⟨rfl,rfl,rfl⟩) rfl) ?_;refine zq4 ?_
     cases hm2;exact Af zr2
  ·refine zq3 ?_
   refine Ak rfl rfl rfl (Ai (xs:=[]) (f:=D.str) (l:=[]) runUnderlying174 sizeOf9 zeroValue9 rfl rfl rfl (fun _=>⟨rfl,rfl,rfl⟩) rfl) ?_;refine zq8 ?_;obtain ⟨o_3,hj3,hm3⟩:=bS hm;refine Al [(1,_),(2,_),(3,_),(4,_),(10,_)] [(0,_)] (fun (st:(List (List UInt8))) (hid:Unit)=>match st,hid with | all1,_=>[(15,.list 1 D.str all1)]) (fun F (st:(List (List UInt8))) (hid:Unit)=>match st,hid with | all1,_=>[(nthF F 0)]) (fun st=>st=o_3) ⟨rfl,rfl,rfl,rfl,rfl,trivial⟩ ⟨rfl,trivial⟩ ?_ ?_
   ·refine zcn hj3 (fun hc5 hj3=>?_) (fun hc5 hj3=>?_)
    ·refine zq3 ?_
     obtain ⟨x13,hx19,hj3⟩:=bS hj3;refine zc0 (Ld hx19) ?_;refine zq2 ?_;exact ⟨_,(),Ac hj3,⟨rfl,trivial⟩,⟨rfl,rfl,rfl,rfl,rfl,trivial⟩,[],rfl⟩
    ·refine gSp ?_
     exact ⟨_,(),Ac hj3,⟨rfl,trivial⟩,⟨rfl,rfl,rfl,rfl,rfl,trivial⟩,[],rfl⟩
   ·rintro all1 _ hst
    subst hst;refine An (L':=[(15,.list 1 D.str all1),(1,_),(2,_),(3,_),(4,_),(10,_)]) (ms':=[_]) rfl rfl ?_;refine zq6 ?_;obtain ⟨o_4,hj4,hm4⟩:=bS hm3;refine Al [(2,_),(3,_),(4,_),(10,_)] [(0,_)] (fun (st:(List (List UInt8))) (hid:Unit)=>match st,hid with | all2,_=>[(15,.list 1 D.str all2)]) (fun F (st:(List (List UInt8))) (hid:Unit)=>match st,hid with | all2,_=>[(nthF F 0)]) (fun st=>st=o_4) ⟨rfl,rfl,rfl,rfl,trivial⟩ ⟨rfl,trivial⟩ ?_ ?_
    ·refine zcn hj4 (fun hc6 hj4=>?_) (fun hc6 hj4=>?_)
     ·refine zq3 ?_
      obtain ⟨x14,hx20,hj4⟩:=bS hj4;refine zc0 (Ld hx20) ?_;refine zq2 ?_;exact ⟨_,(),Ac hj4,⟨rfl,trivial⟩,⟨rfl,rfl,rfl,rfl,trivial⟩,[],rfl⟩
     ·refine gSp ?_
      exact ⟨_,(),Ac hj4,⟨rfl,trivial⟩,⟨rfl,rfl,rfl,rfl,trivial⟩,[],rfl⟩
    ·rintro all2 _ hst
     subst hst;refine An (L':=[(15,.list 1 D.str all2),(2,_),(3,_),(4,_),(10,_)]) (ms':=[_]) rfl rfl ?_;refine zq5 ?_;obtain ⟨o_5,hj5,hm5⟩:=bS hm4;refine Al [] [] (fun (st:(List RSeq)) (hid:(Option Addr×Nat))=>match st,hid with | l18,(a_r1,cap_r1)=>[(10,.v (.slice a_r1 l18.length cap_r1))]) (fun F (st:(List RSeq)) (hid:(Option Addr×Nat))=>match st,hid with | l18,(a_r1,cap_r1)=>[row a_r1 cap_r1 95 2 RSeq.d l18]) (fun st=>Out.go (st)=o_5) trivial trivial ?_ ?_
     ·refine Aq ?_
      refine Am [(2,_),(3,_),(4,_),(15,_)] [] (fun (st:(Int×(List RSeq))) (hid:(Option Addr×Nat))=>match st,hid with | (i3,l19),(a_r1,cap_r1)=>[(10,.v (.slice a_r1 l19.length cap_r1)),(16,.i64 i3)]) (fun F (st:(Int×(List RSeq))) (hid:(Option Addr×Nat))=>match st,hid with | (i3,l19),(a_r1,cap_r1)=>[row a_r1 cap_r1 95 2 RSeq.d l19]) (_,_) hj5 (fun _=>rfl) ⟨rfl,rfl,rfl,rfl,trivial⟩ trivial ⟨rfl,rfl,trivial⟩ rfl ?_;rintro n ⟨i3,l19⟩ ⟨a_r1,cap_r1⟩ hj5;rw [Dc] at hj5;refine At (L':=[(10,.v (.slice a_r1 l19.length cap_r1)),(16,.i64 i3),(2,_),(3,_),(4,_),(15,_)]) (ms':=[row a_r1 cap_r1 95 2 RSeq.d l19]) rfl rfl ?_;refine zq8 ?_;refine zcn hj5 (fun hc7 hj5=>?_) (fun hc7 hj5=>?_)
      ·refine zq4 ?_
       obtain ⟨x15,hx21,hj5⟩:=bS hj5;obtain ⟨x16,hx22,hj5⟩:=bS hj5;obtain ⟨x17,hx23,hj5⟩:=bS hj5;obtain ⟨x18,hx24,hj5⟩:=bS hj5;refine zdr 16 ?_;refine zq4 ?_;refine Av rfl rfl rfl (oIm runUnderlying174 sizeOf9 rfl rfl hx21) ?_;refine zq1 ?_;refine zcd (IB hx22) ?_;refine zq4 ?_;refine Av rfl rfl rfl (oIm runUnderlying174 sizeOf9 rfl rfl hx23) ?_;refine zq1 ?_;refine zcd (IB hx24) ?_;refine zq11 ?_
       apply Cv [(2,_),(3,_),(4,_),(10,_),(15,_),(16,_),(17,_),(18,_)] 4 152 (t:=148) ⟨rfl,rfl,rfl,rfl,rfl,rfl,rfl,rfl,trivial⟩ rfl
       ·intro hg_2 hk2
        refine zq4 ?_;exact zgm hk2
       ·intro hg_2 hk2
        refine zq4 ?_;exact zgm hk2
       refine gNl ?_;refine zcn hj5 (fun hc8 hj5=>?_) (fun hc8 hj5=>?_)
       ·refine zq3 ?_
        refine Ap (nilE (i:=8) (sz:=2) (f:=RSeq.d) rfl).refines ?_;refine zq2 ?_;refine Af ?_;obtain rfl:=Ac hj5
        replace hm5:=B8 hm5
        cases hm5;exact zr2
       ·refine zq5 ?_
        refine Ak rfl rfl rfl zb95b ?_;refine Ak rfl rfl rfl (Ai (xs:=[_]) (f:=RSeq.d) (l:=[(⟨x16,x18⟩:RSeq)]) runUnderlying96 sizeOf95 zeroValue95 rfl rfl rfl (fun _=>⟨rfl,rfl,rfl⟩) rfl) ?_;obtain ⟨hg25,hj5⟩:=Aa hj5;refine zap 0 hg25 fun a_r1 cap_r1=>?_;refine Aj (ms':=[_]) rfl ?_;refine zq4 ?_;obtain ⟨hg26,hj5⟩:=Aa hj5;refine zq3 ?_;exact ⟨_,(_,_),hj5,⟨rfl,rfl,trivial⟩,⟨rfl,rfl,rfl,rfl,trivial⟩,[],rfl⟩
      ·refine Au ?_
       exact ⟨_,(_,_),Ac hj5,⟨rfl,trivial⟩,trivial,[],rfl⟩
     ·rintro l18 ⟨a_r1,cap_r1⟩ hst
      subst hst
      replace hm5:=DH hm5
      refine An (L':=[(10,.v (.slice a_r1 l18.length cap_r1))]) (ms':=[row a_r1 cap_r1 95 2 RSeq.d l18]) rfl rfl ?_;refine zq6 ?_;refine BY (peekE (i:=8) 0 rfl rfl rfl).refines ?_
      cases hm5;exact Af zr2
def Ey (t1:ATy) (l1:(List Int)) (kind1:Int):Nat->(Int×(List Int))->Option (List Int)
 | 0,_=>none
 | n+1,(i1,l3) =>
  bif (decide (i1<(l1.length:Int))) then
   (idx l1 i1).bind fun x1 =>
   (idx t1.l x1).bind fun x2 =>
   bif (decide (x2.kind=kind1)) then
    (idx l1 i1).bind fun x3 =>
    grd ((l3.length+([x3]:List _).length)*8<=140737488355328) <|
    grd (InR (i1+1)) <|
    Ey t1 l1 kind1 n ((i1+1),(l3++[x3]))
   else
    grd (InR (i1+1)) <|
    Ey t1 l1 kind1 n ((i1+1),l3)
  else
   some l3
def It (t1:ATy) (l1:(List Int)) (kind1:Int):Option (List Int):=
 (Ey t1 l1 kind1 FU (0,[]):Option (List Int)).bind fun l2 =>
 some l2
theorem Qn {t1:ATy} {l1:(List Int)} {kind1:Int} {r_1:(List Int)} (hm:It t1 l1 kind1=some r_1):Fn0 Tryz.prog 108 [ATy.d t1,.list 1 D.i64 l1,.i64 kind1] (.list 1 D.i64 r_1):=by
 unfold It at hm;refine Ae func108 rfl ntmps108 rfl fun H0 fr w0=>?_;refine zq4 ?_;refine Ap (nilE (i:=6) (sz:=1) (f:=D.i64) rfl).refines ?_;refine zq3 ?_;refine AJ rfl rfl rfl (Ax (xs:=[]) (f:=D.i64) (l:=[]) runUnderlying43 sizeOf3 zeroValue3 rfl rfl rfl (fun _=>⟨rfl,rfl,rfl⟩) rfl (by simp [maxLen])) ?_;rintro _ _ ⟨a_r1,rfl,rfl⟩;refine zq7 ?_;obtain ⟨o_1,hj1,hm1⟩:=bS hm;refine Al [] [] (fun (st:(List Int)) (hid:(Option Addr×Nat))=>match st,hid with | l2,(a_r1,cap_r1)=>[(7,.v (.slice a_r1 l2.length cap_r1))]) (fun F (st:(List Int)) (hid:(Option Addr×Nat))=>match st,hid with | l2,(a_r1,cap_r1)=>[row a_r1 cap_r1 3 1 D.i64 l2]) (fun st=>st=o_1) trivial trivial ?_ ?_
 ·refine Aq ?_
  refine Am [(1,_),(2,_),(3,_)] [] (fun (st:(Int×(List Int))) (hid:(Option Addr×Nat))=>match st,hid with | (i1,l3),(a_r1,cap_r1)=>[(7,.v (.slice a_r1 l3.length cap_r1)),(8,.i64 i1)]) (fun F (st:(Int×(List Int))) (hid:(Option Addr×Nat))=>match st,hid with | (i1,l3),(a_r1,cap_r1)=>[row a_r1 cap_r1 3 1 D.i64 l3]) (_,_) hj1 (fun _=>rfl) ⟨rfl,rfl,rfl,trivial⟩ trivial ⟨rfl,rfl,trivial⟩ rfl ?_;rintro n ⟨i1,l3⟩ ⟨a_r1,cap_r1⟩ hj1;rw [Ey] at hj1;refine At (L':=[(7,.v (.slice a_r1 l3.length cap_r1)),(8,.i64 i1),(1,_),(2,_),(3,_)]) (ms':=[row a_r1 cap_r1 3 1 D.i64 l3]) rfl rfl ?_;refine zq8 ?_;refine zcn hj1 (fun hc1 hj1=>?_) (fun hc1 hj1=>?_)
  ·refine zq4 ?_
   obtain ⟨x1,hx1,hj1⟩:=bS hj1;obtain ⟨x2,hx2,hj1⟩:=bS hj1;refine zdr 11 ?_;refine zq4 ?_;refine Av rfl rfl rfl (oIm runUnderlying43 sizeOf3 rfl rfl hx1) ?_;refine zq1 ?_;refine Av rfl rfl rfl (oIm runUnderlying29 sizeOf49 rfl rfl hx2) ?_;refine zq6 ?_;refine zcn hj1 (fun hc2 hj1=>?_) (fun hc2 hj1=>?_)
   ·refine zq4 ?_
    obtain ⟨x3,hx3,hj1⟩:=bS hj1;refine Ak rfl rfl rfl (oIm runUnderlying43 sizeOf3 rfl rfl hx3) ?_;refine zq1 ?_;refine Ak rfl rfl rfl (zs1 D.i64) ?_;obtain ⟨hg4,hj1⟩:=Aa hj1;refine zap 0 hg4 fun a_r1 cap_r1=>?_;refine Aj (ms':=[_]) rfl ?_;refine zq4 ?_;obtain ⟨hg5,hj1⟩:=Aa hj1;refine zq3 ?_;exact ⟨_,(_,_),hj1,⟨rfl,rfl,trivial⟩,⟨rfl,rfl,rfl,trivial⟩,[],rfl⟩
   ·refine zq3 ?_
    obtain ⟨hg6,hj1⟩:=Aa hj1;refine zq3 ?_;exact ⟨_,(_,_),hj1,⟨rfl,rfl,trivial⟩,⟨rfl,rfl,rfl,trivial⟩,[],rfl⟩
  ·refine Au ?_
   exact ⟨_,(_,_),Ac hj1,⟨rfl,trivial⟩,trivial,[],rfl⟩
 ·rintro l2 ⟨a_r1,cap_r1⟩ hst
  subst hst;refine An (L':=[(7,.v (.slice a_r1 l2.length cap_r1))]) (ms':=[row a_r1 cap_r1 3 1 D.i64 l2]) rfl rfl ?_;refine zq5 ?_;refine BY (peekE (i:=6) 0 rfl rfl rfl).refines ?_
  cases hm1;exact Af zr1
def Da (t1:ATy) (q1:RSeq) (i1:Int):Nat->Int->Option (Out ((List RSeq)×Bool) Unit)
 | 0,_=>none
 | n+1,k1 =>
  bif (decide (k1<(q1.r.length:Int))) then
   (idx q1.l i1).bind fun x15 =>
   (idx t1.l x15).bind fun x16 =>
   (idx q1.r k1).bind fun x17 =>
   (idx t1.l x17).bind fun x18 =>
   bif (((decide (x16.kind=11))&&(decide (x18.kind=11)))&&(decide (x16.a=x18.a))) then
    some (Out.ret ([],true))
   else
    grd (InR (k1+1)) <|
    Da t1 q1 i1 n (k1+1)
  else
   some (Out.go (()))
def Dg (t1:ATy) (q1:RSeq):Nat->Int->Option (Out ((List RSeq)×Bool) Unit)
 | 0,_=>none
 | n+1,i1 =>
  bif (decide (i1<(q1.l.length:Int))) then
   ((Da t1 q1 i1 FU 0:Option (Out ((List RSeq)×Bool) Unit))).bind (fun oo=>oo.on (fun r1=>some (Out.ret r1)) (fun _ =>
   grd (InR (i1+1)) <|
   Dg t1 q1 n (i1+1)))
  else
   some (Out.go (()))
def BW (t1:ATy) (q1:RSeq):Nat->(Int×(List Int))->Option (List Int)
 | 0,_=>none
 | n+1,(i2,l2) =>
  bif (decide (i2<=8)) then
   (Fb t1 q1.l i2).bind fun x19 =>
   bif (decide (0<=x19)) then
    grd ((l2.length+([i2]:List _).length)*8<=140737488355328) <|
    grd (InR (i2+1)) <|
    BW t1 q1 n ((i2+1),(l2++[i2]))
   else
    grd (InR (i2+1)) <|
    BW t1 q1 n ((i2+1),l2)
  else
   some l2
def D4 (t1:ATy) (q1:RSeq):Option ((List RSeq)×Bool):=
 (Fb t1 q1.l 2).bind fun x1 =>
 (bif (decide (0<=x1)) then (some true) else ((Fb t1 q1.r 1).bind fun x2 =>
 some (decide (0<=x2)))).bind fun p1 =>
 bif p1 then
  some ([],true)
 else
  (ED t1 q1.l 9 10).bind fun x3 =>
  bif (decide (0<=x3)) then
   (idx q1.l x3).bind fun x4 =>
   (idx t1.l x4).bind fun x5 =>
   bif (decide (x5.kind=10)) then
    (Dn q1.l x3 [x5.a,x5.b]).bind fun x6 =>
    some ([(⟨x6,q1.r⟩:RSeq)],true)
   else
    (Dn q1.l x3 [x5.a]).bind fun x7 =>
    (Dn q1.l x3 [x5.b]).bind fun x8 =>
    some ([(⟨x7,q1.r⟩:RSeq),(⟨x8,q1.r⟩:RSeq)],true)
  else
   (ED t1 q1.r 9 10).bind fun x9 =>
   bif (decide (0<=x9)) then
    (idx q1.r x9).bind fun x10 =>
    (idx t1.l x10).bind fun x11 =>
    bif (decide (x11.kind=9)) then
     (Dn q1.r x9 [x11.a,x11.b]).bind fun x12 =>
     some ([(⟨q1.l,x12⟩:RSeq)],true)
    else
     (Dn q1.r x9 [x11.a]).bind fun x13 =>
     (Dn q1.r x9 [x11.b]).bind fun x14 =>
     some ([(⟨q1.l,x13⟩:RSeq),(⟨q1.l,x14⟩:RSeq)],true)
   else
    ((Dg t1 q1 FU 0:Option (Out ((List RSeq)×Bool) Unit))).bind (fun oo=>oo.on (fun r2=>some r2) (fun _ =>
    (BW t1 q1 FU (3,[]):Option (List Int)).bind fun l1 =>
    bif (decide ((l1.length:Int)=0)) then
     some ([],false)
    else
     bif (decide (1<(l1.length:Int))) then
      some ([],true)
     else
      (idx l1 0).bind fun x20 =>
      (idx l1 0).bind fun x21 =>
      (It t1 q1.l x21).bind fun x22 =>
      (idx l1 0).bind fun x23 =>
      (It t1 q1.r x23).bind fun x24 =>
      (Ga t1 x20 x22 x24).bind fun (x25,x26) =>
      some (x25,x26)))
theorem Pz {t1:ATy} {q1:RSeq} {r_1:(List RSeq)} {r_2:Bool} (hm:D4 t1 q1=some (r_1,r_2)):Fn0 Tryz.prog 75 [ATy.d t1,RSeq.d q1] (.tup [.list 2 RSeq.d r_1,.bool r_2]):=by
 unfold D4 at hm;refine Ae func75 rfl ntmps75 rfl fun H0 fr w0=>?_;refine zq5 ?_;refine Ap (nilE (i:=4) (sz:=2) (f:=RSeq.d) rfl).refines ?_;refine zq8 ?_;obtain ⟨x1,hx1,hm⟩:=bS hm;refine zc0 (Kf hx1) ?_;refine zq2 ?_;obtain ⟨p1,hp_1,hm⟩:=bS hm;refine Bs [(2,_),(3,_)] 6 27 p1 (t:=21) ⟨rfl,rfl,trivial⟩ rfl (fun hg_1 hk1=>?_) (fun hg_1 hk1=>?_) ?_
 ·replace hp_1:=Bg hg_1 hp_1
  refine zq6 ?_;exact zgb hk1 hp_1
 ·replace hp_1:=Be hg_1 hp_1
  refine zq3 ?_;obtain ⟨x2,hx2,hp_1⟩:=bS hp_1;refine zcw (Kf hx2) ?_;refine zq2 ?_;exact zgb hk1 hp_1
 refine gNl ?_;refine zcn hm (fun hc1 hm=>?_) (fun hc1 hm=>?_)
 ·refine zq3 ?_
  refine Ap (nilE (i:=4) (sz:=2) (f:=RSeq.d) rfl).refines ?_;refine zq2 ?_
  cases hm;exact Af zr2
 ·refine zq7 ?_
  obtain ⟨x3,hx3,hm⟩:=bS hm;refine zc0 (Lf hx3) ?_;refine zq7 ?_;refine zcn hm (fun hc2 hm=>?_) (fun hc2 hm=>?_)
  ·refine Gl ?_
   obtain ⟨x4,hx4,hm⟩:=bS hm;obtain ⟨x5,hx5,hm⟩:=bS hm;refine Fz 10 [9] AY (by decide +kernel) (by decide +kernel) rfl (by decide +kernel) ?_;refine AD rfl rfl rfl rfl (oFa Fi rfl rfl rfl) ?_;refine AD rfl rfl rfl rfl (BK isAgg29 rfl rfl) ?_;refine AD rfl rfl rfl rfl (oFa KM rfl rfl rfl) ?_;refine AD rfl rfl rfl rfl (BK isAgg43 rfl rfl) ?_;refine AD rfl rfl rfl rfl (oMv rfl) ?_;refine AD rfl rfl rfl rfl (oIm runUnderlying43 sizeOf3 rfl rfl hx4) ?_;refine AD rfl rfl rfl rfl (BK isAgg3 rfl rfl) ?_;refine AD rfl rfl rfl rfl (oIm runUnderlying29 sizeOf49 rfl rfl hx5) ?_;refine AD rfl rfl rfl rfl (C7 isAgg49 sizeOf49 rfl rfl) ?_;refine DN (R:=fun d A=>∃ b,d = .v (.pointer (some ⟨b,0,none⟩))/\A=box b 49 [.i64 0,.i64 0,.i64 0,.list 2 AFd.d []]) rfl rfl rfl (OpT.mono (AL zeroValue49 (cs:=[.i64 0,.i64 0,.i64 0,.list 2 AFd.d []]) rfl) (by rintro d ms' ⟨b,rfl,rfl⟩;exact ⟨_,⟨b,rfl,rfl⟩,rfl⟩)) ?_;refine Gr ?_;rintro _ _ ⟨b1,rfl,rfl⟩;refine zst 0 ?_;refine Aj (ms':=[box b1 49 [_,_,_,_]]) rfl ?_;refine zq8 ?_;refine zcn hm (fun hc3 hm=>?_) (fun hc3 hm=>?_)
   ·refine Gl ?_
    obtain ⟨x6,hx6,hm⟩:=bS hm;refine zdr 15 ?_;refine zq7 ?_;refine Av rfl rfl rfl (zs2 D.i64) ?_;refine zcd (FL hx6) ?_;refine zq2 ?_;refine Av rfl rfl rfl zb95b ?_;refine Av rfl rfl rfl (Ai (xs:=[_]) (f:=RSeq.d) (l:=[(⟨x6,q1.r⟩:RSeq)]) runUnderlying96 sizeOf95 zeroValue95 rfl rfl rfl (fun _=>⟨rfl,rfl,rfl⟩) rfl) ?_;refine zq4 ?_
    cases hm;exact Af zr2
   ·refine zq2 ?_
    obtain ⟨x7,hx7,hm⟩:=bS hm;obtain ⟨x8,hx8,hm⟩:=bS hm;refine zdr 23 ?_;refine zq5 ?_;refine Av rfl rfl rfl (zs1 D.i64) ?_;refine zcd (FL hx7) ?_;refine zq2 ?_;refine Av rfl rfl rfl zb95b ?_;refine zq5 ?_;refine Av rfl rfl rfl (zs1 D.i64) ?_;refine zcd (FL hx8) ?_;refine zq2 ?_;refine Av rfl rfl rfl zb95b ?_;refine Av rfl rfl rfl (Ai (xs:=[_,_]) (f:=RSeq.d) (l:=[(⟨x7,q1.r⟩:RSeq),(⟨x8,q1.r⟩:RSeq)]) runUnderlying96 sizeOf95 zeroValue95 rfl rfl rfl (fun _=>⟨rfl,rfl,rfl⟩) rfl) ?_;refine zq4 ?_
    cases hm;exact Af zr2
  ·refine zq7 ?_
   obtain ⟨x9,hx9,hm⟩:=bS hm;refine zc0 (Lf hx9) ?_;refine zq7 ?_;refine zcn hm (fun hc4 hm=>?_) (fun hc4 hm=>?_)
   ·refine Gl ?_
    obtain ⟨x10,hx10,hm⟩:=bS hm;obtain ⟨x11,hx11,hm⟩:=bS hm;refine Fz 10 [9] AY (by decide +kernel) (by decide +kernel) rfl (by decide +kernel) ?_;refine AD rfl rfl rfl rfl (oFa Fi rfl rfl rfl) ?_;refine AD rfl rfl rfl rfl (BK isAgg29 rfl rfl) ?_;refine AD rfl rfl rfl rfl (oFa KH rfl rfl rfl) ?_;refine AD rfl rfl rfl rfl (BK isAgg43 rfl rfl) ?_;refine AD rfl rfl rfl rfl (oMv rfl) ?_;refine AD rfl rfl rfl rfl (oIm runUnderlying43 sizeOf3 rfl rfl hx10) ?_;refine AD rfl rfl rfl rfl (BK isAgg3 rfl rfl) ?_;refine AD rfl rfl rfl rfl (oIm runUnderlying29 sizeOf49 rfl rfl hx11) ?_;refine AD rfl rfl rfl rfl (C7 isAgg49 sizeOf49 rfl rfl) ?_;refine DN (R:=fun d A=>∃ b,d = .v (.pointer (some ⟨b,0,none⟩))/\A=box b 49 [.i64 0,.i64 0,.i64 0,.list 2 AFd.d []]) rfl rfl rfl (OpT.mono (AL zeroValue49 (cs:=[.i64 0,.i64 0,.i64 0,.list 2 AFd.d []]) rfl) (by rintro d ms' ⟨b,rfl,rfl⟩;exact ⟨_,⟨b,rfl,rfl⟩,rfl⟩)) ?_;refine Gr ?_;rintro _ _ ⟨b2,rfl,rfl⟩;refine zst 0 ?_;refine Aj (ms':=[box b2 49 [_,_,_,_]]) rfl ?_;refine zq8 ?_;refine zcn hm (fun hc5 hm=>?_) (fun hc5 hm=>?_)
    ·refine Gl ?_
     obtain ⟨x12,hx12,hm⟩:=bS hm;refine zdr 15 ?_;refine zq9 ?_;refine Av rfl rfl rfl (zs2 D.i64) ?_;refine zcd (FL hx12) ?_;refine Av rfl rfl rfl zb95b ?_;refine Av rfl rfl rfl (Ai (xs:=[_]) (f:=RSeq.d) (l:=[(⟨q1.l,x12⟩:RSeq)]) runUnderlying96 sizeOf95 zeroValue95 rfl rfl rfl (fun _=>⟨rfl,rfl,rfl⟩) rfl) ?_;refine zq4 ?_
     cases hm;exact Af zr2
    ·refine zq2 ?_
     obtain ⟨x13,hx13,hm⟩:=bS hm;obtain ⟨x14,hx14,hm⟩:=bS hm;refine zdr 23 ?_;refine zq7 ?_;refine Av rfl rfl rfl (zs1 D.i64) ?_;refine zcd (FL hx13) ?_;refine Av rfl rfl rfl zb95b ?_;refine zq7 ?_;refine Av rfl rfl rfl (zs1 D.i64) ?_;refine zcd (FL hx14) ?_;refine Av rfl rfl rfl zb95b ?_;refine Av rfl rfl rfl (Ai (xs:=[_,_]) (f:=RSeq.d) (l:=[(⟨q1.l,x13⟩:RSeq),(⟨q1.l,x14⟩:RSeq)]) runUnderlying96 sizeOf95 zeroValue95 rfl rfl rfl (fun _=>⟨rfl,rfl,rfl⟩) rfl) ?_;refine zq4 ?_
     cases hm;exact Af zr2
   ·refine zq6 ?_
    obtain ⟨o_1,hj1,hm1⟩:=bS hm;refine Al [(2,_),(3,_)] [] (fun (st:Unit) (hid:Unit)=>match st,hid with | _,_=>[]) (fun F (st:Unit) (hid:Unit)=>match st,hid with | _,_=>[]) (fun st=>Out.go (st)=o_1) ⟨rfl,rfl,trivial⟩ trivial ?_ ?_
    ·refine Aq ?_
     refine Am [(2,_),(3,_)] [] (fun (st:Int) (hid:Unit)=>match st,hid with | i1,_=>[(10,.i64 i1)]) (fun F (st:Int) (hid:Unit)=>match st,hid with | i1,_=>[]) () hj1 (fun _=>rfl) ⟨rfl,rfl,trivial⟩ trivial ⟨rfl,trivial⟩ rfl ?_;rintro n i1 _ hj1;rw [Dg] at hj1;refine At (L':=[(10,.i64 i1),(2,_),(3,_)]) (ms':=[]) rfl rfl ?_;refine zq9 ?_;refine zcn hj1 (fun hc6 hj1=>?_) (fun hc6 hj1=>?_)
     ·refine zq7 ?_
      obtain ⟨o_2,hj2,hm2⟩:=bS hj1;refine Al [(2,_),(3,_),(10,_)] [] (fun (st:Unit) (hid:Unit)=>match st,hid with | _,_=>[]) (fun F (st:Unit) (hid:Unit)=>match st,hid with | _,_=>[]) (fun st=>Out.go (st)=o_2) ⟨rfl,rfl,rfl,trivial⟩ trivial ?_ ?_
      ·refine Aq ?_
       refine Am [(2,_),(3,_),(10,_)] [] (fun (st:Int) (hid:Unit)=>match st,hid with | k1,_=>[(11,.i64 k1)]) (fun F (st:Int) (hid:Unit)=>match st,hid with | k1,_=>[]) () hj2 (fun _=>rfl) ⟨rfl,rfl,rfl,trivial⟩ trivial ⟨rfl,trivial⟩ rfl ?_;rintro n k1 _ hj2;rw [Da] at hj2;refine At (L':=[(11,.i64 k1),(2,_),(3,_),(10,_)]) (ms':=[]) rfl rfl ?_;refine zq9 ?_;refine zcn hj2 (fun hc7 hj2=>?_) (fun hc7 hj2=>?_)
       ·refine zq4 ?_
        obtain ⟨x15,hx15,hj2⟩:=bS hj2;obtain ⟨x16,hx16,hj2⟩:=bS hj2;obtain ⟨x17,hx17,hj2⟩:=bS hj2;obtain ⟨x18,hx18,hj2⟩:=bS hj2;refine Oy [] [20,21] [9,10,11,12,13,14,15,16,17] [18,19] [] AY (by decide +kernel) (by decide +kernel) rfl ?_;refine Eh rfl rfl rfl rfl rfl rfl (oFa Fi rfl rfl rfl) ?_;refine Eh rfl rfl rfl rfl rfl rfl (BK isAgg29 rfl rfl) ?_;refine Eh rfl rfl rfl rfl rfl rfl (oFa KM rfl rfl rfl) ?_;refine Eh rfl rfl rfl rfl rfl rfl (BK isAgg43 rfl rfl) ?_;refine Eh rfl rfl rfl rfl rfl rfl (oMv rfl) ?_;refine Eh rfl rfl rfl rfl rfl rfl (oIm runUnderlying43 sizeOf3 rfl rfl hx15) ?_;refine Eh rfl rfl rfl rfl rfl rfl (BK isAgg3 rfl rfl) ?_;refine Eh rfl rfl rfl rfl rfl rfl (oIm runUnderlying29 sizeOf49 rfl rfl hx16) ?_;refine Eh rfl rfl rfl rfl rfl rfl (C7 isAgg49 sizeOf49 rfl rfl) ?_;refine Eh rfl rfl rfl rfl rfl rfl (oFa Fi rfl rfl rfl) ?_;refine Eh rfl rfl rfl rfl rfl rfl (BK isAgg29 rfl rfl) ?_;refine Eh rfl rfl rfl rfl rfl rfl (oFa KH rfl rfl rfl) ?_;refine Eh rfl rfl rfl rfl rfl rfl (BK isAgg43 rfl rfl) ?_;refine Eh rfl rfl rfl rfl rfl rfl (oMv rfl) ?_;refine Eh rfl rfl rfl rfl rfl rfl (oIm runUnderlying43 sizeOf3 rfl rfl hx17) ?_;refine Eh rfl rfl rfl rfl rfl rfl (BK isAgg3 rfl rfl) ?_;refine Eh rfl rfl rfl rfl rfl rfl (oIm runUnderlying29 sizeOf49 rfl rfl hx18) ?_;refine Eh rfl rfl rfl rfl rfl rfl (C7 isAgg49 sizeOf49 rfl rfl) ?_;refine JN (R0:=fun d A=>∃ b,d = .v (.pointer (some ⟨b,0,none⟩))/\A=box b 49 [.i64 0,.i64 0,.i64 0,.list 2 AFd.d []]) rfl rfl rfl rfl (OpT.mono (AL zeroValue49 (cs:=[.i64 0,.i64 0,.i64 0,.list 2 AFd.d []]) rfl) (by rintro d ms' ⟨b,rfl,rfl⟩;exact ⟨_,⟨b,rfl,rfl⟩,rfl⟩)) ?_;refine JN (R0:=fun d A=>∃ b,d = .v (.pointer (some ⟨b,0,none⟩))/\A=box b 49 [.i64 0,.i64 0,.i64 0,.list 2 AFd.d []]) rfl rfl rfl rfl (OpT.mono (AL zeroValue49 (cs:=[.i64 0,.i64 0,.i64 0,.list 2 AFd.d []]) rfl) (by rintro d ms' ⟨b,rfl,rfl⟩;exact ⟨_,⟨b,rfl,rfl⟩,rfl⟩)) ?_;refine MT rfl ?_;refine MT rfl ?_;refine Re ?_;refine TK [(18,12),(19,13)] rfl ?_;rintro _ _ ⟨b3,rfl,rfl⟩;rintro _ _ ⟨b4,rfl,rfl⟩
        show _/\_
        refine ⟨(trivial:True),?_⟩;refine Fa rfl rfl rfl (oSb 0 sizeOf49 rfl rfl rfl rfl rfl rfl rfl rfl (nB rfl)) ?_;rintro _ _ rfl;refine ⟨(trivial:True),?_⟩;refine Fa rfl rfl rfl (oSb 1 sizeOf49 rfl rfl rfl rfl rfl rfl rfl rfl (nB rfl)) ?_;rintro _ _ rfl;refine ⟨(trivial:True),?_⟩;refine Ek ?_;refine zq6 ?_
        apply Cz [(2,_),(3,_),(10,_),(11,_),(12,_),(13,_)] 4 171 (t:=167) ⟨rfl,rfl,rfl,rfl,rfl,rfl,trivial⟩ rfl
        ·intro hg_2 hk2
         refine zq4 ?_;exact zgm hk2
        ·intro hg_2 hk2
         refine zq4 ?_;exact zgm hk2
        refine zq1 ?_
        apply Cz [(2,_),(3,_),(10,_),(11,_)] 6 178 (t:=172) ⟨rfl,rfl,rfl,rfl,trivial⟩ rfl
        ·intro hg_3 hk3
         refine zq6 ?_;exact zgm hk3
        ·intro hg_3 hk3
         refine zq6 ?_;exact zgm hk3
        refine gNl ?_;refine zcn hj2 (fun hc8 hj2=>?_) (fun hc8 hj2=>?_)
        ·refine zq3 ?_
         refine Ap (nilE (i:=4) (sz:=2) (f:=RSeq.d) rfl).refines ?_;refine zq2 ?_;refine Af ?_;obtain rfl:=Ac hj2
         replace hm2:=B8 hm2
         obtain rfl:=Ac hm2
         replace hm1:=B8 hm1
         cases hm1;exact zr2
        ·refine zq3 ?_
         obtain ⟨hg19,hj2⟩:=Aa hj2;refine zq3 ?_;exact ⟨_,(),hj2,⟨rfl,trivial⟩,⟨rfl,rfl,rfl,trivial⟩,[_,_],rfl⟩
       ·refine Au ?_
        exact ⟨_,(),Ac hj2,trivial,⟨rfl,rfl,rfl,trivial⟩,[],rfl⟩
      ·rintro _ _ hst
       subst hst
       replace hm2:=DH hm2
       refine An (L':=[(2,_),(3,_),(10,_)]) (ms':=[]) rfl rfl ?_;refine zq2 ?_;obtain ⟨hg20,hm2⟩:=Aa hm2;refine zq3 ?_;exact ⟨_,(),hm2,⟨rfl,trivial⟩,⟨rfl,rfl,trivial⟩,[],rfl⟩
     ·refine Au ?_
      exact ⟨_,(),Ac hj1,trivial,⟨rfl,rfl,trivial⟩,[],rfl⟩
    ·rintro _ _ hst
     subst hst
     replace hm1:=DH hm1
     refine An (L':=[(2,_),(3,_)]) (ms':=[]) rfl rfl ?_;refine zq2 ?_;refine AJ rfl rfl rfl (Ax (xs:=[]) (f:=D.i64) (l:=[]) runUnderlying43 sizeOf3 zeroValue3 rfl rfl rfl (fun _=>⟨rfl,rfl,rfl⟩) rfl (by simp [maxLen])) ?_;rintro _ _ ⟨a_r1,rfl,rfl⟩;refine zq7 ?_;obtain ⟨o_3,hj3,hm3⟩:=bS hm1;refine Al [(2,_),(3,_)] [] (fun (st:(List Int)) (hid:(Option Addr×Nat))=>match st,hid with | l1,(a_r1,cap_r1)=>[(14,.v (.slice a_r1 l1.length cap_r1))]) (fun F (st:(List Int)) (hid:(Option Addr×Nat))=>match st,hid with | l1,(a_r1,cap_r1)=>[row a_r1 cap_r1 3 1 D.i64 l1]) (fun st=>st=o_3) ⟨rfl,rfl,trivial⟩ trivial ?_ ?_
     ·refine Aq ?_
      refine Am [(2,_),(3,_)] [] (fun (st:(Int×(List Int))) (hid:(Option Addr×Nat))=>match st,hid with | (i2,l2),(a_r1,cap_r1)=>[(14,.v (.slice a_r1 l2.length cap_r1)),(15,.i64 i2)]) (fun F (st:(Int×(List Int))) (hid:(Option Addr×Nat))=>match st,hid with | (i2,l2),(a_r1,cap_r1)=>[row a_r1 cap_r1 3 1 D.i64 l2]) (_,_) hj3 (fun _=>rfl) ⟨rfl,rfl,trivial⟩ trivial ⟨rfl,rfl,trivial⟩ rfl ?_;rintro n ⟨i2,l2⟩ ⟨a_r1,cap_r1⟩ hj3;rw [BW] at hj3;refine At (L':=[(14,.v (.slice a_r1 l2.length cap_r1)),(15,.i64 i2),(2,_),(3,_)]) (ms':=[row a_r1 cap_r1 3 1 D.i64 l2]) rfl rfl ?_;refine zq6 ?_;refine zcn hj3 (fun hc9 hj3=>?_) (fun hc9 hj3=>?_)
      ·refine zq9 ?_
       obtain ⟨x19,hx21,hj3⟩:=bS hj3;refine zc0 (Kf hx21) ?_;refine zq2 ?_;refine zcn hj3 (fun hc10 hj3=>?_) (fun hc10 hj3=>?_)
       ·refine zq3 ?_
        refine Ak rfl rfl rfl (zs1 D.i64) ?_;obtain ⟨hg22,hj3⟩:=Aa hj3;refine zap 0 hg22 fun a_r1 cap_r1=>?_;refine Aj (ms':=[_]) rfl ?_;refine zq4 ?_;obtain ⟨hg23,hj3⟩:=Aa hj3;refine zq3 ?_;exact ⟨_,(_,_),hj3,⟨rfl,rfl,trivial⟩,⟨rfl,rfl,trivial⟩,[],rfl⟩
       ·refine zq3 ?_
        obtain ⟨hg24,hj3⟩:=Aa hj3;refine zq3 ?_;exact ⟨_,(_,_),hj3,⟨rfl,rfl,trivial⟩,⟨rfl,rfl,trivial⟩,[],rfl⟩
      ·refine Au ?_
       exact ⟨_,(_,_),Ac hj3,⟨rfl,trivial⟩,⟨rfl,rfl,trivial⟩,[],rfl⟩
     ·rintro l1 ⟨a_r1,cap_r1⟩ hst
      subst hst;refine An (L':=[(14,.v (.slice a_r1 l1.length cap_r1)),(2,_),(3,_)]) (ms':=[row a_r1 cap_r1 3 1 D.i64 l1]) rfl rfl ?_;refine zq4 ?_;refine Ak rfl rfl rfl (.view (peekE (i:=194) 0 rfl rfl rfl) (Em runUnderlying43 rfl)) ?_;refine zq2 ?_;refine zcn hm3 (fun hc11 hm3=>?_) (fun hc11 hm3=>?_)
      ·refine zq3 ?_
       refine Ap (nilE (i:=4) (sz:=2) (f:=RSeq.d) rfl).refines ?_;refine zq2 ?_
       cases hm3;exact Af zr2
      ·refine zq5 ?_
       refine Ak rfl rfl rfl (.view (peekE (i:=197) 0 rfl rfl rfl) (Em runUnderlying43 rfl)) ?_;refine zq2 ?_;refine zcn hm3 (fun hc12 hm3=>?_) (fun hc12 hm3=>?_)
       ·refine zq3 ?_
        refine Ap (nilE (i:=4) (sz:=2) (f:=RSeq.d) rfl).refines ?_;refine zq2 ?_
        cases hm3;exact Af zr2
       ·refine zq2 ?_
        obtain ⟨x20,hx25,hm3⟩:=bS hm3;obtain ⟨x21,hx26,hm3⟩:=bS hm3;obtain ⟨x22,hx27,hm3⟩:=bS hm3;obtain ⟨x23,hx28,hm3⟩:=bS hm3;obtain ⟨x24,hx29,hm3⟩:=bS hm3;obtain ⟨⟨x25,x26⟩,hx30,hm3⟩:=bS hm3;refine zdr 23 ?_;refine zq2 ?_;refine Av rfl rfl rfl (.view (peekE (i:=201) 0 rfl rfl rfl) (oIm runUnderlying43 sizeOf3 rfl rfl hx25)) ?_;refine zq5 ?_;refine Av rfl rfl rfl (.view (peekE (i:=207) 0 rfl rfl rfl) (oIm runUnderlying43 sizeOf3 rfl rfl hx26)) ?_;refine zq1 ?_;refine zcd (Qn hx27) ?_;refine zq4 ?_;refine Av rfl rfl rfl (.view (peekE (i:=214) 0 rfl rfl rfl) (oIm runUnderlying43 sizeOf3 rfl rfl hx28)) ?_;refine zq1 ?_;refine zcd (Qn hx29) ?_;refine zcd (PQ hx30) ?_;refine zq6 ?_
        cases hm3;exact Af zr2
def Bb (t1:ATy) (q1:RSeq) (x2:ANd):Nat->Int->Option (Out Bool Unit)
 | 0,_=>none
 | n+1,k1 =>
  bif (decide (k1<(q1.r.length:Int))) then
   (idx q1.r k1).bind fun x3 =>
   (idx t1.l x3).bind fun x4 =>
   bif (((decide (x2.kind=11))&&(decide (x4.kind=11)))&&(decide (x2.a=x4.a))) then
    some (Out.ret true)
   else
    grd (InR (k1+1)) <|
    Bb t1 q1 x2 n (k1+1)
  else
   some (Out.go (()))
def Bc (t1:ATy) (q1:RSeq):Nat->Int->Option (Out Bool Unit)
 | 0,_=>none
 | n+1,i1 =>
  bif (decide (i1<(q1.l.length:Int))) then
   (idx q1.l i1).bind fun x1 =>
   (idx t1.l x1).bind fun x2 =>
   bif (((decide (x2.kind=2))||(decide (x2.kind=9)))||(decide (x2.kind=10))) then
    some (Out.ret true)
   else
    ((Bb t1 q1 x2 FU 0:Option (Out Bool Unit))).bind (fun oo=>oo.on (fun r1=>some (Out.ret r1)) (fun _ =>
    grd (InR (i1+1)) <|
    Bc t1 q1 n (i1+1)))
  else
   some (Out.go (()))
def Bi (t1:ATy) (q1:RSeq):Nat->Int->Option (Out Bool Unit)
 | 0,_=>none
 | n+1,k2 =>
  bif (decide (k2<(q1.r.length:Int))) then
   (idx q1.r k2).bind fun x5 =>
   (idx t1.l x5).bind fun x6 =>
   bif (((decide (x6.kind=1))||(decide (x6.kind=9)))||(decide (x6.kind=10))) then
    some (Out.ret true)
   else
    grd (InR (k2+1)) <|
    Bi t1 q1 n (k2+1)
  else
   some (Out.go (()))
def Bm (t1:ATy) (q1:RSeq):Option Bool:=
 ((Bc t1 q1 FU 0:Option (Out Bool Unit))).bind (fun oo=>oo.on (fun r3=>some r3) (fun _ =>
 ((Bi t1 q1 FU 0:Option (Out Bool Unit))).bind (fun oo=>oo.on (fun r2=>some r2) (fun _ =>
 some false))))
theorem HG {t1:ATy} {q1:RSeq} {r_1:Bool} (hm:Bm t1 q1=some r_1):Fn0 Tryz.prog 125 [ATy.d t1,RSeq.d q1] (.bool r_1):=by
 unfold Bm at hm;refine Ae func125 rfl ntmps125 rfl fun H0 fr w0=>?_;refine zq11 ?_;obtain ⟨o_1,hj1,hm1⟩:=bS hm;refine Al [(2,_),(3,_)] [] (fun (st:Unit) (hid:Unit)=>match st,hid with | _,_=>[]) (fun F (st:Unit) (hid:Unit)=>match st,hid with | _,_=>[]) (fun st=>Out.go (st)=o_1) ⟨rfl,rfl,trivial⟩ trivial ?_ ?_
 ·refine Aq ?_
  refine Am [(2,_),(3,_)] [] (fun (st:Int) (hid:Unit)=>match st,hid with | i1,_=>[(5,.i64 i1)]) (fun F (st:Int) (hid:Unit)=>match st,hid with | i1,_=>[]) () hj1 (fun _=>rfl) ⟨rfl,rfl,trivial⟩ trivial ⟨rfl,trivial⟩ rfl ?_;rintro n i1 _ hj1;rw [Bc] at hj1;refine At (L':=[(5,.i64 i1),(2,_),(3,_)]) (ms':=[]) rfl rfl ?_;refine zq9 ?_;refine zcn hj1 (fun hc1 hj1=>?_) (fun hc1 hj1=>?_)
  ·refine zq4 ?_
   obtain ⟨x1,hx1,hj1⟩:=bS hj1;obtain ⟨x2,hx2,hj1⟩:=bS hj1;refine Fz 10 [9] AY (by decide +kernel) (by decide +kernel) rfl (by decide +kernel) ?_;refine AD rfl rfl rfl rfl (oFa Fi rfl rfl rfl) ?_;refine AD rfl rfl rfl rfl (BK isAgg29 rfl rfl) ?_;refine AD rfl rfl rfl rfl (oFa KM rfl rfl rfl) ?_;refine AD rfl rfl rfl rfl (BK isAgg43 rfl rfl) ?_;refine AD rfl rfl rfl rfl (oMv rfl) ?_;refine AD rfl rfl rfl rfl (oIm runUnderlying43 sizeOf3 rfl rfl hx1) ?_;refine AD rfl rfl rfl rfl (BK isAgg3 rfl rfl) ?_;refine AD rfl rfl rfl rfl (oIm runUnderlying29 sizeOf49 rfl rfl hx2) ?_;refine AD rfl rfl rfl rfl (C7 isAgg49 sizeOf49 rfl rfl) ?_;refine DN (R:=fun d A=>∃ b,d = .v (.pointer (some ⟨b,0,none⟩))/\A=box b 49 [.i64 0,.i64 0,.i64 0,.list 2 AFd.d []]) rfl rfl rfl (OpT.mono (AL zeroValue49 (cs:=[.i64 0,.i64 0,.i64 0,.list 2 AFd.d []]) rfl) (by rintro d ms' ⟨b,rfl,rfl⟩;exact ⟨_,⟨b,rfl,rfl⟩,rfl⟩)) ?_;refine Gr ?_;rintro _ _ ⟨b1,rfl,rfl⟩;refine zst 0 ?_;refine Aj (ms':=[box b1 49 [_,_,_,_]]) rfl ?_;refine zq8 ?_
   apply Cv [(2,_),(3,_),(5,_),(6,_)] 4 34 (t:=30) ⟨rfl,rfl,rfl,rfl,trivial⟩ rfl
   ·intro hg_1 hk1
    refine zq4 ?_;exact zgm hk1
   ·intro hg_1 hk1
    refine zq4 ?_;exact zgm hk1
   refine zq1 ?_
   apply Cv [(2,_),(3,_),(5,_),(6,_)] 4 39 (t:=35) ⟨rfl,rfl,rfl,rfl,trivial⟩ rfl
   ·intro hg_2 hk2
    refine zq4 ?_;exact zgm hk2
   ·intro hg_2 hk2
    refine zq4 ?_;exact zgm hk2
   refine gNl ?_;refine zcn hj1 (fun hc2 hj1=>?_) (fun hc2 hj1=>?_)
   ·refine zq4 ?_
    refine Af ?_;obtain rfl:=Ac hj1
    replace hm1:=B8 hm1
    cases hm1;exact zr1
   ·refine zq5 ?_
    obtain ⟨o_2,hj2,hm2⟩:=bS hj1;refine Al [(2,_),(3,_),(5,_)] [(0,_)] (fun (st:Unit) (hid:Unit)=>match st,hid with | _,_=>[]) (fun F (st:Unit) (hid:Unit)=>match st,hid with | _,_=>[(nthF F 0)]) (fun st=>Out.go (st)=o_2) ⟨rfl,rfl,rfl,trivial⟩ ⟨rfl,trivial⟩ ?_ ?_
    ·refine Aq ?_
     refine Am [(2,_),(3,_),(5,_),(6,_)] [(0,_)] (fun (st:Int) (hid:Unit)=>match st,hid with | k1,_=>[(7,.i64 k1)]) (fun F (st:Int) (hid:Unit)=>match st,hid with | k1,_=>[(nthF F 0)]) () hj2 (fun _=>rfl) ⟨rfl,rfl,rfl,rfl,trivial⟩ ⟨rfl,trivial⟩ ⟨rfl,trivial⟩ rfl ?_;rintro n k1 _ hj2;rw [Bb] at hj2;refine At (L':=[(7,.i64 k1),(2,_),(3,_),(5,_),(6,_)]) (ms':=[_]) rfl rfl ?_;refine zq9 ?_;refine zcn hj2 (fun hc3 hj2=>?_) (fun hc3 hj2=>?_)
     ·refine zq4 ?_
      obtain ⟨x3,hx3,hj2⟩:=bS hj2;obtain ⟨x4,hx4,hj2⟩:=bS hj2;refine Fz 10 [9] AY (by decide +kernel) (by decide +kernel) rfl (by decide +kernel) ?_;refine AD rfl rfl rfl rfl (oFa Fi rfl rfl rfl) ?_;refine AD rfl rfl rfl rfl (BK isAgg29 rfl rfl) ?_;refine AD rfl rfl rfl rfl (oFa KH rfl rfl rfl) ?_;refine AD rfl rfl rfl rfl (BK isAgg43 rfl rfl) ?_;refine AD rfl rfl rfl rfl (oMv rfl) ?_;refine AD rfl rfl rfl rfl (oIm runUnderlying43 sizeOf3 rfl rfl hx3) ?_;refine AD rfl rfl rfl rfl (BK isAgg3 rfl rfl) ?_;refine AD rfl rfl rfl rfl (oIm runUnderlying29 sizeOf49 rfl rfl hx4) ?_;refine AD rfl rfl rfl rfl (C7 isAgg49 sizeOf49 rfl rfl) ?_;refine DN (R:=fun d A=>∃ b,d = .v (.pointer (some ⟨b,0,none⟩))/\A=box b 49 [.i64 0,.i64 0,.i64 0,.list 2 AFd.d []]) rfl rfl rfl (OpT.mono (AL zeroValue49 (cs:=[.i64 0,.i64 0,.i64 0,.list 2 AFd.d []]) rfl) (by rintro d ms' ⟨b,rfl,rfl⟩;exact ⟨_,⟨b,rfl,rfl⟩,rfl⟩)) ?_;refine Gr ?_;rintro _ _ ⟨b2,rfl,rfl⟩;refine zst 0 ?_;refine Aj (ms':=[box b2 49 [_,_,_,_],box b1 49 [_,_,_,_]]) rfl ?_;refine zq7 ?_
      apply Cz [(2,_),(3,_),(5,_),(6,_),(7,_),(8,_)] 4 63 (t:=59) ⟨rfl,rfl,rfl,rfl,rfl,rfl,trivial⟩ rfl
      ·intro hg_3 hk3
       refine zq4 ?_;exact zgm hk3
      ·intro hg_3 hk3
       refine zq4 ?_;exact zgm hk3
      refine zq1 ?_
      apply Cz [(2,_),(3,_),(5,_),(6,_),(7,_)] 6 70 (t:=64) ⟨rfl,rfl,rfl,rfl,rfl,trivial⟩ rfl
      ·intro hg_4 hk4
       refine zq6 ?_;exact zgm hk4
      ·intro hg_4 hk4
       refine zq6 ?_;exact zgm hk4
      refine gNl ?_;refine zcn hj2 (fun hc4 hj2=>?_) (fun hc4 hj2=>?_)
      ·refine zq4 ?_
       refine Af ?_;obtain rfl:=Ac hj2
       replace hm2:=B8 hm2
       obtain rfl:=Ac hm2
       replace hm1:=B8 hm1
       cases hm1;exact zr1
      ·refine zq3 ?_
       obtain ⟨hg5,hj2⟩:=Aa hj2;refine zq3 ?_;exact ⟨_,(),hj2,⟨rfl,trivial⟩,⟨rfl,rfl,rfl,rfl,trivial⟩,[_],rfl⟩
     ·refine Au ?_
      exact ⟨_,(),Ac hj2,trivial,⟨rfl,rfl,rfl,trivial⟩,[],rfl⟩
    ·rintro _ _ hst
     subst hst
     replace hm2:=DH hm2
     refine An (L':=[(2,_),(3,_),(5,_)]) (ms':=[_]) rfl rfl ?_;refine zq2 ?_;obtain ⟨hg6,hm2⟩:=Aa hm2;refine zq3 ?_;exact ⟨_,(),hm2,⟨rfl,trivial⟩,⟨rfl,rfl,trivial⟩,[_],rfl⟩
  ·refine Au ?_
   exact ⟨_,(),Ac hj1,trivial,⟨rfl,rfl,trivial⟩,[],rfl⟩
 ·rintro _ _ hst
  subst hst
  replace hm1:=DH hm1
  refine An (L':=[(2,_),(3,_)]) (ms':=[]) rfl rfl ?_;refine zq5 ?_;obtain ⟨o_3,hj3,hm3⟩:=bS hm1;refine Al [] [] (fun (st:Unit) (hid:Unit)=>match st,hid with | _,_=>[]) (fun F (st:Unit) (hid:Unit)=>match st,hid with | _,_=>[]) (fun st=>Out.go (st)=o_3) trivial trivial ?_ ?_
  ·refine Aq ?_
   refine Am [(2,_),(3,_)] [] (fun (st:Int) (hid:Unit)=>match st,hid with | k2,_=>[(9,.i64 k2)]) (fun F (st:Int) (hid:Unit)=>match st,hid with | k2,_=>[]) () hj3 (fun _=>rfl) ⟨rfl,rfl,trivial⟩ trivial ⟨rfl,trivial⟩ rfl ?_;rintro n k2 _ hj3;rw [Bi] at hj3;refine At (L':=[(9,.i64 k2),(2,_),(3,_)]) (ms':=[]) rfl rfl ?_;refine zq9 ?_;refine zcn hj3 (fun hc5 hj3=>?_) (fun hc5 hj3=>?_)
   ·refine zq4 ?_
    obtain ⟨x5,hx7,hj3⟩:=bS hj3;obtain ⟨x6,hx8,hj3⟩:=bS hj3;refine zdr 11 ?_;refine zq18 ?_
    apply Cv [(2,_),(3,_),(9,_),(10,_)] 3 93 (t:=90) ⟨rfl,rfl,rfl,rfl,trivial⟩ rfl
    ·intro hg_5 hk5
     refine zq3 ?_;exact zgm hk5
    ·intro hg_5 hk5
     refine zq3 ?_;exact zgm hk5
    refine zq1 ?_
    apply Cv [(2,_),(3,_),(9,_)] 3 97 (t:=94) ⟨rfl,rfl,rfl,trivial⟩ rfl
    ·intro hg_6 hk6
     refine zq3 ?_;exact zgm hk6
    ·intro hg_6 hk6
     refine zq3 ?_;exact zgm hk6
    refine gNl ?_;refine zcn hj3 (fun hc6 hj3=>?_) (fun hc6 hj3=>?_)
    ·refine zq4 ?_
     refine Af ?_;obtain rfl:=Ac hj3
     replace hm3:=B8 hm3
     cases hm3;exact zr1
    ·refine zq3 ?_
     obtain ⟨hg9,hj3⟩:=Aa hj3;refine zq3 ?_;exact ⟨_,(),hj3,⟨rfl,trivial⟩,⟨rfl,rfl,trivial⟩,[],rfl⟩
   ·refine Au ?_
    exact ⟨_,(),Ac hj3,trivial,trivial,[],rfl⟩
  ·rintro _ _ hst
   subst hst
   replace hm3:=DH hm3
   refine An (L':=[]) (ms':=[]) rfl rfl ?_;refine zq4 ?_
   cases hm3;exact Af zr1
def A4 (t1:ATy) (l1:(List Int)) (kind1:Int):Nat->(Int×(List Int))->Option (List Int)
 | 0,_=>none
 | n+1,(i1,l3) =>
  bif (decide (i1<(l1.length:Int))) then
   (idx l1 i1).bind fun x1 =>
   (idx t1.l x1).bind fun x2 =>
   bif (!decide (x2.kind=kind1)) then
    (idx l1 i1).bind fun x3 =>
    grd ((l3.length+([x3]:List _).length)*8<=140737488355328) <|
    grd (InR (i1+1)) <|
    A4 t1 l1 kind1 n ((i1+1),(l3++[x3]))
   else
    grd (InR (i1+1)) <|
    A4 t1 l1 kind1 n ((i1+1),l3)
  else
   some l3
def AH (t1:ATy) (l1:(List Int)) (kind1:Int):Option (List Int):=
 (A4 t1 l1 kind1 FU (0,[]):Option (List Int)).bind fun l2 =>
 some l2
theorem EG {t1:ATy} {l1:(List Int)} {kind1:Int} {r_1:(List Int)} (hm:AH t1 l1 kind1=some r_1):Fn0 Tryz.prog 126 [ATy.d t1,.list 1 D.i64 l1,.i64 kind1] (.list 1 D.i64 r_1):=by
 unfold AH at hm;refine Ae func126 rfl ntmps126 rfl fun H0 fr w0=>?_;refine zq4 ?_;refine Ap (nilE (i:=6) (sz:=1) (f:=D.i64) rfl).refines ?_;refine zq3 ?_;refine AJ rfl rfl rfl (Ax (xs:=[]) (f:=D.i64) (l:=[]) runUnderlying43 sizeOf3 zeroValue3 rfl rfl rfl (fun _=>⟨rfl,rfl,rfl⟩) rfl (by simp [maxLen])) ?_;rintro _ _ ⟨a_r1,rfl,rfl⟩;refine zq7 ?_;obtain ⟨o_1,hj1,hm1⟩:=bS hm;refine Al [] [] (fun (st:(List Int)) (hid:(Option Addr×Nat))=>match st,hid with | l2,(a_r1,cap_r1)=>[(7,.v (.slice a_r1 l2.length cap_r1))]) (fun F (st:(List Int)) (hid:(Option Addr×Nat))=>match st,hid with | l2,(a_r1,cap_r1)=>[row a_r1 cap_r1 3 1 D.i64 l2]) (fun st=>st=o_1) trivial trivial ?_ ?_
 ·refine Aq ?_
  refine Am [(1,_),(2,_),(3,_)] [] (fun (st:(Int×(List Int))) (hid:(Option Addr×Nat))=>match st,hid with | (i1,l3),(a_r1,cap_r1)=>[(7,.v (.slice a_r1 l3.length cap_r1)),(8,.i64 i1)]) (fun F (st:(Int×(List Int))) (hid:(Option Addr×Nat))=>match st,hid with | (i1,l3),(a_r1,cap_r1)=>[row a_r1 cap_r1 3 1 D.i64 l3]) (_,_) hj1 (fun _=>rfl) ⟨rfl,rfl,rfl,trivial⟩ trivial ⟨rfl,rfl,trivial⟩ rfl ?_;rintro n ⟨i1,l3⟩ ⟨a_r1,cap_r1⟩ hj1;rw [A4] at hj1;refine At (L':=[(7,.v (.slice a_r1 l3.length cap_r1)),(8,.i64 i1),(1,_),(2,_),(3,_)]) (ms':=[row a_r1 cap_r1 3 1 D.i64 l3]) rfl rfl ?_;refine zq8 ?_;refine zcn hj1 (fun hc1 hj1=>?_) (fun hc1 hj1=>?_)
  ·refine zq4 ?_
   obtain ⟨x1,hx1,hj1⟩:=bS hj1;obtain ⟨x2,hx2,hj1⟩:=bS hj1;refine zdr 11 ?_;refine zq4 ?_;refine Av rfl rfl rfl (oIm runUnderlying43 sizeOf3 rfl rfl hx1) ?_;refine zq1 ?_;refine Av rfl rfl rfl (oIm runUnderlying29 sizeOf49 rfl rfl hx2) ?_;refine zq6 ?_;refine zcn hj1 (fun hc2 hj1=>?_) (fun hc2 hj1=>?_)
   ·refine zq4 ?_
    obtain ⟨x3,hx3,hj1⟩:=bS hj1;refine Ak rfl rfl rfl (oIm runUnderlying43 sizeOf3 rfl rfl hx3) ?_;refine zq1 ?_;refine Ak rfl rfl rfl (zs1 D.i64) ?_;obtain ⟨hg4,hj1⟩:=Aa hj1;refine zap 0 hg4 fun a_r1 cap_r1=>?_;refine Aj (ms':=[_]) rfl ?_;refine zq4 ?_;obtain ⟨hg5,hj1⟩:=Aa hj1;refine zq3 ?_;exact ⟨_,(_,_),hj1,⟨rfl,rfl,trivial⟩,⟨rfl,rfl,rfl,trivial⟩,[],rfl⟩
   ·refine zq3 ?_
    obtain ⟨hg6,hj1⟩:=Aa hj1;refine zq3 ?_;exact ⟨_,(_,_),hj1,⟨rfl,rfl,trivial⟩,⟨rfl,rfl,rfl,trivial⟩,[],rfl⟩
  ·refine Au ?_
   exact ⟨_,(_,_),Ac hj1,⟨rfl,trivial⟩,trivial,[],rfl⟩
 ·rintro l2 ⟨a_r1,cap_r1⟩ hst
  subst hst;refine An (L':=[(7,.v (.slice a_r1 l2.length cap_r1))]) (ms':=[row a_r1 cap_r1 3 1 D.i64 l2]) rfl rfl ?_;refine zq5 ?_;refine BY (peekE (i:=6) 0 rfl rfl rfl).refines ?_
  cases hm1;exact Af zr1
def AQ (w1:Syntagmaref19World) (i1:Int)  : Option Bool:=
 (idx w1.t.l i1).bind fun x1 =>
 bif (decide (x1.kind=11)) then ((idx w1.t.l i1).bind fun x2 =>
 some (decide (x2.a<w1.flex))) else (some false)
theorem CI {w1:Syntagmaref19World} {i1:Int}  {r_1:Bool} {b_q0:Nat} {a_q0c3:Option Addr} {cap_q0c3:Nat} {a_q0c4:Option Addr} {m_q0c4:Nat} {cap_q0c4:Nat} {q_q0c4:(List ((List Int)×Option Addr×Nat))} {a_q0c5:Option Addr} {m_q0c5:Nat} {cap_q0c5:Nat} {a_q0c6:Option Addr} {m_q0c6:Nat} {cap_q0c6:Nat} (hm:AQ w1 i1=some r_1):Go.V.Fn Tryz.prog 162 [.v (.pointer (some ⟨b_q0,0,none⟩)),.i64 i1] [box b_q0 133 [.list 4 ANd.d w1.t.l,.i64 w1.t.root,.i64 w1.flex,.v (.slice a_q0c3 w1.all.length cap_q0c3),.v (.slice a_q0c4 m_q0c4 cap_q0c4),.v (.slice a_q0c5 m_q0c5 cap_q0c5),.v (.slice a_q0c6 m_q0c6 cap_q0c6),.bool w1.mixed,.bool w1.fails],row a_q0c3 cap_q0c3 95 2 RSeq.d w1.all,bks a_q0c4 m_q0c4 cap_q0c4 43 3 1 D.i64 w1.buckets q_q0c4,arr a_q0c5 m_q0c5 cap_q0c5 131 1 (D.list 1 (D.list 1 D.i64)) w1.below_,arr a_q0c6 m_q0c6 cap_q0c6 131 1 (D.list 1 (D.list 1 D.i64)) w1.above] (fun d ms'=>d = .bool r_1/\ms'=[box b_q0 133 [.list 4 ANd.d w1.t.l,.i64 w1.t.root,.i64 w1.flex,.v (.slice a_q0c3 w1.all.length cap_q0c3),.v (.slice a_q0c4 m_q0c4 cap_q0c4),.v (.slice a_q0c5 m_q0c5 cap_q0c5),.v (.slice a_q0c6 m_q0c6 cap_q0c6),.bool w1.mixed,.bool w1.fails],row a_q0c3 cap_q0c3 95 2 RSeq.d w1.all,bks a_q0c4 m_q0c4 cap_q0c4 43 3 1 D.i64 w1.buckets q_q0c4,arr a_q0c5 m_q0c5 cap_q0c5 131 1 (D.list 1 (D.list 1 D.i64)) w1.below_,arr a_q0c6 m_q0c6 cap_q0c6 131 1 (D.list 1 (D.list 1 D.i64)) w1.above]):=by
 unfold AQ at hm;refine Ae func162 rfl ntmps162 rfl fun H0 fr w0=>?_;refine zq5 ?_;obtain ⟨x1,hx1,hm⟩:=bS hm
 rcases Ex hm with ⟨hg_1,hm⟩ | ⟨hg_1,hm⟩
 ·
  skip
  obtain ⟨x2,hx2,hm⟩:=bS hm;refine zdr 27 ?_;refine zq1 ?_;refine Av rfl rfl rfl (Ad rfl) ?_;refine zq4 ?_;refine Av rfl rfl rfl (oIm runUnderlying29 sizeOf49 rfl rfl hx1) ?_;refine zq5 ?_;refine DT rfl rfl rfl hg_1 rfl rfl (Ad rfl) ?_;refine zq4 ?_;refine DT rfl rfl rfl hg_1 rfl rfl (oIm runUnderlying29 sizeOf49 rfl rfl hx2) ?_;refine zq3 ?_;refine DT rfl rfl rfl hg_1 rfl rfl (Ad rfl) ?_;refine zq7 ?_;refine Af ?_;obtain rfl:=Ac hm;exact retK (AV rfl (A6 rfl) (permA 0 rfl (permA 0 rfl (permA 0 rfl (permA 0 rfl (permA 0 rfl permN)))))) ⟨rfl,rfl⟩
 ·
  skip
  refine zdr 27 ?_;refine zq1 ?_;refine Av rfl rfl rfl (Ad rfl) ?_;refine zq4 ?_;refine Av rfl rfl rfl (oIm runUnderlying29 sizeOf49 rfl rfl hx1) ?_;refine zq22 ?_;refine Af ?_;obtain rfl:=Ac hm;exact retK (AV rfl (A6 rfl) (permA 0 rfl (permA 0 rfl (permA 0 rfl (permA 0 rfl (permA 0 rfl permN)))))) ⟨rfl,rfl⟩
def A3 (w1:Syntagmaref19World) (l1:(List Int)):Nat->Int->Option (Out Int Unit)
 | 0,_=>none
 | n+1,i1 =>
  bif (decide (i1<(l1.length:Int))) then
   (idx l1 i1).bind fun x1 =>
   (AQ (⟨(⟨w1.t.l,w1.t.root⟩:ATy),w1.flex,w1.all,w1.buckets,w1.below_,w1.above,w1.mixed,w1.fails⟩:Syntagmaref19World) x1).bind fun x2 =>
   bif (!x2) then (some (Out.ret (-1))) else ((idx l1 i1).bind fun x3 =>
   (idx w1.t.l x3).bind fun x4 =>
   (idx l1 0).bind fun x5 =>
   (idx w1.t.l x5).bind fun x6 =>
   bif (!decide (x4.a=x6.a)) then
    some (Out.ret (-1))
   else
    grd (InR (i1+1)) <|
    A3 w1 l1 n (i1+1))
  else
   some (Out.go (()))
def Bj (w1:Syntagmaref19World) (l1:(List Int))  : Option Int:=
 bif (decide ((l1.length:Int)=0)) then
  some (-1)
 else
  ((A3 w1 l1 FU 0:Option (Out Int Unit))).bind (fun oo=>oo.on (fun r1=>some r1) (fun _ =>
  (idx l1 0).bind fun x7 =>
  (idx w1.t.l x7).bind fun x8 =>
  some x8.a))
theorem DS {w1:Syntagmaref19World} {l1:(List Int)}  {r_1:Int} {b_q0:Nat} {a_q0c3:Option Addr} {cap_q0c3:Nat} {a_q0c4:Option Addr} {m_q0c4:Nat} {cap_q0c4:Nat} {q_q0c4:(List ((List Int)×Option Addr×Nat))} {a_q0c5:Option Addr} {m_q0c5:Nat} {cap_q0c5:Nat} {a_q0c6:Option Addr} {m_q0c6:Nat} {cap_q0c6:Nat} (hm:Bj w1 l1=some r_1):Go.V.Fn Tryz.prog 127 [.v (.pointer (some ⟨b_q0,0,none⟩)),.list 1 D.i64 l1] [box b_q0 133 [.list 4 ANd.d w1.t.l,.i64 w1.t.root,.i64 w1.flex,.v (.slice a_q0c3 w1.all.length cap_q0c3),.v (.slice a_q0c4 m_q0c4 cap_q0c4),.v (.slice a_q0c5 m_q0c5 cap_q0c5),.v (.slice a_q0c6 m_q0c6 cap_q0c6),.bool w1.mixed,.bool w1.fails],row a_q0c3 cap_q0c3 95 2 RSeq.d w1.all,bks a_q0c4 m_q0c4 cap_q0c4 43 3 1 D.i64 w1.buckets q_q0c4,arr a_q0c5 m_q0c5 cap_q0c5 131 1 (D.list 1 (D.list 1 D.i64)) w1.below_,arr a_q0c6 m_q0c6 cap_q0c6 131 1 (D.list 1 (D.list 1 D.i64)) w1.above] (fun d ms'=>d = .i64 r_1/\ms'=[box b_q0 133 [.list 4 ANd.d w1.t.l,.i64 w1.t.root,.i64 w1.flex,.v (.slice a_q0c3 w1.all.length cap_q0c3),.v (.slice a_q0c4 m_q0c4 cap_q0c4),.v (.slice a_q0c5 m_q0c5 cap_q0c5),.v (.slice a_q0c6 m_q0c6 cap_q0c6),.bool w1.mixed,.bool w1.fails],row a_q0c3 cap_q0c3 95 2 RSeq.d w1.all,bks a_q0c4 m_q0c4 cap_q0c4 43 3 1 D.i64 w1.buckets q_q0c4,arr a_q0c5 m_q0c5 cap_q0c5 131 1 (D.list 1 (D.list 1 D.i64)) w1.below_,arr a_q0c6 m_q0c6 cap_q0c6 131 1 (D.list 1 (D.list 1 D.i64)) w1.above]):=by
 unfold Bj at hm;refine Ae func127 rfl ntmps127 rfl fun H0 fr w0=>?_;refine zq11 ?_;refine zcn hm (fun hc1 hm=>?_) (fun hc1 hm=>?_)
 ·refine zq4 ?_
  refine Af ?_;obtain rfl:=Ac hm;exact retK (AV rfl (A6 rfl) (permA 0 rfl (permA 0 rfl (permA 0 rfl (permA 0 rfl (permA 0 rfl permN)))))) ⟨rfl,rfl⟩
 ·refine zq6 ?_
  obtain ⟨o_1,hj1,hm1⟩:=bS hm;refine Al [(0,_),(1,_)] [(0,_),(1,_),(2,_),(3,_),(4,_)] (fun (st:Unit) (hid:Unit)=>match st,hid with | _,_=>[]) (fun F (st:Unit) (hid:Unit)=>match st,hid with | _,_=>[(nthF F 0),(nthF F 1),(nthF F 2),(nthF F 3),(nthF F 4)]) (fun st=>Out.go (st)=o_1) ⟨rfl,rfl,trivial⟩ ⟨rfl,rfl,rfl,rfl,rfl,trivial⟩ ?_ ?_
  ·refine Aq ?_
   refine Am [(0,_),(1,_)] [(0,_),(1,_),(2,_),(3,_),(4,_)] (fun (st:Int) (hid:Unit)=>match st,hid with | i1,_=>[(5,.i64 i1)]) (fun F (st:Int) (hid:Unit)=>match st,hid with | i1,_=>[(nthF F 0),(nthF F 1),(nthF F 2),(nthF F 3),(nthF F 4)]) () hj1 (fun _=>rfl) ⟨rfl,rfl,trivial⟩ ⟨rfl,rfl,rfl,rfl,rfl,trivial⟩ ⟨rfl,trivial⟩ rfl ?_;rintro n i1 _ hj1;rw [A3] at hj1;refine At (L':=[(5,.i64 i1),(0,_),(1,_)]) (ms':=[_,_,_,_,_]) rfl rfl ?_;refine zq8 ?_;refine zcn hj1 (fun hc2 hj1=>?_) (fun hc2 hj1=>?_)
   ·refine zq4 ?_
    obtain ⟨x1,hx1,hj1⟩:=bS hj1;obtain ⟨x2,hx2,hj1⟩:=bS hj1
    rcases Ex hj1 with ⟨hg_1,hj1⟩ | ⟨hg_1,hj1⟩
    ·
     skip
     refine zdr 33 ?_;refine zq3 ?_;refine Av rfl rfl rfl (oIm runUnderlying43 sizeOf3 rfl rfl hx1) ?_;refine zq1 ?_;refine Av rfl rfl rfl (BX [0,1,2,3,4] call162 rfl rfl (Ar rfl (Ar rfl (Ar rfl (Ar rfl (Ar rfl CR))))) (CI hx2)) ?_;refine zq29 ?_;refine Ce rfl rfl ?_;refine zq4 ?_;refine Af ?_;obtain rfl:=Ac hj1
     replace hm1:=B8 hm1
     obtain rfl:=Ac hm1;exact retK (AV rfl (A6 rfl) (permA 0 rfl (permA 0 rfl (permA 0 rfl (permA 0 rfl (permA 0 rfl permN)))))) ⟨rfl,rfl⟩
    ·
     skip
     obtain ⟨x3,hx3,hj1⟩:=bS hj1;obtain ⟨x4,hx4,hj1⟩:=bS hj1;obtain ⟨x5,hx5,hj1⟩:=bS hj1;obtain ⟨x6,hx6,hj1⟩:=bS hj1;refine zdr 33 ?_;refine zq3 ?_;refine Av rfl rfl rfl (oIm runUnderlying43 sizeOf3 rfl rfl hx1) ?_;refine zq1 ?_;refine Av rfl rfl rfl (BX [0,1,2,3,4] call162 rfl rfl (Ar rfl (Ar rfl (Ar rfl (Ar rfl (Ar rfl CR))))) (CI hx2)) ?_;refine zq3 ?_;refine DT rfl rfl rfl hg_1 rfl rfl (Ad rfl) ?_;refine zq5 ?_;refine DT rfl rfl rfl hg_1 rfl rfl (oIm runUnderlying43 sizeOf3 rfl rfl hx3) ?_;refine zq1 ?_;refine DT rfl rfl rfl hg_1 rfl rfl (oIm runUnderlying29 sizeOf49 rfl rfl hx4) ?_;refine zq3 ?_;refine DT rfl rfl rfl hg_1 rfl rfl (Ad rfl) ?_;refine zq4 ?_;refine DT rfl rfl rfl hg_1 rfl rfl (oIm runUnderlying43 sizeOf3 rfl rfl hx5) ?_;refine zq1 ?_;refine DT rfl rfl rfl hg_1 rfl rfl (oIm runUnderlying29 sizeOf49 rfl rfl hx6) ?_;refine zq6 ?_;refine zcn hj1 (fun hc3 hj1=>?_) (fun hc3 hj1=>?_)
     ·refine zq4 ?_
      refine Af ?_;obtain rfl:=Ac hj1
      replace hm1:=B8 hm1
      obtain rfl:=Ac hm1;exact retK (AV rfl (A6 rfl) (permA 0 rfl (permA 0 rfl (permA 0 rfl (permA 0 rfl (permA 0 rfl permN)))))) ⟨rfl,rfl⟩
     ·refine zq3 ?_
      obtain ⟨hg7,hj1⟩:=Aa hj1;refine zq3 ?_;exact ⟨_,(),hj1,⟨rfl,trivial⟩,⟨rfl,rfl,trivial⟩,[],rfl⟩
   ·refine Au ?_
    exact ⟨_,(),Ac hj1,trivial,⟨rfl,rfl,trivial⟩,[],rfl⟩
  ·rintro _ _ hst
   subst hst
   replace hm1:=DH hm1
   refine An (L':=[(0,_),(1,_)]) (ms':=[_,_,_,_,_]) rfl rfl ?_;refine Gl ?_;obtain ⟨x7,hx8,hm1⟩:=bS hm1;obtain ⟨x8,hx9,hm1⟩:=bS hm1;refine zdr 12 ?_;refine zq1 ?_;refine Av rfl rfl rfl (Ad rfl) ?_;refine zq4 ?_;refine Av rfl rfl rfl (oIm runUnderlying43 sizeOf3 rfl rfl hx8) ?_;refine zq1 ?_;refine Av rfl rfl rfl (oIm runUnderlying29 sizeOf49 rfl rfl hx9) ?_;refine zq5 ?_;refine Af ?_;obtain rfl:=Ac hm1;exact retK (AV rfl (A6 rfl) (permA 0 rfl (permA 0 rfl (permA 0 rfl (permA 0 rfl (permA 0 rfl permN)))))) ⟨rfl,rfl⟩
def A8 (w1:Syntagmaref19World) (l1:(List Int)):Nat->Int->Option (Out Bool Unit)
 | 0,_=>none
 | n+1,i1 =>
  bif (decide (i1<(l1.length:Int))) then
   (idx l1 i1).bind fun x1 =>
   (AQ (⟨(⟨w1.t.l,w1.t.root⟩:ATy),w1.flex,w1.all,w1.buckets,w1.below_,w1.above,w1.mixed,w1.fails⟩:Syntagmaref19World) x1).bind fun x2 =>
   bif x2 then
    some (Out.ret true)
   else
    grd (InR (i1+1)) <|
    A8 w1 l1 n (i1+1)
  else
   some (Out.go (()))
def AA (w1:Syntagmaref19World) (l1:(List Int))  : Option Bool:=
 ((A8 w1 l1 FU 0:Option (Out Bool Unit))).bind (fun oo=>oo.on (fun r1=>some r1) (fun _ =>
 some false))
theorem By {w1:Syntagmaref19World} {l1:(List Int)}  {r_1:Bool} {b_q0:Nat} {a_q0c3:Option Addr} {cap_q0c3:Nat} {a_q0c4:Option Addr} {m_q0c4:Nat} {cap_q0c4:Nat} {q_q0c4:(List ((List Int)×Option Addr×Nat))} {a_q0c5:Option Addr} {m_q0c5:Nat} {cap_q0c5:Nat} {a_q0c6:Option Addr} {m_q0c6:Nat} {cap_q0c6:Nat} (hm:AA w1 l1=some r_1):Go.V.Fn Tryz.prog 128 [.v (.pointer (some ⟨b_q0,0,none⟩)),.list 1 D.i64 l1] [box b_q0 133 [.list 4 ANd.d w1.t.l,.i64 w1.t.root,.i64 w1.flex,.v (.slice a_q0c3 w1.all.length cap_q0c3),.v (.slice a_q0c4 m_q0c4 cap_q0c4),.v (.slice a_q0c5 m_q0c5 cap_q0c5),.v (.slice a_q0c6 m_q0c6 cap_q0c6),.bool w1.mixed,.bool w1.fails],row a_q0c3 cap_q0c3 95 2 RSeq.d w1.all,bks a_q0c4 m_q0c4 cap_q0c4 43 3 1 D.i64 w1.buckets q_q0c4,arr a_q0c5 m_q0c5 cap_q0c5 131 1 (D.list 1 (D.list 1 D.i64)) w1.below_,arr a_q0c6 m_q0c6 cap_q0c6 131 1 (D.list 1 (D.list 1 D.i64)) w1.above] (fun d ms'=>d = .bool r_1/\ms'=[box b_q0 133 [.list 4 ANd.d w1.t.l,.i64 w1.t.root,.i64 w1.flex,.v (.slice a_q0c3 w1.all.length cap_q0c3),.v (.slice a_q0c4 m_q0c4 cap_q0c4),.v (.slice a_q0c5 m_q0c5 cap_q0c5),.v (.slice a_q0c6 m_q0c6 cap_q0c6),.bool w1.mixed,.bool w1.fails],row a_q0c3 cap_q0c3 95 2 RSeq.d w1.all,bks a_q0c4 m_q0c4 cap_q0c4 43 3 1 D.i64 w1.buckets q_q0c4,arr a_q0c5 m_q0c5 cap_q0c5 131 1 (D.list 1 (D.list 1 D.i64)) w1.below_,arr a_q0c6 m_q0c6 cap_q0c6 131 1 (D.list 1 (D.list 1 D.i64)) w1.above]):=by
 unfold AA at hm;refine Ae func128 rfl ntmps128 rfl fun H0 fr w0=>?_;refine zq9 ?_;obtain ⟨o_1,hj1,hm1⟩:=bS hm;refine Al [] [(0,_),(1,_),(2,_),(3,_),(4,_)] (fun (st:Unit) (hid:Unit)=>match st,hid with | _,_=>[]) (fun F (st:Unit) (hid:Unit)=>match st,hid with | _,_=>[(nthF F 0),(nthF F 1),(nthF F 2),(nthF F 3),(nthF F 4)]) (fun st=>Out.go (st)=o_1) trivial ⟨rfl,rfl,rfl,rfl,rfl,trivial⟩ ?_ ?_
 ·refine Aq ?_
  refine Am [(0,_),(1,_)] [(0,_),(1,_),(2,_),(3,_),(4,_)] (fun (st:Int) (hid:Unit)=>match st,hid with | i1,_=>[(5,.i64 i1)]) (fun F (st:Int) (hid:Unit)=>match st,hid with | i1,_=>[(nthF F 0),(nthF F 1),(nthF F 2),(nthF F 3),(nthF F 4)]) () hj1 (fun _=>rfl) ⟨rfl,rfl,trivial⟩ ⟨rfl,rfl,rfl,rfl,rfl,trivial⟩ ⟨rfl,trivial⟩ rfl ?_;rintro n i1 _ hj1;rw [A8] at hj1;refine At (L':=[(5,.i64 i1),(0,_),(1,_)]) (ms':=[_,_,_,_,_]) rfl rfl ?_;refine zq8 ?_;refine zcn hj1 (fun hc1 hj1=>?_) (fun hc1 hj1=>?_)
  ·refine zq8 ?_
   obtain ⟨x1,hx1,hj1⟩:=bS hj1;refine zq2 ?_;obtain ⟨x2,hx2,hj1⟩:=bS hj1;refine Ak rfl rfl rfl (BX [0,1,2,3,4] call162 rfl rfl (Ar rfl (Ar rfl (Ar rfl (Ar rfl (Ar rfl CR))))) (CI hx2)) ?_;refine gNl ?_;refine zcn hj1 (fun hc2 hj1=>?_) (fun hc2 hj1=>?_)
   ·refine zq4 ?_
    refine Af ?_;obtain rfl:=Ac hj1
    replace hm1:=B8 hm1
    obtain rfl:=Ac hm1;exact retK (AV rfl (A6 rfl) (permA 0 rfl (permA 0 rfl (permA 0 rfl (permA 0 rfl (permA 0 rfl permN)))))) ⟨rfl,rfl⟩
   ·refine zq3 ?_
    obtain ⟨hg3,hj1⟩:=Aa hj1;refine zq3 ?_;exact ⟨_,(),hj1,⟨rfl,trivial⟩,⟨rfl,rfl,trivial⟩,[],rfl⟩
  ·refine Au ?_
   exact ⟨_,(),Ac hj1,trivial,trivial,[],rfl⟩
 ·rintro _ _ hst
  subst hst
  replace hm1:=DH hm1
  refine An (L':=[]) (ms':=[_,_,_,_,_]) rfl rfl ?_;refine zq4 ?_;refine Af ?_;obtain rfl:=Ac hm1;exact retK (AV rfl (A6 rfl) (permA 0 rfl (permA 0 rfl (permA 0 rfl (permA 0 rfl (permA 0 rfl permN)))))) ⟨rfl,rfl⟩
def B5 (a1:(List Int)) (b1:(List Int)):Nat->Int->Option (Out Bool Unit)
 | 0,_=>none
 | n+1,i1 =>
  bif ((decide (i1<(a1.length:Int)))&&(decide (i1<(b1.length:Int)))) then
   (idx a1 i1).bind fun x1 =>
   (idx b1 i1).bind fun x2 =>
   bif (!decide (x1=x2)) then
    (idx a1 i1).bind fun x3 =>
    (idx b1 i1).bind fun x4 =>
    some (Out.ret (decide (x3<x4)))
   else
    grd (InR (i1+1)) <|
    B5 a1 b1 n (i1+1)
  else
   some (Out.go (()))
def Cr (a1:(List Int)) (b1:(List Int)):Option Bool:=
 ((B5 a1 b1 FU 0:Option (Out Bool Unit))).bind (fun oo=>oo.on (fun r1=>some r1) (fun _ =>
 some (decide ((a1.length:Int)<(b1.length:Int)))))
theorem HT {a1:(List Int)} {b1:(List Int)} {r_1:Bool} (hm:Cr a1 b1=some r_1):Fn0 Tryz.prog 163 [.list 1 D.i64 a1,.list 1 D.i64 b1] (.bool r_1):=by
 unfold Cr at hm;refine Ae func163 rfl ntmps163 rfl fun H0 fr w0=>?_;refine zq9 ?_;obtain ⟨o_1,hj1,hm1⟩:=bS hm;refine Al [(0,_),(1,_)] [] (fun (st:Unit) (hid:Unit)=>match st,hid with | _,_=>[]) (fun F (st:Unit) (hid:Unit)=>match st,hid with | _,_=>[]) (fun st=>Out.go (st)=o_1) ⟨rfl,rfl,trivial⟩ trivial ?_ ?_
 ·refine Aq ?_
  refine Am [(0,_),(1,_)] [] (fun (st:Int) (hid:Unit)=>match st,hid with | i1,_=>[(5,.i64 i1)]) (fun F (st:Int) (hid:Unit)=>match st,hid with | i1,_=>[]) () hj1 (fun _=>rfl) ⟨rfl,rfl,trivial⟩ trivial ⟨rfl,trivial⟩ rfl ?_;rintro n i1 _ hj1;rw [B5] at hj1;refine At (L':=[(5,.i64 i1),(0,_),(1,_)]) (ms':=[]) rfl rfl ?_;refine zq8 ?_
  apply Cz [(0,_),(1,_),(5,_)] 5 15 (t:=10) ⟨rfl,rfl,rfl,trivial⟩ rfl
  ·intro hg_1 hk1
   refine zq5 ?_;exact zgm hk1
  ·intro hg_1 hk1
   refine zq5 ?_;exact zgm hk1
  refine gNl ?_;refine zcn hj1 (fun hc1 hj1=>?_) (fun hc1 hj1=>?_)
  ·refine zq4 ?_
   obtain ⟨x1,hx1,hj1⟩:=bS hj1;obtain ⟨x2,hx2,hj1⟩:=bS hj1;refine zdr 9 ?_;refine zq2 ?_;refine Av rfl rfl rfl (oIm runUnderlying43 sizeOf3 rfl rfl hx1) ?_;refine zq3 ?_;refine Av rfl rfl rfl (oIm runUnderlying43 sizeOf3 rfl rfl hx2) ?_;refine zq4 ?_;refine zcn hj1 (fun hc2 hj1=>?_) (fun hc2 hj1=>?_)
   ·refine Gl ?_
    obtain ⟨x3,hx3,hj1⟩:=bS hj1;obtain ⟨x4,hx4,hj1⟩:=bS hj1;refine zdr 10 ?_;refine zq2 ?_;refine Av rfl rfl rfl (oIm runUnderlying43 sizeOf3 rfl rfl hx3) ?_;refine zq3 ?_;refine Av rfl rfl rfl (oIm runUnderlying43 sizeOf3 rfl rfl hx4) ?_;refine zq5 ?_;refine Af ?_;obtain rfl:=Ac hj1
    replace hm1:=B8 hm1
    cases hm1;exact zr1
   ·refine zq3 ?_
    obtain ⟨hg5,hj1⟩:=Aa hj1;refine zq3 ?_;exact ⟨_,(),hj1,⟨rfl,trivial⟩,⟨rfl,rfl,trivial⟩,[],rfl⟩
  ·refine Au ?_
   exact ⟨_,(),Ac hj1,trivial,⟨rfl,rfl,trivial⟩,[],rfl⟩
 ·rintro _ _ hst
  subst hst
  replace hm1:=DH hm1
  refine An (L':=[(0,_),(1,_)]) (ms':=[]) rfl rfl ?_;refine zq9 ?_
  cases hm1;exact Af zr1
def BO (l1:(List (List Int))) (s1:(List Int)):Nat->Int->Option Int
 | 0,_=>none
 | n+1,i2 =>
  (bif (decide (i2<(l1.length:Int))) then ((idx l1 i2).bind fun x1 =>
  (Cr x1 s1).bind fun x2 =>
  some x2) else (some false)).bind fun p1 =>
  bif p1 then
   grd (InR (i2+1)) <|
   BO l1 s1 n (i2+1)
  else
   some i2
def AS (l1:(List (List Int))) (s1:(List Int)):Option (List (List Int)):=
 (BO l1 s1 FU 0:Option Int).bind fun i1 =>
 (bif (decide (i1<(l1.length:Int))) then ((idx l1 i1).bind fun x3 =>
 (C8 x3 s1).bind fun x4 =>
 some x4) else (some false)).bind fun p2 =>
 bif p2 then
  some l1
 else
  (sli l1 0 i1).bind fun l2 =>
  grd ((0+l2.length)*24<=140737488355328) <|
  grd ((([]++l2).length+([s1]:List _).length)*24<=140737488355328) <|
  (sli l1 i1 (l1.length:Int)).bind fun l3 =>
  grd (((([]++l2)++[s1]).length+l3.length)*24<=140737488355328) <|
  some ((([]++l2)++[s1])++l3)
theorem ET {l1:(List (List Int))} {s1:(List Int)} {r_1:(List (List Int))} (hm:AS l1 s1=some r_1):Fn0 Tryz.prog 129 [.list 1 (D.list 1 D.i64) l1,.list 1 D.i64 s1] (.list 1 (D.list 1 D.i64) r_1):=by
 unfold AS at hm;refine Ae func129 rfl ntmps129 rfl fun H0 fr w0=>?_;refine zq3 ?_;refine Ap (nilE (i:=4) (sz:=1) (f:=(D.list 1 D.i64)) rfl).refines ?_;refine zq6 ?_;obtain ⟨o_1,hj1,hm1⟩:=bS hm;refine Al [(0,_),(1,_)] [] (fun (st:Int) (hid:Unit)=>match st,hid with | i1,_=>[(5,.i64 i1)]) (fun F (st:Int) (hid:Unit)=>match st,hid with | i1,_=>[]) (fun st=>st=o_1) ⟨rfl,rfl,trivial⟩ trivial ?_ ?_
 ·refine Aq ?_
  refine Am [(0,_),(1,_)] [] (fun (st:Int) (hid:Unit)=>match st,hid with | i2,_=>[(5,.i64 i2)]) (fun F (st:Int) (hid:Unit)=>match st,hid with | i2,_=>[]) () hj1 (fun _=>rfl) ⟨rfl,rfl,trivial⟩ trivial ⟨rfl,trivial⟩ rfl ?_;rintro n i2 _ hj1;rw [BO] at hj1;refine At (L':=[(5,.i64 i2),(0,_),(1,_)]) (ms':=[]) rfl rfl ?_;refine zq8 ?_;obtain ⟨p1,hp_1,hj1⟩:=bS hj1;refine Bs [(0,_),(1,_),(5,_)] 7 17 p1 (t:=10) ⟨rfl,rfl,rfl,trivial⟩ rfl (fun hg_1 hk1=>?_) (fun hg_1 hk1=>?_) ?_
  ·replace hp_1:=Bg hg_1 hp_1
   refine zq2 ?_;obtain ⟨x1,hx1,hp_1⟩:=bS hp_1;refine zq3 ?_;obtain ⟨x2,hx2,hp_1⟩:=bS hp_1;refine zcw (HT hx2) ?_;refine zq1 ?_;exact zgb hk1 hp_1
  ·replace hp_1:=Be hg_1 hp_1
   refine zq7 ?_;exact zgb hk1 hp_1
  refine gNl ?_;refine zcn hj1 (fun hc1 hj1=>?_) (fun hc1 hj1=>?_)
  ·refine zq4 ?_
   obtain ⟨hg3,hj1⟩:=Aa hj1;refine zq3 ?_;exact ⟨_,(),hj1,⟨rfl,trivial⟩,⟨rfl,rfl,trivial⟩,[],rfl⟩
  ·refine Au ?_
   exact ⟨_,(),Ac hj1,⟨rfl,trivial⟩,⟨rfl,rfl,trivial⟩,[],rfl⟩
 ·rintro i1 _ hst
  subst hst;refine An (L':=[(5,.i64 i1),(0,_),(1,_)]) (ms':=[]) rfl rfl ?_;refine zq8 ?_;obtain ⟨p2,hp_2,hm1⟩:=bS hm1;refine Bs [(0,_),(1,_),(5,_)] 7 31 p2 (t:=24) ⟨rfl,rfl,rfl,trivial⟩ rfl (fun hg_2 hk2=>?_) (fun hg_2 hk2=>?_) ?_
  ·replace hp_2:=Bg hg_2 hp_2
   refine zq2 ?_;obtain ⟨x3,hx4,hp_2⟩:=bS hp_2;refine zq3 ?_;obtain ⟨x4,hx5,hp_2⟩:=bS hp_2;refine zcw (Gw hx5) ?_;refine zq1 ?_;exact zgb hk2 hp_2
  ·replace hp_2:=Be hg_2 hp_2
   refine zq7 ?_;exact zgb hk2 hp_2
  refine gNl ?_;refine zcn hm1 (fun hc2 hm1=>?_) (fun hc2 hm1=>?_)
  ·refine zq5 ?_
   cases hm1;exact Af zr1
  ·refine zq2 ?_
   obtain ⟨l2,hx6,hm1⟩:=bS hm1;obtain ⟨hg7,hm1⟩:=Aa hm1;obtain ⟨hg8,hm1⟩:=Aa hm1;obtain ⟨l3,hx9,hm1⟩:=bS hm1;obtain ⟨hg10,hm1⟩:=Aa hm1;refine Fw [0,4,7,11,12] [1,2,3,5,6,8,9,10] [] AY (by decide +kernel) (by decide +kernel) rfl ?_;refine Es rfl ?_;refine AE rfl rfl rfl rfl rfl rfl (oMv rfl) ?_;refine AE rfl rfl rfl rfl rfl rfl (oMv rfl) ?_;refine AE rfl rfl rfl rfl rfl rfl (Bu runUnderlying131 sizeOf43 rfl rfl ⟨_,rfl⟩ hx6) ?_;refine Es rfl ?_;refine AE rfl rfl rfl rfl rfl rfl (oMv rfl) ?_;refine AE rfl rfl rfl rfl rfl rfl (zs1 (D.list 1 D.i64)) ?_;refine Es rfl ?_;refine AE rfl rfl rfl rfl rfl rfl (oMv rfl) ?_;refine AE rfl rfl rfl rfl rfl rfl (oMv rfl) ?_;refine AE rfl rfl rfl rfl rfl rfl (Bu runUnderlying131 sizeOf43 rfl ⟨_,rfl⟩ rfl hx9) ?_;refine Es rfl ?_;refine Es rfl ?_;refine Gk ?_;refine FZ rfl rfl rfl rfl (Ax (xs:=[]) (f:=(D.list 1 D.i64)) (l:=[]) runUnderlying131 sizeOf43 zeroValue43 rfl rfl rfl (fun _=>⟨rfl,rfl,rfl⟩) rfl (by simp [maxLen])) ?_;rintro _ _ ⟨a_r1,rfl,rfl⟩;refine ⟨(trivial:True),?_⟩;refine FZ rfl rfl rfl rfl (Co (a:=_) 0 underlying131 type43 rfl rfl rfl rfl rfl rfl rfl (fun _=>rfl) (fun _=>rfl) hg7 (BJ hg7 rfl)) ?_;rintro _ _ ⟨a_r1,cap_r1,rfl,rfl⟩;refine ⟨(trivial:True),?_⟩;refine FZ rfl rfl rfl rfl (Co (a:=_) 0 underlying131 type43 rfl rfl rfl rfl rfl rfl rfl (fun _=>rfl) (fun _=>rfl) hg8 (BJ hg8 rfl)) ?_;rintro _ _ ⟨a_r1,cap_r1,rfl,rfl⟩;refine ⟨(trivial:True),?_⟩;refine FZ rfl rfl rfl rfl (Co (a:=_) 0 underlying131 type43 rfl rfl rfl rfl rfl rfl rfl (fun _=>rfl) (fun _=>rfl) hg10 (BJ hg10 rfl)) ?_;rintro _ _ ⟨a_r1,cap_r1,rfl,rfl⟩;refine ⟨(trivial:True),?_⟩;refine FZ rfl rfl rfl rfl (oAs rfl) ?_;rintro _ _ ⟨rfl,rfl⟩;refine ⟨(trivial:True),?_⟩;refine Ek ?_;refine BY (peekE (i:=4) 0 rfl rfl rfl).refines ?_
   cases hm1;exact Af zr1
def AO (x18:(List RSeq)):Nat->(Int×(List ANd)×Int×Int×Bool×Bool×(List RSeq)×(List (List Int))×(List (List (List Int)))×(List (List (List Int))))->Option Syntagmaref19World
 | 0,_=>none
 | n+1,(i1,z21,z22,z23,z24,z25,l17,l18,l19,l20) =>
  bif (decide (i1<(x18.length:Int))) then
   (idx x18 i1).bind fun x20 =>
   (Az (⟨(⟨z21,z22⟩:ATy),z23,l17,l18,l19,l20,z24,z25⟩:Syntagmaref19World) x20).bind fun s1 =>
   grd (InR (i1+1)) <|
   AO x18 n ((i1+1),s1.t.l,s1.t.root,s1.flex,s1.mixed,s1.fails,s1.all,s1.buckets,s1.below_,s1.above)
  else
   some (⟨(⟨z21,z22⟩:ATy),z23,l17,l18,l19,l20,z24,z25⟩:Syntagmaref19World)
def Bw (w1:Syntagmaref19World) (q1:RSeq)  : Option Syntagmaref19World:=
 (Bm (⟨w1.t.l,w1.t.root⟩:ATy) q1).bind fun x1 =>
 ((bif (!x1) then
  (AH (⟨w1.t.l,w1.t.root⟩:ATy) q1.l 1).bind fun x2 =>
  (AH (⟨w1.t.l,w1.t.root⟩:ATy) q1.r 2).bind fun x3 =>
  (Bj (⟨(⟨w1.t.l,w1.t.root⟩:ATy),w1.flex,w1.all,w1.buckets,w1.below_,w1.above,w1.mixed,w1.fails⟩:Syntagmaref19World) x2).bind fun x4 =>
  (Bj (⟨(⟨w1.t.l,w1.t.root⟩:ATy),w1.flex,w1.all,w1.buckets,w1.below_,w1.above,w1.mixed,w1.fails⟩:Syntagmaref19World) x3).bind fun x5 =>
  (bif (decide (0<=x4)) then ((bif (decide (0<=x5)) then (some true) else ((AA (⟨(⟨w1.t.l,w1.t.root⟩:ATy),w1.flex,w1.all,w1.buckets,w1.below_,w1.above,w1.mixed,w1.fails⟩:Syntagmaref19World) x3).bind fun x6 =>
  some (!x6))).bind fun p2 =>
  some p2) else (some false)).bind fun p1 =>
  (bif p1 then
   (idx w1.above x4).bind fun x7 =>
   (AS x7 x3).bind fun x8 =>
   (idx w1.above x4).bind fun x9 =>
   some (w1.t.l,w1.t.root,w1.flex,w1.mixed,w1.fails,w1.all,w1.buckets,w1.below_,(w1.above.set (x4).toNat x8))
  else
   some (w1.t.l,w1.t.root,w1.flex,w1.mixed,w1.fails,w1.all,w1.buckets,w1.below_,w1.above):Option ((List ANd)×Int×Int×Bool×Bool×(List RSeq)×(List (List Int))×(List (List (List Int)))×(List (List (List Int))))).bind fun (z6,z7,z8,z9,z10,l5,l6,l7,l8) =>
  (bif (decide (0<=x5)) then ((bif (decide (0<=x4)) then (some true) else ((AA (⟨(⟨z6,z7⟩:ATy),z8,l5,l6,l7,l8,z9,z10⟩:Syntagmaref19World) x2).bind fun x10 =>
  some (!x10))).bind fun p4 =>
  some p4) else (some false)).bind fun p3 =>
  (bif p3 then
   (idx l7 x5).bind fun x11 =>
   (AS x11 x2).bind fun x12 =>
   (idx l7 x5).bind fun x13 =>
   some (z6,z7,z8,z9,z10,l5,l6,(l7.set (x5).toNat x12),l8)
  else
   some (z6,z7,z8,z9,z10,l5,l6,l7,l8):Option ((List ANd)×Int×Int×Bool×Bool×(List RSeq)×(List (List Int))×(List (List (List Int)))×(List (List (List Int))))).bind fun (z11,z12,z13,z14,z15,l9,l10,l11,l12) =>
  (bif (decide (0<=x4)) then ((bif (decide (0<=x5)) then (some true) else ((AA (⟨(⟨z11,z12⟩:ATy),z13,l9,l10,l11,l12,z14,z15⟩:Syntagmaref19World) x3).bind fun x14 =>
  some (!x14))).bind fun p6 =>
  some p6) else (some false)).bind fun p5 =>
  (bif p5 then (some true) else ((bif (decide (0<=x5)) then ((AA (⟨(⟨z11,z12⟩:ATy),z13,l9,l10,l11,l12,z14,z15⟩:Syntagmaref19World) x2).bind fun x15 =>
  some (!x15)) else (some false)).bind fun p8 =>
  some p8)).bind fun p7 =>
  bif p7 then
   some (Out.ret (⟨(⟨z11,z12⟩:ATy),z13,l9,l10,l11,l12,z14,z15⟩:Syntagmaref19World))
  else
   (AA (⟨(⟨z11,z12⟩:ATy),z13,l9,l10,l11,l12,z14,z15⟩:Syntagmaref19World) x2).bind fun x16 =>
   (bif x16 then (some true) else ((AA (⟨(⟨z11,z12⟩:ATy),z13,l9,l10,l11,l12,z14,z15⟩:Syntagmaref19World) x3).bind fun x17 =>
   some x17)).bind fun p9 =>
   bif p9 then
    some (Out.ret (⟨(⟨z11,z12⟩:ATy),z13,l9,l10,l11,l12,true,z15⟩:Syntagmaref19World))
   else
    some (Out.go ((z11,z12,z13,z14,z15,l9,l10,l11,l12)))
 else
  some (Out.go ((w1.t.l,w1.t.root,w1.flex,w1.mixed,w1.fails,w1.all,w1.buckets,w1.below_,w1.above))):Option (Out Syntagmaref19World ((List ANd)×Int×Int×Bool×Bool×(List RSeq)×(List (List Int))×(List (List (List Int)))×(List (List (List Int))))))).bind (fun oo=>oo.on (fun r1=>some r1) (fun (z1,z2,z3,z4,z5,l1,l2,l3,l4) =>
 (D4 (⟨z1,z2⟩:ATy) q1).bind fun (x18,x19) =>
 (bif (!x19) then
  some (z1,z2,z3,z4,true,l1,l2,l3,l4)
 else
  some (z1,z2,z3,z4,z5,l1,l2,l3,l4):Option ((List ANd)×Int×Int×Bool×Bool×(List RSeq)×(List (List Int))×(List (List (List Int)))×(List (List (List Int))))).bind fun (z16,z17,z18,z19,z20,l13,l14,l15,l16) =>
 AO x18 FU (0,z16,z17,z18,z19,z20,l13,l14,l15,l16)))
theorem Gi {w1:Syntagmaref19World} {q1:RSeq}  {s_1:Syntagmaref19World} {b_q0:Nat} {a_q0c3:Option Addr} {cap_q0c3:Nat} {a_q0c4:Option Addr} {m_q0c4:Nat} {cap_q0c4:Nat} {q_q0c4:(List ((List Int)×Option Addr×Nat))} {a_q0c5:Option Addr} {m_q0c5:Nat} {cap_q0c5:Nat} {a_q0c6:Option Addr} {m_q0c6:Nat} {cap_q0c6:Nat} (hm:Bw w1 q1=some s_1):Go.V.Fn Tryz.prog 87 [.v (.pointer (some ⟨b_q0,0,none⟩)),RSeq.d q1] [box b_q0 133 [.list 4 ANd.d w1.t.l,.i64 w1.t.root,.i64 w1.flex,.v (.slice a_q0c3 w1.all.length cap_q0c3),.v (.slice a_q0c4 m_q0c4 cap_q0c4),.v (.slice a_q0c5 m_q0c5 cap_q0c5),.v (.slice a_q0c6 m_q0c6 cap_q0c6),.bool w1.mixed,.bool w1.fails],row a_q0c3 cap_q0c3 95 2 RSeq.d w1.all,bks a_q0c4 m_q0c4 cap_q0c4 43 3 1 D.i64 w1.buckets q_q0c4,arr a_q0c5 m_q0c5 cap_q0c5 131 1 (D.list 1 (D.list 1 D.i64)) w1.below_,arr a_q0c6 m_q0c6 cap_q0c6 131 1 (D.list 1 (D.list 1 D.i64)) w1.above] (fun d ms'=>∃ a_s_1c3 cap_s_1c3 q_s_1c4,d = .tup []/\ms'=[box b_q0 133 [.list 4 ANd.d s_1.t.l,.i64 s_1.t.root,.i64 s_1.flex,.v (.slice a_s_1c3 s_1.all.length cap_s_1c3),.v (.slice a_q0c4 m_q0c4 cap_q0c4),.v (.slice a_q0c5 m_q0c5 cap_q0c5),.v (.slice a_q0c6 m_q0c6 cap_q0c6),.bool s_1.mixed,.bool s_1.fails],row a_s_1c3 cap_s_1c3 95 2 RSeq.d s_1.all,bks a_q0c4 m_q0c4 cap_q0c4 43 3 1 D.i64 s_1.buckets q_s_1c4,arr a_q0c5 m_q0c5 cap_q0c5 131 1 (D.list 1 (D.list 1 D.i64)) s_1.below_,arr a_q0c6 m_q0c6 cap_q0c6 131 1 (D.list 1 (D.list 1 D.i64)) s_1.above]):=by
 unfold Bw at hm;refine Ae func87 rfl ntmps87 rfl fun H0 fr w0=>?_;refine zq6 ?_;obtain ⟨x1,hx1,hm⟩:=bS hm;refine zdr 7 ?_;refine zq1 ?_;refine Av rfl rfl rfl (Ad rfl) ?_;refine zq3 ?_;refine zcd (HG hx1) ?_;refine zq3 ?_;obtain ⟨o_1,hj1,hm1⟩:=bS hm;refine Al [(0,_),(3,_)] [] (fun (st:((List ANd)×Int×Int×Bool×Bool×(List RSeq)×(List (List Int))×(List (List (List Int)))×(List (List (List Int))))) (hid:(Option Addr×Nat)×(List ((List Int)×Option Addr×Nat))×Unit×Unit)=>match st,hid with | (z1,z2,z3,z4,z5,l1,l2,l3,l4),((a_q0c3,cap_q0c3),q_q0c4,_,_)=>[]) (fun F (st:((List ANd)×Int×Int×Bool×Bool×(List RSeq)×(List (List Int))×(List (List (List Int)))×(List (List (List Int))))) (hid:(Option Addr×Nat)×(List ((List Int)×Option Addr×Nat))×Unit×Unit)=>match st,hid with | (z1,z2,z3,z4,z5,l1,l2,l3,l4),((a_q0c3,cap_q0c3),q_q0c4,_,_)=>[box b_q0 133 [.list 4 ANd.d z1,.i64 z2,.i64 z3,.v (.slice a_q0c3 l1.length cap_q0c3),.v (.slice a_q0c4 m_q0c4 cap_q0c4),.v (.slice a_q0c5 m_q0c5 cap_q0c5),.v (.slice a_q0c6 m_q0c6 cap_q0c6),.bool z4,.bool z5],row a_q0c3 cap_q0c3 95 2 RSeq.d l1,bks a_q0c4 m_q0c4 cap_q0c4 43 3 1 D.i64 l2 q_q0c4,arr a_q0c5 m_q0c5 cap_q0c5 131 1 (D.list 1 (D.list 1 D.i64)) l3,arr a_q0c6 m_q0c6 cap_q0c6 131 1 (D.list 1 (D.list 1 D.i64)) l4]) (fun st=>Out.go (st)=o_1) ⟨rfl,rfl,trivial⟩ trivial ?_ ?_
 ·refine zcn hj1 (fun hc1 hj1=>?_) (fun hc1 hj1=>?_)
  ·refine Gl ?_
   obtain ⟨x2,hx2,hj1⟩:=bS hj1;obtain ⟨x3,hx3,hj1⟩:=bS hj1;refine zdr 16 ?_;refine zq1 ?_;refine Av rfl rfl rfl (Ad rfl) ?_;refine zq4 ?_;refine zcd (EG hx2) ?_;refine zq1 ?_;refine Av rfl rfl rfl (Ad rfl) ?_;refine zq4 ?_;refine zcd (EG hx3) ?_;refine zq8 ?_;obtain ⟨x4,hx4,hj1⟩:=bS hj1;refine Ak rfl rfl rfl (BX [0,1,2,3,4] call127 rfl rfl (Ar rfl (Ar rfl (Ar rfl (Ar rfl (Ar rfl CR))))) (DS hx4)) ?_;refine zq2 ?_;obtain ⟨x5,hx5,hj1⟩:=bS hj1;refine Ak rfl rfl rfl (BX [0,1,2,3,4] call127 rfl rfl (Ar rfl (Ar rfl (Ar rfl (Ar rfl (Ar rfl CR))))) (DS hx5)) ?_;refine zq9 ?_;obtain ⟨p1,hp_1,hj1⟩:=bS hj1;refine Bs [(0,_),(3,_),(4,_),(5,_),(6,_),(7,_)] 9 49 p1 (t:=40) ⟨rfl,rfl,rfl,rfl,rfl,rfl,trivial⟩ rfl (fun hg_1 hk1=>?_) (fun hg_1 hk1=>?_) ?_
   ·replace hp_1:=Bg hg_1 hp_1
    refine zq3 ?_;obtain ⟨p2,hp_2,hp_1⟩:=bS hp_1;refine Bs [(0,_),(3,_),(4,_),(5,_),(6,_),(7,_),(40,_)] 5 48 p2 (t:=43) ⟨rfl,rfl,rfl,rfl,rfl,rfl,rfl,trivial⟩ rfl (fun hg_2 hk2=>?_) (fun hg_2 hk2=>?_) ?_
    ·replace hp_2:=Bg hg_2 hp_2
     refine zq5 ?_;exact zgb hk2 hp_2
    ·replace hp_2:=Be hg_2 hp_2
     refine zq2 ?_;obtain ⟨x6,hx6,hp_2⟩:=bS hp_2;refine gWp rfl rfl rfl hg_2 rfl rfl (BX [0,1,2,3,4] call128 rfl rfl (Ar rfl (Ar rfl (Ar rfl (Ar rfl (Ar rfl CR))))) (By hx6)) ?_;refine zq2 ?_;exact zgb hk2 hp_2
    refine zq1 ?_;exact zgb hk1 hp_1
   ·replace hp_1:=Be hg_1 hp_1
    refine zq9 ?_;exact zgb hk1 hp_1
   refine gNl ?_;obtain ⟨o_2,hj2,hm2⟩:=bS hj1;refine Al [(0,_),(3,_),(4,_),(5,_),(6,_),(7,_)] [] (fun (st:((List ANd)×Int×Int×Bool×Bool×(List RSeq)×(List (List Int))×(List (List (List Int)))×(List (List (List Int))))) (hid:(Option Addr×Nat)×(List ((List Int)×Option Addr×Nat))×Unit×Unit)=>match st,hid with | (z6,z7,z8,z9,z10,l5,l6,l7,l8),((a_q0c3,cap_q0c3),q_q0c4,_,_)=>[]) (fun F (st:((List ANd)×Int×Int×Bool×Bool×(List RSeq)×(List (List Int))×(List (List (List Int)))×(List (List (List Int))))) (hid:(Option Addr×Nat)×(List ((List Int)×Option Addr×Nat))×Unit×Unit)=>match st,hid with | (z6,z7,z8,z9,z10,l5,l6,l7,l8),((a_q0c3,cap_q0c3),q_q0c4,_,_)=>[box b_q0 133 [.list 4 ANd.d z6,.i64 z7,.i64 z8,.v (.slice a_q0c3 l5.length cap_q0c3),.v (.slice a_q0c4 m_q0c4 cap_q0c4),.v (.slice a_q0c5 m_q0c5 cap_q0c5),.v (.slice a_q0c6 m_q0c6 cap_q0c6),.bool z9,.bool z10],row a_q0c3 cap_q0c3 95 2 RSeq.d l5,bks a_q0c4 m_q0c4 cap_q0c4 43 3 1 D.i64 l6 q_q0c4,arr a_q0c5 m_q0c5 cap_q0c5 131 1 (D.list 1 (D.list 1 D.i64)) l7,arr a_q0c6 m_q0c6 cap_q0c6 131 1 (D.list 1 (D.list 1 D.i64)) l8]) (fun st=>st=o_2) ⟨rfl,rfl,rfl,rfl,rfl,rfl,trivial⟩ trivial ?_ ?_
   ·refine zcn hj2 (fun hc2 hj2=>?_) (fun hc2 hj2=>?_)
    ·obtain ⟨x7,hx7,hj2⟩:=bS hj2
     obtain ⟨x8,hx8,hj2⟩:=bS hj2;obtain ⟨x9,hx9,hj2⟩:=bS hj2;refine zdr 15 ?_;refine zq1 ?_;refine Av rfl rfl rfl (Ad rfl) ?_;refine zq4 ?_;refine Av rfl rfl rfl (Ad rfl) ?_;refine zq3 ?_;refine Av rfl rfl rfl (Ag 4 runUnderlying130 sizeOf131 rfl rfl rfl hx7) ?_;refine Av rfl rfl rfl (AR (off:=0) 4 isAgg131 rfl rfl (Ay hx7).2 rfl rfl rfl) ?_;refine zq1 ?_;refine zcd (ET hx8) ?_;refine Av rfl rfl rfl (Ag 4 runUnderlying130 sizeOf131 rfl rfl rfl hx9) ?_;refine EB ?_;refine IW rfl rfl (Bn (off:=0) (z':=x8) 4 sizeOf131 rfl rfl (Ay hx9).2 rfl rfl rfl rfl rfl rfl (nB rfl) rfl rfl) ?_;rintro _ _ rfl;refine Aj (ms':=[box b_q0 133 [_,_,_,_,_,_,_,_,_],_,_,_,_]) rfl ?_;refine gNl ?_;exact ⟨_,((_,_),_,(),()),Ac hj2,trivial,⟨rfl,rfl,rfl,rfl,rfl,rfl,trivial⟩,[],rfl⟩
    ·refine gSp ?_
     exact ⟨_,((_,_),_,(),()),Ac hj2,trivial,⟨rfl,rfl,rfl,rfl,rfl,rfl,trivial⟩,[],rfl⟩
   ·rintro ⟨z6,z7,z8,z9,z10,l5,l6,l7,l8⟩ ⟨⟨a_q0c3,cap_q0c3⟩,q_q0c4,⟨⟩,⟨⟩⟩ hst
    subst hst;refine An (L':=[(0,_),(3,_),(4,_),(5,_),(6,_),(7,_)]) (ms':=[box b_q0 133 [.list 4 ANd.d z6,.i64 z7,.i64 z8,.v (.slice a_q0c3 l5.length cap_q0c3),.v (.slice a_q0c4 m_q0c4 cap_q0c4),.v (.slice a_q0c5 m_q0c5 cap_q0c5),.v (.slice a_q0c6 m_q0c6 cap_q0c6),.bool z9,.bool z10],row a_q0c3 cap_q0c3 95 2 RSeq.d l5,bks a_q0c4 m_q0c4 cap_q0c4 43 3 1 D.i64 l6 q_q0c4,arr a_q0c5 m_q0c5 cap_q0c5 131 1 (D.list 1 (D.list 1 D.i64)) l7,arr a_q0c6 m_q0c6 cap_q0c6 131 1 (D.list 1 (D.list 1 D.i64)) l8]) rfl rfl ?_;refine zq6 ?_;obtain ⟨p3,hp_3,hm2⟩:=bS hm2;refine Bs [(0,_),(3,_),(4,_),(5,_),(6,_),(7,_)] 9 76 p3 (t:=67) ⟨rfl,rfl,rfl,rfl,rfl,rfl,trivial⟩ rfl (fun hg_3 hk3=>?_) (fun hg_3 hk3=>?_) ?_
    ·replace hp_3:=Bg hg_3 hp_3
     refine zq3 ?_;obtain ⟨p4,hp_4,hp_3⟩:=bS hp_3;refine Bs [(0,_),(3,_),(4,_),(5,_),(6,_),(7,_),(67,_)] 5 75 p4 (t:=70) ⟨rfl,rfl,rfl,rfl,rfl,rfl,rfl,trivial⟩ rfl (fun hg_4 hk4=>?_) (fun hg_4 hk4=>?_) ?_
     ·replace hp_4:=Bg hg_4 hp_4
      refine zq5 ?_;exact zgb hk4 hp_4
     ·replace hp_4:=Be hg_4 hp_4
      refine zq2 ?_;obtain ⟨x10,hx10,hp_4⟩:=bS hp_4;refine gWp rfl rfl rfl hg_4 rfl rfl (BX [0,1,2,3,4] call128 rfl rfl (Ar rfl (Ar rfl (Ar rfl (Ar rfl (Ar rfl CR))))) (By hx10)) ?_;refine zq2 ?_;exact zgb hk4 hp_4
     refine zq1 ?_;exact zgb hk3 hp_3
    ·replace hp_3:=Be hg_3 hp_3
     refine zq9 ?_;exact zgb hk3 hp_3
    refine gNl ?_;obtain ⟨o_3,hj3,hm3⟩:=bS hm2;refine Al [(0,_),(3,_),(4,_),(5,_),(6,_),(7,_)] [] (fun (st:((List ANd)×Int×Int×Bool×Bool×(List RSeq)×(List (List Int))×(List (List (List Int)))×(List (List (List Int))))) (hid:(Option Addr×Nat)×(List ((List Int)×Option Addr×Nat))×Unit×Unit)=>match st,hid with | (z11,z12,z13,z14,z15,l9,l10,l11,l12),((a_q0c3,cap_q0c3),q_q0c4,_,_)=>[]) (fun F (st:((List ANd)×Int×Int×Bool×Bool×(List RSeq)×(List (List Int))×(List (List (List Int)))×(List (List (List Int))))) (hid:(Option Addr×Nat)×(List ((List Int)×Option Addr×Nat))×Unit×Unit)=>match st,hid with | (z11,z12,z13,z14,z15,l9,l10,l11,l12),((a_q0c3,cap_q0c3),q_q0c4,_,_)=>[box b_q0 133 [.list 4 ANd.d z11,.i64 z12,.i64 z13,.v (.slice a_q0c3 l9.length cap_q0c3),.v (.slice a_q0c4 m_q0c4 cap_q0c4),.v (.slice a_q0c5 m_q0c5 cap_q0c5),.v (.slice a_q0c6 m_q0c6 cap_q0c6),.bool z14,.bool z15],row a_q0c3 cap_q0c3 95 2 RSeq.d l9,bks a_q0c4 m_q0c4 cap_q0c4 43 3 1 D.i64 l10 q_q0c4,arr a_q0c5 m_q0c5 cap_q0c5 131 1 (D.list 1 (D.list 1 D.i64)) l11,arr a_q0c6 m_q0c6 cap_q0c6 131 1 (D.list 1 (D.list 1 D.i64)) l12]) (fun st=>st=o_3) ⟨rfl,rfl,rfl,rfl,rfl,rfl,trivial⟩ trivial ?_ ?_
    ·refine zcn hj3 (fun hc3 hj3=>?_) (fun hc3 hj3=>?_)
     ·obtain ⟨x11,hx11,hj3⟩:=bS hj3
      obtain ⟨x12,hx12,hj3⟩:=bS hj3;obtain ⟨x13,hx13,hj3⟩:=bS hj3;refine zdr 15 ?_;refine zq1 ?_;refine Av rfl rfl rfl (Ad rfl) ?_;refine zq4 ?_;refine Av rfl rfl rfl (Ad rfl) ?_;refine zq3 ?_;refine Av rfl rfl rfl (Ag 3 runUnderlying130 sizeOf131 rfl rfl rfl hx11) ?_;refine Av rfl rfl rfl (AR (off:=0) 3 isAgg131 rfl rfl (Ay hx11).2 rfl rfl rfl) ?_;refine zq1 ?_;refine zcd (ET hx12) ?_;refine Av rfl rfl rfl (Ag 3 runUnderlying130 sizeOf131 rfl rfl rfl hx13) ?_;refine EB ?_;refine IW rfl rfl (Bn (off:=0) (z':=x12) 3 sizeOf131 rfl rfl (Ay hx13).2 rfl rfl rfl rfl rfl rfl (nB rfl) rfl rfl) ?_;rintro _ _ rfl;refine Aj (ms':=[box b_q0 133 [_,_,_,_,_,_,_,_,_],_,_,_,_]) rfl ?_;refine gNl ?_;exact ⟨_,((_,_),_,(),()),Ac hj3,trivial,⟨rfl,rfl,rfl,rfl,rfl,rfl,trivial⟩,[],rfl⟩
     ·refine gSp ?_
      exact ⟨_,((_,_),_,(),()),Ac hj3,trivial,⟨rfl,rfl,rfl,rfl,rfl,rfl,trivial⟩,[],rfl⟩
    ·rintro ⟨z11,z12,z13,z14,z15,l9,l10,l11,l12⟩ ⟨⟨a_q0c3,cap_q0c3⟩,q_q0c4,⟨⟩,⟨⟩⟩ hst
     subst hst;refine An (L':=[(0,_),(3,_),(4,_),(5,_),(6,_),(7,_)]) (ms':=[box b_q0 133 [.list 4 ANd.d z11,.i64 z12,.i64 z13,.v (.slice a_q0c3 l9.length cap_q0c3),.v (.slice a_q0c4 m_q0c4 cap_q0c4),.v (.slice a_q0c5 m_q0c5 cap_q0c5),.v (.slice a_q0c6 m_q0c6 cap_q0c6),.bool z14,.bool z15],row a_q0c3 cap_q0c3 95 2 RSeq.d l9,bks a_q0c4 m_q0c4 cap_q0c4 43 3 1 D.i64 l10 q_q0c4,arr a_q0c5 m_q0c5 cap_q0c5 131 1 (D.list 1 (D.list 1 D.i64)) l11,arr a_q0c6 m_q0c6 cap_q0c6 131 1 (D.list 1 (D.list 1 D.i64)) l12]) rfl rfl ?_;refine zq6 ?_;obtain ⟨p5,hp_5,hm3⟩:=bS hm3;refine Bs [(0,_),(3,_),(4,_),(5,_),(7,_)] 9 103 p5 (t:=94) ⟨rfl,rfl,rfl,rfl,rfl,trivial⟩ rfl (fun hg_5 hk5=>?_) (fun hg_5 hk5=>?_) ?_
     ·replace hp_5:=Bg hg_5 hp_5
      refine zq3 ?_;obtain ⟨p6,hp_6,hp_5⟩:=bS hp_5;refine Bs [(0,_),(3,_),(4,_),(5,_),(7,_),(94,_)] 5 102 p6 (t:=97) ⟨rfl,rfl,rfl,rfl,rfl,rfl,trivial⟩ rfl (fun hg_6 hk6=>?_) (fun hg_6 hk6=>?_) ?_
      ·replace hp_6:=Bg hg_6 hp_6
       refine zq5 ?_;exact zgb hk6 hp_6
      ·replace hp_6:=Be hg_6 hp_6
       refine zq2 ?_;obtain ⟨x14,hx14,hp_6⟩:=bS hp_6;refine gWp rfl rfl rfl hg_6 rfl rfl (BX [0,1,2,3,4] call128 rfl rfl (Ar rfl (Ar rfl (Ar rfl (Ar rfl (Ar rfl CR))))) (By hx14)) ?_;refine zq2 ?_;exact zgb hk6 hp_6
      refine zq1 ?_;exact zgb hk5 hp_5
     ·replace hp_5:=Be hg_5 hp_5
      refine zq9 ?_;exact zgb hk5 hp_5
     refine zq1 ?_;obtain ⟨p7,hp_7,hm3⟩:=bS hm3;refine Bs [(0,_),(3,_),(4,_),(5,_)] 9 113 p7 (t:=104) ⟨rfl,rfl,rfl,rfl,trivial⟩ rfl (fun hg_7 hk7=>?_) (fun hg_7 hk7=>?_) ?_
     ·replace hp_7:=Bg hg_7 hp_7
      refine zq9 ?_;exact zgb hk7 hp_7
     ·replace hp_7:=Be hg_7 hp_7
      refine zq3 ?_;obtain ⟨p8,hp_8,hp_7⟩:=bS hp_7;refine Bs [(0,_),(3,_),(4,_),(5,_),(104,_)] 5 112 p8 (t:=107) ⟨rfl,rfl,rfl,rfl,rfl,trivial⟩ rfl (fun hg_8 hk8=>?_) (fun hg_8 hk8=>?_) ?_
      ·replace hp_8:=Bg hg_8 hp_8
       refine zq2 ?_;obtain ⟨x15,hx15,hp_8⟩:=bS hp_8;refine gWp rfl rfl rfl hg_8 rfl rfl (BX [0,1,2,3,4] call128 rfl rfl (Ar rfl (Ar rfl (Ar rfl (Ar rfl (Ar rfl CR))))) (By hx15)) ?_;refine zq2 ?_;exact zgb hk8 hp_8
      ·replace hp_8:=Be hg_8 hp_8
       refine zq5 ?_;exact zgb hk8 hp_8
      refine zq1 ?_;exact zgb hk7 hp_7
     refine gNl ?_;refine zcn hm3 (fun hc4 hm3=>?_) (fun hc4 hm3=>?_)
     ·refine Af ?_
      obtain rfl:=Ac hm3
      replace hm1:=B8 hm1
      obtain rfl:=Ac hm1;exact retK (Cp rfl (permA 0 rfl (permA 0 rfl (permA 0 rfl (permA 0 rfl (permA 0 rfl permN)))))) ⟨_,_,_,rfl,rfl⟩
     ·refine zq5 ?_
      obtain ⟨x16,hx16,hm3⟩:=bS hm3;refine Ak rfl rfl rfl (BX [0,1,2,3,4] call128 rfl rfl (Ar rfl (Ar rfl (Ar rfl (Ar rfl (Ar rfl CR))))) (By hx16)) ?_;refine zq1 ?_;obtain ⟨p9,hp_9,hm3⟩:=bS hm3;refine Bs [(0,_),(3,_)] 4 121 p9 (t:=117) ⟨rfl,rfl,trivial⟩ rfl (fun hg_9 hk9=>?_) (fun hg_9 hk9=>?_) ?_
      ·replace hp_9:=Bg hg_9 hp_9
       refine zq4 ?_;exact zgb hk9 hp_9
      ·replace hp_9:=Be hg_9 hp_9
       refine zq2 ?_;obtain ⟨x17,hx17,hp_9⟩:=bS hp_9;refine gWp rfl rfl rfl hg_9 rfl rfl (BX [0,1,2,3,4] call128 rfl rfl (Ar rfl (Ar rfl (Ar rfl (Ar rfl (Ar rfl CR))))) (By hx17)) ?_;refine zq1 ?_;exact zgb hk9 hp_9
      refine gNl ?_;refine zcn hm3 (fun hc5 hm3=>?_) (fun hc5 hm3=>?_)
      ·refine zq3 ?_
       refine Ak rfl rfl rfl (Ad rfl) ?_;refine zq1 ?_;refine zst 0 ?_;refine Aj (ms':=[box b_q0 133 [_,_,_,_,_,_,_,_,_],_,_,_,_]) rfl ?_;refine gNl (Af ?_);obtain rfl:=Ac hm3
       replace hm1:=B8 hm1
       obtain rfl:=Ac hm1;exact retK (Cp rfl (permA 0 rfl (permA 0 rfl (permA 0 rfl (permA 0 rfl (permA 0 rfl permN)))))) ⟨_,_,_,rfl,rfl⟩
      ·refine gSp ?_
       exact ⟨_,((_,_),_,(),()),Ac hm3,trivial,⟨rfl,rfl,trivial⟩,[],rfl⟩
  ·refine gSp ?_
   exact ⟨_,((_,_),_,(),()),Ac hj1,trivial,⟨rfl,rfl,trivial⟩,[],rfl⟩
 ·rintro ⟨z1,z2,z3,z4,z5,l1,l2,l3,l4⟩ ⟨⟨a_q0c3,cap_q0c3⟩,q_q0c4,⟨⟩,⟨⟩⟩ hst
  subst hst
  replace hm1:=DH hm1
  refine An (L':=[(0,_),(3,_)]) (ms':=[box b_q0 133 [.list 4 ANd.d z1,.i64 z2,.i64 z3,.v (.slice a_q0c3 l1.length cap_q0c3),.v (.slice a_q0c4 m_q0c4 cap_q0c4),.v (.slice a_q0c5 m_q0c5 cap_q0c5),.v (.slice a_q0c6 m_q0c6 cap_q0c6),.bool z4,.bool z5],row a_q0c3 cap_q0c3 95 2 RSeq.d l1,bks a_q0c4 m_q0c4 cap_q0c4 43 3 1 D.i64 l2 q_q0c4,arr a_q0c5 m_q0c5 cap_q0c5 131 1 (D.list 1 (D.list 1 D.i64)) l3,arr a_q0c6 m_q0c6 cap_q0c6 131 1 (D.list 1 (D.list 1 D.i64)) l4]) rfl rfl ?_;refine Gl ?_;obtain ⟨⟨x18,x19⟩,hx18,hm1⟩:=bS hm1;refine zdr 11 ?_;refine zq1 ?_;refine Av rfl rfl rfl (Ad rfl) ?_;refine zq3 ?_;refine zcd (Pz hx18) ?_;refine zq13 ?_;obtain ⟨o_4,hj4,hm4⟩:=bS hm1;refine Al [(0,_),(8,_)] [] (fun (st:((List ANd)×Int×Int×Bool×Bool×(List RSeq)×(List (List Int))×(List (List (List Int)))×(List (List (List Int))))) (hid:(Option Addr×Nat)×(List ((List Int)×Option Addr×Nat))×Unit×Unit)=>match st,hid with | (z16,z17,z18,z19,z20,l13,l14,l15,l16),((a_q0c3,cap_q0c3),q_q0c4,_,_)=>[]) (fun F (st:((List ANd)×Int×Int×Bool×Bool×(List RSeq)×(List (List Int))×(List (List (List Int)))×(List (List (List Int))))) (hid:(Option Addr×Nat)×(List ((List Int)×Option Addr×Nat))×Unit×Unit)=>match st,hid with | (z16,z17,z18,z19,z20,l13,l14,l15,l16),((a_q0c3,cap_q0c3),q_q0c4,_,_)=>[box b_q0 133 [.list 4 ANd.d z16,.i64 z17,.i64 z18,.v (.slice a_q0c3 l13.length cap_q0c3),.v (.slice a_q0c4 m_q0c4 cap_q0c4),.v (.slice a_q0c5 m_q0c5 cap_q0c5),.v (.slice a_q0c6 m_q0c6 cap_q0c6),.bool z19,.bool z20],row a_q0c3 cap_q0c3 95 2 RSeq.d l13,bks a_q0c4 m_q0c4 cap_q0c4 43 3 1 D.i64 l14 q_q0c4,arr a_q0c5 m_q0c5 cap_q0c5 131 1 (D.list 1 (D.list 1 D.i64)) l15,arr a_q0c6 m_q0c6 cap_q0c6 131 1 (D.list 1 (D.list 1 D.i64)) l16]) (fun st=>st=o_4) ⟨rfl,rfl,trivial⟩ trivial ?_ ?_
  ·refine zcn hj4 (fun hc6 hj4=>?_) (fun hc6 hj4=>?_)
   ·refine zq2 ?_
    refine Ak rfl rfl rfl (Ad rfl) ?_;refine zq1 ?_;refine zst 0 ?_;refine Aj (ms':=[box b_q0 133 [_,_,_,_,_,_,_,_,_],_,_,_,_]) rfl ?_;refine gNl ?_;exact ⟨_,((_,_),_,(),()),Ac hj4,trivial,⟨rfl,rfl,trivial⟩,[],rfl⟩
   ·refine gSp ?_
    exact ⟨_,((_,_),_,(),()),Ac hj4,trivial,⟨rfl,rfl,trivial⟩,[],rfl⟩
  ·rintro ⟨z16,z17,z18,z19,z20,l13,l14,l15,l16⟩ ⟨⟨a_q0c3,cap_q0c3⟩,q_q0c4,⟨⟩,⟨⟩⟩ hst
   subst hst;refine An (L':=[(0,_),(8,_)]) (ms':=[box b_q0 133 [.list 4 ANd.d z16,.i64 z17,.i64 z18,.v (.slice a_q0c3 l13.length cap_q0c3),.v (.slice a_q0c4 m_q0c4 cap_q0c4),.v (.slice a_q0c5 m_q0c5 cap_q0c5),.v (.slice a_q0c6 m_q0c6 cap_q0c6),.bool z19,.bool z20],row a_q0c3 cap_q0c3 95 2 RSeq.d l13,bks a_q0c4 m_q0c4 cap_q0c4 43 3 1 D.i64 l14 q_q0c4,arr a_q0c5 m_q0c5 cap_q0c5 131 1 (D.list 1 (D.list 1 D.i64)) l15,arr a_q0c6 m_q0c6 cap_q0c6 131 1 (D.list 1 (D.list 1 D.i64)) l16]) rfl rfl ?_;refine zq5 ?_
   try dsimp only at hm4
   refine Am [(0,_),(8,_)] [] (fun (st:(Int×(List ANd)×Int×Int×Bool×Bool×(List RSeq)×(List (List Int))×(List (List (List Int)))×(List (List (List Int))))) (hid:(Option Addr×Nat)×(List ((List Int)×Option Addr×Nat))×Unit×Unit)=>match st,hid with | (i1,z21,z22,z23,z24,z25,l17,l18,l19,l20),((a_q0c3,cap_q0c3),q_q0c4,_,_)=>[(10,.i64 i1)]) (fun F (st:(Int×(List ANd)×Int×Int×Bool×Bool×(List RSeq)×(List (List Int))×(List (List (List Int)))×(List (List (List Int))))) (hid:(Option Addr×Nat)×(List ((List Int)×Option Addr×Nat))×Unit×Unit)=>match st,hid with | (i1,z21,z22,z23,z24,z25,l17,l18,l19,l20),((a_q0c3,cap_q0c3),q_q0c4,_,_)=>[box b_q0 133 [.list 4 ANd.d z21,.i64 z22,.i64 z23,.v (.slice a_q0c3 l17.length cap_q0c3),.v (.slice a_q0c4 m_q0c4 cap_q0c4),.v (.slice a_q0c5 m_q0c5 cap_q0c5),.v (.slice a_q0c6 m_q0c6 cap_q0c6),.bool z24,.bool z25],row a_q0c3 cap_q0c3 95 2 RSeq.d l17,bks a_q0c4 m_q0c4 cap_q0c4 43 3 1 D.i64 l18 q_q0c4,arr a_q0c5 m_q0c5 cap_q0c5 131 1 (D.list 1 (D.list 1 D.i64)) l19,arr a_q0c6 m_q0c6 cap_q0c6 131 1 (D.list 1 (D.list 1 D.i64)) l20]) ((_,_),_,(),()) hm4 (fun _=>rfl) ⟨rfl,rfl,trivial⟩ trivial ⟨rfl,trivial⟩ rfl ?_;rintro n ⟨i1,z21,z22,z23,z24,z25,l17,l18,l19,l20⟩ ⟨⟨a_q0c3,cap_q0c3⟩,q_q0c4,⟨⟩,⟨⟩⟩ hm4;rw [AO] at hm4;refine At (L':=[(10,.i64 i1),(0,_),(8,_)]) (ms':=[box b_q0 133 [.list 4 ANd.d z21,.i64 z22,.i64 z23,.v (.slice a_q0c3 l17.length cap_q0c3),.v (.slice a_q0c4 m_q0c4 cap_q0c4),.v (.slice a_q0c5 m_q0c5 cap_q0c5),.v (.slice a_q0c6 m_q0c6 cap_q0c6),.bool z24,.bool z25],row a_q0c3 cap_q0c3 95 2 RSeq.d l17,bks a_q0c4 m_q0c4 cap_q0c4 43 3 1 D.i64 l18 q_q0c4,arr a_q0c5 m_q0c5 cap_q0c5 131 1 (D.list 1 (D.list 1 D.i64)) l19,arr a_q0c6 m_q0c6 cap_q0c6 131 1 (D.list 1 (D.list 1 D.i64)) l20]) rfl rfl ?_;refine zq8 ?_;refine zcn hm4 (fun hc7 hm4=>?_) (fun hc7 hm4=>?_)
   ·refine zq7 ?_
    obtain ⟨x20,hx19,hm4⟩:=bS hm4;refine Ak rfl rfl rfl (oIm runUnderlying96 sizeOf95 rfl rfl hx19) ?_;refine zq1 ?_;obtain ⟨s1,hx20,hm4⟩:=bS hm4;refine AJ rfl rfl rfl (DF [0,1,2,3,4] call86 rfl rfl (Ar rfl (Ar rfl (Ar rfl (Ar rfl (Ar rfl CR))))) (CT hx20) (by rintro _ _ ⟨_,_,_,rfl,rfl⟩;rfl)) ?_;rintro _ _ ⟨_,⟨a_q0c3,cap_q0c3,q_q0c4,rfl,rfl⟩,rfl⟩;refine Aj (ms':=[box b_q0 133 [_,_,_,_,_,_,_,_,_],_,_,_,_]) rfl ?_;refine zq3 ?_;obtain ⟨hg21,hm4⟩:=Aa hm4;refine zq3 ?_;exact ⟨_,((_,_),_,(),()),hm4,⟨rfl,trivial⟩,⟨rfl,rfl,trivial⟩,[],rfl⟩
   ·refine Au ?_
    obtain rfl:=Ac hm4;exact retKn (Cp rfl (permA 0 rfl (permA 0 rfl (permA 0 rfl (permA 0 rfl (permA 0 rfl permN)))))) ⟨_,_,_,rfl,rfl⟩
def Bd (goals1:(List RSeq)):Nat->(Int×(List RSeq)×(List ANd)×Int×Int×Bool×Bool×(List (List (List Int)))×(List (List (List Int)))×(List (List Int)))->Option ((List RSeq)×(List ANd)×Int×Int×Bool×Bool×(List (List (List Int)))×(List (List (List Int)))×(List (List Int)))
 | 0,_=>none
 | n+1,(i1,l5,z6,z7,z8,z9,z10,l6,l7,l8) =>
  bif (decide (i1<(goals1.length:Int))) then
   (idx goals1 i1).bind fun x1 =>
   (Dr x1.l).bind fun x2 =>
   (idx goals1 i1).bind fun x3 =>
   (Dr x3.r).bind fun x4 =>
   (Az (⟨(⟨z6,z7⟩:ATy),z8,l5,l8,l6,l7,z9,z10⟩:Syntagmaref19World) (⟨x2,x4⟩:RSeq)).bind fun s1 =>
   grd (InR (i1+1)) <|
   Bd goals1 n ((i1+1),s1.all,s1.t.l,s1.t.root,s1.flex,s1.mixed,s1.fails,s1.below_,s1.above,s1.buckets)
  else
   some (l5,z6,z7,z8,z9,z10,l6,l7,l8)
def A1  : Nat->(Int×(List RSeq)×(List ANd)×Int×Int×Bool×Bool×(List (List (List Int)))×(List (List (List Int)))×(List (List Int)))->Option (Int×(List RSeq)×(List ANd)×Int×Int×Bool×Bool×(List (List (List Int)))×(List (List (List Int)))×(List (List Int)))
 | 0,_=>none
 | n+1,(done3,l21,z26,z27,z28,z29,z30,l22,l23,l24) =>
  bif (decide (done3<(l21.length:Int))) then
   (idx l21 done3).bind fun x5 =>
   (Bw (⟨(⟨z26,z27⟩:ATy),z28,l21,l24,l22,l23,z29,z30⟩:Syntagmaref19World) x5).bind fun s2 =>
   grd (InR (done3+1)) <|
   A1 n ((done3+1),s2.all,s2.t.l,s2.t.root,s2.flex,s2.mixed,s2.fails,s2.below_,s2.above,s2.buckets)
  else
   some (done3,l21,z26,z27,z28,z29,z30,l22,l23,l24)
def A2 (v1:Int) (i2:Int):Nat->(Int×(List RSeq)×(List ANd)×Int×Int×Bool×Bool×(List (List (List Int)))×(List (List (List Int)))×(List (List Int)))->Option ((List RSeq)×(List ANd)×Int×Int×Bool×Bool×(List (List (List Int)))×(List (List (List Int)))×(List (List Int)))
 | 0,_=>none
 | n+1,(k1,l45,z56,z57,z58,z59,z60,l46,l47,l48) =>
  (idx l47 v1).bind fun x7 =>
  bif (decide (k1<(x7.length:Int))) then
   (idx l46 v1).bind fun x8 =>
   (idx x8 i2).bind fun x9 =>
   (idx l47 v1).bind fun x10 =>
   (idx x10 k1).bind fun x11 =>
   (Az (⟨(⟨z56,z57⟩:ATy),z58,l45,l48,l46,l47,z59,z60⟩:Syntagmaref19World) (⟨x9,x11⟩:RSeq)).bind fun s3 =>
   grd (InR (k1+1)) <|
   A2 v1 i2 n ((k1+1),s3.all,s3.t.l,s3.t.root,s3.flex,s3.mixed,s3.fails,s3.below_,s3.above,s3.buckets)
  else
   some (l45,z56,z57,z58,z59,z60,l46,l47,l48)
def AZ (v1:Int):Nat->(Int×(List RSeq)×(List ANd)×Int×Int×Bool×Bool×(List (List (List Int)))×(List (List (List Int)))×(List (List Int)))->Option ((List RSeq)×(List ANd)×Int×Int×Bool×Bool×(List (List (List Int)))×(List (List (List Int)))×(List (List Int)))
 | 0,_=>none
 | n+1,(i2,l37,z46,z47,z48,z49,z50,l38,l39,l40) =>
  (idx l38 v1).bind fun x6 =>
  bif (decide (i2<(x6.length:Int))) then
   (A2 v1 i2 FU (0,l37,z46,z47,z48,z49,z50,l38,l39,l40):Option ((List RSeq)×(List ANd)×Int×Int×Bool×Bool×(List (List (List Int)))×(List (List (List Int)))×(List (List Int)))).bind fun (l41,z51,z52,z53,z54,z55,l42,l43,l44) =>
   grd (InR (i2+1)) <|
   AZ v1 n ((i2+1),l41,z51,z52,z53,z54,z55,l42,l43,l44)
  else
   some (l37,z46,z47,z48,z49,z50,l38,l39,l40)
def AT (flex1:Int):Nat->(Int×(List RSeq)×(List ANd)×Int×Int×Bool×Bool×(List (List (List Int)))×(List (List (List Int)))×(List (List Int)))->Option ((List RSeq)×(List ANd)×Int×Int×Bool×Bool×(List (List (List Int)))×(List (List (List Int)))×(List (List Int)))
 | 0,_=>none
 | n+1,(v1,l29,z36,z37,z38,z39,z40,l30,l31,l32) =>
  bif (decide (v1<flex1)) then
   (AZ v1 FU (0,l29,z36,z37,z38,z39,z40,l30,l31,l32):Option ((List RSeq)×(List ANd)×Int×Int×Bool×Bool×(List (List (List Int)))×(List (List (List Int)))×(List (List Int)))).bind fun (l33,z41,z42,z43,z44,z45,l34,l35,l36) =>
   grd (InR (v1+1)) <|
   AT flex1 n ((v1+1),l33,z41,z42,z43,z44,z45,l34,l35,l36)
  else
   some (l29,z36,z37,z38,z39,z40,l30,l31,l32)
def A0 (flex1:Int):Nat->(Int×(List RSeq)×(List ANd)×Int×Int×Bool×Bool×(List (List (List Int)))×(List (List (List Int)))×(List (List Int)))->Option ((List RSeq)×(List ANd)×Int×Int×Bool×Bool×(List (List (List Int)))×(List (List (List Int)))×(List (List Int)))
 | 0,_=>none
 | n+1,(done1,l13,z16,z17,z18,z19,z20,l14,l15,l16) =>
  bif (decide (done1<(l13.length:Int))) then
   (A1 FU (done1,l13,z16,z17,z18,z19,z20,l14,l15,l16):Option (Int×(List RSeq)×(List ANd)×Int×Int×Bool×Bool×(List (List (List Int)))×(List (List (List Int)))×(List (List Int)))).bind fun (done2,l17,z21,z22,z23,z24,z25,l18,l19,l20) =>
   (AT flex1 FU (0,l17,z21,z22,z23,z24,z25,l18,l19,l20):Option ((List RSeq)×(List ANd)×Int×Int×Bool×Bool×(List (List (List Int)))×(List (List (List Int)))×(List (List Int)))).bind fun (l25,z31,z32,z33,z34,z35,l26,l27,l28) =>
   A0 flex1 n (done2,l25,z31,z32,z33,z34,z35,l26,l27,l28)
  else
   some (l13,z16,z17,z18,z19,z20,l14,l15,l16)
def BT (t1:ATy) (goals1:(List RSeq)) (flex1:Int)  : Option Syntagmaref19World:=
 grd (0<=flex1) <|
 grd ((flex1).toNat*24<=140737488355328) <|
 grd (0<=flex1) <|
 grd ((flex1).toNat*24<=140737488355328) <|
 grd (0<=(997:Int)) <|
 grd (((997:Int)).toNat*24<=140737488355328) <|
 (Bd goals1 FU (0,([]:List RSeq),t1.l,t1.root,flex1,false,false,(List.replicate (flex1).toNat (([]:List (List Int)):(List (List Int)))),(List.replicate (flex1).toNat (([]:List (List Int)):(List (List Int)))),(List.replicate ((997:Int)).toNat ([]:(List Int)))):Option ((List RSeq)×(List ANd)×Int×Int×Bool×Bool×(List (List (List Int)))×(List (List (List Int)))×(List (List Int)))).bind fun (l1,z1,z2,z3,z4,z5,l2,l3,l4) =>
 (A0 flex1 FU (0,l1,z1,z2,z3,z4,z5,l2,l3,l4):Option ((List RSeq)×(List ANd)×Int×Int×Bool×Bool×(List (List (List Int)))×(List (List (List Int)))×(List (List Int)))).bind fun (l9,z11,z12,z13,z14,z15,l10,l11,l12) =>
 some (⟨(⟨z11,z12⟩:ATy),z13,l9,l12,l10,l11,z14,z15⟩:Syntagmaref19World)
theorem HJ {t1:ATy} {goals1:(List RSeq)} {flex1:Int}  {s_1:Syntagmaref19World} (hm:BT t1 goals1 flex1=some s_1):Go.V.Fn Tryz.prog 50 [ATy.d t1,.list 2 RSeq.d goals1,.i64 flex1] [] (fun d ms'=>∃ b_s_1 a_s_1c3 cap_s_1c3 a_s_1c4 m_s_1c4 cap_s_1c4 q_s_1c4 a_s_1c5 m_s_1c5 cap_s_1c5 a_s_1c6 m_s_1c6 cap_s_1c6,d = .v (.pointer (some ⟨b_s_1,0,none⟩))/\ms'=[box b_s_1 133 [.list 4 ANd.d s_1.t.l,.i64 s_1.t.root,.i64 s_1.flex,.v (.slice a_s_1c3 s_1.all.length cap_s_1c3),.v (.slice a_s_1c4 m_s_1c4 cap_s_1c4),.v (.slice a_s_1c5 m_s_1c5 cap_s_1c5),.v (.slice a_s_1c6 m_s_1c6 cap_s_1c6),.bool s_1.mixed,.bool s_1.fails],row a_s_1c3 cap_s_1c3 95 2 RSeq.d s_1.all,bks a_s_1c4 m_s_1c4 cap_s_1c4 43 3 1 D.i64 s_1.buckets q_s_1c4,arr a_s_1c5 m_s_1c5 cap_s_1c5 131 1 (D.list 1 (D.list 1 D.i64)) s_1.below_,arr a_s_1c6 m_s_1c6 cap_s_1c6 131 1 (D.list 1 (D.list 1 D.i64)) s_1.above]):=by
 unfold BT at hm;refine Ae func50 rfl ntmps50 rfl fun H0 fr w0=>?_;refine zq6 ?_;obtain ⟨hg1,hm⟩:=Aa hm;obtain ⟨hg2,hm⟩:=Aa hm;obtain ⟨hg3,hm⟩:=Aa hm;obtain ⟨hg4,hm⟩:=Aa hm;obtain ⟨hg5,hm⟩:=Aa hm;obtain ⟨hg6,hm⟩:=Aa hm;refine Fz 7 [3,5,6] AY (by decide +kernel) (by decide +kernel) rfl (by decide +kernel) ?_;refine AD rfl rfl rfl rfl (C7 isAgg31 sizeOf31 rfl rfl) ?_;refine AD rfl rfl rfl rfl (oMv rfl) ?_;refine AD rfl rfl rfl rfl (oMv rfl) ?_;refine DN (R:=fun d A=>∃ a m cap,d = .v (.slice a m cap)/\A=arr a m cap 131 1 (D.list 1 (D.list 1 D.i64)) (List.replicate (flex1).toNat (([]:List (List Int)):(List (List Int))))) rfl rfl rfl (OpT.mono (Dw (f:=(D.list 1 (D.list 1 D.i64))) (z0:=([]:List (List Int))) underlying130 type131 rfl rfl rfl (nB rfl) rfl rfl hg1 hg2 (nB rfl)) (by rintro d ms' ⟨a,m,cap,rfl,rfl⟩;exact ⟨_,⟨a,m,cap,rfl,rfl⟩,rfl⟩)) ?_;refine AD rfl rfl rfl rfl (oMv rfl) ?_;refine DN (R:=fun d A=>∃ a m cap,d = .v (.slice a m cap)/\A=arr a m cap 131 1 (D.list 1 (D.list 1 D.i64)) (List.replicate (flex1).toNat (([]:List (List Int)):(List (List Int))))) rfl rfl rfl (OpT.mono (Dw (f:=(D.list 1 (D.list 1 D.i64))) (z0:=([]:List (List Int))) underlying130 type131 rfl rfl rfl (nB rfl) rfl rfl hg3 hg4 (nB rfl)) (by rintro d ms' ⟨a,m,cap,rfl,rfl⟩;exact ⟨_,⟨a,m,cap,rfl,rfl⟩,rfl⟩)) ?_;refine DN (R:=fun d A=>∃ a m cap q,d = .v (.slice a m cap)/\A=bks a m cap 43 3 1 D.i64 (List.replicate ((997:Int)).toNat ([]:(List Int))) q) rfl rfl rfl (OpT.mono (KC (e:=3) (sz:=1) (f:=D.i64) underlying131 type43 rfl rfl rfl rfl rfl hg5 hg6 (nB rfl)) (by rintro d ms' ⟨a,m,cap,q,rfl,rfl⟩;exact ⟨_,⟨a,m,cap,q,rfl,rfl⟩,rfl⟩)) ?_;refine Gr ?_;rintro _ _ ⟨a_r1,m_r1,cap_r1,rfl,rfl⟩;rintro _ _ ⟨a_r2,m_r2,cap_r2,rfl,rfl⟩;rintro _ _ ⟨a_r3,m_r3,cap_r3,q_r3,rfl,rfl⟩;refine Ak rfl rfl rfl Vr ?_;refine AJ rfl rfl rfl (Iv rfl rfl rfl) ?_;rintro _ _ ⟨b1,rfl,rfl⟩;refine Ap (AK (T:=95) (sz:=2) (f:=RSeq.d)) ?_;refine zq7 ?_;obtain ⟨o_1,hj1,hm1⟩:=bS hm;refine Al [(2,_),(7,_)] [] (fun (st:((List RSeq)×(List ANd)×Int×Int×Bool×Bool×(List (List (List Int)))×(List (List (List Int)))×(List (List Int)))) (hid:(Option Addr×Nat)×Unit×Unit×(List ((List Int)×Option Addr×Nat)))=>match st,hid with | (l1,z1,z2,z3,z4,z5,l2,l3,l4),((a_r4,cap_r4),_,_,q_r3)=>[]) (fun F (st:((List RSeq)×(List ANd)×Int×Int×Bool×Bool×(List (List (List Int)))×(List (List (List Int)))×(List (List Int)))) (hid:(Option Addr×Nat)×Unit×Unit×(List ((List Int)×Option Addr×Nat)))=>match st,hid with | (l1,z1,z2,z3,z4,z5,l2,l3,l4),((a_r4,cap_r4),_,_,q_r3)=>[row a_r4 cap_r4 95 2 RSeq.d l1,box b1 133 [.list 4 ANd.d z1,.i64 z2,.i64 z3,.v (.slice a_r4 l1.length cap_r4),.v (.slice a_r3 m_r3 cap_r3),.v (.slice a_r1 m_r1 cap_r1),.v (.slice a_r2 m_r2 cap_r2),.bool z4,.bool z5],arr a_r1 m_r1 cap_r1 131 1 (D.list 1 (D.list 1 D.i64)) l2,arr a_r2 m_r2 cap_r2 131 1 (D.list 1 (D.list 1 D.i64)) l3,bks a_r3 m_r3 cap_r3 43 3 1 D.i64 l4 q_r3]) (fun st=>st=o_1) ⟨rfl,rfl,trivial⟩ trivial ?_ ?_
 ·refine Aq ?_
  refine Am [(1,_),(2,_),(7,_)] [] (fun (st:(Int×(List RSeq)×(List ANd)×Int×Int×Bool×Bool×(List (List (List Int)))×(List (List (List Int)))×(List (List Int)))) (hid:(Option Addr×Nat)×Unit×Unit×(List ((List Int)×Option Addr×Nat)))=>match st,hid with | (i1,l5,z6,z7,z8,z9,z10,l6,l7,l8),((a_r4,cap_r4),_,_,q_r3)=>[(8,.i64 i1)]) (fun F (st:(Int×(List RSeq)×(List ANd)×Int×Int×Bool×Bool×(List (List (List Int)))×(List (List (List Int)))×(List (List Int)))) (hid:(Option Addr×Nat)×Unit×Unit×(List ((List Int)×Option Addr×Nat)))=>match st,hid with | (i1,l5,z6,z7,z8,z9,z10,l6,l7,l8),((a_r4,cap_r4),_,_,q_r3)=>[row a_r4 cap_r4 95 2 RSeq.d l5,box b1 133 [.list 4 ANd.d z6,.i64 z7,.i64 z8,.v (.slice a_r4 l5.length cap_r4),.v (.slice a_r3 m_r3 cap_r3),.v (.slice a_r1 m_r1 cap_r1),.v (.slice a_r2 m_r2 cap_r2),.bool z9,.bool z10],arr a_r1 m_r1 cap_r1 131 1 (D.list 1 (D.list 1 D.i64)) l6,arr a_r2 m_r2 cap_r2 131 1 (D.list 1 (D.list 1 D.i64)) l7,bks a_r3 m_r3 cap_r3 43 3 1 D.i64 l8 q_r3]) ((_,_),(),(),_) hj1 (fun _=>rfl) ⟨rfl,rfl,rfl,trivial⟩ trivial ⟨rfl,trivial⟩ rfl ?_;rintro n ⟨i1,l5,z6,z7,z8,z9,z10,l6,l7,l8⟩ ⟨⟨a_r4,cap_r4⟩,⟨⟩,⟨⟩,q_r3⟩ hj1;rw [Bd] at hj1;refine At (L':=[(8,.i64 i1),(1,_),(2,_),(7,_)]) (ms':=[row a_r4 cap_r4 95 2 RSeq.d l5,box b1 133 [.list 4 ANd.d z6,.i64 z7,.i64 z8,.v (.slice a_r4 l5.length cap_r4),.v (.slice a_r3 m_r3 cap_r3),.v (.slice a_r1 m_r1 cap_r1),.v (.slice a_r2 m_r2 cap_r2),.bool z9,.bool z10],arr a_r1 m_r1 cap_r1 131 1 (D.list 1 (D.list 1 D.i64)) l6,arr a_r2 m_r2 cap_r2 131 1 (D.list 1 (D.list 1 D.i64)) l7,bks a_r3 m_r3 cap_r3 43 3 1 D.i64 l8 q_r3]) rfl rfl ?_;refine zq8 ?_;refine zcn hj1 (fun hc1 hj1=>?_) (fun hc1 hj1=>?_)
  ·refine zq3 ?_
   obtain ⟨x1,hx7,hj1⟩:=bS hj1;obtain ⟨x2,hx8,hj1⟩:=bS hj1;obtain ⟨x3,hx9,hj1⟩:=bS hj1;obtain ⟨x4,hx10,hj1⟩:=bS hj1;refine zdr 14 ?_;refine zq3 ?_;refine Av rfl rfl rfl (oIm runUnderlying96 sizeOf95 rfl rfl hx7) ?_;refine zq2 ?_;refine zcd (Fx hx8) ?_;refine zq2 ?_;refine Av rfl rfl rfl (oIm runUnderlying96 sizeOf95 rfl rfl hx9) ?_;refine zq2 ?_;refine zcd (Fx hx10) ?_;refine Av rfl rfl rfl zb95b ?_;refine EB ?_;obtain ⟨s1,hx11,hj1⟩:=bS hj1;refine AJ rfl rfl rfl (DF [1,0,4,2,3] call86 rfl rfl (Ar rfl (Ar rfl (Ar rfl (Ar rfl (Ar rfl CR))))) (CT hx11) (by rintro _ _ ⟨_,_,_,rfl,rfl⟩;rfl)) ?_;rintro _ _ ⟨_,⟨a_r4,cap_r4,q_r3,rfl,rfl⟩,rfl⟩;refine Aj (ms':=[_,box b1 133 [_,_,_,_,_,_,_,_,_],_,_,_]) rfl ?_;refine zq3 ?_;obtain ⟨hg12,hj1⟩:=Aa hj1;refine zq3 ?_;exact ⟨_,((_,_),(),(),_),hj1,⟨rfl,trivial⟩,⟨rfl,rfl,rfl,trivial⟩,[],rfl⟩
  ·refine Au ?_
   exact ⟨_,((_,_),(),(),_),Ac hj1,trivial,⟨rfl,rfl,trivial⟩,[],rfl⟩
 ·rintro ⟨l1,z1,z2,z3,z4,z5,l2,l3,l4⟩ ⟨⟨a_r4,cap_r4⟩,⟨⟩,⟨⟩,q_r3⟩ hst
  subst hst;refine An (L':=[(2,_),(7,_)]) (ms':=[row a_r4 cap_r4 95 2 RSeq.d l1,box b1 133 [.list 4 ANd.d z1,.i64 z2,.i64 z3,.v (.slice a_r4 l1.length cap_r4),.v (.slice a_r3 m_r3 cap_r3),.v (.slice a_r1 m_r1 cap_r1),.v (.slice a_r2 m_r2 cap_r2),.bool z4,.bool z5],arr a_r1 m_r1 cap_r1 131 1 (D.list 1 (D.list 1 D.i64)) l2,arr a_r2 m_r2 cap_r2 131 1 (D.list 1 (D.list 1 D.i64)) l3,bks a_r3 m_r3 cap_r3 43 3 1 D.i64 l4 q_r3]) rfl rfl ?_;refine zq5 ?_;obtain ⟨o_2,hj2,hm2⟩:=bS hm1;refine Al [(7,_)] [] (fun (st:((List RSeq)×(List ANd)×Int×Int×Bool×Bool×(List (List (List Int)))×(List (List (List Int)))×(List (List Int)))) (hid:(Option Addr×Nat)×Unit×Unit×(List ((List Int)×Option Addr×Nat)))=>match st,hid with | (l9,z11,z12,z13,z14,z15,l10,l11,l12),((a_r4,cap_r4),_,_,q_r3)=>[]) (fun F (st:((List RSeq)×(List ANd)×Int×Int×Bool×Bool×(List (List (List Int)))×(List (List (List Int)))×(List (List Int)))) (hid:(Option Addr×Nat)×Unit×Unit×(List ((List Int)×Option Addr×Nat)))=>match st,hid with | (l9,z11,z12,z13,z14,z15,l10,l11,l12),((a_r4,cap_r4),_,_,q_r3)=>[row a_r4 cap_r4 95 2 RSeq.d l9,box b1 133 [.list 4 ANd.d z11,.i64 z12,.i64 z13,.v (.slice a_r4 l9.length cap_r4),.v (.slice a_r3 m_r3 cap_r3),.v (.slice a_r1 m_r1 cap_r1),.v (.slice a_r2 m_r2 cap_r2),.bool z14,.bool z15],arr a_r1 m_r1 cap_r1 131 1 (D.list 1 (D.list 1 D.i64)) l10,arr a_r2 m_r2 cap_r2 131 1 (D.list 1 (D.list 1 D.i64)) l11,bks a_r3 m_r3 cap_r3 43 3 1 D.i64 l12 q_r3]) (fun st=>st=o_2) ⟨rfl,trivial⟩ trivial ?_ ?_
  ·refine Aq ?_
   refine Am [(2,_),(7,_)] [] (fun (st:(Int×(List RSeq)×(List ANd)×Int×Int×Bool×Bool×(List (List (List Int)))×(List (List (List Int)))×(List (List Int)))) (hid:(Option Addr×Nat)×Unit×Unit×(List ((List Int)×Option Addr×Nat)))=>match st,hid with | (done1,l13,z16,z17,z18,z19,z20,l14,l15,l16),((a_r4,cap_r4),_,_,q_r3)=>[(9,.i64 done1)]) (fun F (st:(Int×(List RSeq)×(List ANd)×Int×Int×Bool×Bool×(List (List (List Int)))×(List (List (List Int)))×(List (List Int)))) (hid:(Option Addr×Nat)×Unit×Unit×(List ((List Int)×Option Addr×Nat)))=>match st,hid with | (done1,l13,z16,z17,z18,z19,z20,l14,l15,l16),((a_r4,cap_r4),_,_,q_r3)=>[row a_r4 cap_r4 95 2 RSeq.d l13,box b1 133 [.list 4 ANd.d z16,.i64 z17,.i64 z18,.v (.slice a_r4 l13.length cap_r4),.v (.slice a_r3 m_r3 cap_r3),.v (.slice a_r1 m_r1 cap_r1),.v (.slice a_r2 m_r2 cap_r2),.bool z19,.bool z20],arr a_r1 m_r1 cap_r1 131 1 (D.list 1 (D.list 1 D.i64)) l14,arr a_r2 m_r2 cap_r2 131 1 (D.list 1 (D.list 1 D.i64)) l15,bks a_r3 m_r3 cap_r3 43 3 1 D.i64 l16 q_r3]) ((_,_),(),(),_) hj2 (fun _=>rfl) ⟨rfl,rfl,trivial⟩ trivial ⟨rfl,trivial⟩ rfl ?_;rintro n ⟨done1,l13,z16,z17,z18,z19,z20,l14,l15,l16⟩ ⟨⟨a_r4,cap_r4⟩,⟨⟩,⟨⟩,q_r3⟩ hj2;rw [A0] at hj2;refine At (L':=[(9,.i64 done1),(2,_),(7,_)]) (ms':=[row a_r4 cap_r4 95 2 RSeq.d l13,box b1 133 [.list 4 ANd.d z16,.i64 z17,.i64 z18,.v (.slice a_r4 l13.length cap_r4),.v (.slice a_r3 m_r3 cap_r3),.v (.slice a_r1 m_r1 cap_r1),.v (.slice a_r2 m_r2 cap_r2),.bool z19,.bool z20],arr a_r1 m_r1 cap_r1 131 1 (D.list 1 (D.list 1 D.i64)) l14,arr a_r2 m_r2 cap_r2 131 1 (D.list 1 (D.list 1 D.i64)) l15,bks a_r3 m_r3 cap_r3 43 3 1 D.i64 l16 q_r3]) rfl rfl ?_;refine zq5 ?_;refine Ak rfl rfl rfl (Ad rfl) ?_;refine zq2 ?_;refine Ak rfl rfl rfl (.view (peekE (i:=47) 0 rfl rfl rfl) (Em runUnderlying96 rfl)) ?_;refine zq2 ?_;refine zcn hj2 (fun hc2 hj2=>?_) (fun hc2 hj2=>?_)
   ·refine zq3 ?_
    obtain ⟨o_3,hj3,hm3⟩:=bS hj2;refine Al [(2,_),(7,_)] [] (fun (st:(Int×(List RSeq)×(List ANd)×Int×Int×Bool×Bool×(List (List (List Int)))×(List (List (List Int)))×(List (List Int)))) (hid:(Option Addr×Nat)×Unit×Unit×(List ((List Int)×Option Addr×Nat)))=>match st,hid with | (done2,l17,z21,z22,z23,z24,z25,l18,l19,l20),((a_r4,cap_r4),_,_,q_r3)=>[(9,.i64 done2)]) (fun F (st:(Int×(List RSeq)×(List ANd)×Int×Int×Bool×Bool×(List (List (List Int)))×(List (List (List Int)))×(List (List Int)))) (hid:(Option Addr×Nat)×Unit×Unit×(List ((List Int)×Option Addr×Nat)))=>match st,hid with | (done2,l17,z21,z22,z23,z24,z25,l18,l19,l20),((a_r4,cap_r4),_,_,q_r3)=>[row a_r4 cap_r4 95 2 RSeq.d l17,box b1 133 [.list 4 ANd.d z21,.i64 z22,.i64 z23,.v (.slice a_r4 l17.length cap_r4),.v (.slice a_r3 m_r3 cap_r3),.v (.slice a_r1 m_r1 cap_r1),.v (.slice a_r2 m_r2 cap_r2),.bool z24,.bool z25],arr a_r1 m_r1 cap_r1 131 1 (D.list 1 (D.list 1 D.i64)) l18,arr a_r2 m_r2 cap_r2 131 1 (D.list 1 (D.list 1 D.i64)) l19,bks a_r3 m_r3 cap_r3 43 3 1 D.i64 l20 q_r3]) (fun st=>st=o_3) ⟨rfl,rfl,trivial⟩ trivial ?_ ?_
    ·refine Aq ?_
     refine Am [(2,_),(7,_)] [] (fun (st:(Int×(List RSeq)×(List ANd)×Int×Int×Bool×Bool×(List (List (List Int)))×(List (List (List Int)))×(List (List Int)))) (hid:(Option Addr×Nat)×Unit×Unit×(List ((List Int)×Option Addr×Nat)))=>match st,hid with | (done3,l21,z26,z27,z28,z29,z30,l22,l23,l24),((a_r4,cap_r4),_,_,q_r3)=>[(9,.i64 done3)]) (fun F (st:(Int×(List RSeq)×(List ANd)×Int×Int×Bool×Bool×(List (List (List Int)))×(List (List (List Int)))×(List (List Int)))) (hid:(Option Addr×Nat)×Unit×Unit×(List ((List Int)×Option Addr×Nat)))=>match st,hid with | (done3,l21,z26,z27,z28,z29,z30,l22,l23,l24),((a_r4,cap_r4),_,_,q_r3)=>[row a_r4 cap_r4 95 2 RSeq.d l21,box b1 133 [.list 4 ANd.d z26,.i64 z27,.i64 z28,.v (.slice a_r4 l21.length cap_r4),.v (.slice a_r3 m_r3 cap_r3),.v (.slice a_r1 m_r1 cap_r1),.v (.slice a_r2 m_r2 cap_r2),.bool z29,.bool z30],arr a_r1 m_r1 cap_r1 131 1 (D.list 1 (D.list 1 D.i64)) l22,arr a_r2 m_r2 cap_r2 131 1 (D.list 1 (D.list 1 D.i64)) l23,bks a_r3 m_r3 cap_r3 43 3 1 D.i64 l24 q_r3]) ((_,_),(),(),_) hj3 (fun _=>rfl) ⟨rfl,rfl,trivial⟩ trivial ⟨rfl,trivial⟩ rfl ?_;rintro n ⟨done3,l21,z26,z27,z28,z29,z30,l22,l23,l24⟩ ⟨⟨a_r4,cap_r4⟩,⟨⟩,⟨⟩,q_r3⟩ hj3;rw [A1] at hj3;refine At (L':=[(9,.i64 done3),(2,_),(7,_)]) (ms':=[row a_r4 cap_r4 95 2 RSeq.d l21,box b1 133 [.list 4 ANd.d z26,.i64 z27,.i64 z28,.v (.slice a_r4 l21.length cap_r4),.v (.slice a_r3 m_r3 cap_r3),.v (.slice a_r1 m_r1 cap_r1),.v (.slice a_r2 m_r2 cap_r2),.bool z29,.bool z30],arr a_r1 m_r1 cap_r1 131 1 (D.list 1 (D.list 1 D.i64)) l22,arr a_r2 m_r2 cap_r2 131 1 (D.list 1 (D.list 1 D.i64)) l23,bks a_r3 m_r3 cap_r3 43 3 1 D.i64 l24 q_r3]) rfl rfl ?_;refine zq5 ?_;refine Ak rfl rfl rfl (Ad rfl) ?_;refine zq2 ?_;refine Ak rfl rfl rfl (.view (peekE (i:=54) 0 rfl rfl rfl) (Em runUnderlying96 rfl)) ?_;refine zq2 ?_;refine zcn hj3 (fun hc3 hj3=>?_) (fun hc3 hj3=>?_)
     ·refine zq6 ?_
      refine Ak rfl rfl rfl (Ad rfl) ?_;refine zq3 ?_;obtain ⟨x5,hx13,hj3⟩:=bS hj3;refine Ak rfl rfl rfl (.view (peekE (i:=63) 0 rfl rfl rfl) (oIm runUnderlying96 sizeOf95 rfl rfl hx13)) ?_;refine zq1 ?_;obtain ⟨s2,hx14,hj3⟩:=bS hj3;refine AJ rfl rfl rfl (DF [1,0,4,2,3] call87 rfl rfl (Ar rfl (Ar rfl (Ar rfl (Ar rfl (Ar rfl CR))))) (Gi hx14) (by rintro _ _ ⟨_,_,_,rfl,rfl⟩;rfl)) ?_;rintro _ _ ⟨_,⟨a_r4,cap_r4,q_r3,rfl,rfl⟩,rfl⟩;refine Aj (ms':=[_,box b1 133 [_,_,_,_,_,_,_,_,_],_,_,_]) rfl ?_;refine zq3 ?_;obtain ⟨hg15,hj3⟩:=Aa hj3;refine zq3 ?_;exact ⟨_,((_,_),(),(),_),hj3,⟨rfl,trivial⟩,⟨rfl,rfl,trivial⟩,[],rfl⟩
     ·refine Au ?_
      exact ⟨_,((_,_),(),(),_),Ac hj3,⟨rfl,trivial⟩,⟨rfl,rfl,trivial⟩,[],rfl⟩
    ·rintro ⟨done2,l17,z21,z22,z23,z24,z25,l18,l19,l20⟩ ⟨⟨a_r4,cap_r4⟩,⟨⟩,⟨⟩,q_r3⟩ hst
     subst hst;refine An (L':=[(9,.i64 done2),(2,_),(7,_)]) (ms':=[row a_r4 cap_r4 95 2 RSeq.d l17,box b1 133 [.list 4 ANd.d z21,.i64 z22,.i64 z23,.v (.slice a_r4 l17.length cap_r4),.v (.slice a_r3 m_r3 cap_r3),.v (.slice a_r1 m_r1 cap_r1),.v (.slice a_r2 m_r2 cap_r2),.bool z24,.bool z25],arr a_r1 m_r1 cap_r1 131 1 (D.list 1 (D.list 1 D.i64)) l18,arr a_r2 m_r2 cap_r2 131 1 (D.list 1 (D.list 1 D.i64)) l19,bks a_r3 m_r3 cap_r3 43 3 1 D.i64 l20 q_r3]) rfl rfl ?_;refine zq4 ?_;obtain ⟨o_4,hj4,hm4⟩:=bS hm3;refine Al [(2,_),(7,_),(9,_)] [] (fun (st:((List RSeq)×(List ANd)×Int×Int×Bool×Bool×(List (List (List Int)))×(List (List (List Int)))×(List (List Int)))) (hid:(Option Addr×Nat)×Unit×Unit×(List ((List Int)×Option Addr×Nat)))=>match st,hid with | (l25,z31,z32,z33,z34,z35,l26,l27,l28),((a_r4,cap_r4),_,_,q_r3)=>[]) (fun F (st:((List RSeq)×(List ANd)×Int×Int×Bool×Bool×(List (List (List Int)))×(List (List (List Int)))×(List (List Int)))) (hid:(Option Addr×Nat)×Unit×Unit×(List ((List Int)×Option Addr×Nat)))=>match st,hid with | (l25,z31,z32,z33,z34,z35,l26,l27,l28),((a_r4,cap_r4),_,_,q_r3)=>[row a_r4 cap_r4 95 2 RSeq.d l25,box b1 133 [.list 4 ANd.d z31,.i64 z32,.i64 z33,.v (.slice a_r4 l25.length cap_r4),.v (.slice a_r3 m_r3 cap_r3),.v (.slice a_r1 m_r1 cap_r1),.v (.slice a_r2 m_r2 cap_r2),.bool z34,.bool z35],arr a_r1 m_r1 cap_r1 131 1 (D.list 1 (D.list 1 D.i64)) l26,arr a_r2 m_r2 cap_r2 131 1 (D.list 1 (D.list 1 D.i64)) l27,bks a_r3 m_r3 cap_r3 43 3 1 D.i64 l28 q_r3]) (fun st=>st=o_4) ⟨rfl,rfl,rfl,trivial⟩ trivial ?_ ?_
     ·refine Aq ?_
      refine Am [(2,_),(7,_),(9,_)] [] (fun (st:(Int×(List RSeq)×(List ANd)×Int×Int×Bool×Bool×(List (List (List Int)))×(List (List (List Int)))×(List (List Int)))) (hid:(Option Addr×Nat)×Unit×Unit×(List ((List Int)×Option Addr×Nat)))=>match st,hid with | (v1,l29,z36,z37,z38,z39,z40,l30,l31,l32),((a_r4,cap_r4),_,_,q_r3)=>[(10,.i64 v1)]) (fun F (st:(Int×(List RSeq)×(List ANd)×Int×Int×Bool×Bool×(List (List (List Int)))×(List (List (List Int)))×(List (List Int)))) (hid:(Option Addr×Nat)×Unit×Unit×(List ((List Int)×Option Addr×Nat)))=>match st,hid with | (v1,l29,z36,z37,z38,z39,z40,l30,l31,l32),((a_r4,cap_r4),_,_,q_r3)=>[row a_r4 cap_r4 95 2 RSeq.d l29,box b1 133 [.list 4 ANd.d z36,.i64 z37,.i64 z38,.v (.slice a_r4 l29.length cap_r4),.v (.slice a_r3 m_r3 cap_r3),.v (.slice a_r1 m_r1 cap_r1),.v (.slice a_r2 m_r2 cap_r2),.bool z39,.bool z40],arr a_r1 m_r1 cap_r1 131 1 (D.list 1 (D.list 1 D.i64)) l30,arr a_r2 m_r2 cap_r2 131 1 (D.list 1 (D.list 1 D.i64)) l31,bks a_r3 m_r3 cap_r3 43 3 1 D.i64 l32 q_r3]) ((_,_),(),(),_) hj4 (fun _=>rfl) ⟨rfl,rfl,rfl,trivial⟩ trivial ⟨rfl,trivial⟩ rfl ?_;rintro n ⟨v1,l29,z36,z37,z38,z39,z40,l30,l31,l32⟩ ⟨⟨a_r4,cap_r4⟩,⟨⟩,⟨⟩,q_r3⟩ hj4;rw [AT] at hj4;refine At (L':=[(10,.i64 v1),(2,_),(7,_),(9,_)]) (ms':=[row a_r4 cap_r4 95 2 RSeq.d l29,box b1 133 [.list 4 ANd.d z36,.i64 z37,.i64 z38,.v (.slice a_r4 l29.length cap_r4),.v (.slice a_r3 m_r3 cap_r3),.v (.slice a_r1 m_r1 cap_r1),.v (.slice a_r2 m_r2 cap_r2),.bool z39,.bool z40],arr a_r1 m_r1 cap_r1 131 1 (D.list 1 (D.list 1 D.i64)) l30,arr a_r2 m_r2 cap_r2 131 1 (D.list 1 (D.list 1 D.i64)) l31,bks a_r3 m_r3 cap_r3 43 3 1 D.i64 l32 q_r3]) rfl rfl ?_;refine zq7 ?_;refine zcn hj4 (fun hc4 hj4=>?_) (fun hc4 hj4=>?_)
      ·refine zq7 ?_
       obtain ⟨o_5,hj5,hm5⟩:=bS hj4;refine Al [(2,_),(7,_),(9,_),(10,_)] [] (fun (st:((List RSeq)×(List ANd)×Int×Int×Bool×Bool×(List (List (List Int)))×(List (List (List Int)))×(List (List Int)))) (hid:(Option Addr×Nat)×Unit×Unit×(List ((List Int)×Option Addr×Nat)))=>match st,hid with | (l33,z41,z42,z43,z44,z45,l34,l35,l36),((a_r4,cap_r4),_,_,q_r3)=>[]) (fun F (st:((List RSeq)×(List ANd)×Int×Int×Bool×Bool×(List (List (List Int)))×(List (List (List Int)))×(List (List Int)))) (hid:(Option Addr×Nat)×Unit×Unit×(List ((List Int)×Option Addr×Nat)))=>match st,hid with | (l33,z41,z42,z43,z44,z45,l34,l35,l36),((a_r4,cap_r4),_,_,q_r3)=>[row a_r4 cap_r4 95 2 RSeq.d l33,box b1 133 [.list 4 ANd.d z41,.i64 z42,.i64 z43,.v (.slice a_r4 l33.length cap_r4),.v (.slice a_r3 m_r3 cap_r3),.v (.slice a_r1 m_r1 cap_r1),.v (.slice a_r2 m_r2 cap_r2),.bool z44,.bool z45],arr a_r1 m_r1 cap_r1 131 1 (D.list 1 (D.list 1 D.i64)) l34,arr a_r2 m_r2 cap_r2 131 1 (D.list 1 (D.list 1 D.i64)) l35,bks a_r3 m_r3 cap_r3 43 3 1 D.i64 l36 q_r3]) (fun st=>st=o_5) ⟨rfl,rfl,rfl,rfl,trivial⟩ trivial ?_ ?_
       ·refine Aq ?_
        refine Am [(2,_),(7,_),(9,_),(10,_)] [] (fun (st:(Int×(List RSeq)×(List ANd)×Int×Int×Bool×Bool×(List (List (List Int)))×(List (List (List Int)))×(List (List Int)))) (hid:(Option Addr×Nat)×Unit×Unit×(List ((List Int)×Option Addr×Nat)))=>match st,hid with | (i2,l37,z46,z47,z48,z49,z50,l38,l39,l40),((a_r4,cap_r4),_,_,q_r3)=>[(11,.i64 i2)]) (fun F (st:(Int×(List RSeq)×(List ANd)×Int×Int×Bool×Bool×(List (List (List Int)))×(List (List (List Int)))×(List (List Int)))) (hid:(Option Addr×Nat)×Unit×Unit×(List ((List Int)×Option Addr×Nat)))=>match st,hid with | (i2,l37,z46,z47,z48,z49,z50,l38,l39,l40),((a_r4,cap_r4),_,_,q_r3)=>[row a_r4 cap_r4 95 2 RSeq.d l37,box b1 133 [.list 4 ANd.d z46,.i64 z47,.i64 z48,.v (.slice a_r4 l37.length cap_r4),.v (.slice a_r3 m_r3 cap_r3),.v (.slice a_r1 m_r1 cap_r1),.v (.slice a_r2 m_r2 cap_r2),.bool z49,.bool z50],arr a_r1 m_r1 cap_r1 131 1 (D.list 1 (D.list 1 D.i64)) l38,arr a_r2 m_r2 cap_r2 131 1 (D.list 1 (D.list 1 D.i64)) l39,bks a_r3 m_r3 cap_r3 43 3 1 D.i64 l40 q_r3]) ((_,_),(),(),_) hj5 (fun _=>rfl) ⟨rfl,rfl,rfl,rfl,trivial⟩ trivial ⟨rfl,trivial⟩ rfl ?_;rintro n ⟨i2,l37,z46,z47,z48,z49,z50,l38,l39,l40⟩ ⟨⟨a_r4,cap_r4⟩,⟨⟩,⟨⟩,q_r3⟩ hj5;rw [AZ] at hj5;refine At (L':=[(11,.i64 i2),(2,_),(7,_),(9,_),(10,_)]) (ms':=[row a_r4 cap_r4 95 2 RSeq.d l37,box b1 133 [.list 4 ANd.d z46,.i64 z47,.i64 z48,.v (.slice a_r4 l37.length cap_r4),.v (.slice a_r3 m_r3 cap_r3),.v (.slice a_r1 m_r1 cap_r1),.v (.slice a_r2 m_r2 cap_r2),.bool z49,.bool z50],arr a_r1 m_r1 cap_r1 131 1 (D.list 1 (D.list 1 D.i64)) l38,arr a_r2 m_r2 cap_r2 131 1 (D.list 1 (D.list 1 D.i64)) l39,bks a_r3 m_r3 cap_r3 43 3 1 D.i64 l40 q_r3]) rfl rfl ?_;refine zq5 ?_;refine Ak rfl rfl rfl (Ad rfl) ?_;refine zq3 ?_;obtain ⟨x6,hx16,hj5⟩:=bS hj5;refine Ak rfl rfl rfl (Ag 2 runUnderlying130 sizeOf131 rfl rfl rfl hx16) ?_;refine Ak rfl rfl rfl (AR (off:=0) 2 isAgg131 rfl rfl (Ay hx16).2 rfl rfl rfl) ?_;refine zq3 ?_;refine zcn hj5 (fun hc5 hj5=>?_) (fun hc5 hj5=>?_)
        ·refine zq7 ?_
         obtain ⟨o_6,hj6,hm6⟩:=bS hj5;refine Al [(2,_),(7,_),(9,_),(10,_),(11,_)] [] (fun (st:((List RSeq)×(List ANd)×Int×Int×Bool×Bool×(List (List (List Int)))×(List (List (List Int)))×(List (List Int)))) (hid:(Option Addr×Nat)×Unit×Unit×(List ((List Int)×Option Addr×Nat)))=>match st,hid with | (l41,z51,z52,z53,z54,z55,l42,l43,l44),((a_r4,cap_r4),_,_,q_r3)=>[]) (fun F (st:((List RSeq)×(List ANd)×Int×Int×Bool×Bool×(List (List (List Int)))×(List (List (List Int)))×(List (List Int)))) (hid:(Option Addr×Nat)×Unit×Unit×(List ((List Int)×Option Addr×Nat)))=>match st,hid with | (l41,z51,z52,z53,z54,z55,l42,l43,l44),((a_r4,cap_r4),_,_,q_r3)=>[row a_r4 cap_r4 95 2 RSeq.d l41,box b1 133 [.list 4 ANd.d z51,.i64 z52,.i64 z53,.v (.slice a_r4 l41.length cap_r4),.v (.slice a_r3 m_r3 cap_r3),.v (.slice a_r1 m_r1 cap_r1),.v (.slice a_r2 m_r2 cap_r2),.bool z54,.bool z55],arr a_r1 m_r1 cap_r1 131 1 (D.list 1 (D.list 1 D.i64)) l42,arr a_r2 m_r2 cap_r2 131 1 (D.list 1 (D.list 1 D.i64)) l43,bks a_r3 m_r3 cap_r3 43 3 1 D.i64 l44 q_r3]) (fun st=>st=o_6) ⟨rfl,rfl,rfl,rfl,rfl,trivial⟩ trivial ?_ ?_
         ·refine Aq ?_
          refine Am [(2,_),(7,_),(9,_),(10,_),(11,_)] [] (fun (st:(Int×(List RSeq)×(List ANd)×Int×Int×Bool×Bool×(List (List (List Int)))×(List (List (List Int)))×(List (List Int)))) (hid:(Option Addr×Nat)×Unit×Unit×(List ((List Int)×Option Addr×Nat)))=>match st,hid with | (k1,l45,z56,z57,z58,z59,z60,l46,l47,l48),((a_r4,cap_r4),_,_,q_r3)=>[(12,.i64 k1)]) (fun F (st:(Int×(List RSeq)×(List ANd)×Int×Int×Bool×Bool×(List (List (List Int)))×(List (List (List Int)))×(List (List Int)))) (hid:(Option Addr×Nat)×Unit×Unit×(List ((List Int)×Option Addr×Nat)))=>match st,hid with | (k1,l45,z56,z57,z58,z59,z60,l46,l47,l48),((a_r4,cap_r4),_,_,q_r3)=>[row a_r4 cap_r4 95 2 RSeq.d l45,box b1 133 [.list 4 ANd.d z56,.i64 z57,.i64 z58,.v (.slice a_r4 l45.length cap_r4),.v (.slice a_r3 m_r3 cap_r3),.v (.slice a_r1 m_r1 cap_r1),.v (.slice a_r2 m_r2 cap_r2),.bool z59,.bool z60],arr a_r1 m_r1 cap_r1 131 1 (D.list 1 (D.list 1 D.i64)) l46,arr a_r2 m_r2 cap_r2 131 1 (D.list 1 (D.list 1 D.i64)) l47,bks a_r3 m_r3 cap_r3 43 3 1 D.i64 l48 q_r3]) ((_,_),(),(),_) hj6 (fun _=>rfl) ⟨rfl,rfl,rfl,rfl,rfl,trivial⟩ trivial ⟨rfl,trivial⟩ rfl ?_;rintro n ⟨k1,l45,z56,z57,z58,z59,z60,l46,l47,l48⟩ ⟨⟨a_r4,cap_r4⟩,⟨⟩,⟨⟩,q_r3⟩ hj6;rw [A2] at hj6;refine At (L':=[(12,.i64 k1),(2,_),(7,_),(9,_),(10,_),(11,_)]) (ms':=[row a_r4 cap_r4 95 2 RSeq.d l45,box b1 133 [.list 4 ANd.d z56,.i64 z57,.i64 z58,.v (.slice a_r4 l45.length cap_r4),.v (.slice a_r3 m_r3 cap_r3),.v (.slice a_r1 m_r1 cap_r1),.v (.slice a_r2 m_r2 cap_r2),.bool z59,.bool z60],arr a_r1 m_r1 cap_r1 131 1 (D.list 1 (D.list 1 D.i64)) l46,arr a_r2 m_r2 cap_r2 131 1 (D.list 1 (D.list 1 D.i64)) l47,bks a_r3 m_r3 cap_r3 43 3 1 D.i64 l48 q_r3]) rfl rfl ?_;refine zq5 ?_;refine Ak rfl rfl rfl (Ad rfl) ?_;refine zq3 ?_;obtain ⟨x7,hx17,hj6⟩:=bS hj6;refine Ak rfl rfl rfl (Ag 3 runUnderlying130 sizeOf131 rfl rfl rfl hx17) ?_;refine Ak rfl rfl rfl (AR (off:=0) 3 isAgg131 rfl rfl (Ay hx17).2 rfl rfl rfl) ?_;refine zq3 ?_;refine zcn hj6 (fun hc6 hj6=>?_) (fun hc6 hj6=>?_)
          ·refine zq3 ?_
           obtain ⟨x8,hx18,hj6⟩:=bS hj6;obtain ⟨x9,hx19,hj6⟩:=bS hj6;obtain ⟨x10,hx20,hj6⟩:=bS hj6;obtain ⟨x11,hx21,hj6⟩:=bS hj6;refine zdr 22 ?_;refine zq2 ?_;refine Av rfl rfl rfl (Ad rfl) ?_;refine zq3 ?_;refine Av rfl rfl rfl (Ag 2 runUnderlying130 sizeOf131 rfl rfl rfl hx18) ?_;refine Av rfl rfl rfl (AR (off:=0) 2 isAgg131 rfl rfl (Ay hx18).2 rfl rfl rfl) ?_;refine zq1 ?_;refine Av rfl rfl rfl (oIm runUnderlying131 sizeOf43 rfl rfl hx19) ?_;refine zq2 ?_;refine Av rfl rfl rfl (Ad rfl) ?_;refine zq3 ?_;refine Av rfl rfl rfl (Ag 3 runUnderlying130 sizeOf131 rfl rfl rfl hx20) ?_;refine Av rfl rfl rfl (AR (off:=0) 3 isAgg131 rfl rfl (Ay hx20).2 rfl rfl rfl) ?_;refine zq1 ?_;refine Av rfl rfl rfl (oIm runUnderlying131 sizeOf43 rfl rfl hx21) ?_;refine zq1 ?_;refine Av rfl rfl rfl zb95b ?_;refine EB ?_;obtain ⟨s3,hx22,hj6⟩:=bS hj6;refine AJ rfl rfl rfl (DF [1,0,4,2,3] call86 rfl rfl (Ar rfl (Ar rfl (Ar rfl (Ar rfl (Ar rfl CR))))) (CT hx22) (by rintro _ _ ⟨_,_,_,rfl,rfl⟩;rfl)) ?_;rintro _ _ ⟨_,⟨a_r4,cap_r4,q_r3,rfl,rfl⟩,rfl⟩;refine Aj (ms':=[_,box b1 133 [_,_,_,_,_,_,_,_,_],_,_,_]) rfl ?_;refine zq3 ?_;obtain ⟨hg23,hj6⟩:=Aa hj6;refine zq3 ?_;exact ⟨_,((_,_),(),(),_),hj6,⟨rfl,trivial⟩,⟨rfl,rfl,rfl,rfl,rfl,trivial⟩,[],rfl⟩
          ·refine Au ?_
           exact ⟨_,((_,_),(),(),_),Ac hj6,trivial,⟨rfl,rfl,rfl,rfl,rfl,trivial⟩,[],rfl⟩
         ·rintro ⟨l41,z51,z52,z53,z54,z55,l42,l43,l44⟩ ⟨⟨a_r4,cap_r4⟩,⟨⟩,⟨⟩,q_r3⟩ hst
          subst hst;refine An (L':=[(2,_),(7,_),(9,_),(10,_),(11,_)]) (ms':=[row a_r4 cap_r4 95 2 RSeq.d l41,box b1 133 [.list 4 ANd.d z51,.i64 z52,.i64 z53,.v (.slice a_r4 l41.length cap_r4),.v (.slice a_r3 m_r3 cap_r3),.v (.slice a_r1 m_r1 cap_r1),.v (.slice a_r2 m_r2 cap_r2),.bool z54,.bool z55],arr a_r1 m_r1 cap_r1 131 1 (D.list 1 (D.list 1 D.i64)) l42,arr a_r2 m_r2 cap_r2 131 1 (D.list 1 (D.list 1 D.i64)) l43,bks a_r3 m_r3 cap_r3 43 3 1 D.i64 l44 q_r3]) rfl rfl ?_;refine zq2 ?_;obtain ⟨hg24,hm6⟩:=Aa hm6;refine zq3 ?_;exact ⟨_,((_,_),(),(),_),hm6,⟨rfl,trivial⟩,⟨rfl,rfl,rfl,rfl,trivial⟩,[],rfl⟩
        ·refine Au ?_
         exact ⟨_,((_,_),(),(),_),Ac hj5,trivial,⟨rfl,rfl,rfl,rfl,trivial⟩,[],rfl⟩
       ·rintro ⟨l33,z41,z42,z43,z44,z45,l34,l35,l36⟩ ⟨⟨a_r4,cap_r4⟩,⟨⟩,⟨⟩,q_r3⟩ hst
        subst hst;refine An (L':=[(2,_),(7,_),(9,_),(10,_)]) (ms':=[row a_r4 cap_r4 95 2 RSeq.d l33,box b1 133 [.list 4 ANd.d z41,.i64 z42,.i64 z43,.v (.slice a_r4 l33.length cap_r4),.v (.slice a_r3 m_r3 cap_r3),.v (.slice a_r1 m_r1 cap_r1),.v (.slice a_r2 m_r2 cap_r2),.bool z44,.bool z45],arr a_r1 m_r1 cap_r1 131 1 (D.list 1 (D.list 1 D.i64)) l34,arr a_r2 m_r2 cap_r2 131 1 (D.list 1 (D.list 1 D.i64)) l35,bks a_r3 m_r3 cap_r3 43 3 1 D.i64 l36 q_r3]) rfl rfl ?_;refine zq2 ?_;obtain ⟨hg25,hm5⟩:=Aa hm5;refine zq3 ?_;exact ⟨_,((_,_),(),(),_),hm5,⟨rfl,trivial⟩,⟨rfl,rfl,rfl,trivial⟩,[],rfl⟩
      ·refine Au ?_
       exact ⟨_,((_,_),(),(),_),Ac hj4,trivial,⟨rfl,rfl,rfl,trivial⟩,[],rfl⟩
     ·rintro ⟨l25,z31,z32,z33,z34,z35,l26,l27,l28⟩ ⟨⟨a_r4,cap_r4⟩,⟨⟩,⟨⟩,q_r3⟩ hst
      subst hst;refine An (L':=[(2,_),(7,_),(9,_)]) (ms':=[row a_r4 cap_r4 95 2 RSeq.d l25,box b1 133 [.list 4 ANd.d z31,.i64 z32,.i64 z33,.v (.slice a_r4 l25.length cap_r4),.v (.slice a_r3 m_r3 cap_r3),.v (.slice a_r1 m_r1 cap_r1),.v (.slice a_r2 m_r2 cap_r2),.bool z34,.bool z35],arr a_r1 m_r1 cap_r1 131 1 (D.list 1 (D.list 1 D.i64)) l26,arr a_r2 m_r2 cap_r2 131 1 (D.list 1 (D.list 1 D.i64)) l27,bks a_r3 m_r3 cap_r3 43 3 1 D.i64 l28 q_r3]) rfl rfl ?_;exact ⟨_,((_,_),(),(),_),hm4,⟨rfl,trivial⟩,⟨rfl,rfl,trivial⟩,[],rfl⟩
   ·refine Au ?_
    exact ⟨_,((_,_),(),(),_),Ac hj2,trivial,⟨rfl,trivial⟩,[],rfl⟩
  ·rintro ⟨l9,z11,z12,z13,z14,z15,l10,l11,l12⟩ ⟨⟨a_r4,cap_r4⟩,⟨⟩,⟨⟩,q_r3⟩ hst
   subst hst;refine An (L':=[(7,_)]) (ms':=[row a_r4 cap_r4 95 2 RSeq.d l9,box b1 133 [.list 4 ANd.d z11,.i64 z12,.i64 z13,.v (.slice a_r4 l9.length cap_r4),.v (.slice a_r3 m_r3 cap_r3),.v (.slice a_r1 m_r1 cap_r1),.v (.slice a_r2 m_r2 cap_r2),.bool z14,.bool z15],arr a_r1 m_r1 cap_r1 131 1 (D.list 1 (D.list 1 D.i64)) l10,arr a_r2 m_r2 cap_r2 131 1 (D.list 1 (D.list 1 D.i64)) l11,bks a_r3 m_r3 cap_r3 43 3 1 D.i64 l12 q_r3]) rfl rfl ?_;refine zq5 ?_;refine Af ?_;obtain rfl:=Ac hm2;exact retK (AV rfl (A6 rfl) (permA 1 rfl (permA 0 rfl (permA 2 rfl (permA 0 rfl (permA 0 rfl permN)))))) ⟨_,_,_,_,_,_,_,_,_,_,_,_,_,rfl,rfl⟩
def BA (w1:Syntagmaref19World)  : Option Int:=
 bif w1.mixed then
  some 14
 else
  bif w1.fails then
   some 11
  else
   some 0
theorem Gh {w1:Syntagmaref19World}  {r_1:Int} {b_q0:Nat} {a_q0c3:Option Addr} {cap_q0c3:Nat} {a_q0c4:Option Addr} {m_q0c4:Nat} {cap_q0c4:Nat} {q_q0c4:(List ((List Int)×Option Addr×Nat))} {a_q0c5:Option Addr} {m_q0c5:Nat} {cap_q0c5:Nat} {a_q0c6:Option Addr} {m_q0c6:Nat} {cap_q0c6:Nat} (hm:BA w1=some r_1):Go.V.Fn Tryz.prog 51 [.v (.pointer (some ⟨b_q0,0,none⟩))] [box b_q0 133 [.list 4 ANd.d w1.t.l,.i64 w1.t.root,.i64 w1.flex,.v (.slice a_q0c3 w1.all.length cap_q0c3),.v (.slice a_q0c4 m_q0c4 cap_q0c4),.v (.slice a_q0c5 m_q0c5 cap_q0c5),.v (.slice a_q0c6 m_q0c6 cap_q0c6),.bool w1.mixed,.bool w1.fails],row a_q0c3 cap_q0c3 95 2 RSeq.d w1.all,bks a_q0c4 m_q0c4 cap_q0c4 43 3 1 D.i64 w1.buckets q_q0c4,arr a_q0c5 m_q0c5 cap_q0c5 131 1 (D.list 1 (D.list 1 D.i64)) w1.below_,arr a_q0c6 m_q0c6 cap_q0c6 131 1 (D.list 1 (D.list 1 D.i64)) w1.above] (fun d ms'=>d = .i64 r_1/\ms'=[box b_q0 133 [.list 4 ANd.d w1.t.l,.i64 w1.t.root,.i64 w1.flex,.v (.slice a_q0c3 w1.all.length cap_q0c3),.v (.slice a_q0c4 m_q0c4 cap_q0c4),.v (.slice a_q0c5 m_q0c5 cap_q0c5),.v (.slice a_q0c6 m_q0c6 cap_q0c6),.bool w1.mixed,.bool w1.fails],row a_q0c3 cap_q0c3 95 2 RSeq.d w1.all,bks a_q0c4 m_q0c4 cap_q0c4 43 3 1 D.i64 w1.buckets q_q0c4,arr a_q0c5 m_q0c5 cap_q0c5 131 1 (D.list 1 (D.list 1 D.i64)) w1.below_,arr a_q0c6 m_q0c6 cap_q0c6 131 1 (D.list 1 (D.list 1 D.i64)) w1.above]):=by
 unfold BA at hm;refine Ae func51 rfl ntmps51 rfl fun H0 fr w0=>?_;refine zq8 ?_;refine Ak rfl rfl rfl (Ad rfl) ?_;refine zq3 ?_;refine zcn hm (fun hc1 hm=>?_) (fun hc1 hm=>?_)
 ·refine zq4 ?_
  refine Af ?_;obtain rfl:=Ac hm;exact retK (AV rfl (A6 rfl) (permA 0 rfl (permA 0 rfl (permA 0 rfl (permA 0 rfl (permA 0 rfl permN)))))) ⟨rfl,rfl⟩
 ·refine zq5 ?_
  refine Ak rfl rfl rfl (Ad rfl) ?_;refine zq3 ?_;refine zcn hm (fun hc2 hm=>?_) (fun hc2 hm=>?_)
  ·refine zq4 ?_
   refine Af ?_;obtain rfl:=Ac hm;exact retK (AV rfl (A6 rfl) (permA 0 rfl (permA 0 rfl (permA 0 rfl (permA 0 rfl (permA 0 rfl permN)))))) ⟨rfl,rfl⟩
  ·refine zq5 ?_
   refine Af ?_;obtain rfl:=Ac hm;exact retK (AV rfl (A6 rfl) (permA 0 rfl (permA 0 rfl (permA 0 rfl (permA 0 rfl (permA 0 rfl permN)))))) ⟨rfl,rfl⟩
def AN (s1:ATy) (t1:ATy):Option Bool:=
 (Gc s1 t1).bind fun (x1,x2) =>
 grd (InR (x2+t1.root)) <|
 (BT (⟨x1.l,x1.root⟩:ATy) [(⟨[s1.root],[(x2+t1.root)]⟩:RSeq)] 1000).bind fun s2 =>
 (BA (⟨(⟨s2.t.l,s2.t.root⟩:ATy),s2.flex,s2.all,s2.buckets,s2.below_,s2.above,s2.mixed,s2.fails⟩:Syntagmaref19World)).bind fun x3 =>
 some (decide (x3=0))
theorem E5 {s1:ATy} {t1:ATy} {r_1:Bool} (hm:AN s1 t1=some r_1):Fn0 Tryz.prog 24 [ATy.d s1,ATy.d t1] (.bool r_1):=by
 unfold AN at hm;refine Ae func24 rfl ntmps24 rfl fun H0 fr w0=>?_;refine zq10 ?_;obtain ⟨⟨x1,x2⟩,hx1,hm⟩:=bS hm;refine zc0 (Py hx1) ?_;refine zq3 ?_;refine F7 fun b1=>?_;refine zst 0 ?_;refine Aj (ms':=[box b1 31 [_,_]]) rfl ?_;refine zq7 ?_;refine Ak rfl rfl rfl (zs1 D.i64) ?_;refine zq3 ?_;obtain ⟨hg2,hm⟩:=Aa hm;refine zq1 ?_;refine Ak rfl rfl rfl (zs1 D.i64) ?_;refine Ak rfl rfl rfl zb95b ?_;refine Ak rfl rfl rfl (Ai (xs:=[_]) (f:=RSeq.d) (l:=[(⟨[s1.root],[(x2+t1.root)]⟩:RSeq)]) runUnderlying96 sizeOf95 zeroValue95 rfl rfl rfl (fun _=>⟨rfl,rfl,rfl⟩) rfl) ?_;obtain ⟨s2,hx3,hm⟩:=bS hm;refine AJ rfl rfl rfl (D5 (ms₁:=[]) call50 rfl (List.Perm.refl _) (HJ hx3)) ?_;rintro _ _ ⟨_,⟨b2,a_r1,cap_r1,a_r2,m_r2,cap_r2,q_r2,a_r3,m_r3,cap_r3,a_r4,m_r4,cap_r4,rfl,rfl⟩,rfl⟩;refine zq5 ?_;obtain ⟨x3,hx4,hm⟩:=bS hm;refine Ak rfl rfl rfl (BX [0,1,2,3,4] call51 rfl rfl (Ar rfl (Ar rfl (Ar rfl (Ar rfl (Ar rfl CR))))) (Gh hx4)) ?_;refine zq3 ?_
 cases hm;exact Af zr1
end Go.Proofs.YtcoghblhdjmbfaaGreat
namespace Go.Proofs.YtcoghblhdjmbfaaGreat
open Go.V Tryz
theorem Hi:FieldIs Tryz.prog 65 1 2 2 true:=⟨⟨_,_,runUnderlying65,rfl,rfl,sizeOf31,by decide,isAgg31⟩⟩
theorem IZ:FieldIs Tryz.prog 65 2 4 1 false:=⟨⟨_,_,runUnderlying65,rfl,rfl,sizeOf43,by decide,isAgg43⟩⟩
theorem Wo:∀ fs,(∀ w,(underlying 71).run Tryz.prog w = .ok (.struct fs) w)->Cu Tryz.prog fs [(0,1),(1,1)]:=by
 intro fs h w
 have:=(h w).symm.trans (runUnderlying71 w)
 simp only [Result.ok.injEq,TypeDesc.struct.injEq,and_true] at this;subst this
 simp [sizeOf9,sizeOf3,Sem.run]
theorem E8:∀ fs,(∀ w,(underlying 49).run Tryz.prog w = .ok (.struct fs) w)->Cu Tryz.prog fs [(0,1),(1,1),(2,1),(3,1)]:=by
 intro fs h w
 have:=(h w).symm.trans (runUnderlying49 w)
 simp only [Result.ok.injEq,TypeDesc.struct.injEq,and_true] at this;subst this
 simp [sizeOf3,sizeOf47,Sem.run]
theorem Cx:∀ fs,(∀ w,(underlying 143).run Tryz.prog w = .ok (.struct fs) w)->Cu Tryz.prog fs [(0,1),(1,4)]:=by
 intro fs h w
 have:=(h w).symm.trans (runUnderlying143 w)
 simp only [Result.ok.injEq,TypeDesc.struct.injEq,and_true] at this;subst this
 simp [sizeOf4,sizeOf49,Sem.run]
def edgeF (e:AutoEdge):AFd:=⟨e.name,e.to_⟩
theorem Ic {α:Type} {l:List α} {i:Nat} {x:α} (h:l[i]? = some x):l.take (i+1)=l.take i++[x]:=by
 have hi:=(List.getElem?_eq_some_iff.1 h).1
 rw [List.take_succ_eq_append_getElem hi];rw [List.getElem?_eq_getElem hi] at h;rw [Option.some.inj h]
theorem Ij {p:D} {l:List AutoEdge} (hl:l.length<=1000):Go.V.Fn Tryz.prog 99 [p,.list 2 AutoEdge.d l] [] (fun d ms'=>∃ a m c,d = .v (.slice a m c)/\ms'=[arr a m c 71 2 AFd.d (l.map edgeF)]):=by
 refine Ae func99 rfl ntmps99 rfl fun H0 fr w0=>?_;refine zq7 ?_;refine Ap (BF (T:=71) (sz:=2) (f:=AFd.d)) ?_;refine zq9 ?_;refine EZ [(8,.list 2 AutoEdge.d l),(9,.i64 (l.length:Int))] (fun (s:Nat×Option Addr×Nat×Nat)=>s.1<=l.length) (fun s=>[(5,.v (.slice s.2.1 s.2.2.1 s.2.2.2)),(10,.i64 (s.1:Int))]) (fun s=>[arr s.2.1 s.2.2.1 s.2.2.2 71 2 AFd.d ((l.take s.1).map edgeF)]) (fun s=>l.length - s.1) (0,none,0,0) (Nat.zero_le _) ⟨rfl,rfl,trivial⟩ ⟨rfl,rfl,trivial⟩ rfl ?_;rintro ⟨i,a,m,c⟩ hi
 have hi:i<=l.length:=hi
 refine At (L':=[(5,.v (.slice a m c)),(10,.i64 (i:Int)),(8,.list 2 AutoEdge.d l),(9,.i64 (l.length:Int))]) (ms':=[arr a m c 71 2 AFd.d ((l.take i).map edgeF)]) rfl rfl ?_;refine zq5 ?_;refine gCd rfl (fun hc=>?_) (fun hc=>?_)
 ·have hlt:i<l.length:=by have:=of_decide_eq_true hc;omega
  have hx:idx l (i:Int)=some l[i]:=getI (List.getElem?_eq_getElem hlt)
  generalize l[i]=x at hx
  have hx0:l[i]? = some x:=by have:=(Ay hx).2;simpa using this
  refine zq5 ?_;refine Ak rfl rfl rfl (oIm runUnderlying57 sizeOf62 rfl rfl hx) ?_;refine zq1 ?_;refine PD fun b1=>?_;refine zst 0 ?_;refine Aj (ms':=[box b1 62 [_,_],_]) rfl ?_;refine zq7 ?_;refine Ak rfl rfl rfl (Aw (zs:=[.str [],.v (.int .i64 0)]) runUnderlying71 zeroValue71 (Wo _ runUnderlying71) rfl rfl rfl rfl) ?_;refine Ak rfl rfl rfl (Ai (xs:=[_]) (f:=AFd.d) (l:=[edgeF x]) runUnderlying47 sizeOf71 zeroValue71 rfl rfl rfl (fun _=>⟨rfl,rfl,rfl⟩) rfl) ?_
  have hg:(((l.take i).map edgeF).length+[edgeF x].length)*24<=140737488355328:=by rw [List.length_map,List.length_take];simp only [List.length_cons,List.length_nil];omega
  refine AJ rfl rfl rfl (Dx (a:=_) 1 underlying47 type71 rfl rfl rfl rfl rfl rfl (fun _=>rfl) (fun _=>rfl) hg (BJ hg rfl)) ?_;rintro _ _ ⟨a',m',c',rfl,rfl⟩;refine Aj (ms':=[box b1 62 [_,_],_]) rfl ?_;refine zq3 ?_;refine Ak rfl rfl rfl (Gn rfl rfl (CS (by constructor <;> omega))) ?_;refine zq2 ?_
  have e:(l.take (i+1)).map edgeF=(l.take i).map edgeF++[edgeF x]:=by rw [Ic hx0,List.map_append];rfl
  rw [<- e];exact ⟨(i+1,a',m',c'),by show i+1<=l.length;omega,by show l.length - (i+1)<l.length - i;omega,⟨rfl,rfl,trivial⟩,⟨rfl,rfl,trivial⟩,[_],rfl⟩
 ·have hge:i=l.length:=by have:=of_decide_eq_false hc;omega
  subst hge;rw [List.take_length];refine Au ?_;refine zq5 ?_;refine Af ?_;exact retK (AV rfl (A6 rfl) (permA 0 rfl permN)) ⟨_,_,_,rfl,rfl⟩
theorem PV {b:Nat} {al:List AutoState} {st rt:Int} {a5:Option Addr} {m5 cap5:Nat} {a:Option Addr} {m cap:Nat} {q:List (NodeB AFd)} {x:NodeB AFd} (hq:q.length<=100000) :
  Go.V.Fn Tryz.prog 69 [.v (.pointer (some ⟨b,0,none⟩)),x.d] [box b 65 [.list 13 AutoState.d al,.i64 st,.v (.slice a m cap),.i64 rt,.v (.slice a5 m5 cap5)],arr a m cap 49 4 NodeB.d q]
   (fun d ms'=>d = .i64 (q.length:Int)/\∃ a' m' cap',ms'=[box b 65 [.list 13 AutoState.d al,.i64 st,.v (.slice a' m' cap'),.i64 rt,.v (.slice a5 m5 cap5)],arr a' m' cap' 49 4 NodeB.d (q++[x])]):=by
 refine Ae func69 rfl ntmps69 rfl fun H0 fr w0=>?_;refine zq6 ?_
 have hg1:(q.length+[x].length)*48<=140737488355328:=by simp only [List.length_cons,List.length_nil];omega
 refine Fw [8,12] [0,9,10,11] [] AY (by decide +kernel) (by decide +kernel) rfl ?_;refine AE rfl rfl rfl rfl rfl rfl (oMv rfl) ?_;refine AE rfl rfl rfl rfl rfl rfl (oMv rfl) ?_;refine AE rfl rfl rfl rfl rfl rfl (Ad rfl) ?_;refine AE rfl rfl rfl rfl rfl rfl (oFb Hi rfl) ?_;refine AE rfl rfl rfl rfl rfl rfl (oFb Fi rfl) ?_;refine AE rfl rfl rfl rfl rfl rfl (oLb 0 isAgg29 rfl rfl rfl rfl) ?_;refine AE rfl rfl rfl rfl rfl rfl (C7 isAgg49 sizeOf49 rfl rfl) ?_;refine AE rfl rfl rfl rfl rfl rfl (Ai (xs:=[_]) (f:=NodeB.d) (l:=[x]) runUnderlying29 sizeOf49 zeroValue49 rfl rfl rfl (fun _=>⟨rfl,rfl,rfl⟩) rfl) ?_;refine Es rfl ?_;refine AE rfl rfl rfl rfl rfl rfl (Ad rfl) ?_;refine AE rfl rfl rfl rfl rfl rfl (oFb Hi rfl) ?_;refine AE rfl rfl rfl rfl rfl rfl (oFb Fi rfl) ?_;refine Es rfl ?_;refine Gk ?_;refine FZ rfl rfl rfl rfl (Dx (a:=_) 1 underlying29 type49 rfl rfl rfl rfl rfl rfl (fun _=>rfl) (fun _=>rfl) hg1 (BJ hg1 rfl)) ?_;rintro _ _ ⟨a',m',cap',rfl,rfl⟩;refine ⟨(trivial:True),?_⟩;refine Fa rfl rfl rfl (oSb 0 sizeOf29 rfl rfl rfl rfl rfl rfl rfl rfl (nB rfl)) ?_;rintro _ _ rfl;refine ⟨(trivial:True),?_⟩;refine Ek ?_;refine zq3 ?_;refine Ak rfl rfl rfl (Ad rfl) ?_;refine Ak rfl rfl rfl (oFb Hi rfl) ?_;refine zq2 ?_;refine Ak rfl rfl rfl (CZ 1 runUnderlying29 rfl rfl) ?_;refine Ak rfl rfl rfl (QS rfl rfl (CS (by rw [List.length_append];constructor <;> simp only [List.length_cons,List.length_nil] <;> omega))) ?_;refine zq2 ?_;refine Af ?_;refine retK (AV rfl (A6 rfl) (permA 0 rfl (permA 0 rfl permN))) ⟨?_,_,_,_,rfl⟩
 show D.i64 _=D.i64 _
 rw [List.length_append];congr 1;simp
end Go.Proofs.YtcoghblhdjmbfaaGreat
