/- Part 7 of the proof: a program logic, what the functions compute, and what these answer; no condition. -/
import Derived.Test.YtcoghblhdjmbfaaGreatb6
import Derived.Shelf.Sort.Plain
import Derived.Ground.Names2Prog
import Derived.Shelf.Slices.CompactI
import Derived.Shelf.Slices.In.SortNone
import Derived.Test.YtcoghblhdjmbfaaGreatProg
set_option linter.unusedVariables false
set_option linter.unusedSimpArgs false
set_option maxRecDepth 100000
set_option maxHeartbeats 2000000
namespace Go.Proofs.YtcoghblhdjmbfaaGreat
open Go.V Tryz
theorem HZ {a1:AutoAuto} {r_1:AutoAuto} (hm:Co a1=some r_1):Fn0 Tryz.prog 15 [AutoAuto.d a1] (AutoAuto.d r_1):=by
 unfold Co at hm;refine Ad func15 rfl ntmps15 rfl fun H0 fr w0=>?_;refine zq3 ?_;refine JX fun b1=>?_;refine zq5 ?_;refine AG rfl rfl rfl (Au (xs:=[_]) (f:=D.i64) (l:=[_]) runUnderlying43 sizeOf3 zeroValue3 rfl rfl rfl (fun _=>⟨rfl,rfl,rfl⟩) rfl (by simp [maxLen])) ?_;rintro _ _ ⟨a_r1,rfl,rfl⟩;refine zq7 ?_;obtain ⟨o_1,hj1,hm1⟩:=bS hm;refine Ag [(1,_),(2,_)] [(1,_)] (fun (st:(List Int)) (hid:(Option Addr×Nat))=>match st,hid with | l1,(a_r1,cap_r1)=>[(3,.v (.slice a_r1 l1.length cap_r1))]) (fun F (st:(List Int)) (hid:(Option Addr×Nat))=>match st,hid with | l1,(a_r1,cap_r1)=>[row a_r1 cap_r1 3 1 D.i64 l1,(nthF F 0)]) (fun st=>st=o_1) ⟨rfl,rfl,trivial⟩ ⟨rfl,trivial⟩ ?_ ?_
 ·refine Am ?_
  refine Ah [(1,_),(2,_)] [(1,_)] (fun (st:(Int×(List Int))) (hid:(Option Addr×Nat))=>match st,hid with | (i1,l2),(a_r1,cap_r1)=>[(3,.v (.slice a_r1 l2.length cap_r1)),(4,.i64 i1)]) (fun F (st:(Int×(List Int))) (hid:(Option Addr×Nat))=>match st,hid with | (i1,l2),(a_r1,cap_r1)=>[row a_r1 cap_r1 3 1 D.i64 l2,(nthF F 0)]) (_,_) hj1 (fun _=>rfl) ⟨rfl,rfl,trivial⟩ ⟨rfl,trivial⟩ ⟨rfl,rfl,trivial⟩ rfl ?_;rintro n ⟨i1,l2⟩ ⟨a_r1,cap_r1⟩ hj1;rw [Bb] at hj1;refine Ao (L':=[(3,.v (.slice a_r1 l2.length cap_r1)),(4,.i64 i1),(1,_),(2,_)]) (ms':=[row a_r1 cap_r1 3 1 D.i64 l2,_]) rfl rfl ?_;refine zq5 ?_;refine Ai rfl rfl rfl (.view (peekE (i:=15) 0 rfl rfl rfl) (Fb runUnderlying43 rfl)) ?_;refine zq2 ?_;refine zcn hj1 (fun hc1 hj1=>?_) (fun hc1 hj1=>?_)
  ·refine zq4 ?_
   obtain ⟨x1,hx1,hj1⟩:=bS hj1;obtain ⟨x2,hx2,hj1⟩:=bS hj1;obtain ⟨x3,hx3,hj1⟩:=bS hj1;refine zdr 10 ?_;refine zq4 ?_;refine AC rfl rfl rfl (.view (peekE (i:=22) 0 rfl rfl rfl) (oIm runUnderlying43 sizeOf3 rfl rfl hx1)) ?_;refine zq1 ?_;refine AC rfl rfl rfl (oIm runUnderlying22 sizeOf46 rfl rfl hx2) ?_;refine zq1 ?_;refine zcd (FQ hx3) ?_;refine zq7 ?_;obtain ⟨o_2,hj2,hm2⟩:=bS hj1;refine Ag [(1,_),(2,_),(4,_)] [(1,_)] (fun (st:(List Int)) (hid:(Option Addr×Nat))=>match st,hid with | l3,(a_r1,cap_r1)=>[(3,.v (.slice a_r1 l3.length cap_r1))]) (fun F (st:(List Int)) (hid:(Option Addr×Nat))=>match st,hid with | l3,(a_r1,cap_r1)=>[row a_r1 cap_r1 3 1 D.i64 l3,(nthF F 0)]) (fun st=>st=o_2) ⟨rfl,rfl,rfl,trivial⟩ ⟨rfl,trivial⟩ ?_ ?_
   ·refine Am ?_
    refine Ah [(1,_),(2,_),(4,_),(5,_)] [(1,_)] (fun (st:(Int×(List Int))) (hid:(Option Addr×Nat))=>match st,hid with | (k1,l4),(a_r1,cap_r1)=>[(3,.v (.slice a_r1 l4.length cap_r1)),(6,.i64 k1)]) (fun F (st:(Int×(List Int))) (hid:(Option Addr×Nat))=>match st,hid with | (k1,l4),(a_r1,cap_r1)=>[row a_r1 cap_r1 3 1 D.i64 l4,(nthF F 0)]) (_,_) hj2 (fun _=>rfl) ⟨rfl,rfl,rfl,rfl,trivial⟩ ⟨rfl,trivial⟩ ⟨rfl,rfl,trivial⟩ rfl ?_;rintro n ⟨k1,l4⟩ ⟨a_r1,cap_r1⟩ hj2;rw [AW] at hj2;refine Ao (L':=[(3,.v (.slice a_r1 l4.length cap_r1)),(6,.i64 k1),(1,_),(2,_),(4,_),(5,_)]) (ms':=[row a_r1 cap_r1 3 1 D.i64 l4,_]) rfl rfl ?_;refine zq8 ?_;refine zcn hj2 (fun hc2 hj2=>?_) (fun hc2 hj2=>?_)
    ·refine zq8 ?_
     obtain ⟨x4,hx4,hj2⟩:=bS hj2;refine Ai rfl rfl rfl (oIm runUnderlying43 sizeOf3 rfl rfl hx4) ?_;refine zq1 ?_;obtain ⟨x5,hx5,hj2⟩:=bS hj2;refine Ai rfl rfl rfl (.view (peekE (i:=35) 0 rfl rfl rfl) (Bv call40 rfl (KA hx5))) ?_;refine zq2 ?_;refine zcn hj2 (fun hc3 hj2=>?_) (fun hc3 hj2=>?_)
     ·refine zq4 ?_
      obtain ⟨x6,hx6,hj2⟩:=bS hj2;refine Ai rfl rfl rfl (oIm runUnderlying43 sizeOf3 rfl rfl hx6) ?_;refine zq1 ?_;refine Ai rfl rfl rfl (zs1 D.i64) ?_;obtain ⟨hg7,hj2⟩:=Aa hj2;refine zap 0 hg7 fun a_r1 cap_r1=>?_;refine Ak (ms':=[_,box b1 24 [_,_]]) rfl ?_;refine zq4 ?_;obtain ⟨hg8,hj2⟩:=Aa hj2;refine zq3 ?_;exact ⟨_,(_,_),hj2,⟨rfl,rfl,trivial⟩,⟨rfl,rfl,rfl,rfl,trivial⟩,[],rfl⟩
     ·refine zq3 ?_
      obtain ⟨hg9,hj2⟩:=Aa hj2;refine zq3 ?_;exact ⟨_,(_,_),hj2,⟨rfl,rfl,trivial⟩,⟨rfl,rfl,rfl,rfl,trivial⟩,[],rfl⟩
    ·refine Ar ?_
     exact ⟨_,(_,_),Ac hj2,⟨rfl,trivial⟩,⟨rfl,rfl,rfl,trivial⟩,[],rfl⟩
   ·rintro l3 ⟨a_r1,cap_r1⟩ hst
    subst hst;refine Al (L':=[(3,.v (.slice a_r1 l3.length cap_r1)),(1,_),(2,_),(4,_)]) (ms':=[row a_r1 cap_r1 3 1 D.i64 l3,_]) rfl rfl ?_;refine zq2 ?_;obtain ⟨hg10,hm2⟩:=Aa hm2;refine zq3 ?_;exact ⟨_,(_,_),hm2,⟨rfl,rfl,trivial⟩,⟨rfl,rfl,trivial⟩,[],rfl⟩
  ·refine Ar ?_
   exact ⟨_,(_,_),Ac hj1,⟨rfl,trivial⟩,⟨rfl,rfl,trivial⟩,[],rfl⟩
 ·rintro l1 ⟨a_r1,cap_r1⟩ hst
  subst hst;refine Al (L':=[(3,.v (.slice a_r1 l1.length cap_r1)),(1,_),(2,_)]) (ms':=[row a_r1 cap_r1 3 1 D.i64 l1,_]) rfl rfl ?_;refine zq5 ?_;obtain ⟨hg11,hm1⟩:=Aa hm1;obtain ⟨hg12,hm1⟩:=Aa hm1;refine AG rfl rfl rfl (C3 (f:=D.i64) (z0:=0) underlying43 type3 rfl rfl rfl (nB rfl) rfl rfl hg11 hg12 (nB rfl)) ?_;rintro _ _ ⟨a_r2,m_r2,cap_r2,rfl,rfl⟩;refine zq7 ?_;obtain ⟨o_3,hj3,hm3⟩:=bS hm1;refine Ag [(1,_),(2,_),(3,_),(7,_)] [(1,_),(2,_)] (fun (st:(List Int)) (hid:Unit)=>match st,hid with | l5,_=>[]) (fun F (st:(List Int)) (hid:Unit)=>match st,hid with | l5,_=>[arr a_r2 m_r2 cap_r2 3 1 D.i64 l5,(nthF F 0),(nthF F 1)]) (fun st=>st=o_3) ⟨rfl,rfl,rfl,rfl,trivial⟩ ⟨rfl,rfl,trivial⟩ ?_ ?_
  ·refine Am ?_
   refine Ah [(1,_),(2,_),(3,_),(7,_)] [(1,_),(2,_)] (fun (st:(Int×(List Int))) (hid:Unit)=>match st,hid with | (i2,l6),_=>[(8,.i64 i2)]) (fun F (st:(Int×(List Int))) (hid:Unit)=>match st,hid with | (i2,l6),_=>[arr a_r2 m_r2 cap_r2 3 1 D.i64 l6,(nthF F 0),(nthF F 1)]) () hj3 (fun _=>rfl) ⟨rfl,rfl,rfl,rfl,trivial⟩ ⟨rfl,rfl,trivial⟩ ⟨rfl,trivial⟩ rfl ?_;rintro n ⟨i2,l6⟩ ⟨⟩ hj3;rw [Bd] at hj3;refine Ao (L':=[(8,.i64 i2),(1,_),(2,_),(3,_),(7,_)]) (ms':=[arr a_r2 m_r2 cap_r2 3 1 D.i64 l6,_,_]) rfl rfl ?_;refine zq5 ?_;refine Ai rfl rfl rfl (.view (peekE (i:=54) 1 rfl rfl rfl) (Fb runUnderlying43 rfl)) ?_;refine zq2 ?_;refine zcn hj3 (fun hc4 hj3=>?_) (fun hc4 hj3=>?_)
   ·refine zq7 ?_
    obtain ⟨x7,hx13,hj3⟩:=bS hj3;refine Ai rfl rfl rfl (.view (peekE (i:=60) 1 rfl rfl rfl) (oIm runUnderlying43 sizeOf3 rfl rfl hx13)) ?_;refine zq2 ?_;obtain ⟨x8,hx14,hj3⟩:=bS hj3;refine Ai rfl rfl rfl (Af 0 runUnderlying43 sizeOf3 rfl rfl rfl hx14) ?_;refine H6 rfl rfl (AV (off:=0) (z':=i2) 0 sizeOf3 rfl rfl (Av hx14).2 rfl rfl rfl rfl rfl rfl (nB rfl) rfl rfl) ?_;rintro _ _ rfl;refine Ak (ms':=[_,_,box b1 24 [_,_]]) rfl ?_;refine zq3 ?_;obtain ⟨hg15,hj3⟩:=Aa hj3;refine zq3 ?_;exact ⟨_,(),hj3,⟨rfl,trivial⟩,⟨rfl,rfl,rfl,rfl,trivial⟩,[],rfl⟩
   ·refine Ar ?_
    exact ⟨_,(),Ac hj3,trivial,⟨rfl,rfl,rfl,rfl,trivial⟩,[],rfl⟩
  ·rintro l5 ⟨⟩ hst
   subst hst;refine Al (L':=[(1,_),(2,_),(3,_),(7,_)]) (ms':=[arr a_r2 m_r2 cap_r2 3 1 D.i64 l5,_,_]) rfl rfl ?_;refine zq2 ?_;refine Ai rfl rfl rfl zb24a ?_;refine JX fun b3=>?_;refine zst 0 ?_;refine Ap (Az (T:=46) (sz:=13) (f:=AutoState.d)) ?_;refine Ak (ms':=[_,box b3 24 [_,_],_,_,box b1 24 [_,_]]) rfl ?_;refine zq6 ?_;refine Nc 2 rfl rfl ?_;rintro rfl;obtain ⟨o_4,hj4,hm4⟩:=bS hm3;refine Ag [(2,_),(9,_)] [(2,_),(3,_),(4,_)] (fun (st:((List AutoState)×Int)) (hid:(Option Addr×Nat))=>match st,hid with | (l7,z1),(a_r3,cap_r3)=>[]) (fun F (st:((List AutoState)×Int)) (hid:(Option Addr×Nat))=>match st,hid with | (l7,z1),(a_r3,cap_r3)=>[row a_r3 cap_r3 46 13 AutoState.d l7,box b3 24 [.v (.slice a_r3 l7.length cap_r3),.i64 z1],(nthF F 0),(nthF F 1),(nthF F 2)]) (fun st=>st=o_4) ⟨rfl,rfl,trivial⟩ ⟨rfl,rfl,rfl,trivial⟩ ?_ ?_
   ·refine Am ?_
    refine Ah [(1,_),(2,_),(3,_),(7,_),(9,_)] [(2,_),(3,_),(4,_)] (fun (st:(Int×(List AutoState)×Int)) (hid:(Option Addr×Nat))=>match st,hid with | (i3,l8,z2),(a_r3,cap_r3)=>[(10,.i64 i3)]) (fun F (st:(Int×(List AutoState)×Int)) (hid:(Option Addr×Nat))=>match st,hid with | (i3,l8,z2),(a_r3,cap_r3)=>[row a_r3 cap_r3 46 13 AutoState.d l8,box b3 24 [.v (.slice a_r3 l8.length cap_r3),.i64 z2],(nthF F 0),(nthF F 1),(nthF F 2)]) (_,_) hj4 (fun _=>rfl) ⟨rfl,rfl,rfl,rfl,rfl,trivial⟩ ⟨rfl,rfl,rfl,trivial⟩ ⟨rfl,trivial⟩ rfl ?_;rintro n ⟨i3,l8,z2⟩ ⟨a_r3,cap_r3⟩ hj4;rw [By] at hj4;refine Ao (L':=[(10,.i64 i3),(1,_),(2,_),(3,_),(7,_),(9,_)]) (ms':=[row a_r3 cap_r3 46 13 AutoState.d l8,box b3 24 [.v (.slice a_r3 l8.length cap_r3),.i64 z2],_,_,_]) rfl rfl ?_;refine zq5 ?_;refine Ai rfl rfl rfl (.view (peekE (i:=68) 3 rfl rfl rfl) (Fb runUnderlying43 rfl)) ?_;refine zq2 ?_;refine zcn hj4 (fun hc5 hj4=>?_) (fun hc5 hj4=>?_)
    ·refine zq3 ?_
     obtain ⟨x9,hx16,hj4⟩:=bS hj4;obtain ⟨x10,hx17,hj4⟩:=bS hj4;obtain ⟨x11,hx18,hj4⟩:=bS hj4;refine zdr 13 ?_;refine zq6 ?_;refine AC rfl rfl rfl (.view (peekE (i:=77) 3 rfl rfl rfl) (oIm runUnderlying43 sizeOf3 rfl rfl hx16)) ?_;refine zq1 ?_;refine AC rfl rfl rfl (oIm runUnderlying22 sizeOf46 rfl rfl hx17) ?_;refine zq2 ?_;refine AC rfl rfl rfl (.view (peekE (i:=83) 2 rfl rfl rfl) (Bv call41 rfl (HH hx18))) ?_;refine AC rfl rfl rfl (zs1 AutoState.d) ?_;refine Ex ?_;obtain ⟨hg19,hj4⟩:=Aa hj4;refine zap 0 hg19 fun a_r3 cap_r3=>?_;refine Ak (ms':=[_,box b3 24 [_,_],_,_,box b1 24 [_,_]]) rfl ?_;refine zq1 ?_;refine zst 1 ?_;refine Ak (ms':=[_,box b3 24 [_,_],_,_,box b1 24 [_,_]]) rfl ?_;refine zq3 ?_;obtain ⟨hg20,hj4⟩:=Aa hj4;refine zq3 ?_;exact ⟨_,(_,_),hj4,⟨rfl,trivial⟩,⟨rfl,rfl,rfl,rfl,rfl,trivial⟩,[],rfl⟩
    ·refine Ar ?_
     exact ⟨_,(_,_),Ac hj4,trivial,⟨rfl,rfl,trivial⟩,[],rfl⟩
   ·rintro ⟨l7,z1⟩ ⟨a_r3,cap_r3⟩ hst
    subst hst;refine Al (L':=[(2,_),(9,_)]) (ms':=[row a_r3 cap_r3 46 13 AutoState.d l7,box b3 24 [.v (.slice a_r3 l7.length cap_r3),.i64 z1],_,_,_]) rfl rfl ?_;refine zq3 ?_;refine Ap (Ch (i:=88) (q:=0) 0 rfl rfl rfl rfl rfl).refines ?_;refine zst 4 ?_;refine Ak (ms':=[_,box b3 24 [_,_],_,_,box b1 24 [_,_]]) rfl ?_;refine gNl ?_
    cases hm4;exact Ae zr1
def AZ (s1:AutoState):Nat->(Int×Int)->Option Int
 | 0,_=>none
 | n+1,(n2,i1) =>
  bif (decide (i1<(([s1.all,s1.int,s1.bool,s1.str,s1.arrow,s1.rec_,s1.tag]:List _).length:Int))) then
   (idx [s1.all,s1.int,s1.bool,s1.str,s1.arrow,s1.rec_,s1.tag] i1).bind fun x1 =>
   bif x1 then
    grd (InR (n2+1)) <|
    grd (InR (i1+1)) <|
    AZ s1 n ((n2+1),(i1+1))
   else
    grd (InR (i1+1)) <|
    AZ s1 n (n2,(i1+1))
  else
   some n2
def B8 (s1:AutoState):Option Int:=
 (AZ s1 FU ((s1.vars.length:Int),0):Option Int).bind fun n1 =>
 some n1
theorem Hw {s1:AutoState} {r_1:Int} (hm:B8 s1=some r_1):Fn0 Tryz.prog 16 [AutoState.d s1] (.i64 r_1):=by
 unfold B8 at hm;refine Ad func16 rfl ntmps16 rfl fun H0 fr w0=>?_;refine zq28 ?_;refine Ai rfl rfl rfl (Aj (xs:=[_,_,_,_,_,_,_]) (f:=D.bool) (l:=[_,_,_,_,_,_,_]) runUnderlying78 sizeOf4 zeroValue4 rfl rfl rfl (fun _=>⟨rfl,rfl,rfl⟩) rfl) ?_;refine zq7 ?_;obtain ⟨o_1,hj1,hm1⟩:=bS hm;refine Ag [] [] (fun (st:Int) (hid:Unit)=>match st,hid with | n1,_=>[(3,.i64 n1)]) (fun F (st:Int) (hid:Unit)=>match st,hid with | n1,_=>[]) (fun st=>st=o_1) trivial trivial ?_ ?_
 ·refine Am ?_
  refine Ah [(4,_)] [] (fun (st:(Int×Int)) (hid:Unit)=>match st,hid with | (n2,i1),_=>[(3,.i64 n2),(5,.i64 i1)]) (fun F (st:(Int×Int)) (hid:Unit)=>match st,hid with | (n2,i1),_=>[]) () hj1 (fun _=>rfl) ⟨rfl,trivial⟩ trivial ⟨rfl,rfl,trivial⟩ rfl ?_;rintro n ⟨n2,i1⟩ _ hj1;rw [AZ] at hj1;refine Ao (L':=[(3,.i64 n2),(5,.i64 i1),(4,_)]) (ms':=[]) rfl rfl ?_;refine zq8 ?_;refine zcn hj1 (fun hc1 hj1=>?_) (fun hc1 hj1=>?_)
  ·refine zq7 ?_
   obtain ⟨x1,hx1,hj1⟩:=bS hj1;refine zq3 ?_;refine zcn hj1 (fun hc2 hj1=>?_) (fun hc2 hj1=>?_)
   ·refine zq2 ?_
    obtain ⟨hg2,hj1⟩:=Aa hj1;refine zq5 ?_;obtain ⟨hg3,hj1⟩:=Aa hj1;refine zq3 ?_;exact ⟨_,(),hj1,⟨rfl,rfl,trivial⟩,⟨rfl,trivial⟩,[],rfl⟩
   ·refine zq3 ?_
    obtain ⟨hg4,hj1⟩:=Aa hj1;refine zq3 ?_;exact ⟨_,(),hj1,⟨rfl,rfl,trivial⟩,⟨rfl,trivial⟩,[],rfl⟩
  ·refine Ar ?_
   exact ⟨_,(),Ac hj1,⟨rfl,trivial⟩,trivial,[],rfl⟩
 ·rintro n1 _ hst
  subst hst;refine Al (L':=[(3,.i64 n1)]) (ms':=[]) rfl rfl ?_;refine zq5 ?_
  cases hm1;exact Ae zr1
def Da (x4:(List RSeq)) (k1:Int) (l4:(List RSeq)):Nat->(Bool×Int)->Option Bool
 | 0,_=>none
 | n+1,(is2,j1) =>
  bif ((decide (j1<(l4.length:Int)))&&(!is2)) then
   (idx l4 j1).bind fun x6 =>
   (idx x4 k1).bind fun x7 =>
   (GZ x6 x7).bind fun x8 =>
   grd (InR (j1+1)) <|
   Da x4 k1 l4 n (x8,(j1+1))
  else
   some is2
def CI (x4:(List RSeq)):Nat->(Int×(List RSeq))->Option (List RSeq)
 | 0,_=>none
 | n+1,(k1,l4) =>
  bif (decide (k1<(x4.length:Int))) then
   (Da x4 k1 l4 FU (false,0):Option Bool).bind fun is1 =>
   bif (!is1) then
    (idx x4 k1).bind fun x9 =>
    grd ((l4.length+([x9]:List _).length)*48<=140737488355328) <|
    grd (InR (k1+1)) <|
    CI x4 n ((k1+1),(l4++[x9]))
   else
    grd (InR (k1+1)) <|
    CI x4 n ((k1+1),l4)
  else
   some l4
def DY (t1:ATy):Nat->(Int×(List RSeq))->Option (Out Bool (List RSeq))
 | 0,_=>none
 | n+1,(i1,l2) =>
  bif (decide (i1<(l2.length:Int))) then
   (idx l2 i1).bind fun x3 =>
   (FB t1 x3).bind fun (x4,x5) =>
   bif (!x5) then
    some (Out.ret false)
   else
    (CI x4 FU (0,l2):Option (List RSeq)).bind fun l3 =>
    grd (InR (i1+1)) <|
    DY t1 n ((i1+1),l3)
  else
   some (Out.go (l2))
def Gi (t1:ATy) (left1:(List Int)) (right1:(List Int)):Option Bool:=
 (DN left1).bind fun x1 =>
 (DN right1).bind fun x2 =>
 ((DY t1 FU (0,[(⟨x1,x2⟩:RSeq)]):Option (Out Bool (List RSeq)))).bind (fun oo=>oo.on (fun r1=>some r1) (fun l1 =>
 some true))
theorem PD {t1:ATy} {left1:(List Int)} {right1:(List Int)} {r_1:Bool} (hm:Gi t1 left1 right1=some r_1):Fn0 Tryz.prog 44 [ATy.d t1,.list 1 D.i64 left1,.list 1 D.i64 right1] (.bool r_1):=by
 unfold Gi at hm;refine Ad func44 rfl ntmps44 rfl fun H0 fr w0=>?_;refine zq8 ?_;obtain ⟨x1,hx1,hm⟩:=bS hm;refine zc0 (FX hx1) ?_;refine zq1 ?_;obtain ⟨x2,hx2,hm⟩:=bS hm;refine zc0 (FX hx2) ?_;refine Ai rfl rfl rfl zb95b ?_;refine AG rfl rfl rfl (Au (xs:=[_]) (f:=RSeq.d) (l:=[(⟨x1,x2⟩:RSeq)]) runUnderlying96 sizeOf95 zeroValue95 rfl rfl rfl (fun _=>⟨rfl,rfl,rfl⟩) rfl (by simp [maxLen])) ?_;rintro _ _ ⟨a_r1,rfl,rfl⟩;refine zq7 ?_;obtain ⟨o_1,hj1,hm1⟩:=bS hm;refine Ag [] [] (fun (st:(List RSeq)) (hid:(Option Addr×Nat))=>match st,hid with | l1,(a_r1,cap_r1)=>[]) (fun F (st:(List RSeq)) (hid:(Option Addr×Nat))=>match st,hid with | l1,(a_r1,cap_r1)=>[row a_r1 cap_r1 95 2 RSeq.d l1]) (fun st=>Out.go (st)=o_1) trivial trivial ?_ ?_
 ·refine Am ?_
  refine Ah [(3,_)] [] (fun (st:(Int×(List RSeq))) (hid:(Option Addr×Nat))=>match st,hid with | (i1,l2),(a_r1,cap_r1)=>[(7,.v (.slice a_r1 l2.length cap_r1)),(8,.i64 i1)]) (fun F (st:(Int×(List RSeq))) (hid:(Option Addr×Nat))=>match st,hid with | (i1,l2),(a_r1,cap_r1)=>[row a_r1 cap_r1 95 2 RSeq.d l2]) (_,_) hj1 (fun _=>rfl) ⟨rfl,trivial⟩ trivial ⟨rfl,rfl,trivial⟩ rfl ?_;rintro n ⟨i1,l2⟩ ⟨a_r1,cap_r1⟩ hj1;rw [DY] at hj1;refine Ao (L':=[(7,.v (.slice a_r1 l2.length cap_r1)),(8,.i64 i1),(3,_)]) (ms':=[row a_r1 cap_r1 95 2 RSeq.d l2]) rfl rfl ?_;refine zq5 ?_;refine Ai rfl rfl rfl (.view (peekE (i:=21) 0 rfl rfl rfl) (Fb runUnderlying96 rfl)) ?_;refine zq2 ?_;refine zcn hj1 (fun hc1 hj1=>?_) (fun hc1 hj1=>?_)
  ·refine zq4 ?_
   obtain ⟨x3,hx3,hj1⟩:=bS hj1;obtain ⟨⟨x4,x5⟩,hx4,hj1⟩:=bS hj1;refine zdr 11 ?_;refine zq3 ?_;refine AC rfl rfl rfl (.view (peekE (i:=28) 0 rfl rfl rfl) (oIm runUnderlying96 sizeOf95 rfl rfl hx3)) ?_;refine zq1 ?_;refine zcd (P3 hx4) ?_;refine zq13 ?_;refine zcn hj1 (fun hc2 hj1=>?_) (fun hc2 hj1=>?_)
   ·refine zq4 ?_
    refine Ae ?_;obtain rfl:=Ac hj1
    replace hm1:=Bu hm1
    cases hm1;exact zr1
   ·refine zq5 ?_
    obtain ⟨o_2,hj2,hm2⟩:=bS hj1;refine Ag [(3,_),(8,_)] [] (fun (st:(List RSeq)) (hid:(Option Addr×Nat))=>match st,hid with | l3,(a_r1,cap_r1)=>[(7,.v (.slice a_r1 l3.length cap_r1))]) (fun F (st:(List RSeq)) (hid:(Option Addr×Nat))=>match st,hid with | l3,(a_r1,cap_r1)=>[row a_r1 cap_r1 95 2 RSeq.d l3]) (fun st=>st=o_2) ⟨rfl,rfl,trivial⟩ trivial ?_ ?_
    ·refine Am ?_
     refine Ah [(3,_),(8,_),(9,_)] [] (fun (st:(Int×(List RSeq))) (hid:(Option Addr×Nat))=>match st,hid with | (k1,l4),(a_r1,cap_r1)=>[(7,.v (.slice a_r1 l4.length cap_r1)),(11,.i64 k1)]) (fun F (st:(Int×(List RSeq))) (hid:(Option Addr×Nat))=>match st,hid with | (k1,l4),(a_r1,cap_r1)=>[row a_r1 cap_r1 95 2 RSeq.d l4]) (_,_) hj2 (fun _=>rfl) ⟨rfl,rfl,rfl,trivial⟩ trivial ⟨rfl,rfl,trivial⟩ rfl ?_;rintro n ⟨k1,l4⟩ ⟨a_r1,cap_r1⟩ hj2;rw [CI] at hj2;refine Ao (L':=[(7,.v (.slice a_r1 l4.length cap_r1)),(11,.i64 k1),(3,_),(8,_),(9,_)]) (ms':=[row a_r1 cap_r1 95 2 RSeq.d l4]) rfl rfl ?_;refine zq8 ?_;refine zcn hj2 (fun hc3 hj2=>?_) (fun hc3 hj2=>?_)
     ·refine zq12 ?_
      obtain ⟨o_3,hj3,hm3⟩:=bS hj2;refine Ag [(3,_),(7,_),(8,_),(9,_),(11,_)] [(0,_)] (fun (st:Bool) (hid:Unit)=>match st,hid with | is1,_=>[(12,.bool is1)]) (fun F (st:Bool) (hid:Unit)=>match st,hid with | is1,_=>[(nthF F 0)]) (fun st=>st=o_3) ⟨rfl,rfl,rfl,rfl,rfl,trivial⟩ ⟨rfl,trivial⟩ ?_ ?_
      ·refine Am ?_
       refine Ah [(3,_),(7,_),(8,_),(9,_),(11,_)] [(0,_)] (fun (st:(Bool×Int)) (hid:Unit)=>match st,hid with | (is2,j1),_=>[(12,.bool is2),(13,.i64 j1)]) (fun F (st:(Bool×Int)) (hid:Unit)=>match st,hid with | (is2,j1),_=>[(nthF F 0)]) () hj3 (fun _=>rfl) ⟨rfl,rfl,rfl,rfl,rfl,trivial⟩ ⟨rfl,trivial⟩ ⟨rfl,rfl,trivial⟩ rfl ?_;rintro n ⟨is2,j1⟩ _ hj3;rw [Da] at hj3;refine Ao (L':=[(12,.bool is2),(13,.i64 j1),(3,_),(7,_),(8,_),(9,_),(11,_)]) (ms':=[_]) rfl rfl ?_;refine zq5 ?_;refine Ai rfl rfl rfl (.view (peekE (i:=44) 0 rfl rfl rfl) (Fb runUnderlying96 rfl)) ?_;refine zq2 ?_
       apply Bm [(3,_),(7,_),(8,_),(9,_),(11,_),(12,_),(13,_)] 3 50 (t:=47) ⟨rfl,rfl,rfl,rfl,rfl,rfl,rfl,trivial⟩ rfl
       ·intro hg_1 hk1
        refine zq3 ?_;exact zgm hk1
       ·intro hg_1 hk1
        refine zq3 ?_;exact zgm hk1
       refine gNl ?_;refine zcn hj3 (fun hc4 hj3=>?_) (fun hc4 hj3=>?_)
       ·refine zq3 ?_
        obtain ⟨x6,hx5,hj3⟩:=bS hj3;obtain ⟨x7,hx6,hj3⟩:=bS hj3;obtain ⟨x8,hx7,hj3⟩:=bS hj3;refine zdr 10 ?_;refine zq2 ?_;refine AC rfl rfl rfl (.view (peekE (i:=53) 0 rfl rfl rfl) (oIm runUnderlying96 sizeOf95 rfl rfl hx5)) ?_;refine zq3 ?_;refine AC rfl rfl rfl (oIm runUnderlying96 sizeOf95 rfl rfl hx6) ?_;refine zq1 ?_;refine zcd (Ro hx7) ?_;refine zq5 ?_;obtain ⟨hg8,hj3⟩:=Aa hj3;refine zq3 ?_;exact ⟨_,(),hj3,⟨rfl,rfl,trivial⟩,⟨rfl,rfl,rfl,rfl,rfl,trivial⟩,[],rfl⟩
       ·refine Ar ?_
        exact ⟨_,(),Ac hj3,⟨rfl,trivial⟩,⟨rfl,rfl,rfl,rfl,rfl,trivial⟩,[],rfl⟩
      ·rintro is1 _ hst
       subst hst;refine Al (L':=[(12,.bool is1),(3,_),(7,_),(8,_),(9,_),(11,_)]) (ms':=[_]) rfl rfl ?_;refine zq5 ?_;refine zcn hm3 (fun hc5 hm3=>?_) (fun hc5 hm3=>?_)
       ·refine zq4 ?_
        obtain ⟨x9,hx9,hm3⟩:=bS hm3;refine Ai rfl rfl rfl (oIm runUnderlying96 sizeOf95 rfl rfl hx9) ?_;refine zq1 ?_;refine Ai rfl rfl rfl (zs1 RSeq.d) ?_;obtain ⟨hg10,hm3⟩:=Aa hm3;refine zap 0 hg10 fun a_r1 cap_r1=>?_;refine Ak (ms':=[_]) rfl ?_;refine zq4 ?_;obtain ⟨hg11,hm3⟩:=Aa hm3;refine zq3 ?_;exact ⟨_,(_,_),hm3,⟨rfl,rfl,trivial⟩,⟨rfl,rfl,rfl,trivial⟩,[],rfl⟩
       ·refine zq3 ?_
        obtain ⟨hg12,hm3⟩:=Aa hm3;refine zq3 ?_;exact ⟨_,(_,_),hm3,⟨rfl,rfl,trivial⟩,⟨rfl,rfl,rfl,trivial⟩,[],rfl⟩
     ·refine Ar ?_
      exact ⟨_,(_,_),Ac hj2,⟨rfl,trivial⟩,⟨rfl,rfl,trivial⟩,[],rfl⟩
    ·rintro l3 ⟨a_r1,cap_r1⟩ hst
     subst hst;refine Al (L':=[(7,.v (.slice a_r1 l3.length cap_r1)),(3,_),(8,_)]) (ms':=[row a_r1 cap_r1 95 2 RSeq.d l3]) rfl rfl ?_;refine zq2 ?_;obtain ⟨hg13,hm2⟩:=Aa hm2;refine zq3 ?_;exact ⟨_,(_,_),hm2,⟨rfl,rfl,trivial⟩,⟨rfl,trivial⟩,[],rfl⟩
  ·refine Ar ?_
   exact ⟨_,(_,_),Ac hj1,trivial,trivial,[],rfl⟩
 ·rintro l1 ⟨a_r1,cap_r1⟩ hst
  subst hst
  replace hm1:=CT hm1
  refine Al (L':=[]) (ms':=[row a_r1 cap_r1 95 2 RSeq.d l1]) rfl rfl ?_;refine zq4 ?_
  cases hm1;exact Ae zr1
def Dk (a1:ATy) (b1:ATy):Option Bool:=
 (Gj a1 b1).bind fun (x1,x2) =>
 grd (InR (b1.root+x2)) <|
 (Gi (⟨x1.l,x1.root⟩:ATy) [a1.root] [(b1.root+x2)]).bind fun x3 =>
 some x3
theorem LN {a1:ATy} {b1:ATy} {r_1:Bool} (hm:Dk a1 b1=some r_1):Fn0 Tryz.prog 18 [ATy.d a1,ATy.d b1] (.bool r_1):=by
 unfold Dk at hm;refine Ad func18 rfl ntmps18 rfl fun H0 fr w0=>?_;refine zq10 ?_;obtain ⟨⟨x1,x2⟩,hx1,hm⟩:=bS hm;refine zc0 (PP hx1) ?_;refine zq3 ?_;refine F2 fun b1=>?_;refine zst 0 ?_;refine Ak (ms':=[box b1 31 [_,_]]) rfl ?_;refine zq7 ?_;refine Ai rfl rfl rfl (zs1 D.i64) ?_;refine zq3 ?_;obtain ⟨hg2,hm⟩:=Aa hm;refine zq1 ?_;refine Ai rfl rfl rfl (zs1 D.i64) ?_;obtain ⟨x3,hx3,hm⟩:=bS hm;refine zc0 (PD hx3) ?_;refine zq2 ?_
 cases hm;exact Ae zr1
end Go.Proofs.YtcoghblhdjmbfaaGreat
namespace Go.Proofs.YtcoghblhdjmbfaaGreat
open Go.V Tryz
theorem Hq:FieldIs Tryz.prog 65 1 2 2 true:=⟨⟨_,_,runUnderlying65,rfl,rfl,sizeOf31,by decide,isAgg31⟩⟩
theorem Jk:FieldIs Tryz.prog 65 2 4 1 false:=⟨⟨_,_,runUnderlying65,rfl,rfl,sizeOf43,by decide,isAgg43⟩⟩
theorem Wc:∀ fs,(∀ w,(underlying 71).run Tryz.prog w = .ok (.struct fs) w)->CB Tryz.prog fs [(0,1),(1,1)]:=by
 intro fs h w
 have:=(h w).symm.trans (runUnderlying71 w)
 simp only [Result.ok.injEq,TypeDesc.struct.injEq,and_true] at this;subst this
 simp [sizeOf9,sizeOf3,Sem.run]
theorem Fp:∀ fs,(∀ w,(underlying 49).run Tryz.prog w = .ok (.struct fs) w)->CB Tryz.prog fs [(0,1),(1,1),(2,1),(3,1)]:=by
 intro fs h w
 have:=(h w).symm.trans (runUnderlying49 w)
 simp only [Result.ok.injEq,TypeDesc.struct.injEq,and_true] at this;subst this
 simp [sizeOf3,sizeOf47,Sem.run]
theorem Ct:∀ fs,(∀ w,(underlying 143).run Tryz.prog w = .ok (.struct fs) w)->CB Tryz.prog fs [(0,1),(1,4)]:=by
 intro fs h w
 have:=(h w).symm.trans (runUnderlying143 w)
 simp only [Result.ok.injEq,TypeDesc.struct.injEq,and_true] at this;subst this
 simp [sizeOf4,sizeOf49,Sem.run]
def edgeF (e:AutoEdge):AFd:=⟨e.name,e.to_⟩
theorem HV {α:Type} {l:List α} {i:Nat} {x:α} (h:l[i]? = some x):l.take (i+1)=l.take i++[x]:=by
 have hi:=(List.getElem?_eq_some_iff.1 h).1
 rw [List.take_succ_eq_append_getElem hi];rw [List.getElem?_eq_getElem hi] at h;rw [Option.some.inj h]
theorem IC {p:D} {l:List AutoEdge} (hl:l.length<=1000):Go.V.Fn Tryz.prog 99 [p,.list 2 AutoEdge.d l] [] (fun d ms'=>∃ a m c,d = .v (.slice a m c)/\ms'=[arr a m c 71 2 AFd.d (l.map edgeF)]):=by
 refine Ad func99 rfl ntmps99 rfl fun H0 fr w0=>?_;refine zq7 ?_;refine Ap (BD (T:=71) (sz:=2) (f:=AFd.d)) ?_;refine zq9 ?_;refine Fh [(8,.list 2 AutoEdge.d l),(9,.i64 (l.length:Int))] (fun (s:Nat×Option Addr×Nat×Nat)=>s.1<=l.length) (fun s=>[(5,.v (.slice s.2.1 s.2.2.1 s.2.2.2)),(10,.i64 (s.1:Int))]) (fun s=>[arr s.2.1 s.2.2.1 s.2.2.2 71 2 AFd.d ((l.take s.1).map edgeF)]) (fun s=>l.length - s.1) (0,none,0,0) (Nat.zero_le _) ⟨rfl,rfl,trivial⟩ ⟨rfl,rfl,trivial⟩ rfl ?_;rintro ⟨i,a,m,c⟩ hi
 have hi:i<=l.length:=hi
 refine Ao (L':=[(5,.v (.slice a m c)),(10,.i64 (i:Int)),(8,.list 2 AutoEdge.d l),(9,.i64 (l.length:Int))]) (ms':=[arr a m c 71 2 AFd.d ((l.take i).map edgeF)]) rfl rfl ?_;refine zq5 ?_;refine gCd rfl (fun hc=>?_) (fun hc=>?_)
 ·have hlt:i<l.length:=by have:=of_decide_eq_true hc;omega
  have hx:idx l (i:Int)=some l[i]:=getI (List.getElem?_eq_getElem hlt)
  generalize l[i]=x at hx
  have hx0:l[i]? = some x:=by have:=(Av hx).2;simpa using this
  refine zq5 ?_;refine Ai rfl rfl rfl (oIm runUnderlying57 sizeOf62 rfl rfl hx) ?_;refine zq1 ?_;refine Ps fun b1=>?_;refine zst 0 ?_;refine Ak (ms':=[box b1 62 [_,_],_]) rfl ?_;refine zq7 ?_;refine Ai rfl rfl rfl (Aw (zs:=[.str [],.v (.int .i64 0)]) runUnderlying71 zeroValue71 (Wc _ runUnderlying71) rfl rfl rfl rfl) ?_;refine Ai rfl rfl rfl (Aj (xs:=[_]) (f:=AFd.d) (l:=[edgeF x]) runUnderlying47 sizeOf71 zeroValue71 rfl rfl rfl (fun _=>⟨rfl,rfl,rfl⟩) rfl) ?_
  have hg:(((l.take i).map edgeF).length+[edgeF x].length)*24<=140737488355328:=by rw [List.length_map,List.length_take];simp only [List.length_cons,List.length_nil];omega
  refine AG rfl rfl rfl (DC (a:=_) 1 underlying47 type71 rfl rfl rfl rfl rfl rfl (fun _=>rfl) (fun _=>rfl) hg (BX hg rfl)) ?_;rintro _ _ ⟨a',m',c',rfl,rfl⟩;refine Ak (ms':=[box b1 62 [_,_],_]) rfl ?_;refine zq3 ?_;refine Ai rfl rfl rfl (Gy rfl rfl (CO (by constructor <;> omega))) ?_;refine zq2 ?_
  have e:(l.take (i+1)).map edgeF=(l.take i).map edgeF++[edgeF x]:=by rw [HV hx0,List.map_append];rfl
  rw [<- e];exact ⟨(i+1,a',m',c'),by show i+1<=l.length;omega,by show l.length - (i+1)<l.length - i;omega,⟨rfl,rfl,trivial⟩,⟨rfl,rfl,trivial⟩,[_],rfl⟩
 ·have hge:i=l.length:=by have:=of_decide_eq_false hc;omega
  subst hge;rw [List.take_length];refine Ar ?_;refine zq5 ?_;refine Ae ?_;exact retK (BA rfl (B5 rfl) (permA 0 rfl permN)) ⟨_,_,_,rfl,rfl⟩
theorem Pu {b:Nat} {al:List AutoState} {st rt:Int} {a5:Option Addr} {m5 cap5:Nat} {a:Option Addr} {m cap:Nat} {q:List (NodeB AFd)} {x:NodeB AFd} (hq:q.length<=100000) :
  Go.V.Fn Tryz.prog 69 [.v (.pointer (some ⟨b,0,none⟩)),x.d] [box b 65 [.list 13 AutoState.d al,.i64 st,.v (.slice a m cap),.i64 rt,.v (.slice a5 m5 cap5)],arr a m cap 49 4 NodeB.d q]
   (fun d ms'=>d = .i64 (q.length:Int)/\∃ a' m' cap',ms'=[box b 65 [.list 13 AutoState.d al,.i64 st,.v (.slice a' m' cap'),.i64 rt,.v (.slice a5 m5 cap5)],arr a' m' cap' 49 4 NodeB.d (q++[x])]):=by
 refine Ad func69 rfl ntmps69 rfl fun H0 fr w0=>?_;refine zq6 ?_
 have hg1:(q.length+[x].length)*48<=140737488355328:=by simp only [List.length_cons,List.length_nil];omega
 refine FY [8,12] [0,9,10,11] [] A0 (by decide +kernel) (by decide +kernel) rfl ?_;refine Ay rfl rfl rfl rfl rfl rfl (oMv rfl) ?_;refine Ay rfl rfl rfl rfl rfl rfl (oMv rfl) ?_;refine Ay rfl rfl rfl rfl rfl rfl (AH rfl) ?_;refine Ay rfl rfl rfl rfl rfl rfl (oFb Hq rfl) ?_;refine Ay rfl rfl rfl rfl rfl rfl (oFb E3 rfl) ?_;refine Ay rfl rfl rfl rfl rfl rfl (oLb 0 isAgg29 rfl rfl rfl rfl) ?_;refine Ay rfl rfl rfl rfl rfl rfl (DF isAgg49 sizeOf49 rfl rfl) ?_;refine Ay rfl rfl rfl rfl rfl rfl (Aj (xs:=[_]) (f:=NodeB.d) (l:=[x]) runUnderlying29 sizeOf49 zeroValue49 rfl rfl rfl (fun _=>⟨rfl,rfl,rfl⟩) rfl) ?_;refine FO rfl ?_;refine Ay rfl rfl rfl rfl rfl rfl (AH rfl) ?_;refine Ay rfl rfl rfl rfl rfl rfl (oFb Hq rfl) ?_;refine Ay rfl rfl rfl rfl rfl rfl (oFb E3 rfl) ?_;refine FO rfl ?_;refine Gz ?_;refine Ld rfl rfl rfl rfl (DC (a:=_) 1 underlying29 type49 rfl rfl rfl rfl rfl rfl (fun _=>rfl) (fun _=>rfl) hg1 (BX hg1 rfl)) ?_;rintro _ _ ⟨a',m',cap',rfl,rfl⟩;refine ⟨(trivial:True),?_⟩;refine F3 rfl rfl rfl (oSb 0 sizeOf29 rfl rfl rfl rfl rfl rfl rfl rfl (nB rfl)) ?_;rintro _ _ rfl;refine ⟨(trivial:True),?_⟩;refine FW ?_;refine zq3 ?_;refine Ai rfl rfl rfl (AH rfl) ?_;refine Ai rfl rfl rfl (oFb Hq rfl) ?_;refine zq2 ?_;refine Ai rfl rfl rfl (Ca 1 runUnderlying29 rfl rfl) ?_;refine Ai rfl rfl rfl (QB rfl rfl (CO (by rw [List.length_append];constructor <;> simp only [List.length_cons,List.length_nil] <;> omega))) ?_;refine zq2 ?_;refine Ae ?_;refine retK (BA rfl (B5 rfl) (permA 0 rfl (permA 0 rfl permN))) ⟨?_,_,_,_,rfl⟩
 show D.i64 _=D.i64 _
 rw [List.length_append];congr 1;simp
end Go.Proofs.YtcoghblhdjmbfaaGreat
namespace Go.Proofs.YtcoghblhdjmbfaaGreat
open Go.V Tryz
theorem FN:FieldIs Tryz.prog 143 0 0 1 false:=⟨⟨_,_,runUnderlying143,rfl,rfl,sizeOf4,by decide,isAgg4⟩⟩
theorem JH:FieldIs Tryz.prog 143 1 1 4 true:=⟨⟨_,_,runUnderlying143,rfl,rfl,sizeOf49,by decide,isAgg49⟩⟩
def TB.d (v:Bool×NodeB AFd):D := .agg [.bool v.1,.i64 v.2.kind,.i64 v.2.a,.i64 v.2.b,.v (.slice v.2.p v.2.m v.2.c)]
def nodN (x:NodeB AFd):ANd:=⟨x.kind,x.a,x.b,x.fl⟩
def ndB (k a b:Int):NodeB AFd:=⟨k,a,b,[],none,0,0⟩
def evB (p:Bool):Int:=bif p then 1 else 2
def thA (s:AutoState):List (Bool×NodeB AFd):=[(s.all,ndB (evB s.plus) 0 0),(s.int,ndB 3 0 0),(s.bool,ndB 4 0 0),(s.str,ndB 5 0 0)]
def thC (s:AutoState) (x y:NodeB AFd):List (Bool×NodeB AFd):=[(s.arrow,ndB 6 s.dom s.cod),(s.rec_,x),(s.tag,y)]
def onB (l:List (Bool×NodeB AFd)):List ANd:=(l.filter (·.1)).map fun v=>nodN v.2
def B9 (s:AutoState):List ANd:=
 onB (thA s)++(s.vars.map fun v=>⟨11,v,0,[]⟩)++onB [(s.arrow,ndB 6 s.dom s.cod),(s.rec_,⟨7,0,0,s.fields.map edgeF,none,0,0⟩),(s.tag,⟨8,0,0,s.tags.map edgeF,none,0,0⟩)]
theorem Sb {b:Nat} {s:AutoState}:Fn0 Tryz.prog 68 [.v (.pointer (some ⟨b,0,none⟩)),AutoState.d s] (.clo (.func 98) [] [.ref (AutoState.d s),.ref (.i64 (evB s.plus)),.ref (.v (.pointer (some ⟨b,0,none⟩)))]):=by
 refine Ad func68 rfl ntmps68 rfl fun H0 fr w0=>?_;refine zq8 ?_;refine zal3a fun b1=>?_;refine zst 0 ?_;refine Ak (ms':=[box b1 3 [.i64 2]]) rfl ?_;refine zq7 ?_;refine gCd rfl (fun hc=>?_) (fun hc=>?_)
 ·have hp:s.plus=true:=hc
  refine gRg ?_;refine zst 0 ?_;refine Ak (ms':=[box b1 3 [.i64 1]]) rfl ?_;refine Ap (Gk (d := .i64 1) 0 5 rfl rfl rfl (ms':=[]) rfl) ?_;refine zq3 ?_;refine Ai rfl rfl rfl (De (fs:=[]) (cs:=[_,_,_]) rfl rfl) ?_;refine zq2 ?_;refine Ae ?_;exact retK (BA rfl (B5 rfl) (EV _)) (by unfold evB;rw [hp];rfl)
 ·have hp:s.plus=false:=hc
  refine zq3 ?_;refine Ap (Gk (d := .i64 2) 0 5 rfl rfl rfl (ms':=[]) rfl) ?_;refine Ai rfl rfl rfl (De (fs:=[]) (cs:=[_,_,_]) rfl rfl) ?_;refine zq2 ?_;refine Ae ?_;exact retK (BA rfl (B5 rfl) (EV _)) (by unfold evB;rw [hp];rfl)
section
variable {P:Program} {L:Env} {ms:List Asrt} {dst:Option Nat} {ty:TypeId} {pos:String} {after:Array Edge} {g:Option (Nat×Bool)} {x:Operand}
theorem Ie {args:List Operand} {ats:Array TypeId} {ds:List D} {y:D} {tl As own:List Asrt} {R:D->List Asrt->Prop} (hx:Env.ev L x=some y) (hev:evL L args=some ds) (hp:ms.Perm ((As++tl)++own)) (hf:FV P y ds (As++tl) R) :
  OpT P ⟨dst,.call ⟨.value x,args.toArray,ats⟩,ty,pos,after,g⟩ L ms (fun d ms'=>∃ tl',R d tl'/\ms'=own++tl'):=by
 have:=Jy (P:=P) (L:=L) (ms:=ms) (dst:=dst) (ty:=ty) (pos:=pos) (after:=after) (g:=g) (ats:=ats) (ms₁:=As++tl) (rest:=own) hx hev hp hf
 intro ro H fr a w hok henv next Q hn
 refine this ro H fr a w hok henv next Q ?_;rintro v d ms' w' H' ⟨tl',hR,rfl⟩ hle hok' hc' hs;exact hn v d _ w' H' ⟨tl',hR,rfl⟩ hle (hok'.perm ((List.perm_append_comm).append_right fr)) hc' hs
end
def nxT (P:List ANd) (q:List ANd) (ds:List D) (As:List Asrt) (q':List ANd):Prop:=
 ∃ x:NodeB AFd,ds=[x.d]/\As=[x.own 71 2 AFd.d]/\q'=q++[nodN x]/\q' <+: P
theorem Jr {l:List (Bool×NodeB AFd)} {i:Nat} {b:Bool} {x:NodeB AFd} (h:l[i]? = some (b,x)):onB (l.take (i+1))=onB (l.take i)++(bif b then [nodN x] else []):=by
 unfold onB;rw [HV h,List.filter_append,List.map_append]
 cases b <;> rfl
theorem QF (l:List (Bool×NodeB AFd)) (i:Nat):onB (l.take i) <+: onB l:=by
 unfold onB;exact ((List.take_prefix i l).filter _).map _
theorem Pq {b:Nat} {s:AutoState} (hf:s.fields.length<=1000) (ht:s.tags.length<=1000) (hv:s.vars.length<=1000) :
  IterT Tryz.prog 98 [.ref (AutoState.d s),.ref (.i64 (evB s.plus)),.ref (.v (.pointer (some ⟨b,0,none⟩)))] ([]:List ANd) (nxT (B9 s)) (· = B9 s):=by
 intro y hys J Jx hy tl_0 hJ_0
 refine Ad func98 rfl ntmps98 rfl fun H0 fr w0=>?_;refine zq6 ?_;refine Ai rfl rfl rfl (Aw (zs:=[.v (.int .i64 0),.v (.int .i64 0),.v (.int .i64 0),.v (.slice none 0 0)]) runUnderlying49 zeroValue49 (Fp _ runUnderlying49) rfl rfl rfl rfl) ?_;refine Ai rfl rfl rfl (Aw (zs:=[.bool false,.v (.int .i64 0),.v (.int .i64 0),.v (.int .i64 0),.v (.slice none 0 0)]) runUnderlying143 zeroValue143 (Ct _ runUnderlying143) rfl rfl rfl rfl) ?_;refine zq2 ?_;refine Ai rfl rfl rfl (Aw (zs:=[.v (.int .i64 0),.v (.int .i64 0),.v (.int .i64 0),.v (.slice none 0 0)]) runUnderlying49 zeroValue49 (Fp _ runUnderlying49) rfl rfl rfl rfl) ?_;refine Ai rfl rfl rfl (Aw (zs:=[.bool false,.v (.int .i64 0),.v (.int .i64 0),.v (.int .i64 0),.v (.slice none 0 0)]) runUnderlying143 zeroValue143 (Ct _ runUnderlying143) rfl rfl rfl rfl) ?_;refine zq2 ?_;refine Ai rfl rfl rfl (Aw (zs:=[.v (.int .i64 0),.v (.int .i64 0),.v (.int .i64 0),.v (.slice none 0 0)]) runUnderlying49 zeroValue49 (Fp _ runUnderlying49) rfl rfl rfl rfl) ?_;refine Ai rfl rfl rfl (Aw (zs:=[.bool false,.v (.int .i64 0),.v (.int .i64 0),.v (.int .i64 0),.v (.slice none 0 0)]) runUnderlying143 zeroValue143 (Ct _ runUnderlying143) rfl rfl rfl rfl) ?_;refine zq2 ?_;refine Ai rfl rfl rfl (Aw (zs:=[.v (.int .i64 0),.v (.int .i64 0),.v (.int .i64 0),.v (.slice none 0 0)]) runUnderlying49 zeroValue49 (Fp _ runUnderlying49) rfl rfl rfl rfl) ?_;refine Ai rfl rfl rfl (Aw (zs:=[.bool false,.v (.int .i64 0),.v (.int .i64 0),.v (.int .i64 0),.v (.slice none 0 0)]) runUnderlying143 zeroValue143 (Ct _ runUnderlying143) rfl rfl rfl rfl) ?_;refine Ai rfl rfl rfl (Aj (xs:=[_,_,_,_]) (f:=TB.d) (l:=thA s) runUnderlying144 sizeOf143 zeroValue143 rfl rfl rfl (fun _=>⟨rfl,rfl,rfl⟩) rfl) ?_;refine zq3 ?_
 have hP:B9 s=onB (thA s)++((s.vars.map fun v=>(⟨11,v,0,[]⟩:ANd))++onB [(s.arrow,ndB 6 s.dom s.cod),(s.rec_,⟨7,0,0,s.fields.map edgeF,none,0,0⟩),(s.tag,⟨8,0,0,s.tags.map edgeF,none,0,0⟩)]):=by unfold B9;rw [List.append_assoc]
 generalize hC:onB [(s.arrow,ndB 6 s.dom s.cod),(s.rec_,(⟨7,0,0,s.fields.map edgeF,none,0,0⟩:NodeB AFd)),(s.tag,⟨8,0,0,s.tags.map edgeF,none,0,0⟩)]=pC at hP
 refine Am ?_;refine Fh [(0,_),(1,_),(3,_),(28,_),(29,_)] (fun (z:Nat×List Asrt)=>z.1<=4/\J (onB ((thA s).take z.1)) z.2) (fun z=>[(30,.i64 (z.1:Int))]) (fun z=>z.2) (fun z=>4 - z.1) (0,tl_0) ⟨Nat.zero_le _,hJ_0⟩ ⟨rfl,rfl,rfl,rfl,rfl,trivial⟩ ⟨rfl,trivial⟩ rfl ?_;rintro ⟨i,tl⟩ ⟨hi,hJ⟩
 have hi:i<=4:=hi
 have hJ:J (onB ((thA s).take i)) tl:=hJ
 refine Ao (L':=[(30,.i64 (i:Int)),(0,_),(1,_),(3,_),(28,_),(29,_)]) (ms':=tl) rfl rfl ?_;refine zq5 ?_;refine gCd rfl (fun hc=>?_) (fun hc=>?_)
 ·have hlt:i<4:=by have h:=of_decide_eq_true hc;have h3:((thA s).length:Int)=4:=rfl;omega
  obtain ⟨bv,k,hx0⟩:∃ bv k,(thA s)[i]? = some (bv,ndB k 0 0):=by
   rcases i with _ | _ | _ | _ | i
   ·exact ⟨_,_,rfl⟩
   ·exact ⟨_,_,rfl⟩
   ·exact ⟨_,_,rfl⟩
   ·exact ⟨_,_,rfl⟩
   ·omega
  have hpre:onB ((thA s).take (i+1)) <+: B9 s:=by rw [hP];exact (QF _ _).trans (List.prefix_append _ _)
  have hstep:=Jr hx0
  have hx:idx (thA s) (i:Int)=some (bv,ndB k 0 0):=getI hx0
  refine zq5 ?_;refine Ai rfl rfl rfl (oIm runUnderlying144 sizeOf143 rfl rfl hx) ?_;refine zq1 ?_;refine KG fun b1=>?_
  cases bv with
  | true =>
   refine zst 0 ?_;refine Ak (ms':=[box b1 143 [.bool true,.i64 k,.i64 0,.i64 0,.v (.slice none 0 0)]]++tl) rfl ?_;refine zq3 ?_;refine Ai rfl rfl rfl (oFb FN rfl) ?_;refine zq3 ?_;refine gWp rfl rfl rfl rfl rfl rfl (oFb JH rfl) ?_;refine zq1 ?_;refine Ap (BD (T:=71) (sz:=2) (f:=AFd.d)) ?_;refine Jl rfl rfl rfl rfl rfl rfl (Ie (tl:=tl) (As:=[NodeB.own 71 2 AFd.d (ndB k 0 0)]) (own:=[box b1 143 [.bool true,.i64 k,.i64 0,.i64 0,.v (.slice none 0 0)]]) rfl rfl ((List.perm_append_comm (l₁:=[box b1 143 [.bool true,.i64 k,.i64 0,.i64 0,.v (.slice none 0 0)]]) (l₂:=tl)).cons _) (hy _ [NodeB.d (ndB k 0 0)] _ (onB ((thA s).take (i+1))) tl ⟨ndB k 0 0,rfl,rfl,hstep,hpre⟩ hJ)) ?_;rintro _ _ ⟨tl',⟨rfl,hJ'⟩ | ⟨rfl,hJx⟩,rfl⟩
   ·refine zq3 ?_
    refine A3 rfl rfl ?_;refine zq2 ?_;refine Ai rfl rfl rfl (Gy rfl rfl (CO (by constructor <;> omega))) ?_;refine zq2 ?_;exact ⟨(i+1,tl'),⟨by show i+1<=4;omega,hJ'⟩,by show 4 - (i+1)<4 - i;omega,⟨rfl,trivial⟩,⟨rfl,rfl,rfl,rfl,rfl,trivial⟩,[_],rfl⟩
   ·refine zq3 ?_
    refine Bt rfl rfl ?_;refine Ae ?_;exact retK (DQ (ms':=tl') (drop:=[_]) rfl (List.Perm.refl _)) (.inr hJx)
  | false =>
   refine zst 0 ?_;refine Ak (ms':=[box b1 143 [.bool false,.i64 k,.i64 0,.i64 0,.v (.slice none 0 0)]]++tl) rfl ?_;refine zq3 ?_;refine Ai rfl rfl rfl (oFb FN rfl) ?_;refine zq9 ?_;refine A3 rfl rfl ?_;refine zq2 ?_;refine Ai rfl rfl rfl (Gy rfl rfl (CO (by constructor <;> omega))) ?_;refine zq2 ?_
   have hJ2:J (onB ((thA s).take (i+1))) tl:=by rw [hstep,cF_,List.append_nil];exact hJ
   exact ⟨(i+1,tl),⟨by show i+1<=4;omega,hJ2⟩,by show 4 - (i+1)<4 - i;omega,⟨rfl,trivial⟩,⟨rfl,rfl,rfl,rfl,rfl,trivial⟩,[_],rfl⟩
 ·have hge:i=4:=by have h:=of_decide_eq_false hc;have h3:((thA s).length:Int)=4:=rfl;omega
  subst hge
  clear hi hc
  have hJ:J (onB (thA s)) tl:=hJ
  refine Ar ?_;refine Al (L':=[(31,_),(30,_),(0,_),(1,_),(3,_),(28,_),(29,_)]) (ms':=tl) rfl rfl ?_;refine zq9 ?_;refine Fh [(0,_),(1,_),(3,_),(45,_),(46,_)] (fun (z:Nat×List Asrt)=>z.1<=s.vars.length/\J (onB (thA s)++(s.vars.take z.1).map fun v=>(⟨11,v,0,[]⟩:ANd)) z.2) (fun z=>[(47,.i64 (z.1:Int))]) (fun z=>z.2) (fun z=>s.vars.length - z.1) (0,tl) ⟨Nat.zero_le _,by rw [List.take_zero,List.map_nil,List.append_nil];exact hJ⟩ ⟨rfl,rfl,rfl,rfl,rfl,trivial⟩ ⟨rfl,trivial⟩ rfl ?_;rintro ⟨i,tl⟩ ⟨hi,hJ⟩
  have hi:i<=s.vars.length:=hi
  have hJ:J (onB (thA s)++(s.vars.take i).map fun v=>(⟨11,v,0,[]⟩:ANd)) tl:=hJ
  refine Ao (L':=[(47,.i64 (i:Int)),(0,_),(1,_),(3,_),(45,_),(46,_)]) (ms':=tl) rfl rfl ?_;refine zq5 ?_;refine gCd rfl (fun hc=>?_) (fun hc=>?_)
  ·have hlt:i<s.vars.length:=by have h:=of_decide_eq_true hc;omega
   have hx0:s.vars[i]? = some s.vars[i]:=List.getElem?_eq_getElem hlt
   generalize s.vars[i]=v at hx0
   have hx:idx s.vars (i:Int)=some v:=getI hx0
   have hstep:(onB (thA s)++(s.vars.take (i+1)).map fun v=>(⟨11,v,0,[]⟩:ANd))=(onB (thA s)++(s.vars.take i).map fun v=>(⟨11,v,0,[]⟩:ANd))++[nodN (ndB 11 v 0)]:=by rw [HV hx0,List.map_append,List.append_assoc];rfl
   have hpre:(onB (thA s)++(s.vars.take (i+1)).map fun v=>(⟨11,v,0,[]⟩:ANd)) <+: B9 s:=by rw [hP];exact List.prefix_append_right_inj _ |>.2 (((List.take_prefix _ _).map _).trans (List.prefix_append _ _))
   refine zq5 ?_;refine Ai rfl rfl rfl (oIm runUnderlying43 sizeOf3 rfl rfl hx) ?_;refine zq7 ?_;refine Ai rfl rfl rfl (Aw (zs:=[.v (.int .i64 0),.v (.int .i64 0),.v (.int .i64 0),.v (.slice none 0 0)]) runUnderlying49 zeroValue49 (Fp _ runUnderlying49) rfl rfl rfl rfl) ?_;refine Ap (BD (T:=71) (sz:=2) (f:=AFd.d)) ?_;refine AG rfl rfl rfl (Ie (tl:=tl) (As:=[NodeB.own 71 2 AFd.d (ndB 11 v 0)]) (own:=[]) rfl rfl (by rw [List.append_nil];exact List.Perm.refl _) (hy _ [NodeB.d (ndB 11 v 0)] _ _ tl ⟨ndB 11 v 0,rfl,rfl,hstep,hpre⟩ hJ)) ?_;rintro _ tl' ⟨_,⟨rfl,hJ'⟩ | ⟨rfl,hJx⟩,rfl⟩
   ·refine zq2 ?_
    refine A3 rfl rfl ?_;refine zq2 ?_;refine Ai rfl rfl rfl (Gy rfl rfl (CO (by constructor <;> omega))) ?_;refine zq2 ?_;exact ⟨(i+1,tl'),⟨by show i+1<=s.vars.length;omega,hJ'⟩,by show s.vars.length - (i+1)<s.vars.length - i;omega,⟨rfl,trivial⟩,⟨rfl,rfl,rfl,rfl,rfl,trivial⟩,[],rfl⟩
   ·refine zq2 ?_
    refine Bt rfl rfl ?_;refine Ae ?_;exact retK (DQ (ms':=tl') (drop:=[]) rfl (List.Perm.refl _)) (.inr hJx)
  ·have hge:i=s.vars.length:=by have h:=of_decide_eq_false hc;omega
   subst hge;rw [List.take_length] at hJ
   clear hi hc
   refine Ar ?_;refine Al (L':=[(48,_),(47,_),(0,_),(1,_),(3,_),(45,_),(46,_)]) (ms':=tl) rfl rfl ?_;refine JC ?_;refine JI (σ:=(Option Addr×Nat×Nat)×Option Addr×Nat×Nat) (fun z=>match z with | ((a1,m1,c1),a2,m2,c2)=>[(83,.i64 0),(82,.i64 3),(81,.list 5 TB.d (thC s (⟨7,0,0,s.fields.map edgeF,a1,m1,c1⟩:NodeB AFd) (⟨8,0,0,s.tags.map edgeF,a2,m2,c2⟩:NodeB AFd)))]) (fun z=>match z with | ((a1,m1,c1),a2,m2,c2)=>[NodeB.own 71 2 AFd.d (⟨7,0,0,s.fields.map edgeF,a1,m1,c1⟩:NodeB AFd),NodeB.own 71 2 AFd.d (⟨8,0,0,s.tags.map edgeF,a2,m2,c2⟩:NodeB AFd)]++tl) ?_ ?_
   ·refine Ju [13,14,15,21,22,23,24,25] A0 (by decide +kernel) (by decide +kernel) (by decide) _ rfl ?_
    refine Bl rfl rfl rfl rfl (oFa MY rfl rfl rfl) ?_;refine Bl rfl rfl rfl rfl (Bk isAgg4 rfl rfl) ?_;refine Bl rfl rfl rfl rfl (oFa Jp rfl rfl rfl) ?_;refine Bl rfl rfl rfl rfl (Bk isAgg3 rfl rfl) ?_;refine Bl rfl rfl rfl rfl (oFa HS rfl rfl rfl) ?_;refine Bl rfl rfl rfl rfl (Bk isAgg3 rfl rfl) ?_;refine Bl rfl rfl rfl rfl (Aw (zs:=[.v (.int .i64 0),.v (.int .i64 0),.v (.int .i64 0),.v (.slice none 0 0)]) runUnderlying49 zeroValue49 (Fp _ runUnderlying49) rfl rfl rfl rfl) ?_;refine Bl rfl rfl rfl rfl (Aw (zs:=[.bool false,.v (.int .i64 0),.v (.int .i64 0),.v (.int .i64 0),.v (.slice none 0 0)]) runUnderlying143 zeroValue143 (Ct _ runUnderlying143) rfl rfl rfl rfl) ?_;refine Bl rfl rfl rfl rfl (oFa M5 rfl rfl rfl) ?_;refine Bl rfl rfl rfl rfl (Bk isAgg4 rfl rfl) ?_;refine Bl rfl rfl rfl rfl (Bk isAgg63 rfl rfl) ?_;refine Bl rfl rfl rfl rfl (oFa Ok rfl rfl rfl) ?_;refine Bl rfl rfl rfl rfl (Bk isAgg57 rfl rfl) ?_;refine EC rfl ?_;refine EC rfl ?_;refine EC rfl ?_;refine Bl rfl rfl rfl rfl (oFa Nu rfl rfl rfl) ?_;refine Bl rfl rfl rfl rfl (Bk isAgg4 rfl rfl) ?_;refine Bl rfl rfl rfl rfl (Bk isAgg63 rfl rfl) ?_;refine Bl rfl rfl rfl rfl (oFa NF rfl rfl rfl) ?_;refine Bl rfl rfl rfl rfl (Bk isAgg57 rfl rfl) ?_;refine EC rfl ?_;refine EC rfl ?_;refine EC rfl ?_;refine EC rfl ?_;refine EC rfl ?_;refine Bl rfl rfl rfl rfl (oMv rfl) ?_;refine KH ?_;refine zg1 13 ?_;refine A8 (R':=[14,15,21,22,23,24,25]) rfl rfl rfl rfl (by decide) (Ey (ms₁:=[]) call99 rfl (List.Perm.refl _) (IC hf)) ?_;rintro _ _ ⟨_,⟨a1,m1,c1,rfl,rfl⟩,rfl⟩;refine zg2 14 21 ?_ ?_
    ·refine A8 (R':=[15,21,22,23,24,25]) rfl rfl rfl rfl (by decide) (Aw (zs:=[.v (.int .i64 0),.v (.int .i64 0),.v (.int .i64 0),.v (.slice none 0 0)]) runUnderlying49 zeroValue49 (Fp _ runUnderlying49) rfl rfl rfl rfl) ?_
     rintro _ _ ⟨rfl,rfl⟩;refine zg2 15 21 ?_ ?_
     ·refine A8 (R':=[21,22,23,24,25]) rfl rfl rfl rfl (by decide) (Aw (zs:=[.bool false,.v (.int .i64 0),.v (.int .i64 0),.v (.int .i64 0),.v (.slice none 0 0)]) runUnderlying143 zeroValue143 (Ct _ runUnderlying143) rfl rfl rfl rfl) ?_
      rintro _ _ ⟨rfl,rfl⟩;refine zg1 21 ?_;refine A8 (R':=[22,23,24,25]) rfl rfl rfl rfl (by decide) (Ey (ms₁:=[]) call99 rfl (List.Perm.refl _) (IC ht)) ?_;rintro _ _ ⟨_,⟨a2,m2,c2,rfl,rfl⟩,rfl⟩;refine zg1 22 ?_;refine A8 (R':=[23,24,25]) rfl rfl rfl rfl (by decide) (Aw (zs:=[.v (.int .i64 0),.v (.int .i64 0),.v (.int .i64 0),.v (.slice none 0 0)]) runUnderlying49 zeroValue49 (Fp _ runUnderlying49) rfl rfl rfl rfl) ?_;rintro _ _ ⟨rfl,rfl⟩;refine zg1 23 ?_;refine A8 (R':=[24,25]) rfl rfl rfl rfl (by decide) (Aw (zs:=[.bool false,.v (.int .i64 0),.v (.int .i64 0),.v (.int .i64 0),.v (.slice none 0 0)]) runUnderlying143 zeroValue143 (Ct _ runUnderlying143) rfl rfl rfl rfl) ?_;rintro _ _ ⟨rfl,rfl⟩;refine zg1 24 ?_;refine A8 (R':=[25]) rfl rfl rfl rfl (by decide) (Aj (xs:=[_,_,_]) (f:=TB.d) (l:=(thC s (⟨7,0,0,s.fields.map edgeF,a1,m1,c1⟩:NodeB AFd) (⟨8,0,0,s.tags.map edgeF,a2,m2,c2⟩:NodeB AFd))) runUnderlying144 sizeOf143 zeroValue143 rfl rfl rfl (fun _=>⟨rfl,rfl,rfl⟩) rfl) ?_;rintro _ _ ⟨rfl,rfl⟩;refine zg1 25 ?_;refine zgp ?_;exact Cg ((a1,m1,c1),a2,m2,c2) (E7 (M0:=[(83,_),(82,_),(81,_)]) (N0:=[(82,_),(81,_),(80,_),(79,_),(78,_),(72,_),(71,_),(70,_),(83,_),(77,_),(76,_),(75,_),(74,_),(73,_),(69,_),(68,_),(67,_),(66,_),(65,_),(64,_),(63,_),(62,_),(61,_),(60,_),(59,_),(58,_),(57,_)]) (by intro p hp;simp only [List.mem_cons,List.not_mem_nil,or_false] at hp;rcases hp with rfl | rfl | rfl <;> rfl) (by intro p hp;simp only [List.mem_cons,List.not_mem_nil,or_false] at hp;rcases hp with rfl | rfl | rfl | rfl | rfl | rfl | rfl | rfl | rfl | rfl | rfl | rfl | rfl | rfl | rfl | rfl | rfl | rfl | rfl | rfl | rfl | rfl | rfl | rfl | rfl | rfl | rfl <;> first | exact .inr rfl | exact .inl rfl)) (List.Perm.swap _ _ _)
     ·refine A8 (R':=[15,22,23,24,25]) rfl rfl rfl rfl (by decide) (Ey (ms₁:=[]) call99 rfl (List.Perm.refl _) (IC ht)) ?_
      rintro _ _ ⟨_,⟨a2,m2,c2,rfl,rfl⟩,rfl⟩;refine zg2 15 22 ?_ ?_
      ·refine A8 (R':=[22,23,24,25]) rfl rfl rfl rfl (by decide) (Aw (zs:=[.bool false,.v (.int .i64 0),.v (.int .i64 0),.v (.int .i64 0),.v (.slice none 0 0)]) runUnderlying143 zeroValue143 (Ct _ runUnderlying143) rfl rfl rfl rfl) ?_
       rintro _ _ ⟨rfl,rfl⟩;refine zg1 22 ?_;refine A8 (R':=[23,24,25]) rfl rfl rfl rfl (by decide) (Aw (zs:=[.v (.int .i64 0),.v (.int .i64 0),.v (.int .i64 0),.v (.slice none 0 0)]) runUnderlying49 zeroValue49 (Fp _ runUnderlying49) rfl rfl rfl rfl) ?_;rintro _ _ ⟨rfl,rfl⟩;refine zg1 23 ?_;refine A8 (R':=[24,25]) rfl rfl rfl rfl (by decide) (Aw (zs:=[.bool false,.v (.int .i64 0),.v (.int .i64 0),.v (.int .i64 0),.v (.slice none 0 0)]) runUnderlying143 zeroValue143 (Ct _ runUnderlying143) rfl rfl rfl rfl) ?_;rintro _ _ ⟨rfl,rfl⟩;refine zg1 24 ?_;refine A8 (R':=[25]) rfl rfl rfl rfl (by decide) (Aj (xs:=[_,_,_]) (f:=TB.d) (l:=(thC s (⟨7,0,0,s.fields.map edgeF,a1,m1,c1⟩:NodeB AFd) (⟨8,0,0,s.tags.map edgeF,a2,m2,c2⟩:NodeB AFd))) runUnderlying144 sizeOf143 zeroValue143 rfl rfl rfl (fun _=>⟨rfl,rfl,rfl⟩) rfl) ?_;rintro _ _ ⟨rfl,rfl⟩;refine zg1 25 ?_;refine zgp ?_;exact Cg ((a1,m1,c1),a2,m2,c2) (E7 (M0:=[(83,_),(82,_),(81,_)]) (N0:=[(82,_),(81,_),(80,_),(79,_),(72,_),(78,_),(71,_),(70,_),(83,_),(77,_),(76,_),(75,_),(74,_),(73,_),(69,_),(68,_),(67,_),(66,_),(65,_),(64,_),(63,_),(62,_),(61,_),(60,_),(59,_),(58,_),(57,_)]) (by intro p hp;simp only [List.mem_cons,List.not_mem_nil,or_false] at hp;rcases hp with rfl | rfl | rfl <;> rfl) (by intro p hp;simp only [List.mem_cons,List.not_mem_nil,or_false] at hp;rcases hp with rfl | rfl | rfl | rfl | rfl | rfl | rfl | rfl | rfl | rfl | rfl | rfl | rfl | rfl | rfl | rfl | rfl | rfl | rfl | rfl | rfl | rfl | rfl | rfl | rfl | rfl | rfl <;> first | exact .inr rfl | exact .inl rfl)) (List.Perm.swap _ _ _)
      ·refine A8 (R':=[15,23,24,25]) rfl rfl rfl rfl (by decide) (Aw (zs:=[.v (.int .i64 0),.v (.int .i64 0),.v (.int .i64 0),.v (.slice none 0 0)]) runUnderlying49 zeroValue49 (Fp _ runUnderlying49) rfl rfl rfl rfl) ?_
       rintro _ _ ⟨rfl,rfl⟩;refine zg2 15 23 ?_ ?_
       ·refine A8 (R':=[23,24,25]) rfl rfl rfl rfl (by decide) (Aw (zs:=[.bool false,.v (.int .i64 0),.v (.int .i64 0),.v (.int .i64 0),.v (.slice none 0 0)]) runUnderlying143 zeroValue143 (Ct _ runUnderlying143) rfl rfl rfl rfl) ?_
        rintro _ _ ⟨rfl,rfl⟩;refine zg1 23 ?_;refine A8 (R':=[24,25]) rfl rfl rfl rfl (by decide) (Aw (zs:=[.bool false,.v (.int .i64 0),.v (.int .i64 0),.v (.int .i64 0),.v (.slice none 0 0)]) runUnderlying143 zeroValue143 (Ct _ runUnderlying143) rfl rfl rfl rfl) ?_;rintro _ _ ⟨rfl,rfl⟩;refine zg1 24 ?_;refine A8 (R':=[25]) rfl rfl rfl rfl (by decide) (Aj (xs:=[_,_,_]) (f:=TB.d) (l:=(thC s (⟨7,0,0,s.fields.map edgeF,a1,m1,c1⟩:NodeB AFd) (⟨8,0,0,s.tags.map edgeF,a2,m2,c2⟩:NodeB AFd))) runUnderlying144 sizeOf143 zeroValue143 rfl rfl rfl (fun _=>⟨rfl,rfl,rfl⟩) rfl) ?_;rintro _ _ ⟨rfl,rfl⟩;refine zg1 25 ?_;refine zgp ?_;exact Cg ((a1,m1,c1),a2,m2,c2) (E7 (M0:=[(83,_),(82,_),(81,_)]) (N0:=[(82,_),(81,_),(80,_),(72,_),(79,_),(78,_),(71,_),(70,_),(83,_),(77,_),(76,_),(75,_),(74,_),(73,_),(69,_),(68,_),(67,_),(66,_),(65,_),(64,_),(63,_),(62,_),(61,_),(60,_),(59,_),(58,_),(57,_)]) (by intro p hp;simp only [List.mem_cons,List.not_mem_nil,or_false] at hp;rcases hp with rfl | rfl | rfl <;> rfl) (by intro p hp;simp only [List.mem_cons,List.not_mem_nil,or_false] at hp;rcases hp with rfl | rfl | rfl | rfl | rfl | rfl | rfl | rfl | rfl | rfl | rfl | rfl | rfl | rfl | rfl | rfl | rfl | rfl | rfl | rfl | rfl | rfl | rfl | rfl | rfl | rfl | rfl <;> first | exact .inr rfl | exact .inl rfl)) (List.Perm.swap _ _ _)
       ·refine A8 (R':=[15,24,25]) rfl rfl rfl rfl (by decide) (Aw (zs:=[.bool false,.v (.int .i64 0),.v (.int .i64 0),.v (.int .i64 0),.v (.slice none 0 0)]) runUnderlying143 zeroValue143 (Ct _ runUnderlying143) rfl rfl rfl rfl) ?_
        rintro _ _ ⟨rfl,rfl⟩;refine zg1 15 ?_;refine A8 (R':=[24,25]) rfl rfl rfl rfl (by decide) (Aw (zs:=[.bool false,.v (.int .i64 0),.v (.int .i64 0),.v (.int .i64 0),.v (.slice none 0 0)]) runUnderlying143 zeroValue143 (Ct _ runUnderlying143) rfl rfl rfl rfl) ?_;rintro _ _ ⟨rfl,rfl⟩;refine zg1 24 ?_;refine A8 (R':=[25]) rfl rfl rfl rfl (by decide) (Aj (xs:=[_,_,_]) (f:=TB.d) (l:=(thC s (⟨7,0,0,s.fields.map edgeF,a1,m1,c1⟩:NodeB AFd) (⟨8,0,0,s.tags.map edgeF,a2,m2,c2⟩:NodeB AFd))) runUnderlying144 sizeOf143 zeroValue143 rfl rfl rfl (fun _=>⟨rfl,rfl,rfl⟩) rfl) ?_;rintro _ _ ⟨rfl,rfl⟩;refine zg1 25 ?_;refine zgp ?_;exact Cg ((a1,m1,c1),a2,m2,c2) (E7 (M0:=[(83,_),(82,_),(81,_)]) (N0:=[(82,_),(81,_),(72,_),(80,_),(79,_),(78,_),(71,_),(70,_),(83,_),(77,_),(76,_),(75,_),(74,_),(73,_),(69,_),(68,_),(67,_),(66,_),(65,_),(64,_),(63,_),(62,_),(61,_),(60,_),(59,_),(58,_),(57,_)]) (by intro p hp;simp only [List.mem_cons,List.not_mem_nil,or_false] at hp;rcases hp with rfl | rfl | rfl <;> rfl) (by intro p hp;simp only [List.mem_cons,List.not_mem_nil,or_false] at hp;rcases hp with rfl | rfl | rfl | rfl | rfl | rfl | rfl | rfl | rfl | rfl | rfl | rfl | rfl | rfl | rfl | rfl | rfl | rfl | rfl | rfl | rfl | rfl | rfl | rfl | rfl | rfl | rfl <;> first | exact .inr rfl | exact .inl rfl)) (List.Perm.swap _ _ _)
    ·refine A8 (R':=[14,15,22,23,24,25]) rfl rfl rfl rfl (by decide) (Ey (ms₁:=[]) call99 rfl (List.Perm.refl _) (IC ht)) ?_
     rintro _ _ ⟨_,⟨a2,m2,c2,rfl,rfl⟩,rfl⟩;refine zg2 14 22 ?_ ?_
     ·refine A8 (R':=[15,22,23,24,25]) rfl rfl rfl rfl (by decide) (Aw (zs:=[.v (.int .i64 0),.v (.int .i64 0),.v (.int .i64 0),.v (.slice none 0 0)]) runUnderlying49 zeroValue49 (Fp _ runUnderlying49) rfl rfl rfl rfl) ?_
      rintro _ _ ⟨rfl,rfl⟩;refine zg2 15 22 ?_ ?_
      ·refine A8 (R':=[22,23,24,25]) rfl rfl rfl rfl (by decide) (Aw (zs:=[.bool false,.v (.int .i64 0),.v (.int .i64 0),.v (.int .i64 0),.v (.slice none 0 0)]) runUnderlying143 zeroValue143 (Ct _ runUnderlying143) rfl rfl rfl rfl) ?_
       rintro _ _ ⟨rfl,rfl⟩;refine zg1 22 ?_;refine A8 (R':=[23,24,25]) rfl rfl rfl rfl (by decide) (Aw (zs:=[.v (.int .i64 0),.v (.int .i64 0),.v (.int .i64 0),.v (.slice none 0 0)]) runUnderlying49 zeroValue49 (Fp _ runUnderlying49) rfl rfl rfl rfl) ?_;rintro _ _ ⟨rfl,rfl⟩;refine zg1 23 ?_;refine A8 (R':=[24,25]) rfl rfl rfl rfl (by decide) (Aw (zs:=[.bool false,.v (.int .i64 0),.v (.int .i64 0),.v (.int .i64 0),.v (.slice none 0 0)]) runUnderlying143 zeroValue143 (Ct _ runUnderlying143) rfl rfl rfl rfl) ?_;rintro _ _ ⟨rfl,rfl⟩;refine zg1 24 ?_;refine A8 (R':=[25]) rfl rfl rfl rfl (by decide) (Aj (xs:=[_,_,_]) (f:=TB.d) (l:=(thC s (⟨7,0,0,s.fields.map edgeF,a1,m1,c1⟩:NodeB AFd) (⟨8,0,0,s.tags.map edgeF,a2,m2,c2⟩:NodeB AFd))) runUnderlying144 sizeOf143 zeroValue143 rfl rfl rfl (fun _=>⟨rfl,rfl,rfl⟩) rfl) ?_;rintro _ _ ⟨rfl,rfl⟩;refine zg1 25 ?_;refine zgp ?_;exact Cg ((a1,m1,c1),a2,m2,c2) (E7 (M0:=[(83,_),(82,_),(81,_)]) (N0:=[(82,_),(81,_),(80,_),(79,_),(72,_),(71,_),(78,_),(70,_),(83,_),(77,_),(76,_),(75,_),(74,_),(73,_),(69,_),(68,_),(67,_),(66,_),(65,_),(64,_),(63,_),(62,_),(61,_),(60,_),(59,_),(58,_),(57,_)]) (by intro p hp;simp only [List.mem_cons,List.not_mem_nil,or_false] at hp;rcases hp with rfl | rfl | rfl <;> rfl) (by intro p hp;simp only [List.mem_cons,List.not_mem_nil,or_false] at hp;rcases hp with rfl | rfl | rfl | rfl | rfl | rfl | rfl | rfl | rfl | rfl | rfl | rfl | rfl | rfl | rfl | rfl | rfl | rfl | rfl | rfl | rfl | rfl | rfl | rfl | rfl | rfl | rfl <;> first | exact .inr rfl | exact .inl rfl)) (List.Perm.swap _ _ _)
      ·refine A8 (R':=[15,23,24,25]) rfl rfl rfl rfl (by decide) (Aw (zs:=[.v (.int .i64 0),.v (.int .i64 0),.v (.int .i64 0),.v (.slice none 0 0)]) runUnderlying49 zeroValue49 (Fp _ runUnderlying49) rfl rfl rfl rfl) ?_
       rintro _ _ ⟨rfl,rfl⟩;refine zg2 15 23 ?_ ?_
       ·refine A8 (R':=[23,24,25]) rfl rfl rfl rfl (by decide) (Aw (zs:=[.bool false,.v (.int .i64 0),.v (.int .i64 0),.v (.int .i64 0),.v (.slice none 0 0)]) runUnderlying143 zeroValue143 (Ct _ runUnderlying143) rfl rfl rfl rfl) ?_
        rintro _ _ ⟨rfl,rfl⟩;refine zg1 23 ?_;refine A8 (R':=[24,25]) rfl rfl rfl rfl (by decide) (Aw (zs:=[.bool false,.v (.int .i64 0),.v (.int .i64 0),.v (.int .i64 0),.v (.slice none 0 0)]) runUnderlying143 zeroValue143 (Ct _ runUnderlying143) rfl rfl rfl rfl) ?_;rintro _ _ ⟨rfl,rfl⟩;refine zg1 24 ?_;refine A8 (R':=[25]) rfl rfl rfl rfl (by decide) (Aj (xs:=[_,_,_]) (f:=TB.d) (l:=(thC s (⟨7,0,0,s.fields.map edgeF,a1,m1,c1⟩:NodeB AFd) (⟨8,0,0,s.tags.map edgeF,a2,m2,c2⟩:NodeB AFd))) runUnderlying144 sizeOf143 zeroValue143 rfl rfl rfl (fun _=>⟨rfl,rfl,rfl⟩) rfl) ?_;rintro _ _ ⟨rfl,rfl⟩;refine zg1 25 ?_;refine zgp ?_;exact Cg ((a1,m1,c1),a2,m2,c2) (E7 (M0:=[(83,_),(82,_),(81,_)]) (N0:=[(82,_),(81,_),(80,_),(72,_),(79,_),(71,_),(78,_),(70,_),(83,_),(77,_),(76,_),(75,_),(74,_),(73,_),(69,_),(68,_),(67,_),(66,_),(65,_),(64,_),(63,_),(62,_),(61,_),(60,_),(59,_),(58,_),(57,_)]) (by intro p hp;simp only [List.mem_cons,List.not_mem_nil,or_false] at hp;rcases hp with rfl | rfl | rfl <;> rfl) (by intro p hp;simp only [List.mem_cons,List.not_mem_nil,or_false] at hp;rcases hp with rfl | rfl | rfl | rfl | rfl | rfl | rfl | rfl | rfl | rfl | rfl | rfl | rfl | rfl | rfl | rfl | rfl | rfl | rfl | rfl | rfl | rfl | rfl | rfl | rfl | rfl | rfl <;> first | exact .inr rfl | exact .inl rfl)) (List.Perm.swap _ _ _)
       ·refine A8 (R':=[15,24,25]) rfl rfl rfl rfl (by decide) (Aw (zs:=[.bool false,.v (.int .i64 0),.v (.int .i64 0),.v (.int .i64 0),.v (.slice none 0 0)]) runUnderlying143 zeroValue143 (Ct _ runUnderlying143) rfl rfl rfl rfl) ?_
        rintro _ _ ⟨rfl,rfl⟩;refine zg1 15 ?_;refine A8 (R':=[24,25]) rfl rfl rfl rfl (by decide) (Aw (zs:=[.bool false,.v (.int .i64 0),.v (.int .i64 0),.v (.int .i64 0),.v (.slice none 0 0)]) runUnderlying143 zeroValue143 (Ct _ runUnderlying143) rfl rfl rfl rfl) ?_;rintro _ _ ⟨rfl,rfl⟩;refine zg1 24 ?_;refine A8 (R':=[25]) rfl rfl rfl rfl (by decide) (Aj (xs:=[_,_,_]) (f:=TB.d) (l:=(thC s (⟨7,0,0,s.fields.map edgeF,a1,m1,c1⟩:NodeB AFd) (⟨8,0,0,s.tags.map edgeF,a2,m2,c2⟩:NodeB AFd))) runUnderlying144 sizeOf143 zeroValue143 rfl rfl rfl (fun _=>⟨rfl,rfl,rfl⟩) rfl) ?_;rintro _ _ ⟨rfl,rfl⟩;refine zg1 25 ?_;refine zgp ?_;exact Cg ((a1,m1,c1),a2,m2,c2) (E7 (M0:=[(83,_),(82,_),(81,_)]) (N0:=[(82,_),(81,_),(72,_),(80,_),(79,_),(71,_),(78,_),(70,_),(83,_),(77,_),(76,_),(75,_),(74,_),(73,_),(69,_),(68,_),(67,_),(66,_),(65,_),(64,_),(63,_),(62,_),(61,_),(60,_),(59,_),(58,_),(57,_)]) (by intro p hp;simp only [List.mem_cons,List.not_mem_nil,or_false] at hp;rcases hp with rfl | rfl | rfl <;> rfl) (by intro p hp;simp only [List.mem_cons,List.not_mem_nil,or_false] at hp;rcases hp with rfl | rfl | rfl | rfl | rfl | rfl | rfl | rfl | rfl | rfl | rfl | rfl | rfl | rfl | rfl | rfl | rfl | rfl | rfl | rfl | rfl | rfl | rfl | rfl | rfl | rfl | rfl <;> first | exact .inr rfl | exact .inl rfl)) (List.Perm.swap _ _ _)
     ·refine A8 (R':=[14,15,23,24,25]) rfl rfl rfl rfl (by decide) (Aw (zs:=[.v (.int .i64 0),.v (.int .i64 0),.v (.int .i64 0),.v (.slice none 0 0)]) runUnderlying49 zeroValue49 (Fp _ runUnderlying49) rfl rfl rfl rfl) ?_
      rintro _ _ ⟨rfl,rfl⟩;refine zg2 14 23 ?_ ?_
      ·refine A8 (R':=[15,23,24,25]) rfl rfl rfl rfl (by decide) (Aw (zs:=[.v (.int .i64 0),.v (.int .i64 0),.v (.int .i64 0),.v (.slice none 0 0)]) runUnderlying49 zeroValue49 (Fp _ runUnderlying49) rfl rfl rfl rfl) ?_
       rintro _ _ ⟨rfl,rfl⟩;refine zg2 15 23 ?_ ?_
       ·refine A8 (R':=[23,24,25]) rfl rfl rfl rfl (by decide) (Aw (zs:=[.bool false,.v (.int .i64 0),.v (.int .i64 0),.v (.int .i64 0),.v (.slice none 0 0)]) runUnderlying143 zeroValue143 (Ct _ runUnderlying143) rfl rfl rfl rfl) ?_
        rintro _ _ ⟨rfl,rfl⟩;refine zg1 23 ?_;refine A8 (R':=[24,25]) rfl rfl rfl rfl (by decide) (Aw (zs:=[.bool false,.v (.int .i64 0),.v (.int .i64 0),.v (.int .i64 0),.v (.slice none 0 0)]) runUnderlying143 zeroValue143 (Ct _ runUnderlying143) rfl rfl rfl rfl) ?_;rintro _ _ ⟨rfl,rfl⟩;refine zg1 24 ?_;refine A8 (R':=[25]) rfl rfl rfl rfl (by decide) (Aj (xs:=[_,_,_]) (f:=TB.d) (l:=(thC s (⟨7,0,0,s.fields.map edgeF,a1,m1,c1⟩:NodeB AFd) (⟨8,0,0,s.tags.map edgeF,a2,m2,c2⟩:NodeB AFd))) runUnderlying144 sizeOf143 zeroValue143 rfl rfl rfl (fun _=>⟨rfl,rfl,rfl⟩) rfl) ?_;rintro _ _ ⟨rfl,rfl⟩;refine zg1 25 ?_;refine zgp ?_;exact Cg ((a1,m1,c1),a2,m2,c2) (E7 (M0:=[(83,_),(82,_),(81,_)]) (N0:=[(82,_),(81,_),(80,_),(72,_),(71,_),(79,_),(78,_),(70,_),(83,_),(77,_),(76,_),(75,_),(74,_),(73,_),(69,_),(68,_),(67,_),(66,_),(65,_),(64,_),(63,_),(62,_),(61,_),(60,_),(59,_),(58,_),(57,_)]) (by intro p hp;simp only [List.mem_cons,List.not_mem_nil,or_false] at hp;rcases hp with rfl | rfl | rfl <;> rfl) (by intro p hp;simp only [List.mem_cons,List.not_mem_nil,or_false] at hp;rcases hp with rfl | rfl | rfl | rfl | rfl | rfl | rfl | rfl | rfl | rfl | rfl | rfl | rfl | rfl | rfl | rfl | rfl | rfl | rfl | rfl | rfl | rfl | rfl | rfl | rfl | rfl | rfl <;> first | exact .inr rfl | exact .inl rfl)) (List.Perm.swap _ _ _)
       ·refine A8 (R':=[15,24,25]) rfl rfl rfl rfl (by decide) (Aw (zs:=[.bool false,.v (.int .i64 0),.v (.int .i64 0),.v (.int .i64 0),.v (.slice none 0 0)]) runUnderlying143 zeroValue143 (Ct _ runUnderlying143) rfl rfl rfl rfl) ?_
        rintro _ _ ⟨rfl,rfl⟩;refine zg1 15 ?_;refine A8 (R':=[24,25]) rfl rfl rfl rfl (by decide) (Aw (zs:=[.bool false,.v (.int .i64 0),.v (.int .i64 0),.v (.int .i64 0),.v (.slice none 0 0)]) runUnderlying143 zeroValue143 (Ct _ runUnderlying143) rfl rfl rfl rfl) ?_;rintro _ _ ⟨rfl,rfl⟩;refine zg1 24 ?_;refine A8 (R':=[25]) rfl rfl rfl rfl (by decide) (Aj (xs:=[_,_,_]) (f:=TB.d) (l:=(thC s (⟨7,0,0,s.fields.map edgeF,a1,m1,c1⟩:NodeB AFd) (⟨8,0,0,s.tags.map edgeF,a2,m2,c2⟩:NodeB AFd))) runUnderlying144 sizeOf143 zeroValue143 rfl rfl rfl (fun _=>⟨rfl,rfl,rfl⟩) rfl) ?_;rintro _ _ ⟨rfl,rfl⟩;refine zg1 25 ?_;refine zgp ?_;exact Cg ((a1,m1,c1),a2,m2,c2) (E7 (M0:=[(83,_),(82,_),(81,_)]) (N0:=[(82,_),(81,_),(72,_),(80,_),(71,_),(79,_),(78,_),(70,_),(83,_),(77,_),(76,_),(75,_),(74,_),(73,_),(69,_),(68,_),(67,_),(66,_),(65,_),(64,_),(63,_),(62,_),(61,_),(60,_),(59,_),(58,_),(57,_)]) (by intro p hp;simp only [List.mem_cons,List.not_mem_nil,or_false] at hp;rcases hp with rfl | rfl | rfl <;> rfl) (by intro p hp;simp only [List.mem_cons,List.not_mem_nil,or_false] at hp;rcases hp with rfl | rfl | rfl | rfl | rfl | rfl | rfl | rfl | rfl | rfl | rfl | rfl | rfl | rfl | rfl | rfl | rfl | rfl | rfl | rfl | rfl | rfl | rfl | rfl | rfl | rfl | rfl <;> first | exact .inr rfl | exact .inl rfl)) (List.Perm.swap _ _ _)
      ·refine A8 (R':=[14,15,24,25]) rfl rfl rfl rfl (by decide) (Aw (zs:=[.bool false,.v (.int .i64 0),.v (.int .i64 0),.v (.int .i64 0),.v (.slice none 0 0)]) runUnderlying143 zeroValue143 (Ct _ runUnderlying143) rfl rfl rfl rfl) ?_
       rintro _ _ ⟨rfl,rfl⟩;refine zg1 14 ?_;refine A8 (R':=[15,24,25]) rfl rfl rfl rfl (by decide) (Aw (zs:=[.v (.int .i64 0),.v (.int .i64 0),.v (.int .i64 0),.v (.slice none 0 0)]) runUnderlying49 zeroValue49 (Fp _ runUnderlying49) rfl rfl rfl rfl) ?_;rintro _ _ ⟨rfl,rfl⟩;refine zg1 15 ?_;refine A8 (R':=[24,25]) rfl rfl rfl rfl (by decide) (Aw (zs:=[.bool false,.v (.int .i64 0),.v (.int .i64 0),.v (.int .i64 0),.v (.slice none 0 0)]) runUnderlying143 zeroValue143 (Ct _ runUnderlying143) rfl rfl rfl rfl) ?_;rintro _ _ ⟨rfl,rfl⟩;refine zg1 24 ?_;refine A8 (R':=[25]) rfl rfl rfl rfl (by decide) (Aj (xs:=[_,_,_]) (f:=TB.d) (l:=(thC s (⟨7,0,0,s.fields.map edgeF,a1,m1,c1⟩:NodeB AFd) (⟨8,0,0,s.tags.map edgeF,a2,m2,c2⟩:NodeB AFd))) runUnderlying144 sizeOf143 zeroValue143 rfl rfl rfl (fun _=>⟨rfl,rfl,rfl⟩) rfl) ?_;rintro _ _ ⟨rfl,rfl⟩;refine zg1 25 ?_;refine zgp ?_;exact Cg ((a1,m1,c1),a2,m2,c2) (E7 (M0:=[(83,_),(82,_),(81,_)]) (N0:=[(82,_),(81,_),(72,_),(71,_),(80,_),(79,_),(78,_),(70,_),(83,_),(77,_),(76,_),(75,_),(74,_),(73,_),(69,_),(68,_),(67,_),(66,_),(65,_),(64,_),(63,_),(62,_),(61,_),(60,_),(59,_),(58,_),(57,_)]) (by intro p hp;simp only [List.mem_cons,List.not_mem_nil,or_false] at hp;rcases hp with rfl | rfl | rfl <;> rfl) (by intro p hp;simp only [List.mem_cons,List.not_mem_nil,or_false] at hp;rcases hp with rfl | rfl | rfl | rfl | rfl | rfl | rfl | rfl | rfl | rfl | rfl | rfl | rfl | rfl | rfl | rfl | rfl | rfl | rfl | rfl | rfl | rfl | rfl | rfl | rfl | rfl | rfl <;> first | exact .inr rfl | exact .inl rfl)) (List.Perm.swap _ _ _)
   ·rintro ⟨⟨a1,m1,c1⟩,a2,m2,c2⟩
    refine Al (L':=[(83,.i64 0),(82,.i64 3),(81,.list 5 TB.d (thC s (⟨7,0,0,s.fields.map edgeF,a1,m1,c1⟩:NodeB AFd) (⟨8,0,0,s.tags.map edgeF,a2,m2,c2⟩:NodeB AFd))),(48,_),(47,_),(0,_),(1,_),(3,_),(45,_),(46,_)]) (ms':=[NodeB.own 71 2 AFd.d (⟨7,0,0,s.fields.map edgeF,a1,m1,c1⟩:NodeB AFd),NodeB.own 71 2 AFd.d (⟨8,0,0,s.tags.map edgeF,a2,m2,c2⟩:NodeB AFd)]++tl) rfl rfl ?_
    generalize hX:(⟨7,0,0,s.fields.map edgeF,a1,m1,c1⟩:NodeB AFd)=X
    generalize hY:(⟨8,0,0,s.tags.map edgeF,a2,m2,c2⟩:NodeB AFd)=Y
    have hXY:onB (thC s X Y)=pC:=by rw [<- hC,<- hX,<- hY];unfold onB thC;cases s.arrow <;> cases s.rec_ <;> cases s.tag <;> rfl
    clear hC hX hY
    refine Am ?_;refine Fh [(0,_),(81,_),(82,_)] (fun (z:Nat×List Asrt)=>z.1<=3/\J ((onB (thA s)++s.vars.map fun v=>(⟨11,v,0,[]⟩:ANd))++onB ((thC s X Y).take z.1)) z.2) (fun z=>[(83,.i64 (z.1:Int))]) (fun z=>(if z.1<=1 then [NodeB.own 71 2 AFd.d X,NodeB.own 71 2 AFd.d Y] else if z.1<=2 then [NodeB.own 71 2 AFd.d Y] else [])++z.2) (fun z=>3 - z.1) (0,tl) ⟨Nat.zero_le _,by rw [List.take_zero];exact (List.append_nil _).symm▸hJ⟩ ⟨rfl,rfl,rfl,trivial⟩ ⟨rfl,trivial⟩ rfl ?_;rintro ⟨i,tl⟩ ⟨hi,hJ⟩
    have hi:i<=3:=hi
    have hJ:J ((onB (thA s)++s.vars.map fun v=>(⟨11,v,0,[]⟩:ANd))++onB ((thC s X Y).take i)) tl:=hJ
    have hpre:∀ j,((onB (thA s)++s.vars.map fun v=>(⟨11,v,0,[]⟩:ANd))++onB ((thC s X Y).take j)) <+: B9 s:=by
     intro j
     rw [hP,<- List.append_assoc,<- hXY];exact List.prefix_append_right_inj _ |>.2 (QF _ _)
    rcases i with _ | _ | _ | _ | i
    ·refine Ao (L':=[(83,.i64 0),(0,_),(81,_),(82,_)]) (ms':=[NodeB.own 71 2 AFd.d X,NodeB.own 71 2 AFd.d Y]++tl) rfl rfl ?_
     refine zq5 ?_;refine Bt rfl rfl ?_
     have hstep:∀ bv,s.arrow=bv->((onB (thA s)++s.vars.map fun v=>(⟨11,v,0,[]⟩:ANd))++onB ((thC s X Y).take 1))=((onB (thA s)++s.vars.map fun v=>(⟨11,v,0,[]⟩:ANd))++onB ((thC s X Y).take 0))++(bif bv then [nodN (ndB 6 s.dom s.cod)] else []):=by
      intro bv e
      rw [Jr (l:=thC s X Y) (i:=0) (b:=s.arrow) (x:=ndB 6 s.dom s.cod) rfl,e];simp only [List.append_assoc]
     refine zq5 ?_;refine Ai rfl rfl rfl (oIm runUnderlying144 sizeOf143 rfl rfl (show idx (thC s X Y) 0=some (s.arrow,ndB 6 s.dom s.cod) from rfl)) ?_;refine zq1 ?_;refine KG fun b1=>?_
     cases hb:s.arrow with
     | true =>
      refine zst 0 ?_;refine Ak (ms':=[box b1 143 [.bool true,.i64 6,.i64 s.dom,.i64 s.cod,.v (.slice none 0 0)]]++([NodeB.own 71 2 AFd.d X,NodeB.own 71 2 AFd.d Y]++tl)) rfl ?_;refine zq3 ?_;refine Ai rfl rfl rfl (oFb FN rfl) ?_;refine zq3 ?_;refine gWp rfl rfl rfl rfl rfl rfl (oFb JH rfl) ?_;refine zq1 ?_;refine Ap (BD (T:=71) (sz:=2) (f:=AFd.d)) ?_;refine Jl rfl rfl rfl rfl rfl rfl (Ie (tl:=tl) (As:=[NodeB.own 71 2 AFd.d (ndB 6 s.dom s.cod)]) (own:=[box b1 143 [.bool true,.i64 6,.i64 s.dom,.i64 s.cod,.v (.slice none 0 0)],NodeB.own 71 2 AFd.d X,NodeB.own 71 2 AFd.d Y]) rfl rfl ((List.perm_append_comm (l₁:=[box b1 143 [.bool true,.i64 6,.i64 s.dom,.i64 s.cod,.v (.slice none 0 0)],NodeB.own 71 2 AFd.d X,NodeB.own 71 2 AFd.d Y]) (l₂:=tl)).cons _) (hy _ [NodeB.d (ndB 6 s.dom s.cod)] _ ((onB (thA s)++s.vars.map fun v=>(⟨11,v,0,[]⟩:ANd))++onB ((thC s X Y).take 1)) tl ⟨ndB 6 s.dom s.cod,rfl,rfl,hstep true hb,hpre 1⟩ hJ)) ?_;rintro _ _ ⟨tl',⟨rfl,hJ'⟩ | ⟨rfl,hJx⟩,rfl⟩
      ·refine zq3 ?_
       refine A3 rfl rfl ?_;refine zq2 ?_;refine Ai rfl rfl rfl (Gy rfl rfl (CO (by constructor <;> omega))) ?_;refine zq2 ?_;exact ⟨(1,tl'),⟨(show (1:Nat)<=3 by decide),hJ'⟩,(show 3 - (1:Nat)<3 - 0 by decide),⟨rfl,trivial⟩,⟨rfl,rfl,rfl,trivial⟩,[_],rfl⟩
      ·refine zq3 ?_
       refine Bt rfl rfl ?_;refine Ae ?_;exact retK (DQ (ms':=tl') (drop:=[box b1 143 [.bool true,.i64 6,.i64 s.dom,.i64 s.cod,.v (.slice none 0 0)],NodeB.own 71 2 AFd.d X,NodeB.own 71 2 AFd.d Y]) rfl (List.Perm.refl _)) (.inr hJx)
     | false =>
      refine zst 0 ?_;refine Ak (ms':=[box b1 143 [.bool false,.i64 6,.i64 s.dom,.i64 s.cod,.v (.slice none 0 0)]]++([NodeB.own 71 2 AFd.d X,NodeB.own 71 2 AFd.d Y]++tl)) rfl ?_;refine zq3 ?_;refine Ai rfl rfl rfl (oFb FN rfl) ?_;refine zq9 ?_;refine A3 rfl rfl ?_;refine zq2 ?_;refine Ai rfl rfl rfl (Gy rfl rfl (CO (by constructor <;> omega))) ?_;refine zq2 ?_
      have hJ2:J ((onB (thA s)++s.vars.map fun v=>(⟨11,v,0,[]⟩:ANd))++onB ((thC s X Y).take 1)) tl:=by rw [hstep false hb,cF_,List.append_nil];exact hJ
      exact ⟨(1,tl),⟨(show (1:Nat)<=3 by decide),hJ2⟩,(show 3 - (1:Nat)<3 - 0 by decide),⟨rfl,trivial⟩,⟨rfl,rfl,rfl,trivial⟩,[_],rfl⟩
    ·refine Ao (L':=[(83,.i64 1),(0,_),(81,_),(82,_)]) (ms':=[NodeB.own 71 2 AFd.d X,NodeB.own 71 2 AFd.d Y]++tl) rfl rfl ?_
     refine zq5 ?_;refine Bt rfl rfl ?_
     have hstep:∀ bv,s.rec_=bv->((onB (thA s)++s.vars.map fun v=>(⟨11,v,0,[]⟩:ANd))++onB ((thC s X Y).take 2))=((onB (thA s)++s.vars.map fun v=>(⟨11,v,0,[]⟩:ANd))++onB ((thC s X Y).take 1))++(bif bv then [nodN (X)] else []):=by
      intro bv e
      rw [Jr (l:=thC s X Y) (i:=1) (b:=s.rec_) (x:=X) rfl,e];simp only [List.append_assoc]
     refine zq5 ?_;refine Ai rfl rfl rfl (oIm runUnderlying144 sizeOf143 rfl rfl (show idx (thC s X Y) 1=some (s.rec_,X) from rfl)) ?_;refine zq1 ?_;refine KG fun b1=>?_
     cases hb:s.rec_ with
     | true =>
      refine zst 0 ?_;refine Ak (ms':=[box b1 143 [.bool true,.i64 X.kind,.i64 X.a,.i64 X.b,.v (.slice X.p X.m X.c)]]++([NodeB.own 71 2 AFd.d X,NodeB.own 71 2 AFd.d Y]++tl)) rfl ?_;refine zq3 ?_;refine Ai rfl rfl rfl (oFb FN rfl) ?_;refine zq3 ?_;refine gWp rfl rfl rfl rfl rfl rfl (oFb JH rfl) ?_;refine zq1 ?_;refine Jl rfl rfl rfl rfl rfl rfl (Ie (tl:=tl) (As:=[NodeB.own 71 2 AFd.d (X)]) (own:=[box b1 143 [.bool true,.i64 X.kind,.i64 X.a,.i64 X.b,.v (.slice X.p X.m X.c)],NodeB.own 71 2 AFd.d Y]) rfl rfl ((List.Perm.swap _ _ _).trans ((List.perm_append_comm (l₁:=[box b1 143 [.bool true,.i64 X.kind,.i64 X.a,.i64 X.b,.v (.slice X.p X.m X.c)],NodeB.own 71 2 AFd.d Y]) (l₂:=tl)).cons _)) (hy _ [NodeB.d (X)] _ ((onB (thA s)++s.vars.map fun v=>(⟨11,v,0,[]⟩:ANd))++onB ((thC s X Y).take 2)) tl ⟨X,rfl,rfl,hstep true hb,hpre 2⟩ hJ)) ?_;rintro _ _ ⟨tl',⟨rfl,hJ'⟩ | ⟨rfl,hJx⟩,rfl⟩
      ·refine zq3 ?_
       refine A3 rfl rfl ?_;refine zq2 ?_;refine Ai rfl rfl rfl (Gy rfl rfl (CO (by constructor <;> omega))) ?_;refine zq2 ?_;exact ⟨(2,tl'),⟨(show (2:Nat)<=3 by decide),hJ'⟩,(show 3 - (2:Nat)<3 - 1 by decide),⟨rfl,trivial⟩,⟨rfl,rfl,rfl,trivial⟩,[_],rfl⟩
      ·refine zq3 ?_
       refine Bt rfl rfl ?_;refine Ae ?_;exact retK (DQ (ms':=tl') (drop:=[box b1 143 [.bool true,.i64 X.kind,.i64 X.a,.i64 X.b,.v (.slice X.p X.m X.c)],NodeB.own 71 2 AFd.d Y]) rfl (List.Perm.refl _)) (.inr hJx)
     | false =>
      refine zst 0 ?_;refine Ak (ms':=[box b1 143 [.bool false,.i64 X.kind,.i64 X.a,.i64 X.b,.v (.slice X.p X.m X.c)]]++([NodeB.own 71 2 AFd.d X,NodeB.own 71 2 AFd.d Y]++tl)) rfl ?_;refine zq3 ?_;refine Ai rfl rfl rfl (oFb FN rfl) ?_;refine zq9 ?_;refine A3 rfl rfl ?_;refine zq2 ?_;refine Ai rfl rfl rfl (Gy rfl rfl (CO (by constructor <;> omega))) ?_;refine zq2 ?_
      have hJ2:J ((onB (thA s)++s.vars.map fun v=>(⟨11,v,0,[]⟩:ANd))++onB ((thC s X Y).take 2)) tl:=by rw [hstep false hb,cF_,List.append_nil];exact hJ
      exact ⟨(2,tl),⟨(show (2:Nat)<=3 by decide),hJ2⟩,(show 3 - (2:Nat)<3 - 1 by decide),⟨rfl,trivial⟩,⟨rfl,rfl,rfl,trivial⟩,[_,_],rfl⟩
    ·refine Ao (L':=[(83,.i64 2),(0,_),(81,_),(82,_)]) (ms':=[NodeB.own 71 2 AFd.d Y]++tl) rfl rfl ?_
     refine zq5 ?_;refine Bt rfl rfl ?_
     have hstep:∀ bv,s.tag=bv->((onB (thA s)++s.vars.map fun v=>(⟨11,v,0,[]⟩:ANd))++onB ((thC s X Y).take 3))=((onB (thA s)++s.vars.map fun v=>(⟨11,v,0,[]⟩:ANd))++onB ((thC s X Y).take 2))++(bif bv then [nodN (Y)] else []):=by
      intro bv e
      rw [Jr (l:=thC s X Y) (i:=2) (b:=s.tag) (x:=Y) rfl,e];simp only [List.append_assoc]
     refine zq5 ?_;refine Ai rfl rfl rfl (oIm runUnderlying144 sizeOf143 rfl rfl (show idx (thC s X Y) 2=some (s.tag,Y) from rfl)) ?_;refine zq1 ?_;refine KG fun b1=>?_
     cases hb:s.tag with
     | true =>
      refine zst 0 ?_;refine Ak (ms':=[box b1 143 [.bool true,.i64 Y.kind,.i64 Y.a,.i64 Y.b,.v (.slice Y.p Y.m Y.c)]]++([NodeB.own 71 2 AFd.d Y]++tl)) rfl ?_;refine zq3 ?_;refine Ai rfl rfl rfl (oFb FN rfl) ?_;refine zq3 ?_;refine gWp rfl rfl rfl rfl rfl rfl (oFb JH rfl) ?_;refine zq1 ?_;refine Jl rfl rfl rfl rfl rfl rfl (Ie (tl:=tl) (As:=[NodeB.own 71 2 AFd.d (Y)]) (own:=[box b1 143 [.bool true,.i64 Y.kind,.i64 Y.a,.i64 Y.b,.v (.slice Y.p Y.m Y.c)]]) rfl rfl ((List.Perm.swap _ _ _).trans ((List.perm_append_comm (l₁:=[box b1 143 [.bool true,.i64 Y.kind,.i64 Y.a,.i64 Y.b,.v (.slice Y.p Y.m Y.c)]]) (l₂:=tl)).cons _)) (hy _ [NodeB.d (Y)] _ ((onB (thA s)++s.vars.map fun v=>(⟨11,v,0,[]⟩:ANd))++onB ((thC s X Y).take 3)) tl ⟨Y,rfl,rfl,hstep true hb,hpre 3⟩ hJ)) ?_;rintro _ _ ⟨tl',⟨rfl,hJ'⟩ | ⟨rfl,hJx⟩,rfl⟩
      ·refine zq3 ?_
       refine A3 rfl rfl ?_;refine zq2 ?_;refine Ai rfl rfl rfl (Gy rfl rfl (CO (by constructor <;> omega))) ?_;refine zq2 ?_;exact ⟨(3,tl'),⟨(show (3:Nat)<=3 by decide),hJ'⟩,(show 3 - (3:Nat)<3 - 2 by decide),⟨rfl,trivial⟩,⟨rfl,rfl,rfl,trivial⟩,[_],rfl⟩
      ·refine zq3 ?_
       refine Bt rfl rfl ?_;refine Ae ?_;exact retK (DQ (ms':=tl') (drop:=[box b1 143 [.bool true,.i64 Y.kind,.i64 Y.a,.i64 Y.b,.v (.slice Y.p Y.m Y.c)]]) rfl (List.Perm.refl _)) (.inr hJx)
     | false =>
      refine zst 0 ?_;refine Ak (ms':=[box b1 143 [.bool false,.i64 Y.kind,.i64 Y.a,.i64 Y.b,.v (.slice Y.p Y.m Y.c)]]++([NodeB.own 71 2 AFd.d Y]++tl)) rfl ?_;refine zq3 ?_;refine Ai rfl rfl rfl (oFb FN rfl) ?_;refine zq9 ?_;refine A3 rfl rfl ?_;refine zq2 ?_;refine Ai rfl rfl rfl (Gy rfl rfl (CO (by constructor <;> omega))) ?_;refine zq2 ?_
      have hJ2:J ((onB (thA s)++s.vars.map fun v=>(⟨11,v,0,[]⟩:ANd))++onB ((thC s X Y).take 3)) tl:=by rw [hstep false hb,cF_,List.append_nil];exact hJ
      exact ⟨(3,tl),⟨(show (3:Nat)<=3 by decide),hJ2⟩,(show 3 - (3:Nat)<3 - 2 by decide),⟨rfl,trivial⟩,⟨rfl,rfl,rfl,trivial⟩,[_,_],rfl⟩
    ·refine Ao (L':=[(83,.i64 3),(0,_),(81,_),(82,_)]) (ms':=tl) rfl rfl ?_
     refine zq5 ?_;refine A3 rfl rfl ?_;refine Ar ?_;refine retKn (DQ (ms':=tl) (drop:=[]) rfl (List.Perm.refl _)) (.inl ⟨_,?_,hJ⟩);rw [hP,<- List.append_assoc,<- hXY];rfl
    ·omega
end Go.Proofs.YtcoghblhdjmbfaaGreat
namespace Go.Proofs.YtcoghblhdjmbfaaGreat
open Go.V Tryz
def noB (p:Bool):Int:=bif p then 2 else 1
def joB (p:Bool):Int:=bif p then 9 else 10
def BK (off:Int) (kind:Int) (z:Int×List ANd) (n:ANd):Int×List ANd:=
 if 0<=z.1 then (off+z.2.length+1,z.2++[n]++[⟨kind,z.1,off+z.2.length,[]⟩]) else (off+z.2.length,z.2++[n])
def chB (off:Int) (kind:Int) (l:List ANd):Int×List ANd:=l.foldl (BK off kind) (-1,[])
def BB (off:Int) (s:AutoState):Int×List ANd:=
 if (chB off (joB s.plus) (B9 s)).1<0 then (off,[⟨noB s.plus,0,0,[]⟩]) else chB off (joB s.plus) (B9 s)
theorem Gh (off kind:Int) (l:List ANd) (n:ANd):chB off kind (l++[n])=BK off kind (chB off kind l) n:=by unfold chB;rw [List.foldl_append];rfl
theorem Qb (off kind:Int) (z:Int×List ANd) (n:ANd):(BK off kind z n).2.length<=z.2.length+2:=by
 unfold BK
 split <;> simp
theorem KO (off kind:Int):∀ (l:List ANd) (z:Int×List ANd),(l.foldl (BK off kind) z).2.length<=z.2.length+2*l.length
 | [],z=>by simp
 | n::l,z=>by
  have h1:=Qb off kind z n
  have h2:=KO off kind l (BK off kind z n)
  rw [List.foldl_cons,List.length_cons];omega
theorem SI (off kind:Int) (h0:0<=off):∀ (l:List ANd) (z:Int×List ANd),(-1<=z.1/\z.1<off+z.2.length) -> -1<=(l.foldl (BK off kind) z).1/\(l.foldl (BK off kind) z).1<off+(l.foldl (BK off kind) z).2.length
 | [],z,h=>h
 | n::l,z,h=>by
  rw [List.foldl_cons];refine SI off kind h0 l _ ?_;unfold BK
  split <;> simp <;> omega
theorem Pl {s:AutoState} (hv:s.vars.length<=1000):(B9 s).length<=1007:=by
 have h:∀ l:List (Bool×NodeB AFd),(onB l).length<=l.length:=fun l=>by unfold onB;rw [List.length_map];exact List.length_filter_le _ _
 have h1:=h (thA s)
 have h2:=h [(s.arrow,ndB 6 s.dom s.cod),(s.rec_,⟨7,0,0,s.fields.map edgeF,none,0,0⟩),(s.tag,⟨8,0,0,s.tags.map edgeF,none,0,0⟩)]
 unfold B9;rw [List.length_append,List.length_append,List.length_map];simp only [thA,List.length_cons,List.length_nil] at h1 h2 ⊢
 omega
theorem permJ {A B C D E F G:Asrt} {R:List Asrt}:(A::B::C::D::E::F::R).Perm (E::F::A::B::C::D::R):=by
 have h:=(List.perm_append_comm (l₁:=[A,B,C,D]) (l₂:=[E,F])).append_right R
 simpa using h
theorem permK (A J C:List Asrt):(A++(J++C)).Perm (J++(A++C)):=by
 rw [<- List.append_assoc,<- List.append_assoc];exact List.perm_append_comm.append_right C
theorem Vw {N B A P X S K:Asrt} {R:List Asrt}:(N::B::A::P::X::S::K::R).Perm ([P]++([S,K,B,A]++(R++[X]++[N]))):=by
 classical
 rw [List.perm_iff_count]
 intro a
 simp [List.count_cons,List.count_append,Nat.add_comm,Nat.add_left_comm,Nat.add_assoc]
theorem VM {B A P X S K:Asrt} {R:List Asrt}:(B::A::P::X::S::K::R).Perm ([P]++([S,K,B,A]++(R++[X]))):=by
 classical
 rw [List.perm_iff_count]
 intro a
 simp [List.count_cons,List.count_append,Nat.add_comm,Nat.add_left_comm,Nat.add_assoc]
theorem VF {N B A S K:Asrt}:[N,B,A,S,K].Perm ([S,K]++([B,A]++[N])):=by
 classical
 rw [List.perm_iff_count]
 intro a
 simp [List.count_cons,Nat.add_comm,Nat.add_left_comm,Nat.add_assoc]
theorem TO (off kind:Int) (h0:0<=off):∀ (l:List ANd) (z:Int×List ANd),(z.1<0->z.2=[])->(l.foldl (BK off kind) z).1<0->(l.foldl (BK off kind) z).2=[]
 | [],z,h,h1=>h h1
 | n::l,z,h,h1=>by
  rw [List.foldl_cons] at h1 ⊢;refine TO off kind h0 l _ (fun h2=>?_) h1;unfold BK at h2
  split at h2 <;> simp at h2 <;> omega
def JS (b b6 b7:Nat) (al:List AutoState) (st rt:Int) (a5:Option Addr) (m5 cap5:Nat) (q:List (NodeB AFd)) (kind:Int) (q0:List ANd) (ms:List Asrt):Prop:=
 ∃ (a:Option Addr) (m cap:Nat) (qn:List (NodeB AFd)) (junk:List Asrt),ms.Perm (junk++([box b7 3 [.i64 (chB (q.length:Int) kind q0).1],box b6 3 [.i64 kind],box b 65 [.list 13 AutoState.d al,.i64 st,.v (.slice a m cap),.i64 rt,.v (.slice a5 m5 cap5)],arr a m cap 49 4 NodeB.d (q++qn)]++ownsB 71 2 AFd.d qn))/\qn.map nodN=(chB (q.length:Int) kind q0).2
theorem T8 {b:Nat} {al:List AutoState} {st rt:Int} {a5:Option Addr} {m5 cap5:Nat} {a:Option Addr} {m cap:Nat} {q:List (NodeB AFd)} {s:AutoState} (hq:q.length<=50000) (hf:s.fields.length<=1000) (ht:s.tags.length<=1000) (hv:s.vars.length<=1000) :
  Go.V.Fn Tryz.prog 30 [.v (.pointer (some ⟨b,0,none⟩)),AutoState.d s] [box b 65 [.list 13 AutoState.d al,.i64 st,.v (.slice a m cap),.i64 rt,.v (.slice a5 m5 cap5)],arr a m cap 49 4 NodeB.d q]
   (fun d ms'=>d = .i64 (BB (q.length:Int) s).1/\∃ a' m' cap' qn,ms'=[box b 65 [.list 13 AutoState.d al,.i64 st,.v (.slice a' m' cap'),.i64 rt,.v (.slice a5 m5 cap5)],arr a' m' cap' 49 4 NodeB.d (q++qn)]++ownsB 71 2 AFd.d qn/\qn.map nodN=(BB (q.length:Int) s).2):=by
 have hlen:=Pl hv
 refine Ad func30 rfl ntmps30 rfl fun H0 fr w0=>?_;refine zq8 ?_;refine zal3a fun b6=>?_;refine zq1 ?_;refine zst 0 ?_;refine Ak (ms':=[box b6 3 [.i64 10],box b 65 [.list 13 AutoState.d al,.i64 st,.v (.slice a m cap),.i64 rt,.v (.slice a5 m5 cap5)],arr a m cap 49 4 NodeB.d q]) rfl ?_;refine zq2 ?_;refine SQ (σ:=Unit) [(2,.ref (.v (.pointer (some ⟨b,0,none⟩)))),(3,.ref (AutoState.d s)),(6,.v (.pointer (some ⟨b6,0,none⟩)))] (fun _=>True) (fun _=>[(5,.i64 (noB s.plus))]) (fun _=>[box b6 3 [.i64 (joB s.plus)],box b 65 [.list 13 AutoState.d al,.i64 st,.v (.slice a m cap),.i64 rt,.v (.slice a5 m5 cap5)],arr a m cap 49 4 NodeB.d q]) ?_ ?_
 ·refine zq5 ?_
  refine gCd rfl (fun hc=>?_) (fun hc=>?_)
  ·have hp:s.plus=true:=hc
   refine zq2 ?_;refine zst 0 ?_;refine Ak (ms':=[box b6 3 [.i64 9],_,_]) rfl ?_;refine gNl ?_;rw [hp];exact ⟨(),trivial,⟨rfl,trivial⟩,⟨rfl,rfl,rfl,trivial⟩,[],rfl⟩
  ·have hp:s.plus=false:=hc
   refine gSp ?_;rw [hp];exact ⟨(),trivial,⟨rfl,trivial⟩,⟨rfl,rfl,rfl,trivial⟩,[],rfl⟩
 ·rintro ⟨⟩ _
  refine Al (L':=[(5,.i64 (noB s.plus)),(2,_),(3,_),(6,_)]) (ms':=[box b6 3 [.i64 (joB s.plus)],box b 65 [.list 13 AutoState.d al,.i64 st,.v (.slice a m cap),.i64 rt,.v (.slice a5 m5 cap5)],arr a m cap 49 4 NodeB.d q]) rfl rfl ?_;refine zq2 ?_;refine zal3a fun b7=>?_;refine zst 0 ?_;refine Ak (ms':=[box b7 3 [.i64 (-1)],box b6 3 [.i64 (joB s.plus)],box b 65 [.list 13 AutoState.d al,.i64 st,.v (.slice a m cap),.i64 rt,.v (.slice a5 m5 cap5)],arr a m cap 49 4 NodeB.d q]) rfl ?_;refine zq6 ?_;refine Ai rfl rfl rfl (Bv call68 rfl Sb) ?_;refine zq2 ?_;refine M2 (caps:=_) (gf:=98) ([]:List ANd) (nxT (B9 s)) (· = B9 s) (JS b b6 b7 al st rt a5 m5 cap5 q (joB s.plus)) rfl call98 (Pq hf ht hv) ⟨a,m,cap,[],[],by rw [List.append_nil];exact List.Perm.refl _,rfl⟩ (by rintro _ _ _ _ ⟨x,rfl,_⟩;rfl) rfl ?_ ?_
  ·rintro ⟨H0r,frr,Nr,ror,w0r,hrr⟩ q0 ds As q1 ms' hN ⟨x,rfl,rfl,rfl,hpre⟩ ⟨a,m,cap,qn,junk,hperm,hqn⟩
   replace hN:Nr=35:=hN
   subst hN
   have hl0:q0.length<=1007:=by have h:=hpre.length_le;rw [List.length_append] at h;omega
   have hqn2:qn.length<=2014:=by
    have h:=KO (q.length:Int) (joB s.plus) q0 (-1,[])
    have h2:qn.length=(chB (q.length:Int) (joB s.plus) q0).2.length:=by rw [<- hqn,List.length_map]
    unfold chB at h2;simp only [List.length_nil] at h
    omega
   have hrg:=SI (q.length:Int) (joB s.plus) (by omega) q0 (-1,[]) ⟨by simp,by simp;omega⟩
   have hz2:(((chB (q.length:Int) (joB s.plus) q0).2.length:Nat):Int)=(qn.length:Int):=by rw [<- hqn,List.length_map]
   have hrg : -1<=(chB (q.length:Int) (joB s.plus) q0).1/\(chB (q.length:Int) (joB s.plus) q0).1<(q.length:Int)+((chB (q.length:Int) (joB s.plus) q0).2.length:Int):=hrg
   have hstep:=Gh (q.length:Int) (joB s.plus) q0 (nodN x)
   generalize hz:chB (q.length:Int) (joB s.plus) q0=z at *
   obtain ⟨at0,zs⟩:=z
   simp only at hqn hz2 hrg
   refine BM (CD (ms':=junk++([x.own 71 2 AFd.d]++([box b7 3 [.i64 at0],box b6 3 [.i64 (joB s.plus)],box b 65 [.list 13 AutoState.d al,.i64 st,.v (.slice a m cap),.i64 rt,.v (.slice a5 m5 cap5)],arr a m cap 49 4 NodeB.d (q++qn)]++ownsB 71 2 AFd.d qn))) ((hperm.append_left _).trans (permK _ _ _))) ?_;refine BM (Fe junk) ?_;refine Ao (L':=[(15,x.d),(14,_),(13,_),(12,_),(7,_),(5,.i64 (noB s.plus)),(2,_),(3,_),(6,_)]) (ms':=[x.own 71 2 AFd.d,box b7 3 [.i64 at0],box b6 3 [.i64 (joB s.plus)],box b 65 [.list 13 AutoState.d al,.i64 st,.v (.slice a m cap),.i64 rt,.v (.slice a5 m5 cap5)],arr a m cap 49 4 NodeB.d (q++qn)]++ownsB 71 2 AFd.d qn) rfl rfl ?_;refine gRg ?_;refine VO fun b8=>?_;refine zst 0 ?_;refine Ak (ms':=[box b8 49 [.i64 x.kind,.i64 x.a,.i64 x.b,.v (.slice x.p x.m x.c)],x.own 71 2 AFd.d,box b7 3 [.i64 at0],box b6 3 [.i64 (joB s.plus)],box b 65 [.list 13 AutoState.d al,.i64 st,.v (.slice a m cap),.i64 rt,.v (.slice a5 m5 cap5)],arr a m cap 49 4 NodeB.d (q++qn)]++ownsB 71 2 AFd.d qn) rfl ?_;refine gNl ?_;rintro ⟨H0r,frr,Nr,ror,w0r,hrr⟩ hN
   replace hN:Nr=35:=hN
   subst hN;refine zq5 ?_;refine AG rfl rfl rfl (Ey (ms₁:=[box b 65 [.list 13 AutoState.d al,.i64 st,.v (.slice a m cap),.i64 rt,.v (.slice a5 m5 cap5)],arr a m cap 49 4 NodeB.d (q++qn)]) call69 rfl (permJ (G:=box 0 0 [])) (Pu (x:=x) (by rw [List.length_append];omega))) ?_;rintro _ _ ⟨_,⟨rfl,a2,m2,cap2,rfl⟩,rfl⟩;refine zq1 ?_;refine Ak (ms':=[box b 65 [.list 13 AutoState.d al,.i64 st,.v (.slice a2 m2 cap2),.i64 rt,.v (.slice a5 m5 cap5)],arr a2 m2 cap2 49 4 NodeB.d ((q++qn)++[x]),box b8 49 [.i64 x.kind,.i64 x.a,.i64 x.b,.v (.slice x.p x.m x.c)],x.own 71 2 AFd.d,box b7 3 [.i64 at0],box b6 3 [.i64 (joB s.plus)]]++ownsB 71 2 AFd.d qn) rfl ?_;refine zq7 ?_;refine gCd rfl (fun hc=>?_) (fun hc=>?_)
   ·have h0:0<=at0:=of_decide_eq_true hc
    refine zq5 ?_;refine Ai rfl rfl rfl (Aw (zs:=[.v (.int .i64 0),.v (.int .i64 0),.v (.int .i64 0),.v (.slice none 0 0)]) runUnderlying49 zeroValue49 (Fp _ runUnderlying49) rfl rfl rfl rfl) ?_;refine AG rfl rfl rfl (Ey (ms₁:=[box b 65 [.list 13 AutoState.d al,.i64 st,.v (.slice a2 m2 cap2),.i64 rt,.v (.slice a5 m5 cap5)],arr a2 m2 cap2 49 4 NodeB.d ((q++qn)++[x])]) call69 rfl (List.Perm.refl _) (Pu (x:=ndB (joB s.plus) at0 ((q++qn).length:Int)) (by simp only [List.length_append,List.length_cons,List.length_nil];omega))) ?_;rintro _ _ ⟨_,⟨rfl,a3,m3,cap3,rfl⟩,rfl⟩;refine zq1 ?_;refine Ak (ms':=[box b 65 [.list 13 AutoState.d al,.i64 st,.v (.slice a3 m3 cap3),.i64 rt,.v (.slice a5 m5 cap5)],arr a3 m3 cap3 49 4 NodeB.d (((q++qn)++[x])++[ndB (joB s.plus) at0 ((q++qn).length:Int)]),box b8 49 [.i64 x.kind,.i64 x.a,.i64 x.b,.v (.slice x.p x.m x.c)],x.own 71 2 AFd.d,box b7 3 [.i64 at0],box b6 3 [.i64 (joB s.plus)]]++ownsB 71 2 AFd.d qn) rfl ?_;refine zq3 ?_;refine zst 4 ?_;refine Ap (BD (T:=71) (sz:=2) (f:=AFd.d)) ?_;refine gNl ?_
    have hc2:BK (q.length:Int) (joB s.plus) (at0,zs) (nodN x)=((q.length:Int)+(qn.length:Int)+1,qn.map nodN++[nodN x]++[⟨joB s.plus,at0,(q.length:Int)+(qn.length:Int),[]⟩]):=by
     unfold BK;simp only [h0,if_true,hz2,hqn]
    refine ⟨a3,m3,cap3,qn++[x]++[ndB (joB s.plus) at0 ((q++qn).length:Int)],[box b8 49 [.i64 x.kind,.i64 x.a,.i64 x.b,.v (.slice x.p x.m x.c)]],?_,?_⟩
    ·have e1:(q.length:Int)+(qn.length:Int)+1=((((q++qn)++[x]).length:Nat):Int):=by simp only [List.length_append,List.length_cons,List.length_nil];omega
     have e2:q++(qn++[x]++[ndB (joB s.plus) at0 ((q++qn).length:Int)])=((q++qn)++[x])++[ndB (joB s.plus) at0 ((q++qn).length:Int)]:=by simp only [List.append_assoc]
     rw [hstep,hc2,e1,e2,IF,IF];exact Vw
    ·rw [hstep,hc2]
     simp [nodN,ndB]
   ·have h0:¬ 0<=at0:=of_decide_eq_false hc
    refine zq3 ?_;refine zst 4 ?_;refine gNl ?_
    have hc2:BK (q.length:Int) (joB s.plus) (at0,zs) (nodN x)=((q.length:Int)+(qn.length:Int),qn.map nodN++[nodN x]):=by
     unfold BK;simp only [h0,if_false,hz2,hqn]
    refine ⟨a2,m2,cap2,qn++[x],[box b8 49 [.i64 x.kind,.i64 x.a,.i64 x.b,.v (.slice x.p x.m x.c)]],?_,?_⟩
    ·have e1:(q.length:Int)+(qn.length:Int)=(((q++qn).length:Nat):Int):=by simp only [List.length_append];omega
     have e2:q++(qn++[x])=(q++qn)++[x]:=by simp only [List.append_assoc]
     rw [hstep,hc2,e1,e2,IF];exact VM
    ·rw [hstep,hc2]
     simp [nodN]
  ·rintro s1 ms' rfl ⟨a,m,cap,qn,junk,hperm,hqn⟩
   have hqn2:qn.length<=2014:=by
    have h:=KO (q.length:Int) (joB s.plus) (B9 s) (-1,[])
    have h2:qn.length=(chB (q.length:Int) (joB s.plus) (B9 s)).2.length:=by rw [<- hqn,List.length_map]
    unfold chB at h2;simp only [List.length_nil] at h
    omega
   have hneg:=TO (q.length:Int) (joB s.plus) (by omega) (B9 s) (-1,[]) (fun _=>rfl)
   have hneg:(chB (q.length:Int) (joB s.plus) (B9 s)).1<0->(chB (q.length:Int) (joB s.plus) (B9 s)).2=[]:=hneg
   have hsb:BB (q.length:Int) s=if (chB (q.length:Int) (joB s.plus) (B9 s)).1<0 then ((q.length:Int),[⟨noB s.plus,0,0,[]⟩]) else chB (q.length:Int) (joB s.plus) (B9 s):=rfl
   rw [hsb]
   generalize chB (q.length:Int) (joB s.plus) (B9 s)=z at *
   obtain ⟨at0,zs⟩:=z
   simp only at hqn hneg
   refine Al rfl rfl ?_;refine BM (CD hperm) ?_;refine BM (Fe junk) ?_;refine Ao (L':=[(14,_),(13,_),(12,_),(7,_),(5,.i64 (noB s.plus)),(2,_),(3,_),(6,_)]) (ms':=[box b7 3 [.i64 at0],box b6 3 [.i64 (joB s.plus)],box b 65 [.list 13 AutoState.d al,.i64 st,.v (.slice a m cap),.i64 rt,.v (.slice a5 m5 cap5)],arr a m cap 49 4 NodeB.d (q++qn)]++ownsB 71 2 AFd.d qn) rfl rfl ?_;refine zq6 ?_;refine gCd rfl (fun hc=>?_) (fun hc=>?_)
   ·have h0:at0<0:=of_decide_eq_true hc
    have hq0:qn=[]:=by
     have h1:=hneg h0
     rw [<- hqn,List.map_eq_nil_iff] at h1;exact h1
    subst hq0;refine zq4 ?_;refine Ai rfl rfl rfl (Aw (zs:=[.v (.int .i64 0),.v (.int .i64 0),.v (.int .i64 0),.v (.slice none 0 0)]) runUnderlying49 zeroValue49 (Fp _ runUnderlying49) rfl rfl rfl rfl) ?_;refine AG rfl rfl rfl (Ey (ms₁:=[box b 65 [.list 13 AutoState.d al,.i64 st,.v (.slice a m cap),.i64 rt,.v (.slice a5 m5 cap5)],arr a m cap 49 4 NodeB.d (q++[])]) call69 rfl (List.perm_append_comm (l₁:=[_,_]) (l₂:=[_,_])) (Pu (x:=ndB (noB s.plus) 0 0) (by rw [List.append_nil];omega))) ?_;rintro _ _ ⟨_,⟨rfl,a3,m3,cap3,rfl⟩,rfl⟩;refine zq1 ?_;refine Ap (BD (T:=71) (sz:=2) (f:=AFd.d)) ?_;refine gNl (Ae ?_);refine retK (ms':=[box b 65 [.list 13 AutoState.d al,.i64 st,.v (.slice a3 m3 cap3),.i64 rt,.v (.slice a5 m5 cap5)],arr a3 m3 cap3 49 4 NodeB.d ((q++[])++[ndB (noB s.plus) 0 0])]++ownsB 71 2 AFd.d [ndB (noB s.plus) 0 0]) (BA (drop:=[box b7 3 [.i64 at0],box b6 3 [.i64 (joB s.plus)]]) rfl (B5 rfl) ?_) ⟨?_,a3,m3,cap3,[ndB (noB s.plus) 0 0],?_,?_⟩
    ·exact VF
    ·rw [if_pos h0,List.append_nil]
    ·rw [List.append_nil]
    ·rw [if_pos h0];rfl
   ·have h0:¬ at0<0:=of_decide_eq_false hc
    refine zq6 ?_;refine Ae ?_;refine retK (ms':=[box b 65 [.list 13 AutoState.d al,.i64 st,.v (.slice a m cap),.i64 rt,.v (.slice a5 m5 cap5)],arr a m cap 49 4 NodeB.d (q++qn)]++ownsB 71 2 AFd.d qn) (BA (drop:=[box b7 3 [.i64 at0],box b6 3 [.i64 (joB s.plus)]]) rfl (B5 rfl) ?_) ⟨?_,a,m,cap,qn,rfl,?_⟩
    ·exact List.Perm.refl _
    ·rw [if_neg h0]
    ·rw [if_neg h0];exact hqn
end Go.Proofs.YtcoghblhdjmbfaaGreat
namespace Go.Proofs.YtcoghblhdjmbfaaGreat
open Go.V Tryz
section
variable {Γ:Ctx} {P:Program} {L:Env} {ms:List Asrt} {K:KT}
theorem P6 {c:Code} {a:Option Addr} {m cap:Nat} {T:TypeId} {sz:Nat} {α:Type} {f:α->D} {l:List α} {i:Nat} {z:α} (k:Nat) (hk:ms[k]? = some (arr a m cap T sz f l)) (hz:l[i]? = some z) (h:∀ bb,a=some ⟨bb,0,none⟩->G Γ P c L ms K):G Γ P c L ms K:=by
 intro act w mm
 obtain ⟨H,marks,hle,hok,henv,hdf⟩:=mm.ex;obtain ⟨bb,vs,us,ws,ha,_⟩:=GY hok (getElem?_app hk) hz;exact h bb ha act w mm
theorem Ky {H:PH} {α:Type} {f:α->D} {sz:Nat} {l l':List α} {us:List Value} (h:l.map f=l'.map f) (e:ListEnc H f sz l us):ListEnc H f sz l' us:=by
 have hl:l.length=l'.length:=by have:=congrArg List.length h;simpa using this
 refine ⟨by rw [<- hl];exact e.1,fun i x hx=>?_⟩
 have h2:=congrArg (·[i]?) h
 simp only [List.getElem?_map,hx,Option.map_some] at h2
 cases hy:l[i]? with
 | none=>rw [hy] at h2;cases h2
 | some y =>
  rw [hy] at h2;obtain ⟨ws,e1,e2⟩:=e.2 i y hy
  have h3:f y=f x:=by simpa using h2
  exact ⟨ws,by rw [<- h3];exact e1,e2⟩
theorem UP {a:Option Addr} {m cap:Nat} {T:TypeId} {sz:Nat} {α:Type} {f:α->D} {l l':List α} (h:l.map f=l'.map f):arr a m cap T sz f l=arr a m cap T sz f l':=by
 have hl:l.length=l'.length:=by have:=congrArg List.length h;simpa using this
 have hn:l=[]↔l'=[]:=by rw [<- List.length_eq_zero_iff,<- List.length_eq_zero_iff,hl]
 unfold arr
 congr 1
 funext H hh
 apply propext
 rw [hl];refine and_congr_right fun _=>and_congr_right fun _=>and_congr_right fun _=>or_congr ?_ ?_
 ·rw [hn]
 ·constructor
  ·rintro ⟨b,vs,us,h1,h2,h3,h4,h5,h6⟩;exact ⟨b,vs,us,h1,h2,h3,Ky h h4,h5,h6⟩
  ·rintro ⟨b,vs,us,h1,h2,h3,h4,h5,h6⟩;exact ⟨b,vs,us,h1,h2,h3,Ky h.symm h4,h5,h6⟩
end
theorem Vv (bb n:Nat):apt (some ⟨bb,0,none⟩) n=some ⟨bb,n,none⟩:=by simp [apt,Bg]
theorem Jb (bb n:Nat):some (D.v (.pointer (some ⟨bb,n,none⟩)))=some (D.v (.pointer (apt (some ⟨bb,0,none⟩) n))):=by rw [Vv]
def atI (at_:List Int) (k:Int):Int:=(idx at_ k).getD 0
def lfB (at_:List Int) (f:AFd):AFd:=⟨f.name,atI at_ f.at_⟩
def upB (at_:List Int) (x:NodeB AFd):NodeB AFd:=⟨x.kind,bif decide (x.kind=6) then atI at_ x.a else x.a,bif decide (x.kind=6) then atI at_ x.b else x.b,x.fl,x.p,x.m,x.c⟩
def lkB (at_:List Int) (x:NodeB AFd):NodeB AFd:=⟨x.kind,bif decide (x.kind=6) then atI at_ x.a else x.a,bif decide (x.kind=6) then atI at_ x.b else x.b,x.fl.map (lfB at_),x.p,x.m,x.c⟩
def lkOk (n:Nat) (x:NodeB AFd):Prop:=(x.kind=6->(0<=x.a/\x.a<(n:Int))/\0<=x.b/\x.b<(n:Int))/\x.fl.length<=1000/\∀ f∈x.fl,0<=f.at_/\f.at_<(n:Int)
theorem M1 {at_:List Int} {k:Int} (h0:0<=k) (h1:k<(at_.length:Int)):idx at_ k=some (atI at_ k):=by
 have hlt:k.toNat<at_.length:=by omega
 have e:idx at_ k=some at_[k.toNat]:=by unfold idx;rw [if_pos h0,List.getElem?_eq_getElem hlt]
 unfold atI;rw [e];rfl
def mixL {α:Type} (f:α->α) (l:List α) (i:Nat):List α:=(l.take i).map f++l.drop i
theorem O6 {α:Type} {f:α->α} {l:List α} {i:Nat} {x:α} (h:l[i]? = some x):(mixL f l i)[i]? = some x:=by
 have hi:=(List.getElem?_eq_some_iff.1 h).1
 unfold mixL;rw [List.getElem?_append_right (by rw [List.length_map,List.length_take];omega),List.length_map,List.length_take,List.getElem?_drop,show i+(i - min i l.length)=i by omega];exact h
theorem NM {α:Type} {f:α->α} {l:List α} {i:Nat} {x:α} (h:l[i]? = some x):(mixL f l i).set i (f x)=mixL f l (i+1):=by
 have hi:=(List.getElem?_eq_some_iff.1 h).1
 unfold mixL;rw [List.set_append_right _ _ (by rw [List.length_map,List.length_take];omega),List.length_map,List.length_take,show i - min i l.length=0 by omega,HV h,List.map_append,List.append_assoc]
 congr 1
 have hd:l.drop i=x::l.drop (i+1):=by rw [List.drop_eq_getElem_cons hi];rw [List.getElem?_eq_getElem hi] at h;rw [Option.some.inj h]
 rw [hd];rfl
theorem Oq {α:Type} {f:α->α} {l:List α}:mixL f l l.length=l.map f:=by
 unfold mixL;rw [List.take_length,List.drop_length,List.append_nil]
theorem U9 {b:Nat} {al:List AutoState} {st rt:Int} {a5:Option Addr} {m5 cap5:Nat} {a:Option Addr} {m cap:Nat} {q:List (NodeB AFd)} {at_:List Int} (hq:q.length<=100000) (hok:∀ x∈q,lkOk at_.length x) :
  Go.V.Fn Tryz.prog 31 [.v (.pointer (some ⟨b,0,none⟩))] ([box b 65 [.list 13 AutoState.d al,.i64 st,.v (.slice a m cap),.i64 rt,.v (.slice a5 m5 cap5)],arr a m cap 49 4 NodeB.d q,arr a5 m5 cap5 3 1 D.i64 at_]++ownsB 71 2 AFd.d q)
   (fun d ms'=>d = .tup []/\ms'=[box b 65 [.list 13 AutoState.d al,.i64 st,.v (.slice a m cap),.i64 rt,.v (.slice a5 m5 cap5)],arr a m cap 49 4 NodeB.d (q.map (lkB at_)),arr a5 m5 cap5 3 1 D.i64 at_]++ownsB 71 2 AFd.d (q.map (lkB at_))):=by
 refine Ad func31 rfl ntmps31 rfl fun H0 fr w0=>?_;refine zq3 ?_;refine Ai rfl rfl rfl (AH rfl) ?_;refine Ai rfl rfl rfl (oFb Hq rfl) ?_;refine zq2 ?_;refine Ai rfl rfl rfl (Ca 1 runUnderlying29 rfl rfl) ?_;refine zq3 ?_;refine Fh [(0,.v (.pointer (some ⟨b,0,none⟩))),(10,.i64 (q.length:Int))] (fun (i:Nat)=>i<=q.length) (fun i=>[(11,.i64 (i:Int))]) (fun i=>[box b 65 [.list 13 AutoState.d al,.i64 st,.v (.slice a m cap),.i64 rt,.v (.slice a5 m5 cap5)],arr a m cap 49 4 NodeB.d (mixL (lkB at_) q i),arr a5 m5 cap5 3 1 D.i64 at_]++ownsB 71 2 AFd.d (mixL (lkB at_) q i)) (fun i=>q.length - i) 0 (Nat.zero_le _) ⟨rfl,rfl,trivial⟩ ⟨rfl,trivial⟩ rfl ?_
 intro i hi
 have hi:i<=q.length:=hi
 refine Ao (L':=[(11,.i64 (i:Int)),(0,.v (.pointer (some ⟨b,0,none⟩))),(10,.i64 (q.length:Int))]) (ms':=[box b 65 [.list 13 AutoState.d al,.i64 st,.v (.slice a m cap),.i64 rt,.v (.slice a5 m5 cap5)],arr a m cap 49 4 NodeB.d (mixL (lkB at_) q i),arr a5 m5 cap5 3 1 D.i64 at_]++ownsB 71 2 AFd.d (mixL (lkB at_) q i)) rfl rfl ?_;refine zq5 ?_;refine gCd rfl (fun hc=>?_) (fun hc=>?_)
 ·have hlt:i<q.length:=by have:=of_decide_eq_true hc;omega
  have hx0:q[i]? = some q[i]:=List.getElem?_eq_getElem hlt
  have hxm:q[i]∈q:=List.getElem_mem hlt
  generalize q[i]=x at hx0 hxm
  obtain ⟨ha,hfl,hf⟩:=hok x hxm
  have hg:=O6 (f:=lkB at_) hx0
  have hset:=NM (f:=lkB at_) hx0
  generalize mixL (lkB at_) q i=qi at hg hset
  have hxi:idx qi (i:Int)=some x:=getI hg
  have hil:i<qi.length:=(List.getElem?_eq_some_iff.1 hg).1
  refine P6 1 rfl hg fun bb hbb=>?_;subst hbb;refine zq11 ?_;refine Ai rfl rfl rfl (AH rfl) ?_;refine Ai rfl rfl rfl (oFb Hq rfl) ?_;refine zq3 ?_;refine Ai rfl rfl rfl (Af 1 runUnderlying29 sizeOf49 rfl rfl rfl hxi) ?_;refine zq3 ?_;refine SQ (σ:=Unit) [(3,.v (.pointer (some ⟨bb,i*4,none⟩))),(11,.i64 (i:Int)),(0,.v (.pointer (some ⟨b,0,none⟩))),(10,.i64 (q.length:Int))] (fun _=>True) (fun _=>[]) (fun _=>[box b 65 [.list 13 AutoState.d al,.i64 st,.v (.slice (some ⟨bb,0,none⟩) m cap),.i64 rt,.v (.slice a5 m5 cap5)],arr (some ⟨bb,0,none⟩) m cap 49 4 NodeB.d (qi.set i (upB at_ x)),arr a5 m5 cap5 3 1 D.i64 at_]++ownsB 71 2 AFd.d qi) ?_ ?_
  ·refine BM (FK (L':=[(3,.v (.pointer (some ⟨bb,i*4,none⟩))),(11,.i64 (i:Int)),(0,.v (.pointer (some ⟨b,0,none⟩))),(10,.i64 (q.length:Int))]) ⟨(Jb bb (i*4)).symm,rfl,rfl,rfl,trivial⟩) ?_
   refine zq3 ?_;refine Ai rfl rfl rfl (AH rfl) ?_;refine zq1 ?_;refine Ai rfl rfl rfl (AL (a:=some ⟨bb,0,none⟩) (o:=i*4+0) (off:=0) 1 isAgg3 (Jb bb _) rfl hg rfl rfl rfl) ?_;refine zq2 ?_;refine gCd rfl (fun hc2=>?_) (fun hc2=>?_)
   ·have hk6:x.kind=6:=of_decide_eq_true hc2
    obtain ⟨⟨a0,a1⟩,b0,b1⟩:=ha hk6
    have hga:=M1 a0 a1
    have hgb:=M1 b0 b1
    refine FY [24,27] [1,25,26] [] A0 (by decide +kernel) (by decide +kernel) rfl ?_;refine Ay rfl rfl rfl rfl rfl rfl (oMv rfl) ?_;refine Ay rfl rfl rfl rfl rfl rfl (oMv rfl) ?_;refine Ay rfl rfl rfl rfl rfl rfl (oMv rfl) ?_;refine Ay rfl rfl rfl rfl rfl rfl (AH rfl) ?_;refine Ay rfl rfl rfl rfl rfl rfl (oFb Jk rfl) ?_;refine Ay rfl rfl rfl rfl rfl rfl (oLb 0 isAgg43 rfl rfl rfl rfl) ?_;refine Ay rfl rfl rfl rfl rfl rfl (oMv rfl) ?_;refine Ay rfl rfl rfl rfl rfl rfl (AH rfl) ?_;refine Ay rfl rfl rfl rfl rfl rfl (oFb KQ rfl) ?_;refine Ay rfl rfl rfl rfl rfl rfl (AL (a:=some ⟨bb,0,none⟩) (o:=i*4+1) (off:=1) 1 isAgg3 (Jb bb _) rfl hg rfl rfl rfl) ?_;refine Ay rfl rfl rfl rfl rfl rfl (Af 2 runUnderlying43 sizeOf3 rfl rfl rfl hga) ?_;refine Ay rfl rfl rfl rfl rfl rfl (AL (off:=0) 2 isAgg3 rfl rfl (Av hga).2 (by omega) rfl rfl) ?_;refine Ay rfl rfl rfl rfl rfl rfl (oMv rfl) ?_;refine Ay rfl rfl rfl rfl rfl rfl (AH rfl) ?_;refine Ay rfl rfl rfl rfl rfl rfl (oFb Jk rfl) ?_;refine Ay rfl rfl rfl rfl rfl rfl (oLb 0 isAgg43 rfl rfl rfl rfl) ?_;refine Ay rfl rfl rfl rfl rfl rfl (oMv rfl) ?_;refine Ay rfl rfl rfl rfl rfl rfl (AH rfl) ?_;refine Ay rfl rfl rfl rfl rfl rfl (oFb KP rfl) ?_;refine Ay rfl rfl rfl rfl rfl rfl (AL (a:=some ⟨bb,0,none⟩) (o:=i*4+2) (off:=2) 1 isAgg3 (Jb bb _) rfl hg rfl rfl rfl) ?_;refine Ay rfl rfl rfl rfl rfl rfl (Af 2 runUnderlying43 sizeOf3 rfl rfl rfl hgb) ?_;refine Ay rfl rfl rfl rfl rfl rfl (AL (off:=0) 2 isAgg3 rfl rfl (Av hgb).2 (by omega) rfl rfl) ?_;refine Ay rfl rfl rfl rfl rfl rfl (AH rfl) ?_;refine Ay rfl rfl rfl rfl rfl rfl (oFb KQ rfl) ?_;refine FO rfl ?_;refine Ay rfl rfl rfl rfl rfl rfl (AH rfl) ?_;refine Ay rfl rfl rfl rfl rfl rfl (oFb KP rfl) ?_;refine FO rfl ?_;refine Gz ?_;refine F3 rfl rfl rfl (AV (a:=some ⟨bb,0,none⟩) (o:=i*4+1) (off:=1) (z':=⟨x.kind,atI at_ x.a,x.b,x.fl,x.p,x.m,x.c⟩) 1 sizeOf3 (Jb bb _) rfl hg rfl rfl rfl rfl rfl rfl (nB rfl) rfl rfl) ?_;rintro _ _ rfl;refine ⟨(trivial:True),?_⟩
    have hg2:(qi.set i ⟨x.kind,atI at_ x.a,x.b,x.fl,x.p,x.m,x.c⟩)[i]? = some (⟨x.kind,atI at_ x.a,x.b,x.fl,x.p,x.m,x.c⟩:NodeB AFd):=by simp [hil]
    refine F3 rfl rfl rfl (AV (a:=some ⟨bb,0,none⟩) (o:=i*4+2) (off:=2) (z':=⟨x.kind,atI at_ x.a,atI at_ x.b,x.fl,x.p,x.m,x.c⟩) 1 sizeOf3 (Jb bb _) rfl hg2 rfl rfl rfl rfl rfl rfl (nB rfl) rfl rfl) ?_;rintro _ _ rfl;refine ⟨(trivial:True),?_⟩;refine FW ?_
    have hup:(⟨x.kind,atI at_ x.a,atI at_ x.b,x.fl,x.p,x.m,x.c⟩:NodeB AFd)=upB at_ x:=by unfold upB;rw [dT hk6];rfl
    refine ⟨(),trivial,trivial,⟨rfl,rfl,rfl,rfl,trivial⟩,[],?_⟩
    have e:(qi.set i ⟨x.kind,atI at_ x.a,x.b,x.fl,x.p,x.m,x.c⟩).set i (⟨x.kind,atI at_ x.a,atI at_ x.b,x.fl,x.p,x.m,x.c⟩:NodeB AFd)=qi.set i (upB at_ x):=by rw [List.set_set,hup]
    rw [<- e]
    rfl
   ·have hk6:¬ x.kind=6:=of_decide_eq_false hc2
    refine gSp ?_
    have hup:upB at_ x=x:=by unfold upB;rw [dF hk6];rfl
    have hse:qi.set i (upB at_ x)=qi:=by
     rw [hup];obtain ⟨h1,h2⟩:=List.getElem?_eq_some_iff.1 hg;rw [<- h2];exact List.set_getElem_self h1
    rw [hse];exact ⟨(),trivial,trivial,⟨rfl,rfl,rfl,rfl,trivial⟩,[],rfl⟩
  ·rintro ⟨⟩ _
   obtain ⟨xk,xa,xb,xfl,xp,xm,xc⟩:=x
   have hfl:xfl.length<=1000:=hfl
   have hf:∀ f∈xfl,0<=f.at_/\f.at_<(at_.length:Int):=hf
   have hext:arr (some ⟨bb,0,none⟩) m cap 49 4 NodeB.d (qi.set i (upB at_ (⟨xk,xa,xb,xfl,xp,xm,xc⟩:NodeB AFd)))=arr (some ⟨bb,0,none⟩) m cap 49 4 NodeB.d (qi.set i (lkB at_ (⟨xk,xa,xb,xfl,xp,xm,xc⟩:NodeB AFd))):=UP (by rw [List.map_set,List.map_set];rfl)
   rw [hext]
   have hgn:(qi.set i (lkB at_ (⟨xk,xa,xb,xfl,xp,xm,xc⟩:NodeB AFd)))[i]? = some (lkB at_ (⟨xk,xa,xb,xfl,xp,xm,xc⟩:NodeB AFd)):=by simp [hil]
   have hperm:([box b 65 [.list 13 AutoState.d al,.i64 st,.v (.slice (some ⟨bb,0,none⟩) m cap),.i64 rt,.v (.slice a5 m5 cap5)],arr (some ⟨bb,0,none⟩) m cap 49 4 NodeB.d (qi.set i (lkB at_ (⟨xk,xa,xb,xfl,xp,xm,xc⟩:NodeB AFd))),arr a5 m5 cap5 3 1 D.i64 at_]++ownsB 71 2 AFd.d qi).Perm (arr xp xm xc 71 2 AFd.d xfl::([box b 65 [.list 13 AutoState.d al,.i64 st,.v (.slice (some ⟨bb,0,none⟩) m cap),.i64 rt,.v (.slice a5 m5 cap5)],arr (some ⟨bb,0,none⟩) m cap 49 4 NodeB.d (qi.set i (lkB at_ (⟨xk,xa,xb,xfl,xp,xm,xc⟩:NodeB AFd))),arr a5 m5 cap5 3 1 D.i64 at_]++ownsB 71 2 AFd.d (qi.eraseIdx i))):=((LM (T:=71) (sz:=2) (f:=AFd.d) hg).append_left _).trans List.perm_middle
   have hperm2:(arr xp xm xc 71 2 AFd.d (xfl.map (lfB at_))::([box b 65 [.list 13 AutoState.d al,.i64 st,.v (.slice (some ⟨bb,0,none⟩) m cap),.i64 rt,.v (.slice a5 m5 cap5)],arr (some ⟨bb,0,none⟩) m cap 49 4 NodeB.d (qi.set i (lkB at_ (⟨xk,xa,xb,xfl,xp,xm,xc⟩:NodeB AFd))),arr a5 m5 cap5 3 1 D.i64 at_]++ownsB 71 2 AFd.d (qi.eraseIdx i))).Perm ([box b 65 [.list 13 AutoState.d al,.i64 st,.v (.slice (some ⟨bb,0,none⟩) m cap),.i64 rt,.v (.slice a5 m5 cap5)],arr (some ⟨bb,0,none⟩) m cap 49 4 NodeB.d (qi.set i (lkB at_ (⟨xk,xa,xb,xfl,xp,xm,xc⟩:NodeB AFd))),arr a5 m5 cap5 3 1 D.i64 at_]++ownsB 71 2 AFd.d (qi.set i (lkB at_ (⟨xk,xa,xb,xfl,xp,xm,xc⟩:NodeB AFd)))):=List.perm_middle.symm.trans ((Rn (T:=71) (sz:=2) (f:=AFd.d) (v':=lkB at_ (⟨xk,xa,xb,xfl,xp,xm,xc⟩:NodeB AFd)) hg).append_left _)
   refine Al (L':=[(3,.v (.pointer (some ⟨bb,i*4,none⟩))),(11,.i64 (i:Int)),(0,.v (.pointer (some ⟨b,0,none⟩))),(10,.i64 (q.length:Int))]) rfl rfl ?_;refine BM (CD hperm) ?_;refine Ao (ms':=arr xp xm xc 71 2 AFd.d (mixL (lfB at_) xfl 0)::([box b 65 [.list 13 AutoState.d al,.i64 st,.v (.slice (some ⟨bb,0,none⟩) m cap),.i64 rt,.v (.slice a5 m5 cap5)],arr (some ⟨bb,0,none⟩) m cap 49 4 NodeB.d (qi.set i (lkB at_ (⟨xk,xa,xb,xfl,xp,xm,xc⟩:NodeB AFd))),arr a5 m5 cap5 3 1 D.i64 at_]++ownsB 71 2 AFd.d (qi.eraseIdx i))) rfl rfl ?_;refine zq3 ?_;refine Ai rfl rfl rfl (AH rfl) ?_;refine zq1 ?_;refine Ai rfl rfl rfl (AL (a:=some ⟨bb,0,none⟩) (o:=i*4+3) (off:=3) 2 isAgg47 (Jb bb _) rfl hgn rfl rfl rfl) ?_;refine Ai rfl rfl rfl (Ca 0 runUnderlying47 rfl rfl) ?_;refine zq3 ?_;refine Fh [(3,.v (.pointer (some ⟨bb,i*4,none⟩))),(56,.i64 (xfl.length:Int)),(11,.i64 (i:Int)),(0,.v (.pointer (some ⟨b,0,none⟩))),(10,.i64 (q.length:Int))] (fun (k:Nat)=>k<=xfl.length) (fun k=>[(57,.i64 (k:Int))]) (fun k=>arr xp xm xc 71 2 AFd.d (mixL (lfB at_) xfl k)::([box b 65 [.list 13 AutoState.d al,.i64 st,.v (.slice (some ⟨bb,0,none⟩) m cap),.i64 rt,.v (.slice a5 m5 cap5)],arr (some ⟨bb,0,none⟩) m cap 49 4 NodeB.d (qi.set i (lkB at_ (⟨xk,xa,xb,xfl,xp,xm,xc⟩:NodeB AFd))),arr a5 m5 cap5 3 1 D.i64 at_]++ownsB 71 2 AFd.d (qi.eraseIdx i))) (fun k=>xfl.length - k) 0 (Nat.zero_le _) ⟨rfl,rfl,rfl,rfl,rfl,trivial⟩ ⟨rfl,trivial⟩ rfl ?_
   intro k hk
   have hk:k<=xfl.length:=hk
   refine Ao (L':=[(57,.i64 (k:Int)),(3,.v (.pointer (some ⟨bb,i*4,none⟩))),(56,.i64 (xfl.length:Int)),(11,.i64 (i:Int)),(0,.v (.pointer (some ⟨b,0,none⟩))),(10,.i64 (q.length:Int))]) (ms':=arr xp xm xc 71 2 AFd.d (mixL (lfB at_) xfl k)::([box b 65 [.list 13 AutoState.d al,.i64 st,.v (.slice (some ⟨bb,0,none⟩) m cap),.i64 rt,.v (.slice a5 m5 cap5)],arr (some ⟨bb,0,none⟩) m cap 49 4 NodeB.d (qi.set i (lkB at_ (⟨xk,xa,xb,xfl,xp,xm,xc⟩:NodeB AFd))),arr a5 m5 cap5 3 1 D.i64 at_]++ownsB 71 2 AFd.d (qi.eraseIdx i))) rfl rfl ?_;refine zq5 ?_;refine gCd rfl (fun hc3=>?_) (fun hc3=>?_)
   ·have hlt2:k<xfl.length:=by have:=of_decide_eq_true hc3;omega
    have hy0:xfl[k]? = some xfl[k]:=List.getElem?_eq_getElem hlt2
    have hym:xfl[k]∈xfl:=List.getElem_mem hlt2
    generalize xfl[k]=y at hy0 hym
    obtain ⟨y0,y1⟩:=hf y hym
    have hgy:=O6 (f:=lfB at_) hy0
    have hsy:=NM (f:=lfB at_) hy0
    generalize mixL (lfB at_) xfl k=fk at hgy hsy
    have hyi:idx fk (k:Int)=some y:=getI hgy
    have hat:=M1 y0 y1
    refine zq8 ?_;refine zdr 21 ?_;refine zq1 ?_;refine AC rfl rfl rfl (AH rfl) ?_;refine zq1 ?_;refine AC rfl rfl rfl (AL (a:=some ⟨bb,0,none⟩) (o:=i*4+3) (off:=3) 2 isAgg47 (Jb bb _) rfl hgn rfl rfl rfl) ?_;refine zq2 ?_;refine AC rfl rfl rfl (AH rfl) ?_;refine AC rfl rfl rfl (oFb Jk rfl) ?_;refine zq2 ?_;refine AC rfl rfl rfl (AH rfl) ?_;refine zq1 ?_;refine AC rfl rfl rfl (AL (a:=some ⟨bb,0,none⟩) (o:=i*4+3) (off:=3) 2 isAgg47 (Jb bb _) rfl hgn rfl rfl rfl) ?_;refine zq1 ?_;refine AC rfl rfl rfl (Af 0 runUnderlying47 sizeOf71 rfl rfl rfl hyi) ?_;refine AC rfl rfl rfl (CY (b:=0) 0 JO rfl rfl hgy) ?_;refine AC rfl rfl rfl (AL (off:=1) 0 isAgg3 rfl rfl hgy rfl rfl rfl) ?_;refine AC rfl rfl rfl (Af 3 runUnderlying43 sizeOf3 rfl rfl rfl hat) ?_;refine AC rfl rfl rfl (AL (off:=0) 3 isAgg3 rfl rfl (Av hat).2 (by omega) rfl rfl) ?_;refine AC rfl rfl rfl (Af 0 runUnderlying47 sizeOf71 rfl rfl rfl hyi) ?_;refine AC rfl rfl rfl (CY (b:=0) 0 JO rfl rfl hgy) ?_;refine Ex ?_;refine H6 rfl rfl (AV (off:=1) (z':=lfB at_ y) 0 sizeOf3 rfl rfl hgy rfl rfl rfl rfl rfl rfl (nB rfl) rfl rfl) ?_;rintro _ _ rfl;refine zq2 ?_;refine Ai rfl rfl rfl (Gy rfl rfl (CO (by constructor <;> omega))) ?_;refine zq2 ?_;refine ⟨k+1,(by show k+1<=xfl.length;omega),(by show xfl.length - (k+1)<xfl.length - k;omega),⟨rfl,trivial⟩,⟨rfl,rfl,rfl,rfl,rfl,trivial⟩,[],?_⟩;rw [<- hsy]
    rfl
   ·have hge2:k=xfl.length:=by have:=of_decide_eq_false hc3;omega
    subst hge2;rw [Oq];refine Ar ?_;refine Al rfl rfl ?_;refine BM (CD hperm2) ?_;refine gRg ?_;refine Ai rfl rfl rfl (Gy rfl rfl (CO (by constructor <;> omega))) ?_;refine zq2 ?_;refine ⟨i+1,(by show i+1<=q.length;omega),(by show q.length - (i+1)<q.length - i;omega),⟨rfl,trivial⟩,⟨rfl,rfl,trivial⟩,[],?_⟩;rw [<- hset]
    rfl
 ·have hge:i=q.length:=by have:=of_decide_eq_false hc;omega
  subst hge;rw [Oq];refine Ar ?_;exact retKn (DQ (drop:=[]) rfl (List.Perm.refl _)) ⟨rfl,rfl⟩
end Go.Proofs.YtcoghblhdjmbfaaGreat
namespace Go.Proofs.YtcoghblhdjmbfaaGreat
open Go.V Tryz
theorem Wk:∀ fs,(∀ w,(underlying 31).run Tryz.prog w = .ok (.struct fs) w)->CB Tryz.prog fs [(0,1),(1,1)]:=by
 intro fs h w
 have:=(h w).symm.trans (runUnderlying31 w)
 simp only [Result.ok.injEq,TypeDesc.struct.injEq,and_true] at this;subst this
 simp [sizeOf29,sizeOf3,Sem.run]
theorem Wb:∀ fs,(∀ w,(underlying 65).run Tryz.prog w = .ok (.struct fs) w)->CB Tryz.prog fs [(0,2),(2,2),(4,1)]:=by
 intro fs h w
 have:=(h w).symm.trans (runUnderlying65 w)
 simp only [Result.ok.injEq,TypeDesc.struct.injEq,and_true] at this;subst this
 simp [sizeOf27,sizeOf31,sizeOf43,Sem.run]
def runB (l:List AutoState):List Int×List ANd:=l.foldl (fun z s=>(z.1++[(BB (z.2.length:Int) s).1],z.2++(BB (z.2.length:Int) s).2)) ([],[])
def lkN (at_:List Int) (n:ANd):ANd:=⟨n.kind,bif decide (n.kind=6) then atI at_ n.a else n.a,bif decide (n.kind=6) then atI at_ n.b else n.b,n.l.map (lfB at_)⟩
def backT (x:AutoAuto):ATy:=⟨(runB x.l).2.map (lkN (runB x.l).1),atI (runB x.l).1 x.start⟩
def nOk (n:Nat) (x:ANd):Prop:=(x.kind=6->(0<=x.a/\x.a<(n:Int))/\0<=x.b/\x.b<(n:Int))/\x.l.length<=1000/\∀ f∈x.l,0<=f.at_/\f.at_<(n:Int)
structure BackOk (x:AutoAuto):Prop where
 len:x.l.length<=1000
 st:∀ s∈x.l,s.fields.length<=1000/\s.tags.length<=1000/\s.vars.length<=1000
 nodes:(runB x.l).2.length<=40000
 ok:∀ n∈(runB x.l).2,nOk x.l.length n
 s0:0<=x.start
 s1:x.start<(x.l.length:Int)
open Classical in
noncomputable def C7 (a1:AutoAuto):Option (ATy×Int):=
 (Ea a1).bind fun (x,e) =>
 bif (!decide (e=0)) then
  some ((⟨([]:List ANd),0⟩:ATy),e)
 else if BackOk x then En (backT x) else none
theorem EH {α:Type} {P:List α->Prop} (h0:P []) (h1:∀ l a,P l->P (l++[a])) (l:List α):P l:=by
 have key:∀ l:List α,P l.reverse:=by
  intro l
  induction l with
  | nil=>exact h0
  | cons a l ih=>rw [List.reverse_cons];exact h1 _ _ ih
 have:=key l.reverse
 rwa [List.reverse_reverse] at this
theorem Fx (l:List AutoState) (s:AutoState):runB (l++[s])=((runB l).1++[(BB ((runB l).2.length:Int) s).1],(runB l).2++(BB ((runB l).2.length:Int) s).2):=by unfold runB;rw [List.foldl_append];rfl
theorem Hg (l:List AutoState):(runB l).1.length=l.length:=by
 refine EH (P:=fun l=>(runB l).1.length=l.length) rfl (fun l s ih=>?_) l;rw [Fx];simp [ih]
theorem SH (l:List AutoState) (i:Nat):(runB (l.take i)).2.length<=(runB l).2.length:=by
 have key:∀ (r l0:List AutoState),(runB l0).2.length<=(runB (l0++r)).2.length:=by
  intro r
  refine EH (P:=fun r=>∀ l0:List AutoState,(runB l0).2.length<=(runB (l0++r)).2.length) (fun l0=>by rw [List.append_nil];exact Nat.le_refl _) (fun r s ih l0=>?_) r;rw [<- List.append_assoc,Fx]
  have:=ih l0
  simp only [List.length_append];omega
 have:=key (l.drop i) (l.take i)
 rwa [List.take_append_drop] at this
theorem VL {B A P T X Y:Asrt} {Q R:List Asrt}:(([B,A]++Q)++(P::T::X::Y::R)).Perm (P::B::A::T::X::Y::(R++Q)):=by
 classical
 rw [List.perm_iff_count]
 intro a
 simp [List.count_cons,List.count_append,Nat.add_comm,Nat.add_left_comm,Nat.add_assoc]
theorem permT2 {B A T X Y:Asrt} {R:List Asrt}:([B,A,T,X,Y]++R).Perm (([B,A,T]++R)++[X,Y]):=by
 classical
 rw [List.perm_iff_count]
 intro a
 simp [List.count_cons,List.count_append,Nat.add_comm,Nat.add_left_comm,Nat.add_assoc]
theorem Vy {B A T X Y:Asrt} {R:List Asrt}:([B,A,T,X,Y]++R).Perm (A::(R++[B,T,X,Y])):=by
 classical
 rw [List.perm_iff_count]
 intro a
 simp [List.count_cons,List.count_append,Nat.add_comm,Nat.add_left_comm,Nat.add_assoc]
theorem VC {B A P:Asrt} {R:List Asrt}:(P::B::A::R).Perm ([B,A]++(P::R)):=by
 classical
 rw [List.perm_iff_count]
 intro a
 simp [List.count_cons,List.count_append,Nat.add_comm,Nat.add_left_comm,Nat.add_assoc]
theorem Kk {a1:AutoAuto} {r_1:ATy} {r_2:Int} (hm:C7 a1=some (r_1,r_2)):Fn0 Tryz.prog 8 [AutoAuto.d a1] (.tup [ATy.d r_1,.i64 r_2]):=by
 unfold C7 at hm;refine Ad func8 rfl ntmps8 rfl fun H0 fr w0=>?_;refine zq3 ?_;refine F2 fun b2=>?_;refine zq5 ?_;obtain ⟨⟨x,e⟩,hx,hm⟩:=bS hm;refine zc0 (NY hx) ?_;refine zq3 ?_;refine Kc fun b4=>?_;refine zst 0 ?_;refine zq1 ?_;refine Ak (ms':=[box b4 27 [.list 13 AutoState.d x.l,.i64 x.start],box b2 31 [.list 4 ANd.d [],.i64 0]]) rfl ?_;refine zq7 ?_;refine gCd rfl (fun hc=>?_) (fun hc=>?_)
 ·replace hm:=AD hc hm
  obtain ⟨rfl,rfl⟩:=Prod.mk.inj (Ac hm);refine zq2 ?_;refine Ai rfl rfl rfl (Aw (zs:=[.list 4 ANd.d [],.v (.int .i64 0)]) runUnderlying31 zeroValue31 (Wk _ runUnderlying31) rfl rfl rfl rfl) ?_;refine zq1 ?_;refine zst 1 ?_;refine zq2 ?_;refine Ae ?_;exact retK (Lb (ds:=[_,_]) rfl (by decide) ⟨Ff 1 rfl rfl rfl isAgg31 sizeOf31 rfl,⟨B5 rfl,rfl⟩⟩ (EV _)) rfl
 ·replace hm:=AE hc hm
  split at hm
  rotate_left
  ·cases hm
  rename_i hB
  refine zq2 ?_
  have hlen:=hB.len
  have h0:(0:Int)<=(x.l.length:Int):=by omega
  refine H7 5 [4] A0 (by decide +kernel) (by decide +kernel) rfl (by decide +kernel) ?_;refine AM rfl rfl rfl rfl (oLg 0 isAgg27 sizeOf27 rfl rfl rfl rfl (nB rfl)) ?_;refine AM rfl rfl rfl rfl (oFb Qr rfl) ?_;refine AM rfl rfl rfl rfl (oLb 0 isAgg25 rfl rfl rfl rfl) ?_;refine AM rfl rfl rfl rfl (Fb runUnderlying25 rfl) ?_;refine Hb (R:=fun d A=>∃ a m cap,d = .v (.slice a m cap)/\A=arr a m cap 3 1 D.i64 (List.replicate ((x.l.length:Int)).toNat 0)) rfl rfl rfl (OpT.mono (C3 (f:=D.i64) (z0:=0) underlying43 type3 rfl rfl rfl (nB rfl) rfl rfl h0 (by show x.l.length*8<=140737488355328;omega) (nB rfl)) (by rintro _ _ ⟨a,m,cap,rfl,rfl⟩;exact ⟨_,⟨a,m,cap,rfl,rfl⟩,rfl⟩)) ?_;refine JG ?_;rintro _ _ ⟨a5,m5,cap5,rfl,rfl⟩;refine Ai rfl rfl rfl (Aw (zs:=[.list 13 AutoState.d [],.v (.int .i64 0),.v (.slice none 0 0),.v (.int .i64 0),.v (.slice none 0 0)]) runUnderlying65 zeroValue65 (Wb _ runUnderlying65) rfl rfl rfl rfl) ?_;refine AG rfl rfl rfl (Mf rfl rfl rfl) ?_;rintro _ _ ⟨b,rfl,rfl⟩;refine zq1 ?_;refine Ap (BD (T:=49) (sz:=4) (f:=NodeB.d (β:=AFd))) ?_;refine Ak (ms':=[arr none 0 0 49 4 NodeB.d ([]:List (NodeB AFd)),box b 65 [.list 13 AutoState.d x.l,.i64 x.start,.v (.slice none 0 0),.i64 0,.v (.slice a5 m5 cap5)],arr a5 m5 cap5 3 1 D.i64 (List.replicate x.l.length 0),box b4 27 [.list 13 AutoState.d x.l,.i64 x.start],box b2 31 [.list 4 ANd.d [],.i64 0]]) rfl ?_;refine zq2 ?_;refine BM (CD (List.Perm.swap _ _ _)) ?_;refine zq8 ?_;refine Fh [(2,.v (.pointer (some ⟨b2,0,none⟩))),(4,.v (.pointer (some ⟨b4,0,none⟩))),(6,.v (.pointer (some ⟨b,0,none⟩))),(26,.list 13 AutoState.d x.l),(27,.i64 (x.l.length:Int))] (fun (z:Nat×(Option Addr×Nat×Nat)×List (NodeB AFd))=>z.1<=x.l.length/\z.2.2.map nodN=(runB (x.l.take z.1)).2) (fun z=>[(28,.i64 (z.1:Int))]) (fun z=>[box b 65 [.list 13 AutoState.d x.l,.i64 x.start,.v (.slice z.2.1.1 z.2.1.2.1 z.2.1.2.2),.i64 0,.v (.slice a5 m5 cap5)],arr z.2.1.1 z.2.1.2.1 z.2.1.2.2 49 4 NodeB.d z.2.2,arr a5 m5 cap5 3 1 D.i64 ((runB (x.l.take z.1)).1++List.replicate (x.l.length - z.1) 0),box b4 27 [.list 13 AutoState.d x.l,.i64 x.start],box b2 31 [.list 4 ANd.d [],.i64 0]]++ownsB 71 2 AFd.d z.2.2) (fun z=>x.l.length - z.1) (0,(none,0,0),[]) ⟨Nat.zero_le _,rfl⟩ ⟨rfl,rfl,rfl,rfl,rfl,trivial⟩ ⟨rfl,trivial⟩ rfl ?_;rintro ⟨i,⟨a,m,cap⟩,q⟩ ⟨hi,hqn⟩
  have hi:i<=x.l.length:=hi
  have hqn:q.map nodN=(runB (x.l.take i)).2:=hqn
  have hql:q.length=(runB (x.l.take i)).2.length:=by rw [<- hqn,List.length_map]
  have hq1:q.length<=40000:=by rw [hql];exact Nat.le_trans (SH _ _) hB.nodes
  refine Ao (L':=(28,.i64 (i:Int))::[(2,.v (.pointer (some ⟨b2,0,none⟩))),(4,.v (.pointer (some ⟨b4,0,none⟩))),(6,.v (.pointer (some ⟨b,0,none⟩))),(26,.list 13 AutoState.d x.l),(27,.i64 (x.l.length:Int))]) (ms':=[box b 65 [.list 13 AutoState.d x.l,.i64 x.start,.v (.slice a m cap),.i64 0,.v (.slice a5 m5 cap5)],arr a m cap 49 4 NodeB.d q,arr a5 m5 cap5 3 1 D.i64 ((runB (x.l.take i)).1++List.replicate (x.l.length - i) 0),box b4 27 [.list 13 AutoState.d x.l,.i64 x.start],box b2 31 [.list 4 ANd.d [],.i64 0]]++ownsB 71 2 AFd.d q) rfl rfl ?_;refine zq5 ?_;refine gCd rfl (fun hc2=>?_) (fun hc2=>?_)
  ·have hlt:i<x.l.length:=by have:=of_decide_eq_true hc2;omega
   have hs0:x.l[i]? = some x.l[i]:=List.getElem?_eq_getElem hlt
   have hsm:x.l[i]∈x.l:=List.getElem_mem hlt
   generalize x.l[i]=s at hs0 hsm
   obtain ⟨hsf,hst,hsv⟩:=hB.st s hsm
   have hsi:idx x.l (i:Int)=some s:=getI hs0
   have hrl:=Hg (x.l.take i)
   rw [List.length_take,Nat.min_eq_left hi] at hrl
   have hrun:runB (x.l.take (i+1))=((runB (x.l.take i)).1++[(BB (q.length:Int) s).1],(runB (x.l.take i)).2++(BB (q.length:Int) s).2):=by rw [HV hs0,Fx,hql]
   have hget:((runB (x.l.take i)).1++List.replicate (x.l.length - i) (0:Int))[i]? = some 0:=by
    rw [List.getElem?_append_right (by omega),hrl,Nat.sub_self,List.getElem?_replicate,if_pos (by omega)]
   have hidx:idx ((runB (x.l.take i)).1++List.replicate (x.l.length - i) (0:Int)) (i:Int)=some 0:=getI hget
   have hset:((runB (x.l.take i)).1++List.replicate (x.l.length - i) (0:Int)).set i (BB (q.length:Int) s).1=(runB (x.l.take (i+1))).1++List.replicate (x.l.length - (i+1)) 0:=by
    rw [hrun,List.set_append_right _ _ (by omega),hrl,Nat.sub_self,show x.l.length - i=(x.l.length - (i+1))+1 by omega,List.replicate_succ]
    simp
   refine zq6 ?_;refine Ai rfl rfl rfl (oIm runUnderlying25 sizeOf59 rfl rfl hsi) ?_;refine zq1 ?_;refine PY fun b8=>?_;refine zq1 ?_;refine zst 0 ?_;refine Ak (ms':=box b8 59 [.bool s.plus,.bool s.all,.bool s.int,.bool s.bool,.bool s.str,.bool s.arrow,.bool s.rec_,.bool s.tag,.list 1 D.i64 s.vars,.i64 s.dom,.i64 s.cod,.list 2 AutoEdge.d s.fields,.list 2 AutoEdge.d s.tags]::([box b 65 [.list 13 AutoState.d x.l,.i64 x.start,.v (.slice a m cap),.i64 0,.v (.slice a5 m5 cap5)],arr a m cap 49 4 NodeB.d q,arr a5 m5 cap5 3 1 D.i64 ((runB (x.l.take i)).1++List.replicate (x.l.length - i) 0),box b4 27 [.list 13 AutoState.d x.l,.i64 x.start],box b2 31 [.list 4 ANd.d [],.i64 0]]++ownsB 71 2 AFd.d q)) rfl ?_;refine gNl ?_;refine FY [7,8,9] [0,1,2,3,4] [3] A0 (by decide +kernel) (by decide +kernel) rfl ?_;refine Ay rfl rfl rfl rfl rfl rfl (oMv rfl) ?_;refine Ay rfl rfl rfl rfl rfl rfl (AH rfl) ?_;refine Ay rfl rfl rfl rfl rfl rfl (oFb Jk rfl) ?_;refine NW rfl rfl rfl rfl rfl (oLb 1 isAgg43 rfl rfl rfl rfl) ?_;refine Ay rfl rfl rfl rfl rfl rfl (oMv rfl) ?_;refine Ay rfl rfl rfl rfl rfl rfl (oMv rfl) ?_;refine Ay rfl rfl rfl rfl rfl rfl (oLg 0 isAgg59 sizeOf59 rfl rfl rfl rfl (nB rfl)) ?_;refine FO rfl ?_;refine FO rfl ?_;refine FO rfl ?_;refine Gz ?_;refine Ld rfl rfl rfl rfl (Ey (ms₁:=[box b 65 [.list 13 AutoState.d x.l,.i64 x.start,.v (.slice a m cap),.i64 0,.v (.slice a5 m5 cap5)],arr a m cap 49 4 NodeB.d q]) call30 rfl VC (T8 (s:=s) (by omega) hsf hst hsv)) ?_;rintro _ _ ⟨_,⟨rfl,a2,m2,cap2,qn,rfl,hq2⟩,rfl⟩;refine ⟨⟨trivial,oLb 0 isAgg43 rfl rfl rfl rfl⟩,?_⟩;refine Ld rfl rfl rfl rfl (OpT.conv (CD VL) (Af 3 runUnderlying43 sizeOf3 rfl rfl rfl hidx)) ?_;rintro _ _ ⟨rfl,rfl⟩;refine ⟨⟨trivial,oLb 1 isAgg43 rfl rfl rfl rfl⟩,?_⟩;refine F3 rfl rfl rfl (AV (off:=0) (z':=(BB (q.length:Int) s).1) 3 sizeOf3 rfl rfl hget (by omega) rfl rfl rfl rfl rfl (nB rfl) rfl rfl) ?_;rintro _ _ rfl;refine ⟨⟨trivial,oLb 1 isAgg43 rfl rfl rfl rfl⟩,?_⟩;refine FW ?_;refine gRg ?_;refine Ai rfl rfl rfl (Gy rfl rfl (CO (by constructor <;> omega))) ?_;refine zq2 ?_;refine ⟨(i+1,(a2,m2,cap2),q++qn),⟨by show i+1<=x.l.length;omega,?_⟩,by show x.l.length - (i+1)<x.l.length - i;omega,⟨rfl,trivial⟩,⟨rfl,rfl,rfl,rfl,rfl,trivial⟩,[box b8 59 [.bool s.plus,.bool s.all,.bool s.int,.bool s.bool,.bool s.str,.bool s.arrow,.bool s.rec_,.bool s.tag,.list 1 D.i64 s.vars,.i64 s.dom,.i64 s.cod,.list 2 AutoEdge.d s.fields,.list 2 AutoEdge.d s.tags]],?_⟩
   ·show (q++qn).map nodN=(runB (x.l.take (i+1))).2
    rw [hrun,List.map_append,hqn,hq2]
   ·show _=[box b8 59 [.bool s.plus,.bool s.all,.bool s.int,.bool s.bool,.bool s.str,.bool s.arrow,.bool s.rec_,.bool s.tag,.list 1 D.i64 s.vars,.i64 s.dom,.i64 s.cod,.list 2 AutoEdge.d s.fields,.list 2 AutoEdge.d s.tags]]++([box b 65 [.list 13 AutoState.d x.l,.i64 x.start,.v (.slice a2 m2 cap2),.i64 0,.v (.slice a5 m5 cap5)],arr a2 m2 cap2 49 4 NodeB.d (q++qn),arr a5 m5 cap5 3 1 D.i64 ((runB (x.l.take (i+1))).1++List.replicate (x.l.length - (i+1)) 0),box b4 27 [.list 13 AutoState.d x.l,.i64 x.start],box b2 31 [.list 4 ANd.d [],.i64 0]]++ownsB 71 2 AFd.d (q++qn))
    rw [<- hset,IF]
    rfl
  ·have hge:i=x.l.length:=by have:=of_decide_eq_false hc2;omega
   subst hge;rw [List.take_length] at hqn hql;rw [List.take_length,Nat.sub_self,List.replicate_zero,List.append_nil]
   have hrl:=Hg x.l
   have hlk:∀ y∈q,lkOk (runB x.l).1.length y:=by
    intro y hy
    have h:=hB.ok (nodN y) (by rw [<- hqn];exact List.mem_map.2 ⟨y,hy,rfl⟩)
    rw [hrl];exact h
   have hst:=M1 (at_:=(runB x.l).1) hB.s0 (by rw [hrl];exact hB.s1)
   refine Ar ?_;refine Al rfl rfl ?_;refine zq3 ?_;refine AG rfl rfl rfl (Ey (ms₁:=[box b 65 [.list 13 AutoState.d x.l,.i64 x.start,.v (.slice a m cap),.i64 0,.v (.slice a5 m5 cap5)],arr a m cap 49 4 NodeB.d q,arr a5 m5 cap5 3 1 D.i64 (runB x.l).1]++ownsB 71 2 AFd.d q) call31 rfl permT2 (U9 (by omega) hlk)) ?_;rintro _ _ ⟨_,⟨rfl,rfl⟩,rfl⟩;refine Ap (CD permT2.symm) ?_;refine zq2 ?_;refine zdr 12 ?_;refine zq2 ?_;refine AC rfl rfl rfl (AH rfl) ?_;refine AC rfl rfl rfl (oFb Jk rfl) ?_;refine zq3 ?_;refine AC rfl rfl rfl (Af 2 runUnderlying43 sizeOf3 rfl rfl rfl hst) ?_;refine AC rfl rfl rfl (AL (off:=0) 2 isAgg3 rfl rfl (Av hst).2 (by omega) rfl rfl) ?_;refine AC rfl rfl rfl (AH rfl) ?_;refine AC rfl rfl rfl (oFb Hq rfl) ?_;refine zq2 ?_;refine zst 0 ?_;refine Ak (ms':=[box b 65 [.list 13 AutoState.d x.l,.i64 x.start,.v (.slice a m cap),.i64 (atI (runB x.l).1 x.start),.v (.slice a5 m5 cap5)],arr a m cap 49 4 NodeB.d (q.map (lkB (runB x.l).1)),arr a5 m5 cap5 3 1 D.i64 (runB x.l).1,box b4 27 [.list 13 AutoState.d x.l,.i64 x.start],box b2 31 [.list 4 ANd.d [],.i64 0]]++ownsB 71 2 AFd.d (q.map (lkB (runB x.l).1))) rfl ?_;refine zq4 ?_;refine Ai rfl rfl rfl (AH rfl) ?_;refine Ai rfl rfl rfl (oFb Hq rfl) ?_;refine zq1 ?_;refine Ap (CD Vy) ?_;refine Ap (L4 (i:=60) (h:=nodN) (g:=ANd.d) (fun _=>rfl) rfl) ?_
   have hqm:(q.map (lkB (runB x.l).1)).map nodN=(backT x).l:=by
    show _=(runB x.l).2.map (lkN (runB x.l).1)
    rw [<- hqn,List.map_map,List.map_map];rfl
   refine zc0 (MU (t1:=⟨(q.map (lkB (runB x.l).1)).map nodN,atI (runB x.l).1 x.start⟩) (by rw [hqm];exact hm)) ?_;refine zq2 ?_;refine zst 3 ?_;refine zq2 ?_;refine Ae ?_;exact retK (Lb (ds:=[_,_]) rfl (by decide) ⟨Ff 3 rfl rfl rfl isAgg31 sizeOf31 rfl,⟨B5 rfl,rfl⟩⟩ (EV _)) rfl
end Go.Proofs.YtcoghblhdjmbfaaGreat
namespace Go.Proofs.YtcoghblhdjmbfaaGreat
open Go.V Tryz
noncomputable def AU  : Option Bool:=
 (C7 (⟨[(⟨true,false,true,true,false,false,false,false,([]:List Int),0,0,([]:List AutoEdge),([]:List AutoEdge)⟩:AutoState)],0⟩:AutoAuto)).bind fun (x1,x2) =>
 (bif ((decide (x2=0))&&(decide ((x1.l.length:Int)=3))) then ((idx x1.l 0).bind fun x3 =>
 some (decide (x3.kind=9))) else (some false)).bind fun p1 =>
 some p1
theorem Cj  {r_1:Bool} (hm:AU=some r_1):Fn0 Tryz.prog 11 [] (.bool r_1):=by
 unfold AU at hm;refine Ad func11 rfl ntmps11 rfl fun H0 fr w0=>?_;refine zq6 ?_;refine Ai rfl rfl rfl zb59b ?_;refine Ai rfl rfl rfl (Aj (xs:=[_]) (f:=AutoState.d) (l:=[(⟨true,false,true,true,false,false,false,false,([]:List Int),0,0,([]:List AutoEdge),([]:List AutoEdge)⟩:AutoState)]) runUnderlying25 sizeOf59 zeroValue59 rfl rfl rfl (fun _=>⟨rfl,rfl,rfl⟩) rfl) ?_;refine Ai rfl rfl rfl zb27b ?_;obtain ⟨⟨x1,x2⟩,hx1,hm⟩:=bS hm;refine zc0 (Kk hx1) ?_;refine zq3 ?_;refine F2 fun b1=>?_;refine zst 0 ?_;refine Ak (ms':=[box b1 31 [_,_]]) rfl ?_;refine zq7 ?_
 apply Bm [(1,_)] 5 17 (t:=12) ⟨rfl,trivial⟩ rfl
 ·intro hg_1 hk1
  refine zq5 ?_;exact zgm hk1
 ·intro hg_1 hk1
  refine zq5 ?_;exact zgm hk1
 refine zq1 ?_;obtain ⟨p1,hp_2,hm⟩:=bS hm;refine AF [] 7 25 p1 (t:=18) trivial rfl (fun hg_2 hk2=>?_) (fun hg_2 hk2=>?_) ?_
 ·replace hp_2:=AD hg_2 hp_2
  refine zq2 ?_;obtain ⟨x3,hx2,hp_2⟩:=bS hp_2;refine zq5 ?_;exact zgb hk2 hp_2
 ·replace hp_2:=AE hg_2 hp_2
  refine zq7 ?_;exact zgb hk2 hp_2
 refine zq2 ?_
 cases hm;exact Ae zr1
noncomputable def AO (x13:AutoAuto):Nat->(Int×Int)->Option Int
 | 0,_=>none
 | n+1,(most2,i1) =>
  bif (decide (i1<(x13.l.length:Int))) then
   (idx x13.l i1).bind fun x14 =>
   (B8 x14).bind fun x15 =>
   grd (InR (x15 - 1)) <|
   grd (InR (most2+(if 0 > (x15 - 1) then 0 else (x15 - 1)))) <|
   grd (InR (i1+1)) <|
   AO x13 n ((most2+(if 0 > (x15 - 1) then 0 else (x15 - 1))),(i1+1))
  else
   some most2
noncomputable def AK (x2:ATy):Nat->(Int×Int)->Option Int
 | 0,_=>none
 | n+1,(n2,i2) =>
  bif (decide (i2<(x2.l.length:Int))) then
   (idx x2.l i2).bind fun x16 =>
   (bif (decide (x16.kind=9)) then (some true) else ((idx x2.l i2).bind fun x17 =>
   some (decide (x17.kind=10)))).bind fun p5 =>
   bif p5 then
    grd (InR (n2+1)) <|
    grd (InR (i2+1)) <|
    AK x2 n ((n2+1),(i2+1))
   else
    grd (InR (i2+1)) <|
    AK x2 n (n2,(i2+1))
  else
   some n2
noncomputable def Cc (a1:AutoAuto):Option Bool:=
 (Cr a1 12).bind fun x1 =>
 (C7 (⟨x1.l,x1.start⟩:AutoAuto)).bind fun (x2,x3) =>
 (CN (⟨x1.l,x1.start⟩:AutoAuto)).bind fun x4 =>
 (CA (⟨x4.l,x4.start⟩:AutoAuto)).bind fun x5 =>
 bif (!decide (x5=0)) then
  (bif ((decide (x3=x5))&&(decide ((x2.l.length:Int)=0))) then ((AU).bind fun x6 =>
  some x6) else (some false)).bind fun p1 =>
  some p1
 else
  bif (!decide (x3=0)) then ((bif (decide (x3=8)) then ((AU).bind fun x7 =>
  some x7) else (some false)).bind fun p2 =>
  some p2) else ((BO (⟨x2.l,x2.root⟩:ATy)).bind fun x8 =>
  bif (!decide (x8=0)) then ((bif (decide (x3=8)) then ((AU).bind fun x9 =>
  some x9) else (some false)).bind fun p3 =>
  some p3) else ((Gc (⟨x2.l,x2.root⟩:ATy) x2.root).bind fun x10 =>
  (DT (⟨x2.l,x2.root⟩:ATy) x10).bind fun x11 =>
  bif (!x11) then
   (bif (decide (x3=8)) then ((AU).bind fun x12 =>
   some x12) else (some false)).bind fun p4 =>
   some p4
  else
   (Co (⟨x4.l,x4.start⟩:AutoAuto)).bind fun x13 =>
   (AO x13 FU (0,0):Option Int).bind fun most1 =>
   (AK x2 FU (0,0):Option Int).bind fun n1 =>
   (Cp (⟨x4.l,x4.start⟩:AutoAuto)).bind fun x18 =>
   (bif (decide (n1<=most1)) then ((Dk (⟨x2.l,x2.root⟩:ATy) (⟨x18.l,x18.root⟩:ATy)).bind fun x19 =>
   some x19) else (some false)).bind fun p6 =>
   (bif p6 then ((Dk (⟨x18.l,x18.root⟩:ATy) (⟨x2.l,x2.root⟩:ATy)).bind fun x20 =>
   some x20) else (some false)).bind fun p7 =>
   (bif p7 then ((AU).bind fun x21 =>
   some x21) else (some false)).bind fun p8 =>
   some p8))
theorem w_syntagmalaw27_BackTypes {a1:AutoAuto} {r_1:Bool} (hm:Cc a1=some r_1):Fn0 Tryz.prog 3 [AutoAuto.d a1] (.bool r_1):=by
 unfold Cc at hm;refine Ad func3 rfl ntmps3 rfl fun H0 fr w0=>?_;refine zq8 ?_;obtain ⟨x1,hx1,hm⟩:=bS hm;refine zc0 (HQ hx1) ?_;refine Kc fun b1=>?_;refine zst 0 ?_;refine Ak (ms':=[box b1 27 [_,_]]) rfl ?_;refine zq4 ?_;obtain ⟨⟨x2,x3⟩,hx2,hm⟩:=bS hm;refine zc0 (Kk hx2) ?_;refine zq3 ?_;refine F2 fun b2=>?_;refine zst 0 ?_;refine Ak (ms':=[box b2 31 [_,_],box b1 27 [_,_]]) rfl ?_;refine zq5 ?_;obtain ⟨x4,hx3,hm⟩:=bS hm;refine zc0 (IT hx3) ?_;refine JX fun b3=>?_;refine zst 0 ?_;refine Ak (ms':=[box b3 24 [_,_],box b2 31 [_,_],box b1 27 [_,_]]) rfl ?_;refine zq5 ?_;obtain ⟨x5,hx4,hm⟩:=bS hm;refine zc0 (IL hx4) ?_;refine zq7 ?_;refine zcn hm (fun hc1 hm=>?_) (fun hc1 hm=>?_)
 ·refine zq6 ?_
  apply Bm [] 5 35 (t:=30) trivial rfl
  ·intro hg_1 hk1
   refine zq5 ?_;exact zgm hk1
  ·intro hg_1 hk1
   refine zq5 ?_;exact zgm hk1
  refine zq1 ?_;obtain ⟨p1,hp_2,hm⟩:=bS hm;refine AF [] 2 38 p1 (t:=36) trivial rfl (fun hg_2 hk2=>?_) (fun hg_2 hk2=>?_) ?_
  ·replace hp_2:=AD hg_2 hp_2
   obtain ⟨x6,hx5,hp_2⟩:=bS hp_2;refine zcw (Cj hx5) ?_;refine zq1 ?_;exact zgb hk2 hp_2
  ·replace hp_2:=AE hg_2 hp_2
   refine zq2 ?_;exact zgb hk2 hp_2
  refine zq2 ?_
  cases hm;exact Ae zr1
 ·refine zq3 ?_
  rcases CQ hm with ⟨hg_3,hm⟩ | ⟨hg_3,hm⟩
  ·
   skip
   refine zdr 16 ?_;refine zq18 ?_;refine Bt rfl rfl ?_;refine zq5 ?_;obtain ⟨p2,hp_4,hm⟩:=bS hm;refine AF [] 2 59 p2 (t:=57) trivial rfl (fun hg_4 hk4=>?_) (fun hg_4 hk4=>?_) ?_
   ·replace hp_4:=AD hg_4 hp_4
    obtain ⟨x7,hx6,hp_4⟩:=bS hp_4;refine zcw (Cj hx6) ?_;refine zq1 ?_;exact zgb hk4 hp_4
   ·replace hp_4:=AE hg_4 hp_4
    refine zq2 ?_;exact zgb hk4 hp_4
   refine zq2 ?_
   cases hm;exact Ae zr1
  ·
   skip
   obtain ⟨x8,hx7,hm⟩:=bS hm
   rcases CQ hm with ⟨hg_5,hm⟩ | ⟨hg_5,hm⟩
   ·
    skip
    refine zdr 16 ?_;refine zq4 ?_;refine zce (Fs hx7) ?_;refine zq13 ?_;refine Bt rfl rfl ?_;refine zq5 ?_;obtain ⟨p3,hp_6,hm⟩:=bS hm;refine AF [] 2 59 p3 (t:=57) trivial rfl (fun hg_6 hk6=>?_) (fun hg_6 hk6=>?_) ?_
    ·replace hp_6:=AD hg_6 hp_6
     obtain ⟨x9,hx8,hp_6⟩:=bS hp_6;refine zcw (Cj hx8) ?_;refine zq1 ?_;exact zgb hk6 hp_6
    ·replace hp_6:=AE hg_6 hp_6
     refine zq2 ?_;exact zgb hk6 hp_6
    refine zq2 ?_
    cases hm;exact Ae zr1
   ·
    skip
    obtain ⟨x10,hx9,hm⟩:=bS hm;obtain ⟨x11,hx10,hm⟩:=bS hm;refine zdr 16 ?_;refine zq4 ?_;refine zce (Fs hx7) ?_;refine zq7 ?_;refine zce (Rh hx9) ?_;refine zce (LY hx10) ?_;refine zq4 ?_;refine zcn hm (fun hc2 hm=>?_) (fun hc2 hm=>?_)
    ·refine zq5 ?_
     obtain ⟨p4,hp_7,hm⟩:=bS hm;refine AF [] 2 59 p4 (t:=57) trivial rfl (fun hg_7 hk7=>?_) (fun hg_7 hk7=>?_) ?_
     ·replace hp_7:=AD hg_7 hp_7
      obtain ⟨x12,hx11,hp_7⟩:=bS hp_7;refine zcw (Cj hx11) ?_;refine zq1 ?_;exact zgb hk7 hp_7
     ·replace hp_7:=AE hg_7 hp_7
      refine zq2 ?_;exact zgb hk7 hp_7
     refine zq2 ?_
     cases hm;exact Ae zr1
    ·refine zq4 ?_
     obtain ⟨x13,hx12,hm⟩:=bS hm;refine zc0 (HZ hx12) ?_;refine JX fun b4=>?_;refine zq2 ?_;refine zst 0 ?_;refine Ak (ms':=[box b4 24 [_,_],box b3 24 [_,_],box b2 31 [_,_],box b1 27 [_,_]]) rfl ?_;refine zq6 ?_;obtain ⟨o_1,hj1,hm1⟩:=bS hm;refine Ag [(4,_),(6,_),(9,_)] [(0,_),(1,_),(2,_),(3,_)] (fun (st:Int) (hid:Unit)=>match st,hid with | most1,_=>[(8,.i64 most1)]) (fun F (st:Int) (hid:Unit)=>match st,hid with | most1,_=>[(nthF F 0),(nthF F 1),(nthF F 2),(nthF F 3)]) (fun st=>st=o_1) ⟨rfl,rfl,rfl,trivial⟩ ⟨rfl,rfl,rfl,rfl,trivial⟩ ?_ ?_
     ·refine Am ?_
      refine Ah [(4,_),(6,_),(9,_),(10,_)] [(0,_),(1,_),(2,_),(3,_)] (fun (st:(Int×Int)) (hid:Unit)=>match st,hid with | (most2,i1),_=>[(8,.i64 most2),(11,.i64 i1)]) (fun F (st:(Int×Int)) (hid:Unit)=>match st,hid with | (most2,i1),_=>[(nthF F 0),(nthF F 1),(nthF F 2),(nthF F 3)]) () hj1 (fun _=>rfl) ⟨rfl,rfl,rfl,rfl,trivial⟩ ⟨rfl,rfl,rfl,rfl,trivial⟩ ⟨rfl,rfl,trivial⟩ rfl ?_;rintro n ⟨most2,i1⟩ _ hj1;rw [AO] at hj1;refine Ao (L':=[(8,.i64 most2),(11,.i64 i1),(4,_),(6,_),(9,_),(10,_)]) (ms':=[_,_,_,_]) rfl rfl ?_;refine zq9 ?_;refine zcn hj1 (fun hc3 hj1=>?_) (fun hc3 hj1=>?_)
      ·refine zq8 ?_
       obtain ⟨x14,hx13,hj1⟩:=bS hj1;refine Ai rfl rfl rfl (oIm runUnderlying22 sizeOf46 rfl rfl hx13) ?_;refine zq1 ?_;obtain ⟨x15,hx14,hj1⟩:=bS hj1;refine zc0 (Hw hx14) ?_;obtain ⟨hg15,hj1⟩:=Aa hj1;refine zq1 ?_;refine Ai rfl rfl rfl (TQ rfl rfl) ?_;obtain ⟨hg16,hj1⟩:=Aa hj1;refine zq5 ?_;obtain ⟨hg17,hj1⟩:=Aa hj1;refine zq3 ?_;exact ⟨_,(),hj1,⟨rfl,rfl,trivial⟩,⟨rfl,rfl,rfl,rfl,trivial⟩,[],rfl⟩
      ·refine Ar ?_
       exact ⟨_,(),Ac hj1,⟨rfl,trivial⟩,⟨rfl,rfl,rfl,trivial⟩,[],rfl⟩
     ·rintro most1 _ hst
      subst hst;refine Al (L':=[(8,.i64 most1),(4,_),(6,_),(9,_)]) (ms':=[_,_,_,_]) rfl rfl ?_;refine zq5 ?_;obtain ⟨o_2,hj2,hm2⟩:=bS hm1;refine Ag [(4,_),(6,_),(8,_)] [(0,_),(1,_),(2,_),(3,_)] (fun (st:Int) (hid:Unit)=>match st,hid with | n1,_=>[(9,.i64 n1)]) (fun F (st:Int) (hid:Unit)=>match st,hid with | n1,_=>[(nthF F 0),(nthF F 1),(nthF F 2),(nthF F 3)]) (fun st=>st=o_2) ⟨rfl,rfl,rfl,trivial⟩ ⟨rfl,rfl,rfl,rfl,trivial⟩ ?_ ?_
      ·refine Am ?_
       refine Ah [(4,_),(6,_),(8,_)] [(0,_),(1,_),(2,_),(3,_)] (fun (st:(Int×Int)) (hid:Unit)=>match st,hid with | (n2,i2),_=>[(9,.i64 n2),(12,.i64 i2)]) (fun F (st:(Int×Int)) (hid:Unit)=>match st,hid with | (n2,i2),_=>[(nthF F 0),(nthF F 1),(nthF F 2),(nthF F 3)]) () hj2 (fun _=>rfl) ⟨rfl,rfl,rfl,trivial⟩ ⟨rfl,rfl,rfl,rfl,trivial⟩ ⟨rfl,rfl,trivial⟩ rfl ?_;rintro n ⟨n2,i2⟩ _ hj2;rw [AK] at hj2;refine Ao (L':=[(9,.i64 n2),(12,.i64 i2),(4,_),(6,_),(8,_)]) (ms':=[_,_,_,_]) rfl rfl ?_;refine zq9 ?_;refine zcn hj2 (fun hc4 hj2=>?_) (fun hc4 hj2=>?_)
       ·refine zq8 ?_
        obtain ⟨x16,hx18,hj2⟩:=bS hj2;refine Ai rfl rfl rfl (oIm runUnderlying29 sizeOf49 rfl rfl hx18) ?_;refine zq4 ?_;obtain ⟨p5,hp_8,hj2⟩:=bS hj2;refine AF [(4,_),(6,_),(8,_),(9,_),(12,_)] 8 101 p5 (t:=93) ⟨rfl,rfl,rfl,rfl,rfl,trivial⟩ rfl (fun hg_8 hk8=>?_) (fun hg_8 hk8=>?_) ?_
        ·replace hp_8:=AD hg_8 hp_8
         refine zq8 ?_;exact zgb hk8 hp_8
        ·replace hp_8:=AE hg_8 hp_8
         refine zq3 ?_;obtain ⟨x17,hx19,hp_8⟩:=bS hp_8;refine gWp rfl rfl rfl hg_8 rfl rfl (oIm runUnderlying29 sizeOf49 rfl rfl hx19) ?_;refine zq4 ?_;exact zgb hk8 hp_8
        refine gNl ?_;refine zcn hj2 (fun hc5 hj2=>?_) (fun hc5 hj2=>?_)
        ·refine zq2 ?_
         obtain ⟨hg20,hj2⟩:=Aa hj2;refine zq5 ?_;obtain ⟨hg21,hj2⟩:=Aa hj2;refine zq3 ?_;exact ⟨_,(),hj2,⟨rfl,rfl,trivial⟩,⟨rfl,rfl,rfl,trivial⟩,[],rfl⟩
        ·refine zq3 ?_
         obtain ⟨hg22,hj2⟩:=Aa hj2;refine zq3 ?_;exact ⟨_,(),hj2,⟨rfl,rfl,trivial⟩,⟨rfl,rfl,rfl,trivial⟩,[],rfl⟩
       ·refine Ar ?_
        exact ⟨_,(),Ac hj2,⟨rfl,trivial⟩,⟨rfl,rfl,rfl,trivial⟩,[],rfl⟩
      ·rintro n1 _ hst
       subst hst;refine Al (L':=[(9,.i64 n1),(4,_),(6,_),(8,_)]) (ms':=[_,_,_,_]) rfl rfl ?_;refine zq3 ?_;obtain ⟨x18,hx23,hm2⟩:=bS hm2;refine zc0 (Ii hx23) ?_;refine F2 fun b5=>?_;refine zst 0 ?_;refine Ak (ms':=[box b5 31 [_,_],box b4 24 [_,_],box b3 24 [_,_],box b2 31 [_,_],box b1 27 [_,_]]) rfl ?_;refine zq7 ?_;obtain ⟨p6,hp_9,hm2⟩:=bS hm2;refine AF [(4,_),(13,_)] 4 113 p6 (t:=109) ⟨rfl,rfl,trivial⟩ rfl (fun hg_9 hk9=>?_) (fun hg_9 hk9=>?_) ?_
       ·replace hp_9:=AD hg_9 hp_9
        refine zq2 ?_;obtain ⟨x19,hx24,hp_9⟩:=bS hp_9;refine zcw (LN hx24) ?_;refine zq1 ?_;exact zgb hk9 hp_9
       ·replace hp_9:=AE hg_9 hp_9
        refine zq4 ?_;exact zgb hk9 hp_9
       refine zq1 ?_;obtain ⟨p7,hp_10,hm2⟩:=bS hm2;refine AF [] 4 118 p7 (t:=114) trivial rfl (fun hg_10 hk10=>?_) (fun hg_10 hk10=>?_) ?_
       ·replace hp_10:=AD hg_10 hp_10
        refine zq2 ?_;obtain ⟨x20,hx25,hp_10⟩:=bS hp_10;refine zcw (LN hx25) ?_;refine zq1 ?_;exact zgb hk10 hp_10
       ·replace hp_10:=AE hg_10 hp_10
        refine zq4 ?_;exact zgb hk10 hp_10
       refine zq1 ?_;obtain ⟨p8,hp_11,hm2⟩:=bS hm2;refine AF [] 2 121 p8 (t:=119) trivial rfl (fun hg_11 hk11=>?_) (fun hg_11 hk11=>?_) ?_
       ·replace hp_11:=AD hg_11 hp_11
        obtain ⟨x21,hx26,hp_11⟩:=bS hp_11;refine zcw (Cj hx26) ?_;refine zq1 ?_;exact zgb hk11 hp_11
       ·replace hp_11:=AE hg_11 hp_11
        refine zq2 ?_;exact zgb hk11 hp_11
       refine zq2 ?_
       cases hm2;exact Ae zr1
end Go.Proofs.YtcoghblhdjmbfaaGreat
namespace Go.Proofs.YtcoghblhdjmbfaaGreat
open Go.V Tryz
open Classical
def SB (s:AutoState):Prop:=s.vars.length<=40/\s.fields.length<=40/\s.tags.length<=40
def AB (a:AutoAuto):Prop:=a.l.length<=2001/\∀ s∈a.l,SB s
theorem FUv:FU=18446744073709551616:=rfl
def nextP (s:AutoState):List Int:=(if s.arrow=true then [s.dom,s.cod] else [])++s.fields.map (·.to_)++s.tags.map (·.to_)
theorem J7 (s:AutoState) (h:SB s):(nextP s).length<=82:=by
 obtain ⟨h1,h2,h3⟩:=h;unfold nextP
 split <;> simp <;> omega
theorem Nj (l:List AutoEdge) (h:l.length<=40):Df l=some (l.map (·.to_)):=by
 unfold Df;refine bnd (BW (φ:=fun n i s=>DV l n (i,s)) (l:=l) (fun x=>x.to_) id 0 ?_ ?_ (by rw [FUv];omega) [] rfl) rfl
 ·intro n i x s hx hi hs
  simp only [DV];rw [dT (by omega),cT,getI hx,oB,Ab (by simp;omega),Ab (by omega)]
 ·intro n s hs
  simp only [DV];rw [dF (by omega),cF_];rfl
theorem Mh (ls:List (List Int)) (h:ls.length<=3) (h2:∀ l∈ls,l.length<=40):Lp ls=some ls.flatten:=by
 have hm:∀ {i:Nat} {x:List Int},ls[i]? = some x->x.length<=40:=fun hx=>h2 _ (List.mem_of_getElem? hx)
 unfold Lp
 have e1:=Ir (φ:=fun n i s=>Hh ls n (s,i)) (l:=ls) (fun i s=>0<=s/\s<=40*i) (fun _ s x=>s+(x.length:Int)) id (by
  intro n i x s hx hi hI
  have hm:=hm hx
  simp only [Hh];rw [dT (by omega),cT,getI hx,oB,Ab (by omega),dF (by omega),cF_,Ab (by omega)];exact ⟨rfl,by omega⟩) (by
  intro n s hI
  simp only [Hh];rw [dF (by omega),cF_];rfl) (by rw [FUv];omega) (fun _ t s=>t.foldl (fun s x=>s+(x.length:Int)) s) (fun _ _=>rfl) (fun _ _ _ _=>rfl) 0 (by omega)
 have e2:=Ir (φ:=fun n i s=>G3 ls n (i,s)) (l:=ls) (fun i s=>s.length<=40*i) (fun _ s x=>s++x) id (by
  intro n i x s hx hi hI
  have hm:=hm hx
  simp only [G3];rw [dT (by omega),cT,getI hx,oB,Ab (by omega),Ab (by omega)];exact ⟨rfl,by simp;omega⟩) (by
  intro n s hI
  simp only [G3];rw [dF (by omega),cF_];rfl) (by rw [FUv];omega) (fun _ t s=>s++t.flatten) (by simp) (by simp) [] (by simp)
 refine bnd e1.1 ?_
 have e3:=e1.2
 rw [id,Ab (by omega),Ab (by omega)];exact bnd e2.1 rfl
theorem UE (s:AutoState) (h:SB s):FP s=some (nextP s):=by
 obtain ⟨h1,h2,h3⟩:=h;unfold FP;refine bnd (x:=if s.arrow=true then [s.dom,s.cod] else []) ?_ ?_
 ·cases s.arrow with
  | true=>rw [cT,Ab (by simp)];rfl
  | false=>rfl
 rw [Nj _ h2,oB,Nj _ h3,oB,Mh]
 ·simp [nextP]
 ·simp
 ·intro l hl
  simp only [List.mem_cons,List.not_mem_nil,or_false] at hl
  rcases hl with rfl | rfl | rfl
  ·split <;> simp
  ·simpa using h2
  ·simpa using h3
theorem O1 (s:AutoState) (h:SB s):B2 s=some (nextP s):=by
 obtain ⟨h1,h2,h3⟩:=h;unfold B2
 have hl:(if s.arrow=true then [s.dom,s.cod] else []).length<=2:=by split <;> simp
 refine bnd (x:=if s.arrow=true then [s.dom,s.cod] else []) ?_ ?_
 ·cases s.arrow <;> rfl
 refine bnd (BW (φ:=fun n i s2=>Bz s n (i,s2)) (l:=s.fields) (fun x=>x.to_) id _ ?_ ?_ (by rw [FUv];omega) _ rfl) ?_
 ·intro n i x s2 hx hi hs
  simp only [Bz];rw [dT (by omega),cT,getI hx,oB,Ab (by simp;omega),Ab (by omega)]
 ·intro n s2 hs
  simp only [Bz];rw [dF (by omega),cF_];rfl
 refine bnd (BW (φ:=fun n i s2=>Bx s n (i,s2)) (l:=s.tags) (fun x=>x.to_) id _ ?_ ?_ (by rw [FUv];omega) _ rfl) ?_
 ·intro n i x s2 hx hi hs
  simp only [id,List.length_append,List.length_map] at hs;simp only [Bx];rw [dT (by omega),cT,getI hx,oB,Ab (by simp;omega),Ab (by omega)]
 ·intro n s2 hs
  simp only [Bx];rw [dF (by omega),cF_];rfl
 ·rfl
theorem Qp (l:List Int) (h:l.length<=100):Ge l=some l:=by
 unfold Ge;rw [Ab (by omega)];rfl
theorem Ku (a b:List Int) (h:a.length<=3000):DR a b=some (decide (a=b)):=by
 unfold DR;simp only [Bool.cond_eq_ite,Bool.not_eq_true',decide_eq_false_iff_not]
 by_cases hl:a.length=b.length
 ·rw [if_neg (by omega)]
  refine bnd (Du (φ:=CL a b) (l:=a) false (fun i x=>b[i]? = some x) ?_ ?_ (by rw [FUv];omega)) ?_
  ·intro n i x hx hi
   simp only [CL]
   have hy:b[i]? = some b[i]:=List.getElem?_eq_getElem (by omega)
   rw [dT (by omega),cT,getI hx,oB,getI hy,oB,hy];simp only [Bool.cond_eq_ite,Bool.not_eq_true',decide_eq_false_iff_not]
   constructor
   ·intro h;rw [if_neg (by simpa using (Option.some.inj h).symm),Ab (by omega)]
   ·intro h;rw [if_pos (by intro h2;exact h (by rw [h2]))]
  ·intro n
   simp only [CL];rw [dF (by omega),cF_]
  ·by_cases h3:a=b
   ·subst h3
    rw [if_pos (fun i x h=>h),dT rfl];rfl
   ·rw [if_neg,dF h3];rfl
    intro h4
    refine h3 (List.ext_getElem? fun i=>?_)
    by_cases hi:i<a.length
    ·rw [h4 i a[i] (List.getElem?_eq_getElem hi),List.getElem?_eq_getElem hi]
    ·rw [List.getElem?_eq_none (by omega),List.getElem?_eq_none (by omega)]
 ·rw [if_pos (by omega),dF (fun h=>hl (by rw [h]))]
def Ew (c:UInt8):Bool:=(decide (97<=(c.toNat:Int))&&decide ((c.toNat:Int)<=122))||decide ((c.toNat:Int)=95)
def Ev (c:UInt8):Bool:=decide (65<=(c.toNat:Int))&&decide ((c.toNat:Int)<=90)
def moreB (c:UInt8):Bool:=(Ew c||Ev c)||(decide (48<=(c.toNat:Int))&&decide ((c.toNat:Int)<=57))
def wordP:List UInt8->Nat
 | []=>0
 | c::r=>if Ew c=true\/Ev c=true then 1+(r.takeWhile moreB).length else 0
theorem T0 (c:UInt8) (r:List UInt8):wordP (c::r)=if Ew c=true\/Ev c=true then 1+(r.takeWhile moreB).length else 0:=rfl
theorem bt (b c:Bool):(bif b then some true else some c:Option Bool)=some (b||c):=by cases b <;> rfl
theorem bf (b c:Bool):(bif b then some c else some false:Option Bool)=some (b&&c):=by cases b <;> rfl
theorem Uf (s:List UInt8) (h:s.length<=1000000000000):FJ s=some (wordP s:Int):=by
 unfold FJ
 rcases s with _ | ⟨c,r⟩
 ·rfl
 ·rw [dF (by simp),cF_,I7,oB]
  simp only [C6,DJ,oB,bf];rw [show (((decide (97<=(c.toNat:Int)))&&(decide ((c.toNat:Int)<=122)))||(decide ((c.toNat:Int)=95)))=Ew c from rfl,show ((decide (65<=(c.toNat:Int)))&&(decide ((c.toNat:Int)<=90)))=Ev c from rfl];rw [T0]
  cases h1:Ew c||Ev c with
  | false =>
   simp only [Bool.or_eq_false_iff] at h1;rw [h1.1,h1.2];simp
  | true =>
   rw [if_pos (by simpa using h1)]
   have:(!Ew c && !Ev c)=false:=by cases hs:Ew c <;> cases hg:Ev c <;> simp_all
   rw [this,cF_];simp only [List.length_cons] at h;refine bnd (Lz (φ:=Dv (c::r)) (l:=c::r) moreB (fun i=>(i:Int)) ?_ ?_ FU 1 (by simp) (by rw [FUv];simp;omega)) rfl
   ·intro n i x hx hi
    simp only [List.length_cons] at hi;simp only [Dv];rw [dT (by simp only [List.length_cons];omega),cT,getI hx,oB];simp only [GA,C6,DJ,oB,bt]
    constructor
    ·intro hq
     simp only [moreB,Ew,Ev] at hq;rw [hq,cT,Ab (by omega)]
    ·intro hq
     simp only [moreB,Ew,Ev] at hq;rw [hq,cF_]
   ·intro n
    simp only [Dv];rw [dF (by omega),cF_,oB,cF_]
theorem Sl (s:List UInt8) (h:s.length<=1000000000000):Fz s=some (wordP s:Int):=by
 unfold Fz
 rcases s with _ | ⟨c,r⟩
 ·rfl
 ·rw [dF (by simp;omega),cF_,I7,oB]
  simp only [Ee,EN,oB,bf];rw [show (((decide (97<=(c.toNat:Int)))&&(decide ((c.toNat:Int)<=122)))||(decide ((c.toNat:Int)=95)))=Ew c from rfl,show ((decide (65<=(c.toNat:Int)))&&(decide ((c.toNat:Int)<=90)))=Ev c from rfl];rw [T0]
  cases h1:Ew c||Ev c with
  | false =>
   simp only [Bool.or_eq_false_iff] at h1;rw [h1.1,h1.2];simp
  | true =>
   rw [if_pos (by simpa using h1)]
   have:(!Ew c && !Ev c)=false:=by cases hs:Ew c <;> cases hg:Ev c <;> simp_all
   rw [this,cF_];simp only [List.length_cons] at h;refine bnd (Lz (φ:=Em (c::r)) (l:=c::r) moreB (fun i=>(i:Int)) ?_ ?_ FU 1 (by simp) (by rw [FUv];simp;omega)) rfl
   ·intro n i x hx hi
    simp only [List.length_cons] at hi;simp only [Em];rw [dT (by simp only [List.length_cons];omega),cT,getI hx,oB];simp only [Ee,EN,oB,bt,bf]
    constructor
    ·intro hq
     simp only [moreB,Ew,Ev] at hq;rw [hq,cT,Ab (by omega)]
    ·intro hq
     simp only [moreB,Ew,Ev] at hq;rw [hq,cF_]
   ·intro n
    simp only [Em];rw [dF (by omega),cF_,oB,cF_]
def keysL:List (List UInt8):=match DP with | some l=>l | none=>[]
theorem Uj:DP=some keysL:=rfl
theorem Sr:FE=some keysL:=rfl
theorem Ta (l:List (List UInt8)) (s:List UInt8) (h:l.length<=1000):OU l s=some (decide (s∈l)):=by
 unfold OU Q3
 have e:=FA (φ:=GV l s) (l:=l) (fun i=>(i:Int)) (fun x=>decide (s=x)) (by
  intro n i x hx hi
  simp only [GV];rw [dT (show (i:Int)<l.length by omega),cT,getI hx,oB]
  constructor
  ·intro hq;rw [show decide (s=x)=false from by simpa using hq,cF_,Ab (by omega)]
  ·intro hq;rw [show decide (s=x)=true from by simpa using hq,cT]) (by
  intro n
  simp only [GV];rw [dF (by omega),cF_]) (by rw [FUv];omega)
 rw [Dq e]
 cases hf:l.findIdx? (fun x=>decide (s=x)) with
 | none =>
  rw [List.findIdx?_eq_none_iff] at hf
  show some (decide _)=_
  congr 1
  rw [dF (by omega),dF]
  intro hs
  have:=hf s hs
  simp at this
 | some k =>
  rw [List.findIdx?_eq_some_iff_getElem] at hf;obtain ⟨hk,h1,_⟩:=hf
  show some (decide _)=_
  congr 1
  rw [dT (by omega),dT];simp only [decide_eq_true_eq] at h1;rw [h1];exact List.getElem_mem hk
theorem Mm (l:List (List UInt8)) (s:List UInt8) (h:l.length<=1000):Iz s l=some (decide (s∈l)):=by
 unfold Iz;refine bnd (Hc (φ:=Ft s l) (l:=l) true (fun _ x=>x=s) ?_ ?_ (by rw [FUv];omega)) ?_
 ·intro n i x hx hi
  simp only [Ft];rw [dT (by omega),cT,getI hx,oB]
  constructor
  ·intro hq;rw [dF hq,cF_,Ab (by omega)]
  ·intro hq;rw [dT hq,cT]
 ·intro n
  simp only [Ft];rw [dF (by omega),cF_]
 ·by_cases hs:s∈l
  ·obtain ⟨i,hi,h2⟩:=List.getElem_of_mem hs
   rw [if_pos ⟨i,s,by rw [<- h2];exact List.getElem?_eq_getElem hi,rfl⟩,dT hs];rfl
  ·rw [if_neg,dF hs];rfl
   rintro ⟨i,x,h1,rfl⟩;exact hs (List.mem_of_getElem? h1)
def Fi (s:List UInt8):Bool:=decide (s≠[])&&decide (s.length<=20)&&decide (wordP s=s.length)
def headP (p:UInt8->Bool):List UInt8->Bool
 | []=>false
 | c::_=>p c
def nameP (s:List UInt8):Bool:=Fi s&&headP Ew s && !decide (s∈keysL)
def tagP (s:List UInt8):Bool:=Fi s&&headP Ev s
theorem NI (s:List UInt8):Et s=some (Fi s):=by
 unfold Et Fi
 by_cases h1:s=[]
 ·subst h1;rfl
 by_cases h2:s.length<=20
 ·rw [dF h1,dT (show (s.length:Int)<=20 by omega),Uf s (by omega)]
  simp only [Bool.not_false,Bool.true_and,cT,oB,dT (show s≠[] from h1),dT h2]
  congr 1
  exact decide_eq_decide.2 (by omega)
 ·rw [dF (show ¬ (s.length:Int)<=20 by omega),dF h2];simp
theorem Q4 (s:List UInt8):D5 s=some (nameP s):=by
 unfold D5 nameP;rw [NI,oB]
 cases hw:Fi s with
 | false=>rfl
 | true =>
  rcases s with _ | ⟨c,r⟩
  ·simp [Fi] at hw
  ·rw [cT,I7,oB]
   simp only [C6,oB,E0,Uj,Bool.true_and];rw [Ta _ _ (by decide),oB,oB,bf,oB];rfl
theorem SC (s:List UInt8):EQ s=some (tagP s):=by
 unfold EQ tagP;rw [NI,oB]
 cases hw:Fi s with
 | false=>rfl
 | true =>
  rcases s with _ | ⟨c,r⟩
  ·simp [Fi] at hw
  ·rw [cT,I7,oB];rfl
theorem Ma (s:List UInt8):(bif ((decide (0<(s.length:Int)))&&(decide ((s.length:Int)<=20))) then ((Fz s).bind fun x1=>some (decide (x1=(s.length:Int)))) else (some false))=some (Fi s):=by
 unfold Fi
 by_cases h1:s=[]
 ·subst h1;rfl
 have h0:0<s.length:=List.length_pos_iff.2 h1
 by_cases h2:s.length<=20
 ·rw [dT (show 0<(s.length:Int) by omega),dT (show (s.length:Int)<=20 by omega),Sl s (by omega)]
  simp only [Bool.true_and,cT,oB,dT (show s≠[] from h1),dT h2]
  congr 1
  exact decide_eq_decide.2 (by omega)
 ·rw [dF (show ¬ (s.length:Int)<=20 by omega),dF h2];simp
theorem NN (s:List UInt8):ES s=some (nameP s):=by
 unfold ES nameP;refine bnd (Ma s) ?_
 cases hw:Fi s with
 | false=>rfl
 | true =>
  rcases s with _ | ⟨c,r⟩
  ·simp [Fi] at hw
  ·rw [cT,I7,oB]
   simp only [Ee,oB,F4,Sr,Bool.true_and];rw [Mm _ _ (by decide),oB,oB,bf,oB];rfl
theorem QN (s:List UInt8):FI s=some (tagP s):=by
 unfold FI tagP;refine bnd (Ma s) ?_
 cases hw:Fi s with
 | false=>rfl
 | true =>
  rcases s with _ | ⟨c,r⟩
  ·simp [Fi] at hw
  ·rw [cT,I7,oB];rfl
end Go.Proofs.YtcoghblhdjmbfaaGreat
namespace Go.Proofs.YtcoghblhdjmbfaaGreat
open Go.V Tryz
open Classical
def onP (a:AutoAuto) (k:Int) (p:Bool):Bool:=match idx a.l k with | some s=>s.plus == p | none=>false
theorem Rb (a:AutoAuto) (k:Int) (p:Bool):Cq a k p=some (onP a k p):=by
 unfold Cq onP
 by_cases h:0<=k/\k<(a.l.length:Int)
 ·rw [dT h.1,dT h.2]
  have hx:idx a.l k=some a.l[k.toNat]:=by
   unfold idx;rw [if_pos h.1];exact List.getElem?_eq_getElem (by omega)
  rw [hx];rfl
 ·have hx:idx a.l k=none:=by
   unfold idx
   split
   ·exact List.getElem?_eq_none (by omega)
   ·rfl
  rw [hx]
  have:(decide (0<=k)&&decide (k<(a.l.length:Int)))=false:=by
   rw [Bool.and_eq_false_iff,decide_eq_false_iff_not,decide_eq_false_iff_not];omega
  rw [this];rfl
def bareP (s:AutoState):Bool := !(s.all&&((((((s.int||s.bool)||s.str)||s.arrow)||s.rec_)||s.tag)||(decide (0<(s.vars.length:Int))))) && !((!s.arrow)&&((!decide (s.dom=0))||(!decide (s.cod=0))))&&((s.rec_||(decide ((s.fields.length:Int)=0)))&&(s.tag||(decide ((s.tags.length:Int)=0))))
theorem US (s:AutoState):FF s=some (bareP s):=by
 unfold FF bareP
 cases (s.all&&((((((s.int||s.bool)||s.str)||s.arrow)||s.rec_)||s.tag)||(decide (0<(s.vars.length:Int))))) with
 | true=>rfl
 | false =>
  cases ((!s.arrow)&&((!decide (s.dom=0))||(!decide (s.cod=0)))) <;> rfl
theorem Tw (s:AutoState):((((s.all&&((((((s.int||s.bool)||s.str)||s.arrow)||s.rec_)||s.tag)||(decide (0<(s.vars.length:Int)))))||((!s.arrow)&&((!decide (s.dom=0))||(!decide (s.cod=0)))))||((!s.rec_)&&(decide (0<(s.fields.length:Int)))))||((!s.tag)&&(decide (0<(s.tags.length:Int))))) = !bareP s:=by
 unfold bareP
 have e1:decide (0<(s.fields.length:Int)) = !decide ((s.fields.length:Int)=0):=by
  by_cases h:(s.fields.length:Int)=0
  ·rw [dT h,dF (by omega)];rfl
  ·rw [dF h,dT (by omega)];rfl
 have e2:decide (0<(s.tags.length:Int)) = !decide ((s.tags.length:Int)=0):=by
  by_cases h:(s.tags.length:Int)=0
  ·rw [dT h,dF (by omega)];rfl
  ·rw [dF h,dT (by omega)];rfl
 rw [e1,e2]
 cases (s.all&&((((((s.int||s.bool)||s.str)||s.arrow)||s.rec_)||s.tag)||(decide (0<(s.vars.length:Int))))) <;> cases ((!s.arrow)&&((!decide (s.dom=0))||(!decide (s.cod=0)))) <;> cases s.rec_ <;> cases s.tag <;> cases decide ((s.fields.length:Int)=0) <;> cases decide ((s.tags.length:Int)=0) <;> rfl
def numP (l:List Int) (i:Nat) (x:Int):Prop:=0<=x/\x<=999/\(0<i->∀ y,l[i - 1]? = some y->y<x)
theorem prev {α:Type} {l:List α} {i:Nat} {x:α} (hx:l[i]? = some x) (h0:0<i):∃ y,l[i - 1]? = some y/\idx l ((i:Int) - 1)=some y:=by
 have:=getLt hx
 refine ⟨l[i - 1],List.getElem?_eq_getElem (by omega),?_⟩;rw [show (i:Int) - 1=((i - 1:Nat):Int) by omega,ML];exact List.getElem?_eq_getElem (by omega)
theorem Pc (l:List Int) (h:l.length<=40):DO l=some (decide (∀ i x,l[i]? = some x->numP l i x)):=by
 unfold DO;refine bnd (Du (φ:=Cn l) (l:=l) false (numP l) ?_ ?_ (by rw [FUv];omega)) ?_
 ·intro n i x hx hi
  simp only [Cn];rw [dT (show (i:Int)<l.length by omega),cT,getI hx,oB]
  by_cases h1:x<0\/999<x
  ·rw [show (decide (x<0)||decide (999<x))=true by simpa using h1,cT,oB,cT]
   exact ⟨fun hq=>by obtain ⟨h2,h3,_⟩:=hq;omega,fun _=>rfl⟩
  ·rw [show (decide (x<0)||decide (999<x))=false by simpa using h1,cF_]
   by_cases h0:0<i
   ·obtain ⟨y,hy,hy2⟩:=prev hx h0
    rw [dT (show 0<(i:Int) by omega),cT,Ab (by omega),hy2];simp only [oB]
    by_cases h2:x<=y
    ·rw [dT h2,cT]
     exact ⟨fun hq=>by have:=hq.2.2 h0 y hy;omega,fun _=>rfl⟩
    ·rw [dF h2,cF_,Ab (by omega)]
     refine ⟨fun _=>rfl,fun hq=>absurd ⟨by omega,by omega,fun _ z hz=>?_⟩ hq⟩;rw [hy] at hz
     have:=Option.some.inj hz
     omega
   ·rw [dF (show ¬ 0<(i:Int) by omega),cF_]
    rw [oB,oB,cF_,Ab (by omega)];exact ⟨fun _=>rfl,fun hq=>absurd ⟨by omega,by omega,fun h3=>absurd h3 h0⟩ hq⟩
 ·intro n
  simp only [Cn];rw [dF (by omega),cF_]
 ·by_cases hp:∀ i x,l[i]? = some x->numP l i x
  ·rw [if_pos hp,dT hp];rfl
  ·rw [if_neg hp,dF hp];rfl
def edgeP (isN:List UInt8->Bool) (l:List AutoEdge) (i:Nat) (x:AutoEdge):Prop:=isN x.name=true/\(0<i->∀ y,l[i - 1]? = some y->Op.bytesLess y.name x.name=true)
def Gg (isN:List UInt8->Bool) (l:List AutoEdge):Prop:=(∀ i x,l[i]? = some x->edgeP isN l i x)/\l.length<=30
theorem O0 (l:List AutoEdge) (f:List UInt8->Option Bool) (isN:List UInt8->Bool) (hf:∀ s,f s=some (isN s)) (h:l.length<=40):Ej l f=some (decide (Gg isN l)):=by
 unfold Ej;refine bnd (Du (φ:=Cy l f) (l:=l) false (edgeP isN l) ?_ ?_ (by rw [FUv];omega)) ?_
 ·intro n i x hx hi
  simp only [Cy];rw [dT (show (i:Int)<l.length by omega),cT,getI hx,oB,hf,oB]
  cases h1:isN x.name with
  | false=>exact ⟨fun hq=>absurd hq.1 (by rw [h1];simp),fun _=>rfl⟩
  | true =>
   rw [Bool.not_true,cF_]
   by_cases h0:0<i
   ·obtain ⟨y,hy,hy2⟩:=prev hx h0
    rw [dT (show 0<(i:Int) by omega),cT,Ab (by omega),hy2];simp only [oB]
    cases h2:Op.bytesLess y.name x.name with
    | false =>
     rw [Bool.not_false,cT];exact ⟨fun hq=>absurd (hq.2 h0 y hy) (by rw [h2];simp),fun _=>rfl⟩
    | true =>
     rw [Bool.not_true,cF_,Ab (by omega)];refine ⟨fun _=>rfl,fun hq=>absurd ⟨h1,fun _ z hz=>?_⟩ hq⟩;rw [hy] at hz;rw [<- Option.some.inj hz];exact h2
   ·rw [dF (show ¬ 0<(i:Int) by omega),cF_,Ab (by omega)]
    exact ⟨fun _=>rfl,fun hq=>absurd ⟨h1,fun h3=>absurd h3 h0⟩ hq⟩
 ·intro n
  simp only [Cy];rw [dF (by omega),cF_]
 ·by_cases hp:∀ i x,l[i]? = some x->edgeP isN l i x
  ·rw [if_pos hp]
   show some (decide _)=_
   congr 1
   exact decide_eq_decide.2 ⟨fun h2=>⟨hp,by omega⟩,fun h2=>by have:=h2.2;omega⟩
  ·rw [if_neg hp,dF (p:=Gg isN l) (fun h2=>hp h2.1)];rfl
def isNT (t:Bool) (s:List UInt8):Bool:=bif t then tagP s else nameP s
theorem Mb (l:List AutoEdge) (t:Bool) (h:l.length<=40):BP l t=some (decide (Gg (isNT t) l)):=by
 unfold BP;refine bnd (Du (φ:=Bn l t) (l:=l) false (edgeP (isNT t) l) ?_ ?_ (by rw [FUv];omega)) ?_
 ·intro n i x hx hi
  simp only [Bn];rw [dT (show (i:Int)<l.length by omega),cT,getI hx,oB]
  have e1:((bif (!t) then ((ES x.name).bind fun x2=>some (!x2)) else (some false)).bind fun p1=>(bif p1 then (some true) else ((bif t then ((FI x.name).bind fun x3=>some (!x3)) else (some false)).bind fun p3=>some p3)))=some (!isNT t x.name):=by
   rw [NN,QN];unfold isNT
   cases t <;> cases nameP x.name <;> cases tagP x.name <;> rfl
  rw [<- Option.bind_assoc,e1,oB]
  cases h1:isNT t x.name with
  | false=>exact ⟨fun hq=>absurd hq.1 (by rw [h1];simp),fun _=>rfl⟩
  | true =>
   rw [Bool.not_true,cF_]
   by_cases h0:0<i
   ·obtain ⟨y,hy,hy2⟩:=prev hx h0
    rw [dT (show 0<(i:Int) by omega),cT,Ab (by omega),hy2];simp only [oB]
    cases h2:Op.bytesLess y.name x.name with
    | false =>
     rw [Bool.not_false,cT];exact ⟨fun hq=>absurd (hq.2 h0 y hy) (by rw [h2];simp),fun _=>rfl⟩
    | true =>
     rw [Bool.not_true,cF_,Ab (by omega)];refine ⟨fun _=>rfl,fun hq=>absurd ⟨h1,fun _ z hz=>?_⟩ hq⟩;rw [hy] at hz;rw [<- Option.some.inj hz];exact h2
   ·rw [dF (show ¬ 0<(i:Int) by omega),cF_]
    rw [oB,oB,cF_,Ab (by omega)];exact ⟨fun _=>rfl,fun hq=>absurd ⟨h1,fun h3=>absurd h3 h0⟩ hq⟩
 ·intro n
  simp only [Bn];rw [dF (by omega),cF_]
 ·by_cases hp:∀ i x,l[i]? = some x->edgeP (isNT t) l i x
  ·rw [if_pos hp]
   show some (decide _)=_
   congr 1
   exact decide_eq_decide.2 ⟨fun h2=>⟨hp,by omega⟩,fun h2=>by have:=h2.2;omega⟩
  ·rw [if_neg hp,dF (p:=Gg (isNT t) l) (fun h2=>hp h2.1)];rfl
end Go.Proofs.YtcoghblhdjmbfaaGreat
namespace Go.Proofs.YtcoghblhdjmbfaaGreat
open Go.V Tryz
open Classical
theorem OW {α:Type} (l:List α) (p:α->Bool):(decide ((0:Int)<=(match l.findIdx? p with | some i=>(i:Int) | none => -1)))=l.any p:=by
 cases hf:l.findIdx? p with
 | none =>
  rw [List.findIdx?_eq_none_iff] at hf;rw [dF (by simp)]
  symm
  rw [List.any_eq_false]
  intro x hx
  rw [hf x hx];simp
 | some k =>
  rw [List.findIdx?_eq_some_iff_getElem] at hf;obtain ⟨hk,h1,_⟩:=hf;rw [dT (by simp)]
  symm
  rw [List.any_eq_true];exact ⟨_,List.getElem_mem hk,h1⟩
theorem R1 (l:List Int) (f:Int->Option Bool) (p:Int->Bool) (hf:∀ x,f x=some (p x)) (h:l.length<=100000):JN l f=some (l.any p):=by
 unfold JN Ol
 have e:=FA (φ:=E4 l f) (l:=l) (fun i=>(i:Int)) p (by
  intro n i x hx hi
  simp only [E4];rw [dT (show (i:Int)<l.length by omega),cT,getI hx,oB,hf,oB]
  constructor
  ·intro hq;rw [hq,cF_,Ab (by omega)]
  ·intro hq;rw [hq,cT]) (by
  intro n
  simp only [E4];rw [dF (by omega),cF_]) (by rw [FUv];omega)
 rw [Dq e,<- OW]
 cases l.findIdx? p <;> rfl
theorem N8 (l:List AutoState) (f:AutoState->Option Bool) (p:AutoState->Bool) (hf:∀ x∈l,f x=some (p x)) (h:l.length<=100000):AI l f=some (l.any p):=by
 unfold AI AT
 have e:=FA (φ:=AA l f) (l:=l) (fun i=>(i:Int)) p (by
  intro n i x hx hi
  simp only [AA];rw [dT (show (i:Int)<l.length by omega),cT,getI hx,oB,hf x (List.mem_of_getElem? hx),oB]
  constructor
  ·intro hq;rw [hq,cF_,Ab (by omega)]
  ·intro hq;rw [hq,cT]) (by
  intro n
  simp only [AA];rw [dF (by omega),cF_]) (by rw [FUv];omega)
 rw [Dq e,<- OW]
 cases l.findIdx? p <;> rfl
def sideP (s:AutoState) (i:Nat):Bool:=bif s.arrow&&decide (i=0) then !s.plus else s.plus
def leadP (a:AutoAuto) (s:AutoState):Prop:=∀ i x,(nextP s)[i]? = some x->onP a x (sideP s i)=true
def Dt (a:AutoAuto) (s:AutoState):Prop:=bareP s=true/\(∀ i x,s.vars[i]? = some x->numP s.vars i x)/\Gg nameP s.fields/\Gg tagP s.tags/\leadP a s
theorem GG (a:AutoAuto) (s:AutoState) (h:s.arrow=true):leadP a s↔onP a s.dom (!s.plus)=true/\onP a s.cod s.plus=true/\∀ x∈s.fields.map (·.to_)++s.tags.map (·.to_),onP a x s.plus=true:=by
 unfold leadP nextP sideP;rw [if_pos h,h];simp only [List.cons_append,List.nil_append,Bool.true_and]
 constructor
 ·intro hh
  refine ⟨by simpa using hh 0 s.dom rfl,by simpa using hh 1 s.cod rfl,fun x hx=>?_⟩;obtain ⟨k,hk,hk2⟩:=List.getElem_of_mem hx
  have:=hh (k+2) x (by rw [<- hk2];exact List.getElem?_eq_getElem hk)
  simpa using this
 ·rintro ⟨h1,h2,h3⟩ i x hx
  match i,hx with
  | 0,hx=>rw [<- Option.some.inj hx];simpa using h1
  | 1,hx=>rw [<- Option.some.inj hx];simpa using h2
  | k+2,hx=>simpa using h3 x (List.mem_of_getElem? (by simpa using hx))
theorem Oi (a:AutoAuto) (s:AutoState) (h:s.arrow=false):leadP a s↔∀ x∈s.fields.map (·.to_)++s.tags.map (·.to_),onP a x s.plus=true:=by
 unfold leadP nextP sideP;rw [if_neg (by rw [h];simp),h];simp only [List.nil_append,Bool.false_and,cF_]
 constructor
 ·intro hh x hx
  obtain ⟨k,hk,hk2⟩:=List.getElem_of_mem hx;exact hh k x (by rw [<- hk2];exact List.getElem?_eq_getElem hk)
 ·intro hh i x hx
  exact hh x (List.mem_of_getElem? hx)
theorem QT {α:Type} (l:List α) (p:α->Bool):(!l.any (fun x => !p x))=decide (∀ x∈l,p x=true):=by
 rw [Bool.eq_iff_iff]
 simp
theorem T3 (a:AutoAuto) (s:AutoState) (h:SB s):C2 a s=some (decide (Dt a s)):=by
 obtain ⟨h1,h2,h3⟩:=h;unfold C2;rw [US,oB,Pc _ h1,O0 _ _ nameP Q4 h2,O0 _ _ tagP SC h3]
 by_cases c1:bareP s=true
 rotate_left
 ·rw [Bool.not_eq_true] at c1
  rw [c1,dF (p:=Dt a s) (fun h=>by have:=h.1;rw [c1] at this;simp at this)];rfl
 by_cases c2:∀ i x,s.vars[i]? = some x->numP s.vars i x
 rotate_left
 ·rw [c1,dF c2,dF (p:=Dt a s) (fun h=>c2 h.2.1)];rfl
 by_cases c3:Gg nameP s.fields
 rotate_left
 ·rw [c1,dT c2,dF c3,dF (p:=Dt a s) (fun h=>c3 h.2.2.1)];rfl
 by_cases c4:Gg tagP s.tags
 rotate_left
 ·rw [c1,dT c2,dT c3,dF c4,dF (p:=Dt a s) (fun h=>c4 h.2.2.2.1)];rfl
 rw [c1,dT c2,dT c3,dT c4];simp only [Bool.not_true,cF_,oB]
 have e:decide (Dt a s)=decide (leadP a s):=decide_eq_decide.2 ⟨fun h=>h.2.2.2.2,fun h=>⟨c1,c2,c3,c4,h⟩⟩
 rw [e]
 have e2:((Df s.fields).bind fun x7=>(Df s.tags).bind fun x8=>(Lp [x7,x8]).bind fun x9=>(JN x9 (fun y0=>CC y0 a s)).bind fun x10=>some (!x10))=some (decide (∀ x∈s.fields.map (·.to_)++s.tags.map (·.to_),onP a x s.plus=true)):=by
  rw [Nj _ h2,oB,Nj _ h3,oB,Mh _ (by simp) (by
   intro l hl
   simp only [List.mem_cons,List.not_mem_nil,or_false] at hl
   rcases hl with rfl | rfl
   ·simpa using h2
   ·simpa using h3),oB,R1 _ _ (fun x => !onP a x s.plus) (fun x=>by rw [CC,Rb];rfl) (by simp;omega),oB,QT]
  simp
 cases ha:s.arrow with
 | false =>
  rw [cF_,oB,cF_,e2]
  congr 1
  exact decide_eq_decide.2 (Oi a s ha).symm
 | true =>
  rw [cT,Rb,oB,Rb,decide_eq_decide.2 (GG a s ha)]
  have e3:decide (onP a s.dom (!s.plus)=true/\onP a s.cod s.plus=true/\∀ x∈s.fields.map (·.to_)++s.tags.map (·.to_),onP a x s.plus=true)=(onP a s.dom (!s.plus)&&(onP a s.cod s.plus&&decide (∀ x∈s.fields.map (·.to_)++s.tags.map (·.to_),onP a x s.plus=true))):=by
   rw [Bool.eq_iff_iff,decide_eq_true_eq,Bool.and_eq_true,Bool.and_eq_true,decide_eq_true_eq]
  rw [e3]
  cases onP a s.dom (!s.plus) with
  | false=>rfl
  | true =>
   cases onP a s.cod s.plus with
   | false=>rfl
   | true=>exact e2
theorem RN (a:AutoAuto) (s:AutoState) (h:SB s) (ha:a.l.length<=100000):Ci a s=some (decide (Dt a s)):=by
 have hSB:=h
 obtain ⟨h1,h2,h3⟩:=h;unfold Ci;rw [Tw]
 by_cases c1:bareP s=true
 rotate_left
 ·rw [Bool.not_eq_true] at c1
  rw [c1,dF (p:=Dt a s) (fun h=>by have:=h.1;rw [c1] at this;simp at this)];rfl
 rw [c1,Bool.not_true,cF_]
 have e1:=Du (φ:=A4 s) (l:=s.vars) false (numP s.vars) (by
  intro n i x hx hi
  simp only [A4];rw [dT (show (i:Int)<s.vars.length by omega),cT,getI hx,oB,oB]
  by_cases h1:x<0
  ·rw [dT h1,cT]
   exact ⟨fun hq=>absurd hq.1 (by omega),fun _=>rfl⟩
  rw [dF h1,cF_]
  by_cases h2:999<x
  ·rw [dT h2,cT]
   exact ⟨fun hq=>absurd hq.2.1 (by omega),fun _=>rfl⟩
  rw [dF h2,cF_]
  by_cases h0:0<i
  ·obtain ⟨y,hy,hy2⟩:=prev hx h0
   rw [dT (show 0<(i:Int) by omega),cT,Ab (by omega),hy2,oB,oB]
   by_cases h2:x<=y
   ·rw [dT h2,cT]
    exact ⟨fun hq=>absurd (hq.2.2 h0 y hy) (by omega),fun _=>rfl⟩
   ·rw [dF h2,cF_,Ab (by omega)]
    refine ⟨fun _=>rfl,fun hq=>absurd ⟨by omega,by omega,fun _ z hz=>?_⟩ hq⟩;rw [hy] at hz
    have:=Option.some.inj hz
    omega
  ·rw [dF (show ¬ 0<(i:Int) by omega),cF_,Ab (by omega)]
   exact ⟨fun _=>rfl,fun hq=>absurd ⟨by omega,by omega,fun h3=>absurd h3 h0⟩ hq⟩) (by
  intro n
  simp only [A4];rw [dF (by omega),cF_]) (by rw [FUv];omega)
 refine bnd e1 ?_
 by_cases c2:∀ i x,s.vars[i]? = some x->numP s.vars i x
 rotate_left
 ·rw [if_neg c2,dF (p:=Dt a s) (fun h=>c2 h.2.1)];rfl
 rw [if_pos c2,QW,O1 s hSB,oB]
 have hn:=J7 s hSB
 have e2:=Du (φ:=Bs a s (nextP s)) (l:=nextP s) false (fun i x=>onP a x (sideP s i)=true) (by
  intro n i x hx hi
  simp only [Bs];rw [dT (show (i:Int)<(nextP s).length by omega),cT,getI hx,oB,oB,oB]
  by_cases h1:x<0
  ·rw [dT h1,cT]
   have:onP a x (sideP s i)=false:=by unfold onP idx;rw [if_neg (by omega)]
   rw [this];exact ⟨fun hq=>absurd hq (by simp),fun _=>rfl⟩
  rw [dF h1,cF_]
  by_cases h2:(a.l.length:Int)<=x
  ·rw [dT h2,cT]
   have:onP a x (sideP s i)=false:=by unfold onP idx;rw [if_pos (by omega),List.getElem?_eq_none (by omega)]
   rw [this];exact ⟨fun hq=>absurd hq (by simp),fun _=>rfl⟩
  rw [dF h2,cF_]
  have hx:idx a.l x=some a.l[x.toNat]:=by
   unfold idx;rw [if_pos (by omega)];exact List.getElem?_eq_getElem (by omega)
  have e:onP a x (sideP s i)=(a.l[x.toNat].plus == sideP s i):=by unfold onP;rw [hx]
  rw [e,hx,oB,Ab (by omega)]
  have e3:((a.l[x.toNat].plus == s.plus) == (s.arrow&&decide ((i:Int)=0))) = !(a.l[x.toNat].plus == sideP s i):=by
   rw [show decide ((i:Int)=0)=decide (i=0) from decide_eq_decide.2 (by omega)];unfold sideP
   cases a.l[x.toNat].plus <;> cases s.plus <;> cases s.arrow&&decide (i=0) <;> rfl
  rw [e3]
  cases a.l[x.toNat].plus == sideP s i with
  | false=>exact ⟨fun hq=>absurd hq (by simp),fun _=>rfl⟩
  | true=>exact ⟨fun _=>rfl,fun hq=>absurd rfl hq⟩) (by
  intro n
  simp only [Bs];rw [dF (by omega),cF_]) (by rw [FUv];omega)
 refine bnd e2 ?_
 by_cases c3:∀ i x,(nextP s)[i]? = some x->onP a x (sideP s i)=true
 rotate_left
 ·rw [if_neg c3,dF (p:=Dt a s) (fun h=>c3 h.2.2.2.2)];rfl
 rw [if_pos c3,QW,Mb _ _ h2,Mb _ _ h3,oB,oB,bf,oB]
 congr 1
 rw [Bool.eq_iff_iff,decide_eq_true_eq,Bool.and_eq_true,decide_eq_true_eq,decide_eq_true_eq];exact ⟨fun h=>⟨c1,c2,h.1,h.2,c3⟩,fun h=>⟨h.2.2.1,h.2.2.2.1⟩⟩
noncomputable def mayP (a:AutoAuto):Int:=if a.l.length=0\/2000<a.l.length then 8 else if (∀ s∈a.l,Dt a s)/\onP a a.start true=true then 0 else 4
theorem PJ (a:AutoAuto) (h:AB a):Fu a=some (mayP a):=by
 obtain ⟨h1,h2⟩:=h;unfold Fu mayP
 by_cases c0:a.l.length=0\/2000<a.l.length
 ·rw [if_pos c0,show (decide ((a.l.length:Int)=0)||decide (2000<(a.l.length:Int)))=true by rw [Bool.or_eq_true,decide_eq_true_eq,decide_eq_true_eq];omega,cT]
 rw [if_neg c0,show (decide ((a.l.length:Int)=0)||decide (2000<(a.l.length:Int)))=false by rw [Bool.or_eq_false_iff,decide_eq_false_iff_not,decide_eq_false_iff_not];omega,cF_,Rb,oB]
 have e:=N8 a.l (fun y0=>Fj y0 a) (fun s => !decide (Dt a s)) (by
  intro s hs
  rw [Fj,T3 _ _ (h2 s hs)];rfl) (by omega)
 rw [e]
 have e2:(a.l.any fun s => !decide (Dt a s)) = !decide (∀ s∈a.l,Dt a s):=by
  rw [<- Bool.not_not (b:=a.l.any _),QT]
  congr 1
  exact decide_eq_decide.2 (by simp)
 rw [e2,oB,bt,oB]
 cases hb:onP a a.start true with
 | false=>rw [if_neg (by simp)];rfl
 | true =>
  by_cases hc:∀ s∈a.l,Dt a s
  ·rw [dT hc,if_pos ⟨hc,rfl⟩];rfl
  ·rw [dF hc,if_neg (fun h=>hc h.1)];rfl
theorem Rf (a:AutoAuto) (h:AB a):CA a=some (mayP a):=by
 obtain ⟨h1,h2⟩:=h;unfold CA mayP
 by_cases c0:a.l.length=0\/2000<a.l.length
 ·rw [if_pos c0,show (decide ((a.l.length:Int)<1)||decide (2000<(a.l.length:Int)))=true by rw [Bool.or_eq_true,decide_eq_true_eq,decide_eq_true_eq];omega,cT]
 rw [if_neg c0,show (decide ((a.l.length:Int)<1)||decide (2000<(a.l.length:Int)))=false by rw [Bool.or_eq_false_iff,decide_eq_false_iff_not,decide_eq_false_iff_not];omega,cF_];refine bnd (Du (φ:=BF a) (l:=a.l) 4 (fun _ s=>Dt a s) ?_ ?_ (by rw [FUv];omega)) ?_
 ·intro n i x hx hi
  simp only [BF];rw [dT (show (i:Int)<a.l.length by omega),cT,getI hx,oB,RN a x (h2 x (List.mem_of_getElem? hx)) (by omega),oB]
  constructor
  ·intro hq;rw [dT hq,Bool.not_true,cF_,Ab (by omega)]
  ·intro hq;rw [dF hq,Bool.not_false,cT]
 ·intro n
  simp only [BF];rw [dF (by omega),cF_]
 by_cases hc:∀ s∈a.l,Dt a s
 rotate_left
 ·rw [if_neg (fun h=>hc (fun s hs=>by obtain ⟨k,hk,hk2⟩:=List.getElem_of_mem hs;exact h k s (by rw [<- hk2];exact List.getElem?_eq_getElem hk))),if_neg (fun h=>hc h.1)];rfl
 rw [if_pos (fun i x hx=>hc x (List.mem_of_getElem? hx)),QW]
 have e:(bif ((decide (a.start<0))||(decide ((a.l.length:Int)<=a.start))) then (some true) else ((idx a.l a.start).bind fun x3=>some (!x3.plus)))=some (!onP a a.start true):=by
  unfold onP
  by_cases hs:a.start<0\/(a.l.length:Int)<=a.start
  ·have:idx a.l a.start=none:=by
    unfold idx
    split
    ·exact List.getElem?_eq_none (by omega)
    ·rfl
   rw [this,show (decide (a.start<0)||decide ((a.l.length:Int)<=a.start))=true by simpa using hs];rfl
  ·have hx:idx a.l a.start=some a.l[a.start.toNat]:=by
    unfold idx;rw [if_pos (by omega)];exact List.getElem?_eq_getElem (by omega)
   rw [hx,show (decide (a.start<0)||decide ((a.l.length:Int)<=a.start))=false by simpa using hs,cF_,oB]
   show some _=some (!(_ == true))
   cases a.l[a.start.toNat].plus <;> rfl
 rw [Dq e]
 cases hb:onP a a.start true with
 | false=>rw [if_neg (by simp)];rfl
 | true=>rw [if_pos ⟨hc,rfl⟩];rfl
end Go.Proofs.YtcoghblhdjmbfaaGreat
namespace Go.Proofs.YtcoghblhdjmbfaaGreat
open Go.V Tryz
open Classical
def st0:AutoState:=⟨false,false,false,false,false,false,false,false,[],0,0,[],[]⟩
def stA (a:AutoAuto) (k:Int):AutoState:=(idx a.l k).getD st0
def nxA (a:AutoAuto) (k:Int):List Int:=nextP (stA a k)
def tm (to:List Int) (k:Int):Int:=(idx to k).getD 0
def edgeM (to:List Int) (x:AutoEdge):AutoEdge:=⟨x.name,tm to x.to_⟩
def DH (to:List Int) (s:AutoState):AutoState:=⟨s.plus,s.all,s.int,s.bool,s.str,s.arrow,s.rec_,s.tag,s.vars,if s.arrow=true then tm to s.dom else s.dom,if s.arrow=true then tm to s.cod else s.cod,s.fields.map (edgeM to),s.tags.map (edgeM to)⟩
def AJ (a:AutoAuto):List Int:=bfs (nxA a) a.l.length 0 [a.start]
def toP (a:AutoAuto):List Int:=Ez 0 (AJ a) (List.replicate a.l.length 0)
def normP (a:AutoAuto):AutoAuto:=⟨(AJ a).map (fun k=>DH (toP a) (stA a k)),0⟩
structure Led (a:AutoAuto):Prop where
 ab:AB a
 led:∀ k s,idx a.l k=some s->inN a.l.length (nextP s)
 st:0<=a.start/\a.start<(a.l.length:Int)
theorem PX {α:Type} {l:List α} {k:Int} (h0:0<=k) (h:k<(l.length:Int)):∃ x,idx l k=some x/\x∈l:=by
 unfold idx;rw [if_pos h0];exact ⟨l[k.toNat],List.getElem?_eq_getElem (by omega),List.getElem_mem (by omega)⟩
theorem Pn {α:Type} {l:List α} {k:Int} {x:α} (h:idx l k=some x):0<=k/\k<(l.length:Int):=by
 obtain ⟨h0,h1⟩:=Av h
 have:=getLt h1
 omega
theorem HC {to:List Int} {k:Int} (h0:0<=k) (h:k<(to.length:Int)):idx to k=some (tm to k):=by
 obtain ⟨x,hx,_⟩:=PX h0 h;rw [tm,hx];rfl
theorem Jn {a:AutoAuto} {k:Int} (h0:0<=k) (h:k<(a.l.length:Int)):idx a.l k=some (stA a k):=by
 obtain ⟨x,hx,_⟩:=PX h0 h;rw [stA,hx];rfl
theorem Is {a:AutoAuto} {k:Int} (h0:0<=k) (h:k<(a.l.length:Int)):stA a k∈a.l:=by
 obtain ⟨x,hx,h2⟩:=PX h0 h;rw [stA,hx];exact h2
section
variable {a:AutoAuto} (ha:Led a)
include ha
theorem HP (x:Int) (h0:0<=x) (h:x<(a.l.length:Int)):inN a.l.length (nxA a x):=ha.led x _ (Jn h0 h)
theorem Iq:inN a.l.length [a.start]:=by
 intro x hx
 simp only [List.mem_singleton] at hx;subst hx;exact ha.st
theorem Bj:(AJ a).Nodup/\inN a.l.length (AJ a)/\(∃ e,AJ a=[a.start]++e)/\(∀ (j:Nat) x,0<=j->(AJ a)[j]? = some x->∀ y∈nxA a x,y∈AJ a):=
 PS (HP ha) a.l.length 0 [a.start] (by omega) (by simp) (by simp) (Iq ha)
theorem J9:(AJ a).length<=2001:=by
 have:=Cs _ _ (Bj ha).1 (Bj ha).2.1
 have:=ha.ab.1
 omega
end
theorem Tv {a:AutoAuto} (_:Led a):(toP a).length=a.l.length:=by unfold toP;rw [LO];simp
def Hy (N:Nat) (l:List Int) (s:List Bool):Prop:=s.length=N/\∀ k:Nat,k<N->s[k]? = some (decide ((k:Int)∈l))
theorem Pf {N:Nat} {l:List Int} {s:List Bool} {x:Int} (h:Hy N l s) (h0:0<=x) (h1:x<(N:Int)):idx s x=some (decide (x∈l)):=by
 have:=h.2 x.toNat (by omega)
 unfold idx;rw [if_pos h0,this,show ((x.toNat:Nat):Int)=x by omega]
theorem OF {N:Nat} {l:List Int} {s:List Bool} {x:Int} (h:Hy N l s) (h0:0<=x) (h1:x<(N:Int)):Hy N (l++[x]) (s.set x.toNat true):=by
 refine ⟨by simp [h.1],fun k hk=>?_⟩
 by_cases e:x.toNat=k
 ·rw [<- e,List.getElem?_set_self (by rw [h.1];omega)]
  congr 1
  symm
  rw [decide_eq_true_eq]
  simp;omega
 ·rw [List.getElem?_set_ne e,h.2 k hk]
  congr 1
  refine decide_eq_decide.2 ?_;simp only [List.mem_append,List.mem_singleton];exact ⟨fun h => .inl h,fun h=>h.elim id (fun h=>absurd h (by omega))⟩
theorem L5 {N:Nat} (hN:N<=3000) (pre w nx:List Int) (seen:List Bool) (hs:Hy N (pre++w) seen) (hn:inN N nx) (hd:(pre++w).Nodup) (hr:inN N (pre++w)) (hlen:nx.length<=100) :
  ∃ w' seen',C1 nx FU (0,w,seen)=some (w',seen')/\pre++w'=addL (pre++w) nx/\Hy N (pre++w') seen':=by
 obtain ⟨⟨w',seen'⟩,h1,h2⟩:=Be (φ:=fun n i s=>C1 nx n (i,s.1,s.2)) (l:=nx) (fun i s=>pre++s.1=addL (pre++w) (nx.take i)/\Hy N (pre++s.1) s.2) (fun o=>pre++o.1=addL (pre++w) nx/\Hy N (pre++o.1) o.2) (by
  rintro n i x ⟨v,s⟩ hx hi ⟨hI1,hI2⟩
  left
  have hxr:=hn x (List.mem_of_getElem? hx)
  have hnt:inN N (nx.take i):=fun y hy=>hn y (List.mem_of_mem_take hy)
  have hb:(pre++v).length<=N:=by rw [hI1];exact OS hr hnt hd
  simp only [C1];rw [dT (show (i:Int)<nx.length by omega),cT,getI hx,oB,Pf hI2 hxr.1 hxr.2,oB]
  by_cases hm:x∈pre++v
  ·rw [dT hm,Bool.not_true,cF_,Ab (by omega)]
   refine ⟨(v,s),rfl,?_,hI2⟩;rw [Ha hx,II,<- hI1,if_pos hm]
  ·rw [dF hm,Bool.not_false,cT,oB,Ab (by simp only [List.length_append] at hb;simp only [List.length_cons,List.length_nil];omega),Ab (by omega)]
   refine ⟨(v++[x],s.set x.toNat true),rfl,?_,?_⟩
   ·rw [Ha hx,II,<- hI1,if_neg hm,List.append_assoc]
   ·rw [<- List.append_assoc]
    exact OF hI2 hxr.1 hxr.2) (by
  rintro n ⟨v,s⟩ ⟨hI1,hI2⟩;simp only [C1];rw [dF (by omega),cF_];rw [List.take_length] at hI1;exact ⟨_,rfl,hI1,hI2⟩) (by rw [FUv];omega) (w,seen) ⟨by simp [HM],hs⟩
 exact ⟨w',seen',h1,h2⟩
theorem NR {α:Type} {l:List α} {i:Nat} {x:α} (h:l[i]? = some x):l.drop i=x::l.drop (i+1):=by
 obtain ⟨hi,hx⟩:=List.getElem?_eq_some_iff.1 h;rw [List.drop_eq_getElem_cons hi,hx]
theorem L0 {a:AutoAuto} (ha:Led a):∀ (m i:Nat) (l:List Int) (n:Nat) (seen:List Bool),a.l.length<=i+m->i<=l.length->l.Nodup->inN a.l.length l->m<n->Hy a.l.length l seen->Fc a n (l.drop i,seen)=some ((bfs (nxA a) m i l).drop i):=by
 intro m
 induction m with
 | zero =>
  intro i l n seen hN hi hd hr hn hs
  have:=Cs _ _ hd hr
  obtain ⟨n,rfl⟩:∃ k,n=k+1:=⟨n - 1,by omega⟩;rw [show l.drop i=[] from List.drop_eq_nil_of_le (by omega),show (bfs (nxA a) 0 i l).drop i=[] from List.drop_eq_nil_of_le (by simp only [bfs];omega)]
  rfl
 | succ m ih =>
  intro i l n seen hN hi hd hr hn hs
  obtain ⟨n,rfl⟩:∃ k,n=k+1:=⟨n - 1,by omega⟩
  cases hx:l[i]? with
  | none =>
   have:=List.getElem?_eq_none_iff.1 hx
   rw [E8 hx,show l.drop i=[] from List.drop_eq_nil_of_le (by omega)]
   rfl
  | some x =>
   have hxr:=hr x (List.mem_of_getElem? hx)
   have hil:=getLt hx
   have hin:=HP ha x hxr.1 hxr.2
   have hSB:=ha.ab.2 _ (Is hxr.1 hxr.2)
   have hl:=J7 _ hSB
   have hbig:=ha.ab.1
   obtain ⟨w',seen',h1,h2,h3⟩:=L5 (N:=a.l.length) (by omega) (l.take (i+1)) (l.drop (i+1)) (nxA a x) seen (by rw [List.take_append_drop];exact hs) hin (by rw [List.take_append_drop];exact hd) (by rw [List.take_append_drop];exact hr) (by unfold nxA;omega);rw [List.take_append_drop] at h2;obtain ⟨e,he⟩:=Gt (nxA a x) l
   have hw:w'=(addL l (nxA a x)).drop (i+1):=by
    rw [<- h2,List.drop_append_of_le_length (by simp;omega)]
    simp
   rw [FL hx,NR hx];simp only [Fc];rw [dT (by simp only [List.length_cons];omega),cT,I7,oB]
   have hsli:sli (x::l.drop (i+1)) 1 ((x::l.drop (i+1)).length:Int)=some (l.drop (i+1)):=by
    have:=JM (l:=x::l.drop (i+1)) (i:=1) rfl (by simp)
    simpa using this
   have ih2:=ih (i+1) (addL l (nxA a x)) n seen' (by omega) (by rw [he];simp;omega) (C8 _ _ hd) (GB hr hin) (by omega) (by rw [<- h2];exact h3)
   rw [hsli,oB,Jn hxr.1 hxr.2,oB,UE _ hSB,oB,show nextP (stA a x)=nxA a x from rfl,h1,oB,hw]
   simp only
   rw [ih2,oB]
   have hok:=PS (HP ha) m (i+1) (addL l (nxA a x)) (by omega) (by rw [he];simp;omega) (C8 _ _ hd) (GB hr hin)
   obtain ⟨_,_,⟨e2,h4⟩,_⟩:=hok;rw [<- NR];rw [h4,he,List.append_assoc,List.getElem?_append_left hil,hx]
theorem PB {a:AutoAuto} (ha:Led a):GW a=some (AJ a):=by
 have hb:=ha.ab.1
 have hst:=ha.st
 unfold GW
 have hs0:Hy a.l.length [] (List.replicate a.l.length false):=⟨by simp,fun k hk=>by rw [List.getElem?_replicate,if_pos hk];simp⟩
 rw [Ab (by omega),Ab (by omega),Int.toNat_natCast,Pf hs0 hst.1 hst.2,oB]
 have:=L0 ha a.l.length 0 [a.start] FU _ (by omega) (by simp) (by simp) (Iq ha) (by rw [FUv];omega) (OF hs0 hst.1 hst.2)
 simpa [AJ] using this
theorem UJ (l:List Int) (x:Int) (h:l.length<=100000):Dz l x=some (decide (x∈l)):=by
 unfold Dz;refine bnd (Hc (φ:=B7 l x) (l:=l) true (fun _ y=>y=x) ?_ ?_ (by rw [FUv];omega)) ?_
 ·intro n i y hy hi
  simp only [B7];rw [dT (show (i:Int)<l.length by omega),cT,getI hy,oB];exact ⟨fun hq=>by rw [dF hq,cF_,Ab (by omega)],fun hq=>by rw [dT hq,cT]⟩
 ·intro n
  simp only [B7];rw [dF (by omega),cF_]
 ·by_cases hs:x∈l
  ·obtain ⟨i,hi,h2⟩:=List.getElem_of_mem hs
   rw [if_pos ⟨i,x,by rw [<- h2];exact List.getElem?_eq_getElem hi,rfl⟩,dT hs];rfl
  ·rw [if_neg,dF hs];rfl
   rintro ⟨i,y,h1,rfl⟩;exact hs (List.mem_of_getElem? h1)
theorem ON {N:Nat} (hN:N<=3000) (l nx:List Int) (hn:inN N nx) (hd:l.Nodup) (hr:inN N l) (hlen:nx.length<=100):AW nx FU (0,l)=some (addL l nx):=by
 obtain ⟨o,h1,h2⟩:=Be (φ:=fun n i s=>AW nx n (i,s)) (l:=nx) (fun i s=>s=addL l (nx.take i)) (fun o=>o=addL l nx) (by
  rintro n i x s hx hi hI
  left
  have hxr:=hn x (List.mem_of_getElem? hx)
  have hnt:inN N (nx.take i):=fun y hy=>hn y (List.mem_of_mem_take hy)
  have hb:s.length<=N:=by rw [hI];exact OS hr hnt hd
  simp only [AW];rw [dT (show (i:Int)<nx.length by omega),cT,getI hx,oB,UJ _ _ (by omega),oB]
  by_cases hm:x∈s
  ·rw [dT hm,Bool.not_true,cF_,Ab (by omega)]
   refine ⟨s,rfl,?_⟩;rw [Ha hx,II,<- hI,if_pos hm]
  ·rw [dF hm,Bool.not_false,cT,oB,Ab (by simp only [List.length_cons,List.length_nil];omega),Ab (by omega)]
   refine ⟨s++[x],rfl,?_⟩;rw [Ha hx,II,<- hI,if_neg hm]) (by
  rintro n s hI;simp only [AW];rw [dF (by omega),cF_];rw [List.take_length] at hI;exact ⟨_,rfl,hI⟩) (by rw [FUv];omega) l (by simp [HM])
 rw [h1,h2]
theorem OT {a:AutoAuto} (ha:Led a):∀ (m i:Nat) (l:List Int) (n:Nat),a.l.length<=i+m->i<=l.length->l.Nodup->inN a.l.length l->m<n->Bb a n ((i:Int),l)=some (bfs (nxA a) m i l):=by
 intro m
 induction m with
 | zero =>
  intro i l n hN hi hd hr hn
  have:=Cs _ _ hd hr
  obtain ⟨n,rfl⟩:∃ k,n=k+1:=⟨n - 1,by omega⟩;simp only [Bb];rw [dF (by omega),cF_];rfl
 | succ m ih =>
  intro i l n hN hi hd hr hn
  obtain ⟨n,rfl⟩:∃ k,n=k+1:=⟨n - 1,by omega⟩;simp only [Bb]
  cases hx:l[i]? with
  | none =>
   have:=List.getElem?_eq_none_iff.1 hx
   rw [E8 hx,dF (by omega),cF_]
  | some x =>
   have hxr:=hr x (List.mem_of_getElem? hx)
   have hil:=getLt hx
   have hin:=HP ha x hxr.1 hxr.2
   have hSB:=ha.ab.2 _ (Is hxr.1 hxr.2)
   have hl:=J7 _ hSB
   have hbig:=ha.ab.1
   obtain ⟨e,he⟩:=Gt (nxA a x) l;rw [FL hx,dT (by omega),cT,getI hx,oB,Jn hxr.1 hxr.2,oB,O1 _ hSB,oB,show nextP (stA a x)=nxA a x from rfl,ON (N:=a.l.length) (by omega) l _ hin hd hr (by unfold nxA;omega),oB,Ab (by have:=Cs _ _ hd hr;omega)];exact ih (i+1) (addL l (nxA a x)) n (by omega) (by rw [he];simp;omega) (C8 _ _ hd) (GB hr hin) (by omega)
theorem Lt {N:Nat}:∀ (xs l3 l4:List Int),inN N xs->l4.length=N->l3.length+xs.length<=100000->CS xs (l3,l4)=some (l3++xs,Ez l3.length xs l4)
 | [],l3,l4,_,_,_=>by simp [CS,Ez]
 | x::xs,l3,l4,hr,hl,hb=>by
  have hx:=hr x (by simp)
  simp only [List.length_cons] at hb;rw [CS,HC hx.1 (by omega),oB,Ab (by simp only [List.length_cons,List.length_nil];omega),Lt xs _ _ (fun y hy=>hr y (by simp [hy])) (by simpa using hl) (by simp;omega)]
  simp [Ez]
theorem Pg {N:Nat} (l:List Int) (hr:inN N l) (hb:l.length<=100000) (t:List Int) (ht:t.length=N):Bd l FU (0,t)=some (Ez 0 l t):=by
 have:=Ir (φ:=fun n i s=>Bd l n (i,s)) (l:=l) (fun _ s=>s.length=N) (fun i s x=>s.set x.toNat (i:Int)) id (by
  intro n i x s hx hi hI
  have hxr:=hr x (List.mem_of_getElem? hx)
  simp only [Bd];rw [dT (show (i:Int)<l.length by omega),cT,getI hx,oB,HC hxr.1 (by omega),oB,Ab (by omega)];exact ⟨rfl,by simpa using hI⟩) (by
  intro n s hI
  simp only [Bd];rw [dF (by omega),cF_];rfl) (by rw [FUv];omega) (fun i t s=>Ez i t s) (fun _ _=>rfl) (fun _ _ _ _=>rfl) t ht
 exact this.1
theorem Ob (l:List AutoEdge) (to:List Int) (h:l.length<=40) (hr:∀ x∈l,0<=x.to_/\x.to_<(to.length:Int)):Eo l to=some (l.map (edgeM to)):=by
 unfold Eo;rw [Ab (by omega)];refine bnd (Kw (φ:=fun n i s=>CZ l to n (i,s)) (l:=l) (edgeM to) id ?_ ?_ (by rw [FUv];omega)) rfl
 ·intro n i x s hx hi hl hs
  have hxr:=hr x (List.mem_of_getElem? hx)
  simp only [CZ];rw [dT (show (i:Int)<l.length by omega),cT,getI hs,oB,HC hxr.1 hxr.2,oB,oB,Ab (by omega)]
  rfl
 ·intro n s hl
  simp only [CZ];rw [dF (by omega),cF_];rfl
theorem Pd {s:AutoState} (h:s.arrow=true):s.dom∈nextP s/\s.cod∈nextP s:=by unfold nextP;rw [if_pos h];simp
theorem SJ {s:AutoState} {x:AutoEdge} (h:x∈s.fields):x.to_∈nextP s:=by
 unfold nextP;simp only [List.mem_append,List.mem_map];exact .inl (.inr ⟨x,h,rfl⟩)
theorem TU {s:AutoState} {x:AutoEdge} (h:x∈s.tags):x.to_∈nextP s:=by
 unfold nextP;simp only [List.mem_append,List.mem_map];exact .inr ⟨x,h,rfl⟩
theorem PK {a:AutoAuto} (ha:Led a) (l to:List Int) (hr:inN a.l.length l) (hb:l.length<=100000) (ht:to.length=a.l.length):CR a l to FU (0,[],0)=some (l.map (fun k=>DH to (stA a k)),0):=by
 have:=BW (φ:=fun n i s=>CR a l to n (i,s,0)) (l:=l) (fun k=>DH to (stA a k)) (fun s=>(s,(0:Int))) 0 (by
  intro n i x s hx hi hs
  have hxr:=hr x (List.mem_of_getElem? hx)
  have hnx:=HP ha x hxr.1 hxr.2
  have hSB:=ha.ab.2 _ (Is hxr.1 hxr.2)
  obtain ⟨b1,b2,b3⟩:=hSB;simp only [CR];rw [dT (show (i:Int)<l.length by omega),cT,getI hx,oB,Jn hxr.1 hxr.2,oB]
  generalize hS:stA a x=S at *
  replace hnx:inN a.l.length (nextP S):=by rw [<- hS];exact hnx
  rw [Dq (x:=(S.plus,S.all,S.int,S.bool,S.str,S.arrow,S.rec_,S.tag,S.vars,(if S.arrow=true then tm to S.dom else S.dom),(if S.arrow=true then tm to S.cod else S.cod),S.fields,S.tags))]
  rotate_left
  ·cases h:S.arrow with
   | false=>rfl
   | true =>
    have hd:=Pd h
    rw [cT,HC (hnx _ hd.1).1 (by rw [ht];exact (hnx _ hd.1).2),oB,HC (hnx _ hd.2).1 (by rw [ht];exact (hnx _ hd.2).2),oB]
    rfl
  simp only
  rw [Ab (by omega),Ob _ _ b2 (fun y hy=>by rw [ht];exact hnx _ (SJ hy)),oB,Ob _ _ b3 (fun y hy=>by rw [ht];exact hnx _ (TU hy)),oB,Ab (by simp only [List.length_cons,List.length_nil];omega),Ab (by omega)]
  rfl) (by
  intro n s hs
  simp only [CR];rw [dF (by omega),cF_]) (by rw [FUv];omega) [] rfl
 exact this
theorem UI {a:AutoAuto} (ha:Led a):FG a=some (normP a):=by
 have hb:=ha.ab.1
 unfold FG;rw [Ab (by omega),Ab (by omega),PB ha,oB,Int.toNat_natCast]
 have hok:=Bj ha
 have hlen:=J9 ha
 rw [Lt (AJ a) [] _ hok.2.1 (by simp) (by simp;omega),oB];simp only [List.nil_append,List.length_nil];rw [PK ha (AJ a) (Ez 0 (AJ a) (List.replicate a.l.length 0)) hok.2.1 (by omega) (Tv ha),oB]
 rfl
theorem RM (s:AutoState) (to:List Int) (h:SB s) (hr:inN to.length (nextP s)):Cf s to=some (DH to s):=by
 obtain ⟨b1,b2,b3⟩:=h;unfold Cf;rw [Dq (x:=(s.plus,s.all,s.int,s.bool,s.str,s.arrow,s.rec_,s.tag,s.vars,(if s.arrow=true then tm to s.dom else s.dom),(if s.arrow=true then tm to s.cod else s.cod),s.fields,s.tags))]
 rotate_left
 ·cases h:s.arrow with
  | false=>rfl
  | true =>
   have hd:=Pd h
   rw [cT,HC (hr _ hd.1).1 (hr _ hd.1).2,oB,HC (hr _ hd.2).1 (hr _ hd.2).2,oB]
   rfl
 simp only
 generalize hdd:(if s.arrow=true then tm to s.dom else s.dom)=dd
 generalize hcc:(if s.arrow=true then tm to s.cod else s.cod)=cc
 have e1:=BW (φ:=fun n i t=>Bo s to n (i,[],t,s.plus,s.all,s.int,s.bool,s.str,s.arrow,s.rec_,s.tag,s.vars,dd,cc)) (l:=s.fields) (edgeM to) (fun t=>(([]:List AutoEdge),t,s.plus,s.all,s.int,s.bool,s.str,s.arrow,s.rec_,s.tag,s.vars,dd,cc)) 0 (by
  intro n i x t hx hi ht
  have hxr:=hr _ (SJ (List.mem_of_getElem? hx))
  simp only [Bo];rw [dT (show (i:Int)<s.fields.length by omega),cT,getI hx,oB,oB,HC hxr.1 hxr.2,oB,Ab (by simp only [List.length_cons,List.length_nil];omega),Ab (by omega)]
  rfl) (by
  intro n t ht
  simp only [Bo];rw [dF (by omega),cF_]) (by rw [FUv];omega) [] rfl
 rw [Dq e1];simp only [List.nil_append]
 have e2:=BW (φ:=fun n i t=>Bq s to n (i,t,s.fields.map (edgeM to),s.plus,s.all,s.int,s.bool,s.str,s.arrow,s.rec_,s.tag,s.vars,dd,cc)) (l:=s.tags) (edgeM to) (fun t=>(t,s.fields.map (edgeM to),s.plus,s.all,s.int,s.bool,s.str,s.arrow,s.rec_,s.tag,s.vars,dd,cc)) 0 (by
  intro n i x t hx hi ht
  have hxr:=hr _ (TU (List.mem_of_getElem? hx))
  simp only [Bq];rw [dT (show (i:Int)<s.tags.length by omega),cT,getI hx,oB,oB,HC hxr.1 hxr.2,oB,Ab (by simp only [List.length_cons,List.length_nil];omega),Ab (by omega)]
  rfl) (by
  intro n t ht
  simp only [Bq];rw [dF (by omega),cF_]) (by rw [FUv];omega) [] rfl
 rw [Dq e2];unfold DH;rw [hdd,hcc]
 rfl
theorem TI {a:AutoAuto} (ha:Led a):Co a=some (normP a):=by
 have hb:=ha.ab.1
 unfold Co
 have e1:Bb a FU (0,[a.start])=some (bfs (nxA a) a.l.length 0 [a.start]):=OT ha a.l.length 0 [a.start] FU (by omega) (by simp) (by simp) (Iq ha) (by rw [FUv];omega)
 have hok:=Bj ha
 have hlen:=J9 ha
 rw [Dq e1,show bfs (nxA a) a.l.length 0 [a.start]=AJ a from rfl,Ab (by omega),Ab (by omega),Int.toNat_natCast,Pg (N:=a.l.length) _ hok.2.1 (by omega) _ (by simp),oB,show Ez 0 (AJ a) (List.replicate a.l.length 0)=toP a from rfl]
 have e2:=BW (φ:=fun n i s=>By a (AJ a) (toP a) n (i,s,0)) (l:=AJ a) (fun k=>DH (toP a) (stA a k)) (fun s=>(s,(0:Int))) 0 (by
  intro n i x s hx hi hs
  have hxr:=hok.2.1 x (List.mem_of_getElem? hx)
  simp only [By];rw [dT (show (i:Int)<(AJ a).length by omega),cT,getI hx,oB,Jn hxr.1 hxr.2,oB,RM _ _ (ha.ab.2 _ (Is hxr.1 hxr.2)) (by rw [Tv ha];exact HP ha x hxr.1 hxr.2),oB,Ab (by simp only [List.length_cons,List.length_nil];omega),Ab (by omega)]) (by
  intro n s hs
  simp only [By];rw [dF (by omega),cF_]) (by rw [FUv];omega) [] rfl
 rw [Dq e2]
 rfl
end Go.Proofs.YtcoghblhdjmbfaaGreat
namespace Go.Proofs.YtcoghblhdjmbfaaGreat
open Go.V Tryz
open Classical
theorem Sj {a:AutoAuto} {k:Int} {p:Bool} (h:onP a k p=true):∃ s,idx a.l k=some s/\s.plus=p:=by
 unfold onP at h
 cases hx:idx a.l k with
 | none=>rw [hx] at h;cases h
 | some s=>rw [hx] at h;exact ⟨s,rfl,by simpa using h⟩
theorem GH {a:AutoAuto} (h:mayP a=0):0<a.l.length/\a.l.length<=2000/\(∀ s∈a.l,Dt a s)/\onP a a.start true=true:=by
 unfold mayP at h
 split at h
 ·omega
 ·split at h
  ·rename_i h1 h2
   exact ⟨by omega,by omega,h2.1,h2.2⟩
  ·omega
theorem VE {a:AutoAuto} (h1:0<a.l.length) (h2:a.l.length<=2000) (h3:∀ s∈a.l,Dt a s) (h4:onP a a.start true=true):mayP a=0:=by
 unfold mayP;rw [if_neg (by omega),if_pos ⟨h3,h4⟩]
theorem I2 {a:AutoAuto} (h:AB a) (hm:mayP a=0):Led a:=by
 obtain ⟨h1,h2,h3,h4⟩:=GH hm;refine ⟨h,?_,?_⟩
 ·intro k s hs x hx
  obtain ⟨i,hi,hxi⟩:=List.getElem_of_mem hx;obtain ⟨_,hs2⟩:=Av hs
  have:=(h3 s (List.mem_of_getElem? hs2)).2.2.2.2 i x (by rw [<- hxi];exact List.getElem?_eq_getElem hi)
  obtain ⟨s',h5,_⟩:=Sj this;exact Pn h5
 ·obtain ⟨s',h5,_⟩:=Sj h4
  exact Pn h5
theorem Rx {to:List Int} {s:AutoState} (h:SB s):SB (DH to s):=by
 obtain ⟨h1,h2,h3⟩:=h;exact ⟨h1,by simpa [DH] using h2,by simpa [DH] using h3⟩
theorem JE {a:AutoAuto} (ha:Led a):AB (normP a):=by
 refine ⟨by simpa [normP] using J9 ha,?_⟩
 intro s hs
 simp only [normP,List.mem_map] at hs;obtain ⟨k,hk,rfl⟩:=hs
 have:=(Bj ha).2.1 k hk
 exact Rx (ha.ab.2 _ (Is this.1 this.2))
theorem U3 {a:AutoAuto} (h:AB a) (hm:mayP a=0):Ea a=some (normP a,0):=by
 unfold Ea;rw [PJ a h,oB,hm,show (!decide ((0:Int)=0))=false from rfl,cF_,UI (I2 h hm)]
 rfl
theorem Ud {a:AutoAuto} (h:AB a) (hm:¬ mayP a=0):Ea a=some (⟨[],0⟩,mayP a):=by
 unfold Ea;rw [PJ a h,oB,dF hm,Bool.not_false,cT]
theorem Vk (a:AutoAuto) (h:AB a):CN a=some a:=by
 obtain ⟨h,hs⟩:=h;unfold CN
 have e:=BW (φ:=fun n i s=>BQ a n (i,s,a.start)) (l:=a.l) id (fun s=>(s,a.start)) 0 (by
  intro n i x s hx hi hlen
  obtain ⟨b1,b2,b3⟩:=hs x (List.mem_of_getElem? hx);simp only [BQ];rw [dT (show (i:Int)<a.l.length by omega),cT,getI hx,oB,Qp _ (by omega),oB]
  have e1:=BW (φ:=fun n i t=>BN x n (i,[],t,x.plus,x.all,x.int,x.bool,x.str,x.arrow,x.rec_,x.tag,x.vars,x.dom,x.cod)) (l:=x.fields) id (fun t=>(([]:List AutoEdge),t,x.plus,x.all,x.int,x.bool,x.str,x.arrow,x.rec_,x.tag,x.vars,x.dom,x.cod)) 0 (by
   intro n i y t hy hi ht
   simp only [BN];rw [dT (show (i:Int)<x.fields.length by omega),cT,getI hy,oB,oB,Ab (by simp only [List.length_cons,List.length_nil];omega),Ab (by omega)]
   rfl) (by
   intro n t ht
   simp only [BN];rw [dF (by omega),cF_]) (by rw [FUv];omega) [] rfl
  rw [Dq e1];simp only [List.nil_append,List.map_id]
  have e2:=BW (φ:=fun n i t=>BS x n (i,t,x.fields,x.plus,x.all,x.int,x.bool,x.str,x.arrow,x.rec_,x.tag,x.vars,x.dom,x.cod)) (l:=x.tags) id (fun t=>(t,x.fields,x.plus,x.all,x.int,x.bool,x.str,x.arrow,x.rec_,x.tag,x.vars,x.dom,x.cod)) 0 (by
   intro n i y t hy hi ht
   simp only [BS];rw [dT (show (i:Int)<x.tags.length by omega),cT,getI hy,oB,oB,Ab (by simp only [List.length_cons,List.length_nil];omega),Ab (by omega)]
   rfl) (by
   intro n t ht
   simp only [BS];rw [dF (by omega),cF_]) (by rw [FUv];omega) [] rfl
  rw [Dq e2];simp only [List.nil_append,List.map_id];rw [Ab (by simp only [List.length_cons,List.length_nil];omega),Ab (by omega)]
  rfl) (by
  intro n s hlen
  simp only [BQ];rw [dF (by omega),cF_]) (by rw [FUv];omega) [] rfl
 rw [Dq e]
 simp
end Go.Proofs.YtcoghblhdjmbfaaGreat
namespace Go.Proofs.YtcoghblhdjmbfaaGreat
open Go.V Tryz
open Classical
theorem SP {nx:Int->List Int} {N:Nat} (hnx:∀ x,0<=x->x<(N:Int)->inN N (nx x)):∀ (m m' i:Nat) (l:List Int),N<=i+m->m<=m'->i<=l.length->l.Nodup->inN N l->bfs nx m' i l=bfs nx m i l:=by
 intro m
 induction m with
 | zero =>
  intro m' i l hN _ hi hd hr
  have:=Cs _ _ hd hr
  exact E8 (List.getElem?_eq_none (by omega))
 | succ m ih =>
  intro m' i l hN hm hi hd hr
  cases hx:l[i]? with
  | none=>rw [E8 hx,E8 hx]
  | some x =>
   have hxr:=hr x (List.mem_of_getElem? hx)
   have hil:=getLt hx
   obtain ⟨e,he⟩:=Gt (nx x) l;obtain ⟨m',rfl⟩:∃ k,m'=k+1:=⟨m' - 1,by omega⟩;rw [FL hx,FL hx];exact ih m' (i+1) _ (by omega) (by omega) (by rw [he];simp;omega) (C8 _ _ hd) (GB hr (hnx x hxr.1 hxr.2))
theorem Lq (to:List Int) (s:AutoState):nextP (DH to s)=(nextP s).map (tm to):=by
 unfold nextP DH
 cases h:s.arrow <;> simp [Function.comp_def,edgeM]
theorem QX {a:AutoAuto} (ha:Led a) {j:Nat} {x:Int} (h:(AJ a)[j]? = some x):tm (toP a) x=(j:Int):=by
 obtain ⟨h1,h2,_⟩:=Bj ha
 have hx:=h2 x (List.mem_of_getElem? h)
 have:=Lf (AJ a) 0 (List.replicate a.l.length 0) h1 h2 (by simp) j x h
 unfold tm idx;rw [if_pos hx.1,show toP a=Ez 0 (AJ a) (List.replicate a.l.length 0) from rfl,this]
 simp
theorem Nh {a:AutoAuto} (ha:Led a) {j:Nat} {x:Int} (h:(AJ a)[j]? = some x):idx (normP a).l (j:Int)=some (DH (toP a) (stA a x)):=by
 rw [ML];simp only [normP];rw [List.getElem?_map,h];rfl
theorem GU {a:AutoAuto} (ha:Led a) {x:Int} (h:x∈AJ a):∃ j:Nat,(AJ a)[j]? = some x/\tm (toP a) x=(j:Int)/\j<(AJ a).length:=by
 obtain ⟨j,hj,hj2⟩:=List.getElem_of_mem h
 have h2:(AJ a)[j]? = some x:=by rw [<- hj2];exact List.getElem?_eq_getElem hj
 exact ⟨j,h2,QX ha h2,hj⟩
theorem MP {a:AutoAuto} (ha:Led a) {x:Int} (h:x∈AJ a):stA (normP a) (tm (toP a) x)=DH (toP a) (stA a x):=by
 obtain ⟨j,h1,h2,_⟩:=GU ha h;unfold stA;rw [h2,Nh ha h1];rfl
theorem UG {a:AutoAuto} (ha:Led a) {x:Int} (h:x∈AJ a):nxA (normP a) (tm (toP a) x)=(nxA a x).map (tm (toP a)):=by
 unfold nxA;rw [MP ha h,Lq]
theorem Lu {a:AutoAuto} (ha:Led a) {x y:Int} (h:x∈AJ a) (hy:y∈nxA a x):y∈AJ a:=by
 obtain ⟨j,h1,_⟩:=GU ha h;exact (Bj ha).2.2.2 j x (by omega) h1 y hy
theorem VR {a:AutoAuto} (ha:Led a) {x y:Int} (hx:x∈AJ a) (hy:y∈AJ a) (h:tm (toP a) x=tm (toP a) y):x=y:=by
 obtain ⟨j,h1,h2,_⟩:=GU ha hx;obtain ⟨k,h3,h4,_⟩:=GU ha hy
 have:j=k:=by omega
 subst this;rw [h1] at h3;exact Option.some.inj h3
theorem St {a:AutoAuto} (ha:Led a) {x:Int} (h:x∈AJ a):0<=tm (toP a) x/\tm (toP a) x<((AJ a).length:Int):=by
 obtain ⟨j,h1,h2,h3⟩:=GU ha h
 omega
theorem Ri {a:AutoAuto} (ha:Led a):(AJ a).map (tm (toP a))=(List.range (AJ a).length).map (fun k:Nat=>(k:Int)):=by
 refine List.ext_getElem? fun j=>?_;rw [List.getElem?_map,List.getElem?_map]
 cases h:(AJ a)[j]? with
 | none =>
  rw [List.getElem?_eq_none (by simpa using List.getElem?_eq_none_iff.1 h)];rfl
 | some x =>
  have:=getLt h
  rw [List.getElem?_range this];simp only [Option.map_some,QX ha h]
theorem D7 {a:AutoAuto} (ha:Led a):(normP a).l.length=(AJ a).length:=by simp [normP]
theorem JW {a:AutoAuto} (ha:Led a):a.start∈AJ a:=by
 obtain ⟨e,he⟩:=(Bj ha).2.2.1;rw [he];simp
theorem OO {a:AutoAuto} (ha:Led a):tm (toP a) a.start=0:=by
 obtain ⟨e,he⟩:=(Bj ha).2.2.1
 have:(AJ a)[0]? = some a.start:=by rw [he];rfl
 simpa using QX ha this
theorem Ke {a:AutoAuto} (ha:Led a):0<(AJ a).length:=List.length_pos_of_mem (JW ha)
theorem NL {a:AutoAuto} (ha:Led a):Led (normP a):=by
 refine ⟨JE ha,?_,?_⟩
 ·intro k s hs y hy
  obtain ⟨h0,h1⟩:=Pn hs;rw [D7 ha] at h1 ⊢
  have hx:(AJ a)[k.toNat]? = some (AJ a)[k.toNat]:=List.getElem?_eq_getElem (by omega)
  have:=Nh ha hx
  rw [show ((k.toNat:Nat):Int)=k by omega,hs] at this
  cases this
  rw [Lq,List.mem_map] at hy;obtain ⟨z,hz,rfl⟩:=hy;exact St ha (Lu ha (List.mem_of_getElem? hx) hz)
 ·rw [D7 ha]
  have:=Ke ha
  show 0<=(0:Int)/\(0:Int)<_
  omega
theorem Px {a:AutoAuto} (ha:Led a):AJ (normP a)=(List.range (AJ a).length).map (fun k:Nat=>(k:Int)):=by
 have hn:=NL ha
 have hpos:=Ke ha
 have hle:=Cs _ _ (Bj ha).1 (Bj ha).2.1
 rw [<- Ri ha]
 have e1:AJ (normP a)=bfs (nxA (normP a)) a.l.length 0 ([a.start].map (tm (toP a))):=by
  rw [List.map_cons,List.map_nil,OO ha];unfold AJ;rw [show (normP a).start=0 from rfl]
  symm
  exact SP (HP hn) _ _ 0 [0] (by omega) (by rw [D7 ha];exact hle) (by simp) (by simp) (Iq hn)
 rw [e1];refine Ua (tm (toP a)) (HP ha) a.l.length 0 [a.start] (by omega) (by simp) (by simp) (Iq ha) ?_ ?_
 ·intro x hx;exact UG ha hx
 ·intro x y hx hy h;exact VR ha hx hy h
theorem Vx (to:List Int) (s:AutoState):bareP (DH to s)=bareP s:=by
 unfold bareP DH
 cases h:s.arrow <;> simp
theorem QP (to:List Int) (isN:List UInt8->Bool) (l:List AutoEdge) (h:Gg isN l):Gg isN (l.map (edgeM to)):=by
 obtain ⟨h1,h2⟩:=h;refine ⟨?_,by simpa using h2⟩
 intro i x hx
 rw [List.getElem?_map] at hx
 cases h3:l[i]? with
 | none=>rw [h3] at hx;cases hx
 | some y =>
  rw [h3] at hx
  cases hx
  obtain ⟨h4,h5⟩:=h1 i y h3;refine ⟨h4,fun h0 z hz=>?_⟩;rw [List.getElem?_map] at hz
  cases h6:l[i - 1]? with
  | none=>rw [h6] at hz;cases hz
  | some w =>
   rw [h6] at hz
   cases hz
   exact h5 h0 w h6
theorem Q9 {a:AutoAuto} (ha:Led a) {x:Int} {p:Bool} (hx:x∈AJ a) (h:onP a x p=true):onP (normP a) (tm (toP a) x) p=true:=by
 obtain ⟨s,h1,h2⟩:=Sj h;obtain ⟨j,h3,h4,_⟩:=GU ha hx
 have e:stA a x=s:=by unfold stA;rw [h1];rfl
 unfold onP;rw [h4,Nh ha h3,e]
 simp [DH,h2]
theorem HL {a:AutoAuto} (hab:AB a) (hm:mayP a=0):mayP (normP a)=0:=by
 have ha:=I2 hab hm
 obtain ⟨h1,h2,h3,h4⟩:=GH hm
 have hle:=Cs _ _ (Bj ha).1 (Bj ha).2.1
 have hl:=D7 ha
 refine VE (by have:=Ke ha;omega) (by omega) ?_ ?_
 ·intro s hs
  simp only [normP,List.mem_map] at hs;obtain ⟨x,hx,rfl⟩:=hs
  have hxr:=(Bj ha).2.1 x hx
  obtain ⟨r1,r2,r3,r4,r5⟩:=h3 _ (Is hxr.1 hxr.2);refine ⟨by rw [Vx];exact r1,r2,QP _ _ _ r3,QP _ _ _ r4,?_⟩
  intro i y hy
  rw [Lq,List.getElem?_map] at hy
  cases h5:(nextP (stA a x))[i]? with
  | none=>rw [h5] at hy;cases hy
  | some z =>
   rw [h5] at hy
   cases hy
   exact Q9 ha (Lu ha hx (List.mem_of_getElem? h5)) (r5 i z h5)
 ·have:=Q9 ha (JW ha) h4
  rw [OO ha] at this;exact this
end Go.Proofs.YtcoghblhdjmbfaaGreat
namespace Go.Proofs.YtcoghblhdjmbfaaGreat
open Go.V Tryz
open Classical
theorem Lo:∀ (a b:List Int),a.Pairwise (· < ·)->b.Pairwise (· < ·)->(∀ x,x∈a↔x∈b)->a=b
 | [],[],_,_,_=>rfl
 | [],y::b,_,_,h=>by have:=(h y).2 (by simp);simp at this
 | x::a,[],_,_,h=>by have:=(h x).1 (by simp);simp at this
 | x::a,y::b,ha,hb,h=>by
  rw [List.pairwise_cons] at ha hb
  have hxy:x=y:=by
   have h1:=(h x).1 (by simp)
   have h2:=(h y).2 (by simp)
   rcases List.mem_cons.1 h1 with h1 | h1
   ·exact h1
   ·rcases List.mem_cons.1 h2 with h2 | h2
    ·exact h2.symm
    ·have:=hb.1 x h1;have:=ha.1 y h2;omega
  subst hxy
  congr 1
  refine Lo a b ha.2 hb.2 fun z=>?_
  have h1:=h z
  simp only [List.mem_cons] at h1
  constructor
  ·intro hz
   rcases h1.1 (.inr hz) with e | e
   ·have:=ha.1 z hz;omega
   ·exact e
  ·intro hz
   rcases h1.2 (.inr hz) with e | e
   ·have:=hb.1 z hz;omega
   ·exact e
theorem Ji {d:Array Int} (hd:∀ i j,i<j->j<d.size->d[i]! <= d[j]!):∀ m,m<=d.size->(Lib.compactUpTo d m).Pairwise (· < ·)/\(∀ x,x∈Lib.compactUpTo d m↔∃ j,j<m/\d[j]! = x)/\∀ x∈Lib.compactUpTo d m,0<m/\x<=d[m - 1]!
 | 0,_=>by simp [Lib.compactUpTo]
 | m+1,hm=>by
  obtain ⟨h1,h2,h3⟩:=Ji hd m (by omega);rw [Lib.compactUpTo_succ]
  by_cases hk:Lib.keeps d m=true
  ·rw [if_pos hk]
   have hk2:m=0\/d[m]! ≠ d[m - 1]! := by simpa [Lib.keeps] using hk
   have hlt:∀ x∈Lib.compactUpTo d m,x<d[m]! := by
    intro x hx
    obtain ⟨h4,h5⟩:=h3 x hx
    have h6:=hd (m - 1) m (by omega) (by omega)
    rcases hk2 with h7 | h7
    ·omega
    ·omega
   refine ⟨?_,fun x=>?_,fun x hx=>⟨by omega,?_⟩⟩
   ·rw [List.pairwise_append]
    exact ⟨h1,by simp,fun a ha b hb=>by simp at hb;subst hb;exact hlt a ha⟩
   ·rw [List.mem_append,h2 x]
    simp only [List.mem_cons,List.not_mem_nil,or_false]
    constructor
    ·rintro (⟨j,hj,e⟩ | e)
     ·exact ⟨j,by omega,e⟩
     ·exact ⟨m,by omega,e.symm⟩
    ·rintro ⟨j,hj,e⟩
     by_cases hjm:j=m
     ·subst hjm;exact .inr e.symm
     ·exact .inl ⟨j,by omega,e⟩
   ·rw [Nat.add_sub_cancel]
    rcases List.mem_append.1 hx with hx | hx
    ·exact Int.le_of_lt (hlt x hx)
    ·simp at hx;omega
  ·have hk':Lib.keeps d m=false:=by simpa using hk
   rw [hk']
   have hk2:0<m/\d[m]! = d[m - 1]! := by
    have:¬ (m=0\/d[m]! ≠ d[m - 1]!):=by simpa [Lib.keeps] using hk'
    omega
   simp only [Bool.false_eq_true,if_false,List.append_nil];refine ⟨h1,fun x=>?_,fun x hx=>⟨by omega,?_⟩⟩
   ·rw [h2 x]
    constructor
    ·rintro ⟨j,hj,e⟩;exact ⟨j,by omega,e⟩
    ·rintro ⟨j,hj,e⟩
     by_cases hjm:j=m
     ·subst hjm;exact ⟨j - 1,by omega,by rw [<- hk2.2];exact e⟩
     ·exact ⟨j,by omega,e⟩
   ·rw [Nat.add_sub_cancel]
    have:=(h3 x hx).2
    omega
theorem Ic {l:List Int} (h:l.Pairwise (· <= ·)):(Lib.compact l).Pairwise (· < ·)/\∀ x,x∈Lib.compact l↔x∈l:=by
 have hget:∀ j,j<l.length->l.toArray[j]! = l[j]! := fun j _=>by simp
 obtain ⟨h1,h2,_⟩:=Ji (d:=l.toArray) (fun i j hij hj=>by
  simp at hj
  have:=List.pairwise_iff_getElem.1 h i j (by omega) hj hij
  simpa [hj,show i<l.length by omega] using this) l.length (by simp)
 refine ⟨h1,fun x=>(h2 x).trans ?_⟩
 constructor
 ·rintro ⟨j,hj,e⟩
  rw [<- e];simp [hj]
 ·intro hx
  obtain ⟨j,hj,e⟩:=List.getElem_of_mem hx;exact ⟨j,hj,by simp [hj,e]⟩
theorem JK (l:List Int):(List.mergeSort l fun x y=>decide (x<=y)).Pairwise (· <= ·):=by
 have:=List.pairwise_mergeSort (le:=fun x y:Int=>decide (x<=y)) (fun a b c h1 h2=>by simp at *;omega) (fun a b=>by simp;omega) l
 exact this.imp (fun h=>by simpa using h)
theorem takeS {α:Type} {l:List α} {i:Nat} {x:α} (h:l[i]? = some x):l.take (i+1)=l.take i++[x]:=by
 have hi:=(List.getElem?_eq_some_iff.1 h).1
 rw [List.take_succ_eq_append_getElem hi];rw [List.getElem?_eq_getElem hi] at h;rw [Option.some.inj h]
theorem Vh {α:Type} {A B:List α} {x y:α} {i:Nat} (h:A.length=i):(A++x::B).set i y=A++y::B:=by
 subst h
 induction A with
 | nil=>rfl
 | cons a A ih=>simp only [List.cons_append,List.length_cons,List.set_cons_succ,ih]
end Go.Proofs.YtcoghblhdjmbfaaGreat
