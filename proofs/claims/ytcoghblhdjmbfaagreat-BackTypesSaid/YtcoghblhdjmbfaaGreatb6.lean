/- Part 6 of the proof: a program logic, what the functions compute, and what these answer; no condition. -/
import Derived.Test.YtcoghblhdjmbfaaGreatb5
import Derived.Shelf.Sort.Plain
import Derived.Ground.Names2Prog
import Derived.Shelf.Slices.CompactI
import Derived.Shelf.Slices.In.SortNone
import Derived.Test.YtcoghblhdjmbfaaGreatProg
set_option linter.unusedVariables false
set_option linter.unusedSimpArgs false
set_option maxRecDepth 100000
set_option maxHeartbeats 2000000
namespace Go.Proofs.YtcoghblhdjmbfaaGreat
open Go.V Tryz
theorem FX {l1:(List Int)} {r_1:(List Int)} (hm:DN l1=some r_1):Fn0 Tryz.prog 74 [.list 1 D.i64 l1] (.list 1 D.i64 r_1):=by
 unfold DN at hm;refine Ad func74 rfl ntmps74 rfl fun H0 fr w0=>?_;refine zq3 ?_;refine Ap (nilE (i:=2) (sz:=1) (f:=D.i64) rfl).refines ?_;refine zq3 ?_;refine AG rfl rfl rfl (Au (xs:=[]) (f:=D.i64) (l:=[]) runUnderlying43 sizeOf3 zeroValue3 rfl rfl rfl (fun _=>⟨rfl,rfl,rfl⟩) rfl (by simp [maxLen])) ?_;rintro _ _ ⟨a_r1,rfl,rfl⟩;refine zq7 ?_;obtain ⟨o_1,hj1,hm1⟩:=bS hm;refine Ag [] [] (fun (st:(List Int)) (hid:(Option Addr×Nat))=>match st,hid with | l2,(a_r1,cap_r1)=>[(3,.v (.slice a_r1 l2.length cap_r1))]) (fun F (st:(List Int)) (hid:(Option Addr×Nat))=>match st,hid with | l2,(a_r1,cap_r1)=>[row a_r1 cap_r1 3 1 D.i64 l2]) (fun st=>st=o_1) trivial trivial ?_ ?_
 ·refine Am ?_
  refine Ah [(0,_)] [] (fun (st:(Int×(List Int))) (hid:(Option Addr×Nat))=>match st,hid with | (i1,l3),(a_r1,cap_r1)=>[(3,.v (.slice a_r1 l3.length cap_r1)),(4,.i64 i1)]) (fun F (st:(Int×(List Int))) (hid:(Option Addr×Nat))=>match st,hid with | (i1,l3),(a_r1,cap_r1)=>[row a_r1 cap_r1 3 1 D.i64 l3]) (_,_) hj1 (fun _=>rfl) ⟨rfl,trivial⟩ trivial ⟨rfl,rfl,trivial⟩ rfl ?_;rintro n ⟨i1,l3⟩ ⟨a_r1,cap_r1⟩ hj1;rw [Dy] at hj1;refine Ao (L':=[(3,.v (.slice a_r1 l3.length cap_r1)),(4,.i64 i1),(0,_)]) (ms':=[row a_r1 cap_r1 3 1 D.i64 l3]) rfl rfl ?_;refine zq8 ?_;refine zcn hj1 (fun hc1 hj1=>?_) (fun hc1 hj1=>?_)
  ·refine zq8 ?_
   obtain ⟨o_2,hj2,hm2⟩:=bS hj1;refine Ag [(0,_),(3,_),(4,_)] [(0,_)] (fun (st:Int) (hid:Unit)=>match st,hid with | k1,_=>[(5,.i64 k1)]) (fun F (st:Int) (hid:Unit)=>match st,hid with | k1,_=>[(nthF F 0)]) (fun st=>st=o_2) ⟨rfl,rfl,rfl,trivial⟩ ⟨rfl,trivial⟩ ?_ ?_
   ·refine Am ?_
    refine Ah [(0,_),(3,_),(4,_)] [(0,_)] (fun (st:Int) (hid:Unit)=>match st,hid with | k2,_=>[(5,.i64 k2)]) (fun F (st:Int) (hid:Unit)=>match st,hid with | k2,_=>[(nthF F 0)]) () hj2 (fun _=>rfl) ⟨rfl,rfl,rfl,trivial⟩ ⟨rfl,trivial⟩ ⟨rfl,trivial⟩ rfl ?_;rintro n k2 _ hj2;rw [Eb] at hj2;refine Ao (L':=[(5,.i64 k2),(0,_),(3,_),(4,_)]) (ms':=[_]) rfl rfl ?_;refine zq2 ?_
    rcases CQ hj2 with ⟨hg_1,hj2⟩ | ⟨hg_1,hj2⟩
    ·
     skip
     obtain ⟨x1,hx1,hj2⟩:=bS hj2;obtain ⟨x2,hx2,hj2⟩:=bS hj2;refine zdr 15 ?_;refine zq2 ?_;refine AC rfl rfl rfl (.view (peekE (i:=14) 0 rfl rfl rfl) (Fb runUnderlying43 rfl)) ?_;refine zq4 ?_;refine EL rfl rfl rfl hg_1 rfl rfl (.view (peekE (i:=18) 0 rfl rfl rfl) (oIm runUnderlying43 sizeOf3 rfl rfl hx1)) ?_;refine zq3 ?_;refine EL rfl rfl rfl hg_1 rfl rfl (oIm runUnderlying43 sizeOf3 rfl rfl hx2) ?_;refine zq5 ?_;refine zcn hj2 (fun hc2 hj2=>?_) (fun hc2 hj2=>?_)
     ·refine zq4 ?_
      obtain ⟨hg3,hj2⟩:=Aa hj2;refine zq3 ?_;exact ⟨_,(),hj2,⟨rfl,trivial⟩,⟨rfl,rfl,rfl,trivial⟩,[],rfl⟩
     ·refine Ar ?_
      exact ⟨_,(),Ac hj2,⟨rfl,trivial⟩,⟨rfl,rfl,rfl,trivial⟩,[],rfl⟩
    ·
     skip
     refine zdr 15 ?_;refine zq2 ?_;refine AC rfl rfl rfl (.view (peekE (i:=14) 0 rfl rfl rfl) (Fb runUnderlying43 rfl)) ?_;refine zq14 ?_;refine A3 rfl rfl ?_;refine Ar ?_;exact ⟨_,(),Ac hj2,⟨rfl,trivial⟩,⟨rfl,rfl,rfl,trivial⟩,[],rfl⟩
   ·rintro k1 _ hst
    subst hst;refine Al (L':=[(5,.i64 k1),(0,_),(3,_),(4,_)]) (ms':=[_]) rfl rfl ?_;refine zq2 ?_
    rcases CQ hm2 with ⟨hg_2,hm2⟩ | ⟨hg_2,hm2⟩
    ·
     skip
     obtain ⟨x3,hx4,hm2⟩:=bS hm2;obtain ⟨x4,hx5,hm2⟩:=bS hm2;refine zdr 15 ?_;refine zq2 ?_;refine AC rfl rfl rfl (.view (peekE (i:=31) 0 rfl rfl rfl) (Fb runUnderlying43 rfl)) ?_;refine zq4 ?_;refine EL rfl rfl rfl hg_2 rfl rfl (.view (peekE (i:=35) 0 rfl rfl rfl) (oIm runUnderlying43 sizeOf3 rfl rfl hx4)) ?_;refine zq3 ?_;refine EL rfl rfl rfl hg_2 rfl rfl (oIm runUnderlying43 sizeOf3 rfl rfl hx5) ?_;refine zq5 ?_;refine zcn hm2 (fun hc3 hm2=>?_) (fun hc3 hm2=>?_)
     ·refine Ar ?_
      refine zq2 ?_;obtain ⟨hg6,hm2⟩:=Aa hm2;refine zq3 ?_;exact ⟨_,(_,_),hm2,⟨rfl,rfl,trivial⟩,⟨rfl,trivial⟩,[],rfl⟩
     ·refine gSp ?_
      obtain ⟨l4,hx7,hm2⟩:=bS hm2;obtain ⟨hg8,hm2⟩:=Aa hm2;obtain ⟨x5,hx9,hm2⟩:=bS hm2;obtain ⟨hg10,hm2⟩:=Aa hm2;obtain ⟨l5,hx11,hm2⟩:=bS hm2;obtain ⟨hg12,hm2⟩:=Aa hm2;refine IE 2 [0,4,10,14,15] [1,2,3,5,6,7,8,9,11,12,13] [3,13] (by decide +kernel) (by decide +kernel) A0 (by decide +kernel) (by decide +kernel) rfl ?_;refine Fo rfl ?_;refine zq2 ?_;refine Mu rfl rfl rfl rfl rfl (.view (peekE (i:=46) 0 rfl rfl rfl) (BG runUnderlying43 sizeOf3 rfl rfl ⟨_,rfl⟩ hx7)) ?_;refine Fo rfl ?_;refine zq2 ?_;refine FH rfl rfl rfl rfl rfl rfl (oIm runUnderlying43 sizeOf3 rfl rfl hx9) ?_;refine zq1 ?_;refine FH rfl rfl rfl rfl rfl rfl (zs1 D.i64) ?_;refine Fo rfl ?_;refine zq2 ?_;refine Mu rfl rfl rfl rfl rfl (.view (peekE (i:=56) 0 rfl rfl rfl) (BG runUnderlying43 sizeOf3 rfl ⟨_,rfl⟩ rfl hx11)) ?_;refine Fo rfl ?_;refine Fo rfl ?_;refine KV ?_;refine E2 rfl rfl rfl rfl (Au (xs:=[]) (f:=D.i64) (l:=[]) runUnderlying43 sizeOf3 zeroValue3 rfl rfl rfl (fun _=>⟨rfl,rfl,rfl⟩) rfl (by simp [maxLen])) ?_;rintro _ _ ⟨a_r2,rfl,rfl⟩;refine ⟨fun _=>⟨⟨trivial,.view (peekE (i:=46) 1 rfl rfl rfl) (BG runUnderlying43 sizeOf3 rfl rfl ⟨_,rfl⟩ hx7)⟩,.view (peekE (i:=56) 1 rfl rfl rfl) (BG runUnderlying43 sizeOf3 rfl ⟨_,rfl⟩ rfl hx11)⟩,?_⟩;refine E2 rfl rfl rfl rfl (C0 (a:=_) 0 underlying43 type3 rfl rfl rfl rfl rfl rfl rfl (fun _=>rfl) (fun _=>rfl) hg8 (BX hg8 rfl)) ?_;rintro _ _ ⟨a_r2,cap_r2,rfl,rfl⟩;refine ⟨fun _=>⟨⟨trivial,.view (peekE (i:=46) 1 rfl rfl rfl) (BG runUnderlying43 sizeOf3 rfl rfl ⟨_,rfl⟩ hx7)⟩,.view (peekE (i:=56) 1 rfl rfl rfl) (BG runUnderlying43 sizeOf3 rfl ⟨_,rfl⟩ rfl hx11)⟩,?_⟩;refine E2 rfl rfl rfl rfl (C0 (a:=_) 0 underlying43 type3 rfl rfl rfl rfl rfl rfl rfl (fun _=>rfl) (fun _=>rfl) hg10 (BX hg10 rfl)) ?_;rintro _ _ ⟨a_r2,cap_r2,rfl,rfl⟩;refine ⟨fun _=>⟨⟨trivial,.view (peekE (i:=46) 1 rfl rfl rfl) (BG runUnderlying43 sizeOf3 rfl rfl ⟨_,rfl⟩ hx7)⟩,.view (peekE (i:=56) 1 rfl rfl rfl) (BG runUnderlying43 sizeOf3 rfl ⟨_,rfl⟩ rfl hx11)⟩,?_⟩;refine E2 rfl rfl rfl rfl (C0 (a:=_) 0 underlying43 type3 rfl rfl rfl rfl rfl rfl rfl (fun _=>rfl) (fun _=>rfl) hg12 (BX hg12 rfl)) ?_;rintro _ _ ⟨a_r2,cap_r2,rfl,rfl⟩;refine ⟨fun hc=>absurd hc (by decide),?_⟩;refine E2 rfl rfl rfl rfl (oAs rfl) ?_;rintro _ _ ⟨rfl,rfl⟩;refine ⟨fun hc=>absurd hc (by decide),?_⟩;refine Jd ?_;refine BM (GI 0 1 rfl rfl rfl rfl) ?_;refine zq2 ?_;obtain ⟨hg13,hm2⟩:=Aa hm2;refine zq3 ?_;exact ⟨_,(_,_),hm2,⟨rfl,rfl,trivial⟩,⟨rfl,trivial⟩,[],rfl⟩
    ·
     skip
     refine zdr 15 ?_;refine zq2 ?_;refine AC rfl rfl rfl (.view (peekE (i:=31) 0 rfl rfl rfl) (Fb runUnderlying43 rfl)) ?_;refine zq14 ?_;refine A3 rfl rfl ?_;refine gSp ?_;obtain ⟨l6,hx14,hm2⟩:=bS hm2;obtain ⟨hg15,hm2⟩:=Aa hm2;obtain ⟨x6,hx16,hm2⟩:=bS hm2;obtain ⟨hg17,hm2⟩:=Aa hm2;obtain ⟨l7,hx18,hm2⟩:=bS hm2;obtain ⟨hg19,hm2⟩:=Aa hm2;refine IE 2 [0,4,10,14,15] [1,2,3,5,6,7,8,9,11,12,13] [3,13] (by decide +kernel) (by decide +kernel) A0 (by decide +kernel) (by decide +kernel) rfl ?_;refine Fo rfl ?_;refine zq2 ?_;refine Mu rfl rfl rfl rfl rfl (.view (peekE (i:=46) 0 rfl rfl rfl) (BG runUnderlying43 sizeOf3 rfl rfl ⟨_,rfl⟩ hx14)) ?_;refine Fo rfl ?_;refine zq2 ?_;refine FH rfl rfl rfl rfl rfl rfl (oIm runUnderlying43 sizeOf3 rfl rfl hx16) ?_;refine zq1 ?_;refine FH rfl rfl rfl rfl rfl rfl (zs1 D.i64) ?_;refine Fo rfl ?_;refine zq2 ?_;refine Mu rfl rfl rfl rfl rfl (.view (peekE (i:=56) 0 rfl rfl rfl) (BG runUnderlying43 sizeOf3 rfl ⟨_,rfl⟩ rfl hx18)) ?_;refine Fo rfl ?_;refine Fo rfl ?_;refine KV ?_;refine E2 rfl rfl rfl rfl (Au (xs:=[]) (f:=D.i64) (l:=[]) runUnderlying43 sizeOf3 zeroValue3 rfl rfl rfl (fun _=>⟨rfl,rfl,rfl⟩) rfl (by simp [maxLen])) ?_;rintro _ _ ⟨a_r3,rfl,rfl⟩;refine ⟨fun _=>⟨⟨trivial,.view (peekE (i:=46) 1 rfl rfl rfl) (BG runUnderlying43 sizeOf3 rfl rfl ⟨_,rfl⟩ hx14)⟩,.view (peekE (i:=56) 1 rfl rfl rfl) (BG runUnderlying43 sizeOf3 rfl ⟨_,rfl⟩ rfl hx18)⟩,?_⟩;refine E2 rfl rfl rfl rfl (C0 (a:=_) 0 underlying43 type3 rfl rfl rfl rfl rfl rfl rfl (fun _=>rfl) (fun _=>rfl) hg15 (BX hg15 rfl)) ?_;rintro _ _ ⟨a_r3,cap_r3,rfl,rfl⟩;refine ⟨fun _=>⟨⟨trivial,.view (peekE (i:=46) 1 rfl rfl rfl) (BG runUnderlying43 sizeOf3 rfl rfl ⟨_,rfl⟩ hx14)⟩,.view (peekE (i:=56) 1 rfl rfl rfl) (BG runUnderlying43 sizeOf3 rfl ⟨_,rfl⟩ rfl hx18)⟩,?_⟩;refine E2 rfl rfl rfl rfl (C0 (a:=_) 0 underlying43 type3 rfl rfl rfl rfl rfl rfl rfl (fun _=>rfl) (fun _=>rfl) hg17 (BX hg17 rfl)) ?_;rintro _ _ ⟨a_r3,cap_r3,rfl,rfl⟩;refine ⟨fun _=>⟨⟨trivial,.view (peekE (i:=46) 1 rfl rfl rfl) (BG runUnderlying43 sizeOf3 rfl rfl ⟨_,rfl⟩ hx14)⟩,.view (peekE (i:=56) 1 rfl rfl rfl) (BG runUnderlying43 sizeOf3 rfl ⟨_,rfl⟩ rfl hx18)⟩,?_⟩;refine E2 rfl rfl rfl rfl (C0 (a:=_) 0 underlying43 type3 rfl rfl rfl rfl rfl rfl rfl (fun _=>rfl) (fun _=>rfl) hg19 (BX hg19 rfl)) ?_;rintro _ _ ⟨a_r3,cap_r3,rfl,rfl⟩;refine ⟨fun hc=>absurd hc (by decide),?_⟩;refine E2 rfl rfl rfl rfl (oAs rfl) ?_;rintro _ _ ⟨rfl,rfl⟩;refine ⟨fun hc=>absurd hc (by decide),?_⟩;refine Jd ?_;refine BM (GI 0 1 rfl rfl rfl rfl) ?_
     refine zq2 ?_;obtain ⟨hg20,hm2⟩:=Aa hm2;refine zq3 ?_;exact ⟨_,(_,_),hm2,⟨rfl,rfl,trivial⟩,⟨rfl,trivial⟩,[],rfl⟩
  ·refine Ar ?_
   exact ⟨_,(_,_),Ac hj1,⟨rfl,trivial⟩,trivial,[],rfl⟩
 ·rintro l2 ⟨a_r1,cap_r1⟩ hst
  subst hst;refine Al (L':=[(3,.v (.slice a_r1 l2.length cap_r1))]) (ms':=[row a_r1 cap_r1 3 1 D.i64 l2]) rfl rfl ?_;refine zq5 ?_;refine BM (peekE (i:=2) 0 rfl rfl rfl).refines ?_
  cases hm1;exact Ae zr1
def CL (a1:(List Int)) (b1:(List Int)):Nat->Int->Option (Out Bool Unit)
 | 0,_=>none
 | n+1,i1 =>
  bif (decide (i1<(a1.length:Int))) then
   (idx a1 i1).bind fun x1 =>
   (idx b1 i1).bind fun x2 =>
   bif (!decide (x1=x2)) then
    some (Out.ret false)
   else
    grd (InR (i1+1)) <|
    CL a1 b1 n (i1+1)
  else
   some (Out.go (()))
def DR (a1:(List Int)) (b1:(List Int)):Option Bool:=
 bif (!decide ((a1.length:Int)=(b1.length:Int))) then
  some false
 else
  ((CL a1 b1 FU 0:Option (Out Bool Unit))).bind (fun oo=>oo.on (fun r1=>some r1) (fun _ =>
  some true))
theorem IN {a1:(List Int)} {b1:(List Int)} {r_1:Bool} (hm:DR a1 b1=some r_1):Fn0 Tryz.prog 53 [.list 1 D.i64 a1,.list 1 D.i64 b1] (.bool r_1):=by
 unfold DR at hm;refine Ad func53 rfl ntmps53 rfl fun H0 fr w0=>?_;refine zq13 ?_;refine zcn hm (fun hc1 hm=>?_) (fun hc1 hm=>?_)
 ·refine zq4 ?_
  cases hm;exact Ae zr1
 ·refine zq6 ?_
  obtain ⟨o_1,hj1,hm1⟩:=bS hm;refine Ag [] [] (fun (st:Unit) (hid:Unit)=>match st,hid with | _,_=>[]) (fun F (st:Unit) (hid:Unit)=>match st,hid with | _,_=>[]) (fun st=>Out.go (st)=o_1) trivial trivial ?_ ?_
  ·refine Am ?_
   refine Ah [(0,_),(1,_)] [] (fun (st:Int) (hid:Unit)=>match st,hid with | i1,_=>[(5,.i64 i1)]) (fun F (st:Int) (hid:Unit)=>match st,hid with | i1,_=>[]) () hj1 (fun _=>rfl) ⟨rfl,rfl,trivial⟩ trivial ⟨rfl,trivial⟩ rfl ?_;rintro n i1 _ hj1;rw [CL] at hj1;refine Ao (L':=[(5,.i64 i1),(0,_),(1,_)]) (ms':=[]) rfl rfl ?_;refine zq8 ?_;refine zcn hj1 (fun hc2 hj1=>?_) (fun hc2 hj1=>?_)
   ·refine zq4 ?_
    obtain ⟨x1,hx1,hj1⟩:=bS hj1;obtain ⟨x2,hx2,hj1⟩:=bS hj1;refine zdr 9 ?_;refine zq11 ?_;refine zcn hj1 (fun hc3 hj1=>?_) (fun hc3 hj1=>?_)
    ·refine zq4 ?_
     refine Ae ?_;obtain rfl:=Ac hj1
     replace hm1:=Bu hm1
     cases hm1;exact zr1
    ·refine zq3 ?_
     obtain ⟨hg3,hj1⟩:=Aa hj1;refine zq3 ?_;exact ⟨_,(),hj1,⟨rfl,trivial⟩,⟨rfl,rfl,trivial⟩,[],rfl⟩
   ·refine Ar ?_
    exact ⟨_,(),Ac hj1,trivial,trivial,[],rfl⟩
  ·rintro _ _ hst
   subst hst
   replace hm1:=CT hm1
   refine Al (L':=[]) (ms':=[]) rfl rfl ?_;refine zq4 ?_
   cases hm1;exact Ae zr1
def GZ (a1:RSeq) (b1:RSeq):Option Bool:=
 (DR a1.l b1.l).bind fun x1 =>
 (bif x1 then ((DR a1.r b1.r).bind fun x2 =>
 some x2) else (some false)).bind fun p1 =>
 some p1
theorem Ro {a1:RSeq} {b1:RSeq} {r_1:Bool} (hm:GZ a1 b1=some r_1):Fn0 Tryz.prog 76 [RSeq.d a1,RSeq.d b1] (.bool r_1):=by
 unfold GZ at hm;refine Ad func76 rfl ntmps76 rfl fun H0 fr w0=>?_;refine zq12 ?_;obtain ⟨x1,hx1,hm⟩:=bS hm;refine zc0 (IN hx1) ?_;refine zq1 ?_;obtain ⟨p1,hp_1,hm⟩:=bS hm;refine AF [] 6 16 p1 (t:=10) trivial rfl (fun hg_1 hk1=>?_) (fun hg_1 hk1=>?_) ?_
 ·replace hp_1:=AD hg_1 hp_1
  refine zq4 ?_;obtain ⟨x2,hx2,hp_1⟩:=bS hp_1;refine zcw (IN hx2) ?_;refine zq1 ?_;exact zgb hk1 hp_1
 ·replace hp_1:=AE hg_1 hp_1
  refine zq6 ?_;exact zgb hk1 hp_1
 refine zq2 ?_
 cases hm;exact Ae zr1
def Er (t1:ATy) (l1:(List Int)) (kind1:Int):Nat->Int->Option (Out Int Unit)
 | 0,_=>none
 | n+1,i1 =>
  bif (decide (i1<(l1.length:Int))) then
   (idx l1 i1).bind fun x1 =>
   (idx t1.l x1).bind fun x2 =>
   bif (decide (x2.kind=kind1)) then
    some (Out.ret i1)
   else
    grd (InR (i1+1)) <|
    Er t1 l1 kind1 n (i1+1)
  else
   some (Out.go (()))
def Fv (t1:ATy) (l1:(List Int)) (kind1:Int):Option Int:=
 ((Er t1 l1 kind1 FU 0:Option (Out Int Unit))).bind (fun oo=>oo.on (fun r1=>some r1) (fun _ =>
 some (-1)))
theorem J1 {t1:ATy} {l1:(List Int)} {kind1:Int} {r_1:Int} (hm:Fv t1 l1 kind1=some r_1):Fn0 Tryz.prog 104 [ATy.d t1,.list 1 D.i64 l1,.i64 kind1] (.i64 r_1):=by
 unfold Fv at hm;refine Ad func104 rfl ntmps104 rfl fun H0 fr w0=>?_;refine zq10 ?_;obtain ⟨o_1,hj1,hm1⟩:=bS hm;refine Ag [] [] (fun (st:Unit) (hid:Unit)=>match st,hid with | _,_=>[]) (fun F (st:Unit) (hid:Unit)=>match st,hid with | _,_=>[]) (fun st=>Out.go (st)=o_1) trivial trivial ?_ ?_
 ·refine Am ?_
  refine Ah [(1,_),(2,_),(3,_)] [] (fun (st:Int) (hid:Unit)=>match st,hid with | i1,_=>[(7,.i64 i1)]) (fun F (st:Int) (hid:Unit)=>match st,hid with | i1,_=>[]) () hj1 (fun _=>rfl) ⟨rfl,rfl,rfl,trivial⟩ trivial ⟨rfl,trivial⟩ rfl ?_;rintro n i1 _ hj1;rw [Er] at hj1;refine Ao (L':=[(7,.i64 i1),(1,_),(2,_),(3,_)]) (ms':=[]) rfl rfl ?_;refine zq8 ?_;refine zcn hj1 (fun hc1 hj1=>?_) (fun hc1 hj1=>?_)
  ·refine zq4 ?_
   obtain ⟨x1,hx1,hj1⟩:=bS hj1;obtain ⟨x2,hx2,hj1⟩:=bS hj1;refine zdr 11 ?_;refine zq13 ?_;refine zcn hj1 (fun hc2 hj1=>?_) (fun hc2 hj1=>?_)
   ·refine zq5 ?_
    refine Ae ?_;obtain rfl:=Ac hj1
    replace hm1:=Bu hm1
    cases hm1;exact zr1
   ·refine zq3 ?_
    obtain ⟨hg3,hj1⟩:=Aa hj1;refine zq3 ?_;exact ⟨_,(),hj1,⟨rfl,trivial⟩,⟨rfl,rfl,rfl,trivial⟩,[],rfl⟩
  ·refine Ar ?_
   exact ⟨_,(),Ac hj1,trivial,trivial,[],rfl⟩
 ·rintro _ _ hst
  subst hst
  replace hm1:=CT hm1
  refine Al (L':=[]) (ms':=[]) rfl rfl ?_;refine zq4 ?_
  cases hm1;exact Ae zr1
def DS (t1:ATy) (l1:(List Int)) (a1:Int) (b1:Int):Nat->Int->Option (Out Int Unit)
 | 0,_=>none
 | n+1,i1 =>
  bif (decide (i1<(l1.length:Int))) then
   (idx l1 i1).bind fun x1 =>
   (idx t1.l x1).bind fun x2 =>
   bif ((decide (x2.kind=a1))||(decide (x2.kind=b1))) then
    some (Out.ret i1)
   else
    grd (InR (i1+1)) <|
    DS t1 l1 a1 b1 n (i1+1)
  else
   some (Out.go (()))
def ER (t1:ATy) (l1:(List Int)) (a1:Int) (b1:Int):Option Int:=
 ((DS t1 l1 a1 b1 FU 0:Option (Out Int Unit))).bind (fun oo=>oo.on (fun r1=>some r1) (fun _ =>
 some (-1)))
theorem Lv {t1:ATy} {l1:(List Int)} {a1:Int} {b1:Int} {r_1:Int} (hm:ER t1 l1 a1 b1=some r_1):Fn0 Tryz.prog 105 [ATy.d t1,.list 1 D.i64 l1,.i64 a1,.i64 b1] (.i64 r_1):=by
 unfold ER at hm;refine Ad func105 rfl ntmps105 rfl fun H0 fr w0=>?_;refine zq10 ?_;obtain ⟨o_1,hj1,hm1⟩:=bS hm;refine Ag [] [] (fun (st:Unit) (hid:Unit)=>match st,hid with | _,_=>[]) (fun F (st:Unit) (hid:Unit)=>match st,hid with | _,_=>[]) (fun st=>Out.go (st)=o_1) trivial trivial ?_ ?_
 ·refine Am ?_
  refine Ah [(1,_),(2,_),(3,_),(4,_)] [] (fun (st:Int) (hid:Unit)=>match st,hid with | i1,_=>[(9,.i64 i1)]) (fun F (st:Int) (hid:Unit)=>match st,hid with | i1,_=>[]) () hj1 (fun _=>rfl) ⟨rfl,rfl,rfl,rfl,trivial⟩ trivial ⟨rfl,trivial⟩ rfl ?_;rintro n i1 _ hj1;rw [DS] at hj1;refine Ao (L':=[(9,.i64 i1),(1,_),(2,_),(3,_),(4,_)]) (ms':=[]) rfl rfl ?_;refine zq8 ?_;refine zcn hj1 (fun hc1 hj1=>?_) (fun hc1 hj1=>?_)
  ·refine zq4 ?_
   obtain ⟨x1,hx1,hj1⟩:=bS hj1;obtain ⟨x2,hx2,hj1⟩:=bS hj1;refine zdr 10 ?_;refine zq18 ?_
   apply AX [(1,_),(2,_),(3,_),(4,_),(9,_)] 4 33 (t:=29) ⟨rfl,rfl,rfl,rfl,rfl,trivial⟩ rfl
   ·intro hg_1 hk1
    refine zq4 ?_;exact zgm hk1
   ·intro hg_1 hk1
    refine zq4 ?_;exact zgm hk1
   refine gNl ?_;refine zcn hj1 (fun hc2 hj1=>?_) (fun hc2 hj1=>?_)
   ·refine zq5 ?_
    refine Ae ?_;obtain rfl:=Ac hj1
    replace hm1:=Bu hm1
    cases hm1;exact zr1
   ·refine zq3 ?_
    obtain ⟨hg3,hj1⟩:=Aa hj1;refine zq3 ?_;exact ⟨_,(),hj1,⟨rfl,trivial⟩,⟨rfl,rfl,rfl,rfl,trivial⟩,[],rfl⟩
  ·refine Ar ?_
   exact ⟨_,(),Ac hj1,trivial,trivial,[],rfl⟩
 ·rintro _ _ hst
  subst hst
  replace hm1:=CT hm1
  refine Al (L':=[]) (ms':=[]) rfl rfl ?_;refine zq4 ?_
  cases hm1;exact Ae zr1
def Ds (l1:(List Int)) (i1:Int) (in1:(List Int)):Option (List Int):=
 (sli l1 0 i1).bind fun l2 =>
 grd ((0+l2.length)*8<=140737488355328) <|
 grd (InR (i1+1)) <|
 (sli l1 (i1+1) (l1.length:Int)).bind fun l3 =>
 grd ((([]++l2).length+l3.length)*8<=140737488355328) <|
 grd (((([]++l2)++l3).length+in1.length)*8<=140737488355328) <|
 (DN ((([]++l2)++l3)++in1)).bind fun x1 =>
 some x1
theorem F9 {l1:(List Int)} {i1:Int} {in1:(List Int)} {r_1:(List Int)} (hm:Ds l1 i1 in1=some r_1):Fn0 Tryz.prog 106 [.list 1 D.i64 l1,.i64 i1,.list 1 D.i64 in1] (.list 1 D.i64 r_1):=by
 unfold Ds at hm;refine Ad func106 rfl ntmps106 rfl fun H0 fr w0=>?_;refine zq3 ?_;refine Ap (nilE (i:=6) (sz:=1) (f:=D.i64) rfl).refines ?_;refine zq3 ?_;refine AG rfl rfl rfl (Au (xs:=[]) (f:=D.i64) (l:=[]) runUnderlying43 sizeOf3 zeroValue3 rfl rfl rfl (fun _=>⟨rfl,rfl,rfl⟩) rfl (by simp [maxLen])) ?_;rintro _ _ ⟨a_r1,rfl,rfl⟩;refine zq2 ?_;obtain ⟨l2,hx1,hm⟩:=bS hm;refine Ai rfl rfl rfl (BG runUnderlying43 sizeOf3 rfl rfl ⟨_,rfl⟩ hx1) ?_;obtain ⟨hg2,hm⟩:=Aa hm;refine zap 0 hg2 fun a_r1 cap_r1=>?_;refine Ak (ms':=[_]) rfl ?_;refine zq7 ?_;obtain ⟨hg3,hm⟩:=Aa hm;refine zq1 ?_;obtain ⟨l3,hx4,hm⟩:=bS hm;refine Ai rfl rfl rfl (BG runUnderlying43 sizeOf3 rfl ⟨_,rfl⟩ rfl hx4) ?_;obtain ⟨hg5,hm⟩:=Aa hm;refine zap 0 hg5 fun a_r1 cap_r1=>?_;refine Ak (ms':=[_]) rfl ?_;refine zq6 ?_;obtain ⟨hg6,hm⟩:=Aa hm;refine zap 0 hg6 fun a_r1 cap_r1=>?_;refine Ak (ms':=[_]) rfl ?_;obtain ⟨x1,hx7,hm⟩:=bS hm;refine Ai rfl rfl rfl (.view (peekE (i:=21) 0 rfl rfl rfl) (Bv call74 rfl (FX hx7))) ?_;refine zq2 ?_
 cases hm;exact Ae zr1
def Eg (n1:ANd) (s1:(List UInt8)):Nat->Int->Option (Out Int Unit)
 | 0,_=>none
 | n+1,i1 =>
  bif (decide (i1<(n1.l.length:Int))) then
   (idx n1.l i1).bind fun x1 =>
   bif (decide ((x1.name:List UInt8)=s1)) then
    (idx n1.l i1).bind fun x2 =>
    some (Out.ret x2.at_)
   else
    grd (InR (i1+1)) <|
    Eg n1 s1 n (i1+1)
  else
   some (Out.go (()))
def Gd (n1:ANd) (s1:(List UInt8)):Option Int:=
 ((Eg n1 s1 FU 0:Option (Out Int Unit))).bind (fun oo=>oo.on (fun r1=>some r1) (fun _ =>
 some (-1)))
theorem Mt {n1:ANd} {s1:(List UInt8)} {r_1:Int} (hm:Gd n1 s1=some r_1):Fn0 Tryz.prog 173 [ANd.d n1,.str s1] (.i64 r_1):=by
 unfold Gd at hm;refine Ad func173 rfl ntmps173 rfl fun H0 fr w0=>?_;refine zq10 ?_;obtain ⟨o_1,hj1,hm1⟩:=bS hm;refine Ag [] [] (fun (st:Unit) (hid:Unit)=>match st,hid with | _,_=>[]) (fun F (st:Unit) (hid:Unit)=>match st,hid with | _,_=>[]) (fun st=>Out.go (st)=o_1) trivial trivial ?_ ?_
 ·refine Am ?_
  refine Ah [(1,_),(2,_)] [] (fun (st:Int) (hid:Unit)=>match st,hid with | i1,_=>[(5,.i64 i1)]) (fun F (st:Int) (hid:Unit)=>match st,hid with | i1,_=>[]) () hj1 (fun _=>rfl) ⟨rfl,rfl,trivial⟩ trivial ⟨rfl,trivial⟩ rfl ?_;rintro n i1 _ hj1;rw [Eg] at hj1;refine Ao (L':=[(5,.i64 i1),(1,_),(2,_)]) (ms':=[]) rfl rfl ?_;refine zq9 ?_;refine zcn hj1 (fun hc1 hj1=>?_) (fun hc1 hj1=>?_)
  ·refine zq8 ?_
   obtain ⟨x1,hx1,hj1⟩:=bS hj1;refine Ai rfl rfl rfl (oIm runUnderlying47 sizeOf71 rfl rfl hx1) ?_;refine zq5 ?_;refine zcn hj1 (fun hc2 hj1=>?_) (fun hc2 hj1=>?_)
   ·refine zq5 ?_
    obtain ⟨x2,hx2,hj1⟩:=bS hj1;refine Ai rfl rfl rfl (oIm runUnderlying47 sizeOf71 rfl rfl hx2) ?_;refine zq4 ?_;refine Ae ?_;obtain rfl:=Ac hj1
    replace hm1:=Bu hm1
    cases hm1;exact zr1
   ·refine zq3 ?_
    obtain ⟨hg3,hj1⟩:=Aa hj1;refine zq3 ?_;exact ⟨_,(),hj1,⟨rfl,trivial⟩,⟨rfl,rfl,trivial⟩,[],rfl⟩
  ·refine Ar ?_
   exact ⟨_,(),Ac hj1,trivial,trivial,[],rfl⟩
 ·rintro _ _ hst
  subst hst
  replace hm1:=CT hm1
  refine Al (L':=[]) (ms':=[]) rfl rfl ?_;refine zq4 ?_
  cases hm1;exact Ae zr1
def Di (t1:ATy) (l1:(List Int)) (s1:(List UInt8)):Nat->(Int×(List Int))->Option (List Int)
 | 0,_=>none
 | n+1,(i1,l3) =>
  bif (decide (i1<(l1.length:Int))) then
   (idx l1 i1).bind fun x1 =>
   (idx t1.l x1).bind fun x2 =>
   (Gd x2 s1).bind fun x3 =>
   bif (decide (0<=x3)) then
    grd ((l3.length+([x3]:List _).length)*8<=140737488355328) <|
    grd (InR (i1+1)) <|
    Di t1 l1 s1 n ((i1+1),(l3++[x3]))
   else
    grd (InR (i1+1)) <|
    Di t1 l1 s1 n ((i1+1),l3)
  else
   some l3
def EP (t1:ATy) (l1:(List Int)) (s1:(List UInt8)):Option (List Int):=
 (Di t1 l1 s1 FU (0,[]):Option (List Int)).bind fun l2 =>
 (DN l2).bind fun x4 =>
 some x4
theorem IS {t1:ATy} {l1:(List Int)} {s1:(List UInt8)} {r_1:(List Int)} (hm:EP t1 l1 s1=some r_1):Fn0 Tryz.prog 149 [ATy.d t1,.list 1 D.i64 l1,.str s1] (.list 1 D.i64 r_1):=by
 unfold EP at hm;refine Ad func149 rfl ntmps149 rfl fun H0 fr w0=>?_;refine zq4 ?_;refine Ap (nilE (i:=6) (sz:=1) (f:=D.i64) rfl).refines ?_;refine zq3 ?_;refine AG rfl rfl rfl (Au (xs:=[]) (f:=D.i64) (l:=[]) runUnderlying43 sizeOf3 zeroValue3 rfl rfl rfl (fun _=>⟨rfl,rfl,rfl⟩) rfl (by simp [maxLen])) ?_;rintro _ _ ⟨a_r1,rfl,rfl⟩;refine zq7 ?_;obtain ⟨o_1,hj1,hm1⟩:=bS hm;refine Ag [] [] (fun (st:(List Int)) (hid:(Option Addr×Nat))=>match st,hid with | l2,(a_r1,cap_r1)=>[(7,.v (.slice a_r1 l2.length cap_r1))]) (fun F (st:(List Int)) (hid:(Option Addr×Nat))=>match st,hid with | l2,(a_r1,cap_r1)=>[row a_r1 cap_r1 3 1 D.i64 l2]) (fun st=>st=o_1) trivial trivial ?_ ?_
 ·refine Am ?_
  refine Ah [(1,_),(2,_),(3,_)] [] (fun (st:(Int×(List Int))) (hid:(Option Addr×Nat))=>match st,hid with | (i1,l3),(a_r1,cap_r1)=>[(7,.v (.slice a_r1 l3.length cap_r1)),(8,.i64 i1)]) (fun F (st:(Int×(List Int))) (hid:(Option Addr×Nat))=>match st,hid with | (i1,l3),(a_r1,cap_r1)=>[row a_r1 cap_r1 3 1 D.i64 l3]) (_,_) hj1 (fun _=>rfl) ⟨rfl,rfl,rfl,trivial⟩ trivial ⟨rfl,rfl,trivial⟩ rfl ?_;rintro n ⟨i1,l3⟩ ⟨a_r1,cap_r1⟩ hj1;rw [Di] at hj1;refine Ao (L':=[(7,.v (.slice a_r1 l3.length cap_r1)),(8,.i64 i1),(1,_),(2,_),(3,_)]) (ms':=[row a_r1 cap_r1 3 1 D.i64 l3]) rfl rfl ?_;refine zq8 ?_;refine zcn hj1 (fun hc1 hj1=>?_) (fun hc1 hj1=>?_)
  ·refine zq4 ?_
   obtain ⟨x1,hx1,hj1⟩:=bS hj1;obtain ⟨x2,hx2,hj1⟩:=bS hj1;obtain ⟨x3,hx3,hj1⟩:=bS hj1;refine zdr 11 ?_;refine zq9 ?_;refine zcd (Mt hx3) ?_;refine zq8 ?_;refine zcn hj1 (fun hc2 hj1=>?_) (fun hc2 hj1=>?_)
   ·refine zq3 ?_
    refine Ai rfl rfl rfl (zs1 D.i64) ?_;obtain ⟨hg4,hj1⟩:=Aa hj1;refine zap 0 hg4 fun a_r1 cap_r1=>?_;refine Ak (ms':=[_]) rfl ?_;refine zq4 ?_;obtain ⟨hg5,hj1⟩:=Aa hj1;refine zq3 ?_;exact ⟨_,(_,_),hj1,⟨rfl,rfl,trivial⟩,⟨rfl,rfl,rfl,trivial⟩,[],rfl⟩
   ·refine zq3 ?_
    obtain ⟨hg6,hj1⟩:=Aa hj1;refine zq3 ?_;exact ⟨_,(_,_),hj1,⟨rfl,rfl,trivial⟩,⟨rfl,rfl,rfl,trivial⟩,[],rfl⟩
  ·refine Ar ?_
   exact ⟨_,(_,_),Ac hj1,⟨rfl,trivial⟩,trivial,[],rfl⟩
 ·rintro l2 ⟨a_r1,cap_r1⟩ hst
  subst hst;refine Al (L':=[(7,.v (.slice a_r1 l2.length cap_r1))]) (ms':=[row a_r1 cap_r1 3 1 D.i64 l2]) rfl rfl ?_;refine zq3 ?_;obtain ⟨x4,hx7,hm1⟩:=bS hm1;refine Ai rfl rfl rfl (.view (peekE (i:=33) 0 rfl rfl rfl) (Bv call74 rfl (FX hx7))) ?_;refine zq2 ?_
  cases hm1;exact Ae zr1
def Ft (s1:(List UInt8)) (l1:(List (List UInt8))):Nat->Int->Option (Out Bool Unit)
 | 0,_=>none
 | n+1,i1 =>
  bif (decide (i1<(l1.length:Int))) then
   (idx l1 i1).bind fun x1 =>
   bif (decide ((x1:List UInt8)=s1)) then
    some (Out.ret true)
   else
    grd (InR (i1+1)) <|
    Ft s1 l1 n (i1+1)
  else
   some (Out.go (()))
def Iz (s1:(List UInt8)) (l1:(List (List UInt8))):Option Bool:=
 ((Ft s1 l1 FU 0:Option (Out Bool Unit))).bind (fun oo=>oo.on (fun r1=>some r1) (fun _ =>
 some false))
theorem Qm {s1:(List UInt8)} {l1:(List (List UInt8))} {r_1:Bool} (hm:Iz s1 l1=some r_1):Fn0 Tryz.prog 170 [.str s1,.list 1 D.str l1] (.bool r_1):=by
 unfold Iz at hm;refine Ad func170 rfl ntmps170 rfl fun H0 fr w0=>?_;refine zq9 ?_;obtain ⟨o_1,hj1,hm1⟩:=bS hm;refine Ag [] [] (fun (st:Unit) (hid:Unit)=>match st,hid with | _,_=>[]) (fun F (st:Unit) (hid:Unit)=>match st,hid with | _,_=>[]) (fun st=>Out.go (st)=o_1) trivial trivial ?_ ?_
 ·refine Am ?_
  refine Ah [(0,_),(1,_)] [] (fun (st:Int) (hid:Unit)=>match st,hid with | i1,_=>[(5,.i64 i1)]) (fun F (st:Int) (hid:Unit)=>match st,hid with | i1,_=>[]) () hj1 (fun _=>rfl) ⟨rfl,rfl,trivial⟩ trivial ⟨rfl,trivial⟩ rfl ?_;rintro n i1 _ hj1;rw [Ft] at hj1;refine Ao (L':=[(5,.i64 i1),(0,_),(1,_)]) (ms':=[]) rfl rfl ?_;refine zq8 ?_;refine zcn hj1 (fun hc1 hj1=>?_) (fun hc1 hj1=>?_)
  ·refine zq7 ?_
   obtain ⟨x1,hx1,hj1⟩:=bS hj1;refine zq5 ?_;refine zcn hj1 (fun hc2 hj1=>?_) (fun hc2 hj1=>?_)
   ·refine zq4 ?_
    refine Ae ?_;obtain rfl:=Ac hj1
    replace hm1:=Bu hm1
    cases hm1;exact zr1
   ·refine zq3 ?_
    obtain ⟨hg2,hj1⟩:=Aa hj1;refine zq3 ?_;exact ⟨_,(),hj1,⟨rfl,trivial⟩,⟨rfl,rfl,trivial⟩,[],rfl⟩
  ·refine Ar ?_
   exact ⟨_,(),Ac hj1,trivial,trivial,[],rfl⟩
 ·rintro _ _ hst
  subst hst
  replace hm1:=CT hm1
  refine Al (L':=[]) (ms':=[]) rfl rfl ?_;refine zq4 ?_
  cases hm1;exact Ae zr1
def Cu (t1:ATy) (l1:(List Int)) (s1:(List UInt8)):Nat->(Int×Int)->Option Int
 | 0,_=>none
 | n+1,(n2,i1) =>
  bif (decide (i1<(l1.length:Int))) then
   (idx l1 i1).bind fun x1 =>
   (idx t1.l x1).bind fun x2 =>
   (Gd x2 s1).bind fun x3 =>
   bif (decide (0<=x3)) then
    grd (InR (n2+1)) <|
    grd (InR (i1+1)) <|
    Cu t1 l1 s1 n ((n2+1),(i1+1))
   else
    grd (InR (i1+1)) <|
    Cu t1 l1 s1 n (n2,(i1+1))
  else
   some n2
def Fm (t1:ATy) (l1:(List Int)) (s1:(List UInt8)):Option Int:=
 (Cu t1 l1 s1 FU (0,0):Option Int).bind fun n1 =>
 some n1
theorem M4 {t1:ATy} {l1:(List Int)} {s1:(List UInt8)} {r_1:Int} (hm:Fm t1 l1 s1=some r_1):Fn0 Tryz.prog 172 [ATy.d t1,.list 1 D.i64 l1,.str s1] (.i64 r_1):=by
 unfold Fm at hm;refine Ad func172 rfl ntmps172 rfl fun H0 fr w0=>?_;refine zq14 ?_;obtain ⟨o_1,hj1,hm1⟩:=bS hm;refine Ag [] [] (fun (st:Int) (hid:Unit)=>match st,hid with | n1,_=>[(7,.i64 n1)]) (fun F (st:Int) (hid:Unit)=>match st,hid with | n1,_=>[]) (fun st=>st=o_1) trivial trivial ?_ ?_
 ·refine Am ?_
  refine Ah [(1,_),(2,_),(3,_)] [] (fun (st:(Int×Int)) (hid:Unit)=>match st,hid with | (n2,i1),_=>[(7,.i64 n2),(8,.i64 i1)]) (fun F (st:(Int×Int)) (hid:Unit)=>match st,hid with | (n2,i1),_=>[]) () hj1 (fun _=>rfl) ⟨rfl,rfl,rfl,trivial⟩ trivial ⟨rfl,rfl,trivial⟩ rfl ?_;rintro n ⟨n2,i1⟩ _ hj1;rw [Cu] at hj1;refine Ao (L':=[(7,.i64 n2),(8,.i64 i1),(1,_),(2,_),(3,_)]) (ms':=[]) rfl rfl ?_;refine zq8 ?_;refine zcn hj1 (fun hc1 hj1=>?_) (fun hc1 hj1=>?_)
  ·refine zq4 ?_
   obtain ⟨x1,hx1,hj1⟩:=bS hj1;obtain ⟨x2,hx2,hj1⟩:=bS hj1;obtain ⟨x3,hx3,hj1⟩:=bS hj1;refine zdr 11 ?_;refine zq9 ?_;refine zcd (Mt hx3) ?_;refine zq3 ?_;refine zcn hj1 (fun hc2 hj1=>?_) (fun hc2 hj1=>?_)
   ·refine zq2 ?_
    obtain ⟨hg4,hj1⟩:=Aa hj1;refine zq5 ?_;obtain ⟨hg5,hj1⟩:=Aa hj1;refine zq3 ?_;exact ⟨_,(),hj1,⟨rfl,rfl,trivial⟩,⟨rfl,rfl,rfl,trivial⟩,[],rfl⟩
   ·refine zq3 ?_
    obtain ⟨hg6,hj1⟩:=Aa hj1;refine zq3 ?_;exact ⟨_,(),hj1,⟨rfl,rfl,trivial⟩,⟨rfl,rfl,rfl,trivial⟩,[],rfl⟩
  ·refine Ar ?_
   exact ⟨_,(),Ac hj1,⟨rfl,trivial⟩,trivial,[],rfl⟩
 ·rintro n1 _ hst
  subst hst;refine Al (L':=[(7,.i64 n1)]) (ms':=[]) rfl rfl ?_;refine zq5 ?_
  cases hm1;exact Ae zr1
def Dg (t1:ATy) (l1:(List Int)):Nat->(Int×(List (List UInt8)))->Option (List (List UInt8))
 | 0,_=>none
 | n+1,(i1,l3) =>
  (idx l1 0).bind fun x1 =>
  (idx t1.l x1).bind fun x2 =>
  bif (decide (i1<(x2.l.length:Int))) then
   (idx l1 0).bind fun x3 =>
   (idx t1.l x3).bind fun x4 =>
   (idx x4.l i1).bind fun x5 =>
   (EP t1 l1 x5.name).bind fun x6 =>
   (bif (decide (0<(x6.length:Int))) then ((Fm t1 l1 x5.name).bind fun x7 =>
   some (decide (x7=(l1.length:Int)))) else (some false)).bind fun p1 =>
   (bif p1 then ((Iz x5.name l3).bind fun x8 =>
   some (!x8)) else (some false)).bind fun p2 =>
   bif p2 then
    grd ((l3.length+([x5.name]:List _).length)*16<=140737488355328) <|
    grd (InR (i1+1)) <|
    Dg t1 l1 n ((i1+1),(l3++[x5.name]))
   else
    grd (InR (i1+1)) <|
    Dg t1 l1 n ((i1+1),l3)
  else
   some l3
def D9 (t1:ATy) (l1:(List Int)):Option (List (List UInt8)):=
 (Dg t1 l1 FU (0,[]):Option (List (List UInt8))).bind fun l2 =>
 some l2
theorem Le {t1:ATy} {l1:(List Int)} {r_1:(List (List UInt8))} (hm:D9 t1 l1=some r_1):Fn0 Tryz.prog 148 [ATy.d t1,.list 1 D.i64 l1] (.list 1 D.str r_1):=by
 unfold D9 at hm;refine Ad func148 rfl ntmps148 rfl fun H0 fr w0=>?_;refine zq4 ?_;refine Ap (nilE (i:=4) (sz:=1) (f:=D.str) rfl).refines ?_;refine zq3 ?_;refine AG rfl rfl rfl (Au (xs:=[]) (f:=D.str) (l:=[]) runUnderlying174 sizeOf9 zeroValue9 rfl rfl rfl (fun _=>⟨rfl,rfl,rfl⟩) rfl (by simp [maxLen])) ?_;rintro _ _ ⟨a_r1,rfl,rfl⟩;refine zq7 ?_;obtain ⟨o_1,hj1,hm1⟩:=bS hm;refine Ag [] [] (fun (st:(List (List UInt8))) (hid:(Option Addr×Nat))=>match st,hid with | l2,(a_r1,cap_r1)=>[(5,.v (.slice a_r1 l2.length cap_r1))]) (fun F (st:(List (List UInt8))) (hid:(Option Addr×Nat))=>match st,hid with | l2,(a_r1,cap_r1)=>[row a_r1 cap_r1 9 1 D.str l2]) (fun st=>st=o_1) trivial trivial ?_ ?_
 ·refine Am ?_
  refine Ah [(1,_),(2,_)] [] (fun (st:(Int×(List (List UInt8)))) (hid:(Option Addr×Nat))=>match st,hid with | (i1,l3),(a_r1,cap_r1)=>[(5,.v (.slice a_r1 l3.length cap_r1)),(6,.i64 i1)]) (fun F (st:(Int×(List (List UInt8)))) (hid:(Option Addr×Nat))=>match st,hid with | (i1,l3),(a_r1,cap_r1)=>[row a_r1 cap_r1 9 1 D.str l3]) (_,_) hj1 (fun _=>rfl) ⟨rfl,rfl,trivial⟩ trivial ⟨rfl,rfl,trivial⟩ rfl ?_;rintro n ⟨i1,l3⟩ ⟨a_r1,cap_r1⟩ hj1;rw [Dg] at hj1;refine Ao (L':=[(5,.v (.slice a_r1 l3.length cap_r1)),(6,.i64 i1),(1,_),(2,_)]) (ms':=[row a_r1 cap_r1 9 1 D.str l3]) rfl rfl ?_;refine zq2 ?_;obtain ⟨x1,hx1,hj1⟩:=bS hj1;obtain ⟨x2,hx2,hj1⟩:=bS hj1;refine zdr 11 ?_;refine zq4 ?_;refine AC rfl rfl rfl (oIm runUnderlying43 sizeOf3 rfl rfl hx1) ?_;refine zq1 ?_;refine AC rfl rfl rfl (oIm runUnderlying29 sizeOf49 rfl rfl hx2) ?_;refine zq6 ?_;refine zcn hj1 (fun hc1 hj1=>?_) (fun hc1 hj1=>?_)
  ·refine zq4 ?_
   obtain ⟨x3,hx3,hj1⟩:=bS hj1;obtain ⟨x4,hx4,hj1⟩:=bS hj1;obtain ⟨x5,hx5,hj1⟩:=bS hj1;refine zdr 13 ?_;refine zq3 ?_;refine AC rfl rfl rfl (oIm runUnderlying43 sizeOf3 rfl rfl hx3) ?_;refine zq1 ?_;refine AC rfl rfl rfl (oIm runUnderlying29 sizeOf49 rfl rfl hx4) ?_;refine zq3 ?_;refine AC rfl rfl rfl (oIm runUnderlying47 sizeOf71 rfl rfl hx5) ?_;refine zq10 ?_;obtain ⟨x6,hx6,hj1⟩:=bS hj1;refine zc0 (IS hx6) ?_;refine zq3 ?_;obtain ⟨p1,hp_1,hj1⟩:=bS hj1;refine AF [(1,_),(2,_),(5,_),(6,_),(7,_)] 8 48 p1 (t:=40) ⟨rfl,rfl,rfl,rfl,rfl,trivial⟩ rfl (fun hg_1 hk1=>?_) (fun hg_1 hk1=>?_) ?_
   ·replace hp_1:=AD hg_1 hp_1
    refine zq3 ?_;obtain ⟨x7,hx7,hp_1⟩:=bS hp_1;refine zcw (M4 hx7) ?_;refine zq4 ?_;exact zgb hk1 hp_1
   ·replace hp_1:=AE hg_1 hp_1
    refine zq8 ?_;exact zgb hk1 hp_1
   refine zq1 ?_;obtain ⟨p2,hp_2,hj1⟩:=bS hj1;refine AF [(1,_),(2,_),(5,_),(6,_),(7,_)] 5 54 p2 (t:=49) ⟨rfl,rfl,rfl,rfl,rfl,trivial⟩ rfl (fun hg_2 hk2=>?_) (fun hg_2 hk2=>?_) ?_
   ·replace hp_2:=AD hg_2 hp_2
    refine zq2 ?_;obtain ⟨x8,hx8,hp_2⟩:=bS hp_2;refine gWp rfl rfl rfl hg_2 rfl rfl (.view (peekE (i:=51) 0 rfl rfl rfl) (Bv call170 rfl (Qm hx8))) ?_;refine zq2 ?_;exact zgb hk2 hp_2
   ·replace hp_2:=AE hg_2 hp_2
    refine zq5 ?_;exact zgb hk2 hp_2
   refine gNl ?_;refine zcn hj1 (fun hc2 hj1=>?_) (fun hc2 hj1=>?_)
   ·refine zq3 ?_
    refine Ai rfl rfl rfl (zs1 D.str) ?_;obtain ⟨hg9,hj1⟩:=Aa hj1;refine zap 0 hg9 fun a_r1 cap_r1=>?_;refine Ak (ms':=[_]) rfl ?_;refine zq4 ?_;obtain ⟨hg10,hj1⟩:=Aa hj1;refine zq3 ?_;exact ⟨_,(_,_),hj1,⟨rfl,rfl,trivial⟩,⟨rfl,rfl,trivial⟩,[],rfl⟩
   ·refine zq3 ?_
    obtain ⟨hg11,hj1⟩:=Aa hj1;refine zq3 ?_;exact ⟨_,(_,_),hj1,⟨rfl,rfl,trivial⟩,⟨rfl,rfl,trivial⟩,[],rfl⟩
  ·refine Ar ?_
   exact ⟨_,(_,_),Ac hj1,⟨rfl,trivial⟩,trivial,[],rfl⟩
 ·rintro l2 ⟨a_r1,cap_r1⟩ hst
  subst hst;refine Al (L':=[(5,.v (.slice a_r1 l2.length cap_r1))]) (ms':=[row a_r1 cap_r1 9 1 D.str l2]) rfl rfl ?_;refine zq5 ?_;refine BM (peekE (i:=4) 0 rfl rfl rfl).refines ?_
  cases hm1;exact Ae zr1
def Dn (t1:ATy) (l1:(List Int)):Nat->(Int×(List Int)×(List Int)×(List Int)×(List Int))->Option ((List Int)×(List Int)×(List Int)×(List Int))
 | 0,_=>none
 | n+1,(i1,l6,l7,l8,l9) =>
  bif (decide (i1<(l1.length:Int))) then
   (idx l1 i1).bind fun x1 =>
   (idx t1.l x1).bind fun x2 =>
   grd ((l8.length+([x2.a]:List _).length)*8<=140737488355328) <|
   (idx l1 i1).bind fun x3 =>
   (idx t1.l x3).bind fun x4 =>
   grd ((l7.length+([x4.b]:List _).length)*8<=140737488355328) <|
   grd (InR (i1+1)) <|
   Dn t1 l1 n ((i1+1),l6,(l7++[x4.b]),(l8++[x2.a]),l9)
  else
   some (l6,l7,l8,l9)
def Db (t1:ATy) (r1:(List Int)):Nat->(Int×(List Int)×(List Int)×(List Int)×(List Int))->Option ((List Int)×(List Int)×(List Int)×(List Int))
 | 0,_=>none
 | n+1,(i2,l14,l15,l16,l17) =>
  bif (decide (i2<(r1.length:Int))) then
   (idx r1 i2).bind fun x5 =>
   (idx t1.l x5).bind fun x6 =>
   grd ((l17.length+([x6.a]:List _).length)*8<=140737488355328) <|
   (idx r1 i2).bind fun x7 =>
   (idx t1.l x7).bind fun x8 =>
   grd ((l14.length+([x8.b]:List _).length)*8<=140737488355328) <|
   grd (InR (i2+1)) <|
   Db t1 r1 n ((i2+1),(l14++[x8.b]),l15,l16,(l17++[x6.a]))
  else
   some (l14,l15,l16,l17)
def Dc (t1:ATy) (l1:(List Int)) (r1:(List Int)) (all2:(List (List UInt8))):Nat->(Int×(List RSeq))->Option (Out ((List RSeq)×Bool) (List RSeq))
 | 0,_=>none
 | n+1,(i3,l19) =>
  bif (decide (i3<(all2.length:Int))) then
   (idx all2 i3).bind fun x15 =>
   (EP t1 l1 x15).bind fun x16 =>
   (idx all2 i3).bind fun x17 =>
   (EP t1 r1 x17).bind fun x18 =>
   bif ((decide ((x16.length:Int)=0))||(decide ((x18.length:Int)=0))) then
    some (Out.ret ([],false))
   else
    grd ((l19.length+([(⟨x16,x18⟩:RSeq)]:List _).length)*48<=140737488355328) <|
    grd (InR (i3+1)) <|
    Dc t1 l1 r1 all2 n ((i3+1),(l19++[(⟨x16,x18⟩:RSeq)]))
  else
   some (Out.go (l19))
def Gp (t1:ATy) (kind1:Int) (l1:(List Int)) (r1:(List Int)):Option ((List RSeq)×Bool):=
 bif ((!decide (kind1=8))&&(decide ((r1.length:Int)=0))) then
  some ([],false)
 else
  bif (decide (kind1=6)) then
   (Dn t1 l1 FU (0,([]:List Int),([]:List Int),([]:List Int),([]:List Int)):Option ((List Int)×(List Int)×(List Int)×(List Int))).bind fun (l2,l3,l4,l5) =>
   (Db t1 r1 FU (0,l2,l3,l4,l5):Option ((List Int)×(List Int)×(List Int)×(List Int))).bind fun (l10,l11,l12,l13) =>
   (DN l13).bind fun x9 =>
   (DN l12).bind fun x10 =>
   (DN l11).bind fun x11 =>
   (DN l10).bind fun x12 =>
   some ([(⟨x9,x10⟩:RSeq),(⟨x11,x12⟩:RSeq)],true)
  else
   (bif (decide (kind1=7)) then
    (D9 t1 r1).bind fun x13 =>
    some x13
   else
    some []:Option (List (List UInt8))).bind fun all1 =>
   (bif (decide (kind1=8)) then
    (D9 t1 l1).bind fun x14 =>
    some x14
   else
    some all1:Option (List (List UInt8))).bind fun all2 =>
   ((Dc t1 l1 r1 all2 FU (0,[]):Option (Out ((List RSeq)×Bool) (List RSeq)))).bind (fun oo=>oo.on (fun r2=>some r2) (fun l18 =>
   some (l18,true)))
theorem Qa {t1:ATy} {kind1:Int} {l1:(List Int)} {r1:(List Int)} {r_1:(List RSeq)} {r_2:Bool} (hm:Gp t1 kind1 l1 r1=some (r_1,r_2)):Fn0 Tryz.prog 107 [ATy.d t1,.i64 kind1,.list 1 D.i64 l1,.list 1 D.i64 r1] (.tup [.list 2 RSeq.d r_1,.bool r_2]):=by
 unfold Gp at hm;refine Ad func107 rfl ntmps107 rfl fun H0 fr w0=>?_;refine zq4 ?_;refine Ap (nilE (i:=8) (sz:=2) (f:=RSeq.d) rfl).refines ?_;refine zq8 ?_
 apply Bm [(1,_),(2,_),(3,_),(4,_)] 4 25 (t:=21) ⟨rfl,rfl,rfl,rfl,trivial⟩ rfl
 ·intro hg_1 hk1
  refine zq4 ?_;exact zgm hk1
 ·intro hg_1 hk1
  refine zq4 ?_;exact zgm hk1
 refine gNl ?_;refine zcn hm (fun hc1 hm=>?_) (fun hc1 hm=>?_)
 ·refine zq3 ?_
  refine Ap (nilE (i:=8) (sz:=2) (f:=RSeq.d) rfl).refines ?_;refine zq2 ?_
  cases hm;exact Ae zr2
 ·refine zq3 ?_
  refine AG rfl rfl rfl (Au (xs:=[]) (f:=RSeq.d) (l:=[]) runUnderlying96 sizeOf95 zeroValue95 rfl rfl rfl (fun _=>⟨rfl,rfl,rfl⟩) rfl (by simp [maxLen])) ?_;rintro _ _ ⟨a_r1,rfl,rfl⟩;refine zq8 ?_;refine zcn hm (fun hc2 hm=>?_) (fun hc2 hm=>?_)
  ·refine zq2 ?_
   refine Ai rfl rfl rfl zb95a ?_;refine Ai rfl rfl rfl zb95a ?_;refine Ts fun b1=>?_;refine Ts fun b2=>?_;refine zst 1 ?_;refine Ap (Az (T:=3) (sz:=1) (f:=D.i64)) ?_;refine Ap (Az (T:=3) (sz:=1) (f:=D.i64)) ?_;refine Ak (ms':=[_,_,box b2 95 [_,_],box b1 95 [_,_],_]) rfl ?_;refine zst 2 ?_;refine Ap (Az (T:=3) (sz:=1) (f:=D.i64)) ?_;refine Ap (Az (T:=3) (sz:=1) (f:=D.i64)) ?_;refine Ak (ms':=[_,_,_,_,box b2 95 [_,_],box b1 95 [_,_],_]) rfl ?_;refine zq6 ?_;obtain ⟨o_1,hj1,hm1⟩:=bS hm;refine Ag [(3,_),(4,_),(11,_),(12,_)] [(6,_)] (fun (st:((List Int)×(List Int)×(List Int)×(List Int))) (hid:(Option Addr×Nat)×(Option Addr×Nat)×(Option Addr×Nat)×(Option Addr×Nat))=>match st,hid with | (l2,l3,l4,l5),((a_r5,cap_r5),(a_r4,cap_r4),(a_r3,cap_r3),(a_r2,cap_r2))=>[]) (fun F (st:((List Int)×(List Int)×(List Int)×(List Int))) (hid:(Option Addr×Nat)×(Option Addr×Nat)×(Option Addr×Nat)×(Option Addr×Nat))=>match st,hid with | (l2,l3,l4,l5),((a_r5,cap_r5),(a_r4,cap_r4),(a_r3,cap_r3),(a_r2,cap_r2))=>[row a_r5 cap_r5 3 1 D.i64 l2,row a_r4 cap_r4 3 1 D.i64 l3,row a_r3 cap_r3 3 1 D.i64 l4,row a_r2 cap_r2 3 1 D.i64 l5,box b2 95 [.v (.slice a_r4 l3.length cap_r4),.v (.slice a_r5 l2.length cap_r5)],box b1 95 [.v (.slice a_r2 l5.length cap_r2),.v (.slice a_r3 l4.length cap_r3)],(nthF F 0)]) (fun st=>st=o_1) ⟨rfl,rfl,rfl,rfl,trivial⟩ ⟨rfl,trivial⟩ ?_ ?_
   ·refine Am ?_
    refine Ah [(2,_),(3,_),(4,_),(11,_),(12,_)] [(6,_)] (fun (st:(Int×(List Int)×(List Int)×(List Int)×(List Int))) (hid:(Option Addr×Nat)×(Option Addr×Nat)×(Option Addr×Nat)×(Option Addr×Nat))=>match st,hid with | (i1,l6,l7,l8,l9),((a_r5,cap_r5),(a_r4,cap_r4),(a_r3,cap_r3),(a_r2,cap_r2))=>[(13,.i64 i1)]) (fun F (st:(Int×(List Int)×(List Int)×(List Int)×(List Int))) (hid:(Option Addr×Nat)×(Option Addr×Nat)×(Option Addr×Nat)×(Option Addr×Nat))=>match st,hid with | (i1,l6,l7,l8,l9),((a_r5,cap_r5),(a_r4,cap_r4),(a_r3,cap_r3),(a_r2,cap_r2))=>[row a_r5 cap_r5 3 1 D.i64 l6,row a_r4 cap_r4 3 1 D.i64 l7,row a_r3 cap_r3 3 1 D.i64 l8,row a_r2 cap_r2 3 1 D.i64 l9,box b2 95 [.v (.slice a_r4 l7.length cap_r4),.v (.slice a_r5 l6.length cap_r5)],box b1 95 [.v (.slice a_r2 l9.length cap_r2),.v (.slice a_r3 l8.length cap_r3)],(nthF F 0)]) ((_,_),(_,_),(_,_),(_,_)) hj1 (fun _=>rfl) ⟨rfl,rfl,rfl,rfl,rfl,trivial⟩ ⟨rfl,trivial⟩ ⟨rfl,trivial⟩ rfl ?_;rintro n ⟨i1,l6,l7,l8,l9⟩ ⟨⟨a_r5,cap_r5⟩,⟨a_r4,cap_r4⟩,⟨a_r3,cap_r3⟩,⟨a_r2,cap_r2⟩⟩ hj1;rw [Dn] at hj1;refine Ao (L':=[(13,.i64 i1),(2,_),(3,_),(4,_),(11,_),(12,_)]) (ms':=[row a_r5 cap_r5 3 1 D.i64 l6,row a_r4 cap_r4 3 1 D.i64 l7,row a_r3 cap_r3 3 1 D.i64 l8,row a_r2 cap_r2 3 1 D.i64 l9,box b2 95 [.v (.slice a_r4 l7.length cap_r4),.v (.slice a_r5 l6.length cap_r5)],box b1 95 [.v (.slice a_r2 l9.length cap_r2),.v (.slice a_r3 l8.length cap_r3)],_]) rfl rfl ?_;refine zq8 ?_;refine zcn hj1 (fun hc3 hj1=>?_) (fun hc3 hj1=>?_)
    ·refine zq3 ?_
     obtain ⟨x1,hx1,hj1⟩:=bS hj1;obtain ⟨x2,hx2,hj1⟩:=bS hj1;obtain ⟨hg3,hj1⟩:=Aa hj1;obtain ⟨x3,hx4,hj1⟩:=bS hj1;obtain ⟨x4,hx5,hj1⟩:=bS hj1;obtain ⟨hg6,hj1⟩:=Aa hj1;refine IE 3 [12,25,27,29] [13,14,15,16,17,18,19,20,21,22,23,24,26,28] [14] (by decide +kernel) (by decide +kernel) A0 (by decide +kernel) (by decide +kernel) rfl ?_;refine zq6 ?_;refine FH rfl rfl rfl rfl rfl rfl (oIm runUnderlying43 sizeOf3 rfl rfl hx1) ?_;refine zq1 ?_;refine FH rfl rfl rfl rfl rfl rfl (oIm runUnderlying29 sizeOf49 rfl rfl hx2) ?_;refine zq2 ?_;refine FH rfl rfl rfl rfl rfl rfl (zs1 D.i64) ?_;refine Fo rfl ?_;refine zq1 ?_;refine Mu rfl rfl rfl rfl rfl (oLb 4 isAgg43 rfl rfl rfl rfl) ?_;refine zq4 ?_;refine FH rfl rfl rfl rfl rfl rfl (oIm runUnderlying43 sizeOf3 rfl rfl hx4) ?_;refine zq1 ?_;refine FH rfl rfl rfl rfl rfl rfl (oIm runUnderlying29 sizeOf49 rfl rfl hx5) ?_;refine zq2 ?_;refine FH rfl rfl rfl rfl rfl rfl (zs1 D.i64) ?_;refine Fo rfl ?_;refine zq1 ?_;refine Fo rfl ?_;refine zq1 ?_;refine Fo rfl ?_;refine KV ?_;refine E2 rfl rfl rfl rfl (C0 (a:=_) 2 underlying43 type3 rfl rfl rfl rfl rfl rfl rfl (fun _=>rfl) (fun _=>rfl) hg3 (BX hg3 rfl)) ?_;rintro _ _ ⟨a_r3,cap_r3,rfl,rfl⟩;refine ⟨fun _=>⟨trivial,oLb 4 isAgg43 rfl rfl rfl rfl⟩,?_⟩;refine E2 rfl rfl rfl rfl (C0 (a:=_) 1 underlying43 type3 rfl rfl rfl rfl rfl rfl rfl (fun _=>rfl) (fun _=>rfl) hg6 (BX hg6 rfl)) ?_;rintro _ _ ⟨a_r4,cap_r4,rfl,rfl⟩;refine ⟨fun hc=>absurd hc (by decide),?_⟩;refine MX rfl rfl rfl (oSb 5 sizeOf43 rfl rfl rfl rfl rfl rfl rfl rfl (nB rfl)) ?_;rintro _ _ rfl;refine ⟨fun hc=>absurd hc (by decide),?_⟩;refine MX rfl rfl rfl (oSb 4 sizeOf43 rfl rfl rfl rfl rfl rfl rfl rfl (nB rfl)) ?_;rintro _ _ rfl;refine ⟨fun hc=>absurd hc (by decide),?_⟩;refine Jd ?_;refine zq2 ?_;obtain ⟨hg7,hj1⟩:=Aa hj1;refine zq3 ?_;exact ⟨_,((_,_),(_,_),(_,_),(_,_)),hj1,⟨rfl,trivial⟩,⟨rfl,rfl,rfl,rfl,rfl,trivial⟩,[],rfl⟩
    ·refine Ar ?_
     exact ⟨_,((_,_),(_,_),(_,_),(_,_)),Ac hj1,trivial,⟨rfl,rfl,rfl,rfl,trivial⟩,[],rfl⟩
   ·rintro ⟨l2,l3,l4,l5⟩ ⟨⟨a_r5,cap_r5⟩,⟨a_r4,cap_r4⟩,⟨a_r3,cap_r3⟩,⟨a_r2,cap_r2⟩⟩ hst
    subst hst;refine Al (L':=[(3,_),(4,_),(11,_),(12,_)]) (ms':=[row a_r5 cap_r5 3 1 D.i64 l2,row a_r4 cap_r4 3 1 D.i64 l3,row a_r3 cap_r3 3 1 D.i64 l4,row a_r2 cap_r2 3 1 D.i64 l5,box b2 95 [.v (.slice a_r4 l3.length cap_r4),.v (.slice a_r5 l2.length cap_r5)],box b1 95 [.v (.slice a_r2 l5.length cap_r2),.v (.slice a_r3 l4.length cap_r3)],_]) rfl rfl ?_;refine zq5 ?_;obtain ⟨o_2,hj2,hm2⟩:=bS hm1;refine Ag [(11,_),(12,_)] [(6,_)] (fun (st:((List Int)×(List Int)×(List Int)×(List Int))) (hid:(Option Addr×Nat)×(Option Addr×Nat)×(Option Addr×Nat)×(Option Addr×Nat))=>match st,hid with | (l10,l11,l12,l13),((a_r5,cap_r5),(a_r4,cap_r4),(a_r3,cap_r3),(a_r2,cap_r2))=>[]) (fun F (st:((List Int)×(List Int)×(List Int)×(List Int))) (hid:(Option Addr×Nat)×(Option Addr×Nat)×(Option Addr×Nat)×(Option Addr×Nat))=>match st,hid with | (l10,l11,l12,l13),((a_r5,cap_r5),(a_r4,cap_r4),(a_r3,cap_r3),(a_r2,cap_r2))=>[row a_r5 cap_r5 3 1 D.i64 l10,row a_r4 cap_r4 3 1 D.i64 l11,row a_r3 cap_r3 3 1 D.i64 l12,row a_r2 cap_r2 3 1 D.i64 l13,box b2 95 [.v (.slice a_r4 l11.length cap_r4),.v (.slice a_r5 l10.length cap_r5)],box b1 95 [.v (.slice a_r2 l13.length cap_r2),.v (.slice a_r3 l12.length cap_r3)],(nthF F 0)]) (fun st=>st=o_2) ⟨rfl,rfl,trivial⟩ ⟨rfl,trivial⟩ ?_ ?_
    ·refine Am ?_
     refine Ah [(3,_),(4,_),(11,_),(12,_)] [(6,_)] (fun (st:(Int×(List Int)×(List Int)×(List Int)×(List Int))) (hid:(Option Addr×Nat)×(Option Addr×Nat)×(Option Addr×Nat)×(Option Addr×Nat))=>match st,hid with | (i2,l14,l15,l16,l17),((a_r5,cap_r5),(a_r4,cap_r4),(a_r3,cap_r3),(a_r2,cap_r2))=>[(14,.i64 i2)]) (fun F (st:(Int×(List Int)×(List Int)×(List Int)×(List Int))) (hid:(Option Addr×Nat)×(Option Addr×Nat)×(Option Addr×Nat)×(Option Addr×Nat))=>match st,hid with | (i2,l14,l15,l16,l17),((a_r5,cap_r5),(a_r4,cap_r4),(a_r3,cap_r3),(a_r2,cap_r2))=>[row a_r5 cap_r5 3 1 D.i64 l14,row a_r4 cap_r4 3 1 D.i64 l15,row a_r3 cap_r3 3 1 D.i64 l16,row a_r2 cap_r2 3 1 D.i64 l17,box b2 95 [.v (.slice a_r4 l15.length cap_r4),.v (.slice a_r5 l14.length cap_r5)],box b1 95 [.v (.slice a_r2 l17.length cap_r2),.v (.slice a_r3 l16.length cap_r3)],(nthF F 0)]) ((_,_),(_,_),(_,_),(_,_)) hj2 (fun _=>rfl) ⟨rfl,rfl,rfl,rfl,trivial⟩ ⟨rfl,trivial⟩ ⟨rfl,trivial⟩ rfl ?_;rintro n ⟨i2,l14,l15,l16,l17⟩ ⟨⟨a_r5,cap_r5⟩,⟨a_r4,cap_r4⟩,⟨a_r3,cap_r3⟩,⟨a_r2,cap_r2⟩⟩ hj2;rw [Db] at hj2;refine Ao (L':=[(14,.i64 i2),(3,_),(4,_),(11,_),(12,_)]) (ms':=[row a_r5 cap_r5 3 1 D.i64 l14,row a_r4 cap_r4 3 1 D.i64 l15,row a_r3 cap_r3 3 1 D.i64 l16,row a_r2 cap_r2 3 1 D.i64 l17,box b2 95 [.v (.slice a_r4 l15.length cap_r4),.v (.slice a_r5 l14.length cap_r5)],box b1 95 [.v (.slice a_r2 l17.length cap_r2),.v (.slice a_r3 l16.length cap_r3)],_]) rfl rfl ?_;refine zq8 ?_;refine zcn hj2 (fun hc4 hj2=>?_) (fun hc4 hj2=>?_)
     ·refine zq3 ?_
      obtain ⟨x5,hx8,hj2⟩:=bS hj2;obtain ⟨x6,hx9,hj2⟩:=bS hj2;obtain ⟨hg10,hj2⟩:=Aa hj2;obtain ⟨x7,hx11,hj2⟩:=bS hj2;obtain ⟨x8,hx12,hj2⟩:=bS hj2;obtain ⟨hg13,hj2⟩:=Aa hj2;refine IE 3 [12,25,27,29] [13,14,15,16,17,18,19,20,21,22,23,24,26,28] [14] (by decide +kernel) (by decide +kernel) A0 (by decide +kernel) (by decide +kernel) rfl ?_;refine zq6 ?_;refine FH rfl rfl rfl rfl rfl rfl (oIm runUnderlying43 sizeOf3 rfl rfl hx8) ?_;refine zq1 ?_;refine FH rfl rfl rfl rfl rfl rfl (oIm runUnderlying29 sizeOf49 rfl rfl hx9) ?_;refine zq2 ?_;refine FH rfl rfl rfl rfl rfl rfl (zs1 D.i64) ?_;refine Fo rfl ?_;refine zq1 ?_;refine Mu rfl rfl rfl rfl rfl (oLb 4 isAgg43 rfl rfl rfl rfl) ?_;refine zq4 ?_;refine FH rfl rfl rfl rfl rfl rfl (oIm runUnderlying43 sizeOf3 rfl rfl hx11) ?_;refine zq1 ?_;refine FH rfl rfl rfl rfl rfl rfl (oIm runUnderlying29 sizeOf49 rfl rfl hx12) ?_;refine zq2 ?_;refine FH rfl rfl rfl rfl rfl rfl (zs1 D.i64) ?_;refine Fo rfl ?_;refine zq1 ?_;refine Fo rfl ?_;refine zq1 ?_;refine Fo rfl ?_;refine KV ?_;refine E2 rfl rfl rfl rfl (C0 (a:=_) 3 underlying43 type3 rfl rfl rfl rfl rfl rfl rfl (fun _=>rfl) (fun _=>rfl) hg10 (BX hg10 rfl)) ?_;rintro _ _ ⟨a_r2,cap_r2,rfl,rfl⟩;refine ⟨fun _=>⟨trivial,oLb 4 isAgg43 rfl rfl rfl rfl⟩,?_⟩;refine E2 rfl rfl rfl rfl (C0 (a:=_) 0 underlying43 type3 rfl rfl rfl rfl rfl rfl rfl (fun _=>rfl) (fun _=>rfl) hg13 (BX hg13 rfl)) ?_;rintro _ _ ⟨a_r5,cap_r5,rfl,rfl⟩;refine ⟨fun hc=>absurd hc (by decide),?_⟩;refine MX rfl rfl rfl (oSb 5 sizeOf43 rfl rfl rfl rfl rfl rfl rfl rfl (nB rfl)) ?_;rintro _ _ rfl;refine ⟨fun hc=>absurd hc (by decide),?_⟩;refine MX rfl rfl rfl (oSb 4 sizeOf43 rfl rfl rfl rfl rfl rfl rfl rfl (nB rfl)) ?_;rintro _ _ rfl;refine ⟨fun hc=>absurd hc (by decide),?_⟩;refine Jd ?_;refine zq2 ?_;obtain ⟨hg14,hj2⟩:=Aa hj2;refine zq3 ?_;exact ⟨_,((_,_),(_,_),(_,_),(_,_)),hj2,⟨rfl,trivial⟩,⟨rfl,rfl,rfl,rfl,trivial⟩,[],rfl⟩
     ·refine Ar ?_
      exact ⟨_,((_,_),(_,_),(_,_),(_,_)),Ac hj2,trivial,⟨rfl,rfl,trivial⟩,[],rfl⟩
    ·rintro ⟨l10,l11,l12,l13⟩ ⟨⟨a_r5,cap_r5⟩,⟨a_r4,cap_r4⟩,⟨a_r3,cap_r3⟩,⟨a_r2,cap_r2⟩⟩ hst
     subst hst;refine Al (L':=[(11,_),(12,_)]) (ms':=[row a_r5 cap_r5 3 1 D.i64 l10,row a_r4 cap_r4 3 1 D.i64 l11,row a_r3 cap_r3 3 1 D.i64 l12,row a_r2 cap_r2 3 1 D.i64 l13,box b2 95 [.v (.slice a_r4 l11.length cap_r4),.v (.slice a_r5 l10.length cap_r5)],box b1 95 [.v (.slice a_r2 l13.length cap_r2),.v (.slice a_r3 l12.length cap_r3)],_]) rfl rfl ?_;refine JC ?_;obtain ⟨x9,hx15,hm2⟩:=bS hm2;obtain ⟨x10,hx16,hm2⟩:=bS hm2;obtain ⟨x11,hx17,hm2⟩:=bS hm2;obtain ⟨x12,hx18,hm2⟩:=bS hm2;refine zdr 17 ?_;refine zq2 ?_;refine AC rfl rfl rfl (.view (peekE (i:=100) 3 rfl rfl rfl) (Bv call74 rfl (FX hx15))) ?_;refine zq2 ?_;refine AC rfl rfl rfl (.view (peekE (i:=103) 2 rfl rfl rfl) (Bv call74 rfl (FX hx16))) ?_;refine AC rfl rfl rfl zb95b ?_;refine zq2 ?_;refine AC rfl rfl rfl (.view (peekE (i:=107) 1 rfl rfl rfl) (Bv call74 rfl (FX hx17))) ?_;refine zq2 ?_;refine AC rfl rfl rfl (.view (peekE (i:=110) 0 rfl rfl rfl) (Bv call74 rfl (FX hx18))) ?_;refine AC rfl rfl rfl zb95b ?_;refine AC rfl rfl rfl (Aj (xs:=[_,_]) (f:=RSeq.d) (l:=[(⟨x9,x10⟩:RSeq),(⟨x11,x12⟩:RSeq)]) runUnderlying96 sizeOf95 zeroValue95 rfl rfl rfl (fun _=>⟨rfl,rfl,rfl⟩) rfl) ?_;refine zq4 ?_
     cases hm2;exact Ae zr2
  ·refine zq3 ?_
   refine Ai rfl rfl rfl (Aj (xs:=[]) (f:=D.str) (l:=[]) runUnderlying174 sizeOf9 zeroValue9 rfl rfl rfl (fun _=>⟨rfl,rfl,rfl⟩) rfl) ?_;refine zq8 ?_;obtain ⟨o_3,hj3,hm3⟩:=bS hm;refine Ag [(1,_),(2,_),(3,_),(4,_),(10,_)] [(0,_)] (fun (st:(List (List UInt8))) (hid:Unit)=>match st,hid with | all1,_=>[(15,.list 1 D.str all1)]) (fun F (st:(List (List UInt8))) (hid:Unit)=>match st,hid with | all1,_=>[(nthF F 0)]) (fun st=>st=o_3) ⟨rfl,rfl,rfl,rfl,rfl,trivial⟩ ⟨rfl,trivial⟩ ?_ ?_
   ·refine zcn hj3 (fun hc5 hj3=>?_) (fun hc5 hj3=>?_)
    ·refine zq3 ?_
     obtain ⟨x13,hx19,hj3⟩:=bS hj3;refine zc0 (Le hx19) ?_;refine zq2 ?_;exact ⟨_,(),Ac hj3,⟨rfl,trivial⟩,⟨rfl,rfl,rfl,rfl,rfl,trivial⟩,[],rfl⟩
    ·refine gSp ?_
     exact ⟨_,(),Ac hj3,⟨rfl,trivial⟩,⟨rfl,rfl,rfl,rfl,rfl,trivial⟩,[],rfl⟩
   ·rintro all1 _ hst
    subst hst;refine Al (L':=[(15,.list 1 D.str all1),(1,_),(2,_),(3,_),(4,_),(10,_)]) (ms':=[_]) rfl rfl ?_;refine zq6 ?_;obtain ⟨o_4,hj4,hm4⟩:=bS hm3;refine Ag [(2,_),(3,_),(4,_),(10,_)] [(0,_)] (fun (st:(List (List UInt8))) (hid:Unit)=>match st,hid with | all2,_=>[(15,.list 1 D.str all2)]) (fun F (st:(List (List UInt8))) (hid:Unit)=>match st,hid with | all2,_=>[(nthF F 0)]) (fun st=>st=o_4) ⟨rfl,rfl,rfl,rfl,trivial⟩ ⟨rfl,trivial⟩ ?_ ?_
    ·refine zcn hj4 (fun hc6 hj4=>?_) (fun hc6 hj4=>?_)
     ·refine zq3 ?_
      obtain ⟨x14,hx20,hj4⟩:=bS hj4;refine zc0 (Le hx20) ?_;refine zq2 ?_;exact ⟨_,(),Ac hj4,⟨rfl,trivial⟩,⟨rfl,rfl,rfl,rfl,trivial⟩,[],rfl⟩
     ·refine gSp ?_
      exact ⟨_,(),Ac hj4,⟨rfl,trivial⟩,⟨rfl,rfl,rfl,rfl,trivial⟩,[],rfl⟩
    ·rintro all2 _ hst
     subst hst;refine Al (L':=[(15,.list 1 D.str all2),(2,_),(3,_),(4,_),(10,_)]) (ms':=[_]) rfl rfl ?_;refine zq5 ?_;obtain ⟨o_5,hj5,hm5⟩:=bS hm4;refine Ag [] [] (fun (st:(List RSeq)) (hid:(Option Addr×Nat))=>match st,hid with | l18,(a_r1,cap_r1)=>[(10,.v (.slice a_r1 l18.length cap_r1))]) (fun F (st:(List RSeq)) (hid:(Option Addr×Nat))=>match st,hid with | l18,(a_r1,cap_r1)=>[row a_r1 cap_r1 95 2 RSeq.d l18]) (fun st=>Out.go (st)=o_5) trivial trivial ?_ ?_
     ·refine Am ?_
      refine Ah [(2,_),(3,_),(4,_),(15,_)] [] (fun (st:(Int×(List RSeq))) (hid:(Option Addr×Nat))=>match st,hid with | (i3,l19),(a_r1,cap_r1)=>[(10,.v (.slice a_r1 l19.length cap_r1)),(16,.i64 i3)]) (fun F (st:(Int×(List RSeq))) (hid:(Option Addr×Nat))=>match st,hid with | (i3,l19),(a_r1,cap_r1)=>[row a_r1 cap_r1 95 2 RSeq.d l19]) (_,_) hj5 (fun _=>rfl) ⟨rfl,rfl,rfl,rfl,trivial⟩ trivial ⟨rfl,rfl,trivial⟩ rfl ?_;rintro n ⟨i3,l19⟩ ⟨a_r1,cap_r1⟩ hj5;rw [Dc] at hj5;refine Ao (L':=[(10,.v (.slice a_r1 l19.length cap_r1)),(16,.i64 i3),(2,_),(3,_),(4,_),(15,_)]) (ms':=[row a_r1 cap_r1 95 2 RSeq.d l19]) rfl rfl ?_;refine zq8 ?_;refine zcn hj5 (fun hc7 hj5=>?_) (fun hc7 hj5=>?_)
      ·refine zq4 ?_
       obtain ⟨x15,hx21,hj5⟩:=bS hj5;obtain ⟨x16,hx22,hj5⟩:=bS hj5;obtain ⟨x17,hx23,hj5⟩:=bS hj5;obtain ⟨x18,hx24,hj5⟩:=bS hj5;refine zdr 16 ?_;refine zq4 ?_;refine AC rfl rfl rfl (oIm runUnderlying174 sizeOf9 rfl rfl hx21) ?_;refine zq1 ?_;refine zcd (IS hx22) ?_;refine zq4 ?_;refine AC rfl rfl rfl (oIm runUnderlying174 sizeOf9 rfl rfl hx23) ?_;refine zq1 ?_;refine zcd (IS hx24) ?_;refine zq11 ?_
       apply AX [(2,_),(3,_),(4,_),(10,_),(15,_),(16,_),(17,_),(18,_)] 4 152 (t:=148) ⟨rfl,rfl,rfl,rfl,rfl,rfl,rfl,rfl,trivial⟩ rfl
       ·intro hg_2 hk2
        refine zq4 ?_;exact zgm hk2
       ·intro hg_2 hk2
        refine zq4 ?_;exact zgm hk2
       refine gNl ?_;refine zcn hj5 (fun hc8 hj5=>?_) (fun hc8 hj5=>?_)
       ·refine zq3 ?_
        refine Ap (nilE (i:=8) (sz:=2) (f:=RSeq.d) rfl).refines ?_;refine zq2 ?_;refine Ae ?_;obtain rfl:=Ac hj5
        replace hm5:=Bu hm5
        cases hm5;exact zr2
       ·refine zq5 ?_
        refine Ai rfl rfl rfl zb95b ?_;refine Ai rfl rfl rfl (Aj (xs:=[_]) (f:=RSeq.d) (l:=[(⟨x16,x18⟩:RSeq)]) runUnderlying96 sizeOf95 zeroValue95 rfl rfl rfl (fun _=>⟨rfl,rfl,rfl⟩) rfl) ?_;obtain ⟨hg25,hj5⟩:=Aa hj5;refine zap 0 hg25 fun a_r1 cap_r1=>?_;refine Ak (ms':=[_]) rfl ?_;refine zq4 ?_;obtain ⟨hg26,hj5⟩:=Aa hj5;refine zq3 ?_;exact ⟨_,(_,_),hj5,⟨rfl,rfl,trivial⟩,⟨rfl,rfl,rfl,rfl,trivial⟩,[],rfl⟩
      ·refine Ar ?_
       exact ⟨_,(_,_),Ac hj5,⟨rfl,trivial⟩,trivial,[],rfl⟩
     ·rintro l18 ⟨a_r1,cap_r1⟩ hst
      subst hst
      replace hm5:=CT hm5
      refine Al (L':=[(10,.v (.slice a_r1 l18.length cap_r1))]) (ms':=[row a_r1 cap_r1 95 2 RSeq.d l18]) rfl rfl ?_;refine zq6 ?_;refine BM (peekE (i:=8) 0 rfl rfl rfl).refines ?_
      cases hm5;exact Ae zr2
def EO (t1:ATy) (l1:(List Int)) (kind1:Int):Nat->(Int×(List Int))->Option (List Int)
 | 0,_=>none
 | n+1,(i1,l3) =>
  bif (decide (i1<(l1.length:Int))) then
   (idx l1 i1).bind fun x1 =>
   (idx t1.l x1).bind fun x2 =>
   bif (decide (x2.kind=kind1)) then
    (idx l1 i1).bind fun x3 =>
    grd ((l3.length+([x3]:List _).length)*8<=140737488355328) <|
    grd (InR (i1+1)) <|
    EO t1 l1 kind1 n ((i1+1),(l3++[x3]))
   else
    grd (InR (i1+1)) <|
    EO t1 l1 kind1 n ((i1+1),l3)
  else
   some l3
def IB (t1:ATy) (l1:(List Int)) (kind1:Int):Option (List Int):=
 (EO t1 l1 kind1 FU (0,[]):Option (List Int)).bind fun l2 =>
 some l2
theorem QL {t1:ATy} {l1:(List Int)} {kind1:Int} {r_1:(List Int)} (hm:IB t1 l1 kind1=some r_1):Fn0 Tryz.prog 108 [ATy.d t1,.list 1 D.i64 l1,.i64 kind1] (.list 1 D.i64 r_1):=by
 unfold IB at hm;refine Ad func108 rfl ntmps108 rfl fun H0 fr w0=>?_;refine zq4 ?_;refine Ap (nilE (i:=6) (sz:=1) (f:=D.i64) rfl).refines ?_;refine zq3 ?_;refine AG rfl rfl rfl (Au (xs:=[]) (f:=D.i64) (l:=[]) runUnderlying43 sizeOf3 zeroValue3 rfl rfl rfl (fun _=>⟨rfl,rfl,rfl⟩) rfl (by simp [maxLen])) ?_;rintro _ _ ⟨a_r1,rfl,rfl⟩;refine zq7 ?_;obtain ⟨o_1,hj1,hm1⟩:=bS hm;refine Ag [] [] (fun (st:(List Int)) (hid:(Option Addr×Nat))=>match st,hid with | l2,(a_r1,cap_r1)=>[(7,.v (.slice a_r1 l2.length cap_r1))]) (fun F (st:(List Int)) (hid:(Option Addr×Nat))=>match st,hid with | l2,(a_r1,cap_r1)=>[row a_r1 cap_r1 3 1 D.i64 l2]) (fun st=>st=o_1) trivial trivial ?_ ?_
 ·refine Am ?_
  refine Ah [(1,_),(2,_),(3,_)] [] (fun (st:(Int×(List Int))) (hid:(Option Addr×Nat))=>match st,hid with | (i1,l3),(a_r1,cap_r1)=>[(7,.v (.slice a_r1 l3.length cap_r1)),(8,.i64 i1)]) (fun F (st:(Int×(List Int))) (hid:(Option Addr×Nat))=>match st,hid with | (i1,l3),(a_r1,cap_r1)=>[row a_r1 cap_r1 3 1 D.i64 l3]) (_,_) hj1 (fun _=>rfl) ⟨rfl,rfl,rfl,trivial⟩ trivial ⟨rfl,rfl,trivial⟩ rfl ?_;rintro n ⟨i1,l3⟩ ⟨a_r1,cap_r1⟩ hj1;rw [EO] at hj1;refine Ao (L':=[(7,.v (.slice a_r1 l3.length cap_r1)),(8,.i64 i1),(1,_),(2,_),(3,_)]) (ms':=[row a_r1 cap_r1 3 1 D.i64 l3]) rfl rfl ?_;refine zq8 ?_;refine zcn hj1 (fun hc1 hj1=>?_) (fun hc1 hj1=>?_)
  ·refine zq4 ?_
   obtain ⟨x1,hx1,hj1⟩:=bS hj1;obtain ⟨x2,hx2,hj1⟩:=bS hj1;refine zdr 11 ?_;refine zq4 ?_;refine AC rfl rfl rfl (oIm runUnderlying43 sizeOf3 rfl rfl hx1) ?_;refine zq1 ?_;refine AC rfl rfl rfl (oIm runUnderlying29 sizeOf49 rfl rfl hx2) ?_;refine zq6 ?_;refine zcn hj1 (fun hc2 hj1=>?_) (fun hc2 hj1=>?_)
   ·refine zq4 ?_
    obtain ⟨x3,hx3,hj1⟩:=bS hj1;refine Ai rfl rfl rfl (oIm runUnderlying43 sizeOf3 rfl rfl hx3) ?_;refine zq1 ?_;refine Ai rfl rfl rfl (zs1 D.i64) ?_;obtain ⟨hg4,hj1⟩:=Aa hj1;refine zap 0 hg4 fun a_r1 cap_r1=>?_;refine Ak (ms':=[_]) rfl ?_;refine zq4 ?_;obtain ⟨hg5,hj1⟩:=Aa hj1;refine zq3 ?_;exact ⟨_,(_,_),hj1,⟨rfl,rfl,trivial⟩,⟨rfl,rfl,rfl,trivial⟩,[],rfl⟩
   ·refine zq3 ?_
    obtain ⟨hg6,hj1⟩:=Aa hj1;refine zq3 ?_;exact ⟨_,(_,_),hj1,⟨rfl,rfl,trivial⟩,⟨rfl,rfl,rfl,trivial⟩,[],rfl⟩
  ·refine Ar ?_
   exact ⟨_,(_,_),Ac hj1,⟨rfl,trivial⟩,trivial,[],rfl⟩
 ·rintro l2 ⟨a_r1,cap_r1⟩ hst
  subst hst;refine Al (L':=[(7,.v (.slice a_r1 l2.length cap_r1))]) (ms':=[row a_r1 cap_r1 3 1 D.i64 l2]) rfl rfl ?_;refine zq5 ?_;refine BM (peekE (i:=6) 0 rfl rfl rfl).refines ?_
  cases hm1;exact Ae zr1
def Dp (t1:ATy) (q1:RSeq) (i1:Int):Nat->Int->Option (Out ((List RSeq)×Bool) Unit)
 | 0,_=>none
 | n+1,k1 =>
  bif (decide (k1<(q1.r.length:Int))) then
   (idx q1.l i1).bind fun x15 =>
   (idx t1.l x15).bind fun x16 =>
   (idx q1.r k1).bind fun x17 =>
   (idx t1.l x17).bind fun x18 =>
   bif (((decide (x16.kind=11))&&(decide (x18.kind=11)))&&(decide (x16.a=x18.a))) then
    some (Out.ret ([],true))
   else
    grd (InR (k1+1)) <|
    Dp t1 q1 i1 n (k1+1)
  else
   some (Out.go (()))
def Dm (t1:ATy) (q1:RSeq):Nat->Int->Option (Out ((List RSeq)×Bool) Unit)
 | 0,_=>none
 | n+1,i1 =>
  bif (decide (i1<(q1.l.length:Int))) then
   ((Dp t1 q1 i1 FU 0:Option (Out ((List RSeq)×Bool) Unit))).bind (fun oo=>oo.on (fun r1=>some (Out.ret r1)) (fun _ =>
   grd (InR (i1+1)) <|
   Dm t1 q1 n (i1+1)))
  else
   some (Out.go (()))
def BU (t1:ATy) (q1:RSeq):Nat->(Int×(List Int))->Option (List Int)
 | 0,_=>none
 | n+1,(i2,l2) =>
  bif (decide (i2<=8)) then
   (Fv t1 q1.l i2).bind fun x19 =>
   bif (decide (0<=x19)) then
    grd ((l2.length+([i2]:List _).length)*8<=140737488355328) <|
    grd (InR (i2+1)) <|
    BU t1 q1 n ((i2+1),(l2++[i2]))
   else
    grd (InR (i2+1)) <|
    BU t1 q1 n ((i2+1),l2)
  else
   some l2
def FB (t1:ATy) (q1:RSeq):Option ((List RSeq)×Bool):=
 (Fv t1 q1.l 2).bind fun x1 =>
 (bif (decide (0<=x1)) then (some true) else ((Fv t1 q1.r 1).bind fun x2 =>
 some (decide (0<=x2)))).bind fun p1 =>
 bif p1 then
  some ([],true)
 else
  (ER t1 q1.l 9 10).bind fun x3 =>
  bif (decide (0<=x3)) then
   (idx q1.l x3).bind fun x4 =>
   (idx t1.l x4).bind fun x5 =>
   bif (decide (x5.kind=10)) then
    (Ds q1.l x3 [x5.a,x5.b]).bind fun x6 =>
    some ([(⟨x6,q1.r⟩:RSeq)],true)
   else
    (Ds q1.l x3 [x5.a]).bind fun x7 =>
    (Ds q1.l x3 [x5.b]).bind fun x8 =>
    some ([(⟨x7,q1.r⟩:RSeq),(⟨x8,q1.r⟩:RSeq)],true)
  else
   (ER t1 q1.r 9 10).bind fun x9 =>
   bif (decide (0<=x9)) then
    (idx q1.r x9).bind fun x10 =>
    (idx t1.l x10).bind fun x11 =>
    bif (decide (x11.kind=9)) then
     (Ds q1.r x9 [x11.a,x11.b]).bind fun x12 =>
     some ([(⟨q1.l,x12⟩:RSeq)],true)
    else
     (Ds q1.r x9 [x11.a]).bind fun x13 =>
     (Ds q1.r x9 [x11.b]).bind fun x14 =>
     some ([(⟨q1.l,x13⟩:RSeq),(⟨q1.l,x14⟩:RSeq)],true)
   else
    ((Dm t1 q1 FU 0:Option (Out ((List RSeq)×Bool) Unit))).bind (fun oo=>oo.on (fun r2=>some r2) (fun _ =>
    (BU t1 q1 FU (3,[]):Option (List Int)).bind fun l1 =>
    bif (decide ((l1.length:Int)=0)) then
     some ([],false)
    else
     bif (decide (1<(l1.length:Int))) then
      some ([],true)
     else
      (idx l1 0).bind fun x20 =>
      (idx l1 0).bind fun x21 =>
      (IB t1 q1.l x21).bind fun x22 =>
      (idx l1 0).bind fun x23 =>
      (IB t1 q1.r x23).bind fun x24 =>
      (Gp t1 x20 x22 x24).bind fun (x25,x26) =>
      some (x25,x26)))
theorem P3 {t1:ATy} {q1:RSeq} {r_1:(List RSeq)} {r_2:Bool} (hm:FB t1 q1=some (r_1,r_2)):Fn0 Tryz.prog 75 [ATy.d t1,RSeq.d q1] (.tup [.list 2 RSeq.d r_1,.bool r_2]):=by
 unfold FB at hm;refine Ad func75 rfl ntmps75 rfl fun H0 fr w0=>?_;refine zq5 ?_;refine Ap (nilE (i:=4) (sz:=2) (f:=RSeq.d) rfl).refines ?_;refine zq8 ?_;obtain ⟨x1,hx1,hm⟩:=bS hm;refine zc0 (J1 hx1) ?_;refine zq2 ?_;obtain ⟨p1,hp_1,hm⟩:=bS hm;refine AF [(2,_),(3,_)] 6 27 p1 (t:=21) ⟨rfl,rfl,trivial⟩ rfl (fun hg_1 hk1=>?_) (fun hg_1 hk1=>?_) ?_
 ·replace hp_1:=AD hg_1 hp_1
  refine zq6 ?_;exact zgb hk1 hp_1
 ·replace hp_1:=AE hg_1 hp_1
  refine zq3 ?_;obtain ⟨x2,hx2,hp_1⟩:=bS hp_1;refine zcw (J1 hx2) ?_;refine zq2 ?_;exact zgb hk1 hp_1
 refine gNl ?_;refine zcn hm (fun hc1 hm=>?_) (fun hc1 hm=>?_)
 ·refine zq3 ?_
  refine Ap (nilE (i:=4) (sz:=2) (f:=RSeq.d) rfl).refines ?_;refine zq2 ?_
  cases hm;exact Ae zr2
 ·refine zq7 ?_
  obtain ⟨x3,hx3,hm⟩:=bS hm;refine zc0 (Lv hx3) ?_;refine zq7 ?_;refine zcn hm (fun hc2 hm=>?_) (fun hc2 hm=>?_)
  ·refine JC ?_
   obtain ⟨x4,hx4,hm⟩:=bS hm;obtain ⟨x5,hx5,hm⟩:=bS hm;refine H7 10 [9] A0 (by decide +kernel) (by decide +kernel) rfl (by decide +kernel) ?_;refine AM rfl rfl rfl rfl (oFa E3 rfl rfl rfl) ?_;refine AM rfl rfl rfl rfl (Bk isAgg29 rfl rfl) ?_;refine AM rfl rfl rfl rfl (oFa Nf rfl rfl rfl) ?_;refine AM rfl rfl rfl rfl (Bk isAgg43 rfl rfl) ?_;refine AM rfl rfl rfl rfl (oMv rfl) ?_;refine AM rfl rfl rfl rfl (oIm runUnderlying43 sizeOf3 rfl rfl hx4) ?_;refine AM rfl rfl rfl rfl (Bk isAgg3 rfl rfl) ?_;refine AM rfl rfl rfl rfl (oIm runUnderlying29 sizeOf49 rfl rfl hx5) ?_;refine AM rfl rfl rfl rfl (DF isAgg49 sizeOf49 rfl rfl) ?_;refine Hb (R:=fun d A=>∃ b,d = .v (.pointer (some ⟨b,0,none⟩))/\A=box b 49 [.i64 0,.i64 0,.i64 0,.list 2 AFd.d []]) rfl rfl rfl (OpT.mono (AN zeroValue49 (cs:=[.i64 0,.i64 0,.i64 0,.list 2 AFd.d []]) rfl) (by rintro d ms' ⟨b,rfl,rfl⟩;exact ⟨_,⟨b,rfl,rfl⟩,rfl⟩)) ?_;refine JG ?_;rintro _ _ ⟨b1,rfl,rfl⟩;refine zst 0 ?_;refine Ak (ms':=[box b1 49 [_,_,_,_]]) rfl ?_;refine zq8 ?_;refine zcn hm (fun hc3 hm=>?_) (fun hc3 hm=>?_)
   ·refine JC ?_
    obtain ⟨x6,hx6,hm⟩:=bS hm;refine zdr 15 ?_;refine zq7 ?_;refine AC rfl rfl rfl (zs2 D.i64) ?_;refine zcd (F9 hx6) ?_;refine zq2 ?_;refine AC rfl rfl rfl zb95b ?_;refine AC rfl rfl rfl (Aj (xs:=[_]) (f:=RSeq.d) (l:=[(⟨x6,q1.r⟩:RSeq)]) runUnderlying96 sizeOf95 zeroValue95 rfl rfl rfl (fun _=>⟨rfl,rfl,rfl⟩) rfl) ?_;refine zq4 ?_
    cases hm;exact Ae zr2
   ·refine zq2 ?_
    obtain ⟨x7,hx7,hm⟩:=bS hm;obtain ⟨x8,hx8,hm⟩:=bS hm;refine zdr 23 ?_;refine zq5 ?_;refine AC rfl rfl rfl (zs1 D.i64) ?_;refine zcd (F9 hx7) ?_;refine zq2 ?_;refine AC rfl rfl rfl zb95b ?_;refine zq5 ?_;refine AC rfl rfl rfl (zs1 D.i64) ?_;refine zcd (F9 hx8) ?_;refine zq2 ?_;refine AC rfl rfl rfl zb95b ?_;refine AC rfl rfl rfl (Aj (xs:=[_,_]) (f:=RSeq.d) (l:=[(⟨x7,q1.r⟩:RSeq),(⟨x8,q1.r⟩:RSeq)]) runUnderlying96 sizeOf95 zeroValue95 rfl rfl rfl (fun _=>⟨rfl,rfl,rfl⟩) rfl) ?_;refine zq4 ?_
    cases hm;exact Ae zr2
  ·refine zq7 ?_
   obtain ⟨x9,hx9,hm⟩:=bS hm;refine zc0 (Lv hx9) ?_;refine zq7 ?_;refine zcn hm (fun hc4 hm=>?_) (fun hc4 hm=>?_)
   ·refine JC ?_
    obtain ⟨x10,hx10,hm⟩:=bS hm;obtain ⟨x11,hx11,hm⟩:=bS hm;refine H7 10 [9] A0 (by decide +kernel) (by decide +kernel) rfl (by decide +kernel) ?_;refine AM rfl rfl rfl rfl (oFa E3 rfl rfl rfl) ?_;refine AM rfl rfl rfl rfl (Bk isAgg29 rfl rfl) ?_;refine AM rfl rfl rfl rfl (oFa MV rfl rfl rfl) ?_;refine AM rfl rfl rfl rfl (Bk isAgg43 rfl rfl) ?_;refine AM rfl rfl rfl rfl (oMv rfl) ?_;refine AM rfl rfl rfl rfl (oIm runUnderlying43 sizeOf3 rfl rfl hx10) ?_;refine AM rfl rfl rfl rfl (Bk isAgg3 rfl rfl) ?_;refine AM rfl rfl rfl rfl (oIm runUnderlying29 sizeOf49 rfl rfl hx11) ?_;refine AM rfl rfl rfl rfl (DF isAgg49 sizeOf49 rfl rfl) ?_;refine Hb (R:=fun d A=>∃ b,d = .v (.pointer (some ⟨b,0,none⟩))/\A=box b 49 [.i64 0,.i64 0,.i64 0,.list 2 AFd.d []]) rfl rfl rfl (OpT.mono (AN zeroValue49 (cs:=[.i64 0,.i64 0,.i64 0,.list 2 AFd.d []]) rfl) (by rintro d ms' ⟨b,rfl,rfl⟩;exact ⟨_,⟨b,rfl,rfl⟩,rfl⟩)) ?_;refine JG ?_;rintro _ _ ⟨b2,rfl,rfl⟩;refine zst 0 ?_;refine Ak (ms':=[box b2 49 [_,_,_,_]]) rfl ?_;refine zq8 ?_;refine zcn hm (fun hc5 hm=>?_) (fun hc5 hm=>?_)
    ·refine JC ?_
     obtain ⟨x12,hx12,hm⟩:=bS hm;refine zdr 15 ?_;refine zq9 ?_;refine AC rfl rfl rfl (zs2 D.i64) ?_;refine zcd (F9 hx12) ?_;refine AC rfl rfl rfl zb95b ?_;refine AC rfl rfl rfl (Aj (xs:=[_]) (f:=RSeq.d) (l:=[(⟨q1.l,x12⟩:RSeq)]) runUnderlying96 sizeOf95 zeroValue95 rfl rfl rfl (fun _=>⟨rfl,rfl,rfl⟩) rfl) ?_;refine zq4 ?_
     cases hm;exact Ae zr2
    ·refine zq2 ?_
     obtain ⟨x13,hx13,hm⟩:=bS hm;obtain ⟨x14,hx14,hm⟩:=bS hm;refine zdr 23 ?_;refine zq7 ?_;refine AC rfl rfl rfl (zs1 D.i64) ?_;refine zcd (F9 hx13) ?_;refine AC rfl rfl rfl zb95b ?_;refine zq7 ?_;refine AC rfl rfl rfl (zs1 D.i64) ?_;refine zcd (F9 hx14) ?_;refine AC rfl rfl rfl zb95b ?_;refine AC rfl rfl rfl (Aj (xs:=[_,_]) (f:=RSeq.d) (l:=[(⟨q1.l,x13⟩:RSeq),(⟨q1.l,x14⟩:RSeq)]) runUnderlying96 sizeOf95 zeroValue95 rfl rfl rfl (fun _=>⟨rfl,rfl,rfl⟩) rfl) ?_;refine zq4 ?_
     cases hm;exact Ae zr2
   ·refine zq6 ?_
    obtain ⟨o_1,hj1,hm1⟩:=bS hm;refine Ag [(2,_),(3,_)] [] (fun (st:Unit) (hid:Unit)=>match st,hid with | _,_=>[]) (fun F (st:Unit) (hid:Unit)=>match st,hid with | _,_=>[]) (fun st=>Out.go (st)=o_1) ⟨rfl,rfl,trivial⟩ trivial ?_ ?_
    ·refine Am ?_
     refine Ah [(2,_),(3,_)] [] (fun (st:Int) (hid:Unit)=>match st,hid with | i1,_=>[(10,.i64 i1)]) (fun F (st:Int) (hid:Unit)=>match st,hid with | i1,_=>[]) () hj1 (fun _=>rfl) ⟨rfl,rfl,trivial⟩ trivial ⟨rfl,trivial⟩ rfl ?_;rintro n i1 _ hj1;rw [Dm] at hj1;refine Ao (L':=[(10,.i64 i1),(2,_),(3,_)]) (ms':=[]) rfl rfl ?_;refine zq9 ?_;refine zcn hj1 (fun hc6 hj1=>?_) (fun hc6 hj1=>?_)
     ·refine zq7 ?_
      obtain ⟨o_2,hj2,hm2⟩:=bS hj1;refine Ag [(2,_),(3,_),(10,_)] [] (fun (st:Unit) (hid:Unit)=>match st,hid with | _,_=>[]) (fun F (st:Unit) (hid:Unit)=>match st,hid with | _,_=>[]) (fun st=>Out.go (st)=o_2) ⟨rfl,rfl,rfl,trivial⟩ trivial ?_ ?_
      ·refine Am ?_
       refine Ah [(2,_),(3,_),(10,_)] [] (fun (st:Int) (hid:Unit)=>match st,hid with | k1,_=>[(11,.i64 k1)]) (fun F (st:Int) (hid:Unit)=>match st,hid with | k1,_=>[]) () hj2 (fun _=>rfl) ⟨rfl,rfl,rfl,trivial⟩ trivial ⟨rfl,trivial⟩ rfl ?_;rintro n k1 _ hj2;rw [Dp] at hj2;refine Ao (L':=[(11,.i64 k1),(2,_),(3,_),(10,_)]) (ms':=[]) rfl rfl ?_;refine zq9 ?_;refine zcn hj2 (fun hc7 hj2=>?_) (fun hc7 hj2=>?_)
       ·refine zq4 ?_
        obtain ⟨x15,hx15,hj2⟩:=bS hj2;obtain ⟨x16,hx16,hj2⟩:=bS hj2;obtain ⟨x17,hx17,hj2⟩:=bS hj2;obtain ⟨x18,hx18,hj2⟩:=bS hj2;refine JI (σ:=Nat×Nat) (fun s=>match s with | (b3,b4)=>[(12,.v (.pointer (some ⟨b3,0,none⟩))),(13,.v (.pointer (some ⟨b4,0,none⟩)))]) (fun s=>match s with | (b3,b4)=>[box b3 49 [.i64 x16.kind,.i64 x16.a,.i64 x16.b,.list 2 AFd.d x16.l],box b4 49 [.i64 x18.kind,.i64 x18.a,.i64 x18.b,.list 2 AFd.d x18.l]]) ?_ ?_
        ·refine Ju [18,19,20,21] A0 (by decide +kernel) (by decide +kernel) (by decide) _ rfl ?_
         refine Bl rfl rfl rfl rfl (oFa E3 rfl rfl rfl) ?_;refine Bl rfl rfl rfl rfl (Bk isAgg29 rfl rfl) ?_;refine Bl rfl rfl rfl rfl (oFa Nf rfl rfl rfl) ?_;refine Bl rfl rfl rfl rfl (Bk isAgg43 rfl rfl) ?_;refine Bl rfl rfl rfl rfl (oMv rfl) ?_;refine Bl rfl rfl rfl rfl (oIm runUnderlying43 sizeOf3 rfl rfl hx15) ?_;refine Bl rfl rfl rfl rfl (Bk isAgg3 rfl rfl) ?_;refine Bl rfl rfl rfl rfl (oIm runUnderlying29 sizeOf49 rfl rfl hx16) ?_;refine Bl rfl rfl rfl rfl (DF isAgg49 sizeOf49 rfl rfl) ?_;refine Bl rfl rfl rfl rfl (oFa E3 rfl rfl rfl) ?_;refine Bl rfl rfl rfl rfl (Bk isAgg29 rfl rfl) ?_;refine Bl rfl rfl rfl rfl (oFa MV rfl rfl rfl) ?_;refine Bl rfl rfl rfl rfl (Bk isAgg43 rfl rfl) ?_;refine Bl rfl rfl rfl rfl (oMv rfl) ?_;refine Bl rfl rfl rfl rfl (oIm runUnderlying43 sizeOf3 rfl rfl hx17) ?_;refine Bl rfl rfl rfl rfl (Bk isAgg3 rfl rfl) ?_;refine Bl rfl rfl rfl rfl (oIm runUnderlying29 sizeOf49 rfl rfl hx18) ?_;refine Bl rfl rfl rfl rfl (DF isAgg49 sizeOf49 rfl rfl) ?_;refine EC rfl ?_;refine EC rfl ?_;refine EC rfl ?_;refine EC rfl ?_;refine KH ?_;refine zg2 18 19 ?_ ?_
         ·refine Io fun b5=>?_
          refine zg1 19 ?_;refine Io fun b6=>?_;refine zg1 20 ?_;refine zgs 1 ?_;refine zg1 21 ?_;refine zgs 0 ?_;exact Cg (b5,b6) (zse (M0:=[(12,_),(13,_)]) (N0:=[(13,_),(12,_),(163,_),(162,_),(161,_),(160,_),(159,_),(158,_),(157,_),(156,_),(155,_),(154,_),(153,_),(152,_),(151,_),(150,_),(149,_),(148,_),(147,_),(146,_)])) (permA 1 rfl (permA 0 rfl permN))
         ·refine Io fun b7=>?_
          refine zg1 18 ?_;refine Io fun b8=>?_;refine zg1 20 ?_;refine zgs 0 ?_;refine zg1 21 ?_;refine zgs 1 ?_;exact Cg (b8,b7) (zse (M0:=[(12,_),(13,_)]) (N0:=[(12,_),(13,_),(163,_),(162,_),(161,_),(160,_),(159,_),(158,_),(157,_),(156,_),(155,_),(154,_),(153,_),(152,_),(151,_),(150,_),(149,_),(148,_),(147,_),(146,_)])) (permA 0 rfl (permA 0 rfl permN))
        ·rintro ⟨b3,b4⟩
         refine Al (L':=[(12,.v (.pointer (some ⟨b3,0,none⟩))),(13,.v (.pointer (some ⟨b4,0,none⟩)))]++_) (ms':=[box b3 49 [.i64 x16.kind,.i64 x16.a,.i64 x16.b,.list 2 AFd.d x16.l],box b4 49 [.i64 x18.kind,.i64 x18.a,.i64 x18.b,.list 2 AFd.d x18.l]]) rfl rfl ?_;refine zq6 ?_
         apply Bm [(2,_),(3,_),(10,_),(11,_),(12,_),(13,_)] 4 171 (t:=167) ⟨rfl,rfl,rfl,rfl,rfl,rfl,trivial⟩ rfl
         ·intro hg_2 hk2
          refine zq4 ?_;exact zgm hk2
         ·intro hg_2 hk2
          refine zq4 ?_;exact zgm hk2
         refine zq1 ?_
         apply Bm [(2,_),(3,_),(10,_),(11,_)] 6 178 (t:=172) ⟨rfl,rfl,rfl,rfl,trivial⟩ rfl
         ·intro hg_3 hk3
          refine zq6 ?_;exact zgm hk3
         ·intro hg_3 hk3
          refine zq6 ?_;exact zgm hk3
         refine gNl ?_;refine zcn hj2 (fun hc8 hj2=>?_) (fun hc8 hj2=>?_)
         ·refine zq3 ?_
          refine Ap (nilE (i:=4) (sz:=2) (f:=RSeq.d) rfl).refines ?_;refine zq2 ?_;refine Ae ?_;obtain rfl:=Ac hj2
          replace hm2:=Bu hm2
          obtain rfl:=Ac hm2
          replace hm1:=Bu hm1
          cases hm1;exact zr2
         ·refine zq3 ?_
          obtain ⟨hg19,hj2⟩:=Aa hj2;refine zq3 ?_;exact ⟨_,(),hj2,⟨rfl,trivial⟩,⟨rfl,rfl,rfl,trivial⟩,[_,_],rfl⟩
       ·refine Ar ?_
        exact ⟨_,(),Ac hj2,trivial,⟨rfl,rfl,rfl,trivial⟩,[],rfl⟩
      ·rintro _ _ hst
       subst hst
       replace hm2:=CT hm2
       refine Al (L':=[(2,_),(3,_),(10,_)]) (ms':=[]) rfl rfl ?_;refine zq2 ?_;obtain ⟨hg20,hm2⟩:=Aa hm2;refine zq3 ?_;exact ⟨_,(),hm2,⟨rfl,trivial⟩,⟨rfl,rfl,trivial⟩,[],rfl⟩
     ·refine Ar ?_
      exact ⟨_,(),Ac hj1,trivial,⟨rfl,rfl,trivial⟩,[],rfl⟩
    ·rintro _ _ hst
     subst hst
     replace hm1:=CT hm1
     refine Al (L':=[(2,_),(3,_)]) (ms':=[]) rfl rfl ?_;refine zq2 ?_;refine AG rfl rfl rfl (Au (xs:=[]) (f:=D.i64) (l:=[]) runUnderlying43 sizeOf3 zeroValue3 rfl rfl rfl (fun _=>⟨rfl,rfl,rfl⟩) rfl (by simp [maxLen])) ?_;rintro _ _ ⟨a_r1,rfl,rfl⟩;refine zq7 ?_;obtain ⟨o_3,hj3,hm3⟩:=bS hm1;refine Ag [(2,_),(3,_)] [] (fun (st:(List Int)) (hid:(Option Addr×Nat))=>match st,hid with | l1,(a_r1,cap_r1)=>[(14,.v (.slice a_r1 l1.length cap_r1))]) (fun F (st:(List Int)) (hid:(Option Addr×Nat))=>match st,hid with | l1,(a_r1,cap_r1)=>[row a_r1 cap_r1 3 1 D.i64 l1]) (fun st=>st=o_3) ⟨rfl,rfl,trivial⟩ trivial ?_ ?_
     ·refine Am ?_
      refine Ah [(2,_),(3,_)] [] (fun (st:(Int×(List Int))) (hid:(Option Addr×Nat))=>match st,hid with | (i2,l2),(a_r1,cap_r1)=>[(14,.v (.slice a_r1 l2.length cap_r1)),(15,.i64 i2)]) (fun F (st:(Int×(List Int))) (hid:(Option Addr×Nat))=>match st,hid with | (i2,l2),(a_r1,cap_r1)=>[row a_r1 cap_r1 3 1 D.i64 l2]) (_,_) hj3 (fun _=>rfl) ⟨rfl,rfl,trivial⟩ trivial ⟨rfl,rfl,trivial⟩ rfl ?_;rintro n ⟨i2,l2⟩ ⟨a_r1,cap_r1⟩ hj3;rw [BU] at hj3;refine Ao (L':=[(14,.v (.slice a_r1 l2.length cap_r1)),(15,.i64 i2),(2,_),(3,_)]) (ms':=[row a_r1 cap_r1 3 1 D.i64 l2]) rfl rfl ?_;refine zq6 ?_;refine zcn hj3 (fun hc9 hj3=>?_) (fun hc9 hj3=>?_)
      ·refine zq9 ?_
       obtain ⟨x19,hx21,hj3⟩:=bS hj3;refine zc0 (J1 hx21) ?_;refine zq2 ?_;refine zcn hj3 (fun hc10 hj3=>?_) (fun hc10 hj3=>?_)
       ·refine zq3 ?_
        refine Ai rfl rfl rfl (zs1 D.i64) ?_;obtain ⟨hg22,hj3⟩:=Aa hj3;refine zap 0 hg22 fun a_r1 cap_r1=>?_;refine Ak (ms':=[_]) rfl ?_;refine zq4 ?_;obtain ⟨hg23,hj3⟩:=Aa hj3;refine zq3 ?_;exact ⟨_,(_,_),hj3,⟨rfl,rfl,trivial⟩,⟨rfl,rfl,trivial⟩,[],rfl⟩
       ·refine zq3 ?_
        obtain ⟨hg24,hj3⟩:=Aa hj3;refine zq3 ?_;exact ⟨_,(_,_),hj3,⟨rfl,rfl,trivial⟩,⟨rfl,rfl,trivial⟩,[],rfl⟩
      ·refine Ar ?_
       exact ⟨_,(_,_),Ac hj3,⟨rfl,trivial⟩,⟨rfl,rfl,trivial⟩,[],rfl⟩
     ·rintro l1 ⟨a_r1,cap_r1⟩ hst
      subst hst;refine Al (L':=[(14,.v (.slice a_r1 l1.length cap_r1)),(2,_),(3,_)]) (ms':=[row a_r1 cap_r1 3 1 D.i64 l1]) rfl rfl ?_;refine zq4 ?_;refine Ai rfl rfl rfl (.view (peekE (i:=194) 0 rfl rfl rfl) (Fb runUnderlying43 rfl)) ?_;refine zq2 ?_;refine zcn hm3 (fun hc11 hm3=>?_) (fun hc11 hm3=>?_)
      ·refine zq3 ?_
       refine Ap (nilE (i:=4) (sz:=2) (f:=RSeq.d) rfl).refines ?_;refine zq2 ?_
       cases hm3;exact Ae zr2
      ·refine zq5 ?_
       refine Ai rfl rfl rfl (.view (peekE (i:=197) 0 rfl rfl rfl) (Fb runUnderlying43 rfl)) ?_;refine zq2 ?_;refine zcn hm3 (fun hc12 hm3=>?_) (fun hc12 hm3=>?_)
       ·refine zq3 ?_
        refine Ap (nilE (i:=4) (sz:=2) (f:=RSeq.d) rfl).refines ?_;refine zq2 ?_
        cases hm3;exact Ae zr2
       ·refine zq2 ?_
        obtain ⟨x20,hx25,hm3⟩:=bS hm3;obtain ⟨x21,hx26,hm3⟩:=bS hm3;obtain ⟨x22,hx27,hm3⟩:=bS hm3;obtain ⟨x23,hx28,hm3⟩:=bS hm3;obtain ⟨x24,hx29,hm3⟩:=bS hm3;obtain ⟨⟨x25,x26⟩,hx30,hm3⟩:=bS hm3;refine zdr 23 ?_;refine zq2 ?_;refine AC rfl rfl rfl (.view (peekE (i:=201) 0 rfl rfl rfl) (oIm runUnderlying43 sizeOf3 rfl rfl hx25)) ?_;refine zq5 ?_;refine AC rfl rfl rfl (.view (peekE (i:=207) 0 rfl rfl rfl) (oIm runUnderlying43 sizeOf3 rfl rfl hx26)) ?_;refine zq1 ?_;refine zcd (QL hx27) ?_;refine zq4 ?_;refine AC rfl rfl rfl (.view (peekE (i:=214) 0 rfl rfl rfl) (oIm runUnderlying43 sizeOf3 rfl rfl hx28)) ?_;refine zq1 ?_;refine zcd (QL hx29) ?_;refine zcd (Qa hx30) ?_;refine zq6 ?_
        cases hm3;exact Ae zr2
def Bz (s1:AutoState):Nat->(Int×(List Int))->Option (List Int)
 | 0,_=>none
 | n+1,(i1,l3) =>
  bif (decide (i1<(s1.fields.length:Int))) then
   (idx s1.fields i1).bind fun x1 =>
   grd ((l3.length+([x1.to_]:List _).length)*8<=140737488355328) <|
   grd (InR (i1+1)) <|
   Bz s1 n ((i1+1),(l3++[x1.to_]))
  else
   some l3
def Bx (s1:AutoState):Nat->(Int×(List Int))->Option (List Int)
 | 0,_=>none
 | n+1,(i2,l5) =>
  bif (decide (i2<(s1.tags.length:Int))) then
   (idx s1.tags i2).bind fun x2 =>
   grd ((l5.length+([x2.to_]:List _).length)*8<=140737488355328) <|
   grd (InR (i2+1)) <|
   Bx s1 n ((i2+1),(l5++[x2.to_]))
  else
   some l5
def B2 (s1:AutoState):Option (List Int):=
 (bif s1.arrow then
  some [s1.dom,s1.cod]
 else
  some []:Option (List Int)).bind fun l1 =>
 (Bz s1 FU (0,l1):Option (List Int)).bind fun l2 =>
 (Bx s1 FU (0,l2):Option (List Int)).bind fun l4 =>
 some l4
theorem FQ {s1:AutoState} {r_1:(List Int)} (hm:B2 s1=some r_1):Fn0 Tryz.prog 39 [AutoState.d s1] (.list 1 D.i64 r_1):=by
 unfold B2 at hm;refine Ad func39 rfl ntmps39 rfl fun H0 fr w0=>?_;refine zq4 ?_;refine Ap (nilE (i:=2) (sz:=1) (f:=D.i64) rfl).refines ?_;refine zq3 ?_;refine AG rfl rfl rfl (Au (xs:=[]) (f:=D.i64) (l:=[]) runUnderlying43 sizeOf3 zeroValue3 rfl rfl rfl (fun _=>⟨rfl,rfl,rfl⟩) rfl (by simp [maxLen])) ?_;rintro _ _ ⟨a_r1,rfl,rfl⟩;refine zq8 ?_;obtain ⟨o_1,hj1,hm1⟩:=bS hm;refine Ag [(1,_)] [] (fun (st:(List Int)) (hid:(Option Addr×Nat))=>match st,hid with | l1,(a_r1,cap_r1)=>[(3,.v (.slice a_r1 l1.length cap_r1))]) (fun F (st:(List Int)) (hid:(Option Addr×Nat))=>match st,hid with | l1,(a_r1,cap_r1)=>[row a_r1 cap_r1 3 1 D.i64 l1]) (fun st=>st=o_1) ⟨rfl,trivial⟩ trivial ?_ ?_
 ·refine zcn hj1 (fun hc1 hj1=>?_) (fun hc1 hj1=>?_)
  ·refine zq5 ?_
   refine AG rfl rfl rfl (Au (xs:=[_,_]) (f:=D.i64) (l:=[_,_]) runUnderlying43 sizeOf3 zeroValue3 rfl rfl rfl (fun _=>⟨rfl,rfl,rfl⟩) rfl (by simp [maxLen])) ?_;rintro _ _ ⟨a_r2,rfl,rfl⟩;refine zq1 ?_;refine Ap (GI 0 1 rfl rfl rfl rfl) ?_;refine gNl ?_;exact ⟨_,(_,_),Ac hj1,⟨rfl,trivial⟩,⟨rfl,trivial⟩,[],rfl⟩
  ·refine gSp ?_
   exact ⟨_,(_,_),Ac hj1,⟨rfl,trivial⟩,⟨rfl,trivial⟩,[],rfl⟩
 ·rintro l1 ⟨a_r1,cap_r1⟩ hst
  subst hst;refine Al (L':=[(3,.v (.slice a_r1 l1.length cap_r1)),(1,_)]) (ms':=[row a_r1 cap_r1 3 1 D.i64 l1]) rfl rfl ?_;refine zq5 ?_;obtain ⟨o_2,hj2,hm2⟩:=bS hm1;refine Ag [(1,_)] [] (fun (st:(List Int)) (hid:(Option Addr×Nat))=>match st,hid with | l2,(a_r1,cap_r1)=>[(3,.v (.slice a_r1 l2.length cap_r1))]) (fun F (st:(List Int)) (hid:(Option Addr×Nat))=>match st,hid with | l2,(a_r1,cap_r1)=>[row a_r1 cap_r1 3 1 D.i64 l2]) (fun st=>st=o_2) ⟨rfl,trivial⟩ trivial ?_ ?_
  ·refine Am ?_
   refine Ah [(1,_)] [] (fun (st:(Int×(List Int))) (hid:(Option Addr×Nat))=>match st,hid with | (i1,l3),(a_r1,cap_r1)=>[(3,.v (.slice a_r1 l3.length cap_r1)),(4,.i64 i1)]) (fun F (st:(Int×(List Int))) (hid:(Option Addr×Nat))=>match st,hid with | (i1,l3),(a_r1,cap_r1)=>[row a_r1 cap_r1 3 1 D.i64 l3]) (_,_) hj2 (fun _=>rfl) ⟨rfl,trivial⟩ trivial ⟨rfl,rfl,trivial⟩ rfl ?_;rintro n ⟨i1,l3⟩ ⟨a_r1,cap_r1⟩ hj2;rw [Bz] at hj2;refine Ao (L':=[(3,.v (.slice a_r1 l3.length cap_r1)),(4,.i64 i1),(1,_)]) (ms':=[row a_r1 cap_r1 3 1 D.i64 l3]) rfl rfl ?_;refine zq9 ?_;refine zcn hj2 (fun hc2 hj2=>?_) (fun hc2 hj2=>?_)
   ·refine zq8 ?_
    obtain ⟨x1,hx1,hj2⟩:=bS hj2;refine zq3 ?_;refine Ai rfl rfl rfl (zs1 D.i64) ?_;obtain ⟨hg2,hj2⟩:=Aa hj2;refine zap 0 hg2 fun a_r1 cap_r1=>?_;refine Ak (ms':=[_]) rfl ?_;refine zq4 ?_;obtain ⟨hg3,hj2⟩:=Aa hj2;refine zq3 ?_;exact ⟨_,(_,_),hj2,⟨rfl,rfl,trivial⟩,⟨rfl,trivial⟩,[],rfl⟩
   ·refine Ar ?_
    exact ⟨_,(_,_),Ac hj2,⟨rfl,trivial⟩,⟨rfl,trivial⟩,[],rfl⟩
  ·rintro l2 ⟨a_r1,cap_r1⟩ hst
   subst hst;refine Al (L':=[(3,.v (.slice a_r1 l2.length cap_r1)),(1,_)]) (ms':=[row a_r1 cap_r1 3 1 D.i64 l2]) rfl rfl ?_;refine zq5 ?_;obtain ⟨o_3,hj3,hm3⟩:=bS hm2;refine Ag [] [] (fun (st:(List Int)) (hid:(Option Addr×Nat))=>match st,hid with | l4,(a_r1,cap_r1)=>[(3,.v (.slice a_r1 l4.length cap_r1))]) (fun F (st:(List Int)) (hid:(Option Addr×Nat))=>match st,hid with | l4,(a_r1,cap_r1)=>[row a_r1 cap_r1 3 1 D.i64 l4]) (fun st=>st=o_3) trivial trivial ?_ ?_
   ·refine Am ?_
    refine Ah [(1,_)] [] (fun (st:(Int×(List Int))) (hid:(Option Addr×Nat))=>match st,hid with | (i2,l5),(a_r1,cap_r1)=>[(3,.v (.slice a_r1 l5.length cap_r1)),(5,.i64 i2)]) (fun F (st:(Int×(List Int))) (hid:(Option Addr×Nat))=>match st,hid with | (i2,l5),(a_r1,cap_r1)=>[row a_r1 cap_r1 3 1 D.i64 l5]) (_,_) hj3 (fun _=>rfl) ⟨rfl,trivial⟩ trivial ⟨rfl,rfl,trivial⟩ rfl ?_;rintro n ⟨i2,l5⟩ ⟨a_r1,cap_r1⟩ hj3;rw [Bx] at hj3;refine Ao (L':=[(3,.v (.slice a_r1 l5.length cap_r1)),(5,.i64 i2),(1,_)]) (ms':=[row a_r1 cap_r1 3 1 D.i64 l5]) rfl rfl ?_;refine zq9 ?_;refine zcn hj3 (fun hc3 hj3=>?_) (fun hc3 hj3=>?_)
    ·refine zq8 ?_
     obtain ⟨x2,hx4,hj3⟩:=bS hj3;refine zq3 ?_;refine Ai rfl rfl rfl (zs1 D.i64) ?_;obtain ⟨hg5,hj3⟩:=Aa hj3;refine zap 0 hg5 fun a_r1 cap_r1=>?_;refine Ak (ms':=[_]) rfl ?_;refine zq4 ?_;obtain ⟨hg6,hj3⟩:=Aa hj3;refine zq3 ?_;exact ⟨_,(_,_),hj3,⟨rfl,rfl,trivial⟩,⟨rfl,trivial⟩,[],rfl⟩
    ·refine Ar ?_
     exact ⟨_,(_,_),Ac hj3,⟨rfl,trivial⟩,trivial,[],rfl⟩
   ·rintro l4 ⟨a_r1,cap_r1⟩ hst
    subst hst;refine Al (L':=[(3,.v (.slice a_r1 l4.length cap_r1))]) (ms':=[row a_r1 cap_r1 3 1 D.i64 l4]) rfl rfl ?_;refine zq5 ?_;refine BM (peekE (i:=2) 0 rfl rfl rfl).refines ?_
    cases hm3;exact Ae zr1
def Ee (c1:UInt8):Option Bool:=
 some (((decide (97<=(c1.toNat:Int)))&&(decide ((c1.toNat:Int)<=122)))||(decide ((c1.toNat:Int)=95)))
theorem IV {c1:UInt8} {r_1:Bool} (hm:Ee c1=some r_1):Fn0 Tryz.prog 145 [.u8 c1] (.bool r_1):=by
 unfold Ee at hm;refine Ad func145 rfl ntmps145 rfl fun H0 fr w0=>?_;refine zq9 ?_
 apply Bm [(0,_)] 3 8 (t:=5) ⟨rfl,trivial⟩ rfl
 ·intro hg_1 hk1
  refine zq3 ?_;exact zgm hk1
 ·intro hg_1 hk1
  refine zq3 ?_;exact zgm hk1
 refine zq1 ?_
 apply AX [] 3 12 (t:=9) trivial rfl
 ·intro hg_2 hk2
  refine zq3 ?_;exact zgm hk2
 ·intro hg_2 hk2
  refine zq3 ?_;exact zgm hk2
 refine zq2 ?_
 cases hm;exact Ae zr1
def EN (c1:UInt8):Option Bool:=
 some ((decide (65<=(c1.toNat:Int)))&&(decide ((c1.toNat:Int)<=90)))
theorem I3 {c1:UInt8} {r_1:Bool} (hm:EN c1=some r_1):Fn0 Tryz.prog 147 [.u8 c1] (.bool r_1):=by
 unfold EN at hm;refine Ad func147 rfl ntmps147 rfl fun H0 fr w0=>?_;refine zq9 ?_
 apply Bm [] 3 8 (t:=5) trivial rfl
 ·intro hg_1 hk1
  refine zq3 ?_;exact zgm hk1
 ·intro hg_1 hk1
  refine zq3 ?_;exact zgm hk1
 refine zq2 ?_
 cases hm;exact Ae zr1
def Em (s1:(List UInt8)):Nat->Int->Option Int
 | 0,_=>none
 | n+1,n2 =>
  (bif (decide (n2<(s1.length:Int))) then ((idx s1 n2).bind fun c3 =>
  (Ee c3).bind fun x3 =>
  (bif x3 then (some true) else ((idx s1 n2).bind fun c4 =>
  (EN c4).bind fun x4 =>
  some x4)).bind fun p4 =>
  (bif p4 then (some true) else ((idx s1 n2).bind fun c5 =>
  (bif (decide (48<=(c5.toNat:Int))) then ((idx s1 n2).bind fun c6 =>
  some (decide ((c6.toNat:Int)<=57))) else (some false)).bind fun p6 =>
  some p6)).bind fun p5 =>
  some p5) else (some false)).bind fun p3 =>
  bif p3 then
   grd (InR (n2+1)) <|
   Em s1 n (n2+1)
  else
   some n2
def Fz (s1:(List UInt8)):Option Int:=
 (bif (decide ((s1.length:Int)=0)) then (some true) else ((idx s1 0).bind fun c1 =>
 (Ee c1).bind fun x1 =>
 (bif (!x1) then ((idx s1 0).bind fun c2 =>
 (EN c2).bind fun x2 =>
 some (!x2)) else (some false)).bind fun p2 =>
 some p2)).bind fun p1 =>
 bif p1 then
  some 0
 else
  (Em s1 FU 1:Option Int).bind fun n1 =>
  some n1
theorem Mj {s1:(List UInt8)} {r_1:Int} (hm:Fz s1=some r_1):Fn0 Tryz.prog 144 [.str s1] (.i64 r_1):=by
 unfold Fz at hm;refine Ad func144 rfl ntmps144 rfl fun H0 fr w0=>?_;refine zq8 ?_;refine Ai rfl rfl rfl (Dr runUnderlying9 rfl) ?_;refine zq2 ?_;obtain ⟨p1,hp_1,hm⟩:=bS hm;refine AF [(0,_)] 11 18 p1 (t:=7) ⟨rfl,trivial⟩ rfl (fun hg_1 hk1=>?_) (fun hg_1 hk1=>?_) ?_
 ·replace hp_1:=AD hg_1 hp_1
  refine zq11 ?_;exact zgb hk1 hp_1
 ·replace hp_1:=AE hg_1 hp_1
  refine zq1 ?_;obtain ⟨c1,hx1,hp_1⟩:=bS hp_1;refine gWp rfl rfl rfl hg_1 rfl rfl (CK runUnderlying9 rfl rfl hx1) ?_;obtain ⟨x1,hx2,hp_1⟩:=bS hp_1;refine zcw (IV hx2) ?_;refine zq2 ?_;obtain ⟨p2,hp_2,hp_1⟩:=bS hp_1;refine AF [(0,_),(7,_)] 5 17 p2 (t:=12) ⟨rfl,rfl,trivial⟩ rfl (fun hg_2 hk2=>?_) (fun hg_2 hk2=>?_) ?_
  ·replace hp_2:=AD hg_2 hp_2
   refine zq1 ?_;obtain ⟨c2,hx3,hp_2⟩:=bS hp_2;refine gWp rfl rfl rfl hg_2 rfl rfl (CK runUnderlying9 rfl rfl hx3) ?_;obtain ⟨x2,hx4,hp_2⟩:=bS hp_2;refine zcw (I3 hx4) ?_;refine zq2 ?_;exact zgb hk2 hp_2
  ·replace hp_2:=AE hg_2 hp_2
   refine zq5 ?_;exact zgb hk2 hp_2
  refine zq1 ?_;exact zgb hk1 hp_1
 refine gNl ?_;refine zcn hm (fun hc1 hm=>?_) (fun hc1 hm=>?_)
 ·refine zq4 ?_
  cases hm;exact Ae zr1
 ·refine zq6 ?_
  obtain ⟨o_1,hj1,hm1⟩:=bS hm;refine Ag [] [] (fun (st:Int) (hid:Unit)=>match st,hid with | n1,_=>[(3,.i64 n1)]) (fun F (st:Int) (hid:Unit)=>match st,hid with | n1,_=>[]) (fun st=>st=o_1) trivial trivial ?_ ?_
  ·refine Am ?_
   refine Ah [(0,_)] [] (fun (st:Int) (hid:Unit)=>match st,hid with | n2,_=>[(3,.i64 n2)]) (fun F (st:Int) (hid:Unit)=>match st,hid with | n2,_=>[]) () hj1 (fun _=>rfl) ⟨rfl,trivial⟩ trivial ⟨rfl,trivial⟩ rfl ?_;rintro n n2 _ hj1;rw [Em] at hj1;refine Ao (L':=[(3,.i64 n2),(0,_)]) (ms':=[]) rfl rfl ?_;refine zq5 ?_;refine Ai rfl rfl rfl (Dr runUnderlying9 rfl) ?_;refine zq2 ?_;obtain ⟨p3,hp_3,hj1⟩:=bS hj1;refine AF [(0,_),(3,_)] 23 46 p3 (t:=23) ⟨rfl,rfl,trivial⟩ rfl (fun hg_3 hk3=>?_) (fun hg_3 hk3=>?_) ?_
   ·replace hp_3:=AD hg_3 hp_3
    refine zq2 ?_;obtain ⟨c3,hx5,hp_3⟩:=bS hp_3;refine gWp rfl rfl rfl hg_3 rfl rfl (CK runUnderlying9 rfl rfl hx5) ?_;obtain ⟨x3,hx6,hp_3⟩:=bS hp_3;refine zcw (IV hx6) ?_;refine zq1 ?_;obtain ⟨p4,hp_4,hp_3⟩:=bS hp_3;refine AF [(0,_),(3,_),(23,_)] 5 33 p4 (t:=28) ⟨rfl,rfl,rfl,trivial⟩ rfl (fun hg_4 hk4=>?_) (fun hg_4 hk4=>?_) ?_
    ·replace hp_4:=AD hg_4 hp_4
     refine zq5 ?_;exact zgb hk4 hp_4
    ·replace hp_4:=AE hg_4 hp_4
     refine zq2 ?_;obtain ⟨c4,hx7,hp_4⟩:=bS hp_4;refine gWp rfl rfl rfl hg_4 rfl rfl (CK runUnderlying9 rfl rfl hx7) ?_;obtain ⟨x4,hx8,hp_4⟩:=bS hp_4;refine zcw (I3 hx8) ?_;refine zq1 ?_;exact zgb hk4 hp_4
    refine zq1 ?_;obtain ⟨p5,hp_5,hp_3⟩:=bS hp_3;refine AF [(0,_),(3,_),(23,_)] 11 45 p5 (t:=34) ⟨rfl,rfl,rfl,trivial⟩ rfl (fun hg_5 hk5=>?_) (fun hg_5 hk5=>?_) ?_
    ·replace hp_5:=AD hg_5 hp_5
     refine zq11 ?_;exact zgb hk5 hp_5
    ·replace hp_5:=AE hg_5 hp_5
     refine zq2 ?_;obtain ⟨c5,hx9,hp_5⟩:=bS hp_5;refine gWp rfl rfl rfl hg_5 rfl rfl (CK runUnderlying9 rfl rfl hx9) ?_;refine zq2 ?_;obtain ⟨p6,hp_6,hp_5⟩:=bS hp_5;refine AF [(0,_),(3,_),(23,_),(34,_)] 5 44 p6 (t:=39) ⟨rfl,rfl,rfl,rfl,trivial⟩ rfl (fun hg_6 hk6=>?_) (fun hg_6 hk6=>?_) ?_
     ·replace hp_6:=AD hg_6 hp_6
      refine zq2 ?_;obtain ⟨c6,hx10,hp_6⟩:=bS hp_6;refine gWp rfl rfl rfl hg_6 rfl rfl (CK runUnderlying9 rfl rfl hx10) ?_;refine zq2 ?_;exact zgb hk6 hp_6
     ·replace hp_6:=AE hg_6 hp_6
      refine zq5 ?_;exact zgb hk6 hp_6
     refine zq1 ?_;exact zgb hk5 hp_5
    refine zq1 ?_;exact zgb hk3 hp_3
   ·replace hp_3:=AE hg_3 hp_3
    refine zq23 ?_;exact zgb hk3 hp_3
   refine gNl ?_;refine zcn hj1 (fun hc2 hj1=>?_) (fun hc2 hj1=>?_)
   ·refine zq4 ?_
    obtain ⟨hg11,hj1⟩:=Aa hj1;refine zq3 ?_;exact ⟨_,(),hj1,⟨rfl,trivial⟩,⟨rfl,trivial⟩,[],rfl⟩
   ·refine Ar ?_
    exact ⟨_,(),Ac hj1,⟨rfl,trivial⟩,trivial,[],rfl⟩
  ·rintro n1 _ hst
   subst hst;refine Al (L':=[(3,.i64 n1)]) (ms':=[]) rfl rfl ?_;refine zq5 ?_
   cases hm1;exact Ae zr1
def FE  : Option (List (List UInt8)):=
 some [([102,117,110]:List UInt8),([108,101,116]:List UInt8),([114,101,99]:List UInt8),([105,110]:List UInt8),([105,102]:List UInt8),([116,104,101,110]:List UInt8),([101,108,115,101]:List UInt8),([99,97,115,101]:List UInt8),([111,102]:List UInt8),([101,110,100]:List UInt8),([116,114,117,101]:List UInt8),([102,97,108,115,101]:List UInt8),([99,104,101,99,107]:List UInt8),([97,115,107]:List UInt8),([116,111,112]:List UInt8),([98,111,116]:List UInt8),([105,110,116]:List UInt8),([98,111,111,108]:List UInt8),([115,116,114,105,110,103]:List UInt8),([109,117]:List UInt8)]
theorem LZ  {r_1:(List (List UInt8))} (hm:FE=some r_1):Fn0 Tryz.prog 171 [] (.list 1 D.str r_1):=by
 unfold FE at hm;refine Ad func171 rfl ntmps171 rfl fun H0 fr w0=>?_;refine zq3 ?_;refine Ap (nilE (i:=0) (sz:=1) (f:=D.str) rfl).refines ?_;refine zq3 ?_;refine Ai rfl rfl rfl (Aj (xs:=[_,_,_,_,_,_,_,_,_,_,_,_,_,_,_,_,_,_,_,_]) (f:=D.str) (l:=[_,_,_,_,_,_,_,_,_,_,_,_,_,_,_,_,_,_,_,_]) runUnderlying174 sizeOf9 zeroValue9 rfl rfl rfl (fun _=>⟨rfl,rfl,rfl⟩) rfl) ?_;refine zq2 ?_
 cases hm;exact Ae zr1
def F4 (s1:(List UInt8)):Option Bool:=
 (FE).bind fun x1 =>
 (Iz s1 x1).bind fun x2 =>
 some x2
theorem Nd {s1:(List UInt8)} {r_1:Bool} (hm:F4 s1=some r_1):Fn0 Tryz.prog 146 [.str s1] (.bool r_1):=by
 unfold F4 at hm;refine Ad func146 rfl ntmps146 rfl fun H0 fr w0=>?_;refine zq7 ?_;obtain ⟨x1,hx1,hm⟩:=bS hm;refine zc0 (LZ hx1) ?_;obtain ⟨x2,hx2,hm⟩:=bS hm;refine zc0 (Qm hx2) ?_;refine zq2 ?_
 cases hm;exact Ae zr1
def ES (s1:(List UInt8)):Option Bool:=
 (bif ((decide (0<(s1.length:Int)))&&(decide ((s1.length:Int)<=20))) then ((Fz s1).bind fun x1 =>
 some (decide (x1=(s1.length:Int)))) else (some false)).bind fun p1 =>
 (bif p1 then ((idx s1 0).bind fun c1 =>
 (Ee c1).bind fun x2 =>
 some x2) else (some false)).bind fun p2 =>
 (bif p2 then ((F4 s1).bind fun x3 =>
 some (!x3)) else (some false)).bind fun p3 =>
 some p3
theorem Ml {s1:(List UInt8)} {r_1:Bool} (hm:ES s1=some r_1):Fn0 Tryz.prog 102 [.str s1] (.bool r_1):=by
 unfold ES at hm;refine Ad func102 rfl ntmps102 rfl fun H0 fr w0=>?_;refine zq7 ?_;refine Ai rfl rfl rfl (Dr runUnderlying9 rfl) ?_;refine zq2 ?_
 apply Bm [(0,_)] 4 10 (t:=6) ⟨rfl,trivial⟩ rfl
 ·intro hg_1 hk1
  refine zq1 ?_;refine gWp rfl rfl rfl hg_1 rfl rfl (Dr runUnderlying9 rfl) ?_;refine zq2 ?_;exact zgm hk1
 ·intro hg_1 hk1
  refine zq4 ?_;exact zgm hk1
 refine zq1 ?_;obtain ⟨p1,hp_2,hm⟩:=bS hm;refine AF [(0,_)] 6 17 p1 (t:=11) ⟨rfl,trivial⟩ rfl (fun hg_2 hk2=>?_) (fun hg_2 hk2=>?_) ?_
 ·replace hp_2:=AD hg_2 hp_2
  refine zq1 ?_;obtain ⟨x1,hx1,hp_2⟩:=bS hp_2;refine zcw (Mj hx1) ?_;refine zq1 ?_;refine gWp rfl rfl rfl hg_2 rfl rfl (Dr runUnderlying9 rfl) ?_;refine zq2 ?_;exact zgb hk2 hp_2
 ·replace hp_2:=AE hg_2 hp_2
  refine zq6 ?_;exact zgb hk2 hp_2
 refine zq1 ?_;obtain ⟨p2,hp_3,hm⟩:=bS hm;refine AF [(0,_)] 4 22 p2 (t:=18) ⟨rfl,trivial⟩ rfl (fun hg_3 hk3=>?_) (fun hg_3 hk3=>?_) ?_
 ·replace hp_3:=AD hg_3 hp_3
  refine zq1 ?_;obtain ⟨c1,hx2,hp_3⟩:=bS hp_3;refine gWp rfl rfl rfl hg_3 rfl rfl (CK runUnderlying9 rfl rfl hx2) ?_;obtain ⟨x2,hx3,hp_3⟩:=bS hp_3;refine zcw (IV hx3) ?_;refine zq1 ?_;exact zgb hk3 hp_3
 ·replace hp_3:=AE hg_3 hp_3
  refine zq4 ?_;exact zgb hk3 hp_3
 refine zq1 ?_;obtain ⟨p3,hp_4,hm⟩:=bS hm;refine AF [] 4 27 p3 (t:=23) trivial rfl (fun hg_4 hk4=>?_) (fun hg_4 hk4=>?_) ?_
 ·replace hp_4:=AD hg_4 hp_4
  refine zq1 ?_;obtain ⟨x3,hx4,hp_4⟩:=bS hp_4;refine zcw (Nd hx4) ?_;refine zq2 ?_;exact zgb hk4 hp_4
 ·replace hp_4:=AE hg_4 hp_4
  refine zq4 ?_;exact zgb hk4 hp_4
 refine zq2 ?_
 cases hm;exact Ae zr1
def FI (s1:(List UInt8)):Option Bool:=
 (bif ((decide (0<(s1.length:Int)))&&(decide ((s1.length:Int)<=20))) then ((Fz s1).bind fun x1 =>
 some (decide (x1=(s1.length:Int)))) else (some false)).bind fun p1 =>
 (bif p1 then ((idx s1 0).bind fun c1 =>
 (EN c1).bind fun x2 =>
 some x2) else (some false)).bind fun p2 =>
 some p2
theorem N4 {s1:(List UInt8)} {r_1:Bool} (hm:FI s1=some r_1):Fn0 Tryz.prog 103 [.str s1] (.bool r_1):=by
 unfold FI at hm;refine Ad func103 rfl ntmps103 rfl fun H0 fr w0=>?_;refine zq7 ?_;refine Ai rfl rfl rfl (Dr runUnderlying9 rfl) ?_;refine zq2 ?_
 apply Bm [(0,_)] 4 10 (t:=6) ⟨rfl,trivial⟩ rfl
 ·intro hg_1 hk1
  refine zq1 ?_;refine gWp rfl rfl rfl hg_1 rfl rfl (Dr runUnderlying9 rfl) ?_;refine zq2 ?_;exact zgm hk1
 ·intro hg_1 hk1
  refine zq4 ?_;exact zgm hk1
 refine zq1 ?_;obtain ⟨p1,hp_2,hm⟩:=bS hm;refine AF [(0,_)] 6 17 p1 (t:=11) ⟨rfl,trivial⟩ rfl (fun hg_2 hk2=>?_) (fun hg_2 hk2=>?_) ?_
 ·replace hp_2:=AD hg_2 hp_2
  refine zq1 ?_;obtain ⟨x1,hx1,hp_2⟩:=bS hp_2;refine zcw (Mj hx1) ?_;refine zq1 ?_;refine gWp rfl rfl rfl hg_2 rfl rfl (Dr runUnderlying9 rfl) ?_;refine zq2 ?_;exact zgb hk2 hp_2
 ·replace hp_2:=AE hg_2 hp_2
  refine zq6 ?_;exact zgb hk2 hp_2
 refine zq1 ?_;obtain ⟨p2,hp_3,hm⟩:=bS hm;refine AF [] 4 22 p2 (t:=18) trivial rfl (fun hg_3 hk3=>?_) (fun hg_3 hk3=>?_) ?_
 ·replace hp_3:=AD hg_3 hp_3
  refine zq1 ?_;obtain ⟨c1,hx2,hp_3⟩:=bS hp_3;refine gWp rfl rfl rfl hg_3 rfl rfl (CK runUnderlying9 rfl rfl hx2) ?_;obtain ⟨x2,hx3,hp_3⟩:=bS hp_3;refine zcw (I3 hx3) ?_;refine zq1 ?_;exact zgb hk3 hp_3
 ·replace hp_3:=AE hg_3 hp_3
  refine zq4 ?_;exact zgb hk3 hp_3
 refine zq2 ?_
 cases hm;exact Ae zr1
def Bn (l1:(List AutoEdge)) (tags1:Bool):Nat->Int->Option (Out Bool Unit)
 | 0,_=>none
 | n+1,i1 =>
  bif (decide (i1<(l1.length:Int))) then
   (idx l1 i1).bind fun x1 =>
   (bif (!tags1) then ((ES x1.name).bind fun x2 =>
   some (!x2)) else (some false)).bind fun p1 =>
   (bif p1 then (some true) else ((bif tags1 then ((FI x1.name).bind fun x3 =>
   some (!x3)) else (some false)).bind fun p3 =>
   some p3)).bind fun p2 =>
   (bif p2 then (some true) else ((bif (decide (0<i1)) then (grd (InR (i1 - 1)) <|
   (idx l1 (i1 - 1)).bind fun x4 =>
   some (!Op.bytesLess x4.name x1.name)) else (some false)).bind fun p5 =>
   some p5)).bind fun p4 =>
   bif p4 then
    some (Out.ret false)
   else
    grd (InR (i1+1)) <|
    Bn l1 tags1 n (i1+1)
  else
   some (Out.go (()))
def BP (l1:(List AutoEdge)) (tags1:Bool):Option Bool:=
 ((Bn l1 tags1 FU 0:Option (Out Bool Unit))).bind (fun oo=>oo.on (fun r1=>some r1) (fun _ =>
 some (decide ((l1.length:Int)<=30))))
theorem Fq {l1:(List AutoEdge)} {tags1:Bool} {r_1:Bool} (hm:BP l1 tags1=some r_1):Fn0 Tryz.prog 71 [.list 2 AutoEdge.d l1,.bool tags1] (.bool r_1):=by
 unfold BP at hm;refine Ad func71 rfl ntmps71 rfl fun H0 fr w0=>?_;refine zq9 ?_;obtain ⟨o_1,hj1,hm1⟩:=bS hm;refine Ag [(0,_)] [] (fun (st:Unit) (hid:Unit)=>match st,hid with | _,_=>[]) (fun F (st:Unit) (hid:Unit)=>match st,hid with | _,_=>[]) (fun st=>Out.go (st)=o_1) ⟨rfl,trivial⟩ trivial ?_ ?_
 ·refine Am ?_
  refine Ah [(0,_),(1,_)] [] (fun (st:Int) (hid:Unit)=>match st,hid with | i1,_=>[(5,.i64 i1)]) (fun F (st:Int) (hid:Unit)=>match st,hid with | i1,_=>[]) () hj1 (fun _=>rfl) ⟨rfl,rfl,trivial⟩ trivial ⟨rfl,trivial⟩ rfl ?_;rintro n i1 _ hj1;rw [Bn] at hj1;refine Ao (L':=[(5,.i64 i1),(0,_),(1,_)]) (ms':=[]) rfl rfl ?_;refine zq8 ?_;refine zcn hj1 (fun hc1 hj1=>?_) (fun hc1 hj1=>?_)
  ·refine zq7 ?_
   obtain ⟨x1,hx1,hj1⟩:=bS hj1;refine zq10 ?_;obtain ⟨p1,hp_1,hj1⟩:=bS hj1;refine AF [(0,_),(1,_),(5,_),(6,_)] 4 24 p1 (t:=20) ⟨rfl,rfl,rfl,rfl,trivial⟩ rfl (fun hg_1 hk1=>?_) (fun hg_1 hk1=>?_) ?_
   ·replace hp_1:=AD hg_1 hp_1
    refine zq1 ?_;obtain ⟨x2,hx2,hp_1⟩:=bS hp_1;refine zcw (Ml hx2) ?_;refine zq2 ?_;exact zgb hk1 hp_1
   ·replace hp_1:=AE hg_1 hp_1
    refine zq4 ?_;exact zgb hk1 hp_1
   refine zq1 ?_;obtain ⟨p2,hp_2,hj1⟩:=bS hj1;refine AF [(0,_),(1,_),(5,_),(6,_)] 7 32 p2 (t:=25) ⟨rfl,rfl,rfl,rfl,trivial⟩ rfl (fun hg_2 hk2=>?_) (fun hg_2 hk2=>?_) ?_
   ·replace hp_2:=AD hg_2 hp_2
    refine zq7 ?_;exact zgb hk2 hp_2
   ·replace hp_2:=AE hg_2 hp_2
    refine zq2 ?_;obtain ⟨p3,hp_3,hp_2⟩:=bS hp_2;refine AF [(0,_),(1,_),(5,_),(6,_),(25,_)] 4 31 p3 (t:=27) ⟨rfl,rfl,rfl,rfl,rfl,trivial⟩ rfl (fun hg_3 hk3=>?_) (fun hg_3 hk3=>?_) ?_
    ·replace hp_3:=AD hg_3 hp_3
     refine zq1 ?_;obtain ⟨x3,hx3,hp_3⟩:=bS hp_3;refine zcw (N4 hx3) ?_;refine zq2 ?_;exact zgb hk3 hp_3
    ·replace hp_3:=AE hg_3 hp_3
     refine zq4 ?_;exact zgb hk3 hp_3
    refine zq1 ?_;exact zgb hk2 hp_2
   refine zq1 ?_;obtain ⟨p4,hp_4,hj1⟩:=bS hj1;refine AF [(0,_),(1,_),(5,_)] 13 46 p4 (t:=33) ⟨rfl,rfl,rfl,trivial⟩ rfl (fun hg_4 hk4=>?_) (fun hg_4 hk4=>?_) ?_
   ·replace hp_4:=AD hg_4 hp_4
    refine zq13 ?_;exact zgb hk4 hp_4
   ·replace hp_4:=AE hg_4 hp_4
    refine zq3 ?_;obtain ⟨p5,hp_5,hp_4⟩:=bS hp_4;refine AF [(0,_),(1,_),(5,_),(33,_)] 9 45 p5 (t:=36) ⟨rfl,rfl,rfl,rfl,trivial⟩ rfl (fun hg_5 hk5=>?_) (fun hg_5 hk5=>?_) ?_
    ·replace hp_5:=AD hg_5 hp_5
     refine zq2 ?_;obtain ⟨hg4,hp_5⟩:=Aa hp_5;refine zq1 ?_;obtain ⟨x4,hx5,hp_5⟩:=bS hp_5;refine zq6 ?_;exact zgb hk5 hp_5
    ·replace hp_5:=AE hg_5 hp_5
     refine zq9 ?_;exact zgb hk5 hp_5
    refine zq1 ?_;exact zgb hk4 hp_4
   refine gNl ?_;refine zcn hj1 (fun hc2 hj1=>?_) (fun hc2 hj1=>?_)
   ·refine zq4 ?_
    refine Ae ?_;obtain rfl:=Ac hj1
    replace hm1:=Bu hm1
    cases hm1;exact zr1
   ·refine zq3 ?_
    obtain ⟨hg6,hj1⟩:=Aa hj1;refine zq3 ?_;exact ⟨_,(),hj1,⟨rfl,trivial⟩,⟨rfl,rfl,trivial⟩,[],rfl⟩
  ·refine Ar ?_
   exact ⟨_,(),Ac hj1,trivial,⟨rfl,trivial⟩,[],rfl⟩
 ·rintro _ _ hst
  subst hst
  replace hm1:=CT hm1
  refine Al (L':=[(0,_)]) (ms':=[]) rfl rfl ?_;refine zq7 ?_
  cases hm1;exact Ae zr1
def A4 (s1:AutoState):Nat->Int->Option (Out Bool Unit)
 | 0,_=>none
 | n+1,i1 =>
  bif (decide (i1<(s1.vars.length:Int))) then
   (idx s1.vars i1).bind fun x1 =>
   bif (decide (x1<0)) then (some (Out.ret false)) else ((idx s1.vars i1).bind fun x2 =>
   bif (decide (999<x2)) then (some (Out.ret false)) else (bif (decide (0<i1)) then (grd (InR (i1 - 1)) <|
   (idx s1.vars (i1 - 1)).bind fun x3 =>
   (idx s1.vars i1).bind fun x4 =>
   bif (decide (x4<=x3)) then
    some (Out.ret false)
   else
    grd (InR (i1+1)) <|
    A4 s1 n (i1+1)) else (grd (InR (i1+1)) <|
   A4 s1 n (i1+1))))
  else
   some (Out.go (()))
def Bs (a1:AutoAuto) (s1:AutoState) (x5:(List Int)):Nat->Int->Option (Out Bool Unit)
 | 0,_=>none
 | n+1,i2 =>
  bif (decide (i2<(x5.length:Int))) then
   (idx x5 i2).bind fun x6 =>
   bif (decide (x6<0)) then (some (Out.ret false)) else ((idx x5 i2).bind fun x7 =>
   bif (decide ((a1.l.length:Int)<=x7)) then
    some (Out.ret false)
   else
    (idx x5 i2).bind fun x8 =>
    (idx a1.l x8).bind fun x9 =>
    bif ((x9.plus == s1.plus) == (s1.arrow&&(decide (i2=0)))) then
     some (Out.ret false)
    else
     grd (InR (i2+1)) <|
     Bs a1 s1 x5 n (i2+1))
  else
   some (Out.go (()))
def Ci (a1:AutoAuto) (s1:AutoState):Option Bool:=
 bif ((((s1.all&&((((((s1.int||s1.bool)||s1.str)||s1.arrow)||s1.rec_)||s1.tag)||(decide (0<(s1.vars.length:Int)))))||((!s1.arrow)&&((!decide (s1.dom=0))||(!decide (s1.cod=0)))))||((!s1.rec_)&&(decide (0<(s1.fields.length:Int)))))||((!s1.tag)&&(decide (0<(s1.tags.length:Int))))) then
  some false
 else
  ((A4 s1 FU 0:Option (Out Bool Unit))).bind (fun oo=>oo.on (fun r2=>some r2) (fun _ =>
  (B2 s1).bind fun x5 =>
  ((Bs a1 s1 x5 FU 0:Option (Out Bool Unit))).bind (fun oo=>oo.on (fun r1=>some r1) (fun _ =>
  (BP s1.fields false).bind fun x10 =>
  (bif x10 then ((BP s1.tags true).bind fun x11 =>
  some x11) else (some false)).bind fun p1 =>
  some p1))))
theorem HJ {a1:AutoAuto} {s1:AutoState} {r_1:Bool} (hm:Ci a1 s1=some r_1):Fn0 Tryz.prog 33 [AutoAuto.d a1,AutoState.d s1] (.bool r_1):=by
 unfold Ci at hm;refine Ad func33 rfl ntmps33 rfl fun H0 fr w0=>?_;refine zq12 ?_
 apply Bm [(2,_),(3,_)] 29 40 (t:=11) ⟨rfl,rfl,trivial⟩ rfl
 ·intro hg_1 hk1
  refine zq3 ?_
  apply AX [(2,_),(3,_),(11,_)] 3 17 (t:=14) ⟨rfl,rfl,rfl,trivial⟩ rfl
  ·intro hg_2 hk2
   refine zq3 ?_;exact zgm hk2
  ·intro hg_2 hk2
   refine zq3 ?_;exact zgm hk2
  refine zq1 ?_
  apply AX [(2,_),(3,_),(11,_)] 3 21 (t:=18) ⟨rfl,rfl,rfl,trivial⟩ rfl
  ·intro hg_3 hk3
   refine zq3 ?_;exact zgm hk3
  ·intro hg_3 hk3
   refine zq3 ?_;exact zgm hk3
  refine zq1 ?_
  apply AX [(2,_),(3,_),(11,_)] 3 25 (t:=22) ⟨rfl,rfl,rfl,trivial⟩ rfl
  ·intro hg_4 hk4
   refine zq3 ?_;exact zgm hk4
  ·intro hg_4 hk4
   refine zq3 ?_;exact zgm hk4
  refine zq1 ?_
  apply AX [(2,_),(3,_),(11,_)] 3 29 (t:=26) ⟨rfl,rfl,rfl,trivial⟩ rfl
  ·intro hg_5 hk5
   refine zq3 ?_;exact zgm hk5
  ·intro hg_5 hk5
   refine zq3 ?_;exact zgm hk5
  refine zq1 ?_
  apply AX [(2,_),(3,_),(11,_)] 3 33 (t:=30) ⟨rfl,rfl,rfl,trivial⟩ rfl
  ·intro hg_6 hk6
   refine zq3 ?_;exact zgm hk6
  ·intro hg_6 hk6
   refine zq3 ?_;exact zgm hk6
  refine zq1 ?_
  apply AX [(2,_),(3,_),(11,_)] 5 39 (t:=34) ⟨rfl,rfl,rfl,trivial⟩ rfl
  ·intro hg_7 hk7
   refine zq5 ?_;exact zgm hk7
  ·intro hg_7 hk7
   refine zq5 ?_;exact zgm hk7
  refine zq1 ?_;exact zgm hk1
 ·intro hg_1 hk1
  refine zq29 ?_;exact zgm hk1
 refine zq1 ?_
 apply AX [(2,_),(3,_)] 14 55 (t:=41) ⟨rfl,rfl,trivial⟩ rfl
 ·intro hg_8 hk8
  refine zq4 ?_
  apply Bm [(2,_),(3,_),(41,_)] 9 54 (t:=45) ⟨rfl,rfl,rfl,trivial⟩ rfl
  ·intro hg_9 hk9
   refine zq4 ?_
   apply AX [(2,_),(3,_),(41,_),(45,_)] 4 53 (t:=49) ⟨rfl,rfl,rfl,rfl,trivial⟩ rfl
   ·intro hg_10 hk10
    refine zq4 ?_;exact zgm hk10
   ·intro hg_10 hk10
    refine zq4 ?_;exact zgm hk10
   refine zq1 ?_;exact zgm hk9
  ·intro hg_9 hk9
   refine zq9 ?_;exact zgm hk9
  refine zq1 ?_;exact zgm hk8
 ·intro hg_8 hk8
  refine zq14 ?_;exact zgm hk8
 refine zq1 ?_
 apply AX [(2,_),(3,_)] 10 66 (t:=56) ⟨rfl,rfl,trivial⟩ rfl
 ·intro hg_11 hk11
  refine zq4 ?_
  apply Bm [(2,_),(3,_),(56,_)] 5 65 (t:=60) ⟨rfl,rfl,rfl,trivial⟩ rfl
  ·intro hg_12 hk12
   refine zq5 ?_;exact zgm hk12
  ·intro hg_12 hk12
   refine zq5 ?_;exact zgm hk12
  refine zq1 ?_;exact zgm hk11
 ·intro hg_11 hk11
  refine zq10 ?_;exact zgm hk11
 refine zq1 ?_
 apply AX [(2,_),(3,_)] 10 77 (t:=67) ⟨rfl,rfl,trivial⟩ rfl
 ·intro hg_13 hk13
  refine zq4 ?_
  apply Bm [(2,_),(3,_),(67,_)] 5 76 (t:=71) ⟨rfl,rfl,rfl,trivial⟩ rfl
  ·intro hg_14 hk14
   refine zq5 ?_;exact zgm hk14
  ·intro hg_14 hk14
   refine zq5 ?_;exact zgm hk14
  refine zq1 ?_;exact zgm hk13
 ·intro hg_13 hk13
  refine zq10 ?_;exact zgm hk13
 refine gNl ?_;refine zcn hm (fun hc1 hm=>?_) (fun hc1 hm=>?_)
 ·refine zq4 ?_
  cases hm;exact Ae zr1
 ·refine zq6 ?_
  obtain ⟨o_1,hj1,hm1⟩:=bS hm;refine Ag [(2,_),(3,_)] [] (fun (st:Unit) (hid:Unit)=>match st,hid with | _,_=>[]) (fun F (st:Unit) (hid:Unit)=>match st,hid with | _,_=>[]) (fun st=>Out.go (st)=o_1) ⟨rfl,rfl,trivial⟩ trivial ?_ ?_
  ·refine Am ?_
   refine Ah [(2,_),(3,_)] [] (fun (st:Int) (hid:Unit)=>match st,hid with | i1,_=>[(5,.i64 i1)]) (fun F (st:Int) (hid:Unit)=>match st,hid with | i1,_=>[]) () hj1 (fun _=>rfl) ⟨rfl,rfl,trivial⟩ trivial ⟨rfl,trivial⟩ rfl ?_;rintro n i1 _ hj1;rw [A4] at hj1;refine Ao (L':=[(5,.i64 i1),(2,_),(3,_)]) (ms':=[]) rfl rfl ?_;refine zq9 ?_;refine zcn hj1 (fun hc2 hj1=>?_) (fun hc2 hj1=>?_)
   ·refine zq4 ?_
    obtain ⟨x1,hx1,hj1⟩:=bS hj1
    rcases CQ hj1 with ⟨hg_15,hj1⟩ | ⟨hg_15,hj1⟩
    ·
     skip
     refine zdr 32 ?_;refine zq3 ?_;refine AC rfl rfl rfl (oIm runUnderlying43 sizeOf3 rfl rfl hx1) ?_;refine zq30 ?_;refine Bt rfl rfl ?_;refine zq4 ?_;refine Ae ?_;obtain rfl:=Ac hj1
     replace hm1:=Bu hm1
     cases hm1;exact zr1
    ·
     skip
     obtain ⟨x2,hx2,hj1⟩:=bS hj1
     rcases CQ hj1 with ⟨hg_16,hj1⟩ | ⟨hg_16,hj1⟩
     ·
      skip
      refine zdr 32 ?_;refine zq3 ?_;refine AC rfl rfl rfl (oIm runUnderlying43 sizeOf3 rfl rfl hx1) ?_;refine zq6 ?_;refine EL rfl rfl rfl hg_15 rfl rfl (oIm runUnderlying43 sizeOf3 rfl rfl hx2) ?_;refine zq23 ?_;refine Bt rfl rfl ?_;refine zq4 ?_;refine Ae ?_;obtain rfl:=Ac hj1
      replace hm1:=Bu hm1
      cases hm1;exact zr1
     ·
      skip
      rcases CQ hj1 with ⟨hg_17,hj1⟩ | ⟨hg_17,hj1⟩
      ·
       skip
       obtain ⟨hg3,hj1⟩:=Aa hj1;obtain ⟨x3,hx4,hj1⟩:=bS hj1;obtain ⟨x4,hx5,hj1⟩:=bS hj1;refine zdr 32 ?_;refine zq3 ?_;refine AC rfl rfl rfl (oIm runUnderlying43 sizeOf3 rfl rfl hx1) ?_;refine zq6 ?_;refine EL rfl rfl rfl hg_15 rfl rfl (oIm runUnderlying43 sizeOf3 rfl rfl hx2) ?_;refine zq11 ?_;refine EL rfl rfl rfl hg_17 rfl rfl (oIm runUnderlying43 sizeOf3 rfl rfl hx4) ?_;refine zq4 ?_;refine EL rfl rfl rfl hg_17 rfl rfl (oIm runUnderlying43 sizeOf3 rfl rfl hx5) ?_;refine zq6 ?_;refine zcn hj1 (fun hc3 hj1=>?_) (fun hc3 hj1=>?_)
       ·refine zq4 ?_
        refine Ae ?_;obtain rfl:=Ac hj1
        replace hm1:=Bu hm1
        cases hm1;exact zr1
       ·refine zq3 ?_
        obtain ⟨hg6,hj1⟩:=Aa hj1;refine zq3 ?_;exact ⟨_,(),hj1,⟨rfl,trivial⟩,⟨rfl,rfl,trivial⟩,[],rfl⟩
      ·
       skip
       refine zdr 32 ?_;refine zq3 ?_;refine AC rfl rfl rfl (oIm runUnderlying43 sizeOf3 rfl rfl hx1) ?_;refine zq6 ?_;refine EL rfl rfl rfl hg_15 rfl rfl (oIm runUnderlying43 sizeOf3 rfl rfl hx2) ?_;refine zq23 ?_;refine A3 rfl rfl ?_;refine zq3 ?_;obtain ⟨hg7,hj1⟩:=Aa hj1;refine zq3 ?_;exact ⟨_,(),hj1,⟨rfl,trivial⟩,⟨rfl,rfl,trivial⟩,[],rfl⟩
   ·refine Ar ?_
    exact ⟨_,(),Ac hj1,trivial,⟨rfl,rfl,trivial⟩,[],rfl⟩
  ·rintro _ _ hst
   subst hst
   replace hm1:=CT hm1
   refine Al (L':=[(2,_),(3,_)]) (ms':=[]) rfl rfl ?_;refine zq3 ?_;obtain ⟨x5,hx8,hm1⟩:=bS hm1;refine zc0 (FQ hx8) ?_;refine zq7 ?_;obtain ⟨o_2,hj2,hm2⟩:=bS hm1;refine Ag [(3,_)] [] (fun (st:Unit) (hid:Unit)=>match st,hid with | _,_=>[]) (fun F (st:Unit) (hid:Unit)=>match st,hid with | _,_=>[]) (fun st=>Out.go (st)=o_2) ⟨rfl,trivial⟩ trivial ?_ ?_
   ·refine Am ?_
    refine Ah [(2,_),(3,_),(6,_)] [] (fun (st:Int) (hid:Unit)=>match st,hid with | i2,_=>[(7,.i64 i2)]) (fun F (st:Int) (hid:Unit)=>match st,hid with | i2,_=>[]) () hj2 (fun _=>rfl) ⟨rfl,rfl,rfl,trivial⟩ trivial ⟨rfl,trivial⟩ rfl ?_;rintro n i2 _ hj2;rw [Bs] at hj2;refine Ao (L':=[(7,.i64 i2),(2,_),(3,_),(6,_)]) (ms':=[]) rfl rfl ?_;refine zq8 ?_;refine zcn hj2 (fun hc4 hj2=>?_) (fun hc4 hj2=>?_)
    ·refine zq5 ?_
     obtain ⟨x6,hx9,hj2⟩:=bS hj2
     rcases CQ hj2 with ⟨hg_18,hj2⟩ | ⟨hg_18,hj2⟩
     ·
      skip
      refine zdr 15 ?_;refine zq2 ?_;refine AC rfl rfl rfl (oIm runUnderlying43 sizeOf3 rfl rfl hx9) ?_;refine zq14 ?_;refine Bt rfl rfl ?_;refine zq4 ?_;refine Ae ?_;obtain rfl:=Ac hj2
      replace hm2:=Bu hm2
      cases hm2;exact zr1
     ·
      skip
      obtain ⟨x7,hx10,hj2⟩:=bS hj2;refine zdr 15 ?_;refine zq2 ?_;refine AC rfl rfl rfl (oIm runUnderlying43 sizeOf3 rfl rfl hx9) ?_;refine zq5 ?_;refine EL rfl rfl rfl hg_18 rfl rfl (oIm runUnderlying43 sizeOf3 rfl rfl hx10) ?_;refine zq8 ?_;refine zcn hj2 (fun hc5 hj2=>?_) (fun hc5 hj2=>?_)
      ·refine zq4 ?_
       refine Ae ?_;obtain rfl:=Ac hj2
       replace hm2:=Bu hm2
       cases hm2;exact zr1
      ·refine zq2 ?_
       obtain ⟨x8,hx11,hj2⟩:=bS hj2;obtain ⟨x9,hx12,hj2⟩:=bS hj2;refine zdr 13 ?_;refine zq4 ?_;refine AC rfl rfl rfl (oIm runUnderlying43 sizeOf3 rfl rfl hx11) ?_;refine zq1 ?_;refine AC rfl rfl rfl (oIm runUnderlying22 sizeOf46 rfl rfl hx12) ?_;refine zq14 ?_
       apply Bm [(2,_),(3,_),(6,_),(7,_),(152,_)] 3 158 (t:=155) ⟨rfl,rfl,rfl,rfl,rfl,trivial⟩ rfl
       ·intro hg_19 hk19
        refine zq3 ?_;exact zgm hk19
       ·intro hg_19 hk19
        refine zq3 ?_;exact zgm hk19
       refine zq2 ?_;refine zcn hj2 (fun hc6 hj2=>?_) (fun hc6 hj2=>?_)
       ·refine zq4 ?_
        refine Ae ?_;obtain rfl:=Ac hj2
        replace hm2:=Bu hm2
        cases hm2;exact zr1
       ·refine zq3 ?_
        obtain ⟨hg13,hj2⟩:=Aa hj2;refine zq3 ?_;exact ⟨_,(),hj2,⟨rfl,trivial⟩,⟨rfl,rfl,rfl,trivial⟩,[],rfl⟩
    ·refine Ar ?_
     exact ⟨_,(),Ac hj2,trivial,⟨rfl,trivial⟩,[],rfl⟩
   ·rintro _ _ hst
    subst hst
    replace hm2:=CT hm2
    refine Al (L':=[(3,_)]) (ms':=[]) rfl rfl ?_;refine zq4 ?_;obtain ⟨x10,hx14,hm2⟩:=bS hm2;refine zc0 (Fq hx14) ?_;refine zq1 ?_;obtain ⟨p1,hp_20,hm2⟩:=bS hm2;refine AF [] 4 167 p1 (t:=163) trivial rfl (fun hg_20 hk20=>?_) (fun hg_20 hk20=>?_) ?_
    ·replace hp_20:=AD hg_20 hp_20
     refine zq2 ?_;obtain ⟨x11,hx15,hp_20⟩:=bS hp_20;refine zcw (Fq hx15) ?_;refine zq1 ?_;exact zgb hk20 hp_20
    ·replace hp_20:=AE hg_20 hp_20
     refine zq4 ?_;exact zgb hk20 hp_20
    refine zq2 ?_
    cases hm2;exact Ae zr1
def BF (a1:AutoAuto):Nat->Int->Option (Out Int Unit)
 | 0,_=>none
 | n+1,i1 =>
  bif (decide (i1<(a1.l.length:Int))) then
   (idx a1.l i1).bind fun x1 =>
   (Ci a1 x1).bind fun x2 =>
   bif (!x2) then
    some (Out.ret 4)
   else
    grd (InR (i1+1)) <|
    BF a1 n (i1+1)
  else
   some (Out.go (()))
def CA (a1:AutoAuto):Option Int:=
 bif ((decide ((a1.l.length:Int)<1))||(decide (2000<(a1.l.length:Int)))) then
  some 8
 else
  ((BF a1 FU 0:Option (Out Int Unit))).bind (fun oo=>oo.on (fun r1=>some r1) (fun _ =>
  (bif ((decide (a1.start<0))||(decide ((a1.l.length:Int)<=a1.start))) then (some true) else ((idx a1.l a1.start).bind fun x3 =>
  some (!x3.plus))).bind fun p1 =>
  bif p1 then
   some 4
  else
   some 0))
theorem IL {a1:AutoAuto} {r_1:Int} (hm:CA a1=some r_1):Fn0 Tryz.prog 10 [AutoAuto.d a1] (.i64 r_1):=by
 unfold CA at hm;refine Ad func10 rfl ntmps10 rfl fun H0 fr w0=>?_;refine zq13 ?_
 apply AX [(1,_)] 5 13 (t:=8) ⟨rfl,trivial⟩ rfl
 ·intro hg_1 hk1
  refine zq5 ?_;exact zgm hk1
 ·intro hg_1 hk1
  refine zq5 ?_;exact zgm hk1
 refine gNl ?_;refine zcn hm (fun hc1 hm=>?_) (fun hc1 hm=>?_)
 ·refine zq4 ?_
  cases hm;exact Ae zr1
 ·refine zq6 ?_
  obtain ⟨o_1,hj1,hm1⟩:=bS hm;refine Ag [(1,_)] [] (fun (st:Unit) (hid:Unit)=>match st,hid with | _,_=>[]) (fun F (st:Unit) (hid:Unit)=>match st,hid with | _,_=>[]) (fun st=>Out.go (st)=o_1) ⟨rfl,trivial⟩ trivial ?_ ?_
  ·refine Am ?_
   refine Ah [(1,_)] [] (fun (st:Int) (hid:Unit)=>match st,hid with | i1,_=>[(3,.i64 i1)]) (fun F (st:Int) (hid:Unit)=>match st,hid with | i1,_=>[]) () hj1 (fun _=>rfl) ⟨rfl,trivial⟩ trivial ⟨rfl,trivial⟩ rfl ?_;rintro n i1 _ hj1;rw [BF] at hj1;refine Ao (L':=[(3,.i64 i1),(1,_)]) (ms':=[]) rfl rfl ?_;refine zq9 ?_;refine zcn hj1 (fun hc2 hj1=>?_) (fun hc2 hj1=>?_)
   ·refine zq4 ?_
    obtain ⟨x1,hx1,hj1⟩:=bS hj1;obtain ⟨x2,hx2,hj1⟩:=bS hj1;refine zdr 8 ?_;refine zq6 ?_;refine zcd (HJ hx2) ?_;refine zq3 ?_;refine zcn hj1 (fun hc3 hj1=>?_) (fun hc3 hj1=>?_)
    ·refine zq4 ?_
     refine Ae ?_;obtain rfl:=Ac hj1
     replace hm1:=Bu hm1
     cases hm1;exact zr1
    ·refine zq3 ?_
     obtain ⟨hg3,hj1⟩:=Aa hj1;refine zq3 ?_;exact ⟨_,(),hj1,⟨rfl,trivial⟩,⟨rfl,trivial⟩,[],rfl⟩
   ·refine Ar ?_
    exact ⟨_,(),Ac hj1,trivial,⟨rfl,trivial⟩,[],rfl⟩
  ·rintro _ _ hst
   subst hst
   replace hm1:=CT hm1
   refine Al (L':=[(1,_)]) (ms':=[]) rfl rfl ?_;refine zq7 ?_
   apply AX [(1,_)] 7 39 (t:=32) ⟨rfl,trivial⟩ rfl
   ·intro hg_2 hk2
    refine zq7 ?_;exact zgm hk2
   ·intro hg_2 hk2
    refine zq7 ?_;exact zgm hk2
   refine zq1 ?_;obtain ⟨p1,hp_3,hm1⟩:=bS hm1;refine AF [] 9 49 p1 (t:=40) trivial rfl (fun hg_3 hk3=>?_) (fun hg_3 hk3=>?_) ?_
   ·replace hp_3:=AD hg_3 hp_3
    refine zq9 ?_;exact zgb hk3 hp_3
   ·replace hp_3:=AE hg_3 hp_3
    refine zq4 ?_;obtain ⟨x3,hx4,hp_3⟩:=bS hp_3;refine zq5 ?_;exact zgb hk3 hp_3
   refine gNl ?_;refine zcn hm1 (fun hc4 hm1=>?_) (fun hc4 hm1=>?_)
   ·refine zq4 ?_
    cases hm1;exact Ae zr1
   ·refine zq5 ?_
    cases hm1;exact Ae zr1
def Ep (n1:ANd):Nat->(Int×(List Int))->Option (List Int)
 | 0,_=>none
 | n+1,(i1,l2) =>
  bif (decide (i1<(n1.l.length:Int))) then
   (idx n1.l i1).bind fun x1 =>
   grd ((l2.length+([x1.at_]:List _).length)*8<=140737488355328) <|
   grd (InR (i1+1)) <|
   Ep n1 n ((i1+1),(l2++[x1.at_]))
  else
   some l2
def EY (n1:ANd):Option (List Int):=
 bif (((decide (n1.kind=6))||(decide (n1.kind=9)))||(decide (n1.kind=10))) then
  some [n1.a,n1.b]
 else
  bif ((decide (n1.kind=7))||(decide (n1.kind=8))) then
   (Ep n1 FU (0,[]):Option (List Int)).bind fun l1 =>
   some l1
  else
   some []
theorem Iu {n1:ANd} {r_1:(List Int)} (hm:EY n1=some r_1):Fn0 Tryz.prog 37 [ANd.d n1] (.list 1 D.i64 r_1):=by
 unfold EY at hm;refine Ad func37 rfl ntmps37 rfl fun H0 fr w0=>?_;refine zq4 ?_;refine Ap (nilE (i:=2) (sz:=1) (f:=D.i64) rfl).refines ?_;refine zq8 ?_
 apply AX [(1,_)] 4 12 (t:=8) ⟨rfl,trivial⟩ rfl
 ·intro hg_1 hk1
  refine zq4 ?_;exact zgm hk1
 ·intro hg_1 hk1
  refine zq4 ?_;exact zgm hk1
 refine zq1 ?_
 apply AX [(1,_)] 4 17 (t:=13) ⟨rfl,trivial⟩ rfl
 ·intro hg_2 hk2
  refine zq4 ?_;exact zgm hk2
 ·intro hg_2 hk2
  refine zq4 ?_;exact zgm hk2
 refine gNl ?_;refine zcn hm (fun hc1 hm=>?_) (fun hc1 hm=>?_)
 ·refine zq6 ?_
  refine Ai rfl rfl rfl (zs2 D.i64) ?_;refine zq2 ?_
  cases hm;exact Ae zr1
 ·refine zq3 ?_
  refine AG rfl rfl rfl (Au (xs:=[]) (f:=D.i64) (l:=[]) runUnderlying43 sizeOf3 zeroValue3 rfl rfl rfl (fun _=>⟨rfl,rfl,rfl⟩) rfl (by simp [maxLen])) ?_;rintro _ _ ⟨a_r1,rfl,rfl⟩;refine zq9 ?_
  apply AX [(1,_),(3,_)] 4 31 (t:=27) ⟨rfl,rfl,trivial⟩ rfl
  ·intro hg_3 hk3
   refine zq4 ?_;exact zgm hk3
  ·intro hg_3 hk3
   refine zq4 ?_;exact zgm hk3
  refine gNl ?_;refine zcn hm (fun hc2 hm=>?_) (fun hc2 hm=>?_)
  ·refine zq4 ?_
   obtain ⟨o_1,hj1,hm1⟩:=bS hm;refine Ag [] [] (fun (st:(List Int)) (hid:(Option Addr×Nat))=>match st,hid with | l1,(a_r1,cap_r1)=>[(3,.v (.slice a_r1 l1.length cap_r1))]) (fun F (st:(List Int)) (hid:(Option Addr×Nat))=>match st,hid with | l1,(a_r1,cap_r1)=>[row a_r1 cap_r1 3 1 D.i64 l1]) (fun st=>st=o_1) trivial trivial ?_ ?_
   ·refine Am ?_
    refine Ah [(1,_)] [] (fun (st:(Int×(List Int))) (hid:(Option Addr×Nat))=>match st,hid with | (i1,l2),(a_r1,cap_r1)=>[(3,.v (.slice a_r1 l2.length cap_r1)),(4,.i64 i1)]) (fun F (st:(Int×(List Int))) (hid:(Option Addr×Nat))=>match st,hid with | (i1,l2),(a_r1,cap_r1)=>[row a_r1 cap_r1 3 1 D.i64 l2]) (_,_) hj1 (fun _=>rfl) ⟨rfl,trivial⟩ trivial ⟨rfl,rfl,trivial⟩ rfl ?_;rintro n ⟨i1,l2⟩ ⟨a_r1,cap_r1⟩ hj1;rw [Ep] at hj1;refine Ao (L':=[(3,.v (.slice a_r1 l2.length cap_r1)),(4,.i64 i1),(1,_)]) (ms':=[row a_r1 cap_r1 3 1 D.i64 l2]) rfl rfl ?_;refine zq9 ?_;refine zcn hj1 (fun hc3 hj1=>?_) (fun hc3 hj1=>?_)
    ·refine zq8 ?_
     obtain ⟨x1,hx1,hj1⟩:=bS hj1;refine zq3 ?_;refine Ai rfl rfl rfl (zs1 D.i64) ?_;obtain ⟨hg2,hj1⟩:=Aa hj1;refine zap 0 hg2 fun a_r1 cap_r1=>?_;refine Ak (ms':=[_]) rfl ?_;refine zq4 ?_;obtain ⟨hg3,hj1⟩:=Aa hj1;refine zq3 ?_;exact ⟨_,(_,_),hj1,⟨rfl,rfl,trivial⟩,⟨rfl,trivial⟩,[],rfl⟩
    ·refine Ar ?_
     exact ⟨_,(_,_),Ac hj1,⟨rfl,trivial⟩,trivial,[],rfl⟩
   ·rintro l1 ⟨a_r1,cap_r1⟩ hst
    subst hst;refine Al (L':=[(3,.v (.slice a_r1 l1.length cap_r1))]) (ms':=[row a_r1 cap_r1 3 1 D.i64 l1]) rfl rfl ?_;refine zq5 ?_;refine BM (peekE (i:=2) 0 rfl rfl rfl).refines ?_
    cases hm1;exact Ae zr1
  ·refine zq6 ?_
   refine BM (peekE (i:=2) 0 rfl rfl rfl).refines ?_
   cases hm;exact Ae zr1
def Dl (n1:ANd):Nat->Int->Option (Out Bool Unit)
 | 0,_=>none
 | n+1,i1 =>
  bif (decide (i1<(n1.l.length:Int))) then
   (idx n1.l i1).bind fun x1 =>
   (bif (decide (n1.kind=7)) then ((ES x1.name).bind fun x2 =>
   some (!x2)) else (some false)).bind fun p1 =>
   (bif p1 then (some true) else ((bif (decide (n1.kind=8)) then ((FI x1.name).bind fun x3 =>
   some (!x3)) else (some false)).bind fun p3 =>
   some p3)).bind fun p2 =>
   (bif p2 then (some true) else ((bif (decide (0<i1)) then (grd (InR (i1 - 1)) <|
   (idx n1.l (i1 - 1)).bind fun x4 =>
   some (!Op.bytesLess x4.name x1.name)) else (some false)).bind fun p5 =>
   some p5)).bind fun p4 =>
   bif p4 then
    some (Out.ret false)
   else
    grd (InR (i1+1)) <|
    Dl n1 n (i1+1)
  else
   some (Out.go (()))
def Dd (all1:Int) (x5:(List Int)):Nat->Int->Option (Out Bool Unit)
 | 0,_=>none
 | n+1,i2 =>
  bif (decide (i2<(x5.length:Int))) then
   (idx x5 i2).bind fun x6 =>
   (bif (decide (x6<0)) then (some true) else ((idx x5 i2).bind fun x7 =>
   some (decide (all1<=x7)))).bind fun p6 =>
   bif p6 then
    some (Out.ret false)
   else
    grd (InR (i2+1)) <|
    Dd all1 x5 n (i2+1)
  else
   some (Out.go (()))
def Gl (n1:ANd) (all1:Int):Option Bool:=
 bif ((((((decide (n1.kind<1))||(decide (11<n1.kind)))||(((!(((decide (n1.kind=6))||(decide (n1.kind=9)))||(decide (n1.kind=10))))&&(!decide (n1.kind=11)))&&(!decide (n1.a=0))))||((!(((decide (n1.kind=6))||(decide (n1.kind=9)))||(decide (n1.kind=10))))&&(!decide (n1.b=0))))||((!((decide (n1.kind=7))||(decide (n1.kind=8))))&&(decide (0<(n1.l.length:Int)))))||(decide (30<(n1.l.length:Int)))) then
  some false
 else
  bif ((decide (n1.kind=11))&&((decide (n1.a<0))||(decide (999<n1.a)))) then
   some false
  else
   ((Dl n1 FU 0:Option (Out Bool Unit))).bind (fun oo=>oo.on (fun r2=>some r2) (fun _ =>
   (EY n1).bind fun x5 =>
   ((Dd all1 x5 FU 0:Option (Out Bool Unit))).bind (fun oo=>oo.on (fun r1=>some r1) (fun _ =>
   some true))))
theorem PM {n1:ANd} {all1:Int} {r_1:Bool} (hm:Gl n1 all1=some r_1):Fn0 Tryz.prog 72 [ANd.d n1,.i64 all1] (.bool r_1):=by
 unfold Gl at hm;refine Ad func72 rfl ntmps72 rfl fun H0 fr w0=>?_;refine zq11 ?_
 apply AX [(1,_),(2,_)] 4 18 (t:=14) ⟨rfl,rfl,trivial⟩ rfl
 ·intro hg_1 hk1
  refine zq4 ?_;exact zgm hk1
 ·intro hg_1 hk1
  refine zq4 ?_;exact zgm hk1
 refine zq1 ?_
 apply AX [(1,_),(2,_)] 4 23 (t:=19) ⟨rfl,rfl,trivial⟩ rfl
 ·intro hg_2 hk2
  refine zq4 ?_;exact zgm hk2
 ·intro hg_2 hk2
  refine zq4 ?_;exact zgm hk2
 refine zq8 ?_
 apply AX [(1,_),(2,_),(5,_)] 4 31 (t:=27) ⟨rfl,rfl,rfl,trivial⟩ rfl
 ·intro hg_3 hk3
  refine zq4 ?_;exact zgm hk3
 ·intro hg_3 hk3
  refine zq4 ?_;exact zgm hk3
 refine zq9 ?_
 apply AX [(1,_),(2,_),(5,_),(6,_)] 4 39 (t:=35) ⟨rfl,rfl,rfl,rfl,trivial⟩ rfl
 ·intro hg_4 hk4
  refine zq4 ?_;exact zgm hk4
 ·intro hg_4 hk4
  refine zq4 ?_;exact zgm hk4
 refine zq1 ?_
 apply AX [(1,_),(2,_),(5,_),(6,_)] 13 53 (t:=40) ⟨rfl,rfl,rfl,rfl,trivial⟩ rfl
 ·intro hg_5 hk5
  refine zq3 ?_
  apply Bm [(1,_),(2,_),(5,_),(6,_),(40,_)] 4 47 (t:=43) ⟨rfl,rfl,rfl,rfl,rfl,trivial⟩ rfl
  ·intro hg_6 hk6
   refine zq4 ?_;exact zgm hk6
  ·intro hg_6 hk6
   refine zq4 ?_;exact zgm hk6
  refine zq1 ?_
  apply Bm [(1,_),(2,_),(5,_),(6,_),(40,_)] 4 52 (t:=48) ⟨rfl,rfl,rfl,rfl,rfl,trivial⟩ rfl
  ·intro hg_7 hk7
   refine zq4 ?_;exact zgm hk7
  ·intro hg_7 hk7
   refine zq4 ?_;exact zgm hk7
  refine zq1 ?_;exact zgm hk5
 ·intro hg_5 hk5
  refine zq13 ?_;exact zgm hk5
 refine zq1 ?_
 apply AX [(1,_),(2,_),(6,_)] 8 62 (t:=54) ⟨rfl,rfl,rfl,trivial⟩ rfl
 ·intro hg_8 hk8
  refine zq3 ?_
  apply Bm [(1,_),(2,_),(6,_),(54,_)] 4 61 (t:=57) ⟨rfl,rfl,rfl,rfl,trivial⟩ rfl
  ·intro hg_9 hk9
   refine zq4 ?_;exact zgm hk9
  ·intro hg_9 hk9
   refine zq4 ?_;exact zgm hk9
  refine zq1 ?_;exact zgm hk8
 ·intro hg_8 hk8
  refine zq8 ?_;exact zgm hk8
 refine zq1 ?_
 apply AX [(1,_),(2,_)] 9 72 (t:=63) ⟨rfl,rfl,trivial⟩ rfl
 ·intro hg_10 hk10
  refine zq3 ?_
  apply Bm [(1,_),(2,_),(63,_)] 5 71 (t:=66) ⟨rfl,rfl,rfl,trivial⟩ rfl
  ·intro hg_11 hk11
   refine zq5 ?_;exact zgm hk11
  ·intro hg_11 hk11
   refine zq5 ?_;exact zgm hk11
  refine zq1 ?_;exact zgm hk10
 ·intro hg_10 hk10
  refine zq9 ?_;exact zgm hk10
 refine zq1 ?_
 apply AX [(1,_),(2,_)] 5 78 (t:=73) ⟨rfl,rfl,trivial⟩ rfl
 ·intro hg_12 hk12
  refine zq5 ?_;exact zgm hk12
 ·intro hg_12 hk12
  refine zq5 ?_;exact zgm hk12
 refine gNl ?_;refine zcn hm (fun hc1 hm=>?_) (fun hc1 hm=>?_)
 ·refine zq4 ?_
  cases hm;exact Ae zr1
 ·refine zq8 ?_
  apply Bm [(1,_),(2,_)] 9 91 (t:=82) ⟨rfl,rfl,trivial⟩ rfl
  ·intro hg_13 hk13
   refine zq4 ?_
   apply AX [(1,_),(2,_),(82,_)] 4 90 (t:=86) ⟨rfl,rfl,rfl,trivial⟩ rfl
   ·intro hg_14 hk14
    refine zq4 ?_;exact zgm hk14
   ·intro hg_14 hk14
    refine zq4 ?_;exact zgm hk14
   refine zq1 ?_;exact zgm hk13
  ·intro hg_13 hk13
   refine zq9 ?_;exact zgm hk13
  refine gNl ?_;refine zcn hm (fun hc2 hm=>?_) (fun hc2 hm=>?_)
  ·refine zq4 ?_
   cases hm;exact Ae zr1
  ·refine zq6 ?_
   obtain ⟨o_1,hj1,hm1⟩:=bS hm;refine Ag [(1,_),(2,_)] [] (fun (st:Unit) (hid:Unit)=>match st,hid with | _,_=>[]) (fun F (st:Unit) (hid:Unit)=>match st,hid with | _,_=>[]) (fun st=>Out.go (st)=o_1) ⟨rfl,rfl,trivial⟩ trivial ?_ ?_
   ·refine Am ?_
    refine Ah [(1,_),(2,_)] [] (fun (st:Int) (hid:Unit)=>match st,hid with | i1,_=>[(7,.i64 i1)]) (fun F (st:Int) (hid:Unit)=>match st,hid with | i1,_=>[]) () hj1 (fun _=>rfl) ⟨rfl,rfl,trivial⟩ trivial ⟨rfl,trivial⟩ rfl ?_;rintro n i1 _ hj1;rw [Dl] at hj1;refine Ao (L':=[(7,.i64 i1),(1,_),(2,_)]) (ms':=[]) rfl rfl ?_;refine zq9 ?_;refine zcn hj1 (fun hc3 hj1=>?_) (fun hc3 hj1=>?_)
    ·refine zq8 ?_
     obtain ⟨x1,hx1,hj1⟩:=bS hj1;refine Ai rfl rfl rfl (oIm runUnderlying47 sizeOf71 rfl rfl hx1) ?_;refine zq10 ?_;obtain ⟨p1,hp_15,hj1⟩:=bS hj1;refine AF [(1,_),(2,_),(7,_),(8,_)] 4 112 p1 (t:=108) ⟨rfl,rfl,rfl,rfl,trivial⟩ rfl (fun hg_15 hk15=>?_) (fun hg_15 hk15=>?_) ?_
     ·replace hp_15:=AD hg_15 hp_15
      refine zq1 ?_;obtain ⟨x2,hx2,hp_15⟩:=bS hp_15;refine zcw (Ml hx2) ?_;refine zq2 ?_;exact zgb hk15 hp_15
     ·replace hp_15:=AE hg_15 hp_15
      refine zq4 ?_;exact zgb hk15 hp_15
     refine zq1 ?_;obtain ⟨p2,hp_16,hj1⟩:=bS hj1;refine AF [(1,_),(2,_),(7,_),(8,_)] 9 122 p2 (t:=113) ⟨rfl,rfl,rfl,rfl,trivial⟩ rfl (fun hg_16 hk16=>?_) (fun hg_16 hk16=>?_) ?_
     ·replace hp_16:=AD hg_16 hp_16
      refine zq9 ?_;exact zgb hk16 hp_16
     ·replace hp_16:=AE hg_16 hp_16
      refine zq4 ?_;obtain ⟨p3,hp_17,hp_16⟩:=bS hp_16;refine AF [(1,_),(2,_),(7,_),(8,_),(113,_)] 4 121 p3 (t:=117) ⟨rfl,rfl,rfl,rfl,rfl,trivial⟩ rfl (fun hg_17 hk17=>?_) (fun hg_17 hk17=>?_) ?_
      ·replace hp_17:=AD hg_17 hp_17
       refine zq1 ?_;obtain ⟨x3,hx3,hp_17⟩:=bS hp_17;refine zcw (N4 hx3) ?_;refine zq2 ?_;exact zgb hk17 hp_17
      ·replace hp_17:=AE hg_17 hp_17
       refine zq4 ?_;exact zgb hk17 hp_17
      refine zq1 ?_;exact zgb hk16 hp_16
     refine zq1 ?_;obtain ⟨p4,hp_18,hj1⟩:=bS hj1;refine AF [(1,_),(2,_),(7,_)] 14 137 p4 (t:=123) ⟨rfl,rfl,rfl,trivial⟩ rfl (fun hg_18 hk18=>?_) (fun hg_18 hk18=>?_) ?_
     ·replace hp_18:=AD hg_18 hp_18
      refine zq14 ?_;exact zgb hk18 hp_18
     ·replace hp_18:=AE hg_18 hp_18
      refine zq3 ?_;obtain ⟨p5,hp_19,hp_18⟩:=bS hp_18;refine AF [(1,_),(2,_),(7,_),(123,_)] 10 136 p5 (t:=126) ⟨rfl,rfl,rfl,rfl,trivial⟩ rfl (fun hg_19 hk19=>?_) (fun hg_19 hk19=>?_) ?_
      ·replace hp_19:=AD hg_19 hp_19
       refine zq3 ?_;obtain ⟨hg4,hp_19⟩:=Aa hp_19;refine zq1 ?_;obtain ⟨x4,hx5,hp_19⟩:=bS hp_19;refine gWp rfl rfl rfl hg_19 rfl rfl (oIm runUnderlying47 sizeOf71 rfl rfl hx5) ?_;refine zq5 ?_;exact zgb hk19 hp_19
      ·replace hp_19:=AE hg_19 hp_19
       refine zq10 ?_;exact zgb hk19 hp_19
      refine zq1 ?_;exact zgb hk18 hp_18
     refine gNl ?_;refine zcn hj1 (fun hc4 hj1=>?_) (fun hc4 hj1=>?_)
     ·refine zq4 ?_
      refine Ae ?_;obtain rfl:=Ac hj1
      replace hm1:=Bu hm1
      cases hm1;exact zr1
     ·refine zq3 ?_
      obtain ⟨hg6,hj1⟩:=Aa hj1;refine zq3 ?_;exact ⟨_,(),hj1,⟨rfl,trivial⟩,⟨rfl,rfl,trivial⟩,[],rfl⟩
    ·refine Ar ?_
     exact ⟨_,(),Ac hj1,trivial,⟨rfl,rfl,trivial⟩,[],rfl⟩
   ·rintro _ _ hst
    subst hst
    replace hm1:=CT hm1
    refine Al (L':=[(1,_),(2,_)]) (ms':=[]) rfl rfl ?_;refine zq3 ?_;obtain ⟨x5,hx7,hm1⟩:=bS hm1;refine zc0 (Iu hx7) ?_;refine zq7 ?_;obtain ⟨o_2,hj2,hm2⟩:=bS hm1;refine Ag [] [] (fun (st:Unit) (hid:Unit)=>match st,hid with | _,_=>[]) (fun F (st:Unit) (hid:Unit)=>match st,hid with | _,_=>[]) (fun st=>Out.go (st)=o_2) trivial trivial ?_ ?_
    ·refine Am ?_
     refine Ah [(1,_),(9,_)] [] (fun (st:Int) (hid:Unit)=>match st,hid with | i2,_=>[(10,.i64 i2)]) (fun F (st:Int) (hid:Unit)=>match st,hid with | i2,_=>[]) () hj2 (fun _=>rfl) ⟨rfl,rfl,trivial⟩ trivial ⟨rfl,trivial⟩ rfl ?_;rintro n i2 _ hj2;rw [Dd] at hj2;refine Ao (L':=[(10,.i64 i2),(1,_),(9,_)]) (ms':=[]) rfl rfl ?_;refine zq8 ?_;refine zcn hj2 (fun hc5 hj2=>?_) (fun hc5 hj2=>?_)
     ·refine zq7 ?_
      obtain ⟨x6,hx8,hj2⟩:=bS hj2;refine Ai rfl rfl rfl (oIm runUnderlying43 sizeOf3 rfl rfl hx8) ?_;refine zq3 ?_;obtain ⟨p6,hp_20,hj2⟩:=bS hj2;refine AF [(1,_),(9,_),(10,_)] 7 158 p6 (t:=151) ⟨rfl,rfl,rfl,trivial⟩ rfl (fun hg_20 hk20=>?_) (fun hg_20 hk20=>?_) ?_
      ·replace hp_20:=AD hg_20 hp_20
       refine zq7 ?_;exact zgb hk20 hp_20
      ·replace hp_20:=AE hg_20 hp_20
       refine zq2 ?_;obtain ⟨x7,hx9,hp_20⟩:=bS hp_20;refine gWp rfl rfl rfl hg_20 rfl rfl (oIm runUnderlying43 sizeOf3 rfl rfl hx9) ?_;refine zq4 ?_;exact zgb hk20 hp_20
      refine gNl ?_;refine zcn hj2 (fun hc6 hj2=>?_) (fun hc6 hj2=>?_)
      ·refine zq4 ?_
       refine Ae ?_;obtain rfl:=Ac hj2
       replace hm2:=Bu hm2
       cases hm2;exact zr1
      ·refine zq3 ?_
       obtain ⟨hg10,hj2⟩:=Aa hj2;refine zq3 ?_;exact ⟨_,(),hj2,⟨rfl,trivial⟩,⟨rfl,rfl,trivial⟩,[],rfl⟩
     ·refine Ar ?_
      exact ⟨_,(),Ac hj2,trivial,trivial,[],rfl⟩
    ·rintro _ _ hst
     subst hst
     replace hm2:=CT hm2
     refine Al (L':=[]) (ms':=[]) rfl rfl ?_;refine zq4 ?_
     cases hm2;exact Ae zr1
def Ed (t1:ATy):Nat->Int->Option (Out Int Unit)
 | 0,_=>none
 | n+1,i1 =>
  bif (decide (i1<(t1.l.length:Int))) then
   (idx t1.l i1).bind fun x1 =>
   (Gl x1 (t1.l.length:Int)).bind fun x2 =>
   bif (!x2) then
    some (Out.ret 4)
   else
    grd (InR (i1+1)) <|
    Ed t1 n (i1+1)
  else
   some (Out.go (()))
def Dx (t1:ATy):Nat->(Bool×Int×(List Bool))->Option (Bool×(List Bool))
 | 0,_=>none
 | n+1,(more3,i2,l4) =>
  bif (decide (i2<(t1.l.length:Int))) then
   (idx t1.l i2).bind fun x3 =>
   (bif ((!decide (x3.kind=9))&&(!decide (x3.kind=10))) then (some true) else ((idx l4 x3.a).bind fun x4 =>
   (bif x4 then ((idx l4 x3.b).bind fun x5 =>
   some x5) else (some false)).bind fun p2 =>
   some p2)).bind fun p1 =>
   (bif p1 then ((idx l4 i2).bind fun x6 =>
   some (!x6)) else (some false)).bind fun p3 =>
   bif p3 then
    (idx l4 i2).bind fun x7 =>
    grd (InR (i2+1)) <|
    Dx t1 n (true,(i2+1),(l4.set (i2).toNat true))
   else
    grd (InR (i2+1)) <|
    Dx t1 n (more3,(i2+1),l4)
  else
   some (more3,l4)
def D3 (t1:ATy):Nat->(Bool×(List Bool))->Option (List Bool)
 | 0,_=>none
 | n+1,(more1,l2) =>
  bif more1 then
   (Dx t1 FU (false,0,l2):Option (Bool×(List Bool))).bind fun (more2,l3) =>
   D3 t1 n (more2,l3)
  else
   some l2
def D8 (l1:(List Bool)):Nat->Int->Option (Out Int Unit)
 | 0,_=>none
 | n+1,i3 =>
  bif (decide (i3<(l1.length:Int))) then
   (idx l1 i3).bind fun x8 =>
   bif (!x8) then
    some (Out.ret 4)
   else
    grd (InR (i3+1)) <|
    D8 l1 n (i3+1)
  else
   some (Out.go (()))
def HK (t1:ATy):Option Int:=
 bif ((decide ((t1.l.length:Int)<1))||(decide (2000<(t1.l.length:Int)))) then
  some 8
 else
  bif ((decide (t1.root<0))||(decide ((t1.l.length:Int)<=t1.root))) then
   some 4
  else
   ((Ed t1 FU 0:Option (Out Int Unit))).bind (fun oo=>oo.on (fun r2=>some r2) (fun _ =>
   grd (0<=(t1.l.length:Int)) <|
   grd (((t1.l.length:Int)).toNat*1<=140737488355328) <|
   (D3 t1 FU (true,(List.replicate ((t1.l.length:Int)).toNat (false:Bool))):Option (List Bool)).bind fun l1 =>
   ((D8 l1 FU 0:Option (Out Int Unit))).bind (fun oo=>oo.on (fun r1=>some r1) (fun _ =>
   some 0))))
theorem Te {t1:ATy} {r_1:Int} (hm:HK t1=some r_1):Fn0 Tryz.prog 34 [ATy.d t1] (.i64 r_1):=by
 unfold HK at hm;refine Ad func34 rfl ntmps34 rfl fun H0 fr w0=>?_;refine zq13 ?_
 apply AX [(1,_)] 5 19 (t:=14) ⟨rfl,trivial⟩ rfl
 ·intro hg_1 hk1
  refine zq5 ?_;exact zgm hk1
 ·intro hg_1 hk1
  refine zq5 ?_;exact zgm hk1
 refine gNl ?_;refine zcn hm (fun hc1 hm=>?_) (fun hc1 hm=>?_)
 ·refine zq4 ?_
  cases hm;exact Ae zr1
 ·refine zq8 ?_
  apply AX [(1,_)] 7 30 (t:=23) ⟨rfl,trivial⟩ rfl
  ·intro hg_2 hk2
   refine zq7 ?_;exact zgm hk2
  ·intro hg_2 hk2
   refine zq7 ?_;exact zgm hk2
  refine gNl ?_;refine zcn hm (fun hc2 hm=>?_) (fun hc2 hm=>?_)
  ·refine zq4 ?_
   cases hm;exact Ae zr1
  ·refine zq6 ?_
   obtain ⟨o_1,hj1,hm1⟩:=bS hm;refine Ag [(1,_)] [] (fun (st:Unit) (hid:Unit)=>match st,hid with | _,_=>[]) (fun F (st:Unit) (hid:Unit)=>match st,hid with | _,_=>[]) (fun st=>Out.go (st)=o_1) ⟨rfl,trivial⟩ trivial ?_ ?_
   ·refine Am ?_
    refine Ah [(1,_)] [] (fun (st:Int) (hid:Unit)=>match st,hid with | i1,_=>[(3,.i64 i1)]) (fun F (st:Int) (hid:Unit)=>match st,hid with | i1,_=>[]) () hj1 (fun _=>rfl) ⟨rfl,trivial⟩ trivial ⟨rfl,trivial⟩ rfl ?_;rintro n i1 _ hj1;rw [Ed] at hj1;refine Ao (L':=[(3,.i64 i1),(1,_)]) (ms':=[]) rfl rfl ?_;refine zq9 ?_;refine zcn hj1 (fun hc3 hj1=>?_) (fun hc3 hj1=>?_)
    ·refine zq4 ?_
     obtain ⟨x1,hx1,hj1⟩:=bS hj1;obtain ⟨x2,hx2,hj1⟩:=bS hj1;refine zdr 10 ?_;refine zq3 ?_;refine AC rfl rfl rfl (oIm runUnderlying29 sizeOf49 rfl rfl hx1) ?_;refine zq4 ?_;refine zcd (PM hx2) ?_;refine zq3 ?_;refine zcn hj1 (fun hc4 hj1=>?_) (fun hc4 hj1=>?_)
     ·refine zq4 ?_
      refine Ae ?_;obtain rfl:=Ac hj1
      replace hm1:=Bu hm1
      cases hm1;exact zr1
     ·refine zq3 ?_
      obtain ⟨hg3,hj1⟩:=Aa hj1;refine zq3 ?_;exact ⟨_,(),hj1,⟨rfl,trivial⟩,⟨rfl,trivial⟩,[],rfl⟩
    ·refine Ar ?_
     exact ⟨_,(),Ac hj1,trivial,⟨rfl,trivial⟩,[],rfl⟩
   ·rintro _ _ hst
    subst hst
    replace hm1:=CT hm1
    refine Al (L':=[(1,_)]) (ms':=[]) rfl rfl ?_;refine zq5 ?_;obtain ⟨hg4,hm1⟩:=Aa hm1;obtain ⟨hg5,hm1⟩:=Aa hm1;refine AG rfl rfl rfl (C3 (f:=D.bool) (z0:=false) underlying78 type4 rfl rfl rfl (nB rfl) rfl rfl hg4 hg5 (nB rfl)) ?_;rintro _ _ ⟨a_r1,m_r1,cap_r1,rfl,rfl⟩;refine zq7 ?_;obtain ⟨o_2,hj2,hm2⟩:=bS hm1;refine Ag [(4,_)] [] (fun (st:(List Bool)) (hid:Unit)=>match st,hid with | l1,_=>[]) (fun F (st:(List Bool)) (hid:Unit)=>match st,hid with | l1,_=>[arr a_r1 m_r1 cap_r1 4 1 D.bool l1]) (fun st=>st=o_2) ⟨rfl,trivial⟩ trivial ?_ ?_
    ·refine Am ?_
     refine Ah [(1,_),(4,_)] [] (fun (st:(Bool×(List Bool))) (hid:Unit)=>match st,hid with | (more1,l2),_=>[(5,.bool more1)]) (fun F (st:(Bool×(List Bool))) (hid:Unit)=>match st,hid with | (more1,l2),_=>[arr a_r1 m_r1 cap_r1 4 1 D.bool l2]) () hj2 (fun _=>rfl) ⟨rfl,rfl,trivial⟩ trivial ⟨rfl,trivial⟩ rfl ?_;rintro n ⟨more1,l2⟩ ⟨⟩ hj2;rw [D3] at hj2;refine Ao (L':=[(5,.bool more1),(1,_),(4,_)]) (ms':=[arr a_r1 m_r1 cap_r1 4 1 D.bool l2]) rfl rfl ?_;refine zq5 ?_;refine zcn hj2 (fun hc5 hj2=>?_) (fun hc5 hj2=>?_)
     ·refine zq10 ?_
      obtain ⟨o_3,hj3,hm3⟩:=bS hj2;refine Ag [(1,_),(4,_)] [] (fun (st:(Bool×(List Bool))) (hid:Unit)=>match st,hid with | (more2,l3),_=>[(5,.bool more2)]) (fun F (st:(Bool×(List Bool))) (hid:Unit)=>match st,hid with | (more2,l3),_=>[arr a_r1 m_r1 cap_r1 4 1 D.bool l3]) (fun st=>st=o_3) ⟨rfl,rfl,trivial⟩ trivial ?_ ?_
      ·refine Am ?_
       refine Ah [(1,_),(4,_)] [] (fun (st:(Bool×Int×(List Bool))) (hid:Unit)=>match st,hid with | (more3,i2,l4),_=>[(5,.bool more3),(6,.i64 i2)]) (fun F (st:(Bool×Int×(List Bool))) (hid:Unit)=>match st,hid with | (more3,i2,l4),_=>[arr a_r1 m_r1 cap_r1 4 1 D.bool l4]) () hj3 (fun _=>rfl) ⟨rfl,rfl,trivial⟩ trivial ⟨rfl,rfl,trivial⟩ rfl ?_;rintro n ⟨more3,i2,l4⟩ ⟨⟩ hj3;rw [Dx] at hj3;refine Ao (L':=[(5,.bool more3),(6,.i64 i2),(1,_),(4,_)]) (ms':=[arr a_r1 m_r1 cap_r1 4 1 D.bool l4]) rfl rfl ?_;refine zq9 ?_;refine zcn hj3 (fun hc6 hj3=>?_) (fun hc6 hj3=>?_)
       ·refine zq8 ?_
        obtain ⟨x3,hx6,hj3⟩:=bS hj3;refine Ai rfl rfl rfl (oIm runUnderlying29 sizeOf49 rfl rfl hx6) ?_;refine zq1 ?_;refine LB fun b1=>?_;refine zst 0 ?_;refine Ak (ms':=[box b1 49 [_,_,_,_],_]) rfl ?_;refine zq7 ?_
        apply Bm [(1,_),(4,_),(5,_),(6,_),(7,_)] 4 72 (t:=68) ⟨rfl,rfl,rfl,rfl,rfl,trivial⟩ rfl
        ·intro hg_3 hk3
         refine zq4 ?_;exact zgm hk3
        ·intro hg_3 hk3
         refine zq4 ?_;exact zgm hk3
        refine zq1 ?_;obtain ⟨p1,hp_4,hj3⟩:=bS hj3;refine AF [(1,_),(4,_),(5,_),(6,_)] 13 86 p1 (t:=73) ⟨rfl,rfl,rfl,rfl,trivial⟩ rfl (fun hg_4 hk4=>?_) (fun hg_4 hk4=>?_) ?_
        ·replace hp_4:=AD hg_4 hp_4
         refine zq13 ?_;exact zgb hk4 hp_4
        ·replace hp_4:=AE hg_4 hp_4
         refine zq3 ?_;obtain ⟨x4,hx7,hp_4⟩:=bS hp_4;refine gWp rfl rfl rfl hg_4 rfl rfl (Af 1 runUnderlying78 sizeOf4 rfl rfl rfl hx7) ?_;refine gWp rfl rfl rfl hg_4 rfl rfl (AL (off:=0) 1 isAgg4 rfl rfl (Av hx7).2 rfl rfl rfl) ?_;refine zq1 ?_;obtain ⟨p2,hp_5,hp_4⟩:=bS hp_4;refine AF [(1,_),(4,_),(5,_),(6,_),(73,_)] 6 85 p2 (t:=79) ⟨rfl,rfl,rfl,rfl,rfl,trivial⟩ rfl (fun hg_5 hk5=>?_) (fun hg_5 hk5=>?_) ?_
         ·replace hp_5:=AD hg_5 hp_5
          refine zq3 ?_;obtain ⟨x5,hx8,hp_5⟩:=bS hp_5;refine gWp rfl rfl rfl hg_5 rfl rfl (Af 1 runUnderlying78 sizeOf4 rfl rfl rfl hx8) ?_;refine gWp rfl rfl rfl hg_5 rfl rfl (AL (off:=0) 1 isAgg4 rfl rfl (Av hx8).2 rfl rfl rfl) ?_;refine zq1 ?_;exact zgb hk5 hp_5
         ·replace hp_5:=AE hg_5 hp_5
          refine zq6 ?_;exact zgb hk5 hp_5
         refine zq1 ?_;exact zgb hk4 hp_4
        refine zq6 ?_;obtain ⟨p3,hp_6,hj3⟩:=bS hj3;refine AF [(1,_),(4,_),(5,_),(6,_)] 6 94 p3 (t:=88) ⟨rfl,rfl,rfl,rfl,trivial⟩ rfl (fun hg_6 hk6=>?_) (fun hg_6 hk6=>?_) ?_
        ·replace hp_6:=AD hg_6 hp_6
         refine zq2 ?_;obtain ⟨x6,hx9,hp_6⟩:=bS hp_6;refine gWp rfl rfl rfl hg_6 rfl rfl (Af 1 runUnderlying78 sizeOf4 rfl rfl rfl hx9) ?_;refine gWp rfl rfl rfl hg_6 rfl rfl (AL (off:=0) 1 isAgg4 rfl rfl (Av hx9).2 rfl rfl rfl) ?_;refine zq2 ?_;exact zgb hk6 hp_6
        ·replace hp_6:=AE hg_6 hp_6
         refine zq6 ?_;exact zgb hk6 hp_6
        refine gNl ?_;refine zcn hj3 (fun hc7 hj3=>?_) (fun hc7 hj3=>?_)
        ·refine zq3 ?_
         obtain ⟨x7,hx10,hj3⟩:=bS hj3;refine Ai rfl rfl rfl (Af 1 runUnderlying78 sizeOf4 rfl rfl rfl hx10) ?_;refine H6 rfl rfl (AV (off:=0) (z':=true) 1 sizeOf4 rfl rfl (Av hx10).2 rfl rfl rfl rfl rfl rfl (nB rfl) rfl rfl) ?_;rintro _ _ rfl;refine Ak (ms':=[box b1 49 [_,_,_,_],_]) rfl ?_;refine zq4 ?_;obtain ⟨hg11,hj3⟩:=Aa hj3;refine zq3 ?_;exact ⟨_,(),hj3,⟨rfl,rfl,trivial⟩,⟨rfl,rfl,trivial⟩,[_],rfl⟩
        ·refine zq3 ?_
         obtain ⟨hg12,hj3⟩:=Aa hj3;refine zq3 ?_;exact ⟨_,(),hj3,⟨rfl,rfl,trivial⟩,⟨rfl,rfl,trivial⟩,[_],rfl⟩
       ·refine Ar ?_
        exact ⟨_,(),Ac hj3,⟨rfl,trivial⟩,⟨rfl,rfl,trivial⟩,[],rfl⟩
      ·rintro ⟨more2,l3⟩ ⟨⟩ hst
       subst hst;refine Al (L':=[(5,.bool more2),(1,_),(4,_)]) (ms':=[arr a_r1 m_r1 cap_r1 4 1 D.bool l3]) rfl rfl ?_;exact ⟨_,(),hm3,⟨rfl,trivial⟩,⟨rfl,rfl,trivial⟩,[],rfl⟩
     ·refine Ar ?_
      exact ⟨_,(),Ac hj2,trivial,⟨rfl,trivial⟩,[],rfl⟩
    ·rintro l1 ⟨⟩ hst
     subst hst;refine Al (L':=[(4,_)]) (ms':=[arr a_r1 m_r1 cap_r1 4 1 D.bool l1]) rfl rfl ?_;refine zq5 ?_;obtain ⟨o_4,hj4,hm4⟩:=bS hm2;refine Ag [] [(0,_)] (fun (st:Unit) (hid:Unit)=>match st,hid with | _,_=>[]) (fun F (st:Unit) (hid:Unit)=>match st,hid with | _,_=>[(nthF F 0)]) (fun st=>Out.go (st)=o_4) trivial ⟨rfl,trivial⟩ ?_ ?_
     ·refine Am ?_
      refine Ah [(4,_)] [(0,_)] (fun (st:Int) (hid:Unit)=>match st,hid with | i3,_=>[(9,.i64 i3)]) (fun F (st:Int) (hid:Unit)=>match st,hid with | i3,_=>[(nthF F 0)]) () hj4 (fun _=>rfl) ⟨rfl,trivial⟩ ⟨rfl,trivial⟩ ⟨rfl,trivial⟩ rfl ?_;rintro n i3 _ hj4;rw [D8] at hj4;refine Ao (L':=[(9,.i64 i3),(4,_)]) (ms':=[_]) rfl rfl ?_;refine zq5 ?_;refine Ai rfl rfl rfl (Ca 0 runUnderlying78 rfl rfl) ?_;refine zq2 ?_;refine zcn hj4 (fun hc8 hj4=>?_) (fun hc8 hj4=>?_)
      ·refine zq7 ?_
       obtain ⟨x8,hx13,hj4⟩:=bS hj4;refine Ai rfl rfl rfl (Af 0 runUnderlying78 sizeOf4 rfl rfl rfl hx13) ?_;refine Ai rfl rfl rfl (AL (off:=0) 0 isAgg4 rfl rfl (Av hx13).2 rfl rfl rfl) ?_;refine zq2 ?_;refine zcn hj4 (fun hc9 hj4=>?_) (fun hc9 hj4=>?_)
       ·refine zq4 ?_
        refine Ae ?_;obtain rfl:=Ac hj4
        replace hm4:=Bu hm4
        cases hm4;exact zr1
       ·refine zq3 ?_
        obtain ⟨hg14,hj4⟩:=Aa hj4;refine zq3 ?_;exact ⟨_,(),hj4,⟨rfl,trivial⟩,⟨rfl,trivial⟩,[],rfl⟩
      ·refine Ar ?_
       exact ⟨_,(),Ac hj4,trivial,trivial,[],rfl⟩
     ·rintro _ _ hst
      subst hst
      replace hm4:=CT hm4
      refine Al (L':=[]) (ms':=[_]) rfl rfl ?_;refine zq4 ?_
      cases hm4;exact Ae zr1
def AS (t1:ATy) (i1:Int) (x3:(List Int)):Nat->(Bool×Int×(List Int))->Option (Bool×(List Int))
 | 0,_=>none
 | n+1,(more5,j1,l6) =>
  bif (decide (j1<(x3.length:Int))) then
   (idx l6 i1).bind fun x4 =>
   (idx t1.l i1).bind fun x5 =>
   (bif ((decide (x5.kind=6))&&(decide (j1=0))) then
    grd (InR ((Int.tmod x4 2)*2)) <|
    grd (InR (Int.tdiv x4 2)) <|
    grd (InR (((Int.tmod x4 2)*2)+(Int.tdiv x4 2))) <|
    some (((Int.tmod x4 2)*2)+(Int.tdiv x4 2))
   else
    some x4:Option Int).bind fun s1 =>
   (idx x3 j1).bind fun x6 =>
   (idx l6 x6).bind fun x7 =>
   grd (InR (Int.tdiv x7 2)) <|
   grd (InR (Int.tdiv s1 2)) <|
   grd (InR (2*(if (Int.tdiv s1 2) > (Int.tdiv x7 2) then (Int.tdiv s1 2) else (Int.tdiv x7 2)))) <|
   grd (InR ((if (Int.tmod s1 2) > (Int.tmod x7 2) then (Int.tmod s1 2) else (Int.tmod x7 2))+(2*(if (Int.tdiv s1 2) > (Int.tdiv x7 2) then (Int.tdiv s1 2) else (Int.tdiv x7 2))))) <|
   bif (!decide (((if (Int.tmod s1 2) > (Int.tmod x7 2) then (Int.tmod s1 2) else (Int.tmod x7 2))+(2*(if (Int.tdiv s1 2) > (Int.tdiv x7 2) then (Int.tdiv s1 2) else (Int.tdiv x7 2))))=x7)) then
    (idx x3 j1).bind fun x8 =>
    (idx l6 x8).bind fun x9 =>
    grd (InR (j1+1)) <|
    AS t1 i1 x3 n (true,(j1+1),(l6.set (x8).toNat ((if (Int.tmod s1 2) > (Int.tmod x7 2) then (Int.tmod s1 2) else (Int.tmod x7 2))+(2*(if (Int.tdiv s1 2) > (Int.tdiv x7 2) then (Int.tdiv s1 2) else (Int.tdiv x7 2))))))
   else
    grd (InR (j1+1)) <|
    AS t1 i1 x3 n (more5,(j1+1),l6)
  else
   some (more5,l6)
def A6 (t1:ATy):Nat->(Bool×Int×(List Int))->Option (Bool×(List Int))
 | 0,_=>none
 | n+1,(more3,i1,l4) =>
  bif (decide (i1<(t1.l.length:Int))) then
   (idx t1.l i1).bind fun x2 =>
   (EY x2).bind fun x3 =>
   (AS t1 i1 x3 FU (more3,0,l4):Option (Bool×(List Int))).bind fun (more4,l5) =>
   grd (InR (i1+1)) <|
   A6 t1 n (more4,(i1+1),l5)
  else
   some (more3,l4)
def BV (t1:ATy):Nat->(Bool×(List Int))->Option (List Int)
 | 0,_=>none
 | n+1,(more1,l2) =>
  bif more1 then
   (A6 t1 FU (false,0,l2):Option (Bool×(List Int))).bind fun (more2,l3) =>
   BV t1 n (more2,l3)
  else
   some l2
def Cd (t1:ATy):Option (List Int):=
 grd (0<=(t1.l.length:Int)) <|
 grd (((t1.l.length:Int)).toNat*8<=140737488355328) <|
 (idx (List.replicate ((t1.l.length:Int)).toNat (0:Int)) t1.root).bind fun x1 =>
 (BV t1 FU (true,((List.replicate ((t1.l.length:Int)).toNat (0:Int)).set (t1.root).toNat 1)):Option (List Int)).bind fun l1 =>
 some l1
theorem HI {t1:ATy} {r_1:(List Int)} (hm:Cd t1=some r_1):Fn0 Tryz.prog 35 [ATy.d t1] (.list 1 D.i64 r_1):=by
 unfold Cd at hm;refine Ad func35 rfl ntmps35 rfl fun H0 fr w0=>?_;refine zq4 ?_;refine Ap (nilE (i:=2) (sz:=1) (f:=D.i64) rfl).refines ?_;refine zq6 ?_;obtain ⟨hg1,hm⟩:=Aa hm;obtain ⟨hg2,hm⟩:=Aa hm;refine AG rfl rfl rfl (C3 (f:=D.i64) (z0:=0) underlying43 type3 rfl rfl rfl (nB rfl) rfl rfl hg1 hg2 (nB rfl)) ?_;rintro _ _ ⟨a_r1,m_r1,cap_r1,rfl,rfl⟩;refine zq7 ?_;obtain ⟨x1,hx3,hm⟩:=bS hm;refine Ai rfl rfl rfl (Af 0 runUnderlying43 sizeOf3 rfl rfl rfl hx3) ?_;refine H6 rfl rfl (AV (off:=0) (z':=1) 0 sizeOf3 rfl rfl (Av hx3).2 rfl rfl rfl rfl rfl rfl (nB rfl) rfl rfl) ?_;rintro _ _ rfl;refine Ak (ms':=[_]) rfl ?_;refine zq6 ?_;obtain ⟨o_1,hj1,hm1⟩:=bS hm;refine Ag [(3,_)] [] (fun (st:(List Int)) (hid:Unit)=>match st,hid with | l1,_=>[]) (fun F (st:(List Int)) (hid:Unit)=>match st,hid with | l1,_=>[arr a_r1 m_r1 cap_r1 3 1 D.i64 l1]) (fun st=>st=o_1) ⟨rfl,trivial⟩ trivial ?_ ?_
 ·refine Am ?_
  refine Ah [(1,_),(3,_)] [] (fun (st:(Bool×(List Int))) (hid:Unit)=>match st,hid with | (more1,l2),_=>[(4,.bool more1)]) (fun F (st:(Bool×(List Int))) (hid:Unit)=>match st,hid with | (more1,l2),_=>[arr a_r1 m_r1 cap_r1 3 1 D.i64 l2]) () hj1 (fun _=>rfl) ⟨rfl,rfl,trivial⟩ trivial ⟨rfl,trivial⟩ rfl ?_;rintro n ⟨more1,l2⟩ ⟨⟩ hj1;rw [BV] at hj1;refine Ao (L':=[(4,.bool more1),(1,_),(3,_)]) (ms':=[arr a_r1 m_r1 cap_r1 3 1 D.i64 l2]) rfl rfl ?_;refine zq5 ?_;refine zcn hj1 (fun hc1 hj1=>?_) (fun hc1 hj1=>?_)
  ·refine zq10 ?_
   obtain ⟨o_2,hj2,hm2⟩:=bS hj1;refine Ag [(1,_),(3,_)] [] (fun (st:(Bool×(List Int))) (hid:Unit)=>match st,hid with | (more2,l3),_=>[(4,.bool more2)]) (fun F (st:(Bool×(List Int))) (hid:Unit)=>match st,hid with | (more2,l3),_=>[arr a_r1 m_r1 cap_r1 3 1 D.i64 l3]) (fun st=>st=o_2) ⟨rfl,rfl,trivial⟩ trivial ?_ ?_
   ·refine Am ?_
    refine Ah [(1,_),(3,_)] [] (fun (st:(Bool×Int×(List Int))) (hid:Unit)=>match st,hid with | (more3,i1,l4),_=>[(4,.bool more3),(5,.i64 i1)]) (fun F (st:(Bool×Int×(List Int))) (hid:Unit)=>match st,hid with | (more3,i1,l4),_=>[arr a_r1 m_r1 cap_r1 3 1 D.i64 l4]) () hj2 (fun _=>rfl) ⟨rfl,rfl,trivial⟩ trivial ⟨rfl,rfl,trivial⟩ rfl ?_;rintro n ⟨more3,i1,l4⟩ ⟨⟩ hj2;rw [A6] at hj2;refine Ao (L':=[(4,.bool more3),(5,.i64 i1),(1,_),(3,_)]) (ms':=[arr a_r1 m_r1 cap_r1 3 1 D.i64 l4]) rfl rfl ?_;refine zq9 ?_;refine zcn hj2 (fun hc2 hj2=>?_) (fun hc2 hj2=>?_)
    ·refine zq8 ?_
     obtain ⟨x2,hx4,hj2⟩:=bS hj2;refine Ai rfl rfl rfl (oIm runUnderlying29 sizeOf49 rfl rfl hx4) ?_;refine zq1 ?_;obtain ⟨x3,hx5,hj2⟩:=bS hj2;refine zc0 (Iu hx5) ?_;refine zq6 ?_;obtain ⟨o_3,hj3,hm3⟩:=bS hj2;refine Ag [(1,_),(3,_),(5,_)] [] (fun (st:(Bool×(List Int))) (hid:Unit)=>match st,hid with | (more4,l5),_=>[(4,.bool more4)]) (fun F (st:(Bool×(List Int))) (hid:Unit)=>match st,hid with | (more4,l5),_=>[arr a_r1 m_r1 cap_r1 3 1 D.i64 l5]) (fun st=>st=o_3) ⟨rfl,rfl,rfl,trivial⟩ trivial ?_ ?_
     ·refine Am ?_
      refine Ah [(1,_),(3,_),(5,_),(6,_)] [] (fun (st:(Bool×Int×(List Int))) (hid:Unit)=>match st,hid with | (more5,j1,l6),_=>[(4,.bool more5),(7,.i64 j1)]) (fun F (st:(Bool×Int×(List Int))) (hid:Unit)=>match st,hid with | (more5,j1,l6),_=>[arr a_r1 m_r1 cap_r1 3 1 D.i64 l6]) () hj3 (fun _=>rfl) ⟨rfl,rfl,rfl,rfl,trivial⟩ trivial ⟨rfl,rfl,trivial⟩ rfl ?_;rintro n ⟨more5,j1,l6⟩ ⟨⟩ hj3;rw [AS] at hj3;refine Ao (L':=[(4,.bool more5),(7,.i64 j1),(1,_),(3,_),(5,_),(6,_)]) (ms':=[arr a_r1 m_r1 cap_r1 3 1 D.i64 l6]) rfl rfl ?_;refine zq8 ?_;refine zcn hj3 (fun hc3 hj3=>?_) (fun hc3 hj3=>?_)
      ·refine zq7 ?_
       obtain ⟨x4,hx6,hj3⟩:=bS hj3;refine Ai rfl rfl rfl (Af 0 runUnderlying43 sizeOf3 rfl rfl rfl hx6) ?_;refine Ai rfl rfl rfl (AL (off:=0) 0 isAgg3 rfl rfl (Av hx6).2 rfl rfl rfl) ?_;refine zq8 ?_;obtain ⟨x5,hx7,hj3⟩:=bS hj3;refine Ai rfl rfl rfl (oIm runUnderlying29 sizeOf49 rfl rfl hx7) ?_;refine zq4 ?_
       apply Bm [(1,_),(3,_),(4,_),(5,_),(6,_),(7,_),(8,_)] 3 53 (t:=50) ⟨rfl,rfl,rfl,rfl,rfl,rfl,rfl,trivial⟩ rfl
       ·intro hg_1 hk1
        refine zq3 ?_;exact zgm hk1
       ·intro hg_1 hk1
        refine zq3 ?_;exact zgm hk1
       refine gNl ?_;obtain ⟨o_4,hj4,hm4⟩:=bS hj3;refine Ag [(1,_),(3,_),(4,_),(5,_),(6,_),(7,_)] [(0,_)] (fun (st:Int) (hid:Unit)=>match st,hid with | s1,_=>[(8,.i64 s1)]) (fun F (st:Int) (hid:Unit)=>match st,hid with | s1,_=>[(nthF F 0)]) (fun st=>st=o_4) ⟨rfl,rfl,rfl,rfl,rfl,rfl,trivial⟩ ⟨rfl,trivial⟩ ?_ ?_
       ·refine zcn hj4 (fun hc4 hj4=>?_) (fun hc4 hj4=>?_)
        ·refine zq2 ?_
         refine Ai rfl rfl rfl (Qy rfl rfl (by decide)) ?_;obtain ⟨hg8,hj4⟩:=Aa hj4;refine Ai rfl rfl rfl (Vt rfl rfl (CO hg8)) ?_;refine zq1 ?_;obtain ⟨hg9,hj4⟩:=Aa hj4;refine Ai rfl rfl rfl (Si rfl rfl (by decide) (CO hg9)) ?_;obtain ⟨hg10,hj4⟩:=Aa hj4;refine zq3 ?_;exact ⟨_,(),Ac hj4,⟨rfl,trivial⟩,⟨rfl,rfl,rfl,rfl,rfl,rfl,trivial⟩,[],rfl⟩
        ·refine gSp ?_
         exact ⟨_,(),Ac hj4,⟨rfl,trivial⟩,⟨rfl,rfl,rfl,rfl,rfl,rfl,trivial⟩,[],rfl⟩
       ·rintro s1 _ hst
        subst hst;refine Al (L':=[(8,.i64 s1),(1,_),(3,_),(4,_),(5,_),(6,_),(7,_)]) (ms':=[_]) rfl rfl ?_;refine zq5 ?_;obtain ⟨x6,hx11,hm4⟩:=bS hm4;refine Ai rfl rfl rfl (oIm runUnderlying43 sizeOf3 rfl rfl hx11) ?_;refine zq1 ?_;obtain ⟨x7,hx12,hm4⟩:=bS hm4;refine Ai rfl rfl rfl (Af 0 runUnderlying43 sizeOf3 rfl rfl rfl hx12) ?_;refine Ai rfl rfl rfl (AL (off:=0) 0 isAgg3 rfl rfl (Av hx12).2 rfl rfl rfl) ?_;refine zq5 ?_;refine Ai rfl rfl rfl (Qy rfl rfl (by decide)) ?_;refine zq1 ?_;refine Ai rfl rfl rfl (Qy rfl rfl (by decide)) ?_;refine Ai rfl rfl rfl (TQ rfl rfl) ?_;refine zq1 ?_;obtain ⟨hg13,hm4⟩:=Aa hm4;refine Ai rfl rfl rfl (Si rfl rfl (by decide) (CO hg13)) ?_;refine zq1 ?_;obtain ⟨hg14,hm4⟩:=Aa hm4;refine Ai rfl rfl rfl (Si rfl rfl (by decide) (CO hg14)) ?_;refine Ai rfl rfl rfl (TQ rfl rfl) ?_;obtain ⟨hg15,hm4⟩:=Aa hm4;refine Ai rfl rfl rfl (Vt rfl rfl (CO hg15)) ?_;obtain ⟨hg16,hm4⟩:=Aa hm4;refine zq9 ?_;refine zcn hm4 (fun hc5 hm4=>?_) (fun hc5 hm4=>?_)
        ·refine zq4 ?_
         obtain ⟨x8,hx17,hm4⟩:=bS hm4;refine Ai rfl rfl rfl (oIm runUnderlying43 sizeOf3 rfl rfl hx17) ?_;refine zq2 ?_;obtain ⟨x9,hx18,hm4⟩:=bS hm4;refine Ai rfl rfl rfl (Af 0 runUnderlying43 sizeOf3 rfl rfl rfl hx18) ?_;refine H6 rfl rfl (AV (off:=0) (z':=((if (Int.tmod s1 2) > (Int.tmod x7 2) then (Int.tmod s1 2) else (Int.tmod x7 2))+(2*(if (Int.tdiv s1 2) > (Int.tdiv x7 2) then (Int.tdiv s1 2) else (Int.tdiv x7 2))))) 0 sizeOf3 rfl rfl (Av hx18).2 rfl rfl rfl rfl rfl rfl (nB rfl) rfl rfl) ?_;rintro _ _ rfl;refine Ak (ms':=[_]) rfl ?_;refine zq4 ?_;obtain ⟨hg19,hm4⟩:=Aa hm4;refine zq3 ?_;exact ⟨_,(),hm4,⟨rfl,rfl,trivial⟩,⟨rfl,rfl,rfl,rfl,trivial⟩,[],rfl⟩
        ·refine zq3 ?_
         obtain ⟨hg20,hm4⟩:=Aa hm4;refine zq3 ?_;exact ⟨_,(),hm4,⟨rfl,rfl,trivial⟩,⟨rfl,rfl,rfl,rfl,trivial⟩,[],rfl⟩
      ·refine Ar ?_
       exact ⟨_,(),Ac hj3,⟨rfl,trivial⟩,⟨rfl,rfl,rfl,trivial⟩,[],rfl⟩
     ·rintro ⟨more4,l5⟩ ⟨⟩ hst
      subst hst;refine Al (L':=[(4,.bool more4),(1,_),(3,_),(5,_)]) (ms':=[arr a_r1 m_r1 cap_r1 3 1 D.i64 l5]) rfl rfl ?_;refine zq2 ?_;obtain ⟨hg21,hm3⟩:=Aa hm3;refine zq3 ?_;exact ⟨_,(),hm3,⟨rfl,rfl,trivial⟩,⟨rfl,rfl,trivial⟩,[],rfl⟩
    ·refine Ar ?_
     exact ⟨_,(),Ac hj2,⟨rfl,trivial⟩,⟨rfl,rfl,trivial⟩,[],rfl⟩
   ·rintro ⟨more2,l3⟩ ⟨⟩ hst
    subst hst;refine Al (L':=[(4,.bool more2),(1,_),(3,_)]) (ms':=[arr a_r1 m_r1 cap_r1 3 1 D.i64 l3]) rfl rfl ?_;exact ⟨_,(),hm2,⟨rfl,trivial⟩,⟨rfl,rfl,trivial⟩,[],rfl⟩
  ·refine Ar ?_
   exact ⟨_,(),Ac hj1,trivial,⟨rfl,trivial⟩,[],rfl⟩
 ·rintro l1 ⟨⟩ hst
  subst hst;refine Al (L':=[(3,_)]) (ms':=[arr a_r1 m_r1 cap_r1 3 1 D.i64 l1]) rfl rfl ?_;refine zq5 ?_;refine Nc 0 rfl rfl ?_;rintro rfl;refine BM (peekE (i:=2) 0 rfl rfl rfl).refines ?_
  cases hm1;exact Ae zr1
def Bp (t1:ATy) (x2:(List Int)):Nat->Int->Option (Out Int Unit)
 | 0,_=>none
 | n+1,i1 =>
  bif (decide (i1<(t1.l.length:Int))) then
   (idx t1.l i1).bind fun x3 =>
   (bif (decide (x3.kind=9)) then ((idx x2 i1).bind fun x4 =>
   some (decide (2<=x4))) else (some false)).bind fun p1 =>
   (bif p1 then (some true) else ((idx t1.l i1).bind fun x5 =>
   (bif (decide (x5.kind=10)) then ((idx x2 i1).bind fun x6 =>
   some (decide ((Int.tmod x6 2)=1))) else (some false)).bind fun p3 =>
   some p3)).bind fun p2 =>
   bif p2 then
    some (Out.ret 12)
   else
    grd (InR (i1+1)) <|
    Bp t1 x2 n (i1+1)
  else
   some (Out.go (()))
def BO (t1:ATy):Option Int:=
 (HK t1).bind fun x1 =>
 bif (!decide (x1=0)) then
  some x1
 else
  (Cd t1).bind fun x2 =>
  ((Bp t1 x2 FU 0:Option (Out Int Unit))).bind (fun oo=>oo.on (fun r1=>some r1) (fun _ =>
  some 0))
theorem Fs {t1:ATy} {r_1:Int} (hm:BO t1=some r_1):Fn0 Tryz.prog 12 [ATy.d t1] (.i64 r_1):=by
 unfold BO at hm;refine Ad func12 rfl ntmps12 rfl fun H0 fr w0=>?_;refine zq9 ?_;obtain ⟨x1,hx1,hm⟩:=bS hm;refine zc0 (Te hx1) ?_;refine zq7 ?_;refine zcn hm (fun hc1 hm=>?_) (fun hc1 hm=>?_)
 ·refine zq5 ?_
  cases hm;exact Ae zr1
 ·refine zq4 ?_
  obtain ⟨x2,hx2,hm⟩:=bS hm;refine zc0 (HI hx2) ?_;refine zq7 ?_;obtain ⟨o_1,hj1,hm1⟩:=bS hm;refine Ag [] [] (fun (st:Unit) (hid:Unit)=>match st,hid with | _,_=>[]) (fun F (st:Unit) (hid:Unit)=>match st,hid with | _,_=>[]) (fun st=>Out.go (st)=o_1) trivial trivial ?_ ?_
  ·refine Am ?_
   refine Ah [(1,_),(4,_)] [] (fun (st:Int) (hid:Unit)=>match st,hid with | i1,_=>[(5,.i64 i1)]) (fun F (st:Int) (hid:Unit)=>match st,hid with | i1,_=>[]) () hj1 (fun _=>rfl) ⟨rfl,rfl,trivial⟩ trivial ⟨rfl,trivial⟩ rfl ?_;rintro n i1 _ hj1;rw [Bp] at hj1;refine Ao (L':=[(5,.i64 i1),(1,_),(4,_)]) (ms':=[]) rfl rfl ?_;refine zq9 ?_;refine zcn hj1 (fun hc2 hj1=>?_) (fun hc2 hj1=>?_)
   ·refine zq8 ?_
    obtain ⟨x3,hx3,hj1⟩:=bS hj1;refine Ai rfl rfl rfl (oIm runUnderlying29 sizeOf49 rfl rfl hx3) ?_;refine zq4 ?_;obtain ⟨p1,hp_1,hj1⟩:=bS hj1;refine AF [(1,_),(4,_),(5,_)] 6 33 p1 (t:=27) ⟨rfl,rfl,rfl,trivial⟩ rfl (fun hg_1 hk1=>?_) (fun hg_1 hk1=>?_) ?_
    ·replace hp_1:=AD hg_1 hp_1
     refine zq2 ?_;obtain ⟨x4,hx4,hp_1⟩:=bS hp_1;refine gWp rfl rfl rfl hg_1 rfl rfl (oIm runUnderlying43 sizeOf3 rfl rfl hx4) ?_;refine zq3 ?_;exact zgb hk1 hp_1
    ·replace hp_1:=AE hg_1 hp_1
     refine zq6 ?_;exact zgb hk1 hp_1
    refine zq1 ?_;obtain ⟨p2,hp_2,hj1⟩:=bS hj1;refine AF [(1,_),(4,_),(5,_)] 16 50 p2 (t:=34) ⟨rfl,rfl,rfl,trivial⟩ rfl (fun hg_2 hk2=>?_) (fun hg_2 hk2=>?_) ?_
    ·replace hp_2:=AD hg_2 hp_2
     refine zq16 ?_;exact zgb hk2 hp_2
    ·replace hp_2:=AE hg_2 hp_2
     refine zq3 ?_;obtain ⟨x5,hx5,hp_2⟩:=bS hp_2;refine gWp rfl rfl rfl hg_2 rfl rfl (oIm runUnderlying29 sizeOf49 rfl rfl hx5) ?_;refine zq4 ?_;obtain ⟨p3,hp_3,hp_2⟩:=bS hp_2;refine AF [(1,_),(4,_),(5,_),(34,_)] 7 49 p3 (t:=42) ⟨rfl,rfl,rfl,rfl,trivial⟩ rfl (fun hg_3 hk3=>?_) (fun hg_3 hk3=>?_) ?_
     ·replace hp_3:=AD hg_3 hp_3
      refine zq2 ?_;obtain ⟨x6,hx6,hp_3⟩:=bS hp_3;refine gWp rfl rfl rfl hg_3 rfl rfl (oIm runUnderlying43 sizeOf3 rfl rfl hx6) ?_;refine zq1 ?_;refine gWp rfl rfl rfl hg_3 rfl rfl (Qy rfl rfl (by decide)) ?_;refine zq2 ?_;exact zgb hk3 hp_3
     ·replace hp_3:=AE hg_3 hp_3
      refine zq7 ?_;exact zgb hk3 hp_3
     refine zq1 ?_;exact zgb hk2 hp_2
    refine gNl ?_;refine zcn hj1 (fun hc3 hj1=>?_) (fun hc3 hj1=>?_)
    ·refine zq4 ?_
     refine Ae ?_;obtain rfl:=Ac hj1
     replace hm1:=Bu hm1
     cases hm1;exact zr1
    ·refine zq3 ?_
     obtain ⟨hg7,hj1⟩:=Aa hj1;refine zq3 ?_;exact ⟨_,(),hj1,⟨rfl,trivial⟩,⟨rfl,rfl,trivial⟩,[],rfl⟩
   ·refine Ar ?_
    exact ⟨_,(),Ac hj1,trivial,trivial,[],rfl⟩
  ·rintro _ _ hst
   subst hst
   replace hm1:=CT hm1
   refine Al (L':=[]) (ms':=[]) rfl rfl ?_;refine zq4 ?_
   cases hm1;exact Ae zr1
def AFd.eqv (x y:AFd):Bool:=((x.name == y.name)&&((x.at_ == y.at_)&&true))
theorem Vu:∀ fs:Array Field,Tryz.prog.underlying 71=some (.struct fs)->Gn Tryz.prog fs.toList 0 [.str,.int]:=by
 intro fs h
 have:=h.symm.trans underlying71
 simp only [Option.some.injEq,TypeDesc.struct.injEq] at this;subst this;exact ⟨by decide,rfl,isAgg9,underlying9,⟨by decide,rfl,isAgg3,⟨_,underlying3⟩,trivial⟩⟩
def Cl (x1:ANd) (x2:ANd):Nat->Int->Option (Out Bool Unit)
 | 0,_=>none
 | n+1,k1 =>
  bif (decide (k1<(x1.l.length:Int))) then
   (idx x1.l k1).bind fun x3 =>
   (idx x2.l k1).bind fun x4 =>
   bif (!(AFd.eqv x3 x4)) then
    some (Out.ret false)
   else
    grd (InR (k1+1)) <|
    Cl x1 x2 n (k1+1)
  else
   some (Out.go (()))
def CJ (a1:ATy) (b1:ATy):Nat->Int->Option (Out Bool Unit)
 | 0,_=>none
 | n+1,i1 =>
  bif (decide (i1<(a1.l.length:Int))) then
   (idx a1.l i1).bind fun x1 =>
   (idx b1.l i1).bind fun x2 =>
   bif ((((!decide (x1.kind=x2.kind))||(!decide (x1.a=x2.a)))||(!decide (x1.b=x2.b)))||(!decide ((x1.l.length:Int)=(x2.l.length:Int)))) then
    some (Out.ret false)
   else
    ((Cl x1 x2 FU 0:Option (Out Bool Unit))).bind (fun oo=>oo.on (fun r1=>some (Out.ret r1)) (fun _ =>
    grd (InR (i1+1)) <|
    CJ a1 b1 n (i1+1)))
  else
   some (Out.go (()))
def DT (a1:ATy) (b1:ATy):Option Bool:=
 bif ((!decide ((a1.l.length:Int)=(b1.l.length:Int)))||(!decide (a1.root=b1.root))) then
  some false
 else
  ((CJ a1 b1 FU 0:Option (Out Bool Unit))).bind (fun oo=>oo.on (fun r2=>some r2) (fun _ =>
  some true))
theorem LY {a1:ATy} {b1:ATy} {r_1:Bool} (hm:DT a1 b1=some r_1):Fn0 Tryz.prog 13 [ATy.d a1,ATy.d b1] (.bool r_1):=by
 unfold DT at hm;refine Ad func13 rfl ntmps13 rfl fun H0 fr w0=>?_;refine zq17 ?_
 apply AX [(2,_),(3,_)] 6 22 (t:=16) ⟨rfl,rfl,trivial⟩ rfl
 ·intro hg_1 hk1
  refine zq6 ?_;exact zgm hk1
 ·intro hg_1 hk1
  refine zq6 ?_;exact zgm hk1
 refine gNl ?_;refine zcn hm (fun hc1 hm=>?_) (fun hc1 hm=>?_)
 ·refine zq4 ?_
  cases hm;exact Ae zr1
 ·refine zq6 ?_
  obtain ⟨o_1,hj1,hm1⟩:=bS hm;refine Ag [] [] (fun (st:Unit) (hid:Unit)=>match st,hid with | _,_=>[]) (fun F (st:Unit) (hid:Unit)=>match st,hid with | _,_=>[]) (fun st=>Out.go (st)=o_1) trivial trivial ?_ ?_
  ·refine Am ?_
   refine Ah [(2,_),(3,_)] [] (fun (st:Int) (hid:Unit)=>match st,hid with | i1,_=>[(5,.i64 i1)]) (fun F (st:Int) (hid:Unit)=>match st,hid with | i1,_=>[]) () hj1 (fun _=>rfl) ⟨rfl,rfl,trivial⟩ trivial ⟨rfl,trivial⟩ rfl ?_;rintro n i1 _ hj1;rw [CJ] at hj1;refine Ao (L':=[(5,.i64 i1),(2,_),(3,_)]) (ms':=[]) rfl rfl ?_;refine zq9 ?_;refine zcn hj1 (fun hc2 hj1=>?_) (fun hc2 hj1=>?_)
   ·refine zq4 ?_
    obtain ⟨x1,hx1,hj1⟩:=bS hj1;obtain ⟨x2,hx2,hj1⟩:=bS hj1;refine JI (σ:=Nat×Nat) (fun s=>match s with | (b1,b2)=>[(6,.v (.pointer (some ⟨b1,0,none⟩))),(7,.v (.pointer (some ⟨b2,0,none⟩)))]) (fun s=>match s with | (b1,b2)=>[box b1 49 [.i64 x1.kind,.i64 x1.a,.i64 x1.b,.list 2 AFd.d x1.l],box b2 49 [.i64 x2.kind,.i64 x2.a,.i64 x2.b,.list 2 AFd.d x2.l]]) ?_ ?_
    ·refine Ju [10,11,12,13] A0 (by decide +kernel) (by decide +kernel) (by decide) _ rfl ?_
     refine Bl rfl rfl rfl rfl (oFa E3 rfl rfl rfl) ?_;refine Bl rfl rfl rfl rfl (Bk isAgg29 rfl rfl) ?_;refine Bl rfl rfl rfl rfl (oMv rfl) ?_;refine Bl rfl rfl rfl rfl (oIm runUnderlying29 sizeOf49 rfl rfl hx1) ?_;refine Bl rfl rfl rfl rfl (DF isAgg49 sizeOf49 rfl rfl) ?_;refine Bl rfl rfl rfl rfl (oFa E3 rfl rfl rfl) ?_;refine Bl rfl rfl rfl rfl (Bk isAgg29 rfl rfl) ?_;refine Bl rfl rfl rfl rfl (oMv rfl) ?_;refine Bl rfl rfl rfl rfl (oIm runUnderlying29 sizeOf49 rfl rfl hx2) ?_;refine Bl rfl rfl rfl rfl (DF isAgg49 sizeOf49 rfl rfl) ?_;refine EC rfl ?_;refine EC rfl ?_;refine EC rfl ?_;refine EC rfl ?_;refine KH ?_;refine zg2 10 11 ?_ ?_
     ·refine Io fun b3=>?_
      refine zg1 11 ?_;refine Io fun b4=>?_;refine zg1 12 ?_;refine zgs 1 ?_;refine zg1 13 ?_;refine zgs 0 ?_;exact Cg (b3,b4) (zse (M0:=[(6,_),(7,_)]) (N0:=[(7,_),(6,_),(39,_),(38,_),(37,_),(36,_),(35,_),(34,_),(33,_),(32,_),(31,_),(30,_)])) (permA 1 rfl (permA 0 rfl permN))
     ·refine Io fun b5=>?_
      refine zg1 10 ?_;refine Io fun b6=>?_;refine zg1 12 ?_;refine zgs 0 ?_;refine zg1 13 ?_;refine zgs 1 ?_;exact Cg (b6,b5) (zse (M0:=[(6,_),(7,_)]) (N0:=[(6,_),(7,_),(39,_),(38,_),(37,_),(36,_),(35,_),(34,_),(33,_),(32,_),(31,_),(30,_)])) (permA 0 rfl (permA 0 rfl permN))
    ·rintro ⟨b1,b2⟩
     refine Al (L':=[(6,.v (.pointer (some ⟨b1,0,none⟩))),(7,.v (.pointer (some ⟨b2,0,none⟩)))]++_) (ms':=[box b1 49 [.i64 x1.kind,.i64 x1.a,.i64 x1.b,.list 2 AFd.d x1.l],box b2 49 [.i64 x2.kind,.i64 x2.a,.i64 x2.b,.list 2 AFd.d x2.l]]) rfl rfl ?_;refine zq9 ?_
     apply AX [(2,_),(3,_),(5,_),(6,_),(7,_)] 6 51 (t:=45) ⟨rfl,rfl,rfl,rfl,rfl,trivial⟩ rfl
     ·intro hg_2 hk2
      refine zq6 ?_;exact zgm hk2
     ·intro hg_2 hk2
      refine zq6 ?_;exact zgm hk2
     refine zq1 ?_
     apply AX [(2,_),(3,_),(5,_),(6,_),(7,_)] 6 58 (t:=52) ⟨rfl,rfl,rfl,rfl,rfl,trivial⟩ rfl
     ·intro hg_3 hk3
      refine zq6 ?_;exact zgm hk3
     ·intro hg_3 hk3
      refine zq6 ?_;exact zgm hk3
     refine zq1 ?_
     apply AX [(2,_),(3,_),(5,_),(6,_),(7,_)] 8 67 (t:=59) ⟨rfl,rfl,rfl,rfl,rfl,trivial⟩ rfl
     ·intro hg_4 hk4
      refine zq8 ?_;exact zgm hk4
     ·intro hg_4 hk4
      refine zq8 ?_;exact zgm hk4
     refine gNl ?_;refine zcn hj1 (fun hc3 hj1=>?_) (fun hc3 hj1=>?_)
     ·refine zq4 ?_
      refine Ae ?_;obtain rfl:=Ac hj1
      replace hm1:=Bu hm1
      cases hm1;exact zr1
     ·refine zq5 ?_
      obtain ⟨o_2,hj2,hm2⟩:=bS hj1;refine Ag [(2,_),(3,_),(5,_)] [(0,_),(1,_)] (fun (st:Unit) (hid:Unit)=>match st,hid with | _,_=>[]) (fun F (st:Unit) (hid:Unit)=>match st,hid with | _,_=>[(nthF F 0),(nthF F 1)]) (fun st=>Out.go (st)=o_2) ⟨rfl,rfl,rfl,trivial⟩ ⟨rfl,rfl,trivial⟩ ?_ ?_
      ·refine Am ?_
       refine Ah [(2,_),(3,_),(5,_),(6,_),(7,_)] [(0,_),(1,_)] (fun (st:Int) (hid:Unit)=>match st,hid with | k1,_=>[(8,.i64 k1)]) (fun F (st:Int) (hid:Unit)=>match st,hid with | k1,_=>[(nthF F 0),(nthF F 1)]) () hj2 (fun _=>rfl) ⟨rfl,rfl,rfl,rfl,rfl,trivial⟩ ⟨rfl,rfl,trivial⟩ ⟨rfl,trivial⟩ rfl ?_;rintro n k1 _ hj2;rw [Cl] at hj2;refine Ao (L':=[(8,.i64 k1),(2,_),(3,_),(5,_),(6,_),(7,_)]) (ms':=[_,_]) rfl rfl ?_;refine zq9 ?_;refine zcn hj2 (fun hc4 hj2=>?_) (fun hc4 hj2=>?_)
       ·refine zq4 ?_
        obtain ⟨x3,hx3,hj2⟩:=bS hj2;obtain ⟨x4,hx4,hj2⟩:=bS hj2;refine zdr 11 ?_;refine zq10 ?_;refine AC rfl rfl rfl (S9 (ks:=[.str,.int]) underlying71 (by kernel_rfl) (by kernel_rfl) (Vu _ underlying71) rfl rfl rfl) ?_;refine zq2 ?_;refine zcn hj2 (fun hc5 hj2=>?_) (fun hc5 hj2=>?_)
        ·refine zq4 ?_
         refine Ae ?_;obtain rfl:=Ac hj2
         replace hm2:=Bu hm2
         obtain rfl:=Ac hm2
         replace hm1:=Bu hm1
         cases hm1;exact zr1
        ·refine zq3 ?_
         obtain ⟨hg5,hj2⟩:=Aa hj2;refine zq3 ?_;exact ⟨_,(),hj2,⟨rfl,trivial⟩,⟨rfl,rfl,rfl,rfl,rfl,trivial⟩,[],rfl⟩
       ·refine Ar ?_
        exact ⟨_,(),Ac hj2,trivial,⟨rfl,rfl,rfl,trivial⟩,[],rfl⟩
      ·rintro _ _ hst
       subst hst
       replace hm2:=CT hm2
       refine Al (L':=[(2,_),(3,_),(5,_)]) (ms':=[_,_]) rfl rfl ?_;refine zq2 ?_;obtain ⟨hg6,hm2⟩:=Aa hm2;refine zq3 ?_;exact ⟨_,(),hm2,⟨rfl,trivial⟩,⟨rfl,rfl,trivial⟩,[_,_],rfl⟩
   ·refine Ar ?_
    exact ⟨_,(),Ac hj1,trivial,trivial,[],rfl⟩
  ·rintro _ _ hst
   subst hst
   replace hm1:=CT hm1
   refine Al (L':=[]) (ms':=[]) rfl rfl ?_;refine zq4 ?_
   cases hm1;exact Ae zr1
def B7 (l1:(List Int)) (n1:Int):Nat->Int->Option (Out Bool Unit)
 | 0,_=>none
 | n+1,i1 =>
  bif (decide (i1<(l1.length:Int))) then
   (idx l1 i1).bind fun x1 =>
   bif (decide (x1=n1)) then
    some (Out.ret true)
   else
    grd (InR (i1+1)) <|
    B7 l1 n1 n (i1+1)
  else
   some (Out.go (()))
def Dz (l1:(List Int)) (n1:Int):Option Bool:=
 ((B7 l1 n1 FU 0:Option (Out Bool Unit))).bind (fun oo=>oo.on (fun r1=>some r1) (fun _ =>
 some false))
theorem KA {l1:(List Int)} {n1:Int} {r_1:Bool} (hm:Dz l1 n1=some r_1):Fn0 Tryz.prog 40 [.list 1 D.i64 l1,.i64 n1] (.bool r_1):=by
 unfold Dz at hm;refine Ad func40 rfl ntmps40 rfl fun H0 fr w0=>?_;refine zq9 ?_;obtain ⟨o_1,hj1,hm1⟩:=bS hm;refine Ag [] [] (fun (st:Unit) (hid:Unit)=>match st,hid with | _,_=>[]) (fun F (st:Unit) (hid:Unit)=>match st,hid with | _,_=>[]) (fun st=>Out.go (st)=o_1) trivial trivial ?_ ?_
 ·refine Am ?_
  refine Ah [(0,_),(1,_)] [] (fun (st:Int) (hid:Unit)=>match st,hid with | i1,_=>[(5,.i64 i1)]) (fun F (st:Int) (hid:Unit)=>match st,hid with | i1,_=>[]) () hj1 (fun _=>rfl) ⟨rfl,rfl,trivial⟩ trivial ⟨rfl,trivial⟩ rfl ?_;rintro n i1 _ hj1;rw [B7] at hj1;refine Ao (L':=[(5,.i64 i1),(0,_),(1,_)]) (ms':=[]) rfl rfl ?_;refine zq8 ?_;refine zcn hj1 (fun hc1 hj1=>?_) (fun hc1 hj1=>?_)
  ·refine zq7 ?_
   obtain ⟨x1,hx1,hj1⟩:=bS hj1;refine zq5 ?_;refine zcn hj1 (fun hc2 hj1=>?_) (fun hc2 hj1=>?_)
   ·refine zq4 ?_
    refine Ae ?_;obtain rfl:=Ac hj1
    replace hm1:=Bu hm1
    cases hm1;exact zr1
   ·refine zq3 ?_
    obtain ⟨hg2,hj1⟩:=Aa hj1;refine zq3 ?_;exact ⟨_,(),hj1,⟨rfl,trivial⟩,⟨rfl,rfl,trivial⟩,[],rfl⟩
  ·refine Ar ?_
   exact ⟨_,(),Ac hj1,trivial,trivial,[],rfl⟩
 ·rintro _ _ hst
  subst hst
  replace hm1:=CT hm1
  refine Al (L':=[]) (ms':=[]) rfl rfl ?_;refine zq4 ?_
  cases hm1;exact Ae zr1
def DW (x4:(List Int)):Nat->(Int×(List Int))->Option (List Int)
 | 0,_=>none
 | n+1,(j1,l7) =>
  bif (decide (0<=j1)) then
   (idx x4 j1).bind fun x5 =>
   grd ((l7.length+([x5]:List _).length)*8<=140737488355328) <|
   grd (InR (j1 - 1)) <|
   DW x4 n ((j1 - 1),(l7++[x5]))
  else
   some l7
def CH (t1:ATy):Nat->((List Int)×(List Int))->Option ((List Int)×(List Int))
 | 0,_=>none
 | n+1,(l3,l4) =>
  bif (decide (0<(l3.length:Int))) then
   grd (InR ((l3.length:Int) - 1)) <|
   (idx l3 ((l3.length:Int) - 1)).bind fun x1 =>
   grd (InR ((l3.length:Int) - 1)) <|
   (sli l3 0 ((l3.length:Int) - 1)).bind fun l5 =>
   (Dz l4 x1).bind fun x2 =>
   bif x2 then
    CH t1 n (l5,l4)
   else
    grd ((l4.length+([x1]:List _).length)*8<=140737488355328) <|
    (idx t1.l x1).bind fun x3 =>
    (EY x3).bind fun x4 =>
    grd (InR ((x4.length:Int) - 1)) <|
    (DW x4 FU (((x4.length:Int) - 1),l5):Option (List Int)).bind fun l6 =>
    CH t1 n (l6,(l4++[x1]))
  else
   some (l3,l4)
def Gm (t1:ATy) (root1:Int):Option (List Int):=
 (CH t1 FU ([root1],[]):Option ((List Int)×(List Int))).bind fun (l1,l2) =>
 some l2
theorem P9 {t1:ATy} {root1:Int} {r_1:(List Int)} (hm:Gm t1 root1=some r_1):Fn0 Tryz.prog 36 [ATy.d t1,.i64 root1] (.list 1 D.i64 r_1):=by
 unfold Gm at hm;refine Ad func36 rfl ntmps36 rfl fun H0 fr w0=>?_;refine zq4 ?_;refine Ap (nilE (i:=4) (sz:=1) (f:=D.i64) rfl).refines ?_;refine zq3 ?_;refine AG rfl rfl rfl (Au (xs:=[]) (f:=D.i64) (l:=[]) runUnderlying43 sizeOf3 zeroValue3 rfl rfl rfl (fun _=>⟨rfl,rfl,rfl⟩) rfl (by simp [maxLen])) ?_;rintro _ _ ⟨a_r1,rfl,rfl⟩;refine zq1 ?_;refine AG rfl rfl rfl (GM (xs:=[_]) (f:=D.i64) (l:=[_]) runUnderlying43 sizeOf3 zeroValue3 rfl rfl rfl (fun _=>⟨rfl,rfl,rfl⟩) rfl (by simp [maxLen])) ?_;rintro _ _ ⟨a_r2,m_r2,cap_r2,rfl,rfl⟩;refine zq4 ?_;obtain ⟨o_1,hj1,hm1⟩:=bS hm;refine Ag [] [] (fun (st:((List Int)×(List Int))) (hid:(Option Addr×Nat×Nat)×(Option Addr×Nat))=>match st,hid with | (l1,l2),((a_r2,m_r2,cap_r2),(a_r1,cap_r1))=>[(5,.v (.slice a_r1 l2.length cap_r1))]) (fun F (st:((List Int)×(List Int))) (hid:(Option Addr×Nat×Nat)×(Option Addr×Nat))=>match st,hid with | (l1,l2),((a_r2,m_r2,cap_r2),(a_r1,cap_r1))=>[arr a_r2 m_r2 cap_r2 3 1 D.i64 l1,row a_r1 cap_r1 3 1 D.i64 l2]) (fun st=>st=o_1) trivial trivial ?_ ?_
 ·refine Am ?_
  refine Ah [(2,_)] [] (fun (st:((List Int)×(List Int))) (hid:(Option Addr×Nat×Nat)×(Option Addr×Nat))=>match st,hid with | (l3,l4),((a_r2,m_r2,cap_r2),(a_r1,cap_r1))=>[(5,.v (.slice a_r1 l4.length cap_r1)),(6,.v (.slice a_r2 m_r2 cap_r2))]) (fun F (st:((List Int)×(List Int))) (hid:(Option Addr×Nat×Nat)×(Option Addr×Nat))=>match st,hid with | (l3,l4),((a_r2,m_r2,cap_r2),(a_r1,cap_r1))=>[arr a_r2 m_r2 cap_r2 3 1 D.i64 l3,row a_r1 cap_r1 3 1 D.i64 l4]) ((_,_,_),(_,_)) hj1 (fun _=>rfl) ⟨rfl,trivial⟩ trivial ⟨rfl,rfl,trivial⟩ rfl ?_;rintro n ⟨l3,l4⟩ ⟨⟨a_r2,m_r2,cap_r2⟩,⟨a_r1,cap_r1⟩⟩ hj1;rw [CH] at hj1;refine Ao (L':=[(5,.v (.slice a_r1 l4.length cap_r1)),(6,.v (.slice a_r2 m_r2 cap_r2)),(2,_)]) (ms':=[arr a_r2 m_r2 cap_r2 3 1 D.i64 l3,row a_r1 cap_r1 3 1 D.i64 l4]) rfl rfl ?_;refine zq4 ?_;refine Ai rfl rfl rfl (Ca 0 runUnderlying43 rfl rfl) ?_;refine zq2 ?_;refine zcn hj1 (fun hc1 hj1=>?_) (fun hc1 hj1=>?_)
  ·refine zq6 ?_
   refine Ai rfl rfl rfl (Ca 0 runUnderlying43 rfl rfl) ?_;obtain ⟨hg1,hj1⟩:=Aa hj1;refine zq1 ?_;obtain ⟨x1,hx2,hj1⟩:=bS hj1;refine Ai rfl rfl rfl (Af 0 runUnderlying43 sizeOf3 rfl rfl rfl hx2) ?_;refine Ai rfl rfl rfl (AL (off:=0) 0 isAgg3 rfl rfl (Av hx2).2 rfl rfl rfl) ?_;refine zq6 ?_;refine Ai rfl rfl rfl (Ca 0 runUnderlying43 rfl rfl) ?_;obtain ⟨hg3,hj1⟩:=Aa hj1;refine zq1 ?_;obtain ⟨l5,hx4,hj1⟩:=bS hj1;refine AG rfl rfl rfl (IP 0 runUnderlying43 sizeOf3 rfl rfl rfl hx4) ?_;rintro _ _ ⟨a_r2,m_r2,cap_r2,rfl,rfl⟩;refine zq7 ?_;obtain ⟨x2,hx5,hj1⟩:=bS hj1;refine Ai rfl rfl rfl (.view (peekE (i:=27) 1 rfl rfl rfl) (Bv call40 rfl (KA hx5))) ?_;refine gNl ?_;refine zcn hj1 (fun hc2 hj1=>?_) (fun hc2 hj1=>?_)
   ·refine Ar ?_
    exact ⟨_,((_,_,_),(_,_)),hj1,⟨rfl,rfl,trivial⟩,⟨rfl,trivial⟩,[],rfl⟩
   ·refine zq5 ?_
    refine Ai rfl rfl rfl (zs1 D.i64) ?_;obtain ⟨hg6,hj1⟩:=Aa hj1;refine zap 1 hg6 fun a_r1 cap_r1=>?_;refine Ak (ms':=[_,_]) rfl ?_;refine zq7 ?_;obtain ⟨x3,hx7,hj1⟩:=bS hj1;refine zq2 ?_;obtain ⟨x4,hx8,hj1⟩:=bS hj1;refine zc0 (Iu hx8) ?_;refine zq6 ?_;obtain ⟨hg9,hj1⟩:=Aa hj1;refine zq3 ?_;obtain ⟨o_2,hj2,hm2⟩:=bS hj1;refine Ag [(2,_),(5,_)] [(1,_)] (fun (st:(List Int)) (hid:(Option Addr×Nat×Nat))=>match st,hid with | l6,(a_r2,m_r2,cap_r2)=>[(6,.v (.slice a_r2 m_r2 cap_r2))]) (fun F (st:(List Int)) (hid:(Option Addr×Nat×Nat))=>match st,hid with | l6,(a_r2,m_r2,cap_r2)=>[arr a_r2 m_r2 cap_r2 3 1 D.i64 l6,(nthF F 0)]) (fun st=>st=o_2) ⟨rfl,rfl,trivial⟩ ⟨rfl,trivial⟩ ?_ ?_
    ·refine Am ?_
     refine Ah [(2,_),(5,_),(8,_)] [(1,_)] (fun (st:(Int×(List Int))) (hid:(Option Addr×Nat×Nat))=>match st,hid with | (j1,l7),(a_r2,m_r2,cap_r2)=>[(6,.v (.slice a_r2 m_r2 cap_r2)),(9,.i64 j1)]) (fun F (st:(Int×(List Int))) (hid:(Option Addr×Nat×Nat))=>match st,hid with | (j1,l7),(a_r2,m_r2,cap_r2)=>[arr a_r2 m_r2 cap_r2 3 1 D.i64 l7,(nthF F 0)]) (_,_,_) hj2 (fun _=>rfl) ⟨rfl,rfl,rfl,trivial⟩ ⟨rfl,trivial⟩ ⟨rfl,rfl,trivial⟩ rfl ?_;rintro n ⟨j1,l7⟩ ⟨a_r2,m_r2,cap_r2⟩ hj2;rw [DW] at hj2;refine Ao (L':=[(6,.v (.slice a_r2 m_r2 cap_r2)),(9,.i64 j1),(2,_),(5,_),(8,_)]) (ms':=[arr a_r2 m_r2 cap_r2 3 1 D.i64 l7,_]) rfl rfl ?_;refine zq6 ?_;refine zcn hj2 (fun hc3 hj2=>?_) (fun hc3 hj2=>?_)
     ·refine zq7 ?_
      obtain ⟨x5,hx10,hj2⟩:=bS hj2;refine zq2 ?_;refine Ai rfl rfl rfl (zs1 D.i64) ?_;obtain ⟨hg11,hj2⟩:=Aa hj2;refine AG rfl rfl rfl (DC (a:=_) 0 underlying43 type3 rfl rfl rfl rfl rfl rfl (fun _=>rfl) (fun _=>rfl) hg11 (BX hg11 rfl)) ?_;rintro _ _ ⟨a_r2,m_r2,cap_r2,rfl,rfl⟩;refine Ak (ms':=[_,_]) rfl ?_;refine zq4 ?_;obtain ⟨hg12,hj2⟩:=Aa hj2;refine zq3 ?_;exact ⟨_,(_,_,_),hj2,⟨rfl,rfl,trivial⟩,⟨rfl,rfl,rfl,trivial⟩,[],rfl⟩
     ·refine Ar ?_
      exact ⟨_,(_,_,_),Ac hj2,⟨rfl,trivial⟩,⟨rfl,rfl,trivial⟩,[],rfl⟩
    ·rintro l6 ⟨a_r2,m_r2,cap_r2⟩ hst
     subst hst;refine Al (L':=[(6,.v (.slice a_r2 m_r2 cap_r2)),(2,_),(5,_)]) (ms':=[arr a_r2 m_r2 cap_r2 3 1 D.i64 l6,_]) rfl rfl ?_;exact ⟨_,((_,_,_),(_,_)),hm2,⟨rfl,rfl,trivial⟩,⟨rfl,trivial⟩,[],rfl⟩
  ·refine Ar ?_
   exact ⟨_,((_,_,_),(_,_)),Ac hj1,⟨rfl,trivial⟩,trivial,[],rfl⟩
 ·rintro ⟨l1,l2⟩ ⟨⟨a_r2,m_r2,cap_r2⟩,⟨a_r1,cap_r1⟩⟩ hst
  subst hst;refine Al (L':=[(5,.v (.slice a_r1 l2.length cap_r1))]) (ms':=[arr a_r2 m_r2 cap_r2 3 1 D.i64 l1,row a_r1 cap_r1 3 1 D.i64 l2]) rfl rfl ?_;refine zq5 ?_;refine BM (peekE (i:=4) 1 rfl rfl rfl).refines ?_
  cases hm1;exact Ae zr1
def DL (n1:ANd) (kids1:(List Int)):Nat->(Int×(List AFd)×Int×Int×Int)->Option ((List AFd)×Int×Int×Int)
 | 0,_=>none
 | n+1,(i1,l4,z10,z11,z12) =>
  bif (decide (i1<(n1.l.length:Int))) then
   (idx n1.l i1).bind fun x3 =>
   (idx kids1 i1).bind fun x4 =>
   grd ((l4.length+([(⟨x3.name,x4⟩:AFd)]:List _).length)*24<=140737488355328) <|
   grd (InR (i1+1)) <|
   DL n1 kids1 n ((i1+1),(l4++[(⟨x3.name,x4⟩:AFd)]),z10,z11,z12)
  else
   some (l4,z10,z11,z12)
def G0 (n1:ANd) (kids1:(List Int)):Option ANd:=
 (bif (decide (n1.kind=11)) then
  some (([]:List AFd),n1.kind,n1.a,0)
 else
  some (([]:List AFd),n1.kind,0,0):Option ((List AFd)×Int×Int×Int)).bind fun (l1,z1,z2,z3) =>
 (bif (((decide (n1.kind=6))||(decide (n1.kind=9)))||(decide (n1.kind=10))) then
  (idx kids1 0).bind fun x1 =>
  (idx kids1 1).bind fun x2 =>
  some (l1,z1,x1,x2)
 else
  some (l1,z1,z2,z3):Option ((List AFd)×Int×Int×Int)).bind fun (l2,z4,z5,z6) =>
 (DL n1 kids1 FU (0,l2,z4,z5,z6):Option ((List AFd)×Int×Int×Int)).bind fun (l3,z7,z8,z9) =>
 some (⟨z7,z8,z9,l3⟩:ANd)
theorem Rk {n1:ANd} {kids1:(List Int)} {r_1:ANd} (hm:G0 n1 kids1=some r_1):Fn0 Tryz.prog 38 [ANd.d n1,.list 1 D.i64 kids1] (ANd.d r_1):=by
 unfold G0 at hm;refine Ad func38 rfl ntmps38 rfl fun H0 fr w0=>?_;refine zq3 ?_;refine LB fun b1=>?_;refine zq5 ?_;refine Ai rfl rfl rfl zb49b ?_;refine LB fun b2=>?_;refine zst 0 ?_;refine Ap (Az (T:=71) (sz:=2) (f:=AFd.d)) ?_;refine Ak (ms':=[_,box b2 49 [_,_,_,_],box b1 49 [_,_,_,_]]) rfl ?_;refine zq8 ?_;obtain ⟨o_1,hj1,hm1⟩:=bS hm;refine Ag [(1,_),(2,_),(4,_),(5,_)] [(2,_)] (fun (st:((List AFd)×Int×Int×Int)) (hid:(Option Addr×Nat))=>match st,hid with | (l1,z1,z2,z3),(a_r1,cap_r1)=>[]) (fun F (st:((List AFd)×Int×Int×Int)) (hid:(Option Addr×Nat))=>match st,hid with | (l1,z1,z2,z3),(a_r1,cap_r1)=>[row a_r1 cap_r1 71 2 AFd.d l1,box b2 49 [.i64 z1,.i64 z2,.i64 z3,.v (.slice a_r1 l1.length cap_r1)],(nthF F 0)]) (fun st=>st=o_1) ⟨rfl,rfl,rfl,rfl,trivial⟩ ⟨rfl,trivial⟩ ?_ ?_
 ·refine zcn hj1 (fun hc1 hj1=>?_) (fun hc1 hj1=>?_)
  ·refine zq4 ?_
   refine zst 1 ?_;refine Ak (ms':=[_,box b2 49 [_,_,_,_],box b1 49 [_,_,_,_]]) rfl ?_;refine gNl ?_;exact ⟨_,(_,_),Ac hj1,trivial,⟨rfl,rfl,rfl,rfl,trivial⟩,[],rfl⟩
  ·refine gSp ?_
   exact ⟨_,(_,_),Ac hj1,trivial,⟨rfl,rfl,rfl,rfl,trivial⟩,[],rfl⟩
 ·rintro ⟨l1,z1,z2,z3⟩ ⟨a_r1,cap_r1⟩ hst
  subst hst;refine Al (L':=[(1,_),(2,_),(4,_),(5,_)]) (ms':=[row a_r1 cap_r1 71 2 AFd.d l1,box b2 49 [.i64 z1,.i64 z2,.i64 z3,.v (.slice a_r1 l1.length cap_r1)],_]) rfl rfl ?_;refine zq7 ?_
  apply AX [(1,_),(2,_),(4,_),(5,_)] 4 23 (t:=19) ⟨rfl,rfl,rfl,rfl,trivial⟩ rfl
  ·intro hg_1 hk1
   refine zq4 ?_;exact zgm hk1
  ·intro hg_1 hk1
   refine zq4 ?_;exact zgm hk1
  refine zq1 ?_
  apply AX [(1,_),(2,_),(4,_),(5,_)] 4 28 (t:=24) ⟨rfl,rfl,rfl,rfl,trivial⟩ rfl
  ·intro hg_2 hk2
   refine zq4 ?_;exact zgm hk2
  ·intro hg_2 hk2
   refine zq4 ?_;exact zgm hk2
  refine gNl ?_;obtain ⟨o_2,hj2,hm2⟩:=bS hm1;refine Ag [(1,_),(2,_),(4,_),(5,_)] [(2,_)] (fun (st:((List AFd)×Int×Int×Int)) (hid:(Option Addr×Nat))=>match st,hid with | (l2,z4,z5,z6),(a_r1,cap_r1)=>[]) (fun F (st:((List AFd)×Int×Int×Int)) (hid:(Option Addr×Nat))=>match st,hid with | (l2,z4,z5,z6),(a_r1,cap_r1)=>[row a_r1 cap_r1 71 2 AFd.d l2,box b2 49 [.i64 z4,.i64 z5,.i64 z6,.v (.slice a_r1 l2.length cap_r1)],(nthF F 0)]) (fun st=>st=o_2) ⟨rfl,rfl,rfl,rfl,trivial⟩ ⟨rfl,trivial⟩ ?_ ?_
  ·refine zcn hj2 (fun hc2 hj2=>?_) (fun hc2 hj2=>?_)
   ·obtain ⟨x1,hx1,hj2⟩:=bS hj2
    obtain ⟨x2,hx2,hj2⟩:=bS hj2;refine FY [7,9] [3,4,5,8] [] A0 (by decide +kernel) (by decide +kernel) rfl ?_;refine Ay rfl rfl rfl rfl rfl rfl (oMv rfl) ?_;refine Ay rfl rfl rfl rfl rfl rfl (oIm runUnderlying43 sizeOf3 rfl rfl hx1) ?_;refine Ay rfl rfl rfl rfl rfl rfl (Bk isAgg3 rfl rfl) ?_;refine Ay rfl rfl rfl rfl rfl rfl (oMv rfl) ?_;refine Ay rfl rfl rfl rfl rfl rfl (oIm runUnderlying43 sizeOf3 rfl rfl hx2) ?_;refine Ay rfl rfl rfl rfl rfl rfl (Bk isAgg3 rfl rfl) ?_;refine Ay rfl rfl rfl rfl rfl rfl (oFb KQ rfl) ?_;refine FO rfl ?_;refine Ay rfl rfl rfl rfl rfl rfl (oFb KP rfl) ?_;refine FO rfl ?_;refine Gz ?_;refine F3 rfl rfl rfl (oSb 1 sizeOf3 rfl rfl rfl rfl rfl rfl rfl rfl (nB rfl)) ?_;rintro _ _ rfl;refine ⟨(trivial:True),?_⟩;refine F3 rfl rfl rfl (oSb 1 sizeOf3 rfl rfl rfl rfl rfl rfl rfl rfl (nB rfl)) ?_;rintro _ _ rfl;refine ⟨(trivial:True),?_⟩;refine FW ?_;exact ⟨_,(_,_),Ac hj2,trivial,⟨rfl,rfl,rfl,rfl,trivial⟩,[],rfl⟩
   ·refine gSp ?_
    exact ⟨_,(_,_),Ac hj2,trivial,⟨rfl,rfl,rfl,rfl,trivial⟩,[],rfl⟩
  ·rintro ⟨l2,z4,z5,z6⟩ ⟨a_r1,cap_r1⟩ hst
   subst hst;refine Al (L':=[(1,_),(2,_),(4,_),(5,_)]) (ms':=[row a_r1 cap_r1 71 2 AFd.d l2,box b2 49 [.i64 z4,.i64 z5,.i64 z6,.v (.slice a_r1 l2.length cap_r1)],_]) rfl rfl ?_;refine zq5 ?_;obtain ⟨o_3,hj3,hm3⟩:=bS hm2;refine Ag [(4,_),(5,_)] [(2,_)] (fun (st:((List AFd)×Int×Int×Int)) (hid:(Option Addr×Nat))=>match st,hid with | (l3,z7,z8,z9),(a_r1,cap_r1)=>[]) (fun F (st:((List AFd)×Int×Int×Int)) (hid:(Option Addr×Nat))=>match st,hid with | (l3,z7,z8,z9),(a_r1,cap_r1)=>[row a_r1 cap_r1 71 2 AFd.d l3,box b2 49 [.i64 z7,.i64 z8,.i64 z9,.v (.slice a_r1 l3.length cap_r1)],(nthF F 0)]) (fun st=>st=o_3) ⟨rfl,rfl,trivial⟩ ⟨rfl,trivial⟩ ?_ ?_
   ·refine Am ?_
    refine Ah [(1,_),(2,_),(4,_),(5,_)] [(2,_)] (fun (st:(Int×(List AFd)×Int×Int×Int)) (hid:(Option Addr×Nat))=>match st,hid with | (i1,l4,z10,z11,z12),(a_r1,cap_r1)=>[(6,.i64 i1)]) (fun F (st:(Int×(List AFd)×Int×Int×Int)) (hid:(Option Addr×Nat))=>match st,hid with | (i1,l4,z10,z11,z12),(a_r1,cap_r1)=>[row a_r1 cap_r1 71 2 AFd.d l4,box b2 49 [.i64 z10,.i64 z11,.i64 z12,.v (.slice a_r1 l4.length cap_r1)],(nthF F 0)]) (_,_) hj3 (fun _=>rfl) ⟨rfl,rfl,rfl,rfl,trivial⟩ ⟨rfl,trivial⟩ ⟨rfl,trivial⟩ rfl ?_;rintro n ⟨i1,l4,z10,z11,z12⟩ ⟨a_r1,cap_r1⟩ hj3;rw [DL] at hj3;refine Ao (L':=[(6,.i64 i1),(1,_),(2,_),(4,_),(5,_)]) (ms':=[row a_r1 cap_r1 71 2 AFd.d l4,box b2 49 [.i64 z10,.i64 z11,.i64 z12,.v (.slice a_r1 l4.length cap_r1)],_]) rfl rfl ?_;refine zq9 ?_;refine zcn hj3 (fun hc3 hj3=>?_) (fun hc3 hj3=>?_)
    ·refine zq3 ?_
     obtain ⟨x3,hx3,hj3⟩:=bS hj3;obtain ⟨x4,hx4,hj3⟩:=bS hj3;refine zdr 14 ?_;refine zq12 ?_;refine AC rfl rfl rfl zb71a ?_;refine AC rfl rfl rfl (Aj (xs:=[_]) (f:=AFd.d) (l:=[(⟨x3.name,x4⟩:AFd)]) runUnderlying47 sizeOf71 zeroValue71 rfl rfl rfl (fun _=>⟨rfl,rfl,rfl⟩) rfl) ?_;refine Ex ?_;obtain ⟨hg5,hj3⟩:=Aa hj3;refine zap 0 hg5 fun a_r1 cap_r1=>?_;refine Ak (ms':=[_,box b2 49 [_,_,_,_],box b1 49 [_,_,_,_]]) rfl ?_;refine zq1 ?_;refine zst 1 ?_;refine Ak (ms':=[_,box b2 49 [_,_,_,_],box b1 49 [_,_,_,_]]) rfl ?_;refine zq3 ?_;obtain ⟨hg6,hj3⟩:=Aa hj3;refine zq3 ?_;exact ⟨_,(_,_),hj3,⟨rfl,trivial⟩,⟨rfl,rfl,rfl,rfl,trivial⟩,[],rfl⟩
    ·refine Ar ?_
     exact ⟨_,(_,_),Ac hj3,trivial,⟨rfl,rfl,trivial⟩,[],rfl⟩
   ·rintro ⟨l3,z7,z8,z9⟩ ⟨a_r1,cap_r1⟩ hst
    subst hst;refine Al (L':=[(4,_),(5,_)]) (ms':=[row a_r1 cap_r1 71 2 AFd.d l3,box b2 49 [.i64 z7,.i64 z8,.i64 z9,.v (.slice a_r1 l3.length cap_r1)],_]) rfl rfl ?_;refine zq3 ?_;refine Ap (Ch (i:=60) (q:=3) 0 rfl rfl rfl rfl rfl).refines ?_;refine zst 2 ?_;refine Ak (ms':=[_,box b2 49 [_,_,_,_],box b1 49 [_,_,_,_]]) rfl ?_;refine gNl ?_
    cases hm3;exact Ae zr1
def DE (x1:(List Int)):Nat->(Int×(List Int))->Option (List Int)
 | 0,_=>none
 | n+1,(i1,l2) =>
  bif (decide (i1<(x1.length:Int))) then
   (idx x1 i1).bind fun x2 =>
   (idx l2 x2).bind fun x3 =>
   grd (InR (i1+1)) <|
   DE x1 n ((i1+1),(l2.set (x2).toNat i1))
  else
   some l2
def DG (l1:(List Int)) (x6:(List Int)):Nat->(Int×(List Int))->Option (List Int)
 | 0,_=>none
 | n+1,(j1,l6) =>
  bif (decide (j1<(x6.length:Int))) then
   (idx x6 j1).bind fun x7 =>
   (idx l1 x7).bind fun x8 =>
   grd ((l6.length+([x8]:List _).length)*8<=140737488355328) <|
   grd (InR (j1+1)) <|
   DG l1 x6 n ((j1+1),(l6++[x8]))
  else
   some l6
def Ei (t1:ATy) (x1:(List Int)) (l1:(List Int)):Nat->(Int×(List ANd)×Int)->Option ((List ANd)×Int)
 | 0,_=>none
 | n+1,(i2,l4,z2) =>
  bif (decide (i2<(x1.length:Int))) then
   (idx x1 i2).bind fun x4 =>
   (idx t1.l x4).bind fun x5 =>
   (EY x5).bind fun x6 =>
   (DG l1 x6 FU (0,[]):Option (List Int)).bind fun l5 =>
   (idx x1 i2).bind fun x9 =>
   (idx t1.l x9).bind fun x10 =>
   (G0 x10 l5).bind fun x11 =>
   grd ((l4.length+([x11]:List _).length)*48<=140737488355328) <|
   grd (InR (i2+1)) <|
   Ei t1 x1 l1 n ((i2+1),(l4++[x11]),z2)
  else
   some (l4,z2)
def Gc (t1:ATy) (root1:Int):Option ATy:=
 (Gm t1 root1).bind fun x1 =>
 grd (0<=(t1.l.length:Int)) <|
 grd (((t1.l.length:Int)).toNat*8<=140737488355328) <|
 (DE x1 FU (0,(List.replicate ((t1.l.length:Int)).toNat (0:Int))):Option (List Int)).bind fun l1 =>
 (Ei t1 x1 l1 FU (0,([]:List ANd),0):Option ((List ANd)×Int)).bind fun (l3,z1) =>
 some (⟨l3,z1⟩:ATy)
theorem Rh {t1:ATy} {root1:Int} {r_1:ATy} (hm:Gc t1 root1=some r_1):Fn0 Tryz.prog 14 [ATy.d t1,.i64 root1] (ATy.d r_1):=by
 unfold Gc at hm;refine Ad func14 rfl ntmps14 rfl fun H0 fr w0=>?_;refine zq3 ?_;refine F2 fun b1=>?_;refine zq5 ?_;obtain ⟨x1,hx1,hm⟩:=bS hm;refine zc0 (P9 hx1) ?_;refine zq7 ?_;obtain ⟨hg2,hm⟩:=Aa hm;obtain ⟨hg3,hm⟩:=Aa hm;refine AG rfl rfl rfl (C3 (f:=D.i64) (z0:=0) underlying43 type3 rfl rfl rfl (nB rfl) rfl rfl hg2 hg3 (nB rfl)) ?_;rintro _ _ ⟨a_r1,m_r1,cap_r1,rfl,rfl⟩;refine zq7 ?_;obtain ⟨o_1,hj1,hm1⟩:=bS hm;refine Ag [(2,_),(4,_),(5,_),(6,_)] [(1,_)] (fun (st:(List Int)) (hid:Unit)=>match st,hid with | l1,_=>[]) (fun F (st:(List Int)) (hid:Unit)=>match st,hid with | l1,_=>[arr a_r1 m_r1 cap_r1 3 1 D.i64 l1,(nthF F 0)]) (fun st=>st=o_1) ⟨rfl,rfl,rfl,rfl,trivial⟩ ⟨rfl,trivial⟩ ?_ ?_
 ·refine Am ?_
  refine Ah [(2,_),(4,_),(5,_),(6,_)] [(1,_)] (fun (st:(Int×(List Int))) (hid:Unit)=>match st,hid with | (i1,l2),_=>[(7,.i64 i1)]) (fun F (st:(Int×(List Int))) (hid:Unit)=>match st,hid with | (i1,l2),_=>[arr a_r1 m_r1 cap_r1 3 1 D.i64 l2,(nthF F 0)]) () hj1 (fun _=>rfl) ⟨rfl,rfl,rfl,rfl,trivial⟩ ⟨rfl,trivial⟩ ⟨rfl,trivial⟩ rfl ?_;rintro n ⟨i1,l2⟩ ⟨⟩ hj1;rw [DE] at hj1;refine Ao (L':=[(7,.i64 i1),(2,_),(4,_),(5,_),(6,_)]) (ms':=[arr a_r1 m_r1 cap_r1 3 1 D.i64 l2,_]) rfl rfl ?_;refine zq8 ?_;refine zcn hj1 (fun hc1 hj1=>?_) (fun hc1 hj1=>?_)
  ·refine zq7 ?_
   obtain ⟨x2,hx4,hj1⟩:=bS hj1;refine Ai rfl rfl rfl (oIm runUnderlying43 sizeOf3 rfl rfl hx4) ?_;refine zq2 ?_;obtain ⟨x3,hx5,hj1⟩:=bS hj1;refine Ai rfl rfl rfl (Af 0 runUnderlying43 sizeOf3 rfl rfl rfl hx5) ?_;refine H6 rfl rfl (AV (off:=0) (z':=i1) 0 sizeOf3 rfl rfl (Av hx5).2 rfl rfl rfl rfl rfl rfl (nB rfl) rfl rfl) ?_;rintro _ _ rfl;refine Ak (ms':=[_,box b1 31 [_,_]]) rfl ?_;refine zq3 ?_;obtain ⟨hg6,hj1⟩:=Aa hj1;refine zq3 ?_;exact ⟨_,(),hj1,⟨rfl,trivial⟩,⟨rfl,rfl,rfl,rfl,trivial⟩,[],rfl⟩
  ·refine Ar ?_
   exact ⟨_,(),Ac hj1,trivial,⟨rfl,rfl,rfl,rfl,trivial⟩,[],rfl⟩
 ·rintro l1 ⟨⟩ hst
  subst hst;refine Al (L':=[(2,_),(4,_),(5,_),(6,_)]) (ms':=[arr a_r1 m_r1 cap_r1 3 1 D.i64 l1,_]) rfl rfl ?_;refine zq2 ?_;refine Ai rfl rfl rfl zb31b ?_;refine F2 fun b2=>?_;refine zst 0 ?_;refine Ap (Az (T:=49) (sz:=4) (f:=ANd.d)) ?_;refine Ak (ms':=[_,box b2 31 [_,_],_,box b1 31 [_,_]]) rfl ?_;refine zq6 ?_;obtain ⟨o_2,hj2,hm2⟩:=bS hm1;refine Ag [(4,_),(8,_)] [(2,_),(3,_)] (fun (st:((List ANd)×Int)) (hid:(Option Addr×Nat))=>match st,hid with | (l3,z1),(a_r2,cap_r2)=>[]) (fun F (st:((List ANd)×Int)) (hid:(Option Addr×Nat))=>match st,hid with | (l3,z1),(a_r2,cap_r2)=>[row a_r2 cap_r2 49 4 ANd.d l3,box b2 31 [.v (.slice a_r2 l3.length cap_r2),.i64 z1],(nthF F 0),(nthF F 1)]) (fun st=>st=o_2) ⟨rfl,rfl,trivial⟩ ⟨rfl,rfl,trivial⟩ ?_ ?_
  ·refine Am ?_
   refine Ah [(2,_),(4,_),(5,_),(6,_),(8,_)] [(2,_),(3,_)] (fun (st:(Int×(List ANd)×Int)) (hid:(Option Addr×Nat))=>match st,hid with | (i2,l4,z2),(a_r2,cap_r2)=>[(9,.i64 i2)]) (fun F (st:(Int×(List ANd)×Int)) (hid:(Option Addr×Nat))=>match st,hid with | (i2,l4,z2),(a_r2,cap_r2)=>[row a_r2 cap_r2 49 4 ANd.d l4,box b2 31 [.v (.slice a_r2 l4.length cap_r2),.i64 z2],(nthF F 0),(nthF F 1)]) (_,_) hj2 (fun _=>rfl) ⟨rfl,rfl,rfl,rfl,rfl,trivial⟩ ⟨rfl,rfl,trivial⟩ ⟨rfl,trivial⟩ rfl ?_;rintro n ⟨i2,l4,z2⟩ ⟨a_r2,cap_r2⟩ hj2;rw [Ei] at hj2;refine Ao (L':=[(9,.i64 i2),(2,_),(4,_),(5,_),(6,_),(8,_)]) (ms':=[row a_r2 cap_r2 49 4 ANd.d l4,box b2 31 [.v (.slice a_r2 l4.length cap_r2),.i64 z2],_,_]) rfl rfl ?_;refine zq8 ?_;refine zcn hj2 (fun hc2 hj2=>?_) (fun hc2 hj2=>?_)
   ·refine zq4 ?_
    obtain ⟨x4,hx7,hj2⟩:=bS hj2;obtain ⟨x5,hx8,hj2⟩:=bS hj2;obtain ⟨x6,hx9,hj2⟩:=bS hj2;refine FY [9,11] [0,1,2,3,4,5,6,7,8,10] [] A0 (by decide +kernel) (by decide +kernel) rfl ?_;refine Ay rfl rfl rfl rfl rfl rfl (oFa E3 rfl rfl rfl) ?_;refine Ay rfl rfl rfl rfl rfl rfl (Bk isAgg29 rfl rfl) ?_;refine Ay rfl rfl rfl rfl rfl rfl (oMv rfl) ?_;refine Ay rfl rfl rfl rfl rfl rfl (oMv rfl) ?_;refine Ay rfl rfl rfl rfl rfl rfl (oIm runUnderlying43 sizeOf3 rfl rfl hx7) ?_;refine Ay rfl rfl rfl rfl rfl rfl (Bk isAgg3 rfl rfl) ?_;refine Ay rfl rfl rfl rfl rfl rfl (oIm runUnderlying29 sizeOf49 rfl rfl hx8) ?_;refine Ay rfl rfl rfl rfl rfl rfl (DF isAgg49 sizeOf49 rfl rfl) ?_;refine Ay rfl rfl rfl rfl rfl rfl (Bv call37 rfl (Iu hx9)) ?_;refine FO rfl ?_;refine Ay rfl rfl rfl rfl rfl rfl (oAs rfl) ?_;refine FO rfl ?_;refine Gz ?_;refine Ld rfl rfl rfl rfl (Au (xs:=[]) (f:=D.i64) (l:=[]) runUnderlying43 sizeOf3 zeroValue3 rfl rfl rfl (fun _=>⟨rfl,rfl,rfl⟩) rfl (by simp [maxLen])) ?_;rintro _ _ ⟨a_r3,rfl,rfl⟩;refine ⟨(trivial:True),?_⟩;refine Ld rfl rfl rfl rfl (oAs rfl) ?_;rintro _ _ ⟨rfl,rfl⟩;refine ⟨(trivial:True),?_⟩;refine FW ?_;refine zq5 ?_;obtain ⟨o_3,hj3,hm3⟩:=bS hj2;refine Ag [(2,_),(4,_),(5,_),(6,_),(8,_),(9,_)] [(1,_),(2,_),(3,_),(4,_)] (fun (st:(List Int)) (hid:(Option Addr×Nat))=>match st,hid with | l5,(a_r3,cap_r3)=>[(11,.v (.slice a_r3 l5.length cap_r3))]) (fun F (st:(List Int)) (hid:(Option Addr×Nat))=>match st,hid with | l5,(a_r3,cap_r3)=>[row a_r3 cap_r3 3 1 D.i64 l5,(nthF F 0),(nthF F 1),(nthF F 2),(nthF F 3)]) (fun st=>st=o_3) ⟨rfl,rfl,rfl,rfl,rfl,rfl,trivial⟩ ⟨rfl,rfl,rfl,rfl,trivial⟩ ?_ ?_
    ·refine Am ?_
     refine Ah [(2,_),(4,_),(5,_),(6,_),(8,_),(9,_),(10,_)] [(1,_),(2,_),(3,_),(4,_)] (fun (st:(Int×(List Int))) (hid:(Option Addr×Nat))=>match st,hid with | (j1,l6),(a_r3,cap_r3)=>[(11,.v (.slice a_r3 l6.length cap_r3)),(12,.i64 j1)]) (fun F (st:(Int×(List Int))) (hid:(Option Addr×Nat))=>match st,hid with | (j1,l6),(a_r3,cap_r3)=>[row a_r3 cap_r3 3 1 D.i64 l6,(nthF F 0),(nthF F 1),(nthF F 2),(nthF F 3)]) (_,_) hj3 (fun _=>rfl) ⟨rfl,rfl,rfl,rfl,rfl,rfl,rfl,trivial⟩ ⟨rfl,rfl,rfl,rfl,trivial⟩ ⟨rfl,rfl,trivial⟩ rfl ?_;rintro n ⟨j1,l6⟩ ⟨a_r3,cap_r3⟩ hj3;rw [DG] at hj3;refine Ao (L':=[(11,.v (.slice a_r3 l6.length cap_r3)),(12,.i64 j1),(2,_),(4,_),(5,_),(6,_),(8,_),(9,_),(10,_)]) (ms':=[row a_r3 cap_r3 3 1 D.i64 l6,_,_,_,_]) rfl rfl ?_;refine zq8 ?_;refine zcn hj3 (fun hc3 hj3=>?_) (fun hc3 hj3=>?_)
     ·refine zq8 ?_
      obtain ⟨x7,hx10,hj3⟩:=bS hj3;refine Ai rfl rfl rfl (oIm runUnderlying43 sizeOf3 rfl rfl hx10) ?_;refine zq1 ?_;obtain ⟨x8,hx11,hj3⟩:=bS hj3;refine Ai rfl rfl rfl (Af 3 runUnderlying43 sizeOf3 rfl rfl rfl hx11) ?_;refine Ai rfl rfl rfl (AL (off:=0) 3 isAgg3 rfl rfl (Av hx11).2 rfl rfl rfl) ?_;refine Ai rfl rfl rfl (zs1 D.i64) ?_;obtain ⟨hg12,hj3⟩:=Aa hj3;refine zap 0 hg12 fun a_r3 cap_r3=>?_;refine Ak (ms':=[_,_,box b2 31 [_,_],_,box b1 31 [_,_]]) rfl ?_;refine zq4 ?_;obtain ⟨hg13,hj3⟩:=Aa hj3;refine zq3 ?_;exact ⟨_,(_,_),hj3,⟨rfl,rfl,trivial⟩,⟨rfl,rfl,rfl,rfl,rfl,rfl,rfl,trivial⟩,[],rfl⟩
     ·refine Ar ?_
      exact ⟨_,(_,_),Ac hj3,⟨rfl,trivial⟩,⟨rfl,rfl,rfl,rfl,rfl,rfl,trivial⟩,[],rfl⟩
    ·rintro l5 ⟨a_r3,cap_r3⟩ hst
     subst hst;refine Al (L':=[(11,.v (.slice a_r3 l5.length cap_r3)),(2,_),(4,_),(5,_),(6,_),(8,_),(9,_)]) (ms':=[row a_r3 cap_r3 3 1 D.i64 l5,_,_,_,_]) rfl rfl ?_;obtain ⟨x9,hx14,hm3⟩:=bS hm3;obtain ⟨x10,hx15,hm3⟩:=bS hm3;obtain ⟨x11,hx16,hm3⟩:=bS hm3;refine zdr 13 ?_;refine zq6 ?_;refine AC rfl rfl rfl (oIm runUnderlying43 sizeOf3 rfl rfl hx14) ?_;refine zq1 ?_;refine AC rfl rfl rfl (oIm runUnderlying29 sizeOf49 rfl rfl hx15) ?_;refine zq2 ?_;refine AC rfl rfl rfl (.view (peekE (i:=76) 0 rfl rfl rfl) (Bv call38 rfl (Rk hx16))) ?_;refine AC rfl rfl rfl (zs1 ANd.d) ?_;refine Ex ?_;obtain ⟨hg17,hm3⟩:=Aa hm3;refine zap 1 hg17 fun a_r2 cap_r2=>?_;refine Ak (ms':=[_,_,box b2 31 [_,_],_,box b1 31 [_,_]]) rfl ?_;refine zq1 ?_;refine zst 2 ?_;refine Ak (ms':=[_,_,box b2 31 [_,_],_,box b1 31 [_,_]]) rfl ?_;refine zq3 ?_;obtain ⟨hg18,hm3⟩:=Aa hm3;refine zq3 ?_;exact ⟨_,(_,_),hm3,⟨rfl,trivial⟩,⟨rfl,rfl,rfl,rfl,rfl,trivial⟩,[_],rfl⟩
   ·refine Ar ?_
    exact ⟨_,(_,_),Ac hj2,trivial,⟨rfl,rfl,trivial⟩,[],rfl⟩
  ·rintro ⟨l3,z1⟩ ⟨a_r2,cap_r2⟩ hst
   subst hst;refine Al (L':=[(4,_),(8,_)]) (ms':=[row a_r2 cap_r2 49 4 ANd.d l3,box b2 31 [.v (.slice a_r2 l3.length cap_r2),.i64 z1],_,_]) rfl rfl ?_;refine zq3 ?_;refine Ap (Ch (i:=81) (q:=0) 0 rfl rfl rfl rfl rfl).refines ?_;refine zst 3 ?_;refine Ak (ms':=[_,box b2 31 [_,_],_,box b1 31 [_,_]]) rfl ?_;refine gNl ?_
   cases hm2;exact Ae zr1
def Bo (s1:AutoState) (to1:(List Int)):Nat->(Int×(List AutoEdge)×(List AutoEdge)×Bool×Bool×Bool×Bool×Bool×Bool×Bool×Bool×(List Int)×Int×Int)->Option ((List AutoEdge)×(List AutoEdge)×Bool×Bool×Bool×Bool×Bool×Bool×Bool×Bool×(List Int)×Int×Int)
 | 0,_=>none
 | n+1,(i1,l3,l4,z25,z26,z27,z28,z29,z30,z31,z32,z33,z34,z35) =>
  bif (decide (i1<(s1.fields.length:Int))) then
   (idx s1.fields i1).bind fun x3 =>
   (idx s1.fields i1).bind fun x4 =>
   (idx to1 x4.to_).bind fun x5 =>
   grd ((l4.length+([(⟨x3.name,x5⟩:AutoEdge)]:List _).length)*24<=140737488355328) <|
   grd (InR (i1+1)) <|
   Bo s1 to1 n ((i1+1),l3,(l4++[(⟨x3.name,x5⟩:AutoEdge)]),z25,z26,z27,z28,z29,z30,z31,z32,z33,z34,z35)
  else
   some (l3,l4,z25,z26,z27,z28,z29,z30,z31,z32,z33,z34,z35)
def Bq (s1:AutoState) (to1:(List Int)):Nat->(Int×(List AutoEdge)×(List AutoEdge)×Bool×Bool×Bool×Bool×Bool×Bool×Bool×Bool×(List Int)×Int×Int)->Option ((List AutoEdge)×(List AutoEdge)×Bool×Bool×Bool×Bool×Bool×Bool×Bool×Bool×(List Int)×Int×Int)
 | 0,_=>none
 | n+1,(i2,l7,l8,z47,z48,z49,z50,z51,z52,z53,z54,z55,z56,z57) =>
  bif (decide (i2<(s1.tags.length:Int))) then
   (idx s1.tags i2).bind fun x6 =>
   (idx s1.tags i2).bind fun x7 =>
   (idx to1 x7.to_).bind fun x8 =>
   grd ((l7.length+([(⟨x6.name,x8⟩:AutoEdge)]:List _).length)*24<=140737488355328) <|
   grd (InR (i2+1)) <|
   Bq s1 to1 n ((i2+1),(l7++[(⟨x6.name,x8⟩:AutoEdge)]),l8,z47,z48,z49,z50,z51,z52,z53,z54,z55,z56,z57)
  else
   some (l7,l8,z47,z48,z49,z50,z51,z52,z53,z54,z55,z56,z57)
def Cf (s1:AutoState) (to1:(List Int)):Option AutoState:=
 (bif s1.arrow then
  (idx to1 s1.dom).bind fun x1 =>
  (idx to1 s1.cod).bind fun x2 =>
  some (s1.plus,s1.all,s1.int,s1.bool,s1.str,s1.arrow,s1.rec_,s1.tag,s1.vars,x1,x2,s1.fields,s1.tags)
 else
  some (s1.plus,s1.all,s1.int,s1.bool,s1.str,s1.arrow,s1.rec_,s1.tag,s1.vars,s1.dom,s1.cod,s1.fields,s1.tags):Option (Bool×Bool×Bool×Bool×Bool×Bool×Bool×Bool×(List Int)×Int×Int×(List AutoEdge)×(List AutoEdge))).bind fun (z1,z2,z3,z4,z5,z6,z7,z8,z9,z10,z11,z12,z13) =>
 (Bo s1 to1 FU (0,([]:List AutoEdge),([]:List AutoEdge),z1,z2,z3,z4,z5,z6,z7,z8,z9,z10,z11):Option ((List AutoEdge)×(List AutoEdge)×Bool×Bool×Bool×Bool×Bool×Bool×Bool×Bool×(List Int)×Int×Int)).bind fun (l1,l2,z14,z15,z16,z17,z18,z19,z20,z21,z22,z23,z24) =>
 (Bq s1 to1 FU (0,l1,l2,z14,z15,z16,z17,z18,z19,z20,z21,z22,z23,z24):Option ((List AutoEdge)×(List AutoEdge)×Bool×Bool×Bool×Bool×Bool×Bool×Bool×Bool×(List Int)×Int×Int)).bind fun (l5,l6,z36,z37,z38,z39,z40,z41,z42,z43,z44,z45,z46) =>
 some (⟨z36,z37,z38,z39,z40,z41,z42,z43,z44,z45,z46,l6,l5⟩:AutoState)
theorem HH {s1:AutoState} {to1:(List Int)} {r_1:AutoState} (hm:Cf s1 to1=some r_1):Fn0 Tryz.prog 41 [AutoState.d s1,.list 1 D.i64 to1] (AutoState.d r_1):=by
 unfold Cf at hm;refine Ad func41 rfl ntmps41 rfl fun H0 fr w0=>?_;refine zq3 ?_;refine M7 fun b1=>?_;refine zq4 ?_;refine M7 fun b2=>?_;refine zst 0 ?_;refine Ak (ms':=[box b2 46 [_,_,_,_,_,_,_,_,_,_,_,_,_],box b1 46 [_,_,_,_,_,_,_,_,_,_,_,_,_]]) rfl ?_;refine zq7 ?_;obtain ⟨o_1,hj1,hm1⟩:=bS hm;refine Ag [(1,_),(2,_),(4,_),(5,_)] [(1,_)] (fun (st:(Bool×Bool×Bool×Bool×Bool×Bool×Bool×Bool×(List Int)×Int×Int×(List AutoEdge)×(List AutoEdge))) (hid:Unit)=>match st,hid with | (z1,z2,z3,z4,z5,z6,z7,z8,z9,z10,z11,z12,z13),_=>[]) (fun F (st:(Bool×Bool×Bool×Bool×Bool×Bool×Bool×Bool×(List Int)×Int×Int×(List AutoEdge)×(List AutoEdge))) (hid:Unit)=>match st,hid with | (z1,z2,z3,z4,z5,z6,z7,z8,z9,z10,z11,z12,z13),_=>[box b2 46 [.bool z1,.bool z2,.bool z3,.bool z4,.bool z5,.bool z6,.bool z7,.bool z8,.list 1 D.i64 z9,.i64 z10,.i64 z11,.list 2 AutoEdge.d z12,.list 2 AutoEdge.d z13],(nthF F 0)]) (fun st=>st=o_1) ⟨rfl,rfl,rfl,rfl,trivial⟩ ⟨rfl,trivial⟩ ?_ ?_
 ·refine zcn hj1 (fun hc1 hj1=>?_) (fun hc1 hj1=>?_)
  ·obtain ⟨x1,hx1,hj1⟩:=bS hj1
   obtain ⟨x2,hx2,hj1⟩:=bS hj1;refine FY [11,13] [5,6,7,8,9,12] [] A0 (by decide +kernel) (by decide +kernel) rfl ?_;refine Ay rfl rfl rfl rfl rfl rfl (oMv rfl) ?_;refine Ay rfl rfl rfl rfl rfl rfl (oFa KJ rfl rfl rfl) ?_;refine Ay rfl rfl rfl rfl rfl rfl (Bk isAgg3 rfl rfl) ?_;refine Ay rfl rfl rfl rfl rfl rfl (oIm runUnderlying43 sizeOf3 rfl rfl hx1) ?_;refine Ay rfl rfl rfl rfl rfl rfl (Bk isAgg3 rfl rfl) ?_;refine Ay rfl rfl rfl rfl rfl rfl (oMv rfl) ?_;refine Ay rfl rfl rfl rfl rfl rfl (oFa Jv rfl rfl rfl) ?_;refine Ay rfl rfl rfl rfl rfl rfl (Bk isAgg3 rfl rfl) ?_;refine Ay rfl rfl rfl rfl rfl rfl (oIm runUnderlying43 sizeOf3 rfl rfl hx2) ?_;refine Ay rfl rfl rfl rfl rfl rfl (Bk isAgg3 rfl rfl) ?_;refine Ay rfl rfl rfl rfl rfl rfl (oFb KJ rfl) ?_;refine FO rfl ?_;refine Ay rfl rfl rfl rfl rfl rfl (oFb Jv rfl) ?_;refine FO rfl ?_;refine Gz ?_;refine F3 rfl rfl rfl (oSb 0 sizeOf3 rfl rfl rfl rfl rfl rfl rfl rfl (nB rfl)) ?_;rintro _ _ rfl;refine ⟨(trivial:True),?_⟩;refine F3 rfl rfl rfl (oSb 0 sizeOf3 rfl rfl rfl rfl rfl rfl rfl rfl (nB rfl)) ?_;rintro _ _ rfl;refine ⟨(trivial:True),?_⟩;refine FW ?_;exact ⟨_,(),Ac hj1,trivial,⟨rfl,rfl,rfl,rfl,trivial⟩,[],rfl⟩
  ·refine gSp ?_
   exact ⟨_,(),Ac hj1,trivial,⟨rfl,rfl,rfl,rfl,trivial⟩,[],rfl⟩
 ·rintro ⟨z1,z2,z3,z4,z5,z6,z7,z8,z9,z10,z11,z12,z13⟩ _ hst
  subst hst;refine Al (L':=[(1,_),(2,_),(4,_),(5,_)]) (ms':=[box b2 46 [.bool z1,.bool z2,.bool z3,.bool z4,.bool z5,.bool z6,.bool z7,.bool z8,.list 1 D.i64 z9,.i64 z10,.i64 z11,.list 2 AutoEdge.d z12,.list 2 AutoEdge.d z13],_]) rfl rfl ?_;refine zq3 ?_;refine zst 0 ?_;refine Ap (Az (T:=61) (sz:=2) (f:=AutoEdge.d)) ?_;refine Ak (ms':=[_,box b2 46 [_,_,_,_,_,_,_,_,_,_,_,_,_],box b1 46 [_,_,_,_,_,_,_,_,_,_,_,_,_]]) rfl ?_;refine zq1 ?_;refine zst 1 ?_;refine Ap (Az (T:=61) (sz:=2) (f:=AutoEdge.d)) ?_;refine Ak (ms':=[_,_,box b2 46 [_,_,_,_,_,_,_,_,_,_,_,_,_],box b1 46 [_,_,_,_,_,_,_,_,_,_,_,_,_]]) rfl ?_;refine zq6 ?_;obtain ⟨o_2,hj2,hm2⟩:=bS hm1;refine Ag [(1,_),(2,_),(4,_),(5,_)] [(3,_)] (fun (st:((List AutoEdge)×(List AutoEdge)×Bool×Bool×Bool×Bool×Bool×Bool×Bool×Bool×(List Int)×Int×Int)) (hid:(Option Addr×Nat)×(Option Addr×Nat))=>match st,hid with | (l1,l2,z14,z15,z16,z17,z18,z19,z20,z21,z22,z23,z24),((a_r2,cap_r2),(a_r1,cap_r1))=>[]) (fun F (st:((List AutoEdge)×(List AutoEdge)×Bool×Bool×Bool×Bool×Bool×Bool×Bool×Bool×(List Int)×Int×Int)) (hid:(Option Addr×Nat)×(Option Addr×Nat))=>match st,hid with | (l1,l2,z14,z15,z16,z17,z18,z19,z20,z21,z22,z23,z24),((a_r2,cap_r2),(a_r1,cap_r1))=>[row a_r2 cap_r2 61 2 AutoEdge.d l1,row a_r1 cap_r1 61 2 AutoEdge.d l2,box b2 46 [.bool z14,.bool z15,.bool z16,.bool z17,.bool z18,.bool z19,.bool z20,.bool z21,.list 1 D.i64 z22,.i64 z23,.i64 z24,.v (.slice a_r1 l2.length cap_r1),.v (.slice a_r2 l1.length cap_r2)],(nthF F 0)]) (fun st=>st=o_2) ⟨rfl,rfl,rfl,rfl,trivial⟩ ⟨rfl,trivial⟩ ?_ ?_
  ·refine Am ?_
   refine Ah [(1,_),(2,_),(4,_),(5,_)] [(3,_)] (fun (st:(Int×(List AutoEdge)×(List AutoEdge)×Bool×Bool×Bool×Bool×Bool×Bool×Bool×Bool×(List Int)×Int×Int)) (hid:(Option Addr×Nat)×(Option Addr×Nat))=>match st,hid with | (i1,l3,l4,z25,z26,z27,z28,z29,z30,z31,z32,z33,z34,z35),((a_r2,cap_r2),(a_r1,cap_r1))=>[(6,.i64 i1)]) (fun F (st:(Int×(List AutoEdge)×(List AutoEdge)×Bool×Bool×Bool×Bool×Bool×Bool×Bool×Bool×(List Int)×Int×Int)) (hid:(Option Addr×Nat)×(Option Addr×Nat))=>match st,hid with | (i1,l3,l4,z25,z26,z27,z28,z29,z30,z31,z32,z33,z34,z35),((a_r2,cap_r2),(a_r1,cap_r1))=>[row a_r2 cap_r2 61 2 AutoEdge.d l3,row a_r1 cap_r1 61 2 AutoEdge.d l4,box b2 46 [.bool z25,.bool z26,.bool z27,.bool z28,.bool z29,.bool z30,.bool z31,.bool z32,.list 1 D.i64 z33,.i64 z34,.i64 z35,.v (.slice a_r1 l4.length cap_r1),.v (.slice a_r2 l3.length cap_r2)],(nthF F 0)]) ((_,_),(_,_)) hj2 (fun _=>rfl) ⟨rfl,rfl,rfl,rfl,trivial⟩ ⟨rfl,trivial⟩ ⟨rfl,trivial⟩ rfl ?_;rintro n ⟨i1,l3,l4,z25,z26,z27,z28,z29,z30,z31,z32,z33,z34,z35⟩ ⟨⟨a_r2,cap_r2⟩,⟨a_r1,cap_r1⟩⟩ hj2;rw [Bo] at hj2;refine Ao (L':=[(6,.i64 i1),(1,_),(2,_),(4,_),(5,_)]) (ms':=[row a_r2 cap_r2 61 2 AutoEdge.d l3,row a_r1 cap_r1 61 2 AutoEdge.d l4,box b2 46 [.bool z25,.bool z26,.bool z27,.bool z28,.bool z29,.bool z30,.bool z31,.bool z32,.list 1 D.i64 z33,.i64 z34,.i64 z35,.v (.slice a_r1 l4.length cap_r1),.v (.slice a_r2 l3.length cap_r2)],_]) rfl rfl ?_;refine zq9 ?_;refine zcn hj2 (fun hc2 hj2=>?_) (fun hc2 hj2=>?_)
   ·refine zq3 ?_
    obtain ⟨x3,hx3,hj2⟩:=bS hj2;obtain ⟨x4,hx4,hj2⟩:=bS hj2;obtain ⟨x5,hx5,hj2⟩:=bS hj2;refine zdr 19 ?_;refine zq5 ?_;refine AC rfl rfl rfl (oIm runUnderlying44 sizeOf61 rfl rfl hx3) ?_;refine zq6 ?_;refine AC rfl rfl rfl (oIm runUnderlying44 sizeOf61 rfl rfl hx4) ?_;refine zq2 ?_;refine AC rfl rfl rfl (oIm runUnderlying43 sizeOf3 rfl rfl hx5) ?_;refine zq1 ?_;refine AC rfl rfl rfl zb61a ?_;refine AC rfl rfl rfl (Aj (xs:=[_]) (f:=AutoEdge.d) (l:=[(⟨x3.name,x5⟩:AutoEdge)]) runUnderlying44 sizeOf61 zeroValue61 rfl rfl rfl (fun _=>⟨rfl,rfl,rfl⟩) rfl) ?_;refine Ex ?_;obtain ⟨hg6,hj2⟩:=Aa hj2;refine zap 1 hg6 fun a_r1 cap_r1=>?_;refine Ak (ms':=[_,_,box b2 46 [_,_,_,_,_,_,_,_,_,_,_,_,_],box b1 46 [_,_,_,_,_,_,_,_,_,_,_,_,_]]) rfl ?_;refine zq1 ?_;refine zst 2 ?_;refine Ak (ms':=[_,_,box b2 46 [_,_,_,_,_,_,_,_,_,_,_,_,_],box b1 46 [_,_,_,_,_,_,_,_,_,_,_,_,_]]) rfl ?_;refine zq3 ?_;obtain ⟨hg7,hj2⟩:=Aa hj2;refine zq3 ?_;exact ⟨_,((_,_),(_,_)),hj2,⟨rfl,trivial⟩,⟨rfl,rfl,rfl,rfl,trivial⟩,[],rfl⟩
   ·refine Ar ?_
    exact ⟨_,((_,_),(_,_)),Ac hj2,trivial,⟨rfl,rfl,rfl,rfl,trivial⟩,[],rfl⟩
  ·rintro ⟨l1,l2,z14,z15,z16,z17,z18,z19,z20,z21,z22,z23,z24⟩ ⟨⟨a_r2,cap_r2⟩,⟨a_r1,cap_r1⟩⟩ hst
   subst hst;refine Al (L':=[(1,_),(2,_),(4,_),(5,_)]) (ms':=[row a_r2 cap_r2 61 2 AutoEdge.d l1,row a_r1 cap_r1 61 2 AutoEdge.d l2,box b2 46 [.bool z14,.bool z15,.bool z16,.bool z17,.bool z18,.bool z19,.bool z20,.bool z21,.list 1 D.i64 z22,.i64 z23,.i64 z24,.v (.slice a_r1 l2.length cap_r1),.v (.slice a_r2 l1.length cap_r2)],_]) rfl rfl ?_;refine zq5 ?_;obtain ⟨o_3,hj3,hm3⟩:=bS hm2;refine Ag [(4,_),(5,_)] [(3,_)] (fun (st:((List AutoEdge)×(List AutoEdge)×Bool×Bool×Bool×Bool×Bool×Bool×Bool×Bool×(List Int)×Int×Int)) (hid:(Option Addr×Nat)×(Option Addr×Nat))=>match st,hid with | (l5,l6,z36,z37,z38,z39,z40,z41,z42,z43,z44,z45,z46),((a_r2,cap_r2),(a_r1,cap_r1))=>[]) (fun F (st:((List AutoEdge)×(List AutoEdge)×Bool×Bool×Bool×Bool×Bool×Bool×Bool×Bool×(List Int)×Int×Int)) (hid:(Option Addr×Nat)×(Option Addr×Nat))=>match st,hid with | (l5,l6,z36,z37,z38,z39,z40,z41,z42,z43,z44,z45,z46),((a_r2,cap_r2),(a_r1,cap_r1))=>[row a_r2 cap_r2 61 2 AutoEdge.d l5,row a_r1 cap_r1 61 2 AutoEdge.d l6,box b2 46 [.bool z36,.bool z37,.bool z38,.bool z39,.bool z40,.bool z41,.bool z42,.bool z43,.list 1 D.i64 z44,.i64 z45,.i64 z46,.v (.slice a_r1 l6.length cap_r1),.v (.slice a_r2 l5.length cap_r2)],(nthF F 0)]) (fun st=>st=o_3) ⟨rfl,rfl,trivial⟩ ⟨rfl,trivial⟩ ?_ ?_
   ·refine Am ?_
    refine Ah [(1,_),(2,_),(4,_),(5,_)] [(3,_)] (fun (st:(Int×(List AutoEdge)×(List AutoEdge)×Bool×Bool×Bool×Bool×Bool×Bool×Bool×Bool×(List Int)×Int×Int)) (hid:(Option Addr×Nat)×(Option Addr×Nat))=>match st,hid with | (i2,l7,l8,z47,z48,z49,z50,z51,z52,z53,z54,z55,z56,z57),((a_r2,cap_r2),(a_r1,cap_r1))=>[(7,.i64 i2)]) (fun F (st:(Int×(List AutoEdge)×(List AutoEdge)×Bool×Bool×Bool×Bool×Bool×Bool×Bool×Bool×(List Int)×Int×Int)) (hid:(Option Addr×Nat)×(Option Addr×Nat))=>match st,hid with | (i2,l7,l8,z47,z48,z49,z50,z51,z52,z53,z54,z55,z56,z57),((a_r2,cap_r2),(a_r1,cap_r1))=>[row a_r2 cap_r2 61 2 AutoEdge.d l7,row a_r1 cap_r1 61 2 AutoEdge.d l8,box b2 46 [.bool z47,.bool z48,.bool z49,.bool z50,.bool z51,.bool z52,.bool z53,.bool z54,.list 1 D.i64 z55,.i64 z56,.i64 z57,.v (.slice a_r1 l8.length cap_r1),.v (.slice a_r2 l7.length cap_r2)],(nthF F 0)]) ((_,_),(_,_)) hj3 (fun _=>rfl) ⟨rfl,rfl,rfl,rfl,trivial⟩ ⟨rfl,trivial⟩ ⟨rfl,trivial⟩ rfl ?_;rintro n ⟨i2,l7,l8,z47,z48,z49,z50,z51,z52,z53,z54,z55,z56,z57⟩ ⟨⟨a_r2,cap_r2⟩,⟨a_r1,cap_r1⟩⟩ hj3;rw [Bq] at hj3;refine Ao (L':=[(7,.i64 i2),(1,_),(2,_),(4,_),(5,_)]) (ms':=[row a_r2 cap_r2 61 2 AutoEdge.d l7,row a_r1 cap_r1 61 2 AutoEdge.d l8,box b2 46 [.bool z47,.bool z48,.bool z49,.bool z50,.bool z51,.bool z52,.bool z53,.bool z54,.list 1 D.i64 z55,.i64 z56,.i64 z57,.v (.slice a_r1 l8.length cap_r1),.v (.slice a_r2 l7.length cap_r2)],_]) rfl rfl ?_;refine zq9 ?_;refine zcn hj3 (fun hc3 hj3=>?_) (fun hc3 hj3=>?_)
    ·refine zq3 ?_
     obtain ⟨x6,hx8,hj3⟩:=bS hj3;obtain ⟨x7,hx9,hj3⟩:=bS hj3;obtain ⟨x8,hx10,hj3⟩:=bS hj3;refine zdr 19 ?_;refine zq5 ?_;refine AC rfl rfl rfl (oIm runUnderlying44 sizeOf61 rfl rfl hx8) ?_;refine zq6 ?_;refine AC rfl rfl rfl (oIm runUnderlying44 sizeOf61 rfl rfl hx9) ?_;refine zq2 ?_;refine AC rfl rfl rfl (oIm runUnderlying43 sizeOf3 rfl rfl hx10) ?_;refine zq1 ?_;refine AC rfl rfl rfl zb61a ?_;refine AC rfl rfl rfl (Aj (xs:=[_]) (f:=AutoEdge.d) (l:=[(⟨x6.name,x8⟩:AutoEdge)]) runUnderlying44 sizeOf61 zeroValue61 rfl rfl rfl (fun _=>⟨rfl,rfl,rfl⟩) rfl) ?_;refine Ex ?_;obtain ⟨hg11,hj3⟩:=Aa hj3;refine zap 0 hg11 fun a_r2 cap_r2=>?_;refine Ak (ms':=[_,_,box b2 46 [_,_,_,_,_,_,_,_,_,_,_,_,_],box b1 46 [_,_,_,_,_,_,_,_,_,_,_,_,_]]) rfl ?_;refine zq1 ?_;refine zst 2 ?_;refine Ak (ms':=[_,_,box b2 46 [_,_,_,_,_,_,_,_,_,_,_,_,_],box b1 46 [_,_,_,_,_,_,_,_,_,_,_,_,_]]) rfl ?_;refine zq3 ?_;obtain ⟨hg12,hj3⟩:=Aa hj3;refine zq3 ?_;exact ⟨_,((_,_),(_,_)),hj3,⟨rfl,trivial⟩,⟨rfl,rfl,rfl,rfl,trivial⟩,[],rfl⟩
    ·refine Ar ?_
     exact ⟨_,((_,_),(_,_)),Ac hj3,trivial,⟨rfl,rfl,trivial⟩,[],rfl⟩
   ·rintro ⟨l5,l6,z36,z37,z38,z39,z40,z41,z42,z43,z44,z45,z46⟩ ⟨⟨a_r2,cap_r2⟩,⟨a_r1,cap_r1⟩⟩ hst
    subst hst;refine Al (L':=[(4,_),(5,_)]) (ms':=[row a_r2 cap_r2 61 2 AutoEdge.d l5,row a_r1 cap_r1 61 2 AutoEdge.d l6,box b2 46 [.bool z36,.bool z37,.bool z38,.bool z39,.bool z40,.bool z41,.bool z42,.bool z43,.list 1 D.i64 z44,.i64 z45,.i64 z46,.v (.slice a_r1 l6.length cap_r1),.v (.slice a_r2 l5.length cap_r2)],_]) rfl rfl ?_;refine zq3 ?_;refine Ap (Ch (i:=81) (q:=11) 1 rfl rfl rfl rfl rfl).refines ?_;refine Ap (Ch (i:=81) (q:=12) 0 rfl rfl rfl rfl rfl).refines ?_;refine zst 3 ?_;refine Ak (ms':=[_,_,box b2 46 [_,_,_,_,_,_,_,_,_,_,_,_,_],box b1 46 [_,_,_,_,_,_,_,_,_,_,_,_,_]]) rfl ?_;refine gNl ?_
    cases hm3;exact Ae zr1
def AW (x3:(List Int)):Nat->(Int×(List Int))->Option (List Int)
 | 0,_=>none
 | n+1,(k1,l4) =>
  bif (decide (k1<(x3.length:Int))) then
   (idx x3 k1).bind fun x4 =>
   (Dz l4 x4).bind fun x5 =>
   bif (!x5) then
    (idx x3 k1).bind fun x6 =>
    grd ((l4.length+([x6]:List _).length)*8<=140737488355328) <|
    grd (InR (k1+1)) <|
    AW x3 n ((k1+1),(l4++[x6]))
   else
    grd (InR (k1+1)) <|
    AW x3 n ((k1+1),l4)
  else
   some l4
def Bb (a1:AutoAuto):Nat->(Int×(List Int))->Option (List Int)
 | 0,_=>none
 | n+1,(i1,l2) =>
  bif (decide (i1<(l2.length:Int))) then
   (idx l2 i1).bind fun x1 =>
   (idx a1.l x1).bind fun x2 =>
   (B2 x2).bind fun x3 =>
   (AW x3 FU (0,l2):Option (List Int)).bind fun l3 =>
   grd (InR (i1+1)) <|
   Bb a1 n ((i1+1),l3)
  else
   some l2
def Bd (l1:(List Int)):Nat->(Int×(List Int))->Option (List Int)
 | 0,_=>none
 | n+1,(i2,l6) =>
  bif (decide (i2<(l1.length:Int))) then
   (idx l1 i2).bind fun x7 =>
   (idx l6 x7).bind fun x8 =>
   grd (InR (i2+1)) <|
   Bd l1 n ((i2+1),(l6.set (x7).toNat i2))
  else
   some l6
def By (a1:AutoAuto) (l1:(List Int)) (l5:(List Int)):Nat->(Int×(List AutoState)×Int)->Option ((List AutoState)×Int)
 | 0,_=>none
 | n+1,(i3,l8,z2) =>
  bif (decide (i3<(l1.length:Int))) then
   (idx l1 i3).bind fun x9 =>
   (idx a1.l x9).bind fun x10 =>
   (Cf x10 l5).bind fun x11 =>
   grd ((l8.length+([x11]:List _).length)*96<=140737488355328) <|
   grd (InR (i3+1)) <|
   By a1 l1 l5 n ((i3+1),(l8++[x11]),z2)
  else
   some (l8,z2)
def Co (a1:AutoAuto):Option AutoAuto:=
 (Bb a1 FU (0,[a1.start]):Option (List Int)).bind fun l1 =>
 grd (0<=(a1.l.length:Int)) <|
 grd (((a1.l.length:Int)).toNat*8<=140737488355328) <|
 (Bd l1 FU (0,(List.replicate ((a1.l.length:Int)).toNat (0:Int))):Option (List Int)).bind fun l5 =>
 (By a1 l1 l5 FU (0,([]:List AutoState),0):Option ((List AutoState)×Int)).bind fun (l7,z1) =>
 some (⟨l7,z1⟩:AutoAuto)
end Go.Proofs.YtcoghblhdjmbfaaGreat
