/- Part 8 of the proof: a program logic, what the functions compute, and what these answer; no condition. -/
import Derived.Test.YtcoghblhdjmbfaaGreatp7
import Derived.Shelf.Sort.Plain
import Derived.Ground.Names2Prog
import Derived.Shelf.Slices.CompactI
import Derived.Shelf.Slices.In.SortNone
import Derived.Test.YtcoghblhdjmbfaaGreatProg
set_option linter.unusedVariables false
set_option linter.unusedSimpArgs false
set_option maxRecDepth 100000
set_option maxHeartbeats 2000000
namespace Go.Proofs.YtcoghblhdjmbfaaGreat
open Go.V Tryz
theorem Ir {t1:ATy} {goals1:(List RSeq)} {flex1:Int}  {s_1:Syntagmaref19World} (hm:B1 t1 goals1 flex1=some s_1):Go.V.Fn Tryz.prog 50 [ATy.d t1,.list 2 RSeq.d goals1,.i64 flex1] [] (fun d ms'=>∃ b_s_1 a_s_1c3 cap_s_1c3 a_s_1c4 m_s_1c4 cap_s_1c4 q_s_1c4 a_s_1c5 m_s_1c5 cap_s_1c5 a_s_1c6 m_s_1c6 cap_s_1c6,d = .v (.pointer (some ⟨b_s_1,0,none⟩))/\ms'=[box b_s_1 133 [.list 4 ANd.d s_1.t.l,.i64 s_1.t.root,.i64 s_1.flex,.v (.slice a_s_1c3 s_1.all.length cap_s_1c3),.v (.slice a_s_1c4 m_s_1c4 cap_s_1c4),.v (.slice a_s_1c5 m_s_1c5 cap_s_1c5),.v (.slice a_s_1c6 m_s_1c6 cap_s_1c6),.bool s_1.mixed,.bool s_1.fails],row a_s_1c3 cap_s_1c3 95 2 RSeq.d s_1.all,bks a_s_1c4 m_s_1c4 cap_s_1c4 43 3 1 D.i64 s_1.buckets q_s_1c4,arr a_s_1c5 m_s_1c5 cap_s_1c5 131 1 (D.list 1 (D.list 1 D.i64)) s_1.below_,arr a_s_1c6 m_s_1c6 cap_s_1c6 131 1 (D.list 1 (D.list 1 D.i64)) s_1.above]):=by
 unfold B1 at hm;refine Ad func50 rfl ntmps50 rfl fun H0 fr w0=>?_;refine zq6 ?_;obtain ⟨hg1,hm⟩:=Aa hm;obtain ⟨hg2,hm⟩:=Aa hm;obtain ⟨hg3,hm⟩:=Aa hm;obtain ⟨hg4,hm⟩:=Aa hm;obtain ⟨hg5,hm⟩:=Aa hm;obtain ⟨hg6,hm⟩:=Aa hm;refine GH 7 [3,5,6] Bf (by decide +kernel) (by decide +kernel) rfl (by decide +kernel) ?_;refine AC rfl rfl rfl rfl (D8 isAgg31 sizeOf31 rfl rfl) ?_;refine AC rfl rfl rfl rfl (oMv rfl) ?_;refine AC rfl rfl rfl rfl (oMv rfl) ?_;refine ED (R:=fun d A=>∃ a m cap,d = .v (.slice a m cap)/\A=arr a m cap 131 1 (D.list 1 (D.list 1 D.i64)) (List.replicate (flex1).toNat (([]:List (List Int)):(List (List Int))))) rfl rfl rfl (OpT.mono (DY (f:=(D.list 1 (D.list 1 D.i64))) (z0:=([]:List (List Int))) underlying130 type131 rfl rfl rfl (nB rfl) rfl rfl hg1 hg2 (nB rfl)) (by rintro d ms' ⟨a,m,cap,rfl,rfl⟩;exact ⟨_,⟨a,m,cap,rfl,rfl⟩,rfl⟩)) ?_;refine AC rfl rfl rfl rfl (oMv rfl) ?_;refine ED (R:=fun d A=>∃ a m cap,d = .v (.slice a m cap)/\A=arr a m cap 131 1 (D.list 1 (D.list 1 D.i64)) (List.replicate (flex1).toNat (([]:List (List Int)):(List (List Int))))) rfl rfl rfl (OpT.mono (DY (f:=(D.list 1 (D.list 1 D.i64))) (z0:=([]:List (List Int))) underlying130 type131 rfl rfl rfl (nB rfl) rfl rfl hg3 hg4 (nB rfl)) (by rintro d ms' ⟨a,m,cap,rfl,rfl⟩;exact ⟨_,⟨a,m,cap,rfl,rfl⟩,rfl⟩)) ?_;refine ED (R:=fun d A=>∃ a m cap q,d = .v (.slice a m cap)/\A=bks a m cap 43 3 1 D.i64 (List.replicate ((997:Int)).toNat ([]:(List Int))) q) rfl rfl rfl (OpT.mono (Lk (e:=3) (sz:=1) (f:=D.i64) underlying131 type43 rfl rfl rfl rfl rfl hg5 hg6 (nB rfl)) (by rintro d ms' ⟨a,m,cap,q,rfl,rfl⟩;exact ⟨_,⟨a,m,cap,q,rfl,rfl⟩,rfl⟩)) ?_;refine Ig ?_;rintro _ _ ⟨a_r1,m_r1,cap_r1,rfl,rfl⟩;rintro _ _ ⟨a_r2,m_r2,cap_r2,rfl,rfl⟩;rintro _ _ ⟨a_r3,m_r3,cap_r3,q_r3,rfl,rfl⟩;refine Ai rfl rfl rfl W6 ?_;refine Az rfl rfl rfl (IW rfl rfl rfl) ?_;rintro _ _ ⟨b1,rfl,rfl⟩;refine Aq (AG (T:=95) (sz:=2) (f:=RSeq.d)) ?_;refine zq7 ?_;obtain ⟨o_1,hj1,hm1⟩:=bS hm;refine Af [(2,_),(7,_)] [] (fun (st:((List RSeq)×(List ANd)×Int×Int×Bool×Bool×(List (List (List Int)))×(List (List (List Int)))×(List (List Int)))) (hid:(Option Addr×Nat)×Unit×Unit×(List ((List Int)×Option Addr×Nat)))=>match st,hid with | (l1,z1,z2,z3,z4,z5,l2,l3,l4),((a_r4,cap_r4),_,_,q_r3)=>[]) (fun F (st:((List RSeq)×(List ANd)×Int×Int×Bool×Bool×(List (List (List Int)))×(List (List (List Int)))×(List (List Int)))) (hid:(Option Addr×Nat)×Unit×Unit×(List ((List Int)×Option Addr×Nat)))=>match st,hid with | (l1,z1,z2,z3,z4,z5,l2,l3,l4),((a_r4,cap_r4),_,_,q_r3)=>[row a_r4 cap_r4 95 2 RSeq.d l1,box b1 133 [.list 4 ANd.d z1,.i64 z2,.i64 z3,.v (.slice a_r4 l1.length cap_r4),.v (.slice a_r3 m_r3 cap_r3),.v (.slice a_r1 m_r1 cap_r1),.v (.slice a_r2 m_r2 cap_r2),.bool z4,.bool z5],arr a_r1 m_r1 cap_r1 131 1 (D.list 1 (D.list 1 D.i64)) l2,arr a_r2 m_r2 cap_r2 131 1 (D.list 1 (D.list 1 D.i64)) l3,bks a_r3 m_r3 cap_r3 43 3 1 D.i64 l4 q_r3]) (fun st=>st=o_1) ⟨rfl,rfl,trivial⟩ trivial ?_ ?_
 ·refine Am ?_
  refine Ag [(1,_),(2,_),(7,_)] [] (fun (st:(Int×(List RSeq)×(List ANd)×Int×Int×Bool×Bool×(List (List (List Int)))×(List (List (List Int)))×(List (List Int)))) (hid:(Option Addr×Nat)×Unit×Unit×(List ((List Int)×Option Addr×Nat)))=>match st,hid with | (i1,l5,z6,z7,z8,z9,z10,l6,l7,l8),((a_r4,cap_r4),_,_,q_r3)=>[(8,.i64 i1)]) (fun F (st:(Int×(List RSeq)×(List ANd)×Int×Int×Bool×Bool×(List (List (List Int)))×(List (List (List Int)))×(List (List Int)))) (hid:(Option Addr×Nat)×Unit×Unit×(List ((List Int)×Option Addr×Nat)))=>match st,hid with | (i1,l5,z6,z7,z8,z9,z10,l6,l7,l8),((a_r4,cap_r4),_,_,q_r3)=>[row a_r4 cap_r4 95 2 RSeq.d l5,box b1 133 [.list 4 ANd.d z6,.i64 z7,.i64 z8,.v (.slice a_r4 l5.length cap_r4),.v (.slice a_r3 m_r3 cap_r3),.v (.slice a_r1 m_r1 cap_r1),.v (.slice a_r2 m_r2 cap_r2),.bool z9,.bool z10],arr a_r1 m_r1 cap_r1 131 1 (D.list 1 (D.list 1 D.i64)) l6,arr a_r2 m_r2 cap_r2 131 1 (D.list 1 (D.list 1 D.i64)) l7,bks a_r3 m_r3 cap_r3 43 3 1 D.i64 l8 q_r3]) ((_,_),(),(),_) hj1 (fun _=>rfl) ⟨rfl,rfl,rfl,trivial⟩ trivial ⟨rfl,trivial⟩ rfl ?_;rintro n ⟨i1,l5,z6,z7,z8,z9,z10,l6,l7,l8⟩ ⟨⟨a_r4,cap_r4⟩,⟨⟩,⟨⟩,q_r3⟩ hj1;rw [Bi] at hj1;refine Av (L':=[(8,.i64 i1),(1,_),(2,_),(7,_)]) (ms':=[row a_r4 cap_r4 95 2 RSeq.d l5,box b1 133 [.list 4 ANd.d z6,.i64 z7,.i64 z8,.v (.slice a_r4 l5.length cap_r4),.v (.slice a_r3 m_r3 cap_r3),.v (.slice a_r1 m_r1 cap_r1),.v (.slice a_r2 m_r2 cap_r2),.bool z9,.bool z10],arr a_r1 m_r1 cap_r1 131 1 (D.list 1 (D.list 1 D.i64)) l6,arr a_r2 m_r2 cap_r2 131 1 (D.list 1 (D.list 1 D.i64)) l7,bks a_r3 m_r3 cap_r3 43 3 1 D.i64 l8 q_r3]) rfl rfl ?_;refine zq8 ?_;refine zcn hj1 (fun hc1 hj1=>?_) (fun hc1 hj1=>?_)
  ·refine zq3 ?_
   obtain ⟨x1,hx7,hj1⟩:=bS hj1;obtain ⟨x2,hx8,hj1⟩:=bS hj1;obtain ⟨x3,hx9,hj1⟩:=bS hj1;obtain ⟨x4,hx10,hj1⟩:=bS hj1;refine zdr 14 ?_;refine zq3 ?_;refine AF rfl rfl rfl (oIm runUnderlying96 sizeOf95 rfl rfl hx7) ?_;refine zq2 ?_;refine zcd (F5 hx8) ?_;refine zq2 ?_;refine AF rfl rfl rfl (oIm runUnderlying96 sizeOf95 rfl rfl hx9) ?_;refine zq2 ?_;refine zcd (F5 hx10) ?_;refine AF rfl rfl rfl zb95b ?_;refine Gc ?_;obtain ⟨s1,hx11,hj1⟩:=bS hj1;refine Az rfl rfl rfl (Cr [1,0,4,2,3] call86 rfl rfl (Ap rfl (Ap rfl (Ap rfl (Ap rfl (Ap rfl CI))))) (C5 hx11) (by rintro _ _ ⟨_,_,_,rfl,rfl⟩;rfl)) ?_;rintro _ _ ⟨_,⟨a_r4,cap_r4,q_r3,rfl,rfl⟩,rfl⟩;refine Ah (ms':=[_,box b1 133 [_,_,_,_,_,_,_,_,_],_,_,_]) rfl ?_;refine zq3 ?_;obtain ⟨hg12,hj1⟩:=Aa hj1;refine zq3 ?_;exact ⟨_,((_,_),(),(),_),hj1,⟨rfl,trivial⟩,⟨rfl,rfl,rfl,trivial⟩,[],rfl⟩
  ·refine Au ?_
   exact ⟨_,((_,_),(),(),_),Ac hj1,trivial,⟨rfl,rfl,trivial⟩,[],rfl⟩
 ·rintro ⟨l1,z1,z2,z3,z4,z5,l2,l3,l4⟩ ⟨⟨a_r4,cap_r4⟩,⟨⟩,⟨⟩,q_r3⟩ hst
  subst hst;refine An (L':=[(2,_),(7,_)]) (ms':=[row a_r4 cap_r4 95 2 RSeq.d l1,box b1 133 [.list 4 ANd.d z1,.i64 z2,.i64 z3,.v (.slice a_r4 l1.length cap_r4),.v (.slice a_r3 m_r3 cap_r3),.v (.slice a_r1 m_r1 cap_r1),.v (.slice a_r2 m_r2 cap_r2),.bool z4,.bool z5],arr a_r1 m_r1 cap_r1 131 1 (D.list 1 (D.list 1 D.i64)) l2,arr a_r2 m_r2 cap_r2 131 1 (D.list 1 (D.list 1 D.i64)) l3,bks a_r3 m_r3 cap_r3 43 3 1 D.i64 l4 q_r3]) rfl rfl ?_;refine zq5 ?_;obtain ⟨o_2,hj2,hm2⟩:=bS hm1;refine Af [(7,_)] [] (fun (st:((List RSeq)×(List ANd)×Int×Int×Bool×Bool×(List (List (List Int)))×(List (List (List Int)))×(List (List Int)))) (hid:(Option Addr×Nat)×Unit×Unit×(List ((List Int)×Option Addr×Nat)))=>match st,hid with | (l9,z11,z12,z13,z14,z15,l10,l11,l12),((a_r4,cap_r4),_,_,q_r3)=>[]) (fun F (st:((List RSeq)×(List ANd)×Int×Int×Bool×Bool×(List (List (List Int)))×(List (List (List Int)))×(List (List Int)))) (hid:(Option Addr×Nat)×Unit×Unit×(List ((List Int)×Option Addr×Nat)))=>match st,hid with | (l9,z11,z12,z13,z14,z15,l10,l11,l12),((a_r4,cap_r4),_,_,q_r3)=>[row a_r4 cap_r4 95 2 RSeq.d l9,box b1 133 [.list 4 ANd.d z11,.i64 z12,.i64 z13,.v (.slice a_r4 l9.length cap_r4),.v (.slice a_r3 m_r3 cap_r3),.v (.slice a_r1 m_r1 cap_r1),.v (.slice a_r2 m_r2 cap_r2),.bool z14,.bool z15],arr a_r1 m_r1 cap_r1 131 1 (D.list 1 (D.list 1 D.i64)) l10,arr a_r2 m_r2 cap_r2 131 1 (D.list 1 (D.list 1 D.i64)) l11,bks a_r3 m_r3 cap_r3 43 3 1 D.i64 l12 q_r3]) (fun st=>st=o_2) ⟨rfl,trivial⟩ trivial ?_ ?_
  ·refine Am ?_
   refine Ag [(2,_),(7,_)] [] (fun (st:(Int×(List RSeq)×(List ANd)×Int×Int×Bool×Bool×(List (List (List Int)))×(List (List (List Int)))×(List (List Int)))) (hid:(Option Addr×Nat)×Unit×Unit×(List ((List Int)×Option Addr×Nat)))=>match st,hid with | (done1,l13,z16,z17,z18,z19,z20,l14,l15,l16),((a_r4,cap_r4),_,_,q_r3)=>[(9,.i64 done1)]) (fun F (st:(Int×(List RSeq)×(List ANd)×Int×Int×Bool×Bool×(List (List (List Int)))×(List (List (List Int)))×(List (List Int)))) (hid:(Option Addr×Nat)×Unit×Unit×(List ((List Int)×Option Addr×Nat)))=>match st,hid with | (done1,l13,z16,z17,z18,z19,z20,l14,l15,l16),((a_r4,cap_r4),_,_,q_r3)=>[row a_r4 cap_r4 95 2 RSeq.d l13,box b1 133 [.list 4 ANd.d z16,.i64 z17,.i64 z18,.v (.slice a_r4 l13.length cap_r4),.v (.slice a_r3 m_r3 cap_r3),.v (.slice a_r1 m_r1 cap_r1),.v (.slice a_r2 m_r2 cap_r2),.bool z19,.bool z20],arr a_r1 m_r1 cap_r1 131 1 (D.list 1 (D.list 1 D.i64)) l14,arr a_r2 m_r2 cap_r2 131 1 (D.list 1 (D.list 1 D.i64)) l15,bks a_r3 m_r3 cap_r3 43 3 1 D.i64 l16 q_r3]) ((_,_),(),(),_) hj2 (fun _=>rfl) ⟨rfl,rfl,trivial⟩ trivial ⟨rfl,trivial⟩ rfl ?_;rintro n ⟨done1,l13,z16,z17,z18,z19,z20,l14,l15,l16⟩ ⟨⟨a_r4,cap_r4⟩,⟨⟩,⟨⟩,q_r3⟩ hj2;rw [AZ] at hj2;refine Av (L':=[(9,.i64 done1),(2,_),(7,_)]) (ms':=[row a_r4 cap_r4 95 2 RSeq.d l13,box b1 133 [.list 4 ANd.d z16,.i64 z17,.i64 z18,.v (.slice a_r4 l13.length cap_r4),.v (.slice a_r3 m_r3 cap_r3),.v (.slice a_r1 m_r1 cap_r1),.v (.slice a_r2 m_r2 cap_r2),.bool z19,.bool z20],arr a_r1 m_r1 cap_r1 131 1 (D.list 1 (D.list 1 D.i64)) l14,arr a_r2 m_r2 cap_r2 131 1 (D.list 1 (D.list 1 D.i64)) l15,bks a_r3 m_r3 cap_r3 43 3 1 D.i64 l16 q_r3]) rfl rfl ?_;refine zq5 ?_;refine Ai rfl rfl rfl (Al rfl) ?_;refine zq2 ?_;refine Ai rfl rfl rfl (.view (peekE (i:=47) 0 rfl rfl rfl) (EW runUnderlying96 rfl)) ?_;refine zq2 ?_;refine zcn hj2 (fun hc2 hj2=>?_) (fun hc2 hj2=>?_)
   ·refine zq3 ?_
    obtain ⟨o_3,hj3,hm3⟩:=bS hj2;refine Af [(2,_),(7,_)] [] (fun (st:(Int×(List RSeq)×(List ANd)×Int×Int×Bool×Bool×(List (List (List Int)))×(List (List (List Int)))×(List (List Int)))) (hid:(Option Addr×Nat)×Unit×Unit×(List ((List Int)×Option Addr×Nat)))=>match st,hid with | (done2,l17,z21,z22,z23,z24,z25,l18,l19,l20),((a_r4,cap_r4),_,_,q_r3)=>[(9,.i64 done2)]) (fun F (st:(Int×(List RSeq)×(List ANd)×Int×Int×Bool×Bool×(List (List (List Int)))×(List (List (List Int)))×(List (List Int)))) (hid:(Option Addr×Nat)×Unit×Unit×(List ((List Int)×Option Addr×Nat)))=>match st,hid with | (done2,l17,z21,z22,z23,z24,z25,l18,l19,l20),((a_r4,cap_r4),_,_,q_r3)=>[row a_r4 cap_r4 95 2 RSeq.d l17,box b1 133 [.list 4 ANd.d z21,.i64 z22,.i64 z23,.v (.slice a_r4 l17.length cap_r4),.v (.slice a_r3 m_r3 cap_r3),.v (.slice a_r1 m_r1 cap_r1),.v (.slice a_r2 m_r2 cap_r2),.bool z24,.bool z25],arr a_r1 m_r1 cap_r1 131 1 (D.list 1 (D.list 1 D.i64)) l18,arr a_r2 m_r2 cap_r2 131 1 (D.list 1 (D.list 1 D.i64)) l19,bks a_r3 m_r3 cap_r3 43 3 1 D.i64 l20 q_r3]) (fun st=>st=o_3) ⟨rfl,rfl,trivial⟩ trivial ?_ ?_
    ·refine Am ?_
     refine Ag [(2,_),(7,_)] [] (fun (st:(Int×(List RSeq)×(List ANd)×Int×Int×Bool×Bool×(List (List (List Int)))×(List (List (List Int)))×(List (List Int)))) (hid:(Option Addr×Nat)×Unit×Unit×(List ((List Int)×Option Addr×Nat)))=>match st,hid with | (done3,l21,z26,z27,z28,z29,z30,l22,l23,l24),((a_r4,cap_r4),_,_,q_r3)=>[(9,.i64 done3)]) (fun F (st:(Int×(List RSeq)×(List ANd)×Int×Int×Bool×Bool×(List (List (List Int)))×(List (List (List Int)))×(List (List Int)))) (hid:(Option Addr×Nat)×Unit×Unit×(List ((List Int)×Option Addr×Nat)))=>match st,hid with | (done3,l21,z26,z27,z28,z29,z30,l22,l23,l24),((a_r4,cap_r4),_,_,q_r3)=>[row a_r4 cap_r4 95 2 RSeq.d l21,box b1 133 [.list 4 ANd.d z26,.i64 z27,.i64 z28,.v (.slice a_r4 l21.length cap_r4),.v (.slice a_r3 m_r3 cap_r3),.v (.slice a_r1 m_r1 cap_r1),.v (.slice a_r2 m_r2 cap_r2),.bool z29,.bool z30],arr a_r1 m_r1 cap_r1 131 1 (D.list 1 (D.list 1 D.i64)) l22,arr a_r2 m_r2 cap_r2 131 1 (D.list 1 (D.list 1 D.i64)) l23,bks a_r3 m_r3 cap_r3 43 3 1 D.i64 l24 q_r3]) ((_,_),(),(),_) hj3 (fun _=>rfl) ⟨rfl,rfl,trivial⟩ trivial ⟨rfl,trivial⟩ rfl ?_;rintro n ⟨done3,l21,z26,z27,z28,z29,z30,l22,l23,l24⟩ ⟨⟨a_r4,cap_r4⟩,⟨⟩,⟨⟩,q_r3⟩ hj3;rw [A1] at hj3;refine Av (L':=[(9,.i64 done3),(2,_),(7,_)]) (ms':=[row a_r4 cap_r4 95 2 RSeq.d l21,box b1 133 [.list 4 ANd.d z26,.i64 z27,.i64 z28,.v (.slice a_r4 l21.length cap_r4),.v (.slice a_r3 m_r3 cap_r3),.v (.slice a_r1 m_r1 cap_r1),.v (.slice a_r2 m_r2 cap_r2),.bool z29,.bool z30],arr a_r1 m_r1 cap_r1 131 1 (D.list 1 (D.list 1 D.i64)) l22,arr a_r2 m_r2 cap_r2 131 1 (D.list 1 (D.list 1 D.i64)) l23,bks a_r3 m_r3 cap_r3 43 3 1 D.i64 l24 q_r3]) rfl rfl ?_;refine zq5 ?_;refine Ai rfl rfl rfl (Al rfl) ?_;refine zq2 ?_;refine Ai rfl rfl rfl (.view (peekE (i:=54) 0 rfl rfl rfl) (EW runUnderlying96 rfl)) ?_;refine zq2 ?_;refine zcn hj3 (fun hc3 hj3=>?_) (fun hc3 hj3=>?_)
     ·refine zq6 ?_
      refine Ai rfl rfl rfl (Al rfl) ?_;refine zq3 ?_;obtain ⟨x5,hx13,hj3⟩:=bS hj3;refine Ai rfl rfl rfl (.view (peekE (i:=63) 0 rfl rfl rfl) (oIm runUnderlying96 sizeOf95 rfl rfl hx13)) ?_;refine zq1 ?_;obtain ⟨s2,hx14,hj3⟩:=bS hj3;refine Az rfl rfl rfl (Cr [1,0,4,2,3] call87 rfl rfl (Ap rfl (Ap rfl (Ap rfl (Ap rfl (Ap rfl CI))))) (GX hx14) (by rintro _ _ ⟨_,_,_,rfl,rfl⟩;rfl)) ?_;rintro _ _ ⟨_,⟨a_r4,cap_r4,q_r3,rfl,rfl⟩,rfl⟩;refine Ah (ms':=[_,box b1 133 [_,_,_,_,_,_,_,_,_],_,_,_]) rfl ?_;refine zq3 ?_;obtain ⟨hg15,hj3⟩:=Aa hj3;refine zq3 ?_;exact ⟨_,((_,_),(),(),_),hj3,⟨rfl,trivial⟩,⟨rfl,rfl,trivial⟩,[],rfl⟩
     ·refine Au ?_
      exact ⟨_,((_,_),(),(),_),Ac hj3,⟨rfl,trivial⟩,⟨rfl,rfl,trivial⟩,[],rfl⟩
    ·rintro ⟨done2,l17,z21,z22,z23,z24,z25,l18,l19,l20⟩ ⟨⟨a_r4,cap_r4⟩,⟨⟩,⟨⟩,q_r3⟩ hst
     subst hst;refine An (L':=[(9,.i64 done2),(2,_),(7,_)]) (ms':=[row a_r4 cap_r4 95 2 RSeq.d l17,box b1 133 [.list 4 ANd.d z21,.i64 z22,.i64 z23,.v (.slice a_r4 l17.length cap_r4),.v (.slice a_r3 m_r3 cap_r3),.v (.slice a_r1 m_r1 cap_r1),.v (.slice a_r2 m_r2 cap_r2),.bool z24,.bool z25],arr a_r1 m_r1 cap_r1 131 1 (D.list 1 (D.list 1 D.i64)) l18,arr a_r2 m_r2 cap_r2 131 1 (D.list 1 (D.list 1 D.i64)) l19,bks a_r3 m_r3 cap_r3 43 3 1 D.i64 l20 q_r3]) rfl rfl ?_;refine zq4 ?_;obtain ⟨o_4,hj4,hm4⟩:=bS hm3;refine Af [(2,_),(7,_),(9,_)] [] (fun (st:((List RSeq)×(List ANd)×Int×Int×Bool×Bool×(List (List (List Int)))×(List (List (List Int)))×(List (List Int)))) (hid:(Option Addr×Nat)×Unit×Unit×(List ((List Int)×Option Addr×Nat)))=>match st,hid with | (l25,z31,z32,z33,z34,z35,l26,l27,l28),((a_r4,cap_r4),_,_,q_r3)=>[]) (fun F (st:((List RSeq)×(List ANd)×Int×Int×Bool×Bool×(List (List (List Int)))×(List (List (List Int)))×(List (List Int)))) (hid:(Option Addr×Nat)×Unit×Unit×(List ((List Int)×Option Addr×Nat)))=>match st,hid with | (l25,z31,z32,z33,z34,z35,l26,l27,l28),((a_r4,cap_r4),_,_,q_r3)=>[row a_r4 cap_r4 95 2 RSeq.d l25,box b1 133 [.list 4 ANd.d z31,.i64 z32,.i64 z33,.v (.slice a_r4 l25.length cap_r4),.v (.slice a_r3 m_r3 cap_r3),.v (.slice a_r1 m_r1 cap_r1),.v (.slice a_r2 m_r2 cap_r2),.bool z34,.bool z35],arr a_r1 m_r1 cap_r1 131 1 (D.list 1 (D.list 1 D.i64)) l26,arr a_r2 m_r2 cap_r2 131 1 (D.list 1 (D.list 1 D.i64)) l27,bks a_r3 m_r3 cap_r3 43 3 1 D.i64 l28 q_r3]) (fun st=>st=o_4) ⟨rfl,rfl,rfl,trivial⟩ trivial ?_ ?_
     ·refine Am ?_
      refine Ag [(2,_),(7,_),(9,_)] [] (fun (st:(Int×(List RSeq)×(List ANd)×Int×Int×Bool×Bool×(List (List (List Int)))×(List (List (List Int)))×(List (List Int)))) (hid:(Option Addr×Nat)×Unit×Unit×(List ((List Int)×Option Addr×Nat)))=>match st,hid with | (v1,l29,z36,z37,z38,z39,z40,l30,l31,l32),((a_r4,cap_r4),_,_,q_r3)=>[(10,.i64 v1)]) (fun F (st:(Int×(List RSeq)×(List ANd)×Int×Int×Bool×Bool×(List (List (List Int)))×(List (List (List Int)))×(List (List Int)))) (hid:(Option Addr×Nat)×Unit×Unit×(List ((List Int)×Option Addr×Nat)))=>match st,hid with | (v1,l29,z36,z37,z38,z39,z40,l30,l31,l32),((a_r4,cap_r4),_,_,q_r3)=>[row a_r4 cap_r4 95 2 RSeq.d l29,box b1 133 [.list 4 ANd.d z36,.i64 z37,.i64 z38,.v (.slice a_r4 l29.length cap_r4),.v (.slice a_r3 m_r3 cap_r3),.v (.slice a_r1 m_r1 cap_r1),.v (.slice a_r2 m_r2 cap_r2),.bool z39,.bool z40],arr a_r1 m_r1 cap_r1 131 1 (D.list 1 (D.list 1 D.i64)) l30,arr a_r2 m_r2 cap_r2 131 1 (D.list 1 (D.list 1 D.i64)) l31,bks a_r3 m_r3 cap_r3 43 3 1 D.i64 l32 q_r3]) ((_,_),(),(),_) hj4 (fun _=>rfl) ⟨rfl,rfl,rfl,trivial⟩ trivial ⟨rfl,trivial⟩ rfl ?_;rintro n ⟨v1,l29,z36,z37,z38,z39,z40,l30,l31,l32⟩ ⟨⟨a_r4,cap_r4⟩,⟨⟩,⟨⟩,q_r3⟩ hj4;rw [AP] at hj4;refine Av (L':=[(10,.i64 v1),(2,_),(7,_),(9,_)]) (ms':=[row a_r4 cap_r4 95 2 RSeq.d l29,box b1 133 [.list 4 ANd.d z36,.i64 z37,.i64 z38,.v (.slice a_r4 l29.length cap_r4),.v (.slice a_r3 m_r3 cap_r3),.v (.slice a_r1 m_r1 cap_r1),.v (.slice a_r2 m_r2 cap_r2),.bool z39,.bool z40],arr a_r1 m_r1 cap_r1 131 1 (D.list 1 (D.list 1 D.i64)) l30,arr a_r2 m_r2 cap_r2 131 1 (D.list 1 (D.list 1 D.i64)) l31,bks a_r3 m_r3 cap_r3 43 3 1 D.i64 l32 q_r3]) rfl rfl ?_;refine zq7 ?_;refine zcn hj4 (fun hc4 hj4=>?_) (fun hc4 hj4=>?_)
      ·refine zq7 ?_
       obtain ⟨o_5,hj5,hm5⟩:=bS hj4;refine Af [(2,_),(7,_),(9,_),(10,_)] [] (fun (st:((List RSeq)×(List ANd)×Int×Int×Bool×Bool×(List (List (List Int)))×(List (List (List Int)))×(List (List Int)))) (hid:(Option Addr×Nat)×Unit×Unit×(List ((List Int)×Option Addr×Nat)))=>match st,hid with | (l33,z41,z42,z43,z44,z45,l34,l35,l36),((a_r4,cap_r4),_,_,q_r3)=>[]) (fun F (st:((List RSeq)×(List ANd)×Int×Int×Bool×Bool×(List (List (List Int)))×(List (List (List Int)))×(List (List Int)))) (hid:(Option Addr×Nat)×Unit×Unit×(List ((List Int)×Option Addr×Nat)))=>match st,hid with | (l33,z41,z42,z43,z44,z45,l34,l35,l36),((a_r4,cap_r4),_,_,q_r3)=>[row a_r4 cap_r4 95 2 RSeq.d l33,box b1 133 [.list 4 ANd.d z41,.i64 z42,.i64 z43,.v (.slice a_r4 l33.length cap_r4),.v (.slice a_r3 m_r3 cap_r3),.v (.slice a_r1 m_r1 cap_r1),.v (.slice a_r2 m_r2 cap_r2),.bool z44,.bool z45],arr a_r1 m_r1 cap_r1 131 1 (D.list 1 (D.list 1 D.i64)) l34,arr a_r2 m_r2 cap_r2 131 1 (D.list 1 (D.list 1 D.i64)) l35,bks a_r3 m_r3 cap_r3 43 3 1 D.i64 l36 q_r3]) (fun st=>st=o_5) ⟨rfl,rfl,rfl,rfl,trivial⟩ trivial ?_ ?_
       ·refine Am ?_
        refine Ag [(2,_),(7,_),(9,_),(10,_)] [] (fun (st:(Int×(List RSeq)×(List ANd)×Int×Int×Bool×Bool×(List (List (List Int)))×(List (List (List Int)))×(List (List Int)))) (hid:(Option Addr×Nat)×Unit×Unit×(List ((List Int)×Option Addr×Nat)))=>match st,hid with | (i2,l37,z46,z47,z48,z49,z50,l38,l39,l40),((a_r4,cap_r4),_,_,q_r3)=>[(11,.i64 i2)]) (fun F (st:(Int×(List RSeq)×(List ANd)×Int×Int×Bool×Bool×(List (List (List Int)))×(List (List (List Int)))×(List (List Int)))) (hid:(Option Addr×Nat)×Unit×Unit×(List ((List Int)×Option Addr×Nat)))=>match st,hid with | (i2,l37,z46,z47,z48,z49,z50,l38,l39,l40),((a_r4,cap_r4),_,_,q_r3)=>[row a_r4 cap_r4 95 2 RSeq.d l37,box b1 133 [.list 4 ANd.d z46,.i64 z47,.i64 z48,.v (.slice a_r4 l37.length cap_r4),.v (.slice a_r3 m_r3 cap_r3),.v (.slice a_r1 m_r1 cap_r1),.v (.slice a_r2 m_r2 cap_r2),.bool z49,.bool z50],arr a_r1 m_r1 cap_r1 131 1 (D.list 1 (D.list 1 D.i64)) l38,arr a_r2 m_r2 cap_r2 131 1 (D.list 1 (D.list 1 D.i64)) l39,bks a_r3 m_r3 cap_r3 43 3 1 D.i64 l40 q_r3]) ((_,_),(),(),_) hj5 (fun _=>rfl) ⟨rfl,rfl,rfl,rfl,trivial⟩ trivial ⟨rfl,trivial⟩ rfl ?_;rintro n ⟨i2,l37,z46,z47,z48,z49,z50,l38,l39,l40⟩ ⟨⟨a_r4,cap_r4⟩,⟨⟩,⟨⟩,q_r3⟩ hj5;rw [A2] at hj5;refine Av (L':=[(11,.i64 i2),(2,_),(7,_),(9,_),(10,_)]) (ms':=[row a_r4 cap_r4 95 2 RSeq.d l37,box b1 133 [.list 4 ANd.d z46,.i64 z47,.i64 z48,.v (.slice a_r4 l37.length cap_r4),.v (.slice a_r3 m_r3 cap_r3),.v (.slice a_r1 m_r1 cap_r1),.v (.slice a_r2 m_r2 cap_r2),.bool z49,.bool z50],arr a_r1 m_r1 cap_r1 131 1 (D.list 1 (D.list 1 D.i64)) l38,arr a_r2 m_r2 cap_r2 131 1 (D.list 1 (D.list 1 D.i64)) l39,bks a_r3 m_r3 cap_r3 43 3 1 D.i64 l40 q_r3]) rfl rfl ?_;refine zq5 ?_;refine Ai rfl rfl rfl (Al rfl) ?_;refine zq3 ?_;obtain ⟨x6,hx16,hj5⟩:=bS hj5;refine Ai rfl rfl rfl (Aj 2 runUnderlying130 sizeOf131 rfl rfl rfl hx16) ?_;refine Ai rfl rfl rfl (BI (off:=0) 2 isAgg131 rfl rfl (Ar hx16).2 rfl rfl rfl) ?_;refine zq3 ?_;refine zcn hj5 (fun hc5 hj5=>?_) (fun hc5 hj5=>?_)
        ·refine zq7 ?_
         obtain ⟨o_6,hj6,hm6⟩:=bS hj5;refine Af [(2,_),(7,_),(9,_),(10,_),(11,_)] [] (fun (st:((List RSeq)×(List ANd)×Int×Int×Bool×Bool×(List (List (List Int)))×(List (List (List Int)))×(List (List Int)))) (hid:(Option Addr×Nat)×Unit×Unit×(List ((List Int)×Option Addr×Nat)))=>match st,hid with | (l41,z51,z52,z53,z54,z55,l42,l43,l44),((a_r4,cap_r4),_,_,q_r3)=>[]) (fun F (st:((List RSeq)×(List ANd)×Int×Int×Bool×Bool×(List (List (List Int)))×(List (List (List Int)))×(List (List Int)))) (hid:(Option Addr×Nat)×Unit×Unit×(List ((List Int)×Option Addr×Nat)))=>match st,hid with | (l41,z51,z52,z53,z54,z55,l42,l43,l44),((a_r4,cap_r4),_,_,q_r3)=>[row a_r4 cap_r4 95 2 RSeq.d l41,box b1 133 [.list 4 ANd.d z51,.i64 z52,.i64 z53,.v (.slice a_r4 l41.length cap_r4),.v (.slice a_r3 m_r3 cap_r3),.v (.slice a_r1 m_r1 cap_r1),.v (.slice a_r2 m_r2 cap_r2),.bool z54,.bool z55],arr a_r1 m_r1 cap_r1 131 1 (D.list 1 (D.list 1 D.i64)) l42,arr a_r2 m_r2 cap_r2 131 1 (D.list 1 (D.list 1 D.i64)) l43,bks a_r3 m_r3 cap_r3 43 3 1 D.i64 l44 q_r3]) (fun st=>st=o_6) ⟨rfl,rfl,rfl,rfl,rfl,trivial⟩ trivial ?_ ?_
         ·refine Am ?_
          refine Ag [(2,_),(7,_),(9,_),(10,_),(11,_)] [] (fun (st:(Int×(List RSeq)×(List ANd)×Int×Int×Bool×Bool×(List (List (List Int)))×(List (List (List Int)))×(List (List Int)))) (hid:(Option Addr×Nat)×Unit×Unit×(List ((List Int)×Option Addr×Nat)))=>match st,hid with | (k1,l45,z56,z57,z58,z59,z60,l46,l47,l48),((a_r4,cap_r4),_,_,q_r3)=>[(12,.i64 k1)]) (fun F (st:(Int×(List RSeq)×(List ANd)×Int×Int×Bool×Bool×(List (List (List Int)))×(List (List (List Int)))×(List (List Int)))) (hid:(Option Addr×Nat)×Unit×Unit×(List ((List Int)×Option Addr×Nat)))=>match st,hid with | (k1,l45,z56,z57,z58,z59,z60,l46,l47,l48),((a_r4,cap_r4),_,_,q_r3)=>[row a_r4 cap_r4 95 2 RSeq.d l45,box b1 133 [.list 4 ANd.d z56,.i64 z57,.i64 z58,.v (.slice a_r4 l45.length cap_r4),.v (.slice a_r3 m_r3 cap_r3),.v (.slice a_r1 m_r1 cap_r1),.v (.slice a_r2 m_r2 cap_r2),.bool z59,.bool z60],arr a_r1 m_r1 cap_r1 131 1 (D.list 1 (D.list 1 D.i64)) l46,arr a_r2 m_r2 cap_r2 131 1 (D.list 1 (D.list 1 D.i64)) l47,bks a_r3 m_r3 cap_r3 43 3 1 D.i64 l48 q_r3]) ((_,_),(),(),_) hj6 (fun _=>rfl) ⟨rfl,rfl,rfl,rfl,rfl,trivial⟩ trivial ⟨rfl,trivial⟩ rfl ?_;rintro n ⟨k1,l45,z56,z57,z58,z59,z60,l46,l47,l48⟩ ⟨⟨a_r4,cap_r4⟩,⟨⟩,⟨⟩,q_r3⟩ hj6;rw [A3] at hj6;refine Av (L':=[(12,.i64 k1),(2,_),(7,_),(9,_),(10,_),(11,_)]) (ms':=[row a_r4 cap_r4 95 2 RSeq.d l45,box b1 133 [.list 4 ANd.d z56,.i64 z57,.i64 z58,.v (.slice a_r4 l45.length cap_r4),.v (.slice a_r3 m_r3 cap_r3),.v (.slice a_r1 m_r1 cap_r1),.v (.slice a_r2 m_r2 cap_r2),.bool z59,.bool z60],arr a_r1 m_r1 cap_r1 131 1 (D.list 1 (D.list 1 D.i64)) l46,arr a_r2 m_r2 cap_r2 131 1 (D.list 1 (D.list 1 D.i64)) l47,bks a_r3 m_r3 cap_r3 43 3 1 D.i64 l48 q_r3]) rfl rfl ?_;refine zq5 ?_;refine Ai rfl rfl rfl (Al rfl) ?_;refine zq3 ?_;obtain ⟨x7,hx17,hj6⟩:=bS hj6;refine Ai rfl rfl rfl (Aj 3 runUnderlying130 sizeOf131 rfl rfl rfl hx17) ?_;refine Ai rfl rfl rfl (BI (off:=0) 3 isAgg131 rfl rfl (Ar hx17).2 rfl rfl rfl) ?_;refine zq3 ?_;refine zcn hj6 (fun hc6 hj6=>?_) (fun hc6 hj6=>?_)
          ·refine zq3 ?_
           obtain ⟨x8,hx18,hj6⟩:=bS hj6;obtain ⟨x9,hx19,hj6⟩:=bS hj6;obtain ⟨x10,hx20,hj6⟩:=bS hj6;obtain ⟨x11,hx21,hj6⟩:=bS hj6;refine zdr 22 ?_;refine zq2 ?_;refine AF rfl rfl rfl (Al rfl) ?_;refine zq3 ?_;refine AF rfl rfl rfl (Aj 2 runUnderlying130 sizeOf131 rfl rfl rfl hx18) ?_;refine AF rfl rfl rfl (BI (off:=0) 2 isAgg131 rfl rfl (Ar hx18).2 rfl rfl rfl) ?_;refine zq1 ?_;refine AF rfl rfl rfl (oIm runUnderlying131 sizeOf43 rfl rfl hx19) ?_;refine zq2 ?_;refine AF rfl rfl rfl (Al rfl) ?_;refine zq3 ?_;refine AF rfl rfl rfl (Aj 3 runUnderlying130 sizeOf131 rfl rfl rfl hx20) ?_;refine AF rfl rfl rfl (BI (off:=0) 3 isAgg131 rfl rfl (Ar hx20).2 rfl rfl rfl) ?_;refine zq1 ?_;refine AF rfl rfl rfl (oIm runUnderlying131 sizeOf43 rfl rfl hx21) ?_;refine zq1 ?_;refine AF rfl rfl rfl zb95b ?_;refine Gc ?_;obtain ⟨s3,hx22,hj6⟩:=bS hj6;refine Az rfl rfl rfl (Cr [1,0,4,2,3] call86 rfl rfl (Ap rfl (Ap rfl (Ap rfl (Ap rfl (Ap rfl CI))))) (C5 hx22) (by rintro _ _ ⟨_,_,_,rfl,rfl⟩;rfl)) ?_;rintro _ _ ⟨_,⟨a_r4,cap_r4,q_r3,rfl,rfl⟩,rfl⟩;refine Ah (ms':=[_,box b1 133 [_,_,_,_,_,_,_,_,_],_,_,_]) rfl ?_;refine zq3 ?_;obtain ⟨hg23,hj6⟩:=Aa hj6;refine zq3 ?_;exact ⟨_,((_,_),(),(),_),hj6,⟨rfl,trivial⟩,⟨rfl,rfl,rfl,rfl,rfl,trivial⟩,[],rfl⟩
          ·refine Au ?_
           exact ⟨_,((_,_),(),(),_),Ac hj6,trivial,⟨rfl,rfl,rfl,rfl,rfl,trivial⟩,[],rfl⟩
         ·rintro ⟨l41,z51,z52,z53,z54,z55,l42,l43,l44⟩ ⟨⟨a_r4,cap_r4⟩,⟨⟩,⟨⟩,q_r3⟩ hst
          subst hst;refine An (L':=[(2,_),(7,_),(9,_),(10,_),(11,_)]) (ms':=[row a_r4 cap_r4 95 2 RSeq.d l41,box b1 133 [.list 4 ANd.d z51,.i64 z52,.i64 z53,.v (.slice a_r4 l41.length cap_r4),.v (.slice a_r3 m_r3 cap_r3),.v (.slice a_r1 m_r1 cap_r1),.v (.slice a_r2 m_r2 cap_r2),.bool z54,.bool z55],arr a_r1 m_r1 cap_r1 131 1 (D.list 1 (D.list 1 D.i64)) l42,arr a_r2 m_r2 cap_r2 131 1 (D.list 1 (D.list 1 D.i64)) l43,bks a_r3 m_r3 cap_r3 43 3 1 D.i64 l44 q_r3]) rfl rfl ?_;refine zq2 ?_;obtain ⟨hg24,hm6⟩:=Aa hm6;refine zq3 ?_;exact ⟨_,((_,_),(),(),_),hm6,⟨rfl,trivial⟩,⟨rfl,rfl,rfl,rfl,trivial⟩,[],rfl⟩
        ·refine Au ?_
         exact ⟨_,((_,_),(),(),_),Ac hj5,trivial,⟨rfl,rfl,rfl,rfl,trivial⟩,[],rfl⟩
       ·rintro ⟨l33,z41,z42,z43,z44,z45,l34,l35,l36⟩ ⟨⟨a_r4,cap_r4⟩,⟨⟩,⟨⟩,q_r3⟩ hst
        subst hst;refine An (L':=[(2,_),(7,_),(9,_),(10,_)]) (ms':=[row a_r4 cap_r4 95 2 RSeq.d l33,box b1 133 [.list 4 ANd.d z41,.i64 z42,.i64 z43,.v (.slice a_r4 l33.length cap_r4),.v (.slice a_r3 m_r3 cap_r3),.v (.slice a_r1 m_r1 cap_r1),.v (.slice a_r2 m_r2 cap_r2),.bool z44,.bool z45],arr a_r1 m_r1 cap_r1 131 1 (D.list 1 (D.list 1 D.i64)) l34,arr a_r2 m_r2 cap_r2 131 1 (D.list 1 (D.list 1 D.i64)) l35,bks a_r3 m_r3 cap_r3 43 3 1 D.i64 l36 q_r3]) rfl rfl ?_;refine zq2 ?_;obtain ⟨hg25,hm5⟩:=Aa hm5;refine zq3 ?_;exact ⟨_,((_,_),(),(),_),hm5,⟨rfl,trivial⟩,⟨rfl,rfl,rfl,trivial⟩,[],rfl⟩
      ·refine Au ?_
       exact ⟨_,((_,_),(),(),_),Ac hj4,trivial,⟨rfl,rfl,rfl,trivial⟩,[],rfl⟩
     ·rintro ⟨l25,z31,z32,z33,z34,z35,l26,l27,l28⟩ ⟨⟨a_r4,cap_r4⟩,⟨⟩,⟨⟩,q_r3⟩ hst
      subst hst;refine An (L':=[(2,_),(7,_),(9,_)]) (ms':=[row a_r4 cap_r4 95 2 RSeq.d l25,box b1 133 [.list 4 ANd.d z31,.i64 z32,.i64 z33,.v (.slice a_r4 l25.length cap_r4),.v (.slice a_r3 m_r3 cap_r3),.v (.slice a_r1 m_r1 cap_r1),.v (.slice a_r2 m_r2 cap_r2),.bool z34,.bool z35],arr a_r1 m_r1 cap_r1 131 1 (D.list 1 (D.list 1 D.i64)) l26,arr a_r2 m_r2 cap_r2 131 1 (D.list 1 (D.list 1 D.i64)) l27,bks a_r3 m_r3 cap_r3 43 3 1 D.i64 l28 q_r3]) rfl rfl ?_;exact ⟨_,((_,_),(),(),_),hm4,⟨rfl,trivial⟩,⟨rfl,rfl,trivial⟩,[],rfl⟩
   ·refine Au ?_
    exact ⟨_,((_,_),(),(),_),Ac hj2,trivial,⟨rfl,trivial⟩,[],rfl⟩
  ·rintro ⟨l9,z11,z12,z13,z14,z15,l10,l11,l12⟩ ⟨⟨a_r4,cap_r4⟩,⟨⟩,⟨⟩,q_r3⟩ hst
   subst hst;refine An (L':=[(7,_)]) (ms':=[row a_r4 cap_r4 95 2 RSeq.d l9,box b1 133 [.list 4 ANd.d z11,.i64 z12,.i64 z13,.v (.slice a_r4 l9.length cap_r4),.v (.slice a_r3 m_r3 cap_r3),.v (.slice a_r1 m_r1 cap_r1),.v (.slice a_r2 m_r2 cap_r2),.bool z14,.bool z15],arr a_r1 m_r1 cap_r1 131 1 (D.list 1 (D.list 1 D.i64)) l10,arr a_r2 m_r2 cap_r2 131 1 (D.list 1 (D.list 1 D.i64)) l11,bks a_r3 m_r3 cap_r3 43 3 1 D.i64 l12 q_r3]) rfl rfl ?_;refine zq5 ?_;refine Ae ?_;obtain rfl:=Ac hm2;exact retK (A0 rfl (Bn rfl) (permA 1 rfl (permA 0 rfl (permA 2 rfl (permA 0 rfl (permA 0 rfl permN)))))) ⟨_,_,_,_,_,_,_,_,_,_,_,_,_,rfl,rfl⟩
def Bu (w1:Syntagmaref19World)  : Option Int:=
 bif w1.mixed then
  some 14
 else
  bif w1.fails then
   some 11
  else
   some 0
theorem GW {w1:Syntagmaref19World}  {r_1:Int} {b_q0:Nat} {a_q0c3:Option Addr} {cap_q0c3:Nat} {a_q0c4:Option Addr} {m_q0c4:Nat} {cap_q0c4:Nat} {q_q0c4:(List ((List Int)×Option Addr×Nat))} {a_q0c5:Option Addr} {m_q0c5:Nat} {cap_q0c5:Nat} {a_q0c6:Option Addr} {m_q0c6:Nat} {cap_q0c6:Nat} (hm:Bu w1=some r_1):Go.V.Fn Tryz.prog 51 [.v (.pointer (some ⟨b_q0,0,none⟩))] [box b_q0 133 [.list 4 ANd.d w1.t.l,.i64 w1.t.root,.i64 w1.flex,.v (.slice a_q0c3 w1.all.length cap_q0c3),.v (.slice a_q0c4 m_q0c4 cap_q0c4),.v (.slice a_q0c5 m_q0c5 cap_q0c5),.v (.slice a_q0c6 m_q0c6 cap_q0c6),.bool w1.mixed,.bool w1.fails],row a_q0c3 cap_q0c3 95 2 RSeq.d w1.all,bks a_q0c4 m_q0c4 cap_q0c4 43 3 1 D.i64 w1.buckets q_q0c4,arr a_q0c5 m_q0c5 cap_q0c5 131 1 (D.list 1 (D.list 1 D.i64)) w1.below_,arr a_q0c6 m_q0c6 cap_q0c6 131 1 (D.list 1 (D.list 1 D.i64)) w1.above] (fun d ms'=>d = .i64 r_1/\ms'=[box b_q0 133 [.list 4 ANd.d w1.t.l,.i64 w1.t.root,.i64 w1.flex,.v (.slice a_q0c3 w1.all.length cap_q0c3),.v (.slice a_q0c4 m_q0c4 cap_q0c4),.v (.slice a_q0c5 m_q0c5 cap_q0c5),.v (.slice a_q0c6 m_q0c6 cap_q0c6),.bool w1.mixed,.bool w1.fails],row a_q0c3 cap_q0c3 95 2 RSeq.d w1.all,bks a_q0c4 m_q0c4 cap_q0c4 43 3 1 D.i64 w1.buckets q_q0c4,arr a_q0c5 m_q0c5 cap_q0c5 131 1 (D.list 1 (D.list 1 D.i64)) w1.below_,arr a_q0c6 m_q0c6 cap_q0c6 131 1 (D.list 1 (D.list 1 D.i64)) w1.above]):=by
 unfold Bu at hm;refine Ad func51 rfl ntmps51 rfl fun H0 fr w0=>?_;refine zq8 ?_;refine Ai rfl rfl rfl (Al rfl) ?_;refine zq3 ?_;refine zcn hm (fun hc1 hm=>?_) (fun hc1 hm=>?_)
 ·refine zq4 ?_
  refine Ae ?_;obtain rfl:=Ac hm;exact retK (A0 rfl (Bn rfl) (permA 0 rfl (permA 0 rfl (permA 0 rfl (permA 0 rfl (permA 0 rfl permN)))))) ⟨rfl,rfl⟩
 ·refine zq5 ?_
  refine Ai rfl rfl rfl (Al rfl) ?_;refine zq3 ?_;refine zcn hm (fun hc2 hm=>?_) (fun hc2 hm=>?_)
  ·refine zq4 ?_
   refine Ae ?_;obtain rfl:=Ac hm;exact retK (A0 rfl (Bn rfl) (permA 0 rfl (permA 0 rfl (permA 0 rfl (permA 0 rfl (permA 0 rfl permN)))))) ⟨rfl,rfl⟩
  ·refine zq5 ?_
   refine Ae ?_;obtain rfl:=Ac hm;exact retK (A0 rfl (Bn rfl) (permA 0 rfl (permA 0 rfl (permA 0 rfl (permA 0 rfl (permA 0 rfl permN)))))) ⟨rfl,rfl⟩
def AD (s1:ATy) (t1:ATy):Option Bool:=
 (GM s1 t1).bind fun (x1,x2) =>
 grd (InR (x2+t1.root)) <|
 (B1 (⟨x1.l,x1.root⟩:ATy) [(⟨[s1.root],[(x2+t1.root)]⟩:RSeq)] 1000).bind fun s2 =>
 (Bu (⟨(⟨s2.t.l,s2.t.root⟩:ATy),s2.flex,s2.all,s2.buckets,s2.below_,s2.above,s2.mixed,s2.fails⟩:Syntagmaref19World)).bind fun x3 =>
 some (decide (x3=0))
theorem CY {s1:ATy} {t1:ATy} {r_1:Bool} (hm:AD s1 t1=some r_1):Fn0 Tryz.prog 24 [ATy.d s1,ATy.d t1] (.bool r_1):=by
 unfold AD at hm;refine Ad func24 rfl ntmps24 rfl fun H0 fr w0=>?_;refine zq10 ?_;obtain ⟨⟨x1,x2⟩,hx1,hm⟩:=bS hm;refine zc0 (Qt hx1) ?_;refine zq3 ?_;refine Kz fun b1=>?_;refine zst 0 ?_;refine Ah (ms':=[box b1 31 [_,_]]) rfl ?_;refine zq7 ?_;refine Ai rfl rfl rfl (zs1 D.i64) ?_;refine zq3 ?_;obtain ⟨hg2,hm⟩:=Aa hm;refine zq1 ?_;refine Ai rfl rfl rfl (zs1 D.i64) ?_;refine Ai rfl rfl rfl zb95b ?_;refine Ai rfl rfl rfl (Ao (xs:=[_]) (f:=RSeq.d) (l:=[(⟨[s1.root],[(x2+t1.root)]⟩:RSeq)]) runUnderlying96 sizeOf95 zeroValue95 rfl rfl rfl (fun _=>⟨rfl,rfl,rfl⟩) rfl) ?_;obtain ⟨s2,hx3,hm⟩:=bS hm;refine Az rfl rfl rfl (DO (ms₁:=[]) call50 rfl (List.Perm.refl _) (Ir hx3)) ?_;rintro _ _ ⟨_,⟨b2,a_r1,cap_r1,a_r2,m_r2,cap_r2,q_r2,a_r3,m_r3,cap_r3,a_r4,m_r4,cap_r4,rfl,rfl⟩,rfl⟩;refine zq5 ?_;obtain ⟨x3,hx4,hm⟩:=bS hm;refine Ai rfl rfl rfl (B5 [0,1,2,3,4] call51 rfl rfl (Ap rfl (Ap rfl (Ap rfl (Ap rfl (Ap rfl CI))))) (GW hx4)) ?_;refine zq3 ?_
 cases hm;exact Ae zr1
def CJ (is1:(Int->Int->Option Bool)) (x2:Int) (l2:(List Int)):Nat->Int->Option (Out (Int×Int×Bool) Unit)
 | 0,_=>none
 | n+1,x3 =>
  bif (decide (x3<(l2.length:Int))) then
   (idx l2 x3).bind fun x4 =>
   (is1 x2 x4).bind fun x5 =>
   bif x5 then
    some (Out.ret (x2,x4,true))
   else
    grd (InR (x3+1)) <|
    CJ is1 x2 l2 n (x3+1)
  else
   some (Out.go (()))
def Da (l1:(List Int)) (is1:(Int->Int->Option Bool)):Nat->Int->Option (Out (Int×Int×Bool) Unit)
 | 0,_=>none
 | n+1,x1 =>
  bif (decide (x1<(l1.length:Int))) then
   (idx l1 x1).bind fun x2 =>
   grd (InR (x1+1)) <|
   (sli l1 (x1+1) (l1.length:Int)).bind fun l2 =>
   ((CJ is1 x2 l2 FU 0:Option (Out (Int×Int×Bool) Unit))).bind (fun oo=>oo.on (fun r1=>some (Out.ret r1)) (fun _ =>
   grd (InR (x1+1)) <|
   Da l1 is1 n (x1+1)))
  else
   some (Out.go (()))
def EO (l1:(List Int)) (is1:(Int->Int->Option Bool)):Option (Int×Int×Bool):=
 ((Da l1 is1 FU 0:Option (Out (Int×Int×Bool) Unit))).bind (fun oo=>oo.on (fun r2=>some r2) (fun _ =>
 some (0,0,false)))
theorem N1 {l1:(List Int)} {is1:(Int->Int->Option Bool)} {r_1:Int} {r_2:Int} {r_3:Bool} {fv_is1:D} (hfis1:WK Tryz.prog fv_is1 D.i64 D.i64 D.bool is1) (hm:EO l1 is1=some (r_1,r_2,r_3)):Fn0 Tryz.prog 54 [.list 1 D.i64 l1,fv_is1] (.tup [.i64 r_1,.i64 r_2,.bool r_3]):=by
 unfold EO at hm;refine Ad func54 rfl ntmps54 rfl fun H0 fr w0=>?_;refine zq13 ?_;obtain ⟨o_1,hj1,hm1⟩:=bS hm;refine Af [] [] (fun (st:Unit) (hid:Unit)=>match st,hid with | _,_=>[]) (fun F (st:Unit) (hid:Unit)=>match st,hid with | _,_=>[]) (fun st=>Out.go (st)=o_1) trivial trivial ?_ ?_
 ·refine Am ?_
  refine Ag [(0,_),(1,_),(11,_),(12,_)] [] (fun (st:Int) (hid:Unit)=>match st,hid with | x1,_=>[(13,.i64 x1)]) (fun F (st:Int) (hid:Unit)=>match st,hid with | x1,_=>[]) () hj1 (fun _=>rfl) ⟨rfl,rfl,rfl,rfl,trivial⟩ trivial ⟨rfl,trivial⟩ rfl ?_;rintro n x1 _ hj1;rw [Da] at hj1;refine Av (L':=[(13,.i64 x1),(0,_),(1,_),(11,_),(12,_)]) (ms':=[]) rfl rfl ?_;refine zq5 ?_;refine zcn hj1 (fun hc1 hj1=>?_) (fun hc1 hj1=>?_)
  ·refine zq6 ?_
   obtain ⟨x2,hx1,hj1⟩:=bS hj1;refine zq9 ?_;obtain ⟨hg2,hj1⟩:=Aa hj1;refine zq1 ?_;obtain ⟨l2,hx3,hj1⟩:=bS hj1;refine Ai rfl rfl rfl (Bo runUnderlying43 sizeOf3 rfl ⟨_,rfl⟩ rfl hx3) ?_;refine zq3 ?_;obtain ⟨o_2,hj2,hm2⟩:=bS hj1;refine Af [(0,_),(1,_),(11,_),(12,_),(13,_)] [] (fun (st:Unit) (hid:Unit)=>match st,hid with | _,_=>[]) (fun F (st:Unit) (hid:Unit)=>match st,hid with | _,_=>[]) (fun st=>Out.go (st)=o_2) ⟨rfl,rfl,rfl,rfl,rfl,trivial⟩ trivial ?_ ?_
   ·refine Am ?_
    refine Ag [(0,_),(1,_),(8,_),(11,_),(12,_),(13,_),(21,_),(22,_)] [] (fun (st:Int) (hid:Unit)=>match st,hid with | x3,_=>[(23,.i64 x3)]) (fun F (st:Int) (hid:Unit)=>match st,hid with | x3,_=>[]) () hj2 (fun _=>rfl) ⟨rfl,rfl,rfl,rfl,rfl,rfl,rfl,rfl,trivial⟩ trivial ⟨rfl,trivial⟩ rfl ?_;rintro n x3 _ hj2;rw [CJ] at hj2;refine Av (L':=[(23,.i64 x3),(0,_),(1,_),(8,_),(11,_),(12,_),(13,_),(21,_),(22,_)]) (ms':=[]) rfl rfl ?_;refine zq5 ?_;refine zcn hj2 (fun hc2 hj2=>?_) (fun hc2 hj2=>?_)
    ·refine zq5 ?_
     obtain ⟨x4,hx4,hj2⟩:=bS hj2;refine zq9 ?_;obtain ⟨x5,hx5,hj2⟩:=bS hj2;refine Ai rfl rfl rfl (EY rfl rfl (hfis1 _ _ _ hx5)) ?_;refine gNl ?_;refine zcn hj2 (fun hc3 hj2=>?_) (fun hc3 hj2=>?_)
     ·refine zq8 ?_
      refine Ae ?_;obtain rfl:=Ac hj2
      replace hm2:=BP hm2
      obtain rfl:=Ac hm2
      replace hm1:=BP hm1
      cases hm1;exact zr3
     ·refine zq2 ?_
      obtain ⟨hg6,hj2⟩:=Aa hj2;refine zq3 ?_;exact ⟨_,(),hj2,⟨rfl,trivial⟩,⟨rfl,rfl,rfl,rfl,rfl,rfl,rfl,rfl,trivial⟩,[],rfl⟩
    ·refine Au ?_
     exact ⟨_,(),Ac hj2,trivial,⟨rfl,rfl,rfl,rfl,rfl,trivial⟩,[],rfl⟩
   ·rintro _ _ hst
    subst hst
    replace hm2:=Dm hm2
    refine An (L':=[(0,_),(1,_),(11,_),(12,_),(13,_)]) (ms':=[]) rfl rfl ?_;refine gRg ?_;obtain ⟨hg7,hm2⟩:=Aa hm2;refine zq3 ?_;exact ⟨_,(),hm2,⟨rfl,trivial⟩,⟨rfl,rfl,rfl,rfl,trivial⟩,[],rfl⟩
  ·refine Au ?_
   exact ⟨_,(),Ac hj1,trivial,trivial,[],rfl⟩
 ·rintro _ _ hst
  subst hst
  replace hm1:=Dm hm1
  refine An (L':=[]) (ms':=[]) rfl rfl ?_;refine zq6 ?_
  cases hm1;exact Ae zr3
def Ci (x1:(List VarsUse)):Nat->(Int×(List Int))->Option (List Int)
 | 0,_=>none
 | n+1,(x3,l2) =>
  bif (decide (x3<(x1.length:Int))) then
   (idx x1 x3).bind fun x4 =>
   bif (decide (x4.side=3)) then
    grd ((l2.length+([x4.var]:List _).length)*8<=140737488355328) <|
    grd (InR (x3+1)) <|
    Ci x1 n ((x3+1),(l2++[x4.var]))
   else
    grd (InR (x3+1)) <|
    Ci x1 n ((x3+1),l2)
  else
   some l2
def DW (a1:AutoAuto)  : Option (List Int):=
 (Fu a1).bind fun (x1,x2) =>
 (Ci x1 FU (0,[]):Option (List Int)).bind fun l1 =>
 some l1
theorem IQ {a1:AutoAuto}  {s_1:(List Int)} (hm:DW a1=some s_1):Go.V.Fn Tryz.prog 55 [AutoAuto.d a1] [] (fun d ms'=>∃ a_s_1 cap_s_1,d = .v (.slice a_s_1 s_1.length cap_s_1)/\ms'=[row a_s_1 cap_s_1 3 1 D.i64 s_1]):=by
 unfold DW at hm;refine Ad func55 rfl ntmps55 rfl fun H0 fr w0=>?_;refine zq4 ?_;refine Aq (nilE (i:=2) (sz:=1) (f:=D.i64) rfl).refines ?_;refine zq4 ?_;obtain ⟨⟨x1,x2⟩,hx1,hm⟩:=bS hm;refine zc0 (NZ hx1) ?_;refine zq9 ?_;refine Aq (AG (T:=3) (sz:=1) (f:=D.i64)) ?_;refine zq8 ?_;obtain ⟨o_1,hj1,hm1⟩:=bS hm;refine Af [] [] (fun (st:(List Int)) (hid:(Option Addr×Nat))=>match st,hid with | l1,(a_r1,cap_r1)=>[(5,.v (.slice a_r1 l1.length cap_r1))]) (fun F (st:(List Int)) (hid:(Option Addr×Nat))=>match st,hid with | l1,(a_r1,cap_r1)=>[row a_r1 cap_r1 3 1 D.i64 l1]) (fun st=>st=o_1) trivial trivial ?_ ?_
 ·refine Am ?_
  refine Ag [(13,_),(14,_)] [] (fun (st:(Int×(List Int))) (hid:(Option Addr×Nat))=>match st,hid with | (x3,l2),(a_r1,cap_r1)=>[(5,.v (.slice a_r1 l2.length cap_r1)),(15,.i64 x3)]) (fun F (st:(Int×(List Int))) (hid:(Option Addr×Nat))=>match st,hid with | (x3,l2),(a_r1,cap_r1)=>[row a_r1 cap_r1 3 1 D.i64 l2]) (_,_) hj1 (fun _=>rfl) ⟨rfl,rfl,trivial⟩ trivial ⟨rfl,rfl,trivial⟩ rfl ?_;rintro n ⟨x3,l2⟩ ⟨a_r1,cap_r1⟩ hj1;rw [Ci] at hj1;refine Av (L':=[(5,.v (.slice a_r1 l2.length cap_r1)),(15,.i64 x3),(13,_),(14,_)]) (ms':=[row a_r1 cap_r1 3 1 D.i64 l2]) rfl rfl ?_;refine zq5 ?_;refine zcn hj1 (fun hc1 hj1=>?_) (fun hc1 hj1=>?_)
  ·refine zq5 ?_
   obtain ⟨x4,hx2,hj1⟩:=bS hj1;refine zq2 ?_;refine W3 fun b1=>?_;refine zst 0 ?_;refine Ah (ms':=[box b1 87 [_,_],_]) rfl ?_;refine zq7 ?_;refine zcn hj1 (fun hc2 hj1=>?_) (fun hc2 hj1=>?_)
   ·refine zq4 ?_
    refine Ai rfl rfl rfl (zs1 D.i64) ?_;obtain ⟨hg3,hj1⟩:=Aa hj1;refine zap 1 hg3 fun a_r1 cap_r1=>?_;refine Ah (ms':=[box b1 87 [_,_],_]) rfl ?_;refine zq3 ?_;obtain ⟨hg4,hj1⟩:=Aa hj1;refine zq3 ?_;exact ⟨_,(_,_),hj1,⟨rfl,rfl,trivial⟩,⟨rfl,rfl,trivial⟩,[_],rfl⟩
   ·refine zq2 ?_
    obtain ⟨hg5,hj1⟩:=Aa hj1;refine zq3 ?_;exact ⟨_,(_,_),hj1,⟨rfl,rfl,trivial⟩,⟨rfl,rfl,trivial⟩,[_],rfl⟩
  ·refine Au ?_
   exact ⟨_,(_,_),Ac hj1,⟨rfl,trivial⟩,trivial,[],rfl⟩
 ·rintro l1 ⟨a_r1,cap_r1⟩ hst
  subst hst;refine An (L':=[(5,.v (.slice a_r1 l1.length cap_r1))]) (ms':=[row a_r1 cap_r1 3 1 D.i64 l1]) rfl rfl ?_;refine zq5 ?_;refine Ae ?_;obtain rfl:=Ac hm1;exact retK (A0 rfl (Bn rfl) (permA 0 rfl permN)) ⟨_,_,rfl,rfl⟩
def C6 (x1:Int):Option Bool:=
 some (!decide (x1=x1))
theorem Ik {x1:Int} {r_1:Bool} (hm:C6 x1=some r_1):Fn0 Tryz.prog 179 [.i64 x1] (.bool r_1):=by
 unfold C6 at hm;refine Ad func179 rfl ntmps179 rfl fun H0 fr w0=>?_;refine zq11 ?_
 cases hm;exact Ae zr1
def EA (x1:Int) (y1:Int):Option Bool:=
 (C6 x1).bind fun x2 =>
 (bif x2 then ((C6 y1).bind fun x3 =>
 some (!x3)) else (some false)).bind fun p1 =>
 some (p1||(decide (x1<y1)))
theorem MQ {x1:Int} {y1:Int} {r_1:Bool} (hm:EA x1 y1=some r_1):Fn0 Tryz.prog 157 [.i64 x1,.i64 y1] (.bool r_1):=by
 unfold EA at hm;refine Ad func157 rfl ntmps157 rfl fun H0 fr w0=>?_;refine zq7 ?_;obtain ⟨x2,hx1,hm⟩:=bS hm;refine zc0 (Ik hx1) ?_;refine zq1 ?_;obtain ⟨p1,hp_1,hm⟩:=bS hm;refine AS [(0,_),(1,_)] 4 11 p1 (t:=7) ⟨rfl,rfl,trivial⟩ rfl (fun hg_1 hk1=>?_) (fun hg_1 hk1=>?_) ?_
 ·replace hp_1:=AO hg_1 hp_1
  refine zq1 ?_;obtain ⟨x3,hx2,hp_1⟩:=bS hp_1;refine zcw (Ik hx2) ?_;refine zq2 ?_;exact zgb hk1 hp_1
 ·replace hp_1:=AR hg_1 hp_1
  refine zq4 ?_;exact zgb hk1 hp_1
 refine zq1 ?_
 apply Cy [] 4 16 (t:=12) trivial rfl
 ·intro hg_2 hk2
  refine zq4 ?_;exact zgm hk2
 ·intro hg_2 hk2
  refine zq4 ?_;exact zgm hk2
 refine zq2 ?_
 cases hm;exact Ae zr1
def Ct (x1:Int):Option Bool:=
 some (!decide (x1=x1))
theorem GB {x1:Int} {r_1:Bool} (hm:Ct x1=some r_1):Fn0 Tryz.prog 164 [.i64 x1] (.bool r_1):=by
 unfold Ct at hm;refine Ad func164 rfl ntmps164 rfl fun H0 fr w0=>?_;refine zq11 ?_
 cases hm;exact Ae zr1
def AI (x1:(List Int)) (target1:Int):Nat->(Int×Int)->Option Int
 | 0,_=>none
 | n+1,(i2,j1) =>
  bif (decide (i2<j1)) then
   grd (InR (i2+j1)) <|
   grd (0<=(i2+j1)/\(i2+j1)<9223372036854775808) <|
   grd (InR ((i2+j1) / 2)) <|
   (idx x1 ((i2+j1) / 2)).bind fun x2 =>
   (EA x2 target1).bind fun x3 =>
   bif x3 then
    grd (InR (((i2+j1) / 2)+1)) <|
    AI x1 target1 n ((((i2+j1) / 2)+1),j1)
   else
    AI x1 target1 n (i2,((i2+j1) / 2))
  else
   some i2
def Bt (x1:(List Int)) (target1:Int):Option (Int×Bool):=
 (AI x1 target1 FU (0,(x1.length:Int)):Option Int).bind fun i1 =>
 (bif (decide (i1<(x1.length:Int))) then ((idx x1 i1).bind fun x4 =>
 (bif (decide (x4=target1)) then (some true) else ((idx x1 i1).bind fun x5 =>
 (Ct x5).bind fun x6 =>
 (bif x6 then ((Ct target1).bind fun x7 =>
 some x7) else (some false)).bind fun p3 =>
 some p3)).bind fun p2 =>
 some p2) else (some false)).bind fun p1 =>
 some (i1,p1)
theorem FZ {x1:(List Int)} {target1:Int} {r_1:Int} {r_2:Bool} (hm:Bt x1 target1=some (r_1,r_2)):Fn0 Tryz.prog 130 [.list 1 D.i64 x1,.i64 target1] (.tup [.i64 r_1,.bool r_2]):=by
 unfold Bt at hm;refine Ad func130 rfl ntmps130 rfl fun H0 fr w0=>?_;refine zq18 ?_;obtain ⟨o_1,hj1,hm1⟩:=bS hm;refine Af [(0,_),(1,_),(6,_)] [] (fun (st:Int) (hid:Unit)=>match st,hid with | i1,_=>[(7,.i64 i1)]) (fun F (st:Int) (hid:Unit)=>match st,hid with | i1,_=>[]) (fun st=>st=o_1) ⟨rfl,rfl,rfl,trivial⟩ trivial ?_ ?_
 ·refine Am ?_
  refine Ag [(0,_),(1,_),(6,_)] [] (fun (st:(Int×Int)) (hid:Unit)=>match st,hid with | (i2,j1),_=>[(7,.i64 i2),(8,.i64 j1)]) (fun F (st:(Int×Int)) (hid:Unit)=>match st,hid with | (i2,j1),_=>[]) () hj1 (fun _=>rfl) ⟨rfl,rfl,rfl,trivial⟩ trivial ⟨rfl,rfl,trivial⟩ rfl ?_;rintro n ⟨i2,j1⟩ _ hj1;rw [AI] at hj1;refine Av (L':=[(7,.i64 i2),(8,.i64 j1),(0,_),(1,_),(6,_)]) (ms':=[]) rfl rfl ?_;refine zq7 ?_;refine zcn hj1 (fun hc1 hj1=>?_) (fun hc1 hj1=>?_)
  ·refine zq6 ?_
   obtain ⟨hg1,hj1⟩:=Aa hj1;refine zq1 ?_;obtain ⟨hg2,hj1⟩:=Aa hj1;refine Ai rfl rfl rfl (Tk runUnderlying3 runUnderlying156 rfl (WC hg2)) ?_;refine Ai rfl rfl rfl (WU rfl rfl) ?_;obtain ⟨hg3,hj1⟩:=Aa hj1;refine Ai rfl rfl rfl (Tk runUnderlying156 runUnderlying3 rfl (HW hg3)) ?_;refine zq6 ?_;obtain ⟨x2,hx4,hj1⟩:=bS hj1;refine Ai rfl rfl rfl (oIm runUnderlying43 sizeOf3 rfl rfl hx4) ?_;refine zq2 ?_;obtain ⟨x3,hx5,hj1⟩:=bS hj1;refine zc0 (MQ hx5) ?_;refine gNl ?_;refine zcn hj1 (fun hc2 hj1=>?_) (fun hc2 hj1=>?_)
   ·refine zq2 ?_
    obtain ⟨hg6,hj1⟩:=Aa hj1;refine zq3 ?_;exact ⟨_,(),hj1,⟨rfl,rfl,trivial⟩,⟨rfl,rfl,rfl,trivial⟩,[],rfl⟩
   ·refine zq4 ?_
    exact ⟨_,(),hj1,⟨rfl,rfl,trivial⟩,⟨rfl,rfl,rfl,trivial⟩,[],rfl⟩
  ·refine Au ?_
   exact ⟨_,(),Ac hj1,⟨rfl,trivial⟩,⟨rfl,rfl,rfl,trivial⟩,[],rfl⟩
 ·rintro i1 _ hst
  subst hst;refine An (L':=[(7,.i64 i1),(0,_),(1,_),(6,_)]) (ms':=[]) rfl rfl ?_;refine zq7 ?_;obtain ⟨p1,hp_1,hm1⟩:=bS hm1;refine AS [(31,_)] 18 53 p1 (t:=35) ⟨rfl,trivial⟩ rfl (fun hg_1 hk1=>?_) (fun hg_1 hk1=>?_) ?_
  ·replace hp_1:=AO hg_1 hp_1
   refine zq2 ?_;obtain ⟨x4,hx7,hp_1⟩:=bS hp_1;refine gWp rfl rfl rfl hg_1 rfl rfl (oIm runUnderlying43 sizeOf3 rfl rfl hx7) ?_;refine zq4 ?_;obtain ⟨p2,hp_2,hp_1⟩:=bS hp_1;refine AS [(31,_),(35,_)] 10 52 p2 (t:=42) ⟨rfl,rfl,trivial⟩ rfl (fun hg_2 hk2=>?_) (fun hg_2 hk2=>?_) ?_
   ·replace hp_2:=AO hg_2 hp_2
    refine zq10 ?_;exact zgb hk2 hp_2
   ·replace hp_2:=AR hg_2 hp_2
    refine zq2 ?_;obtain ⟨x5,hx8,hp_2⟩:=bS hp_2;refine gWp rfl rfl rfl hg_2 rfl rfl (oIm runUnderlying43 sizeOf3 rfl rfl hx8) ?_;refine zq1 ?_;obtain ⟨x6,hx9,hp_2⟩:=bS hp_2;refine zcw (GB hx9) ?_;refine zq1 ?_;obtain ⟨p3,hp_3,hp_2⟩:=bS hp_2;refine AS [(31,_),(35,_),(42,_)] 3 51 p3 (t:=48) ⟨rfl,rfl,rfl,trivial⟩ rfl (fun hg_3 hk3=>?_) (fun hg_3 hk3=>?_) ?_
    ·replace hp_3:=AO hg_3 hp_3
     refine zq1 ?_;obtain ⟨x7,hx10,hp_3⟩:=bS hp_3;refine zcw (GB hx10) ?_;refine zq1 ?_;exact zgb hk3 hp_3
    ·replace hp_3:=AR hg_3 hp_3
     refine zq3 ?_;exact zgb hk3 hp_3
    refine zq1 ?_;exact zgb hk2 hp_2
   refine zq1 ?_;exact zgb hk1 hp_1
  ·replace hp_1:=AR hg_1 hp_1
   refine zq18 ?_;exact zgb hk1 hp_1
  refine zq3 ?_
  cases hm1;exact Ae zr2
def DD (s1:AutoState) (v1:Int):Option Bool:=
 (Bt s1.vars v1).bind fun (x1,x2) =>
 some x2
theorem Zq {s1:AutoState} {v1:Int} {r_1:Bool} (hm:DD s1 v1=some r_1):Fn0 Tryz.prog 88 [AutoState.d s1,.i64 v1] (.bool r_1):=by
 unfold DD at hm;refine Ad func88 rfl ntmps88 rfl fun H0 fr w0=>?_;refine zq10 ?_;obtain ⟨⟨x1,x2⟩,hx1,hm⟩:=bS hm;refine zc0 (FZ hx1) ?_;refine zq11 ?_
 cases hm;exact Ae zr1
def B8 (a1:AutoAuto) (v1:Int) (w1:Int) (plus1:Bool):Nat->(Bool×Int)->Option (Out Bool Bool)
 | 0,_=>none
 | n+1,(some2,x1) =>
  bif (decide (x1<(a1.l.length:Int))) then
   (idx a1.l x1).bind fun x2 =>
   bif (!(x2.plus == plus1)) then
    grd (InR (x1+1)) <|
    B8 a1 v1 w1 plus1 n (some2,(x1+1))
   else
    (DD (⟨x2.plus,x2.all,x2.int,x2.bool,x2.str,x2.arrow,x2.rec_,x2.tag,x2.vars,x2.dom,x2.cod,x2.fields,x2.tags⟩:AutoState) v1).bind fun x3 =>
    (DD (⟨x2.plus,x2.all,x2.int,x2.bool,x2.str,x2.arrow,x2.rec_,x2.tag,x2.vars,x2.dom,x2.cod,x2.fields,x2.tags⟩:AutoState) w1).bind fun x4 =>
    bif (!(x3 == x4)) then
     some (Out.ret false)
    else
     grd (InR (x1+1)) <|
     B8 a1 v1 w1 plus1 n ((some2||x3),(x1+1))
  else
   some (Out.go (some2))
def B6 (a1:AutoAuto) (v1:Int) (w1:Int) (plus1:Bool):Option Bool:=
 ((B8 a1 v1 w1 plus1 FU (false,0):Option (Out Bool Bool))).bind (fun oo=>oo.on (fun r1=>some r1) (fun some1 =>
 some (some1&&(!decide (v1=w1)))))
theorem Gf {a1:AutoAuto} {v1:Int} {w1:Int} {plus1:Bool} {r_1:Bool} (hm:B6 a1 v1 w1 plus1=some r_1):Fn0 Tryz.prog 57 [AutoAuto.d a1,.i64 v1,.i64 w1,.bool plus1] (.bool r_1):=by
 unfold B6 at hm;refine Ad func57 rfl ntmps57 rfl fun H0 fr w0=>?_;refine zq17 ?_;obtain ⟨o_1,hj1,hm1⟩:=bS hm;refine Af [(1,_),(2,_)] [] (fun (st:Bool) (hid:Unit)=>match st,hid with | some1,_=>[(9,.bool some1)]) (fun F (st:Bool) (hid:Unit)=>match st,hid with | some1,_=>[]) (fun st=>Out.go (st)=o_1) ⟨rfl,rfl,trivial⟩ trivial ?_ ?_
 ·refine Am ?_
  refine Ag [(1,_),(2,_),(3,_),(15,_),(16,_)] [] (fun (st:(Bool×Int)) (hid:Unit)=>match st,hid with | (some2,x1),_=>[(9,.bool some2),(17,.i64 x1)]) (fun F (st:(Bool×Int)) (hid:Unit)=>match st,hid with | (some2,x1),_=>[]) () hj1 (fun _=>rfl) ⟨rfl,rfl,rfl,rfl,rfl,trivial⟩ trivial ⟨rfl,rfl,trivial⟩ rfl ?_;rintro n ⟨some2,x1⟩ _ hj1;rw [B8] at hj1;refine Av (L':=[(9,.bool some2),(17,.i64 x1),(1,_),(2,_),(3,_),(15,_),(16,_)]) (ms':=[]) rfl rfl ?_;refine zq5 ?_;refine zcn hj1 (fun hc1 hj1=>?_) (fun hc1 hj1=>?_)
  ·refine zq5 ?_
   obtain ⟨x2,hx1,hj1⟩:=bS hj1;refine zq2 ?_;refine Me fun b1=>?_;refine zst 0 ?_;refine Ah (ms':=[box b1 59 [_,_,_,_,_,_,_,_,_,_,_,_,_]]) rfl ?_;refine zq7 ?_;refine Ai rfl rfl rfl (TT runUnderlying4 rfl rfl) ?_;refine gNl ?_;refine zcn hj1 (fun hc2 hj1=>?_) (fun hc2 hj1=>?_)
   ·refine Au ?_
    refine gRg ?_;obtain ⟨hg2,hj1⟩:=Aa hj1;refine zq3 ?_;exact ⟨_,(),hj1,⟨rfl,rfl,trivial⟩,⟨rfl,rfl,rfl,rfl,rfl,trivial⟩,[_],rfl⟩
   ·refine zq2 ?_
    obtain ⟨x3,hx3,hj1⟩:=bS hj1;obtain ⟨x4,hx4,hj1⟩:=bS hj1;refine zdr 8 ?_;refine zq2 ?_;refine zcd (Zq hx3) ?_;refine zq2 ?_;refine zcd (Zq hx4) ?_;refine zq9 ?_;refine Ai rfl rfl rfl (TT runUnderlying4 rfl rfl) ?_;refine gNl ?_;refine zcn hj1 (fun hc3 hj1=>?_) (fun hc3 hj1=>?_)
    ·refine zq4 ?_
     refine Ae ?_;obtain rfl:=Ac hj1
     replace hm1:=BP hm1
     cases hm1;exact zr1
    ·refine zq4 ?_
     apply Cy [(1,_),(2,_),(3,_),(15,_),(16,_),(17,_)] 2 37 (t:=35) ⟨rfl,rfl,rfl,rfl,rfl,rfl,trivial⟩ rfl
     ·intro hg_1 hk1
      refine zq2 ?_;exact zgm hk1
     ·intro hg_1 hk1
      refine zq2 ?_;exact zgm hk1
     refine zq3 ?_;obtain ⟨hg5,hj1⟩:=Aa hj1;refine zq3 ?_;exact ⟨_,(),hj1,⟨rfl,rfl,trivial⟩,⟨rfl,rfl,rfl,rfl,rfl,trivial⟩,[_],rfl⟩
  ·refine Au ?_
   exact ⟨_,(),Ac hj1,⟨rfl,trivial⟩,⟨rfl,rfl,trivial⟩,[],rfl⟩
 ·rintro some1 _ hst
  subst hst
  replace hm1:=Dm hm1
  refine An (L':=[(9,.bool some1),(1,_),(2,_)]) (ms':=[]) rfl rfl ?_;refine zq4 ?_
  apply CN [] 4 44 (t:=40) trivial rfl
  ·intro hg_2 hk2
   refine zq4 ?_;exact zgm hk2
  ·intro hg_2 hk2
   refine zq4 ?_;exact zgm hk2
  refine zq2 ?_
  cases hm1;exact Ae zr1
def Et (v1:Int) (w1:Int) (c1:AutoAuto):Option Bool:=
 (B6 c1 v1 w1 true).bind fun x1 =>
 (bif x1 then (some true) else ((B6 c1 v1 w1 false).bind fun x2 =>
 some x2)).bind fun p1 =>
 some p1
theorem LQ {v1:Int} {w1:Int} {c1:AutoAuto} {r_1:Bool} (hm:Et v1 w1 c1=some r_1):Fn0 Tryz.prog 56 [.i64 v1,.i64 w1,.ref (AutoAuto.d c1)] (.bool r_1):=by
 unfold Et at hm;refine Ad func56 rfl ntmps56 rfl fun H0 fr w0=>?_;refine zq9 ?_;obtain ⟨x1,hx1,hm⟩:=bS hm;refine zc0 (Gf hx1) ?_;refine zq1 ?_;obtain ⟨p1,hp_1,hm⟩:=bS hm;refine AS [] 5 15 p1 (t:=10) trivial rfl (fun hg_1 hk1=>?_) (fun hg_1 hk1=>?_) ?_
 ·replace hp_1:=AO hg_1 hp_1
  refine zq5 ?_;exact zgb hk1 hp_1
 ·replace hp_1:=AR hg_1 hp_1
  refine zq3 ?_;obtain ⟨x2,hx2,hp_1⟩:=bS hp_1;refine zcw (Gf hx2) ?_;refine zq1 ?_;exact zgb hk1 hp_1
 refine zq2 ?_
 cases hm;exact Ae zr1
def Bw (s1:(List Int)) (v1:Int):Nat->Int->Option (Out Int Unit)
 | 0,_=>none
 | n+1,x1 =>
  bif (decide (x1<(s1.length:Int))) then
   (idx s1 x1).bind fun x2 =>
   bif (decide (v1=x2)) then
    some (Out.ret x1)
   else
    grd (InR (x1+1)) <|
    Bw s1 v1 n (x1+1)
  else
   some (Out.go (()))
def Cj (s1:(List Int)) (v1:Int):Option Int:=
 ((Bw s1 v1 FU 0:Option (Out Int Unit))).bind (fun oo=>oo.on (fun r1=>some r1) (fun _ =>
 some (-1)))
theorem H7 {s1:(List Int)} {v1:Int} {r_1:Int} (hm:Cj s1 v1=some r_1):Fn0 Tryz.prog 89 [.list 1 D.i64 s1,.i64 v1] (.i64 r_1):=by
 unfold Cj at hm;refine Ad func89 rfl ntmps89 rfl fun H0 fr w0=>?_;refine zq11 ?_;obtain ⟨o_1,hj1,hm1⟩:=bS hm;refine Af [] [] (fun (st:Unit) (hid:Unit)=>match st,hid with | _,_=>[]) (fun F (st:Unit) (hid:Unit)=>match st,hid with | _,_=>[]) (fun st=>Out.go (st)=o_1) trivial trivial ?_ ?_
 ·refine Am ?_
  refine Ag [(0,_),(1,_),(7,_)] [] (fun (st:Int) (hid:Unit)=>match st,hid with | x1,_=>[(8,.i64 x1)]) (fun F (st:Int) (hid:Unit)=>match st,hid with | x1,_=>[]) () hj1 (fun _=>rfl) ⟨rfl,rfl,rfl,trivial⟩ trivial ⟨rfl,trivial⟩ rfl ?_;rintro n x1 _ hj1;rw [Bw] at hj1;refine Av (L':=[(8,.i64 x1),(0,_),(1,_),(7,_)]) (ms':=[]) rfl rfl ?_;refine zq5 ?_;refine zcn hj1 (fun hc1 hj1=>?_) (fun hc1 hj1=>?_)
  ·refine zq13 ?_
   obtain ⟨x2,hx1,hj1⟩:=bS hj1;refine zq4 ?_;refine zcn hj1 (fun hc2 hj1=>?_) (fun hc2 hj1=>?_)
   ·refine zq5 ?_
    refine Ae ?_;obtain rfl:=Ac hj1
    replace hm1:=BP hm1
    cases hm1;exact zr1
   ·refine zq2 ?_
    obtain ⟨hg2,hj1⟩:=Aa hj1;refine zq3 ?_;exact ⟨_,(),hj1,⟨rfl,trivial⟩,⟨rfl,rfl,rfl,trivial⟩,[],rfl⟩
  ·refine Au ?_
   exact ⟨_,(),Ac hj1,trivial,trivial,[],rfl⟩
 ·rintro _ _ hst
  subst hst
  replace hm1:=Dm hm1
  refine An (L':=[]) (ms':=[]) rfl rfl ?_;refine zq4 ?_
  cases hm1;exact Ae zr1
def BV (a1:AutoAuto) (w1:Int) (v1:Int):Nat->(Int×(List AutoState))->Option AutoAuto
 | 0,_=>none
 | n+1,(x1,l1) =>
  bif (decide (x1<(a1.l.length:Int))) then
   (idx l1 x1).bind fun x2 =>
   (DD x2 w1).bind fun x3 =>
   bif (!x3) then
    grd (InR (x1+1)) <|
    BV a1 w1 v1 n ((x1+1),l1)
   else
    grd (x2.vars.length*8<=140737488355328) <|
    (Cj x2.vars w1).bind fun x4 =>
    (idx x2.vars x4).bind fun x5 =>
    grd ((x2.vars.set (x4).toNat v1).length<4611686018427387904) <|
    grd (InR (x1+1)) <|
    BV a1 w1 v1 n ((x1+1),(l1.set (x1).toNat (⟨x2.plus,x2.all,x2.int,x2.bool,x2.str,x2.arrow,x2.rec_,x2.tag,(Lib.compact (List.mergeSort (x2.vars.set (x4).toNat v1) fun x y=>decide (x<=y))),x2.dom,x2.cod,x2.fields,x2.tags⟩:AutoState)))
  else
   some (⟨l1,a1.start⟩:AutoAuto)
def Ez (a1:AutoAuto) (w1:Int) (v1:Int)  : Option AutoAuto:=
 BV a1 w1 v1 FU (0,a1.l)
theorem Mk {a1:AutoAuto} {w1:Int} {v1:Int}  {s_1:AutoAuto} {a_q0c0:Option Addr} {m_q0c0:Nat} {cap_q0c0:Nat} (hm:Ez a1 w1 v1=some s_1):Go.V.Fn Tryz.prog 58 [.agg [.v (.slice a_q0c0 m_q0c0 cap_q0c0),.i64 a1.start],.i64 w1,.i64 v1] [arr a_q0c0 m_q0c0 cap_q0c0 59 13 AutoState.d a1.l] (fun d ms'=>d = .tup []/\ms'=[arr a_q0c0 m_q0c0 cap_q0c0 59 13 AutoState.d s_1.l]):=by
 unfold Ez at hm;refine Ad func58 rfl ntmps58 rfl fun H0 fr w0=>?_;refine zq8 ?_;refine Ai rfl rfl rfl (Dd 0 runUnderlying25 rfl rfl) ?_;refine zq3 ?_;refine Ag [(1,_),(2,_),(3,_),(11,_)] [] (fun (st:(Int×(List AutoState))) (hid:Unit)=>match st,hid with | (x1,l1),_=>[(12,.i64 x1)]) (fun F (st:(Int×(List AutoState))) (hid:Unit)=>match st,hid with | (x1,l1),_=>[arr a_q0c0 m_q0c0 cap_q0c0 59 13 AutoState.d l1]) () hm (fun _=>rfl) ⟨rfl,rfl,rfl,rfl,trivial⟩ trivial ⟨rfl,trivial⟩ rfl ?_;rintro n ⟨x1,l1⟩ ⟨⟩ hm;rw [BV] at hm;refine Av (L':=[(12,.i64 x1),(1,_),(2,_),(3,_),(11,_)]) (ms':=[arr a_q0c0 m_q0c0 cap_q0c0 59 13 AutoState.d l1]) rfl rfl ?_;refine zq5 ?_;refine zcn hm (fun hc1 hm=>?_) (fun hc1 hm=>?_)
 ·refine zq13 ?_
  obtain ⟨x2,hx1,hm⟩:=bS hm;refine Ai rfl rfl rfl (Aj 0 runUnderlying25 sizeOf59 rfl rfl rfl hx1) ?_;refine zq6 ?_;refine Ai rfl rfl rfl (GA 0 rfl rfl (Ar hx1).2) ?_;refine Ai rfl rfl rfl (IF 0 isAgg59 sizeOf59 rfl rfl (Ar hx1).2 rfl rfl) ?_;refine zq1 ?_;obtain ⟨x3,hx2,hm⟩:=bS hm;refine zc0 (Zq hx2) ?_;refine zq2 ?_;refine zcn hm (fun hc2 hm=>?_) (fun hc2 hm=>?_)
  ·refine Au ?_
   refine gRg ?_;obtain ⟨hg3,hm⟩:=Aa hm;refine zq3 ?_;exact ⟨_,(),hm,⟨rfl,trivial⟩,⟨rfl,rfl,rfl,rfl,trivial⟩,[],rfl⟩
  ·refine zq4 ?_
   refine Ai rfl rfl rfl (GA 0 rfl rfl (Ar hx1).2) ?_;refine Ai rfl rfl rfl (B4 (b:=0) 0 Gn rfl rfl (Ar hx1).2) ?_;refine Ai rfl rfl rfl (BI (off:=8) 0 isAgg43 rfl rfl (Ar hx1).2 rfl rfl rfl) ?_;obtain ⟨hg4,hm⟩:=Aa hm;refine Az rfl rfl rfl (DO (ms₁:=[]) call64 rfl (List.Perm.refl _) (GN hg4)) ?_;rintro _ _ ⟨_,⟨a_r1,cap_r1,hd_r1,hq_r1⟩,rfl⟩;obtain ⟨m_r1,hm_r1⟩:∃ m,m=x2.vars.length:=⟨_,rfl⟩;rw [<- hm_r1] at hd_r1 hq_r1;subst hd_r1 hq_r1
   clear hm_r1
   refine zq7 ?_;obtain ⟨x4,hx5,hm⟩:=bS hm;refine Ai rfl rfl rfl (Iy call89 rfl (H7 hx5) (Bh (EU 0 rfl) (Bh BT B2)) FW) ?_;refine zq1 ?_;obtain ⟨x5,hx6,hm⟩:=bS hm;refine Ai rfl rfl rfl (Aj 0 runUnderlying43 sizeOf3 rfl rfl rfl hx6) ?_;refine Ip rfl rfl (Bs (off:=0) (z':=v1) 0 sizeOf3 rfl rfl (Ar hx6).2 rfl rfl rfl rfl rfl rfl (nB rfl) rfl rfl) ?_;rintro _ _ rfl;refine Ah (ms':=[_,_]) rfl ?_;refine zq4 ?_;obtain ⟨hg7,hm⟩:=Aa hm;refine Az rfl rfl rfl (Cr [0] call79 rfl rfl (Ap rfl CI) (IC E2 DQ hg7) (by rintro _ _ ⟨_,rfl⟩;rfl)) ?_;rintro _ _ ⟨_,⟨rfl,rfl⟩,rfl⟩;refine Ah (ms':=[_,_]) rfl ?_;refine zq4 ?_;refine Az rfl rfl rfl (Cr [0] call80 rfl rfl (Ap rfl CI) (Ix FI Ep) (by rintro _ _ ⟨_,_,rfl⟩;rfl)) ?_;rintro _ _ ⟨_,⟨m_r1,rfl,rfl⟩,rfl⟩;refine Ah (ms':=[_,_]) rfl ?_;refine Ai rfl rfl rfl (GA 1 rfl rfl (Ar hx1).2) ?_;refine Ai rfl rfl rfl (B4 (b:=0) 1 Gn rfl rfl (Ar hx1).2) ?_;refine Ip rfl rfl (OpT.thaw 0 rfl rfl (fun hl => .view (peekE (i:=40) 0 rfl rfl hl) (Bs (off:=8) (z':=(⟨x2.plus,x2.all,x2.int,x2.bool,x2.str,x2.arrow,x2.rec_,x2.tag,(Lib.compact (List.mergeSort (x2.vars.set (x4).toNat v1) fun x y=>decide (x<=y))),x2.dom,x2.cod,x2.fields,x2.tags⟩:AutoState)) 1 sizeOf43 rfl rfl (Ar hx1).2 rfl rfl rfl rfl rfl rfl (nB rfl) rfl rfl))) ?_;rintro _ _ rfl;refine Ah (ms':=[_,_]) rfl ?_;refine zq2 ?_;obtain ⟨hg8,hm⟩:=Aa hm;refine zq3 ?_;exact ⟨_,(),hm,⟨rfl,trivial⟩,⟨rfl,rfl,rfl,rfl,trivial⟩,[_],rfl⟩
 ·refine Au ?_
  obtain rfl:=Ac hm;exact retKn (DR rfl (permA 0 rfl permN)) ⟨rfl,rfl⟩
def CQ (x1:Int):Nat->(Int×(List AutoState))->Option (AutoAuto×Int)
 | 0,_=>none
 | n+1,(z1,l1) =>
  (DW (⟨l1,z1⟩:AutoAuto)).bind fun l2 =>
  (EO l2 (fun y0 y1=>Et y0 y1 (⟨l1,z1⟩:AutoAuto))).bind fun (x2,x3,x4) =>
  bif (!x4) then
   some ((⟨l1,z1⟩:AutoAuto),x1)
  else
   (Ez (⟨l1,z1⟩:AutoAuto) x3 x2).bind fun s2 =>
   CQ x1 n (z1,s2.l)
def CB (a1:AutoAuto):Option (AutoAuto×Int):=
 (CX a1).bind fun (x1,s1) =>
 bif (!decide (x1=0)) then
  some ((⟨([]:List AutoState),0⟩:AutoAuto),x1)
 else
  CQ x1 FU (s1.start,s1.l)
theorem Kb {a1:AutoAuto} {r_1:AutoAuto} {r_2:Int} (hm:CB a1=some (r_1,r_2)):Fn0 Tryz.prog 26 [AutoAuto.d a1] (.tup [AutoAuto.d r_1,.i64 r_2]):=by
 unfold CB at hm;refine Ad func26 rfl ntmps26 rfl fun H0 fr w0=>?_;refine zq3 ?_;refine Ev fun b1=>?_;refine zq5 ?_;obtain ⟨⟨x1,s1⟩,hx1,hm⟩:=bS hm;refine Az rfl rfl rfl (DO (ms₁:=[]) call29 rfl (List.Perm.refl _) (HP hx1)) ?_;rintro _ _ ⟨_,⟨a_r1,m_r1,cap_r1,rfl,rfl⟩,rfl⟩;refine zq3 ?_;refine Ev fun b2=>?_;refine zst 0 ?_;refine Ah (ms':=[box b2 27 [_,_],_,box b1 27 [_,_]]) rfl ?_;refine zq8 ?_;refine zcn hm (fun hc1 hm=>?_) (fun hc1 hm=>?_)
 ·refine zq2 ?_
  refine Ai rfl rfl rfl zb27b ?_;refine zq1 ?_;refine zst 2 ?_;refine Ah (ms':=[box b2 27 [_,_],_,box b1 27 [_,_]]) rfl ?_;refine zq2 ?_
  cases hm;exact Ae zr2
 ·refine zq2 ?_
  refine Ag [(2,_),(4,_),(5,_)] [(2,_)] (fun (st:(Int×(List AutoState))) (hid:Unit)=>match st,hid with | (z1,l1),_=>[]) (fun F (st:(Int×(List AutoState))) (hid:Unit)=>match st,hid with | (z1,l1),_=>[box b2 27 [.v (.slice a_r1 m_r1 cap_r1),.i64 z1],arr a_r1 m_r1 cap_r1 59 13 AutoState.d l1,(nthF F 0)]) () hm (fun _=>rfl) ⟨rfl,rfl,rfl,trivial⟩ ⟨rfl,trivial⟩ trivial rfl ?_;rintro n ⟨z1,l1⟩ ⟨⟩ hm;rw [CQ] at hm;refine Av (L':=[(2,_),(4,_),(5,_)]) (ms':=[box b2 27 [.v (.slice a_r1 m_r1 cap_r1),.i64 z1],arr a_r1 m_r1 cap_r1 59 13 AutoState.d l1,_]) rfl rfl ?_;refine zq4 ?_;obtain ⟨l2,hx2,hm⟩:=bS hm;refine Az rfl rfl rfl (MN call55 rfl (IQ hx2) (Bh (F2 (Bh (EU 1 rfl) (Bh BT B2))) B2) NG) ?_;rintro _ _ ⟨a_r2,cap_r2,rfl,rfl⟩;refine Ai rfl rfl rfl (Cw rfl rfl) ?_;obtain ⟨⟨x2,x3,x4⟩,hx3,hm⟩:=bS hm;refine Ai rfl rfl rfl (Iy (ds':=[_,.clo (.func 56) [] [_]]) call54 rfl (N1 (fun _ _ _ h=>Hf call56 (LQ h)) hx3) (Bh (UN 0 rfl rfl) (Bh (Uq B2 (Bh (TE 1 rfl (Bh (EU 2 rfl) (Bh BT B2))) B2)) B2)) (SG (Ot FW (Ot FW (Ot FW Sh))))) ?_;refine zq14 ?_;refine zcn hm (fun hc2 hm=>?_) (fun hc2 hm=>?_)
  ·refine zq2 ?_
   refine I5 2 rfl rfl ?_;rintro rfl;refine zq1 ?_;refine Aq (CU (i:=28) (q:=0) 2 rfl rfl rfl rfl rfl).refines ?_;refine zq1 ?_;refine zst 3 ?_;refine Ah (ms':=[_,box b2 27 [_,_],_,box b1 27 [_,_]]) rfl ?_;refine zq2 ?_
   cases hm;exact Ae zr2
  ·refine zq5 ?_
   obtain ⟨s2,hx4,hm⟩:=bS hm;refine Az rfl rfl rfl (Cr [2] call58 rfl rfl (Ap rfl CI) (Mk hx4) (by rintro _ _ ⟨rfl,rfl⟩;rfl)) ?_;rintro _ _ ⟨_,⟨rfl,rfl⟩,rfl⟩;refine Ah (ms':=[_,box b2 27 [_,_],_,box b1 27 [_,_]]) rfl ?_;refine gNl ?_;exact ⟨_,(),hm,trivial,⟨rfl,rfl,rfl,trivial⟩,[_],rfl⟩
def Co (a1:AutoAuto) (v1:Int) (w1:Int) (plus1:Bool):Option Bool:=
 (F3 a1).bind fun (x1,x2) =>
 (bif (decide (x2=0)) then ((B6 (⟨x1.l,x1.start⟩:AutoAuto) v1 w1 plus1).bind fun x3 =>
 some x3) else (some false)).bind fun p1 =>
 some p1
theorem Ij {a1:AutoAuto} {v1:Int} {w1:Int} {plus1:Bool} {r_1:Bool} (hm:Co a1 v1 w1 plus1=some r_1):Fn0 Tryz.prog 52 [AutoAuto.d a1,.i64 v1,.i64 w1,.bool plus1] (.bool r_1):=by
 unfold Co at hm;refine Ad func52 rfl ntmps52 rfl fun H0 fr w0=>?_;refine zq8 ?_;obtain ⟨⟨x1,x2⟩,hx1,hm⟩:=bS hm;refine zc0 (P7 hx1) ?_;refine zq3 ?_;refine Ev fun b1=>?_;refine zst 0 ?_;refine Ah (ms':=[box b1 27 [_,_]]) rfl ?_;refine zq7 ?_;obtain ⟨p1,hp_1,hm⟩:=bS hm;refine AS [] 6 24 p1 (t:=18) trivial rfl (fun hg_1 hk1=>?_) (fun hg_1 hk1=>?_) ?_
 ·replace hp_1:=AO hg_1 hp_1
  refine zq4 ?_;obtain ⟨x3,hx2,hp_1⟩:=bS hp_1;refine zcw (Gf hx2) ?_;refine zq1 ?_;exact zgb hk1 hp_1
 ·replace hp_1:=AR hg_1 hp_1
  refine zq6 ?_;exact zgb hk1 hp_1
 refine zq2 ?_
 cases hm;exact Ae zr1
def Cp  : Option Bool:=
 (CB (⟨[(⟨true,false,false,false,false,true,false,false,([]:List Int),1,2,([]:List AutoEdge),([]:List AutoEdge)⟩:AutoState),(⟨false,false,false,false,false,false,false,false,[0,1],0,0,([]:List AutoEdge),([]:List AutoEdge)⟩:AutoState),(⟨true,false,false,false,false,false,true,false,([]:List Int),0,0,[(⟨([108]:List UInt8),3⟩:AutoEdge),(⟨([109]:List UInt8),4⟩:AutoEdge)],([]:List AutoEdge)⟩:AutoState),(⟨true,false,false,false,false,false,false,false,[0],0,0,([]:List AutoEdge),([]:List AutoEdge)⟩:AutoState),(⟨true,false,false,false,false,false,false,false,[1],0,0,([]:List AutoEdge),([]:List AutoEdge)⟩:AutoState)],0⟩:AutoAuto)).bind fun (x1,x2) =>
 (bif (decide (x2=0)) then ((Co (⟨[(⟨true,false,false,false,false,true,false,false,([]:List Int),1,2,([]:List AutoEdge),([]:List AutoEdge)⟩:AutoState),(⟨false,false,false,false,false,false,false,false,[0,1],0,0,([]:List AutoEdge),([]:List AutoEdge)⟩:AutoState),(⟨true,false,false,false,false,false,true,false,([]:List Int),0,0,[(⟨([108]:List UInt8),3⟩:AutoEdge),(⟨([109]:List UInt8),4⟩:AutoEdge)],([]:List AutoEdge)⟩:AutoState),(⟨true,false,false,false,false,false,false,false,[0],0,0,([]:List AutoEdge),([]:List AutoEdge)⟩:AutoState),(⟨true,false,false,false,false,false,false,false,[1],0,0,([]:List AutoEdge),([]:List AutoEdge)⟩:AutoState)],0⟩:AutoAuto) 0 1 false).bind fun x3 =>
 some x3) else (some false)).bind fun p1 =>
 (bif p1 then ((Co (⟨[(⟨true,false,false,false,false,true,false,false,([]:List Int),1,2,([]:List AutoEdge),([]:List AutoEdge)⟩:AutoState),(⟨false,false,false,false,false,false,false,false,[0,1],0,0,([]:List AutoEdge),([]:List AutoEdge)⟩:AutoState),(⟨true,false,false,false,false,false,true,false,([]:List Int),0,0,[(⟨([108]:List UInt8),3⟩:AutoEdge),(⟨([109]:List UInt8),4⟩:AutoEdge)],([]:List AutoEdge)⟩:AutoState),(⟨true,false,false,false,false,false,false,false,[0],0,0,([]:List AutoEdge),([]:List AutoEdge)⟩:AutoState),(⟨true,false,false,false,false,false,false,false,[1],0,0,([]:List AutoEdge),([]:List AutoEdge)⟩:AutoState)],0⟩:AutoAuto) 0 1 true).bind fun x4 =>
 some (!x4)) else (some false)).bind fun p2 =>
 (bif p2 then ((idx x1.l 1).bind fun x5 =>
 some (decide ((x5.vars.length:Int)=1))) else (some false)).bind fun p3 =>
 (bif p3 then ((idx x1.l 4).bind fun x6 =>
 (CA x6.vars [0]).bind fun x7 =>
 some x7) else (some false)).bind fun p4 =>
 some p4
theorem Iq  {r_1:Bool} (hm:Cp=some r_1):Fn0 Tryz.prog 25 [] (.bool r_1):=by
 unfold Cp at hm;refine Ad func25 rfl ntmps25 rfl fun H0 fr w0=>?_;refine zq6 ?_;refine Ai rfl rfl rfl zb59b ?_;refine Ai rfl rfl rfl (zs2 D.i64) ?_;refine Ai rfl rfl rfl zb59b ?_;refine Ai rfl rfl rfl zb62a ?_;refine Ai rfl rfl rfl zb62a ?_;refine Ai rfl rfl rfl (Ao (xs:=[_,_]) (f:=AutoEdge.d) (l:=[(⟨([108]:List UInt8),3⟩:AutoEdge),(⟨([109]:List UInt8),4⟩:AutoEdge)]) runUnderlying57 sizeOf62 zeroValue62 rfl rfl rfl (fun _=>⟨rfl,rfl,rfl⟩) rfl) ?_;refine Ai rfl rfl rfl zb59b ?_;refine Ai rfl rfl rfl (zs1 D.i64) ?_;refine Ai rfl rfl rfl zb59b ?_;refine Ai rfl rfl rfl (zs1 D.i64) ?_;refine Ai rfl rfl rfl zb59b ?_;refine Ai rfl rfl rfl (Ao (xs:=[_,_,_,_,_]) (f:=AutoState.d) (l:=[(⟨true,false,false,false,false,true,false,false,([]:List Int),1,2,([]:List AutoEdge),([]:List AutoEdge)⟩:AutoState),(⟨false,false,false,false,false,false,false,false,[0,1],0,0,([]:List AutoEdge),([]:List AutoEdge)⟩:AutoState),(⟨true,false,false,false,false,false,true,false,([]:List Int),0,0,[(⟨([108]:List UInt8),3⟩:AutoEdge),(⟨([109]:List UInt8),4⟩:AutoEdge)],([]:List AutoEdge)⟩:AutoState),(⟨true,false,false,false,false,false,false,false,[0],0,0,([]:List AutoEdge),([]:List AutoEdge)⟩:AutoState),(⟨true,false,false,false,false,false,false,false,[1],0,0,([]:List AutoEdge),([]:List AutoEdge)⟩:AutoState)]) runUnderlying25 sizeOf59 zeroValue59 rfl rfl rfl (fun _=>⟨rfl,rfl,rfl⟩) rfl) ?_;refine Ai rfl rfl rfl zb27b ?_;refine Ev fun b1=>?_;refine zst 0 ?_;refine Ah (ms':=[box b1 27 [_,_]]) rfl ?_;refine zq4 ?_;obtain ⟨⟨x1,x2⟩,hx1,hm⟩:=bS hm;refine zc0 (Kb hx1) ?_;refine zq3 ?_;refine Ev fun b2=>?_;refine zst 0 ?_;refine Ah (ms':=[box b2 27 [_,_],box b1 27 [_,_]]) rfl ?_;refine zq7 ?_;obtain ⟨p1,hp_1,hm⟩:=bS hm;refine AS [(1,_),(2,_)] 3 27 p1 (t:=24) ⟨rfl,rfl,trivial⟩ rfl (fun hg_1 hk1=>?_) (fun hg_1 hk1=>?_) ?_
 ·replace hp_1:=AO hg_1 hp_1
  refine zq1 ?_;obtain ⟨x3,hx2,hp_1⟩:=bS hp_1;refine zcw (Ij hx2) ?_;refine zq1 ?_;exact zgb hk1 hp_1
 ·replace hp_1:=AR hg_1 hp_1
  refine zq3 ?_;exact zgb hk1 hp_1
 refine zq1 ?_;obtain ⟨p2,hp_2,hm⟩:=bS hm;refine AS [(2,_)] 4 32 p2 (t:=28) ⟨rfl,trivial⟩ rfl (fun hg_2 hk2=>?_) (fun hg_2 hk2=>?_) ?_
 ·replace hp_2:=AO hg_2 hp_2
  refine zq1 ?_;obtain ⟨x4,hx3,hp_2⟩:=bS hp_2;refine zcw (Ij hx3) ?_;refine zq2 ?_;exact zgb hk2 hp_2
 ·replace hp_2:=AR hg_2 hp_2
  refine zq4 ?_;exact zgb hk2 hp_2
 refine zq1 ?_;obtain ⟨p3,hp_3,hm⟩:=bS hm;refine AS [(2,_)] 8 41 p3 (t:=33) ⟨rfl,trivial⟩ rfl (fun hg_3 hk3=>?_) (fun hg_3 hk3=>?_) ?_
 ·replace hp_3:=AO hg_3 hp_3
  refine zq2 ?_;obtain ⟨x5,hx4,hp_3⟩:=bS hp_3;refine zq6 ?_;exact zgb hk3 hp_3
 ·replace hp_3:=AR hg_3 hp_3
  refine zq8 ?_;exact zgb hk3 hp_3
 refine zq1 ?_;obtain ⟨p4,hp_4,hm⟩:=bS hm;refine AS [] 8 50 p4 (t:=42) trivial rfl (fun hg_4 hk4=>?_) (fun hg_4 hk4=>?_) ?_
 ·replace hp_4:=AO hg_4 hp_4
  refine zq2 ?_;obtain ⟨x6,hx5,hp_4⟩:=bS hp_4;refine zq3 ?_;refine gWp rfl rfl rfl hg_4 rfl rfl (zs1 D.i64) ?_;obtain ⟨x7,hx6,hp_4⟩:=bS hp_4;refine zcw (FY hx6) ?_;refine zq1 ?_;exact zgb hk4 hp_4
 ·replace hp_4:=AR hg_4 hp_4
  refine zq8 ?_;exact zgb hk4 hp_4
 refine zq2 ?_
 cases hm;exact Ae zr1
def DH (s1:AutoState) (c1:Int):Option Bool:=
 (DD s1 c1).bind fun x1 =>
 (bif x1 then ((EE s1).bind fun x2 =>
 some (!x2)) else (some false)).bind fun p1 =>
 some p1
theorem Jb {s1:AutoState} {c1:Int} {r_1:Bool} (hm:DH s1 c1=some r_1):Fn0 Tryz.prog 91 [AutoState.d s1,.ref (.i64 c1),.ref (.v (.func (.func 60) #[] #[]))] (.bool r_1):=by
 unfold DH at hm;refine Ad func91 rfl ntmps91 rfl fun H0 fr w0=>?_;refine zq9 ?_;obtain ⟨x1,hx1,hm⟩:=bS hm;refine zc0 (Zq hx1) ?_;refine zq1 ?_;obtain ⟨p1,hp_1,hm⟩:=bS hm;refine AS [] 5 13 p1 (t:=8) trivial rfl (fun hg_1 hk1=>?_) (fun hg_1 hk1=>?_) ?_
 ·replace hp_1:=AO hg_1 hp_1
  refine zq2 ?_;obtain ⟨x2,hx2,hp_1⟩:=bS hp_1;refine gWp rfl rfl rfl hg_1 rfl rfl (EY rfl rfl (J4 call60 (KP hx2))) ?_;refine zq2 ?_;exact zgb hk1 hp_1
 ·replace hp_1:=AR hg_1 hp_1
  refine zq5 ?_;exact zgb hk1 hp_1
 refine zq2 ?_
 cases hm;exact Ae zr1
def DI (s1:AutoState) (c1:Int):Option Bool:=
 (DD s1 c1).bind fun x1 =>
 (bif x1 then ((EQ s1).bind fun x2 =>
 some (!x2)) else (some false)).bind fun p1 =>
 some p1
theorem I9 {s1:AutoState} {c1:Int} {r_1:Bool} (hm:DI s1 c1=some r_1):Fn0 Tryz.prog 91 [AutoState.d s1,.ref (.i64 c1),.ref (.v (.func (.func 61) #[] #[]))] (.bool r_1):=by
 unfold DI at hm;refine Ad func91 rfl ntmps91 rfl fun H0 fr w0=>?_;refine zq9 ?_;obtain ⟨x1,hx1,hm⟩:=bS hm;refine zc0 (Zq hx1) ?_;refine zq1 ?_;obtain ⟨p1,hp_1,hm⟩:=bS hm;refine AS [] 5 13 p1 (t:=8) trivial rfl (fun hg_1 hk1=>?_) (fun hg_1 hk1=>?_) ?_
 ·replace hp_1:=AO hg_1 hp_1
  refine zq2 ?_;obtain ⟨x2,hx2,hp_1⟩:=bS hp_1;refine gWp rfl rfl rfl hg_1 rfl rfl (EY rfl rfl (J4 call61 (Ks hx2))) ?_;refine zq2 ?_;exact zgb hk1 hp_1
 ·replace hp_1:=AR hg_1 hp_1
  refine zq5 ?_;exact zgb hk1 hp_1
 refine zq2 ?_
 cases hm;exact Ae zr1
def DG (s1:AutoState) (c1:Int):Option Bool:=
 (DD s1 c1).bind fun x1 =>
 (bif x1 then ((EL s1).bind fun x2 =>
 some (!x2)) else (some false)).bind fun p1 =>
 some p1
theorem Ja {s1:AutoState} {c1:Int} {r_1:Bool} (hm:DG s1 c1=some r_1):Fn0 Tryz.prog 91 [AutoState.d s1,.ref (.i64 c1),.ref (.v (.func (.func 62) #[] #[]))] (.bool r_1):=by
 unfold DG at hm;refine Ad func91 rfl ntmps91 rfl fun H0 fr w0=>?_;refine zq9 ?_;obtain ⟨x1,hx1,hm⟩:=bS hm;refine zc0 (Zq hx1) ?_;refine zq1 ?_;obtain ⟨p1,hp_1,hm⟩:=bS hm;refine AS [] 5 13 p1 (t:=8) trivial rfl (fun hg_1 hk1=>?_) (fun hg_1 hk1=>?_) ?_
 ·replace hp_1:=AO hg_1 hp_1
  refine zq2 ?_;obtain ⟨x2,hx2,hp_1⟩:=bS hp_1;refine gWp rfl rfl rfl hg_1 rfl rfl (EY rfl rfl (J4 call62 (KF hx2))) ?_;refine zq2 ?_;exact zgb hk1 hp_1
 ·replace hp_1:=AR hg_1 hp_1
  refine zq5 ?_;exact zgb hk1 hp_1
 refine zq2 ?_
 cases hm;exact Ae zr1
def Dk (a1:AutoAuto) (v1:Int):Option Bool:=
 (At a1.l (fun y0=>DH y0 v1)).bind fun x1 =>
 some (!x1)
theorem FB {a1:AutoAuto} {v1:Int} {r_1:Bool} (hm:Dk a1 v1=some r_1):Fn0 Tryz.prog 59 [AutoAuto.d a1,.i64 v1,.v (.func (.func 60) #[] #[])] (.bool r_1):=by
 unfold Dk at hm;refine Ad func59 rfl ntmps59 rfl fun H0 fr w0=>?_;refine zq11 ?_;refine Ai rfl rfl rfl (Cw rfl rfl) ?_;obtain ⟨x1,hx1,hm⟩:=bS hm;refine Ai rfl rfl rfl (BE call90 rfl (AW (fun _ _ h=>Hf call91 (Jb h)) hx1)) ?_;refine zq3 ?_
 cases hm;exact Ae zr1
def Dj (a1:AutoAuto) (v1:Int):Option Bool:=
 (At a1.l (fun y0=>DI y0 v1)).bind fun x1 =>
 some (!x1)
theorem G4 {a1:AutoAuto} {v1:Int} {r_1:Bool} (hm:Dj a1 v1=some r_1):Fn0 Tryz.prog 59 [AutoAuto.d a1,.i64 v1,.v (.func (.func 61) #[] #[])] (.bool r_1):=by
 unfold Dj at hm;refine Ad func59 rfl ntmps59 rfl fun H0 fr w0=>?_;refine zq11 ?_;refine Ai rfl rfl rfl (Cw rfl rfl) ?_;obtain ⟨x1,hx1,hm⟩:=bS hm;refine Ai rfl rfl rfl (BE call90 rfl (AW (fun _ _ h=>Hf call91 (I9 h)) hx1)) ?_;refine zq3 ?_
 cases hm;exact Ae zr1
def De (a1:AutoAuto) (v1:Int):Option Bool:=
 (At a1.l (fun y0=>DG y0 v1)).bind fun x1 =>
 some (!x1)
theorem JR {a1:AutoAuto} {v1:Int} {r_1:Bool} (hm:De a1 v1=some r_1):Fn0 Tryz.prog 59 [AutoAuto.d a1,.i64 v1,.v (.func (.func 62) #[] #[])] (.bool r_1):=by
 unfold De at hm;refine Ad func59 rfl ntmps59 rfl fun H0 fr w0=>?_;refine zq11 ?_;refine Ai rfl rfl rfl (Cw rfl rfl) ?_;obtain ⟨x1,hx1,hm⟩:=bS hm;refine Ai rfl rfl rfl (BE call90 rfl (AW (fun _ _ h=>Hf call91 (Ja h)) hx1)) ?_;refine zq3 ?_
 cases hm;exact Ae zr1
def BK (s1:AutoAuto) (l1:(List Int)):Nat->(Int×(List (Int×Bool)))->Option (List (Int×Bool))
 | 0,_=>none
 | n+1,(x2,mm2) =>
  bif (decide (x2<(l1.length:Int))) then
   (idx l1 x2).bind fun x3 =>
   (Dk (⟨s1.l,s1.start⟩:AutoAuto) x3).bind fun x4 =>
   bif x4 then (grd (InR (x2+1)) <|
   BK s1 l1 n ((x2+1),(mset mm2 x3 true))) else ((Dj (⟨s1.l,s1.start⟩:AutoAuto) x3).bind fun x5 =>
   bif x5 then (grd (InR (x2+1)) <|
   BK s1 l1 n ((x2+1),(mset mm2 x3 true))) else ((De (⟨s1.l,s1.start⟩:AutoAuto) x3).bind fun x6 =>
   grd (InR (x2+1)) <|
   BK s1 l1 n ((x2+1),(mset mm2 x3 x6))))
  else
   some mm2
def Ch (s1:AutoAuto) (mm1:(List (Int×Bool))):Nat->(Int×Int×(List AutoState))->Option (Int×(List AutoState))
 | 0,_=>none
 | n+1,(x7,z2,l3) =>
  bif (decide (x7<(s1.l.length:Int))) then
   (idx l3 x7).bind fun x8 =>
   grd (x8.vars.length*8<=140737488355328) <|
   (idx l3 x7).bind fun x9 =>
   grd (InR (x7+1)) <|
   Ch s1 mm1 n ((x7+1),z2,(l3.set (x7).toNat (⟨x9.plus,x9.all,x9.int,x9.bool,x9.str,x9.arrow,x9.rec_,x9.tag,(x8.vars.filter fun x => !(mget mm1 x).getD false),x9.dom,x9.cod,x9.fields,x9.tags⟩:AutoState)))
  else
   some (z2,l3)
def C3 (a1:AutoAuto):Option (AutoAuto×Int):=
 (CX a1).bind fun (x1,s1) =>
 bif (!decide (x1=0)) then
  some ((⟨([]:List AutoState),0⟩:AutoAuto),x1)
 else
  (DW (⟨s1.l,s1.start⟩:AutoAuto)).bind fun l1 =>
  (BK s1 l1 FU (0,([]:List (Int×Bool))):Option (List (Int×Bool))).bind fun mm1 =>
  (Ch s1 mm1 FU (0,s1.start,s1.l):Option (Int×(List AutoState))).bind fun (z1,l2) =>
  some ((⟨l2,z1⟩:AutoAuto),x1)
theorem MJ {a1:AutoAuto} {r_1:AutoAuto} {r_2:Int} (hm:C3 a1=some (r_1,r_2)):Fn0 Tryz.prog 27 [AutoAuto.d a1] (.tup [AutoAuto.d r_1,.i64 r_2]):=by
 unfold C3 at hm;refine Ad func27 rfl ntmps27 rfl fun H0 fr w0=>?_;refine zq3 ?_;refine Ev fun b1=>?_;refine zq5 ?_;obtain ⟨⟨x1,s1⟩,hx1,hm⟩:=bS hm;refine Az rfl rfl rfl (DO (ms₁:=[]) call29 rfl (List.Perm.refl _) (HP hx1)) ?_;rintro _ _ ⟨_,⟨a_r1,m_r1,cap_r1,rfl,rfl⟩,rfl⟩;refine zq3 ?_;refine Ev fun b2=>?_;refine zst 0 ?_;refine Ah (ms':=[box b2 27 [_,_],_,box b1 27 [_,_]]) rfl ?_;refine zq8 ?_;refine zcn hm (fun hc1 hm=>?_) (fun hc1 hm=>?_)
 ·refine zq2 ?_
  refine Ai rfl rfl rfl zb27b ?_;refine zq1 ?_;refine zst 2 ?_;refine Ah (ms':=[box b2 27 [_,_],_,box b1 27 [_,_]]) rfl ?_;refine zq2 ?_
  cases hm;exact Ae zr2
 ·refine zq3 ?_
  refine Az rfl rfl rfl (NL (fk:=kI64) (fv:=D.bool)) ?_;rintro _ _ ⟨b3,rfl,rfl⟩;refine Wl fun b4=>?_;refine zst 0 ?_;refine Ah (ms':=[box b4 105 [_],_,box b2 27 [_,_],_,box b1 27 [_,_]]) rfl ?_;refine Aq (Mu (d := .v (.map (some b3))) 0 6 rfl rfl rfl rfl) ?_;refine zq5 ?_;obtain ⟨l1,hx2,hm⟩:=bS hm;refine Az rfl rfl rfl (MN call55 rfl (IQ hx2) (Bh (F2 (Bh (EU 2 rfl) (Bh BT B2))) B2) NG) ?_;rintro _ _ ⟨a_r2,cap_r2,rfl,rfl⟩;refine Ai rfl rfl rfl (.view (peekE (i:=21) 0 rfl rfl rfl) (EW runUnderlying43 rfl)) ?_;refine zq2 ?_;obtain ⟨o_1,hj1,hm1⟩:=bS hm;refine Af [(2,_),(4,_),(5,_),(6,_)] [(0,_),(2,_),(3,_),(4,_)] (fun (st:(List (Int×Bool))) (hid:Unit)=>match st,hid with | mm1,_=>[]) (fun F (st:(List (Int×Bool))) (hid:Unit)=>match st,hid with | mm1,_=>[(nthF F 0),mp b3 kI64 D.bool mm1,(nthF F 1),(nthF F 2),(nthF F 3)]) (fun st=>st=o_1) ⟨rfl,rfl,rfl,rfl,trivial⟩ ⟨rfl,rfl,rfl,rfl,trivial⟩ ?_ ?_
  ·refine Am ?_
   refine Ag [(2,_),(4,_),(5,_),(6,_),(21,_),(22,_)] [(0,_),(2,_),(3,_),(4,_)] (fun (st:(Int×(List (Int×Bool)))) (hid:Unit)=>match st,hid with | (x2,mm2),_=>[(23,.i64 x2)]) (fun F (st:(Int×(List (Int×Bool)))) (hid:Unit)=>match st,hid with | (x2,mm2),_=>[(nthF F 0),mp b3 kI64 D.bool mm2,(nthF F 1),(nthF F 2),(nthF F 3)]) () hj1 (fun _=>rfl) ⟨rfl,rfl,rfl,rfl,rfl,rfl,trivial⟩ ⟨rfl,rfl,rfl,rfl,trivial⟩ ⟨rfl,trivial⟩ rfl ?_;rintro n ⟨x2,mm2⟩ _ hj1;rw [BK] at hj1;refine Av (L':=[(23,.i64 x2),(2,_),(4,_),(5,_),(6,_),(21,_),(22,_)]) (ms':=[_,mp b3 kI64 D.bool mm2,_,_,_]) rfl rfl ?_;refine zq5 ?_;refine zcn hj1 (fun hc2 hj1=>?_) (fun hc2 hj1=>?_)
   ·refine zq5 ?_
    obtain ⟨x3,hx3,hj1⟩:=bS hj1;refine Ai rfl rfl rfl (.view (peekE (i:=21) 0 rfl rfl rfl) (oIm runUnderlying43 sizeOf3 rfl rfl hx3)) ?_;refine zq3 ?_;obtain ⟨x4,hx4,hj1⟩:=bS hj1
    rcases Dp hj1 with ⟨hg_1,hj1⟩ | ⟨hg_1,hj1⟩
    ·
     skip
     refine zdr 15 ?_;refine zq4 ?_;refine AF rfl rfl rfl (Iy call59 rfl (FB hx4) (Bh (F2 (Bh (EU 3 rfl) (Bh BT B2))) (Bh BT (Bh BT B2))) FW) ?_;refine zq11 ?_;refine Ip rfl rfl (G8 (v:=true) 1 runUnderlying105 (Jm underlying3) rfl rfl rfl rfl) ?_;rintro _ _ rfl;refine zq2 ?_;obtain ⟨hg5,hj1⟩:=Aa hj1;refine zq3 ?_;exact ⟨_,(),hj1,⟨rfl,trivial⟩,⟨rfl,rfl,rfl,rfl,rfl,rfl,trivial⟩,[],rfl⟩
    ·
     skip
     obtain ⟨x5,hx6,hj1⟩:=bS hj1
     rcases Dp hj1 with ⟨hg_2,hj1⟩ | ⟨hg_2,hj1⟩
     ·
      skip
      refine zdr 15 ?_;refine zq4 ?_;refine AF rfl rfl rfl (Iy call59 rfl (FB hx4) (Bh (F2 (Bh (EU 3 rfl) (Bh BT B2))) (Bh BT (Bh BT B2))) FW) ?_;refine zq3 ?_;refine C4 rfl rfl rfl hg_1 rfl rfl (Iy call59 rfl (G4 hx6) (Bh (F2 (Bh (EU 3 rfl) (Bh BT B2))) (Bh BT (Bh BT B2))) FW) ?_;refine zq7 ?_;refine Ip rfl rfl (G8 (v:=true) 1 runUnderlying105 (Jm underlying3) rfl rfl rfl rfl) ?_;rintro _ _ rfl;refine zq2 ?_;obtain ⟨hg7,hj1⟩:=Aa hj1;refine zq3 ?_;exact ⟨_,(),hj1,⟨rfl,trivial⟩,⟨rfl,rfl,rfl,rfl,rfl,rfl,trivial⟩,[],rfl⟩
     ·
      skip
      obtain ⟨x6,hx8,hj1⟩:=bS hj1;refine zdr 15 ?_;refine zq4 ?_;refine AF rfl rfl rfl (Iy call59 rfl (FB hx4) (Bh (F2 (Bh (EU 3 rfl) (Bh BT B2))) (Bh BT (Bh BT B2))) FW) ?_;refine zq3 ?_;refine C4 rfl rfl rfl hg_1 rfl rfl (Iy call59 rfl (G4 hx6) (Bh (F2 (Bh (EU 3 rfl) (Bh BT B2))) (Bh BT (Bh BT B2))) FW) ?_;refine zq4 ?_;refine C4 rfl rfl rfl hg_2 rfl rfl (Iy call59 rfl (JR hx8) (Bh (F2 (Bh (EU 3 rfl) (Bh BT B2))) (Bh BT (Bh BT B2))) FW) ?_;refine zq2 ?_;refine Ip rfl rfl (G8 (v:=x6) 1 runUnderlying105 (Jm underlying3) rfl rfl rfl rfl) ?_;rintro _ _ rfl;refine zq2 ?_;obtain ⟨hg9,hj1⟩:=Aa hj1;refine zq3 ?_;exact ⟨_,(),hj1,⟨rfl,trivial⟩,⟨rfl,rfl,rfl,rfl,rfl,rfl,trivial⟩,[],rfl⟩
   ·refine Au ?_
    exact ⟨_,(),Ac hj1,trivial,⟨rfl,rfl,rfl,rfl,trivial⟩,[],rfl⟩
  ·rintro mm1 _ hst
   subst hst;refine An (L':=[(2,_),(4,_),(5,_),(6,_)]) (ms':=[_,mp b3 kI64 D.bool mm1,_,_,_]) rfl rfl ?_;refine zq5 ?_;refine Ai rfl rfl rfl (Dd 3 runUnderlying25 rfl rfl) ?_;refine zq2 ?_;obtain ⟨o_2,hj2,hm2⟩:=bS hm1;refine Af [(2,_),(4,_),(5,_)] [(0,_),(1,_),(4,_)] (fun (st:(Int×(List AutoState))) (hid:Unit)=>match st,hid with | (z1,l2),_=>[]) (fun F (st:(Int×(List AutoState))) (hid:Unit)=>match st,hid with | (z1,l2),_=>[(nthF F 0),(nthF F 1),box b2 27 [.v (.slice a_r1 m_r1 cap_r1),.i64 z1],arr a_r1 m_r1 cap_r1 59 13 AutoState.d l2,(nthF F 2)]) (fun st=>st=o_2) ⟨rfl,rfl,rfl,trivial⟩ ⟨rfl,rfl,rfl,trivial⟩ ?_ ?_
   ·refine Am ?_
    refine Ag [(2,_),(4,_),(5,_),(6,_),(45,_)] [(0,_),(1,_),(4,_)] (fun (st:(Int×Int×(List AutoState))) (hid:Unit)=>match st,hid with | (x7,z2,l3),_=>[(46,.i64 x7)]) (fun F (st:(Int×Int×(List AutoState))) (hid:Unit)=>match st,hid with | (x7,z2,l3),_=>[(nthF F 0),(nthF F 1),box b2 27 [.v (.slice a_r1 m_r1 cap_r1),.i64 z2],arr a_r1 m_r1 cap_r1 59 13 AutoState.d l3,(nthF F 2)]) () hj2 (fun _=>rfl) ⟨rfl,rfl,rfl,rfl,rfl,trivial⟩ ⟨rfl,rfl,rfl,trivial⟩ ⟨rfl,trivial⟩ rfl ?_;rintro n ⟨x7,z2,l3⟩ ⟨⟩ hj2;rw [Ch] at hj2;refine Av (L':=[(46,.i64 x7),(2,_),(4,_),(5,_),(6,_),(45,_)]) (ms':=[_,_,box b2 27 [.v (.slice a_r1 m_r1 cap_r1),.i64 z2],arr a_r1 m_r1 cap_r1 59 13 AutoState.d l3,_]) rfl rfl ?_;refine zq5 ?_;refine zcn hj2 (fun hc3 hj2=>?_) (fun hc3 hj2=>?_)
    ·refine zq8 ?_
     obtain ⟨x8,hx10,hj2⟩:=bS hj2;obtain ⟨hg11,hj2⟩:=Aa hj2;obtain ⟨x9,hx12,hj2⟩:=bS hj2;refine GI [9,11,14] [0,1,2,10,12,13] [1,12,13] Bf (by decide +kernel) (by decide +kernel) rfl ?_;refine AT rfl rfl rfl rfl rfl rfl (oFb Ox rfl) ?_;refine G0 rfl rfl rfl rfl rfl (oLb 2 isAgg25 rfl rfl rfl rfl) ?_;refine AT rfl rfl rfl rfl rfl rfl (oMv rfl) ?_;refine AT rfl rfl rfl rfl rfl rfl (oFb Ox rfl) ?_;refine AT rfl rfl rfl rfl rfl rfl (oLb 2 isAgg25 rfl rfl rfl rfl) ?_;refine AT rfl rfl rfl rfl rfl rfl (oMv rfl) ?_;refine AT rfl rfl rfl rfl rfl rfl (Aj 3 runUnderlying25 sizeOf59 rfl rfl rfl hx10) ?_;refine AT rfl rfl rfl rfl rfl rfl (B4 (b:=0) 3 Gn rfl rfl (Ar hx10).2) ?_;refine AT rfl rfl rfl rfl rfl rfl (BI (off:=8) 3 isAgg43 rfl rfl (Ar hx10).2 rfl rfl rfl) ?_;refine FC rfl ?_;refine AT rfl rfl rfl rfl rfl rfl (Cw rfl rfl) ?_;refine FC rfl ?_;refine G0 rfl rfl rfl rfl rfl (Cu 3 runUnderlying25 sizeOf59 rfl rfl rfl (by first | exact Dy hx12 | exact Be (Dy hx12) | exact Be (Be (Dy hx12)))) ?_;refine G0 rfl rfl rfl rfl rfl (B4 (b:=0) 3 Gn rfl rfl (by first | exact (Ar hx12).2 | exact Ln hx12 | exact set2_idx hx12)) ?_;refine FC rfl ?_;refine Ia ?_;refine Hb rfl rfl rfl rfl (DO (ms₁:=[]) call64 rfl (List.Perm.refl _) (GN hg11)) ?_;rintro _ _ ⟨_,⟨a_r3,cap_r3,hd_r3,hq_r3⟩,rfl⟩;obtain ⟨m_r3,hm_r3⟩:∃ m,m=x8.vars.length:=⟨_,rfl⟩;rw [<- hm_r3] at hd_r3 hq_r3;subst hd_r3 hq_r3
     clear hm_r3
     refine ⟨⟨⟨⟨trivial,oLb 3 isAgg25 rfl rfl rfl rfl⟩,Cu 4 runUnderlying25 sizeOf59 rfl rfl rfl (by first | exact Dy hx12 | exact Be (Dy hx12) | exact Be (Be (Dy hx12)))⟩,B4 (b:=0) 4 Gn rfl rfl (by first | exact (Ar hx12).2 | exact Ln hx12 | exact set2_idx hx12)⟩,?_⟩;refine Hb rfl rfl rfl rfl (Cr [0,2] call63 rfl rfl (Ap rfl (Ap rfl CI)) Xa (by rintro _ _ ⟨_,_,rfl⟩;rfl)) ?_;rintro _ _ ⟨_,⟨m_r3,rfl,rfl⟩,rfl⟩
     show _/\GDE2 _ _ _ _ _ _ _ _ ([_,_,_,box b2 27 [_,_],_,box b1 27 [_,_]])
     refine ⟨⟨⟨⟨trivial,oLb 3 isAgg25 rfl rfl rfl rfl⟩,Cu 4 runUnderlying25 sizeOf59 rfl rfl rfl (by first | exact Dy hx12 | exact Be (Dy hx12) | exact Be (Be (Dy hx12)))⟩,B4 (b:=0) 4 Gn rfl rfl (by first | exact (Ar hx12).2 | exact Ln hx12 | exact set2_idx hx12)⟩,?_⟩;refine Gd rfl rfl rfl (OpT.thaw 0 rfl rfl (fun hl => .view (peekE (i:=60) 0 rfl rfl hl) (Bs (off:=8) (z':=(⟨x9.plus,x9.all,x9.int,x9.bool,x9.str,x9.arrow,x9.rec_,x9.tag,(x8.vars.filter fun x => !(mget mm1 x).getD false),x9.dom,x9.cod,x9.fields,x9.tags⟩:AutoState)) 4 sizeOf43 rfl rfl (Ar hx12).2 rfl rfl rfl rfl rfl rfl (nB rfl) rfl rfl))) ?_;rintro _ _ rfl;refine ⟨⟨⟨⟨trivial,oLb 3 isAgg25 rfl rfl rfl rfl⟩,Cu 4 runUnderlying25 sizeOf59 rfl rfl rfl (by first | exact Dy hx12 | exact Be (Dy hx12) | exact Be (Be (Dy hx12)))⟩,B4 (b:=0) 4 Gn rfl rfl (by first | exact (Ar hx12).2 | exact Ln hx12 | exact set2_idx hx12)⟩,?_⟩;refine Fj ?_;refine gRg ?_;obtain ⟨hg13,hj2⟩:=Aa hj2;refine zq3 ?_;exact ⟨_,(),hj2,⟨rfl,trivial⟩,⟨rfl,rfl,rfl,rfl,rfl,trivial⟩,[_],rfl⟩
    ·refine Au ?_
     exact ⟨_,(),Ac hj2,trivial,⟨rfl,rfl,rfl,trivial⟩,[],rfl⟩
   ·rintro ⟨z1,l2⟩ ⟨⟩ hst
    subst hst;refine An (L':=[(2,_),(4,_),(5,_)]) (ms':=[_,_,box b2 27 [.v (.slice a_r1 m_r1 cap_r1),.i64 z1],arr a_r1 m_r1 cap_r1 59 13 AutoState.d l2,_]) rfl rfl ?_;refine zq2 ?_;refine I5 3 rfl rfl ?_;rintro rfl;refine zq1 ?_;refine Aq (CU (i:=64) (q:=0) 3 rfl rfl rfl rfl rfl).refines ?_;refine zq1 ?_;refine zst 4 ?_;refine Ah (ms':=[_,_,box b2 27 [_,_],_,box b1 27 [_,_]]) rfl ?_;refine zq2 ?_
    cases hm2;exact Ae zr2
def Cz (a1:AutoAuto) (t1:ATy):Option Bool:=
 (Cp).bind fun x1 =>
 bif (!x1) then
  some false
 else
  (CD a1 10).bind fun x2 =>
  (Hz (⟨t1.l,t1.root⟩:ATy) 6).bind fun x3 =>
  (CB (⟨x2.l,x2.start⟩:AutoAuto)).bind fun (x4,x5) =>
  (C3 (⟨x2.l,x2.start⟩:AutoAuto)).bind fun (x6,x7) =>
  (bif ((!decide (x5=0))||(!decide (x7=0))) then (some true) else ((DL (⟨x3.l,x3.root⟩:ATy)).bind fun x8 =>
  some (!x8))).bind fun p1 =>
  bif p1 then
   some (decide (x5=x7))
  else
   (B7 (⟨x2.l,x2.start⟩:AutoAuto)).bind fun x9 =>
   (BM x9).bind fun x10 =>
   (AD x10 (⟨x3.l,x3.root⟩:ATy)).bind fun x11 =>
   (B7 (⟨x4.l,x4.start⟩:AutoAuto)).bind fun x12 =>
   (BM x12).bind fun x13 =>
   (AD x13 (⟨x3.l,x3.root⟩:ATy)).bind fun x14 =>
   bif (x14 == x11) then ((B7 (⟨x6.l,x6.start⟩:AutoAuto)).bind fun x15 =>
   (BM x15).bind fun x16 =>
   (AD x16 (⟨x3.l,x3.root⟩:ATy)).bind fun x17 =>
   some (x17 == x11)) else (some false)
theorem w_syntagmalaw29_PairSame {a1:AutoAuto} {t1:ATy} {r_1:Bool} (hm:Cz a1 t1=some r_1):Fn0 Tryz.prog 6 [AutoAuto.d a1,ATy.d t1] (.bool r_1):=by
 unfold Cz at hm;refine Ad func6 rfl ntmps6 rfl fun H0 fr w0=>?_;refine zq3 ?_;refine Az rfl rfl rfl (IW rfl rfl rfl) ?_;rintro _ _ ⟨b1,rfl,rfl⟩;refine zq5 ?_;obtain ⟨x1,hx1,hm⟩:=bS hm;refine zc0 (Iq hx1) ?_;refine zq2 ?_;refine zcn hm (fun hc1 hm=>?_) (fun hc1 hm=>?_)
 ·refine zq4 ?_
  cases hm;exact Ae zr1
 ·refine zq4 ?_
  obtain ⟨x2,hx2,hm⟩:=bS hm;refine zc0 (IH hx2) ?_;refine Ev fun b2=>?_;refine zst 0 ?_;refine Ah (ms':=[box b2 27 [_,_],box b1 31 [_,_]]) rfl ?_;refine zq4 ?_;obtain ⟨x3,hx3,hm⟩:=bS hm;refine zc0 (Uv hx3) ?_;refine zst 1 ?_;refine Ah (ms':=[box b2 27 [_,_],box b1 31 [_,_]]) rfl ?_;refine zq4 ?_;obtain ⟨⟨x4,x5⟩,hx4,hm⟩:=bS hm;refine zc0 (Kb hx4) ?_;refine zq3 ?_;refine Ev fun b3=>?_;refine zst 0 ?_;refine Ah (ms':=[box b3 27 [_,_],box b2 27 [_,_],box b1 31 [_,_]]) rfl ?_;refine zq5 ?_;obtain ⟨⟨x6,x7⟩,hx5,hm⟩:=bS hm;refine zc0 (MJ hx5) ?_;refine zq3 ?_;refine Ev fun b4=>?_;refine zst 0 ?_;refine Ah (ms':=[box b4 27 [_,_],box b3 27 [_,_],box b2 27 [_,_],box b1 31 [_,_]]) rfl ?_;refine zq8 ?_
  apply Cy [(3,_),(5,_),(6,_),(7,_),(8,_),(9,_)] 3 32 (t:=29) ⟨rfl,rfl,rfl,rfl,rfl,rfl,trivial⟩ rfl
  ·intro hg_1 hk1
   refine zq3 ?_;exact zgm hk1
  ·intro hg_1 hk1
   refine zq3 ?_;exact zgm hk1
  refine zq1 ?_;obtain ⟨p1,hp_2,hm⟩:=bS hm;refine AS [(3,_),(5,_),(6,_),(7,_),(8,_),(9,_)] 4 37 p1 (t:=33) ⟨rfl,rfl,rfl,rfl,rfl,rfl,trivial⟩ rfl (fun hg_2 hk2=>?_) (fun hg_2 hk2=>?_) ?_
  ·replace hp_2:=AO hg_2 hp_2
   refine zq4 ?_;exact zgb hk2 hp_2
  ·replace hp_2:=AR hg_2 hp_2
   refine zq1 ?_;obtain ⟨x8,hx6,hp_2⟩:=bS hp_2;refine zcw (LJ hx6) ?_;refine zq2 ?_;exact zgb hk2 hp_2
  refine gNl ?_;refine zcn hm (fun hc2 hm=>?_) (fun hc2 hm=>?_)
  ·refine zq7 ?_
   cases hm;exact Ae zr1
  ·refine zq2 ?_
   obtain ⟨x9,hx7,hm⟩:=bS hm;obtain ⟨x10,hx8,hm⟩:=bS hm;obtain ⟨x11,hx9,hm⟩:=bS hm;refine zdr 6 ?_;refine zq1 ?_;refine zcd (D9 hx7) ?_;refine zcd (Di hx8) ?_;refine zq1 ?_;refine zcd (CY hx9) ?_;refine zq4 ?_;obtain ⟨x12,hx10,hm⟩:=bS hm;obtain ⟨x13,hx11,hm⟩:=bS hm;obtain ⟨x14,hx12,hm⟩:=bS hm
   rcases Dp hm with ⟨hg_3,hm⟩ | ⟨hg_3,hm⟩
   ·
    skip
    obtain ⟨x15,hx13,hm⟩:=bS hm;obtain ⟨x16,hx14,hm⟩:=bS hm;obtain ⟨x17,hx15,hm⟩:=bS hm;refine zdr 17 ?_;refine zq1 ?_;refine zcd (D9 hx10) ?_;refine zcd (Di hx11) ?_;refine zq1 ?_;refine zcd (CY hx12) ?_;refine zq4 ?_;refine zce (D9 hx13) ?_;refine zce (Di hx14) ?_;refine zq1 ?_;refine zce (CY hx15) ?_;refine zq6 ?_
    cases hm;exact Ae zr1
   ·
    skip
    refine zdr 17 ?_;refine zq1 ?_;refine zcd (D9 hx10) ?_;refine zcd (Di hx11) ?_;refine zq1 ?_;refine zcd (CY hx12) ?_;refine zq14 ?_
    cases hm;exact Ae zr1
end Go.Proofs.YtcoghblhdjmbfaaGreat
namespace Go.Proofs.YtcoghblhdjmbfaaGreat
open Go.V Tryz
open Classical
def SB (s:AutoState):Prop:=s.vars.length<=40/\s.fields.length<=40/\s.tags.length<=40
def AB (a:AutoAuto):Prop:=a.l.length<=2001/\∀ s∈a.l,SB s
theorem FUv:FU=18446744073709551616:=rfl
def nextP (s:AutoState):List Int:=(if s.arrow=true then [s.dom,s.cod] else [])++s.fields.map (·.to_)++s.tags.map (·.to_)
theorem SI (s:AutoState) (h:SB s):(nextP s).length<=82:=by
 obtain ⟨h1,h2,h3⟩:=h;unfold nextP
 split <;> simp <;> omega
theorem N9 (l:List AutoEdge) (h:l.length<=40):Dq l=some (l.map (·.to_)):=by
 unfold Dq;refine bnd (DK (φ:=fun n i s=>Ei l n (i,s)) (l:=l) (fun x=>x.to_) id 0 ?_ ?_ (by rw [FUv];omega) [] rfl) rfl
 ·intro n i x s hx hi hs
  simp only [Ei];rw [dT (by omega),cT,getI hx,oB,Ab (by simp;omega),Ab (by omega)]
 ·intro n s hs
  simp only [Ei];rw [dF (by omega),cF_];rfl
theorem M5 (ls:List (List Int)) (h:ls.length<=3) (h2:∀ l∈ls,l.length<=40):ML ls=some ls.flatten:=by
 have hm:∀ {i:Nat} {x:List Int},ls[i]? = some x->x.length<=40:=fun hx=>h2 _ (List.mem_of_getElem? hx)
 unfold ML
 have e1:=KR (φ:=fun n i s=>Hk ls n (s,i)) (l:=ls) (fun i s=>0<=s/\s<=40*i) (fun _ s x=>s+(x.length:Int)) id (by
  intro n i x s hx hi hI
  have hm:=hm hx
  simp only [Hk];rw [dT (by omega),cT,getI hx,oB,Ab (by omega),dF (by omega),cF_,Ab (by omega)];exact ⟨rfl,by omega⟩) (by
  intro n s hI
  simp only [Hk];rw [dF (by omega),cF_];rfl) (by rw [FUv];omega) (fun _ t s=>t.foldl (fun s x=>s+(x.length:Int)) s) (fun _ _=>rfl) (fun _ _ _ _=>rfl) 0 (by omega)
 have e2:=KR (φ:=fun n i s=>Hv ls n (i,s)) (l:=ls) (fun i s=>s.length<=40*i) (fun _ s x=>s++x) id (by
  intro n i x s hx hi hI
  have hm:=hm hx
  simp only [Hv];rw [dT (by omega),cT,getI hx,oB,Ab (by omega),Ab (by omega)];exact ⟨rfl,by simp;omega⟩) (by
  intro n s hI
  simp only [Hv];rw [dF (by omega),cF_];rfl) (by rw [FUv];omega) (fun _ t s=>s++t.flatten) (by simp) (by simp) [] (by simp)
 refine bnd e1.1 ?_
 have e3:=e1.2
 rw [id,Ab (by omega),Ab (by omega)];exact bnd e2.1 rfl
theorem VQ (s:AutoState) (h:SB s):F7 s=some (nextP s):=by
 obtain ⟨h1,h2,h3⟩:=h;unfold F7;refine bnd (x:=if s.arrow=true then [s.dom,s.cod] else []) ?_ ?_
 ·cases s.arrow with
  | true=>rw [cT,Ab (by simp)];rfl
  | false=>rfl
 rw [N9 _ h2,oB,N9 _ h3,oB,M5]
 ·simp [nextP]
 ·simp
 ·intro l hl
  simp only [List.mem_cons,List.not_mem_nil,or_false] at hl
  rcases hl with rfl | rfl | rfl
  ·split <;> simp
  ·simpa using h2
  ·simpa using h3
theorem RD (l:List Int) (h:l.length<=100):Gz l=some l:=by
 unfold Gz;rw [Ab (by omega)];rfl
theorem IT (a b:List Int) (h:a.length<=3000):CA a b=some (decide (a=b)):=by
 unfold CA;simp only [Bool.cond_eq_ite,Bool.not_eq_true',decide_eq_false_iff_not]
 by_cases hl:a.length=b.length
 ·rw [if_neg (by omega)]
  refine bnd (II (φ:=C0 a b) (l:=a) false (fun i x=>b[i]? = some x) ?_ ?_ (by rw [FUv];omega)) ?_
  ·intro n i x hx hi
   simp only [C0]
   have hy:b[i]? = some b[i]:=List.getElem?_eq_getElem (by omega)
   rw [dT (by omega),cT,getI hx,oB,getI hy,oB,hy];simp only [Bool.cond_eq_ite,Bool.not_eq_true',decide_eq_false_iff_not]
   constructor
   ·intro h;rw [if_neg (by simpa using (Option.some.inj h).symm),Ab (by omega)]
   ·intro h;rw [if_pos (by intro h2;exact h (by rw [h2]))]
  ·intro n
   simp only [C0];rw [dF (by omega),cF_]
  ·by_cases h3:a=b
   ·subst h3
    rw [if_pos (fun i x h=>h),dT rfl];rfl
   ·rw [if_neg,dF h3];rfl
    intro h4
    refine h3 (List.ext_getElem? fun i=>?_)
    by_cases hi:i<a.length
    ·rw [h4 i a[i] (List.getElem?_eq_getElem hi),List.getElem?_eq_getElem hi]
    ·rw [List.getElem?_eq_none (by omega),List.getElem?_eq_none (by omega)]
 ·rw [if_pos (by omega),dF (fun h=>hl (by rw [h]))]
def Hc (c:UInt8):Bool:=(decide (97<=(c.toNat:Int))&&decide ((c.toNat:Int)<=122))||decide ((c.toNat:Int)=95)
def He (c:UInt8):Bool:=decide (65<=(c.toNat:Int))&&decide ((c.toNat:Int)<=90)
def moreB (c:UInt8):Bool:=(Hc c||He c)||(decide (48<=(c.toNat:Int))&&decide ((c.toNat:Int)<=57))
def wordP:List UInt8->Nat
 | []=>0
 | c::r=>if Hc c=true\/He c=true then 1+(r.takeWhile moreB).length else 0
theorem W9 (c:UInt8) (r:List UInt8):wordP (c::r)=if Hc c=true\/He c=true then 1+(r.takeWhile moreB).length else 0:=rfl
theorem bt (b c:Bool):(bif b then some true else some c:Option Bool)=some (b||c):=by cases b <;> rfl
theorem bf (b c:Bool):(bif b then some c else some false:Option Bool)=some (b&&c):=by cases b <;> rfl
theorem Wh (s:List UInt8) (h:s.length<=1000000000000):F6 s=some (wordP s:Int):=by
 unfold F6
 rcases s with _ | ⟨c,r⟩
 ·rfl
 ·rw [dF (by simp),cF_,Of,oB]
  simp only [Dg,D1,oB,bf];rw [show (((decide (97<=(c.toNat:Int)))&&(decide ((c.toNat:Int)<=122)))||(decide ((c.toNat:Int)=95)))=Hc c from rfl,show ((decide (65<=(c.toNat:Int)))&&(decide ((c.toNat:Int)<=90)))=He c from rfl];rw [W9]
  cases h1:Hc c||He c with
  | false =>
   simp only [Bool.or_eq_false_iff] at h1;rw [h1.1,h1.2];simp
  | true =>
   rw [if_pos (by simpa using h1)]
   have:(!Hc c && !He c)=false:=by cases hs:Hc c <;> cases hg:He c <;> simp_all
   rw [this,cF_];simp only [List.length_cons] at h;refine bnd (Qv (φ:=DN (c::r)) (l:=c::r) moreB (fun i=>(i:Int)) ?_ ?_ FU 1 (by simp) (by rw [FUv];simp;omega)) rfl
   ·intro n i x hx hi
    simp only [List.length_cons] at hi;simp only [DN];rw [dT (by simp only [List.length_cons];omega),cT,getI hx,oB];simp only [G6,Dg,D1,oB,bt]
    constructor
    ·intro hq
     simp only [moreB,Hc,He] at hq;rw [hq,cT,Ab (by omega)]
    ·intro hq
     simp only [moreB,Hc,He] at hq;rw [hq,cF_]
   ·intro n
    simp only [DN];rw [dF (by omega),cF_,oB,cF_]
def keysL:List (List UInt8):=match Ec with | some l=>l | none=>[]
theorem VU:Ec=some keysL:=rfl
theorem Tp (l:List (List UInt8)) (s:List UInt8) (h:l.length<=1000):PU l s=some (decide (s∈l)):=by
 unfold PU Rq
 have e:=Fi (φ:=Hh l s) (l:=l) (fun i=>(i:Int)) (fun x=>decide (s=x)) (by
  intro n i x hx hi
  simp only [Hh];rw [dT (show (i:Int)<l.length by omega),cT,getI hx,oB]
  constructor
  ·intro hq;rw [show decide (s=x)=false from by simpa using hq,cF_,Ab (by omega)]
  ·intro hq;rw [show decide (s=x)=true from by simpa using hq,cT]) (by
  intro n
  simp only [Hh];rw [dF (by omega),cF_]) (by rw [FUv];omega)
 rw [FX e]
 cases hf:l.findIdx? (fun x=>decide (s=x)) with
 | none =>
  rw [List.findIdx?_eq_none_iff] at hf
  show some (decide _)=_
  congr 1
  rw [dF (by omega),dF]
  intro hs
  have:=hf s hs
  simp at this
 | some k =>
  rw [List.findIdx?_eq_some_iff_getElem] at hf;obtain ⟨hk,h1,_⟩:=hf
  show some (decide _)=_
  congr 1
  rw [dT (by omega),dT];simp only [decide_eq_true_eq] at h1;rw [h1];exact List.getElem_mem hk
theorem Sl (l:List (List UInt8)) (s:List UInt8) (h:l.length<=1000):JA s l=some (decide (s∈l)):=by
 unfold JA;refine bnd (J3 (φ:=FT s l) (l:=l) true (fun _ x=>x=s) ?_ ?_ (by rw [FUv];omega)) ?_
 ·intro n i x hx hi
  simp only [FT];rw [dT (by omega),cT,getI hx,oB]
  constructor
  ·intro hq;rw [dF hq,cF_,Ab (by omega)]
  ·intro hq;rw [dT hq,cT]
 ·intro n
  simp only [FT];rw [dF (by omega),cF_]
 ·by_cases hs:s∈l
  ·obtain ⟨i,hi,h2⟩:=List.getElem_of_mem hs
   rw [if_pos ⟨i,s,by rw [<- h2];exact List.getElem?_eq_getElem hi,rfl⟩,dT hs];rfl
  ·rw [if_neg,dF hs];rfl
   rintro ⟨i,x,h1,rfl⟩;exact hs (List.mem_of_getElem? h1)
def IL (s:List UInt8):Bool:=decide (s≠[])&&decide (s.length<=20)&&decide (wordP s=s.length)
def headP (p:UInt8->Bool):List UInt8->Bool
 | []=>false
 | c::_=>p c
def nameP (s:List UInt8):Bool:=IL s&&headP Hc s && !decide (s∈keysL)
def tagP (s:List UInt8):Bool:=IL s&&headP He s
theorem O3 (s:List UInt8):ER s=some (IL s):=by
 unfold ER IL
 by_cases h1:s=[]
 ·subst h1;rfl
 by_cases h2:s.length<=20
 ·rw [dF h1,dT (show (s.length:Int)<=20 by omega),Wh s (by omega)]
  simp only [Bool.not_false,Bool.true_and,cT,oB,dT (show s≠[] from h1),dT h2]
  congr 1
  exact decide_eq_decide.2 (by omega)
 ·rw [dF (show ¬ (s.length:Int)<=20 by omega),dF h2];simp
theorem RK (s:List UInt8):Eu s=some (nameP s):=by
 unfold Eu nameP;rw [O3,oB]
 cases hw:IL s with
 | false=>rfl
 | true =>
  rcases s with _ | ⟨c,r⟩
  ·simp [IL] at hw
  ·rw [cT,Of,oB]
   simp only [Dg,oB,FE,VU,Bool.true_and];rw [Tp _ _ (by decide),oB,oB,bf,oB];rfl
theorem T6 (s:List UInt8):E6 s=some (tagP s):=by
 unfold E6 tagP;rw [O3,oB]
 cases hw:IL s with
 | false=>rfl
 | true =>
  rcases s with _ | ⟨c,r⟩
  ·simp [IL] at hw
  ·rw [cT,Of,oB];rfl
end Go.Proofs.YtcoghblhdjmbfaaGreat
namespace Go.Proofs.YtcoghblhdjmbfaaGreat
open Go.V Tryz
open Classical
def onP (a:AutoAuto) (k:Int) (p:Bool):Bool:=match idx a.l k with | some s=>s.plus == p | none=>false
theorem RE (a:AutoAuto) (k:Int) (p:Bool):CF a k p=some (onP a k p):=by
 unfold CF onP
 by_cases h:0<=k/\k<(a.l.length:Int)
 ·rw [dT h.1,dT h.2]
  have hx:idx a.l k=some a.l[k.toNat]:=by
   unfold idx;rw [if_pos h.1];exact List.getElem?_eq_getElem (by omega)
  rw [hx];rfl
 ·have hx:idx a.l k=none:=by
   unfold idx
   split
   ·exact List.getElem?_eq_none (by omega)
   ·rfl
  rw [hx]
  have:(decide (0<=k)&&decide (k<(a.l.length:Int)))=false:=by
   rw [Bool.and_eq_false_iff,decide_eq_false_iff_not,decide_eq_false_iff_not];omega
  rw [this];rfl
def bareP (s:AutoState):Bool := !(s.all&&((((((s.int||s.bool)||s.str)||s.arrow)||s.rec_)||s.tag)||(decide (0<(s.vars.length:Int))))) && !((!s.arrow)&&((!decide (s.dom=0))||(!decide (s.cod=0))))&&((s.rec_||(decide ((s.fields.length:Int)=0)))&&(s.tag||(decide ((s.tags.length:Int)=0))))
theorem Wd (s:AutoState):Ga s=some (bareP s):=by
 unfold Ga bareP
 cases (s.all&&((((((s.int||s.bool)||s.str)||s.arrow)||s.rec_)||s.tag)||(decide (0<(s.vars.length:Int))))) with
 | true=>rfl
 | false =>
  cases ((!s.arrow)&&((!decide (s.dom=0))||(!decide (s.cod=0)))) <;> rfl
def numP (l:List Int) (i:Nat) (x:Int):Prop:=0<=x/\x<=999/\(0<i->∀ y,l[i - 1]? = some y->y<x)
theorem prev {α:Type} {l:List α} {i:Nat} {x:α} (hx:l[i]? = some x) (h0:0<i):∃ y,l[i - 1]? = some y/\idx l ((i:Int) - 1)=some y:=by
 have:=getLt hx
 refine ⟨l[i - 1],List.getElem?_eq_getElem (by omega),?_⟩;rw [show (i:Int) - 1=((i - 1:Nat):Int) by omega,Lt];exact List.getElem?_eq_getElem (by omega)
theorem Pc (l:List Int) (h:l.length<=40):Eb l=some (decide (∀ i x,l[i]? = some x->numP l i x)):=by
 unfold Eb;refine bnd (II (φ:=Cs l) (l:=l) false (numP l) ?_ ?_ (by rw [FUv];omega)) ?_
 ·intro n i x hx hi
  simp only [Cs];rw [dT (show (i:Int)<l.length by omega),cT,getI hx,oB]
  by_cases h1:x<0\/999<x
  ·rw [show (decide (x<0)||decide (999<x))=true by simpa using h1,cT,oB,cT]
   exact ⟨fun hq=>by obtain ⟨h2,h3,_⟩:=hq;omega,fun _=>rfl⟩
  ·rw [show (decide (x<0)||decide (999<x))=false by simpa using h1,cF_]
   by_cases h0:0<i
   ·obtain ⟨y,hy,hy2⟩:=prev hx h0
    rw [dT (show 0<(i:Int) by omega),cT,Ab (by omega),hy2];simp only [oB]
    by_cases h2:x<=y
    ·rw [dT h2,cT]
     exact ⟨fun hq=>by have:=hq.2.2 h0 y hy;omega,fun _=>rfl⟩
    ·rw [dF h2,cF_,Ab (by omega)]
     refine ⟨fun _=>rfl,fun hq=>absurd ⟨by omega,by omega,fun _ z hz=>?_⟩ hq⟩;rw [hy] at hz
     have:=Option.some.inj hz
     omega
   ·rw [dF (show ¬ 0<(i:Int) by omega),cF_]
    rw [oB,oB,cF_,Ab (by omega)];exact ⟨fun _=>rfl,fun hq=>absurd ⟨by omega,by omega,fun h3=>absurd h3 h0⟩ hq⟩
 ·intro n
  simp only [Cs];rw [dF (by omega),cF_]
 ·by_cases hp:∀ i x,l[i]? = some x->numP l i x
  ·rw [if_pos hp,dT hp];rfl
  ·rw [if_neg hp,dF hp];rfl
def edgeP (isN:List UInt8->Bool) (l:List AutoEdge) (i:Nat) (x:AutoEdge):Prop:=isN x.name=true/\(0<i->∀ y,l[i - 1]? = some y->Op.bytesLess y.name x.name=true)
def HO (isN:List UInt8->Bool) (l:List AutoEdge):Prop:=(∀ i x,l[i]? = some x->edgeP isN l i x)/\l.length<=30
theorem PO (l:List AutoEdge) (f:List UInt8->Option Bool) (isN:List UInt8->Bool) (hf:∀ s,f s=some (isN s)) (h:l.length<=40):EF l f=some (decide (HO isN l)):=by
 unfold EF;refine bnd (II (φ:=CM l f) (l:=l) false (edgeP isN l) ?_ ?_ (by rw [FUv];omega)) ?_
 ·intro n i x hx hi
  simp only [CM];rw [dT (show (i:Int)<l.length by omega),cT,getI hx,oB,hf,oB]
  cases h1:isN x.name with
  | false=>exact ⟨fun hq=>absurd hq.1 (by rw [h1];simp),fun _=>rfl⟩
  | true =>
   rw [Bool.not_true,cF_]
   by_cases h0:0<i
   ·obtain ⟨y,hy,hy2⟩:=prev hx h0
    rw [dT (show 0<(i:Int) by omega),cT,Ab (by omega),hy2];simp only [oB]
    cases h2:Op.bytesLess y.name x.name with
    | false =>
     rw [Bool.not_false,cT];exact ⟨fun hq=>absurd (hq.2 h0 y hy) (by rw [h2];simp),fun _=>rfl⟩
    | true =>
     rw [Bool.not_true,cF_,Ab (by omega)];refine ⟨fun _=>rfl,fun hq=>absurd ⟨h1,fun _ z hz=>?_⟩ hq⟩;rw [hy] at hz;rw [<- Option.some.inj hz];exact h2
   ·rw [dF (show ¬ 0<(i:Int) by omega),cF_,Ab (by omega)]
    exact ⟨fun _=>rfl,fun hq=>absurd ⟨h1,fun h3=>absurd h3 h0⟩ hq⟩
 ·intro n
  simp only [CM];rw [dF (by omega),cF_]
 ·by_cases hp:∀ i x,l[i]? = some x->edgeP isN l i x
  ·rw [if_pos hp]
   show some (decide _)=_
   congr 1
   exact decide_eq_decide.2 ⟨fun h2=>⟨hp,by omega⟩,fun h2=>by have:=h2.2;omega⟩
  ·rw [if_neg hp,dF (p:=HO isN l) (fun h2=>hp h2.1)];rfl
end Go.Proofs.YtcoghblhdjmbfaaGreat
namespace Go.Proofs.YtcoghblhdjmbfaaGreat
open Go.V Tryz
open Classical
theorem P3 {α:Type} (l:List α) (p:α->Bool):(decide ((0:Int)<=(match l.findIdx? p with | some i=>(i:Int) | none => -1)))=l.any p:=by
 cases hf:l.findIdx? p with
 | none =>
  rw [List.findIdx?_eq_none_iff] at hf;rw [dF (by simp)]
  symm
  rw [List.any_eq_false]
  intro x hx
  rw [hf x hx];simp
 | some k =>
  rw [List.findIdx?_eq_some_iff_getElem] at hf;obtain ⟨hk,h1,_⟩:=hf;rw [dT (by simp)]
  symm
  rw [List.any_eq_true];exact ⟨_,List.getElem_mem hk,h1⟩
theorem Sk (l:List Int) (f:Int->Option Bool) (p:Int->Bool) (hf:∀ x,f x=some (p x)) (h:l.length<=100000):JW l f=some (l.any p):=by
 unfold JW PX
 have e:=Fi (φ:=Fm l f) (l:=l) (fun i=>(i:Int)) p (by
  intro n i x hx hi
  simp only [Fm];rw [dT (show (i:Int)<l.length by omega),cT,getI hx,oB,hf,oB]
  constructor
  ·intro hq;rw [hq,cF_,Ab (by omega)]
  ·intro hq;rw [hq,cT]) (by
  intro n
  simp only [Fm];rw [dF (by omega),cF_]) (by rw [FUv];omega)
 rw [FX e,<- P3]
 cases l.findIdx? p <;> rfl
theorem GY (l:List AutoState) (f:AutoState->Option Bool) (p:AutoState->Bool) (hf:∀ x∈l,f x=some (p x)) (h:l.length<=100000):At l f=some (l.any p):=by
 unfold At A7
 have e:=Fi (φ:=AA l f) (l:=l) (fun i=>(i:Int)) p (by
  intro n i x hx hi
  simp only [AA];rw [dT (show (i:Int)<l.length by omega),cT,getI hx,oB,hf x (List.mem_of_getElem? hx),oB]
  constructor
  ·intro hq;rw [hq,cF_,Ab (by omega)]
  ·intro hq;rw [hq,cT]) (by
  intro n
  simp only [AA];rw [dF (by omega),cF_]) (by rw [FUv];omega)
 rw [FX e,<- P3]
 cases l.findIdx? p <;> rfl
def sideP (s:AutoState) (i:Nat):Bool:=bif s.arrow&&decide (i=0) then !s.plus else s.plus
def leadP (a:AutoAuto) (s:AutoState):Prop:=∀ i x,(nextP s)[i]? = some x->onP a x (sideP s i)=true
def FQ (a:AutoAuto) (s:AutoState):Prop:=bareP s=true/\(∀ i x,s.vars[i]? = some x->numP s.vars i x)/\HO nameP s.fields/\HO tagP s.tags/\leadP a s
theorem G2 (a:AutoAuto) (s:AutoState) (h:s.arrow=true):leadP a s↔onP a s.dom (!s.plus)=true/\onP a s.cod s.plus=true/\∀ x∈s.fields.map (·.to_)++s.tags.map (·.to_),onP a x s.plus=true:=by
 unfold leadP nextP sideP;rw [if_pos h,h];simp only [List.cons_append,List.nil_append,Bool.true_and]
 constructor
 ·intro hh
  refine ⟨by simpa using hh 0 s.dom rfl,by simpa using hh 1 s.cod rfl,fun x hx=>?_⟩;obtain ⟨k,hk,hk2⟩:=List.getElem_of_mem hx
  have:=hh (k+2) x (by rw [<- hk2];exact List.getElem?_eq_getElem hk)
  simpa using this
 ·rintro ⟨h1,h2,h3⟩ i x hx
  match i,hx with
  | 0,hx=>rw [<- Option.some.inj hx];simpa using h1
  | 1,hx=>rw [<- Option.some.inj hx];simpa using h2
  | k+2,hx=>simpa using h3 x (List.mem_of_getElem? (by simpa using hx))
theorem O4 (a:AutoAuto) (s:AutoState) (h:s.arrow=false):leadP a s↔∀ x∈s.fields.map (·.to_)++s.tags.map (·.to_),onP a x s.plus=true:=by
 unfold leadP nextP sideP;rw [if_neg (by rw [h];simp),h];simp only [List.nil_append,Bool.false_and,cF_]
 constructor
 ·intro hh x hx
  obtain ⟨k,hk,hk2⟩:=List.getElem_of_mem hx;exact hh k x (by rw [<- hk2];exact List.getElem?_eq_getElem hk)
 ·intro hh i x hx
  exact hh x (List.mem_of_getElem? hx)
theorem RF {α:Type} (l:List α) (p:α->Bool):(!l.any (fun x => !p x))=decide (∀ x∈l,p x=true):=by
 rw [Bool.eq_iff_iff]
 simp
theorem T7 (a:AutoAuto) (s:AutoState) (h:SB s):Dl a s=some (decide (FQ a s)):=by
 obtain ⟨h1,h2,h3⟩:=h;unfold Dl;rw [Wd,oB,Pc _ h1,PO _ _ nameP RK h2,PO _ _ tagP T6 h3]
 by_cases c1:bareP s=true
 rotate_left
 ·rw [Bool.not_eq_true] at c1
  rw [c1,dF (p:=FQ a s) (fun h=>by have:=h.1;rw [c1] at this;simp at this)];rfl
 by_cases c2:∀ i x,s.vars[i]? = some x->numP s.vars i x
 rotate_left
 ·rw [c1,dF c2,dF (p:=FQ a s) (fun h=>c2 h.2.1)];rfl
 by_cases c3:HO nameP s.fields
 rotate_left
 ·rw [c1,dT c2,dF c3,dF (p:=FQ a s) (fun h=>c3 h.2.2.1)];rfl
 by_cases c4:HO tagP s.tags
 rotate_left
 ·rw [c1,dT c2,dT c3,dF c4,dF (p:=FQ a s) (fun h=>c4 h.2.2.2.1)];rfl
 rw [c1,dT c2,dT c3,dT c4];simp only [Bool.not_true,cF_,oB]
 have e:decide (FQ a s)=decide (leadP a s):=decide_eq_decide.2 ⟨fun h=>h.2.2.2.2,fun h=>⟨c1,c2,c3,c4,h⟩⟩
 rw [e]
 have e2:((Dq s.fields).bind fun x7=>(Dq s.tags).bind fun x8=>(ML [x7,x8]).bind fun x9=>(JW x9 (fun y0=>CT y0 a s)).bind fun x10=>some (!x10))=some (decide (∀ x∈s.fields.map (·.to_)++s.tags.map (·.to_),onP a x s.plus=true)):=by
  rw [N9 _ h2,oB,N9 _ h3,oB,M5 _ (by simp) (by
   intro l hl
   simp only [List.mem_cons,List.not_mem_nil,or_false] at hl
   rcases hl with rfl | rfl
   ·simpa using h2
   ·simpa using h3),oB,Sk _ _ (fun x => !onP a x s.plus) (fun x=>by rw [CT,RE];rfl) (by simp;omega),oB,RF]
  simp
 cases ha:s.arrow with
 | false =>
  rw [cF_,oB,cF_,e2]
  congr 1
  exact decide_eq_decide.2 (O4 a s ha).symm
 | true =>
  rw [cT,RE,oB,RE,decide_eq_decide.2 (G2 a s ha)]
  have e3:decide (onP a s.dom (!s.plus)=true/\onP a s.cod s.plus=true/\∀ x∈s.fields.map (·.to_)++s.tags.map (·.to_),onP a x s.plus=true)=(onP a s.dom (!s.plus)&&(onP a s.cod s.plus&&decide (∀ x∈s.fields.map (·.to_)++s.tags.map (·.to_),onP a x s.plus=true))):=by
   rw [Bool.eq_iff_iff,decide_eq_true_eq,Bool.and_eq_true,Bool.and_eq_true,decide_eq_true_eq]
  rw [e3]
  cases onP a s.dom (!s.plus) with
  | false=>rfl
  | true =>
   cases onP a s.cod s.plus with
   | false=>rfl
   | true=>exact e2
noncomputable def mayP (a:AutoAuto):Int:=if a.l.length=0\/2000<a.l.length then 8 else if (∀ s∈a.l,FQ a s)/\onP a a.start true=true then 0 else 4
theorem Ow (a:AutoAuto) (h:AB a):E4 a=some (mayP a):=by
 obtain ⟨h1,h2⟩:=h;unfold E4 mayP
 by_cases c0:a.l.length=0\/2000<a.l.length
 ·rw [if_pos c0,show (decide ((a.l.length:Int)=0)||decide (2000<(a.l.length:Int)))=true by rw [Bool.or_eq_true,decide_eq_true_eq,decide_eq_true_eq];omega,cT]
 rw [if_neg c0,show (decide ((a.l.length:Int)=0)||decide (2000<(a.l.length:Int)))=false by rw [Bool.or_eq_false_iff,decide_eq_false_iff_not,decide_eq_false_iff_not];omega,cF_,RE,oB]
 have e:=GY a.l (fun y0=>Fy y0 a) (fun s => !decide (FQ a s)) (by
  intro s hs
  rw [Fy,T7 _ _ (h2 s hs)];rfl) (by omega)
 rw [e]
 have e2:(a.l.any fun s => !decide (FQ a s)) = !decide (∀ s∈a.l,FQ a s):=by
  rw [<- Bool.not_not (b:=a.l.any _),RF]
  congr 1
  exact decide_eq_decide.2 (by simp)
 rw [e2,oB,bt,oB]
 cases hb:onP a a.start true with
 | false=>rw [if_neg (by simp)];rfl
 | true =>
  by_cases hc:∀ s∈a.l,FQ a s
  ·rw [dT hc,if_pos ⟨hc,rfl⟩];rfl
  ·rw [dF hc,if_neg (fun h=>hc h.1)];rfl
end Go.Proofs.YtcoghblhdjmbfaaGreat
namespace Go.Proofs.YtcoghblhdjmbfaaGreat
open Go.V Tryz
open Classical
theorem Sx (a b:AutoState):a=b↔a.plus=b.plus/\a.all=b.all/\a.int=b.int/\a.bool=b.bool/\a.str=b.str/\a.arrow=b.arrow/\a.rec_=b.rec_/\a.tag=b.tag/\a.vars=b.vars/\a.dom=b.dom/\a.cod=b.cod/\a.fields=b.fields/\a.tags=b.tags:=by
 cases a;cases b;simp
theorem U7 (a b:AutoAuto):a=b↔a.l=b.l/\a.start=b.start:=by cases a;cases b;simp
def st0:AutoState:=⟨false,false,false,false,false,false,false,false,[],0,0,[],[]⟩
def stA (a:AutoAuto) (k:Int):AutoState:=(idx a.l k).getD st0
def nxA (a:AutoAuto) (k:Int):List Int:=nextP (stA a k)
def tm (to:List Int) (k:Int):Int:=(idx to k).getD 0
def edgeM (to:List Int) (x:AutoEdge):AutoEdge:=⟨x.name,tm to x.to_⟩
def C2 (to:List Int) (s:AutoState):AutoState:=⟨s.plus,s.all,s.int,s.bool,s.str,s.arrow,s.rec_,s.tag,s.vars,if s.arrow=true then tm to s.dom else s.dom,if s.arrow=true then tm to s.cod else s.cod,s.fields.map (edgeM to),s.tags.map (edgeM to)⟩
def AH (a:AutoAuto):List Int:=bfs (nxA a) a.l.length 0 [a.start]
def toP (a:AutoAuto):List Int:=FL 0 (AH a) (List.replicate a.l.length 0)
def normP (a:AutoAuto):AutoAuto:=⟨(AH a).map (fun k=>C2 (toP a) (stA a k)),0⟩
structure Led (a:AutoAuto):Prop where
 ab:AB a
 led:∀ k s,idx a.l k=some s->inN a.l.length (nextP s)
 st:0<=a.start/\a.start<(a.l.length:Int)
theorem QP {α:Type} {l:List α} {k:Int} (h0:0<=k) (h:k<(l.length:Int)):∃ x,idx l k=some x/\x∈l:=by
 unfold idx;rw [if_pos h0];exact ⟨l[k.toNat],List.getElem?_eq_getElem (by omega),List.getElem_mem (by omega)⟩
theorem Q1 {α:Type} {l:List α} {k:Int} {x:α} (h:idx l k=some x):0<=k/\k<(l.length:Int):=by
 obtain ⟨h0,h1⟩:=Ar h
 have:=getLt h1
 omega
theorem OE {to:List Int} {k:Int} (h0:0<=k) (h:k<(to.length:Int)):idx to k=some (tm to k):=by
 obtain ⟨x,hx,_⟩:=QP h0 h;rw [tm,hx];rfl
theorem N6 {a:AutoAuto} {k:Int} (h0:0<=k) (h:k<(a.l.length:Int)):idx a.l k=some (stA a k):=by
 obtain ⟨x,hx,_⟩:=QP h0 h;rw [stA,hx];rfl
theorem Lo {a:AutoAuto} {k:Int} (h0:0<=k) (h:k<(a.l.length:Int)):stA a k∈a.l:=by
 obtain ⟨x,hx,h2⟩:=QP h0 h;rw [stA,hx];exact h2
section
variable {a:AutoAuto} (ha:Led a)
include ha
theorem KN (x:Int) (h0:0<=x) (h:x<(a.l.length:Int)):inN a.l.length (nxA a x):=ha.led x _ (N6 h0 h)
theorem Ka:inN a.l.length [a.start]:=by
 intro x hx
 simp only [List.mem_singleton] at hx;subst hx;exact ha.st
theorem Cq:(AH a).Nodup/\inN a.l.length (AH a)/\(∃ e,AH a=[a.start]++e)/\(∀ (j:Nat) x,0<=j->(AH a)[j]? = some x->∀ y∈nxA a x,y∈AH a):=
 Qn (KN ha) a.l.length 0 [a.start] (by omega) (by simp) (by simp) (Ka ha)
theorem Ns:(AH a).length<=2001:=by
 have:=EM _ _ (Cq ha).1 (Cq ha).2.1
 have:=ha.ab.1
 omega
end
theorem WS {a:AutoAuto} (_:Led a):(toP a).length=a.l.length:=by unfold toP;rw [Ms];simp
def HN (N:Nat) (l:List Int) (s:List Bool):Prop:=s.length=N/\∀ k:Nat,k<N->s[k]? = some (decide ((k:Int)∈l))
theorem Py {N:Nat} {l:List Int} {s:List Bool} {x:Int} (h:HN N l s) (h0:0<=x) (h1:x<(N:Int)):idx s x=some (decide (x∈l)):=by
 have:=h.2 x.toNat (by omega)
 unfold idx;rw [if_pos h0,this,show ((x.toNat:Nat):Int)=x by omega]
theorem P0 {N:Nat} {l:List Int} {s:List Bool} {x:Int} (h:HN N l s) (h0:0<=x) (h1:x<(N:Int)):HN N (l++[x]) (s.set x.toNat true):=by
 refine ⟨by simp [h.1],fun k hk=>?_⟩
 by_cases e:x.toNat=k
 ·rw [<- e,List.getElem?_set_self (by rw [h.1];omega)]
  congr 1
  symm
  rw [decide_eq_true_eq]
  simp;omega
 ·rw [List.getElem?_set_ne e,h.2 k hk]
  congr 1
  refine decide_eq_decide.2 ?_;simp only [List.mem_append,List.mem_singleton];exact ⟨fun h => .inl h,fun h=>h.elim id (fun h=>absurd h (by omega))⟩
theorem MT {N:Nat} (hN:N<=3000) (pre w nx:List Int) (seen:List Bool) (hs:HN N (pre++w) seen) (hn:inN N nx) (hd:(pre++w).Nodup) (hr:inN N (pre++w)) (hlen:nx.length<=100) :
  ∃ w' seen',Df nx FU (0,w,seen)=some (w',seen')/\pre++w'=addL (pre++w) nx/\HN N (pre++w') seen':=by
 obtain ⟨⟨w',seen'⟩,h1,h2⟩:=A5 (φ:=fun n i s=>Df nx n (i,s.1,s.2)) (l:=nx) (fun i s=>pre++s.1=addL (pre++w) (nx.take i)/\HN N (pre++s.1) s.2) (fun o=>pre++o.1=addL (pre++w) nx/\HN N (pre++o.1) o.2) (by
  rintro n i x ⟨v,s⟩ hx hi ⟨hI1,hI2⟩
  left
  have hxr:=hn x (List.mem_of_getElem? hx)
  have hnt:inN N (nx.take i):=fun y hy=>hn y (List.mem_of_mem_take hy)
  have hb:(pre++v).length<=N:=by rw [hI1];exact Uc hr hnt hd
  simp only [Df];rw [dT (show (i:Int)<nx.length by omega),cT,getI hx,oB,Py hI2 hxr.1 hxr.2,oB]
  by_cases hm:x∈pre++v
  ·rw [dT hm,Bool.not_true,cF_,Ab (by omega)]
   refine ⟨(v,s),rfl,?_,hI2⟩;rw [KY hx,No,<- hI1,if_pos hm]
  ·rw [dF hm,Bool.not_false,cT,oB,Ab (by simp only [List.length_append] at hb;simp only [List.length_cons,List.length_nil];omega),Ab (by omega)]
   refine ⟨(v++[x],s.set x.toNat true),rfl,?_,?_⟩
   ·rw [KY hx,No,<- hI1,if_neg hm,List.append_assoc]
   ·rw [<- List.append_assoc]
    exact P0 hI2 hxr.1 hxr.2) (by
  rintro n ⟨v,s⟩ ⟨hI1,hI2⟩;simp only [Df];rw [dF (by omega),cF_];rw [List.take_length] at hI1;exact ⟨_,rfl,hI1,hI2⟩) (by rw [FUv];omega) (w,seen) ⟨by simp [Ki],hs⟩
 exact ⟨w',seen',h1,h2⟩
theorem JD {α:Type} {l:List α} {i:Nat} {x:α} (h:l[i]? = some x):l.drop i=x::l.drop (i+1):=by
 obtain ⟨hi,hx⟩:=List.getElem?_eq_some_iff.1 h;rw [List.drop_eq_getElem_cons hi,hx]
theorem MY {a:AutoAuto} (ha:Led a):∀ (m i:Nat) (l:List Int) (n:Nat) (seen:List Bool),a.l.length<=i+m->i<=l.length->l.Nodup->inN a.l.length l->m<n->HN a.l.length l seen->FH a n (l.drop i,seen)=some ((bfs (nxA a) m i l).drop i):=by
 intro m
 induction m with
 | zero =>
  intro i l n seen hN hi hd hr hn hs
  have:=EM _ _ hd hr
  obtain ⟨n,rfl⟩:∃ k,n=k+1:=⟨n - 1,by omega⟩;rw [show l.drop i=[] from List.drop_eq_nil_of_le (by omega),show (bfs (nxA a) 0 i l).drop i=[] from List.drop_eq_nil_of_le (by simp only [bfs];omega)]
  rfl
 | succ m ih =>
  intro i l n seen hN hi hd hr hn hs
  obtain ⟨n,rfl⟩:∃ k,n=k+1:=⟨n - 1,by omega⟩
  cases hx:l[i]? with
  | none =>
   have:=List.getElem?_eq_none_iff.1 hx
   rw [GC hx,show l.drop i=[] from List.drop_eq_nil_of_le (by omega)]
   rfl
  | some x =>
   have hxr:=hr x (List.mem_of_getElem? hx)
   have hil:=getLt hx
   have hin:=KN ha x hxr.1 hxr.2
   have hSB:=ha.ab.2 _ (Lo hxr.1 hxr.2)
   have hl:=SI _ hSB
   have hbig:=ha.ab.1
   obtain ⟨w',seen',h1,h2,h3⟩:=MT (N:=a.l.length) (by omega) (l.take (i+1)) (l.drop (i+1)) (nxA a x) seen (by rw [List.take_append_drop];exact hs) hin (by rw [List.take_append_drop];exact hd) (by rw [List.take_append_drop];exact hr) (by unfold nxA;omega);rw [List.take_append_drop] at h2;obtain ⟨e,he⟩:=Ht (nxA a x) l
   have hw:w'=(addL l (nxA a x)).drop (i+1):=by
    rw [<- h2,List.drop_append_of_le_length (by simp;omega)]
    simp
   rw [HE hx,JD hx];simp only [FH];rw [dT (by simp only [List.length_cons];omega),cT,Of,oB]
   have hsli:sli (x::l.drop (i+1)) 1 ((x::l.drop (i+1)).length:Int)=some (l.drop (i+1)):=by
    have:=IA (l:=x::l.drop (i+1)) (i:=1) rfl (by simp)
    simpa using this
   have ih2:=ih (i+1) (addL l (nxA a x)) n seen' (by omega) (by rw [he];simp;omega) (D5 _ _ hd) (HI hr hin) (by omega) (by rw [<- h2];exact h3)
   rw [hsli,oB,N6 hxr.1 hxr.2,oB,VQ _ hSB,oB,show nextP (stA a x)=nxA a x from rfl,h1,oB,hw]
   simp only
   rw [ih2,oB]
   have hok:=Qn (KN ha) m (i+1) (addL l (nxA a x)) (by omega) (by rw [he];simp;omega) (D5 _ _ hd) (HI hr hin)
   obtain ⟨_,_,⟨e2,h4⟩,_⟩:=hok;rw [<- JD];rw [h4,he,List.append_assoc,List.getElem?_append_left hil,hx]
theorem QU {a:AutoAuto} (ha:Led a):Gp a=some (AH a):=by
 have hb:=ha.ab.1
 have hst:=ha.st
 unfold Gp
 have hs0:HN a.l.length [] (List.replicate a.l.length false):=⟨by simp,fun k hk=>by rw [List.getElem?_replicate,if_pos hk];simp⟩
 rw [Ab (by omega),Ab (by omega),Int.toNat_natCast,Py hs0 hst.1 hst.2,oB]
 have:=MY ha a.l.length 0 [a.start] FU _ (by omega) (by simp) (by simp) (Ka ha) (by rw [FUv];omega) (P0 hs0 hst.1 hst.2)
 simpa [AH] using this
theorem LV {N:Nat}:∀ (xs l3 l4:List Int),inN N xs->l4.length=N->l3.length+xs.length<=100000->Cg xs (l3,l4)=some (l3++xs,FL l3.length xs l4)
 | [],l3,l4,_,_,_=>by simp [Cg,FL]
 | x::xs,l3,l4,hr,hl,hb=>by
  have hx:=hr x (by simp)
  simp only [List.length_cons] at hb;rw [Cg,OE hx.1 (by omega),oB,Ab (by simp only [List.length_cons,List.length_nil];omega),LV xs _ _ (fun y hy=>hr y (by simp [hy])) (by simpa using hl) (by simp;omega)]
  simp [FL]
theorem Pl (l:List AutoEdge) (to:List Int) (h:l.length<=40) (hr:∀ x∈l,0<=x.to_/\x.to_<(to.length:Int)):Dh l to=some (l.map (edgeM to)):=by
 unfold Dh;rw [Ab (by omega)];refine bnd (PZ (φ:=fun n i s=>Db l to n (i,s)) (l:=l) (edgeM to) id ?_ ?_ (by rw [FUv];omega)) rfl
 ·intro n i x s hx hi hl hs
  have hxr:=hr x (List.mem_of_getElem? hx)
  simp only [Db];rw [dT (show (i:Int)<l.length by omega),cT,getI hs,oB,OE hxr.1 hxr.2,oB,oB,Ab (by omega)]
  rfl
 ·intro n s hl
  simp only [Db];rw [dF (by omega),cF_];rfl
theorem MC {s:AutoState} (h:s.arrow=true):s.dom∈nextP s/\s.cod∈nextP s:=by unfold nextP;rw [if_pos h];simp
theorem Uk {s:AutoState} {x:AutoEdge} (h:x∈s.fields):x.to_∈nextP s:=by
 unfold nextP;simp only [List.mem_append,List.mem_map];exact .inl (.inr ⟨x,h,rfl⟩)
theorem To {s:AutoState} {x:AutoEdge} (h:x∈s.tags):x.to_∈nextP s:=by
 unfold nextP;simp only [List.mem_append,List.mem_map];exact .inr ⟨x,h,rfl⟩
theorem Qe {a:AutoAuto} (ha:Led a) (l to:List Int) (hr:inN a.l.length l) (hb:l.length<=100000) (ht:to.length=a.l.length):Cf a l to FU (0,[],0)=some (l.map (fun k=>C2 to (stA a k)),0):=by
 have:=DK (φ:=fun n i s=>Cf a l to n (i,s,0)) (l:=l) (fun k=>C2 to (stA a k)) (fun s=>(s,(0:Int))) 0 (by
  intro n i x s hx hi hs
  have hxr:=hr x (List.mem_of_getElem? hx)
  have hnx:=KN ha x hxr.1 hxr.2
  have hSB:=ha.ab.2 _ (Lo hxr.1 hxr.2)
  obtain ⟨b1,b2,b3⟩:=hSB;simp only [Cf];rw [dT (show (i:Int)<l.length by omega),cT,getI hx,oB,N6 hxr.1 hxr.2,oB]
  generalize hS:stA a x=S at *
  replace hnx:inN a.l.length (nextP S):=by rw [<- hS];exact hnx
  rw [FX (x:=(S.plus,S.all,S.int,S.bool,S.str,S.arrow,S.rec_,S.tag,S.vars,(if S.arrow=true then tm to S.dom else S.dom),(if S.arrow=true then tm to S.cod else S.cod),S.fields,S.tags))]
  rotate_left
  ·cases h:S.arrow with
   | false=>rfl
   | true =>
    have hd:=MC h
    rw [cT,OE (hnx _ hd.1).1 (by rw [ht];exact (hnx _ hd.1).2),oB,OE (hnx _ hd.2).1 (by rw [ht];exact (hnx _ hd.2).2),oB]
    rfl
  simp only
  rw [Ab (by omega),Pl _ _ b2 (fun y hy=>by rw [ht];exact hnx _ (Uk hy)),oB,Pl _ _ b3 (fun y hy=>by rw [ht];exact hnx _ (To hy)),oB,Ab (by simp only [List.length_cons,List.length_nil];omega),Ab (by omega)]
  rfl) (by
  intro n s hs
  simp only [Cf];rw [dF (by omega),cF_]) (by rw [FUv];omega) [] rfl
 exact this
theorem Rf {a:AutoAuto} (ha:Led a):EB a=some (normP a):=by
 have hb:=ha.ab.1
 unfold EB;rw [Ab (by omega),Ab (by omega),QU ha,oB,Int.toNat_natCast]
 have hok:=Cq ha
 have hlen:=Ns ha
 rw [LV (AH a) [] _ hok.2.1 (by simp) (by simp;omega),oB];simp only [List.nil_append,List.length_nil];rw [Qe ha (AH a) (FL 0 (AH a) (List.replicate a.l.length 0)) hok.2.1 (by omega) (WS ha),oB]
 rfl
end Go.Proofs.YtcoghblhdjmbfaaGreat
namespace Go.Proofs.YtcoghblhdjmbfaaGreat
open Go.V Tryz
open Classical
theorem Ux {a:AutoAuto} {k:Int} {p:Bool} (h:onP a k p=true):∃ s,idx a.l k=some s/\s.plus=p:=by
 unfold onP at h
 cases hx:idx a.l k with
 | none=>rw [hx] at h;cases h
 | some s=>rw [hx] at h;exact ⟨s,rfl,by simpa using h⟩
theorem FN {a:AutoAuto} (h:mayP a=0):0<a.l.length/\a.l.length<=2000/\(∀ s∈a.l,FQ a s)/\onP a a.start true=true:=by
 unfold mayP at h
 split at h
 ·omega
 ·split at h
  ·rename_i h1 h2
   exact ⟨by omega,by omega,h2.1,h2.2⟩
  ·omega
theorem UO {a:AutoAuto} (h1:0<a.l.length) (h2:a.l.length<=2000) (h3:∀ s∈a.l,FQ a s) (h4:onP a a.start true=true):mayP a=0:=by
 unfold mayP;rw [if_neg (by omega),if_pos ⟨h3,h4⟩]
theorem Hg {a:AutoAuto} (h:AB a) (hm:mayP a=0):Led a:=by
 obtain ⟨h1,h2,h3,h4⟩:=FN hm;refine ⟨h,?_,?_⟩
 ·intro k s hs x hx
  obtain ⟨i,hi,hxi⟩:=List.getElem_of_mem hx;obtain ⟨_,hs2⟩:=Ar hs
  have:=(h3 s (List.mem_of_getElem? hs2)).2.2.2.2 i x (by rw [<- hxi];exact List.getElem?_eq_getElem hi)
  obtain ⟨s',h5,_⟩:=Ux this;exact Q1 h5
 ·obtain ⟨s',h5,_⟩:=Ux h4
  exact Q1 h5
theorem Sp {to:List Int} {s:AutoState} (h:SB s):SB (C2 to s):=by
 obtain ⟨h1,h2,h3⟩:=h;exact ⟨h1,by simpa [C2] using h2,by simpa [C2] using h3⟩
theorem NS {a:AutoAuto} (ha:Led a):AB (normP a):=by
 refine ⟨by simpa [normP] using Ns ha,?_⟩
 intro s hs
 simp only [normP,List.mem_map] at hs;obtain ⟨k,hk,rfl⟩:=hs
 have:=(Cq ha).2.1 k hk
 exact Sp (ha.ab.2 _ (Lo this.1 this.2))
theorem Vm {a:AutoAuto} (h:AB a) (hm:mayP a=0):F3 a=some (normP a,0):=by
 unfold F3;rw [Ow a h,oB,hm,show (!decide ((0:Int)=0))=false from rfl,cF_,Rf (Hg h hm)]
 rfl
theorem W7 (a:AutoAuto):∃ x,CD a 10=some x/\AB x/\(x.l.length<=10\/2000<x.l.length):=by
 unfold CD
 have key:∀ n (i:Nat) (s:List AutoState),i<=2001->(i<=10\/2000<a.l.length)->2001 - i<n->s.length=i->(∀ t∈s,SB t)->∃ s',Ca a 10 n ((i:Int),s,a.start)=some (s',a.start)/\s'.length<=2001/\(∀ t∈s',SB t)/\(s'.length<=10\/2000<s'.length):=by
  intro n
  induction n with
  | zero=>intro i s _ _ h;omega
  | succ n ih =>
   intro i s hi hi0 hn hs hSB
   simp only [Ca]
   by_cases hc:i<a.l.length/\(i<10\/(2000<a.l.length/\i<=2000))
   rotate_left
   ·rw [show ((decide ((i:Int)<(a.l.length:Int)))&&((decide ((i:Int)<10))||((decide (2000<(a.l.length:Int)))&&(decide ((i:Int)<=2000)))))=false by
     rw [<- Bool.not_eq_true];simp only [Bool.and_eq_true,Bool.or_eq_true,decide_eq_true_eq];omega,cF_]
    exact ⟨s,rfl,by omega,hSB,by omega⟩
   ·rw [show ((decide ((i:Int)<(a.l.length:Int)))&&((decide ((i:Int)<10))||((decide (2000<(a.l.length:Int)))&&(decide ((i:Int)<=2000)))))=true by
     simp only [Bool.and_eq_true,Bool.or_eq_true,decide_eq_true_eq];omega,cT]
    have hx:a.l[i]? = some a.l[i]:=List.getElem?_eq_getElem hc.1
    generalize a.l[i]=x at hx
    have hv:sli x.vars 0 (if 40<(x.vars.length:Int) then 40 else (x.vars.length:Int))=some (x.vars.take (min 40 x.vars.length)):=by
     have:=minL 40 x.vars
     rw [show (if 40<(x.vars.length:Int) then 40 else (x.vars.length:Int))=((min 40 x.vars.length:Nat):Int) from this,GQ (by omega)]
    rw [getI hx,oB,hv,oB,RD _ (by simp;omega),oB]
    generalize hvs:x.vars.take (min 40 x.vars.length)=vs
    have hvl:vs.length<=40:=by rw [<- hvs];simp;omega
    have e1:∀ n (k:Nat) (t:List AutoEdge),k<=40->40 - k<n->t.length=k->∃ t',Cb x n ((k:Int),[],t,x.plus,x.all,x.int,x.bool,x.str,x.arrow,x.rec_,x.tag,vs,x.dom,x.cod)=some ([],t',x.plus,x.all,x.int,x.bool,x.str,x.arrow,x.rec_,x.tag,vs,x.dom,x.cod)/\t'.length<=40:=by
     intro n
     induction n with
     | zero=>intro k t _ h;omega
     | succ n ih =>
      intro k t hk hn ht
      simp only [Cb]
      by_cases hc:k<x.fields.length/\k<40
      rotate_left
      ·rw [show ((decide ((k:Int)<(x.fields.length:Int)))&&(decide ((k:Int)<40)))=false by
        rw [<- Bool.not_eq_true];simp only [Bool.and_eq_true,decide_eq_true_eq];omega,cF_]
       exact ⟨t,rfl,by omega⟩
      ·rw [show ((decide ((k:Int)<(x.fields.length:Int)))&&(decide ((k:Int)<40)))=true by
        simp only [Bool.and_eq_true,decide_eq_true_eq];omega,cT,getI (List.getElem?_eq_getElem hc.1),oB,oB,Ab (by simp only [List.length_cons,List.length_nil];omega),Ab (by omega)]
       exact ih (k+1) _ (by omega) (by omega) (by simp;omega)
    obtain ⟨fs,e1,hfs⟩:=e1 FU 0 [] (by omega) (by rw [FUv];omega) rfl;rw [show ((0:Nat):Int)=0 from rfl] at e1;rw [FX e1]
    simp only
    have e2:∀ n (k:Nat) (t:List AutoEdge),k<=40->40 - k<n->t.length=k->∃ t',Cc x n ((k:Int),t,fs,x.plus,x.all,x.int,x.bool,x.str,x.arrow,x.rec_,x.tag,vs,x.dom,x.cod)=some (t',fs,x.plus,x.all,x.int,x.bool,x.str,x.arrow,x.rec_,x.tag,vs,x.dom,x.cod)/\t'.length<=40:=by
     intro n
     induction n with
     | zero=>intro k t _ h;omega
     | succ n ih =>
      intro k t hk hn ht
      simp only [Cc]
      by_cases hc:k<x.tags.length/\k<40
      rotate_left
      ·rw [show ((decide ((k:Int)<(x.tags.length:Int)))&&(decide ((k:Int)<40)))=false by
        rw [<- Bool.not_eq_true];simp only [Bool.and_eq_true,decide_eq_true_eq];omega,cF_]
       exact ⟨t,rfl,by omega⟩
      ·rw [show ((decide ((k:Int)<(x.tags.length:Int)))&&(decide ((k:Int)<40)))=true by
        simp only [Bool.and_eq_true,decide_eq_true_eq];omega,cT,getI (List.getElem?_eq_getElem hc.1),oB,oB,Ab (by simp only [List.length_cons,List.length_nil];omega),Ab (by omega)]
       exact ih (k+1) _ (by omega) (by omega) (by simp;omega)
    obtain ⟨ts,e2,hts⟩:=e2 FU 0 [] (by omega) (by rw [FUv];omega) rfl;rw [show ((0:Nat):Int)=0 from rfl] at e2;rw [FX e2]
    simp only
    rw [Ab (by simp only [List.length_cons,List.length_nil];omega),Ab (by omega)];refine ih (i+1) _ (by omega) (by omega) (by omega) (by simp;omega) ?_
    intro t ht
    simp only [List.mem_append,List.mem_singleton] at ht
    rcases ht with ht | rfl
    ·exact hSB t ht
    ·exact ⟨hvl,hfs,hts⟩
 obtain ⟨s',h1,h2,h3,h4⟩:=key FU 0 [] (by omega) (by omega) (by rw [FUv];omega) rfl (by simp);rw [show ((0:Nat):Int)=0 from rfl] at h1;rw [FX h1];exact ⟨_,rfl,⟨h2,h3⟩,h4⟩
theorem Ue (a:AutoAuto) (h:AB a):B7 a=some a:=by
 obtain ⟨h,hs⟩:=h;unfold B7
 have e:=DK (φ:=fun n i s=>BY a n (i,s,a.start)) (l:=a.l) id (fun s=>(s,a.start)) 0 (by
  intro n i x s hx hi hlen
  obtain ⟨b1,b2,b3⟩:=hs x (List.mem_of_getElem? hx);simp only [BY];rw [dT (show (i:Int)<a.l.length by omega),cT,getI hx,oB,RD _ (by omega),oB]
  have e1:=DK (φ:=fun n i t=>B0 x n (i,[],t,x.plus,x.all,x.int,x.bool,x.str,x.arrow,x.rec_,x.tag,x.vars,x.dom,x.cod)) (l:=x.fields) id (fun t=>(([]:List AutoEdge),t,x.plus,x.all,x.int,x.bool,x.str,x.arrow,x.rec_,x.tag,x.vars,x.dom,x.cod)) 0 (by
   intro n i y t hy hi ht
   simp only [B0];rw [dT (show (i:Int)<x.fields.length by omega),cT,getI hy,oB,oB,Ab (by simp only [List.length_cons,List.length_nil];omega),Ab (by omega)]
   rfl) (by
   intro n t ht
   simp only [B0];rw [dF (by omega),cF_]) (by rw [FUv];omega) [] rfl
  rw [FX e1];simp only [List.nil_append,List.map_id]
  have e2:=DK (φ:=fun n i t=>BW x n (i,t,x.fields,x.plus,x.all,x.int,x.bool,x.str,x.arrow,x.rec_,x.tag,x.vars,x.dom,x.cod)) (l:=x.tags) id (fun t=>(t,x.fields,x.plus,x.all,x.int,x.bool,x.str,x.arrow,x.rec_,x.tag,x.vars,x.dom,x.cod)) 0 (by
   intro n i y t hy hi ht
   simp only [BW];rw [dT (show (i:Int)<x.tags.length by omega),cT,getI hy,oB,oB,Ab (by simp only [List.length_cons,List.length_nil];omega),Ab (by omega)]
   rfl) (by
   intro n t ht
   simp only [BW];rw [dF (by omega),cF_]) (by rw [FUv];omega) [] rfl
  rw [FX e2];simp only [List.nil_append,List.map_id];rw [Ab (by simp only [List.length_cons,List.length_nil];omega),Ab (by omega)]
  rfl) (by
  intro n s hlen
  simp only [BY];rw [dF (by omega),cF_]) (by rw [FUv];omega) [] rfl
 rw [FX e]
 simp
end Go.Proofs.YtcoghblhdjmbfaaGreat
namespace Go.Proofs.YtcoghblhdjmbfaaGreat
open Go.V Tryz
open Classical
theorem Th {nx:Int->List Int} {N:Nat} (hnx:∀ x,0<=x->x<(N:Int)->inN N (nx x)):∀ (m m' i:Nat) (l:List Int),N<=i+m->m<=m'->i<=l.length->l.Nodup->inN N l->bfs nx m' i l=bfs nx m i l:=by
 intro m
 induction m with
 | zero =>
  intro m' i l hN _ hi hd hr
  have:=EM _ _ hd hr
  exact GC (List.getElem?_eq_none (by omega))
 | succ m ih =>
  intro m' i l hN hm hi hd hr
  cases hx:l[i]? with
  | none=>rw [GC hx,GC hx]
  | some x =>
   have hxr:=hr x (List.mem_of_getElem? hx)
   have hil:=getLt hx
   obtain ⟨e,he⟩:=Ht (nx x) l;obtain ⟨m',rfl⟩:∃ k,m'=k+1:=⟨m' - 1,by omega⟩;rw [HE hx,HE hx];exact ih m' (i+1) _ (by omega) (by omega) (by rw [he];simp;omega) (D5 _ _ hd) (HI hr (hnx x hxr.1 hxr.2))
theorem JP (to:List Int) (s:AutoState):nextP (C2 to s)=(nextP s).map (tm to):=by
 unfold nextP C2
 cases h:s.arrow <;> simp [Function.comp_def,edgeM]
theorem OR {a:AutoAuto} (ha:Led a) {j:Nat} {x:Int} (h:(AH a)[j]? = some x):tm (toP a) x=(j:Int):=by
 obtain ⟨h1,h2,_⟩:=Cq ha
 have hx:=h2 x (List.mem_of_getElem? h)
 have:=L9 (AH a) 0 (List.replicate a.l.length 0) h1 h2 (by simp) j x h
 unfold tm idx;rw [if_pos hx.1,show toP a=FL 0 (AH a) (List.replicate a.l.length 0) from rfl,this]
 simp
theorem Lu {a:AutoAuto} (ha:Led a) {j:Nat} {x:Int} (h:(AH a)[j]? = some x):idx (normP a).l (j:Int)=some (C2 (toP a) (stA a x)):=by
 rw [Lt];simp only [normP];rw [List.getElem?_map,h];rfl
theorem Hp {a:AutoAuto} (ha:Led a) {x:Int} (h:x∈AH a):∃ j:Nat,(AH a)[j]? = some x/\tm (toP a) x=(j:Int)/\j<(AH a).length:=by
 obtain ⟨j,hj,hj2⟩:=List.getElem_of_mem h
 have h2:(AH a)[j]? = some x:=by rw [<- hj2];exact List.getElem?_eq_getElem hj
 exact ⟨j,h2,OR ha h2,hj⟩
theorem OA {a:AutoAuto} (ha:Led a) {x:Int} (h:x∈AH a):stA (normP a) (tm (toP a) x)=C2 (toP a) (stA a x):=by
 obtain ⟨j,h1,h2,_⟩:=Hp ha h;unfold stA;rw [h2,Lu ha h1];rfl
theorem We {a:AutoAuto} (ha:Led a) {x:Int} (h:x∈AH a):nxA (normP a) (tm (toP a) x)=(nxA a x).map (tm (toP a)):=by
 unfold nxA;rw [OA ha h,JP]
theorem Kj {a:AutoAuto} (ha:Led a) {x y:Int} (h:x∈AH a) (hy:y∈nxA a x):y∈AH a:=by
 obtain ⟨j,h1,_⟩:=Hp ha h;exact (Cq ha).2.2.2 j x (by omega) h1 y hy
theorem WY {a:AutoAuto} (ha:Led a) {x y:Int} (hx:x∈AH a) (hy:y∈AH a) (h:tm (toP a) x=tm (toP a) y):x=y:=by
 obtain ⟨j,h1,h2,_⟩:=Hp ha hx;obtain ⟨k,h3,h4,_⟩:=Hp ha hy
 have:j=k:=by omega
 subst this;rw [h1] at h3;exact Option.some.inj h3
theorem RW {a:AutoAuto} (ha:Led a) {x:Int} (h:x∈AH a):0<=tm (toP a) x/\tm (toP a) x<((AH a).length:Int):=by
 obtain ⟨j,h1,h2,h3⟩:=Hp ha h
 omega
theorem SY {a:AutoAuto} (ha:Led a):(AH a).map (tm (toP a))=(List.range (AH a).length).map (fun k:Nat=>(k:Int)):=by
 refine List.ext_getElem? fun j=>?_;rw [List.getElem?_map,List.getElem?_map]
 cases h:(AH a)[j]? with
 | none =>
  rw [List.getElem?_eq_none (by simpa using List.getElem?_eq_none_iff.1 h)];rfl
 | some x =>
  have:=getLt h
  rw [List.getElem?_range this];simp only [Option.map_some,OR ha h]
theorem F4 {a:AutoAuto} (ha:Led a):(normP a).l.length=(AH a).length:=by simp [normP]
theorem KD {a:AutoAuto} (ha:Led a):a.start∈AH a:=by
 obtain ⟨e,he⟩:=(Cq ha).2.2.1;rw [he];simp
theorem Pb {a:AutoAuto} (ha:Led a):tm (toP a) a.start=0:=by
 obtain ⟨e,he⟩:=(Cq ha).2.2.1
 have:(AH a)[0]? = some a.start:=by rw [he];rfl
 simpa using OR ha this
theorem K0 {a:AutoAuto} (ha:Led a):0<(AH a).length:=List.length_pos_of_mem (KD ha)
theorem LM {a:AutoAuto} (ha:Led a):Led (normP a):=by
 refine ⟨NS ha,?_,?_⟩
 ·intro k s hs y hy
  obtain ⟨h0,h1⟩:=Q1 hs;rw [F4 ha] at h1 ⊢
  have hx:(AH a)[k.toNat]? = some (AH a)[k.toNat]:=List.getElem?_eq_getElem (by omega)
  have:=Lu ha hx
  rw [show ((k.toNat:Nat):Int)=k by omega,hs] at this
  cases this
  rw [JP,List.mem_map] at hy;obtain ⟨z,hz,rfl⟩:=hy;exact RW ha (Kj ha (List.mem_of_getElem? hx) hz)
 ·rw [F4 ha]
  have:=K0 ha
  show 0<=(0:Int)/\(0:Int)<_
  omega
theorem MD {a:AutoAuto} (ha:Led a):AH (normP a)=(List.range (AH a).length).map (fun k:Nat=>(k:Int)):=by
 have hn:=LM ha
 have hpos:=K0 ha
 have hle:=EM _ _ (Cq ha).1 (Cq ha).2.1
 rw [<- SY ha]
 have e1:AH (normP a)=bfs (nxA (normP a)) a.l.length 0 ([a.start].map (tm (toP a))):=by
  rw [List.map_cons,List.map_nil,Pb ha];unfold AH;rw [show (normP a).start=0 from rfl]
  symm
  exact Th (KN hn) _ _ 0 [0] (by omega) (by rw [F4 ha];exact hle) (by simp) (by simp) (Ka hn)
 rw [e1];refine Wj (tm (toP a)) (KN ha) a.l.length 0 [a.start] (by omega) (by simp) (by simp) (Ka ha) ?_ ?_
 ·intro x hx;exact We ha hx
 ·intro x y hx hy h;exact WY ha hx hy h
theorem VA {a:AutoAuto} (ha:Led a) {k:Int} (h0:0<=k) (h1:k<((AH a).length:Int)):tm (toP (normP a)) k=k:=by
 have:(AH (normP a))[k.toNat]? = some k:=by
  rw [MD ha,List.getElem?_map,List.getElem?_range (by omega)]
  simp;omega
 rw [OR (LM ha) this];omega
theorem Qc {l:List AutoEdge} {f:AutoEdge->AutoEdge} (h:∀ x∈l,f x=x):l.map f=l:=by
 rw [List.map_congr_left (g:=id) h,List.map_id]
theorem Sn {a:AutoAuto} (ha:Led a):normP (normP a)=normP a:=by
 have hn:=LM ha
 rw [U7];refine ⟨?_,rfl⟩
 show (AH (normP a)).map _=_
 refine List.ext_getElem? fun j=>?_;rw [List.getElem?_map,MD ha,List.getElem?_map]
 by_cases hj:j<(AH a).length
 ·rw [List.getElem?_range hj]
  have hx:(AH a)[j]? = some (AH a)[j]:=List.getElem?_eq_getElem hj
  have e:=Lu ha hx
  have e2:stA (normP a) (j:Int)=C2 (toP a) (stA a (AH a)[j]):=by unfold stA;rw [e];rfl
  rw [Lt] at e;rw [e];simp only [Option.map_some];rw [e2]
  congr 1
  have hS:∀ y∈nextP (C2 (toP a) (stA a (AH a)[j])),tm (toP (normP a)) y=y:=by
   intro y hy
   rw [JP,List.mem_map] at hy;obtain ⟨z,hz,rfl⟩:=hy
   have:=RW ha (Kj ha (List.mem_of_getElem? hx) hz)
   exact VA ha this.1 this.2
  generalize C2 (toP a) (stA a (AH a)[j])=S at hS
  rw [Sx];refine ⟨rfl,rfl,rfl,rfl,rfl,rfl,rfl,rfl,rfl,?_,?_,?_,?_⟩
  ·simp only [C2]
   split
   ·rename_i h;exact hS _ (MC h).1
   ·rfl
  ·simp only [C2]
   split
   ·rename_i h;exact hS _ (MC h).2
   ·rfl
  ·simp only [C2]
   refine Qc fun x hx=>?_;unfold edgeM;rw [hS _ (Uk hx)]
  ·simp only [C2]
   refine Qc fun x hx=>?_;unfold edgeM;rw [hS _ (To hx)]
 ·rw [List.getElem?_eq_none (by simp;omega),List.getElem?_eq_none (by rw [F4 ha];omega)];rfl
theorem W5 (to:List Int) (s:AutoState):bareP (C2 to s)=bareP s:=by
 unfold bareP C2
 cases h:s.arrow <;> simp
theorem RZ (to:List Int) (isN:List UInt8->Bool) (l:List AutoEdge) (h:HO isN l):HO isN (l.map (edgeM to)):=by
 obtain ⟨h1,h2⟩:=h;refine ⟨?_,by simpa using h2⟩
 intro i x hx
 rw [List.getElem?_map] at hx
 cases h3:l[i]? with
 | none=>rw [h3] at hx;cases hx
 | some y =>
  rw [h3] at hx
  cases hx
  obtain ⟨h4,h5⟩:=h1 i y h3;refine ⟨h4,fun h0 z hz=>?_⟩;rw [List.getElem?_map] at hz
  cases h6:l[i - 1]? with
  | none=>rw [h6] at hz;cases hz
  | some w =>
   rw [h6] at hz
   cases hz
   exact h5 h0 w h6
theorem RT {a:AutoAuto} (ha:Led a) {x:Int} {p:Bool} (hx:x∈AH a) (h:onP a x p=true):onP (normP a) (tm (toP a) x) p=true:=by
 obtain ⟨s,h1,h2⟩:=Ux h;obtain ⟨j,h3,h4,_⟩:=Hp ha hx
 have e:stA a x=s:=by unfold stA;rw [h1];rfl
 unfold onP;rw [h4,Lu ha h3,e]
 simp [C2,h2]
theorem TU {a:AutoAuto} (hab:AB a) (hm:mayP a=0):mayP (normP a)=0:=by
 have ha:=Hg hab hm
 obtain ⟨h1,h2,h3,h4⟩:=FN hm
 have hle:=EM _ _ (Cq ha).1 (Cq ha).2.1
 have hl:=F4 ha
 refine UO (by have:=K0 ha;omega) (by omega) ?_ ?_
 ·intro s hs
  simp only [normP,List.mem_map] at hs;obtain ⟨x,hx,rfl⟩:=hs
  have hxr:=(Cq ha).2.1 x hx
  obtain ⟨r1,r2,r3,r4,r5⟩:=h3 _ (Lo hxr.1 hxr.2);refine ⟨by rw [W5];exact r1,r2,RZ _ _ _ r3,RZ _ _ _ r4,?_⟩
  intro i y hy
  rw [JP,List.getElem?_map] at hy
  cases h5:(nextP (stA a x))[i]? with
  | none=>rw [h5] at hy;cases hy
  | some z =>
   rw [h5] at hy
   cases hy
   exact RT ha (Kj ha hx (List.mem_of_getElem? h5)) (r5 i z h5)
 ·have:=RT ha (KD ha) h4
  rw [Pb ha] at this;exact this
end Go.Proofs.YtcoghblhdjmbfaaGreat
namespace Go.Proofs.YtcoghblhdjmbfaaGreat
open Go.V Tryz
open Classical
theorem Jv:∀ (a b:List Int),a.Pairwise (· < ·)->b.Pairwise (· < ·)->(∀ x,x∈a↔x∈b)->a=b
 | [],[],_,_,_=>rfl
 | [],y::b,_,_,h=>by have:=(h y).2 (by simp);simp at this
 | x::a,[],_,_,h=>by have:=(h x).1 (by simp);simp at this
 | x::a,y::b,ha,hb,h=>by
  rw [List.pairwise_cons] at ha hb
  have hxy:x=y:=by
   have h1:=(h x).1 (by simp)
   have h2:=(h y).2 (by simp)
   rcases List.mem_cons.1 h1 with h1 | h1
   ·exact h1
   ·rcases List.mem_cons.1 h2 with h2 | h2
    ·exact h2.symm
    ·have:=hb.1 x h1;have:=ha.1 y h2;omega
  subst hxy
  congr 1
  refine Jv a b ha.2 hb.2 fun z=>?_
  have h1:=h z
  simp only [List.mem_cons] at h1
  constructor
  ·intro hz
   rcases h1.1 (.inr hz) with e | e
   ·have:=ha.1 z hz;omega
   ·exact e
  ·intro hz
   rcases h1.2 (.inr hz) with e | e
   ·have:=hb.1 z hz;omega
   ·exact e
theorem JV {d:Array Int} (hd:∀ i j,i<j->j<d.size->d[i]! <= d[j]!):∀ m,m<=d.size->(Lib.compactUpTo d m).Pairwise (· < ·)/\(∀ x,x∈Lib.compactUpTo d m↔∃ j,j<m/\d[j]! = x)/\∀ x∈Lib.compactUpTo d m,0<m/\x<=d[m - 1]!
 | 0,_=>by simp [Lib.compactUpTo]
 | m+1,hm=>by
  obtain ⟨h1,h2,h3⟩:=JV hd m (by omega);rw [Lib.compactUpTo_succ]
  by_cases hk:Lib.keeps d m=true
  ·rw [if_pos hk]
   have hk2:m=0\/d[m]! ≠ d[m - 1]! := by simpa [Lib.keeps] using hk
   have hlt:∀ x∈Lib.compactUpTo d m,x<d[m]! := by
    intro x hx
    obtain ⟨h4,h5⟩:=h3 x hx
    have h6:=hd (m - 1) m (by omega) (by omega)
    rcases hk2 with h7 | h7
    ·omega
    ·omega
   refine ⟨?_,fun x=>?_,fun x hx=>⟨by omega,?_⟩⟩
   ·rw [List.pairwise_append]
    exact ⟨h1,by simp,fun a ha b hb=>by simp at hb;subst hb;exact hlt a ha⟩
   ·rw [List.mem_append,h2 x]
    simp only [List.mem_cons,List.not_mem_nil,or_false]
    constructor
    ·rintro (⟨j,hj,e⟩ | e)
     ·exact ⟨j,by omega,e⟩
     ·exact ⟨m,by omega,e.symm⟩
    ·rintro ⟨j,hj,e⟩
     by_cases hjm:j=m
     ·subst hjm;exact .inr e.symm
     ·exact .inl ⟨j,by omega,e⟩
   ·rw [Nat.add_sub_cancel]
    rcases List.mem_append.1 hx with hx | hx
    ·exact Int.le_of_lt (hlt x hx)
    ·simp at hx;omega
  ·have hk':Lib.keeps d m=false:=by simpa using hk
   rw [hk']
   have hk2:0<m/\d[m]! = d[m - 1]! := by
    have:¬ (m=0\/d[m]! ≠ d[m - 1]!):=by simpa [Lib.keeps] using hk'
    omega
   simp only [Bool.false_eq_true,if_false,List.append_nil];refine ⟨h1,fun x=>?_,fun x hx=>⟨by omega,?_⟩⟩
   ·rw [h2 x]
    constructor
    ·rintro ⟨j,hj,e⟩;exact ⟨j,by omega,e⟩
    ·rintro ⟨j,hj,e⟩
     by_cases hjm:j=m
     ·subst hjm;exact ⟨j - 1,by omega,by rw [<- hk2.2];exact e⟩
     ·exact ⟨j,by omega,e⟩
   ·rw [Nat.add_sub_cancel]
    have:=(h3 x hx).2
    omega
theorem GJ {l:List Int} (h:l.Pairwise (· <= ·)):(Lib.compact l).Pairwise (· < ·)/\∀ x,x∈Lib.compact l↔x∈l:=by
 have hget:∀ j,j<l.length->l.toArray[j]! = l[j]! := fun j _=>by simp
 obtain ⟨h1,h2,_⟩:=JV (d:=l.toArray) (fun i j hij hj=>by
  simp at hj
  have:=List.pairwise_iff_getElem.1 h i j (by omega) hj hij
  simpa [hj,show i<l.length by omega] using this) l.length (by simp)
 refine ⟨h1,fun x=>(h2 x).trans ?_⟩
 constructor
 ·rintro ⟨j,hj,e⟩
  rw [<- e];simp [hj]
 ·intro hx
  obtain ⟨j,hj,e⟩:=List.getElem_of_mem hx;exact ⟨j,hj,by simp [hj,e]⟩
theorem Gh (l:List Int):(List.mergeSort l fun x y=>decide (x<=y)).Pairwise (· <= ·):=by
 have:=List.pairwise_mergeSort (le:=fun x y:Int=>decide (x<=y)) (fun a b c h1 h2=>by simp at *;omega) (fun a b=>by simp;omega) l
 exact this.imp (fun h=>by simpa using h)
noncomputable def setC (l:List Int):List Int:=Lib.compact (l.mergeSort fun x y=>decide (x<=y))
theorem E9 (l:List Int):(setC l).Pairwise (· < ·)/\∀ x,x∈setC l↔x∈l:=by
 obtain ⟨h1,h2⟩:=GJ (Gh l);exact ⟨h1,fun x=>(h2 x).trans List.mem_mergeSort⟩
theorem PN (l:List Int):(setC l).length<=l.length:=by
 have:=ME (l.mergeSort fun x y=>decide (x<=y))
 rw [List.length_mergeSort] at this;exact this
theorem FA {l s:List Int} (h:s.Pairwise (· < ·)) (hm:∀ x,x∈s↔x∈l):s=setC l:=by
 obtain ⟨h1,h2⟩:=E9 l;exact Jv _ _ h h1 fun x=>(hm x).trans (h2 x).symm
theorem TH {l l':List Int} (h:∀ x,x∈l↔x∈l'):setC l=setC l':=by
 obtain ⟨h1,h2⟩:=E9 l;exact FA h1 fun x=>(h2 x).trans (h x)
noncomputable def occ (l:List AutoState) (p:Bool) (v:Int):Bool:=decide (∃ s∈l,s.plus=p/\v∈s.vars)
noncomputable def bits (l:List AutoState) (v:Int):Int:=(if occ l true v=true then 1 else 0)+(if occ l false v=true then 2 else 0)
theorem occ_iff {l:List AutoState} {p:Bool} {v:Int}:occ l p v=true↔∃ s∈l,s.plus=p/\v∈s.vars:=by unfold occ;rw [decide_eq_true_eq]
theorem Sq {l:List AutoState} {v:Int}:bits l v=0↔¬ ∃ s∈l,v∈s.vars:=by
 unfold bits
 constructor
 ·intro h
  rintro ⟨s,hs,hv⟩
  cases hp:s.plus with
  | true =>
   have:occ l true v=true:=occ_iff.2 ⟨s,hs,hp,hv⟩
   rw [if_pos this] at h;split at h <;> omega
  | false =>
   have:occ l false v=true:=occ_iff.2 ⟨s,hs,hp,hv⟩
   rw [if_pos this] at h;split at h <;> omega
 ·intro h
  rw [if_neg (fun h2=>by obtain ⟨s,hs,_,hv⟩:=occ_iff.1 h2;exact h ⟨s,hs,hv⟩),if_neg (fun h2=>by obtain ⟨s,hs,_,hv⟩:=occ_iff.1 h2;exact h ⟨s,hs,hv⟩)];rfl
noncomputable def varsA (a:AutoAuto):List Int:=setC (a.l.flatMap (·.vars))
theorem varsA_mem {a:AutoAuto} {v:Int}:v∈varsA a↔∃ s∈a.l,v∈s.vars:=by
 unfold varsA;rw [(E9 _).2]
 simp [List.mem_flatMap]
theorem Uz {l:List AutoState} (h:∀ s∈l,SB s):(l.flatMap (·.vars)).length<=40*l.length:=by
 induction l with
 | nil=>simp
 | cons s l ih =>
  have h1:=(h s (by simp)).1
  have h2:=ih (fun t ht=>h t (by simp [ht]))
  simp only [List.flatMap_cons,List.length_append,List.length_cons]
  omega
theorem Hn {a:AutoAuto} (h:AB a):(varsA a).length<=100000:=by
 have h1:=PN (a.l.flatMap (·.vars))
 have h2:=Uz h.2
 have:=h.1
 unfold varsA
 omega
theorem mget_none {α β:Type} [DecidableEq α] {l:List (α×β)} {k:α}:mget l k=none↔k∉l.map (·.1):=by
 induction l with
 | nil=>simp [mget]
 | cons p l ih =>
  obtain ⟨a,b⟩:=p;simp only [mget,List.map_cons,List.mem_cons,not_or]
  by_cases h:k=a
  ·simp [h]
  ·simp only [h,if_false,not_false_eq_true,true_and];exact ih
theorem ND {α β:Type} [DecidableEq α] {l:List (α×β)} {k:α} {v:β}:(mset l k v).map (·.1)=if k∈l.map (·.1) then l.map (·.1) else l.map (·.1)++[k]:=by
 induction l with
 | nil=>simp [mset]
 | cons p l ih =>
  obtain ⟨a,b⟩:=p;simp only [mset]
  by_cases h:k=a
  ·subst h;simp
  ·rw [if_neg h]
   simp only [List.map_cons,ih,List.mem_cons,h,false_or]
   split <;> simp
theorem QT {α β:Type} [DecidableEq α] {l:List (α×β)} {k:α} {v:β} (h:(l.map (·.1)).Nodup):((mset l k v).map (·.1)).Nodup:=by
 rw [ND]
 split
 ·exact h
 ·rename_i hk
  rw [List.nodup_append];exact ⟨h,by simp,fun a ha b hb e=>by simp at hb;subst hb e;exact hk ha⟩
theorem UP {α β:Type} [DecidableEq α] {l:List (α×β)} {k:α} {v:β}:(mset l k v).length<=l.length+1:=by
 have:=congrArg List.length (ND (l:=l) (k:=k) (v:=v))
 rw [List.length_map] at this;rw [this]
 split <;> simp
def H8 (l:List AutoState) (n:Nat) (mm:List (Int×Int)):Prop:=(∀ v,mget mm v=if bits l v=0 then none else some (bits l v))/\(mm.map (·.1)).Nodup/\mm.length<=n
theorem T3:orI 0 1=1/\orI 1 1=1/\orI 2 1=3/\orI 3 1=3/\orI 0 2=2/\orI 1 2=3/\orI 2 2=2/\orI 3 2=3:=by decide
def sd (p:Bool):Int:=bif p then 1 else 2
theorem G9 {l:List AutoState} {s:AutoState} {p:Bool} {v:Int}:occ (l++[s]) p v=(occ l p v||(decide (s.plus=p)&&decide (v∈s.vars))):=by
 rw [Bool.eq_iff_iff,Bool.or_eq_true,Bool.and_eq_true,decide_eq_true_eq,decide_eq_true_eq,occ_iff,occ_iff]
 constructor
 ·rintro ⟨t,ht,h⟩
  rcases List.mem_append.1 ht with ht | ht
  ·exact .inl ⟨t,ht,h⟩
  ·simp at ht;subst ht;exact .inr h
 ·rintro (⟨t,ht,h⟩ | h)
  ·exact ⟨t,by simp [ht],h⟩
  ·exact ⟨s,by simp,h⟩
def cutV (s:AutoState) (k:Nat):AutoState:={ s with vars:=s.vars.take k }
theorem S3 {l:List AutoState} {s:AutoState} {k:Nat} {x:Int} (hx:s.vars[k]? = some x) (v:Int):bits (l++[cutV s (k+1)]) v=if v=x then orI (bits (l++[cutV s k]) x) (sd s.plus) else bits (l++[cutV s k]) v:=by
 have hk:=(List.getElem?_eq_some_iff.1 hx).1
 have ht:s.vars.take (k+1)=s.vars.take k++[x]:=by
  rw [List.take_succ_eq_append_getElem hk];rw [List.getElem?_eq_getElem hk] at hx;rw [Option.some.inj hx]
 have hm:∀ p,occ (l++[cutV s (k+1)]) p v=(occ (l++[cutV s k]) p v||(decide (s.plus=p)&&decide (v=x))):=by
  intro p
  rw [G9,G9];unfold cutV;simp only [ht]
  by_cases h1:v∈s.vars.take k <;> by_cases h2:v=x <;> by_cases h3:s.plus=p <;> simp [h1,h2,h3]
 unfold bits;rw [hm true,hm false]
 by_cases hv:v=x
 ·subst hv
  rw [if_pos rfl];obtain ⟨t1,t2,t3,t4,t5,t6,t7,t8⟩:=T3
  cases hp:s.plus <;> cases occ (l++[cutV s k]) true v <;> cases occ (l++[cutV s k]) false v <;> simp [sd,t1,t2,t3,t4,t5,t6,t7,t8]
 ·rw [if_neg hv]
  simp [hv]
theorem SP {l:List AutoState} {s:AutoState} (v:Int):bits (l++[cutV s 0]) v=bits l v:=by
 unfold bits;rw [G9,G9]
 simp [cutV]
theorem S0 {l:List AutoState} {s:AutoState} (v:Int):bits (l++[cutV s s.vars.length]) v=bits (l++[s]) v:=by
 unfold bits;rw [G9,G9,G9,G9]
 simp [cutV]
theorem UM (l:List AutoState) (v:Int):bits l v=0\/bits l v=1\/bits l v=2\/bits l v=3:=by
 unfold bits
 cases occ l true v <;> cases occ l false v <;> simp
theorem WW {b:Int} (p:Bool) (h:b=0\/b=1\/b=2\/b=3):orI b (sd p)≠0:=by
 obtain ⟨t1,t2,t3,t4,t5,t6,t7,t8⟩:=T3
 cases p <;> rcases h with rfl | rfl | rfl | rfl <;> simp [sd,t1,t2,t3,t4,t5,t6,t7,t8]
theorem U2 {l:List AutoState} {s:AutoState} (hs:s.vars.length<=40) {m:Nat} {mm:List (Int×Int)} (h:H8 l m mm):∃ mm',CK s (sd s.plus) FU (0,mm)=some mm'/\H8 (l++[s]) (m+40) mm':=by
 obtain ⟨o,e1,e2⟩:=A5 (φ:=fun n i q=>CK s (sd s.plus) n (i,q)) (l:=s.vars) (fun i q=>H8 (l++[cutV s i]) (m+i) q) (fun o=>H8 (l++[s]) (m+40) o)
  (by
   rintro n i x q hx hi ⟨h1,h2,h3⟩
   left
   refine ⟨mset q x (orI ((mget q x).getD 0) (sd s.plus)),?_,fun v=>?_,QT h2,?_⟩
   ·simp only [CK]
    rw [dT (show (i:Int)<(s.vars.length:Int) by omega),cT,getI hx,oB,Ab (by omega)]
   ·have hg:(mget q x).getD 0=bits (l++[cutV s i]) x:=by
     rw [h1 x]
     split
     ·rename_i h0;rw [h0];rfl
     ·rfl
    rw [PI,hg,S3 hx]
    by_cases hv:v=x
    ·rw [if_pos hv,if_pos hv,if_neg (WW _ (UM _ _))]
    ·rw [if_neg hv,if_neg hv,h1 v]
   ·have:=UP (l:=q) (k:=x) (v:=orI ((mget q x).getD 0) (sd s.plus))
    omega)
  (by
   rintro n q ⟨h1,h2,h3⟩;refine ⟨q,?_,fun v=>by rw [h1 v,S0],h2,by omega⟩;simp only [CK];rw [dF (by omega),cF_]) (by rw [FUv];omega) mm ⟨fun v=>by rw [h.1 v,SP],h.2.1,by have:=h.2.2;omega⟩
 exact ⟨o,e1,e2⟩
theorem Up (a:AutoAuto) (h:AB a):∃ mm,Ft a=some mm/\H8 a.l 100000 mm:=by
 have hlen:=h.1
 unfold Ft;obtain ⟨o,e1,e2⟩:=A5 (φ:=fun n i q=>Dc a n (i,q)) (l:=a.l) (fun i q=>H8 (a.l.take i) (40*i) q) (fun o=>H8 a.l 100000 o)
  (by
   rintro n i s q hs hi hq
   left
   have hit:a.l.take (i+1)=a.l.take i++[s]:=by
    rw [List.take_succ_eq_append_getElem hi];rw [List.getElem?_eq_getElem hi] at hs;rw [Option.some.inj hs]
   obtain ⟨mm',q1,q2⟩:=U2 (h.2 s (List.mem_of_getElem? hs)).1 hq;refine ⟨mm',?_,by rw [hit];exact q2⟩;simp only [Dc];rw [dT (show (i:Int)<(a.l.length:Int) by omega),cT,getI hs,oB,show (bif s.plus then some 1 else some 2:Option Int)=some (sd s.plus) by cases s.plus <;> rfl,oB,q1,oB,Ab (by omega)])
  (by
   rintro n q hq;refine ⟨q,?_,by rw [List.take_length] at hq;exact ⟨hq.1,hq.2.1,by have:=hq.2.2;omega⟩⟩;simp only [Dc];rw [dF (by omega),cF_]) (by rw [FUv];omega) [] ⟨fun v=>by simp [mget,bits,occ],by simp,by simp⟩
 exact ⟨o,by rw [e1,oB],e2⟩
theorem OU {a:AutoAuto} {mm:List (Int×Int)} {m:Nat} (h:H8 a.l m mm):((mm.map (·.1)).mergeSort fun x y=>decide (x<=y))=varsA a:=by
 unfold varsA;refine FA ?_ fun x=>?_
 ·have h1:=Gh (mm.map (·.1))
  have h2:((mm.map (·.1)).mergeSort fun x y=>decide (x<=y)).Nodup:=(List.mergeSort_perm _ _).nodup_iff.2 h.2.1
  have h3:=List.Pairwise.and h1 h2
  exact h3.imp (fun h=>by have:=h.1;have:=h.2;omega)
 ·rw [List.mem_mergeSort]
  have h1:=h.1 x
  have h2:x∈mm.map (·.1)↔¬ bits a.l x=0:=by
   constructor
   ·intro hx hb
    rw [if_pos hb] at h1;exact mget_none.1 h1 hx
   ·intro hb
    refine Classical.byContradiction fun hx=>?_;rw [mget_none.2 hx,if_neg hb] at h1
    cases h1
  rw [h2,Sq,Classical.not_not]
  simp [List.mem_flatMap]
theorem Wp:∀ l s,C9 l s=Cg l s
 | [],(a,b)=>rfl
 | x::l,(a,b)=>by simp only [C9,Cg,Wp l]
theorem Ww (a:AutoAuto) (l1 l2:List Int):∀ n s,Ed a l1 l2 n s=Cf a l1 l2 n s
 | 0,(_,_,_)=>rfl
 | n+1,(x,y,z)=>by simp only [Ed,Cf,Ww a l1 l2 n]
theorem Ud (a:AutoAuto):Fq a=EB a:=by
 unfold Fq EB;simp only [Wp,Ww]
theorem J2 {a:AutoAuto} (h:AB a) (hm:mayP a=0):CX a=some (0,normP a):=by
 unfold CX;rw [Ow a h,oB,hm,show (!decide ((0:Int)=0))=false from rfl,cF_,Ud,Rf (Hg h hm)]
 rfl
theorem O8 {a:AutoAuto} (h:AB a) (hm:¬ mayP a=0):CX a=some (mayP a,⟨[],0⟩):=by
 unfold CX;rw [Ow a h,oB,dF hm,Bool.not_false,cT]
noncomputable def HZ (a:AutoAuto):List VarsUse:=(varsA a).map fun v=>⟨v,bits a.l v⟩
theorem P8 {a:AutoAuto} (h:AB a) {mm:List (Int×Int)} (hm:H8 a.l 100000 mm):CR mm FU (0,[])=some (HZ a):=by
 have hk:=OU hm
 have hlen:=Hn h
 have h1:=DK (φ:=fun n i s=>CR mm n (i,s)) (l:=varsA a) (fun v=>(⟨v,(mget mm v).getD 0⟩:VarsUse)) id 0 (by
  intro n i x s hx hi hs
  simp only [CR];rw [hk,dT (by omega),cT,getI hx,oB,Ab (by simp only [List.length_cons,List.length_nil];omega),Ab (by omega)]) (by
  intro n s hs
  simp only [CR];rw [hk,dF (by omega),cF_];rfl) (by rw [FUv];omega) [] rfl
 refine h1.trans ?_;simp only [id,List.nil_append];unfold HZ
 congr 1
 apply List.map_congr_left
 intro v hv
 rw [hm.1 v]
 split
 ·rename_i h0;rw [h0];rfl
 ·rfl
theorem TQ {a:AutoAuto} (h:AB a) (hm:mayP a=0):Fu a=some (HZ (normP a),0):=by
 have hn:=NS (Hg h hm)
 obtain ⟨mm,e,hk⟩:=Up (normP a) hn;unfold Fu;rw [J2 h hm];simp only [oB,decide_true,Bool.not_true,cF_];rw [show (⟨(normP a).l,(normP a).start⟩:AutoAuto)=normP a from rfl,e,oB,Ab (by have:=hk.2.2;omega),P8 hn hk,oB]
noncomputable def stW (f:Int->Option Int) (s:AutoState):AutoState:=⟨s.plus,s.all,s.int,s.bool,s.str,s.arrow,s.rec_,s.tag,setC (s.vars.filterMap f),s.dom,s.cod,s.fields,s.tags⟩
theorem takeS {α:Type} {l:List α} {i:Nat} {x:α} (h:l[i]? = some x):l.take (i+1)=l.take i++[x]:=by
 have hi:=(List.getElem?_eq_some_iff.1 h).1
 rw [List.take_succ_eq_append_getElem hi];rw [List.getElem?_eq_getElem hi] at h;rw [Option.some.inj h]
theorem NR {α:Type} {A B:List α} {x y:α} {i:Nat} (h:A.length=i):(A++x::B).set i y=A++y::B:=by
 subst h
 induction A with
 | nil=>rfl
 | cons a A ih=>simp only [List.cons_append,List.length_cons,List.set_cons_succ,ih]
theorem PV:setC []=[]:=(FA List.Pairwise.nil (by simp)).symm
end Go.Proofs.YtcoghblhdjmbfaaGreat
