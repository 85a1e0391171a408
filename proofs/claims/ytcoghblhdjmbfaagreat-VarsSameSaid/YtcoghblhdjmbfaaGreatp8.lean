/- Part 8 of the proof: a program logic, what the functions compute, and what these answer; no condition. -/
import Derived.Test.YtcoghblhdjmbfaaGreatp7
import Derived.Shelf.Sort.Plain
import Derived.Ground.Names2Prog
import Derived.Shelf.Slices.CompactI
import Derived.Shelf.Slices.In.SortNone
import Derived.Test.YtcoghblhdjmbfaaGreatProg
set_option linter.unusedVariables false
set_option linter.unusedSimpArgs false
set_option maxRecDepth 100000
set_option maxHeartbeats 2000000
namespace Go.Proofs.YtcoghblhdjmbfaaGreat
open Go.V Tryz
theorem Hi {t1:ATy} {goals1:(List RSeq)} {flex1:Int}  {s_1:Syntagmaref19World} (hm:BO t1 goals1 flex1=some s_1):Go.V.Fn Tryz.prog 50 [ATy.d t1,.list 2 RSeq.d goals1,.i64 flex1] [] (fun d ms'=>∃ b_s_1 a_s_1c3 cap_s_1c3 a_s_1c4 m_s_1c4 cap_s_1c4 q_s_1c4 a_s_1c5 m_s_1c5 cap_s_1c5 a_s_1c6 m_s_1c6 cap_s_1c6,d = .v (.pointer (some ⟨b_s_1,0,none⟩))/\ms'=[box b_s_1 133 [.list 4 ANd.d s_1.t.l,.i64 s_1.t.root,.i64 s_1.flex,.v (.slice a_s_1c3 s_1.all.length cap_s_1c3),.v (.slice a_s_1c4 m_s_1c4 cap_s_1c4),.v (.slice a_s_1c5 m_s_1c5 cap_s_1c5),.v (.slice a_s_1c6 m_s_1c6 cap_s_1c6),.bool s_1.mixed,.bool s_1.fails],row a_s_1c3 cap_s_1c3 95 2 RSeq.d s_1.all,bks a_s_1c4 m_s_1c4 cap_s_1c4 43 3 1 D.i64 s_1.buckets q_s_1c4,arr a_s_1c5 m_s_1c5 cap_s_1c5 131 1 (D.list 1 (D.list 1 D.i64)) s_1.below_,arr a_s_1c6 m_s_1c6 cap_s_1c6 131 1 (D.list 1 (D.list 1 D.i64)) s_1.above]):=by
 unfold BO at hm;refine Ad func50 rfl ntmps50 rfl fun H0 fr w0=>?_;refine zq6 ?_;obtain ⟨hg1,hm⟩:=Aa hm;obtain ⟨hg2,hm⟩:=Aa hm;obtain ⟨hg3,hm⟩:=Aa hm;obtain ⟨hg4,hm⟩:=Aa hm;obtain ⟨hg5,hm⟩:=Aa hm;obtain ⟨hg6,hm⟩:=Aa hm;refine FI 7 [3,5,6] Bj (by decide +kernel) (by decide +kernel) rfl (by decide +kernel) ?_;refine AA rfl rfl rfl rfl (DC isAgg31 sizeOf31 rfl rfl) ?_;refine AA rfl rfl rfl rfl (oMv rfl) ?_;refine AA rfl rfl rfl rfl (oMv rfl) ?_;refine Eb (R:=fun d A=>∃ a m cap,d = .v (.slice a m cap)/\A=arr a m cap 131 1 (D.list 1 (D.list 1 D.i64)) (List.replicate (flex1).toNat (([]:List (List Int)):(List (List Int))))) rfl rfl rfl (OpT.mono (DW (f:=(D.list 1 (D.list 1 D.i64))) (z0:=([]:List (List Int))) underlying130 type131 rfl rfl rfl (nB rfl) rfl rfl hg1 hg2 (nB rfl)) (by rintro d ms' ⟨a,m,cap,rfl,rfl⟩;exact ⟨_,⟨a,m,cap,rfl,rfl⟩,rfl⟩)) ?_;refine AA rfl rfl rfl rfl (oMv rfl) ?_;refine Eb (R:=fun d A=>∃ a m cap,d = .v (.slice a m cap)/\A=arr a m cap 131 1 (D.list 1 (D.list 1 D.i64)) (List.replicate (flex1).toNat (([]:List (List Int)):(List (List Int))))) rfl rfl rfl (OpT.mono (DW (f:=(D.list 1 (D.list 1 D.i64))) (z0:=([]:List (List Int))) underlying130 type131 rfl rfl rfl (nB rfl) rfl rfl hg3 hg4 (nB rfl)) (by rintro d ms' ⟨a,m,cap,rfl,rfl⟩;exact ⟨_,⟨a,m,cap,rfl,rfl⟩,rfl⟩)) ?_;refine Eb (R:=fun d A=>∃ a m cap q,d = .v (.slice a m cap)/\A=bks a m cap 43 3 1 D.i64 (List.replicate ((997:Int)).toNat ([]:(List Int))) q) rfl rfl rfl (OpT.mono (J3 (e:=3) (sz:=1) (f:=D.i64) underlying131 type43 rfl rfl rfl rfl rfl hg5 hg6 (nB rfl)) (by rintro d ms' ⟨a,m,cap,q,rfl,rfl⟩;exact ⟨_,⟨a,m,cap,q,rfl,rfl⟩,rfl⟩)) ?_;refine GS ?_;rintro _ _ ⟨a_r1,m_r1,cap_r1,rfl,rfl⟩;rintro _ _ ⟨a_r2,m_r2,cap_r2,rfl,rfl⟩;rintro _ _ ⟨a_r3,m_r3,cap_r3,q_r3,rfl,rfl⟩;refine Al rfl rfl rfl UP ?_;refine Az rfl rfl rfl (GG rfl rfl rfl) ?_;rintro _ _ ⟨b1,rfl,rfl⟩;refine Aq (AH (T:=95) (sz:=2) (f:=RSeq.d)) ?_;refine zq7 ?_;obtain ⟨o_1,hj1,hm1⟩:=bS hm;refine Af [(2,_),(7,_)] [] (fun (st:((List RSeq)×(List ANd)×Int×Int×Bool×Bool×(List (List (List Int)))×(List (List (List Int)))×(List (List Int)))) (hid:(Option Addr×Nat)×Unit×Unit×(List ((List Int)×Option Addr×Nat)))=>match st,hid with | (l1,z1,z2,z3,z4,z5,l2,l3,l4),((a_r4,cap_r4),_,_,q_r3)=>[]) (fun F (st:((List RSeq)×(List ANd)×Int×Int×Bool×Bool×(List (List (List Int)))×(List (List (List Int)))×(List (List Int)))) (hid:(Option Addr×Nat)×Unit×Unit×(List ((List Int)×Option Addr×Nat)))=>match st,hid with | (l1,z1,z2,z3,z4,z5,l2,l3,l4),((a_r4,cap_r4),_,_,q_r3)=>[row a_r4 cap_r4 95 2 RSeq.d l1,box b1 133 [.list 4 ANd.d z1,.i64 z2,.i64 z3,.v (.slice a_r4 l1.length cap_r4),.v (.slice a_r3 m_r3 cap_r3),.v (.slice a_r1 m_r1 cap_r1),.v (.slice a_r2 m_r2 cap_r2),.bool z4,.bool z5],arr a_r1 m_r1 cap_r1 131 1 (D.list 1 (D.list 1 D.i64)) l2,arr a_r2 m_r2 cap_r2 131 1 (D.list 1 (D.list 1 D.i64)) l3,bks a_r3 m_r3 cap_r3 43 3 1 D.i64 l4 q_r3]) (fun st=>st=o_1) ⟨rfl,rfl,trivial⟩ trivial ?_ ?_
 ·refine An ?_
  refine Ag [(1,_),(2,_),(7,_)] [] (fun (st:(Int×(List RSeq)×(List ANd)×Int×Int×Bool×Bool×(List (List (List Int)))×(List (List (List Int)))×(List (List Int)))) (hid:(Option Addr×Nat)×Unit×Unit×(List ((List Int)×Option Addr×Nat)))=>match st,hid with | (i1,l5,z6,z7,z8,z9,z10,l6,l7,l8),((a_r4,cap_r4),_,_,q_r3)=>[(8,.i64 i1)]) (fun F (st:(Int×(List RSeq)×(List ANd)×Int×Int×Bool×Bool×(List (List (List Int)))×(List (List (List Int)))×(List (List Int)))) (hid:(Option Addr×Nat)×Unit×Unit×(List ((List Int)×Option Addr×Nat)))=>match st,hid with | (i1,l5,z6,z7,z8,z9,z10,l6,l7,l8),((a_r4,cap_r4),_,_,q_r3)=>[row a_r4 cap_r4 95 2 RSeq.d l5,box b1 133 [.list 4 ANd.d z6,.i64 z7,.i64 z8,.v (.slice a_r4 l5.length cap_r4),.v (.slice a_r3 m_r3 cap_r3),.v (.slice a_r1 m_r1 cap_r1),.v (.slice a_r2 m_r2 cap_r2),.bool z9,.bool z10],arr a_r1 m_r1 cap_r1 131 1 (D.list 1 (D.list 1 D.i64)) l6,arr a_r2 m_r2 cap_r2 131 1 (D.list 1 (D.list 1 D.i64)) l7,bks a_r3 m_r3 cap_r3 43 3 1 D.i64 l8 q_r3]) ((_,_),(),(),_) hj1 (fun _=>rfl) ⟨rfl,rfl,rfl,trivial⟩ trivial ⟨rfl,trivial⟩ rfl ?_;rintro n ⟨i1,l5,z6,z7,z8,z9,z10,l6,l7,l8⟩ ⟨⟨a_r4,cap_r4⟩,⟨⟩,⟨⟩,q_r3⟩ hj1;rw [A5] at hj1;refine At (L':=[(8,.i64 i1),(1,_),(2,_),(7,_)]) (ms':=[row a_r4 cap_r4 95 2 RSeq.d l5,box b1 133 [.list 4 ANd.d z6,.i64 z7,.i64 z8,.v (.slice a_r4 l5.length cap_r4),.v (.slice a_r3 m_r3 cap_r3),.v (.slice a_r1 m_r1 cap_r1),.v (.slice a_r2 m_r2 cap_r2),.bool z9,.bool z10],arr a_r1 m_r1 cap_r1 131 1 (D.list 1 (D.list 1 D.i64)) l6,arr a_r2 m_r2 cap_r2 131 1 (D.list 1 (D.list 1 D.i64)) l7,bks a_r3 m_r3 cap_r3 43 3 1 D.i64 l8 q_r3]) rfl rfl ?_;refine zq8 ?_;refine zcn hj1 (fun hc1 hj1=>?_) (fun hc1 hj1=>?_)
  ·refine zq3 ?_
   obtain ⟨x1,hx7,hj1⟩:=bS hj1;obtain ⟨x2,hx8,hj1⟩:=bS hj1;obtain ⟨x3,hx9,hj1⟩:=bS hj1;obtain ⟨x4,hx10,hj1⟩:=bS hj1;refine zdr 14 ?_;refine zq3 ?_;refine AE rfl rfl rfl (oIm runUnderlying96 sizeOf95 rfl rfl hx7) ?_;refine zq2 ?_;refine zcd (Fe hx8) ?_;refine zq2 ?_;refine AE rfl rfl rfl (oIm runUnderlying96 sizeOf95 rfl rfl hx9) ?_;refine zq2 ?_;refine zcd (Fe hx10) ?_;refine AE rfl rfl rfl zb95b ?_;refine Fk ?_;obtain ⟨s1,hx11,hj1⟩:=bS hj1;refine Az rfl rfl rfl (Ca [1,0,4,2,3] call86 rfl rfl (Am rfl (Am rfl (Am rfl (Am rfl (Am rfl Cm))))) (CM hx11) (by rintro _ _ ⟨_,_,_,rfl,rfl⟩;rfl)) ?_;rintro _ _ ⟨_,⟨a_r4,cap_r4,q_r3,rfl,rfl⟩,rfl⟩;refine Ah (ms':=[_,box b1 133 [_,_,_,_,_,_,_,_,_],_,_,_]) rfl ?_;refine zq3 ?_;obtain ⟨hg12,hj1⟩:=Aa hj1;refine zq3 ?_;exact ⟨_,((_,_),(),(),_),hj1,⟨rfl,trivial⟩,⟨rfl,rfl,rfl,trivial⟩,[],rfl⟩
  ·refine Ar ?_
   exact ⟨_,((_,_),(),(),_),Ac hj1,trivial,⟨rfl,rfl,trivial⟩,[],rfl⟩
 ·rintro ⟨l1,z1,z2,z3,z4,z5,l2,l3,l4⟩ ⟨⟨a_r4,cap_r4⟩,⟨⟩,⟨⟩,q_r3⟩ hst
  subst hst;refine Ao (L':=[(2,_),(7,_)]) (ms':=[row a_r4 cap_r4 95 2 RSeq.d l1,box b1 133 [.list 4 ANd.d z1,.i64 z2,.i64 z3,.v (.slice a_r4 l1.length cap_r4),.v (.slice a_r3 m_r3 cap_r3),.v (.slice a_r1 m_r1 cap_r1),.v (.slice a_r2 m_r2 cap_r2),.bool z4,.bool z5],arr a_r1 m_r1 cap_r1 131 1 (D.list 1 (D.list 1 D.i64)) l2,arr a_r2 m_r2 cap_r2 131 1 (D.list 1 (D.list 1 D.i64)) l3,bks a_r3 m_r3 cap_r3 43 3 1 D.i64 l4 q_r3]) rfl rfl ?_;refine zq5 ?_;obtain ⟨o_2,hj2,hm2⟩:=bS hm1;refine Af [(7,_)] [] (fun (st:((List RSeq)×(List ANd)×Int×Int×Bool×Bool×(List (List (List Int)))×(List (List (List Int)))×(List (List Int)))) (hid:(Option Addr×Nat)×Unit×Unit×(List ((List Int)×Option Addr×Nat)))=>match st,hid with | (l9,z11,z12,z13,z14,z15,l10,l11,l12),((a_r4,cap_r4),_,_,q_r3)=>[]) (fun F (st:((List RSeq)×(List ANd)×Int×Int×Bool×Bool×(List (List (List Int)))×(List (List (List Int)))×(List (List Int)))) (hid:(Option Addr×Nat)×Unit×Unit×(List ((List Int)×Option Addr×Nat)))=>match st,hid with | (l9,z11,z12,z13,z14,z15,l10,l11,l12),((a_r4,cap_r4),_,_,q_r3)=>[row a_r4 cap_r4 95 2 RSeq.d l9,box b1 133 [.list 4 ANd.d z11,.i64 z12,.i64 z13,.v (.slice a_r4 l9.length cap_r4),.v (.slice a_r3 m_r3 cap_r3),.v (.slice a_r1 m_r1 cap_r1),.v (.slice a_r2 m_r2 cap_r2),.bool z14,.bool z15],arr a_r1 m_r1 cap_r1 131 1 (D.list 1 (D.list 1 D.i64)) l10,arr a_r2 m_r2 cap_r2 131 1 (D.list 1 (D.list 1 D.i64)) l11,bks a_r3 m_r3 cap_r3 43 3 1 D.i64 l12 q_r3]) (fun st=>st=o_2) ⟨rfl,trivial⟩ trivial ?_ ?_
  ·refine An ?_
   refine Ag [(2,_),(7,_)] [] (fun (st:(Int×(List RSeq)×(List ANd)×Int×Int×Bool×Bool×(List (List (List Int)))×(List (List (List Int)))×(List (List Int)))) (hid:(Option Addr×Nat)×Unit×Unit×(List ((List Int)×Option Addr×Nat)))=>match st,hid with | (done1,l13,z16,z17,z18,z19,z20,l14,l15,l16),((a_r4,cap_r4),_,_,q_r3)=>[(9,.i64 done1)]) (fun F (st:(Int×(List RSeq)×(List ANd)×Int×Int×Bool×Bool×(List (List (List Int)))×(List (List (List Int)))×(List (List Int)))) (hid:(Option Addr×Nat)×Unit×Unit×(List ((List Int)×Option Addr×Nat)))=>match st,hid with | (done1,l13,z16,z17,z18,z19,z20,l14,l15,l16),((a_r4,cap_r4),_,_,q_r3)=>[row a_r4 cap_r4 95 2 RSeq.d l13,box b1 133 [.list 4 ANd.d z16,.i64 z17,.i64 z18,.v (.slice a_r4 l13.length cap_r4),.v (.slice a_r3 m_r3 cap_r3),.v (.slice a_r1 m_r1 cap_r1),.v (.slice a_r2 m_r2 cap_r2),.bool z19,.bool z20],arr a_r1 m_r1 cap_r1 131 1 (D.list 1 (D.list 1 D.i64)) l14,arr a_r2 m_r2 cap_r2 131 1 (D.list 1 (D.list 1 D.i64)) l15,bks a_r3 m_r3 cap_r3 43 3 1 D.i64 l16 q_r3]) ((_,_),(),(),_) hj2 (fun _=>rfl) ⟨rfl,rfl,trivial⟩ trivial ⟨rfl,trivial⟩ rfl ?_;rintro n ⟨done1,l13,z16,z17,z18,z19,z20,l14,l15,l16⟩ ⟨⟨a_r4,cap_r4⟩,⟨⟩,⟨⟩,q_r3⟩ hj2;rw [AU] at hj2;refine At (L':=[(9,.i64 done1),(2,_),(7,_)]) (ms':=[row a_r4 cap_r4 95 2 RSeq.d l13,box b1 133 [.list 4 ANd.d z16,.i64 z17,.i64 z18,.v (.slice a_r4 l13.length cap_r4),.v (.slice a_r3 m_r3 cap_r3),.v (.slice a_r1 m_r1 cap_r1),.v (.slice a_r2 m_r2 cap_r2),.bool z19,.bool z20],arr a_r1 m_r1 cap_r1 131 1 (D.list 1 (D.list 1 D.i64)) l14,arr a_r2 m_r2 cap_r2 131 1 (D.list 1 (D.list 1 D.i64)) l15,bks a_r3 m_r3 cap_r3 43 3 1 D.i64 l16 q_r3]) rfl rfl ?_;refine zq5 ?_;refine Al rfl rfl rfl (Ak rfl) ?_;refine zq2 ?_;refine Al rfl rfl rfl (.view (peekE (i:=47) 0 rfl rfl rfl) (E1 runUnderlying96 rfl)) ?_;refine zq2 ?_;refine zcn hj2 (fun hc2 hj2=>?_) (fun hc2 hj2=>?_)
   ·refine zq3 ?_
    obtain ⟨o_3,hj3,hm3⟩:=bS hj2;refine Af [(2,_),(7,_)] [] (fun (st:(Int×(List RSeq)×(List ANd)×Int×Int×Bool×Bool×(List (List (List Int)))×(List (List (List Int)))×(List (List Int)))) (hid:(Option Addr×Nat)×Unit×Unit×(List ((List Int)×Option Addr×Nat)))=>match st,hid with | (done2,l17,z21,z22,z23,z24,z25,l18,l19,l20),((a_r4,cap_r4),_,_,q_r3)=>[(9,.i64 done2)]) (fun F (st:(Int×(List RSeq)×(List ANd)×Int×Int×Bool×Bool×(List (List (List Int)))×(List (List (List Int)))×(List (List Int)))) (hid:(Option Addr×Nat)×Unit×Unit×(List ((List Int)×Option Addr×Nat)))=>match st,hid with | (done2,l17,z21,z22,z23,z24,z25,l18,l19,l20),((a_r4,cap_r4),_,_,q_r3)=>[row a_r4 cap_r4 95 2 RSeq.d l17,box b1 133 [.list 4 ANd.d z21,.i64 z22,.i64 z23,.v (.slice a_r4 l17.length cap_r4),.v (.slice a_r3 m_r3 cap_r3),.v (.slice a_r1 m_r1 cap_r1),.v (.slice a_r2 m_r2 cap_r2),.bool z24,.bool z25],arr a_r1 m_r1 cap_r1 131 1 (D.list 1 (D.list 1 D.i64)) l18,arr a_r2 m_r2 cap_r2 131 1 (D.list 1 (D.list 1 D.i64)) l19,bks a_r3 m_r3 cap_r3 43 3 1 D.i64 l20 q_r3]) (fun st=>st=o_3) ⟨rfl,rfl,trivial⟩ trivial ?_ ?_
    ·refine An ?_
     refine Ag [(2,_),(7,_)] [] (fun (st:(Int×(List RSeq)×(List ANd)×Int×Int×Bool×Bool×(List (List (List Int)))×(List (List (List Int)))×(List (List Int)))) (hid:(Option Addr×Nat)×Unit×Unit×(List ((List Int)×Option Addr×Nat)))=>match st,hid with | (done3,l21,z26,z27,z28,z29,z30,l22,l23,l24),((a_r4,cap_r4),_,_,q_r3)=>[(9,.i64 done3)]) (fun F (st:(Int×(List RSeq)×(List ANd)×Int×Int×Bool×Bool×(List (List (List Int)))×(List (List (List Int)))×(List (List Int)))) (hid:(Option Addr×Nat)×Unit×Unit×(List ((List Int)×Option Addr×Nat)))=>match st,hid with | (done3,l21,z26,z27,z28,z29,z30,l22,l23,l24),((a_r4,cap_r4),_,_,q_r3)=>[row a_r4 cap_r4 95 2 RSeq.d l21,box b1 133 [.list 4 ANd.d z26,.i64 z27,.i64 z28,.v (.slice a_r4 l21.length cap_r4),.v (.slice a_r3 m_r3 cap_r3),.v (.slice a_r1 m_r1 cap_r1),.v (.slice a_r2 m_r2 cap_r2),.bool z29,.bool z30],arr a_r1 m_r1 cap_r1 131 1 (D.list 1 (D.list 1 D.i64)) l22,arr a_r2 m_r2 cap_r2 131 1 (D.list 1 (D.list 1 D.i64)) l23,bks a_r3 m_r3 cap_r3 43 3 1 D.i64 l24 q_r3]) ((_,_),(),(),_) hj3 (fun _=>rfl) ⟨rfl,rfl,trivial⟩ trivial ⟨rfl,trivial⟩ rfl ?_;rintro n ⟨done3,l21,z26,z27,z28,z29,z30,l22,l23,l24⟩ ⟨⟨a_r4,cap_r4⟩,⟨⟩,⟨⟩,q_r3⟩ hj3;rw [AV] at hj3;refine At (L':=[(9,.i64 done3),(2,_),(7,_)]) (ms':=[row a_r4 cap_r4 95 2 RSeq.d l21,box b1 133 [.list 4 ANd.d z26,.i64 z27,.i64 z28,.v (.slice a_r4 l21.length cap_r4),.v (.slice a_r3 m_r3 cap_r3),.v (.slice a_r1 m_r1 cap_r1),.v (.slice a_r2 m_r2 cap_r2),.bool z29,.bool z30],arr a_r1 m_r1 cap_r1 131 1 (D.list 1 (D.list 1 D.i64)) l22,arr a_r2 m_r2 cap_r2 131 1 (D.list 1 (D.list 1 D.i64)) l23,bks a_r3 m_r3 cap_r3 43 3 1 D.i64 l24 q_r3]) rfl rfl ?_;refine zq5 ?_;refine Al rfl rfl rfl (Ak rfl) ?_;refine zq2 ?_;refine Al rfl rfl rfl (.view (peekE (i:=54) 0 rfl rfl rfl) (E1 runUnderlying96 rfl)) ?_;refine zq2 ?_;refine zcn hj3 (fun hc3 hj3=>?_) (fun hc3 hj3=>?_)
     ·refine zq6 ?_
      refine Al rfl rfl rfl (Ak rfl) ?_;refine zq3 ?_;obtain ⟨x5,hx13,hj3⟩:=bS hj3;refine Al rfl rfl rfl (.view (peekE (i:=63) 0 rfl rfl rfl) (oIm runUnderlying96 sizeOf95 rfl rfl hx13)) ?_;refine zq1 ?_;obtain ⟨s2,hx14,hj3⟩:=bS hj3;refine Az rfl rfl rfl (Ca [1,0,4,2,3] call87 rfl rfl (Am rfl (Am rfl (Am rfl (Am rfl (Am rfl Cm))))) (FT hx14) (by rintro _ _ ⟨_,_,_,rfl,rfl⟩;rfl)) ?_;rintro _ _ ⟨_,⟨a_r4,cap_r4,q_r3,rfl,rfl⟩,rfl⟩;refine Ah (ms':=[_,box b1 133 [_,_,_,_,_,_,_,_,_],_,_,_]) rfl ?_;refine zq3 ?_;obtain ⟨hg15,hj3⟩:=Aa hj3;refine zq3 ?_;exact ⟨_,((_,_),(),(),_),hj3,⟨rfl,trivial⟩,⟨rfl,rfl,trivial⟩,[],rfl⟩
     ·refine Ar ?_
      exact ⟨_,((_,_),(),(),_),Ac hj3,⟨rfl,trivial⟩,⟨rfl,rfl,trivial⟩,[],rfl⟩
    ·rintro ⟨done2,l17,z21,z22,z23,z24,z25,l18,l19,l20⟩ ⟨⟨a_r4,cap_r4⟩,⟨⟩,⟨⟩,q_r3⟩ hst
     subst hst;refine Ao (L':=[(9,.i64 done2),(2,_),(7,_)]) (ms':=[row a_r4 cap_r4 95 2 RSeq.d l17,box b1 133 [.list 4 ANd.d z21,.i64 z22,.i64 z23,.v (.slice a_r4 l17.length cap_r4),.v (.slice a_r3 m_r3 cap_r3),.v (.slice a_r1 m_r1 cap_r1),.v (.slice a_r2 m_r2 cap_r2),.bool z24,.bool z25],arr a_r1 m_r1 cap_r1 131 1 (D.list 1 (D.list 1 D.i64)) l18,arr a_r2 m_r2 cap_r2 131 1 (D.list 1 (D.list 1 D.i64)) l19,bks a_r3 m_r3 cap_r3 43 3 1 D.i64 l20 q_r3]) rfl rfl ?_;refine zq4 ?_;obtain ⟨o_4,hj4,hm4⟩:=bS hm3;refine Af [(2,_),(7,_),(9,_)] [] (fun (st:((List RSeq)×(List ANd)×Int×Int×Bool×Bool×(List (List (List Int)))×(List (List (List Int)))×(List (List Int)))) (hid:(Option Addr×Nat)×Unit×Unit×(List ((List Int)×Option Addr×Nat)))=>match st,hid with | (l25,z31,z32,z33,z34,z35,l26,l27,l28),((a_r4,cap_r4),_,_,q_r3)=>[]) (fun F (st:((List RSeq)×(List ANd)×Int×Int×Bool×Bool×(List (List (List Int)))×(List (List (List Int)))×(List (List Int)))) (hid:(Option Addr×Nat)×Unit×Unit×(List ((List Int)×Option Addr×Nat)))=>match st,hid with | (l25,z31,z32,z33,z34,z35,l26,l27,l28),((a_r4,cap_r4),_,_,q_r3)=>[row a_r4 cap_r4 95 2 RSeq.d l25,box b1 133 [.list 4 ANd.d z31,.i64 z32,.i64 z33,.v (.slice a_r4 l25.length cap_r4),.v (.slice a_r3 m_r3 cap_r3),.v (.slice a_r1 m_r1 cap_r1),.v (.slice a_r2 m_r2 cap_r2),.bool z34,.bool z35],arr a_r1 m_r1 cap_r1 131 1 (D.list 1 (D.list 1 D.i64)) l26,arr a_r2 m_r2 cap_r2 131 1 (D.list 1 (D.list 1 D.i64)) l27,bks a_r3 m_r3 cap_r3 43 3 1 D.i64 l28 q_r3]) (fun st=>st=o_4) ⟨rfl,rfl,rfl,trivial⟩ trivial ?_ ?_
     ·refine An ?_
      refine Ag [(2,_),(7,_),(9,_)] [] (fun (st:(Int×(List RSeq)×(List ANd)×Int×Int×Bool×Bool×(List (List (List Int)))×(List (List (List Int)))×(List (List Int)))) (hid:(Option Addr×Nat)×Unit×Unit×(List ((List Int)×Option Addr×Nat)))=>match st,hid with | (v1,l29,z36,z37,z38,z39,z40,l30,l31,l32),((a_r4,cap_r4),_,_,q_r3)=>[(10,.i64 v1)]) (fun F (st:(Int×(List RSeq)×(List ANd)×Int×Int×Bool×Bool×(List (List (List Int)))×(List (List (List Int)))×(List (List Int)))) (hid:(Option Addr×Nat)×Unit×Unit×(List ((List Int)×Option Addr×Nat)))=>match st,hid with | (v1,l29,z36,z37,z38,z39,z40,l30,l31,l32),((a_r4,cap_r4),_,_,q_r3)=>[row a_r4 cap_r4 95 2 RSeq.d l29,box b1 133 [.list 4 ANd.d z36,.i64 z37,.i64 z38,.v (.slice a_r4 l29.length cap_r4),.v (.slice a_r3 m_r3 cap_r3),.v (.slice a_r1 m_r1 cap_r1),.v (.slice a_r2 m_r2 cap_r2),.bool z39,.bool z40],arr a_r1 m_r1 cap_r1 131 1 (D.list 1 (D.list 1 D.i64)) l30,arr a_r2 m_r2 cap_r2 131 1 (D.list 1 (D.list 1 D.i64)) l31,bks a_r3 m_r3 cap_r3 43 3 1 D.i64 l32 q_r3]) ((_,_),(),(),_) hj4 (fun _=>rfl) ⟨rfl,rfl,rfl,trivial⟩ trivial ⟨rfl,trivial⟩ rfl ?_;rintro n ⟨v1,l29,z36,z37,z38,z39,z40,l30,l31,l32⟩ ⟨⟨a_r4,cap_r4⟩,⟨⟩,⟨⟩,q_r3⟩ hj4;rw [AM] at hj4;refine At (L':=[(10,.i64 v1),(2,_),(7,_),(9,_)]) (ms':=[row a_r4 cap_r4 95 2 RSeq.d l29,box b1 133 [.list 4 ANd.d z36,.i64 z37,.i64 z38,.v (.slice a_r4 l29.length cap_r4),.v (.slice a_r3 m_r3 cap_r3),.v (.slice a_r1 m_r1 cap_r1),.v (.slice a_r2 m_r2 cap_r2),.bool z39,.bool z40],arr a_r1 m_r1 cap_r1 131 1 (D.list 1 (D.list 1 D.i64)) l30,arr a_r2 m_r2 cap_r2 131 1 (D.list 1 (D.list 1 D.i64)) l31,bks a_r3 m_r3 cap_r3 43 3 1 D.i64 l32 q_r3]) rfl rfl ?_;refine zq7 ?_;refine zcn hj4 (fun hc4 hj4=>?_) (fun hc4 hj4=>?_)
      ·refine zq7 ?_
       obtain ⟨o_5,hj5,hm5⟩:=bS hj4;refine Af [(2,_),(7,_),(9,_),(10,_)] [] (fun (st:((List RSeq)×(List ANd)×Int×Int×Bool×Bool×(List (List (List Int)))×(List (List (List Int)))×(List (List Int)))) (hid:(Option Addr×Nat)×Unit×Unit×(List ((List Int)×Option Addr×Nat)))=>match st,hid with | (l33,z41,z42,z43,z44,z45,l34,l35,l36),((a_r4,cap_r4),_,_,q_r3)=>[]) (fun F (st:((List RSeq)×(List ANd)×Int×Int×Bool×Bool×(List (List (List Int)))×(List (List (List Int)))×(List (List Int)))) (hid:(Option Addr×Nat)×Unit×Unit×(List ((List Int)×Option Addr×Nat)))=>match st,hid with | (l33,z41,z42,z43,z44,z45,l34,l35,l36),((a_r4,cap_r4),_,_,q_r3)=>[row a_r4 cap_r4 95 2 RSeq.d l33,box b1 133 [.list 4 ANd.d z41,.i64 z42,.i64 z43,.v (.slice a_r4 l33.length cap_r4),.v (.slice a_r3 m_r3 cap_r3),.v (.slice a_r1 m_r1 cap_r1),.v (.slice a_r2 m_r2 cap_r2),.bool z44,.bool z45],arr a_r1 m_r1 cap_r1 131 1 (D.list 1 (D.list 1 D.i64)) l34,arr a_r2 m_r2 cap_r2 131 1 (D.list 1 (D.list 1 D.i64)) l35,bks a_r3 m_r3 cap_r3 43 3 1 D.i64 l36 q_r3]) (fun st=>st=o_5) ⟨rfl,rfl,rfl,rfl,trivial⟩ trivial ?_ ?_
       ·refine An ?_
        refine Ag [(2,_),(7,_),(9,_),(10,_)] [] (fun (st:(Int×(List RSeq)×(List ANd)×Int×Int×Bool×Bool×(List (List (List Int)))×(List (List (List Int)))×(List (List Int)))) (hid:(Option Addr×Nat)×Unit×Unit×(List ((List Int)×Option Addr×Nat)))=>match st,hid with | (i2,l37,z46,z47,z48,z49,z50,l38,l39,l40),((a_r4,cap_r4),_,_,q_r3)=>[(11,.i64 i2)]) (fun F (st:(Int×(List RSeq)×(List ANd)×Int×Int×Bool×Bool×(List (List (List Int)))×(List (List (List Int)))×(List (List Int)))) (hid:(Option Addr×Nat)×Unit×Unit×(List ((List Int)×Option Addr×Nat)))=>match st,hid with | (i2,l37,z46,z47,z48,z49,z50,l38,l39,l40),((a_r4,cap_r4),_,_,q_r3)=>[row a_r4 cap_r4 95 2 RSeq.d l37,box b1 133 [.list 4 ANd.d z46,.i64 z47,.i64 z48,.v (.slice a_r4 l37.length cap_r4),.v (.slice a_r3 m_r3 cap_r3),.v (.slice a_r1 m_r1 cap_r1),.v (.slice a_r2 m_r2 cap_r2),.bool z49,.bool z50],arr a_r1 m_r1 cap_r1 131 1 (D.list 1 (D.list 1 D.i64)) l38,arr a_r2 m_r2 cap_r2 131 1 (D.list 1 (D.list 1 D.i64)) l39,bks a_r3 m_r3 cap_r3 43 3 1 D.i64 l40 q_r3]) ((_,_),(),(),_) hj5 (fun _=>rfl) ⟨rfl,rfl,rfl,rfl,trivial⟩ trivial ⟨rfl,trivial⟩ rfl ?_;rintro n ⟨i2,l37,z46,z47,z48,z49,z50,l38,l39,l40⟩ ⟨⟨a_r4,cap_r4⟩,⟨⟩,⟨⟩,q_r3⟩ hj5;rw [AW] at hj5;refine At (L':=[(11,.i64 i2),(2,_),(7,_),(9,_),(10,_)]) (ms':=[row a_r4 cap_r4 95 2 RSeq.d l37,box b1 133 [.list 4 ANd.d z46,.i64 z47,.i64 z48,.v (.slice a_r4 l37.length cap_r4),.v (.slice a_r3 m_r3 cap_r3),.v (.slice a_r1 m_r1 cap_r1),.v (.slice a_r2 m_r2 cap_r2),.bool z49,.bool z50],arr a_r1 m_r1 cap_r1 131 1 (D.list 1 (D.list 1 D.i64)) l38,arr a_r2 m_r2 cap_r2 131 1 (D.list 1 (D.list 1 D.i64)) l39,bks a_r3 m_r3 cap_r3 43 3 1 D.i64 l40 q_r3]) rfl rfl ?_;refine zq5 ?_;refine Al rfl rfl rfl (Ak rfl) ?_;refine zq3 ?_;obtain ⟨x6,hx16,hj5⟩:=bS hj5;refine Al rfl rfl rfl (Aj 2 runUnderlying130 sizeOf131 rfl rfl rfl hx16) ?_;refine Al rfl rfl rfl (BK (off:=0) 2 isAgg131 rfl rfl (Au hx16).2 rfl rfl rfl) ?_;refine zq3 ?_;refine zcn hj5 (fun hc5 hj5=>?_) (fun hc5 hj5=>?_)
        ·refine zq7 ?_
         obtain ⟨o_6,hj6,hm6⟩:=bS hj5;refine Af [(2,_),(7,_),(9,_),(10,_),(11,_)] [] (fun (st:((List RSeq)×(List ANd)×Int×Int×Bool×Bool×(List (List (List Int)))×(List (List (List Int)))×(List (List Int)))) (hid:(Option Addr×Nat)×Unit×Unit×(List ((List Int)×Option Addr×Nat)))=>match st,hid with | (l41,z51,z52,z53,z54,z55,l42,l43,l44),((a_r4,cap_r4),_,_,q_r3)=>[]) (fun F (st:((List RSeq)×(List ANd)×Int×Int×Bool×Bool×(List (List (List Int)))×(List (List (List Int)))×(List (List Int)))) (hid:(Option Addr×Nat)×Unit×Unit×(List ((List Int)×Option Addr×Nat)))=>match st,hid with | (l41,z51,z52,z53,z54,z55,l42,l43,l44),((a_r4,cap_r4),_,_,q_r3)=>[row a_r4 cap_r4 95 2 RSeq.d l41,box b1 133 [.list 4 ANd.d z51,.i64 z52,.i64 z53,.v (.slice a_r4 l41.length cap_r4),.v (.slice a_r3 m_r3 cap_r3),.v (.slice a_r1 m_r1 cap_r1),.v (.slice a_r2 m_r2 cap_r2),.bool z54,.bool z55],arr a_r1 m_r1 cap_r1 131 1 (D.list 1 (D.list 1 D.i64)) l42,arr a_r2 m_r2 cap_r2 131 1 (D.list 1 (D.list 1 D.i64)) l43,bks a_r3 m_r3 cap_r3 43 3 1 D.i64 l44 q_r3]) (fun st=>st=o_6) ⟨rfl,rfl,rfl,rfl,rfl,trivial⟩ trivial ?_ ?_
         ·refine An ?_
          refine Ag [(2,_),(7,_),(9,_),(10,_),(11,_)] [] (fun (st:(Int×(List RSeq)×(List ANd)×Int×Int×Bool×Bool×(List (List (List Int)))×(List (List (List Int)))×(List (List Int)))) (hid:(Option Addr×Nat)×Unit×Unit×(List ((List Int)×Option Addr×Nat)))=>match st,hid with | (k1,l45,z56,z57,z58,z59,z60,l46,l47,l48),((a_r4,cap_r4),_,_,q_r3)=>[(12,.i64 k1)]) (fun F (st:(Int×(List RSeq)×(List ANd)×Int×Int×Bool×Bool×(List (List (List Int)))×(List (List (List Int)))×(List (List Int)))) (hid:(Option Addr×Nat)×Unit×Unit×(List ((List Int)×Option Addr×Nat)))=>match st,hid with | (k1,l45,z56,z57,z58,z59,z60,l46,l47,l48),((a_r4,cap_r4),_,_,q_r3)=>[row a_r4 cap_r4 95 2 RSeq.d l45,box b1 133 [.list 4 ANd.d z56,.i64 z57,.i64 z58,.v (.slice a_r4 l45.length cap_r4),.v (.slice a_r3 m_r3 cap_r3),.v (.slice a_r1 m_r1 cap_r1),.v (.slice a_r2 m_r2 cap_r2),.bool z59,.bool z60],arr a_r1 m_r1 cap_r1 131 1 (D.list 1 (D.list 1 D.i64)) l46,arr a_r2 m_r2 cap_r2 131 1 (D.list 1 (D.list 1 D.i64)) l47,bks a_r3 m_r3 cap_r3 43 3 1 D.i64 l48 q_r3]) ((_,_),(),(),_) hj6 (fun _=>rfl) ⟨rfl,rfl,rfl,rfl,rfl,trivial⟩ trivial ⟨rfl,trivial⟩ rfl ?_;rintro n ⟨k1,l45,z56,z57,z58,z59,z60,l46,l47,l48⟩ ⟨⟨a_r4,cap_r4⟩,⟨⟩,⟨⟩,q_r3⟩ hj6;rw [AS] at hj6;refine At (L':=[(12,.i64 k1),(2,_),(7,_),(9,_),(10,_),(11,_)]) (ms':=[row a_r4 cap_r4 95 2 RSeq.d l45,box b1 133 [.list 4 ANd.d z56,.i64 z57,.i64 z58,.v (.slice a_r4 l45.length cap_r4),.v (.slice a_r3 m_r3 cap_r3),.v (.slice a_r1 m_r1 cap_r1),.v (.slice a_r2 m_r2 cap_r2),.bool z59,.bool z60],arr a_r1 m_r1 cap_r1 131 1 (D.list 1 (D.list 1 D.i64)) l46,arr a_r2 m_r2 cap_r2 131 1 (D.list 1 (D.list 1 D.i64)) l47,bks a_r3 m_r3 cap_r3 43 3 1 D.i64 l48 q_r3]) rfl rfl ?_;refine zq5 ?_;refine Al rfl rfl rfl (Ak rfl) ?_;refine zq3 ?_;obtain ⟨x7,hx17,hj6⟩:=bS hj6;refine Al rfl rfl rfl (Aj 3 runUnderlying130 sizeOf131 rfl rfl rfl hx17) ?_;refine Al rfl rfl rfl (BK (off:=0) 3 isAgg131 rfl rfl (Au hx17).2 rfl rfl rfl) ?_;refine zq3 ?_;refine zcn hj6 (fun hc6 hj6=>?_) (fun hc6 hj6=>?_)
          ·refine zq3 ?_
           obtain ⟨x8,hx18,hj6⟩:=bS hj6;obtain ⟨x9,hx19,hj6⟩:=bS hj6;obtain ⟨x10,hx20,hj6⟩:=bS hj6;obtain ⟨x11,hx21,hj6⟩:=bS hj6;refine zdr 22 ?_;refine zq2 ?_;refine AE rfl rfl rfl (Ak rfl) ?_;refine zq3 ?_;refine AE rfl rfl rfl (Aj 2 runUnderlying130 sizeOf131 rfl rfl rfl hx18) ?_;refine AE rfl rfl rfl (BK (off:=0) 2 isAgg131 rfl rfl (Au hx18).2 rfl rfl rfl) ?_;refine zq1 ?_;refine AE rfl rfl rfl (oIm runUnderlying131 sizeOf43 rfl rfl hx19) ?_;refine zq2 ?_;refine AE rfl rfl rfl (Ak rfl) ?_;refine zq3 ?_;refine AE rfl rfl rfl (Aj 3 runUnderlying130 sizeOf131 rfl rfl rfl hx20) ?_;refine AE rfl rfl rfl (BK (off:=0) 3 isAgg131 rfl rfl (Au hx20).2 rfl rfl rfl) ?_;refine zq1 ?_;refine AE rfl rfl rfl (oIm runUnderlying131 sizeOf43 rfl rfl hx21) ?_;refine zq1 ?_;refine AE rfl rfl rfl zb95b ?_;refine Fk ?_;obtain ⟨s3,hx22,hj6⟩:=bS hj6;refine Az rfl rfl rfl (Ca [1,0,4,2,3] call86 rfl rfl (Am rfl (Am rfl (Am rfl (Am rfl (Am rfl Cm))))) (CM hx22) (by rintro _ _ ⟨_,_,_,rfl,rfl⟩;rfl)) ?_;rintro _ _ ⟨_,⟨a_r4,cap_r4,q_r3,rfl,rfl⟩,rfl⟩;refine Ah (ms':=[_,box b1 133 [_,_,_,_,_,_,_,_,_],_,_,_]) rfl ?_;refine zq3 ?_;obtain ⟨hg23,hj6⟩:=Aa hj6;refine zq3 ?_;exact ⟨_,((_,_),(),(),_),hj6,⟨rfl,trivial⟩,⟨rfl,rfl,rfl,rfl,rfl,trivial⟩,[],rfl⟩
          ·refine Ar ?_
           exact ⟨_,((_,_),(),(),_),Ac hj6,trivial,⟨rfl,rfl,rfl,rfl,rfl,trivial⟩,[],rfl⟩
         ·rintro ⟨l41,z51,z52,z53,z54,z55,l42,l43,l44⟩ ⟨⟨a_r4,cap_r4⟩,⟨⟩,⟨⟩,q_r3⟩ hst
          subst hst;refine Ao (L':=[(2,_),(7,_),(9,_),(10,_),(11,_)]) (ms':=[row a_r4 cap_r4 95 2 RSeq.d l41,box b1 133 [.list 4 ANd.d z51,.i64 z52,.i64 z53,.v (.slice a_r4 l41.length cap_r4),.v (.slice a_r3 m_r3 cap_r3),.v (.slice a_r1 m_r1 cap_r1),.v (.slice a_r2 m_r2 cap_r2),.bool z54,.bool z55],arr a_r1 m_r1 cap_r1 131 1 (D.list 1 (D.list 1 D.i64)) l42,arr a_r2 m_r2 cap_r2 131 1 (D.list 1 (D.list 1 D.i64)) l43,bks a_r3 m_r3 cap_r3 43 3 1 D.i64 l44 q_r3]) rfl rfl ?_;refine zq2 ?_;obtain ⟨hg24,hm6⟩:=Aa hm6;refine zq3 ?_;exact ⟨_,((_,_),(),(),_),hm6,⟨rfl,trivial⟩,⟨rfl,rfl,rfl,rfl,trivial⟩,[],rfl⟩
        ·refine Ar ?_
         exact ⟨_,((_,_),(),(),_),Ac hj5,trivial,⟨rfl,rfl,rfl,rfl,trivial⟩,[],rfl⟩
       ·rintro ⟨l33,z41,z42,z43,z44,z45,l34,l35,l36⟩ ⟨⟨a_r4,cap_r4⟩,⟨⟩,⟨⟩,q_r3⟩ hst
        subst hst;refine Ao (L':=[(2,_),(7,_),(9,_),(10,_)]) (ms':=[row a_r4 cap_r4 95 2 RSeq.d l33,box b1 133 [.list 4 ANd.d z41,.i64 z42,.i64 z43,.v (.slice a_r4 l33.length cap_r4),.v (.slice a_r3 m_r3 cap_r3),.v (.slice a_r1 m_r1 cap_r1),.v (.slice a_r2 m_r2 cap_r2),.bool z44,.bool z45],arr a_r1 m_r1 cap_r1 131 1 (D.list 1 (D.list 1 D.i64)) l34,arr a_r2 m_r2 cap_r2 131 1 (D.list 1 (D.list 1 D.i64)) l35,bks a_r3 m_r3 cap_r3 43 3 1 D.i64 l36 q_r3]) rfl rfl ?_;refine zq2 ?_;obtain ⟨hg25,hm5⟩:=Aa hm5;refine zq3 ?_;exact ⟨_,((_,_),(),(),_),hm5,⟨rfl,trivial⟩,⟨rfl,rfl,rfl,trivial⟩,[],rfl⟩
      ·refine Ar ?_
       exact ⟨_,((_,_),(),(),_),Ac hj4,trivial,⟨rfl,rfl,rfl,trivial⟩,[],rfl⟩
     ·rintro ⟨l25,z31,z32,z33,z34,z35,l26,l27,l28⟩ ⟨⟨a_r4,cap_r4⟩,⟨⟩,⟨⟩,q_r3⟩ hst
      subst hst;refine Ao (L':=[(2,_),(7,_),(9,_)]) (ms':=[row a_r4 cap_r4 95 2 RSeq.d l25,box b1 133 [.list 4 ANd.d z31,.i64 z32,.i64 z33,.v (.slice a_r4 l25.length cap_r4),.v (.slice a_r3 m_r3 cap_r3),.v (.slice a_r1 m_r1 cap_r1),.v (.slice a_r2 m_r2 cap_r2),.bool z34,.bool z35],arr a_r1 m_r1 cap_r1 131 1 (D.list 1 (D.list 1 D.i64)) l26,arr a_r2 m_r2 cap_r2 131 1 (D.list 1 (D.list 1 D.i64)) l27,bks a_r3 m_r3 cap_r3 43 3 1 D.i64 l28 q_r3]) rfl rfl ?_;exact ⟨_,((_,_),(),(),_),hm4,⟨rfl,trivial⟩,⟨rfl,rfl,trivial⟩,[],rfl⟩
   ·refine Ar ?_
    exact ⟨_,((_,_),(),(),_),Ac hj2,trivial,⟨rfl,trivial⟩,[],rfl⟩
  ·rintro ⟨l9,z11,z12,z13,z14,z15,l10,l11,l12⟩ ⟨⟨a_r4,cap_r4⟩,⟨⟩,⟨⟩,q_r3⟩ hst
   subst hst;refine Ao (L':=[(7,_)]) (ms':=[row a_r4 cap_r4 95 2 RSeq.d l9,box b1 133 [.list 4 ANd.d z11,.i64 z12,.i64 z13,.v (.slice a_r4 l9.length cap_r4),.v (.slice a_r3 m_r3 cap_r3),.v (.slice a_r1 m_r1 cap_r1),.v (.slice a_r2 m_r2 cap_r2),.bool z14,.bool z15],arr a_r1 m_r1 cap_r1 131 1 (D.list 1 (D.list 1 D.i64)) l10,arr a_r2 m_r2 cap_r2 131 1 (D.list 1 (D.list 1 D.i64)) l11,bks a_r3 m_r3 cap_r3 43 3 1 D.i64 l12 q_r3]) rfl rfl ?_;refine zq5 ?_;refine Ae ?_;obtain rfl:=Ac hm2;exact retK (AT rfl (Bk rfl) (permA 1 rfl (permA 0 rfl (permA 2 rfl (permA 0 rfl (permA 0 rfl permN)))))) ⟨_,_,_,_,_,_,_,_,_,_,_,_,_,rfl,rfl⟩
def Bp (w1:Syntagmaref19World)  : Option Int:=
 bif w1.mixed then
  some 14
 else
  bif w1.fails then
   some 11
  else
   some 0
theorem Zq {w1:Syntagmaref19World}  {r_1:Int} {b_q0:Nat} {a_q0c3:Option Addr} {cap_q0c3:Nat} {a_q0c4:Option Addr} {m_q0c4:Nat} {cap_q0c4:Nat} {q_q0c4:(List ((List Int)×Option Addr×Nat))} {a_q0c5:Option Addr} {m_q0c5:Nat} {cap_q0c5:Nat} {a_q0c6:Option Addr} {m_q0c6:Nat} {cap_q0c6:Nat} (hm:Bp w1=some r_1):Go.V.Fn Tryz.prog 51 [.v (.pointer (some ⟨b_q0,0,none⟩))] [box b_q0 133 [.list 4 ANd.d w1.t.l,.i64 w1.t.root,.i64 w1.flex,.v (.slice a_q0c3 w1.all.length cap_q0c3),.v (.slice a_q0c4 m_q0c4 cap_q0c4),.v (.slice a_q0c5 m_q0c5 cap_q0c5),.v (.slice a_q0c6 m_q0c6 cap_q0c6),.bool w1.mixed,.bool w1.fails],row a_q0c3 cap_q0c3 95 2 RSeq.d w1.all,bks a_q0c4 m_q0c4 cap_q0c4 43 3 1 D.i64 w1.buckets q_q0c4,arr a_q0c5 m_q0c5 cap_q0c5 131 1 (D.list 1 (D.list 1 D.i64)) w1.below_,arr a_q0c6 m_q0c6 cap_q0c6 131 1 (D.list 1 (D.list 1 D.i64)) w1.above] (fun d ms'=>d = .i64 r_1/\ms'=[box b_q0 133 [.list 4 ANd.d w1.t.l,.i64 w1.t.root,.i64 w1.flex,.v (.slice a_q0c3 w1.all.length cap_q0c3),.v (.slice a_q0c4 m_q0c4 cap_q0c4),.v (.slice a_q0c5 m_q0c5 cap_q0c5),.v (.slice a_q0c6 m_q0c6 cap_q0c6),.bool w1.mixed,.bool w1.fails],row a_q0c3 cap_q0c3 95 2 RSeq.d w1.all,bks a_q0c4 m_q0c4 cap_q0c4 43 3 1 D.i64 w1.buckets q_q0c4,arr a_q0c5 m_q0c5 cap_q0c5 131 1 (D.list 1 (D.list 1 D.i64)) w1.below_,arr a_q0c6 m_q0c6 cap_q0c6 131 1 (D.list 1 (D.list 1 D.i64)) w1.above]):=by
 unfold Bp at hm;refine Ad func51 rfl ntmps51 rfl fun H0 fr w0=>?_;refine zq8 ?_;refine Al rfl rfl rfl (Ak rfl) ?_;refine zq3 ?_;refine zcn hm (fun hc1 hm=>?_) (fun hc1 hm=>?_)
 ·refine zq4 ?_
  refine Ae ?_;obtain rfl:=Ac hm;exact retK (AT rfl (Bk rfl) (permA 0 rfl (permA 0 rfl (permA 0 rfl (permA 0 rfl (permA 0 rfl permN)))))) ⟨rfl,rfl⟩
 ·refine zq5 ?_
  refine Al rfl rfl rfl (Ak rfl) ?_;refine zq3 ?_;refine zcn hm (fun hc2 hm=>?_) (fun hc2 hm=>?_)
  ·refine zq4 ?_
   refine Ae ?_;obtain rfl:=Ac hm;exact retK (AT rfl (Bk rfl) (permA 0 rfl (permA 0 rfl (permA 0 rfl (permA 0 rfl (permA 0 rfl permN)))))) ⟨rfl,rfl⟩
  ·refine zq5 ?_
   refine Ae ?_;obtain rfl:=Ac hm;exact retK (AT rfl (Bk rfl) (permA 0 rfl (permA 0 rfl (permA 0 rfl (permA 0 rfl (permA 0 rfl permN)))))) ⟨rfl,rfl⟩
def AC (s1:ATy) (t1:ATy):Option Bool:=
 (FG s1 t1).bind fun (x1,x2) =>
 grd (InR (x2+t1.root)) <|
 (BO (⟨x1.l,x1.root⟩:ATy) [(⟨[s1.root],[(x2+t1.root)]⟩:RSeq)] 1000).bind fun s2 =>
 (Bp (⟨(⟨s2.t.l,s2.t.root⟩:ATy),s2.flex,s2.all,s2.buckets,s2.below_,s2.above,s2.mixed,s2.fails⟩:Syntagmaref19World)).bind fun x3 =>
 some (decide (x3=0))
theorem CH {s1:ATy} {t1:ATy} {r_1:Bool} (hm:AC s1 t1=some r_1):Fn0 Tryz.prog 24 [ATy.d s1,ATy.d t1] (.bool r_1):=by
 unfold AC at hm;refine Ad func24 rfl ntmps24 rfl fun H0 fr w0=>?_;refine zq10 ?_;obtain ⟨⟨x1,x2⟩,hx1,hm⟩:=bS hm;refine zc0 (Pq hx1) ?_;refine zq3 ?_;refine JI fun b1=>?_;refine zst 0 ?_;refine Ah (ms':=[box b1 31 [_,_]]) rfl ?_;refine zq7 ?_;refine Al rfl rfl rfl (zs1 D.i64) ?_;refine zq3 ?_;obtain ⟨hg2,hm⟩:=Aa hm;refine zq1 ?_;refine Al rfl rfl rfl (zs1 D.i64) ?_;refine Al rfl rfl rfl zb95b ?_;refine Al rfl rfl rfl (Ap (xs:=[_]) (f:=RSeq.d) (l:=[(⟨[s1.root],[(x2+t1.root)]⟩:RSeq)]) runUnderlying96 sizeOf95 zeroValue95 rfl rfl rfl (fun _=>⟨rfl,rfl,rfl⟩) rfl) ?_;obtain ⟨s2,hx3,hm⟩:=bS hm;refine Az rfl rfl rfl (Em (ms₁:=[]) call50 rfl (List.Perm.refl _) (Hi hx3)) ?_;rintro _ _ ⟨_,⟨b2,a_r1,cap_r1,a_r2,m_r2,cap_r2,q_r2,a_r3,m_r3,cap_r3,a_r4,m_r4,cap_r4,rfl,rfl⟩,rfl⟩;refine zq5 ?_;obtain ⟨x3,hx4,hm⟩:=bS hm;refine Al rfl rfl rfl (BU [0,1,2,3,4] call51 rfl rfl (Am rfl (Am rfl (Am rfl (Am rfl (Am rfl Cm))))) (Zq hx4)) ?_;refine zq3 ?_
 cases hm;exact Ae zr1
noncomputable def Cg (a1:AutoAuto) (t1:ATy):Option Bool:=
 (B7).bind fun x1 =>
 bif (!x1) then
  some false
 else
  (Co a1 10).bind fun x2 =>
  (Gt (⟨t1.l,t1.root⟩:ATy) 6).bind fun x3 =>
  (CY (⟨x2.l,x2.start⟩:AutoAuto)).bind fun (x4,x5) =>
  (Cf (⟨x2.l,x2.start⟩:AutoAuto)).bind fun (x6,x7) =>
  (bif ((!decide (x5=0))||(!decide (x7=0))) then (some true) else ((Di (⟨x3.l,x3.root⟩:ATy)).bind fun x8 =>
  some (!x8))).bind fun p1 =>
  bif p1 then
   some (decide (x5=x7))
  else
   (BV (⟨x2.l,x2.start⟩:AutoAuto)).bind fun x9 =>
   (BF x9).bind fun x10 =>
   (AC x10 (⟨x3.l,x3.root⟩:ATy)).bind fun x11 =>
   (BV (⟨x4.l,x4.start⟩:AutoAuto)).bind fun x12 =>
   (BF x12).bind fun x13 =>
   (AC x13 (⟨x3.l,x3.root⟩:ATy)).bind fun x14 =>
   bif (x14 == x11) then ((BV (⟨x6.l,x6.start⟩:AutoAuto)).bind fun x15 =>
   (BF x15).bind fun x16 =>
   (AC x16 (⟨x3.l,x3.root⟩:ATy)).bind fun x17 =>
   some (x17 == x11)) else (some false)
theorem w_syntagmalaw28_VarsSame {a1:AutoAuto} {t1:ATy} {r_1:Bool} (hm:Cg a1 t1=some r_1):Fn0 Tryz.prog 4 [AutoAuto.d a1,ATy.d t1] (.bool r_1):=by
 unfold Cg at hm;refine Ad func4 rfl ntmps4 rfl fun H0 fr w0=>?_;refine zq3 ?_;refine Az rfl rfl rfl (GG rfl rfl rfl) ?_;rintro _ _ ⟨b1,rfl,rfl⟩;refine zq5 ?_;obtain ⟨x1,hx1,hm⟩:=bS hm;refine zc0 (He hx1) ?_;refine zq2 ?_;refine zcn hm (fun hc1 hm=>?_) (fun hc1 hm=>?_)
 ·refine zq4 ?_
  cases hm;exact Ae zr1
 ·refine zq4 ?_
  obtain ⟨x2,hx2,hm⟩:=bS hm;refine zc0 (Hw hx2) ?_;refine Eo fun b2=>?_;refine zst 0 ?_;refine Ah (ms':=[box b2 27 [_,_],box b1 31 [_,_]]) rfl ?_;refine zq4 ?_;obtain ⟨x3,hx3,hm⟩:=bS hm;refine zc0 (RK hx3) ?_;refine zst 1 ?_;refine Ah (ms':=[box b2 27 [_,_],box b1 31 [_,_]]) rfl ?_;refine zq4 ?_;obtain ⟨⟨x4,x5⟩,hx4,hm⟩:=bS hm;refine zc0 (JM hx4) ?_;refine zq3 ?_;refine Eo fun b3=>?_;refine zst 0 ?_;refine Ah (ms':=[box b3 27 [_,_],box b2 27 [_,_],box b1 31 [_,_]]) rfl ?_;refine zq5 ?_;obtain ⟨⟨x6,x7⟩,hx5,hm⟩:=bS hm;refine zc0 (H7 hx5) ?_;refine zq3 ?_;refine Eo fun b4=>?_;refine zst 0 ?_;refine Ah (ms':=[box b4 27 [_,_],box b3 27 [_,_],box b2 27 [_,_],box b1 31 [_,_]]) rfl ?_;refine zq8 ?_
  apply Cs [(3,_),(5,_),(6,_),(7,_),(8,_),(9,_)] 3 32 (t:=29) ⟨rfl,rfl,rfl,rfl,rfl,rfl,trivial⟩ rfl
  ·intro hg_1 hk1
   refine zq3 ?_;exact zgm hk1
  ·intro hg_1 hk1
   refine zq3 ?_;exact zgm hk1
  refine zq1 ?_;obtain ⟨p1,hp_2,hm⟩:=bS hm;refine A7 [(3,_),(5,_),(6,_),(7,_),(8,_),(9,_)] 4 37 p1 (t:=33) ⟨rfl,rfl,rfl,rfl,rfl,rfl,trivial⟩ rfl (fun hg_2 hk2=>?_) (fun hg_2 hk2=>?_) ?_
  ·replace hp_2:=A1 hg_2 hp_2
   refine zq4 ?_;exact zgb hk2 hp_2
  ·replace hp_2:=A0 hg_2 hp_2
   refine zq1 ?_;obtain ⟨x8,hx6,hp_2⟩:=bS hp_2;refine zcw (Kq hx6) ?_;refine zq2 ?_;exact zgb hk2 hp_2
  refine gNl ?_;refine zcn hm (fun hc2 hm=>?_) (fun hc2 hm=>?_)
  ·refine zq7 ?_
   cases hm;exact Ae zr1
  ·refine zq2 ?_
   obtain ⟨x9,hx7,hm⟩:=bS hm;obtain ⟨x10,hx8,hm⟩:=bS hm;obtain ⟨x11,hx9,hm⟩:=bS hm;refine zdr 6 ?_;refine zq1 ?_;refine zcd (Dz hx7) ?_;refine zcd (C0 hx8) ?_;refine zq1 ?_;refine zcd (CH hx9) ?_;refine zq4 ?_;obtain ⟨x12,hx10,hm⟩:=bS hm;obtain ⟨x13,hx11,hm⟩:=bS hm;obtain ⟨x14,hx12,hm⟩:=bS hm
   rcases D5 hm with ⟨hg_3,hm⟩ | ⟨hg_3,hm⟩
   ·
    skip
    obtain ⟨x15,hx13,hm⟩:=bS hm;obtain ⟨x16,hx14,hm⟩:=bS hm;obtain ⟨x17,hx15,hm⟩:=bS hm;refine zdr 17 ?_;refine zq1 ?_;refine zcd (Dz hx10) ?_;refine zcd (C0 hx11) ?_;refine zq1 ?_;refine zcd (CH hx12) ?_;refine zq4 ?_;refine zce (Dz hx13) ?_;refine zce (C0 hx14) ?_;refine zq1 ?_;refine zce (CH hx15) ?_;refine zq6 ?_
    cases hm;exact Ae zr1
   ·
    skip
    refine zdr 17 ?_;refine zq1 ?_;refine zcd (Dz hx10) ?_;refine zcd (C0 hx11) ?_;refine zq1 ?_;refine zcd (CH hx12) ?_;refine zq14 ?_
    cases hm;exact Ae zr1
end Go.Proofs.YtcoghblhdjmbfaaGreat
namespace Go.Proofs.YtcoghblhdjmbfaaGreat
open Go.V Tryz
open Classical
def SB (s:AutoState):Prop:=s.vars.length<=40/\s.fields.length<=40/\s.tags.length<=40
def AB (a:AutoAuto):Prop:=a.l.length<=2001/\∀ s∈a.l,SB s
theorem FUv:FU=18446744073709551616:=rfl
def nextP (s:AutoState):List Int:=(if s.arrow=true then [s.dom,s.cod] else [])++s.fields.map (·.to_)++s.tags.map (·.to_)
theorem Rr (s:AutoState) (h:SB s):(nextP s).length<=82:=by
 obtain ⟨h1,h2,h3⟩:=h;unfold nextP
 split <;> simp <;> omega
theorem M1 (l:List AutoEdge) (h:l.length<=40):C5 l=some (l.map (·.to_)):=by
 unfold C5;refine bnd (Dj (φ:=fun n i s=>DN l n (i,s)) (l:=l) (fun x=>x.to_) id 0 ?_ ?_ (by rw [FUv];omega) [] rfl) rfl
 ·intro n i x s hx hi hs
  simp only [DN];rw [dT (by omega),cT,getI hx,oB,Ab (by simp;omega),Ab (by omega)]
 ·intro n s hs
  simp only [DN];rw [dF (by omega),cF_];rfl
theorem LZ (ls:List (List Int)) (h:ls.length<=3) (h2:∀ l∈ls,l.length<=40):Kv ls=some ls.flatten:=by
 have hm:∀ {i:Nat} {x:List Int},ls[i]? = some x->x.length<=40:=fun hx=>h2 _ (List.mem_of_getElem? hx)
 unfold Kv
 have e1:=Jg (φ:=fun n i s=>Gq ls n (s,i)) (l:=ls) (fun i s=>0<=s/\s<=40*i) (fun _ s x=>s+(x.length:Int)) id (by
  intro n i x s hx hi hI
  have hm:=hm hx
  simp only [Gq];rw [dT (by omega),cT,getI hx,oB,Ab (by omega),dF (by omega),cF_,Ab (by omega)];exact ⟨rfl,by omega⟩) (by
  intro n s hI
  simp only [Gq];rw [dF (by omega),cF_];rfl) (by rw [FUv];omega) (fun _ t s=>t.foldl (fun s x=>s+(x.length:Int)) s) (fun _ _=>rfl) (fun _ _ _ _=>rfl) 0 (by omega)
 have e2:=Jg (φ:=fun n i s=>Gv ls n (i,s)) (l:=ls) (fun i s=>s.length<=40*i) (fun _ s x=>s++x) id (by
  intro n i x s hx hi hI
  have hm:=hm hx
  simp only [Gv];rw [dT (by omega),cT,getI hx,oB,Ab (by omega),Ab (by omega)];exact ⟨rfl,by simp;omega⟩) (by
  intro n s hI
  simp only [Gv];rw [dF (by omega),cF_];rfl) (by rw [FUv];omega) (fun _ t s=>s++t.flatten) (by simp) (by simp) [] (by simp)
 refine bnd e1.1 ?_
 have e3:=e1.2
 rw [id,Ab (by omega),Ab (by omega)];exact bnd e2.1 rfl
theorem Tu (s:AutoState) (h:SB s):Fh s=some (nextP s):=by
 obtain ⟨h1,h2,h3⟩:=h;unfold Fh;refine bnd (x:=if s.arrow=true then [s.dom,s.cod] else []) ?_ ?_
 ·cases s.arrow with
  | true=>rw [cT,Ab (by simp)];rfl
  | false=>rfl
 rw [M1 _ h2,oB,M1 _ h3,oB,LZ]
 ·simp [nextP]
 ·simp
 ·intro l hl
  simp only [List.mem_cons,List.not_mem_nil,or_false] at hl
  rcases hl with rfl | rfl | rfl
  ·split <;> simp
  ·simpa using h2
  ·simpa using h3
theorem Qn (l:List Int) (h:l.length<=100):Fx l=some l:=by
 unfold Fx;rw [Ab (by omega)];rfl
theorem Hu (a b:List Int) (h:a.length<=3000):Da a b=some (decide (a=b)):=by
 unfold Da;simp only [Bool.cond_eq_ite,Bool.not_eq_true',decide_eq_false_iff_not]
 by_cases hl:a.length=b.length
 ·rw [if_neg (by omega)]
  refine bnd (Hk (φ:=CI a b) (l:=a) false (fun i x=>b[i]? = some x) ?_ ?_ (by rw [FUv];omega)) ?_
  ·intro n i x hx hi
   simp only [CI]
   have hy:b[i]? = some b[i]:=List.getElem?_eq_getElem (by omega)
   rw [dT (by omega),cT,getI hx,oB,getI hy,oB,hy];simp only [Bool.cond_eq_ite,Bool.not_eq_true',decide_eq_false_iff_not]
   constructor
   ·intro h;rw [if_neg (by simpa using (Option.some.inj h).symm),Ab (by omega)]
   ·intro h;rw [if_pos (by intro h2;exact h (by rw [h2]))]
  ·intro n
   simp only [CI];rw [dF (by omega),cF_]
  ·by_cases h3:a=b
   ·subst h3
    rw [if_pos (fun i x h=>h),dT rfl];rfl
   ·rw [if_neg,dF h3];rfl
    intro h4
    refine h3 (List.ext_getElem? fun i=>?_)
    by_cases hi:i<a.length
    ·rw [h4 i a[i] (List.getElem?_eq_getElem hi),List.getElem?_eq_getElem hi]
    ·rw [List.getElem?_eq_none (by omega),List.getElem?_eq_none (by omega)]
 ·rw [if_pos (by omega),dF (fun h=>hl (by rw [h]))]
def F9 (c:UInt8):Bool:=(decide (97<=(c.toNat:Int))&&decide ((c.toNat:Int)<=122))||decide ((c.toNat:Int)=95)
def Gb (c:UInt8):Bool:=decide (65<=(c.toNat:Int))&&decide ((c.toNat:Int)<=90)
def moreB (c:UInt8):Bool:=(F9 c||Gb c)||(decide (48<=(c.toNat:Int))&&decide ((c.toNat:Int)<=57))
def wordP:List UInt8->Nat
 | []=>0
 | c::r=>if F9 c=true\/Gb c=true then 1+(r.takeWhile moreB).length else 0
theorem UX (c:UInt8) (r:List UInt8):wordP (c::r)=if F9 c=true\/Gb c=true then 1+(r.takeWhile moreB).length else 0:=rfl
theorem bt (b c:Bool):(bif b then some true else some c:Option Bool)=some (b||c):=by cases b <;> rfl
theorem bf (b c:Bool):(bif b then some c else some false:Option Bool)=some (b&&c):=by cases b <;> rfl
theorem Um (s:List UInt8) (h:s.length<=1000000000000):Fg s=some (wordP s:Int):=by
 unfold Fg
 rcases s with _ | ⟨c,r⟩
 ·rfl
 ·rw [dF (by simp),cF_,MK,oB]
  simp only [CX,Dy,oB,bf];rw [show (((decide (97<=(c.toNat:Int)))&&(decide ((c.toNat:Int)<=122)))||(decide ((c.toNat:Int)=95)))=F9 c from rfl,show ((decide (65<=(c.toNat:Int)))&&(decide ((c.toNat:Int)<=90)))=Gb c from rfl];rw [UX]
  cases h1:F9 c||Gb c with
  | false =>
   simp only [Bool.or_eq_false_iff] at h1;rw [h1.1,h1.2];simp
  | true =>
   rw [if_pos (by simpa using h1)]
   have:(!F9 c && !Gb c)=false:=by cases hs:F9 c <;> cases hg:Gb c <;> simp_all
   rw [this,cF_];simp only [List.length_cons] at h;refine bnd (O6 (φ:=Dp (c::r)) (l:=c::r) moreB (fun i=>(i:Int)) ?_ ?_ FU 1 (by simp) (by rw [FUv];simp;omega)) rfl
   ·intro n i x hx hi
    simp only [List.length_cons] at hi;simp only [Dp];rw [dT (by simp only [List.length_cons];omega),cT,getI hx,oB];simp only [F7,CX,Dy,oB,bt]
    constructor
    ·intro hq
     simp only [moreB,F9,Gb] at hq;rw [hq,cT,Ab (by omega)]
    ·intro hq
     simp only [moreB,F9,Gb] at hq;rw [hq,cF_]
   ·intro n
    simp only [Dp];rw [dF (by omega),cF_,oB,cF_]
def keysL:List (List UInt8):=match DI with | some l=>l | none=>[]
theorem Ul:DI=some keysL:=rfl
theorem RM (l:List (List UInt8)) (s:List UInt8) (h:l.length<=1000):Ot l s=some (decide (s∈l)):=by
 unfold Ot Qp
 have e:=E5 (φ:=Gs l s) (l:=l) (fun i=>(i:Int)) (fun x=>decide (s=x)) (by
  intro n i x hx hi
  simp only [Gs];rw [dT (show (i:Int)<l.length by omega),cT,getI hx,oB]
  constructor
  ·intro hq;rw [show decide (s=x)=false from by simpa using hq,cF_,Ab (by omega)]
  ·intro hq;rw [show decide (s=x)=true from by simpa using hq,cT]) (by
  intro n
  simp only [Gs];rw [dF (by omega),cF_]) (by rw [FUv];omega)
 rw [Fc e]
 cases hf:l.findIdx? (fun x=>decide (s=x)) with
 | none =>
  rw [List.findIdx?_eq_none_iff] at hf
  show some (decide _)=_
  congr 1
  rw [dF (by omega),dF]
  intro hs
  have:=hf s hs
  simp at this
 | some k =>
  rw [List.findIdx?_eq_some_iff_getElem] at hf;obtain ⟨hk,h1,_⟩:=hf
  show some (decide _)=_
  congr 1
  rw [dT (by omega),dT];simp only [decide_eq_true_eq] at h1;rw [h1];exact List.getElem_mem hk
theorem Rp (l:List (List UInt8)) (s:List UInt8) (h:l.length<=1000):IV s l=some (decide (s∈l)):=by
 unfold IV;refine bnd (IN (φ:=E6 s l) (l:=l) true (fun _ x=>x=s) ?_ ?_ (by rw [FUv];omega)) ?_
 ·intro n i x hx hi
  simp only [E6];rw [dT (by omega),cT,getI hx,oB]
  constructor
  ·intro hq;rw [dF hq,cF_,Ab (by omega)]
  ·intro hq;rw [dT hq,cT]
 ·intro n
  simp only [E6];rw [dF (by omega),cF_]
 ·by_cases hs:s∈l
  ·obtain ⟨i,hi,h2⟩:=List.getElem_of_mem hs
   rw [if_pos ⟨i,s,by rw [<- h2];exact List.getElem?_eq_getElem hi,rfl⟩,dT hs];rfl
  ·rw [if_neg,dF hs];rfl
   rintro ⟨i,x,h1,rfl⟩;exact hs (List.mem_of_getElem? h1)
def HF (s:List UInt8):Bool:=decide (s≠[])&&decide (s.length<=20)&&decide (wordP s=s.length)
def headP (p:UInt8->Bool):List UInt8->Bool
 | []=>false
 | c::_=>p c
def nameP (s:List UInt8):Bool:=HF s&&headP F9 s && !decide (s∈keysL)
def tagP (s:List UInt8):Bool:=HF s&&headP Gb s
theorem Ob (s:List UInt8):D7 s=some (HF s):=by
 unfold D7 HF
 by_cases h1:s=[]
 ·subst h1;rfl
 by_cases h2:s.length<=20
 ·rw [dF h1,dT (show (s.length:Int)<=20 by omega),Um s (by omega)]
  simp only [Bool.not_false,Bool.true_and,cT,oB,dT (show s≠[] from h1),dT h2]
  congr 1
  exact decide_eq_decide.2 (by omega)
 ·rw [dF (show ¬ (s.length:Int)<=20 by omega),dF h2];simp
theorem Qm (s:List UInt8):D6 s=some (nameP s):=by
 unfold D6 nameP;rw [Ob,oB]
 cases hw:HF s with
 | false=>rfl
 | true =>
  rcases s with _ | ⟨c,r⟩
  ·simp [HF] at hw
  ·rw [cT,MK,oB]
   simp only [CX,oB,EN,Ul,Bool.true_and];rw [RM _ _ (by decide),oB,oB,bf,oB];rfl
theorem R2 (s:List UInt8):Ev s=some (tagP s):=by
 unfold Ev tagP;rw [Ob,oB]
 cases hw:HF s with
 | false=>rfl
 | true =>
  rcases s with _ | ⟨c,r⟩
  ·simp [HF] at hw
  ·rw [cT,MK,oB];rfl
end Go.Proofs.YtcoghblhdjmbfaaGreat
namespace Go.Proofs.YtcoghblhdjmbfaaGreat
open Go.V Tryz
open Classical
def onP (a:AutoAuto) (k:Int) (p:Bool):Bool:=match idx a.l k with | some s=>s.plus == p | none=>false
theorem Qw (a:AutoAuto) (k:Int) (p:Bool):Cj a k p=some (onP a k p):=by
 unfold Cj onP
 by_cases h:0<=k/\k<(a.l.length:Int)
 ·rw [dT h.1,dT h.2]
  have hx:idx a.l k=some a.l[k.toNat]:=by
   unfold idx;rw [if_pos h.1];exact List.getElem?_eq_getElem (by omega)
  rw [hx];rfl
 ·have hx:idx a.l k=none:=by
   unfold idx
   split
   ·exact List.getElem?_eq_none (by omega)
   ·rfl
  rw [hx]
  have:(decide (0<=k)&&decide (k<(a.l.length:Int)))=false:=by
   rw [Bool.and_eq_false_iff,decide_eq_false_iff_not,decide_eq_false_iff_not];omega
  rw [this];rfl
def bareP (s:AutoState):Bool := !(s.all&&((((((s.int||s.bool)||s.str)||s.arrow)||s.rec_)||s.tag)||(decide (0<(s.vars.length:Int))))) && !((!s.arrow)&&((!decide (s.dom=0))||(!decide (s.cod=0))))&&((s.rec_||(decide ((s.fields.length:Int)=0)))&&(s.tag||(decide ((s.tags.length:Int)=0))))
theorem TC (s:AutoState):Fi s=some (bareP s):=by
 unfold Fi bareP
 cases (s.all&&((((((s.int||s.bool)||s.str)||s.arrow)||s.rec_)||s.tag)||(decide (0<(s.vars.length:Int))))) with
 | true=>rfl
 | false =>
  cases ((!s.arrow)&&((!decide (s.dom=0))||(!decide (s.cod=0)))) <;> rfl
def numP (l:List Int) (i:Nat) (x:Int):Prop:=0<=x/\x<=999/\(0<i->∀ y,l[i - 1]? = some y->y<x)
theorem prev {α:Type} {l:List α} {i:Nat} {x:α} (hx:l[i]? = some x) (h0:0<i):∃ y,l[i - 1]? = some y/\idx l ((i:Int) - 1)=some y:=by
 have:=getLt hx
 refine ⟨l[i - 1],List.getElem?_eq_getElem (by omega),?_⟩;rw [show (i:Int) - 1=((i - 1:Nat):Int) by omega,MN];exact List.getElem?_eq_getElem (by omega)
theorem NP (l:List Int) (h:l.length<=40):DK l=some (decide (∀ i x,l[i]? = some x->numP l i x)):=by
 unfold DK;refine bnd (Hk (φ:=B9 l) (l:=l) false (numP l) ?_ ?_ (by rw [FUv];omega)) ?_
 ·intro n i x hx hi
  simp only [B9];rw [dT (show (i:Int)<l.length by omega),cT,getI hx,oB]
  by_cases h1:x<0\/999<x
  ·rw [show (decide (x<0)||decide (999<x))=true by simpa using h1,cT,oB,cT]
   exact ⟨fun hq=>by obtain ⟨h2,h3,_⟩:=hq;omega,fun _=>rfl⟩
  ·rw [show (decide (x<0)||decide (999<x))=false by simpa using h1,cF_]
   by_cases h0:0<i
   ·obtain ⟨y,hy,hy2⟩:=prev hx h0
    rw [dT (show 0<(i:Int) by omega),cT,Ab (by omega),hy2];simp only [oB]
    by_cases h2:x<=y
    ·rw [dT h2,cT]
     exact ⟨fun hq=>by have:=hq.2.2 h0 y hy;omega,fun _=>rfl⟩
    ·rw [dF h2,cF_,Ab (by omega)]
     refine ⟨fun _=>rfl,fun hq=>absurd ⟨by omega,by omega,fun _ z hz=>?_⟩ hq⟩;rw [hy] at hz
     have:=Option.some.inj hz
     omega
   ·rw [dF (show ¬ 0<(i:Int) by omega),cF_]
    rw [oB,oB,cF_,Ab (by omega)];exact ⟨fun _=>rfl,fun hq=>absurd ⟨by omega,by omega,fun h3=>absurd h3 h0⟩ hq⟩
 ·intro n
  simp only [B9];rw [dF (by omega),cF_]
 ·by_cases hp:∀ i x,l[i]? = some x->numP l i x
  ·rw [if_pos hp,dT hp];rfl
  ·rw [if_neg hp,dF hp];rfl
def edgeP (isN:List UInt8->Bool) (l:List AutoEdge) (i:Nat) (x:AutoEdge):Prop:=isN x.name=true/\(0<i->∀ y,l[i - 1]? = some y->Op.bytesLess y.name x.name=true)
def GJ (isN:List UInt8->Bool) (l:List AutoEdge):Prop:=(∀ i x,l[i]? = some x->edgeP isN l i x)/\l.length<=30
theorem Oz (l:List AutoEdge) (f:List UInt8->Option Bool) (isN:List UInt8->Bool) (hf:∀ s,f s=some (isN s)) (h:l.length<=40):Ec l f=some (decide (GJ isN l)):=by
 unfold Ec;refine bnd (Hk (φ:=Cv l f) (l:=l) false (edgeP isN l) ?_ ?_ (by rw [FUv];omega)) ?_
 ·intro n i x hx hi
  simp only [Cv];rw [dT (show (i:Int)<l.length by omega),cT,getI hx,oB,hf,oB]
  cases h1:isN x.name with
  | false=>exact ⟨fun hq=>absurd hq.1 (by rw [h1];simp),fun _=>rfl⟩
  | true =>
   rw [Bool.not_true,cF_]
   by_cases h0:0<i
   ·obtain ⟨y,hy,hy2⟩:=prev hx h0
    rw [dT (show 0<(i:Int) by omega),cT,Ab (by omega),hy2];simp only [oB]
    cases h2:Op.bytesLess y.name x.name with
    | false =>
     rw [Bool.not_false,cT];exact ⟨fun hq=>absurd (hq.2 h0 y hy) (by rw [h2];simp),fun _=>rfl⟩
    | true =>
     rw [Bool.not_true,cF_,Ab (by omega)];refine ⟨fun _=>rfl,fun hq=>absurd ⟨h1,fun _ z hz=>?_⟩ hq⟩;rw [hy] at hz;rw [<- Option.some.inj hz];exact h2
   ·rw [dF (show ¬ 0<(i:Int) by omega),cF_,Ab (by omega)]
    exact ⟨fun _=>rfl,fun hq=>absurd ⟨h1,fun h3=>absurd h3 h0⟩ hq⟩
 ·intro n
  simp only [Cv];rw [dF (by omega),cF_]
 ·by_cases hp:∀ i x,l[i]? = some x->edgeP isN l i x
  ·rw [if_pos hp]
   show some (decide _)=_
   congr 1
   exact decide_eq_decide.2 ⟨fun h2=>⟨hp,by omega⟩,fun h2=>by have:=h2.2;omega⟩
  ·rw [if_neg hp,dF (p:=GJ isN l) (fun h2=>hp h2.1)];rfl
end Go.Proofs.YtcoghblhdjmbfaaGreat
namespace Go.Proofs.YtcoghblhdjmbfaaGreat
open Go.V Tryz
open Classical
theorem OQ {α:Type} (l:List α) (p:α->Bool):(decide ((0:Int)<=(match l.findIdx? p with | some i=>(i:Int) | none => -1)))=l.any p:=by
 cases hf:l.findIdx? p with
 | none =>
  rw [List.findIdx?_eq_none_iff] at hf;rw [dF (by simp)]
  symm
  rw [List.any_eq_false]
  intro x hx
  rw [hf x hx];simp
 | some k =>
  rw [List.findIdx?_eq_some_iff_getElem] at hf;obtain ⟨hk,h1,_⟩:=hf;rw [dT (by simp)]
  symm
  rw [List.any_eq_true];exact ⟨_,List.getElem_mem hk,h1⟩
theorem QQ (l:List Int) (f:Int->Option Bool) (p:Int->Bool) (hf:∀ x,f x=some (p x)) (h:l.length<=100000):IS l f=some (l.any p):=by
 unfold IS Ny
 have e:=E5 (φ:=ER l f) (l:=l) (fun i=>(i:Int)) p (by
  intro n i x hx hi
  simp only [ER];rw [dT (show (i:Int)<l.length by omega),cT,getI hx,oB,hf,oB]
  constructor
  ·intro hq;rw [hq,cF_,Ab (by omega)]
  ·intro hq;rw [hq,cT]) (by
  intro n
  simp only [ER];rw [dF (by omega),cF_]) (by rw [FUv];omega)
 rw [Fc e,<- OQ]
 cases l.findIdx? p <;> rfl
theorem NE (l:List AutoState) (f:AutoState->Option Bool) (p:AutoState->Bool) (hf:∀ x∈l,f x=some (p x)) (h:l.length<=100000):AF l f=some (l.any p):=by
 unfold AF AZ
 have e:=E5 (φ:=Ay l f) (l:=l) (fun i=>(i:Int)) p (by
  intro n i x hx hi
  simp only [Ay];rw [dT (show (i:Int)<l.length by omega),cT,getI hx,oB,hf x (List.mem_of_getElem? hx),oB]
  constructor
  ·intro hq;rw [hq,cF_,Ab (by omega)]
  ·intro hq;rw [hq,cT]) (by
  intro n
  simp only [Ay];rw [dF (by omega),cF_]) (by rw [FUv];omega)
 rw [Fc e,<- OQ]
 cases l.findIdx? p <;> rfl
def sideP (s:AutoState) (i:Nat):Bool:=bif s.arrow&&decide (i=0) then !s.plus else s.plus
def leadP (a:AutoAuto) (s:AutoState):Prop:=∀ i x,(nextP s)[i]? = some x->onP a x (sideP s i)=true
def Fa (a:AutoAuto) (s:AutoState):Prop:=bareP s=true/\(∀ i x,s.vars[i]? = some x->numP s.vars i x)/\GJ nameP s.fields/\GJ tagP s.tags/\leadP a s
theorem F6 (a:AutoAuto) (s:AutoState) (h:s.arrow=true):leadP a s↔onP a s.dom (!s.plus)=true/\onP a s.cod s.plus=true/\∀ x∈s.fields.map (·.to_)++s.tags.map (·.to_),onP a x s.plus=true:=by
 unfold leadP nextP sideP;rw [if_pos h,h];simp only [List.cons_append,List.nil_append,Bool.true_and]
 constructor
 ·intro hh
  refine ⟨by simpa using hh 0 s.dom rfl,by simpa using hh 1 s.cod rfl,fun x hx=>?_⟩;obtain ⟨k,hk,hk2⟩:=List.getElem_of_mem hx
  have:=hh (k+2) x (by rw [<- hk2];exact List.getElem?_eq_getElem hk)
  simpa using this
 ·rintro ⟨h1,h2,h3⟩ i x hx
  match i,hx with
  | 0,hx=>rw [<- Option.some.inj hx];simpa using h1
  | 1,hx=>rw [<- Option.some.inj hx];simpa using h2
  | k+2,hx=>simpa using h3 x (List.mem_of_getElem? (by simpa using hx))
theorem N7 (a:AutoAuto) (s:AutoState) (h:s.arrow=false):leadP a s↔∀ x∈s.fields.map (·.to_)++s.tags.map (·.to_),onP a x s.plus=true:=by
 unfold leadP nextP sideP;rw [if_neg (by rw [h];simp),h];simp only [List.nil_append,Bool.false_and,cF_]
 constructor
 ·intro hh x hx
  obtain ⟨k,hk,hk2⟩:=List.getElem_of_mem hx;exact hh k x (by rw [<- hk2];exact List.getElem?_eq_getElem hk)
 ·intro hh i x hx
  exact hh x (List.mem_of_getElem? hx)
theorem PX {α:Type} (l:List α) (p:α->Bool):(!l.any (fun x => !p x))=decide (∀ x∈l,p x=true):=by
 rw [Bool.eq_iff_iff]
 simp
theorem SZ (a:AutoAuto) (s:AutoState) (h:SB s):CZ a s=some (decide (Fa a s)):=by
 obtain ⟨h1,h2,h3⟩:=h;unfold CZ;rw [TC,oB,NP _ h1,Oz _ _ nameP Qm h2,Oz _ _ tagP R2 h3]
 by_cases c1:bareP s=true
 rotate_left
 ·rw [Bool.not_eq_true] at c1
  rw [c1,dF (p:=Fa a s) (fun h=>by have:=h.1;rw [c1] at this;simp at this)];rfl
 by_cases c2:∀ i x,s.vars[i]? = some x->numP s.vars i x
 rotate_left
 ·rw [c1,dF c2,dF (p:=Fa a s) (fun h=>c2 h.2.1)];rfl
 by_cases c3:GJ nameP s.fields
 rotate_left
 ·rw [c1,dT c2,dF c3,dF (p:=Fa a s) (fun h=>c3 h.2.2.1)];rfl
 by_cases c4:GJ tagP s.tags
 rotate_left
 ·rw [c1,dT c2,dT c3,dF c4,dF (p:=Fa a s) (fun h=>c4 h.2.2.2.1)];rfl
 rw [c1,dT c2,dT c3,dT c4];simp only [Bool.not_true,cF_,oB]
 have e:decide (Fa a s)=decide (leadP a s):=decide_eq_decide.2 ⟨fun h=>h.2.2.2.2,fun h=>⟨c1,c2,c3,c4,h⟩⟩
 rw [e]
 have e2:((C5 s.fields).bind fun x7=>(C5 s.tags).bind fun x8=>(Kv [x7,x8]).bind fun x9=>(IS x9 (fun y0=>CB y0 a s)).bind fun x10=>some (!x10))=some (decide (∀ x∈s.fields.map (·.to_)++s.tags.map (·.to_),onP a x s.plus=true)):=by
  rw [M1 _ h2,oB,M1 _ h3,oB,LZ _ (by simp) (by
   intro l hl
   simp only [List.mem_cons,List.not_mem_nil,or_false] at hl
   rcases hl with rfl | rfl
   ·simpa using h2
   ·simpa using h3),oB,QQ _ _ (fun x => !onP a x s.plus) (fun x=>by rw [CB,Qw];rfl) (by simp;omega),oB,PX]
  simp
 cases ha:s.arrow with
 | false =>
  rw [cF_,oB,cF_,e2]
  congr 1
  exact decide_eq_decide.2 (N7 a s ha).symm
 | true =>
  rw [cT,Qw,oB,Qw,decide_eq_decide.2 (F6 a s ha)]
  have e3:decide (onP a s.dom (!s.plus)=true/\onP a s.cod s.plus=true/\∀ x∈s.fields.map (·.to_)++s.tags.map (·.to_),onP a x s.plus=true)=(onP a s.dom (!s.plus)&&(onP a s.cod s.plus&&decide (∀ x∈s.fields.map (·.to_)++s.tags.map (·.to_),onP a x s.plus=true))):=by
   rw [Bool.eq_iff_iff,decide_eq_true_eq,Bool.and_eq_true,Bool.and_eq_true,decide_eq_true_eq]
  rw [e3]
  cases onP a s.dom (!s.plus) with
  | false=>rfl
  | true =>
   cases onP a s.cod s.plus with
   | false=>rfl
   | true=>exact e2
noncomputable def mayP (a:AutoAuto):Int:=if a.l.length=0\/2000<a.l.length then 8 else if (∀ s∈a.l,Fa a s)/\onP a a.start true=true then 0 else 4
theorem Pz (a:AutoAuto) (h:AB a):E7 a=some (mayP a):=by
 obtain ⟨h1,h2⟩:=h;unfold E7 mayP
 by_cases c0:a.l.length=0\/2000<a.l.length
 ·rw [if_pos c0,show (decide ((a.l.length:Int)=0)||decide (2000<(a.l.length:Int)))=true by rw [Bool.or_eq_true,decide_eq_true_eq,decide_eq_true_eq];omega,cT]
 rw [if_neg c0,show (decide ((a.l.length:Int)=0)||decide (2000<(a.l.length:Int)))=false by rw [Bool.or_eq_false_iff,decide_eq_false_iff_not,decide_eq_false_iff_not];omega,cF_,Qw,oB]
 have e:=NE a.l (fun y0=>EQ y0 a) (fun s => !decide (Fa a s)) (by
  intro s hs
  rw [EQ,SZ _ _ (h2 s hs)];rfl) (by omega)
 rw [e]
 have e2:(a.l.any fun s => !decide (Fa a s)) = !decide (∀ s∈a.l,Fa a s):=by
  rw [<- Bool.not_not (b:=a.l.any _),PX]
  congr 1
  exact decide_eq_decide.2 (by simp)
 rw [e2,oB,bt,oB]
 cases hb:onP a a.start true with
 | false=>rw [if_neg (by simp)];rfl
 | true =>
  by_cases hc:∀ s∈a.l,Fa a s
  ·rw [dT hc,if_pos ⟨hc,rfl⟩];rfl
  ·rw [dF hc,if_neg (fun h=>hc h.1)];rfl
end Go.Proofs.YtcoghblhdjmbfaaGreat
namespace Go.Proofs.YtcoghblhdjmbfaaGreat
open Go.V Tryz
open Classical
def st0:AutoState:=⟨false,false,false,false,false,false,false,false,[],0,0,[],[]⟩
def stA (a:AutoAuto) (k:Int):AutoState:=(idx a.l k).getD st0
def nxA (a:AutoAuto) (k:Int):List Int:=nextP (stA a k)
def tm (to:List Int) (k:Int):Int:=(idx to k).getD 0
def edgeM (to:List Int) (x:AutoEdge):AutoEdge:=⟨x.name,tm to x.to_⟩
def El (to:List Int) (s:AutoState):AutoState:=⟨s.plus,s.all,s.int,s.bool,s.str,s.arrow,s.rec_,s.tag,s.vars,if s.arrow=true then tm to s.dom else s.dom,if s.arrow=true then tm to s.cod else s.cod,s.fields.map (edgeM to),s.tags.map (edgeM to)⟩
def Bv (a:AutoAuto):List Int:=bfs (nxA a) a.l.length 0 [a.start]
def toP (a:AutoAuto):List Int:=E9 0 (Bv a) (List.replicate a.l.length 0)
def normP (a:AutoAuto):AutoAuto:=⟨(Bv a).map (fun k=>El (toP a) (stA a k)),0⟩
structure Led (a:AutoAuto):Prop where
 ab:AB a
 led:∀ k s,idx a.l k=some s->inN a.l.length (nextP s)
 st:0<=a.start/\a.start<(a.l.length:Int)
theorem OY {α:Type} {l:List α} {k:Int} (h0:0<=k) (h:k<(l.length:Int)):∃ x,idx l k=some x/\x∈l:=by
 unfold idx;rw [if_pos h0];exact ⟨l[k.toNat],List.getElem?_eq_getElem (by omega),List.getElem_mem (by omega)⟩
theorem SJ {α:Type} {l:List α} {k:Int} {x:α} (h:idx l k=some x):0<=k/\k<(l.length:Int):=by
 obtain ⟨h0,h1⟩:=Au h
 have:=getLt h1
 omega
theorem M2 {to:List Int} {k:Int} (h0:0<=k) (h:k<(to.length:Int)):idx to k=some (tm to k):=by
 obtain ⟨x,hx,_⟩:=OY h0 h;rw [tm,hx];rfl
theorem Na {a:AutoAuto} {k:Int} (h0:0<=k) (h:k<(a.l.length:Int)):idx a.l k=some (stA a k):=by
 obtain ⟨x,hx,_⟩:=OY h0 h;rw [stA,hx];rfl
theorem Kh {a:AutoAuto} {k:Int} (h0:0<=k) (h:k<(a.l.length:Int)):stA a k∈a.l:=by
 obtain ⟨x,hx,h2⟩:=OY h0 h;rw [stA,hx];exact h2
section
variable {a:AutoAuto} (ha:Led a)
include ha
theorem M7 (x:Int) (h0:0<=x) (h:x<(a.l.length:Int)):inN a.l.length (nxA a x):=ha.led x _ (Na h0 h)
theorem Of:inN a.l.length [a.start]:=by
 intro x hx
 simp only [List.mem_singleton] at hx;subst hx;exact ha.st
theorem B8:(Bv a).Nodup/\inN a.l.length (Bv a)/\(∃ e,Bv a=[a.start]++e)/\(∀ (j:Nat) x,0<=j->(Bv a)[j]? = some x->∀ y∈nxA a x,y∈Bv a):=
 S2 (M7 ha) a.l.length 0 [a.start] (by omega) (by simp) (by simp) (Of ha)
theorem LH:(Bv a).length<=2001:=by
 have:=EA _ _ (B8 ha).1 (B8 ha).2.1
 have:=ha.ab.1
 omega
end
theorem U1 {a:AutoAuto} (_:Led a):(toP a).length=a.l.length:=by unfold toP;rw [Kt];simp
def GY (N:Nat) (l:List Int) (s:List Bool):Prop:=s.length=N/\∀ k:Nat,k<N->s[k]? = some (decide ((k:Int)∈l))
theorem NA {N:Nat} {l:List Int} {s:List Bool} {x:Int} (h:GY N l s) (h0:0<=x) (h1:x<(N:Int)):idx s x=some (decide (x∈l)):=by
 have:=h.2 x.toNat (by omega)
 unfold idx;rw [if_pos h0,this,show ((x.toNat:Nat):Int)=x by omega]
theorem Oe {N:Nat} {l:List Int} {s:List Bool} {x:Int} (h:GY N l s) (h0:0<=x) (h1:x<(N:Int)):GY N (l++[x]) (s.set x.toNat true):=by
 refine ⟨by simp [h.1],fun k hk=>?_⟩
 by_cases e:x.toNat=k
 ·rw [<- e,List.getElem?_set_self (by rw [h.1];omega)]
  congr 1
  symm
  rw [decide_eq_true_eq]
  simp;omega
 ·rw [List.getElem?_set_ne e,h.2 k hk]
  congr 1
  refine decide_eq_decide.2 ?_;simp only [List.mem_append,List.mem_singleton];exact ⟨fun h => .inl h,fun h=>h.elim id (fun h=>absurd h (by omega))⟩
theorem LD {N:Nat} (hN:N<=3000) (pre w nx:List Int) (seen:List Bool) (hs:GY N (pre++w) seen) (hn:inN N nx) (hd:(pre++w).Nodup) (hr:inN N (pre++w)) (hlen:nx.length<=100) :
  ∃ w' seen',CW nx FU (0,w,seen)=some (w',seen')/\pre++w'=addL (pre++w) nx/\GY N (pre++w') seen':=by
 obtain ⟨⟨w',seen'⟩,h1,h2⟩:=A2 (φ:=fun n i s=>CW nx n (i,s.1,s.2)) (l:=nx) (fun i s=>pre++s.1=addL (pre++w) (nx.take i)/\GY N (pre++s.1) s.2) (fun o=>pre++o.1=addL (pre++w) nx/\GY N (pre++o.1) o.2) (by
  rintro n i x ⟨v,s⟩ hx hi ⟨hI1,hI2⟩
  left
  have hxr:=hn x (List.mem_of_getElem? hx)
  have hnt:inN N (nx.take i):=fun y hy=>hn y (List.mem_of_mem_take hy)
  have hb:(pre++v).length<=N:=by rw [hI1];exact SL hr hnt hd
  simp only [CW];rw [dT (show (i:Int)<nx.length by omega),cT,getI hx,oB,NA hI2 hxr.1 hxr.2,oB]
  by_cases hm:x∈pre++v
  ·rw [dT hm,Bool.not_true,cF_,Ab (by omega)]
   refine ⟨(v,s),rfl,?_,hI2⟩;rw [Js hx,Mo,<- hI1,if_pos hm]
  ·rw [dF hm,Bool.not_false,cT,oB,Ab (by simp only [List.length_append] at hb;simp only [List.length_cons,List.length_nil];omega),Ab (by omega)]
   refine ⟨(v++[x],s.set x.toNat true),rfl,?_,?_⟩
   ·rw [Js hx,Mo,<- hI1,if_neg hm,List.append_assoc]
   ·rw [<- List.append_assoc]
    exact Oe hI2 hxr.1 hxr.2) (by
  rintro n ⟨v,s⟩ ⟨hI1,hI2⟩;simp only [CW];rw [dF (by omega),cF_];rw [List.take_length] at hI1;exact ⟨_,rfl,hI1,hI2⟩) (by rw [FUv];omega) (w,seen) ⟨by simp [Ln],hs⟩
 exact ⟨w',seen',h1,h2⟩
theorem KB {α:Type} {l:List α} {i:Nat} {x:α} (h:l[i]? = some x):l.drop i=x::l.drop (i+1):=by
 obtain ⟨hi,hx⟩:=List.getElem?_eq_some_iff.1 h;rw [List.drop_eq_getElem_cons hi,hx]
theorem Lz {a:AutoAuto} (ha:Led a):∀ (m i:Nat) (l:List Int) (n:Nat) (seen:List Bool),a.l.length<=i+m->i<=l.length->l.Nodup->inN a.l.length l->m<n->GY a.l.length l seen->EP a n (l.drop i,seen)=some ((bfs (nxA a) m i l).drop i):=by
 intro m
 induction m with
 | zero =>
  intro i l n seen hN hi hd hr hn hs
  have:=EA _ _ hd hr
  obtain ⟨n,rfl⟩:∃ k,n=k+1:=⟨n - 1,by omega⟩;rw [show l.drop i=[] from List.drop_eq_nil_of_le (by omega),show (bfs (nxA a) 0 i l).drop i=[] from List.drop_eq_nil_of_le (by simp only [bfs];omega)]
  rfl
 | succ m ih =>
  intro i l n seen hN hi hd hr hn hs
  obtain ⟨n,rfl⟩:∃ k,n=k+1:=⟨n - 1,by omega⟩
  cases hx:l[i]? with
  | none =>
   have:=List.getElem?_eq_none_iff.1 hx
   rw [NC hx,show l.drop i=[] from List.drop_eq_nil_of_le (by omega)]
   rfl
  | some x =>
   have hxr:=hr x (List.mem_of_getElem? hx)
   have hil:=getLt hx
   have hin:=M7 ha x hxr.1 hxr.2
   have hSB:=ha.ab.2 _ (Kh hxr.1 hxr.2)
   have hl:=Rr _ hSB
   have hbig:=ha.ab.1
   obtain ⟨w',seen',h1,h2,h3⟩:=LD (N:=a.l.length) (by omega) (l.take (i+1)) (l.drop (i+1)) (nxA a x) seen (by rw [List.take_append_drop];exact hs) hin (by rw [List.take_append_drop];exact hd) (by rw [List.take_append_drop];exact hr) (by unfold nxA;omega);rw [List.take_append_drop] at h2;obtain ⟨e,he⟩:=I5 (nxA a x) l
   have hw:w'=(addL l (nxA a x)).drop (i+1):=by
    rw [<- h2,List.drop_append_of_le_length (by simp;omega)]
    simp
   rw [Od hx,KB hx];simp only [EP];rw [dT (by simp only [List.length_cons];omega),cT,MK,oB]
   have hsli:sli (x::l.drop (i+1)) 1 ((x::l.drop (i+1)).length:Int)=some (l.drop (i+1)):=by
    have:=It (l:=x::l.drop (i+1)) (i:=1) rfl (by simp)
    simpa using this
   have ih2:=ih (i+1) (addL l (nxA a x)) n seen' (by omega) (by rw [he];simp;omega) (E3 _ _ hd) (Kk hr hin) (by omega) (by rw [<- h2];exact h3)
   rw [hsli,oB,Na hxr.1 hxr.2,oB,Tu _ hSB,oB,show nextP (stA a x)=nxA a x from rfl,h1,oB,hw]
   simp only
   rw [ih2,oB]
   have hok:=S2 (M7 ha) m (i+1) (addL l (nxA a x)) (by omega) (by rw [he];simp;omega) (E3 _ _ hd) (Kk hr hin)
   obtain ⟨_,_,⟨e2,h4⟩,_⟩:=hok;rw [<- KB];rw [h4,he,List.append_assoc,List.getElem?_append_left hil,hx]
theorem Po {a:AutoAuto} (ha:Led a):FA a=some (Bv a):=by
 have hb:=ha.ab.1
 have hst:=ha.st
 unfold FA
 have hs0:GY a.l.length [] (List.replicate a.l.length false):=⟨by simp,fun k hk=>by rw [List.getElem?_replicate,if_pos hk];simp⟩
 rw [Ab (by omega),Ab (by omega),Int.toNat_natCast,NA hs0 hst.1 hst.2,oB]
 have:=Lz ha a.l.length 0 [a.start] FU _ (by omega) (by simp) (by simp) (Of ha) (by rw [FUv];omega) (Oe hs0 hst.1 hst.2)
 simpa [Bv] using this
theorem KY {N:Nat}:∀ (xs l3 l4:List Int),inN N xs->l4.length=N->l3.length+xs.length<=100000->CK xs (l3,l4)=some (l3++xs,E9 l3.length xs l4)
 | [],l3,l4,_,_,_=>by simp [CK,E9]
 | x::xs,l3,l4,hr,hl,hb=>by
  have hx:=hr x (by simp)
  simp only [List.length_cons] at hb;rw [CK,M2 hx.1 (by omega),oB,Ab (by simp only [List.length_cons,List.length_nil];omega),KY xs _ _ (fun y hy=>hr y (by simp [hy])) (by simpa using hl) (by simp;omega)]
  simp [E9]
theorem N6 (l:List AutoEdge) (to:List Int) (h:l.length<=40) (hr:∀ x∈l,0<=x.to_/\x.to_<(to.length:Int)):CV l to=some (l.map (edgeM to)):=by
 unfold CV;rw [Ab (by omega)];refine bnd (NN (φ:=fun n i s=>CP l to n (i,s)) (l:=l) (edgeM to) id ?_ ?_ (by rw [FUv];omega)) rfl
 ·intro n i x s hx hi hl hs
  have hxr:=hr x (List.mem_of_getElem? hx)
  simp only [CP];rw [dT (show (i:Int)<l.length by omega),cT,getI hs,oB,M2 hxr.1 hxr.2,oB,oB,Ab (by omega)]
  rfl
 ·intro n s hl
  simp only [CP];rw [dF (by omega),cF_];rfl
theorem Ss {s:AutoState} (h:s.arrow=true):s.dom∈nextP s/\s.cod∈nextP s:=by unfold nextP;rw [if_pos h];simp
theorem Vh {s:AutoState} {x:AutoEdge} (h:x∈s.fields):x.to_∈nextP s:=by
 unfold nextP;simp only [List.mem_append,List.mem_map];exact .inl (.inr ⟨x,h,rfl⟩)
theorem Vf {s:AutoState} {x:AutoEdge} (h:x∈s.tags):x.to_∈nextP s:=by
 unfold nextP;simp only [List.mem_append,List.mem_map];exact .inr ⟨x,h,rfl⟩
theorem Pn {a:AutoAuto} (ha:Led a) (l to:List Int) (hr:inN a.l.length l) (hb:l.length<=100000) (ht:to.length=a.l.length):Cq a l to FU (0,[],0)=some (l.map (fun k=>El to (stA a k)),0):=by
 have:=Dj (φ:=fun n i s=>Cq a l to n (i,s,0)) (l:=l) (fun k=>El to (stA a k)) (fun s=>(s,(0:Int))) 0 (by
  intro n i x s hx hi hs
  have hxr:=hr x (List.mem_of_getElem? hx)
  have hnx:=M7 ha x hxr.1 hxr.2
  have hSB:=ha.ab.2 _ (Kh hxr.1 hxr.2)
  obtain ⟨b1,b2,b3⟩:=hSB;simp only [Cq];rw [dT (show (i:Int)<l.length by omega),cT,getI hx,oB,Na hxr.1 hxr.2,oB]
  generalize hS:stA a x=S at *
  replace hnx:inN a.l.length (nextP S):=by rw [<- hS];exact hnx
  rw [Fc (x:=(S.plus,S.all,S.int,S.bool,S.str,S.arrow,S.rec_,S.tag,S.vars,(if S.arrow=true then tm to S.dom else S.dom),(if S.arrow=true then tm to S.cod else S.cod),S.fields,S.tags))]
  rotate_left
  ·cases h:S.arrow with
   | false=>rfl
   | true =>
    have hd:=Ss h
    rw [cT,M2 (hnx _ hd.1).1 (by rw [ht];exact (hnx _ hd.1).2),oB,M2 (hnx _ hd.2).1 (by rw [ht];exact (hnx _ hd.2).2),oB]
    rfl
  simp only
  rw [Ab (by omega),N6 _ _ b2 (fun y hy=>by rw [ht];exact hnx _ (Vh hy)),oB,N6 _ _ b3 (fun y hy=>by rw [ht];exact hnx _ (Vf hy)),oB,Ab (by simp only [List.length_cons,List.length_nil];omega),Ab (by omega)]
  rfl) (by
  intro n s hs
  simp only [Cq];rw [dF (by omega),cF_]) (by rw [FUv];omega) [] rfl
 exact this
theorem TS {a:AutoAuto} (ha:Led a):FY a=some (normP a):=by
 have hb:=ha.ab.1
 unfold FY;rw [Ab (by omega),Ab (by omega),Po ha,oB,Int.toNat_natCast]
 have hok:=B8 ha
 have hlen:=LH ha
 rw [KY (Bv a) [] _ hok.2.1 (by simp) (by simp;omega),oB];simp only [List.nil_append,List.length_nil];rw [Pn ha (Bv a) (E9 0 (Bv a) (List.replicate a.l.length 0)) hok.2.1 (by omega) (U1 ha),oB]
 rfl
end Go.Proofs.YtcoghblhdjmbfaaGreat
namespace Go.Proofs.YtcoghblhdjmbfaaGreat
open Go.V Tryz
open Classical
theorem Sm {a:AutoAuto} {k:Int} {p:Bool} (h:onP a k p=true):∃ s,idx a.l k=some s/\s.plus=p:=by
 unfold onP at h
 cases hx:idx a.l k with
 | none=>rw [hx] at h;cases h
 | some s=>rw [hx] at h;exact ⟨s,rfl,by simpa using h⟩
theorem Ha {a:AutoAuto} (h:mayP a=0):0<a.l.length/\a.l.length<=2000/\(∀ s∈a.l,Fa a s)/\onP a a.start true=true:=by
 unfold mayP at h
 split at h
 ·omega
 ·split at h
  ·rename_i h1 h2
   exact ⟨by omega,by omega,h2.1,h2.2⟩
  ·omega
theorem UO {a:AutoAuto} (h1:0<a.l.length) (h2:a.l.length<=2000) (h3:∀ s∈a.l,Fa a s) (h4:onP a a.start true=true):mayP a=0:=by
 unfold mayP;rw [if_neg (by omega),if_pos ⟨h3,h4⟩]
theorem H8 {a:AutoAuto} (h:AB a) (hm:mayP a=0):Led a:=by
 obtain ⟨h1,h2,h3,h4⟩:=Ha hm;refine ⟨h,?_,?_⟩
 ·intro k s hs x hx
  obtain ⟨i,hi,hxi⟩:=List.getElem_of_mem hx;obtain ⟨_,hs2⟩:=Au hs
  have:=(h3 s (List.mem_of_getElem? hs2)).2.2.2.2 i x (by rw [<- hxi];exact List.getElem?_eq_getElem hi)
  obtain ⟨s',h5,_⟩:=Sm this;exact SJ h5
 ·obtain ⟨s',h5,_⟩:=Sm h4
  exact SJ h5
theorem Rx {to:List Int} {s:AutoState} (h:SB s):SB (El to s):=by
 obtain ⟨h1,h2,h3⟩:=h;exact ⟨h1,by simpa [El] using h2,by simpa [El] using h3⟩
theorem I6 {a:AutoAuto} (ha:Led a):AB (normP a):=by
 refine ⟨by simpa [normP] using LH ha,?_⟩
 intro s hs
 simp only [normP,List.mem_map] at hs;obtain ⟨k,hk,rfl⟩:=hs
 have:=(B8 ha).2.1 k hk
 exact Rx (ha.ab.2 _ (Kh this.1 this.2))
theorem U2 (a:AutoAuto):∃ x,Co a 10=some x/\AB x/\(x.l.length<=10\/2000<x.l.length):=by
 unfold Co
 have key:∀ n (i:Nat) (s:List AutoState),i<=2001->(i<=10\/2000<a.l.length)->2001 - i<n->s.length=i->(∀ t∈s,SB t)->∃ s',BX a 10 n ((i:Int),s,a.start)=some (s',a.start)/\s'.length<=2001/\(∀ t∈s',SB t)/\(s'.length<=10\/2000<s'.length):=by
  intro n
  induction n with
  | zero=>intro i s _ _ h;omega
  | succ n ih =>
   intro i s hi hi0 hn hs hSB
   simp only [BX]
   by_cases hc:i<a.l.length/\(i<10\/(2000<a.l.length/\i<=2000))
   rotate_left
   ·rw [show ((decide ((i:Int)<(a.l.length:Int)))&&((decide ((i:Int)<10))||((decide (2000<(a.l.length:Int)))&&(decide ((i:Int)<=2000)))))=false by
     rw [<- Bool.not_eq_true];simp only [Bool.and_eq_true,Bool.or_eq_true,decide_eq_true_eq];omega,cF_]
    exact ⟨s,rfl,by omega,hSB,by omega⟩
   ·rw [show ((decide ((i:Int)<(a.l.length:Int)))&&((decide ((i:Int)<10))||((decide (2000<(a.l.length:Int)))&&(decide ((i:Int)<=2000)))))=true by
     simp only [Bool.and_eq_true,Bool.or_eq_true,decide_eq_true_eq];omega,cT]
    have hx:a.l[i]? = some a.l[i]:=List.getElem?_eq_getElem hc.1
    generalize a.l[i]=x at hx
    have hv:sli x.vars 0 (if 40<(x.vars.length:Int) then 40 else (x.vars.length:Int))=some (x.vars.take (min 40 x.vars.length)):=by
     have:=minL 40 x.vars
     rw [show (if 40<(x.vars.length:Int) then 40 else (x.vars.length:Int))=((min 40 x.vars.length:Nat):Int) from this,FF (by omega)]
    rw [getI hx,oB,hv,oB,Qn _ (by simp;omega),oB]
    generalize hvs:x.vars.take (min 40 x.vars.length)=vs
    have hvl:vs.length<=40:=by rw [<- hvs];simp;omega
    have e1:∀ n (k:Nat) (t:List AutoEdge),k<=40->40 - k<n->t.length=k->∃ t',B2 x n ((k:Int),[],t,x.plus,x.all,x.int,x.bool,x.str,x.arrow,x.rec_,x.tag,vs,x.dom,x.cod)=some ([],t',x.plus,x.all,x.int,x.bool,x.str,x.arrow,x.rec_,x.tag,vs,x.dom,x.cod)/\t'.length<=40:=by
     intro n
     induction n with
     | zero=>intro k t _ h;omega
     | succ n ih =>
      intro k t hk hn ht
      simp only [B2]
      by_cases hc:k<x.fields.length/\k<40
      rotate_left
      ·rw [show ((decide ((k:Int)<(x.fields.length:Int)))&&(decide ((k:Int)<40)))=false by
        rw [<- Bool.not_eq_true];simp only [Bool.and_eq_true,decide_eq_true_eq];omega,cF_]
       exact ⟨t,rfl,by omega⟩
      ·rw [show ((decide ((k:Int)<(x.fields.length:Int)))&&(decide ((k:Int)<40)))=true by
        simp only [Bool.and_eq_true,decide_eq_true_eq];omega,cT,getI (List.getElem?_eq_getElem hc.1),oB,oB,Ab (by simp only [List.length_cons,List.length_nil];omega),Ab (by omega)]
       exact ih (k+1) _ (by omega) (by omega) (by simp;omega)
    obtain ⟨fs,e1,hfs⟩:=e1 FU 0 [] (by omega) (by rw [FUv];omega) rfl;rw [show ((0:Nat):Int)=0 from rfl] at e1;rw [Fc e1]
    simp only
    have e2:∀ n (k:Nat) (t:List AutoEdge),k<=40->40 - k<n->t.length=k->∃ t',BZ x n ((k:Int),t,fs,x.plus,x.all,x.int,x.bool,x.str,x.arrow,x.rec_,x.tag,vs,x.dom,x.cod)=some (t',fs,x.plus,x.all,x.int,x.bool,x.str,x.arrow,x.rec_,x.tag,vs,x.dom,x.cod)/\t'.length<=40:=by
     intro n
     induction n with
     | zero=>intro k t _ h;omega
     | succ n ih =>
      intro k t hk hn ht
      simp only [BZ]
      by_cases hc:k<x.tags.length/\k<40
      rotate_left
      ·rw [show ((decide ((k:Int)<(x.tags.length:Int)))&&(decide ((k:Int)<40)))=false by
        rw [<- Bool.not_eq_true];simp only [Bool.and_eq_true,decide_eq_true_eq];omega,cF_]
       exact ⟨t,rfl,by omega⟩
      ·rw [show ((decide ((k:Int)<(x.tags.length:Int)))&&(decide ((k:Int)<40)))=true by
        simp only [Bool.and_eq_true,decide_eq_true_eq];omega,cT,getI (List.getElem?_eq_getElem hc.1),oB,oB,Ab (by simp only [List.length_cons,List.length_nil];omega),Ab (by omega)]
       exact ih (k+1) _ (by omega) (by omega) (by simp;omega)
    obtain ⟨ts,e2,hts⟩:=e2 FU 0 [] (by omega) (by rw [FUv];omega) rfl;rw [show ((0:Nat):Int)=0 from rfl] at e2;rw [Fc e2]
    simp only
    rw [Ab (by simp only [List.length_cons,List.length_nil];omega),Ab (by omega)];refine ih (i+1) _ (by omega) (by omega) (by omega) (by simp;omega) ?_
    intro t ht
    simp only [List.mem_append,List.mem_singleton] at ht
    rcases ht with ht | rfl
    ·exact hSB t ht
    ·exact ⟨hvl,hfs,hts⟩
 obtain ⟨s',h1,h2,h3,h4⟩:=key FU 0 [] (by omega) (by omega) (by rw [FUv];omega) rfl (by simp);rw [show ((0:Nat):Int)=0 from rfl] at h1;rw [Fc h1];exact ⟨_,rfl,⟨h2,h3⟩,h4⟩
theorem Tn (a:AutoAuto) (h:AB a):BV a=some a:=by
 obtain ⟨h,hs⟩:=h;unfold BV
 have e:=Dj (φ:=fun n i s=>BQ a n (i,s,a.start)) (l:=a.l) id (fun s=>(s,a.start)) 0 (by
  intro n i x s hx hi hlen
  obtain ⟨b1,b2,b3⟩:=hs x (List.mem_of_getElem? hx);simp only [BQ];rw [dT (show (i:Int)<a.l.length by omega),cT,getI hx,oB,Qn _ (by omega),oB]
  have e1:=Dj (φ:=fun n i t=>BP x n (i,[],t,x.plus,x.all,x.int,x.bool,x.str,x.arrow,x.rec_,x.tag,x.vars,x.dom,x.cod)) (l:=x.fields) id (fun t=>(([]:List AutoEdge),t,x.plus,x.all,x.int,x.bool,x.str,x.arrow,x.rec_,x.tag,x.vars,x.dom,x.cod)) 0 (by
   intro n i y t hy hi ht
   simp only [BP];rw [dT (show (i:Int)<x.fields.length by omega),cT,getI hy,oB,oB,Ab (by simp only [List.length_cons,List.length_nil];omega),Ab (by omega)]
   rfl) (by
   intro n t ht
   simp only [BP];rw [dF (by omega),cF_]) (by rw [FUv];omega) [] rfl
  rw [Fc e1];simp only [List.nil_append,List.map_id]
  have e2:=Dj (φ:=fun n i t=>BM x n (i,t,x.fields,x.plus,x.all,x.int,x.bool,x.str,x.arrow,x.rec_,x.tag,x.vars,x.dom,x.cod)) (l:=x.tags) id (fun t=>(t,x.fields,x.plus,x.all,x.int,x.bool,x.str,x.arrow,x.rec_,x.tag,x.vars,x.dom,x.cod)) 0 (by
   intro n i y t hy hi ht
   simp only [BM];rw [dT (show (i:Int)<x.tags.length by omega),cT,getI hy,oB,oB,Ab (by simp only [List.length_cons,List.length_nil];omega),Ab (by omega)]
   rfl) (by
   intro n t ht
   simp only [BM];rw [dF (by omega),cF_]) (by rw [FUv];omega) [] rfl
  rw [Fc e2];simp only [List.nil_append,List.map_id];rw [Ab (by simp only [List.length_cons,List.length_nil];omega),Ab (by omega)]
  rfl) (by
  intro n s hlen
  simp only [BQ];rw [dF (by omega),cF_]) (by rw [FUv];omega) [] rfl
 rw [Fc e]
 simp
end Go.Proofs.YtcoghblhdjmbfaaGreat
namespace Go.Proofs.YtcoghblhdjmbfaaGreat
open Go.V Tryz
open Classical
theorem Sw (to:List Int) (s:AutoState):nextP (El to s)=(nextP s).map (tm to):=by
 unfold nextP El
 cases h:s.arrow <;> simp [Function.comp_def,edgeM]
theorem So {a:AutoAuto} (ha:Led a) {j:Nat} {x:Int} (h:(Bv a)[j]? = some x):tm (toP a) x=(j:Int):=by
 obtain ⟨h1,h2,_⟩:=B8 ha
 have hx:=h2 x (List.mem_of_getElem? h)
 have:=K1 (Bv a) 0 (List.replicate a.l.length 0) h1 h2 (by simp) j x h
 unfold tm idx;rw [if_pos hx.1,show toP a=E9 0 (Bv a) (List.replicate a.l.length 0) from rfl,this]
 simp
theorem P1 {a:AutoAuto} (ha:Led a) {j:Nat} {x:Int} (h:(Bv a)[j]? = some x):idx (normP a).l (j:Int)=some (El (toP a) (stA a x)):=by
 rw [MN];simp only [normP];rw [List.getElem?_map,h];rfl
theorem Iw {a:AutoAuto} (ha:Led a) {x:Int} (h:x∈Bv a):∃ j:Nat,(Bv a)[j]? = some x/\tm (toP a) x=(j:Int)/\j<(Bv a).length:=by
 obtain ⟨j,hj,hj2⟩:=List.getElem_of_mem h
 have h2:(Bv a)[j]? = some x:=by rw [<- hj2];exact List.getElem?_eq_getElem hj
 exact ⟨j,h2,So ha h2,hj⟩
theorem PO {a:AutoAuto} (ha:Led a) {x:Int} (h:x∈Bv a):stA (normP a) (tm (toP a) x)=El (toP a) (stA a x):=by
 obtain ⟨j,h1,h2,_⟩:=Iw ha h;unfold stA;rw [h2,P1 ha h1];rfl
theorem NY {a:AutoAuto} (ha:Led a) {x y:Int} (h:x∈Bv a) (hy:y∈nxA a x):y∈Bv a:=by
 obtain ⟨j,h1,_⟩:=Iw ha h;exact (B8 ha).2.2.2 j x (by omega) h1 y hy
theorem Uz {a:AutoAuto} (ha:Led a) {x:Int} (h:x∈Bv a):0<=tm (toP a) x/\tm (toP a) x<((Bv a).length:Int):=by
 obtain ⟨j,h1,h2,h3⟩:=Iw ha h
 omega
theorem HD {a:AutoAuto} (ha:Led a):(normP a).l.length=(Bv a).length:=by simp [normP]
theorem JK {a:AutoAuto} (ha:Led a):a.start∈Bv a:=by
 obtain ⟨e,he⟩:=(B8 ha).2.2.1;rw [he];simp
theorem Sy {a:AutoAuto} (ha:Led a):tm (toP a) a.start=0:=by
 obtain ⟨e,he⟩:=(B8 ha).2.2.1
 have:(Bv a)[0]? = some a.start:=by rw [he];rfl
 simpa using So ha this
theorem Rn {a:AutoAuto} (ha:Led a):0<(Bv a).length:=List.length_pos_of_mem (JK ha)
theorem U5 (to:List Int) (s:AutoState):bareP (El to s)=bareP s:=by
 unfold bareP El
 cases h:s.arrow <;> simp
theorem PG (to:List Int) (isN:List UInt8->Bool) (l:List AutoEdge) (h:GJ isN l):GJ isN (l.map (edgeM to)):=by
 obtain ⟨h1,h2⟩:=h;refine ⟨?_,by simpa using h2⟩
 intro i x hx
 rw [List.getElem?_map] at hx
 cases h3:l[i]? with
 | none=>rw [h3] at hx;cases hx
 | some y =>
  rw [h3] at hx
  cases hx
  obtain ⟨h4,h5⟩:=h1 i y h3;refine ⟨h4,fun h0 z hz=>?_⟩;rw [List.getElem?_map] at hz
  cases h6:l[i - 1]? with
  | none=>rw [h6] at hz;cases hz
  | some w =>
   rw [h6] at hz
   cases hz
   exact h5 h0 w h6
theorem P5 {a:AutoAuto} (ha:Led a) {x:Int} {p:Bool} (hx:x∈Bv a) (h:onP a x p=true):onP (normP a) (tm (toP a) x) p=true:=by
 obtain ⟨s,h1,h2⟩:=Sm h;obtain ⟨j,h3,h4,_⟩:=Iw ha hx
 have e:stA a x=s:=by unfold stA;rw [h1];rfl
 unfold onP;rw [h4,P1 ha h3,e]
 simp [El,h2]
theorem OB {a:AutoAuto} (hab:AB a) (hm:mayP a=0):mayP (normP a)=0:=by
 have ha:=H8 hab hm
 obtain ⟨h1,h2,h3,h4⟩:=Ha hm
 have hle:=EA _ _ (B8 ha).1 (B8 ha).2.1
 have hl:=HD ha
 refine UO (by have:=Rn ha;omega) (by omega) ?_ ?_
 ·intro s hs
  simp only [normP,List.mem_map] at hs;obtain ⟨x,hx,rfl⟩:=hs
  have hxr:=(B8 ha).2.1 x hx
  obtain ⟨r1,r2,r3,r4,r5⟩:=h3 _ (Kh hxr.1 hxr.2);refine ⟨by rw [U5];exact r1,r2,PG _ _ _ r3,PG _ _ _ r4,?_⟩
  intro i y hy
  rw [Sw,List.getElem?_map] at hy
  cases h5:(nextP (stA a x))[i]? with
  | none=>rw [h5] at hy;cases hy
  | some z =>
   rw [h5] at hy
   cases hy
   exact P5 ha (NY ha hx (List.mem_of_getElem? h5)) (r5 i z h5)
 ·have:=P5 ha (JK ha) h4
  rw [Sy ha] at this;exact this
end Go.Proofs.YtcoghblhdjmbfaaGreat
namespace Go.Proofs.YtcoghblhdjmbfaaGreat
open Go.V Tryz
open Classical
theorem Ij:∀ (a b:List Int),a.Pairwise (· < ·)->b.Pairwise (· < ·)->(∀ x,x∈a↔x∈b)->a=b
 | [],[],_,_,_=>rfl
 | [],y::b,_,_,h=>by have:=(h y).2 (by simp);simp at this
 | x::a,[],_,_,h=>by have:=(h x).1 (by simp);simp at this
 | x::a,y::b,ha,hb,h=>by
  rw [List.pairwise_cons] at ha hb
  have hxy:x=y:=by
   have h1:=(h x).1 (by simp)
   have h2:=(h y).2 (by simp)
   rcases List.mem_cons.1 h1 with h1 | h1
   ·exact h1
   ·rcases List.mem_cons.1 h2 with h2 | h2
    ·exact h2.symm
    ·have:=hb.1 x h1;have:=ha.1 y h2;omega
  subst hxy
  congr 1
  refine Ij a b ha.2 hb.2 fun z=>?_
  have h1:=h z
  simp only [List.mem_cons] at h1
  constructor
  ·intro hz
   rcases h1.1 (.inr hz) with e | e
   ·have:=ha.1 z hz;omega
   ·exact e
  ·intro hz
   rcases h1.2 (.inr hz) with e | e
   ·have:=hb.1 z hz;omega
   ·exact e
theorem Iu {d:Array Int} (hd:∀ i j,i<j->j<d.size->d[i]! <= d[j]!):∀ m,m<=d.size->(Lib.compactUpTo d m).Pairwise (· < ·)/\(∀ x,x∈Lib.compactUpTo d m↔∃ j,j<m/\d[j]! = x)/\∀ x∈Lib.compactUpTo d m,0<m/\x<=d[m - 1]!
 | 0,_=>by simp [Lib.compactUpTo]
 | m+1,hm=>by
  obtain ⟨h1,h2,h3⟩:=Iu hd m (by omega);rw [Lib.compactUpTo_succ]
  by_cases hk:Lib.keeps d m=true
  ·rw [if_pos hk]
   have hk2:m=0\/d[m]! ≠ d[m - 1]! := by simpa [Lib.keeps] using hk
   have hlt:∀ x∈Lib.compactUpTo d m,x<d[m]! := by
    intro x hx
    obtain ⟨h4,h5⟩:=h3 x hx
    have h6:=hd (m - 1) m (by omega) (by omega)
    rcases hk2 with h7 | h7
    ·omega
    ·omega
   refine ⟨?_,fun x=>?_,fun x hx=>⟨by omega,?_⟩⟩
   ·rw [List.pairwise_append]
    exact ⟨h1,by simp,fun a ha b hb=>by simp at hb;subst hb;exact hlt a ha⟩
   ·rw [List.mem_append,h2 x]
    simp only [List.mem_cons,List.not_mem_nil,or_false]
    constructor
    ·rintro (⟨j,hj,e⟩ | e)
     ·exact ⟨j,by omega,e⟩
     ·exact ⟨m,by omega,e.symm⟩
    ·rintro ⟨j,hj,e⟩
     by_cases hjm:j=m
     ·subst hjm;exact .inr e.symm
     ·exact .inl ⟨j,by omega,e⟩
   ·rw [Nat.add_sub_cancel]
    rcases List.mem_append.1 hx with hx | hx
    ·exact Int.le_of_lt (hlt x hx)
    ·simp at hx;omega
  ·have hk':Lib.keeps d m=false:=by simpa using hk
   rw [hk']
   have hk2:0<m/\d[m]! = d[m - 1]! := by
    have:¬ (m=0\/d[m]! ≠ d[m - 1]!):=by simpa [Lib.keeps] using hk'
    omega
   simp only [Bool.false_eq_true,if_false,List.append_nil];refine ⟨h1,fun x=>?_,fun x hx=>⟨by omega,?_⟩⟩
   ·rw [h2 x]
    constructor
    ·rintro ⟨j,hj,e⟩;exact ⟨j,by omega,e⟩
    ·rintro ⟨j,hj,e⟩
     by_cases hjm:j=m
     ·subst hjm;exact ⟨j - 1,by omega,by rw [<- hk2.2];exact e⟩
     ·exact ⟨j,by omega,e⟩
   ·rw [Nat.add_sub_cancel]
    have:=(h3 x hx).2
    omega
theorem FK {l:List Int} (h:l.Pairwise (· <= ·)):(Lib.compact l).Pairwise (· < ·)/\∀ x,x∈Lib.compact l↔x∈l:=by
 have hget:∀ j,j<l.length->l.toArray[j]! = l[j]! := fun j _=>by simp
 obtain ⟨h1,h2,_⟩:=Iu (d:=l.toArray) (fun i j hij hj=>by
  simp at hj
  have:=List.pairwise_iff_getElem.1 h i j (by omega) hj hij
  simpa [hj,show i<l.length by omega] using this) l.length (by simp)
 refine ⟨h1,fun x=>(h2 x).trans ?_⟩
 constructor
 ·rintro ⟨j,hj,e⟩
  rw [<- e];simp [hj]
 ·intro hx
  obtain ⟨j,hj,e⟩:=List.getElem_of_mem hx;exact ⟨j,hj,by simp [hj,e]⟩
theorem Fp (l:List Int):(List.mergeSort l fun x y=>decide (x<=y)).Pairwise (· <= ·):=by
 have:=List.pairwise_mergeSort (le:=fun x y:Int=>decide (x<=y)) (fun a b c h1 h2=>by simp at *;omega) (fun a b=>by simp;omega) l
 exact this.imp (fun h=>by simpa using h)
noncomputable def setC (l:List Int):List Int:=Lib.compact (l.mergeSort fun x y=>decide (x<=y))
theorem KU (l:List Int):(setC l).Pairwise (· < ·)/\∀ x,x∈setC l↔x∈l:=by
 obtain ⟨h1,h2⟩:=FK (Fp l);exact ⟨h1,fun x=>(h2 x).trans List.mem_mergeSort⟩
theorem KN (l:List Int):(setC l).length<=l.length:=by
 have:=Le (l.mergeSort fun x y=>decide (x<=y))
 rw [List.length_mergeSort] at this;exact this
theorem MJ {l s:List Int} (h:s.Pairwise (· < ·)) (hm:∀ x,x∈s↔x∈l):s=setC l:=by
 obtain ⟨h1,h2⟩:=KU l;exact Ij _ _ h h1 fun x=>(hm x).trans (h2 x).symm
noncomputable def occ (l:List AutoState) (p:Bool) (v:Int):Bool:=decide (∃ s∈l,s.plus=p/\v∈s.vars)
noncomputable def bits (l:List AutoState) (v:Int):Int:=(if occ l true v=true then 1 else 0)+(if occ l false v=true then 2 else 0)
theorem occ_iff {l:List AutoState} {p:Bool} {v:Int}:occ l p v=true↔∃ s∈l,s.plus=p/\v∈s.vars:=by unfold occ;rw [decide_eq_true_eq]
theorem QS {l:List AutoState} {v:Int}:bits l v=0↔¬ ∃ s∈l,v∈s.vars:=by
 unfold bits
 constructor
 ·intro h
  rintro ⟨s,hs,hv⟩
  cases hp:s.plus with
  | true =>
   have:occ l true v=true:=occ_iff.2 ⟨s,hs,hp,hv⟩
   rw [if_pos this] at h;split at h <;> omega
  | false =>
   have:occ l false v=true:=occ_iff.2 ⟨s,hs,hp,hv⟩
   rw [if_pos this] at h;split at h <;> omega
 ·intro h
  rw [if_neg (fun h2=>by obtain ⟨s,hs,_,hv⟩:=occ_iff.1 h2;exact h ⟨s,hs,hv⟩),if_neg (fun h2=>by obtain ⟨s,hs,_,hv⟩:=occ_iff.1 h2;exact h ⟨s,hs,hv⟩)];rfl
noncomputable def varsA (a:AutoAuto):List Int:=setC (a.l.flatMap (·.vars))
theorem S6 {l:List AutoState} (h:∀ s∈l,SB s):(l.flatMap (·.vars)).length<=40*l.length:=by
 induction l with
 | nil=>simp
 | cons s l ih =>
  have h1:=(h s (by simp)).1
  have h2:=ih (fun t ht=>h t (by simp [ht]))
  simp only [List.flatMap_cons,List.length_append,List.length_cons]
  omega
theorem Rz {a:AutoAuto} (h:AB a):(varsA a).length<=100000:=by
 have h1:=KN (a.l.flatMap (·.vars))
 have h2:=S6 h.2
 have:=h.1
 unfold varsA
 omega
theorem mget_none {α β:Type} [DecidableEq α] {l:List (α×β)} {k:α}:mget l k=none↔k∉l.map (·.1):=by
 induction l with
 | nil=>simp [mget]
 | cons p l ih =>
  obtain ⟨a,b⟩:=p;simp only [mget,List.map_cons,List.mem_cons,not_or]
  by_cases h:k=a
  ·simp [h]
  ·simp only [h,if_false,not_false_eq_true,true_and];exact ih
theorem Mi {α β:Type} [DecidableEq α] {l:List (α×β)} {k:α} {v:β}:(mset l k v).map (·.1)=if k∈l.map (·.1) then l.map (·.1) else l.map (·.1)++[k]:=by
 induction l with
 | nil=>simp [mset]
 | cons p l ih =>
  obtain ⟨a,b⟩:=p;simp only [mset]
  by_cases h:k=a
  ·subst h;simp
  ·rw [if_neg h]
   simp only [List.map_cons,ih,List.mem_cons,h,false_or]
   split <;> simp
theorem Pl {α β:Type} [DecidableEq α] {l:List (α×β)} {k:α} {v:β} (h:(l.map (·.1)).Nodup):((mset l k v).map (·.1)).Nodup:=by
 rw [Mi]
 split
 ·exact h
 ·rename_i hk
  rw [List.nodup_append];exact ⟨h,by simp,fun a ha b hb e=>by simp at hb;subst hb e;exact hk ha⟩
theorem SO {α β:Type} [DecidableEq α] {l:List (α×β)} {k:α} {v:β}:(mset l k v).length<=l.length+1:=by
 have:=congrArg List.length (Mi (l:=l) (k:=k) (v:=v))
 rw [List.length_map] at this;rw [this]
 split <;> simp
def GW (l:List AutoState) (n:Nat) (mm:List (Int×Int)):Prop:=(∀ v,mget mm v=if bits l v=0 then none else some (bits l v))/\(mm.map (·.1)).Nodup/\mm.length<=n
theorem S5:orI 0 1=1/\orI 1 1=1/\orI 2 1=3/\orI 3 1=3/\orI 0 2=2/\orI 1 2=3/\orI 2 2=2/\orI 3 2=3:=by decide
def sd (p:Bool):Int:=bif p then 1 else 2
theorem FX {l:List AutoState} {s:AutoState} {p:Bool} {v:Int}:occ (l++[s]) p v=(occ l p v||(decide (s.plus=p)&&decide (v∈s.vars))):=by
 rw [Bool.eq_iff_iff,Bool.or_eq_true,Bool.and_eq_true,decide_eq_true_eq,decide_eq_true_eq,occ_iff,occ_iff]
 constructor
 ·rintro ⟨t,ht,h⟩
  rcases List.mem_append.1 ht with ht | ht
  ·exact .inl ⟨t,ht,h⟩
  ·simp at ht;subst ht;exact .inr h
 ·rintro (⟨t,ht,h⟩ | h)
  ·exact ⟨t,by simp [ht],h⟩
  ·exact ⟨s,by simp,h⟩
def cutV (s:AutoState) (k:Nat):AutoState:={ s with vars:=s.vars.take k }
theorem Rc {l:List AutoState} {s:AutoState} {k:Nat} {x:Int} (hx:s.vars[k]? = some x) (v:Int):bits (l++[cutV s (k+1)]) v=if v=x then orI (bits (l++[cutV s k]) x) (sd s.plus) else bits (l++[cutV s k]) v:=by
 have hk:=(List.getElem?_eq_some_iff.1 hx).1
 have ht:s.vars.take (k+1)=s.vars.take k++[x]:=by
  rw [List.take_succ_eq_append_getElem hk];rw [List.getElem?_eq_getElem hk] at hx;rw [Option.some.inj hx]
 have hm:∀ p,occ (l++[cutV s (k+1)]) p v=(occ (l++[cutV s k]) p v||(decide (s.plus=p)&&decide (v=x))):=by
  intro p
  rw [FX,FX];unfold cutV;simp only [ht]
  by_cases h1:v∈s.vars.take k <;> by_cases h2:v=x <;> by_cases h3:s.plus=p <;> simp [h1,h2,h3]
 unfold bits;rw [hm true,hm false]
 by_cases hv:v=x
 ·subst hv
  rw [if_pos rfl];obtain ⟨t1,t2,t3,t4,t5,t6,t7,t8⟩:=S5
  cases hp:s.plus <;> cases occ (l++[cutV s k]) true v <;> cases occ (l++[cutV s k]) false v <;> simp [sd,t1,t2,t3,t4,t5,t6,t7,t8]
 ·rw [if_neg hv]
  simp [hv]
theorem Q3 {l:List AutoState} {s:AutoState} (v:Int):bits (l++[cutV s 0]) v=bits l v:=by
 unfold bits;rw [FX,FX]
 simp [cutV]
theorem Q1 {l:List AutoState} {s:AutoState} (v:Int):bits (l++[cutV s s.vars.length]) v=bits (l++[s]) v:=by
 unfold bits;rw [FX,FX,FX,FX]
 simp [cutV]
theorem RQ (l:List AutoState) (v:Int):bits l v=0\/bits l v=1\/bits l v=2\/bits l v=3:=by
 unfold bits
 cases occ l true v <;> cases occ l false v <;> simp
theorem U0 {b:Int} (p:Bool) (h:b=0\/b=1\/b=2\/b=3):orI b (sd p)≠0:=by
 obtain ⟨t1,t2,t3,t4,t5,t6,t7,t8⟩:=S5
 cases p <;> rcases h with rfl | rfl | rfl | rfl <;> simp [sd,t1,t2,t3,t4,t5,t6,t7,t8]
theorem RE {l:List AutoState} {s:AutoState} (hs:s.vars.length<=40) {m:Nat} {mm:List (Int×Int)} (h:GW l m mm):∃ mm',Cz s (sd s.plus) FU (0,mm)=some mm'/\GW (l++[s]) (m+40) mm':=by
 obtain ⟨o,e1,e2⟩:=A2 (φ:=fun n i q=>Cz s (sd s.plus) n (i,q)) (l:=s.vars) (fun i q=>GW (l++[cutV s i]) (m+i) q) (fun o=>GW (l++[s]) (m+40) o)
  (by
   rintro n i x q hx hi ⟨h1,h2,h3⟩
   left
   refine ⟨mset q x (orI ((mget q x).getD 0) (sd s.plus)),?_,fun v=>?_,Pl h2,?_⟩
   ·simp only [Cz]
    rw [dT (show (i:Int)<(s.vars.length:Int) by omega),cT,getI hx,oB,Ab (by omega)]
   ·have hg:(mget q x).getD 0=bits (l++[cutV s i]) x:=by
     rw [h1 x]
     split
     ·rename_i h0;rw [h0];rfl
     ·rfl
    rw [ON,hg,Rc hx]
    by_cases hv:v=x
    ·rw [if_pos hv,if_pos hv,if_neg (U0 _ (RQ _ _))]
    ·rw [if_neg hv,if_neg hv,h1 v]
   ·have:=SO (l:=q) (k:=x) (v:=orI ((mget q x).getD 0) (sd s.plus))
    omega)
  (by
   rintro n q ⟨h1,h2,h3⟩;refine ⟨q,?_,fun v=>by rw [h1 v,Q1],h2,by omega⟩;simp only [Cz];rw [dF (by omega),cF_]) (by rw [FUv];omega) mm ⟨fun v=>by rw [h.1 v,Q3],h.2.1,by have:=h.2.2;omega⟩
 exact ⟨o,e1,e2⟩
theorem Nq (a:AutoAuto) (h:AB a):∃ mm,Ee a=some mm/\GW a.l 100000 mm:=by
 have hlen:=h.1
 unfold Ee;obtain ⟨o,e1,e2⟩:=A2 (φ:=fun n i q=>CO a n (i,q)) (l:=a.l) (fun i q=>GW (a.l.take i) (40*i) q) (fun o=>GW a.l 100000 o)
  (by
   rintro n i s q hs hi hq
   left
   have hit:a.l.take (i+1)=a.l.take i++[s]:=by
    rw [List.take_succ_eq_append_getElem hi];rw [List.getElem?_eq_getElem hi] at hs;rw [Option.some.inj hs]
   obtain ⟨mm',q1,q2⟩:=RE (h.2 s (List.mem_of_getElem? hs)).1 hq;refine ⟨mm',?_,by rw [hit];exact q2⟩;simp only [CO];rw [dT (show (i:Int)<(a.l.length:Int) by omega),cT,getI hs,oB,show (bif s.plus then some 1 else some 2:Option Int)=some (sd s.plus) by cases s.plus <;> rfl,oB,q1,oB,Ab (by omega)])
  (by
   rintro n q hq;refine ⟨q,?_,by rw [List.take_length] at hq;exact ⟨hq.1,hq.2.1,by have:=hq.2.2;omega⟩⟩;simp only [CO];rw [dF (by omega),cF_]) (by rw [FUv];omega) [] ⟨fun v=>by simp [mget,bits,occ],by simp,by simp⟩
 exact ⟨o,by rw [e1,oB],e2⟩
theorem Oy {a:AutoAuto} {mm:List (Int×Int)} {m:Nat} (h:GW a.l m mm):((mm.map (·.1)).mergeSort fun x y=>decide (x<=y))=varsA a:=by
 unfold varsA;refine MJ ?_ fun x=>?_
 ·have h1:=Fp (mm.map (·.1))
  have h2:((mm.map (·.1)).mergeSort fun x y=>decide (x<=y)).Nodup:=(List.mergeSort_perm _ _).nodup_iff.2 h.2.1
  have h3:=List.Pairwise.and h1 h2
  exact h3.imp (fun h=>by have:=h.1;have:=h.2;omega)
 ·rw [List.mem_mergeSort]
  have h1:=h.1 x
  have h2:x∈mm.map (·.1)↔¬ bits a.l x=0:=by
   constructor
   ·intro hx hb
    rw [if_pos hb] at h1;exact mget_none.1 h1 hx
   ·intro hb
    refine Classical.byContradiction fun hx=>?_;rw [mget_none.2 hx,if_neg hb] at h1
    cases h1
  rw [h2,QS,Classical.not_not]
  simp [List.mem_flatMap]
theorem UC:∀ l s,CQ l s=CK l s
 | [],(a,b)=>rfl
 | x::l,(a,b)=>by simp only [CQ,CK,UC l]
theorem UE (a:AutoAuto) (l1 l2:List Int):∀ n s,DE a l1 l2 n s=Cq a l1 l2 n s
 | 0,(_,_,_)=>rfl
 | n+1,(x,y,z)=>by simp only [DE,Cq,UE a l1 l2 n]
theorem SU (a:AutoAuto):EL a=FY a:=by
 unfold EL FY;simp only [UC,UE]
theorem KW {a:AutoAuto} (h:AB a) (hm:mayP a=0):CF a=some (0,normP a):=by
 unfold CF;rw [Pz a h,oB,hm,show (!decide ((0:Int)=0))=false from rfl,cF_,SU,TS (H8 h hm)]
 rfl
theorem Nm {a:AutoAuto} (h:AB a) (hm:¬ mayP a=0):CF a=some (mayP a,⟨[],0⟩):=by
 unfold CF;rw [Pz a h,oB,dF hm,Bool.not_false,cT]
noncomputable def MT (a:AutoAuto):List VarsUse:=(varsA a).map fun v=>⟨v,bits a.l v⟩
theorem NV {a:AutoAuto} (h:AB a) {mm:List (Int×Int)} (hm:GW a.l 100000 mm):Cx mm FU (0,[])=some (MT a):=by
 have hk:=Oy hm
 have hlen:=Rz h
 have h1:=Dj (φ:=fun n i s=>Cx mm n (i,s)) (l:=varsA a) (fun v=>(⟨v,(mget mm v).getD 0⟩:VarsUse)) id 0 (by
  intro n i x s hx hi hs
  simp only [Cx];rw [hk,dT (by omega),cT,getI hx,oB,Ab (by simp only [List.length_cons,List.length_nil];omega),Ab (by omega)]) (by
  intro n s hs
  simp only [Cx];rw [hk,dF (by omega),cF_];rfl) (by rw [FUv];omega) [] rfl
 refine h1.trans ?_;simp only [id,List.nil_append];unfold MT
 congr 1
 apply List.map_congr_left
 intro v hv
 rw [hm.1 v]
 split
 ·rename_i h0;rw [h0];rfl
 ·rfl
theorem SN {a:AutoAuto} (h:AB a) (hm:mayP a=0):D8 a=some (MT (normP a),0):=by
 have hn:=I6 (H8 h hm)
 obtain ⟨mm,e,hk⟩:=Nq (normP a) hn;unfold D8;rw [KW h hm];simp only [oB,decide_true,Bool.not_true,cF_];rw [show (⟨(normP a).l,(normP a).start⟩:AutoAuto)=normP a from rfl,e,oB,Ab (by have:=hk.2.2;omega),NV hn hk,oB]
noncomputable def stW (f:Int->Option Int) (s:AutoState):AutoState:=⟨s.plus,s.all,s.int,s.bool,s.str,s.arrow,s.rec_,s.tag,setC (s.vars.filterMap f),s.dom,s.cod,s.fields,s.tags⟩
noncomputable def withP (f:Int->Option Int) (a:AutoAuto):AutoAuto:=⟨a.l.map (stW f),a.start⟩
theorem takeS {α:Type} {l:List α} {i:Nat} {x:α} (h:l[i]? = some x):l.take (i+1)=l.take i++[x]:=by
 have hi:=(List.getElem?_eq_some_iff.1 h).1
 rw [List.take_succ_eq_append_getElem hi];rw [List.getElem?_eq_getElem hi] at h;rw [Option.some.inj h]
theorem Pe (to:List (Int×Int)) (s:AutoState) (hs:s.vars.length<=40):Ch to s FU (0,[])=some (s.vars.filterMap (mget to)):=by
 obtain ⟨o,e1,e2⟩:=A2 (φ:=fun n i q=>Ch to s n (i,q)) (l:=s.vars) (fun i q=>q=(s.vars.take i).filterMap (mget to)) (fun o=>o=s.vars.filterMap (mget to))
  (by
   rintro n i x q hx hi rfl
   left
   have hl:=List.length_filterMap_le (mget to) (s.vars.take i)
   have hl2:(s.vars.take i).length<=40:=by rw [List.length_take];omega
   refine ⟨_,?_,rfl⟩;rw [takeS hx,List.filterMap_append];simp only [Ch];rw [dT (show (i:Int)<(s.vars.length:Int) by omega),cT,getI hx,oB]
   cases hg:mget to x with
   | none=>rw [show (none:Option Int).isSome=false from rfl,cF_,Ab (by omega)];simp [hg]
   | some z =>
    rw [show (some z).isSome=true from rfl,cT,Ab (by simp only [List.length_cons,List.length_nil];omega),Ab (by omega)];simp [hg])
  (by
   rintro n q rfl;refine ⟨_,?_,rfl⟩;simp only [Ch];rw [dF (by omega),cF_,List.take_length]) (by rw [FUv];omega) [] (by simp)
 rw [e1,e2]
theorem Qg {α:Type} {A B:List α} {x y:α} {i:Nat} (h:A.length=i):(A++x::B).set i y=A++y::B:=by
 subst h
 induction A with
 | nil=>rfl
 | cons a A ih=>simp only [List.cons_append,List.length_cons,List.set_cons_succ,ih]
theorem PR (a:AutoAuto) (to:List (Int×Int)) (h:AB a):D4 a to=some (withP (mget to) a):=by
 have hlen:=h.1
 unfold D4;obtain ⟨o,e1,e2⟩:=A2 (φ:=fun n i q=>Do a to n (i,q)) (l:=a.l) (fun i q=>q=(a.start,(a.l.take i).map (stW (mget to))++a.l.drop i)) (fun o=>o=(a.start,a.l.map (stW (mget to))))
  (by
   rintro n i s q hx hi rfl
   left
   have hd:=KB hx
   have hA:((a.l.take i).map (stW (mget to))).length=i:=by rw [List.length_map,List.length_take];omega
   have hs:=(h.2 s (List.mem_of_getElem? hx)).1
   have hg:((a.l.take i).map (stW (mget to))++a.l.drop i)[i]? = some s:=by
    rw [List.getElem?_append_right (by omega),hd,hA,Nat.sub_self];rfl
   have hf:=List.length_filterMap_le (mget to) s.vars
   refine ⟨_,?_,rfl⟩
   have hset:((a.l.take i).map (stW (mget to))++a.l.drop i).set ((i:Int)).toNat (stW (mget to) s)=(a.l.take (i+1)).map (stW (mget to))++a.l.drop (i+1):=by
    rw [hd,Int.toNat_natCast,Qg hA,takeS hx,List.map_append,List.append_assoc];rfl
   rw [<- hset];simp only [Do];rw [dT (show (i:Int)<(a.l.length:Int) by omega),cT,getI hg,oB,Pe to s hs,oB,Ab (by omega),oB,Ab (by omega)]
   rfl)
  (by
   rintro n q rfl;refine ⟨_,?_,rfl⟩;simp only [Do];rw [dF (by omega),cF_,List.take_length,List.drop_length,List.append_nil]) (by rw [FUv];omega) (a.start,a.l) (by simp)
 rw [e1,oB,e2]
 rfl
theorem TE {f:Int->Option Int} {s:AutoState} (h:SB s):SB (stW f s):=by
 have h1:=KN (s.vars.filterMap f)
 have h2:=List.length_filterMap_le f s.vars
 exact ⟨by show (setC (s.vars.filterMap f)).length<=40;have:=h.1;omega,h.2.1,h.2.2⟩
theorem OK {f:Int->Option Int} {a:AutoAuto} (h:AB a):AB (withP f a):=by
 refine ⟨by show (a.l.map (stW f)).length<=2001;rw [List.length_map];exact h.1,?_⟩
 intro s hs
 obtain ⟨t,ht,rfl⟩:=List.mem_map.1 (show s∈a.l.map (stW f) from hs);exact TE (h.2 t ht)
noncomputable def dropF (a:AutoAuto) (v:Int):Option Int:=if bits a.l v=3 then some v else none
theorem MU (x:Int) (s:AutoAuto):∀ (q mm:List (Int×Int)),∃ mm',(∀ v,mget mm' v=if (v,3)∈q then some v else mget mm v)/\BT x s q mm=(D4 (⟨s.l,s.start⟩:AutoAuto) mm').bind fun s2=>some ((⟨s2.l,s2.start⟩:AutoAuto),x)
 | [],mm=>⟨mm,by simp,by simp only [BT]⟩
 | (k,b)::q,mm=>by
  by_cases hb:b=3
  ·obtain ⟨mm',h1,h2⟩:=MU x s q (mset mm k k)
   refine ⟨mm',fun v=>?_,by simp only [BT];rw [dT hb,cT,h2]⟩;rw [h1 v,ON]
   by_cases hv:v=k
   ·subst hv hb;simp
   ·simp [hv]
  ·obtain ⟨mm',h1,h2⟩:=MU x s q mm
   refine ⟨mm',fun v=>?_,by simp only [BT];rw [dF hb,cF_,h2]⟩;rw [h1 v]
   have:¬ (v,(3:Int))=(k,b):=fun e=>hb (Prod.mk.inj e).2.symm
   simp [this]
theorem Ti {α β:Type} [DecidableEq α] {l:List (α×β)} (h:(l.map (·.1)).Nodup) {k:α} {v:β}:(k,v)∈l↔mget l k=some v:=by
 induction l with
 | nil=>simp [mget]
 | cons p l ih =>
  obtain ⟨a,b⟩:=p;simp only [List.map_cons,List.nodup_cons] at h
  have ih:=ih h.2
  simp only [mget,List.mem_cons]
  by_cases hk:k=a
  ·subst hk
   rw [if_pos rfl]
   constructor
   ·rintro (e | e)
    ·rw [(Prod.mk.inj e).2]
    ·exact absurd (List.mem_map.2 ⟨_,e,rfl⟩) h.1
   ·intro e;left;rw [Option.some.inj e]
  ·rw [if_neg hk,<- ih]
   constructor
   ·rintro (e | e)
    ·exact absurd (Prod.mk.inj e).1 hk
    ·exact e
   ·exact .inr
theorem Qa {a:AutoAuto} (h:AB a) (hm:mayP a=0):CY a=some (withP (dropF (normP a)) (normP a),0):=by
 have hn:=I6 (H8 h hm)
 obtain ⟨mm,e,hk⟩:=Nq (normP a) hn;unfold CY;refine PE fun ord ho=>?_;rw [KW h hm];simp only [oB,decide_true,Bool.not_true,cF_];rw [show (⟨(normP a).l,(normP a).start⟩:AutoAuto)=normP a from rfl,e,oB];obtain ⟨mm',h1,h2⟩:=MU 0 (normP a) (ord mm) [];rw [h2,show (⟨(normP a).l,(normP a).start⟩:AutoAuto)=normP a from rfl,PR _ _ hn,oB]
 have hf:mget mm'=dropF (normP a):=by
  funext v
  rw [h1 v];unfold dropF
  have:(v,(3:Int))∈ord mm↔bits (normP a).l v=3:=by
   rw [(ho mm).mem_iff,Ti hk.2.1,hk.1 v]
   constructor
   ·intro h3
    split at h3
    ·cases h3
    ·exact Option.some.inj h3
   ·intro h3
    rw [if_neg (by omega),h3]
  by_cases h3:bits (normP a).l v=3
  ·rw [if_pos (this.2 h3),if_pos h3]
  ·rw [if_neg (fun h4=>h3 (this.1 h4)),if_neg h3];rfl
 rw [hf]
theorem Uh {a:AutoAuto} (h:AB a) (hm:¬ mayP a=0):CY a=some (⟨[],0⟩,mayP a):=by
 unfold CY;refine PE fun ord ho=>?_;rw [Nm h hm];simp only [oB];rw [dF hm,Bool.not_false,cT]
def addF (mm:List (Int×Int)) (v:Int):List (Int×Int):=if (mget mm v).isSome=true then mm else mm++[(v,(mm.length:Int))]
def RnOk (n:Nat) (mm:List (Int×Int)):Prop:=(mm.map (·.1)).Nodup/\(∀ p∈mm,0<=p.2)/\mm.length<=n
theorem OU {α β:Type} [DecidableEq α] {k:α} {v:β}:∀ {l:List (α×β)},mget l k=none->mset l k v=l++[(k,v)]
 | [],_=>rfl
 | (a,b)::l,h=>by
  simp only [mget] at h
  by_cases hk:k=a
  ·rw [if_pos hk] at h;cases h
  ·rw [if_neg hk] at h
   simp only [mset];rw [if_neg hk,OU h]
   rfl
theorem T6 {n:Nat} {mm:List (Int×Int)} {v:Int} (h:RnOk n mm):RnOk (n+1) (addF mm v):=by
 obtain ⟨h1,h2,h3⟩:=h;unfold addF
 cases hg:mget mm v with
 | some z=>rw [show (some z).isSome=true from rfl,if_pos rfl];exact ⟨h1,h2,by omega⟩
 | none =>
  rw [show (none:Option Int).isSome=false from rfl,if_neg (by simp)];refine ⟨?_,?_,by simp;omega⟩
  ·rw [List.map_append,List.nodup_append]
   exact ⟨h1,by simp,fun a ha b hb e=>by simp at hb;subst hb e;exact mget_none.1 hg ha⟩
  ·intro p hp
   rcases List.mem_append.1 hp with hp | hp
   ·exact h2 p hp
   ·simp at hp;subst hp;exact Int.natCast_nonneg _
theorem LM {mm:List (Int×Int)}:∀ (l:List Int) {n:Nat} {mm:List (Int×Int)},RnOk n mm->RnOk (n+l.length) (l.foldl addF mm)
 | [],_,_,h=>h
 | v::l,n,mm,h=>by
  have:=LM (mm:=mm) l (T6 (v:=v) h)
  rw [List.length_cons,show n+(l.length+1)=n+1+l.length by omega];exact this
noncomputable def rnP (l:List AutoState):List (Int×Int):=l.foldl (fun mm s=>s.vars.foldl addF mm) []
theorem TG (l:List AutoState) (s:AutoState):rnP (l++[s])=s.vars.foldl addF (rnP l):=by unfold rnP;rw [List.foldl_append];rfl
theorem QM (s:AutoState) (hs:s.vars.length<=40) (mm:List (Int×Int)) (h:mm.length<=1000000):BY s FU (0,mm)=some (s.vars.foldl addF mm):=by
 obtain ⟨o,e1,e2⟩:=A2 (φ:=fun n i q=>BY s n (i,q)) (l:=s.vars) (fun i q=>q=(s.vars.take i).foldl addF mm) (fun o=>o=s.vars.foldl addF mm)
  (by
   rintro n i x q hx hi rfl
   left
   refine ⟨_,?_,rfl⟩;rw [takeS hx,List.foldl_append,List.foldl_cons,List.foldl_nil]
   generalize (s.vars.take i).foldl addF mm=q
   simp only [BY];rw [dT (show (i:Int)<(s.vars.length:Int) by omega),cT,getI hx,oB];unfold addF
   cases hg:mget q x with
   | none=>rw [show (none:Option Int).isSome=false from rfl,Bool.not_false,cT,Ab (by omega),OU hg,if_neg (by simp)]
   | some z=>rw [show (some z).isSome=true from rfl,Bool.not_true,cF_,Ab (by omega),if_pos rfl])
  (by
   rintro n q rfl;refine ⟨_,?_,rfl⟩;simp only [BY];rw [dF (by omega),cF_,List.take_length]) (by rw [FUv];omega) mm (by simp)
 rw [e1,e2]
theorem Ro (a:AutoAuto) (h:AB a):Cb a FU (0,[])=some (rnP a.l)/\RnOk 100000 (rnP a.l):=by
 have hlen:=h.1
 obtain ⟨o,e1,e2,e3⟩:=A2 (φ:=fun n i q=>Cb a n (i,q)) (l:=a.l) (fun i q=>q=rnP (a.l.take i)/\RnOk (40*i) q) (fun o=>o=rnP a.l/\RnOk 100000 o)
  (by
   rintro n i s q hx hi ⟨hq,hr⟩
   left
   have hs:=(h.2 s (List.mem_of_getElem? hx)).1
   have hf:=LM (mm:=q) s.vars hr
   have hr3:=hr.2.2
   refine ⟨s.vars.foldl addF q,?_,by rw [takeS hx,TG,hq],hf.1,hf.2.1,by have:=hf.2.2;omega⟩;simp only [Cb];rw [dT (show (i:Int)<(a.l.length:Int) by omega),cT,getI hx,oB,QM s hs q (by omega),oB,Ab (by omega)])
  (by
   rintro n q ⟨hq,hr⟩;rw [List.take_length] at hq;refine ⟨q,?_,hq,hr.1,hr.2.1,by have:=hr.2.2;omega⟩;simp only [Cb];rw [dF (by omega),cF_]) (by rw [FUv];omega) [] ⟨by simp [rnP],by simp,by simp,by simp⟩
 subst e2;exact ⟨e1,e3⟩
theorem Mm {a:AutoAuto} (h:AB a) (hm:mayP a=0):Cf a=some (withP (mget (rnP (normP a).l)) (normP a),0):=by
 have hn:=I6 (H8 h hm)
 unfold Cf;rw [KW h hm];simp only [oB,decide_true,Bool.not_true,cF_];rw [(Ro _ hn).1,oB,show (⟨(normP a).l,(normP a).start⟩:AutoAuto)=normP a from rfl,PR _ _ hn,oB]
theorem QR {a:AutoAuto} (h:AB a) (hm:¬ mayP a=0):Cf a=some (⟨[],0⟩,mayP a):=by
 unfold Cf;rw [Nm h hm];simp only [oB];rw [dF hm,Bool.not_false,cT]
def a28:AutoAuto:=⟨[⟨true,false,false,false,false,true,false,false,[],1,2,[],[]⟩,⟨false,false,false,false,false,false,false,false,[7],0,0,[],[]⟩,⟨true,false,true,false,false,false,false,false,[],0,0,[],[]⟩],0⟩
theorem Nh:AB a28:=⟨by decide,by
 intro s hs
 simp only [a28,List.mem_cons,List.not_mem_nil,or_false] at hs
 rcases hs with rfl | rfl | rfl <;> exact ⟨by decide,by decide,by decide⟩⟩
theorem MY:mayP a28=0:=by
 have h:=Pz a28 Nh
 have h2:E7 a28=some 0:=by rfl
 rw [h2] at h;exact (Option.some.inj h).symm
theorem KO:normP a28=a28:=by rfl
theorem Sr:setC []=[]:=(MJ List.Pairwise.nil (by simp)).symm
theorem NX (x:Int):setC [x]=[x]:=(MJ (List.pairwise_singleton _ _) (by simp)).symm
theorem RZ:varsA a28=[7]:=by
 unfold varsA;rw [show a28.l.flatMap (·.vars)=[7] from rfl,NX]
theorem OG:bits a28.l 7=2:=by
 unfold bits
 have h1:occ a28.l true 7=false:=by
  unfold occ;rw [dF];rintro ⟨s,hs,h1,h2⟩;simp only [a28,List.mem_cons,List.not_mem_nil,or_false] at hs
  rcases hs with rfl | rfl | rfl
  ·simp at h2
  ·cases h1
  ·simp at h2
 have h2:occ a28.l false 7=true:=occ_iff.2 ⟨⟨false,false,false,false,false,false,false,false,[7],0,0,[],[]⟩,by simp [a28],rfl,by simp⟩
 rw [h1,h2];rfl
theorem Ub:B7=some true:=by
 have h1:D8 a28=some ([⟨7,2⟩],0):=by
  rw [SN Nh MY,KO];unfold MT;rw [RZ,List.map_cons,List.map_nil,OG]
 have h2:CY a28=some (withP (dropF a28) a28,0):=by rw [Qa Nh MY,KO]
 have h3:Cf a28=some (withP (mget (rnP a28.l)) a28,0):=by rw [Mm Nh MY,KO]
 have e1:idx (withP (dropF a28) a28).l 1=some (stW (dropF a28) ⟨false,false,false,false,false,false,false,false,[7],0,0,[],[]⟩):=rfl
 have e2:idx (withP (mget (rnP a28.l)) a28).l 1=some (stW (mget (rnP a28.l)) ⟨false,false,false,false,false,false,false,false,[7],0,0,[],[]⟩):=rfl
 have f1:(stW (dropF a28) ⟨false,false,false,false,false,false,false,false,[7],0,0,[],[]⟩).vars=[]:=by
  show setC ([7].filterMap (dropF a28))=[]
  have:dropF a28 7=none:=by unfold dropF;rw [OG];rfl
  rw [List.filterMap_cons,this];exact Sr
 have f2:(stW (mget (rnP a28.l)) ⟨false,false,false,false,false,false,false,false,[7],0,0,[],[]⟩).vars=[0]:=by
  show setC ([7].filterMap (mget (rnP a28.l)))=[0]
  have:mget (rnP a28.l) 7=some 0:=by rfl
  rw [List.filterMap_cons,this];exact NX 0
 unfold B7;simp only [show (⟨[(⟨true,false,false,false,false,true,false,false,([]:List Int),1,2,([]:List AutoEdge),([]:List AutoEdge)⟩:AutoState),(⟨false,false,false,false,false,false,false,false,[7],0,0,([]:List AutoEdge),([]:List AutoEdge)⟩:AutoState),(⟨true,false,true,false,false,false,false,false,([]:List Int),0,0,([]:List AutoEdge),([]:List AutoEdge)⟩:AutoState)],0⟩:AutoAuto)=a28 from rfl];rw [h1,h2,h3];simp only [oB];rw [e1,e2];simp only [oB,f1,f2]
 rfl
end Go.Proofs.YtcoghblhdjmbfaaGreat
