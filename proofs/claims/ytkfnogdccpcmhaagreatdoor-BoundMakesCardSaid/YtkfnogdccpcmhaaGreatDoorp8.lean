/- Part 8 of the proof: a program logic, what the functions compute, and what these answer; no condition. -/
import Derived.Test.YtkfnogdccpcmhaaGreatDoorp7
set_option linter.unusedVariables false
set_option linter.unusedSimpArgs false
set_option maxRecDepth 100000
set_option maxHeartbeats 2000000
namespace Go.Proofs.YtkfnogdccpcmhaaGreatDoor
open Go.V Tryz
noncomputable def m_lg_Few_l1 (t1:ATy) (most1:Int):Nat->(Int×(List ANd)×Int)->Option ((List ANd)×Int)
 | 0,_=>none
 | n+1,(i1,l2,z2) =>
  bif ((decide (i1<(t1.l.length:Int)))&&((decide (i1<most1))||((decide (2000<(t1.l.length:Int)))&&(decide (i1<=2000))))) then
   (idx t1.l i1).bind fun x1 =>
   (sli x1.l 0 (if 40<(x1.l.length:Int) then 40 else (x1.l.length:Int))).bind fun l3 =>
   grd ((0+l3.length)*24<=140737488355328) <|
   grd ((l2.length+([(⟨x1.kind,x1.a,x1.b,([]++l3)⟩:ANd)]:List _).length)*48<=140737488355328) <|
   grd (InR (i1+1)) <|
   m_lg_Few_l1 t1 most1 n ((i1+1),(l2++[(⟨x1.kind,x1.a,x1.b,([]++l3)⟩:ANd)]),z2)
  else
   some (l2,z2)
noncomputable def m_lg_Few (t1:ATy) (most1:Int):Option ATy:=
 (m_lg_Few_l1 t1 most1 FU (0,([]:List ANd),t1.root):Option ((List ANd)×Int)).bind fun (l1,z1) =>
 some (⟨l1,z1⟩:ATy)
theorem w_lg_Few {t1:ATy} {most1:Int} {r_1:ATy} (hm:m_lg_Few t1 most1=some r_1):Fn0 Tryz.prog 37 [ATy.d t1,.i64 most1] (ATy.d r_1):=by
 unfold m_lg_Few at hm;refine fn_intro func37 rfl ntmps37 rfl fun H0 fr w0=>?_;refine zq3 ?_;refine zal24a fun b1=>?_;refine zq5 ?_;refine go_p rfl rfl rfl zb24a ?_;refine zal24a fun b2=>?_;refine zst 0 ?_;refine go_conv (refines_newrow (T:=44) (sz:=4) (f:=ANd.d)) ?_;refine go_ms (ms':=[_,box b2 24 [_,_],box b1 24 [_,_]]) rfl ?_;refine zq6 ?_;obtain ⟨o_1,hj1,hm1⟩:=bS hm;refine g_cut_m [(4,_),(5,_)] [(2,_)] (fun (st:((List ANd)×Int)) (hid:(Option Addr×Nat))=>match st,hid with | (l1,z1),(a_r1,cap_r1)=>[]) (fun F (st:((List ANd)×Int)) (hid:(Option Addr×Nat))=>match st,hid with | (l1,z1),(a_r1,cap_r1)=>[row a_r1 cap_r1 44 4 ANd.d l1,box b2 24 [.v (.slice a_r1 l1.length cap_r1),.i64 z1],(nthF F 0)]) (fun st=>st=o_1) ⟨rfl,rfl,trivial⟩ ⟨rfl,trivial⟩ ?_ ?_
 ·refine g_block ?_
  refine g_loop_m [(1,_),(2,_),(4,_),(5,_)] [(2,_)] (fun (st:(Int×(List ANd)×Int)) (hid:(Option Addr×Nat))=>match st,hid with | (i1,l2,z2),(a_r1,cap_r1)=>[(6,.i64 i1)]) (fun F (st:(Int×(List ANd)×Int)) (hid:(Option Addr×Nat))=>match st,hid with | (i1,l2,z2),(a_r1,cap_r1)=>[row a_r1 cap_r1 44 4 ANd.d l2,box b2 24 [.v (.slice a_r1 l2.length cap_r1),.i64 z2],(nthF F 0)]) (_,_) hj1 (fun _=>rfl) ⟨rfl,rfl,rfl,rfl,trivial⟩ ⟨rfl,trivial⟩ ⟨rfl,trivial⟩ rfl ?_;rintro n ⟨i1,l2,z2⟩ ⟨a_r1,cap_r1⟩ hj1;rw [m_lg_Few_l1] at hj1;refine g_norm (L':=[(6,.i64 i1),(1,_),(2,_),(4,_),(5,_)]) (ms':=[row a_r1 cap_r1 44 4 ANd.d l2,box b2 24 [.v (.slice a_r1 l2.length cap_r1),.i64 z2],_]) rfl rfl ?_;refine zq9 ?_
  apply go_and [(1,_),(2,_),(4,_),(5,_),(6,_)] 14 30 (t:=16) ⟨rfl,rfl,rfl,rfl,rfl,trivial⟩ rfl
  ·intro hg_1 hk1
   refine zq4 ?_
   apply go_or [(1,_),(2,_),(4,_),(5,_),(6,_),(16,_)] 9 29 (t:=20) ⟨rfl,rfl,rfl,rfl,rfl,rfl,trivial⟩ rfl
   ·intro hg_2 hk2
    refine zq5 ?_
    apply go_and [(1,_),(2,_),(4,_),(5,_),(6,_),(16,_),(20,_)] 3 28 (t:=25) ⟨rfl,rfl,rfl,rfl,rfl,rfl,rfl,trivial⟩ rfl
    ·intro hg_3 hk3
     refine zq3 ?_;exact zgm hk3
    ·intro hg_3 hk3
     refine zq3 ?_;exact zgm hk3
    refine zq1 ?_;exact zgm hk2
   ·intro hg_2 hk2
    refine zq9 ?_;exact zgm hk2
   refine zq1 ?_;exact zgm hk1
  ·intro hg_1 hk1
   refine zq14 ?_;exact zgm hk1
  refine gNl ?_;refine zcn hj1 (fun hc1 hj1=>?_) (fun hc1 hj1=>?_)
  ·refine zq8 ?_
   obtain ⟨x1,hx1,hj1⟩:=bS hj1;refine zq2 ?_;refine zal44a fun b3=>?_;refine zst 0 ?_;refine go_ms (ms':=[box b3 44 [_,_,_,_],_,box b2 24 [_,_],box b1 24 [_,_]]) rfl ?_;refine zq3 ?_;refine go_op rfl rfl rfl (o_buildSlice_row (xs:=[]) (f:=AFd.d) (l:=[]) runUnderlying42 sizeOf98 zeroValue98 rfl rfl rfl (fun _=>⟨rfl,rfl,rfl⟩) rfl (by simp [maxLen])) ?_;rintro _ _ ⟨a_r2,rfl,rfl⟩;refine zq5 ?_;refine go_p rfl rfl rfl (o_min rfl rfl) ?_;obtain ⟨l3,hx2,hj1⟩:=bS hj1;refine go_p rfl rfl rfl (o_slice_m runUnderlying42 sizeOf98 rfl rfl ⟨_,rfl⟩ hx2) ?_;obtain ⟨hg3,hj1⟩:=grd_some hj1;refine zap 0 hg3 fun a_r2 cap_r2=>?_;refine go_ms (ms':=[_,box b3 44 [_,_,_,_],_,box b2 24 [_,_],box b1 24 [_,_]]) rfl ?_;refine zq1 ?_;refine zst 1 ?_;refine go_ms (ms':=[_,box b3 44 [_,_,_,_],_,box b2 24 [_,_],box b1 24 [_,_]]) rfl ?_;refine zq5 ?_;refine go_conv (peekAggE (i:=50) (q:=3) 0 rfl rfl rfl rfl rfl).refines ?_;refine go_p rfl rfl rfl (o_buildSlice (xs:=[_]) (f:=ANd.d) (l:=[(⟨x1.kind,x1.a,x1.b,([]++l3)⟩:ANd)]) runUnderlying22 sizeOf44 zeroValue44 rfl rfl rfl (fun _=>⟨rfl,rfl,rfl⟩) rfl) ?_;obtain ⟨hg4,hj1⟩:=grd_some hj1;refine zap 2 hg4 fun a_r1 cap_r1=>?_;refine go_ms (ms':=[_,box b3 44 [_,_,_,_],_,box b2 24 [_,_],box b1 24 [_,_]]) rfl ?_;refine zq1 ?_;refine zst 3 ?_;refine go_ms (ms':=[_,box b3 44 [_,_,_,_],_,box b2 24 [_,_],box b1 24 [_,_]]) rfl ?_;refine zq3 ?_;obtain ⟨hg5,hj1⟩:=grd_some hj1;refine zq3 ?_;exact ⟨_,(_,_),hj1,⟨rfl,trivial⟩,⟨rfl,rfl,rfl,rfl,trivial⟩,[_,_],rfl⟩
  ·refine g_exit ?_
   exact ⟨_,(_,_),some_eq hj1,trivial,⟨rfl,rfl,trivial⟩,[],rfl⟩
 ·rintro ⟨l1,z1⟩ ⟨a_r1,cap_r1⟩ hst
  subst hst;refine k_norm (L':=[(4,_),(5,_)]) (ms':=[row a_r1 cap_r1 44 4 ANd.d l1,box b2 24 [.v (.slice a_r1 l1.length cap_r1),.i64 z1],_]) rfl rfl ?_;refine zq3 ?_;refine go_conv (peekAggE (i:=54) (q:=0) 0 rfl rfl rfl rfl rfl).refines ?_;refine zst 2 ?_;refine go_ms (ms':=[_,box b2 24 [_,_],box b1 24 [_,_]]) rfl ?_;refine gNl ?_
  cases hm1;exact g_ret zr1
noncomputable def m_ra_small (c1:UInt8):Option Bool:=
 some (((decide (97<=(c1.toNat:Int)))&&(decide ((c1.toNat:Int)<=122)))||(decide ((c1.toNat:Int)=95)))
theorem w_ra_small {c1:UInt8} {r_1:Bool} (hm:m_ra_small c1=some r_1):Fn0 Tryz.prog 87 [.u8 c1] (.bool r_1):=by
 unfold m_ra_small at hm;refine fn_intro func87 rfl ntmps87 rfl fun H0 fr w0=>?_;refine zq9 ?_
 apply go_and [(0,_)] 3 8 (t:=5) ⟨rfl,trivial⟩ rfl
 ·intro hg_1 hk1
  refine zq3 ?_;exact zgm hk1
 ·intro hg_1 hk1
  refine zq3 ?_;exact zgm hk1
 refine zq1 ?_
 apply go_or [] 3 12 (t:=9) trivial rfl
 ·intro hg_2 hk2
  refine zq3 ?_;exact zgm hk2
 ·intro hg_2 hk2
  refine zq3 ?_;exact zgm hk2
 refine zq2 ?_
 cases hm;exact g_ret zr1
noncomputable def m_ra_great (c1:UInt8):Option Bool:=
 some ((decide (65<=(c1.toNat:Int)))&&(decide ((c1.toNat:Int)<=90)))
theorem w_ra_great {c1:UInt8} {r_1:Bool} (hm:m_ra_great c1=some r_1):Fn0 Tryz.prog 118 [.u8 c1] (.bool r_1):=by
 unfold m_ra_great at hm;refine fn_intro func118 rfl ntmps118 rfl fun H0 fr w0=>?_;refine zq9 ?_
 apply go_and [] 3 8 (t:=5) trivial rfl
 ·intro hg_1 hk1
  refine zq3 ?_;exact zgm hk1
 ·intro hg_1 hk1
  refine zq3 ?_;exact zgm hk1
 refine zq2 ?_
 cases hm;exact g_ret zr1
noncomputable def m_ra_Word_l1 (s1:(List UInt8)):Nat->Int->Option Int
 | 0,_=>none
 | n+1,n2 =>
  (bif (decide (n2<(s1.length:Int))) then ((idx s1 n2).bind fun c3 =>
  (m_ra_small c3).bind fun x3 =>
  (bif x3 then (some true) else ((idx s1 n2).bind fun c4 =>
  (m_ra_great c4).bind fun x4 =>
  some x4)).bind fun p4 =>
  (bif p4 then (some true) else ((idx s1 n2).bind fun c5 =>
  (bif (decide (48<=(c5.toNat:Int))) then ((idx s1 n2).bind fun c6 =>
  some (decide ((c6.toNat:Int)<=57))) else (some false)).bind fun p6 =>
  some p6)).bind fun p5 =>
  some p5) else (some false)).bind fun p3 =>
  bif p3 then
   grd (InR (n2+1)) <|
   m_ra_Word_l1 s1 n (n2+1)
  else
   some n2
noncomputable def m_ra_Word (s1:(List UInt8)):Option Int:=
 (bif (decide ((s1.length:Int)=0)) then (some true) else ((idx s1 0).bind fun c1 =>
 (m_ra_small c1).bind fun x1 =>
 (bif (!x1) then ((idx s1 0).bind fun c2 =>
 (m_ra_great c2).bind fun x2 =>
 some (!x2)) else (some false)).bind fun p2 =>
 some p2)).bind fun p1 =>
 bif p1 then
  some 0
 else
  (m_ra_Word_l1 s1 FU 1:Option Int).bind fun n1 =>
  some n1
theorem w_ra_Word {s1:(List UInt8)} {r_1:Int} (hm:m_ra_Word s1=some r_1):Fn0 Tryz.prog 86 [.str s1] (.i64 r_1):=by
 unfold m_ra_Word at hm;refine fn_intro func86 rfl ntmps86 rfl fun H0 fr w0=>?_;refine zq8 ?_;refine go_p rfl rfl rfl (o_len_str runUnderlying9 rfl) ?_;refine zq2 ?_;obtain ⟨p1,hp_1,hm⟩:=bS hm;refine go_two [(0,_)] 11 18 p1 (t:=7) ⟨rfl,trivial⟩ rfl (fun hg_1 hk1=>?_) (fun hg_1 hk1=>?_) ?_
 ·replace hp_1:=cond_t hg_1 hp_1
  refine zq11 ?_;exact zgb hk1 hp_1
 ·replace hp_1:=cond_f hg_1 hp_1
  refine zq1 ?_;obtain ⟨c1,hx1,hp_1⟩:=bS hp_1;refine gWp rfl rfl rfl hg_1 rfl rfl (o_index_m runUnderlying9 rfl rfl hx1) ?_;obtain ⟨x1,hx2,hp_1⟩:=bS hp_1;refine zcw (w_ra_small hx2) ?_;refine zq2 ?_;obtain ⟨p2,hp_2,hp_1⟩:=bS hp_1;refine go_two [(0,_),(7,_)] 5 17 p2 (t:=12) ⟨rfl,rfl,trivial⟩ rfl (fun hg_2 hk2=>?_) (fun hg_2 hk2=>?_) ?_
  ·replace hp_2:=cond_t hg_2 hp_2
   refine zq1 ?_;obtain ⟨c2,hx3,hp_2⟩:=bS hp_2;refine gWp rfl rfl rfl hg_2 rfl rfl (o_index_m runUnderlying9 rfl rfl hx3) ?_;obtain ⟨x2,hx4,hp_2⟩:=bS hp_2;refine zcw (w_ra_great hx4) ?_;refine zq2 ?_;exact zgb hk2 hp_2
  ·replace hp_2:=cond_f hg_2 hp_2
   refine zq5 ?_;exact zgb hk2 hp_2
  refine zq1 ?_;exact zgb hk1 hp_1
 refine gNl ?_;refine zcn hm (fun hc1 hm=>?_) (fun hc1 hm=>?_)
 ·refine zq4 ?_
  cases hm;exact g_ret zr1
 ·refine zq6 ?_
  obtain ⟨o_1,hj1,hm1⟩:=bS hm;refine g_cut_m [] [] (fun (st:Int) (hid:Unit)=>match st,hid with | n1,_=>[(3,.i64 n1)]) (fun F (st:Int) (hid:Unit)=>match st,hid with | n1,_=>[]) (fun st=>st=o_1) trivial trivial ?_ ?_
  ·refine g_block ?_
   refine g_loop_m [(0,_)] [] (fun (st:Int) (hid:Unit)=>match st,hid with | n2,_=>[(3,.i64 n2)]) (fun F (st:Int) (hid:Unit)=>match st,hid with | n2,_=>[]) () hj1 (fun _=>rfl) ⟨rfl,trivial⟩ trivial ⟨rfl,trivial⟩ rfl ?_;rintro n n2 _ hj1;rw [m_ra_Word_l1] at hj1;refine g_norm (L':=[(3,.i64 n2),(0,_)]) (ms':=[]) rfl rfl ?_;refine zq5 ?_;refine go_p rfl rfl rfl (o_len_str runUnderlying9 rfl) ?_;refine zq2 ?_;obtain ⟨p3,hp_3,hj1⟩:=bS hj1;refine go_two [(0,_),(3,_)] 23 46 p3 (t:=23) ⟨rfl,rfl,trivial⟩ rfl (fun hg_3 hk3=>?_) (fun hg_3 hk3=>?_) ?_
   ·replace hp_3:=cond_t hg_3 hp_3
    refine zq2 ?_;obtain ⟨c3,hx5,hp_3⟩:=bS hp_3;refine gWp rfl rfl rfl hg_3 rfl rfl (o_index_m runUnderlying9 rfl rfl hx5) ?_;obtain ⟨x3,hx6,hp_3⟩:=bS hp_3;refine zcw (w_ra_small hx6) ?_;refine zq1 ?_;obtain ⟨p4,hp_4,hp_3⟩:=bS hp_3;refine go_two [(0,_),(3,_),(23,_)] 5 33 p4 (t:=28) ⟨rfl,rfl,rfl,trivial⟩ rfl (fun hg_4 hk4=>?_) (fun hg_4 hk4=>?_) ?_
    ·replace hp_4:=cond_t hg_4 hp_4
     refine zq5 ?_;exact zgb hk4 hp_4
    ·replace hp_4:=cond_f hg_4 hp_4
     refine zq2 ?_;obtain ⟨c4,hx7,hp_4⟩:=bS hp_4;refine gWp rfl rfl rfl hg_4 rfl rfl (o_index_m runUnderlying9 rfl rfl hx7) ?_;obtain ⟨x4,hx8,hp_4⟩:=bS hp_4;refine zcw (w_ra_great hx8) ?_;refine zq1 ?_;exact zgb hk4 hp_4
    refine zq1 ?_;obtain ⟨p5,hp_5,hp_3⟩:=bS hp_3;refine go_two [(0,_),(3,_),(23,_)] 11 45 p5 (t:=34) ⟨rfl,rfl,rfl,trivial⟩ rfl (fun hg_5 hk5=>?_) (fun hg_5 hk5=>?_) ?_
    ·replace hp_5:=cond_t hg_5 hp_5
     refine zq11 ?_;exact zgb hk5 hp_5
    ·replace hp_5:=cond_f hg_5 hp_5
     refine zq2 ?_;obtain ⟨c5,hx9,hp_5⟩:=bS hp_5;refine gWp rfl rfl rfl hg_5 rfl rfl (o_index_m runUnderlying9 rfl rfl hx9) ?_;refine zq2 ?_;obtain ⟨p6,hp_6,hp_5⟩:=bS hp_5;refine go_two [(0,_),(3,_),(23,_),(34,_)] 5 44 p6 (t:=39) ⟨rfl,rfl,rfl,rfl,trivial⟩ rfl (fun hg_6 hk6=>?_) (fun hg_6 hk6=>?_) ?_
     ·replace hp_6:=cond_t hg_6 hp_6
      refine zq2 ?_;obtain ⟨c6,hx10,hp_6⟩:=bS hp_6;refine gWp rfl rfl rfl hg_6 rfl rfl (o_index_m runUnderlying9 rfl rfl hx10) ?_;refine zq2 ?_;exact zgb hk6 hp_6
     ·replace hp_6:=cond_f hg_6 hp_6
      refine zq5 ?_;exact zgb hk6 hp_6
     refine zq1 ?_;exact zgb hk5 hp_5
    refine zq1 ?_;exact zgb hk3 hp_3
   ·replace hp_3:=cond_f hg_3 hp_3
    refine zq23 ?_;exact zgb hk3 hp_3
   refine gNl ?_;refine zcn hj1 (fun hc2 hj1=>?_) (fun hc2 hj1=>?_)
   ·refine zq4 ?_
    obtain ⟨hg11,hj1⟩:=grd_some hj1;refine zq3 ?_;exact ⟨_,(),hj1,⟨rfl,trivial⟩,⟨rfl,trivial⟩,[],rfl⟩
   ·refine g_exit ?_
    exact ⟨_,(),some_eq hj1,⟨rfl,trivial⟩,trivial,[],rfl⟩
  ·rintro n1 _ hst
   subst hst;refine k_norm (L':=[(3,.i64 n1)]) (ms':=[]) rfl rfl ?_;refine zq5 ?_
   cases hm1;exact g_ret zr1
noncomputable def m_ra_In_l1 (s1:(List UInt8)) (l1:(List (List UInt8))):Nat->Int->Option (Out Bool Unit)
 | 0,_=>none
 | n+1,i1 =>
  bif (decide (i1<(l1.length:Int))) then
   (idx l1 i1).bind fun x1 =>
   bif (decide ((x1:List UInt8)=s1)) then
    some (Out.ret true)
   else
    grd (InR (i1+1)) <|
    m_ra_In_l1 s1 l1 n (i1+1)
  else
   some (Out.go (()))
noncomputable def m_ra_In (s1:(List UInt8)) (l1:(List (List UInt8))):Option Bool:=
 ((m_ra_In_l1 s1 l1 FU 0:Option (Out Bool Unit))).bind (fun oo=>oo.on (fun r1=>some r1) (fun _ =>
 some false))
theorem w_ra_In {s1:(List UInt8)} {l1:(List (List UInt8))} {r_1:Bool} (hm:m_ra_In s1 l1=some r_1):Fn0 Tryz.prog 119 [.str s1,.list 1 D.str l1] (.bool r_1):=by
 unfold m_ra_In at hm;refine fn_intro func119 rfl ntmps119 rfl fun H0 fr w0=>?_;refine zq9 ?_;obtain ⟨o_1,hj1,hm1⟩:=bS hm;refine g_cut_m [] [] (fun (st:Unit) (hid:Unit)=>match st,hid with | _,_=>[]) (fun F (st:Unit) (hid:Unit)=>match st,hid with | _,_=>[]) (fun st=>Out.go (st)=o_1) trivial trivial ?_ ?_
 ·refine g_block ?_
  refine g_loop_m [(0,_),(1,_)] [] (fun (st:Int) (hid:Unit)=>match st,hid with | i1,_=>[(5,.i64 i1)]) (fun F (st:Int) (hid:Unit)=>match st,hid with | i1,_=>[]) () hj1 (fun _=>rfl) ⟨rfl,rfl,trivial⟩ trivial ⟨rfl,trivial⟩ rfl ?_;rintro n i1 _ hj1;rw [m_ra_In_l1] at hj1;refine g_norm (L':=[(5,.i64 i1),(0,_),(1,_)]) (ms':=[]) rfl rfl ?_;refine zq8 ?_;refine zcn hj1 (fun hc1 hj1=>?_) (fun hc1 hj1=>?_)
  ·refine zq7 ?_
   obtain ⟨x1,hx1,hj1⟩:=bS hj1;refine zq5 ?_;refine zcn hj1 (fun hc2 hj1=>?_) (fun hc2 hj1=>?_)
   ·refine zq4 ?_
    refine g_ret ?_;obtain rfl:=some_eq hj1
    replace hm1:=on_ret hm1
    cases hm1;exact zr1
   ·refine zq3 ?_
    obtain ⟨hg2,hj1⟩:=grd_some hj1;refine zq3 ?_;exact ⟨_,(),hj1,⟨rfl,trivial⟩,⟨rfl,rfl,trivial⟩,[],rfl⟩
  ·refine g_exit ?_
   exact ⟨_,(),some_eq hj1,trivial,trivial,[],rfl⟩
 ·rintro _ _ hst
  subst hst
  replace hm1:=on_go hm1
  refine k_norm (L':=[]) (ms':=[]) rfl rfl ?_;refine zq4 ?_
  cases hm1;exact g_ret zr1
noncomputable def m_ra_Keywords  : Option (List (List UInt8)):=
 some [([102,117,110]:List UInt8),([108,101,116]:List UInt8),([114,101,99]:List UInt8),([105,110]:List UInt8),([105,102]:List UInt8),([116,104,101,110]:List UInt8),([101,108,115,101]:List UInt8),([99,97,115,101]:List UInt8),([111,102]:List UInt8),([101,110,100]:List UInt8),([116,114,117,101]:List UInt8),([102,97,108,115,101]:List UInt8),([99,104,101,99,107]:List UInt8),([97,115,107]:List UInt8),([116,111,112]:List UInt8),([98,111,116]:List UInt8),([105,110,116]:List UInt8),([98,111,111,108]:List UInt8),([115,116,114,105,110,103]:List UInt8),([109,117]:List UInt8)]
theorem w_ra_Keywords  {r_1:(List (List UInt8))} (hm:m_ra_Keywords=some r_1):Fn0 Tryz.prog 120 [] (.list 1 D.str r_1):=by
 unfold m_ra_Keywords at hm;refine fn_intro func120 rfl ntmps120 rfl fun H0 fr w0=>?_;refine zq3 ?_;refine go_conv (nilE (i:=0) (sz:=1) (f:=D.str) rfl).refines ?_;refine zq3 ?_;refine go_p rfl rfl rfl (o_buildSlice (xs:=[_,_,_,_,_,_,_,_,_,_,_,_,_,_,_,_,_,_,_,_]) (f:=D.str) (l:=[_,_,_,_,_,_,_,_,_,_,_,_,_,_,_,_,_,_,_,_]) runUnderlying65 sizeOf9 zeroValue9 rfl rfl rfl (fun _=>⟨rfl,rfl,rfl⟩) rfl) ?_;refine zq2 ?_
 cases hm;exact g_ret zr1
noncomputable def m_ra_Keyword (s1:(List UInt8)):Option Bool:=
 (m_ra_Keywords).bind fun x1 =>
 (m_ra_In s1 x1).bind fun x2 =>
 some x2
theorem w_ra_Keyword {s1:(List UInt8)} {r_1:Bool} (hm:m_ra_Keyword s1=some r_1):Fn0 Tryz.prog 88 [.str s1] (.bool r_1):=by
 unfold m_ra_Keyword at hm;refine fn_intro func88 rfl ntmps88 rfl fun H0 fr w0=>?_;refine zq7 ?_;obtain ⟨x1,hx1,hm⟩:=bS hm;refine zc0 (w_ra_Keywords hx1) ?_;obtain ⟨x2,hx2,hm⟩:=bS hm;refine zc0 (w_ra_In hx2) ?_;refine zq2 ?_
 cases hm;exact g_ret zr1
noncomputable def m_ra_Name (s1:(List UInt8)):Option Bool:=
 (bif ((decide (0<(s1.length:Int)))&&(decide ((s1.length:Int)<=20))) then ((m_ra_Word s1).bind fun x1 =>
 some (decide (x1=(s1.length:Int)))) else (some false)).bind fun p1 =>
 (bif p1 then ((idx s1 0).bind fun c1 =>
 (m_ra_small c1).bind fun x2 =>
 some x2) else (some false)).bind fun p2 =>
 (bif p2 then ((m_ra_Keyword s1).bind fun x3 =>
 some (!x3)) else (some false)).bind fun p3 =>
 some p3
theorem w_ra_Name {s1:(List UInt8)} {r_1:Bool} (hm:m_ra_Name s1=some r_1):Fn0 Tryz.prog 51 [.str s1] (.bool r_1):=by
 unfold m_ra_Name at hm;refine fn_intro func51 rfl ntmps51 rfl fun H0 fr w0=>?_;refine zq7 ?_;refine go_p rfl rfl rfl (o_len_str runUnderlying9 rfl) ?_;refine zq2 ?_
 apply go_and [(0,_)] 4 10 (t:=6) ⟨rfl,trivial⟩ rfl
 ·intro hg_1 hk1
  refine zq1 ?_;refine gWp rfl rfl rfl hg_1 rfl rfl (o_len_str runUnderlying9 rfl) ?_;refine zq2 ?_;exact zgm hk1
 ·intro hg_1 hk1
  refine zq4 ?_;exact zgm hk1
 refine zq1 ?_;obtain ⟨p1,hp_2,hm⟩:=bS hm;refine go_two [(0,_)] 6 17 p1 (t:=11) ⟨rfl,trivial⟩ rfl (fun hg_2 hk2=>?_) (fun hg_2 hk2=>?_) ?_
 ·replace hp_2:=cond_t hg_2 hp_2
  refine zq1 ?_;obtain ⟨x1,hx1,hp_2⟩:=bS hp_2;refine zcw (w_ra_Word hx1) ?_;refine zq1 ?_;refine gWp rfl rfl rfl hg_2 rfl rfl (o_len_str runUnderlying9 rfl) ?_;refine zq2 ?_;exact zgb hk2 hp_2
 ·replace hp_2:=cond_f hg_2 hp_2
  refine zq6 ?_;exact zgb hk2 hp_2
 refine zq1 ?_;obtain ⟨p2,hp_3,hm⟩:=bS hm;refine go_two [(0,_)] 4 22 p2 (t:=18) ⟨rfl,trivial⟩ rfl (fun hg_3 hk3=>?_) (fun hg_3 hk3=>?_) ?_
 ·replace hp_3:=cond_t hg_3 hp_3
  refine zq1 ?_;obtain ⟨c1,hx2,hp_3⟩:=bS hp_3;refine gWp rfl rfl rfl hg_3 rfl rfl (o_index_m runUnderlying9 rfl rfl hx2) ?_;obtain ⟨x2,hx3,hp_3⟩:=bS hp_3;refine zcw (w_ra_small hx3) ?_;refine zq1 ?_;exact zgb hk3 hp_3
 ·replace hp_3:=cond_f hg_3 hp_3
  refine zq4 ?_;exact zgb hk3 hp_3
 refine zq1 ?_;obtain ⟨p3,hp_4,hm⟩:=bS hm;refine go_two [] 4 27 p3 (t:=23) trivial rfl (fun hg_4 hk4=>?_) (fun hg_4 hk4=>?_) ?_
 ·replace hp_4:=cond_t hg_4 hp_4
  refine zq1 ?_;obtain ⟨x3,hx4,hp_4⟩:=bS hp_4;refine zcw (w_ra_Keyword hx4) ?_;refine zq2 ?_;exact zgb hk4 hp_4
 ·replace hp_4:=cond_f hg_4 hp_4
  refine zq4 ?_;exact zgb hk4 hp_4
 refine zq2 ?_
 cases hm;exact g_ret zr1
noncomputable def m_ra_Tag (s1:(List UInt8)):Option Bool:=
 (bif ((decide (0<(s1.length:Int)))&&(decide ((s1.length:Int)<=20))) then ((m_ra_Word s1).bind fun x1 =>
 some (decide (x1=(s1.length:Int)))) else (some false)).bind fun p1 =>
 (bif p1 then ((idx s1 0).bind fun c1 =>
 (m_ra_great c1).bind fun x2 =>
 some x2) else (some false)).bind fun p2 =>
 some p2
theorem w_ra_Tag {s1:(List UInt8)} {r_1:Bool} (hm:m_ra_Tag s1=some r_1):Fn0 Tryz.prog 100 [.str s1] (.bool r_1):=by
 unfold m_ra_Tag at hm;refine fn_intro func100 rfl ntmps100 rfl fun H0 fr w0=>?_;refine zq7 ?_;refine go_p rfl rfl rfl (o_len_str runUnderlying9 rfl) ?_;refine zq2 ?_
 apply go_and [(0,_)] 4 10 (t:=6) ⟨rfl,trivial⟩ rfl
 ·intro hg_1 hk1
  refine zq1 ?_;refine gWp rfl rfl rfl hg_1 rfl rfl (o_len_str runUnderlying9 rfl) ?_;refine zq2 ?_;exact zgm hk1
 ·intro hg_1 hk1
  refine zq4 ?_;exact zgm hk1
 refine zq1 ?_;obtain ⟨p1,hp_2,hm⟩:=bS hm;refine go_two [(0,_)] 6 17 p1 (t:=11) ⟨rfl,trivial⟩ rfl (fun hg_2 hk2=>?_) (fun hg_2 hk2=>?_) ?_
 ·replace hp_2:=cond_t hg_2 hp_2
  refine zq1 ?_;obtain ⟨x1,hx1,hp_2⟩:=bS hp_2;refine zcw (w_ra_Word hx1) ?_;refine zq1 ?_;refine gWp rfl rfl rfl hg_2 rfl rfl (o_len_str runUnderlying9 rfl) ?_;refine zq2 ?_;exact zgb hk2 hp_2
 ·replace hp_2:=cond_f hg_2 hp_2
  refine zq6 ?_;exact zgb hk2 hp_2
 refine zq1 ?_;obtain ⟨p2,hp_3,hm⟩:=bS hm;refine go_two [] 4 22 p2 (t:=18) trivial rfl (fun hg_3 hk3=>?_) (fun hg_3 hk3=>?_) ?_
 ·replace hp_3:=cond_t hg_3 hp_3
  refine zq1 ?_;obtain ⟨c1,hx2,hp_3⟩:=bS hp_3;refine gWp rfl rfl rfl hg_3 rfl rfl (o_index_m runUnderlying9 rfl rfl hx2) ?_;obtain ⟨x2,hx3,hp_3⟩:=bS hp_3;refine zcw (w_ra_great hx3) ?_;refine zq1 ?_;exact zgb hk3 hp_3
 ·replace hp_3:=cond_f hg_3 hp_3
  refine zq4 ?_;exact zgb hk3 hp_3
 refine zq2 ?_
 cases hm;exact g_ret zr1
noncomputable def m_rg_Kids_l1 (n1:ANd):Nat->(Int×(List Int))->Option (List Int)
 | 0,_=>none
 | n+1,(i1,l2) =>
  bif (decide (i1<(n1.l.length:Int))) then
   (idx n1.l i1).bind fun x1 =>
   grd ((l2.length+([x1.at_]:List _).length)*8<=140737488355328) <|
   grd (InR (i1+1)) <|
   m_rg_Kids_l1 n1 n ((i1+1),(l2++[x1.at_]))
  else
   some l2
noncomputable def m_rg_Kids (n1:ANd):Option (List Int):=
 bif (((decide (n1.kind=6))||(decide (n1.kind=9)))||(decide (n1.kind=10))) then
  some [n1.a,n1.b]
 else
  bif ((decide (n1.kind=7))||(decide (n1.kind=8))) then
   (m_rg_Kids_l1 n1 FU (0,[]):Option (List Int)).bind fun l1 =>
   some l1
  else
   some []
theorem w_rg_Kids {n1:ANd} {r_1:(List Int)} (hm:m_rg_Kids n1=some r_1):Fn0 Tryz.prog 101 [ANd.d n1] (.list 1 D.i64 r_1):=by
 unfold m_rg_Kids at hm;refine fn_intro func101 rfl ntmps101 rfl fun H0 fr w0=>?_;refine zq4 ?_;refine go_conv (nilE (i:=2) (sz:=1) (f:=D.i64) rfl).refines ?_;refine zq8 ?_
 apply go_or [(1,_)] 4 12 (t:=8) ⟨rfl,trivial⟩ rfl
 ·intro hg_1 hk1
  refine zq4 ?_;exact zgm hk1
 ·intro hg_1 hk1
  refine zq4 ?_;exact zgm hk1
 refine zq1 ?_
 apply go_or [(1,_)] 4 17 (t:=13) ⟨rfl,trivial⟩ rfl
 ·intro hg_2 hk2
  refine zq4 ?_;exact zgm hk2
 ·intro hg_2 hk2
  refine zq4 ?_;exact zgm hk2
 refine gNl ?_;refine zcn hm (fun hc1 hm=>?_) (fun hc1 hm=>?_)
 ·refine zq6 ?_
  refine go_p rfl rfl rfl (zs2 D.i64) ?_;refine zq2 ?_
  cases hm;exact g_ret zr1
 ·refine zq3 ?_
  refine go_op rfl rfl rfl (o_buildSlice_row (xs:=[]) (f:=D.i64) (l:=[]) runUnderlying25 sizeOf3 zeroValue3 rfl rfl rfl (fun _=>⟨rfl,rfl,rfl⟩) rfl (by simp [maxLen])) ?_;rintro _ _ ⟨a_r1,rfl,rfl⟩;refine zq9 ?_
  apply go_or [(1,_),(3,_)] 4 31 (t:=27) ⟨rfl,rfl,trivial⟩ rfl
  ·intro hg_3 hk3
   refine zq4 ?_;exact zgm hk3
  ·intro hg_3 hk3
   refine zq4 ?_;exact zgm hk3
  refine gNl ?_;refine zcn hm (fun hc2 hm=>?_) (fun hc2 hm=>?_)
  ·refine zq4 ?_
   obtain ⟨o_1,hj1,hm1⟩:=bS hm;refine g_cut_m [] [] (fun (st:(List Int)) (hid:(Option Addr×Nat))=>match st,hid with | l1,(a_r1,cap_r1)=>[(3,.v (.slice a_r1 l1.length cap_r1))]) (fun F (st:(List Int)) (hid:(Option Addr×Nat))=>match st,hid with | l1,(a_r1,cap_r1)=>[row a_r1 cap_r1 3 1 D.i64 l1]) (fun st=>st=o_1) trivial trivial ?_ ?_
   ·refine g_block ?_
    refine g_loop_m [(1,_)] [] (fun (st:(Int×(List Int))) (hid:(Option Addr×Nat))=>match st,hid with | (i1,l2),(a_r1,cap_r1)=>[(3,.v (.slice a_r1 l2.length cap_r1)),(4,.i64 i1)]) (fun F (st:(Int×(List Int))) (hid:(Option Addr×Nat))=>match st,hid with | (i1,l2),(a_r1,cap_r1)=>[row a_r1 cap_r1 3 1 D.i64 l2]) (_,_) hj1 (fun _=>rfl) ⟨rfl,trivial⟩ trivial ⟨rfl,rfl,trivial⟩ rfl ?_;rintro n ⟨i1,l2⟩ ⟨a_r1,cap_r1⟩ hj1;rw [m_rg_Kids_l1] at hj1;refine g_norm (L':=[(3,.v (.slice a_r1 l2.length cap_r1)),(4,.i64 i1),(1,_)]) (ms':=[row a_r1 cap_r1 3 1 D.i64 l2]) rfl rfl ?_;refine zq9 ?_;refine zcn hj1 (fun hc3 hj1=>?_) (fun hc3 hj1=>?_)
    ·refine zq8 ?_
     obtain ⟨x1,hx1,hj1⟩:=bS hj1;refine zq3 ?_;refine go_p rfl rfl rfl (zs1 D.i64) ?_;obtain ⟨hg2,hj1⟩:=grd_some hj1;refine zap 0 hg2 fun a_r1 cap_r1=>?_;refine go_ms (ms':=[_]) rfl ?_;refine zq4 ?_;obtain ⟨hg3,hj1⟩:=grd_some hj1;refine zq3 ?_;exact ⟨_,(_,_),hj1,⟨rfl,rfl,trivial⟩,⟨rfl,trivial⟩,[],rfl⟩
    ·refine g_exit ?_
     exact ⟨_,(_,_),some_eq hj1,⟨rfl,trivial⟩,trivial,[],rfl⟩
   ·rintro l1 ⟨a_r1,cap_r1⟩ hst
    subst hst;refine k_norm (L':=[(3,.v (.slice a_r1 l1.length cap_r1))]) (ms':=[row a_r1 cap_r1 3 1 D.i64 l1]) rfl rfl ?_;refine zq5 ?_;refine g_conv (peekE (i:=2) 0 rfl rfl rfl).refines ?_
    cases hm1;exact g_ret zr1
  ·refine zq6 ?_
   refine g_conv (peekE (i:=2) 0 rfl rfl rfl).refines ?_
   cases hm;exact g_ret zr1
noncomputable def m_rg_right_l1 (n1:ANd):Nat->Int->Option (Out Bool Unit)
 | 0,_=>none
 | n+1,i1 =>
  bif (decide (i1<(n1.l.length:Int))) then
   (idx n1.l i1).bind fun x1 =>
   (bif (decide (n1.kind=7)) then ((m_ra_Name x1.name).bind fun x2 =>
   some (!x2)) else (some false)).bind fun p1 =>
   (bif p1 then (some true) else ((bif (decide (n1.kind=8)) then ((m_ra_Tag x1.name).bind fun x3 =>
   some (!x3)) else (some false)).bind fun p3 =>
   some p3)).bind fun p2 =>
   (bif p2 then (some true) else ((bif (decide (0<i1)) then (grd (InR (i1 - 1)) <|
   (idx n1.l (i1 - 1)).bind fun x4 =>
   some (!Op.bytesLess x4.name x1.name)) else (some false)).bind fun p5 =>
   some p5)).bind fun p4 =>
   bif p4 then
    some (Out.ret false)
   else
    grd (InR (i1+1)) <|
    m_rg_right_l1 n1 n (i1+1)
  else
   some (Out.go (()))
noncomputable def m_rg_right_l2 (all1:Int) (x5:(List Int)):Nat->Int->Option (Out Bool Unit)
 | 0,_=>none
 | n+1,i2 =>
  bif (decide (i2<(x5.length:Int))) then
   (idx x5 i2).bind fun x6 =>
   (bif (decide (x6<0)) then (some true) else ((idx x5 i2).bind fun x7 =>
   some (decide (all1<=x7)))).bind fun p6 =>
   bif p6 then
    some (Out.ret false)
   else
    grd (InR (i2+1)) <|
    m_rg_right_l2 all1 x5 n (i2+1)
  else
   some (Out.go (()))
noncomputable def m_rg_right (n1:ANd) (all1:Int):Option Bool:=
 bif ((((((decide (n1.kind<1))||(decide (11<n1.kind)))||(((!(((decide (n1.kind=6))||(decide (n1.kind=9)))||(decide (n1.kind=10))))&&(!decide (n1.kind=11)))&&(!decide (n1.a=0))))||((!(((decide (n1.kind=6))||(decide (n1.kind=9)))||(decide (n1.kind=10))))&&(!decide (n1.b=0))))||((!((decide (n1.kind=7))||(decide (n1.kind=8))))&&(decide (0<(n1.l.length:Int)))))||(decide (30<(n1.l.length:Int)))) then
  some false
 else
  bif ((decide (n1.kind=11))&&((decide (n1.a<0))||(decide (999<n1.a)))) then
   some false
  else
   ((m_rg_right_l1 n1 FU 0:Option (Out Bool Unit))).bind (fun oo=>oo.on (fun r2=>some r2) (fun _ =>
   (m_rg_Kids n1).bind fun x5 =>
   ((m_rg_right_l2 all1 x5 FU 0:Option (Out Bool Unit))).bind (fun oo=>oo.on (fun r1=>some r1) (fun _ =>
   some true))))
theorem w_rg_right {n1:ANd} {all1:Int} {r_1:Bool} (hm:m_rg_right n1 all1=some r_1):Fn0 Tryz.prog 59 [ANd.d n1,.i64 all1] (.bool r_1):=by
 unfold m_rg_right at hm;refine fn_intro func59 rfl ntmps59 rfl fun H0 fr w0=>?_;refine zq11 ?_
 apply go_or [(1,_),(2,_)] 4 18 (t:=14) ⟨rfl,rfl,trivial⟩ rfl
 ·intro hg_1 hk1
  refine zq4 ?_;exact zgm hk1
 ·intro hg_1 hk1
  refine zq4 ?_;exact zgm hk1
 refine zq1 ?_
 apply go_or [(1,_),(2,_)] 4 23 (t:=19) ⟨rfl,rfl,trivial⟩ rfl
 ·intro hg_2 hk2
  refine zq4 ?_;exact zgm hk2
 ·intro hg_2 hk2
  refine zq4 ?_;exact zgm hk2
 refine zq8 ?_
 apply go_or [(1,_),(2,_),(5,_)] 4 31 (t:=27) ⟨rfl,rfl,rfl,trivial⟩ rfl
 ·intro hg_3 hk3
  refine zq4 ?_;exact zgm hk3
 ·intro hg_3 hk3
  refine zq4 ?_;exact zgm hk3
 refine zq9 ?_
 apply go_or [(1,_),(2,_),(5,_),(6,_)] 4 39 (t:=35) ⟨rfl,rfl,rfl,rfl,trivial⟩ rfl
 ·intro hg_4 hk4
  refine zq4 ?_;exact zgm hk4
 ·intro hg_4 hk4
  refine zq4 ?_;exact zgm hk4
 refine zq1 ?_
 apply go_or [(1,_),(2,_),(5,_),(6,_)] 13 53 (t:=40) ⟨rfl,rfl,rfl,rfl,trivial⟩ rfl
 ·intro hg_5 hk5
  refine zq3 ?_
  apply go_and [(1,_),(2,_),(5,_),(6,_),(40,_)] 4 47 (t:=43) ⟨rfl,rfl,rfl,rfl,rfl,trivial⟩ rfl
  ·intro hg_6 hk6
   refine zq4 ?_;exact zgm hk6
  ·intro hg_6 hk6
   refine zq4 ?_;exact zgm hk6
  refine zq1 ?_
  apply go_and [(1,_),(2,_),(5,_),(6,_),(40,_)] 4 52 (t:=48) ⟨rfl,rfl,rfl,rfl,rfl,trivial⟩ rfl
  ·intro hg_7 hk7
   refine zq4 ?_;exact zgm hk7
  ·intro hg_7 hk7
   refine zq4 ?_;exact zgm hk7
  refine zq1 ?_;exact zgm hk5
 ·intro hg_5 hk5
  refine zq13 ?_;exact zgm hk5
 refine zq1 ?_
 apply go_or [(1,_),(2,_),(6,_)] 8 62 (t:=54) ⟨rfl,rfl,rfl,trivial⟩ rfl
 ·intro hg_8 hk8
  refine zq3 ?_
  apply go_and [(1,_),(2,_),(6,_),(54,_)] 4 61 (t:=57) ⟨rfl,rfl,rfl,rfl,trivial⟩ rfl
  ·intro hg_9 hk9
   refine zq4 ?_;exact zgm hk9
  ·intro hg_9 hk9
   refine zq4 ?_;exact zgm hk9
  refine zq1 ?_;exact zgm hk8
 ·intro hg_8 hk8
  refine zq8 ?_;exact zgm hk8
 refine zq1 ?_
 apply go_or [(1,_),(2,_)] 9 72 (t:=63) ⟨rfl,rfl,trivial⟩ rfl
 ·intro hg_10 hk10
  refine zq3 ?_
  apply go_and [(1,_),(2,_),(63,_)] 5 71 (t:=66) ⟨rfl,rfl,rfl,trivial⟩ rfl
  ·intro hg_11 hk11
   refine zq5 ?_;exact zgm hk11
  ·intro hg_11 hk11
   refine zq5 ?_;exact zgm hk11
  refine zq1 ?_;exact zgm hk10
 ·intro hg_10 hk10
  refine zq9 ?_;exact zgm hk10
 refine zq1 ?_
 apply go_or [(1,_),(2,_)] 5 78 (t:=73) ⟨rfl,rfl,trivial⟩ rfl
 ·intro hg_12 hk12
  refine zq5 ?_;exact zgm hk12
 ·intro hg_12 hk12
  refine zq5 ?_;exact zgm hk12
 refine gNl ?_;refine zcn hm (fun hc1 hm=>?_) (fun hc1 hm=>?_)
 ·refine zq4 ?_
  cases hm;exact g_ret zr1
 ·refine zq8 ?_
  apply go_and [(1,_),(2,_)] 9 91 (t:=82) ⟨rfl,rfl,trivial⟩ rfl
  ·intro hg_13 hk13
   refine zq4 ?_
   apply go_or [(1,_),(2,_),(82,_)] 4 90 (t:=86) ⟨rfl,rfl,rfl,trivial⟩ rfl
   ·intro hg_14 hk14
    refine zq4 ?_;exact zgm hk14
   ·intro hg_14 hk14
    refine zq4 ?_;exact zgm hk14
   refine zq1 ?_;exact zgm hk13
  ·intro hg_13 hk13
   refine zq9 ?_;exact zgm hk13
  refine gNl ?_;refine zcn hm (fun hc2 hm=>?_) (fun hc2 hm=>?_)
  ·refine zq4 ?_
   cases hm;exact g_ret zr1
  ·refine zq6 ?_
   obtain ⟨o_1,hj1,hm1⟩:=bS hm;refine g_cut_m [(1,_),(2,_)] [] (fun (st:Unit) (hid:Unit)=>match st,hid with | _,_=>[]) (fun F (st:Unit) (hid:Unit)=>match st,hid with | _,_=>[]) (fun st=>Out.go (st)=o_1) ⟨rfl,rfl,trivial⟩ trivial ?_ ?_
   ·refine g_block ?_
    refine g_loop_m [(1,_),(2,_)] [] (fun (st:Int) (hid:Unit)=>match st,hid with | i1,_=>[(7,.i64 i1)]) (fun F (st:Int) (hid:Unit)=>match st,hid with | i1,_=>[]) () hj1 (fun _=>rfl) ⟨rfl,rfl,trivial⟩ trivial ⟨rfl,trivial⟩ rfl ?_;rintro n i1 _ hj1;rw [m_rg_right_l1] at hj1;refine g_norm (L':=[(7,.i64 i1),(1,_),(2,_)]) (ms':=[]) rfl rfl ?_;refine zq9 ?_;refine zcn hj1 (fun hc3 hj1=>?_) (fun hc3 hj1=>?_)
    ·refine zq8 ?_
     obtain ⟨x1,hx1,hj1⟩:=bS hj1;refine go_p rfl rfl rfl (oIm runUnderlying42 sizeOf98 rfl rfl hx1) ?_;refine zq10 ?_;obtain ⟨p1,hp_15,hj1⟩:=bS hj1;refine go_two [(1,_),(2,_),(7,_),(8,_)] 4 112 p1 (t:=108) ⟨rfl,rfl,rfl,rfl,trivial⟩ rfl (fun hg_15 hk15=>?_) (fun hg_15 hk15=>?_) ?_
     ·replace hp_15:=cond_t hg_15 hp_15
      refine zq1 ?_;obtain ⟨x2,hx2,hp_15⟩:=bS hp_15;refine zcw (w_ra_Name hx2) ?_;refine zq2 ?_;exact zgb hk15 hp_15
     ·replace hp_15:=cond_f hg_15 hp_15
      refine zq4 ?_;exact zgb hk15 hp_15
     refine zq1 ?_;obtain ⟨p2,hp_16,hj1⟩:=bS hj1;refine go_two [(1,_),(2,_),(7,_),(8,_)] 9 122 p2 (t:=113) ⟨rfl,rfl,rfl,rfl,trivial⟩ rfl (fun hg_16 hk16=>?_) (fun hg_16 hk16=>?_) ?_
     ·replace hp_16:=cond_t hg_16 hp_16
      refine zq9 ?_;exact zgb hk16 hp_16
     ·replace hp_16:=cond_f hg_16 hp_16
      refine zq4 ?_;obtain ⟨p3,hp_17,hp_16⟩:=bS hp_16;refine go_two [(1,_),(2,_),(7,_),(8,_),(113,_)] 4 121 p3 (t:=117) ⟨rfl,rfl,rfl,rfl,rfl,trivial⟩ rfl (fun hg_17 hk17=>?_) (fun hg_17 hk17=>?_) ?_
      ·replace hp_17:=cond_t hg_17 hp_17
       refine zq1 ?_;obtain ⟨x3,hx3,hp_17⟩:=bS hp_17;refine zcw (w_ra_Tag hx3) ?_;refine zq2 ?_;exact zgb hk17 hp_17
      ·replace hp_17:=cond_f hg_17 hp_17
       refine zq4 ?_;exact zgb hk17 hp_17
      refine zq1 ?_;exact zgb hk16 hp_16
     refine zq1 ?_;obtain ⟨p4,hp_18,hj1⟩:=bS hj1;refine go_two [(1,_),(2,_),(7,_)] 14 137 p4 (t:=123) ⟨rfl,rfl,rfl,trivial⟩ rfl (fun hg_18 hk18=>?_) (fun hg_18 hk18=>?_) ?_
     ·replace hp_18:=cond_t hg_18 hp_18
      refine zq14 ?_;exact zgb hk18 hp_18
     ·replace hp_18:=cond_f hg_18 hp_18
      refine zq3 ?_;obtain ⟨p5,hp_19,hp_18⟩:=bS hp_18;refine go_two [(1,_),(2,_),(7,_),(123,_)] 10 136 p5 (t:=126) ⟨rfl,rfl,rfl,rfl,trivial⟩ rfl (fun hg_19 hk19=>?_) (fun hg_19 hk19=>?_) ?_
      ·replace hp_19:=cond_t hg_19 hp_19
       refine zq3 ?_;obtain ⟨hg4,hp_19⟩:=grd_some hp_19;refine zq1 ?_;obtain ⟨x4,hx5,hp_19⟩:=bS hp_19;refine gWp rfl rfl rfl hg_19 rfl rfl (oIm runUnderlying42 sizeOf98 rfl rfl hx5) ?_;refine zq5 ?_;exact zgb hk19 hp_19
      ·replace hp_19:=cond_f hg_19 hp_19
       refine zq10 ?_;exact zgb hk19 hp_19
      refine zq1 ?_;exact zgb hk18 hp_18
     refine gNl ?_;refine zcn hj1 (fun hc4 hj1=>?_) (fun hc4 hj1=>?_)
     ·refine zq4 ?_
      refine g_ret ?_;obtain rfl:=some_eq hj1
      replace hm1:=on_ret hm1
      cases hm1;exact zr1
     ·refine zq3 ?_
      obtain ⟨hg6,hj1⟩:=grd_some hj1;refine zq3 ?_;exact ⟨_,(),hj1,⟨rfl,trivial⟩,⟨rfl,rfl,trivial⟩,[],rfl⟩
    ·refine g_exit ?_
     exact ⟨_,(),some_eq hj1,trivial,⟨rfl,rfl,trivial⟩,[],rfl⟩
   ·rintro _ _ hst
    subst hst
    replace hm1:=on_go hm1
    refine k_norm (L':=[(1,_),(2,_)]) (ms':=[]) rfl rfl ?_;refine zq3 ?_;obtain ⟨x5,hx7,hm1⟩:=bS hm1;refine zc0 (w_rg_Kids hx7) ?_;refine zq7 ?_;obtain ⟨o_2,hj2,hm2⟩:=bS hm1;refine g_cut_m [] [] (fun (st:Unit) (hid:Unit)=>match st,hid with | _,_=>[]) (fun F (st:Unit) (hid:Unit)=>match st,hid with | _,_=>[]) (fun st=>Out.go (st)=o_2) trivial trivial ?_ ?_
    ·refine g_block ?_
     refine g_loop_m [(1,_),(9,_)] [] (fun (st:Int) (hid:Unit)=>match st,hid with | i2,_=>[(10,.i64 i2)]) (fun F (st:Int) (hid:Unit)=>match st,hid with | i2,_=>[]) () hj2 (fun _=>rfl) ⟨rfl,rfl,trivial⟩ trivial ⟨rfl,trivial⟩ rfl ?_;rintro n i2 _ hj2;rw [m_rg_right_l2] at hj2;refine g_norm (L':=[(10,.i64 i2),(1,_),(9,_)]) (ms':=[]) rfl rfl ?_;refine zq8 ?_;refine zcn hj2 (fun hc5 hj2=>?_) (fun hc5 hj2=>?_)
     ·refine zq7 ?_
      obtain ⟨x6,hx8,hj2⟩:=bS hj2;refine go_p rfl rfl rfl (oIm runUnderlying25 sizeOf3 rfl rfl hx8) ?_;refine zq3 ?_;obtain ⟨p6,hp_20,hj2⟩:=bS hj2;refine go_two [(1,_),(9,_),(10,_)] 7 158 p6 (t:=151) ⟨rfl,rfl,rfl,trivial⟩ rfl (fun hg_20 hk20=>?_) (fun hg_20 hk20=>?_) ?_
      ·replace hp_20:=cond_t hg_20 hp_20
       refine zq7 ?_;exact zgb hk20 hp_20
      ·replace hp_20:=cond_f hg_20 hp_20
       refine zq2 ?_;obtain ⟨x7,hx9,hp_20⟩:=bS hp_20;refine gWp rfl rfl rfl hg_20 rfl rfl (oIm runUnderlying25 sizeOf3 rfl rfl hx9) ?_;refine zq4 ?_;exact zgb hk20 hp_20
      refine gNl ?_;refine zcn hj2 (fun hc6 hj2=>?_) (fun hc6 hj2=>?_)
      ·refine zq4 ?_
       refine g_ret ?_;obtain rfl:=some_eq hj2
       replace hm2:=on_ret hm2
       cases hm2;exact zr1
      ·refine zq3 ?_
       obtain ⟨hg10,hj2⟩:=grd_some hj2;refine zq3 ?_;exact ⟨_,(),hj2,⟨rfl,trivial⟩,⟨rfl,rfl,trivial⟩,[],rfl⟩
     ·refine g_exit ?_
      exact ⟨_,(),some_eq hj2,trivial,trivial,[],rfl⟩
    ·rintro _ _ hst
     subst hst
     replace hm2:=on_go hm2
     refine k_norm (L':=[]) (ms':=[]) rfl rfl ?_;refine zq4 ?_
     cases hm2;exact g_ret zr1
noncomputable def m_rg_May_l1 (t1:ATy):Nat->Int->Option (Out Int Unit)
 | 0,_=>none
 | n+1,i1 =>
  bif (decide (i1<(t1.l.length:Int))) then
   (idx t1.l i1).bind fun x1 =>
   (m_rg_right x1 (t1.l.length:Int)).bind fun x2 =>
   bif (!x2) then
    some (Out.ret 4)
   else
    grd (InR (i1+1)) <|
    m_rg_May_l1 t1 n (i1+1)
  else
   some (Out.go (()))
noncomputable def m_rg_May_l3 (t1:ATy):Nat->(Bool×Int×(List Bool))->Option (Bool×(List Bool))
 | 0,_=>none
 | n+1,(more3,i2,l4) =>
  bif (decide (i2<(t1.l.length:Int))) then
   (idx t1.l i2).bind fun x3 =>
   (bif ((!decide (x3.kind=9))&&(!decide (x3.kind=10))) then (some true) else ((idx l4 x3.a).bind fun x4 =>
   (bif x4 then ((idx l4 x3.b).bind fun x5 =>
   some x5) else (some false)).bind fun p2 =>
   some p2)).bind fun p1 =>
   (bif p1 then ((idx l4 i2).bind fun x6 =>
   some (!x6)) else (some false)).bind fun p3 =>
   bif p3 then
    (idx l4 i2).bind fun x7 =>
    grd (InR (i2+1)) <|
    m_rg_May_l3 t1 n (true,(i2+1),(l4.set (i2).toNat true))
   else
    grd (InR (i2+1)) <|
    m_rg_May_l3 t1 n (more3,(i2+1),l4)
  else
   some (more3,l4)
noncomputable def m_rg_May_l2 (t1:ATy):Nat->(Bool×(List Bool))->Option (List Bool)
 | 0,_=>none
 | n+1,(more1,l2) =>
  bif more1 then
   (m_rg_May_l3 t1 FU (false,0,l2):Option (Bool×(List Bool))).bind fun (more2,l3) =>
   m_rg_May_l2 t1 n (more2,l3)
  else
   some l2
noncomputable def m_rg_May_l4 (l1:(List Bool)):Nat->Int->Option (Out Int Unit)
 | 0,_=>none
 | n+1,i3 =>
  bif (decide (i3<(l1.length:Int))) then
   (idx l1 i3).bind fun x8 =>
   bif (!x8) then
    some (Out.ret 4)
   else
    grd (InR (i3+1)) <|
    m_rg_May_l4 l1 n (i3+1)
  else
   some (Out.go (()))
noncomputable def m_rg_May (t1:ATy):Option Int:=
 bif ((decide ((t1.l.length:Int)<1))||(decide (2000<(t1.l.length:Int)))) then
  some 8
 else
  bif ((decide (t1.root<0))||(decide ((t1.l.length:Int)<=t1.root))) then
   some 4
  else
   ((m_rg_May_l1 t1 FU 0:Option (Out Int Unit))).bind (fun oo=>oo.on (fun r2=>some r2) (fun _ =>
   grd (0<=(t1.l.length:Int)) <|
   grd (((t1.l.length:Int)).toNat*1<=140737488355328) <|
   (m_rg_May_l2 t1 FU (true,(List.replicate ((t1.l.length:Int)).toNat (false:Bool))):Option (List Bool)).bind fun l1 =>
   ((m_rg_May_l4 l1 FU 0:Option (Out Int Unit))).bind (fun oo=>oo.on (fun r1=>some r1) (fun _ =>
   some 0))))
theorem w_rg_May {t1:ATy} {r_1:Int} (hm:m_rg_May t1=some r_1):Fn0 Tryz.prog 16 [ATy.d t1] (.i64 r_1):=by
 unfold m_rg_May at hm;refine fn_intro func16 rfl ntmps16 rfl fun H0 fr w0=>?_;refine zq13 ?_
 apply go_or [(1,_)] 5 19 (t:=14) ⟨rfl,trivial⟩ rfl
 ·intro hg_1 hk1
  refine zq5 ?_;exact zgm hk1
 ·intro hg_1 hk1
  refine zq5 ?_;exact zgm hk1
 refine gNl ?_;refine zcn hm (fun hc1 hm=>?_) (fun hc1 hm=>?_)
 ·refine zq4 ?_
  cases hm;exact g_ret zr1
 ·refine zq8 ?_
  apply go_or [(1,_)] 7 30 (t:=23) ⟨rfl,trivial⟩ rfl
  ·intro hg_2 hk2
   refine zq7 ?_;exact zgm hk2
  ·intro hg_2 hk2
   refine zq7 ?_;exact zgm hk2
  refine gNl ?_;refine zcn hm (fun hc2 hm=>?_) (fun hc2 hm=>?_)
  ·refine zq4 ?_
   cases hm;exact g_ret zr1
  ·refine zq6 ?_
   obtain ⟨o_1,hj1,hm1⟩:=bS hm;refine g_cut_m [(1,_)] [] (fun (st:Unit) (hid:Unit)=>match st,hid with | _,_=>[]) (fun F (st:Unit) (hid:Unit)=>match st,hid with | _,_=>[]) (fun st=>Out.go (st)=o_1) ⟨rfl,trivial⟩ trivial ?_ ?_
   ·refine g_block ?_
    refine g_loop_m [(1,_)] [] (fun (st:Int) (hid:Unit)=>match st,hid with | i1,_=>[(3,.i64 i1)]) (fun F (st:Int) (hid:Unit)=>match st,hid with | i1,_=>[]) () hj1 (fun _=>rfl) ⟨rfl,trivial⟩ trivial ⟨rfl,trivial⟩ rfl ?_;rintro n i1 _ hj1;rw [m_rg_May_l1] at hj1;refine g_norm (L':=[(3,.i64 i1),(1,_)]) (ms':=[]) rfl rfl ?_;refine zq9 ?_;refine zcn hj1 (fun hc3 hj1=>?_) (fun hc3 hj1=>?_)
    ·refine zq4 ?_
     obtain ⟨x1,hx1,hj1⟩:=bS hj1;obtain ⟨x2,hx2,hj1⟩:=bS hj1;refine zdr 10 ?_;refine zq3 ?_;refine gd_p rfl rfl rfl (oIm runUnderlying22 sizeOf44 rfl rfl hx1) ?_;refine zq4 ?_;refine zcd (w_rg_right hx2) ?_;refine zq3 ?_;refine zcn hj1 (fun hc4 hj1=>?_) (fun hc4 hj1=>?_)
     ·refine zq4 ?_
      refine g_ret ?_;obtain rfl:=some_eq hj1
      replace hm1:=on_ret hm1
      cases hm1;exact zr1
     ·refine zq3 ?_
      obtain ⟨hg3,hj1⟩:=grd_some hj1;refine zq3 ?_;exact ⟨_,(),hj1,⟨rfl,trivial⟩,⟨rfl,trivial⟩,[],rfl⟩
    ·refine g_exit ?_
     exact ⟨_,(),some_eq hj1,trivial,⟨rfl,trivial⟩,[],rfl⟩
   ·rintro _ _ hst
    subst hst
    replace hm1:=on_go hm1
    refine k_norm (L':=[(1,_)]) (ms':=[]) rfl rfl ?_;refine zq5 ?_;obtain ⟨hg4,hm1⟩:=grd_some hm1;obtain ⟨hg5,hm1⟩:=grd_some hm1;refine go_op rfl rfl rfl (o_makeSlice (f:=D.bool) (z0:=false) underlying77 type4 rfl rfl rfl (nB rfl) rfl rfl hg4 hg5 (nB rfl)) ?_;rintro _ _ ⟨a_r1,m_r1,cap_r1,rfl,rfl⟩;refine zq7 ?_;obtain ⟨o_2,hj2,hm2⟩:=bS hm1;refine g_cut_m [(4,_)] [] (fun (st:(List Bool)) (hid:Unit)=>match st,hid with | l1,_=>[]) (fun F (st:(List Bool)) (hid:Unit)=>match st,hid with | l1,_=>[arr a_r1 m_r1 cap_r1 4 1 D.bool l1]) (fun st=>st=o_2) ⟨rfl,trivial⟩ trivial ?_ ?_
    ·refine g_block ?_
     refine g_loop_m [(1,_),(4,_)] [] (fun (st:(Bool×(List Bool))) (hid:Unit)=>match st,hid with | (more1,l2),_=>[(5,.bool more1)]) (fun F (st:(Bool×(List Bool))) (hid:Unit)=>match st,hid with | (more1,l2),_=>[arr a_r1 m_r1 cap_r1 4 1 D.bool l2]) () hj2 (fun _=>rfl) ⟨rfl,rfl,trivial⟩ trivial ⟨rfl,trivial⟩ rfl ?_;rintro n ⟨more1,l2⟩ ⟨⟩ hj2;rw [m_rg_May_l2] at hj2;refine g_norm (L':=[(5,.bool more1),(1,_),(4,_)]) (ms':=[arr a_r1 m_r1 cap_r1 4 1 D.bool l2]) rfl rfl ?_;refine zq5 ?_;refine zcn hj2 (fun hc5 hj2=>?_) (fun hc5 hj2=>?_)
     ·refine zq10 ?_
      obtain ⟨o_3,hj3,hm3⟩:=bS hj2;refine g_cut_m [(1,_),(4,_)] [] (fun (st:(Bool×(List Bool))) (hid:Unit)=>match st,hid with | (more2,l3),_=>[(5,.bool more2)]) (fun F (st:(Bool×(List Bool))) (hid:Unit)=>match st,hid with | (more2,l3),_=>[arr a_r1 m_r1 cap_r1 4 1 D.bool l3]) (fun st=>st=o_3) ⟨rfl,rfl,trivial⟩ trivial ?_ ?_
      ·refine g_block ?_
       refine g_loop_m [(1,_),(4,_)] [] (fun (st:(Bool×Int×(List Bool))) (hid:Unit)=>match st,hid with | (more3,i2,l4),_=>[(5,.bool more3),(6,.i64 i2)]) (fun F (st:(Bool×Int×(List Bool))) (hid:Unit)=>match st,hid with | (more3,i2,l4),_=>[arr a_r1 m_r1 cap_r1 4 1 D.bool l4]) () hj3 (fun _=>rfl) ⟨rfl,rfl,trivial⟩ trivial ⟨rfl,rfl,trivial⟩ rfl ?_;rintro n ⟨more3,i2,l4⟩ ⟨⟩ hj3;rw [m_rg_May_l3] at hj3;refine g_norm (L':=[(5,.bool more3),(6,.i64 i2),(1,_),(4,_)]) (ms':=[arr a_r1 m_r1 cap_r1 4 1 D.bool l4]) rfl rfl ?_;refine zq9 ?_;refine zcn hj3 (fun hc6 hj3=>?_) (fun hc6 hj3=>?_)
       ·refine zq8 ?_
        obtain ⟨x3,hx6,hj3⟩:=bS hj3;refine go_p rfl rfl rfl (oIm runUnderlying22 sizeOf44 rfl rfl hx6) ?_;refine zq1 ?_;refine zal44a fun b1=>?_;refine zst 0 ?_;refine go_ms (ms':=[box b1 44 [_,_,_,_],_]) rfl ?_;refine zq7 ?_
        apply go_and [(1,_),(4,_),(5,_),(6,_),(7,_)] 4 72 (t:=68) ⟨rfl,rfl,rfl,rfl,rfl,trivial⟩ rfl
        ·intro hg_3 hk3
         refine zq4 ?_;exact zgm hk3
        ·intro hg_3 hk3
         refine zq4 ?_;exact zgm hk3
        refine zq1 ?_;obtain ⟨p1,hp_4,hj3⟩:=bS hj3;refine go_two [(1,_),(4,_),(5,_),(6,_)] 13 86 p1 (t:=73) ⟨rfl,rfl,rfl,rfl,trivial⟩ rfl (fun hg_4 hk4=>?_) (fun hg_4 hk4=>?_) ?_
        ·replace hp_4:=cond_t hg_4 hp_4
         refine zq13 ?_;exact zgb hk4 hp_4
        ·replace hp_4:=cond_f hg_4 hp_4
         refine zq3 ?_;obtain ⟨x4,hx7,hp_4⟩:=bS hp_4;refine gWp rfl rfl rfl hg_4 rfl rfl (o_indexAddr_arr 1 runUnderlying77 sizeOf4 rfl rfl rfl hx7) ?_;refine gWp rfl rfl rfl hg_4 rfl rfl (o_load_arr (off:=0) 1 isAgg4 rfl rfl (idx_some hx7).2 rfl rfl rfl) ?_;refine zq1 ?_;obtain ⟨p2,hp_5,hp_4⟩:=bS hp_4;refine go_two [(1,_),(4,_),(5,_),(6,_),(73,_)] 6 85 p2 (t:=79) ⟨rfl,rfl,rfl,rfl,rfl,trivial⟩ rfl (fun hg_5 hk5=>?_) (fun hg_5 hk5=>?_) ?_
         ·replace hp_5:=cond_t hg_5 hp_5
          refine zq3 ?_;obtain ⟨x5,hx8,hp_5⟩:=bS hp_5;refine gWp rfl rfl rfl hg_5 rfl rfl (o_indexAddr_arr 1 runUnderlying77 sizeOf4 rfl rfl rfl hx8) ?_;refine gWp rfl rfl rfl hg_5 rfl rfl (o_load_arr (off:=0) 1 isAgg4 rfl rfl (idx_some hx8).2 rfl rfl rfl) ?_;refine zq1 ?_;exact zgb hk5 hp_5
         ·replace hp_5:=cond_f hg_5 hp_5
          refine zq6 ?_;exact zgb hk5 hp_5
         refine zq1 ?_;exact zgb hk4 hp_4
        refine zq6 ?_;obtain ⟨p3,hp_6,hj3⟩:=bS hj3;refine go_two [(1,_),(4,_),(5,_),(6,_)] 6 94 p3 (t:=88) ⟨rfl,rfl,rfl,rfl,trivial⟩ rfl (fun hg_6 hk6=>?_) (fun hg_6 hk6=>?_) ?_
        ·replace hp_6:=cond_t hg_6 hp_6
         refine zq2 ?_;obtain ⟨x6,hx9,hp_6⟩:=bS hp_6;refine gWp rfl rfl rfl hg_6 rfl rfl (o_indexAddr_arr 1 runUnderlying77 sizeOf4 rfl rfl rfl hx9) ?_;refine gWp rfl rfl rfl hg_6 rfl rfl (o_load_arr (off:=0) 1 isAgg4 rfl rfl (idx_some hx9).2 rfl rfl rfl) ?_;refine zq2 ?_;exact zgb hk6 hp_6
        ·replace hp_6:=cond_f hg_6 hp_6
         refine zq6 ?_;exact zgb hk6 hp_6
        refine gNl ?_;refine zcn hj3 (fun hc7 hj3=>?_) (fun hc7 hj3=>?_)
        ·refine zq3 ?_
         obtain ⟨x7,hx10,hj3⟩:=bS hj3;refine go_p rfl rfl rfl (o_indexAddr_arr 1 runUnderlying77 sizeOf4 rfl rfl rfl hx10) ?_;refine go_u rfl rfl (o_store_arr (off:=0) (z':=true) 1 sizeOf4 rfl rfl (idx_some hx10).2 rfl rfl rfl rfl rfl rfl (nB rfl) rfl rfl) ?_;rintro _ _ rfl;refine go_ms (ms':=[box b1 44 [_,_,_,_],_]) rfl ?_;refine zq4 ?_;obtain ⟨hg11,hj3⟩:=grd_some hj3;refine zq3 ?_;exact ⟨_,(),hj3,⟨rfl,rfl,trivial⟩,⟨rfl,rfl,trivial⟩,[_],rfl⟩
        ·refine zq3 ?_
         obtain ⟨hg12,hj3⟩:=grd_some hj3;refine zq3 ?_;exact ⟨_,(),hj3,⟨rfl,rfl,trivial⟩,⟨rfl,rfl,trivial⟩,[_],rfl⟩
       ·refine g_exit ?_
        exact ⟨_,(),some_eq hj3,⟨rfl,trivial⟩,⟨rfl,rfl,trivial⟩,[],rfl⟩
      ·rintro ⟨more2,l3⟩ ⟨⟩ hst
       subst hst;refine k_norm (L':=[(5,.bool more2),(1,_),(4,_)]) (ms':=[arr a_r1 m_r1 cap_r1 4 1 D.bool l3]) rfl rfl ?_;exact ⟨_,(),hm3,⟨rfl,trivial⟩,⟨rfl,rfl,trivial⟩,[],rfl⟩
     ·refine g_exit ?_
      exact ⟨_,(),some_eq hj2,trivial,⟨rfl,trivial⟩,[],rfl⟩
    ·rintro l1 ⟨⟩ hst
     subst hst;refine k_norm (L':=[(4,_)]) (ms':=[arr a_r1 m_r1 cap_r1 4 1 D.bool l1]) rfl rfl ?_;refine zq5 ?_;obtain ⟨o_4,hj4,hm4⟩:=bS hm2;refine g_cut_m [] [(0,_)] (fun (st:Unit) (hid:Unit)=>match st,hid with | _,_=>[]) (fun F (st:Unit) (hid:Unit)=>match st,hid with | _,_=>[(nthF F 0)]) (fun st=>Out.go (st)=o_4) trivial ⟨rfl,trivial⟩ ?_ ?_
     ·refine g_block ?_
      refine g_loop_m [(4,_)] [(0,_)] (fun (st:Int) (hid:Unit)=>match st,hid with | i3,_=>[(9,.i64 i3)]) (fun F (st:Int) (hid:Unit)=>match st,hid with | i3,_=>[(nthF F 0)]) () hj4 (fun _=>rfl) ⟨rfl,trivial⟩ ⟨rfl,trivial⟩ ⟨rfl,trivial⟩ rfl ?_;rintro n i3 _ hj4;rw [m_rg_May_l4] at hj4;refine g_norm (L':=[(9,.i64 i3),(4,_)]) (ms':=[_]) rfl rfl ?_;refine zq5 ?_;refine go_p rfl rfl rfl (o_len_arr 0 runUnderlying77 rfl rfl) ?_;refine zq2 ?_;refine zcn hj4 (fun hc8 hj4=>?_) (fun hc8 hj4=>?_)
      ·refine zq7 ?_
       obtain ⟨x8,hx13,hj4⟩:=bS hj4;refine go_p rfl rfl rfl (o_indexAddr_arr 0 runUnderlying77 sizeOf4 rfl rfl rfl hx13) ?_;refine go_p rfl rfl rfl (o_load_arr (off:=0) 0 isAgg4 rfl rfl (idx_some hx13).2 rfl rfl rfl) ?_;refine zq2 ?_;refine zcn hj4 (fun hc9 hj4=>?_) (fun hc9 hj4=>?_)
       ·refine zq4 ?_
        refine g_ret ?_;obtain rfl:=some_eq hj4
        replace hm4:=on_ret hm4
        cases hm4;exact zr1
       ·refine zq3 ?_
        obtain ⟨hg14,hj4⟩:=grd_some hj4;refine zq3 ?_;exact ⟨_,(),hj4,⟨rfl,trivial⟩,⟨rfl,trivial⟩,[],rfl⟩
      ·refine g_exit ?_
       exact ⟨_,(),some_eq hj4,trivial,trivial,[],rfl⟩
     ·rintro _ _ hst
      subst hst
      replace hm4:=on_go hm4
      refine k_norm (L':=[]) (ms':=[_]) rfl rfl ?_;refine zq4 ?_
      cases hm4;exact g_ret zr1
noncomputable def m_below_may (a1:ATy) (bv1:ATy):Option Int:=
 (m_graph_May a1).bind fun x1 =>
 bif (!decide (x1=0)) then
  some x1
 else
  (m_graph_May bv1).bind fun x2 =>
  some x2
theorem w_below_may {a1:ATy} {bv1:ATy} {r_1:Int} (hm:m_below_may a1 bv1=some r_1):Fn0 Tryz.prog 65 [ATy.d a1,ATy.d bv1] (.i64 r_1):=by
 unfold m_below_may at hm;refine fn_intro func65 rfl ntmps65 rfl fun H0 fr w0=>?_;refine zq10 ?_;obtain ⟨x1,hx1,hm⟩:=bS hm;refine zc0 (w_graph_May hx1) ?_;refine zq7 ?_;refine zcn hm (fun hc1 hm=>?_) (fun hc1 hm=>?_)
 ·refine zq5 ?_
  cases hm;exact g_ret zr1
 ·refine zq4 ?_
  obtain ⟨x2,hx2,hm⟩:=bS hm;refine zc0 (w_graph_May hx2) ?_;refine zq2 ?_
  cases hm;exact g_ret zr1
noncomputable def m_graph_moved_l1 (to1:(Int->Option Int)) (z4:(List AFd)):Nat->(Int×(List AFd)×Int×Int×Int)->Option ((List AFd)×Int×Int×Int)
 | 0,_=>none
 | n+1,(x4,l2,z8,z9,z10) =>
  bif (decide (x4<(z4.length:Int))) then
   (idx l2 x4).bind fun x5 =>
   (to1 x5.at_).bind fun x6 =>
   (idx l2 x4).bind fun x7 =>
   grd (InR (x4+1)) <|
   m_graph_moved_l1 to1 z4 n ((x4+1),(l2.set (x4).toNat (⟨x7.name,x6⟩:AFd)),z8,z9,z10)
  else
   some (l2,z8,z9,z10)
noncomputable def m_graph_moved (n1:ANd) (to1:(Int->Option Int)):Option ANd:=
 (m_graph_pair n1.kind).bind fun x1 =>
 (bif x1 then
  (to1 n1.a).bind fun x2 =>
  (to1 n1.b).bind fun x3 =>
  some (n1.kind,x2,x3,n1.l)
 else
  some (n1.kind,n1.a,n1.b,n1.l):Option (Int×Int×Int×(List AFd))).bind fun (z1,z2,z3,z4) =>
 grd (z4.length*24<=140737488355328) <|
 (m_graph_moved_l1 to1 z4 FU (0,z4,z1,z2,z3):Option ((List AFd)×Int×Int×Int)).bind fun (l1,z5,z6,z7) =>
 some (⟨z5,z6,z7,l1⟩:ANd)
theorem w_graph_moved {n1:ANd} {to1:(Int->Option Int)} {r_1:ANd} {tl_0:List Asrt} {fv_to1:D} (hfto1:FunOk1T Tryz.prog fv_to1 D.i64 D.i64 tl_0 to1) (hm:m_graph_moved n1 to1=some r_1):FnT Tryz.prog 109 [ANd.d n1,fv_to1] tl_0 (ANd.d r_1):=by
 unfold m_graph_moved at hm;refine fn_intro func109 rfl ntmps109 rfl fun H0 fr w0=>?_;refine zq2 ?_;refine go_op rfl rfl rfl (o_box_own rfl rfl rfl) ?_;rintro _ _ ⟨b1,rfl,rfl⟩;refine zal44a fun b2=>?_;refine zq6 ?_;obtain ⟨x1,hx1,hm⟩:=bS hm;refine zc0 (w_graph_pair hx1) ?_;refine gNl ?_;obtain ⟨o_1,hj1,hm1⟩:=bS hm;refine g_cut_m [(1,_),(2,_),(4,_)] [(0,_)] (fun (st:(Int×Int×Int×(List AFd))) (hid:Unit)=>match st,hid with | (z1,z2,z3,z4),_=>[]) (fun F (st:(Int×Int×Int×(List AFd))) (hid:Unit)=>match st,hid with | (z1,z2,z3,z4),_=>[(nthF F 0),box b1 44 [.i64 z1,.i64 z2,.i64 z3,.list 2 AFd.d z4]]++tl_0) (fun st=>st=o_1) ⟨rfl,rfl,rfl,trivial⟩ ⟨rfl,trivial⟩ ?_ ?_
 ·refine zcn hj1 (fun hc1 hj1=>?_) (fun hc1 hj1=>?_)
  ·obtain ⟨x2,hx2,hj1⟩:=bS hj1
   obtain ⟨x3,hx3,hj1⟩:=bS hj1;refine zdr 9 ?_;refine zq3 ?_;refine gd_p rfl rfl rfl (o_callv_t (tl:=tl_0) [_,_] rfl rfl rfl (hfto1 _ _ hx2)) ?_;refine zq3 ?_;refine gd_p rfl rfl rfl (o_callv_t (tl:=tl_0) [_,_] rfl rfl rfl (hfto1 _ _ hx3)) ?_;refine zq2 ?_;refine zst 1 ?_;refine go_ms (ms':=[box b2 44 [_,_,_,_],box b1 44 [_,_,_,_]]++tl_0) rfl ?_;refine zq1 ?_;refine zst 1 ?_;refine go_ms (ms':=[box b2 44 [_,_,_,_],box b1 44 [_,_,_,_]]++tl_0) rfl ?_;refine gNl ?_;exact ⟨_,(),some_eq hj1,trivial,⟨rfl,rfl,rfl,trivial⟩,[],rfl⟩
  ·refine gSp ?_
   exact ⟨_,(),some_eq hj1,trivial,⟨rfl,rfl,rfl,trivial⟩,[],rfl⟩
 ·rintro ⟨z1,z2,z3,z4⟩ _ hst
  subst hst;refine k_norm (L':=[(1,_),(2,_),(4,_)]) (ms':=[_,box b1 44 [.i64 z1,.i64 z2,.i64 z3,.list 2 AFd.d z4]]++tl_0) rfl rfl ?_;refine zq4 ?_;obtain ⟨hg4,hm1⟩:=grd_some hm1;refine go_op rfl rfl rfl (o_call (ms₁:=[]) call77 rfl (List.Perm.refl _) (w_Clone_77 hg4)) ?_;rintro _ _ ⟨_,⟨a_r1,cap_r1,rfl,rfl⟩,rfl⟩
  generalize hm_r1:z4.length=m_r1
  clear hm_r1
  refine zq1 ?_;refine zst 2 ?_;refine go_ms (ms':=[_,box b2 44 [_,_,_,_],box b1 44 [_,_,_,_]]++tl_0) rfl ?_;refine zq6 ?_;refine go_p rfl rfl rfl (o_len_arr 0 runUnderlying42 rfl rfl) ?_;refine zq2 ?_;obtain ⟨o_2,hj2,hm2⟩:=bS hm1;refine g_cut_m [(2,_),(4,_)] [(1,_)] (fun (st:((List AFd)×Int×Int×Int)) (hid:Unit)=>match st,hid with | (l1,z5,z6,z7),_=>[]) (fun F (st:((List AFd)×Int×Int×Int)) (hid:Unit)=>match st,hid with | (l1,z5,z6,z7),_=>[arr a_r1 m_r1 cap_r1 98 2 AFd.d l1,(nthF F 0),box b1 44 [.i64 z5,.i64 z6,.i64 z7,.v (.slice a_r1 m_r1 cap_r1)]]++tl_0) (fun st=>st=o_2) ⟨rfl,rfl,trivial⟩ ⟨rfl,trivial⟩ ?_ ?_
  ·refine g_block ?_
   refine g_loop_m [(1,_),(2,_),(4,_),(25,_)] [(1,_)] (fun (st:(Int×(List AFd)×Int×Int×Int)) (hid:Unit)=>match st,hid with | (x4,l2,z8,z9,z10),_=>[(26,.i64 x4)]) (fun F (st:(Int×(List AFd)×Int×Int×Int)) (hid:Unit)=>match st,hid with | (x4,l2,z8,z9,z10),_=>[arr a_r1 m_r1 cap_r1 98 2 AFd.d l2,(nthF F 0),box b1 44 [.i64 z8,.i64 z9,.i64 z10,.v (.slice a_r1 m_r1 cap_r1)]]++tl_0) () hj2 (fun _=>rfl) ⟨rfl,rfl,rfl,rfl,trivial⟩ ⟨rfl,trivial⟩ ⟨rfl,trivial⟩ rfl ?_;rintro n ⟨x4,l2,z8,z9,z10⟩ ⟨⟩ hj2;rw [m_graph_moved_l1] at hj2;refine g_norm (L':=[(26,.i64 x4),(1,_),(2,_),(4,_),(25,_)]) (ms':=[arr a_r1 m_r1 cap_r1 98 2 AFd.d l2,_,box b1 44 [.i64 z8,.i64 z9,.i64 z10,.v (.slice a_r1 m_r1 cap_r1)]]++tl_0) rfl rfl ?_;refine zq5 ?_;refine zcn hj2 (fun hc2 hj2=>?_) (fun hc2 hj2=>?_)
   ·refine zq8 ?_
    obtain ⟨x5,hx5,hj2⟩:=bS hj2;obtain ⟨x6,hx6,hj2⟩:=bS hj2;obtain ⟨x7,hx7,hj2⟩:=bS hj2;refine zdr 13 ?_;refine zq7 ?_;refine gd_p rfl rfl rfl (o_indexAddr_arr 0 runUnderlying42 sizeOf98 rfl rfl rfl hx5) ?_;refine gd_p rfl rfl rfl (o_fieldAddr_apt (b:=0) 0 fi_98_1 rfl rfl (idx_some hx5).2) ?_;refine gd_p rfl rfl rfl (o_load_arr (off:=1) 0 isAgg3 rfl rfl (idx_some hx5).2 rfl rfl rfl) ?_;refine gd_p rfl rfl rfl (o_callv_t (tl:=tl_0) [_,_,_] rfl rfl rfl (hfto1 _ _ hx6)) ?_;refine gd_p rfl rfl rfl (o_indexAddr_arr 0 runUnderlying42 sizeOf98 rfl rfl rfl hx7) ?_;refine gd_p rfl rfl rfl (o_fieldAddr_apt (b:=0) 0 fi_98_1 rfl rfl (idx_some hx7).2) ?_;refine gd_nil ?_;refine go_u rfl rfl (o_store_arr (off:=1) (z':=(⟨x7.name,x6⟩:AFd)) 0 sizeOf3 rfl rfl (idx_some hx7).2 rfl rfl rfl rfl rfl rfl (nB rfl) rfl rfl) ?_;rintro _ _ rfl;refine go_ms (ms':=[_,box b2 44 [_,_,_,_],box b1 44 [_,_,_,_]]++tl_0) rfl ?_;refine zq2 ?_;obtain ⟨hg8,hj2⟩:=grd_some hj2;refine zq3 ?_;exact ⟨_,(),hj2,⟨rfl,trivial⟩,⟨rfl,rfl,rfl,rfl,trivial⟩,[],rfl⟩
   ·refine g_exit ?_
    exact ⟨_,(),some_eq hj2,trivial,⟨rfl,rfl,trivial⟩,[],rfl⟩
  ·rintro ⟨l1,z5,z6,z7⟩ ⟨⟩ hst
   subst hst;refine k_norm (L':=[(2,_),(4,_)]) (ms':=[arr a_r1 m_r1 cap_r1 98 2 AFd.d l1,_,box b1 44 [.i64 z5,.i64 z6,.i64 z7,.v (.slice a_r1 m_r1 cap_r1)]]++tl_0) rfl rfl ?_;refine zq2 ?_;refine go_thaw 0 rfl rfl ?_;rintro rfl;refine zq1 ?_;refine go_conv (peekAggE (i:=43) (q:=3) 0 rfl rfl rfl rfl rfl).refines ?_;refine zst 1 ?_;refine go_ms (ms':=[_,box b2 44 [_,_,_,_],box b1 44 [_,_,_,_]]++tl_0) rfl ?_;refine gNl (g_ret ?_);exact retK (ret_one' (ms':=tl_0) (drop:=[_,_,_]) rfl (ret_cell 1 rfl rfl rfl isAgg44 sizeOf44 rfl) (List.Perm.refl _)) ⟨congrArg (fun (p:ANd)=>(ANd.d p:D)) (some_eq hm2),rfl⟩
noncomputable def m_graph_Graft_1 (k1:Int) (c1:Int):Option Int:=
 grd (InR (k1+c1)) <|
 some (k1+c1)
theorem w_graph_Graft_1 {k1:Int} {c1:Int} {r_1:Int} (hm:m_graph_Graft_1 k1 c1=some r_1):Fn0 Tryz.prog 110 [.i64 k1,.ref (.i64 c1)] (.i64 r_1):=by
 unfold m_graph_Graft_1 at hm;refine fn_intro func110 rfl ntmps110 rfl fun H0 fr w0=>?_;refine zq8 ?_;obtain ⟨hg1,hm⟩:=grd_some hm;refine zq3 ?_
 cases hm;exact g_ret zr1
noncomputable def m_graph_Graft_l1 (a1:ATy) (bv1:ATy):Nat->(Int×Int×(List ANd))->Option (Int×(List ANd))
 | 0,_=>none
 | n+1,(x1,z2,l2) =>
  bif (decide (x1<(bv1.l.length:Int))) then
   (idx bv1.l x1).bind fun x2 =>
   (m_graph_moved (⟨x2.kind,x2.a,x2.b,x2.l⟩:ANd) (fun y0=>m_graph_Graft_1 y0 (a1.l.length:Int))).bind fun x3 =>
   grd ((l2.length+([x3]:List _).length)*48<=140737488355328) <|
   grd (InR (x1+1)) <|
   m_graph_Graft_l1 a1 bv1 n ((x1+1),z2,(l2++[x3]))
  else
   some (z2,l2)
noncomputable def m_graph_Graft (a1:ATy) (bv1:ATy):Option (ATy×Int):=
 grd (a1.l.length*48<=140737488355328) <|
 (m_graph_Graft_l1 a1 bv1 FU (0,a1.root,a1.l):Option (Int×(List ANd))).bind fun (z1,l1) =>
 some ((⟨l1,z1⟩:ATy),(a1.l.length:Int))
theorem w_graph_Graft {a1:ATy} {bv1:ATy} {r_1:ATy} {r_2:Int} (hm:m_graph_Graft a1 bv1=some (r_1,r_2)):Fn0 Tryz.prog 75 [ATy.d a1,ATy.d bv1] (.tup [ATy.d r_1,.i64 r_2]):=by
 unfold m_graph_Graft at hm;refine fn_intro func75 rfl ntmps75 rfl fun H0 fr w0=>?_;refine zq4 ?_;refine zal24a fun b1=>?_;refine zq7 ?_;refine zal3a fun b2=>?_;refine zst 0 ?_;refine go_ms (ms':=[box b2 3 [_],box b1 24 [_,_]]) rfl ?_;refine go_conv (refines_freeze (d := .i64 (a1.l.length:Int)) 0 6 rfl rfl rfl rfl) ?_;refine zq2 ?_;obtain ⟨hg1,hm⟩:=grd_some hm;refine g_draw_x [2,5] [7] [3,4] [6] [] Tryz_mixed (by decide +kernel) (by decide +kernel) rfl ?_;refine gdx_p rfl rfl rfl rfl rfl rfl (oFa fi_24_0 rfl rfl rfl) ?_;refine gdx_p rfl rfl rfl rfl rfl rfl (o_load isAgg22 rfl rfl) ?_;refine gdx_e rfl ?_;refine gdx_p rfl rfl rfl rfl rfl rfl (oFa fi_24_1 rfl rfl rfl) ?_;refine gdx_p rfl rfl rfl rfl rfl rfl (o_load isAgg3 rfl rfl) ?_;refine gdx_e rfl ?_;refine gdx_fresh (R0:=fun d A=>∃ b,d = .v (.pointer (some ⟨b,0,none⟩))/\A=box b 24 [.list 4 ANd.d [],.i64 0]) rfl rfl rfl rfl (OpT.mono (o_alloc_own zeroValue24 (cs:=[.list 4 ANd.d [],.i64 0]) rfl) (by rintro d ms' ⟨b,rfl,rfl⟩;exact ⟨_,⟨b,rfl,rfl⟩,rfl⟩)) ?_;refine gdx_e rfl ?_;refine gdx_nil ?_;refine gf_t rfl rfl rfl rfl (o_call (ms₁:=[]) call74 rfl (List.Perm.refl _) (w_Clone_74 hg1)) ?_;rintro _ _ ⟨_,⟨a_r1,cap_r1,rfl,rfl⟩,rfl⟩
 generalize hm_r1:a1.l.length=m_r1
 clear hm_r1
 refine ⟨(trivial:True),?_⟩;refine gf_t rfl rfl rfl rfl zb24b ?_;rintro _ _ ⟨rfl,rfl⟩;refine ⟨(trivial:True),?_⟩;refine gf_nil [(6,7)] rfl ?_;rintro _ _ ⟨b3,rfl,rfl⟩
 show _/\_
 refine ⟨(trivial:True),?_⟩;refine gde2_u rfl rfl rfl (oSb 0 sizeOf24 rfl rfl rfl rfl rfl rfl rfl rfl (nB rfl)) ?_;rintro _ _ rfl;refine ⟨(trivial:True),?_⟩;refine gde2_nil ?_;refine zq8 ?_;refine g_thaw 1 rfl rfl ?_;rintro rfl;obtain ⟨o_1,hj1,hm1⟩:=bS hm;refine g_cut_m [(4,_),(6,_),(7,_)] [(2,_)] (fun (st:(Int×(List ANd))) (hid:(Option Addr×Nat))=>match st,hid with | (z1,l1),(a_r1,cap_r1)=>[]) (fun F (st:(Int×(List ANd))) (hid:(Option Addr×Nat))=>match st,hid with | (z1,l1),(a_r1,cap_r1)=>[box b3 24 [.v (.slice a_r1 l1.length cap_r1),.i64 z1],row a_r1 cap_r1 44 4 ANd.d l1,(nthF F 0)]) (fun st=>st=o_1) ⟨rfl,rfl,rfl,trivial⟩ ⟨rfl,trivial⟩ ?_ ?_
 ·refine g_block ?_
  refine g_loop_m [(4,_),(6,_),(7,_),(20,_),(21,_)] [(2,_)] (fun (st:(Int×Int×(List ANd))) (hid:(Option Addr×Nat))=>match st,hid with | (x1,z2,l2),(a_r1,cap_r1)=>[(22,.i64 x1)]) (fun F (st:(Int×Int×(List ANd))) (hid:(Option Addr×Nat))=>match st,hid with | (x1,z2,l2),(a_r1,cap_r1)=>[box b3 24 [.v (.slice a_r1 l2.length cap_r1),.i64 z2],row a_r1 cap_r1 44 4 ANd.d l2,(nthF F 0)]) (_,_) hj1 (fun _=>rfl) ⟨rfl,rfl,rfl,rfl,rfl,trivial⟩ ⟨rfl,trivial⟩ ⟨rfl,trivial⟩ rfl ?_;rintro n ⟨x1,z2,l2⟩ ⟨a_r1,cap_r1⟩ hj1;rw [m_graph_Graft_l1] at hj1;refine g_norm (L':=[(22,.i64 x1),(4,_),(6,_),(7,_),(20,_),(21,_)]) (ms':=[box b3 24 [.v (.slice a_r1 l2.length cap_r1),.i64 z2],row a_r1 cap_r1 44 4 ANd.d l2,_]) rfl rfl ?_;refine zq5 ?_;refine zcn hj1 (fun hc1 hj1=>?_) (fun hc1 hj1=>?_)
  ·refine zq5 ?_
   obtain ⟨x2,hx2,hj1⟩:=bS hj1;refine zq2 ?_;refine zal44a fun b4=>?_;refine zst 0 ?_;refine go_ms (ms':=[box b4 44 [_,_,_,_],box b3 24 [_,_],_,box b1 24 [_,_]]) rfl ?_;refine gNl ?_;obtain ⟨x3,hx3,hj1⟩:=bS hj1;refine zdr 6 ?_;refine zq3 ?_;refine gd_p rfl rfl rfl (o_makeFunc rfl rfl) ?_;refine gd_p rfl rfl rfl (o_call_t [] call109 rfl rfl getL_n (w_graph_moved (fun _ _ h=>fv_nil (fv_clo call110 (w_graph_Graft_1 h))) hx3)) ?_;refine gd_p rfl rfl rfl (zs1 ANd.d) ?_;refine gd_nil ?_;obtain ⟨hg4,hj1⟩:=grd_some hj1;refine zap 2 hg4 fun a_r1 cap_r1=>?_;refine go_ms (ms':=[box b4 44 [_,_,_,_],box b3 24 [_,_],_,box b1 24 [_,_]]) rfl ?_;refine zq1 ?_;refine zst 1 ?_;refine go_ms (ms':=[box b4 44 [_,_,_,_],box b3 24 [_,_],_,box b1 24 [_,_]]) rfl ?_;refine zq2 ?_;obtain ⟨hg5,hj1⟩:=grd_some hj1;refine zq3 ?_;exact ⟨_,(_,_),hj1,⟨rfl,trivial⟩,⟨rfl,rfl,rfl,rfl,rfl,trivial⟩,[_],rfl⟩
  ·refine g_exit ?_
   exact ⟨_,(_,_),some_eq hj1,trivial,⟨rfl,rfl,rfl,trivial⟩,[],rfl⟩
 ·rintro ⟨z1,l1⟩ ⟨a_r1,cap_r1⟩ hst
  subst hst;refine k_norm (L':=[(4,_),(6,_),(7,_)]) (ms':=[box b3 24 [.v (.slice a_r1 l1.length cap_r1),.i64 z1],row a_r1 cap_r1 44 4 ANd.d l1,_]) rfl rfl ?_;refine g_seq ?_;refine g_conv (refines_cellrow 0 0 1 rfl rfl rfl rfl rfl rfl) ?_;refine g_draw_c [2] [1,3] [] Tryz_mixed (by decide +kernel) (by decide +kernel) rfl ?_;refine gde_p rfl rfl rfl rfl rfl rfl (oLg 0 isAgg24 sizeOf24 rfl rfl rfl rfl (nB rfl)) ?_;refine gde_p rfl rfl rfl rfl rfl rfl (o_load isAgg3 rfl rfl) ?_;refine gde_e rfl ?_;refine gde_p rfl rfl rfl rfl rfl rfl (oAs rfl) ?_;refine gde_nil ?_;refine gde2_u rfl rfl rfl (oSb 2 sizeOf24 rfl rfl rfl rfl rfl rfl rfl rfl (nB rfl)) ?_;rintro _ _ rfl;refine ⟨(trivial:True),?_⟩;refine gde2_nil ?_
  cases hm1;exact g_ret zr2
noncomputable def m_below_below (a1:ATy) (bv1:ATy):Option Bool:=
 (m_graph_Graft a1 bv1).bind fun (x1,x2) =>
 grd (InR (bv1.root+x2)) <|
 (m_holds (⟨x1.l,x1.root⟩:ATy) (⟨[a1.root],[(bv1.root+x2)]⟩:BSq)).bind fun x3 =>
 some x3
theorem w_below_below {a1:ATy} {bv1:ATy} {r_1:Bool} (hm:m_below_below a1 bv1=some r_1):Fn0 Tryz.prog 66 [ATy.d a1,ATy.d bv1] (.bool r_1):=by
 unfold m_below_below at hm;refine fn_intro func66 rfl ntmps66 rfl fun H0 fr w0=>?_;refine zq10 ?_;obtain ⟨⟨x1,x2⟩,hx1,hm⟩:=bS hm;refine zc0 (w_graph_Graft hx1) ?_;refine zq3 ?_;refine zal24a fun b1=>?_;refine zst 0 ?_;refine go_ms (ms':=[box b1 24 [_,_]]) rfl ?_;refine zq7 ?_;refine go_p rfl rfl rfl (zs1 D.i64) ?_;refine zq3 ?_;obtain ⟨hg2,hm⟩:=grd_some hm;refine zq1 ?_;refine go_p rfl rfl rfl (zs1 D.i64) ?_;refine go_p rfl rfl rfl zb75a ?_;obtain ⟨x3,hx3,hm⟩:=bS hm;refine zc0 (w_holds hx3) ?_;refine zq2 ?_
 cases hm;exact g_ret zr1
noncomputable def m_graph_Leaf (kind1:Int):Option ATy:=
 some (⟨[(⟨kind1,0,0,([]:List AFd)⟩:ANd)],0⟩:ATy)
theorem w_graph_Leaf {kind1:Int} {r_1:ATy} (hm:m_graph_Leaf kind1=some r_1):Fn0 Tryz.prog 60 [.i64 kind1] (ATy.d r_1):=by
 unfold m_graph_Leaf at hm;refine fn_intro func60 rfl ntmps60 rfl fun H0 fr w0=>?_;refine zq2 ?_;refine zal24a fun b1=>?_;refine zq4 ?_;refine go_p rfl rfl rfl zb44a ?_;refine go_p rfl rfl rfl (o_buildSlice (xs:=[_]) (f:=ANd.d) (l:=[(⟨kind1,0,0,([]:List AFd)⟩:ANd)]) runUnderlying22 sizeOf44 zeroValue44 rfl rfl rfl (fun _=>⟨rfl,rfl,rfl⟩) rfl) ?_;refine go_p rfl rfl rfl zb24b ?_;refine zst 0 ?_;refine go_ms (ms':=[box b1 24 [_,_]]) rfl ?_;refine gNl ?_
 cases hm;exact g_ret zr1
noncomputable def m_rb_Set_l2 (l1:(List Int)) (i1:Int) (l3:(List Int)):Nat->Int->Option Int
 | 0,_=>none
 | n+1,k2 =>
  bif (decide (k2<(l3.length:Int))) then ((idx l3 k2).bind fun x1 =>
  (idx l1 i1).bind fun x2 =>
  bif (decide (x1<x2)) then
   grd (InR (k2+1)) <|
   m_rb_Set_l2 l1 i1 l3 n (k2+1)
  else
   some k2) else (some k2)
noncomputable def m_rb_Set_l1 (l1:(List Int)):Nat->(Int×(List Int))->Option (List Int)
 | 0,_=>none
 | n+1,(i1,l3) =>
  bif (decide (i1<(l1.length:Int))) then
   (m_rb_Set_l2 l1 i1 l3 FU 0:Option Int).bind fun k1 =>
   bif (decide (k1<(l3.length:Int))) then ((idx l3 k1).bind fun x3 =>
   (idx l1 i1).bind fun x4 =>
   bif (decide (x3=x4)) then
    grd (InR (i1+1)) <|
    m_rb_Set_l1 l1 n ((i1+1),l3)
   else
    (sli l3 0 k1).bind fun l4 =>
    grd ((0+l4.length)*8<=140737488355328) <|
    (idx l1 i1).bind fun x5 =>
    grd ((([]++l4).length+([x5]:List _).length)*8<=140737488355328) <|
    (sli l3 k1 (l3.length:Int)).bind fun l5 =>
    grd (((([]++l4)++[x5]).length+l5.length)*8<=140737488355328) <|
    grd (InR (i1+1)) <|
    m_rb_Set_l1 l1 n ((i1+1),((([]++l4)++[x5])++l5))) else ((sli l3 0 k1).bind fun l6 =>
   grd ((0+l6.length)*8<=140737488355328) <|
   (idx l1 i1).bind fun x6 =>
   grd ((([]++l6).length+([x6]:List _).length)*8<=140737488355328) <|
   (sli l3 k1 (l3.length:Int)).bind fun l7 =>
   grd (((([]++l6)++[x6]).length+l7.length)*8<=140737488355328) <|
   grd (InR (i1+1)) <|
   m_rb_Set_l1 l1 n ((i1+1),((([]++l6)++[x6])++l7)))
  else
   some l3
noncomputable def m_rb_Set (l1:(List Int)):Option (List Int):=
 (m_rb_Set_l1 l1 FU (0,[]):Option (List Int)).bind fun l2 =>
 some l2
theorem w_rb_Set {l1:(List Int)} {r_1:(List Int)} (hm:m_rb_Set l1=some r_1):Fn0 Tryz.prog 61 [.list 1 D.i64 l1] (.list 1 D.i64 r_1):=by
 unfold m_rb_Set at hm;refine fn_intro func61 rfl ntmps61 rfl fun H0 fr w0=>?_;refine zq3 ?_;refine go_conv (nilE (i:=2) (sz:=1) (f:=D.i64) rfl).refines ?_;refine zq3 ?_;refine go_op rfl rfl rfl (o_buildSlice_row (xs:=[]) (f:=D.i64) (l:=[]) runUnderlying25 sizeOf3 zeroValue3 rfl rfl rfl (fun _=>⟨rfl,rfl,rfl⟩) rfl (by simp [maxLen])) ?_;rintro _ _ ⟨a_r1,rfl,rfl⟩;refine zq7 ?_;obtain ⟨o_1,hj1,hm1⟩:=bS hm;refine g_cut_m [] [] (fun (st:(List Int)) (hid:(Option Addr×Nat))=>match st,hid with | l2,(a_r1,cap_r1)=>[(3,.v (.slice a_r1 l2.length cap_r1))]) (fun F (st:(List Int)) (hid:(Option Addr×Nat))=>match st,hid with | l2,(a_r1,cap_r1)=>[row a_r1 cap_r1 3 1 D.i64 l2]) (fun st=>st=o_1) trivial trivial ?_ ?_
 ·refine g_block ?_
  refine g_loop_m [(0,_)] [] (fun (st:(Int×(List Int))) (hid:(Option Addr×Nat))=>match st,hid with | (i1,l3),(a_r1,cap_r1)=>[(3,.v (.slice a_r1 l3.length cap_r1)),(4,.i64 i1)]) (fun F (st:(Int×(List Int))) (hid:(Option Addr×Nat))=>match st,hid with | (i1,l3),(a_r1,cap_r1)=>[row a_r1 cap_r1 3 1 D.i64 l3]) (_,_) hj1 (fun _=>rfl) ⟨rfl,trivial⟩ trivial ⟨rfl,rfl,trivial⟩ rfl ?_;rintro n ⟨i1,l3⟩ ⟨a_r1,cap_r1⟩ hj1;rw [m_rb_Set_l1] at hj1;refine g_norm (L':=[(3,.v (.slice a_r1 l3.length cap_r1)),(4,.i64 i1),(0,_)]) (ms':=[row a_r1 cap_r1 3 1 D.i64 l3]) rfl rfl ?_;refine zq8 ?_;refine zcn hj1 (fun hc1 hj1=>?_) (fun hc1 hj1=>?_)
  ·refine zq8 ?_
   obtain ⟨o_2,hj2,hm2⟩:=bS hj1;refine g_cut_m [(0,_),(3,_),(4,_)] [(0,_)] (fun (st:Int) (hid:Unit)=>match st,hid with | k1,_=>[(5,.i64 k1)]) (fun F (st:Int) (hid:Unit)=>match st,hid with | k1,_=>[(nthF F 0)]) (fun st=>st=o_2) ⟨rfl,rfl,rfl,trivial⟩ ⟨rfl,trivial⟩ ?_ ?_
   ·refine g_block ?_
    refine g_loop_m [(0,_),(3,_),(4,_)] [(0,_)] (fun (st:Int) (hid:Unit)=>match st,hid with | k2,_=>[(5,.i64 k2)]) (fun F (st:Int) (hid:Unit)=>match st,hid with | k2,_=>[(nthF F 0)]) () hj2 (fun _=>rfl) ⟨rfl,rfl,rfl,trivial⟩ ⟨rfl,trivial⟩ ⟨rfl,trivial⟩ rfl ?_;rintro n k2 _ hj2;rw [m_rb_Set_l2] at hj2;refine g_norm (L':=[(5,.i64 k2),(0,_),(3,_),(4,_)]) (ms':=[_]) rfl rfl ?_;refine zq2 ?_
    rcases cond_split hj2 with ⟨hg_1,hj2⟩ | ⟨hg_1,hj2⟩
    ·
     skip
     obtain ⟨x1,hx1,hj2⟩:=bS hj2;obtain ⟨x2,hx2,hj2⟩:=bS hj2;refine zdr 15 ?_;refine zq2 ?_;refine gd_p rfl rfl rfl (.view (peekE (i:=14) 0 rfl rfl rfl) (o_len runUnderlying25 rfl)) ?_;refine zq4 ?_;refine gd_want rfl rfl rfl hg_1 rfl rfl (.view (peekE (i:=18) 0 rfl rfl rfl) (oIm runUnderlying25 sizeOf3 rfl rfl hx1)) ?_;refine zq3 ?_;refine gd_want rfl rfl rfl hg_1 rfl rfl (oIm runUnderlying25 sizeOf3 rfl rfl hx2) ?_;refine zq5 ?_;refine zcn hj2 (fun hc2 hj2=>?_) (fun hc2 hj2=>?_)
     ·refine zq4 ?_
      obtain ⟨hg3,hj2⟩:=grd_some hj2;refine zq3 ?_;exact ⟨_,(),hj2,⟨rfl,trivial⟩,⟨rfl,rfl,rfl,trivial⟩,[],rfl⟩
     ·refine g_exit ?_
      exact ⟨_,(),some_eq hj2,⟨rfl,trivial⟩,⟨rfl,rfl,rfl,trivial⟩,[],rfl⟩
    ·
     skip
     refine zdr 15 ?_;refine zq2 ?_;refine gd_p rfl rfl rfl (.view (peekE (i:=14) 0 rfl rfl rfl) (o_len runUnderlying25 rfl)) ?_;refine zq14 ?_;refine g_cond_false rfl rfl ?_;refine g_exit ?_;exact ⟨_,(),some_eq hj2,⟨rfl,trivial⟩,⟨rfl,rfl,rfl,trivial⟩,[],rfl⟩
   ·rintro k1 _ hst
    subst hst;refine k_norm (L':=[(5,.i64 k1),(0,_),(3,_),(4,_)]) (ms':=[_]) rfl rfl ?_;refine zq2 ?_
    rcases cond_split hm2 with ⟨hg_2,hm2⟩ | ⟨hg_2,hm2⟩
    ·
     skip
     obtain ⟨x3,hx4,hm2⟩:=bS hm2;obtain ⟨x4,hx5,hm2⟩:=bS hm2;refine zdr 15 ?_;refine zq2 ?_;refine gd_p rfl rfl rfl (.view (peekE (i:=31) 0 rfl rfl rfl) (o_len runUnderlying25 rfl)) ?_;refine zq4 ?_;refine gd_want rfl rfl rfl hg_2 rfl rfl (.view (peekE (i:=35) 0 rfl rfl rfl) (oIm runUnderlying25 sizeOf3 rfl rfl hx4)) ?_;refine zq3 ?_;refine gd_want rfl rfl rfl hg_2 rfl rfl (oIm runUnderlying25 sizeOf3 rfl rfl hx5) ?_;refine zq5 ?_;refine zcn hm2 (fun hc3 hm2=>?_) (fun hc3 hm2=>?_)
     ·refine g_exit ?_
      refine zq2 ?_;obtain ⟨hg6,hm2⟩:=grd_some hm2;refine zq3 ?_;exact ⟨_,(_,_),hm2,⟨rfl,rfl,trivial⟩,⟨rfl,trivial⟩,[],rfl⟩
     ·refine gSp ?_
      obtain ⟨l4,hx7,hm2⟩:=bS hm2;obtain ⟨hg8,hm2⟩:=grd_some hm2;obtain ⟨x5,hx9,hm2⟩:=bS hm2;obtain ⟨hg10,hm2⟩:=grd_some hm2;obtain ⟨l5,hx11,hm2⟩:=bS hm2;obtain ⟨hg12,hm2⟩:=grd_some hm2;refine g_draw_cc 2 [0,4,10,14,15] [1,2,3,5,6,7,8,9,11,12,13] [3,13] (by decide +kernel) (by decide +kernel) Tryz_mixed (by decide +kernel) (by decide +kernel) rfl ?_;refine gdc_e rfl ?_;refine zq2 ?_;refine gdc_f rfl rfl rfl rfl rfl (.view (peekE (i:=46) 0 rfl rfl rfl) (o_slice_m runUnderlying25 sizeOf3 rfl rfl ⟨_,rfl⟩ hx7)) ?_;refine gdc_e rfl ?_;refine zq2 ?_;refine gdc_p rfl rfl rfl rfl rfl rfl (oIm runUnderlying25 sizeOf3 rfl rfl hx9) ?_;refine zq1 ?_;refine gdc_p rfl rfl rfl rfl rfl rfl (zs1 D.i64) ?_;refine gdc_e rfl ?_;refine zq2 ?_;refine gdc_f rfl rfl rfl rfl rfl (.view (peekE (i:=56) 0 rfl rfl rfl) (o_slice_m runUnderlying25 sizeOf3 rfl ⟨_,rfl⟩ rfl hx11)) ?_;refine gdc_e rfl ?_;refine gdc_e rfl ?_;refine gdc_nil ?_;refine gdc2_t rfl rfl rfl rfl (o_buildSlice_row (xs:=[]) (f:=D.i64) (l:=[]) runUnderlying25 sizeOf3 zeroValue3 rfl rfl rfl (fun _=>⟨rfl,rfl,rfl⟩) rfl (by simp [maxLen])) ?_;rintro _ _ ⟨a_r2,rfl,rfl⟩;refine ⟨fun _=>⟨⟨trivial,.view (peekE (i:=46) 1 rfl rfl rfl) (o_slice_m runUnderlying25 sizeOf3 rfl rfl ⟨_,rfl⟩ hx7)⟩,.view (peekE (i:=56) 1 rfl rfl rfl) (o_slice_m runUnderlying25 sizeOf3 rfl ⟨_,rfl⟩ rfl hx11)⟩,?_⟩;refine gdc2_t rfl rfl rfl rfl (o_append (a:=_) 0 underlying25 type3 rfl rfl rfl rfl rfl rfl rfl (fun _=>rfl) (fun _=>rfl) hg8 (app_len hg8 rfl)) ?_;rintro _ _ ⟨a_r2,cap_r2,rfl,rfl⟩;refine ⟨fun _=>⟨⟨trivial,.view (peekE (i:=46) 1 rfl rfl rfl) (o_slice_m runUnderlying25 sizeOf3 rfl rfl ⟨_,rfl⟩ hx7)⟩,.view (peekE (i:=56) 1 rfl rfl rfl) (o_slice_m runUnderlying25 sizeOf3 rfl ⟨_,rfl⟩ rfl hx11)⟩,?_⟩;refine gdc2_t rfl rfl rfl rfl (o_append (a:=_) 0 underlying25 type3 rfl rfl rfl rfl rfl rfl rfl (fun _=>rfl) (fun _=>rfl) hg10 (app_len hg10 rfl)) ?_;rintro _ _ ⟨a_r2,cap_r2,rfl,rfl⟩;refine ⟨fun _=>⟨⟨trivial,.view (peekE (i:=46) 1 rfl rfl rfl) (o_slice_m runUnderlying25 sizeOf3 rfl rfl ⟨_,rfl⟩ hx7)⟩,.view (peekE (i:=56) 1 rfl rfl rfl) (o_slice_m runUnderlying25 sizeOf3 rfl ⟨_,rfl⟩ rfl hx11)⟩,?_⟩;refine gdc2_t rfl rfl rfl rfl (o_append (a:=_) 0 underlying25 type3 rfl rfl rfl rfl rfl rfl rfl (fun _=>rfl) (fun _=>rfl) hg12 (app_len hg12 rfl)) ?_;rintro _ _ ⟨a_r2,cap_r2,rfl,rfl⟩;refine ⟨fun hc=>absurd hc (by decide),?_⟩;refine gdc2_t rfl rfl rfl rfl (oAs rfl) ?_;rintro _ _ ⟨rfl,rfl⟩;refine ⟨fun hc=>absurd hc (by decide),?_⟩;refine gdc2_nil ?_;refine g_conv (refines_shift 0 1 rfl rfl rfl rfl) ?_;refine zq2 ?_;obtain ⟨hg13,hm2⟩:=grd_some hm2;refine zq3 ?_;exact ⟨_,(_,_),hm2,⟨rfl,rfl,trivial⟩,⟨rfl,trivial⟩,[],rfl⟩
    ·
     skip
     refine zdr 15 ?_;refine zq2 ?_;refine gd_p rfl rfl rfl (.view (peekE (i:=31) 0 rfl rfl rfl) (o_len runUnderlying25 rfl)) ?_;refine zq14 ?_;refine g_cond_false rfl rfl ?_;refine gSp ?_;obtain ⟨l6,hx14,hm2⟩:=bS hm2;obtain ⟨hg15,hm2⟩:=grd_some hm2;obtain ⟨x6,hx16,hm2⟩:=bS hm2;obtain ⟨hg17,hm2⟩:=grd_some hm2;obtain ⟨l7,hx18,hm2⟩:=bS hm2;obtain ⟨hg19,hm2⟩:=grd_some hm2;refine g_draw_cc 2 [0,4,10,14,15] [1,2,3,5,6,7,8,9,11,12,13] [3,13] (by decide +kernel) (by decide +kernel) Tryz_mixed (by decide +kernel) (by decide +kernel) rfl ?_;refine gdc_e rfl ?_;refine zq2 ?_;refine gdc_f rfl rfl rfl rfl rfl (.view (peekE (i:=46) 0 rfl rfl rfl) (o_slice_m runUnderlying25 sizeOf3 rfl rfl ⟨_,rfl⟩ hx14)) ?_;refine gdc_e rfl ?_;refine zq2 ?_;refine gdc_p rfl rfl rfl rfl rfl rfl (oIm runUnderlying25 sizeOf3 rfl rfl hx16) ?_;refine zq1 ?_;refine gdc_p rfl rfl rfl rfl rfl rfl (zs1 D.i64) ?_;refine gdc_e rfl ?_;refine zq2 ?_;refine gdc_f rfl rfl rfl rfl rfl (.view (peekE (i:=56) 0 rfl rfl rfl) (o_slice_m runUnderlying25 sizeOf3 rfl ⟨_,rfl⟩ rfl hx18)) ?_;refine gdc_e rfl ?_;refine gdc_e rfl ?_;refine gdc_nil ?_;refine gdc2_t rfl rfl rfl rfl (o_buildSlice_row (xs:=[]) (f:=D.i64) (l:=[]) runUnderlying25 sizeOf3 zeroValue3 rfl rfl rfl (fun _=>⟨rfl,rfl,rfl⟩) rfl (by simp [maxLen])) ?_;rintro _ _ ⟨a_r3,rfl,rfl⟩;refine ⟨fun _=>⟨⟨trivial,.view (peekE (i:=46) 1 rfl rfl rfl) (o_slice_m runUnderlying25 sizeOf3 rfl rfl ⟨_,rfl⟩ hx14)⟩,.view (peekE (i:=56) 1 rfl rfl rfl) (o_slice_m runUnderlying25 sizeOf3 rfl ⟨_,rfl⟩ rfl hx18)⟩,?_⟩;refine gdc2_t rfl rfl rfl rfl (o_append (a:=_) 0 underlying25 type3 rfl rfl rfl rfl rfl rfl rfl (fun _=>rfl) (fun _=>rfl) hg15 (app_len hg15 rfl)) ?_;rintro _ _ ⟨a_r3,cap_r3,rfl,rfl⟩;refine ⟨fun _=>⟨⟨trivial,.view (peekE (i:=46) 1 rfl rfl rfl) (o_slice_m runUnderlying25 sizeOf3 rfl rfl ⟨_,rfl⟩ hx14)⟩,.view (peekE (i:=56) 1 rfl rfl rfl) (o_slice_m runUnderlying25 sizeOf3 rfl ⟨_,rfl⟩ rfl hx18)⟩,?_⟩;refine gdc2_t rfl rfl rfl rfl (o_append (a:=_) 0 underlying25 type3 rfl rfl rfl rfl rfl rfl rfl (fun _=>rfl) (fun _=>rfl) hg17 (app_len hg17 rfl)) ?_;rintro _ _ ⟨a_r3,cap_r3,rfl,rfl⟩;refine ⟨fun _=>⟨⟨trivial,.view (peekE (i:=46) 1 rfl rfl rfl) (o_slice_m runUnderlying25 sizeOf3 rfl rfl ⟨_,rfl⟩ hx14)⟩,.view (peekE (i:=56) 1 rfl rfl rfl) (o_slice_m runUnderlying25 sizeOf3 rfl ⟨_,rfl⟩ rfl hx18)⟩,?_⟩;refine gdc2_t rfl rfl rfl rfl (o_append (a:=_) 0 underlying25 type3 rfl rfl rfl rfl rfl rfl rfl (fun _=>rfl) (fun _=>rfl) hg19 (app_len hg19 rfl)) ?_;rintro _ _ ⟨a_r3,cap_r3,rfl,rfl⟩;refine ⟨fun hc=>absurd hc (by decide),?_⟩;refine gdc2_t rfl rfl rfl rfl (oAs rfl) ?_;rintro _ _ ⟨rfl,rfl⟩;refine ⟨fun hc=>absurd hc (by decide),?_⟩;refine gdc2_nil ?_;refine g_conv (refines_shift 0 1 rfl rfl rfl rfl) ?_
     refine zq2 ?_;obtain ⟨hg20,hm2⟩:=grd_some hm2;refine zq3 ?_;exact ⟨_,(_,_),hm2,⟨rfl,rfl,trivial⟩,⟨rfl,trivial⟩,[],rfl⟩
  ·refine g_exit ?_
   exact ⟨_,(_,_),some_eq hj1,⟨rfl,trivial⟩,trivial,[],rfl⟩
 ·rintro l2 ⟨a_r1,cap_r1⟩ hst
  subst hst;refine k_norm (L':=[(3,.v (.slice a_r1 l2.length cap_r1))]) (ms':=[row a_r1 cap_r1 3 1 D.i64 l2]) rfl rfl ?_;refine zq5 ?_;refine g_conv (peekE (i:=2) 0 rfl rfl rfl).refines ?_
  cases hm1;exact g_ret zr1
noncomputable def m_rb_find_l1 (t1:ATy) (l1:(List Int)) (kind1:Int):Nat->Int->Option (Out Int Unit)
 | 0,_=>none
 | n+1,i1 =>
  bif (decide (i1<(l1.length:Int))) then
   (idx l1 i1).bind fun x1 =>
   (idx t1.l x1).bind fun x2 =>
   bif (decide (x2.kind=kind1)) then
    some (Out.ret i1)
   else
    grd (InR (i1+1)) <|
    m_rb_find_l1 t1 l1 kind1 n (i1+1)
  else
   some (Out.go (()))
noncomputable def m_rb_find (t1:ATy) (l1:(List Int)) (kind1:Int):Option Int:=
 ((m_rb_find_l1 t1 l1 kind1 FU 0:Option (Out Int Unit))).bind (fun oo=>oo.on (fun r1=>some r1) (fun _ =>
 some (-1)))
theorem w_rb_find {t1:ATy} {l1:(List Int)} {kind1:Int} {r_1:Int} (hm:m_rb_find t1 l1 kind1=some r_1):Fn0 Tryz.prog 102 [ATy.d t1,.list 1 D.i64 l1,.i64 kind1] (.i64 r_1):=by
 unfold m_rb_find at hm;refine fn_intro func102 rfl ntmps102 rfl fun H0 fr w0=>?_;refine zq10 ?_;obtain ⟨o_1,hj1,hm1⟩:=bS hm;refine g_cut_m [] [] (fun (st:Unit) (hid:Unit)=>match st,hid with | _,_=>[]) (fun F (st:Unit) (hid:Unit)=>match st,hid with | _,_=>[]) (fun st=>Out.go (st)=o_1) trivial trivial ?_ ?_
 ·refine g_block ?_
  refine g_loop_m [(1,_),(2,_),(3,_)] [] (fun (st:Int) (hid:Unit)=>match st,hid with | i1,_=>[(7,.i64 i1)]) (fun F (st:Int) (hid:Unit)=>match st,hid with | i1,_=>[]) () hj1 (fun _=>rfl) ⟨rfl,rfl,rfl,trivial⟩ trivial ⟨rfl,trivial⟩ rfl ?_;rintro n i1 _ hj1;rw [m_rb_find_l1] at hj1;refine g_norm (L':=[(7,.i64 i1),(1,_),(2,_),(3,_)]) (ms':=[]) rfl rfl ?_;refine zq8 ?_;refine zcn hj1 (fun hc1 hj1=>?_) (fun hc1 hj1=>?_)
  ·refine zq4 ?_
   obtain ⟨x1,hx1,hj1⟩:=bS hj1;obtain ⟨x2,hx2,hj1⟩:=bS hj1;refine zdr 11 ?_;refine zq13 ?_;refine zcn hj1 (fun hc2 hj1=>?_) (fun hc2 hj1=>?_)
   ·refine zq5 ?_
    refine g_ret ?_;obtain rfl:=some_eq hj1
    replace hm1:=on_ret hm1
    cases hm1;exact zr1
   ·refine zq3 ?_
    obtain ⟨hg3,hj1⟩:=grd_some hj1;refine zq3 ?_;exact ⟨_,(),hj1,⟨rfl,trivial⟩,⟨rfl,rfl,rfl,trivial⟩,[],rfl⟩
  ·refine g_exit ?_
   exact ⟨_,(),some_eq hj1,trivial,trivial,[],rfl⟩
 ·rintro _ _ hst
  subst hst
  replace hm1:=on_go hm1
  refine k_norm (L':=[]) (ms':=[]) rfl rfl ?_;refine zq4 ?_
  cases hm1;exact g_ret zr1
noncomputable def m_rb_first_l1 (t1:ATy) (l1:(List Int)) (a1:Int) (bv1:Int):Nat->Int->Option (Out Int Unit)
 | 0,_=>none
 | n+1,i1 =>
  bif (decide (i1<(l1.length:Int))) then
   (idx l1 i1).bind fun x1 =>
   (idx t1.l x1).bind fun x2 =>
   bif ((decide (x2.kind=a1))||(decide (x2.kind=bv1))) then
    some (Out.ret i1)
   else
    grd (InR (i1+1)) <|
    m_rb_first_l1 t1 l1 a1 bv1 n (i1+1)
  else
   some (Out.go (()))
noncomputable def m_rb_first (t1:ATy) (l1:(List Int)) (a1:Int) (bv1:Int):Option Int:=
 ((m_rb_first_l1 t1 l1 a1 bv1 FU 0:Option (Out Int Unit))).bind (fun oo=>oo.on (fun r1=>some r1) (fun _ =>
 some (-1)))
theorem w_rb_first {t1:ATy} {l1:(List Int)} {a1:Int} {bv1:Int} {r_1:Int} (hm:m_rb_first t1 l1 a1 bv1=some r_1):Fn0 Tryz.prog 103 [ATy.d t1,.list 1 D.i64 l1,.i64 a1,.i64 bv1] (.i64 r_1):=by
 unfold m_rb_first at hm;refine fn_intro func103 rfl ntmps103 rfl fun H0 fr w0=>?_;refine zq10 ?_;obtain ⟨o_1,hj1,hm1⟩:=bS hm;refine g_cut_m [] [] (fun (st:Unit) (hid:Unit)=>match st,hid with | _,_=>[]) (fun F (st:Unit) (hid:Unit)=>match st,hid with | _,_=>[]) (fun st=>Out.go (st)=o_1) trivial trivial ?_ ?_
 ·refine g_block ?_
  refine g_loop_m [(1,_),(2,_),(3,_),(4,_)] [] (fun (st:Int) (hid:Unit)=>match st,hid with | i1,_=>[(9,.i64 i1)]) (fun F (st:Int) (hid:Unit)=>match st,hid with | i1,_=>[]) () hj1 (fun _=>rfl) ⟨rfl,rfl,rfl,rfl,trivial⟩ trivial ⟨rfl,trivial⟩ rfl ?_;rintro n i1 _ hj1;rw [m_rb_first_l1] at hj1;refine g_norm (L':=[(9,.i64 i1),(1,_),(2,_),(3,_),(4,_)]) (ms':=[]) rfl rfl ?_;refine zq8 ?_;refine zcn hj1 (fun hc1 hj1=>?_) (fun hc1 hj1=>?_)
  ·refine zq4 ?_
   obtain ⟨x1,hx1,hj1⟩:=bS hj1;obtain ⟨x2,hx2,hj1⟩:=bS hj1;refine zdr 10 ?_;refine zq18 ?_
   apply go_or [(1,_),(2,_),(3,_),(4,_),(9,_)] 4 33 (t:=29) ⟨rfl,rfl,rfl,rfl,rfl,trivial⟩ rfl
   ·intro hg_1 hk1
    refine zq4 ?_;exact zgm hk1
   ·intro hg_1 hk1
    refine zq4 ?_;exact zgm hk1
   refine gNl ?_;refine zcn hj1 (fun hc2 hj1=>?_) (fun hc2 hj1=>?_)
   ·refine zq5 ?_
    refine g_ret ?_;obtain rfl:=some_eq hj1
    replace hm1:=on_ret hm1
    cases hm1;exact zr1
   ·refine zq3 ?_
    obtain ⟨hg3,hj1⟩:=grd_some hj1;refine zq3 ?_;exact ⟨_,(),hj1,⟨rfl,trivial⟩,⟨rfl,rfl,rfl,rfl,trivial⟩,[],rfl⟩
  ·refine g_exit ?_
   exact ⟨_,(),some_eq hj1,trivial,trivial,[],rfl⟩
 ·rintro _ _ hst
  subst hst
  replace hm1:=on_go hm1
  refine k_norm (L':=[]) (ms':=[]) rfl rfl ?_;refine zq4 ?_
  cases hm1;exact g_ret zr1
noncomputable def m_rb_swap (l1:(List Int)) (i1:Int) (in1:(List Int)):Option (List Int):=
 (sli l1 0 i1).bind fun l2 =>
 grd ((0+l2.length)*8<=140737488355328) <|
 grd (InR (i1+1)) <|
 (sli l1 (i1+1) (l1.length:Int)).bind fun l3 =>
 grd ((([]++l2).length+l3.length)*8<=140737488355328) <|
 grd (((([]++l2)++l3).length+in1.length)*8<=140737488355328) <|
 (m_rb_Set ((([]++l2)++l3)++in1)).bind fun x1 =>
 some x1
theorem w_rb_swap {l1:(List Int)} {i1:Int} {in1:(List Int)} {r_1:(List Int)} (hm:m_rb_swap l1 i1 in1=some r_1):Fn0 Tryz.prog 104 [.list 1 D.i64 l1,.i64 i1,.list 1 D.i64 in1] (.list 1 D.i64 r_1):=by
 unfold m_rb_swap at hm;refine fn_intro func104 rfl ntmps104 rfl fun H0 fr w0=>?_;refine zq3 ?_;refine go_conv (nilE (i:=6) (sz:=1) (f:=D.i64) rfl).refines ?_;refine zq3 ?_;refine go_op rfl rfl rfl (o_buildSlice_row (xs:=[]) (f:=D.i64) (l:=[]) runUnderlying25 sizeOf3 zeroValue3 rfl rfl rfl (fun _=>⟨rfl,rfl,rfl⟩) rfl (by simp [maxLen])) ?_;rintro _ _ ⟨a_r1,rfl,rfl⟩;refine zq2 ?_;obtain ⟨l2,hx1,hm⟩:=bS hm;refine go_p rfl rfl rfl (o_slice_m runUnderlying25 sizeOf3 rfl rfl ⟨_,rfl⟩ hx1) ?_;obtain ⟨hg2,hm⟩:=grd_some hm;refine zap 0 hg2 fun a_r1 cap_r1=>?_;refine go_ms (ms':=[_]) rfl ?_;refine zq7 ?_;obtain ⟨hg3,hm⟩:=grd_some hm;refine zq1 ?_;obtain ⟨l3,hx4,hm⟩:=bS hm;refine go_p rfl rfl rfl (o_slice_m runUnderlying25 sizeOf3 rfl ⟨_,rfl⟩ rfl hx4) ?_;obtain ⟨hg5,hm⟩:=grd_some hm;refine zap 0 hg5 fun a_r1 cap_r1=>?_;refine go_ms (ms':=[_]) rfl ?_;refine zq6 ?_;obtain ⟨hg6,hm⟩:=grd_some hm;refine zap 0 hg6 fun a_r1 cap_r1=>?_;refine go_ms (ms':=[_]) rfl ?_;obtain ⟨x1,hx7,hm⟩:=bS hm;refine go_p rfl rfl rfl (.view (peekE (i:=21) 0 rfl rfl rfl) (o_call0 call61 rfl (w_rb_Set hx7))) ?_;refine zq2 ?_
 cases hm;exact g_ret zr1
noncomputable def m_rb_part_l1 (n1:ANd) (s1:(List UInt8)):Nat->Int->Option (Out Int Unit)
 | 0,_=>none
 | n+1,i1 =>
  bif (decide (i1<(n1.l.length:Int))) then
   (idx n1.l i1).bind fun x1 =>
   bif (decide ((x1.name:List UInt8)=s1)) then
    (idx n1.l i1).bind fun x2 =>
    some (Out.ret x2.at_)
   else
    grd (InR (i1+1)) <|
    m_rb_part_l1 n1 s1 n (i1+1)
  else
   some (Out.go (()))
noncomputable def m_rb_part (n1:ANd) (s1:(List UInt8)):Option Int:=
 ((m_rb_part_l1 n1 s1 FU 0:Option (Out Int Unit))).bind (fun oo=>oo.on (fun r1=>some r1) (fun _ =>
 some (-1)))
theorem w_rb_part {n1:ANd} {s1:(List UInt8)} {r_1:Int} (hm:m_rb_part n1 s1=some r_1):Fn0 Tryz.prog 169 [ANd.d n1,.str s1] (.i64 r_1):=by
 unfold m_rb_part at hm;refine fn_intro func169 rfl ntmps169 rfl fun H0 fr w0=>?_;refine zq10 ?_;obtain ⟨o_1,hj1,hm1⟩:=bS hm;refine g_cut_m [] [] (fun (st:Unit) (hid:Unit)=>match st,hid with | _,_=>[]) (fun F (st:Unit) (hid:Unit)=>match st,hid with | _,_=>[]) (fun st=>Out.go (st)=o_1) trivial trivial ?_ ?_
 ·refine g_block ?_
  refine g_loop_m [(1,_),(2,_)] [] (fun (st:Int) (hid:Unit)=>match st,hid with | i1,_=>[(5,.i64 i1)]) (fun F (st:Int) (hid:Unit)=>match st,hid with | i1,_=>[]) () hj1 (fun _=>rfl) ⟨rfl,rfl,trivial⟩ trivial ⟨rfl,trivial⟩ rfl ?_;rintro n i1 _ hj1;rw [m_rb_part_l1] at hj1;refine g_norm (L':=[(5,.i64 i1),(1,_),(2,_)]) (ms':=[]) rfl rfl ?_;refine zq9 ?_;refine zcn hj1 (fun hc1 hj1=>?_) (fun hc1 hj1=>?_)
  ·refine zq8 ?_
   obtain ⟨x1,hx1,hj1⟩:=bS hj1;refine go_p rfl rfl rfl (oIm runUnderlying42 sizeOf98 rfl rfl hx1) ?_;refine zq5 ?_;refine zcn hj1 (fun hc2 hj1=>?_) (fun hc2 hj1=>?_)
   ·refine zq5 ?_
    obtain ⟨x2,hx2,hj1⟩:=bS hj1;refine go_p rfl rfl rfl (oIm runUnderlying42 sizeOf98 rfl rfl hx2) ?_;refine zq4 ?_;refine g_ret ?_;obtain rfl:=some_eq hj1
    replace hm1:=on_ret hm1
    cases hm1;exact zr1
   ·refine zq3 ?_
    obtain ⟨hg3,hj1⟩:=grd_some hj1;refine zq3 ?_;exact ⟨_,(),hj1,⟨rfl,trivial⟩,⟨rfl,rfl,trivial⟩,[],rfl⟩
  ·refine g_exit ?_
   exact ⟨_,(),some_eq hj1,trivial,trivial,[],rfl⟩
 ·rintro _ _ hst
  subst hst
  replace hm1:=on_go hm1
  refine k_norm (L':=[]) (ms':=[]) rfl rfl ?_;refine zq4 ?_
  cases hm1;exact g_ret zr1
noncomputable def m_rb_parts_l1 (t1:ATy) (l1:(List Int)) (s1:(List UInt8)):Nat->(Int×(List Int))->Option (List Int)
 | 0,_=>none
 | n+1,(i1,l3) =>
  bif (decide (i1<(l1.length:Int))) then
   (idx l1 i1).bind fun x1 =>
   (idx t1.l x1).bind fun x2 =>
   (m_rb_part x2 s1).bind fun x3 =>
   bif (decide (0<=x3)) then
    grd ((l3.length+([x3]:List _).length)*8<=140737488355328) <|
    grd (InR (i1+1)) <|
    m_rb_parts_l1 t1 l1 s1 n ((i1+1),(l3++[x3]))
   else
    grd (InR (i1+1)) <|
    m_rb_parts_l1 t1 l1 s1 n ((i1+1),l3)
  else
   some l3
noncomputable def m_rb_parts (t1:ATy) (l1:(List Int)) (s1:(List UInt8)):Option (List Int):=
 (m_rb_parts_l1 t1 l1 s1 FU (0,[]):Option (List Int)).bind fun l2 =>
 (m_rb_Set l2).bind fun x4 =>
 some x4
theorem w_rb_parts {t1:ATy} {l1:(List Int)} {s1:(List UInt8)} {r_1:(List Int)} (hm:m_rb_parts t1 l1 s1=some r_1):Fn0 Tryz.prog 137 [ATy.d t1,.list 1 D.i64 l1,.str s1] (.list 1 D.i64 r_1):=by
 unfold m_rb_parts at hm;refine fn_intro func137 rfl ntmps137 rfl fun H0 fr w0=>?_;refine zq4 ?_;refine go_conv (nilE (i:=6) (sz:=1) (f:=D.i64) rfl).refines ?_;refine zq3 ?_;refine go_op rfl rfl rfl (o_buildSlice_row (xs:=[]) (f:=D.i64) (l:=[]) runUnderlying25 sizeOf3 zeroValue3 rfl rfl rfl (fun _=>⟨rfl,rfl,rfl⟩) rfl (by simp [maxLen])) ?_;rintro _ _ ⟨a_r1,rfl,rfl⟩;refine zq7 ?_;obtain ⟨o_1,hj1,hm1⟩:=bS hm;refine g_cut_m [] [] (fun (st:(List Int)) (hid:(Option Addr×Nat))=>match st,hid with | l2,(a_r1,cap_r1)=>[(7,.v (.slice a_r1 l2.length cap_r1))]) (fun F (st:(List Int)) (hid:(Option Addr×Nat))=>match st,hid with | l2,(a_r1,cap_r1)=>[row a_r1 cap_r1 3 1 D.i64 l2]) (fun st=>st=o_1) trivial trivial ?_ ?_
 ·refine g_block ?_
  refine g_loop_m [(1,_),(2,_),(3,_)] [] (fun (st:(Int×(List Int))) (hid:(Option Addr×Nat))=>match st,hid with | (i1,l3),(a_r1,cap_r1)=>[(7,.v (.slice a_r1 l3.length cap_r1)),(8,.i64 i1)]) (fun F (st:(Int×(List Int))) (hid:(Option Addr×Nat))=>match st,hid with | (i1,l3),(a_r1,cap_r1)=>[row a_r1 cap_r1 3 1 D.i64 l3]) (_,_) hj1 (fun _=>rfl) ⟨rfl,rfl,rfl,trivial⟩ trivial ⟨rfl,rfl,trivial⟩ rfl ?_;rintro n ⟨i1,l3⟩ ⟨a_r1,cap_r1⟩ hj1;rw [m_rb_parts_l1] at hj1;refine g_norm (L':=[(7,.v (.slice a_r1 l3.length cap_r1)),(8,.i64 i1),(1,_),(2,_),(3,_)]) (ms':=[row a_r1 cap_r1 3 1 D.i64 l3]) rfl rfl ?_;refine zq8 ?_;refine zcn hj1 (fun hc1 hj1=>?_) (fun hc1 hj1=>?_)
  ·refine zq4 ?_
   obtain ⟨x1,hx1,hj1⟩:=bS hj1;obtain ⟨x2,hx2,hj1⟩:=bS hj1;obtain ⟨x3,hx3,hj1⟩:=bS hj1;refine zdr 11 ?_;refine zq9 ?_;refine zcd (w_rb_part hx3) ?_;refine zq8 ?_;refine zcn hj1 (fun hc2 hj1=>?_) (fun hc2 hj1=>?_)
   ·refine zq3 ?_
    refine go_p rfl rfl rfl (zs1 D.i64) ?_;obtain ⟨hg4,hj1⟩:=grd_some hj1;refine zap 0 hg4 fun a_r1 cap_r1=>?_;refine go_ms (ms':=[_]) rfl ?_;refine zq4 ?_;obtain ⟨hg5,hj1⟩:=grd_some hj1;refine zq3 ?_;exact ⟨_,(_,_),hj1,⟨rfl,rfl,trivial⟩,⟨rfl,rfl,rfl,trivial⟩,[],rfl⟩
   ·refine zq3 ?_
    obtain ⟨hg6,hj1⟩:=grd_some hj1;refine zq3 ?_;exact ⟨_,(_,_),hj1,⟨rfl,rfl,trivial⟩,⟨rfl,rfl,rfl,trivial⟩,[],rfl⟩
  ·refine g_exit ?_
   exact ⟨_,(_,_),some_eq hj1,⟨rfl,trivial⟩,trivial,[],rfl⟩
 ·rintro l2 ⟨a_r1,cap_r1⟩ hst
  subst hst;refine k_norm (L':=[(7,.v (.slice a_r1 l2.length cap_r1))]) (ms':=[row a_r1 cap_r1 3 1 D.i64 l2]) rfl rfl ?_;refine zq3 ?_;obtain ⟨x4,hx7,hm1⟩:=bS hm1;refine go_p rfl rfl rfl (.view (peekE (i:=33) 0 rfl rfl rfl) (o_call0 call61 rfl (w_rb_Set hx7))) ?_;refine zq2 ?_
  cases hm1;exact g_ret zr1
noncomputable def m_rb_countOf_l1 (t1:ATy) (l1:(List Int)) (s1:(List UInt8)):Nat->(Int×Int)->Option Int
 | 0,_=>none
 | n+1,(n2,i1) =>
  bif (decide (i1<(l1.length:Int))) then
   (idx l1 i1).bind fun x1 =>
   (idx t1.l x1).bind fun x2 =>
   (m_rb_part x2 s1).bind fun x3 =>
   bif (decide (0<=x3)) then
    grd (InR (n2+1)) <|
    grd (InR (i1+1)) <|
    m_rb_countOf_l1 t1 l1 s1 n ((n2+1),(i1+1))
   else
    grd (InR (i1+1)) <|
    m_rb_countOf_l1 t1 l1 s1 n (n2,(i1+1))
  else
   some n2
noncomputable def m_rb_countOf (t1:ATy) (l1:(List Int)) (s1:(List UInt8)):Option Int:=
 (m_rb_countOf_l1 t1 l1 s1 FU (0,0):Option Int).bind fun n1 =>
 some n1
theorem w_rb_countOf {t1:ATy} {l1:(List Int)} {s1:(List UInt8)} {r_1:Int} (hm:m_rb_countOf t1 l1 s1=some r_1):Fn0 Tryz.prog 168 [ATy.d t1,.list 1 D.i64 l1,.str s1] (.i64 r_1):=by
 unfold m_rb_countOf at hm;refine fn_intro func168 rfl ntmps168 rfl fun H0 fr w0=>?_;refine zq14 ?_;obtain ⟨o_1,hj1,hm1⟩:=bS hm;refine g_cut_m [] [] (fun (st:Int) (hid:Unit)=>match st,hid with | n1,_=>[(7,.i64 n1)]) (fun F (st:Int) (hid:Unit)=>match st,hid with | n1,_=>[]) (fun st=>st=o_1) trivial trivial ?_ ?_
 ·refine g_block ?_
  refine g_loop_m [(1,_),(2,_),(3,_)] [] (fun (st:(Int×Int)) (hid:Unit)=>match st,hid with | (n2,i1),_=>[(7,.i64 n2),(8,.i64 i1)]) (fun F (st:(Int×Int)) (hid:Unit)=>match st,hid with | (n2,i1),_=>[]) () hj1 (fun _=>rfl) ⟨rfl,rfl,rfl,trivial⟩ trivial ⟨rfl,rfl,trivial⟩ rfl ?_;rintro n ⟨n2,i1⟩ _ hj1;rw [m_rb_countOf_l1] at hj1;refine g_norm (L':=[(7,.i64 n2),(8,.i64 i1),(1,_),(2,_),(3,_)]) (ms':=[]) rfl rfl ?_;refine zq8 ?_;refine zcn hj1 (fun hc1 hj1=>?_) (fun hc1 hj1=>?_)
  ·refine zq4 ?_
   obtain ⟨x1,hx1,hj1⟩:=bS hj1;obtain ⟨x2,hx2,hj1⟩:=bS hj1;obtain ⟨x3,hx3,hj1⟩:=bS hj1;refine zdr 11 ?_;refine zq9 ?_;refine zcd (w_rb_part hx3) ?_;refine zq3 ?_;refine zcn hj1 (fun hc2 hj1=>?_) (fun hc2 hj1=>?_)
   ·refine zq2 ?_
    obtain ⟨hg4,hj1⟩:=grd_some hj1;refine zq5 ?_;obtain ⟨hg5,hj1⟩:=grd_some hj1;refine zq3 ?_;exact ⟨_,(),hj1,⟨rfl,rfl,trivial⟩,⟨rfl,rfl,rfl,trivial⟩,[],rfl⟩
   ·refine zq3 ?_
    obtain ⟨hg6,hj1⟩:=grd_some hj1;refine zq3 ?_;exact ⟨_,(),hj1,⟨rfl,rfl,trivial⟩,⟨rfl,rfl,rfl,trivial⟩,[],rfl⟩
  ·refine g_exit ?_
   exact ⟨_,(),some_eq hj1,⟨rfl,trivial⟩,trivial,[],rfl⟩
 ·rintro n1 _ hst
  subst hst;refine k_norm (L':=[(7,.i64 n1)]) (ms':=[]) rfl rfl ?_;refine zq5 ?_
  cases hm1;exact g_ret zr1
noncomputable def m_rb_names_l1 (t1:ATy) (l1:(List Int)):Nat->(Int×(List (List UInt8)))->Option (List (List UInt8))
 | 0,_=>none
 | n+1,(i1,l3) =>
  (idx l1 0).bind fun x1 =>
  (idx t1.l x1).bind fun x2 =>
  bif (decide (i1<(x2.l.length:Int))) then
   (idx l1 0).bind fun x3 =>
   (idx t1.l x3).bind fun x4 =>
   (idx x4.l i1).bind fun x5 =>
   (m_rb_parts t1 l1 x5.name).bind fun x6 =>
   (bif (decide (0<(x6.length:Int))) then ((m_rb_countOf t1 l1 x5.name).bind fun x7 =>
   some (decide (x7=(l1.length:Int)))) else (some false)).bind fun p1 =>
   (bif p1 then ((m_ra_In x5.name l3).bind fun x8 =>
   some (!x8)) else (some false)).bind fun p2 =>
   bif p2 then
    grd ((l3.length+([x5.name]:List _).length)*16<=140737488355328) <|
    grd (InR (i1+1)) <|
    m_rb_names_l1 t1 l1 n ((i1+1),(l3++[x5.name]))
   else
    grd (InR (i1+1)) <|
    m_rb_names_l1 t1 l1 n ((i1+1),l3)
  else
   some l3
noncomputable def m_rb_names (t1:ATy) (l1:(List Int)):Option (List (List UInt8)):=
 (m_rb_names_l1 t1 l1 FU (0,[]):Option (List (List UInt8))).bind fun l2 =>
 some l2
theorem w_rb_names {t1:ATy} {l1:(List Int)} {r_1:(List (List UInt8))} (hm:m_rb_names t1 l1=some r_1):Fn0 Tryz.prog 136 [ATy.d t1,.list 1 D.i64 l1] (.list 1 D.str r_1):=by
 unfold m_rb_names at hm;refine fn_intro func136 rfl ntmps136 rfl fun H0 fr w0=>?_;refine zq4 ?_;refine go_conv (nilE (i:=4) (sz:=1) (f:=D.str) rfl).refines ?_;refine zq3 ?_;refine go_op rfl rfl rfl (o_buildSlice_row (xs:=[]) (f:=D.str) (l:=[]) runUnderlying65 sizeOf9 zeroValue9 rfl rfl rfl (fun _=>⟨rfl,rfl,rfl⟩) rfl (by simp [maxLen])) ?_;rintro _ _ ⟨a_r1,rfl,rfl⟩;refine zq7 ?_;obtain ⟨o_1,hj1,hm1⟩:=bS hm;refine g_cut_m [] [] (fun (st:(List (List UInt8))) (hid:(Option Addr×Nat))=>match st,hid with | l2,(a_r1,cap_r1)=>[(5,.v (.slice a_r1 l2.length cap_r1))]) (fun F (st:(List (List UInt8))) (hid:(Option Addr×Nat))=>match st,hid with | l2,(a_r1,cap_r1)=>[row a_r1 cap_r1 9 1 D.str l2]) (fun st=>st=o_1) trivial trivial ?_ ?_
 ·refine g_block ?_
  refine g_loop_m [(1,_),(2,_)] [] (fun (st:(Int×(List (List UInt8)))) (hid:(Option Addr×Nat))=>match st,hid with | (i1,l3),(a_r1,cap_r1)=>[(5,.v (.slice a_r1 l3.length cap_r1)),(6,.i64 i1)]) (fun F (st:(Int×(List (List UInt8)))) (hid:(Option Addr×Nat))=>match st,hid with | (i1,l3),(a_r1,cap_r1)=>[row a_r1 cap_r1 9 1 D.str l3]) (_,_) hj1 (fun _=>rfl) ⟨rfl,rfl,trivial⟩ trivial ⟨rfl,rfl,trivial⟩ rfl ?_;rintro n ⟨i1,l3⟩ ⟨a_r1,cap_r1⟩ hj1;rw [m_rb_names_l1] at hj1;refine g_norm (L':=[(5,.v (.slice a_r1 l3.length cap_r1)),(6,.i64 i1),(1,_),(2,_)]) (ms':=[row a_r1 cap_r1 9 1 D.str l3]) rfl rfl ?_;refine zq2 ?_;obtain ⟨x1,hx1,hj1⟩:=bS hj1;obtain ⟨x2,hx2,hj1⟩:=bS hj1;refine zdr 11 ?_;refine zq4 ?_;refine gd_p rfl rfl rfl (oIm runUnderlying25 sizeOf3 rfl rfl hx1) ?_;refine zq1 ?_;refine gd_p rfl rfl rfl (oIm runUnderlying22 sizeOf44 rfl rfl hx2) ?_;refine zq6 ?_;refine zcn hj1 (fun hc1 hj1=>?_) (fun hc1 hj1=>?_)
  ·refine zq4 ?_
   obtain ⟨x3,hx3,hj1⟩:=bS hj1;obtain ⟨x4,hx4,hj1⟩:=bS hj1;obtain ⟨x5,hx5,hj1⟩:=bS hj1;refine zdr 13 ?_;refine zq3 ?_;refine gd_p rfl rfl rfl (oIm runUnderlying25 sizeOf3 rfl rfl hx3) ?_;refine zq1 ?_;refine gd_p rfl rfl rfl (oIm runUnderlying22 sizeOf44 rfl rfl hx4) ?_;refine zq3 ?_;refine gd_p rfl rfl rfl (oIm runUnderlying42 sizeOf98 rfl rfl hx5) ?_;refine zq10 ?_;obtain ⟨x6,hx6,hj1⟩:=bS hj1;refine zc0 (w_rb_parts hx6) ?_;refine zq3 ?_;obtain ⟨p1,hp_1,hj1⟩:=bS hj1;refine go_two [(1,_),(2,_),(5,_),(6,_),(7,_)] 8 48 p1 (t:=40) ⟨rfl,rfl,rfl,rfl,rfl,trivial⟩ rfl (fun hg_1 hk1=>?_) (fun hg_1 hk1=>?_) ?_
   ·replace hp_1:=cond_t hg_1 hp_1
    refine zq3 ?_;obtain ⟨x7,hx7,hp_1⟩:=bS hp_1;refine zcw (w_rb_countOf hx7) ?_;refine zq4 ?_;exact zgb hk1 hp_1
   ·replace hp_1:=cond_f hg_1 hp_1
    refine zq8 ?_;exact zgb hk1 hp_1
   refine zq1 ?_;obtain ⟨p2,hp_2,hj1⟩:=bS hj1;refine go_two [(1,_),(2,_),(5,_),(6,_),(7,_)] 5 54 p2 (t:=49) ⟨rfl,rfl,rfl,rfl,rfl,trivial⟩ rfl (fun hg_2 hk2=>?_) (fun hg_2 hk2=>?_) ?_
   ·replace hp_2:=cond_t hg_2 hp_2
    refine zq2 ?_;obtain ⟨x8,hx8,hp_2⟩:=bS hp_2;refine gWp rfl rfl rfl hg_2 rfl rfl (.view (peekE (i:=51) 0 rfl rfl rfl) (o_call0 call119 rfl (w_ra_In hx8))) ?_;refine zq2 ?_;exact zgb hk2 hp_2
   ·replace hp_2:=cond_f hg_2 hp_2
    refine zq5 ?_;exact zgb hk2 hp_2
   refine gNl ?_;refine zcn hj1 (fun hc2 hj1=>?_) (fun hc2 hj1=>?_)
   ·refine zq3 ?_
    refine go_p rfl rfl rfl (zs1 D.str) ?_;obtain ⟨hg9,hj1⟩:=grd_some hj1;refine zap 0 hg9 fun a_r1 cap_r1=>?_;refine go_ms (ms':=[_]) rfl ?_;refine zq4 ?_;obtain ⟨hg10,hj1⟩:=grd_some hj1;refine zq3 ?_;exact ⟨_,(_,_),hj1,⟨rfl,rfl,trivial⟩,⟨rfl,rfl,trivial⟩,[],rfl⟩
   ·refine zq3 ?_
    obtain ⟨hg11,hj1⟩:=grd_some hj1;refine zq3 ?_;exact ⟨_,(_,_),hj1,⟨rfl,rfl,trivial⟩,⟨rfl,rfl,trivial⟩,[],rfl⟩
  ·refine g_exit ?_
   exact ⟨_,(_,_),some_eq hj1,⟨rfl,trivial⟩,trivial,[],rfl⟩
 ·rintro l2 ⟨a_r1,cap_r1⟩ hst
  subst hst;refine k_norm (L':=[(5,.v (.slice a_r1 l2.length cap_r1))]) (ms':=[row a_r1 cap_r1 9 1 D.str l2]) rfl rfl ?_;refine zq5 ?_;refine g_conv (peekE (i:=4) 0 rfl rfl rfl).refines ?_
  cases hm1;exact g_ret zr1
noncomputable def m_rb_heads_l1 (t1:ATy) (l1:(List Int)):Nat->(Int×(List Int)×(List Int)×(List Int)×(List Int))->Option ((List Int)×(List Int)×(List Int)×(List Int))
 | 0,_=>none
 | n+1,(i1,l6,l7,l8,l9) =>
  bif (decide (i1<(l1.length:Int))) then
   (idx l1 i1).bind fun x1 =>
   (idx t1.l x1).bind fun x2 =>
   grd ((l8.length+([x2.a]:List _).length)*8<=140737488355328) <|
   (idx l1 i1).bind fun x3 =>
   (idx t1.l x3).bind fun x4 =>
   grd ((l7.length+([x4.b]:List _).length)*8<=140737488355328) <|
   grd (InR (i1+1)) <|
   m_rb_heads_l1 t1 l1 n ((i1+1),l6,(l7++[x4.b]),(l8++[x2.a]),l9)
  else
   some (l6,l7,l8,l9)
noncomputable def m_rb_heads_l2 (t1:ATy) (r1:(List Int)):Nat->(Int×(List Int)×(List Int)×(List Int)×(List Int))->Option ((List Int)×(List Int)×(List Int)×(List Int))
 | 0,_=>none
 | n+1,(i2,l14,l15,l16,l17) =>
  bif (decide (i2<(r1.length:Int))) then
   (idx r1 i2).bind fun x5 =>
   (idx t1.l x5).bind fun x6 =>
   grd ((l17.length+([x6.a]:List _).length)*8<=140737488355328) <|
   (idx r1 i2).bind fun x7 =>
   (idx t1.l x7).bind fun x8 =>
   grd ((l14.length+([x8.b]:List _).length)*8<=140737488355328) <|
   grd (InR (i2+1)) <|
   m_rb_heads_l2 t1 r1 n ((i2+1),(l14++[x8.b]),l15,l16,(l17++[x6.a]))
  else
   some (l14,l15,l16,l17)
noncomputable def m_rb_heads_l3 (t1:ATy) (l1:(List Int)) (r1:(List Int)) (all2:(List (List UInt8))):Nat->(Int×(List RSeq))->Option (Out ((List RSeq)×Bool) (List RSeq))
 | 0,_=>none
 | n+1,(i3,l19) =>
  bif (decide (i3<(all2.length:Int))) then
   (idx all2 i3).bind fun x15 =>
   (m_rb_parts t1 l1 x15).bind fun x16 =>
   (idx all2 i3).bind fun x17 =>
   (m_rb_parts t1 r1 x17).bind fun x18 =>
   bif ((decide ((x16.length:Int)=0))||(decide ((x18.length:Int)=0))) then
    some (Out.ret ([],false))
   else
    grd ((l19.length+([(⟨x16,x18⟩:RSeq)]:List _).length)*48<=140737488355328) <|
    grd (InR (i3+1)) <|
    m_rb_heads_l3 t1 l1 r1 all2 n ((i3+1),(l19++[(⟨x16,x18⟩:RSeq)]))
  else
   some (Out.go (l19))
noncomputable def m_rb_heads (t1:ATy) (kind1:Int) (l1:(List Int)) (r1:(List Int)):Option ((List RSeq)×Bool):=
 bif ((!decide (kind1=8))&&(decide ((r1.length:Int)=0))) then
  some ([],false)
 else
  bif (decide (kind1=6)) then
   (m_rb_heads_l1 t1 l1 FU (0,([]:List Int),([]:List Int),([]:List Int),([]:List Int)):Option ((List Int)×(List Int)×(List Int)×(List Int))).bind fun (l2,l3,l4,l5) =>
   (m_rb_heads_l2 t1 r1 FU (0,l2,l3,l4,l5):Option ((List Int)×(List Int)×(List Int)×(List Int))).bind fun (l10,l11,l12,l13) =>
   (m_rb_Set l13).bind fun x9 =>
   (m_rb_Set l12).bind fun x10 =>
   (m_rb_Set l11).bind fun x11 =>
   (m_rb_Set l10).bind fun x12 =>
   some ([(⟨x9,x10⟩:RSeq),(⟨x11,x12⟩:RSeq)],true)
  else
   (bif (decide (kind1=7)) then
    (m_rb_names t1 r1).bind fun x13 =>
    some x13
   else
    some []:Option (List (List UInt8))).bind fun all1 =>
   (bif (decide (kind1=8)) then
    (m_rb_names t1 l1).bind fun x14 =>
    some x14
   else
    some all1:Option (List (List UInt8))).bind fun all2 =>
   ((m_rb_heads_l3 t1 l1 r1 all2 FU (0,[]):Option (Out ((List RSeq)×Bool) (List RSeq)))).bind (fun oo=>oo.on (fun r2=>some r2) (fun l18 =>
   some (l18,true)))
theorem w_rb_heads {t1:ATy} {kind1:Int} {l1:(List Int)} {r1:(List Int)} {r_1:(List RSeq)} {r_2:Bool} (hm:m_rb_heads t1 kind1 l1 r1=some (r_1,r_2)):Fn0 Tryz.prog 105 [ATy.d t1,.i64 kind1,.list 1 D.i64 l1,.list 1 D.i64 r1] (.tup [.list 2 RSeq.d r_1,.bool r_2]):=by
 unfold m_rb_heads at hm;refine fn_intro func105 rfl ntmps105 rfl fun H0 fr w0=>?_;refine zq4 ?_;refine go_conv (nilE (i:=8) (sz:=2) (f:=RSeq.d) rfl).refines ?_;refine zq8 ?_
 apply go_and [(1,_),(2,_),(3,_),(4,_)] 4 25 (t:=21) ⟨rfl,rfl,rfl,rfl,trivial⟩ rfl
 ·intro hg_1 hk1
  refine zq4 ?_;exact zgm hk1
 ·intro hg_1 hk1
  refine zq4 ?_;exact zgm hk1
 refine gNl ?_;refine zcn hm (fun hc1 hm=>?_) (fun hc1 hm=>?_)
 ·refine zq3 ?_
  refine go_conv (nilE (i:=8) (sz:=2) (f:=RSeq.d) rfl).refines ?_;refine zq2 ?_
  cases hm;exact g_ret zr2
 ·refine zq3 ?_
  refine go_op rfl rfl rfl (o_buildSlice_row (xs:=[]) (f:=RSeq.d) (l:=[]) runUnderlying81 sizeOf80 zeroValue80 rfl rfl rfl (fun _=>⟨rfl,rfl,rfl⟩) rfl (by simp [maxLen])) ?_;rintro _ _ ⟨a_r1,rfl,rfl⟩;refine zq8 ?_;refine zcn hm (fun hc2 hm=>?_) (fun hc2 hm=>?_)
  ·refine zq2 ?_
   refine go_p rfl rfl rfl zb80a ?_;refine go_p rfl rfl rfl zb80a ?_;refine zal80a fun b1=>?_;refine zal80a fun b2=>?_;refine zst 1 ?_;refine go_conv (refines_newrow (T:=3) (sz:=1) (f:=D.i64)) ?_;refine go_conv (refines_newrow (T:=3) (sz:=1) (f:=D.i64)) ?_;refine go_ms (ms':=[_,_,box b2 80 [_,_],box b1 80 [_,_],_]) rfl ?_;refine zst 2 ?_;refine go_conv (refines_newrow (T:=3) (sz:=1) (f:=D.i64)) ?_;refine go_conv (refines_newrow (T:=3) (sz:=1) (f:=D.i64)) ?_;refine go_ms (ms':=[_,_,_,_,box b2 80 [_,_],box b1 80 [_,_],_]) rfl ?_;refine zq6 ?_;obtain ⟨o_1,hj1,hm1⟩:=bS hm;refine g_cut_m [(3,_),(4,_),(11,_),(12,_)] [(6,_)] (fun (st:((List Int)×(List Int)×(List Int)×(List Int))) (hid:(Option Addr×Nat)×(Option Addr×Nat)×(Option Addr×Nat)×(Option Addr×Nat))=>match st,hid with | (l2,l3,l4,l5),((a_r5,cap_r5),(a_r4,cap_r4),(a_r3,cap_r3),(a_r2,cap_r2))=>[]) (fun F (st:((List Int)×(List Int)×(List Int)×(List Int))) (hid:(Option Addr×Nat)×(Option Addr×Nat)×(Option Addr×Nat)×(Option Addr×Nat))=>match st,hid with | (l2,l3,l4,l5),((a_r5,cap_r5),(a_r4,cap_r4),(a_r3,cap_r3),(a_r2,cap_r2))=>[row a_r5 cap_r5 3 1 D.i64 l2,row a_r4 cap_r4 3 1 D.i64 l3,row a_r3 cap_r3 3 1 D.i64 l4,row a_r2 cap_r2 3 1 D.i64 l5,box b2 80 [.v (.slice a_r4 l3.length cap_r4),.v (.slice a_r5 l2.length cap_r5)],box b1 80 [.v (.slice a_r2 l5.length cap_r2),.v (.slice a_r3 l4.length cap_r3)],(nthF F 0)]) (fun st=>st=o_1) ⟨rfl,rfl,rfl,rfl,trivial⟩ ⟨rfl,trivial⟩ ?_ ?_
   ·refine g_block ?_
    refine g_loop_m [(2,_),(3,_),(4,_),(11,_),(12,_)] [(6,_)] (fun (st:(Int×(List Int)×(List Int)×(List Int)×(List Int))) (hid:(Option Addr×Nat)×(Option Addr×Nat)×(Option Addr×Nat)×(Option Addr×Nat))=>match st,hid with | (i1,l6,l7,l8,l9),((a_r5,cap_r5),(a_r4,cap_r4),(a_r3,cap_r3),(a_r2,cap_r2))=>[(13,.i64 i1)]) (fun F (st:(Int×(List Int)×(List Int)×(List Int)×(List Int))) (hid:(Option Addr×Nat)×(Option Addr×Nat)×(Option Addr×Nat)×(Option Addr×Nat))=>match st,hid with | (i1,l6,l7,l8,l9),((a_r5,cap_r5),(a_r4,cap_r4),(a_r3,cap_r3),(a_r2,cap_r2))=>[row a_r5 cap_r5 3 1 D.i64 l6,row a_r4 cap_r4 3 1 D.i64 l7,row a_r3 cap_r3 3 1 D.i64 l8,row a_r2 cap_r2 3 1 D.i64 l9,box b2 80 [.v (.slice a_r4 l7.length cap_r4),.v (.slice a_r5 l6.length cap_r5)],box b1 80 [.v (.slice a_r2 l9.length cap_r2),.v (.slice a_r3 l8.length cap_r3)],(nthF F 0)]) ((_,_),(_,_),(_,_),(_,_)) hj1 (fun _=>rfl) ⟨rfl,rfl,rfl,rfl,rfl,trivial⟩ ⟨rfl,trivial⟩ ⟨rfl,trivial⟩ rfl ?_;rintro n ⟨i1,l6,l7,l8,l9⟩ ⟨⟨a_r5,cap_r5⟩,⟨a_r4,cap_r4⟩,⟨a_r3,cap_r3⟩,⟨a_r2,cap_r2⟩⟩ hj1;rw [m_rb_heads_l1] at hj1;refine g_norm (L':=[(13,.i64 i1),(2,_),(3,_),(4,_),(11,_),(12,_)]) (ms':=[row a_r5 cap_r5 3 1 D.i64 l6,row a_r4 cap_r4 3 1 D.i64 l7,row a_r3 cap_r3 3 1 D.i64 l8,row a_r2 cap_r2 3 1 D.i64 l9,box b2 80 [.v (.slice a_r4 l7.length cap_r4),.v (.slice a_r5 l6.length cap_r5)],box b1 80 [.v (.slice a_r2 l9.length cap_r2),.v (.slice a_r3 l8.length cap_r3)],_]) rfl rfl ?_;refine zq8 ?_;refine zcn hj1 (fun hc3 hj1=>?_) (fun hc3 hj1=>?_)
    ·refine zq3 ?_
     obtain ⟨x1,hx1,hj1⟩:=bS hj1;obtain ⟨x2,hx2,hj1⟩:=bS hj1;obtain ⟨hg3,hj1⟩:=grd_some hj1;obtain ⟨x3,hx4,hj1⟩:=bS hj1;obtain ⟨x4,hx5,hj1⟩:=bS hj1;obtain ⟨hg6,hj1⟩:=grd_some hj1;refine g_draw_cc 3 [12,25,27,29] [13,14,15,16,17,18,19,20,21,22,23,24,26,28] [14] (by decide +kernel) (by decide +kernel) Tryz_mixed (by decide +kernel) (by decide +kernel) rfl ?_;refine zq6 ?_;refine gdc_p rfl rfl rfl rfl rfl rfl (oIm runUnderlying25 sizeOf3 rfl rfl hx1) ?_;refine zq1 ?_;refine gdc_p rfl rfl rfl rfl rfl rfl (oIm runUnderlying22 sizeOf44 rfl rfl hx2) ?_;refine zq2 ?_;refine gdc_p rfl rfl rfl rfl rfl rfl (zs1 D.i64) ?_;refine gdc_e rfl ?_;refine zq1 ?_;refine gdc_f rfl rfl rfl rfl rfl (oLb 4 isAgg25 rfl rfl rfl rfl) ?_;refine zq4 ?_;refine gdc_p rfl rfl rfl rfl rfl rfl (oIm runUnderlying25 sizeOf3 rfl rfl hx4) ?_;refine zq1 ?_;refine gdc_p rfl rfl rfl rfl rfl rfl (oIm runUnderlying22 sizeOf44 rfl rfl hx5) ?_;refine zq2 ?_;refine gdc_p rfl rfl rfl rfl rfl rfl (zs1 D.i64) ?_;refine gdc_e rfl ?_;refine zq1 ?_;refine gdc_e rfl ?_;refine zq1 ?_;refine gdc_e rfl ?_;refine gdc_nil ?_;refine gdc2_t rfl rfl rfl rfl (o_append (a:=_) 2 underlying25 type3 rfl rfl rfl rfl rfl rfl rfl (fun _=>rfl) (fun _=>rfl) hg3 (app_len hg3 rfl)) ?_;rintro _ _ ⟨a_r3,cap_r3,rfl,rfl⟩;refine ⟨fun _=>⟨trivial,oLb 4 isAgg25 rfl rfl rfl rfl⟩,?_⟩;refine gdc2_t rfl rfl rfl rfl (o_append (a:=_) 1 underlying25 type3 rfl rfl rfl rfl rfl rfl rfl (fun _=>rfl) (fun _=>rfl) hg6 (app_len hg6 rfl)) ?_;rintro _ _ ⟨a_r4,cap_r4,rfl,rfl⟩;refine ⟨fun hc=>absurd hc (by decide),?_⟩;refine gdc2_u rfl rfl rfl (oSb 5 sizeOf25 rfl rfl rfl rfl rfl rfl rfl rfl (nB rfl)) ?_;rintro _ _ rfl;refine ⟨fun hc=>absurd hc (by decide),?_⟩;refine gdc2_u rfl rfl rfl (oSb 4 sizeOf25 rfl rfl rfl rfl rfl rfl rfl rfl (nB rfl)) ?_;rintro _ _ rfl;refine ⟨fun hc=>absurd hc (by decide),?_⟩;refine gdc2_nil ?_;refine zq2 ?_;obtain ⟨hg7,hj1⟩:=grd_some hj1;refine zq3 ?_;exact ⟨_,((_,_),(_,_),(_,_),(_,_)),hj1,⟨rfl,trivial⟩,⟨rfl,rfl,rfl,rfl,rfl,trivial⟩,[],rfl⟩
    ·refine g_exit ?_
     exact ⟨_,((_,_),(_,_),(_,_),(_,_)),some_eq hj1,trivial,⟨rfl,rfl,rfl,rfl,trivial⟩,[],rfl⟩
   ·rintro ⟨l2,l3,l4,l5⟩ ⟨⟨a_r5,cap_r5⟩,⟨a_r4,cap_r4⟩,⟨a_r3,cap_r3⟩,⟨a_r2,cap_r2⟩⟩ hst
    subst hst;refine k_norm (L':=[(3,_),(4,_),(11,_),(12,_)]) (ms':=[row a_r5 cap_r5 3 1 D.i64 l2,row a_r4 cap_r4 3 1 D.i64 l3,row a_r3 cap_r3 3 1 D.i64 l4,row a_r2 cap_r2 3 1 D.i64 l5,box b2 80 [.v (.slice a_r4 l3.length cap_r4),.v (.slice a_r5 l2.length cap_r5)],box b1 80 [.v (.slice a_r2 l5.length cap_r2),.v (.slice a_r3 l4.length cap_r3)],_]) rfl rfl ?_;refine zq5 ?_;obtain ⟨o_2,hj2,hm2⟩:=bS hm1;refine g_cut_m [(11,_),(12,_)] [(6,_)] (fun (st:((List Int)×(List Int)×(List Int)×(List Int))) (hid:(Option Addr×Nat)×(Option Addr×Nat)×(Option Addr×Nat)×(Option Addr×Nat))=>match st,hid with | (l10,l11,l12,l13),((a_r5,cap_r5),(a_r4,cap_r4),(a_r3,cap_r3),(a_r2,cap_r2))=>[]) (fun F (st:((List Int)×(List Int)×(List Int)×(List Int))) (hid:(Option Addr×Nat)×(Option Addr×Nat)×(Option Addr×Nat)×(Option Addr×Nat))=>match st,hid with | (l10,l11,l12,l13),((a_r5,cap_r5),(a_r4,cap_r4),(a_r3,cap_r3),(a_r2,cap_r2))=>[row a_r5 cap_r5 3 1 D.i64 l10,row a_r4 cap_r4 3 1 D.i64 l11,row a_r3 cap_r3 3 1 D.i64 l12,row a_r2 cap_r2 3 1 D.i64 l13,box b2 80 [.v (.slice a_r4 l11.length cap_r4),.v (.slice a_r5 l10.length cap_r5)],box b1 80 [.v (.slice a_r2 l13.length cap_r2),.v (.slice a_r3 l12.length cap_r3)],(nthF F 0)]) (fun st=>st=o_2) ⟨rfl,rfl,trivial⟩ ⟨rfl,trivial⟩ ?_ ?_
    ·refine g_block ?_
     refine g_loop_m [(3,_),(4,_),(11,_),(12,_)] [(6,_)] (fun (st:(Int×(List Int)×(List Int)×(List Int)×(List Int))) (hid:(Option Addr×Nat)×(Option Addr×Nat)×(Option Addr×Nat)×(Option Addr×Nat))=>match st,hid with | (i2,l14,l15,l16,l17),((a_r5,cap_r5),(a_r4,cap_r4),(a_r3,cap_r3),(a_r2,cap_r2))=>[(14,.i64 i2)]) (fun F (st:(Int×(List Int)×(List Int)×(List Int)×(List Int))) (hid:(Option Addr×Nat)×(Option Addr×Nat)×(Option Addr×Nat)×(Option Addr×Nat))=>match st,hid with | (i2,l14,l15,l16,l17),((a_r5,cap_r5),(a_r4,cap_r4),(a_r3,cap_r3),(a_r2,cap_r2))=>[row a_r5 cap_r5 3 1 D.i64 l14,row a_r4 cap_r4 3 1 D.i64 l15,row a_r3 cap_r3 3 1 D.i64 l16,row a_r2 cap_r2 3 1 D.i64 l17,box b2 80 [.v (.slice a_r4 l15.length cap_r4),.v (.slice a_r5 l14.length cap_r5)],box b1 80 [.v (.slice a_r2 l17.length cap_r2),.v (.slice a_r3 l16.length cap_r3)],(nthF F 0)]) ((_,_),(_,_),(_,_),(_,_)) hj2 (fun _=>rfl) ⟨rfl,rfl,rfl,rfl,trivial⟩ ⟨rfl,trivial⟩ ⟨rfl,trivial⟩ rfl ?_;rintro n ⟨i2,l14,l15,l16,l17⟩ ⟨⟨a_r5,cap_r5⟩,⟨a_r4,cap_r4⟩,⟨a_r3,cap_r3⟩,⟨a_r2,cap_r2⟩⟩ hj2;rw [m_rb_heads_l2] at hj2;refine g_norm (L':=[(14,.i64 i2),(3,_),(4,_),(11,_),(12,_)]) (ms':=[row a_r5 cap_r5 3 1 D.i64 l14,row a_r4 cap_r4 3 1 D.i64 l15,row a_r3 cap_r3 3 1 D.i64 l16,row a_r2 cap_r2 3 1 D.i64 l17,box b2 80 [.v (.slice a_r4 l15.length cap_r4),.v (.slice a_r5 l14.length cap_r5)],box b1 80 [.v (.slice a_r2 l17.length cap_r2),.v (.slice a_r3 l16.length cap_r3)],_]) rfl rfl ?_;refine zq8 ?_;refine zcn hj2 (fun hc4 hj2=>?_) (fun hc4 hj2=>?_)
     ·refine zq3 ?_
      obtain ⟨x5,hx8,hj2⟩:=bS hj2;obtain ⟨x6,hx9,hj2⟩:=bS hj2;obtain ⟨hg10,hj2⟩:=grd_some hj2;obtain ⟨x7,hx11,hj2⟩:=bS hj2;obtain ⟨x8,hx12,hj2⟩:=bS hj2;obtain ⟨hg13,hj2⟩:=grd_some hj2;refine g_draw_cc 3 [12,25,27,29] [13,14,15,16,17,18,19,20,21,22,23,24,26,28] [14] (by decide +kernel) (by decide +kernel) Tryz_mixed (by decide +kernel) (by decide +kernel) rfl ?_;refine zq6 ?_;refine gdc_p rfl rfl rfl rfl rfl rfl (oIm runUnderlying25 sizeOf3 rfl rfl hx8) ?_;refine zq1 ?_;refine gdc_p rfl rfl rfl rfl rfl rfl (oIm runUnderlying22 sizeOf44 rfl rfl hx9) ?_;refine zq2 ?_;refine gdc_p rfl rfl rfl rfl rfl rfl (zs1 D.i64) ?_;refine gdc_e rfl ?_;refine zq1 ?_;refine gdc_f rfl rfl rfl rfl rfl (oLb 4 isAgg25 rfl rfl rfl rfl) ?_;refine zq4 ?_;refine gdc_p rfl rfl rfl rfl rfl rfl (oIm runUnderlying25 sizeOf3 rfl rfl hx11) ?_;refine zq1 ?_;refine gdc_p rfl rfl rfl rfl rfl rfl (oIm runUnderlying22 sizeOf44 rfl rfl hx12) ?_;refine zq2 ?_;refine gdc_p rfl rfl rfl rfl rfl rfl (zs1 D.i64) ?_;refine gdc_e rfl ?_;refine zq1 ?_;refine gdc_e rfl ?_;refine zq1 ?_;refine gdc_e rfl ?_;refine gdc_nil ?_;refine gdc2_t rfl rfl rfl rfl (o_append (a:=_) 3 underlying25 type3 rfl rfl rfl rfl rfl rfl rfl (fun _=>rfl) (fun _=>rfl) hg10 (app_len hg10 rfl)) ?_;rintro _ _ ⟨a_r2,cap_r2,rfl,rfl⟩;refine ⟨fun _=>⟨trivial,oLb 4 isAgg25 rfl rfl rfl rfl⟩,?_⟩;refine gdc2_t rfl rfl rfl rfl (o_append (a:=_) 0 underlying25 type3 rfl rfl rfl rfl rfl rfl rfl (fun _=>rfl) (fun _=>rfl) hg13 (app_len hg13 rfl)) ?_;rintro _ _ ⟨a_r5,cap_r5,rfl,rfl⟩;refine ⟨fun hc=>absurd hc (by decide),?_⟩;refine gdc2_u rfl rfl rfl (oSb 5 sizeOf25 rfl rfl rfl rfl rfl rfl rfl rfl (nB rfl)) ?_;rintro _ _ rfl;refine ⟨fun hc=>absurd hc (by decide),?_⟩;refine gdc2_u rfl rfl rfl (oSb 4 sizeOf25 rfl rfl rfl rfl rfl rfl rfl rfl (nB rfl)) ?_;rintro _ _ rfl;refine ⟨fun hc=>absurd hc (by decide),?_⟩;refine gdc2_nil ?_;refine zq2 ?_;obtain ⟨hg14,hj2⟩:=grd_some hj2;refine zq3 ?_;exact ⟨_,((_,_),(_,_),(_,_),(_,_)),hj2,⟨rfl,trivial⟩,⟨rfl,rfl,rfl,rfl,trivial⟩,[],rfl⟩
     ·refine g_exit ?_
      exact ⟨_,((_,_),(_,_),(_,_),(_,_)),some_eq hj2,trivial,⟨rfl,rfl,trivial⟩,[],rfl⟩
    ·rintro ⟨l10,l11,l12,l13⟩ ⟨⟨a_r5,cap_r5⟩,⟨a_r4,cap_r4⟩,⟨a_r3,cap_r3⟩,⟨a_r2,cap_r2⟩⟩ hst
     subst hst;refine k_norm (L':=[(11,_),(12,_)]) (ms':=[row a_r5 cap_r5 3 1 D.i64 l10,row a_r4 cap_r4 3 1 D.i64 l11,row a_r3 cap_r3 3 1 D.i64 l12,row a_r2 cap_r2 3 1 D.i64 l13,box b2 80 [.v (.slice a_r4 l11.length cap_r4),.v (.slice a_r5 l10.length cap_r5)],box b1 80 [.v (.slice a_r2 l13.length cap_r2),.v (.slice a_r3 l12.length cap_r3)],_]) rfl rfl ?_;refine g_seq ?_;obtain ⟨x9,hx15,hm2⟩:=bS hm2;obtain ⟨x10,hx16,hm2⟩:=bS hm2;obtain ⟨x11,hx17,hm2⟩:=bS hm2;obtain ⟨x12,hx18,hm2⟩:=bS hm2;refine zdr 17 ?_;refine zq2 ?_;refine gd_p rfl rfl rfl (.view (peekE (i:=100) 3 rfl rfl rfl) (o_call0 call61 rfl (w_rb_Set hx15))) ?_;refine zq2 ?_;refine gd_p rfl rfl rfl (.view (peekE (i:=103) 2 rfl rfl rfl) (o_call0 call61 rfl (w_rb_Set hx16))) ?_;refine gd_p rfl rfl rfl zb80b ?_;refine zq2 ?_;refine gd_p rfl rfl rfl (.view (peekE (i:=107) 1 rfl rfl rfl) (o_call0 call61 rfl (w_rb_Set hx17))) ?_;refine zq2 ?_;refine gd_p rfl rfl rfl (.view (peekE (i:=110) 0 rfl rfl rfl) (o_call0 call61 rfl (w_rb_Set hx18))) ?_;refine gd_p rfl rfl rfl zb80b ?_;refine gd_p rfl rfl rfl (o_buildSlice (xs:=[_,_]) (f:=RSeq.d) (l:=[(⟨x9,x10⟩:RSeq),(⟨x11,x12⟩:RSeq)]) runUnderlying81 sizeOf80 zeroValue80 rfl rfl rfl (fun _=>⟨rfl,rfl,rfl⟩) rfl) ?_;refine zq4 ?_
     cases hm2;exact g_ret zr2
  ·refine zq3 ?_
   refine go_p rfl rfl rfl (o_buildSlice (xs:=[]) (f:=D.str) (l:=[]) runUnderlying65 sizeOf9 zeroValue9 rfl rfl rfl (fun _=>⟨rfl,rfl,rfl⟩) rfl) ?_;refine zq8 ?_;obtain ⟨o_3,hj3,hm3⟩:=bS hm;refine g_cut_m [(1,_),(2,_),(3,_),(4,_),(10,_)] [(0,_)] (fun (st:(List (List UInt8))) (hid:Unit)=>match st,hid with | all1,_=>[(15,.list 1 D.str all1)]) (fun F (st:(List (List UInt8))) (hid:Unit)=>match st,hid with | all1,_=>[(nthF F 0)]) (fun st=>st=o_3) ⟨rfl,rfl,rfl,rfl,rfl,trivial⟩ ⟨rfl,trivial⟩ ?_ ?_
   ·refine zcn hj3 (fun hc5 hj3=>?_) (fun hc5 hj3=>?_)
    ·refine zq3 ?_
     obtain ⟨x13,hx19,hj3⟩:=bS hj3;refine zc0 (w_rb_names hx19) ?_;refine zq2 ?_;exact ⟨_,(),some_eq hj3,⟨rfl,trivial⟩,⟨rfl,rfl,rfl,rfl,rfl,trivial⟩,[],rfl⟩
    ·refine gSp ?_
     exact ⟨_,(),some_eq hj3,⟨rfl,trivial⟩,⟨rfl,rfl,rfl,rfl,rfl,trivial⟩,[],rfl⟩
   ·rintro all1 _ hst
    subst hst;refine k_norm (L':=[(15,.list 1 D.str all1),(1,_),(2,_),(3,_),(4,_),(10,_)]) (ms':=[_]) rfl rfl ?_;refine zq6 ?_;obtain ⟨o_4,hj4,hm4⟩:=bS hm3;refine g_cut_m [(2,_),(3,_),(4,_),(10,_)] [(0,_)] (fun (st:(List (List UInt8))) (hid:Unit)=>match st,hid with | all2,_=>[(15,.list 1 D.str all2)]) (fun F (st:(List (List UInt8))) (hid:Unit)=>match st,hid with | all2,_=>[(nthF F 0)]) (fun st=>st=o_4) ⟨rfl,rfl,rfl,rfl,trivial⟩ ⟨rfl,trivial⟩ ?_ ?_
    ·refine zcn hj4 (fun hc6 hj4=>?_) (fun hc6 hj4=>?_)
     ·refine zq3 ?_
      obtain ⟨x14,hx20,hj4⟩:=bS hj4;refine zc0 (w_rb_names hx20) ?_;refine zq2 ?_;exact ⟨_,(),some_eq hj4,⟨rfl,trivial⟩,⟨rfl,rfl,rfl,rfl,trivial⟩,[],rfl⟩
     ·refine gSp ?_
      exact ⟨_,(),some_eq hj4,⟨rfl,trivial⟩,⟨rfl,rfl,rfl,rfl,trivial⟩,[],rfl⟩
    ·rintro all2 _ hst
     subst hst;refine k_norm (L':=[(15,.list 1 D.str all2),(2,_),(3,_),(4,_),(10,_)]) (ms':=[_]) rfl rfl ?_;refine zq5 ?_;obtain ⟨o_5,hj5,hm5⟩:=bS hm4;refine g_cut_m [] [] (fun (st:(List RSeq)) (hid:(Option Addr×Nat))=>match st,hid with | l18,(a_r1,cap_r1)=>[(10,.v (.slice a_r1 l18.length cap_r1))]) (fun F (st:(List RSeq)) (hid:(Option Addr×Nat))=>match st,hid with | l18,(a_r1,cap_r1)=>[row a_r1 cap_r1 80 2 RSeq.d l18]) (fun st=>Out.go (st)=o_5) trivial trivial ?_ ?_
     ·refine g_block ?_
      refine g_loop_m [(2,_),(3,_),(4,_),(15,_)] [] (fun (st:(Int×(List RSeq))) (hid:(Option Addr×Nat))=>match st,hid with | (i3,l19),(a_r1,cap_r1)=>[(10,.v (.slice a_r1 l19.length cap_r1)),(16,.i64 i3)]) (fun F (st:(Int×(List RSeq))) (hid:(Option Addr×Nat))=>match st,hid with | (i3,l19),(a_r1,cap_r1)=>[row a_r1 cap_r1 80 2 RSeq.d l19]) (_,_) hj5 (fun _=>rfl) ⟨rfl,rfl,rfl,rfl,trivial⟩ trivial ⟨rfl,rfl,trivial⟩ rfl ?_;rintro n ⟨i3,l19⟩ ⟨a_r1,cap_r1⟩ hj5;rw [m_rb_heads_l3] at hj5;refine g_norm (L':=[(10,.v (.slice a_r1 l19.length cap_r1)),(16,.i64 i3),(2,_),(3,_),(4,_),(15,_)]) (ms':=[row a_r1 cap_r1 80 2 RSeq.d l19]) rfl rfl ?_;refine zq8 ?_;refine zcn hj5 (fun hc7 hj5=>?_) (fun hc7 hj5=>?_)
      ·refine zq4 ?_
       obtain ⟨x15,hx21,hj5⟩:=bS hj5;obtain ⟨x16,hx22,hj5⟩:=bS hj5;obtain ⟨x17,hx23,hj5⟩:=bS hj5;obtain ⟨x18,hx24,hj5⟩:=bS hj5;refine zdr 16 ?_;refine zq4 ?_;refine gd_p rfl rfl rfl (oIm runUnderlying65 sizeOf9 rfl rfl hx21) ?_;refine zq1 ?_;refine zcd (w_rb_parts hx22) ?_;refine zq4 ?_;refine gd_p rfl rfl rfl (oIm runUnderlying65 sizeOf9 rfl rfl hx23) ?_;refine zq1 ?_;refine zcd (w_rb_parts hx24) ?_;refine zq11 ?_
       apply go_or [(2,_),(3,_),(4,_),(10,_),(15,_),(16,_),(17,_),(18,_)] 4 152 (t:=148) ⟨rfl,rfl,rfl,rfl,rfl,rfl,rfl,rfl,trivial⟩ rfl
       ·intro hg_2 hk2
        refine zq4 ?_;exact zgm hk2
       ·intro hg_2 hk2
        refine zq4 ?_;exact zgm hk2
       refine gNl ?_;refine zcn hj5 (fun hc8 hj5=>?_) (fun hc8 hj5=>?_)
       ·refine zq3 ?_
        refine go_conv (nilE (i:=8) (sz:=2) (f:=RSeq.d) rfl).refines ?_;refine zq2 ?_;refine g_ret ?_;obtain rfl:=some_eq hj5
        replace hm5:=on_ret hm5
        cases hm5;exact zr2
       ·refine zq5 ?_
        refine go_p rfl rfl rfl zb80b ?_;refine go_p rfl rfl rfl (o_buildSlice (xs:=[_]) (f:=RSeq.d) (l:=[(⟨x16,x18⟩:RSeq)]) runUnderlying81 sizeOf80 zeroValue80 rfl rfl rfl (fun _=>⟨rfl,rfl,rfl⟩) rfl) ?_;obtain ⟨hg25,hj5⟩:=grd_some hj5;refine zap 0 hg25 fun a_r1 cap_r1=>?_;refine go_ms (ms':=[_]) rfl ?_;refine zq4 ?_;obtain ⟨hg26,hj5⟩:=grd_some hj5;refine zq3 ?_;exact ⟨_,(_,_),hj5,⟨rfl,rfl,trivial⟩,⟨rfl,rfl,rfl,rfl,trivial⟩,[],rfl⟩
      ·refine g_exit ?_
       exact ⟨_,(_,_),some_eq hj5,⟨rfl,trivial⟩,trivial,[],rfl⟩
     ·rintro l18 ⟨a_r1,cap_r1⟩ hst
      subst hst
      replace hm5:=on_go hm5
      refine k_norm (L':=[(10,.v (.slice a_r1 l18.length cap_r1))]) (ms':=[row a_r1 cap_r1 80 2 RSeq.d l18]) rfl rfl ?_;refine zq6 ?_;refine g_conv (peekE (i:=8) 0 rfl rfl rfl).refines ?_
      cases hm5;exact g_ret zr2
noncomputable def m_rb_of_l1 (t1:ATy) (l1:(List Int)) (kind1:Int):Nat->(Int×(List Int))->Option (List Int)
 | 0,_=>none
 | n+1,(i1,l3) =>
  bif (decide (i1<(l1.length:Int))) then
   (idx l1 i1).bind fun x1 =>
   (idx t1.l x1).bind fun x2 =>
   bif (decide (x2.kind=kind1)) then
    (idx l1 i1).bind fun x3 =>
    grd ((l3.length+([x3]:List _).length)*8<=140737488355328) <|
    grd (InR (i1+1)) <|
    m_rb_of_l1 t1 l1 kind1 n ((i1+1),(l3++[x3]))
   else
    grd (InR (i1+1)) <|
    m_rb_of_l1 t1 l1 kind1 n ((i1+1),l3)
  else
   some l3
noncomputable def m_rb_of (t1:ATy) (l1:(List Int)) (kind1:Int):Option (List Int):=
 (m_rb_of_l1 t1 l1 kind1 FU (0,[]):Option (List Int)).bind fun l2 =>
 some l2
theorem w_rb_of {t1:ATy} {l1:(List Int)} {kind1:Int} {r_1:(List Int)} (hm:m_rb_of t1 l1 kind1=some r_1):Fn0 Tryz.prog 106 [ATy.d t1,.list 1 D.i64 l1,.i64 kind1] (.list 1 D.i64 r_1):=by
 unfold m_rb_of at hm;refine fn_intro func106 rfl ntmps106 rfl fun H0 fr w0=>?_;refine zq4 ?_;refine go_conv (nilE (i:=6) (sz:=1) (f:=D.i64) rfl).refines ?_;refine zq3 ?_;refine go_op rfl rfl rfl (o_buildSlice_row (xs:=[]) (f:=D.i64) (l:=[]) runUnderlying25 sizeOf3 zeroValue3 rfl rfl rfl (fun _=>⟨rfl,rfl,rfl⟩) rfl (by simp [maxLen])) ?_;rintro _ _ ⟨a_r1,rfl,rfl⟩;refine zq7 ?_;obtain ⟨o_1,hj1,hm1⟩:=bS hm;refine g_cut_m [] [] (fun (st:(List Int)) (hid:(Option Addr×Nat))=>match st,hid with | l2,(a_r1,cap_r1)=>[(7,.v (.slice a_r1 l2.length cap_r1))]) (fun F (st:(List Int)) (hid:(Option Addr×Nat))=>match st,hid with | l2,(a_r1,cap_r1)=>[row a_r1 cap_r1 3 1 D.i64 l2]) (fun st=>st=o_1) trivial trivial ?_ ?_
 ·refine g_block ?_
  refine g_loop_m [(1,_),(2,_),(3,_)] [] (fun (st:(Int×(List Int))) (hid:(Option Addr×Nat))=>match st,hid with | (i1,l3),(a_r1,cap_r1)=>[(7,.v (.slice a_r1 l3.length cap_r1)),(8,.i64 i1)]) (fun F (st:(Int×(List Int))) (hid:(Option Addr×Nat))=>match st,hid with | (i1,l3),(a_r1,cap_r1)=>[row a_r1 cap_r1 3 1 D.i64 l3]) (_,_) hj1 (fun _=>rfl) ⟨rfl,rfl,rfl,trivial⟩ trivial ⟨rfl,rfl,trivial⟩ rfl ?_;rintro n ⟨i1,l3⟩ ⟨a_r1,cap_r1⟩ hj1;rw [m_rb_of_l1] at hj1;refine g_norm (L':=[(7,.v (.slice a_r1 l3.length cap_r1)),(8,.i64 i1),(1,_),(2,_),(3,_)]) (ms':=[row a_r1 cap_r1 3 1 D.i64 l3]) rfl rfl ?_;refine zq8 ?_;refine zcn hj1 (fun hc1 hj1=>?_) (fun hc1 hj1=>?_)
  ·refine zq4 ?_
   obtain ⟨x1,hx1,hj1⟩:=bS hj1;obtain ⟨x2,hx2,hj1⟩:=bS hj1;refine zdr 11 ?_;refine zq4 ?_;refine gd_p rfl rfl rfl (oIm runUnderlying25 sizeOf3 rfl rfl hx1) ?_;refine zq1 ?_;refine gd_p rfl rfl rfl (oIm runUnderlying22 sizeOf44 rfl rfl hx2) ?_;refine zq6 ?_;refine zcn hj1 (fun hc2 hj1=>?_) (fun hc2 hj1=>?_)
   ·refine zq4 ?_
    obtain ⟨x3,hx3,hj1⟩:=bS hj1;refine go_p rfl rfl rfl (oIm runUnderlying25 sizeOf3 rfl rfl hx3) ?_;refine zq1 ?_;refine go_p rfl rfl rfl (zs1 D.i64) ?_;obtain ⟨hg4,hj1⟩:=grd_some hj1;refine zap 0 hg4 fun a_r1 cap_r1=>?_;refine go_ms (ms':=[_]) rfl ?_;refine zq4 ?_;obtain ⟨hg5,hj1⟩:=grd_some hj1;refine zq3 ?_;exact ⟨_,(_,_),hj1,⟨rfl,rfl,trivial⟩,⟨rfl,rfl,rfl,trivial⟩,[],rfl⟩
   ·refine zq3 ?_
    obtain ⟨hg6,hj1⟩:=grd_some hj1;refine zq3 ?_;exact ⟨_,(_,_),hj1,⟨rfl,rfl,trivial⟩,⟨rfl,rfl,rfl,trivial⟩,[],rfl⟩
  ·refine g_exit ?_
   exact ⟨_,(_,_),some_eq hj1,⟨rfl,trivial⟩,trivial,[],rfl⟩
 ·rintro l2 ⟨a_r1,cap_r1⟩ hst
  subst hst;refine k_norm (L':=[(7,.v (.slice a_r1 l2.length cap_r1))]) (ms':=[row a_r1 cap_r1 3 1 D.i64 l2]) rfl rfl ?_;refine zq5 ?_;refine g_conv (peekE (i:=6) 0 rfl rfl rfl).refines ?_
  cases hm1;exact g_ret zr1
noncomputable def m_rb_Leads_l2 (t1:ATy) (q1:RSeq) (i1:Int):Nat->Int->Option (Out ((List RSeq)×Bool) Unit)
 | 0,_=>none
 | n+1,k1 =>
  bif (decide (k1<(q1.r.length:Int))) then
   (idx q1.l i1).bind fun x15 =>
   (idx t1.l x15).bind fun x16 =>
   (idx q1.r k1).bind fun x17 =>
   (idx t1.l x17).bind fun x18 =>
   bif (((decide (x16.kind=11))&&(decide (x18.kind=11)))&&(decide (x16.a=x18.a))) then
    some (Out.ret ([],true))
   else
    grd (InR (k1+1)) <|
    m_rb_Leads_l2 t1 q1 i1 n (k1+1)
  else
   some (Out.go (()))
noncomputable def m_rb_Leads_l1 (t1:ATy) (q1:RSeq):Nat->Int->Option (Out ((List RSeq)×Bool) Unit)
 | 0,_=>none
 | n+1,i1 =>
  bif (decide (i1<(q1.l.length:Int))) then
   ((m_rb_Leads_l2 t1 q1 i1 FU 0:Option (Out ((List RSeq)×Bool) Unit))).bind (fun oo=>oo.on (fun r1=>some (Out.ret r1)) (fun _ =>
   grd (InR (i1+1)) <|
   m_rb_Leads_l1 t1 q1 n (i1+1)))
  else
   some (Out.go (()))
noncomputable def m_rb_Leads_l3 (t1:ATy) (q1:RSeq):Nat->(Int×(List Int))->Option (List Int)
 | 0,_=>none
 | n+1,(i2,l2) =>
  bif (decide (i2<=8)) then
   (m_rb_find t1 q1.l i2).bind fun x19 =>
   bif (decide (0<=x19)) then
    grd ((l2.length+([i2]:List _).length)*8<=140737488355328) <|
    grd (InR (i2+1)) <|
    m_rb_Leads_l3 t1 q1 n ((i2+1),(l2++[i2]))
   else
    grd (InR (i2+1)) <|
    m_rb_Leads_l3 t1 q1 n ((i2+1),l2)
  else
   some l2
noncomputable def m_rb_Leads (t1:ATy) (q1:RSeq):Option ((List RSeq)×Bool):=
 (m_rb_find t1 q1.l 2).bind fun x1 =>
 (bif (decide (0<=x1)) then (some true) else ((m_rb_find t1 q1.r 1).bind fun x2 =>
 some (decide (0<=x2)))).bind fun p1 =>
 bif p1 then
  some ([],true)
 else
  (m_rb_first t1 q1.l 9 10).bind fun x3 =>
  bif (decide (0<=x3)) then
   (idx q1.l x3).bind fun x4 =>
   (idx t1.l x4).bind fun x5 =>
   bif (decide (x5.kind=10)) then
    (m_rb_swap q1.l x3 [x5.a,x5.b]).bind fun x6 =>
    some ([(⟨x6,q1.r⟩:RSeq)],true)
   else
    (m_rb_swap q1.l x3 [x5.a]).bind fun x7 =>
    (m_rb_swap q1.l x3 [x5.b]).bind fun x8 =>
    some ([(⟨x7,q1.r⟩:RSeq),(⟨x8,q1.r⟩:RSeq)],true)
  else
   (m_rb_first t1 q1.r 9 10).bind fun x9 =>
   bif (decide (0<=x9)) then
    (idx q1.r x9).bind fun x10 =>
    (idx t1.l x10).bind fun x11 =>
    bif (decide (x11.kind=9)) then
     (m_rb_swap q1.r x9 [x11.a,x11.b]).bind fun x12 =>
     some ([(⟨q1.l,x12⟩:RSeq)],true)
    else
     (m_rb_swap q1.r x9 [x11.a]).bind fun x13 =>
     (m_rb_swap q1.r x9 [x11.b]).bind fun x14 =>
     some ([(⟨q1.l,x13⟩:RSeq),(⟨q1.l,x14⟩:RSeq)],true)
   else
    ((m_rb_Leads_l1 t1 q1 FU 0:Option (Out ((List RSeq)×Bool) Unit))).bind (fun oo=>oo.on (fun r2=>some r2) (fun _ =>
    (m_rb_Leads_l3 t1 q1 FU (3,[]):Option (List Int)).bind fun l1 =>
    bif (decide ((l1.length:Int)=0)) then
     some ([],false)
    else
     bif (decide (1<(l1.length:Int))) then
      some ([],true)
     else
      (idx l1 0).bind fun x20 =>
      (idx l1 0).bind fun x21 =>
      (m_rb_of t1 q1.l x21).bind fun x22 =>
      (idx l1 0).bind fun x23 =>
      (m_rb_of t1 q1.r x23).bind fun x24 =>
      (m_rb_heads t1 x20 x22 x24).bind fun (x25,x26) =>
      some (x25,x26)))
theorem w_rb_Leads {t1:ATy} {q1:RSeq} {r_1:(List RSeq)} {r_2:Bool} (hm:m_rb_Leads t1 q1=some (r_1,r_2)):Fn0 Tryz.prog 62 [ATy.d t1,RSeq.d q1] (.tup [.list 2 RSeq.d r_1,.bool r_2]):=by
 unfold m_rb_Leads at hm;refine fn_intro func62 rfl ntmps62 rfl fun H0 fr w0=>?_;refine zq5 ?_;refine go_conv (nilE (i:=4) (sz:=2) (f:=RSeq.d) rfl).refines ?_;refine zq8 ?_;obtain ⟨x1,hx1,hm⟩:=bS hm;refine zc0 (w_rb_find hx1) ?_;refine zq2 ?_;obtain ⟨p1,hp_1,hm⟩:=bS hm;refine go_two [(2,_),(3,_)] 6 27 p1 (t:=21) ⟨rfl,rfl,trivial⟩ rfl (fun hg_1 hk1=>?_) (fun hg_1 hk1=>?_) ?_
 ·replace hp_1:=cond_t hg_1 hp_1
  refine zq6 ?_;exact zgb hk1 hp_1
 ·replace hp_1:=cond_f hg_1 hp_1
  refine zq3 ?_;obtain ⟨x2,hx2,hp_1⟩:=bS hp_1;refine zcw (w_rb_find hx2) ?_;refine zq2 ?_;exact zgb hk1 hp_1
 refine gNl ?_;refine zcn hm (fun hc1 hm=>?_) (fun hc1 hm=>?_)
 ·refine zq3 ?_
  refine go_conv (nilE (i:=4) (sz:=2) (f:=RSeq.d) rfl).refines ?_;refine zq2 ?_
  cases hm;exact g_ret zr2
 ·refine zq7 ?_
  obtain ⟨x3,hx3,hm⟩:=bS hm;refine zc0 (w_rb_first hx3) ?_;refine zq7 ?_;refine zcn hm (fun hc2 hm=>?_) (fun hc2 hm=>?_)
  ·refine g_seq ?_
   obtain ⟨x4,hx4,hm⟩:=bS hm;obtain ⟨x5,hx5,hm⟩:=bS hm;refine g_draw_f 10 [9] Tryz_mixed (by decide +kernel) (by decide +kernel) rfl (by decide +kernel) ?_;refine gdf_p rfl rfl rfl rfl (oFa fi_24_0 rfl rfl rfl) ?_;refine gdf_p rfl rfl rfl rfl (o_load isAgg22 rfl rfl) ?_;refine gdf_p rfl rfl rfl rfl (oFa fi_80_0 rfl rfl rfl) ?_;refine gdf_p rfl rfl rfl rfl (o_load isAgg25 rfl rfl) ?_;refine gdf_p rfl rfl rfl rfl (oMv rfl) ?_;refine gdf_p rfl rfl rfl rfl (oIm runUnderlying25 sizeOf3 rfl rfl hx4) ?_;refine gdf_p rfl rfl rfl rfl (o_load isAgg3 rfl rfl) ?_;refine gdf_p rfl rfl rfl rfl (oIm runUnderlying22 sizeOf44 rfl rfl hx5) ?_;refine gdf_p rfl rfl rfl rfl (o_load_agg isAgg44 sizeOf44 rfl rfl) ?_;refine gdf_fresh (R:=fun d A=>∃ b,d = .v (.pointer (some ⟨b,0,none⟩))/\A=box b 44 [.i64 0,.i64 0,.i64 0,.list 2 AFd.d []]) rfl rfl rfl (OpT.mono (o_alloc_own zeroValue44 (cs:=[.i64 0,.i64 0,.i64 0,.list 2 AFd.d []]) rfl) (by rintro d ms' ⟨b,rfl,rfl⟩;exact ⟨_,⟨b,rfl,rfl⟩,rfl⟩)) ?_;refine gdf_nil ?_;rintro _ _ ⟨b1,rfl,rfl⟩;refine zst 0 ?_;refine go_ms (ms':=[box b1 44 [_,_,_,_]]) rfl ?_;refine zq8 ?_;refine zcn hm (fun hc3 hm=>?_) (fun hc3 hm=>?_)
   ·refine g_seq ?_
    obtain ⟨x6,hx6,hm⟩:=bS hm;refine zdr 15 ?_;refine zq7 ?_;refine gd_p rfl rfl rfl (zs2 D.i64) ?_;refine zcd (w_rb_swap hx6) ?_;refine zq2 ?_;refine gd_p rfl rfl rfl zb80b ?_;refine gd_p rfl rfl rfl (o_buildSlice (xs:=[_]) (f:=RSeq.d) (l:=[(⟨x6,q1.r⟩:RSeq)]) runUnderlying81 sizeOf80 zeroValue80 rfl rfl rfl (fun _=>⟨rfl,rfl,rfl⟩) rfl) ?_;refine zq4 ?_
    cases hm;exact g_ret zr2
   ·refine zq2 ?_
    obtain ⟨x7,hx7,hm⟩:=bS hm;obtain ⟨x8,hx8,hm⟩:=bS hm;refine zdr 23 ?_;refine zq5 ?_;refine gd_p rfl rfl rfl (zs1 D.i64) ?_;refine zcd (w_rb_swap hx7) ?_;refine zq2 ?_;refine gd_p rfl rfl rfl zb80b ?_;refine zq5 ?_;refine gd_p rfl rfl rfl (zs1 D.i64) ?_;refine zcd (w_rb_swap hx8) ?_;refine zq2 ?_;refine gd_p rfl rfl rfl zb80b ?_;refine gd_p rfl rfl rfl (o_buildSlice (xs:=[_,_]) (f:=RSeq.d) (l:=[(⟨x7,q1.r⟩:RSeq),(⟨x8,q1.r⟩:RSeq)]) runUnderlying81 sizeOf80 zeroValue80 rfl rfl rfl (fun _=>⟨rfl,rfl,rfl⟩) rfl) ?_;refine zq4 ?_
    cases hm;exact g_ret zr2
  ·refine zq7 ?_
   obtain ⟨x9,hx9,hm⟩:=bS hm;refine zc0 (w_rb_first hx9) ?_;refine zq7 ?_;refine zcn hm (fun hc4 hm=>?_) (fun hc4 hm=>?_)
   ·refine g_seq ?_
    obtain ⟨x10,hx10,hm⟩:=bS hm;obtain ⟨x11,hx11,hm⟩:=bS hm;refine g_draw_f 10 [9] Tryz_mixed (by decide +kernel) (by decide +kernel) rfl (by decide +kernel) ?_;refine gdf_p rfl rfl rfl rfl (oFa fi_24_0 rfl rfl rfl) ?_;refine gdf_p rfl rfl rfl rfl (o_load isAgg22 rfl rfl) ?_;refine gdf_p rfl rfl rfl rfl (oFa fi_80_1 rfl rfl rfl) ?_;refine gdf_p rfl rfl rfl rfl (o_load isAgg25 rfl rfl) ?_;refine gdf_p rfl rfl rfl rfl (oMv rfl) ?_;refine gdf_p rfl rfl rfl rfl (oIm runUnderlying25 sizeOf3 rfl rfl hx10) ?_;refine gdf_p rfl rfl rfl rfl (o_load isAgg3 rfl rfl) ?_;refine gdf_p rfl rfl rfl rfl (oIm runUnderlying22 sizeOf44 rfl rfl hx11) ?_;refine gdf_p rfl rfl rfl rfl (o_load_agg isAgg44 sizeOf44 rfl rfl) ?_;refine gdf_fresh (R:=fun d A=>∃ b,d = .v (.pointer (some ⟨b,0,none⟩))/\A=box b 44 [.i64 0,.i64 0,.i64 0,.list 2 AFd.d []]) rfl rfl rfl (OpT.mono (o_alloc_own zeroValue44 (cs:=[.i64 0,.i64 0,.i64 0,.list 2 AFd.d []]) rfl) (by rintro d ms' ⟨b,rfl,rfl⟩;exact ⟨_,⟨b,rfl,rfl⟩,rfl⟩)) ?_;refine gdf_nil ?_;rintro _ _ ⟨b2,rfl,rfl⟩;refine zst 0 ?_;refine go_ms (ms':=[box b2 44 [_,_,_,_]]) rfl ?_;refine zq8 ?_;refine zcn hm (fun hc5 hm=>?_) (fun hc5 hm=>?_)
    ·refine g_seq ?_
     obtain ⟨x12,hx12,hm⟩:=bS hm;refine zdr 15 ?_;refine zq9 ?_;refine gd_p rfl rfl rfl (zs2 D.i64) ?_;refine zcd (w_rb_swap hx12) ?_;refine gd_p rfl rfl rfl zb80b ?_;refine gd_p rfl rfl rfl (o_buildSlice (xs:=[_]) (f:=RSeq.d) (l:=[(⟨q1.l,x12⟩:RSeq)]) runUnderlying81 sizeOf80 zeroValue80 rfl rfl rfl (fun _=>⟨rfl,rfl,rfl⟩) rfl) ?_;refine zq4 ?_
     cases hm;exact g_ret zr2
    ·refine zq2 ?_
     obtain ⟨x13,hx13,hm⟩:=bS hm;obtain ⟨x14,hx14,hm⟩:=bS hm;refine zdr 23 ?_;refine zq7 ?_;refine gd_p rfl rfl rfl (zs1 D.i64) ?_;refine zcd (w_rb_swap hx13) ?_;refine gd_p rfl rfl rfl zb80b ?_;refine zq7 ?_;refine gd_p rfl rfl rfl (zs1 D.i64) ?_;refine zcd (w_rb_swap hx14) ?_;refine gd_p rfl rfl rfl zb80b ?_;refine gd_p rfl rfl rfl (o_buildSlice (xs:=[_,_]) (f:=RSeq.d) (l:=[(⟨q1.l,x13⟩:RSeq),(⟨q1.l,x14⟩:RSeq)]) runUnderlying81 sizeOf80 zeroValue80 rfl rfl rfl (fun _=>⟨rfl,rfl,rfl⟩) rfl) ?_;refine zq4 ?_
     cases hm;exact g_ret zr2
   ·refine zq6 ?_
    obtain ⟨o_1,hj1,hm1⟩:=bS hm;refine g_cut_m [(2,_),(3,_)] [] (fun (st:Unit) (hid:Unit)=>match st,hid with | _,_=>[]) (fun F (st:Unit) (hid:Unit)=>match st,hid with | _,_=>[]) (fun st=>Out.go (st)=o_1) ⟨rfl,rfl,trivial⟩ trivial ?_ ?_
    ·refine g_block ?_
     refine g_loop_m [(2,_),(3,_)] [] (fun (st:Int) (hid:Unit)=>match st,hid with | i1,_=>[(10,.i64 i1)]) (fun F (st:Int) (hid:Unit)=>match st,hid with | i1,_=>[]) () hj1 (fun _=>rfl) ⟨rfl,rfl,trivial⟩ trivial ⟨rfl,trivial⟩ rfl ?_;rintro n i1 _ hj1;rw [m_rb_Leads_l1] at hj1;refine g_norm (L':=[(10,.i64 i1),(2,_),(3,_)]) (ms':=[]) rfl rfl ?_;refine zq9 ?_;refine zcn hj1 (fun hc6 hj1=>?_) (fun hc6 hj1=>?_)
     ·refine zq7 ?_
      obtain ⟨o_2,hj2,hm2⟩:=bS hj1;refine g_cut_m [(2,_),(3,_),(10,_)] [] (fun (st:Unit) (hid:Unit)=>match st,hid with | _,_=>[]) (fun F (st:Unit) (hid:Unit)=>match st,hid with | _,_=>[]) (fun st=>Out.go (st)=o_2) ⟨rfl,rfl,rfl,trivial⟩ trivial ?_ ?_
      ·refine g_block ?_
       refine g_loop_m [(2,_),(3,_),(10,_)] [] (fun (st:Int) (hid:Unit)=>match st,hid with | k1,_=>[(11,.i64 k1)]) (fun F (st:Int) (hid:Unit)=>match st,hid with | k1,_=>[]) () hj2 (fun _=>rfl) ⟨rfl,rfl,rfl,trivial⟩ trivial ⟨rfl,trivial⟩ rfl ?_;rintro n k1 _ hj2;rw [m_rb_Leads_l2] at hj2;refine g_norm (L':=[(11,.i64 k1),(2,_),(3,_),(10,_)]) (ms':=[]) rfl rfl ?_;refine zq9 ?_;refine zcn hj2 (fun hc7 hj2=>?_) (fun hc7 hj2=>?_)
       ·refine zq4 ?_
        obtain ⟨x15,hx15,hj2⟩:=bS hj2;obtain ⟨x16,hx16,hj2⟩:=bS hj2;obtain ⟨x17,hx17,hj2⟩:=bS hj2;obtain ⟨x18,hx18,hj2⟩:=bS hj2;refine g_draw_x [] [20,21] [9,10,11,12,13,14,15,16,17] [18,19] [] Tryz_mixed (by decide +kernel) (by decide +kernel) rfl ?_;refine gdx_p rfl rfl rfl rfl rfl rfl (oFa fi_24_0 rfl rfl rfl) ?_;refine gdx_p rfl rfl rfl rfl rfl rfl (o_load isAgg22 rfl rfl) ?_;refine gdx_p rfl rfl rfl rfl rfl rfl (oFa fi_80_0 rfl rfl rfl) ?_;refine gdx_p rfl rfl rfl rfl rfl rfl (o_load isAgg25 rfl rfl) ?_;refine gdx_p rfl rfl rfl rfl rfl rfl (oMv rfl) ?_;refine gdx_p rfl rfl rfl rfl rfl rfl (oIm runUnderlying25 sizeOf3 rfl rfl hx15) ?_;refine gdx_p rfl rfl rfl rfl rfl rfl (o_load isAgg3 rfl rfl) ?_;refine gdx_p rfl rfl rfl rfl rfl rfl (oIm runUnderlying22 sizeOf44 rfl rfl hx16) ?_;refine gdx_p rfl rfl rfl rfl rfl rfl (o_load_agg isAgg44 sizeOf44 rfl rfl) ?_;refine gdx_p rfl rfl rfl rfl rfl rfl (oFa fi_24_0 rfl rfl rfl) ?_;refine gdx_p rfl rfl rfl rfl rfl rfl (o_load isAgg22 rfl rfl) ?_;refine gdx_p rfl rfl rfl rfl rfl rfl (oFa fi_80_1 rfl rfl rfl) ?_;refine gdx_p rfl rfl rfl rfl rfl rfl (o_load isAgg25 rfl rfl) ?_;refine gdx_p rfl rfl rfl rfl rfl rfl (oMv rfl) ?_;refine gdx_p rfl rfl rfl rfl rfl rfl (oIm runUnderlying25 sizeOf3 rfl rfl hx17) ?_;refine gdx_p rfl rfl rfl rfl rfl rfl (o_load isAgg3 rfl rfl) ?_;refine gdx_p rfl rfl rfl rfl rfl rfl (oIm runUnderlying22 sizeOf44 rfl rfl hx18) ?_;refine gdx_p rfl rfl rfl rfl rfl rfl (o_load_agg isAgg44 sizeOf44 rfl rfl) ?_;refine gdx_fresh (R0:=fun d A=>∃ b,d = .v (.pointer (some ⟨b,0,none⟩))/\A=box b 44 [.i64 0,.i64 0,.i64 0,.list 2 AFd.d []]) rfl rfl rfl rfl (OpT.mono (o_alloc_own zeroValue44 (cs:=[.i64 0,.i64 0,.i64 0,.list 2 AFd.d []]) rfl) (by rintro d ms' ⟨b,rfl,rfl⟩;exact ⟨_,⟨b,rfl,rfl⟩,rfl⟩)) ?_;refine gdx_fresh (R0:=fun d A=>∃ b,d = .v (.pointer (some ⟨b,0,none⟩))/\A=box b 44 [.i64 0,.i64 0,.i64 0,.list 2 AFd.d []]) rfl rfl rfl rfl (OpT.mono (o_alloc_own zeroValue44 (cs:=[.i64 0,.i64 0,.i64 0,.list 2 AFd.d []]) rfl) (by rintro d ms' ⟨b,rfl,rfl⟩;exact ⟨_,⟨b,rfl,rfl⟩,rfl⟩)) ?_;refine gdx_e rfl ?_;refine gdx_e rfl ?_;refine gdx_nil ?_;refine gf_nil [(18,12),(19,13)] rfl ?_;rintro _ _ ⟨b3,rfl,rfl⟩;rintro _ _ ⟨b4,rfl,rfl⟩
        show _/\_
        refine ⟨(trivial:True),?_⟩;refine gde2_u rfl rfl rfl (oSb 0 sizeOf44 rfl rfl rfl rfl rfl rfl rfl rfl (nB rfl)) ?_;rintro _ _ rfl;refine ⟨(trivial:True),?_⟩;refine gde2_u rfl rfl rfl (oSb 1 sizeOf44 rfl rfl rfl rfl rfl rfl rfl rfl (nB rfl)) ?_;rintro _ _ rfl;refine ⟨(trivial:True),?_⟩;refine gde2_nil ?_;refine zq6 ?_
        apply go_and [(2,_),(3,_),(10,_),(11,_),(12,_),(13,_)] 4 171 (t:=167) ⟨rfl,rfl,rfl,rfl,rfl,rfl,trivial⟩ rfl
        ·intro hg_2 hk2
         refine zq4 ?_;exact zgm hk2
        ·intro hg_2 hk2
         refine zq4 ?_;exact zgm hk2
        refine zq1 ?_
        apply go_and [(2,_),(3,_),(10,_),(11,_)] 6 178 (t:=172) ⟨rfl,rfl,rfl,rfl,trivial⟩ rfl
        ·intro hg_3 hk3
         refine zq6 ?_;exact zgm hk3
        ·intro hg_3 hk3
         refine zq6 ?_;exact zgm hk3
        refine gNl ?_;refine zcn hj2 (fun hc8 hj2=>?_) (fun hc8 hj2=>?_)
        ·refine zq3 ?_
         refine go_conv (nilE (i:=4) (sz:=2) (f:=RSeq.d) rfl).refines ?_;refine zq2 ?_;refine g_ret ?_;obtain rfl:=some_eq hj2
         replace hm2:=on_ret hm2
         obtain rfl:=some_eq hm2
         replace hm1:=on_ret hm1
         cases hm1;exact zr2
        ·refine zq3 ?_
         obtain ⟨hg19,hj2⟩:=grd_some hj2;refine zq3 ?_;exact ⟨_,(),hj2,⟨rfl,trivial⟩,⟨rfl,rfl,rfl,trivial⟩,[_,_],rfl⟩
       ·refine g_exit ?_
        exact ⟨_,(),some_eq hj2,trivial,⟨rfl,rfl,rfl,trivial⟩,[],rfl⟩
      ·rintro _ _ hst
       subst hst
       replace hm2:=on_go hm2
       refine k_norm (L':=[(2,_),(3,_),(10,_)]) (ms':=[]) rfl rfl ?_;refine zq2 ?_;obtain ⟨hg20,hm2⟩:=grd_some hm2;refine zq3 ?_;exact ⟨_,(),hm2,⟨rfl,trivial⟩,⟨rfl,rfl,trivial⟩,[],rfl⟩
     ·refine g_exit ?_
      exact ⟨_,(),some_eq hj1,trivial,⟨rfl,rfl,trivial⟩,[],rfl⟩
    ·rintro _ _ hst
     subst hst
     replace hm1:=on_go hm1
     refine k_norm (L':=[(2,_),(3,_)]) (ms':=[]) rfl rfl ?_;refine zq2 ?_;refine go_op rfl rfl rfl (o_buildSlice_row (xs:=[]) (f:=D.i64) (l:=[]) runUnderlying25 sizeOf3 zeroValue3 rfl rfl rfl (fun _=>⟨rfl,rfl,rfl⟩) rfl (by simp [maxLen])) ?_;rintro _ _ ⟨a_r1,rfl,rfl⟩;refine zq7 ?_;obtain ⟨o_3,hj3,hm3⟩:=bS hm1;refine g_cut_m [(2,_),(3,_)] [] (fun (st:(List Int)) (hid:(Option Addr×Nat))=>match st,hid with | l1,(a_r1,cap_r1)=>[(14,.v (.slice a_r1 l1.length cap_r1))]) (fun F (st:(List Int)) (hid:(Option Addr×Nat))=>match st,hid with | l1,(a_r1,cap_r1)=>[row a_r1 cap_r1 3 1 D.i64 l1]) (fun st=>st=o_3) ⟨rfl,rfl,trivial⟩ trivial ?_ ?_
     ·refine g_block ?_
      refine g_loop_m [(2,_),(3,_)] [] (fun (st:(Int×(List Int))) (hid:(Option Addr×Nat))=>match st,hid with | (i2,l2),(a_r1,cap_r1)=>[(14,.v (.slice a_r1 l2.length cap_r1)),(15,.i64 i2)]) (fun F (st:(Int×(List Int))) (hid:(Option Addr×Nat))=>match st,hid with | (i2,l2),(a_r1,cap_r1)=>[row a_r1 cap_r1 3 1 D.i64 l2]) (_,_) hj3 (fun _=>rfl) ⟨rfl,rfl,trivial⟩ trivial ⟨rfl,rfl,trivial⟩ rfl ?_;rintro n ⟨i2,l2⟩ ⟨a_r1,cap_r1⟩ hj3;rw [m_rb_Leads_l3] at hj3;refine g_norm (L':=[(14,.v (.slice a_r1 l2.length cap_r1)),(15,.i64 i2),(2,_),(3,_)]) (ms':=[row a_r1 cap_r1 3 1 D.i64 l2]) rfl rfl ?_;refine zq6 ?_;refine zcn hj3 (fun hc9 hj3=>?_) (fun hc9 hj3=>?_)
      ·refine zq9 ?_
       obtain ⟨x19,hx21,hj3⟩:=bS hj3;refine zc0 (w_rb_find hx21) ?_;refine zq2 ?_;refine zcn hj3 (fun hc10 hj3=>?_) (fun hc10 hj3=>?_)
       ·refine zq3 ?_
        refine go_p rfl rfl rfl (zs1 D.i64) ?_;obtain ⟨hg22,hj3⟩:=grd_some hj3;refine zap 0 hg22 fun a_r1 cap_r1=>?_;refine go_ms (ms':=[_]) rfl ?_;refine zq4 ?_;obtain ⟨hg23,hj3⟩:=grd_some hj3;refine zq3 ?_;exact ⟨_,(_,_),hj3,⟨rfl,rfl,trivial⟩,⟨rfl,rfl,trivial⟩,[],rfl⟩
       ·refine zq3 ?_
        obtain ⟨hg24,hj3⟩:=grd_some hj3;refine zq3 ?_;exact ⟨_,(_,_),hj3,⟨rfl,rfl,trivial⟩,⟨rfl,rfl,trivial⟩,[],rfl⟩
      ·refine g_exit ?_
       exact ⟨_,(_,_),some_eq hj3,⟨rfl,trivial⟩,⟨rfl,rfl,trivial⟩,[],rfl⟩
     ·rintro l1 ⟨a_r1,cap_r1⟩ hst
      subst hst;refine k_norm (L':=[(14,.v (.slice a_r1 l1.length cap_r1)),(2,_),(3,_)]) (ms':=[row a_r1 cap_r1 3 1 D.i64 l1]) rfl rfl ?_;refine zq4 ?_;refine go_p rfl rfl rfl (.view (peekE (i:=194) 0 rfl rfl rfl) (o_len runUnderlying25 rfl)) ?_;refine zq2 ?_;refine zcn hm3 (fun hc11 hm3=>?_) (fun hc11 hm3=>?_)
      ·refine zq3 ?_
       refine go_conv (nilE (i:=4) (sz:=2) (f:=RSeq.d) rfl).refines ?_;refine zq2 ?_
       cases hm3;exact g_ret zr2
      ·refine zq5 ?_
       refine go_p rfl rfl rfl (.view (peekE (i:=197) 0 rfl rfl rfl) (o_len runUnderlying25 rfl)) ?_;refine zq2 ?_;refine zcn hm3 (fun hc12 hm3=>?_) (fun hc12 hm3=>?_)
       ·refine zq3 ?_
        refine go_conv (nilE (i:=4) (sz:=2) (f:=RSeq.d) rfl).refines ?_;refine zq2 ?_
        cases hm3;exact g_ret zr2
       ·refine zq2 ?_
        obtain ⟨x20,hx25,hm3⟩:=bS hm3;obtain ⟨x21,hx26,hm3⟩:=bS hm3;obtain ⟨x22,hx27,hm3⟩:=bS hm3;obtain ⟨x23,hx28,hm3⟩:=bS hm3;obtain ⟨x24,hx29,hm3⟩:=bS hm3;obtain ⟨⟨x25,x26⟩,hx30,hm3⟩:=bS hm3;refine zdr 23 ?_;refine zq2 ?_;refine gd_p rfl rfl rfl (.view (peekE (i:=201) 0 rfl rfl rfl) (oIm runUnderlying25 sizeOf3 rfl rfl hx25)) ?_;refine zq5 ?_;refine gd_p rfl rfl rfl (.view (peekE (i:=207) 0 rfl rfl rfl) (oIm runUnderlying25 sizeOf3 rfl rfl hx26)) ?_;refine zq1 ?_;refine zcd (w_rb_of hx27) ?_;refine zq4 ?_;refine gd_p rfl rfl rfl (.view (peekE (i:=214) 0 rfl rfl rfl) (oIm runUnderlying25 sizeOf3 rfl rfl hx28)) ?_;refine zq1 ?_;refine zcd (w_rb_of hx29) ?_;refine zcd (w_rb_heads hx30) ?_;refine zq6 ?_
        cases hm3;exact g_ret zr2
noncomputable def m_ba_SameInts_l1 (a1:(List Int)) (bv1:(List Int)):Nat->Int->Option (Out Bool Unit)
 | 0,_=>none
 | n+1,i1 =>
  bif (decide (i1<(a1.length:Int))) then
   (idx a1 i1).bind fun x1 =>
   (idx bv1 i1).bind fun x2 =>
   bif (!decide (x1=x2)) then
    some (Out.ret false)
   else
    grd (InR (i1+1)) <|
    m_ba_SameInts_l1 a1 bv1 n (i1+1)
  else
   some (Out.go (()))
noncomputable def m_ba_SameInts (a1:(List Int)) (bv1:(List Int)):Option Bool:=
 bif (!decide ((a1.length:Int)=(bv1.length:Int))) then
  some false
 else
  ((m_ba_SameInts_l1 a1 bv1 FU 0:Option (Out Bool Unit))).bind (fun oo=>oo.on (fun r1=>some r1) (fun _ =>
  some true))
theorem w_ba_SameInts {a1:(List Int)} {bv1:(List Int)} {r_1:Bool} (hm:m_ba_SameInts a1 bv1=some r_1):Fn0 Tryz.prog 24 [.list 1 D.i64 a1,.list 1 D.i64 bv1] (.bool r_1):=by
 unfold m_ba_SameInts at hm;refine fn_intro func24 rfl ntmps24 rfl fun H0 fr w0=>?_;refine zq13 ?_;refine zcn hm (fun hc1 hm=>?_) (fun hc1 hm=>?_)
 ·refine zq4 ?_
  cases hm;exact g_ret zr1
 ·refine zq6 ?_
  obtain ⟨o_1,hj1,hm1⟩:=bS hm;refine g_cut_m [] [] (fun (st:Unit) (hid:Unit)=>match st,hid with | _,_=>[]) (fun F (st:Unit) (hid:Unit)=>match st,hid with | _,_=>[]) (fun st=>Out.go (st)=o_1) trivial trivial ?_ ?_
  ·refine g_block ?_
   refine g_loop_m [(0,_),(1,_)] [] (fun (st:Int) (hid:Unit)=>match st,hid with | i1,_=>[(5,.i64 i1)]) (fun F (st:Int) (hid:Unit)=>match st,hid with | i1,_=>[]) () hj1 (fun _=>rfl) ⟨rfl,rfl,trivial⟩ trivial ⟨rfl,trivial⟩ rfl ?_;rintro n i1 _ hj1;rw [m_ba_SameInts_l1] at hj1;refine g_norm (L':=[(5,.i64 i1),(0,_),(1,_)]) (ms':=[]) rfl rfl ?_;refine zq8 ?_;refine zcn hj1 (fun hc2 hj1=>?_) (fun hc2 hj1=>?_)
   ·refine zq4 ?_
    obtain ⟨x1,hx1,hj1⟩:=bS hj1;obtain ⟨x2,hx2,hj1⟩:=bS hj1;refine zdr 9 ?_;refine zq11 ?_;refine zcn hj1 (fun hc3 hj1=>?_) (fun hc3 hj1=>?_)
    ·refine zq4 ?_
     refine g_ret ?_;obtain rfl:=some_eq hj1
     replace hm1:=on_ret hm1
     cases hm1;exact zr1
    ·refine zq3 ?_
     obtain ⟨hg3,hj1⟩:=grd_some hj1;refine zq3 ?_;exact ⟨_,(),hj1,⟨rfl,trivial⟩,⟨rfl,rfl,trivial⟩,[],rfl⟩
   ·refine g_exit ?_
    exact ⟨_,(),some_eq hj1,trivial,trivial,[],rfl⟩
  ·rintro _ _ hst
   subst hst
   replace hm1:=on_go hm1
   refine k_norm (L':=[]) (ms':=[]) rfl rfl ?_;refine zq4 ?_
   cases hm1;exact g_ret zr1
noncomputable def m_rb_Same (a1:RSeq) (bv1:RSeq):Option Bool:=
 (m_ba_SameInts a1.l bv1.l).bind fun x1 =>
 (bif x1 then ((m_ba_SameInts a1.r bv1.r).bind fun x2 =>
 some x2) else (some false)).bind fun p1 =>
 some p1
theorem w_rb_Same {a1:RSeq} {bv1:RSeq} {r_1:Bool} (hm:m_rb_Same a1 bv1=some r_1):Fn0 Tryz.prog 63 [RSeq.d a1,RSeq.d bv1] (.bool r_1):=by
 unfold m_rb_Same at hm;refine fn_intro func63 rfl ntmps63 rfl fun H0 fr w0=>?_;refine zq12 ?_;obtain ⟨x1,hx1,hm⟩:=bS hm;refine zc0 (w_ba_SameInts hx1) ?_;refine zq1 ?_;obtain ⟨p1,hp_1,hm⟩:=bS hm;refine go_two [] 6 16 p1 (t:=10) trivial rfl (fun hg_1 hk1=>?_) (fun hg_1 hk1=>?_) ?_
 ·replace hp_1:=cond_t hg_1 hp_1
  refine zq4 ?_;obtain ⟨x2,hx2,hp_1⟩:=bS hp_1;refine zcw (w_ba_SameInts hx2) ?_;refine zq1 ?_;exact zgb hk1 hp_1
 ·replace hp_1:=cond_f hg_1 hp_1
  refine zq6 ?_;exact zgb hk1 hp_1
 refine zq2 ?_
 cases hm;exact g_ret zr1
noncomputable def m_rb_Holds_l3 (x4:(List RSeq)) (k1:Int) (l4:(List RSeq)):Nat->(Bool×Int)->Option Bool
 | 0,_=>none
 | n+1,(is2,j1) =>
  bif ((decide (j1<(l4.length:Int)))&&(!is2)) then
   (idx l4 j1).bind fun x6 =>
   (idx x4 k1).bind fun x7 =>
   (m_rb_Same x6 x7).bind fun x8 =>
   grd (InR (j1+1)) <|
   m_rb_Holds_l3 x4 k1 l4 n (x8,(j1+1))
  else
   some is2
noncomputable def m_rb_Holds_l2 (x4:(List RSeq)):Nat->(Int×(List RSeq))->Option (List RSeq)
 | 0,_=>none
 | n+1,(k1,l4) =>
  bif (decide (k1<(x4.length:Int))) then
   (m_rb_Holds_l3 x4 k1 l4 FU (false,0):Option Bool).bind fun is1 =>
   bif (!is1) then
    (idx x4 k1).bind fun x9 =>
    grd ((l4.length+([x9]:List _).length)*48<=140737488355328) <|
    grd (InR (k1+1)) <|
    m_rb_Holds_l2 x4 n ((k1+1),(l4++[x9]))
   else
    grd (InR (k1+1)) <|
    m_rb_Holds_l2 x4 n ((k1+1),l4)
  else
   some l4
noncomputable def m_rb_Holds_l1 (t1:ATy):Nat->(Int×(List RSeq))->Option (Out Bool (List RSeq))
 | 0,_=>none
 | n+1,(i1,l2) =>
  bif (decide (i1<(l2.length:Int))) then
   (idx l2 i1).bind fun x3 =>
   (m_rb_Leads t1 x3).bind fun (x4,x5) =>
   bif (!x5) then
    some (Out.ret false)
   else
    (m_rb_Holds_l2 x4 FU (0,l2):Option (List RSeq)).bind fun l3 =>
    grd (InR (i1+1)) <|
    m_rb_Holds_l1 t1 n ((i1+1),l3)
  else
   some (Out.go (l2))
noncomputable def m_rb_Holds (t1:ATy) (left1:(List Int)) (right1:(List Int)):Option Bool:=
 (m_rb_Set left1).bind fun x1 =>
 (m_rb_Set right1).bind fun x2 =>
 ((m_rb_Holds_l1 t1 FU (0,[(⟨x1,x2⟩:RSeq)]):Option (Out Bool (List RSeq)))).bind (fun oo=>oo.on (fun r1=>some r1) (fun l1 =>
 some true))
theorem w_rb_Holds {t1:ATy} {left1:(List Int)} {right1:(List Int)} {r_1:Bool} (hm:m_rb_Holds t1 left1 right1=some r_1):Fn0 Tryz.prog 18 [ATy.d t1,.list 1 D.i64 left1,.list 1 D.i64 right1] (.bool r_1):=by
 unfold m_rb_Holds at hm;refine fn_intro func18 rfl ntmps18 rfl fun H0 fr w0=>?_;refine zq8 ?_;obtain ⟨x1,hx1,hm⟩:=bS hm;refine zc0 (w_rb_Set hx1) ?_;refine zq1 ?_;obtain ⟨x2,hx2,hm⟩:=bS hm;refine zc0 (w_rb_Set hx2) ?_;refine go_p rfl rfl rfl zb80b ?_;refine go_op rfl rfl rfl (o_buildSlice_row (xs:=[_]) (f:=RSeq.d) (l:=[(⟨x1,x2⟩:RSeq)]) runUnderlying81 sizeOf80 zeroValue80 rfl rfl rfl (fun _=>⟨rfl,rfl,rfl⟩) rfl (by simp [maxLen])) ?_;rintro _ _ ⟨a_r1,rfl,rfl⟩;refine zq7 ?_;obtain ⟨o_1,hj1,hm1⟩:=bS hm;refine g_cut_m [] [] (fun (st:(List RSeq)) (hid:(Option Addr×Nat))=>match st,hid with | l1,(a_r1,cap_r1)=>[]) (fun F (st:(List RSeq)) (hid:(Option Addr×Nat))=>match st,hid with | l1,(a_r1,cap_r1)=>[row a_r1 cap_r1 80 2 RSeq.d l1]) (fun st=>Out.go (st)=o_1) trivial trivial ?_ ?_
 ·refine g_block ?_
  refine g_loop_m [(3,_)] [] (fun (st:(Int×(List RSeq))) (hid:(Option Addr×Nat))=>match st,hid with | (i1,l2),(a_r1,cap_r1)=>[(7,.v (.slice a_r1 l2.length cap_r1)),(8,.i64 i1)]) (fun F (st:(Int×(List RSeq))) (hid:(Option Addr×Nat))=>match st,hid with | (i1,l2),(a_r1,cap_r1)=>[row a_r1 cap_r1 80 2 RSeq.d l2]) (_,_) hj1 (fun _=>rfl) ⟨rfl,trivial⟩ trivial ⟨rfl,rfl,trivial⟩ rfl ?_;rintro n ⟨i1,l2⟩ ⟨a_r1,cap_r1⟩ hj1;rw [m_rb_Holds_l1] at hj1;refine g_norm (L':=[(7,.v (.slice a_r1 l2.length cap_r1)),(8,.i64 i1),(3,_)]) (ms':=[row a_r1 cap_r1 80 2 RSeq.d l2]) rfl rfl ?_;refine zq5 ?_;refine go_p rfl rfl rfl (.view (peekE (i:=21) 0 rfl rfl rfl) (o_len runUnderlying81 rfl)) ?_;refine zq2 ?_;refine zcn hj1 (fun hc1 hj1=>?_) (fun hc1 hj1=>?_)
  ·refine zq4 ?_
   obtain ⟨x3,hx3,hj1⟩:=bS hj1;obtain ⟨⟨x4,x5⟩,hx4,hj1⟩:=bS hj1;refine zdr 11 ?_;refine zq3 ?_;refine gd_p rfl rfl rfl (.view (peekE (i:=28) 0 rfl rfl rfl) (oIm runUnderlying81 sizeOf80 rfl rfl hx3)) ?_;refine zq1 ?_;refine zcd (w_rb_Leads hx4) ?_;refine zq13 ?_;refine zcn hj1 (fun hc2 hj1=>?_) (fun hc2 hj1=>?_)
   ·refine zq4 ?_
    refine g_ret ?_;obtain rfl:=some_eq hj1
    replace hm1:=on_ret hm1
    cases hm1;exact zr1
   ·refine zq5 ?_
    obtain ⟨o_2,hj2,hm2⟩:=bS hj1;refine g_cut_m [(3,_),(8,_)] [] (fun (st:(List RSeq)) (hid:(Option Addr×Nat))=>match st,hid with | l3,(a_r1,cap_r1)=>[(7,.v (.slice a_r1 l3.length cap_r1))]) (fun F (st:(List RSeq)) (hid:(Option Addr×Nat))=>match st,hid with | l3,(a_r1,cap_r1)=>[row a_r1 cap_r1 80 2 RSeq.d l3]) (fun st=>st=o_2) ⟨rfl,rfl,trivial⟩ trivial ?_ ?_
    ·refine g_block ?_
     refine g_loop_m [(3,_),(8,_),(9,_)] [] (fun (st:(Int×(List RSeq))) (hid:(Option Addr×Nat))=>match st,hid with | (k1,l4),(a_r1,cap_r1)=>[(7,.v (.slice a_r1 l4.length cap_r1)),(11,.i64 k1)]) (fun F (st:(Int×(List RSeq))) (hid:(Option Addr×Nat))=>match st,hid with | (k1,l4),(a_r1,cap_r1)=>[row a_r1 cap_r1 80 2 RSeq.d l4]) (_,_) hj2 (fun _=>rfl) ⟨rfl,rfl,rfl,trivial⟩ trivial ⟨rfl,rfl,trivial⟩ rfl ?_;rintro n ⟨k1,l4⟩ ⟨a_r1,cap_r1⟩ hj2;rw [m_rb_Holds_l2] at hj2;refine g_norm (L':=[(7,.v (.slice a_r1 l4.length cap_r1)),(11,.i64 k1),(3,_),(8,_),(9,_)]) (ms':=[row a_r1 cap_r1 80 2 RSeq.d l4]) rfl rfl ?_;refine zq8 ?_;refine zcn hj2 (fun hc3 hj2=>?_) (fun hc3 hj2=>?_)
     ·refine zq12 ?_
      obtain ⟨o_3,hj3,hm3⟩:=bS hj2;refine g_cut_m [(3,_),(7,_),(8,_),(9,_),(11,_)] [(0,_)] (fun (st:Bool) (hid:Unit)=>match st,hid with | is1,_=>[(12,.bool is1)]) (fun F (st:Bool) (hid:Unit)=>match st,hid with | is1,_=>[(nthF F 0)]) (fun st=>st=o_3) ⟨rfl,rfl,rfl,rfl,rfl,trivial⟩ ⟨rfl,trivial⟩ ?_ ?_
      ·refine g_block ?_
       refine g_loop_m [(3,_),(7,_),(8,_),(9,_),(11,_)] [(0,_)] (fun (st:(Bool×Int)) (hid:Unit)=>match st,hid with | (is2,j1),_=>[(12,.bool is2),(13,.i64 j1)]) (fun F (st:(Bool×Int)) (hid:Unit)=>match st,hid with | (is2,j1),_=>[(nthF F 0)]) () hj3 (fun _=>rfl) ⟨rfl,rfl,rfl,rfl,rfl,trivial⟩ ⟨rfl,trivial⟩ ⟨rfl,rfl,trivial⟩ rfl ?_;rintro n ⟨is2,j1⟩ _ hj3;rw [m_rb_Holds_l3] at hj3;refine g_norm (L':=[(12,.bool is2),(13,.i64 j1),(3,_),(7,_),(8,_),(9,_),(11,_)]) (ms':=[_]) rfl rfl ?_;refine zq5 ?_;refine go_p rfl rfl rfl (.view (peekE (i:=44) 0 rfl rfl rfl) (o_len runUnderlying81 rfl)) ?_;refine zq2 ?_
       apply go_and [(3,_),(7,_),(8,_),(9,_),(11,_),(12,_),(13,_)] 3 50 (t:=47) ⟨rfl,rfl,rfl,rfl,rfl,rfl,rfl,trivial⟩ rfl
       ·intro hg_1 hk1
        refine zq3 ?_;exact zgm hk1
       ·intro hg_1 hk1
        refine zq3 ?_;exact zgm hk1
       refine gNl ?_;refine zcn hj3 (fun hc4 hj3=>?_) (fun hc4 hj3=>?_)
       ·refine zq3 ?_
        obtain ⟨x6,hx5,hj3⟩:=bS hj3;obtain ⟨x7,hx6,hj3⟩:=bS hj3;obtain ⟨x8,hx7,hj3⟩:=bS hj3;refine zdr 10 ?_;refine zq2 ?_;refine gd_p rfl rfl rfl (.view (peekE (i:=53) 0 rfl rfl rfl) (oIm runUnderlying81 sizeOf80 rfl rfl hx5)) ?_;refine zq3 ?_;refine gd_p rfl rfl rfl (oIm runUnderlying81 sizeOf80 rfl rfl hx6) ?_;refine zq1 ?_;refine zcd (w_rb_Same hx7) ?_;refine zq5 ?_;obtain ⟨hg8,hj3⟩:=grd_some hj3;refine zq3 ?_;exact ⟨_,(),hj3,⟨rfl,rfl,trivial⟩,⟨rfl,rfl,rfl,rfl,rfl,trivial⟩,[],rfl⟩
       ·refine g_exit ?_
        exact ⟨_,(),some_eq hj3,⟨rfl,trivial⟩,⟨rfl,rfl,rfl,rfl,rfl,trivial⟩,[],rfl⟩
      ·rintro is1 _ hst
       subst hst;refine k_norm (L':=[(12,.bool is1),(3,_),(7,_),(8,_),(9,_),(11,_)]) (ms':=[_]) rfl rfl ?_;refine zq5 ?_;refine zcn hm3 (fun hc5 hm3=>?_) (fun hc5 hm3=>?_)
       ·refine zq4 ?_
        obtain ⟨x9,hx9,hm3⟩:=bS hm3;refine go_p rfl rfl rfl (oIm runUnderlying81 sizeOf80 rfl rfl hx9) ?_;refine zq1 ?_;refine go_p rfl rfl rfl (zs1 RSeq.d) ?_;obtain ⟨hg10,hm3⟩:=grd_some hm3;refine zap 0 hg10 fun a_r1 cap_r1=>?_;refine go_ms (ms':=[_]) rfl ?_;refine zq4 ?_;obtain ⟨hg11,hm3⟩:=grd_some hm3;refine zq3 ?_;exact ⟨_,(_,_),hm3,⟨rfl,rfl,trivial⟩,⟨rfl,rfl,rfl,trivial⟩,[],rfl⟩
       ·refine zq3 ?_
        obtain ⟨hg12,hm3⟩:=grd_some hm3;refine zq3 ?_;exact ⟨_,(_,_),hm3,⟨rfl,rfl,trivial⟩,⟨rfl,rfl,rfl,trivial⟩,[],rfl⟩
     ·refine g_exit ?_
      exact ⟨_,(_,_),some_eq hj2,⟨rfl,trivial⟩,⟨rfl,rfl,trivial⟩,[],rfl⟩
    ·rintro l3 ⟨a_r1,cap_r1⟩ hst
     subst hst;refine k_norm (L':=[(7,.v (.slice a_r1 l3.length cap_r1)),(3,_),(8,_)]) (ms':=[row a_r1 cap_r1 80 2 RSeq.d l3]) rfl rfl ?_;refine zq2 ?_;obtain ⟨hg13,hm2⟩:=grd_some hm2;refine zq3 ?_;exact ⟨_,(_,_),hm2,⟨rfl,rfl,trivial⟩,⟨rfl,trivial⟩,[],rfl⟩
  ·refine g_exit ?_
   exact ⟨_,(_,_),some_eq hj1,trivial,trivial,[],rfl⟩
 ·rintro l1 ⟨a_r1,cap_r1⟩ hst
  subst hst
  replace hm1:=on_go hm1
  refine k_norm (L':=[]) (ms':=[row a_r1 cap_r1 80 2 RSeq.d l1]) rfl rfl ?_;refine zq4 ?_
  cases hm1;exact g_ret zr1
noncomputable def m_below_Alike (a1:ATy) (bv1:ATy):Option (Bool×Int):=
 (m_below_may a1 bv1).bind fun x1 =>
 bif (!decide (x1=0)) then
  some (false,x1)
 else
  (m_below_below a1 bv1).bind fun x2 =>
  (bif x2 then ((m_below_below bv1 a1).bind fun x3 =>
  some x3) else (some false)).bind fun p1 =>
  some (p1,0)
theorem w_below_Alike {a1:ATy} {bv1:ATy} {r_1:Bool} {r_2:Int} (hm:m_below_Alike a1 bv1=some (r_1,r_2)):Fn0 Tryz.prog 27 [ATy.d a1,ATy.d bv1] (.tup [.bool r_1,.i64 r_2]):=by
 unfold m_below_Alike at hm;refine fn_intro func27 rfl ntmps27 rfl fun H0 fr w0=>?_;refine zq12 ?_;obtain ⟨x1,hx1,hm⟩:=bS hm;refine zc0 (w_below_may hx1) ?_;refine zq7 ?_;refine zcn hm (fun hc1 hm=>?_) (fun hc1 hm=>?_)
 ·refine zq6 ?_
  cases hm;exact g_ret zr2
 ·refine zq5 ?_
  obtain ⟨x2,hx2,hm⟩:=bS hm;refine zc0 (w_below_below hx2) ?_;refine zq1 ?_;obtain ⟨p1,hp_1,hm⟩:=bS hm;refine go_two [] 4 20 p1 (t:=16) trivial rfl (fun hg_1 hk1=>?_) (fun hg_1 hk1=>?_) ?_
  ·replace hp_1:=cond_t hg_1 hp_1
   refine zq2 ?_;obtain ⟨x3,hx3,hp_1⟩:=bS hp_1;refine zcw (w_below_below hx3) ?_;refine zq1 ?_;exact zgb hk1 hp_1
  ·replace hp_1:=cond_f hg_1 hp_1
   refine zq4 ?_;exact zgb hk1 hp_1
  refine zq3 ?_
  cases hm;exact g_ret zr2
noncomputable def m_rg_Graft_l2 (a1:ATy) (z6:(List AFd)):Nat->(Int×(List AFd))->Option (List AFd)
 | 0,_=>none
 | n+1,(k1,l4) =>
  bif (decide (k1<(z6.length:Int))) then
   (idx z6 k1).bind fun x2 =>
   (idx z6 k1).bind fun x3 =>
   grd (InR (x3.at_+(a1.l.length:Int))) <|
   grd ((l4.length+([(⟨x2.name,(x3.at_+(a1.l.length:Int))⟩:AFd)]:List _).length)*24<=140737488355328) <|
   grd (InR (k1+1)) <|
   m_rg_Graft_l2 a1 z6 n ((k1+1),(l4++[(⟨x2.name,(x3.at_+(a1.l.length:Int))⟩:AFd)]))
  else
   some l4
noncomputable def m_rg_Graft_l1 (a1:ATy) (bv1:ATy):Nat->(Int×Int×(List ANd))->Option (Int×(List ANd))
 | 0,_=>none
 | n+1,(i1,z2,l2) =>
  bif (decide (i1<(bv1.l.length:Int))) then
   (idx bv1.l i1).bind fun x1 =>
   (bif (((decide (x1.kind=6))||(decide (x1.kind=9)))||(decide (x1.kind=10))) then
    grd (InR (x1.a+(a1.l.length:Int))) <|
    grd (InR (x1.b+(a1.l.length:Int))) <|
    some (x1.kind,(x1.a+(a1.l.length:Int)),(x1.b+(a1.l.length:Int)),x1.l)
   else
    some (x1.kind,x1.a,x1.b,x1.l):Option (Int×Int×Int×(List AFd))).bind fun (z3,z4,z5,z6) =>
   (m_rg_Graft_l2 a1 z6 FU (0,[]):Option (List AFd)).bind fun l3 =>
   grd ((l2.length+([(⟨z3,z4,z5,l3⟩:ANd)]:List _).length)*48<=140737488355328) <|
   grd (InR (i1+1)) <|
   m_rg_Graft_l1 a1 bv1 n ((i1+1),z2,(l2++[(⟨z3,z4,z5,l3⟩:ANd)]))
  else
   some (z2,l2)
noncomputable def m_rg_Graft (a1:ATy) (bv1:ATy):Option (ATy×Int):=
 grd ((0+a1.l.length)*48<=140737488355328) <|
 (m_rg_Graft_l1 a1 bv1 FU (0,a1.root,([]++a1.l)):Option (Int×(List ANd))).bind fun (z1,l1) =>
 some ((⟨l1,z1⟩:ATy),(a1.l.length:Int))
theorem w_rg_Graft {a1:ATy} {bv1:ATy} {r_1:ATy} {r_2:Int} (hm:m_rg_Graft a1 bv1=some (r_1,r_2)):Fn0 Tryz.prog 67 [ATy.d a1,ATy.d bv1] (.tup [ATy.d r_1,.i64 r_2]):=by
 unfold m_rg_Graft at hm;refine fn_intro func67 rfl ntmps67 rfl fun H0 fr w0=>?_;refine zq4 ?_;refine zal24a fun b1=>?_;refine zq3 ?_;obtain ⟨hg1,hm⟩:=grd_some hm;refine g_draw_x [0,3,6] [8] [1,2,4,5] [7] [] Tryz_mixed (by decide +kernel) (by decide +kernel) rfl ?_;refine gdx_e rfl ?_;refine gdx_p rfl rfl rfl rfl rfl rfl (oFa fi_24_0 rfl rfl rfl) ?_;refine gdx_p rfl rfl rfl rfl rfl rfl (o_load isAgg22 rfl rfl) ?_;refine gdx_e rfl ?_;refine gdx_p rfl rfl rfl rfl rfl rfl (oFa fi_24_1 rfl rfl rfl) ?_;refine gdx_p rfl rfl rfl rfl rfl rfl (o_load isAgg3 rfl rfl) ?_;refine gdx_e rfl ?_;refine gdx_fresh (R0:=fun d A=>∃ b,d = .v (.pointer (some ⟨b,0,none⟩))/\A=box b 24 [.list 4 ANd.d [],.i64 0]) rfl rfl rfl rfl (OpT.mono (o_alloc_own zeroValue24 (cs:=[.list 4 ANd.d [],.i64 0]) rfl) (by rintro d ms' ⟨b,rfl,rfl⟩;exact ⟨_,⟨b,rfl,rfl⟩,rfl⟩)) ?_;refine gdx_e rfl ?_;refine gdx_nil ?_;refine gf_t rfl rfl rfl rfl (o_buildSlice_row (xs:=[]) (f:=ANd.d) (l:=[]) runUnderlying22 sizeOf44 zeroValue44 rfl rfl rfl (fun _=>⟨rfl,rfl,rfl⟩) rfl (by simp [maxLen])) ?_;rintro _ _ ⟨a_r1,rfl,rfl⟩;refine ⟨(trivial:True),?_⟩;refine gf_t rfl rfl rfl rfl (o_append (a:=_) 0 underlying22 type44 rfl rfl rfl rfl rfl rfl rfl (fun _=>rfl) (fun _=>rfl) hg1 (app_len hg1 rfl)) ?_;rintro _ _ ⟨a_r1,cap_r1,rfl,rfl⟩;refine ⟨(trivial:True),?_⟩;refine gf_t rfl rfl rfl rfl zb24b ?_;rintro _ _ ⟨rfl,rfl⟩;refine ⟨(trivial:True),?_⟩;refine gf_nil [(7,6)] rfl ?_;rintro _ _ ⟨b3,rfl,rfl⟩
 show _/\_
 refine ⟨(trivial:True),?_⟩;refine gde2_u rfl rfl rfl (oSb 0 sizeOf24 rfl rfl rfl rfl rfl rfl rfl rfl (nB rfl)) ?_;rintro _ _ rfl;refine ⟨(trivial:True),?_⟩;refine gde2_nil ?_;refine zq12 ?_;obtain ⟨o_1,hj1,hm1⟩:=bS hm;refine g_cut_m [(4,_),(6,_),(7,_)] [(2,_)] (fun (st:(Int×(List ANd))) (hid:(Option Addr×Nat))=>match st,hid with | (z1,l1),(a_r1,cap_r1)=>[]) (fun F (st:(Int×(List ANd))) (hid:(Option Addr×Nat))=>match st,hid with | (z1,l1),(a_r1,cap_r1)=>[box b3 24 [.v (.slice a_r1 l1.length cap_r1),.i64 z1],row a_r1 cap_r1 44 4 ANd.d l1,(nthF F 0)]) (fun st=>st=o_1) ⟨rfl,rfl,rfl,trivial⟩ ⟨rfl,trivial⟩ ?_ ?_
 ·refine g_block ?_
  refine g_loop_m [(3,_),(4,_),(6,_),(7,_)] [(2,_)] (fun (st:(Int×Int×(List ANd))) (hid:(Option Addr×Nat))=>match st,hid with | (i1,z2,l2),(a_r1,cap_r1)=>[(8,.i64 i1)]) (fun F (st:(Int×Int×(List ANd))) (hid:(Option Addr×Nat))=>match st,hid with | (i1,z2,l2),(a_r1,cap_r1)=>[box b3 24 [.v (.slice a_r1 l2.length cap_r1),.i64 z2],row a_r1 cap_r1 44 4 ANd.d l2,(nthF F 0)]) (_,_) hj1 (fun _=>rfl) ⟨rfl,rfl,rfl,rfl,trivial⟩ ⟨rfl,trivial⟩ ⟨rfl,trivial⟩ rfl ?_;rintro n ⟨i1,z2,l2⟩ ⟨a_r1,cap_r1⟩ hj1;rw [m_rg_Graft_l1] at hj1;refine g_norm (L':=[(8,.i64 i1),(3,_),(4,_),(6,_),(7,_)]) (ms':=[box b3 24 [.v (.slice a_r1 l2.length cap_r1),.i64 z2],row a_r1 cap_r1 44 4 ANd.d l2,_]) rfl rfl ?_;refine zq9 ?_;refine zcn hj1 (fun hc1 hj1=>?_) (fun hc1 hj1=>?_)
  ·refine zq8 ?_
   obtain ⟨x1,hx2,hj1⟩:=bS hj1;refine go_p rfl rfl rfl (oIm runUnderlying22 sizeOf44 rfl rfl hx2) ?_;refine zq1 ?_;refine zal44a fun b4=>?_;refine zst 0 ?_;refine go_ms (ms':=[box b4 44 [_,_,_,_],box b3 24 [_,_],_,box b1 24 [_,_]]) rfl ?_;refine zq8 ?_
   apply go_or [(3,_),(4,_),(6,_),(7,_),(8,_),(9,_)] 4 41 (t:=37) ⟨rfl,rfl,rfl,rfl,rfl,rfl,trivial⟩ rfl
   ·intro hg_1 hk1
    refine zq4 ?_;exact zgm hk1
   ·intro hg_1 hk1
    refine zq4 ?_;exact zgm hk1
   refine zq1 ?_
   apply go_or [(3,_),(4,_),(6,_),(7,_),(8,_),(9,_)] 4 46 (t:=42) ⟨rfl,rfl,rfl,rfl,rfl,rfl,trivial⟩ rfl
   ·intro hg_2 hk2
    refine zq4 ?_;exact zgm hk2
   ·intro hg_2 hk2
    refine zq4 ?_;exact zgm hk2
   refine gNl ?_;obtain ⟨o_2,hj2,hm2⟩:=bS hj1;refine g_cut_m [(3,_),(4,_),(6,_),(7,_),(8,_),(9,_)] [(1,_),(2,_),(3,_)] (fun (st:(Int×Int×Int×(List AFd))) (hid:Unit)=>match st,hid with | (z3,z4,z5,z6),_=>[]) (fun F (st:(Int×Int×Int×(List AFd))) (hid:Unit)=>match st,hid with | (z3,z4,z5,z6),_=>[box b4 44 [.i64 z3,.i64 z4,.i64 z5,.list 2 AFd.d z6],(nthF F 0),(nthF F 1),(nthF F 2)]) (fun st=>st=o_2) ⟨rfl,rfl,rfl,rfl,rfl,rfl,trivial⟩ ⟨rfl,rfl,rfl,trivial⟩ ?_ ?_
   ·refine zcn hj2 (fun hc2 hj2=>?_) (fun hc2 hj2=>?_)
    ·refine zq4 ?_
     obtain ⟨hg3,hj2⟩:=grd_some hj2;refine zq4 ?_;obtain ⟨hg4,hj2⟩:=grd_some hj2;refine zq2 ?_;refine zst 0 ?_;refine go_ms (ms':=[box b4 44 [_,_,_,_],box b3 24 [_,_],_,box b1 24 [_,_]]) rfl ?_;refine zq1 ?_;refine zst 0 ?_;refine go_ms (ms':=[box b4 44 [_,_,_,_],box b3 24 [_,_],_,box b1 24 [_,_]]) rfl ?_;refine gNl ?_;exact ⟨_,(),some_eq hj2,trivial,⟨rfl,rfl,rfl,rfl,rfl,rfl,trivial⟩,[],rfl⟩
    ·refine gSp ?_
     exact ⟨_,(),some_eq hj2,trivial,⟨rfl,rfl,rfl,rfl,rfl,rfl,trivial⟩,[],rfl⟩
   ·rintro ⟨z3,z4,z5,z6⟩ _ hst
    subst hst;refine k_norm (L':=[(3,_),(4,_),(6,_),(7,_),(8,_),(9,_)]) (ms':=[box b4 44 [.i64 z3,.i64 z4,.i64 z5,.list 2 AFd.d z6],_,_,_]) rfl rfl ?_;refine zq2 ?_;refine go_op rfl rfl rfl (o_buildSlice_row (xs:=[]) (f:=AFd.d) (l:=[]) runUnderlying42 sizeOf98 zeroValue98 rfl rfl rfl (fun _=>⟨rfl,rfl,rfl⟩) rfl (by simp [maxLen])) ?_;rintro _ _ ⟨a_r2,rfl,rfl⟩;refine zq7 ?_;obtain ⟨o_3,hj3,hm3⟩:=bS hm2;refine g_cut_m [(3,_),(4,_),(6,_),(7,_),(8,_),(9,_)] [(1,_),(2,_),(3,_),(4,_)] (fun (st:(List AFd)) (hid:(Option Addr×Nat))=>match st,hid with | l3,(a_r2,cap_r2)=>[(10,.v (.slice a_r2 l3.length cap_r2))]) (fun F (st:(List AFd)) (hid:(Option Addr×Nat))=>match st,hid with | l3,(a_r2,cap_r2)=>[row a_r2 cap_r2 98 2 AFd.d l3,(nthF F 0),(nthF F 1),(nthF F 2),(nthF F 3)]) (fun st=>st=o_3) ⟨rfl,rfl,rfl,rfl,rfl,rfl,trivial⟩ ⟨rfl,rfl,rfl,rfl,trivial⟩ ?_ ?_
    ·refine g_block ?_
     refine g_loop_m [(3,_),(4,_),(6,_),(7,_),(8,_),(9,_)] [(1,_),(2,_),(3,_),(4,_)] (fun (st:(Int×(List AFd))) (hid:(Option Addr×Nat))=>match st,hid with | (k1,l4),(a_r2,cap_r2)=>[(10,.v (.slice a_r2 l4.length cap_r2)),(11,.i64 k1)]) (fun F (st:(Int×(List AFd))) (hid:(Option Addr×Nat))=>match st,hid with | (k1,l4),(a_r2,cap_r2)=>[row a_r2 cap_r2 98 2 AFd.d l4,(nthF F 0),(nthF F 1),(nthF F 2),(nthF F 3)]) (_,_) hj3 (fun _=>rfl) ⟨rfl,rfl,rfl,rfl,rfl,rfl,trivial⟩ ⟨rfl,rfl,rfl,rfl,trivial⟩ ⟨rfl,rfl,trivial⟩ rfl ?_;rintro n ⟨k1,l4⟩ ⟨a_r2,cap_r2⟩ hj3;rw [m_rg_Graft_l2] at hj3;refine g_norm (L':=[(10,.v (.slice a_r2 l4.length cap_r2)),(11,.i64 k1),(3,_),(4,_),(6,_),(7,_),(8,_),(9,_)]) (ms':=[row a_r2 cap_r2 98 2 AFd.d l4,_,_,_,_]) rfl rfl ?_;refine zq9 ?_;refine zcn hj3 (fun hc3 hj3=>?_) (fun hc3 hj3=>?_)
     ·refine zq3 ?_
      obtain ⟨x2,hx5,hj3⟩:=bS hj3;obtain ⟨x3,hx6,hj3⟩:=bS hj3;obtain ⟨hg7,hj3⟩:=grd_some hj3;refine zdr 17 ?_;refine zq4 ?_;refine gd_p rfl rfl rfl (oIm runUnderlying42 sizeOf98 rfl rfl hx5) ?_;refine zq5 ?_;refine gd_p rfl rfl rfl (oIm runUnderlying42 sizeOf98 rfl rfl hx6) ?_;refine zq4 ?_;refine gd_p rfl rfl rfl zb98a ?_;refine gd_p rfl rfl rfl (o_buildSlice (xs:=[_]) (f:=AFd.d) (l:=[(⟨x2.name,(x3.at_+(a1.l.length:Int))⟩:AFd)]) runUnderlying42 sizeOf98 zeroValue98 rfl rfl rfl (fun _=>⟨rfl,rfl,rfl⟩) rfl) ?_;refine gd_nil ?_;obtain ⟨hg8,hj3⟩:=grd_some hj3;refine zap 0 hg8 fun a_r2 cap_r2=>?_;refine go_ms (ms':=[_,box b4 44 [_,_,_,_],box b3 24 [_,_],_,box b1 24 [_,_]]) rfl ?_;refine zq4 ?_;obtain ⟨hg9,hj3⟩:=grd_some hj3;refine zq3 ?_;exact ⟨_,(_,_),hj3,⟨rfl,rfl,trivial⟩,⟨rfl,rfl,rfl,rfl,rfl,rfl,trivial⟩,[],rfl⟩
     ·refine g_exit ?_
      exact ⟨_,(_,_),some_eq hj3,⟨rfl,trivial⟩,⟨rfl,rfl,rfl,rfl,rfl,rfl,trivial⟩,[],rfl⟩
    ·rintro l3 ⟨a_r2,cap_r2⟩ hst
     subst hst;refine k_norm (L':=[(10,.v (.slice a_r2 l3.length cap_r2)),(3,_),(4,_),(6,_),(7,_),(8,_),(9,_)]) (ms':=[row a_r2 cap_r2 98 2 AFd.d l3,_,_,_,_]) rfl rfl ?_;refine zq4 ?_;refine zst 1 ?_;refine go_ms (ms':=[_,box b4 44 [_,_,_,_],box b3 24 [_,_],_,box b1 24 [_,_]]) rfl ?_;refine zq5 ?_;refine go_conv (peekAggE (i:=87) (q:=3) 0 rfl rfl rfl rfl rfl).refines ?_;refine go_p rfl rfl rfl (o_buildSlice (xs:=[_]) (f:=ANd.d) (l:=[(⟨z3,z4,z5,l3⟩:ANd)]) runUnderlying22 sizeOf44 zeroValue44 rfl rfl rfl (fun _=>⟨rfl,rfl,rfl⟩) rfl) ?_;obtain ⟨hg10,hm3⟩:=grd_some hm3;refine zap 3 hg10 fun a_r1 cap_r1=>?_;refine go_ms (ms':=[_,box b4 44 [_,_,_,_],box b3 24 [_,_],_,box b1 24 [_,_]]) rfl ?_;refine zq1 ?_;refine zst 2 ?_;refine go_ms (ms':=[_,box b4 44 [_,_,_,_],box b3 24 [_,_],_,box b1 24 [_,_]]) rfl ?_;refine zq3 ?_;obtain ⟨hg11,hm3⟩:=grd_some hm3;refine zq3 ?_;exact ⟨_,(_,_),hm3,⟨rfl,trivial⟩,⟨rfl,rfl,rfl,rfl,trivial⟩,[_,_],rfl⟩
  ·refine g_exit ?_
   exact ⟨_,(_,_),some_eq hj1,trivial,⟨rfl,rfl,rfl,trivial⟩,[],rfl⟩
 ·rintro ⟨z1,l1⟩ ⟨a_r1,cap_r1⟩ hst
  subst hst;refine k_norm (L':=[(4,_),(6,_),(7,_)]) (ms':=[box b3 24 [.v (.slice a_r1 l1.length cap_r1),.i64 z1],row a_r1 cap_r1 44 4 ANd.d l1,_]) rfl rfl ?_;refine zq3 ?_;refine go_conv (peekAggE (i:=91) (q:=0) 1 rfl rfl rfl rfl rfl).refines ?_;refine zq1 ?_;refine zst 2 ?_;refine go_ms (ms':=[box b3 24 [_,_],_,box b1 24 [_,_]]) rfl ?_;refine zq2 ?_
  cases hm1;exact g_ret zr2
noncomputable def m_ref13_GraftO_l2 (a1:ATy) (z6:(List AFd)):Nat->(Int×(List AFd))->Option (List AFd)
 | 0,_=>none
 | n+1,(k1,l4) =>
  bif (decide (k1<(z6.length:Int))) then
   (idx z6 k1).bind fun x2 =>
   (idx z6 k1).bind fun x3 =>
   grd (InR (x3.at_+(a1.l.length:Int))) <|
   grd ((l4.length+([(⟨x2.name,(x3.at_+(a1.l.length:Int))⟩:AFd)]:List _).length)*24<=140737488355328) <|
   grd (InR (k1+1)) <|
   m_ref13_GraftO_l2 a1 z6 n ((k1+1),(l4++[(⟨x2.name,(x3.at_+(a1.l.length:Int))⟩:AFd)]))
  else
   some l4
noncomputable def m_ref13_GraftO_l1 (a1:ATy) (bv1:ATy):Nat->(Int×Int×(List ANd))->Option (Int×(List ANd))
 | 0,_=>none
 | n+1,(i1,z2,l2) =>
  bif (decide (i1<(bv1.l.length:Int))) then
   (idx bv1.l i1).bind fun x1 =>
   (bif (((decide (x1.kind=6))||(decide (x1.kind=9)))||(decide (x1.kind=10))) then
    grd (InR (x1.a+(a1.l.length:Int))) <|
    grd (InR (x1.b+(a1.l.length:Int))) <|
    some (x1.kind,(x1.a+(a1.l.length:Int)),(x1.b+(a1.l.length:Int)),x1.l)
   else
    some (x1.kind,x1.a,x1.b,x1.l):Option (Int×Int×Int×(List AFd))).bind fun (z3,z4,z5,z6) =>
   (m_ref13_GraftO_l2 a1 z6 FU (0,[]):Option (List AFd)).bind fun l3 =>
   grd ((l2.length+([(⟨z3,z4,z5,l3⟩:ANd)]:List _).length)*48<=140737488355328) <|
   grd (InR (i1+1)) <|
   m_ref13_GraftO_l1 a1 bv1 n ((i1+1),z2,(l2++[(⟨z3,z4,z5,l3⟩:ANd)]))
  else
   some (z2,l2)
noncomputable def m_ref13_GraftO (a1:ATy) (bv1:ATy)  : Option (Int×ATy):=
 grd ((0+a1.l.length)*48<=140737488355328) <|
 (m_ref13_GraftO_l1 a1 bv1 FU (0,a1.root,([]++a1.l)):Option (Int×(List ANd))).bind fun (z1,l1) =>
 some ((a1.l.length:Int),(⟨l1,z1⟩:ATy))
theorem w_ref13_GraftO {a1:ATy} {bv1:ATy}  {r_2:Int} {s_1:ATy} (hm:m_ref13_GraftO a1 bv1=some (r_2,s_1)):Go.V.Fn Tryz.prog 67 [ATy.d a1,ATy.d bv1] [] (fun d ms'=>∃ a_s_1c0 m_s_1c0 cap_s_1c0,d = .tup [.agg [.v (.slice a_s_1c0 m_s_1c0 cap_s_1c0),.i64 s_1.root],.i64 r_2]/\ms'=[arr a_s_1c0 m_s_1c0 cap_s_1c0 44 4 ANd.d s_1.l]):=by
 unfold m_ref13_GraftO at hm;refine fn_intro func67 rfl ntmps67 rfl fun H0 fr w0=>?_;refine zq4 ?_;refine zal24a fun b1=>?_;refine zq3 ?_;obtain ⟨hg1,hm⟩:=grd_some hm;refine g_draw_x [0,3,6] [8] [1,2,4,5] [7] [] Tryz_mixed (by decide +kernel) (by decide +kernel) rfl ?_;refine gdx_e rfl ?_;refine gdx_p rfl rfl rfl rfl rfl rfl (oFa fi_24_0 rfl rfl rfl) ?_;refine gdx_p rfl rfl rfl rfl rfl rfl (o_load isAgg22 rfl rfl) ?_;refine gdx_e rfl ?_;refine gdx_p rfl rfl rfl rfl rfl rfl (oFa fi_24_1 rfl rfl rfl) ?_;refine gdx_p rfl rfl rfl rfl rfl rfl (o_load isAgg3 rfl rfl) ?_;refine gdx_e rfl ?_;refine gdx_fresh (R0:=fun d A=>∃ b,d = .v (.pointer (some ⟨b,0,none⟩))/\A=box b 24 [.list 4 ANd.d [],.i64 0]) rfl rfl rfl rfl (OpT.mono (o_alloc_own zeroValue24 (cs:=[.list 4 ANd.d [],.i64 0]) rfl) (by rintro d ms' ⟨b,rfl,rfl⟩;exact ⟨_,⟨b,rfl,rfl⟩,rfl⟩)) ?_;refine gdx_e rfl ?_;refine gdx_nil ?_;refine gf_t rfl rfl rfl rfl (o_buildSlice_arr (xs:=[]) (f:=ANd.d) (l:=[]) runUnderlying22 sizeOf44 zeroValue44 rfl rfl rfl (fun _=>⟨rfl,rfl,rfl⟩) rfl (by simp [maxLen])) ?_;rintro _ _ ⟨a_r1,m_r1,cap_r1,rfl,rfl⟩;refine ⟨(trivial:True),?_⟩;refine gf_t rfl rfl rfl rfl (o_append_own (a:=_) 0 underlying22 type44 rfl rfl rfl rfl rfl rfl (fun _=>rfl) (fun _=>rfl) hg1 (app_len hg1 rfl)) ?_;rintro _ _ ⟨a_r1,m_r1,cap_r1,rfl,rfl⟩;refine ⟨(trivial:True),?_⟩;refine gf_t rfl rfl rfl rfl zb24b ?_;rintro _ _ ⟨rfl,rfl⟩;refine ⟨(trivial:True),?_⟩;refine gf_nil [(7,6)] rfl ?_;rintro _ _ ⟨b2,rfl,rfl⟩
 show _/\_
 refine ⟨(trivial:True),?_⟩;refine gde2_u rfl rfl rfl (oSb 0 sizeOf24 rfl rfl rfl rfl rfl rfl rfl rfl (nB rfl)) ?_;rintro _ _ rfl;refine ⟨(trivial:True),?_⟩;refine gde2_nil ?_;refine zq12 ?_;obtain ⟨o_1,hj1,hm1⟩:=bS hm;refine g_cut_m [(4,_),(6,_),(7,_)] [(2,_)] (fun (st:(Int×(List ANd))) (hid:(Option Addr×Nat×Nat))=>match st,hid with | (z1,l1),(a_r1,m_r1,cap_r1)=>[]) (fun F (st:(Int×(List ANd))) (hid:(Option Addr×Nat×Nat))=>match st,hid with | (z1,l1),(a_r1,m_r1,cap_r1)=>[box b2 24 [.v (.slice a_r1 m_r1 cap_r1),.i64 z1],arr a_r1 m_r1 cap_r1 44 4 ANd.d l1,(nthF F 0)]) (fun st=>st=o_1) ⟨rfl,rfl,rfl,trivial⟩ ⟨rfl,trivial⟩ ?_ ?_
 ·refine g_block ?_
  refine g_loop_m [(3,_),(4,_),(6,_),(7,_)] [(2,_)] (fun (st:(Int×Int×(List ANd))) (hid:(Option Addr×Nat×Nat))=>match st,hid with | (i1,z2,l2),(a_r1,m_r1,cap_r1)=>[(8,.i64 i1)]) (fun F (st:(Int×Int×(List ANd))) (hid:(Option Addr×Nat×Nat))=>match st,hid with | (i1,z2,l2),(a_r1,m_r1,cap_r1)=>[box b2 24 [.v (.slice a_r1 m_r1 cap_r1),.i64 z2],arr a_r1 m_r1 cap_r1 44 4 ANd.d l2,(nthF F 0)]) (_,_,_) hj1 (fun _=>rfl) ⟨rfl,rfl,rfl,rfl,trivial⟩ ⟨rfl,trivial⟩ ⟨rfl,trivial⟩ rfl ?_;rintro n ⟨i1,z2,l2⟩ ⟨a_r1,m_r1,cap_r1⟩ hj1;rw [m_ref13_GraftO_l1] at hj1;refine g_norm (L':=[(8,.i64 i1),(3,_),(4,_),(6,_),(7,_)]) (ms':=[box b2 24 [.v (.slice a_r1 m_r1 cap_r1),.i64 z2],arr a_r1 m_r1 cap_r1 44 4 ANd.d l2,_]) rfl rfl ?_;refine zq9 ?_;refine zcn hj1 (fun hc1 hj1=>?_) (fun hc1 hj1=>?_)
  ·refine zq8 ?_
   obtain ⟨x1,hx2,hj1⟩:=bS hj1;refine go_p rfl rfl rfl (oIm runUnderlying22 sizeOf44 rfl rfl hx2) ?_;refine zq1 ?_;refine zal44a fun b3=>?_;refine zst 0 ?_;refine go_ms (ms':=[box b3 44 [_,_,_,_],box b2 24 [_,_],_,box b1 24 [_,_]]) rfl ?_;refine zq8 ?_
   apply go_or [(3,_),(4,_),(6,_),(7,_),(8,_),(9,_)] 4 41 (t:=37) ⟨rfl,rfl,rfl,rfl,rfl,rfl,trivial⟩ rfl
   ·intro hg_1 hk1
    refine zq4 ?_;exact zgm hk1
   ·intro hg_1 hk1
    refine zq4 ?_;exact zgm hk1
   refine zq1 ?_
   apply go_or [(3,_),(4,_),(6,_),(7,_),(8,_),(9,_)] 4 46 (t:=42) ⟨rfl,rfl,rfl,rfl,rfl,rfl,trivial⟩ rfl
   ·intro hg_2 hk2
    refine zq4 ?_;exact zgm hk2
   ·intro hg_2 hk2
    refine zq4 ?_;exact zgm hk2
   refine gNl ?_;obtain ⟨o_2,hj2,hm2⟩:=bS hj1;refine g_cut_m [(3,_),(4,_),(6,_),(7,_),(8,_),(9,_)] [(1,_),(2,_),(3,_)] (fun (st:(Int×Int×Int×(List AFd))) (hid:Unit)=>match st,hid with | (z3,z4,z5,z6),_=>[]) (fun F (st:(Int×Int×Int×(List AFd))) (hid:Unit)=>match st,hid with | (z3,z4,z5,z6),_=>[box b3 44 [.i64 z3,.i64 z4,.i64 z5,.list 2 AFd.d z6],(nthF F 0),(nthF F 1),(nthF F 2)]) (fun st=>st=o_2) ⟨rfl,rfl,rfl,rfl,rfl,rfl,trivial⟩ ⟨rfl,rfl,rfl,trivial⟩ ?_ ?_
   ·refine zcn hj2 (fun hc2 hj2=>?_) (fun hc2 hj2=>?_)
    ·refine zq4 ?_
     obtain ⟨hg3,hj2⟩:=grd_some hj2;refine zq4 ?_;obtain ⟨hg4,hj2⟩:=grd_some hj2;refine zq2 ?_;refine zst 0 ?_;refine go_ms (ms':=[box b3 44 [_,_,_,_],box b2 24 [_,_],_,box b1 24 [_,_]]) rfl ?_;refine zq1 ?_;refine zst 0 ?_;refine go_ms (ms':=[box b3 44 [_,_,_,_],box b2 24 [_,_],_,box b1 24 [_,_]]) rfl ?_;refine gNl ?_;exact ⟨_,(),some_eq hj2,trivial,⟨rfl,rfl,rfl,rfl,rfl,rfl,trivial⟩,[],rfl⟩
    ·refine gSp ?_
     exact ⟨_,(),some_eq hj2,trivial,⟨rfl,rfl,rfl,rfl,rfl,rfl,trivial⟩,[],rfl⟩
   ·rintro ⟨z3,z4,z5,z6⟩ _ hst
    subst hst;refine k_norm (L':=[(3,_),(4,_),(6,_),(7,_),(8,_),(9,_)]) (ms':=[box b3 44 [.i64 z3,.i64 z4,.i64 z5,.list 2 AFd.d z6],_,_,_]) rfl rfl ?_;refine zq2 ?_;refine go_op rfl rfl rfl (o_buildSlice_row (xs:=[]) (f:=AFd.d) (l:=[]) runUnderlying42 sizeOf98 zeroValue98 rfl rfl rfl (fun _=>⟨rfl,rfl,rfl⟩) rfl (by simp [maxLen])) ?_;rintro _ _ ⟨a_r2,rfl,rfl⟩;refine zq7 ?_;obtain ⟨o_3,hj3,hm3⟩:=bS hm2;refine g_cut_m [(3,_),(4,_),(6,_),(7,_),(8,_),(9,_)] [(1,_),(2,_),(3,_),(4,_)] (fun (st:(List AFd)) (hid:(Option Addr×Nat))=>match st,hid with | l3,(a_r2,cap_r2)=>[(10,.v (.slice a_r2 l3.length cap_r2))]) (fun F (st:(List AFd)) (hid:(Option Addr×Nat))=>match st,hid with | l3,(a_r2,cap_r2)=>[row a_r2 cap_r2 98 2 AFd.d l3,(nthF F 0),(nthF F 1),(nthF F 2),(nthF F 3)]) (fun st=>st=o_3) ⟨rfl,rfl,rfl,rfl,rfl,rfl,trivial⟩ ⟨rfl,rfl,rfl,rfl,trivial⟩ ?_ ?_
    ·refine g_block ?_
     refine g_loop_m [(3,_),(4,_),(6,_),(7,_),(8,_),(9,_)] [(1,_),(2,_),(3,_),(4,_)] (fun (st:(Int×(List AFd))) (hid:(Option Addr×Nat))=>match st,hid with | (k1,l4),(a_r2,cap_r2)=>[(10,.v (.slice a_r2 l4.length cap_r2)),(11,.i64 k1)]) (fun F (st:(Int×(List AFd))) (hid:(Option Addr×Nat))=>match st,hid with | (k1,l4),(a_r2,cap_r2)=>[row a_r2 cap_r2 98 2 AFd.d l4,(nthF F 0),(nthF F 1),(nthF F 2),(nthF F 3)]) (_,_) hj3 (fun _=>rfl) ⟨rfl,rfl,rfl,rfl,rfl,rfl,trivial⟩ ⟨rfl,rfl,rfl,rfl,trivial⟩ ⟨rfl,rfl,trivial⟩ rfl ?_;rintro n ⟨k1,l4⟩ ⟨a_r2,cap_r2⟩ hj3;rw [m_ref13_GraftO_l2] at hj3;refine g_norm (L':=[(10,.v (.slice a_r2 l4.length cap_r2)),(11,.i64 k1),(3,_),(4,_),(6,_),(7,_),(8,_),(9,_)]) (ms':=[row a_r2 cap_r2 98 2 AFd.d l4,_,_,_,_]) rfl rfl ?_;refine zq9 ?_;refine zcn hj3 (fun hc3 hj3=>?_) (fun hc3 hj3=>?_)
     ·refine zq3 ?_
      obtain ⟨x2,hx5,hj3⟩:=bS hj3;obtain ⟨x3,hx6,hj3⟩:=bS hj3;obtain ⟨hg7,hj3⟩:=grd_some hj3;refine zdr 17 ?_;refine zq4 ?_;refine gd_p rfl rfl rfl (oIm runUnderlying42 sizeOf98 rfl rfl hx5) ?_;refine zq5 ?_;refine gd_p rfl rfl rfl (oIm runUnderlying42 sizeOf98 rfl rfl hx6) ?_;refine zq4 ?_;refine gd_p rfl rfl rfl zb98a ?_;refine gd_p rfl rfl rfl (o_buildSlice (xs:=[_]) (f:=AFd.d) (l:=[(⟨x2.name,(x3.at_+(a1.l.length:Int))⟩:AFd)]) runUnderlying42 sizeOf98 zeroValue98 rfl rfl rfl (fun _=>⟨rfl,rfl,rfl⟩) rfl) ?_;refine gd_nil ?_;obtain ⟨hg8,hj3⟩:=grd_some hj3;refine zap 0 hg8 fun a_r2 cap_r2=>?_;refine go_ms (ms':=[_,box b3 44 [_,_,_,_],box b2 24 [_,_],_,box b1 24 [_,_]]) rfl ?_;refine zq4 ?_;obtain ⟨hg9,hj3⟩:=grd_some hj3;refine zq3 ?_;exact ⟨_,(_,_),hj3,⟨rfl,rfl,trivial⟩,⟨rfl,rfl,rfl,rfl,rfl,rfl,trivial⟩,[],rfl⟩
     ·refine g_exit ?_
      exact ⟨_,(_,_),some_eq hj3,⟨rfl,trivial⟩,⟨rfl,rfl,rfl,rfl,rfl,rfl,trivial⟩,[],rfl⟩
    ·rintro l3 ⟨a_r2,cap_r2⟩ hst
     subst hst;refine k_norm (L':=[(10,.v (.slice a_r2 l3.length cap_r2)),(3,_),(4,_),(6,_),(7,_),(8,_),(9,_)]) (ms':=[row a_r2 cap_r2 98 2 AFd.d l3,_,_,_,_]) rfl rfl ?_;refine zq4 ?_;refine zst 1 ?_;refine go_ms (ms':=[_,box b3 44 [_,_,_,_],box b2 24 [_,_],_,box b1 24 [_,_]]) rfl ?_;refine zq5 ?_;refine go_conv (peekAggE (i:=87) (q:=3) 0 rfl rfl rfl rfl rfl).refines ?_;refine go_p rfl rfl rfl (o_buildSlice (xs:=[_]) (f:=ANd.d) (l:=[(⟨z3,z4,z5,l3⟩:ANd)]) runUnderlying22 sizeOf44 zeroValue44 rfl rfl rfl (fun _=>⟨rfl,rfl,rfl⟩) rfl) ?_;obtain ⟨hg10,hm3⟩:=grd_some hm3;refine go_op rfl rfl rfl (o_append_own (a:=_) 3 underlying22 type44 rfl rfl rfl rfl rfl rfl (fun _=>rfl) (fun _=>rfl) hg10 (app_len hg10 rfl)) ?_;rintro _ _ ⟨a_r1,m_r1,cap_r1,rfl,rfl⟩;refine go_ms (ms':=[_,box b3 44 [_,_,_,_],box b2 24 [_,_],_,box b1 24 [_,_]]) rfl ?_;refine zq1 ?_;refine zst 2 ?_;refine go_ms (ms':=[_,box b3 44 [_,_,_,_],box b2 24 [_,_],_,box b1 24 [_,_]]) rfl ?_;refine zq3 ?_;obtain ⟨hg11,hm3⟩:=grd_some hm3;refine zq3 ?_;exact ⟨_,(_,_,_),hm3,⟨rfl,trivial⟩,⟨rfl,rfl,rfl,rfl,trivial⟩,[_,_],rfl⟩
  ·refine g_exit ?_
   exact ⟨_,(_,_,_),some_eq hj1,trivial,⟨rfl,rfl,rfl,trivial⟩,[],rfl⟩
 ·rintro ⟨z1,l1⟩ ⟨a_r1,m_r1,cap_r1⟩ hst
  subst hst;refine k_norm (L':=[(4,_),(6,_),(7,_)]) (ms':=[box b2 24 [.v (.slice a_r1 m_r1 cap_r1),.i64 z1],arr a_r1 m_r1 cap_r1 44 4 ANd.d l1,_]) rfl rfl ?_;refine zq4 ?_;refine zst 2 ?_;refine go_ms (ms':=[box b2 24 [_,_],_,box b1 24 [_,_]]) rfl ?_;refine zq2 ?_;refine g_ret ?_
  have hq1:=some_eq hm1
  obtain ⟨rfl,rfl⟩:=Prod.mk.inj hq1;exact retK (ret_many (ds:=[_,_]) rfl (by decide) ⟨ret_cell 2 rfl rfl rfl isAgg24 sizeOf24 rfl,⟨ret_tmp rfl,rfl⟩⟩ (permA 1 rfl permN)) ⟨_,_,_,rfl,rfl⟩
noncomputable def m_rb_Below (a1:ATy) (bv1:ATy):Option Bool:=
 (m_rg_Graft a1 bv1).bind fun (x1,x2) =>
 grd (InR (bv1.root+x2)) <|
 (m_rb_Holds (⟨x1.l,x1.root⟩:ATy) [a1.root] [(bv1.root+x2)]).bind fun x3 =>
 some x3
theorem w_rb_Below {a1:ATy} {bv1:ATy} {r_1:Bool} (hm:m_rb_Below a1 bv1=some r_1):Fn0 Tryz.prog 28 [ATy.d a1,ATy.d bv1] (.bool r_1):=by
 unfold m_rb_Below at hm;refine fn_intro func28 rfl ntmps28 rfl fun H0 fr w0=>?_;refine zq10 ?_;obtain ⟨⟨x1,x2⟩,hx1,hm⟩:=bS hm;refine zc0 (w_rg_Graft hx1) ?_;refine zq3 ?_;refine zal24a fun b1=>?_;refine zst 0 ?_;refine go_ms (ms':=[box b1 24 [_,_]]) rfl ?_;refine zq7 ?_;refine go_p rfl rfl rfl (zs1 D.i64) ?_;refine zq3 ?_;obtain ⟨hg2,hm⟩:=grd_some hm;refine zq1 ?_;refine go_p rfl rfl rfl (zs1 D.i64) ?_;obtain ⟨x3,hx3,hm⟩:=bS hm;refine zc0 (w_rb_Holds hx3) ?_;refine zq2 ?_
 cases hm;exact g_ret zr1
noncomputable def m_graph_Vars_r1 (t1:ATy):List Int->(List Int)->Option (List Int)
 | [],l2 =>
  some l2
 | x2::rr,l2 =>
  (idx t1.l x2).bind fun x3 =>
  bif (decide (x3.kind=11)) then
   grd ((l2.length+([x3.a]:List _).length)*8<=140737488355328) <|
   m_graph_Vars_r1 t1 rr (l2++[x3.a])
  else
   m_graph_Vars_r1 t1 rr l2
noncomputable def m_graph_Vars (t1:ATy):Option (List Int):=
 (m_graph_May t1).bind fun x1 =>
 bif (!decide (x1=0)) then
  some []
 else
  ((m_below t1 t1.root).bind fun xs1 =>
  m_graph_Vars_r1 t1 xs1 []:Option (List Int)).bind fun l1 =>
  grd (l1.length<4611686018427387904) <|
  some (Lib.compact (List.mergeSort l1 fun x y=>decide (x<=y)))
theorem w_graph_Vars {t1:ATy} {r_1:(List Int)} (hm:m_graph_Vars t1=some r_1):Fn0 Tryz.prog 71 [ATy.d t1] (.list 1 D.i64 r_1):=by
 unfold m_graph_Vars at hm;refine fn_intro func71 rfl ntmps71 rfl fun H0 fr w0=>?_;refine zq4 ?_;refine go_conv (nilE (i:=2) (sz:=1) (f:=D.i64) rfl).refines ?_;refine zq5 ?_;obtain ⟨x1,hx1,hm⟩:=bS hm;refine zc0 (w_graph_May hx1) ?_;refine zq2 ?_;refine zcn hm (fun hc1 hm=>?_) (fun hc1 hm=>?_)
 ·refine zq3 ?_
  refine go_conv (nilE (i:=2) (sz:=1) (f:=D.i64) rfl).refines ?_;refine gNl ?_
  cases hm;exact g_ret zr1
 ·refine zq3 ?_
  refine zal25b fun b1=>?_;refine go_conv (refines_newarr (T:=3) (sz:=1) (f:=D.i64)) ?_;refine zq7 ?_;refine go_p rfl rfl rfl (o_call0 call107 rfl w_below) ?_;refine gNl ?_;obtain ⟨o_1,hj1,hm1⟩:=bS hm;refine g_cut_m [(3,_)] [] (fun (st:(List Int)) (hid:(Option Addr×Nat×Nat))=>match st,hid with | l1,(a_r1,m_r1,cap_r1)=>[]) (fun F (st:(List Int)) (hid:(Option Addr×Nat×Nat))=>match st,hid with | l1,(a_r1,m_r1,cap_r1)=>[arr a_r1 m_r1 cap_r1 3 1 D.i64 l1,box b1 25 [.v (.slice a_r1 m_r1 cap_r1)]]) (fun st=>st=o_1) ⟨rfl,trivial⟩ trivial ?_ ?_
  ·refine g_block ?_
   obtain ⟨xs1,hx2,hj1⟩:=bS hj1;refine g_range_m (fun (p:Int)=>[.i64 p]) [] (fun F (st:(List Int)) (hid:(Option Addr×Nat×Nat))=>match st,hid with | l2,(a_r1,m_r1,cap_r1)=>[arr a_r1 m_r1 cap_r1 3 1 D.i64 l2,box b1 25 [.v (.slice a_r1 m_r1 cap_r1)]]) (_,_,_) hj1 trivial rfl rfl call138 (it_below hx2) (fun _=>rfl) rfl ?_ ?_
   ·rintro H0r frr ror w0r hrr x2 rr l2 ⟨a_r1,m_r1,cap_r1⟩ hj1
    rw [m_graph_Vars_r1] at hj1;refine g_norm (ms':=[arr a_r1 m_r1 cap_r1 3 1 D.i64 l2,box b1 25 [.v (.slice a_r1 m_r1 cap_r1)]]) rfl rfl ?_;refine zq3 ?_
    intro H0r frr ror w0r hrr
    refine zq6 ?_;obtain ⟨x3,hx3,hj1⟩:=bS hj1;refine zq2 ?_;refine zal44a fun b2=>?_;refine zst 0 ?_;refine go_ms (ms':=[box b2 44 [_,_,_,_],_,box b1 25 [_]]) rfl ?_;refine zq7 ?_;refine zcn hj1 (fun hc2 hj1=>?_) (fun hc2 hj1=>?_)
    ·refine zq4 ?_
     refine go_p rfl rfl rfl (zs1 D.i64) ?_;obtain ⟨hg4,hj1⟩:=grd_some hj1;refine go_op rfl rfl rfl (o_append_own (a:=_) 1 underlying25 type3 rfl rfl rfl rfl rfl rfl (fun _=>rfl) (fun _=>rfl) hg4 (app_len hg4 rfl)) ?_;rintro _ _ ⟨a_r1,m_r1,cap_r1,rfl,rfl⟩;refine go_ms (ms':=[box b2 44 [_,_,_,_],_,box b1 25 [_]]) rfl ?_;refine zst 2 ?_;refine go_ms (ms':=[box b2 44 [_,_,_,_],_,box b1 25 [_]]) rfl ?_;refine gNl ?_;exact ⟨_,(_,_,_),hj1,[_],rfl⟩
    ·refine gSp ?_
     exact ⟨_,(_,_,_),hj1,[_],rfl⟩
   ·rintro l2 ⟨a_r1,m_r1,cap_r1⟩ hj1
    rw [m_graph_Vars_r1] at hj1;refine k_norm (ms':=[arr a_r1 m_r1 cap_r1 3 1 D.i64 l2,box b1 25 [.v (.slice a_r1 m_r1 cap_r1)]]) rfl rfl ?_;exact ⟨_,(_,_,_),some_eq hj1,trivial,⟨rfl,trivial⟩,[],rfl⟩
  ·rintro l1 ⟨a_r1,m_r1,cap_r1⟩ hst
   subst hst;refine k_norm (L':=[(3,_)]) (ms':=[arr a_r1 m_r1 cap_r1 3 1 D.i64 l1,box b1 25 [.v (.slice a_r1 m_r1 cap_r1)]]) rfl rfl ?_;refine zq3 ?_;obtain ⟨hg5,hm1⟩:=grd_some hm1;refine go_op rfl rfl rfl (o_call_own [0] call98 rfl rfl (getL_c rfl getL_n) (sh_Sort hg5) (by rintro _ _ ⟨_,rfl⟩;rfl)) ?_;rintro _ _ ⟨_,⟨rfl,rfl⟩,rfl⟩;refine go_ms (ms':=[_,box b1 25 [_]]) rfl ?_;refine zq4 ?_;refine go_op rfl rfl rfl (o_call_own [0] call99 rfl rfl (getL_c rfl getL_n) sh_Compact (by rintro _ _ ⟨_,_,rfl⟩;rfl)) ?_;rintro _ _ ⟨_,⟨m_r1,rfl,rfl⟩,rfl⟩;refine go_ms (ms':=[_,box b1 25 [_]]) rfl ?_;refine zq2 ?_;refine g_thaw 0 rfl rfl ?_;rintro rfl;refine g_conv (peekE (i:=2) 0 rfl rfl rfl).refines ?_
   cases hm1;exact g_ret zr1
noncomputable def m_graph_Ground (t1:ATy):Option Bool:=
 (m_graph_May t1).bind fun x1 =>
 (bif (decide (x1=0)) then ((m_graph_Vars t1).bind fun x2 =>
 some (decide ((x2.length:Int)=0))) else (some false)).bind fun p1 =>
 some p1
theorem w_graph_Ground {t1:ATy} {r_1:Bool} (hm:m_graph_Ground t1=some r_1):Fn0 Tryz.prog 36 [ATy.d t1] (.bool r_1):=by
 unfold m_graph_Ground at hm;refine fn_intro func36 rfl ntmps36 rfl fun H0 fr w0=>?_;refine zq8 ?_;obtain ⟨x1,hx1,hm⟩:=bS hm;refine zc0 (w_graph_May hx1) ?_;refine zq2 ?_;obtain ⟨p1,hp_1,hm⟩:=bS hm;refine go_two [] 5 11 p1 (t:=6) trivial rfl (fun hg_1 hk1=>?_) (fun hg_1 hk1=>?_) ?_
 ·replace hp_1:=cond_t hg_1 hp_1
  refine zq1 ?_;obtain ⟨x2,hx2,hp_1⟩:=bS hp_1;refine zcw (w_graph_Vars hx2) ?_;refine zq3 ?_;exact zgb hk1 hp_1
 ·replace hp_1:=cond_f hg_1 hp_1
  refine zq5 ?_;exact zgb hk1 hp_1
 refine zq2 ?_
 cases hm;exact g_ret zr1
end Go.Proofs.YtkfnogdccpcmhaaGreatDoor
namespace Go.Proofs.YtkfnogdccpcmhaaGreatDoor
open Go.V Tryz
open Classical
theorem FUv:FU=18446744073709551616:=rfl
theorem bt (b c:Bool):(bif b then some true else some c:Option Bool)=some (b||c):=by cases b <;> rfl
theorem bf (b c:Bool):(bif b then some c else some false:Option Bool)=some (b&&c):=by cases b <;> rfl
def smallB (c:UInt8):Bool:=(decide (97<=(c.toNat:Int))&&decide ((c.toNat:Int)<=122))||decide ((c.toNat:Int)=95)
def greatB (c:UInt8):Bool:=decide (65<=(c.toNat:Int))&&decide ((c.toNat:Int)<=90)
def moreB (c:UInt8):Bool:=(smallB c||greatB c)||(decide (48<=(c.toNat:Int))&&decide ((c.toNat:Int)<=57))
def wordP:List UInt8->Nat
 | []=>0
 | c::r=>if smallB c=true\/greatB c=true then 1+(r.takeWhile moreB).length else 0
theorem word_c (c:UInt8) (r:List UInt8):wordP (c::r)=if smallB c=true\/greatB c=true then 1+(r.takeWhile moreB).length else 0:=rfl
theorem word_eq (s:List UInt8) (h:s.length<=1000000000000):m_name_Word s=some (wordP s:Int):=by
 unfold m_name_Word
 rcases s with _ | ⟨c,r⟩
 ·rfl
 ·rw [dF (by simp),cF_,idx_c0,oB]
  simp only [m_name_small,m_name_great,oB,bf];rw [show (((decide (97<=(c.toNat:Int)))&&(decide ((c.toNat:Int)<=122)))||(decide ((c.toNat:Int)=95)))=smallB c from rfl,show ((decide (65<=(c.toNat:Int)))&&(decide ((c.toNat:Int)<=90)))=greatB c from rfl];rw [word_c]
  cases h1:smallB c||greatB c with
  | false =>
   simp only [Bool.or_eq_false_iff] at h1;rw [h1.1,h1.2];simp
  | true =>
   rw [if_pos (by simpa using h1)]
   have:(!smallB c && !greatB c)=false:=by cases hs:smallB c <;> cases hg:greatB c <;> simp_all
   rw [this,cF_];simp only [List.length_cons] at h;refine bnd (loop_while (φ:=m_name_Word_l1 (c::r)) (l:=c::r) moreB (fun i=>(i:Int)) ?_ ?_ FU 1 (by simp) (by rw [FUv];simp;omega)) rfl
   ·intro n i x hx hi
    simp only [List.length_cons] at hi;simp only [m_name_Word_l1];rw [dT (by simp only [List.length_cons];omega),cT,getI hx,oB];simp only [m_name_more,m_name_small,m_name_great,oB,bt]
    constructor
    ·intro hq
     simp only [moreB,smallB,greatB] at hq;rw [hq,cT,grd_pos (by omega)]
    ·intro hq
     simp only [moreB,smallB,greatB] at hq;rw [hq,cF_]
   ·intro n
    simp only [m_name_Word_l1];rw [dF (by omega),cF_,oB,cF_]
theorem rword_eq (s:List UInt8) (h:s.length<=1000000000000):m_ra_Word s=some (wordP s:Int):=by
 unfold m_ra_Word
 rcases s with _ | ⟨c,r⟩
 ·rfl
 ·rw [dF (by simp;omega),cF_,idx_c0,oB]
  simp only [m_ra_small,m_ra_great,oB,bf];rw [show (((decide (97<=(c.toNat:Int)))&&(decide ((c.toNat:Int)<=122)))||(decide ((c.toNat:Int)=95)))=smallB c from rfl,show ((decide (65<=(c.toNat:Int)))&&(decide ((c.toNat:Int)<=90)))=greatB c from rfl];rw [word_c]
  cases h1:smallB c||greatB c with
  | false =>
   simp only [Bool.or_eq_false_iff] at h1;rw [h1.1,h1.2];simp
  | true =>
   rw [if_pos (by simpa using h1)]
   have:(!smallB c && !greatB c)=false:=by cases hs:smallB c <;> cases hg:greatB c <;> simp_all
   rw [this,cF_];simp only [List.length_cons] at h;refine bnd (loop_while (φ:=m_ra_Word_l1 (c::r)) (l:=c::r) moreB (fun i=>(i:Int)) ?_ ?_ FU 1 (by simp) (by rw [FUv];simp;omega)) rfl
   ·intro n i x hx hi
    simp only [List.length_cons] at hi;simp only [m_ra_Word_l1];rw [dT (by simp only [List.length_cons];omega),cT,getI hx,oB];simp only [m_ra_small,m_ra_great,oB,bt,bf]
    constructor
    ·intro hq
     simp only [moreB,smallB,greatB] at hq;rw [hq,cT,grd_pos (by omega)]
    ·intro hq
     simp only [moreB,smallB,greatB] at hq;rw [hq,cF_]
   ·intro n
    simp only [m_ra_Word_l1];rw [dF (by omega),cF_,oB,cF_]
def keysL:List (List UInt8):=match m_name_Keywords with | some l=>l | none=>[]
theorem keys_eq:m_name_Keywords=some keysL:=rfl
theorem rkeys_eq:m_ra_Keywords=some keysL:=rfl
theorem isKey_eq (l:List (List UInt8)) (s:List UInt8) (h:l.length<=1000):m_cnS l s=some (decide (s∈l)):=by
 unfold m_cnS m_ixS
 have e:=loop_find (φ:=m_ixS_l1 l s) (l:=l) (fun i=>(i:Int)) (fun x=>decide (s=x)) (by
  intro n i x hx hi
  simp only [m_ixS_l1];rw [dT (show (i:Int)<l.length by omega),cT,getI hx,oB]
  constructor
  ·intro hq;rw [show decide (s=x)=false from by simpa using hq,cF_,grd_pos (by omega)]
  ·intro hq;rw [show decide (s=x)=true from by simpa using hq,cT]) (by
  intro n
  simp only [m_ixS_l1];rw [dF (by omega),cF_]) (by rw [FUv];omega)
 rw [bind_of e]
 cases hf:l.findIdx? (fun x=>decide (s=x)) with
 | none =>
  rw [List.findIdx?_eq_none_iff] at hf
  show some (decide _)=_
  congr 1
  rw [dF (by omega),dF]
  intro hs
  have:=hf s hs
  simp at this
 | some k =>
  rw [List.findIdx?_eq_some_iff_getElem] at hf;obtain ⟨hk,h1,_⟩:=hf
  show some (decide _)=_
  congr 1
  rw [dT (by omega),dT];simp only [decide_eq_true_eq] at h1;rw [h1];exact List.getElem_mem hk
theorem rIsKey_eq (l:List (List UInt8)) (s:List UInt8) (h:l.length<=1000):m_ra_In s l=some (decide (s∈l)):=by
 unfold m_ra_In;refine bnd (loop_any (φ:=m_ra_In_l1 s l) (l:=l) true (fun _ x=>x=s) ?_ ?_ (by rw [FUv];omega)) ?_
 ·intro n i x hx hi
  simp only [m_ra_In_l1];rw [dT (by omega),cT,getI hx,oB]
  constructor
  ·intro hq;rw [dF hq,cF_,grd_pos (by omega)]
  ·intro hq;rw [dT hq,cT]
 ·intro n
  simp only [m_ra_In_l1];rw [dF (by omega),cF_]
 ·by_cases hs:s∈l
  ·obtain ⟨i,hi,h2⟩:=List.getElem_of_mem hs
   rw [if_pos ⟨i,s,by rw [<- h2];exact List.getElem?_eq_getElem hi,rfl⟩,dT hs];rfl
  ·rw [if_neg,dF hs];rfl
   rintro ⟨i,x,h1,rfl⟩;exact hs (List.mem_of_getElem? h1)
def headP (p:UInt8->Bool):List UInt8->Bool
 | []=>false
 | c::_=>p c
def wholeP (s:List UInt8):Bool:=decide (s≠[])&&decide (s.length<=20)&&decide (wordP s=s.length)
def nameP (s:List UInt8):Bool:=wholeP s&&headP smallB s && !decide (s∈keysL)
def tagP (s:List UInt8):Bool:=wholeP s&&headP greatB s
theorem whole_eq (s:List UInt8):m_name_whole s=some (wholeP s):=by
 unfold m_name_whole wholeP
 by_cases h1:s=[]
 ·subst h1;rfl
 by_cases h2:s.length<=20
 ·rw [dF h1,dT (show (s.length:Int)<=20 by omega),word_eq s (by omega)]
  simp only [Bool.not_false,Bool.true_and,cT,oB,dT (show s≠[] from h1),dT h2]
  congr 1
  exact decide_eq_decide.2 (by omega)
 ·rw [dF (show ¬ (s.length:Int)<=20 by omega),dF h2];simp
theorem name_eq (s:List UInt8):m_name_Name s=some (nameP s):=by
 unfold m_name_Name nameP;rw [whole_eq,oB]
 cases hw:wholeP s with
 | false=>rfl
 | true =>
  rcases s with _ | ⟨c,r⟩
  ·simp [wholeP] at hw
  ·rw [cT,idx_c0,oB]
   simp only [m_name_small,oB,m_name_Keyword,keys_eq,Bool.true_and];rw [isKey_eq _ _ (by decide),oB,oB,bf,oB];rfl
theorem tag_eq (s:List UInt8):m_name_Tag s=some (tagP s):=by
 unfold m_name_Tag tagP;rw [whole_eq,oB]
 cases hw:wholeP s with
 | false=>rfl
 | true =>
  rcases s with _ | ⟨c,r⟩
  ·simp [wholeP] at hw
  ·rw [cT,idx_c0,oB];rfl
theorem rwhole_eq (s:List UInt8):(bif ((decide (0<(s.length:Int)))&&(decide ((s.length:Int)<=20))) then ((m_ra_Word s).bind fun x1=>some (decide (x1=(s.length:Int)))) else (some false))=some (wholeP s):=by
 unfold wholeP
 by_cases h1:s=[]
 ·subst h1;rfl
 have h0:0<s.length:=List.length_pos_iff.2 h1
 by_cases h2:s.length<=20
 ·rw [dT (show 0<(s.length:Int) by omega),dT (show (s.length:Int)<=20 by omega),rword_eq s (by omega)]
  simp only [Bool.true_and,cT,oB,dT (show s≠[] from h1),dT h2]
  congr 1
  exact decide_eq_decide.2 (by omega)
 ·rw [dF (show ¬ (s.length:Int)<=20 by omega),dF h2];simp
theorem rname_eq (s:List UInt8):m_ra_Name s=some (nameP s):=by
 unfold m_ra_Name nameP;refine bnd (rwhole_eq s) ?_
 cases hw:wholeP s with
 | false=>rfl
 | true =>
  rcases s with _ | ⟨c,r⟩
  ·simp [wholeP] at hw
  ·rw [cT,idx_c0,oB]
   simp only [m_ra_small,oB,m_ra_Keyword,rkeys_eq,Bool.true_and];rw [rIsKey_eq _ _ (by decide),oB,oB,bf,oB];rfl
theorem rtag_eq (s:List UInt8):m_ra_Tag s=some (tagP s):=by
 unfold m_ra_Tag tagP;refine bnd (rwhole_eq s) ?_
 cases hw:wholeP s with
 | false=>rfl
 | true =>
  rcases s with _ | ⟨c,r⟩
  ·simp [wholeP] at hw
  ·rw [cT,idx_c0,oB];rfl
theorem sameInts_eq (a b:List Int) (h:a.length<=3000):m_ba_SameInts a b=some (decide (a=b)):=by
 unfold m_ba_SameInts;simp only [Bool.cond_eq_ite,Bool.not_eq_true',decide_eq_false_iff_not]
 by_cases hl:a.length=b.length
 ·rw [if_neg (by omega)]
  refine bnd (loop_all (φ:=m_ba_SameInts_l1 a b) (l:=a) false (fun i x=>b[i]? = some x) ?_ ?_ (by rw [FUv];omega)) ?_
  ·intro n i x hx hi
   simp only [m_ba_SameInts_l1]
   have hy:b[i]? = some b[i]:=List.getElem?_eq_getElem (by omega)
   rw [dT (by omega),cT,getI hx,oB,getI hy,oB,hy];simp only [Bool.cond_eq_ite,Bool.not_eq_true',decide_eq_false_iff_not]
   constructor
   ·intro h;rw [if_neg (by simpa using (Option.some.inj h).symm),grd_pos (by omega)]
   ·intro h;rw [if_pos (by intro h2;exact h (by rw [h2]))]
  ·intro n
   simp only [m_ba_SameInts_l1];rw [dF (by omega),cF_]
  ·by_cases h3:a=b
   ·subst h3
    rw [if_pos (fun i x h=>h),dT rfl];rfl
   ·rw [if_neg,dF h3];rfl
    intro h4
    refine h3 (List.ext_getElem? fun i=>?_)
    by_cases hi:i<a.length
    ·rw [h4 i a[i] (List.getElem?_eq_getElem hi),List.getElem?_eq_getElem hi]
    ·rw [List.getElem?_eq_none (by omega),List.getElem?_eq_none (by omega)]
 ·rw [if_pos (by omega),dF (fun h=>hl (by rw [h]))]
def fewN (n:ANd):ANd:=⟨n.kind,n.a,n.b,[]++n.l.take 40⟩
def fewC (m:Nat) (l:List ANd):Nat:=if 2000<l.length then 2001 else m
def fewT (m:Nat) (t:ATy):ATy:=⟨(t.l.take (fewC m t.l)).map fewN,t.root⟩
theorem min40 (l:List AFd):sli l 0 (if 40<(l.length:Int) then 40 else (l.length:Int))=some (l.take 40):=by
 by_cases h:40<(l.length:Int)
 ·rw [if_pos h];exact sli_take (k:=40) (by omega)
 ·rw [if_neg h,sli_take (by omega),List.take_of_length_le (by omega),List.take_of_length_le (by omega)]
theorem few_eq (t:ATy) (m:Nat) (M:Int) (hM:M=m) (hm:m<=2000):m_lg_Few t M=some (fewT m t):=by
 subst hM;unfold m_lg_Few fewT
 have hC:fewC m t.l=2001/\2000<t.l.length\/fewC m t.l=m/\¬ 2000<t.l.length:=by unfold fewC;split <;> simp_all
 have hL:(t.l.take (fewC m t.l)).length<=2001/\(t.l.take (fewC m t.l)).length<=t.l.length/\(t.l.take (fewC m t.l)).length<=fewC m t.l:=by rw [List.length_take];omega
 rw [loop_map (φ:=fun n i s=>m_lg_Few_l1 t (m:Int) n (i,s,t.root)) (l:=t.l.take (fewC m t.l)) fewN (fun s=>(s,t.root)) 0 ?_ ?_ (by rw [FUv];omega) [] rfl]
 ·rfl
 ·intro n i x s hx hi hs
  have hx2:t.l[i]? = some x:=by
   rw [List.getElem?_take,if_pos (by omega)] at hx;exact hx
  have h40:(x.l.take 40).length<=40:=by rw [List.length_take];omega
  simp only [m_lg_Few_l1];rw [dT (show (i:Int)<t.l.length by omega),Bool.true_and,show (decide ((i:Int)<(m:Int))||(decide (2000<(t.l.length:Int))&&decide ((i:Int)<=2000)))=true by
   rw [Bool.or_eq_true,Bool.and_eq_true,decide_eq_true_eq,decide_eq_true_eq,decide_eq_true_eq];omega,cT,getI hx2,oB,min40,oB,grd_pos (by omega),grd_pos (by simp only [List.length_cons,List.length_nil];omega),grd_pos (by omega)]
  rfl
 ·intro n s hs
  simp only [m_lg_Few_l1];rw [show (decide (((t.l.take (fewC m t.l)).length:Int)<t.l.length)&&(decide (((t.l.take (fewC m t.l)).length:Int)<(m:Int))||(decide (2000<(t.l.length:Int))&&decide (((t.l.take (fewC m t.l)).length:Int)<=2000))))=false by
   rw [List.length_take,Bool.and_eq_false_iff,Bool.or_eq_false_iff,Bool.and_eq_false_iff,decide_eq_false_iff_not,decide_eq_false_iff_not,decide_eq_false_iff_not,decide_eq_false_iff_not];omega,cF_]
theorem fewT_len (m:Nat) (hm:m<=2000) (t:ATy):(fewT m t).l.length<=2001:=by unfold fewT fewC;simp only [List.length_map,List.length_take];split <;> omega
def NB (n:ANd):Prop:=n.l.length<=40
theorem fewN_nb (n:ANd):NB (fewN n):=by unfold fewN NB;simp;omega
theorem fewT_nb (m:Nat) (t:ATy):∀ n∈(fewT m t).l,NB n:=by
 intro n hn
 obtain ⟨k,_,rfl⟩:=List.mem_map.1 hn;exact fewN_nb k
theorem fewN_fewN (n:ANd):fewN (fewN n)=fewN n:=by
 unfold fewN;simp only [List.nil_append,ANd.mk.injEq,true_and];exact List.take_of_length_le (by rw [List.length_take];omega)
theorem fewT_fewT (m:Nat) (hm:m<=2000) (t:ATy):fewT m (fewT m t)=fewT m t:=by
 have h1:=fewT_len m hm t
 have h2:fewC m (fewT m t).l=fewC m t.l:=by
  unfold fewC
  have:(fewT m t).l.length=min (fewC m t.l) t.l.length:=by unfold fewT;simp
  rw [this];unfold fewC
  split <;> split <;> omega
 have h3:(fewT m t).l.length<=fewC m t.l:=by unfold fewT;simp;omega
 show (⟨((fewT m t).l.take (fewC m (fewT m t).l)).map fewN,t.root⟩:ATy)=_
 rw [h2,List.take_of_length_le h3];unfold fewT;simp only [List.map_map]
 congr 1
 exact List.map_congr_left fun n _=>fewN_fewN n
theorem fewT_small (m:Nat) (t:ATy) (h:(fewT m t).l.length<=2000):(fewT m t).l.length<=m:=by
 unfold fewT fewC at h ⊢;simp only [List.length_map,List.length_take] at h ⊢
 split at h <;> split <;> omega
def pB (k:Int):Bool:=(decide (k=6)||decide (k=9))||decide (k=10)
def wB (k:Int):Bool:=decide (k=7)||decide (k=8)
def kidsL (n:ANd):List Int:=bif pB n.kind then [n.a,n.b] else bif wB n.kind then n.l.map (·.at_) else []
theorem kids_eq (n:ANd) (h:NB n):m_graph_Kids n=some (kidsL n):=by
 unfold m_graph_Kids kidsL m_graph_pair m_graph_wide;unfold NB at h;rw [oB,oB]
 change (bif pB n.kind then _ else bif wB n.kind then _ else _)=_
 cases pB n.kind
 ·cases wB n.kind
  ·rfl
  ·rw [cF_,cT,cF_,cT,loop_map (φ:=fun k i s=>m_graph_Kids_l1 n k (i,s)) (l:=n.l) (·.at_) id 0 ?_ ?_ (by rw [FUv];omega) [] rfl]
   ·rfl
   ·intro k i x s hx hi hs
    simp only [m_graph_Kids_l1];rw [dT (show (i:Int)<n.l.length by omega),cT,getI hx,oB,grd_pos (by simp only [List.length_cons,List.length_nil];omega),grd_pos (by omega)]
   ·intro k s hs
    simp only [m_graph_Kids_l1];rw [dF (by omega),cF_];rfl
 ·rfl
theorem rkids_eq (n:ANd) (h:NB n):m_rg_Kids n=some (kidsL n):=by
 unfold m_rg_Kids kidsL;unfold NB at h
 change (bif pB n.kind then _ else bif wB n.kind then _ else _)=_
 cases pB n.kind
 ·cases wB n.kind
  ·rfl
  ·rw [cF_,cT,cF_,cT,loop_map (φ:=fun k i s=>m_rg_Kids_l1 n k (i,s)) (l:=n.l) (·.at_) id 0 ?_ ?_ (by rw [FUv];omega) [] rfl]
   ·rfl
   ·intro k i x s hx hi hs
    simp only [m_rg_Kids_l1];rw [dT (show (i:Int)<n.l.length by omega),cT,getI hx,oB,grd_pos (by simp only [List.length_cons,List.length_nil];omega),grd_pos (by omega)]
   ·intro k s hs
    simp only [m_rg_Kids_l1];rw [dF (by omega),cF_];rfl
 ·rfl
theorem kidsL_len (n:ANd) (h:NB n):(kidsL n).length<=40:=by
 unfold kidsL;unfold NB at h
 cases pB n.kind
 ·cases wB n.kind
  ·simp
  ·simpa using h
 ·simp
def badF (n:ANd) (x:AFd):Bool:=(decide (n.kind=7) && !nameP x.name)||(decide (n.kind=8) && !tagP x.name)
def okF (n:ANd) (i:Nat) (x:AFd):Prop:=badF n x=false/\(0<i->∀ y,n.l[i - 1]? = some y->Op.bytesLess y.name x.name=true)
def namedP (n:ANd):Prop:=∀ i x,n.l[i]? = some x->okF n i x
theorem named_eq (n:ANd) (h:NB n):m_graph_named n=some (decide (namedP n)&&decide ((n.l.length:Int)<=30)):=by
 unfold m_graph_named;unfold NB at h;rw [loop_all (φ:=m_graph_named_l1 n) (l:=n.l) false (okF n) ?_ ?_ (by rw [FUv];omega),oB]
 ·by_cases hp:namedP n
  ·rw [if_pos (show ∀ i x,n.l[i]? = some x->okF n i x from hp),dT hp];rfl
  ·rw [if_neg (show ¬ ∀ i x,n.l[i]? = some x->okF n i x from hp),dF hp];rfl
 ·intro k i x hx hi
  simp only [m_graph_named_l1]
  have e1:((bif (decide (n.kind=7)) then ((m_name_Name x.name).bind fun x3=>some (!x3)) else (some false)).bind fun p1 =>
   (bif p1 then (some true) else ((bif (decide (n.kind=8)) then ((m_name_Tag x.name).bind fun x4=>some (!x4)) else (some false)).bind fun p3=>some p3)))=some (badF n x):=by
   rw [name_eq,tag_eq,oB,oB,bf,oB,bf,oB,bt];rfl
  rw [dT (show (i:Int)<n.l.length by omega),cT,getI hx,oB,<- Option.bind_assoc,e1,oB];unfold okF
  cases hb:badF n x
  ·rw [cF_]
   by_cases h0:0<i
   ·have hy:n.l[i - 1]? = some n.l[i - 1]:=List.getElem?_eq_getElem (by omega)
    rw [dT (show (0:Int)<(i:Int) by omega),cT,grd_pos (by omega),show ((i:Int) - 1)=((i - 1:Nat):Int) by omega,getI hy,oB]
    constructor
    ·rintro ⟨_,h2⟩
     rw [h2 h0 _ hy,Bool.not_true,cF_,grd_pos (by omega)]
    ·intro h2
     cases hl:Op.bytesLess (n.l[i - 1]).name x.name
     ·rfl
     ·exact absurd ⟨rfl,fun _ y hy2=>by rw [hy] at hy2;cases hy2;exact hl⟩ h2
   ·rw [dF (show ¬ (0:Int)<(i:Int) by omega),cF_]
    exact ⟨fun _=>by rw [grd_pos (by omega)],fun h2=>absurd ⟨rfl,fun h3=>absurd h3 h0⟩ h2⟩
  ·rw [cT]
   exact ⟨fun h2=>by simp at h2,fun _=>rfl⟩
 ·intro k
  simp only [m_graph_named_l1];rw [dF (by omega),cF_]
theorem rnamed_eq (n:ANd) (h:NB n):m_rg_right_l1 n FU 0=some (if namedP n then .go () else .ret false):=by
 unfold NB at h;rw [loop_all (φ:=m_rg_right_l1 n) (l:=n.l) false (okF n) ?_ ?_ (by rw [FUv];omega)]
 ·rfl
 ·intro k i x hx hi
  simp only [m_rg_right_l1]
  have e1:((bif (decide (n.kind=7)) then ((m_ra_Name x.name).bind fun x3=>some (!x3)) else (some false)).bind fun p1 =>
   (bif p1 then (some true) else ((bif (decide (n.kind=8)) then ((m_ra_Tag x.name).bind fun x4=>some (!x4)) else (some false)).bind fun p3=>some p3)))=some (badF n x):=by
   rw [rname_eq,rtag_eq,oB,oB,bf,oB,bf,oB,bt];rfl
  rw [dT (show (i:Int)<n.l.length by omega),cT,getI hx,oB,<- Option.bind_assoc,e1,oB];unfold okF
  cases hb:badF n x
  ·rw [cF_]
   by_cases h0:0<i
   ·have hy:n.l[i - 1]? = some n.l[i - 1]:=List.getElem?_eq_getElem (by omega)
    rw [dT (show (0:Int)<(i:Int) by omega),cT,grd_pos (by omega),show ((i:Int) - 1)=((i - 1:Nat):Int) by omega,getI hy,oB,oB,oB]
    constructor
    ·rintro ⟨_,h2⟩
     rw [h2 h0 _ hy,Bool.not_true,cF_,grd_pos (by omega)]
    ·intro h2
     cases hl:Op.bytesLess (n.l[i - 1]).name x.name
     ·rfl
     ·exact absurd ⟨rfl,fun _ y hy2=>by rw [hy] at hy2;cases hy2;exact hl⟩ h2
   ·rw [dF (show ¬ (0:Int)<(i:Int) by omega),cF_,oB,oB,cF_]
    exact ⟨fun _=>by rw [grd_pos (by omega)],fun h2=>absurd ⟨rfl,fun h3=>absurd h3 h0⟩ h2⟩
  ·rw [cT,oB,cT]
   exact ⟨fun h2=>by simp at h2,fun _=>rfl⟩
 ·intro k
  simp only [m_rg_right_l1];rw [dF (by omega),cF_]
def inB (all k:Int):Bool:=decide (k<0)||decide (all<=k)
theorem outKids_eq (l:List Int) (all:Int) (h:l.length<=1000):m_cnI l (fun y0=>m_graph_right_1 y0 all)=some (decide (∃ k∈l,inB all k=true)):=by
 unfold m_cnI m_ixI;rw [loop_find (φ:=m_ixI_l1 l (fun y0=>m_graph_right_1 y0 all)) (l:=l) (fun i=>(i:Int)) (inB all) ?_ ?_ (by rw [FUv];omega)]
 ·rw [oB]
  cases hf:l.findIdx? (inB all) with
  | none =>
   have:¬ ∃ k∈l,inB all k=true:=by
    rintro ⟨c,hc,hne⟩
    have:=List.findIdx?_eq_none_iff.1 hf c hc
    rw [hne] at this;cases this
   rw [dF this];rfl
  | some i =>
   obtain ⟨hi,h1,_⟩:=List.findIdx?_eq_some_iff_getElem.1 hf
   have:∃ k∈l,inB all k=true:=⟨l[i],List.getElem_mem hi,h1⟩
   rw [dT this]
   show some (decide (0<=(i:Int)))=some true
   rw [dT (by omega)]
 ·intro n i x hx hi
  simp only [m_ixI_l1];rw [dT (show (i:Int)<l.length by omega),cT,getI hx,oB,show m_graph_right_1 x all=some (inB all x) from rfl,oB];exact ⟨fun hq=>by rw [hq,cF_,grd_pos (by omega)],fun hq=>by rw [hq,cT]⟩
 ·intro n
  simp only [m_ixI_l1];rw [dF (by omega),cF_]
theorem routKids_eq (l:List Int) (all:Int) (h:l.length<=1000):m_rg_right_l2 all l FU 0=some (if (∃ k∈l,inB all k=true) then .ret false else .go ()):=by
 rw [loop_any (φ:=m_rg_right_l2 all l) (l:=l) false (fun _ k=>inB all k=true) ?_ ?_ (by rw [FUv];omega)]
 ·have e:(∃ (i:Nat) (x:Int),l[i]? = some x/\inB all x=true)↔∃ k∈l,inB all k=true:=by
   constructor
   ·rintro ⟨i,x,h1,h2⟩;exact ⟨x,List.mem_of_getElem? h1,h2⟩
   ·rintro ⟨k,h1,h2⟩;obtain ⟨i,hi⟩:=List.getElem?_of_mem h1;exact ⟨i,k,hi,h2⟩
  by_cases h2:∃ k∈l,inB all k=true
  ·rw [if_pos (e.2 h2),if_pos h2]
  ·rw [if_neg (fun h3=>h2 (e.1 h3)),if_neg h2]
 ·intro n i x hx hi
  simp only [m_rg_right_l2];rw [dT (show (i:Int)<l.length by omega),cT,getI hx,oB,oB,bt,oB]
  change (¬ inB all x=true->(bif inB all x then _ else _)=_)/\(inB all x=true->(bif inB all x then _ else _)=_)
  cases inB all x
  ·exact ⟨fun _=>by rw [cF_,grd_pos (by omega)],fun h=>by cases h⟩
  ·exact ⟨fun h=>absurd rfl h,fun _=>by rw [cT]⟩
 ·intro n
  simp only [m_rg_right_l2];rw [dF (by omega),cF_]
noncomputable def rightB (n:ANd) (all:Int):Bool:=
 !(decide (n.kind<1)||decide (11<n.kind))&&(!((!pB n.kind)&&((!decide (n.b=0))||((!decide (n.kind=11))&&(!decide (n.a=0)))))&&(!(decide (n.kind=11)&&(decide (n.a<0)||decide (999<n.a))) &&
  (!((!wB n.kind)&&decide (0<(n.l.length:Int)))&&((decide (namedP n)&&decide ((n.l.length:Int)<=30)) && !decide (∃ k∈kidsL n,inB all k=true)))))
theorem right_eq (n:ANd) (all:Int) (h:NB n):m_graph_right n all=some (rightB n all):=by
 unfold m_graph_right rightB;rw [show m_graph_pair n.kind=some (pB n.kind) from rfl,show m_graph_wide n.kind=some (wB n.kind) from rfl,oB,oB,named_eq n h,kids_eq n h,oB,oB,outKids_eq _ _ (by have:=kidsL_len n h;omega),oB]
 cases (decide (n.kind<1)||decide (11<n.kind))
 ·cases ((!pB n.kind)&&((!decide (n.b=0))||((!decide (n.kind=11))&&(!decide (n.a=0)))))
  ·cases (decide (n.kind=11)&&(decide (n.a<0)||decide (999<n.a)))
   ·cases ((!wB n.kind)&&decide (0<(n.l.length:Int)))
    ·cases (decide (namedP n)&&decide ((n.l.length:Int)<=30)) <;> rfl
    ·rfl
   ·rfl
  ·rfl
 ·rfl
theorem rright_eq (n:ANd) (all:Int) (h:NB n):m_rg_right n all=some (rightB n all):=by
 unfold m_rg_right rightB;rw [rnamed_eq n h,rkids_eq n h,oB,oB,routKids_eq _ _ (by have:=kidsL_len n h;omega),oB]
 change (bif ((((((decide (n.kind<1))||(decide (11<n.kind)))||(((!pB n.kind)&&(!decide (n.kind=11)))&&(!decide (n.a=0))))||((!pB n.kind)&&(!decide (n.b=0))))||((!wB n.kind)&&(decide (0<(n.l.length:Int)))))||(decide (30<(n.l.length:Int)))) then _ else _)=_
 rw [show decide (30<(n.l.length:Int)) = !decide ((n.l.length:Int)<=30) by rw [<- decide_not];exact decide_eq_decide.2 (by omega)]
 by_cases hn:namedP n
 ·rw [if_pos hn,dT hn]
  by_cases hk:∃ k∈kidsL n,inB all k=true
  ·rw [if_pos hk,dT hk]
   cases decide (n.kind<1) <;> cases decide (11<n.kind) <;> cases pB n.kind <;> cases wB n.kind <;> cases decide (n.kind=11) <;> cases decide (n.a=0) <;> cases decide (n.b=0) <;> cases decide (0<(n.l.length:Int)) <;> cases decide ((n.l.length:Int)<=30) <;> cases decide (n.a<0) <;> cases decide (999<n.a) <;> rfl
  ·rw [if_neg hk,dF hk]
   cases decide (n.kind<1) <;> cases decide (11<n.kind) <;> cases pB n.kind <;> cases wB n.kind <;> cases decide (n.kind=11) <;> cases decide (n.a=0) <;> cases decide (n.b=0) <;> cases decide (0<(n.l.length:Int)) <;> cases decide ((n.l.length:Int)<=30) <;> cases decide (n.a<0) <;> cases decide (999<n.a) <;> rfl
 ·rw [if_neg hn,dF hn]
  cases decide (n.kind<1) <;> cases decide (11<n.kind) <;> cases pB n.kind <;> cases wB n.kind <;> cases decide (n.kind=11) <;> cases decide (n.a=0) <;> cases decide (n.b=0) <;> cases decide (0<(n.l.length:Int)) <;> cases decide ((n.l.length:Int)<=30) <;> cases decide (n.a<0) <;> cases decide (999<n.a) <;> rfl
end Go.Proofs.YtkfnogdccpcmhaaGreatDoor
namespace Go.Proofs.YtkfnogdccpcmhaaGreatDoor
open Go.V Tryz
open Classical
def latB (k:Int):Bool:=decide (k=9)||decide (k=10)
def endk (L:List ANd):Nat->Nat->Bool
 | 0,_=>false
 | k+1,i=>match L[i]? with
  | some n => !latB n.kind||(endk L k n.a.toNat&&endk L k n.b.toNat)
  | none=>false
theorem endk_succ (L:List ANd):∀ (k i:Nat),endk L k i=true->endk L (k+1) i=true
 | 0,i,h=>by simp [endk] at h
 | k+1,i,h=>by
  unfold endk at h ⊢
  cases hq:L[i]? with
  | none=>rw [hq] at h;exact h
  | some n =>
   rw [hq] at h
   simp only at h ⊢
   cases hl:latB n.kind
   ·rfl
   ·rw [hl] at h
    simp only [Bool.not_true,Bool.false_or,Bool.and_eq_true] at h ⊢;exact ⟨endk_succ L k _ h.1,endk_succ L k _ h.2⟩
theorem endk_mono {L:List ANd} {k m i:Nat} (hkm:k<=m) (h:endk L k i=true):endk L m i=true:=by
 induction hkm with
 | refl=>exact h
 | step _ ih=>exact endk_succ L _ _ ih
def Ends (L:List ANd) (i:Nat):Prop:=∃ k,endk L k i=true
def AllEnds (L:List ANd):Prop:=∀ i,i<L.length->Ends L i
def InL (L:List ANd):Prop:=∀ n∈L,∀ k∈kidsL n,0<=k/\k<(L.length:Int)
theorem lat_kids {n:ANd} (h:latB n.kind=true):kidsL n=[n.a,n.b]:=by
 unfold kidsL
 have:pB n.kind=true:=by
  unfold latB at h;unfold pB
  rw [Bool.or_eq_true,decide_eq_true_eq,decide_eq_true_eq] at h
  rcases h with h | h <;> rw [h] <;> rfl
 rw [this];rfl
theorem ends_of {L:List ANd} {i:Nat} {n:ANd} (hi:L[i]? = some n) (h:latB n.kind=true->Ends L n.a.toNat/\Ends L n.b.toNat):Ends L i:=by
 cases hl:latB n.kind with
 | false=>exact ⟨1,by simp [endk,hi,hl]⟩
 | true =>
  obtain ⟨⟨k1,h1⟩,⟨k2,h2⟩⟩:=h hl;exact ⟨max k1 k2+1,by simp [endk,hi,hl,endk_mono (Nat.le_max_left k1 k2) h1,endk_mono (Nat.le_max_right k1 k2) h2]⟩
def cnd (L:List ANd) (l:List Bool) (i:Nat):Bool:=match L[i]? with
 | some n => !latB n.kind||(l.getD n.a.toNat false&&l.getD n.b.toNat false)
 | none=>false
theorem count_set {l:List Bool} {i:Nat} (h:l[i]? = some false):(l.set i true).count true=l.count true+1:=by
 have hi:=(List.getElem?_eq_some_iff.1 h).1
 have h2:=(List.getElem?_eq_some_iff.1 h).2
 rw [List.count_set hi,h2]
 simp
theorem cnd_eq {L:List ANd} {l:List Bool} {i:Nat} {n:ANd} (hR:InL L) (hl:l.length=L.length) (hi:L[i]? = some n) {β:Type} (K:Bool->Option β) :
  ((bif ((!decide (n.kind=9))&&(!decide (n.kind=10))) then (some true) else ((idx l n.a).bind fun x4=>(bif x4 then ((idx l n.b).bind fun x5=>some x5) else (some false)).bind fun p2=>some p2)).bind K)=K (cnd L l i):=by
 have e:((!decide (n.kind=9))&&(!decide (n.kind=10))) = !latB n.kind:=by unfold latB;rw [Bool.not_or]
 rw [e];unfold cnd;rw [hi]
 simp only
 cases hb:latB n.kind with
 | false=>simp
 | true =>
  have hk:=hR n (List.mem_of_getElem? hi)
  rw [lat_kids hb] at hk;obtain ⟨a0,a1⟩:=hk n.a (by simp);obtain ⟨b0,b1⟩:=hk n.b (by simp)
  have ha:l[n.a.toNat]? = some (l[n.a.toNat]'(by omega)):=List.getElem?_eq_getElem (by omega)
  have hb2:l[n.b.toNat]? = some (l[n.b.toNat]'(by omega)):=List.getElem?_eq_getElem (by omega)
  have ia:idx l n.a=some (l[n.a.toNat]'(by omega)):=by rw [<- ha];unfold idx;rw [if_pos a0]
  have ib:idx l n.b=some (l[n.b.toNat]'(by omega)):=by rw [<- hb2];unfold idx;rw [if_pos b0]
  rw [Bool.not_true,cF_,ia,oB,ib,oB,List.getD_eq_getElem?_getD,List.getD_eq_getElem?_getD,ha,hb2]
  cases l[n.a.toNat]'(by omega) <;> simp
theorem pass {t:ATy} (hR:InL t.l) (hlen:t.l.length<=2001) (l0:List Bool) (h0:l0.length=t.l.length) (hs:∀ i:Nat,l0[i]? = some true->Ends t.l i) :
  ∃ m l,m_rg_May_l3 t FU (false,0,l0)=some (m,l)/\l.length=t.l.length/\(∀ i:Nat,l[i]? = some true->Ends t.l i)/\(m=false->l=l0/\∀ j,j<t.l.length->cnd t.l l0 j=true->l0[j]? = some true)/\(m=true->l0.count true<l.count true):=by
 obtain ⟨o,h1,h2⟩:=loop_rng (φ:=fun n i (s:Bool×List Bool)=>m_rg_May_l3 t n (s.1,i,s.2)) (l:=t.l)
  (fun i s=>s.2.length=t.l.length/\(∀ i:Nat,s.2[i]? = some true->Ends t.l i)/\l0.count true<=s.2.count true/\(s.1=false->s.2=l0/\∀ j,j<i->cnd t.l l0 j=true->l0[j]? = some true)/\(s.1=true->l0.count true<s.2.count true))
  (fun o:Bool×List Bool=>o.2.length=t.l.length/\(∀ i:Nat,o.2[i]? = some true->Ends t.l i)/\(o.1=false->o.2=l0/\∀ j,j<t.l.length->cnd t.l l0 j=true->l0[j]? = some true)/\(o.1=true->l0.count true<o.2.count true))
  (by
   rintro n i x ⟨m,l⟩ hx hi ⟨i1,i2,i3,i4,i5⟩
   simp only at i1 i2 i3 i4 i5
   left
   simp only [m_rg_May_l3];rw [dT (show (i:Int)<t.l.length by omega),cT,getI hx,oB,cnd_eq hR i1 hx]
   have hy:l[i]? = some (l[i]'(by omega)):=List.getElem?_eq_getElem (by omega)
   cases hc:cnd t.l l i with
   | false =>
    refine ⟨(m,l),by rw [cF_,oB,cF_,grd_pos (by omega)],i1,i2,i3,fun hm=>⟨(i4 hm).1,fun j hj hcj=>?_⟩,i5⟩
    by_cases hji:j=i
    ·subst hji;rw [<- (i4 hm).1,hc] at hcj;cases hcj
    ·exact (i4 hm).2 j (by omega) hcj
   | true =>
    rw [cT,getI hy,oB,oB]
    cases hv:l[i]'(by omega) with
    | true =>
     refine ⟨(m,l),by rw [Bool.not_true,cF_,grd_pos (by omega)],i1,i2,i3,fun hm=>⟨(i4 hm).1,fun j hj hcj=>?_⟩,i5⟩
     by_cases hji:j=i
     ·subst hji;rw [<- (i4 hm).1,hy,hv]
     ·exact (i4 hm).2 j (by omega) hcj
    | false =>
     rw [hv] at hy
     have hct:=count_set hy
     refine ⟨(true,l.set i true),by rw [Bool.not_false,cT,oB,grd_pos (by omega),Int.toNat_natCast],by simpa using i1,fun j hj=>?_,by simp only;omega,fun h=>(by cases h),fun _=>by simp only;omega⟩
     simp only at hj
     rw [List.getElem?_set] at hj
     by_cases hji:i=j
     ·subst hji
      refine ends_of hx fun hlat=>?_
      have hk:=hR x (List.mem_of_getElem? hx)
      rw [lat_kids hlat] at hk;unfold cnd at hc;rw [hx] at hc;simp only [hlat,Bool.not_true,Bool.false_or,Bool.and_eq_true] at hc;rw [List.getD_eq_getElem?_getD,List.getD_eq_getElem?_getD] at hc
      constructor
      ·refine i2 _ ?_
       cases hq:l[x.a.toNat]? with
       | none=>rw [hq] at hc;simp at hc
       | some v=>rw [hq] at hc;simp at hc;rw [hc.1]
      ·refine i2 _ ?_
       cases hq:l[x.b.toNat]? with
       | none=>rw [hq] at hc;simp at hc
       | some v=>rw [hq] at hc;simp at hc;rw [hc.2]
     ·rw [if_neg hji] at hj;exact i2 j hj)
  (by
   rintro n ⟨m,l⟩ ⟨i1,i2,i3,i4,i5⟩;refine ⟨(m,l),?_,i1,i2,i4,i5⟩;simp only [m_rg_May_l3];rw [dF (by omega),cF_]) (by rw [FUv];omega) (false,l0) ⟨h0,hs,Nat.le_refl _,fun _=>⟨rfl,fun j hj=>by omega⟩,fun h=>by cases h⟩
 obtain ⟨a,b,c,d⟩:=h2;exact ⟨o.1,o.2,h1,a,b,c,d⟩
theorem closed_ends {L:List ANd} {l:List Bool} (hl:l.length=L.length) (hR:InL L) (hc:∀ j,j<L.length->cnd L l j=true->l[j]? = some true):∀ (k i:Nat),i<L.length->endk L k i=true->l[i]? = some true
 | 0,i,_,h=>by simp [endk] at h
 | k+1,i,hi,h=>by
  refine hc i hi ?_;unfold endk at h;unfold cnd
  have hx:L[i]? = some L[i]:=List.getElem?_eq_getElem hi
  rw [hx] at h ⊢
  simp only at h ⊢
  cases hlat:latB (L[i]).kind with
  | false=>rfl
  | true =>
   have hk:=hR L[i] (List.getElem_mem hi)
   rw [lat_kids hlat] at hk;obtain ⟨a0,a1⟩:=hk (L[i]).a (by simp);obtain ⟨b0,b1⟩:=hk (L[i]).b (by simp);rw [hlat] at h;simp only [Bool.not_true,Bool.false_or,Bool.and_eq_true] at h ⊢
   have e1:=closed_ends hl hR hc k _ (by omega) h.1
   have e2:=closed_ends hl hR hc k _ (by omega) h.2
   rw [List.getD_eq_getElem?_getD,List.getD_eq_getElem?_getD,e1,e2];exact ⟨rfl,rfl⟩
theorem rounds {t:ATy} (hR:InL t.l) (hlen:t.l.length<=2001) :
  ∃ l,m_rg_May_l2 t FU (true,List.replicate t.l.length false)=some l/\l.length=t.l.length/\∀ i,i<t.l.length->(l[i]? = some true↔Ends t.l i):=by
 obtain ⟨l,h1,h2,h3,h4⟩:=loop_inv (φ:=m_rg_May_l2 t) (fun s=>2*(t.l.length - s.2.count true)+(if s.1=true then 1 else 0))
  (fun s=>s.2.length=t.l.length/\(∀ i:Nat,s.2[i]? = some true->Ends t.l i)/\(s.1=false->∀ j,j<t.l.length->cnd t.l s.2 j=true->s.2[j]? = some true))
  (fun l=>l.length=t.l.length/\(∀ i:Nat,l[i]? = some true->Ends t.l i)/\∀ j,j<t.l.length->cnd t.l l j=true->l[j]? = some true)
  (by
   rintro n ⟨m,l⟩ ⟨i1,i2,i3⟩
   simp only at i1 i2 i3
   cases m with
   | false=>exact .inr ⟨l,⟨i1,i2,i3 rfl⟩,by simp only [m_rg_May_l2];rfl⟩
   | true =>
    obtain ⟨m,l',e1,e2,e3,e4,e5⟩:=pass hR hlen l i1 i2;refine .inl ⟨(m,l'),⟨e2,e3,fun hm=>?_⟩,?_,?_⟩
    ·simp only at hm ⊢
     obtain ⟨rfl,h⟩:=e4 hm;exact h
    ·have hc1:l'.count true<=t.l.length:=by rw [<- e2];exact List.count_le_length
     cases m with
     | false=>obtain ⟨rfl,_⟩:=e4 rfl;simp
     | true=>have:=e5 rfl;simp;omega
    ·simp only [m_rg_May_l2]
     rw [cT,e1,oB])
  FU (true,List.replicate t.l.length false) ⟨by simp,fun i hi=>by rw [List.getElem?_replicate] at hi;split at hi <;> simp at hi,fun h=>by cases h⟩ (by rw [FUv];simp only [List.count_replicate];simp;omega)
 exact ⟨l,h1,h2,fun i hi=>⟨h3 i,fun ⟨k,hk⟩=>closed_ends h2 hR h4 k i hi hk⟩⟩
theorem allTrue_eq (l:List Bool) (h:l.length<=2001):m_rg_May_l4 l FU 0=some (if (∀ b∈l,b=true) then .go () else .ret 4):=by
 rw [loop_all (φ:=m_rg_May_l4 l) (l:=l) 4 (fun _ b=>b=true) ?_ ?_ (by rw [FUv];omega)]
 ·have e:(∀ (i:Nat) (x:Bool),l[i]? = some x->x=true)↔∀ b∈l,b=true:=⟨fun h b hb=>by obtain ⟨i,hi⟩:=List.getElem?_of_mem hb;exact h i b hi,fun h i x hx=>h x (List.mem_of_getElem? hx)⟩
  by_cases h2:∀ b∈l,b=true
  ·rw [if_pos (e.2 h2),if_pos h2]
  ·rw [if_neg (fun h3=>h2 (e.1 h3)),if_neg h2]
 ·intro n i x hx hi
  simp only [m_rg_May_l4];rw [dT (show (i:Int)<l.length by omega),cT,getI hx,oB]
  cases x
  ·exact ⟨fun h=>(by cases h),fun _=>by rw [Bool.not_false,cT]⟩
  ·exact ⟨fun _=>by rw [Bool.not_true,cF_,grd_pos (by omega)],fun h=>absurd rfl h⟩
 ·intro n
  simp only [m_rg_May_l4];rw [dF (by omega),cF_]
end Go.Proofs.YtkfnogdccpcmhaaGreatDoor
