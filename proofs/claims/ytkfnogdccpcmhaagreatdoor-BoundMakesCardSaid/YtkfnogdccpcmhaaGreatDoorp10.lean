/- Part 10 of the proof: a program logic, what the functions compute, and what these answer; no condition. -/
import Derived.Test.YtkfnogdccpcmhaaGreatDoorp9
set_option linter.unusedVariables false
set_option linter.unusedSimpArgs false
set_option maxRecDepth 100000
set_option maxHeartbeats 2000000
namespace Go.Proofs.YtkfnogdccpcmhaaGreatDoor
open Go.V Tryz
theorem w_pair {k:Int}:Fn0 Tryz.prog 83 [.i64 k] (.clo (.func 114) [] [.ref (.i64 k)]):=by
 refine fn_intro func83 rfl ntmps83 rfl fun H0 fr w0=>?_;refine zq7 ?_;refine go_p rfl rfl rfl (o_makeFunc (fs:=[]) (cs:=[_]) rfl rfl) ?_;refine zq2 ?_;refine g_ret ?_;exact retK (ret_one' rfl (ret_tmp rfl) (perm_drop _)) rfl
noncomputable def m_graph_GraftO_l1 (a1:ATy) (bv1:ATy):Nat->(Int×Int×(List ANd))->Option (Int×(List ANd))
 | 0,_=>none
 | n+1,(x1,z2,l2) =>
  bif (decide (x1<(bv1.l.length:Int))) then
   (idx bv1.l x1).bind fun x2 =>
   (m_graph_moved (⟨x2.kind,x2.a,x2.b,x2.l⟩:ANd) (fun y0=>m_graph_Graft_1 y0 (a1.l.length:Int))).bind fun x3 =>
   grd ((l2.length+([x3]:List _).length)*48<=140737488355328) <|
   grd (InR (x1+1)) <|
   m_graph_GraftO_l1 a1 bv1 n ((x1+1),z2,(l2++[x3]))
  else
   some (z2,l2)
noncomputable def m_graph_GraftO (a1:ATy) (bv1:ATy)  : Option (Int×ATy):=
 grd (a1.l.length*48<=140737488355328) <|
 (m_graph_GraftO_l1 a1 bv1 FU (0,a1.root,a1.l):Option (Int×(List ANd))).bind fun (z1,l1) =>
 some ((a1.l.length:Int),(⟨l1,z1⟩:ATy))
theorem w_graph_GraftO {a1:ATy} {bv1:ATy}  {r_2:Int} {s_1:ATy} (hm:m_graph_GraftO a1 bv1=some (r_2,s_1)):Go.V.Fn Tryz.prog 75 [ATy.d a1,ATy.d bv1] [] (fun d ms'=>∃ a_s_1c0 m_s_1c0 cap_s_1c0,d = .tup [.agg [.v (.slice a_s_1c0 m_s_1c0 cap_s_1c0),.i64 s_1.root],.i64 r_2]/\ms'=[arr a_s_1c0 m_s_1c0 cap_s_1c0 44 4 ANd.d s_1.l]):=by
 unfold m_graph_GraftO at hm;refine fn_intro func75 rfl ntmps75 rfl fun H0 fr w0=>?_;refine zq4 ?_;refine zal24a fun b1=>?_;refine zq7 ?_;refine zal3a fun b2=>?_;refine zst 0 ?_;refine go_ms (ms':=[box b2 3 [_],box b1 24 [_,_]]) rfl ?_;refine go_conv (refines_freeze (d := .i64 (a1.l.length:Int)) 0 6 rfl rfl rfl rfl) ?_;refine zq2 ?_;obtain ⟨hg1,hm⟩:=grd_some hm;refine g_draw_x [2,5] [7] [3,4] [6] [] Tryz_mixed (by decide +kernel) (by decide +kernel) rfl ?_;refine gdx_p rfl rfl rfl rfl rfl rfl (oFa fi_24_0 rfl rfl rfl) ?_;refine gdx_p rfl rfl rfl rfl rfl rfl (o_load isAgg22 rfl rfl) ?_;refine gdx_e rfl ?_;refine gdx_p rfl rfl rfl rfl rfl rfl (oFa fi_24_1 rfl rfl rfl) ?_;refine gdx_p rfl rfl rfl rfl rfl rfl (o_load isAgg3 rfl rfl) ?_;refine gdx_e rfl ?_;refine gdx_fresh (R0:=fun d A=>∃ b,d = .v (.pointer (some ⟨b,0,none⟩))/\A=box b 24 [.list 4 ANd.d [],.i64 0]) rfl rfl rfl rfl (OpT.mono (o_alloc_own zeroValue24 (cs:=[.list 4 ANd.d [],.i64 0]) rfl) (by rintro d ms' ⟨b,rfl,rfl⟩;exact ⟨_,⟨b,rfl,rfl⟩,rfl⟩)) ?_;refine gdx_e rfl ?_;refine gdx_nil ?_;refine gf_t rfl rfl rfl rfl (o_call (ms₁:=[]) call74 rfl (List.Perm.refl _) (w_Clone_74 hg1)) ?_;rintro _ _ ⟨_,⟨a_r1,cap_r1,hd_r1,hq_r1⟩,rfl⟩;obtain ⟨m_r1,hm_r1⟩:∃ m,m=a1.l.length:=⟨_,rfl⟩;rw [<- hm_r1] at hd_r1 hq_r1;subst hd_r1 hq_r1
 clear hm_r1
 refine ⟨(trivial:True),?_⟩;refine gf_t rfl rfl rfl rfl zb24b ?_;rintro _ _ ⟨rfl,rfl⟩;refine ⟨(trivial:True),?_⟩;refine gf_nil [(6,7)] rfl ?_;rintro _ _ ⟨b3,rfl,rfl⟩
 show _/\_
 refine ⟨(trivial:True),?_⟩;refine gde2_u rfl rfl rfl (oSb 0 sizeOf24 rfl rfl rfl rfl rfl rfl rfl rfl (nB rfl)) ?_;rintro _ _ rfl;refine ⟨(trivial:True),?_⟩;refine gde2_nil ?_;refine zq8 ?_;obtain ⟨o_1,hj1,hm1⟩:=bS hm;refine g_cut_m [(4,_),(6,_),(7,_)] [(2,_)] (fun (st:(Int×(List ANd))) (hid:(Option Addr×Nat×Nat))=>match st,hid with | (z1,l1),(a_r1,m_r1,cap_r1)=>[]) (fun F (st:(Int×(List ANd))) (hid:(Option Addr×Nat×Nat))=>match st,hid with | (z1,l1),(a_r1,m_r1,cap_r1)=>[box b3 24 [.v (.slice a_r1 m_r1 cap_r1),.i64 z1],arr a_r1 m_r1 cap_r1 44 4 ANd.d l1,(nthF F 0)]) (fun st=>st=o_1) ⟨rfl,rfl,rfl,trivial⟩ ⟨rfl,trivial⟩ ?_ ?_
 ·refine g_block ?_
  refine g_loop_m [(4,_),(6,_),(7,_),(20,_),(21,_)] [(2,_)] (fun (st:(Int×Int×(List ANd))) (hid:(Option Addr×Nat×Nat))=>match st,hid with | (x1,z2,l2),(a_r1,m_r1,cap_r1)=>[(22,.i64 x1)]) (fun F (st:(Int×Int×(List ANd))) (hid:(Option Addr×Nat×Nat))=>match st,hid with | (x1,z2,l2),(a_r1,m_r1,cap_r1)=>[box b3 24 [.v (.slice a_r1 m_r1 cap_r1),.i64 z2],arr a_r1 m_r1 cap_r1 44 4 ANd.d l2,(nthF F 0)]) (_,_,_) hj1 (fun _=>rfl) ⟨rfl,rfl,rfl,rfl,rfl,trivial⟩ ⟨rfl,trivial⟩ ⟨rfl,trivial⟩ rfl ?_;rintro n ⟨x1,z2,l2⟩ ⟨a_r1,m_r1,cap_r1⟩ hj1;rw [m_graph_GraftO_l1] at hj1;refine g_norm (L':=[(22,.i64 x1),(4,_),(6,_),(7,_),(20,_),(21,_)]) (ms':=[box b3 24 [.v (.slice a_r1 m_r1 cap_r1),.i64 z2],arr a_r1 m_r1 cap_r1 44 4 ANd.d l2,_]) rfl rfl ?_;refine zq5 ?_;refine zcn hj1 (fun hc1 hj1=>?_) (fun hc1 hj1=>?_)
  ·refine zq5 ?_
   obtain ⟨x2,hx2,hj1⟩:=bS hj1;refine zq2 ?_;refine zal44a fun b4=>?_;refine zst 0 ?_;refine go_ms (ms':=[box b4 44 [_,_,_,_],box b3 24 [_,_],_,box b1 24 [_,_]]) rfl ?_;refine gNl ?_;obtain ⟨x3,hx3,hj1⟩:=bS hj1;refine zdr 6 ?_;refine zq3 ?_;refine gd_p rfl rfl rfl (o_makeFunc rfl rfl) ?_;refine gd_p rfl rfl rfl (o_call_t [] call109 rfl rfl getL_n (w_graph_moved (fun _ _ h=>fv_nil (fv_clo call110 (w_graph_Graft_1 h))) hx3)) ?_;refine gd_p rfl rfl rfl (zs1 ANd.d) ?_;refine gd_nil ?_;obtain ⟨hg4,hj1⟩:=grd_some hj1;refine go_op rfl rfl rfl (o_append_own (a:=_) 2 underlying22 type44 rfl rfl rfl rfl rfl rfl (fun _=>rfl) (fun _=>rfl) hg4 (app_len hg4 rfl)) ?_;rintro _ _ ⟨a_r1,m_r1,cap_r1,rfl,rfl⟩;refine go_ms (ms':=[box b4 44 [_,_,_,_],box b3 24 [_,_],_,box b1 24 [_,_]]) rfl ?_;refine zq1 ?_;refine zst 1 ?_;refine go_ms (ms':=[box b4 44 [_,_,_,_],box b3 24 [_,_],_,box b1 24 [_,_]]) rfl ?_;refine zq2 ?_;obtain ⟨hg5,hj1⟩:=grd_some hj1;refine zq3 ?_;exact ⟨_,(_,_,_),hj1,⟨rfl,trivial⟩,⟨rfl,rfl,rfl,rfl,rfl,trivial⟩,[_],rfl⟩
  ·refine g_exit ?_
   exact ⟨_,(_,_,_),some_eq hj1,trivial,⟨rfl,rfl,rfl,trivial⟩,[],rfl⟩
 ·rintro ⟨z1,l1⟩ ⟨a_r1,m_r1,cap_r1⟩ hst
  subst hst;refine k_norm (L':=[(4,_),(6,_),(7,_)]) (ms':=[box b3 24 [.v (.slice a_r1 m_r1 cap_r1),.i64 z1],arr a_r1 m_r1 cap_r1 44 4 ANd.d l1,_]) rfl rfl ?_;refine g_seq ?_;refine g_draw_c [2] [1,3] [] Tryz_mixed (by decide +kernel) (by decide +kernel) rfl ?_;refine gde_p rfl rfl rfl rfl rfl rfl (oLg 0 isAgg24 sizeOf24 rfl rfl rfl rfl (nB rfl)) ?_;refine gde_p rfl rfl rfl rfl rfl rfl (o_load isAgg3 rfl rfl) ?_;refine gde_e rfl ?_;refine gde_p rfl rfl rfl rfl rfl rfl (oAs rfl) ?_;refine gde_nil ?_;refine gde2_u rfl rfl rfl (oSb 2 sizeOf24 rfl rfl rfl rfl rfl rfl rfl rfl (nB rfl)) ?_;rintro _ _ rfl;refine ⟨(trivial:True),?_⟩;refine gde2_nil ?_;refine g_ret ?_
  have hq1:=some_eq hm1
  obtain ⟨rfl,rfl⟩:=Prod.mk.inj hq1;exact retK (ret_many (ds:=[_,_]) rfl (by decide) ⟨ret_cell 2 rfl rfl rfl isAgg24 sizeOf24 rfl,⟨ret_tmp rfl,rfl⟩⟩ (permA 1 rfl permN)) ⟨_,_,_,rfl,rfl⟩
noncomputable def m_bound_pair_1 (roots1:(List Int)) (c1:Int):Option ANd:=
 (idx roots1 0).bind fun x1 =>
 (idx roots1 1).bind fun x2 =>
 some (⟨c1,x1,x2,([]:List AFd)⟩:ANd)
theorem w_bound_pair_1 {roots1:(List Int)} {c1:Int} {r_1:ANd} (hm:m_bound_pair_1 roots1 c1=some r_1):Fn0 Tryz.prog 114 [.list 1 D.i64 roots1,.ref (.i64 c1)] (ANd.d r_1):=by
 unfold m_bound_pair_1 at hm;refine fn_intro func114 rfl ntmps114 rfl fun H0 fr w0=>?_;refine zq2 ?_;refine zal44a fun b1=>?_;refine zq2 ?_;obtain ⟨x1,hx1,hm⟩:=bS hm;obtain ⟨x2,hx2,hm⟩:=bS hm;refine zdr 8 ?_;refine zq7 ?_;refine gd_p rfl rfl rfl zb44a ?_;refine gd_nil ?_;refine zst 0 ?_;refine go_ms (ms':=[box b1 44 [_,_,_,_]]) rfl ?_;refine gNl ?_
 cases hm;exact g_ret zr1
noncomputable def m_lo_few_l1 (l1:(List ATy)) (most1:Int):Nat->(Int×(List ATy))->Option (List ATy)
 | 0,_=>none
 | n+1,(i1,l3) =>
  bif ((decide (i1<(l1.length:Int)))&&(decide (i1<most1))) then
   (idx l1 i1).bind fun x1 =>
   (m_lg_Few x1 7).bind fun x2 =>
   grd ((l3.length+([x2]:List _).length)*32<=140737488355328) <|
   grd (InR (i1+1)) <|
   m_lo_few_l1 l1 most1 n ((i1+1),(l3++[x2]))
  else
   some l3
noncomputable def m_lo_few (l1:(List ATy)) (most1:Int):Option (List ATy):=
 (m_lo_few_l1 l1 most1 FU (0,[]):Option (List ATy)).bind fun l2 =>
 some l2
theorem w_lo_few {l1:(List ATy)} {most1:Int} {r_1:(List ATy)} (hm:m_lo_few l1 most1=some r_1):Fn0 Tryz.prog 39 [.list 2 ATy.d l1,.i64 most1] (.list 2 ATy.d r_1):=by
 unfold m_lo_few at hm;refine fn_intro func39 rfl ntmps39 rfl fun H0 fr w0=>?_;refine zq3 ?_;refine go_conv (nilE (i:=4) (sz:=2) (f:=ATy.d) rfl).refines ?_;refine zq3 ?_;refine go_op rfl rfl rfl (o_buildSlice_row (xs:=[]) (f:=ATy.d) (l:=[]) runUnderlying53 sizeOf24 zeroValue24 rfl rfl rfl (fun _=>⟨rfl,rfl,rfl⟩) rfl (by simp [maxLen])) ?_;rintro _ _ ⟨a_r1,rfl,rfl⟩;refine zq7 ?_;obtain ⟨o_1,hj1,hm1⟩:=bS hm;refine g_cut_m [] [] (fun (st:(List ATy)) (hid:(Option Addr×Nat))=>match st,hid with | l2,(a_r1,cap_r1)=>[(5,.v (.slice a_r1 l2.length cap_r1))]) (fun F (st:(List ATy)) (hid:(Option Addr×Nat))=>match st,hid with | l2,(a_r1,cap_r1)=>[row a_r1 cap_r1 24 2 ATy.d l2]) (fun st=>st=o_1) trivial trivial ?_ ?_
 ·refine g_block ?_
  refine g_loop_m [(0,_),(1,_)] [] (fun (st:(Int×(List ATy))) (hid:(Option Addr×Nat))=>match st,hid with | (i1,l3),(a_r1,cap_r1)=>[(5,.v (.slice a_r1 l3.length cap_r1)),(6,.i64 i1)]) (fun F (st:(Int×(List ATy))) (hid:(Option Addr×Nat))=>match st,hid with | (i1,l3),(a_r1,cap_r1)=>[row a_r1 cap_r1 24 2 ATy.d l3]) (_,_) hj1 (fun _=>rfl) ⟨rfl,rfl,trivial⟩ trivial ⟨rfl,rfl,trivial⟩ rfl ?_;rintro n ⟨i1,l3⟩ ⟨a_r1,cap_r1⟩ hj1;rw [m_lo_few_l1] at hj1;refine g_norm (L':=[(5,.v (.slice a_r1 l3.length cap_r1)),(6,.i64 i1),(0,_),(1,_)]) (ms':=[row a_r1 cap_r1 24 2 ATy.d l3]) rfl rfl ?_;refine zq8 ?_
  apply go_and [(0,_),(1,_),(5,_),(6,_)] 4 16 (t:=12) ⟨rfl,rfl,rfl,rfl,trivial⟩ rfl
  ·intro hg_1 hk1
   refine zq4 ?_;exact zgm hk1
  ·intro hg_1 hk1
   refine zq4 ?_;exact zgm hk1
  refine gNl ?_;refine zcn hj1 (fun hc1 hj1=>?_) (fun hc1 hj1=>?_)
  ·refine zq7 ?_
   obtain ⟨x1,hx1,hj1⟩:=bS hj1;refine zq2 ?_;obtain ⟨x2,hx2,hj1⟩:=bS hj1;refine zc0 (w_lg_Few hx2) ?_;refine go_p rfl rfl rfl (zs1 ATy.d) ?_;obtain ⟨hg3,hj1⟩:=grd_some hj1;refine zap 0 hg3 fun a_r1 cap_r1=>?_;refine go_ms (ms':=[_]) rfl ?_;refine zq4 ?_;obtain ⟨hg4,hj1⟩:=grd_some hj1;refine zq3 ?_;exact ⟨_,(_,_),hj1,⟨rfl,rfl,trivial⟩,⟨rfl,rfl,trivial⟩,[],rfl⟩
  ·refine g_exit ?_
   exact ⟨_,(_,_),some_eq hj1,⟨rfl,trivial⟩,trivial,[],rfl⟩
 ·rintro l2 ⟨a_r1,cap_r1⟩ hst
  subst hst;refine k_norm (L':=[(5,.v (.slice a_r1 l2.length cap_r1))]) (ms':=[row a_r1 cap_r1 24 2 ATy.d l2]) rfl rfl ?_;refine zq5 ?_;refine g_conv (peekE (i:=4) 0 rfl rfl rfl).refines ?_
  cases hm1;exact g_ret zr1
noncomputable def m_lo_fault_l1 (l1:(List ATy)):Nat->Int->Option (Out Int Unit)
 | 0,_=>none
 | n+1,i1 =>
  bif (decide (i1<(l1.length:Int))) then
   (idx l1 i1).bind fun x1 =>
   (m_rg_May x1).bind fun x2 =>
   bif (!decide (x2=0)) then
    some (Out.ret x2)
   else
    grd (InR (i1+1)) <|
    m_lo_fault_l1 l1 n (i1+1)
  else
   some (Out.go (()))
noncomputable def m_lo_fault (l1:(List ATy)):Option Int:=
 ((m_lo_fault_l1 l1 FU 0:Option (Out Int Unit))).bind (fun oo=>oo.on (fun r1=>some r1) (fun _ =>
 some 0))
theorem w_lo_fault {l1:(List ATy)} {r_1:Int} (hm:m_lo_fault l1=some r_1):Fn0 Tryz.prog 41 [.list 2 ATy.d l1] (.i64 r_1):=by
 unfold m_lo_fault at hm;refine fn_intro func41 rfl ntmps41 rfl fun H0 fr w0=>?_;refine zq9 ?_;obtain ⟨o_1,hj1,hm1⟩:=bS hm;refine g_cut_m [] [] (fun (st:Unit) (hid:Unit)=>match st,hid with | _,_=>[]) (fun F (st:Unit) (hid:Unit)=>match st,hid with | _,_=>[]) (fun st=>Out.go (st)=o_1) trivial trivial ?_ ?_
 ·refine g_block ?_
  refine g_loop_m [(0,_)] [] (fun (st:Int) (hid:Unit)=>match st,hid with | i1,_=>[(3,.i64 i1)]) (fun F (st:Int) (hid:Unit)=>match st,hid with | i1,_=>[]) () hj1 (fun _=>rfl) ⟨rfl,trivial⟩ trivial ⟨rfl,trivial⟩ rfl ?_;rintro n i1 _ hj1;rw [m_lo_fault_l1] at hj1;refine g_norm (L':=[(3,.i64 i1),(0,_)]) (ms':=[]) rfl rfl ?_;refine zq8 ?_;refine zcn hj1 (fun hc1 hj1=>?_) (fun hc1 hj1=>?_)
  ·refine zq7 ?_
   obtain ⟨x1,hx1,hj1⟩:=bS hj1;refine zq2 ?_;obtain ⟨x2,hx2,hj1⟩:=bS hj1;refine zc0 (w_rg_May hx2) ?_;refine zq7 ?_;refine zcn hj1 (fun hc2 hj1=>?_) (fun hc2 hj1=>?_)
   ·refine zq5 ?_
    refine g_ret ?_;obtain rfl:=some_eq hj1
    replace hm1:=on_ret hm1
    cases hm1;exact zr1
   ·refine zq3 ?_
    obtain ⟨hg3,hj1⟩:=grd_some hj1;refine zq3 ?_;exact ⟨_,(),hj1,⟨rfl,trivial⟩,⟨rfl,trivial⟩,[],rfl⟩
  ·refine g_exit ?_
   exact ⟨_,(),some_eq hj1,trivial,trivial,[],rfl⟩
 ·rintro _ _ hst
  subst hst
  replace hm1:=on_go hm1
  refine k_norm (L':=[]) (ms':=[]) rfl rfl ?_;refine zq4 ?_
  cases hm1;exact g_ret zr1
noncomputable def m_bound_may_l1 (l1:(List ATy)):Nat->Int->Option (Out Int Unit)
 | 0,_=>none
 | n+1,x1 =>
  bif (decide (x1<(l1.length:Int))) then
   (idx l1 x1).bind fun x2 =>
   (m_graph_May (⟨x2.l,x2.root⟩:ATy)).bind fun x3 =>
   bif (!decide (x3=0)) then
    some (Out.ret x3)
   else
    grd (InR (x1+1)) <|
    m_bound_may_l1 l1 n (x1+1)
  else
   some (Out.go (()))
noncomputable def m_bound_may (l1:(List ATy)):Option Int:=
 ((m_bound_may_l1 l1 FU 0:Option (Out Int Unit))).bind (fun oo=>oo.on (fun r1=>some r1) (fun _ =>
 some 0))
theorem w_bound_may {l1:(List ATy)} {r_1:Int} (hm:m_bound_may l1=some r_1):Fn0 Tryz.prog 72 [.list 2 ATy.d l1] (.i64 r_1):=by
 unfold m_bound_may at hm;refine fn_intro func72 rfl ntmps72 rfl fun H0 fr w0=>?_;refine zq11 ?_;obtain ⟨o_1,hj1,hm1⟩:=bS hm;refine g_cut_m [] [] (fun (st:Unit) (hid:Unit)=>match st,hid with | _,_=>[]) (fun F (st:Unit) (hid:Unit)=>match st,hid with | _,_=>[]) (fun st=>Out.go (st)=o_1) trivial trivial ?_ ?_
 ·refine g_block ?_
  refine g_loop_m [(6,_),(7,_)] [] (fun (st:Int) (hid:Unit)=>match st,hid with | x1,_=>[(8,.i64 x1)]) (fun F (st:Int) (hid:Unit)=>match st,hid with | x1,_=>[]) () hj1 (fun _=>rfl) ⟨rfl,rfl,trivial⟩ trivial ⟨rfl,trivial⟩ rfl ?_;rintro n x1 _ hj1;rw [m_bound_may_l1] at hj1;refine g_norm (L':=[(8,.i64 x1),(6,_),(7,_)]) (ms':=[]) rfl rfl ?_;refine zq5 ?_;refine zcn hj1 (fun hc1 hj1=>?_) (fun hc1 hj1=>?_)
  ·refine zq5 ?_
   obtain ⟨x2,hx1,hj1⟩:=bS hj1;refine zq2 ?_;refine zal24a fun b1=>?_;refine zst 0 ?_;refine go_ms (ms':=[box b1 24 [_,_]]) rfl ?_;refine zq4 ?_;obtain ⟨x3,hx2,hj1⟩:=bS hj1;refine zc0 (w_graph_May hx2) ?_;refine zq7 ?_;refine zcn hj1 (fun hc2 hj1=>?_) (fun hc2 hj1=>?_)
   ·refine zq5 ?_
    refine g_ret ?_;obtain rfl:=some_eq hj1
    replace hm1:=on_ret hm1
    cases hm1;exact zr1
   ·refine zq2 ?_
    obtain ⟨hg3,hj1⟩:=grd_some hj1;refine zq3 ?_;exact ⟨_,(),hj1,⟨rfl,trivial⟩,⟨rfl,rfl,trivial⟩,[_],rfl⟩
  ·refine g_exit ?_
   exact ⟨_,(),some_eq hj1,trivial,trivial,[],rfl⟩
 ·rintro _ _ hst
  subst hst
  replace hm1:=on_go hm1
  refine k_norm (L':=[]) (ms':=[]) rfl rfl ?_;refine zq4 ?_
  cases hm1;exact g_ret zr1
noncomputable def m_slices_Concat_api_Type_api_Type_l1 (slices1:(List (List ATy))):Nat->(Int×Int)->Option Int
 | 0,_=>none
 | n+1,(size2,x1) =>
  bif (decide (x1<(slices1.length:Int))) then
   (idx slices1 x1).bind fun x2 =>
   grd (InR (size2+(x2.length:Int))) <|
   bif (decide ((size2+(x2.length:Int))<0)) then
    none
   else
    grd (InR (x1+1)) <|
    m_slices_Concat_api_Type_api_Type_l1 slices1 n ((size2+(x2.length:Int)),(x1+1))
  else
   some size2
noncomputable def m_slices_Concat_api_Type_api_Type_l2 (slices1:(List (List ATy))):Nat->(Int×(List ATy))->Option (List ATy)
 | 0,_=>none
 | n+1,(x3,l2) =>
  bif (decide (x3<(slices1.length:Int))) then
   (idx slices1 x3).bind fun x4 =>
   grd ((l2.length+x4.length)*32<=140737488355328) <|
   grd (InR (x3+1)) <|
   m_slices_Concat_api_Type_api_Type_l2 slices1 n ((x3+1),(l2++x4))
  else
   some l2
noncomputable def m_slices_Concat_api_Type_api_Type (slices1:(List (List ATy))):Option (List ATy):=
 (m_slices_Concat_api_Type_api_Type_l1 slices1 FU (0,0):Option Int).bind fun size1 =>
 grd (0<=size1) <|
 grd ((size1).toNat*32<=140737488355328) <|
 (m_slices_Concat_api_Type_api_Type_l2 slices1 FU (0,([]:List ATy)):Option (List ATy)).bind fun l1 =>
 some l1
theorem w_slices_Concat_api_Type_api_Type {slices1:(List (List ATy))} {r_1:(List ATy)} (hm:m_slices_Concat_api_Type_api_Type slices1=some r_1):Fn0 Tryz.prog 73 [.list 1 (D.list 2 ATy.d) slices1] (.list 2 ATy.d r_1):=by
 unfold m_slices_Concat_api_Type_api_Type at hm;refine fn_intro func73 rfl ntmps73 rfl fun H0 fr w0=>?_;refine zq3 ?_;refine go_conv (nilE (i:=2) (sz:=2) (f:=ATy.d) rfl).refines ?_;refine zq12 ?_;obtain ⟨o_1,hj1,hm1⟩:=bS hm;refine g_cut_m [(0,_)] [] (fun (st:Int) (hid:Unit)=>match st,hid with | size1,_=>[(3,.i64 size1)]) (fun F (st:Int) (hid:Unit)=>match st,hid with | size1,_=>[]) (fun st=>st=o_1) ⟨rfl,trivial⟩ trivial ?_ ?_
 ·refine g_block ?_
  refine g_loop_m [(0,_),(9,_),(10,_)] [] (fun (st:(Int×Int)) (hid:Unit)=>match st,hid with | (size2,x1),_=>[(3,.i64 size2),(11,.i64 x1)]) (fun F (st:(Int×Int)) (hid:Unit)=>match st,hid with | (size2,x1),_=>[]) () hj1 (fun _=>rfl) ⟨rfl,rfl,rfl,trivial⟩ trivial ⟨rfl,rfl,trivial⟩ rfl ?_;rintro n ⟨size2,x1⟩ _ hj1;rw [m_slices_Concat_api_Type_api_Type_l1] at hj1;refine g_norm (L':=[(3,.i64 size2),(11,.i64 x1),(0,_),(9,_),(10,_)]) (ms':=[]) rfl rfl ?_;refine zq5 ?_;refine zcn hj1 (fun hc1 hj1=>?_) (fun hc1 hj1=>?_)
  ·refine zq5 ?_
   obtain ⟨x2,hx1,hj1⟩:=bS hj1;refine zq9 ?_;obtain ⟨hg2,hj1⟩:=grd_some hj1;refine zq8 ?_;refine zcn hj1 (fun hc2 hj1=>?_) (fun hc2 hj1=>?_)
   ·cases hj1
   ·refine zq2 ?_
    obtain ⟨hg3,hj1⟩:=grd_some hj1;refine zq3 ?_;exact ⟨_,(),hj1,⟨rfl,rfl,trivial⟩,⟨rfl,rfl,rfl,trivial⟩,[],rfl⟩
  ·refine g_exit ?_
   exact ⟨_,(),some_eq hj1,⟨rfl,trivial⟩,⟨rfl,trivial⟩,[],rfl⟩
 ·rintro size1 _ hst
  subst hst;refine k_norm (L':=[(3,.i64 size1),(0,_)]) (ms':=[]) rfl rfl ?_;refine zq3 ?_;obtain ⟨hg4,hm1⟩:=grd_some hm1;obtain ⟨hg5,hm1⟩:=grd_some hm1;refine go_op rfl rfl rfl (o_call (ms₁:=[]) call108 rfl (List.Perm.refl _) (w_Grow_108 hg4 hg5)) ?_;rintro _ _ ⟨_,⟨a_r1,cap_r1,rfl,rfl⟩,rfl⟩;refine zq9 ?_;obtain ⟨o_2,hj2,hm2⟩:=bS hm1;refine g_cut_m [] [] (fun (st:(List ATy)) (hid:(Option Addr×Nat))=>match st,hid with | l1,(a_r1,cap_r1)=>[(6,.v (.slice a_r1 l1.length cap_r1))]) (fun F (st:(List ATy)) (hid:(Option Addr×Nat))=>match st,hid with | l1,(a_r1,cap_r1)=>[row a_r1 cap_r1 24 2 ATy.d l1]) (fun st=>st=o_2) trivial trivial ?_ ?_
  ·refine g_block ?_
   refine g_loop_m [(25,_),(26,_)] [] (fun (st:(Int×(List ATy))) (hid:(Option Addr×Nat))=>match st,hid with | (x3,l2),(a_r1,cap_r1)=>[(6,.v (.slice a_r1 l2.length cap_r1)),(27,.i64 x3)]) (fun F (st:(Int×(List ATy))) (hid:(Option Addr×Nat))=>match st,hid with | (x3,l2),(a_r1,cap_r1)=>[row a_r1 cap_r1 24 2 ATy.d l2]) (_,_) hj2 (fun _=>rfl) ⟨rfl,rfl,trivial⟩ trivial ⟨rfl,rfl,trivial⟩ rfl ?_;rintro n ⟨x3,l2⟩ ⟨a_r1,cap_r1⟩ hj2;rw [m_slices_Concat_api_Type_api_Type_l2] at hj2;refine g_norm (L':=[(6,.v (.slice a_r1 l2.length cap_r1)),(27,.i64 x3),(25,_),(26,_)]) (ms':=[row a_r1 cap_r1 24 2 ATy.d l2]) rfl rfl ?_;refine zq5 ?_;refine zcn hj2 (fun hc3 hj2=>?_) (fun hc3 hj2=>?_)
   ·refine zq5 ?_
    obtain ⟨x4,hx6,hj2⟩:=bS hj2;refine zq7 ?_;obtain ⟨hg7,hj2⟩:=grd_some hj2;refine zap 0 hg7 fun a_r1 cap_r1=>?_;refine go_ms (ms':=[_]) rfl ?_;refine zq3 ?_;obtain ⟨hg8,hj2⟩:=grd_some hj2;refine zq3 ?_;exact ⟨_,(_,_),hj2,⟨rfl,rfl,trivial⟩,⟨rfl,rfl,trivial⟩,[],rfl⟩
   ·refine g_exit ?_
    exact ⟨_,(_,_),some_eq hj2,⟨rfl,trivial⟩,trivial,[],rfl⟩
  ·rintro l1 ⟨a_r1,cap_r1⟩ hst
   subst hst;refine k_norm (L':=[(6,.v (.slice a_r1 l1.length cap_r1))]) (ms':=[row a_r1 cap_r1 24 2 ATy.d l1]) rfl rfl ?_;refine zq5 ?_;refine g_conv (peekE (i:=2) 0 rfl rfl rfl).refines ?_
   cases hm2;exact g_ret zr1
noncomputable def m_bound_Put_1 (k1:Int) (c1:ATy) (c2:(List ATy)) (c3:(List Int)):Option Int:=
 bif (decide (k1<(c1.l.length:Int))) then
  (idx c1.l k1).bind fun x1 =>
  bif ((decide (x1.kind=11))&&(decide (x1.a<(c2.length:Int)))) then
   (idx c3 x1.a).bind fun x2 =>
   some x2
  else
   some k1
 else
  some k1
theorem w_bound_Put_1 {k1:Int} {c1:ATy} {c2:(List ATy)} {c3:(List Int)} {r_1:Int} (hm:m_bound_Put_1 k1 c1 c2 c3=some r_1):Fn0 Tryz.prog 76 [.i64 k1,.ref (ATy.d c1),.ref (.list 2 ATy.d c2),.ref (.list 1 D.i64 c3)] (.i64 r_1):=by
 unfold m_bound_Put_1 at hm;refine fn_intro func76 rfl ntmps76 rfl fun H0 fr w0=>?_;refine zq13 ?_;refine zcn hm (fun hc1 hm=>?_) (fun hc1 hm=>?_)
 ·refine zq5 ?_
  obtain ⟨x1,hx1,hm⟩:=bS hm;refine zq2 ?_;refine zal44a fun b1=>?_;refine zst 0 ?_;refine go_ms (ms':=[box b1 44 [_,_,_,_]]) rfl ?_;refine zq7 ?_
  apply go_and [(0,_),(3,_),(6,_)] 6 26 (t:=20) ⟨rfl,rfl,rfl,trivial⟩ rfl
  ·intro hg_1 hk1
   refine zq6 ?_;exact zgm hk1
  ·intro hg_1 hk1
   refine zq6 ?_;exact zgm hk1
  refine gNl ?_;refine zcn hm (fun hc2 hm=>?_) (fun hc2 hm=>?_)
  ·refine zq5 ?_
   obtain ⟨x2,hx2,hm⟩:=bS hm;refine zq4 ?_
   cases hm;exact g_ret zr1
  ·refine zq6 ?_
   cases hm;exact g_ret zr1
 ·refine zq6 ?_
  cases hm;exact g_ret zr1
noncomputable def m_graph_norm_1 (k1:Int) (z1:(List (Int×Int))):Option Int:=
 some ((mget z1 k1).getD (0:Int))
theorem w_graph_norm_1 {k1:Int} {z1:(List (Int×Int))} {r_1:Int} {b_q1:Nat} (hm:m_graph_norm_1 k1 z1=some r_1):FnT Tryz.prog 170 [.i64 k1,.ref (.v (.map (some b_q1)))] [mp b_q1 kI64 D.i64 z1] (.i64 r_1):=by
 unfold m_graph_norm_1 at hm;refine fn_intro func170 rfl ntmps170 rfl fun H0 fr w0=>?_;refine zq8 ?_;refine go_p rfl rfl rfl (o_lookup (z0:=(0:Int)) 0 runUnderlying170 (keyI64 underlying3) zeroValue3 (fun _=>conc_v.2 rfl) rfl rfl rfl) ?_;refine zq2 ?_;refine g_ret ?_;exact retK (ret_one' (ms':=[_]) (drop:=[]) rfl (ret_tmp rfl) (List.Perm.refl _)) ⟨congrArg (fun (p:Int)=>(.i64 p:D)) (some_eq hm),rfl⟩
noncomputable def m_graph_norm_r1  : List Int->((List Int)×(List (Int×Int)))->Option ((List Int)×(List (Int×Int)))
 | [],(l2,mm2) =>
  some (l2,mm2)
 | x1::rr,(l2,mm2) =>
  grd ((l2.length+([x1]:List _).length)*8<=140737488355328) <|
  m_graph_norm_r1 rr ((l2++[x1]),(mset mm2 x1 (l2.length:Int)))
noncomputable def m_graph_norm_l2 (t1:ATy) (l1:(List Int)) (mm1:(List (Int×Int))):Nat->(Int×(List ANd)×Int)->Option ((List ANd)×Int)
 | 0,_=>none
 | n+1,(x2,l4,z2) =>
  bif (decide (x2<(l1.length:Int))) then
   (idx l1 x2).bind fun x3 =>
   (idx t1.l x3).bind fun x4 =>
   (m_graph_moved x4 (fun y0=>m_graph_norm_1 y0 mm1)).bind fun x5 =>
   grd ((l4.length+([x5]:List _).length)*48<=140737488355328) <|
   grd (InR (x2+1)) <|
   m_graph_norm_l2 t1 l1 mm1 n ((x2+1),(l4++[x5]),z2)
  else
   some (l4,z2)
noncomputable def m_graph_norm (t1:ATy) (root1:Int):Option ATy:=
 ((m_below t1 root1).bind fun xs1 =>
 m_graph_norm_r1 xs1 ([],([]:List (Int×Int))):Option ((List Int)×(List (Int×Int)))).bind fun (l1,mm1) =>
 (m_graph_norm_l2 t1 l1 mm1 FU (0,[],0):Option ((List ANd)×Int)).bind fun (l3,z1) =>
 some (⟨l3,z1⟩:ATy)
theorem w_graph_norm {t1:ATy} {root1:Int} {r_1:ATy} (hm:m_graph_norm t1 root1=some r_1):Fn0 Tryz.prog 140 [ATy.d t1,.i64 root1] (ATy.d r_1):=by
 unfold m_graph_norm at hm;refine fn_intro func140 rfl ntmps140 rfl fun H0 fr w0=>?_;refine zq3 ?_;refine zal24a fun b1=>?_;refine zq3 ?_;refine go_op rfl rfl rfl (o_makeMap (fk:=kI64) (fv:=D.i64)) ?_;rintro _ _ ⟨b2,rfl,rfl⟩;refine zal170a fun b3=>?_;refine zst 0 ?_;refine go_ms (ms':=[box b3 170 [_],_,box b1 24 [_,_]]) rfl ?_;refine go_conv (refines_freeze (d := .v (.map (some b2))) 0 5 rfl rfl rfl rfl) ?_;refine zq3 ?_;refine zal25b fun b4=>?_;refine go_conv (refines_newrow (T:=3) (sz:=1) (f:=D.i64)) ?_;refine zq6 ?_;refine go_p rfl rfl rfl (o_call0 call107 rfl w_below) ?_;refine gNl ?_;obtain ⟨o_1,hj1,hm1⟩:=bS hm;refine g_cut_m [(2,_),(4,_),(5,_),(6,_)] [(3,_)] (fun (st:((List Int)×(List (Int×Int)))) (hid:(Option Addr×Nat))=>match st,hid with | (l1,mm1),(a_r1,cap_r1)=>[]) (fun F (st:((List Int)×(List (Int×Int)))) (hid:(Option Addr×Nat))=>match st,hid with | (l1,mm1),(a_r1,cap_r1)=>[row a_r1 cap_r1 3 1 D.i64 l1,box b4 25 [.v (.slice a_r1 l1.length cap_r1)],mp b2 kI64 D.i64 mm1,(nthF F 0)]) (fun st=>st=o_1) ⟨rfl,rfl,rfl,rfl,trivial⟩ ⟨rfl,trivial⟩ ?_ ?_
 ·refine g_block ?_
  obtain ⟨xs1,hx1,hj1⟩:=bS hj1;refine g_range_m (fun (p:Int)=>[.i64 p]) [(3,_)] (fun F (st:((List Int)×(List (Int×Int)))) (hid:(Option Addr×Nat))=>match st,hid with | (l2,mm2),(a_r1,cap_r1)=>[row a_r1 cap_r1 3 1 D.i64 l2,box b4 25 [.v (.slice a_r1 l2.length cap_r1)],mp b2 kI64 D.i64 mm2,(nthF F 0)]) (_,_) hj1 ⟨rfl,trivial⟩ rfl rfl call138 (it_below hx1) (fun _=>rfl) rfl ?_ ?_
  ·rintro H0r frr ror w0r hrr x1 rr ⟨l2,mm2⟩ ⟨a_r1,cap_r1⟩ hj1
   rw [m_graph_norm_r1] at hj1;refine g_norm (ms':=[row a_r1 cap_r1 3 1 D.i64 l2,box b4 25 [.v (.slice a_r1 l2.length cap_r1)],mp b2 kI64 D.i64 mm2,_]) rfl rfl ?_;refine zq3 ?_
   intro H0r frr ror w0r hrr
   refine zq6 ?_;refine go_p rfl rfl rfl (.view (peekE (i:=18) 0 rfl rfl rfl) (o_len runUnderlying25 rfl)) ?_;refine go_u rfl rfl (o_mapUpdate (v:=(l2.length:Int)) 2 runUnderlying170 (keyI64 underlying3) rfl rfl rfl rfl) ?_;rintro _ _ rfl;refine zq4 ?_;refine go_p rfl rfl rfl (zs1 D.i64) ?_;obtain ⟨hg2,hj1⟩:=grd_some hj1;refine zap 0 hg2 fun a_r1 cap_r1=>?_;refine go_ms (ms':=[_,box b4 25 [_],_,box b1 24 [_,_]]) rfl ?_;refine zst 1 ?_;refine go_ms (ms':=[_,box b4 25 [_],_,box b1 24 [_,_]]) rfl ?_;refine gNl ?_;exact ⟨_,(_,_),hj1,[],rfl⟩
  ·rintro ⟨l2,mm2⟩ ⟨a_r1,cap_r1⟩ hj1
   rw [m_graph_norm_r1] at hj1;refine k_norm (ms':=[row a_r1 cap_r1 3 1 D.i64 l2,box b4 25 [.v (.slice a_r1 l2.length cap_r1)],mp b2 kI64 D.i64 mm2,_]) rfl rfl ?_;exact ⟨_,(_,_),some_eq hj1,trivial,⟨rfl,rfl,rfl,rfl,trivial⟩,[],rfl⟩
 ·rintro ⟨l1,mm1⟩ ⟨a_r1,cap_r1⟩ hst
  subst hst;refine k_norm (L':=[(2,_),(4,_),(5,_),(6,_)]) (ms':=[row a_r1 cap_r1 3 1 D.i64 l1,box b4 25 [.v (.slice a_r1 l1.length cap_r1)],mp b2 kI64 D.i64 mm1,_]) rfl rfl ?_;refine zq2 ?_;refine zal24b fun b6=>?_;refine go_conv (refines_newrow (T:=44) (sz:=4) (f:=ANd.d)) ?_;refine zq5 ?_;refine go_p rfl rfl rfl (.view (peekE (i:=24) 2 rfl rfl rfl) (o_len runUnderlying25 rfl)) ?_;refine zq2 ?_;obtain ⟨o_2,hj2,hm2⟩:=bS hm1;refine g_cut_m [(4,_),(8,_)] [(2,_),(3,_),(4,_),(5,_)] (fun (st:((List ANd)×Int)) (hid:(Option Addr×Nat))=>match st,hid with | (l3,z1),(a_r2,cap_r2)=>[]) (fun F (st:((List ANd)×Int)) (hid:(Option Addr×Nat))=>match st,hid with | (l3,z1),(a_r2,cap_r2)=>[row a_r2 cap_r2 44 4 ANd.d l3,box b6 24 [.v (.slice a_r2 l3.length cap_r2),.i64 z1],(nthF F 0),(nthF F 1),(nthF F 2),(nthF F 3)]) (fun st=>st=o_2) ⟨rfl,rfl,trivial⟩ ⟨rfl,rfl,rfl,rfl,trivial⟩ ?_ ?_
  ·refine g_block ?_
   refine g_loop_m [(2,_),(4,_),(5,_),(8,_),(24,_),(25,_)] [(2,_),(3,_),(4,_),(5,_)] (fun (st:(Int×(List ANd)×Int)) (hid:(Option Addr×Nat))=>match st,hid with | (x2,l4,z2),(a_r2,cap_r2)=>[(26,.i64 x2)]) (fun F (st:(Int×(List ANd)×Int)) (hid:(Option Addr×Nat))=>match st,hid with | (x2,l4,z2),(a_r2,cap_r2)=>[row a_r2 cap_r2 44 4 ANd.d l4,box b6 24 [.v (.slice a_r2 l4.length cap_r2),.i64 z2],(nthF F 0),(nthF F 1),(nthF F 2),(nthF F 3)]) (_,_) hj2 (fun _=>rfl) ⟨rfl,rfl,rfl,rfl,rfl,rfl,trivial⟩ ⟨rfl,rfl,rfl,rfl,trivial⟩ ⟨rfl,trivial⟩ rfl ?_;rintro n ⟨x2,l4,z2⟩ ⟨a_r2,cap_r2⟩ hj2;rw [m_graph_norm_l2] at hj2;refine g_norm (L':=[(26,.i64 x2),(2,_),(4,_),(5,_),(8,_),(24,_),(25,_)]) (ms':=[row a_r2 cap_r2 44 4 ANd.d l4,box b6 24 [.v (.slice a_r2 l4.length cap_r2),.i64 z2],_,_,_,_]) rfl rfl ?_;refine zq5 ?_;refine zcn hj2 (fun hc1 hj2=>?_) (fun hc1 hj2=>?_)
   ·refine zq5 ?_
    obtain ⟨x3,hx3,hj2⟩:=bS hj2;refine go_p rfl rfl rfl (.view (peekE (i:=24) 2 rfl rfl rfl) (oIm runUnderlying25 sizeOf3 rfl rfl hx3)) ?_;refine zq3 ?_;obtain ⟨x4,hx4,hj2⟩:=bS hj2;obtain ⟨x5,hx5,hj2⟩:=bS hj2;refine zdr 10 ?_;refine zq7 ?_;refine gd_p rfl rfl rfl (o_makeFunc rfl rfl) ?_;refine gd_p rfl rfl rfl (o_call_t [4] call109 rfl rfl (getL_c rfl getL_n) (w_graph_moved (fun _ _ h=>fv_clo call170 (w_graph_norm_1 h)) hx5)) ?_;refine gd_p rfl rfl rfl (zs1 ANd.d) ?_;refine gd_nil ?_;obtain ⟨hg6,hj2⟩:=grd_some hj2;refine zap 0 hg6 fun a_r2 cap_r2=>?_;refine go_ms (ms':=[_,box b6 24 [_,_],_,box b4 25 [_],_,box b1 24 [_,_]]) rfl ?_;refine zq1 ?_;refine zst 1 ?_;refine go_ms (ms':=[_,box b6 24 [_,_],_,box b4 25 [_],_,box b1 24 [_,_]]) rfl ?_;refine zq2 ?_;obtain ⟨hg7,hj2⟩:=grd_some hj2;refine zq3 ?_;exact ⟨_,(_,_),hj2,⟨rfl,trivial⟩,⟨rfl,rfl,rfl,rfl,rfl,rfl,trivial⟩,[],rfl⟩
   ·refine g_exit ?_
    exact ⟨_,(_,_),some_eq hj2,trivial,⟨rfl,rfl,trivial⟩,[],rfl⟩
  ·rintro ⟨l3,z1⟩ ⟨a_r2,cap_r2⟩ hst
   subst hst;refine k_norm (L':=[(4,_),(8,_)]) (ms':=[row a_r2 cap_r2 44 4 ANd.d l3,box b6 24 [.v (.slice a_r2 l3.length cap_r2),.i64 z1],_,_,_,_]) rfl rfl ?_;refine zq3 ?_;refine go_conv (peekAggE (i:=43) (q:=0) 0 rfl rfl rfl rfl rfl).refines ?_;refine zst 5 ?_;refine go_ms (ms':=[_,box b6 24 [_,_],_,box b4 25 [_],_,box b1 24 [_,_]]) rfl ?_;refine gNl ?_
   cases hm2;exact g_ret zr1
noncomputable def m_graph_Norm (t1:ATy):Option (ATy×Int):=
 (m_graph_May t1).bind fun x1 =>
 bif (!decide (x1=0)) then
  some ((⟨([]:List ANd),0⟩:ATy),x1)
 else
  (m_graph_norm t1 t1.root).bind fun x2 =>
  some ((⟨x2.l,x2.root⟩:ATy),0)
theorem w_graph_Norm {t1:ATy} {r_1:ATy} {r_2:Int} (hm:m_graph_Norm t1=some (r_1,r_2)):Fn0 Tryz.prog 111 [ATy.d t1] (.tup [ATy.d r_1,.i64 r_2]):=by
 unfold m_graph_Norm at hm;refine fn_intro func111 rfl ntmps111 rfl fun H0 fr w0=>?_;refine zq3 ?_;refine zal24a fun b1=>?_;refine zq6 ?_;obtain ⟨x1,hx1,hm⟩:=bS hm;refine zc0 (w_graph_May hx1) ?_;refine zq7 ?_;refine zcn hm (fun hc1 hm=>?_) (fun hc1 hm=>?_)
 ·refine zq2 ?_
  refine go_p rfl rfl rfl zb24b ?_;refine zq1 ?_;refine zst 0 ?_;refine go_ms (ms':=[box b1 24 [_,_]]) rfl ?_;refine zq2 ?_
  cases hm;exact g_ret zr2
 ·refine zq6 ?_
  obtain ⟨x2,hx2,hm⟩:=bS hm;refine zc0 (w_graph_norm hx2) ?_;refine zst 0 ?_;refine go_ms (ms':=[box b1 24 [_,_]]) rfl ?_;refine zq2 ?_
  cases hm;exact g_ret zr2
noncomputable def m_bound_made (t1:ATy):Option (ATy×Int):=
 (m_graph_Norm t1).bind fun (x1,x2) =>
 some ((⟨x1.l,x1.root⟩:ATy),x2)
theorem w_bound_made {t1:ATy} {r_1:ATy} {r_2:Int} (hm:m_bound_made t1=some (r_1,r_2)):Fn0 Tryz.prog 78 [ATy.d t1] (.tup [ATy.d r_1,.i64 r_2]):=by
 unfold m_bound_made at hm;refine fn_intro func78 rfl ntmps78 rfl fun H0 fr w0=>?_;refine zq3 ?_;refine zal24a fun b1=>?_;refine zq5 ?_;obtain ⟨⟨x1,x2⟩,hx1,hm⟩:=bS hm;refine zc0 (w_graph_Norm hx1) ?_;refine zq2 ?_;refine zst 0 ?_;refine go_ms (ms':=[box b1 24 [_,_]]) rfl ?_;refine zq2 ?_
 cases hm;exact g_ret zr2
noncomputable def m_bound_Put_l1 (l1:(List ATy)):Nat->(Int×(List Int)×Int×(List ANd))->Option ((List Int)×Int×(List ANd))
 | 0,_=>none
 | n+1,(x3,l4,z2,l5) =>
  bif (decide (x3<(l1.length:Int))) then
   (idx l1 x3).bind fun x4 =>
   (m_graph_GraftO (⟨l5,z2⟩:ATy) (⟨x4.l,x4.root⟩:ATy)).bind fun (x5,s1) =>
   grd (InR (x4.root+x5)) <|
   grd ((l4.length+([(x4.root+x5)]:List _).length)*8<=140737488355328) <|
   grd (InR (x3+1)) <|
   m_bound_Put_l1 l1 n ((x3+1),(l4++[(x4.root+x5)]),s1.root,s1.l)
  else
   some (l4,z2,l5)
noncomputable def m_bound_Put_l3 (t1:ATy) (l1:(List ATy)) (l2:(List Int)) (x12:ANd):Nat->(Int×(List AFd))->Option (List AFd)
 | 0,_=>none
 | n+1,(x14,l10) =>
  bif (decide (x14<(x12.l.length:Int))) then
   (idx l10 x14).bind fun x15 =>
   (m_bound_Put_1 x15.at_ t1 l1 l2).bind fun x16 =>
   (idx l10 x14).bind fun x17 =>
   grd (InR (x14+1)) <|
   m_bound_Put_l3 t1 l1 l2 x12 n ((x14+1),(l10.set (x14).toNat (⟨x17.name,x16⟩:AFd)))
  else
   some l10
noncomputable def m_bound_Put_l2 (t1:ATy) (l1:(List ATy)) (l2:(List Int)):Nat->(Int×Int×(List ANd))->Option (Int×(List ANd))
 | 0,_=>none
 | n+1,(x6,z4,l7) =>
  bif (decide (x6<(t1.l.length:Int))) then
   (idx l7 x6).bind fun x7 =>
   ((bif (decide (x7.kind=6)) then
    some (decide (x7.kind=6))
   else
    bif (decide (x7.kind=9)) then
     some (decide (x7.kind=9))
    else
     some (decide (x7.kind=10)):Option Bool).bind fun x8 =>
   bif x8 then
    (m_bound_Put_1 x7.a t1 l1 l2).bind fun x9 =>
    (m_bound_Put_1 x7.b t1 l1 l2).bind fun x10 =>
    (idx (l7.set (x6).toNat (⟨x7.kind,x9,x7.b,x7.l⟩:ANd)) x6).bind fun x11 =>
    some (z4,((l7.set (x6).toNat (⟨x7.kind,x9,x7.b,x7.l⟩:ANd)).set (x6).toNat (⟨x11.kind,x11.a,x10,x11.l⟩:ANd)))
   else
    some (z4,l7):Option (Int×(List ANd))).bind fun (z5,l8) =>
   (idx l8 x6).bind fun x12 =>
   grd (x12.l.length*24<=140737488355328) <|
   (idx l8 x6).bind fun x13 =>
   (m_bound_Put_l3 t1 l1 l2 x12 FU (0,x12.l):Option (List AFd)).bind fun l9 =>
   grd (InR (x6+1)) <|
   m_bound_Put_l2 t1 l1 l2 n ((x6+1),z5,(l8.set (x6).toNat (⟨x13.kind,x13.a,x13.b,l9⟩:ANd)))
  else
   some (z4,l7)
noncomputable def m_bound_Put (t1:ATy) (l1:(List ATy)):Option (ATy×Int):=
 (m_slices_Concat_api_Type_api_Type [[t1],l1]).bind fun x1 =>
 (m_bound_may x1).bind fun x2 =>
 bif (!decide (x2=0)) then
  some ((⟨([]:List ANd),0⟩:ATy),x2)
 else
  grd (t1.l.length*48<=140737488355328) <|
  (m_bound_Put_l1 l1 FU (0,[],t1.root,t1.l):Option ((List Int)×Int×(List ANd))).bind fun (l2,z1,l3) =>
  (m_bound_Put_l2 t1 l1 l2 FU (0,z1,l3):Option (Int×(List ANd))).bind fun (z3,l6) =>
  (m_bound_Put_1 z3 t1 l1 l2).bind fun x18 =>
  (m_bound_made (⟨l6,x18⟩:ATy)).bind fun (x19,x20) =>
  some ((⟨x19.l,x19.root⟩:ATy),x20)
theorem w_bound_Put {t1:ATy} {l1:(List ATy)} {r_1:ATy} {r_2:Int} (hm:m_bound_Put t1 l1=some (r_1,r_2)):Fn0 Tryz.prog 40 [ATy.d t1,.list 2 ATy.d l1] (.tup [ATy.d r_1,.i64 r_2]):=by
 unfold m_bound_Put at hm;refine fn_intro func40 rfl ntmps40 rfl fun H0 fr w0=>?_;refine zq4 ?_;refine zal24a fun b1=>?_;refine zq6 ?_;refine go_p rfl rfl rfl (zs1 ATy.d) ?_;refine zq1 ?_;refine go_p rfl rfl rfl (zs2 (D.list 2 ATy.d)) ?_;obtain ⟨x1,hx1,hm⟩:=bS hm;refine zc0 (w_slices_Concat_api_Type_api_Type hx1) ?_;obtain ⟨x2,hx2,hm⟩:=bS hm;refine zc0 (w_bound_may hx2) ?_;refine zq7 ?_;refine zcn hm (fun hc1 hm=>?_) (fun hc1 hm=>?_)
 ·refine zq2 ?_
  refine go_p rfl rfl rfl zb24b ?_;refine zq1 ?_;refine zst 0 ?_;refine go_ms (ms':=[box b1 24 [_,_]]) rfl ?_;refine zq2 ?_
  cases hm;exact g_ret zr2
 ·refine zq2 ?_
  obtain ⟨hg3,hm⟩:=grd_some hm;refine g_draw_x [2,5] [7] [3,4] [6] [] Tryz_mixed (by decide +kernel) (by decide +kernel) rfl ?_;refine gdx_p rfl rfl rfl rfl rfl rfl (oFa fi_24_0 rfl rfl rfl) ?_;refine gdx_p rfl rfl rfl rfl rfl rfl (o_load isAgg22 rfl rfl) ?_;refine gdx_e rfl ?_;refine gdx_p rfl rfl rfl rfl rfl rfl (oFa fi_24_1 rfl rfl rfl) ?_;refine gdx_p rfl rfl rfl rfl rfl rfl (o_load isAgg3 rfl rfl) ?_;refine gdx_e rfl ?_;refine gdx_fresh (R0:=fun d A=>∃ b,d = .v (.pointer (some ⟨b,0,none⟩))/\A=box b 24 [.list 4 ANd.d [],.i64 0]) rfl rfl rfl rfl (OpT.mono (o_alloc_own zeroValue24 (cs:=[.list 4 ANd.d [],.i64 0]) rfl) (by rintro d ms' ⟨b,rfl,rfl⟩;exact ⟨_,⟨b,rfl,rfl⟩,rfl⟩)) ?_;refine gdx_e rfl ?_;refine gdx_nil ?_;refine gf_t rfl rfl rfl rfl (o_call (ms₁:=[]) call74 rfl (List.Perm.refl _) (w_Clone_74 hg3)) ?_;rintro _ _ ⟨_,⟨a_r1,cap_r1,hd_r1,hq_r1⟩,rfl⟩;obtain ⟨m_r1,hm_r1⟩:∃ m,m=t1.l.length:=⟨_,rfl⟩;rw [<- hm_r1] at hd_r1 hq_r1;subst hd_r1 hq_r1
  clear hm_r1
  refine ⟨(trivial:True),?_⟩;refine gf_t rfl rfl rfl rfl zb24b ?_;rintro _ _ ⟨rfl,rfl⟩;refine ⟨(trivial:True),?_⟩;refine gf_nil [(6,7)] rfl ?_;rintro _ _ ⟨b2,rfl,rfl⟩
  show _/\_
  refine ⟨(trivial:True),?_⟩;refine gde2_u rfl rfl rfl (oSb 0 sizeOf24 rfl rfl rfl rfl rfl rfl rfl rfl (nB rfl)) ?_;rintro _ _ rfl;refine ⟨(trivial:True),?_⟩;refine gde2_nil ?_;refine zq2 ?_;refine zal25b fun b3=>?_;refine go_conv (refines_newrow (T:=3) (sz:=1) (f:=D.i64)) ?_;refine zq8 ?_;obtain ⟨o_1,hj1,hm1⟩:=bS hm;refine g_cut_m [(2,_),(3,_),(4,_),(7,_),(8,_)] [(4,_)] (fun (st:((List Int)×Int×(List ANd))) (hid:(Option Addr×Nat)×(Option Addr×Nat×Nat))=>match st,hid with | (l2,z1,l3),((a_r2,cap_r2),(a_r1,m_r1,cap_r1))=>[]) (fun F (st:((List Int)×Int×(List ANd))) (hid:(Option Addr×Nat)×(Option Addr×Nat×Nat))=>match st,hid with | (l2,z1,l3),((a_r2,cap_r2),(a_r1,m_r1,cap_r1))=>[row a_r2 cap_r2 3 1 D.i64 l2,box b3 25 [.v (.slice a_r2 l2.length cap_r2)],box b2 24 [.v (.slice a_r1 m_r1 cap_r1),.i64 z1],arr a_r1 m_r1 cap_r1 44 4 ANd.d l3,(nthF F 0)]) (fun st=>st=o_1) ⟨rfl,rfl,rfl,rfl,rfl,trivial⟩ ⟨rfl,trivial⟩ ?_ ?_
  ·refine g_block ?_
   refine g_loop_m [(2,_),(3,_),(4,_),(7,_),(8,_),(33,_),(34,_)] [(4,_)] (fun (st:(Int×(List Int)×Int×(List ANd))) (hid:(Option Addr×Nat)×(Option Addr×Nat×Nat))=>match st,hid with | (x3,l4,z2,l5),((a_r2,cap_r2),(a_r1,m_r1,cap_r1))=>[(35,.i64 x3)]) (fun F (st:(Int×(List Int)×Int×(List ANd))) (hid:(Option Addr×Nat)×(Option Addr×Nat×Nat))=>match st,hid with | (x3,l4,z2,l5),((a_r2,cap_r2),(a_r1,m_r1,cap_r1))=>[row a_r2 cap_r2 3 1 D.i64 l4,box b3 25 [.v (.slice a_r2 l4.length cap_r2)],box b2 24 [.v (.slice a_r1 m_r1 cap_r1),.i64 z2],arr a_r1 m_r1 cap_r1 44 4 ANd.d l5,(nthF F 0)]) ((_,_),(_,_,_)) hj1 (fun _=>rfl) ⟨rfl,rfl,rfl,rfl,rfl,rfl,rfl,trivial⟩ ⟨rfl,trivial⟩ ⟨rfl,trivial⟩ rfl ?_;rintro n ⟨x3,l4,z2,l5⟩ ⟨⟨a_r2,cap_r2⟩,⟨a_r1,m_r1,cap_r1⟩⟩ hj1;rw [m_bound_Put_l1] at hj1;refine g_norm (L':=[(35,.i64 x3),(2,_),(3,_),(4,_),(7,_),(8,_),(33,_),(34,_)]) (ms':=[row a_r2 cap_r2 3 1 D.i64 l4,box b3 25 [.v (.slice a_r2 l4.length cap_r2)],box b2 24 [.v (.slice a_r1 m_r1 cap_r1),.i64 z2],arr a_r1 m_r1 cap_r1 44 4 ANd.d l5,_]) rfl rfl ?_;refine zq5 ?_;refine zcn hj1 (fun hc2 hj1=>?_) (fun hc2 hj1=>?_)
   ·refine zq5 ?_
    obtain ⟨x4,hx4,hj1⟩:=bS hj1;refine go_p rfl rfl rfl (oIm runUnderlying53 sizeOf24 rfl rfl hx4) ?_;refine zq1 ?_;refine zal24a fun b4=>?_;refine zst 0 ?_;refine go_ms (ms':=[box b4 24 [_,_],_,box b3 25 [_],box b2 24 [_,_],_,box b1 24 [_,_]]) rfl ?_;refine zq3 ?_;refine go_thaw 4 rfl rfl ?_;rintro rfl;refine zq1 ?_;refine go_conv (peekAggE (i:=40) (q:=0) 4 rfl rfl rfl rfl rfl).refines ?_;refine zq1 ?_;obtain ⟨⟨x5,s1⟩,hx5,hj1⟩:=bS hj1;refine go_op rfl rfl rfl (o_call (ms₁:=[]) call75 rfl (List.Perm.refl _) (w_graph_GraftO hx5)) ?_;rintro _ _ ⟨_,⟨a_r3,m_r3,cap_r3,rfl,rfl⟩,rfl⟩;refine zq3 ?_;refine zal24a fun b5=>?_;refine zst 0 ?_;refine go_ms (ms':=[box b5 24 [_,_],_,box b4 24 [_,_],_,box b3 25 [_],box b2 24 [_,_],_,box b1 24 [_,_]]) rfl ?_;refine zq5 ?_;refine zst 5 ?_;refine go_ms (ms':=[box b5 24 [_,_],_,box b4 24 [_,_],_,box b3 25 [_],box b2 24 [_,_],_,box b1 24 [_,_]]) rfl ?_;refine go_conv (refines_shift 1 6 rfl rfl rfl rfl) ?_;refine zq6 ?_;obtain ⟨hg6,hj1⟩:=grd_some hj1;refine zq1 ?_;refine go_p rfl rfl rfl (zs1 D.i64) ?_;obtain ⟨hg7,hj1⟩:=grd_some hj1;refine zap 2 hg7 fun a_r2 cap_r2=>?_;refine go_ms (ms':=[box b5 24 [_,_],box b4 24 [_,_],_,box b3 25 [_],box b2 24 [_,_],_,box b1 24 [_,_]]) rfl ?_;refine zst 3 ?_;refine go_ms (ms':=[box b5 24 [_,_],box b4 24 [_,_],_,box b3 25 [_],box b2 24 [_,_],_,box b1 24 [_,_]]) rfl ?_;refine zq2 ?_;obtain ⟨hg8,hj1⟩:=grd_some hj1;refine zq3 ?_;exact ⟨_,((_,_),(_,_,_)),hj1,⟨rfl,trivial⟩,⟨rfl,rfl,rfl,rfl,rfl,rfl,rfl,trivial⟩,[_,_],rfl⟩
   ·refine g_exit ?_
    exact ⟨_,((_,_),(_,_,_)),some_eq hj1,trivial,⟨rfl,rfl,rfl,rfl,rfl,trivial⟩,[],rfl⟩
  ·rintro ⟨l2,z1,l3⟩ ⟨⟨a_r2,cap_r2⟩,⟨a_r1,m_r1,cap_r1⟩⟩ hst
   subst hst;refine k_norm (L':=[(2,_),(3,_),(4,_),(7,_),(8,_)]) (ms':=[row a_r2 cap_r2 3 1 D.i64 l2,box b3 25 [.v (.slice a_r2 l2.length cap_r2)],box b2 24 [.v (.slice a_r1 m_r1 cap_r1),.i64 z1],arr a_r1 m_r1 cap_r1 44 4 ANd.d l3,_]) rfl rfl ?_;refine g_seq ?_;refine g_conv (refines_cellrow 1 0 0 rfl rfl rfl rfl rfl rfl) ?_;refine g_conv (refines_freeze (d := .list 1 D.i64 l2) 1 8 rfl rfl rfl rfl) ?_;refine gRg ?_;refine go_p rfl rfl rfl (o_makeFunc rfl rfl) ?_;refine zq10 ?_;obtain ⟨o_2,hj2,hm2⟩:=bS hm1;refine g_cut_m [(4,_),(7,_),(13,_)] [(0,_),(3,_)] (fun (st:(Int×(List ANd))) (hid:Unit)=>match st,hid with | (z3,l6),_=>[]) (fun F (st:(Int×(List ANd))) (hid:Unit)=>match st,hid with | (z3,l6),_=>[(nthF F 0),box b2 24 [.v (.slice a_r1 m_r1 cap_r1),.i64 z3],arr a_r1 m_r1 cap_r1 44 4 ANd.d l6,(nthF F 1)]) (fun st=>st=o_2) ⟨rfl,rfl,rfl,trivial⟩ ⟨rfl,rfl,trivial⟩ ?_ ?_
   ·refine g_block ?_
    refine g_loop_m [(4,_),(7,_),(13,_),(57,_)] [(0,_),(3,_)] (fun (st:(Int×Int×(List ANd))) (hid:Unit)=>match st,hid with | (x6,z4,l7),_=>[(58,.i64 x6)]) (fun F (st:(Int×Int×(List ANd))) (hid:Unit)=>match st,hid with | (x6,z4,l7),_=>[(nthF F 0),box b2 24 [.v (.slice a_r1 m_r1 cap_r1),.i64 z4],arr a_r1 m_r1 cap_r1 44 4 ANd.d l7,(nthF F 1)]) () hj2 (fun _=>rfl) ⟨rfl,rfl,rfl,rfl,trivial⟩ ⟨rfl,rfl,trivial⟩ ⟨rfl,trivial⟩ rfl ?_;rintro n ⟨x6,z4,l7⟩ ⟨⟩ hj2;rw [m_bound_Put_l2] at hj2;refine g_norm (L':=[(58,.i64 x6),(4,_),(7,_),(13,_),(57,_)]) (ms':=[_,box b2 24 [.v (.slice a_r1 m_r1 cap_r1),.i64 z4],arr a_r1 m_r1 cap_r1 44 4 ANd.d l7,_]) rfl rfl ?_;refine zq5 ?_;refine zcn hj2 (fun hc3 hj2=>?_) (fun hc3 hj2=>?_)
    ·refine zq13 ?_
     obtain ⟨x7,hx9,hj2⟩:=bS hj2;refine go_p rfl rfl rfl (o_indexAddr_arr 2 runUnderlying22 sizeOf44 rfl rfl rfl hx9) ?_;refine zq6 ?_;refine go_p rfl rfl rfl (o_nilCheck_apt 2 rfl rfl (idx_some hx9).2) ?_;refine go_p rfl rfl rfl (o_fieldAddr_apt (b:=0) 2 fi_44_0 rfl rfl (idx_some hx9).2) ?_;refine go_p rfl rfl rfl (o_load_arr (off:=0) 2 isAgg3 rfl rfl (idx_some hx9).2 rfl rfl rfl) ?_;refine gNl ?_;obtain ⟨o_3,hj3,hm3⟩:=bS hj2;refine g_cut_m [(4,_),(7,_),(13,_),(15,_),(57,_),(58,_)] [(0,_),(3,_)] (fun (st:(Int×(List ANd))) (hid:Unit)=>match st,hid with | (z5,l8),_=>[]) (fun F (st:(Int×(List ANd))) (hid:Unit)=>match st,hid with | (z5,l8),_=>[(nthF F 0),box b2 24 [.v (.slice a_r1 m_r1 cap_r1),.i64 z5],arr a_r1 m_r1 cap_r1 44 4 ANd.d l8,(nthF F 1)]) (fun st=>st=o_3) ⟨rfl,rfl,rfl,rfl,rfl,rfl,trivial⟩ ⟨rfl,rfl,trivial⟩ ?_ ?_
     ·refine zq7 ?_
      obtain ⟨o_4,hj4,hm4⟩:=bS hj3;refine g_cut_m [(4,_),(7,_),(13,_),(15,_),(57,_),(58,_)] [(0,_),(1,_),(2,_),(3,_)] (fun (st:Bool) (hid:Unit)=>match st,hid with | x8,_=>[(69,.bool x8)]) (fun F (st:Bool) (hid:Unit)=>match st,hid with | x8,_=>[(nthF F 0),(nthF F 1),(nthF F 2),(nthF F 3)]) (fun st=>st=o_4) ⟨rfl,rfl,rfl,rfl,rfl,rfl,trivial⟩ ⟨rfl,rfl,rfl,rfl,trivial⟩ ?_ ?_
      ·refine zcn hj4 (fun hc4 hj4=>?_) (fun hc4 hj4=>?_)
       ·refine gSp ?_
        exact ⟨_,(),some_eq hj4,⟨rfl,trivial⟩,⟨rfl,rfl,rfl,rfl,rfl,rfl,trivial⟩,[],rfl⟩
       ·refine zq5 ?_
        refine zcn hj4 (fun hc5 hj4=>?_) (fun hc5 hj4=>?_)
        ·refine gSp ?_
         exact ⟨_,(),some_eq hj4,⟨rfl,trivial⟩,⟨rfl,rfl,rfl,rfl,rfl,rfl,trivial⟩,[],rfl⟩
        ·refine zq4 ?_
         exact ⟨_,(),some_eq hj4,⟨rfl,trivial⟩,⟨rfl,rfl,rfl,rfl,rfl,rfl,trivial⟩,[],rfl⟩
      ·rintro x8 _ hst
       subst hst;refine k_norm (L':=[(69,.bool x8),(4,_),(7,_),(13,_),(15,_),(57,_),(58,_)]) (ms':=[_,_,_,_]) rfl rfl ?_;refine zcn hm4 (fun hc6 hm4=>?_) (fun hc6 hm4=>?_)
       ·obtain ⟨x9,hx10,hm4⟩:=bS hm4
        obtain ⟨x10,hx11,hm4⟩:=bS hm4;obtain ⟨x11,hx12,hm4⟩:=bS hm4;refine g_draw_c [16,19] [1,17,18] [17,18] Tryz_mixed (by decide +kernel) (by decide +kernel) rfl ?_;refine gde_p rfl rfl rfl rfl rfl rfl (oMv rfl) ?_;refine gde_p rfl rfl rfl rfl rfl rfl (oMv rfl) ?_;refine gde_p rfl rfl rfl rfl rfl rfl (oMv rfl) ?_;refine gde_p rfl rfl rfl rfl rfl rfl (oMv rfl) ?_;refine gde_p rfl rfl rfl rfl rfl rfl (o_nilCheck_apt 2 rfl rfl (idx_some hx9).2) ?_;refine gde_p rfl rfl rfl rfl rfl rfl (o_fieldAddr_apt (b:=0) 2 fi_44_1 rfl rfl (idx_some hx9).2) ?_;refine gde_p rfl rfl rfl rfl rfl rfl (o_load_arr (off:=1) 2 isAgg3 rfl rfl (idx_some hx9).2 rfl rfl rfl) ?_;refine gde_p rfl rfl rfl rfl rfl rfl (o_callv0 rfl rfl (fv_clo call76 (w_bound_Put_1 hx10))) ?_;refine gde_p rfl rfl rfl rfl rfl rfl (oMv rfl) ?_;refine gde_p rfl rfl rfl rfl rfl rfl (oMv rfl) ?_;refine gde_p rfl rfl rfl rfl rfl rfl (o_nilCheck_apt 2 rfl rfl (idx_some hx9).2) ?_;refine gde_p rfl rfl rfl rfl rfl rfl (o_fieldAddr_apt (b:=0) 2 fi_44_2 rfl rfl (idx_some hx9).2) ?_;refine gde_p rfl rfl rfl rfl rfl rfl (o_load_arr (off:=2) 2 isAgg3 rfl rfl (idx_some hx9).2 rfl rfl rfl) ?_;refine gde_p rfl rfl rfl rfl rfl rfl (o_callv0 rfl rfl (fv_clo call76 (w_bound_Put_1 hx11))) ?_;refine gde_p rfl rfl rfl rfl rfl rfl (o_nilCheck_apt 2 rfl rfl (idx_some hx9).2) ?_;refine gde_p rfl rfl rfl rfl rfl rfl (o_fieldAddr_apt (b:=0) 2 fi_44_1 rfl rfl (idx_some hx9).2) ?_;refine gde_e rfl ?_;refine gde_f rfl rfl rfl rfl rfl (o_nilCheck_apt 2 rfl rfl (by first | exact (idx_some hx9).2 | exact set_idx hx9 | exact set2_idx hx9)) ?_;refine gde_f rfl rfl rfl rfl rfl (o_fieldAddr_apt (b:=0) 2 fi_44_2 rfl rfl (by first | exact (idx_some hx9).2 | exact set_idx hx9 | exact set2_idx hx9)) ?_;refine gde_e rfl ?_;refine gde_nil ?_;refine gde2_u rfl rfl rfl (o_store_arr (off:=1) (z':=(⟨x7.kind,x9,x7.b,x7.l⟩:ANd)) 2 sizeOf3 rfl rfl (idx_some hx9).2 rfl rfl rfl rfl rfl rfl (nB rfl) rfl rfl) ?_;rintro _ _ rfl;refine ⟨⟨⟨trivial,o_nilCheck_apt 2 rfl rfl (by first | exact (idx_some hx9).2 | exact set_idx hx9 | exact set2_idx hx9)⟩,o_fieldAddr_apt (b:=0) 2 fi_44_2 rfl rfl (by first | exact (idx_some hx9).2 | exact set_idx hx9 | exact set2_idx hx9)⟩,?_⟩;refine gde2_u rfl rfl rfl (o_store_arr (off:=2) (z':=(⟨x11.kind,x11.a,x10,x11.l⟩:ANd)) 2 sizeOf3 rfl rfl (idx_some hx12).2 rfl rfl rfl rfl rfl rfl (nB rfl) rfl rfl) ?_;rintro _ _ rfl;refine ⟨⟨⟨trivial,o_nilCheck_apt 2 rfl rfl (by first | exact (idx_some hx9).2 | exact set_idx hx9 | exact set2_idx hx9)⟩,o_fieldAddr_apt (b:=0) 2 fi_44_2 rfl rfl (by first | exact (idx_some hx9).2 | exact set_idx hx9 | exact set2_idx hx9)⟩,?_⟩;refine gde2_nil ?_;exact ⟨_,(),some_eq hm4,trivial,⟨rfl,rfl,rfl,rfl,rfl,rfl,trivial⟩,[],rfl⟩
       ·refine gSp ?_
        exact ⟨_,(),some_eq hm4,trivial,⟨rfl,rfl,rfl,rfl,rfl,rfl,trivial⟩,[],rfl⟩
     ·rintro ⟨z5,l8⟩ ⟨⟩ hst
      subst hst;refine k_norm (L':=[(4,_),(7,_),(13,_),(15,_),(57,_),(58,_)]) (ms':=[_,box b2 24 [.v (.slice a_r1 m_r1 cap_r1),.i64 z5],arr a_r1 m_r1 cap_r1 44 4 ANd.d l8,_]) rfl rfl ?_;refine zq4 ?_;obtain ⟨x12,hx13,hm3⟩:=bS hm3;refine go_p rfl rfl rfl (o_nilCheck_apt 2 rfl rfl (idx_some hx13).2) ?_;refine go_p rfl rfl rfl (o_fieldAddr_apt (b:=0) 2 fi_44_3 rfl rfl (idx_some hx13).2) ?_;refine go_p rfl rfl rfl (o_load_arr (off:=3) 2 isAgg42 rfl rfl (idx_some hx13).2 rfl rfl rfl) ?_;obtain ⟨hg14,hm3⟩:=grd_some hm3;refine go_op rfl rfl rfl (o_call (ms₁:=[]) call77 rfl (List.Perm.refl _) (w_Clone_77 hg14)) ?_;rintro _ _ ⟨_,⟨a_r4,cap_r4,hd_r4,hq_r4⟩,rfl⟩;obtain ⟨m_r4,hm_r4⟩:∃ m,m=x12.l.length:=⟨_,rfl⟩;rw [<- hm_r4] at hd_r4 hq_r4;subst hd_r4 hq_r4
      clear hm_r4
      obtain ⟨x13,hx15,hm3⟩:=bS hm3;refine go_p rfl rfl rfl (o_nilCheck_apt 3 rfl rfl (idx_some hx15).2) ?_;refine go_p rfl rfl rfl (o_fieldAddr_apt (b:=0) 3 fi_44_3 rfl rfl (idx_some hx15).2) ?_;refine go_conv (refines_hole (.agg [.i64 x13.kind,.i64 x13.a,.i64 x13.b,.v (.slice a_r4 m_r4 cap_r4)]) 3 rfl rfl) ?_;refine go_u rfl rfl (o_store_arr (off:=3) (z':=none) 3 sizeOf42 rfl rfl (some_get hx15) rfl rfl rfl rfl rfl rfl (nB rfl) rfl rfl) ?_;rintro _ _ rfl;refine go_ms (ms':=[_,_,box b2 24 [_,_],_,box b1 24 [_,_]]) rfl ?_;refine zq4 ?_;refine go_p rfl rfl rfl (o_nilCheck_apt 3 rfl rfl (hole_get hx15)) ?_;refine go_p rfl rfl rfl (o_fieldAddr_apt (b:=0) 3 fi_44_3 rfl rfl (hole_get hx15)) ?_;refine go_p rfl rfl rfl (o_load_arr (off:=3) 3 isAgg42 rfl rfl (hole_get hx15) rfl rfl rfl) ?_;refine go_p rfl rfl rfl (o_len_arr 0 runUnderlying42 rfl rfl) ?_;refine zq2 ?_;obtain ⟨o_5,hj5,hm5⟩:=bS hm3;refine g_cut_m [(4,_),(7,_),(13,_),(57,_),(58,_)] [(1,_),(2,_),(3,_),(4,_)] (fun (st:(List AFd)) (hid:Unit)=>match st,hid with | l9,_=>[]) (fun F (st:(List AFd)) (hid:Unit)=>match st,hid with | l9,_=>[arr a_r4 m_r4 cap_r4 98 2 AFd.d l9,(nthF F 0),(nthF F 1),(nthF F 2),(nthF F 3)]) (fun st=>st=o_5) ⟨rfl,rfl,rfl,rfl,rfl,trivial⟩ ⟨rfl,rfl,rfl,rfl,trivial⟩ ?_ ?_
      ·refine g_block ?_
       refine g_loop_m [(4,_),(7,_),(13,_),(15,_),(57,_),(58,_),(103,_)] [(1,_),(2,_),(3,_),(4,_)] (fun (st:(Int×(List AFd))) (hid:Unit)=>match st,hid with | (x14,l10),_=>[(104,.i64 x14)]) (fun F (st:(Int×(List AFd))) (hid:Unit)=>match st,hid with | (x14,l10),_=>[arr a_r4 m_r4 cap_r4 98 2 AFd.d l10,(nthF F 0),(nthF F 1),(nthF F 2),(nthF F 3)]) () hj5 (fun _=>rfl) ⟨rfl,rfl,rfl,rfl,rfl,rfl,rfl,trivial⟩ ⟨rfl,rfl,rfl,rfl,trivial⟩ ⟨rfl,trivial⟩ rfl ?_;rintro n ⟨x14,l10⟩ ⟨⟩ hj5;rw [m_bound_Put_l3] at hj5;refine g_norm (L':=[(104,.i64 x14),(4,_),(7,_),(13,_),(15,_),(57,_),(58,_),(103,_)]) (ms':=[arr a_r4 m_r4 cap_r4 98 2 AFd.d l10,_,_,_,_]) rfl rfl ?_;refine zq5 ?_;refine zcn hj5 (fun hc7 hj5=>?_) (fun hc7 hj5=>?_)
       ·refine zq8 ?_
        obtain ⟨x15,hx16,hj5⟩:=bS hj5;obtain ⟨x16,hx17,hj5⟩:=bS hj5;obtain ⟨x17,hx18,hj5⟩:=bS hj5;refine zdr 17 ?_;refine zq1 ?_;refine gd_p rfl rfl rfl (o_nilCheck_apt 3 rfl rfl (hole_get hx15)) ?_;refine gd_p rfl rfl rfl (o_fieldAddr_apt (b:=0) 3 fi_44_3 rfl rfl (hole_get hx15)) ?_;refine gd_p rfl rfl rfl (o_load_arr (off:=3) 3 isAgg42 rfl rfl (hole_get hx15) rfl rfl rfl) ?_;refine zq3 ?_;refine gd_p rfl rfl rfl (o_nilCheck_apt 3 rfl rfl (hole_get hx15)) ?_;refine gd_p rfl rfl rfl (o_fieldAddr_apt (b:=0) 3 fi_44_3 rfl rfl (hole_get hx15)) ?_;refine gd_p rfl rfl rfl (o_load_arr (off:=3) 3 isAgg42 rfl rfl (hole_get hx15) rfl rfl rfl) ?_;refine zq1 ?_;refine gd_p rfl rfl rfl (o_indexAddr_arr 0 runUnderlying42 sizeOf98 rfl rfl rfl hx16) ?_;refine gd_p rfl rfl rfl (o_fieldAddr_apt (b:=0) 0 fi_98_1 rfl rfl (idx_some hx16).2) ?_;refine gd_p rfl rfl rfl (o_load_arr (off:=1) 0 isAgg3 rfl rfl (idx_some hx16).2 rfl rfl rfl) ?_;refine gd_p rfl rfl rfl (o_callv0 rfl rfl (fv_clo call76 (w_bound_Put_1 hx17))) ?_;refine gd_p rfl rfl rfl (o_indexAddr_arr 0 runUnderlying42 sizeOf98 rfl rfl rfl hx18) ?_;refine gd_p rfl rfl rfl (o_fieldAddr_apt (b:=0) 0 fi_98_1 rfl rfl (idx_some hx18).2) ?_;refine gd_nil ?_;refine go_u rfl rfl (o_store_arr (off:=1) (z':=(⟨x17.name,x16⟩:AFd)) 0 sizeOf3 rfl rfl (idx_some hx18).2 rfl rfl rfl rfl rfl rfl (nB rfl) rfl rfl) ?_;rintro _ _ rfl;refine go_ms (ms':=[_,_,box b2 24 [_,_],_,box b1 24 [_,_]]) rfl ?_;refine zq2 ?_;obtain ⟨hg19,hj5⟩:=grd_some hj5;refine zq3 ?_;exact ⟨_,(),hj5,⟨rfl,trivial⟩,⟨rfl,rfl,rfl,rfl,rfl,rfl,rfl,trivial⟩,[],rfl⟩
       ·refine g_exit ?_
        exact ⟨_,(),some_eq hj5,trivial,⟨rfl,rfl,rfl,rfl,rfl,trivial⟩,[],rfl⟩
      ·rintro l9 ⟨⟩ hst
       subst hst;refine k_norm (L':=[(4,_),(7,_),(13,_),(57,_),(58,_)]) (ms':=[arr a_r4 m_r4 cap_r4 98 2 AFd.d l9,_,_,_,_]) rfl rfl ?_;refine g_thaw 0 rfl rfl ?_;rintro rfl;refine g_conv (refines_unhole (z':=(⟨x13.kind,x13.a,x13.b,l9⟩:ANd)) 3 0 3 rfl rfl rfl rfl rfl rfl) ?_;refine gRg ?_;obtain ⟨hg20,hm5⟩:=grd_some hm5;refine zq3 ?_;exact ⟨_,(),hm5,⟨rfl,trivial⟩,⟨rfl,rfl,rfl,rfl,trivial⟩,[_],rfl⟩
    ·refine g_exit ?_
     exact ⟨_,(),some_eq hj2,trivial,⟨rfl,rfl,rfl,trivial⟩,[],rfl⟩
   ·rintro ⟨z3,l6⟩ ⟨⟩ hst
    subst hst;refine k_norm (L':=[(4,_),(7,_),(13,_)]) (ms':=[_,box b2 24 [.v (.slice a_r1 m_r1 cap_r1),.i64 z3],arr a_r1 m_r1 cap_r1 44 4 ANd.d l6,_]) rfl rfl ?_;refine zq5 ?_;obtain ⟨x18,hx21,hm2⟩:=bS hm2;refine go_p rfl rfl rfl (o_callv0 rfl rfl (fv_clo call76 (w_bound_Put_1 hx21))) ?_;refine zq1 ?_;refine zst 1 ?_;refine go_ms (ms':=[_,box b2 24 [_,_],_,box b1 24 [_,_]]) rfl ?_;refine zq3 ?_;refine go_thaw 2 rfl rfl ?_;rintro rfl;refine zq1 ?_;refine go_conv (peekAggE (i:=131) (q:=0) 2 rfl rfl rfl rfl rfl).refines ?_;obtain ⟨⟨x19,x20⟩,hx22,hm2⟩:=bS hm2;refine zc0 (w_bound_made hx22) ?_;refine zq2 ?_;refine zst 3 ?_;refine go_ms (ms':=[_,box b2 24 [_,_],_,box b1 24 [_,_]]) rfl ?_;refine zq2 ?_
    cases hm2;exact g_ret zr2
noncomputable def m_bound_over_l1 (l1:(List ATy)):Nat->(Int×(List Int)×(List ANd)×Int)->Option ((List Int)×(List ANd)×Int)
 | 0,_=>none
 | n+1,(x1,l4,l5,z2) =>
  bif (decide (x1<(l1.length:Int))) then
   (idx l1 x1).bind fun x2 =>
   (m_graph_GraftO (⟨l5,z2⟩:ATy) (⟨x2.l,x2.root⟩:ATy)).bind fun (x3,s1) =>
   grd (InR (x2.root+x3)) <|
   grd ((l4.length+([(x2.root+x3)]:List _).length)*8<=140737488355328) <|
   grd (InR (x1+1)) <|
   m_bound_over_l1 l1 n ((x1+1),(l4++[(x2.root+x3)]),s1.l,s1.root)
  else
   some (l4,l5,z2)
noncomputable def m_bound_over (n1:((List Int)->Option ANd)) (l1:(List ATy)):Option ATy:=
 (m_bound_over_l1 l1 FU (0,[],[],0):Option ((List Int)×(List ANd)×Int)).bind fun (l2,l3,z1) =>
 (n1 l2).bind fun x4 =>
 grd ((l3.length+([x4]:List _).length)*48<=140737488355328) <|
 grd (InR (((l3++[x4]).length:Int) - 1)) <|
 some (⟨(l3++[x4]),(((l3++[x4]).length:Int) - 1)⟩:ATy)
theorem w_bound_over {n1:((List Int)->Option ANd)} {l1:(List ATy)} {r_1:ATy} {fv_n1:D} (hfn1:FunOk1 Tryz.prog fv_n1 (D.list 1 D.i64) ANd.d n1) (hm:m_bound_over n1 l1=some r_1):Fn0 Tryz.prog 82 [fv_n1,.list 2 ATy.d l1] (ATy.d r_1):=by
 unfold m_bound_over at hm;refine fn_intro func82 rfl ntmps82 rfl fun H0 fr w0=>?_;refine zq2 ?_;refine zal24a fun b1=>?_;refine zq3 ?_;refine zal24b fun b2=>?_;refine go_conv (refines_newarr (T:=44) (sz:=4) (f:=ANd.d)) ?_;refine zq4 ?_;refine go_conv (refines_newrow (T:=3) (sz:=1) (f:=D.i64)) ?_;refine zq8 ?_;obtain ⟨o_1,hj1,hm1⟩:=bS hm;refine g_cut_m [(0,_),(4,_),(5,_)] [(3,_)] (fun (st:((List Int)×(List ANd)×Int)) (hid:(Option Addr×Nat)×(Option Addr×Nat×Nat))=>match st,hid with | (l2,l3,z1),((a_r2,cap_r2),(a_r1,m_r1,cap_r1))=>[(6,.v (.slice a_r2 l2.length cap_r2))]) (fun F (st:((List Int)×(List ANd)×Int)) (hid:(Option Addr×Nat)×(Option Addr×Nat×Nat))=>match st,hid with | (l2,l3,z1),((a_r2,cap_r2),(a_r1,m_r1,cap_r1))=>[row a_r2 cap_r2 3 1 D.i64 l2,arr a_r1 m_r1 cap_r1 44 4 ANd.d l3,box b2 24 [.v (.slice a_r1 m_r1 cap_r1),.i64 z1],(nthF F 0)]) (fun st=>st=o_1) ⟨rfl,rfl,rfl,trivial⟩ ⟨rfl,trivial⟩ ?_ ?_
 ·refine g_block ?_
  refine g_loop_m [(0,_),(4,_),(5,_),(11,_),(12,_)] [(3,_)] (fun (st:(Int×(List Int)×(List ANd)×Int)) (hid:(Option Addr×Nat)×(Option Addr×Nat×Nat))=>match st,hid with | (x1,l4,l5,z2),((a_r2,cap_r2),(a_r1,m_r1,cap_r1))=>[(6,.v (.slice a_r2 l4.length cap_r2)),(13,.i64 x1)]) (fun F (st:(Int×(List Int)×(List ANd)×Int)) (hid:(Option Addr×Nat)×(Option Addr×Nat×Nat))=>match st,hid with | (x1,l4,l5,z2),((a_r2,cap_r2),(a_r1,m_r1,cap_r1))=>[row a_r2 cap_r2 3 1 D.i64 l4,arr a_r1 m_r1 cap_r1 44 4 ANd.d l5,box b2 24 [.v (.slice a_r1 m_r1 cap_r1),.i64 z2],(nthF F 0)]) ((_,_),(_,_,_)) hj1 (fun _=>rfl) ⟨rfl,rfl,rfl,rfl,rfl,trivial⟩ ⟨rfl,trivial⟩ ⟨rfl,rfl,trivial⟩ rfl ?_;rintro n ⟨x1,l4,l5,z2⟩ ⟨⟨a_r2,cap_r2⟩,⟨a_r1,m_r1,cap_r1⟩⟩ hj1;rw [m_bound_over_l1] at hj1;refine g_norm (L':=[(6,.v (.slice a_r2 l4.length cap_r2)),(13,.i64 x1),(0,_),(4,_),(5,_),(11,_),(12,_)]) (ms':=[row a_r2 cap_r2 3 1 D.i64 l4,arr a_r1 m_r1 cap_r1 44 4 ANd.d l5,box b2 24 [.v (.slice a_r1 m_r1 cap_r1),.i64 z2],_]) rfl rfl ?_;refine zq5 ?_;refine zcn hj1 (fun hc1 hj1=>?_) (fun hc1 hj1=>?_)
  ·refine zq5 ?_
   obtain ⟨x2,hx1,hj1⟩:=bS hj1;refine zq2 ?_;refine zal24a fun b3=>?_;refine zst 0 ?_;refine go_ms (ms':=[box b3 24 [_,_],_,_,box b2 24 [_,_],box b1 24 [_,_]]) rfl ?_;refine zq3 ?_;refine go_thaw 2 rfl rfl ?_;rintro rfl;refine zq1 ?_;refine go_conv (peekAggE (i:=18) (q:=0) 2 rfl rfl rfl rfl rfl).refines ?_;refine zq1 ?_;obtain ⟨⟨x3,s1⟩,hx2,hj1⟩:=bS hj1;refine go_op rfl rfl rfl (o_call (ms₁:=[]) call75 rfl (List.Perm.refl _) (w_graph_GraftO hx2)) ?_;rintro _ _ ⟨_,⟨a_r3,m_r3,cap_r3,rfl,rfl⟩,rfl⟩;refine zq3 ?_;refine zal24a fun b4=>?_;refine zst 0 ?_;refine go_ms (ms':=[box b4 24 [_,_],_,box b3 24 [_,_],_,_,box b2 24 [_,_],box b1 24 [_,_]]) rfl ?_;refine zq5 ?_;refine zst 5 ?_;refine go_ms (ms':=[box b4 24 [_,_],_,box b3 24 [_,_],_,_,box b2 24 [_,_],box b1 24 [_,_]]) rfl ?_;refine go_conv (refines_shift 1 4 rfl rfl rfl rfl) ?_;refine zq6 ?_;obtain ⟨hg3,hj1⟩:=grd_some hj1;refine zq1 ?_;refine go_p rfl rfl rfl (zs1 D.i64) ?_;obtain ⟨hg4,hj1⟩:=grd_some hj1;refine zap 2 hg4 fun a_r2 cap_r2=>?_;refine go_ms (ms':=[box b4 24 [_,_],box b3 24 [_,_],_,_,box b2 24 [_,_],box b1 24 [_,_]]) rfl ?_;refine zq3 ?_;obtain ⟨hg5,hj1⟩:=grd_some hj1;refine zq3 ?_;exact ⟨_,((_,_),(_,_,_)),hj1,⟨rfl,rfl,trivial⟩,⟨rfl,rfl,rfl,rfl,rfl,trivial⟩,[_,_],rfl⟩
  ·refine g_exit ?_
   exact ⟨_,((_,_),(_,_,_)),some_eq hj1,⟨rfl,trivial⟩,⟨rfl,rfl,rfl,trivial⟩,[],rfl⟩
 ·rintro ⟨l2,l3,z1⟩ ⟨⟨a_r2,cap_r2⟩,⟨a_r1,m_r1,cap_r1⟩⟩ hst
  subst hst;refine k_norm (L':=[(6,.v (.slice a_r2 l2.length cap_r2)),(0,_),(4,_),(5,_)]) (ms':=[row a_r2 cap_r2 3 1 D.i64 l2,arr a_r1 m_r1 cap_r1 44 4 ANd.d l3,box b2 24 [.v (.slice a_r1 m_r1 cap_r1),.i64 z1],_]) rfl rfl ?_;refine g_seq ?_;obtain ⟨x4,hx6,hm1⟩:=bS hm1;refine zdr 6 ?_;refine zq4 ?_;refine gd_p rfl rfl rfl (.view (peekE (i:=35) 0 rfl rfl rfl) (o_callv0 rfl rfl (hfn1 _ _ hx6))) ?_;refine gd_p rfl rfl rfl (zs1 ANd.d) ?_;refine gd_nil ?_;obtain ⟨hg7,hm1⟩:=grd_some hm1;refine go_op rfl rfl rfl (o_append_own (a:=_) 1 underlying22 type44 rfl rfl rfl rfl rfl rfl (fun _=>rfl) (fun _=>rfl) hg7 (app_len hg7 rfl)) ?_;rintro _ _ ⟨a_r1,m_r1,cap_r1,rfl,rfl⟩;refine go_ms (ms':=[_,_,box b2 24 [_,_],box b1 24 [_,_]]) rfl ?_;refine zq1 ?_;refine zst 2 ?_;refine go_ms (ms':=[_,_,box b2 24 [_,_],box b1 24 [_,_]]) rfl ?_;refine zq5 ?_;refine go_p rfl rfl rfl (o_len_arr 1 runUnderlying22 rfl rfl) ?_;obtain ⟨hg8,hm1⟩:=grd_some hm1;refine zq2 ?_;refine zst 2 ?_;refine go_ms (ms':=[_,_,box b2 24 [_,_],box b1 24 [_,_]]) rfl ?_;refine zq3 ?_;refine go_thaw 1 rfl rfl ?_;rintro rfl;refine zq1 ?_;refine go_conv (peekAggE (i:=45) (q:=0) 1 rfl rfl rfl rfl rfl).refines ?_;refine zst 3 ?_;refine go_ms (ms':=[_,_,box b2 24 [_,_],box b1 24 [_,_]]) rfl ?_;refine gNl ?_
  cases hm1;exact g_ret zr1
noncomputable def m_bound_Arrow (a1:ATy) (bv1:ATy):Option (ATy×Int):=
 (m_bound_may [a1,bv1]).bind fun x1 =>
 bif (!decide (x1=0)) then
  some ((⟨([]:List ANd),0⟩:ATy),x1)
 else
  (m_bound_over (fun y0=>m_bound_pair_1 y0 6) [a1,bv1]).bind fun x2 =>
  (m_bound_made x2).bind fun (x3,x4) =>
  some ((⟨x3.l,x3.root⟩:ATy),x4)
theorem w_bound_Arrow {a1:ATy} {bv1:ATy} {r_1:ATy} {r_2:Int} (hm:m_bound_Arrow a1 bv1=some (r_1,r_2)):Fn0 Tryz.prog 48 [ATy.d a1,ATy.d bv1] (.tup [ATy.d r_1,.i64 r_2]):=by
 unfold m_bound_Arrow at hm;refine fn_intro func48 rfl ntmps48 rfl fun H0 fr w0=>?_;refine zq4 ?_;refine zal24a fun b1=>?_;refine zq7 ?_;refine go_p rfl rfl rfl (zs2 ATy.d) ?_;obtain ⟨x1,hx1,hm⟩:=bS hm;refine zc0 (w_bound_may hx1) ?_;refine zq7 ?_;refine zcn hm (fun hc1 hm=>?_) (fun hc1 hm=>?_)
 ·refine zq2 ?_
  refine go_p rfl rfl rfl zb24b ?_;refine zq1 ?_;refine zst 0 ?_;refine go_ms (ms':=[box b1 24 [_,_]]) rfl ?_;refine zq2 ?_
  cases hm;exact g_ret zr2
 ·refine zq2 ?_
  obtain ⟨x2,hx2,hm⟩:=bS hm;obtain ⟨⟨x3,x4⟩,hx3,hm⟩:=bS hm;refine zdr 8 ?_;refine zcd (w_pair (k:=6)) ?_;refine zq2 ?_;refine gd_p rfl rfl rfl (zs2 ATy.d) ?_;refine gd_p rfl rfl rfl (o_call0 call82 rfl (w_bound_over (fun _ _ h=>fv_clo call114 (w_bound_pair_1 h)) hx2)) ?_;refine zcd (w_bound_made hx3) ?_;refine zq3 ?_;refine zst 0 ?_;refine go_ms (ms':=[box b1 24 [_,_]]) rfl ?_;refine zq2 ?_
  cases hm;exact g_ret zr2
noncomputable def m_lo_works  : Option Bool:=
 (m_graph_Leaf 3).bind fun x1 =>
 (m_bound_Put (⟨[(⟨11,0,0,([]:List AFd)⟩:ANd),(⟨6,0,0,([]:List AFd)⟩:ANd)],1⟩:ATy) [x1]).bind fun (x2,x3) =>
 (m_graph_Leaf 3).bind fun x4 =>
 (m_graph_Leaf 3).bind fun x5 =>
 (m_bound_Arrow x4 x5).bind fun (x6,x7) =>
 (m_below_Alike (⟨x2.l,x2.root⟩:ATy) (⟨x6.l,x6.root⟩:ATy)).bind fun (x8,x9) =>
 (bif ((((decide (x3=0))&&(decide (x7=0)))&&(decide (x9=0)))&&x8) then ((m_graph_Ground (⟨x2.l,x2.root⟩:ATy)).bind fun x10 =>
 some x10) else (some false)).bind fun p1 =>
 some p1
theorem w_lo_works  {r_1:Bool} (hm:m_lo_works=some r_1):Fn0 Tryz.prog 42 [] (.bool r_1):=by
 unfold m_lo_works at hm;refine fn_intro func42 rfl ntmps42 rfl fun H0 fr w0=>?_;refine zq6 ?_;refine go_p rfl rfl rfl zb44a ?_;refine go_p rfl rfl rfl zb44a ?_;refine go_p rfl rfl rfl (o_buildSlice (xs:=[_,_]) (f:=ANd.d) (l:=[(⟨11,0,0,([]:List AFd)⟩:ANd),(⟨6,0,0,([]:List AFd)⟩:ANd)]) runUnderlying22 sizeOf44 zeroValue44 rfl rfl rfl (fun _=>⟨rfl,rfl,rfl⟩) rfl) ?_;refine go_p rfl rfl rfl zb24b ?_;refine zal24a fun b1=>?_;refine zst 0 ?_;refine go_ms (ms':=[box b1 24 [_,_]]) rfl ?_;refine zq2 ?_;obtain ⟨x1,hx1,hm⟩:=bS hm;obtain ⟨⟨x2,x3⟩,hx2,hm⟩:=bS hm;refine g_draw_c [7,8] [0,1,2,3,4,5,6,9] [0] Tryz_mixed (by decide +kernel) (by decide +kernel) rfl ?_;refine gde_f rfl rfl rfl rfl rfl (oLg 0 isAgg24 sizeOf24 rfl rfl rfl rfl (nB rfl)) ?_;refine gde_p rfl rfl rfl rfl rfl rfl (o_call0 call60 rfl (w_graph_Leaf hx1)) ?_;refine gde_p rfl rfl rfl rfl rfl rfl (zs1 ATy.d) ?_;refine gde_p rfl rfl rfl rfl rfl rfl (o_call0 call40 rfl (w_bound_Put hx2)) ?_;refine gde_p rfl rfl rfl rfl rfl rfl (oMv rfl) ?_;refine gde_p rfl rfl rfl rfl rfl rfl (o_extract rfl rfl) ?_;refine gde_p rfl rfl rfl rfl rfl rfl (o_extract rfl rfl) ?_;refine gde_e rfl ?_;refine gde_e rfl ?_;refine gde_p rfl rfl rfl rfl rfl rfl (oAs rfl) ?_;refine gde_nil ?_;refine gde2_t rfl rfl rfl rfl (o_alloc_own zeroValue24 (cs:=[.list 4 ANd.d [],.i64 0]) rfl) ?_;rintro _ _ ⟨b2,rfl,rfl⟩;refine ⟨⟨trivial,oLg 1 isAgg24 sizeOf24 rfl rfl rfl rfl (nB rfl)⟩,?_⟩;refine gde2_u rfl rfl rfl (oSb 0 sizeOf24 rfl rfl rfl rfl rfl rfl rfl rfl (nB rfl)) ?_;rintro _ _ rfl;refine ⟨⟨trivial,oLg 1 isAgg24 sizeOf24 rfl rfl rfl rfl (nB rfl)⟩,?_⟩;refine gde2_nil ?_;refine zq2 ?_;obtain ⟨x4,hx3,hm⟩:=bS hm;refine zc0 (w_graph_Leaf hx3) ?_;obtain ⟨x5,hx4,hm⟩:=bS hm;refine zc0 (w_graph_Leaf hx4) ?_;obtain ⟨⟨x6,x7⟩,hx5,hm⟩:=bS hm;refine zc0 (w_bound_Arrow hx5) ?_;refine zq3 ?_;refine zal24a fun b3=>?_;refine zst 0 ?_;refine go_ms (ms':=[box b3 24 [_,_],box b2 24 [_,_],box b1 24 [_,_]]) rfl ?_;refine zq6 ?_;obtain ⟨⟨x8,x9⟩,hx6,hm⟩:=bS hm;refine zc0 (w_below_Alike hx6) ?_;refine zq11 ?_
 apply go_and [(2,_),(6,_),(7,_)] 3 36 (t:=33) ⟨rfl,rfl,rfl,trivial⟩ rfl
 ·intro hg_1 hk1
  refine zq3 ?_;exact zgm hk1
 ·intro hg_1 hk1
  refine zq3 ?_;exact zgm hk1
 refine zq1 ?_
 apply go_and [(2,_),(6,_)] 3 40 (t:=37) ⟨rfl,rfl,trivial⟩ rfl
 ·intro hg_2 hk2
  refine zq3 ?_;exact zgm hk2
 ·intro hg_2 hk2
  refine zq3 ?_;exact zgm hk2
 refine zq1 ?_
 apply go_and [(2,_)] 2 43 (t:=41) ⟨rfl,trivial⟩ rfl
 ·intro hg_3 hk3
  refine zq2 ?_;exact zgm hk3
 ·intro hg_3 hk3
  refine zq2 ?_;exact zgm hk3
 refine zq1 ?_;obtain ⟨p1,hp_4,hm⟩:=bS hm;refine go_two [] 3 47 p1 (t:=44) trivial rfl (fun hg_4 hk4=>?_) (fun hg_4 hk4=>?_) ?_
 ·replace hp_4:=cond_t hg_4 hp_4
  refine zq1 ?_;obtain ⟨x10,hx7,hp_4⟩:=bS hp_4;refine zcw (w_graph_Ground hx7) ?_;refine zq1 ?_;exact zgb hk4 hp_4
 ·replace hp_4:=cond_f hg_4 hp_4
  refine zq3 ?_;exact zgb hk4 hp_4
 refine zq2 ?_
 cases hm;exact g_ret zr1
def AFd.eqv (x y:AFd):Bool:=((x.name == y.name)&&((x.at_ == y.at_)&&true))
theorem eqf_98:∀ fs:Array Field,Tryz.prog.underlying 98=some (.struct fs)->EqFields Tryz.prog fs.toList 0 [.str,.int]:=by
 intro fs h
 have:=h.symm.trans underlying98
 simp only [Option.some.injEq,TypeDesc.struct.injEq] at this;subst this;exact ⟨by decide,rfl,isAgg9,underlying9,⟨by decide,rfl,isAgg3,⟨_,underlying3⟩,trivial⟩⟩
noncomputable def m_rg_SameList_l2 (x1:ANd) (x2:ANd):Nat->Int->Option (Out Bool Unit)
 | 0,_=>none
 | n+1,k1 =>
  bif (decide (k1<(x1.l.length:Int))) then
   (idx x1.l k1).bind fun x3 =>
   (idx x2.l k1).bind fun x4 =>
   bif (!(AFd.eqv x3 x4)) then
    some (Out.ret false)
   else
    grd (InR (k1+1)) <|
    m_rg_SameList_l2 x1 x2 n (k1+1)
  else
   some (Out.go (()))
noncomputable def m_rg_SameList_l1 (a1:ATy) (bv1:ATy):Nat->Int->Option (Out Bool Unit)
 | 0,_=>none
 | n+1,i1 =>
  bif (decide (i1<(a1.l.length:Int))) then
   (idx a1.l i1).bind fun x1 =>
   (idx bv1.l i1).bind fun x2 =>
   bif ((((!decide (x1.kind=x2.kind))||(!decide (x1.a=x2.a)))||(!decide (x1.b=x2.b)))||(!decide ((x1.l.length:Int)=(x2.l.length:Int)))) then
    some (Out.ret false)
   else
    ((m_rg_SameList_l2 x1 x2 FU 0:Option (Out Bool Unit))).bind (fun oo=>oo.on (fun r1=>some (Out.ret r1)) (fun _ =>
    grd (InR (i1+1)) <|
    m_rg_SameList_l1 a1 bv1 n (i1+1)))
  else
   some (Out.go (()))
noncomputable def m_rg_SameList (a1:ATy) (bv1:ATy):Option Bool:=
 bif ((!decide ((a1.l.length:Int)=(bv1.l.length:Int)))||(!decide (a1.root=bv1.root))) then
  some false
 else
  ((m_rg_SameList_l1 a1 bv1 FU 0:Option (Out Bool Unit))).bind (fun oo=>oo.on (fun r2=>some r2) (fun _ =>
  some true))
theorem w_rg_SameList {a1:ATy} {bv1:ATy} {r_1:Bool} (hm:m_rg_SameList a1 bv1=some r_1):Fn0 Tryz.prog 79 [ATy.d a1,ATy.d bv1] (.bool r_1):=by
 unfold m_rg_SameList at hm;refine fn_intro func79 rfl ntmps79 rfl fun H0 fr w0=>?_;refine zq17 ?_
 apply go_or [(2,_),(3,_)] 6 22 (t:=16) ⟨rfl,rfl,trivial⟩ rfl
 ·intro hg_1 hk1
  refine zq6 ?_;exact zgm hk1
 ·intro hg_1 hk1
  refine zq6 ?_;exact zgm hk1
 refine gNl ?_;refine zcn hm (fun hc1 hm=>?_) (fun hc1 hm=>?_)
 ·refine zq4 ?_
  cases hm;exact g_ret zr1
 ·refine zq6 ?_
  obtain ⟨o_1,hj1,hm1⟩:=bS hm;refine g_cut_m [] [] (fun (st:Unit) (hid:Unit)=>match st,hid with | _,_=>[]) (fun F (st:Unit) (hid:Unit)=>match st,hid with | _,_=>[]) (fun st=>Out.go (st)=o_1) trivial trivial ?_ ?_
  ·refine g_block ?_
   refine g_loop_m [(2,_),(3,_)] [] (fun (st:Int) (hid:Unit)=>match st,hid with | i1,_=>[(5,.i64 i1)]) (fun F (st:Int) (hid:Unit)=>match st,hid with | i1,_=>[]) () hj1 (fun _=>rfl) ⟨rfl,rfl,trivial⟩ trivial ⟨rfl,trivial⟩ rfl ?_;rintro n i1 _ hj1;rw [m_rg_SameList_l1] at hj1;refine g_norm (L':=[(5,.i64 i1),(2,_),(3,_)]) (ms':=[]) rfl rfl ?_;refine zq9 ?_;refine zcn hj1 (fun hc2 hj1=>?_) (fun hc2 hj1=>?_)
   ·refine zq4 ?_
    obtain ⟨x1,hx1,hj1⟩:=bS hj1;obtain ⟨x2,hx2,hj1⟩:=bS hj1;refine g_draw_x [] [12,13] [5,6,7,8,9] [10,11] [] Tryz_mixed (by decide +kernel) (by decide +kernel) rfl ?_;refine gdx_p rfl rfl rfl rfl rfl rfl (oFa fi_24_0 rfl rfl rfl) ?_;refine gdx_p rfl rfl rfl rfl rfl rfl (o_load isAgg22 rfl rfl) ?_;refine gdx_p rfl rfl rfl rfl rfl rfl (oMv rfl) ?_;refine gdx_p rfl rfl rfl rfl rfl rfl (oIm runUnderlying22 sizeOf44 rfl rfl hx1) ?_;refine gdx_p rfl rfl rfl rfl rfl rfl (o_load_agg isAgg44 sizeOf44 rfl rfl) ?_;refine gdx_p rfl rfl rfl rfl rfl rfl (oFa fi_24_0 rfl rfl rfl) ?_;refine gdx_p rfl rfl rfl rfl rfl rfl (o_load isAgg22 rfl rfl) ?_;refine gdx_p rfl rfl rfl rfl rfl rfl (oMv rfl) ?_;refine gdx_p rfl rfl rfl rfl rfl rfl (oIm runUnderlying22 sizeOf44 rfl rfl hx2) ?_;refine gdx_p rfl rfl rfl rfl rfl rfl (o_load_agg isAgg44 sizeOf44 rfl rfl) ?_;refine gdx_fresh (R0:=fun d A=>∃ b,d = .v (.pointer (some ⟨b,0,none⟩))/\A=box b 44 [.i64 0,.i64 0,.i64 0,.list 2 AFd.d []]) rfl rfl rfl rfl (OpT.mono (o_alloc_own zeroValue44 (cs:=[.i64 0,.i64 0,.i64 0,.list 2 AFd.d []]) rfl) (by rintro d ms' ⟨b,rfl,rfl⟩;exact ⟨_,⟨b,rfl,rfl⟩,rfl⟩)) ?_;refine gdx_fresh (R0:=fun d A=>∃ b,d = .v (.pointer (some ⟨b,0,none⟩))/\A=box b 44 [.i64 0,.i64 0,.i64 0,.list 2 AFd.d []]) rfl rfl rfl rfl (OpT.mono (o_alloc_own zeroValue44 (cs:=[.i64 0,.i64 0,.i64 0,.list 2 AFd.d []]) rfl) (by rintro d ms' ⟨b,rfl,rfl⟩;exact ⟨_,⟨b,rfl,rfl⟩,rfl⟩)) ?_;refine gdx_e rfl ?_;refine gdx_e rfl ?_;refine gdx_nil ?_;refine gf_nil [(10,6),(11,7)] rfl ?_;rintro _ _ ⟨b1,rfl,rfl⟩;rintro _ _ ⟨b2,rfl,rfl⟩
    show _/\_
    refine ⟨(trivial:True),?_⟩;refine gde2_u rfl rfl rfl (oSb 0 sizeOf44 rfl rfl rfl rfl rfl rfl rfl rfl (nB rfl)) ?_;rintro _ _ rfl;refine ⟨(trivial:True),?_⟩;refine gde2_u rfl rfl rfl (oSb 1 sizeOf44 rfl rfl rfl rfl rfl rfl rfl rfl (nB rfl)) ?_;rintro _ _ rfl;refine ⟨(trivial:True),?_⟩;refine gde2_nil ?_;refine zq9 ?_
    apply go_or [(2,_),(3,_),(5,_),(6,_),(7,_)] 6 51 (t:=45) ⟨rfl,rfl,rfl,rfl,rfl,trivial⟩ rfl
    ·intro hg_2 hk2
     refine zq6 ?_;exact zgm hk2
    ·intro hg_2 hk2
     refine zq6 ?_;exact zgm hk2
    refine zq1 ?_
    apply go_or [(2,_),(3,_),(5,_),(6,_),(7,_)] 6 58 (t:=52) ⟨rfl,rfl,rfl,rfl,rfl,trivial⟩ rfl
    ·intro hg_3 hk3
     refine zq6 ?_;exact zgm hk3
    ·intro hg_3 hk3
     refine zq6 ?_;exact zgm hk3
    refine zq1 ?_
    apply go_or [(2,_),(3,_),(5,_),(6,_),(7,_)] 8 67 (t:=59) ⟨rfl,rfl,rfl,rfl,rfl,trivial⟩ rfl
    ·intro hg_4 hk4
     refine zq8 ?_;exact zgm hk4
    ·intro hg_4 hk4
     refine zq8 ?_;exact zgm hk4
    refine gNl ?_;refine zcn hj1 (fun hc3 hj1=>?_) (fun hc3 hj1=>?_)
    ·refine zq4 ?_
     refine g_ret ?_;obtain rfl:=some_eq hj1
     replace hm1:=on_ret hm1
     cases hm1;exact zr1
    ·refine zq5 ?_
     obtain ⟨o_2,hj2,hm2⟩:=bS hj1;refine g_cut_m [(2,_),(3,_),(5,_)] [(0,_),(1,_)] (fun (st:Unit) (hid:Unit)=>match st,hid with | _,_=>[]) (fun F (st:Unit) (hid:Unit)=>match st,hid with | _,_=>[(nthF F 0),(nthF F 1)]) (fun st=>Out.go (st)=o_2) ⟨rfl,rfl,rfl,trivial⟩ ⟨rfl,rfl,trivial⟩ ?_ ?_
     ·refine g_block ?_
      refine g_loop_m [(2,_),(3,_),(5,_),(6,_),(7,_)] [(0,_),(1,_)] (fun (st:Int) (hid:Unit)=>match st,hid with | k1,_=>[(8,.i64 k1)]) (fun F (st:Int) (hid:Unit)=>match st,hid with | k1,_=>[(nthF F 0),(nthF F 1)]) () hj2 (fun _=>rfl) ⟨rfl,rfl,rfl,rfl,rfl,trivial⟩ ⟨rfl,rfl,trivial⟩ ⟨rfl,trivial⟩ rfl ?_;rintro n k1 _ hj2;rw [m_rg_SameList_l2] at hj2;refine g_norm (L':=[(8,.i64 k1),(2,_),(3,_),(5,_),(6,_),(7,_)]) (ms':=[_,_]) rfl rfl ?_;refine zq9 ?_;refine zcn hj2 (fun hc4 hj2=>?_) (fun hc4 hj2=>?_)
      ·refine zq4 ?_
       obtain ⟨x3,hx3,hj2⟩:=bS hj2;obtain ⟨x4,hx4,hj2⟩:=bS hj2;refine zdr 11 ?_;refine zq10 ?_;refine gd_p rfl rfl rfl (o_neqagg (ks:=[.str,.int]) underlying98 (by kernel_rfl) (by kernel_rfl) (eqf_98 _ underlying98) rfl rfl rfl) ?_;refine zq2 ?_;refine zcn hj2 (fun hc5 hj2=>?_) (fun hc5 hj2=>?_)
       ·refine zq4 ?_
        refine g_ret ?_;obtain rfl:=some_eq hj2
        replace hm2:=on_ret hm2
        obtain rfl:=some_eq hm2
        replace hm1:=on_ret hm1
        cases hm1;exact zr1
       ·refine zq3 ?_
        obtain ⟨hg5,hj2⟩:=grd_some hj2;refine zq3 ?_;exact ⟨_,(),hj2,⟨rfl,trivial⟩,⟨rfl,rfl,rfl,rfl,rfl,trivial⟩,[],rfl⟩
      ·refine g_exit ?_
       exact ⟨_,(),some_eq hj2,trivial,⟨rfl,rfl,rfl,trivial⟩,[],rfl⟩
     ·rintro _ _ hst
      subst hst
      replace hm2:=on_go hm2
      refine k_norm (L':=[(2,_),(3,_),(5,_)]) (ms':=[_,_]) rfl rfl ?_;refine zq2 ?_;obtain ⟨hg6,hm2⟩:=grd_some hm2;refine zq3 ?_;exact ⟨_,(),hm2,⟨rfl,trivial⟩,⟨rfl,rfl,trivial⟩,[_,_],rfl⟩
   ·refine g_exit ?_
    exact ⟨_,(),some_eq hj1,trivial,trivial,[],rfl⟩
  ·rintro _ _ hst
   subst hst
   replace hm1:=on_go hm1
   refine k_norm (L':=[]) (ms':=[]) rfl rfl ?_;refine zq4 ?_
   cases hm1;exact g_ret zr1
noncomputable def m_ba_HasInt_l1 (l1:(List Int)) (n1:Int):Nat->Int->Option (Out Bool Unit)
 | 0,_=>none
 | n+1,i1 =>
  bif (decide (i1<(l1.length:Int))) then
   (idx l1 i1).bind fun x1 =>
   bif (decide (x1=n1)) then
    some (Out.ret true)
   else
    grd (InR (i1+1)) <|
    m_ba_HasInt_l1 l1 n1 n (i1+1)
  else
   some (Out.go (()))
noncomputable def m_ba_HasInt (l1:(List Int)) (n1:Int):Option Bool:=
 ((m_ba_HasInt_l1 l1 n1 FU 0:Option (Out Bool Unit))).bind (fun oo=>oo.on (fun r1=>some r1) (fun _ =>
 some false))
theorem w_ba_HasInt {l1:(List Int)} {n1:Int} {r_1:Bool} (hm:m_ba_HasInt l1 n1=some r_1):Fn0 Tryz.prog 141 [.list 1 D.i64 l1,.i64 n1] (.bool r_1):=by
 unfold m_ba_HasInt at hm;refine fn_intro func141 rfl ntmps141 rfl fun H0 fr w0=>?_;refine zq9 ?_;obtain ⟨o_1,hj1,hm1⟩:=bS hm;refine g_cut_m [] [] (fun (st:Unit) (hid:Unit)=>match st,hid with | _,_=>[]) (fun F (st:Unit) (hid:Unit)=>match st,hid with | _,_=>[]) (fun st=>Out.go (st)=o_1) trivial trivial ?_ ?_
 ·refine g_block ?_
  refine g_loop_m [(0,_),(1,_)] [] (fun (st:Int) (hid:Unit)=>match st,hid with | i1,_=>[(5,.i64 i1)]) (fun F (st:Int) (hid:Unit)=>match st,hid with | i1,_=>[]) () hj1 (fun _=>rfl) ⟨rfl,rfl,trivial⟩ trivial ⟨rfl,trivial⟩ rfl ?_;rintro n i1 _ hj1;rw [m_ba_HasInt_l1] at hj1;refine g_norm (L':=[(5,.i64 i1),(0,_),(1,_)]) (ms':=[]) rfl rfl ?_;refine zq8 ?_;refine zcn hj1 (fun hc1 hj1=>?_) (fun hc1 hj1=>?_)
  ·refine zq7 ?_
   obtain ⟨x1,hx1,hj1⟩:=bS hj1;refine zq5 ?_;refine zcn hj1 (fun hc2 hj1=>?_) (fun hc2 hj1=>?_)
   ·refine zq4 ?_
    refine g_ret ?_;obtain rfl:=some_eq hj1
    replace hm1:=on_ret hm1
    cases hm1;exact zr1
   ·refine zq3 ?_
    obtain ⟨hg2,hj1⟩:=grd_some hj1;refine zq3 ?_;exact ⟨_,(),hj1,⟨rfl,trivial⟩,⟨rfl,rfl,trivial⟩,[],rfl⟩
  ·refine g_exit ?_
   exact ⟨_,(),some_eq hj1,trivial,trivial,[],rfl⟩
 ·rintro _ _ hst
  subst hst
  replace hm1:=on_go hm1
  refine k_norm (L':=[]) (ms':=[]) rfl rfl ?_;refine zq4 ?_
  cases hm1;exact g_ret zr1
noncomputable def m_rg_Below_l2 (x4:(List Int)):Nat->(Int×(List Int))->Option (List Int)
 | 0,_=>none
 | n+1,(j1,l7) =>
  bif (decide (0<=j1)) then
   (idx x4 j1).bind fun x5 =>
   grd ((l7.length+([x5]:List _).length)*8<=140737488355328) <|
   grd (InR (j1 - 1)) <|
   m_rg_Below_l2 x4 n ((j1 - 1),(l7++[x5]))
  else
   some l7
noncomputable def m_rg_Below_l1 (t1:ATy):Nat->((List Int)×(List Int))->Option ((List Int)×(List Int))
 | 0,_=>none
 | n+1,(l3,l4) =>
  bif (decide (0<(l3.length:Int))) then
   grd (InR ((l3.length:Int) - 1)) <|
   (idx l3 ((l3.length:Int) - 1)).bind fun x1 =>
   grd (InR ((l3.length:Int) - 1)) <|
   (sli l3 0 ((l3.length:Int) - 1)).bind fun l5 =>
   (m_ba_HasInt l4 x1).bind fun x2 =>
   bif x2 then
    m_rg_Below_l1 t1 n (l5,l4)
   else
    grd ((l4.length+([x1]:List _).length)*8<=140737488355328) <|
    (idx t1.l x1).bind fun x3 =>
    (m_rg_Kids x3).bind fun x4 =>
    grd (InR ((x4.length:Int) - 1)) <|
    (m_rg_Below_l2 x4 FU (((x4.length:Int) - 1),l5):Option (List Int)).bind fun l6 =>
    m_rg_Below_l1 t1 n (l6,(l4++[x1]))
  else
   some (l3,l4)
noncomputable def m_rg_Below (t1:ATy) (root1:Int):Option (List Int):=
 (m_rg_Below_l1 t1 FU ([root1],[]):Option ((List Int)×(List Int))).bind fun (l1,l2) =>
 some l2
theorem w_rg_Below {t1:ATy} {root1:Int} {r_1:(List Int)} (hm:m_rg_Below t1 root1=some r_1):Fn0 Tryz.prog 112 [ATy.d t1,.i64 root1] (.list 1 D.i64 r_1):=by
 unfold m_rg_Below at hm;refine fn_intro func112 rfl ntmps112 rfl fun H0 fr w0=>?_;refine zq4 ?_;refine go_conv (nilE (i:=4) (sz:=1) (f:=D.i64) rfl).refines ?_;refine zq3 ?_;refine go_op rfl rfl rfl (o_buildSlice_row (xs:=[]) (f:=D.i64) (l:=[]) runUnderlying25 sizeOf3 zeroValue3 rfl rfl rfl (fun _=>⟨rfl,rfl,rfl⟩) rfl (by simp [maxLen])) ?_;rintro _ _ ⟨a_r1,rfl,rfl⟩;refine zq1 ?_;refine go_op rfl rfl rfl (o_buildSlice_arr (xs:=[_]) (f:=D.i64) (l:=[_]) runUnderlying25 sizeOf3 zeroValue3 rfl rfl rfl (fun _=>⟨rfl,rfl,rfl⟩) rfl (by simp [maxLen])) ?_;rintro _ _ ⟨a_r2,m_r2,cap_r2,rfl,rfl⟩;refine zq4 ?_;obtain ⟨o_1,hj1,hm1⟩:=bS hm;refine g_cut_m [] [] (fun (st:((List Int)×(List Int))) (hid:(Option Addr×Nat×Nat)×(Option Addr×Nat))=>match st,hid with | (l1,l2),((a_r2,m_r2,cap_r2),(a_r1,cap_r1))=>[(5,.v (.slice a_r1 l2.length cap_r1))]) (fun F (st:((List Int)×(List Int))) (hid:(Option Addr×Nat×Nat)×(Option Addr×Nat))=>match st,hid with | (l1,l2),((a_r2,m_r2,cap_r2),(a_r1,cap_r1))=>[arr a_r2 m_r2 cap_r2 3 1 D.i64 l1,row a_r1 cap_r1 3 1 D.i64 l2]) (fun st=>st=o_1) trivial trivial ?_ ?_
 ·refine g_block ?_
  refine g_loop_m [(2,_)] [] (fun (st:((List Int)×(List Int))) (hid:(Option Addr×Nat×Nat)×(Option Addr×Nat))=>match st,hid with | (l3,l4),((a_r2,m_r2,cap_r2),(a_r1,cap_r1))=>[(5,.v (.slice a_r1 l4.length cap_r1)),(6,.v (.slice a_r2 m_r2 cap_r2))]) (fun F (st:((List Int)×(List Int))) (hid:(Option Addr×Nat×Nat)×(Option Addr×Nat))=>match st,hid with | (l3,l4),((a_r2,m_r2,cap_r2),(a_r1,cap_r1))=>[arr a_r2 m_r2 cap_r2 3 1 D.i64 l3,row a_r1 cap_r1 3 1 D.i64 l4]) ((_,_,_),(_,_)) hj1 (fun _=>rfl) ⟨rfl,trivial⟩ trivial ⟨rfl,rfl,trivial⟩ rfl ?_;rintro n ⟨l3,l4⟩ ⟨⟨a_r2,m_r2,cap_r2⟩,⟨a_r1,cap_r1⟩⟩ hj1;rw [m_rg_Below_l1] at hj1;refine g_norm (L':=[(5,.v (.slice a_r1 l4.length cap_r1)),(6,.v (.slice a_r2 m_r2 cap_r2)),(2,_)]) (ms':=[arr a_r2 m_r2 cap_r2 3 1 D.i64 l3,row a_r1 cap_r1 3 1 D.i64 l4]) rfl rfl ?_;refine zq4 ?_;refine go_p rfl rfl rfl (o_len_arr 0 runUnderlying25 rfl rfl) ?_;refine zq2 ?_;refine zcn hj1 (fun hc1 hj1=>?_) (fun hc1 hj1=>?_)
  ·refine zq6 ?_
   refine go_p rfl rfl rfl (o_len_arr 0 runUnderlying25 rfl rfl) ?_;obtain ⟨hg1,hj1⟩:=grd_some hj1;refine zq1 ?_;obtain ⟨x1,hx2,hj1⟩:=bS hj1;refine go_p rfl rfl rfl (o_indexAddr_arr 0 runUnderlying25 sizeOf3 rfl rfl rfl hx2) ?_;refine go_p rfl rfl rfl (o_load_arr (off:=0) 0 isAgg3 rfl rfl (idx_some hx2).2 rfl rfl rfl) ?_;refine zq6 ?_;refine go_p rfl rfl rfl (o_len_arr 0 runUnderlying25 rfl rfl) ?_;obtain ⟨hg3,hj1⟩:=grd_some hj1;refine zq1 ?_;obtain ⟨l5,hx4,hj1⟩:=bS hj1;refine go_op rfl rfl rfl (o_slice_trunc 0 runUnderlying25 sizeOf3 rfl rfl rfl hx4) ?_;rintro _ _ ⟨a_r2,m_r2,cap_r2,rfl,rfl⟩;refine zq7 ?_;obtain ⟨x2,hx5,hj1⟩:=bS hj1;refine go_p rfl rfl rfl (.view (peekE (i:=27) 1 rfl rfl rfl) (o_call0 call141 rfl (w_ba_HasInt hx5))) ?_;refine gNl ?_;refine zcn hj1 (fun hc2 hj1=>?_) (fun hc2 hj1=>?_)
   ·refine g_exit ?_
    exact ⟨_,((_,_,_),(_,_)),hj1,⟨rfl,rfl,trivial⟩,⟨rfl,trivial⟩,[],rfl⟩
   ·refine zq5 ?_
    refine go_p rfl rfl rfl (zs1 D.i64) ?_;obtain ⟨hg6,hj1⟩:=grd_some hj1;refine zap 1 hg6 fun a_r1 cap_r1=>?_;refine go_ms (ms':=[_,_]) rfl ?_;refine zq7 ?_;obtain ⟨x3,hx7,hj1⟩:=bS hj1;refine zq2 ?_;obtain ⟨x4,hx8,hj1⟩:=bS hj1;refine zc0 (w_rg_Kids hx8) ?_;refine zq6 ?_;obtain ⟨hg9,hj1⟩:=grd_some hj1;refine zq3 ?_;obtain ⟨o_2,hj2,hm2⟩:=bS hj1;refine g_cut_m [(2,_),(5,_)] [(1,_)] (fun (st:(List Int)) (hid:(Option Addr×Nat×Nat))=>match st,hid with | l6,(a_r2,m_r2,cap_r2)=>[(6,.v (.slice a_r2 m_r2 cap_r2))]) (fun F (st:(List Int)) (hid:(Option Addr×Nat×Nat))=>match st,hid with | l6,(a_r2,m_r2,cap_r2)=>[arr a_r2 m_r2 cap_r2 3 1 D.i64 l6,(nthF F 0)]) (fun st=>st=o_2) ⟨rfl,rfl,trivial⟩ ⟨rfl,trivial⟩ ?_ ?_
    ·refine g_block ?_
     refine g_loop_m [(2,_),(5,_),(8,_)] [(1,_)] (fun (st:(Int×(List Int))) (hid:(Option Addr×Nat×Nat))=>match st,hid with | (j1,l7),(a_r2,m_r2,cap_r2)=>[(6,.v (.slice a_r2 m_r2 cap_r2)),(9,.i64 j1)]) (fun F (st:(Int×(List Int))) (hid:(Option Addr×Nat×Nat))=>match st,hid with | (j1,l7),(a_r2,m_r2,cap_r2)=>[arr a_r2 m_r2 cap_r2 3 1 D.i64 l7,(nthF F 0)]) (_,_,_) hj2 (fun _=>rfl) ⟨rfl,rfl,rfl,trivial⟩ ⟨rfl,trivial⟩ ⟨rfl,rfl,trivial⟩ rfl ?_;rintro n ⟨j1,l7⟩ ⟨a_r2,m_r2,cap_r2⟩ hj2;rw [m_rg_Below_l2] at hj2;refine g_norm (L':=[(6,.v (.slice a_r2 m_r2 cap_r2)),(9,.i64 j1),(2,_),(5,_),(8,_)]) (ms':=[arr a_r2 m_r2 cap_r2 3 1 D.i64 l7,_]) rfl rfl ?_;refine zq6 ?_;refine zcn hj2 (fun hc3 hj2=>?_) (fun hc3 hj2=>?_)
     ·refine zq7 ?_
      obtain ⟨x5,hx10,hj2⟩:=bS hj2;refine zq2 ?_;refine go_p rfl rfl rfl (zs1 D.i64) ?_;obtain ⟨hg11,hj2⟩:=grd_some hj2;refine go_op rfl rfl rfl (o_append_own (a:=_) 0 underlying25 type3 rfl rfl rfl rfl rfl rfl (fun _=>rfl) (fun _=>rfl) hg11 (app_len hg11 rfl)) ?_;rintro _ _ ⟨a_r2,m_r2,cap_r2,rfl,rfl⟩;refine go_ms (ms':=[_,_]) rfl ?_;refine zq4 ?_;obtain ⟨hg12,hj2⟩:=grd_some hj2;refine zq3 ?_;exact ⟨_,(_,_,_),hj2,⟨rfl,rfl,trivial⟩,⟨rfl,rfl,rfl,trivial⟩,[],rfl⟩
     ·refine g_exit ?_
      exact ⟨_,(_,_,_),some_eq hj2,⟨rfl,trivial⟩,⟨rfl,rfl,trivial⟩,[],rfl⟩
    ·rintro l6 ⟨a_r2,m_r2,cap_r2⟩ hst
     subst hst;refine k_norm (L':=[(6,.v (.slice a_r2 m_r2 cap_r2)),(2,_),(5,_)]) (ms':=[arr a_r2 m_r2 cap_r2 3 1 D.i64 l6,_]) rfl rfl ?_;exact ⟨_,((_,_,_),(_,_)),hm2,⟨rfl,rfl,trivial⟩,⟨rfl,trivial⟩,[],rfl⟩
  ·refine g_exit ?_
   exact ⟨_,((_,_,_),(_,_)),some_eq hj1,⟨rfl,trivial⟩,trivial,[],rfl⟩
 ·rintro ⟨l1,l2⟩ ⟨⟨a_r2,m_r2,cap_r2⟩,⟨a_r1,cap_r1⟩⟩ hst
  subst hst;refine k_norm (L':=[(5,.v (.slice a_r1 l2.length cap_r1))]) (ms':=[arr a_r2 m_r2 cap_r2 3 1 D.i64 l1,row a_r1 cap_r1 3 1 D.i64 l2]) rfl rfl ?_;refine zq5 ?_;refine g_conv (peekE (i:=4) 1 rfl rfl rfl).refines ?_
  cases hm1;exact g_ret zr1
noncomputable def m_rg_with_l1 (n1:ANd) (kids1:(List Int)):Nat->(Int×(List AFd)×Int×Int×Int)->Option ((List AFd)×Int×Int×Int)
 | 0,_=>none
 | n+1,(i1,l4,z10,z11,z12) =>
  bif (decide (i1<(n1.l.length:Int))) then
   (idx n1.l i1).bind fun x3 =>
   (idx kids1 i1).bind fun x4 =>
   grd ((l4.length+([(⟨x3.name,x4⟩:AFd)]:List _).length)*24<=140737488355328) <|
   grd (InR (i1+1)) <|
   m_rg_with_l1 n1 kids1 n ((i1+1),(l4++[(⟨x3.name,x4⟩:AFd)]),z10,z11,z12)
  else
   some (l4,z10,z11,z12)
noncomputable def m_rg_with (n1:ANd) (kids1:(List Int)):Option ANd:=
 (bif (decide (n1.kind=11)) then
  some (([]:List AFd),n1.kind,n1.a,0)
 else
  some (([]:List AFd),n1.kind,0,0):Option ((List AFd)×Int×Int×Int)).bind fun (l1,z1,z2,z3) =>
 (bif (((decide (n1.kind=6))||(decide (n1.kind=9)))||(decide (n1.kind=10))) then
  (idx kids1 0).bind fun x1 =>
  (idx kids1 1).bind fun x2 =>
  some (l1,z1,x1,x2)
 else
  some (l1,z1,z2,z3):Option ((List AFd)×Int×Int×Int)).bind fun (l2,z4,z5,z6) =>
 (m_rg_with_l1 n1 kids1 FU (0,l2,z4,z5,z6):Option ((List AFd)×Int×Int×Int)).bind fun (l3,z7,z8,z9) =>
 some (⟨z7,z8,z9,l3⟩:ANd)
theorem w_rg_with {n1:ANd} {kids1:(List Int)} {r_1:ANd} (hm:m_rg_with n1 kids1=some r_1):Fn0 Tryz.prog 113 [ANd.d n1,.list 1 D.i64 kids1] (ANd.d r_1):=by
 unfold m_rg_with at hm;refine fn_intro func113 rfl ntmps113 rfl fun H0 fr w0=>?_;refine zq3 ?_;refine zal44a fun b1=>?_;refine zq5 ?_;refine go_p rfl rfl rfl zb44b ?_;refine zal44a fun b2=>?_;refine zst 0 ?_;refine go_conv (refines_newrow (T:=98) (sz:=2) (f:=AFd.d)) ?_;refine go_ms (ms':=[_,box b2 44 [_,_,_,_],box b1 44 [_,_,_,_]]) rfl ?_;refine zq8 ?_;obtain ⟨o_1,hj1,hm1⟩:=bS hm;refine g_cut_m [(1,_),(2,_),(4,_),(5,_)] [(2,_)] (fun (st:((List AFd)×Int×Int×Int)) (hid:(Option Addr×Nat))=>match st,hid with | (l1,z1,z2,z3),(a_r1,cap_r1)=>[]) (fun F (st:((List AFd)×Int×Int×Int)) (hid:(Option Addr×Nat))=>match st,hid with | (l1,z1,z2,z3),(a_r1,cap_r1)=>[row a_r1 cap_r1 98 2 AFd.d l1,box b2 44 [.i64 z1,.i64 z2,.i64 z3,.v (.slice a_r1 l1.length cap_r1)],(nthF F 0)]) (fun st=>st=o_1) ⟨rfl,rfl,rfl,rfl,trivial⟩ ⟨rfl,trivial⟩ ?_ ?_
 ·refine zcn hj1 (fun hc1 hj1=>?_) (fun hc1 hj1=>?_)
  ·refine zq4 ?_
   refine zst 1 ?_;refine go_ms (ms':=[_,box b2 44 [_,_,_,_],box b1 44 [_,_,_,_]]) rfl ?_;refine gNl ?_;exact ⟨_,(_,_),some_eq hj1,trivial,⟨rfl,rfl,rfl,rfl,trivial⟩,[],rfl⟩
  ·refine gSp ?_
   exact ⟨_,(_,_),some_eq hj1,trivial,⟨rfl,rfl,rfl,rfl,trivial⟩,[],rfl⟩
 ·rintro ⟨l1,z1,z2,z3⟩ ⟨a_r1,cap_r1⟩ hst
  subst hst;refine k_norm (L':=[(1,_),(2,_),(4,_),(5,_)]) (ms':=[row a_r1 cap_r1 98 2 AFd.d l1,box b2 44 [.i64 z1,.i64 z2,.i64 z3,.v (.slice a_r1 l1.length cap_r1)],_]) rfl rfl ?_;refine zq7 ?_
  apply go_or [(1,_),(2,_),(4,_),(5,_)] 4 23 (t:=19) ⟨rfl,rfl,rfl,rfl,trivial⟩ rfl
  ·intro hg_1 hk1
   refine zq4 ?_;exact zgm hk1
  ·intro hg_1 hk1
   refine zq4 ?_;exact zgm hk1
  refine zq1 ?_
  apply go_or [(1,_),(2,_),(4,_),(5,_)] 4 28 (t:=24) ⟨rfl,rfl,rfl,rfl,trivial⟩ rfl
  ·intro hg_2 hk2
   refine zq4 ?_;exact zgm hk2
  ·intro hg_2 hk2
   refine zq4 ?_;exact zgm hk2
  refine gNl ?_;obtain ⟨o_2,hj2,hm2⟩:=bS hm1;refine g_cut_m [(1,_),(2,_),(4,_),(5,_)] [(2,_)] (fun (st:((List AFd)×Int×Int×Int)) (hid:(Option Addr×Nat))=>match st,hid with | (l2,z4,z5,z6),(a_r1,cap_r1)=>[]) (fun F (st:((List AFd)×Int×Int×Int)) (hid:(Option Addr×Nat))=>match st,hid with | (l2,z4,z5,z6),(a_r1,cap_r1)=>[row a_r1 cap_r1 98 2 AFd.d l2,box b2 44 [.i64 z4,.i64 z5,.i64 z6,.v (.slice a_r1 l2.length cap_r1)],(nthF F 0)]) (fun st=>st=o_2) ⟨rfl,rfl,rfl,rfl,trivial⟩ ⟨rfl,trivial⟩ ?_ ?_
  ·refine zcn hj2 (fun hc2 hj2=>?_) (fun hc2 hj2=>?_)
   ·obtain ⟨x1,hx1,hj2⟩:=bS hj2
    obtain ⟨x2,hx2,hj2⟩:=bS hj2;refine g_draw_c [7,9] [3,4,5,8] [] Tryz_mixed (by decide +kernel) (by decide +kernel) rfl ?_;refine gde_p rfl rfl rfl rfl rfl rfl (oMv rfl) ?_;refine gde_p rfl rfl rfl rfl rfl rfl (oIm runUnderlying25 sizeOf3 rfl rfl hx1) ?_;refine gde_p rfl rfl rfl rfl rfl rfl (o_load isAgg3 rfl rfl) ?_;refine gde_p rfl rfl rfl rfl rfl rfl (oMv rfl) ?_;refine gde_p rfl rfl rfl rfl rfl rfl (oIm runUnderlying25 sizeOf3 rfl rfl hx2) ?_;refine gde_p rfl rfl rfl rfl rfl rfl (o_load isAgg3 rfl rfl) ?_;refine gde_p rfl rfl rfl rfl rfl rfl (oFb fi_44_1 rfl) ?_;refine gde_e rfl ?_;refine gde_p rfl rfl rfl rfl rfl rfl (oFb fi_44_2 rfl) ?_;refine gde_e rfl ?_;refine gde_nil ?_;refine gde2_u rfl rfl rfl (oSb 1 sizeOf3 rfl rfl rfl rfl rfl rfl rfl rfl (nB rfl)) ?_;rintro _ _ rfl;refine ⟨(trivial:True),?_⟩;refine gde2_u rfl rfl rfl (oSb 1 sizeOf3 rfl rfl rfl rfl rfl rfl rfl rfl (nB rfl)) ?_;rintro _ _ rfl;refine ⟨(trivial:True),?_⟩;refine gde2_nil ?_;exact ⟨_,(_,_),some_eq hj2,trivial,⟨rfl,rfl,rfl,rfl,trivial⟩,[],rfl⟩
   ·refine gSp ?_
    exact ⟨_,(_,_),some_eq hj2,trivial,⟨rfl,rfl,rfl,rfl,trivial⟩,[],rfl⟩
  ·rintro ⟨l2,z4,z5,z6⟩ ⟨a_r1,cap_r1⟩ hst
   subst hst;refine k_norm (L':=[(1,_),(2,_),(4,_),(5,_)]) (ms':=[row a_r1 cap_r1 98 2 AFd.d l2,box b2 44 [.i64 z4,.i64 z5,.i64 z6,.v (.slice a_r1 l2.length cap_r1)],_]) rfl rfl ?_;refine zq5 ?_;obtain ⟨o_3,hj3,hm3⟩:=bS hm2;refine g_cut_m [(4,_),(5,_)] [(2,_)] (fun (st:((List AFd)×Int×Int×Int)) (hid:(Option Addr×Nat))=>match st,hid with | (l3,z7,z8,z9),(a_r1,cap_r1)=>[]) (fun F (st:((List AFd)×Int×Int×Int)) (hid:(Option Addr×Nat))=>match st,hid with | (l3,z7,z8,z9),(a_r1,cap_r1)=>[row a_r1 cap_r1 98 2 AFd.d l3,box b2 44 [.i64 z7,.i64 z8,.i64 z9,.v (.slice a_r1 l3.length cap_r1)],(nthF F 0)]) (fun st=>st=o_3) ⟨rfl,rfl,trivial⟩ ⟨rfl,trivial⟩ ?_ ?_
   ·refine g_block ?_
    refine g_loop_m [(1,_),(2,_),(4,_),(5,_)] [(2,_)] (fun (st:(Int×(List AFd)×Int×Int×Int)) (hid:(Option Addr×Nat))=>match st,hid with | (i1,l4,z10,z11,z12),(a_r1,cap_r1)=>[(6,.i64 i1)]) (fun F (st:(Int×(List AFd)×Int×Int×Int)) (hid:(Option Addr×Nat))=>match st,hid with | (i1,l4,z10,z11,z12),(a_r1,cap_r1)=>[row a_r1 cap_r1 98 2 AFd.d l4,box b2 44 [.i64 z10,.i64 z11,.i64 z12,.v (.slice a_r1 l4.length cap_r1)],(nthF F 0)]) (_,_) hj3 (fun _=>rfl) ⟨rfl,rfl,rfl,rfl,trivial⟩ ⟨rfl,trivial⟩ ⟨rfl,trivial⟩ rfl ?_;rintro n ⟨i1,l4,z10,z11,z12⟩ ⟨a_r1,cap_r1⟩ hj3;rw [m_rg_with_l1] at hj3;refine g_norm (L':=[(6,.i64 i1),(1,_),(2,_),(4,_),(5,_)]) (ms':=[row a_r1 cap_r1 98 2 AFd.d l4,box b2 44 [.i64 z10,.i64 z11,.i64 z12,.v (.slice a_r1 l4.length cap_r1)],_]) rfl rfl ?_;refine zq9 ?_;refine zcn hj3 (fun hc3 hj3=>?_) (fun hc3 hj3=>?_)
    ·refine zq3 ?_
     obtain ⟨x3,hx3,hj3⟩:=bS hj3;obtain ⟨x4,hx4,hj3⟩:=bS hj3;refine zdr 14 ?_;refine zq12 ?_;refine gd_p rfl rfl rfl zb98a ?_;refine gd_p rfl rfl rfl (o_buildSlice (xs:=[_]) (f:=AFd.d) (l:=[(⟨x3.name,x4⟩:AFd)]) runUnderlying42 sizeOf98 zeroValue98 rfl rfl rfl (fun _=>⟨rfl,rfl,rfl⟩) rfl) ?_;refine gd_nil ?_;obtain ⟨hg5,hj3⟩:=grd_some hj3;refine zap 0 hg5 fun a_r1 cap_r1=>?_;refine go_ms (ms':=[_,box b2 44 [_,_,_,_],box b1 44 [_,_,_,_]]) rfl ?_;refine zq1 ?_;refine zst 1 ?_;refine go_ms (ms':=[_,box b2 44 [_,_,_,_],box b1 44 [_,_,_,_]]) rfl ?_;refine zq3 ?_;obtain ⟨hg6,hj3⟩:=grd_some hj3;refine zq3 ?_;exact ⟨_,(_,_),hj3,⟨rfl,trivial⟩,⟨rfl,rfl,rfl,rfl,trivial⟩,[],rfl⟩
    ·refine g_exit ?_
     exact ⟨_,(_,_),some_eq hj3,trivial,⟨rfl,rfl,trivial⟩,[],rfl⟩
   ·rintro ⟨l3,z7,z8,z9⟩ ⟨a_r1,cap_r1⟩ hst
    subst hst;refine k_norm (L':=[(4,_),(5,_)]) (ms':=[row a_r1 cap_r1 98 2 AFd.d l3,box b2 44 [.i64 z7,.i64 z8,.i64 z9,.v (.slice a_r1 l3.length cap_r1)],_]) rfl rfl ?_;refine zq3 ?_;refine go_conv (peekAggE (i:=60) (q:=3) 0 rfl rfl rfl rfl rfl).refines ?_;refine zst 2 ?_;refine go_ms (ms':=[_,box b2 44 [_,_,_,_],box b1 44 [_,_,_,_]]) rfl ?_;refine gNl ?_
    cases hm3;exact g_ret zr1
noncomputable def m_rg_Norm_l1 (x1:(List Int)):Nat->(Int×(List Int))->Option (List Int)
 | 0,_=>none
 | n+1,(i1,l2) =>
  bif (decide (i1<(x1.length:Int))) then
   (idx x1 i1).bind fun x2 =>
   (idx l2 x2).bind fun x3 =>
   grd (InR (i1+1)) <|
   m_rg_Norm_l1 x1 n ((i1+1),(l2.set (x2).toNat i1))
  else
   some l2
noncomputable def m_rg_Norm_l3 (l1:(List Int)) (x6:(List Int)):Nat->(Int×(List Int))->Option (List Int)
 | 0,_=>none
 | n+1,(j1,l6) =>
  bif (decide (j1<(x6.length:Int))) then
   (idx x6 j1).bind fun x7 =>
   (idx l1 x7).bind fun x8 =>
   grd ((l6.length+([x8]:List _).length)*8<=140737488355328) <|
   grd (InR (j1+1)) <|
   m_rg_Norm_l3 l1 x6 n ((j1+1),(l6++[x8]))
  else
   some l6
noncomputable def m_rg_Norm_l2 (t1:ATy) (x1:(List Int)) (l1:(List Int)):Nat->(Int×(List ANd)×Int)->Option ((List ANd)×Int)
 | 0,_=>none
 | n+1,(i2,l4,z2) =>
  bif (decide (i2<(x1.length:Int))) then
   (idx x1 i2).bind fun x4 =>
   (idx t1.l x4).bind fun x5 =>
   (m_rg_Kids x5).bind fun x6 =>
   (m_rg_Norm_l3 l1 x6 FU (0,[]):Option (List Int)).bind fun l5 =>
   (idx x1 i2).bind fun x9 =>
   (idx t1.l x9).bind fun x10 =>
   (m_rg_with x10 l5).bind fun x11 =>
   grd ((l4.length+([x11]:List _).length)*48<=140737488355328) <|
   grd (InR (i2+1)) <|
   m_rg_Norm_l2 t1 x1 l1 n ((i2+1),(l4++[x11]),z2)
  else
   some (l4,z2)
noncomputable def m_rg_Norm (t1:ATy) (root1:Int):Option ATy:=
 (m_rg_Below t1 root1).bind fun x1 =>
 grd (0<=(t1.l.length:Int)) <|
 grd (((t1.l.length:Int)).toNat*8<=140737488355328) <|
 (m_rg_Norm_l1 x1 FU (0,(List.replicate ((t1.l.length:Int)).toNat (0:Int))):Option (List Int)).bind fun l1 =>
 (m_rg_Norm_l2 t1 x1 l1 FU (0,([]:List ANd),0):Option ((List ANd)×Int)).bind fun (l3,z1) =>
 some (⟨l3,z1⟩:ATy)
theorem w_rg_Norm {t1:ATy} {root1:Int} {r_1:ATy} (hm:m_rg_Norm t1 root1=some r_1):Fn0 Tryz.prog 80 [ATy.d t1,.i64 root1] (ATy.d r_1):=by
 unfold m_rg_Norm at hm;refine fn_intro func80 rfl ntmps80 rfl fun H0 fr w0=>?_;refine zq3 ?_;refine zal24a fun b1=>?_;refine zq5 ?_;obtain ⟨x1,hx1,hm⟩:=bS hm;refine zc0 (w_rg_Below hx1) ?_;refine zq7 ?_;obtain ⟨hg2,hm⟩:=grd_some hm;obtain ⟨hg3,hm⟩:=grd_some hm;refine go_op rfl rfl rfl (o_makeSlice (f:=D.i64) (z0:=0) underlying25 type3 rfl rfl rfl (nB rfl) rfl rfl hg2 hg3 (nB rfl)) ?_;rintro _ _ ⟨a_r1,m_r1,cap_r1,rfl,rfl⟩;refine zq7 ?_;obtain ⟨o_1,hj1,hm1⟩:=bS hm;refine g_cut_m [(2,_),(4,_),(5,_),(6,_)] [(1,_)] (fun (st:(List Int)) (hid:Unit)=>match st,hid with | l1,_=>[]) (fun F (st:(List Int)) (hid:Unit)=>match st,hid with | l1,_=>[arr a_r1 m_r1 cap_r1 3 1 D.i64 l1,(nthF F 0)]) (fun st=>st=o_1) ⟨rfl,rfl,rfl,rfl,trivial⟩ ⟨rfl,trivial⟩ ?_ ?_
 ·refine g_block ?_
  refine g_loop_m [(2,_),(4,_),(5,_),(6,_)] [(1,_)] (fun (st:(Int×(List Int))) (hid:Unit)=>match st,hid with | (i1,l2),_=>[(7,.i64 i1)]) (fun F (st:(Int×(List Int))) (hid:Unit)=>match st,hid with | (i1,l2),_=>[arr a_r1 m_r1 cap_r1 3 1 D.i64 l2,(nthF F 0)]) () hj1 (fun _=>rfl) ⟨rfl,rfl,rfl,rfl,trivial⟩ ⟨rfl,trivial⟩ ⟨rfl,trivial⟩ rfl ?_;rintro n ⟨i1,l2⟩ ⟨⟩ hj1;rw [m_rg_Norm_l1] at hj1;refine g_norm (L':=[(7,.i64 i1),(2,_),(4,_),(5,_),(6,_)]) (ms':=[arr a_r1 m_r1 cap_r1 3 1 D.i64 l2,_]) rfl rfl ?_;refine zq8 ?_;refine zcn hj1 (fun hc1 hj1=>?_) (fun hc1 hj1=>?_)
  ·refine zq7 ?_
   obtain ⟨x2,hx4,hj1⟩:=bS hj1;refine go_p rfl rfl rfl (oIm runUnderlying25 sizeOf3 rfl rfl hx4) ?_;refine zq2 ?_;obtain ⟨x3,hx5,hj1⟩:=bS hj1;refine go_p rfl rfl rfl (o_indexAddr_arr 0 runUnderlying25 sizeOf3 rfl rfl rfl hx5) ?_;refine go_u rfl rfl (o_store_arr (off:=0) (z':=i1) 0 sizeOf3 rfl rfl (idx_some hx5).2 rfl rfl rfl rfl rfl rfl (nB rfl) rfl rfl) ?_;rintro _ _ rfl;refine go_ms (ms':=[_,box b1 24 [_,_]]) rfl ?_;refine zq3 ?_;obtain ⟨hg6,hj1⟩:=grd_some hj1;refine zq3 ?_;exact ⟨_,(),hj1,⟨rfl,trivial⟩,⟨rfl,rfl,rfl,rfl,trivial⟩,[],rfl⟩
  ·refine g_exit ?_
   exact ⟨_,(),some_eq hj1,trivial,⟨rfl,rfl,rfl,rfl,trivial⟩,[],rfl⟩
 ·rintro l1 ⟨⟩ hst
  subst hst;refine k_norm (L':=[(2,_),(4,_),(5,_),(6,_)]) (ms':=[arr a_r1 m_r1 cap_r1 3 1 D.i64 l1,_]) rfl rfl ?_;refine zq2 ?_;refine go_p rfl rfl rfl zb24a ?_;refine zal24a fun b2=>?_;refine zst 0 ?_;refine go_conv (refines_newrow (T:=44) (sz:=4) (f:=ANd.d)) ?_;refine go_ms (ms':=[_,box b2 24 [_,_],_,box b1 24 [_,_]]) rfl ?_;refine zq6 ?_;obtain ⟨o_2,hj2,hm2⟩:=bS hm1;refine g_cut_m [(4,_),(8,_)] [(2,_),(3,_)] (fun (st:((List ANd)×Int)) (hid:(Option Addr×Nat))=>match st,hid with | (l3,z1),(a_r2,cap_r2)=>[]) (fun F (st:((List ANd)×Int)) (hid:(Option Addr×Nat))=>match st,hid with | (l3,z1),(a_r2,cap_r2)=>[row a_r2 cap_r2 44 4 ANd.d l3,box b2 24 [.v (.slice a_r2 l3.length cap_r2),.i64 z1],(nthF F 0),(nthF F 1)]) (fun st=>st=o_2) ⟨rfl,rfl,trivial⟩ ⟨rfl,rfl,trivial⟩ ?_ ?_
  ·refine g_block ?_
   refine g_loop_m [(2,_),(4,_),(5,_),(6,_),(8,_)] [(2,_),(3,_)] (fun (st:(Int×(List ANd)×Int)) (hid:(Option Addr×Nat))=>match st,hid with | (i2,l4,z2),(a_r2,cap_r2)=>[(9,.i64 i2)]) (fun F (st:(Int×(List ANd)×Int)) (hid:(Option Addr×Nat))=>match st,hid with | (i2,l4,z2),(a_r2,cap_r2)=>[row a_r2 cap_r2 44 4 ANd.d l4,box b2 24 [.v (.slice a_r2 l4.length cap_r2),.i64 z2],(nthF F 0),(nthF F 1)]) (_,_) hj2 (fun _=>rfl) ⟨rfl,rfl,rfl,rfl,rfl,trivial⟩ ⟨rfl,rfl,trivial⟩ ⟨rfl,trivial⟩ rfl ?_;rintro n ⟨i2,l4,z2⟩ ⟨a_r2,cap_r2⟩ hj2;rw [m_rg_Norm_l2] at hj2;refine g_norm (L':=[(9,.i64 i2),(2,_),(4,_),(5,_),(6,_),(8,_)]) (ms':=[row a_r2 cap_r2 44 4 ANd.d l4,box b2 24 [.v (.slice a_r2 l4.length cap_r2),.i64 z2],_,_]) rfl rfl ?_;refine zq8 ?_;refine zcn hj2 (fun hc2 hj2=>?_) (fun hc2 hj2=>?_)
   ·refine zq4 ?_
    obtain ⟨x4,hx7,hj2⟩:=bS hj2;obtain ⟨x5,hx8,hj2⟩:=bS hj2;obtain ⟨x6,hx9,hj2⟩:=bS hj2;refine g_draw_c [9,11] [0,1,2,3,4,5,6,7,8,10] [] Tryz_mixed (by decide +kernel) (by decide +kernel) rfl ?_;refine gde_p rfl rfl rfl rfl rfl rfl (oFa fi_24_0 rfl rfl rfl) ?_;refine gde_p rfl rfl rfl rfl rfl rfl (o_load isAgg22 rfl rfl) ?_;refine gde_p rfl rfl rfl rfl rfl rfl (oMv rfl) ?_;refine gde_p rfl rfl rfl rfl rfl rfl (oMv rfl) ?_;refine gde_p rfl rfl rfl rfl rfl rfl (oIm runUnderlying25 sizeOf3 rfl rfl hx7) ?_;refine gde_p rfl rfl rfl rfl rfl rfl (o_load isAgg3 rfl rfl) ?_;refine gde_p rfl rfl rfl rfl rfl rfl (oIm runUnderlying22 sizeOf44 rfl rfl hx8) ?_;refine gde_p rfl rfl rfl rfl rfl rfl (o_load_agg isAgg44 sizeOf44 rfl rfl) ?_;refine gde_p rfl rfl rfl rfl rfl rfl (o_call0 call101 rfl (w_rg_Kids hx9)) ?_;refine gde_e rfl ?_;refine gde_p rfl rfl rfl rfl rfl rfl (oAs rfl) ?_;refine gde_e rfl ?_;refine gde_nil ?_;refine gde2_t rfl rfl rfl rfl (o_buildSlice_row (xs:=[]) (f:=D.i64) (l:=[]) runUnderlying25 sizeOf3 zeroValue3 rfl rfl rfl (fun _=>⟨rfl,rfl,rfl⟩) rfl (by simp [maxLen])) ?_;rintro _ _ ⟨a_r3,rfl,rfl⟩;refine ⟨(trivial:True),?_⟩;refine gde2_t rfl rfl rfl rfl (oAs rfl) ?_;rintro _ _ ⟨rfl,rfl⟩;refine ⟨(trivial:True),?_⟩;refine gde2_nil ?_;refine zq5 ?_;obtain ⟨o_3,hj3,hm3⟩:=bS hj2;refine g_cut_m [(2,_),(4,_),(5,_),(6,_),(8,_),(9,_)] [(1,_),(2,_),(3,_),(4,_)] (fun (st:(List Int)) (hid:(Option Addr×Nat))=>match st,hid with | l5,(a_r3,cap_r3)=>[(11,.v (.slice a_r3 l5.length cap_r3))]) (fun F (st:(List Int)) (hid:(Option Addr×Nat))=>match st,hid with | l5,(a_r3,cap_r3)=>[row a_r3 cap_r3 3 1 D.i64 l5,(nthF F 0),(nthF F 1),(nthF F 2),(nthF F 3)]) (fun st=>st=o_3) ⟨rfl,rfl,rfl,rfl,rfl,rfl,trivial⟩ ⟨rfl,rfl,rfl,rfl,trivial⟩ ?_ ?_
    ·refine g_block ?_
     refine g_loop_m [(2,_),(4,_),(5,_),(6,_),(8,_),(9,_),(10,_)] [(1,_),(2,_),(3,_),(4,_)] (fun (st:(Int×(List Int))) (hid:(Option Addr×Nat))=>match st,hid with | (j1,l6),(a_r3,cap_r3)=>[(11,.v (.slice a_r3 l6.length cap_r3)),(12,.i64 j1)]) (fun F (st:(Int×(List Int))) (hid:(Option Addr×Nat))=>match st,hid with | (j1,l6),(a_r3,cap_r3)=>[row a_r3 cap_r3 3 1 D.i64 l6,(nthF F 0),(nthF F 1),(nthF F 2),(nthF F 3)]) (_,_) hj3 (fun _=>rfl) ⟨rfl,rfl,rfl,rfl,rfl,rfl,rfl,trivial⟩ ⟨rfl,rfl,rfl,rfl,trivial⟩ ⟨rfl,rfl,trivial⟩ rfl ?_;rintro n ⟨j1,l6⟩ ⟨a_r3,cap_r3⟩ hj3;rw [m_rg_Norm_l3] at hj3;refine g_norm (L':=[(11,.v (.slice a_r3 l6.length cap_r3)),(12,.i64 j1),(2,_),(4,_),(5,_),(6,_),(8,_),(9,_),(10,_)]) (ms':=[row a_r3 cap_r3 3 1 D.i64 l6,_,_,_,_]) rfl rfl ?_;refine zq8 ?_;refine zcn hj3 (fun hc3 hj3=>?_) (fun hc3 hj3=>?_)
     ·refine zq8 ?_
      obtain ⟨x7,hx10,hj3⟩:=bS hj3;refine go_p rfl rfl rfl (oIm runUnderlying25 sizeOf3 rfl rfl hx10) ?_;refine zq1 ?_;obtain ⟨x8,hx11,hj3⟩:=bS hj3;refine go_p rfl rfl rfl (o_indexAddr_arr 3 runUnderlying25 sizeOf3 rfl rfl rfl hx11) ?_;refine go_p rfl rfl rfl (o_load_arr (off:=0) 3 isAgg3 rfl rfl (idx_some hx11).2 rfl rfl rfl) ?_;refine go_p rfl rfl rfl (zs1 D.i64) ?_;obtain ⟨hg12,hj3⟩:=grd_some hj3;refine zap 0 hg12 fun a_r3 cap_r3=>?_;refine go_ms (ms':=[_,_,box b2 24 [_,_],_,box b1 24 [_,_]]) rfl ?_;refine zq4 ?_;obtain ⟨hg13,hj3⟩:=grd_some hj3;refine zq3 ?_;exact ⟨_,(_,_),hj3,⟨rfl,rfl,trivial⟩,⟨rfl,rfl,rfl,rfl,rfl,rfl,rfl,trivial⟩,[],rfl⟩
     ·refine g_exit ?_
      exact ⟨_,(_,_),some_eq hj3,⟨rfl,trivial⟩,⟨rfl,rfl,rfl,rfl,rfl,rfl,trivial⟩,[],rfl⟩
    ·rintro l5 ⟨a_r3,cap_r3⟩ hst
     subst hst;refine k_norm (L':=[(11,.v (.slice a_r3 l5.length cap_r3)),(2,_),(4,_),(5,_),(6,_),(8,_),(9,_)]) (ms':=[row a_r3 cap_r3 3 1 D.i64 l5,_,_,_,_]) rfl rfl ?_;obtain ⟨x9,hx14,hm3⟩:=bS hm3;obtain ⟨x10,hx15,hm3⟩:=bS hm3;obtain ⟨x11,hx16,hm3⟩:=bS hm3;refine zdr 13 ?_;refine zq6 ?_;refine gd_p rfl rfl rfl (oIm runUnderlying25 sizeOf3 rfl rfl hx14) ?_;refine zq1 ?_;refine gd_p rfl rfl rfl (oIm runUnderlying22 sizeOf44 rfl rfl hx15) ?_;refine zq2 ?_;refine gd_p rfl rfl rfl (.view (peekE (i:=76) 0 rfl rfl rfl) (o_call0 call113 rfl (w_rg_with hx16))) ?_;refine gd_p rfl rfl rfl (zs1 ANd.d) ?_;refine gd_nil ?_;obtain ⟨hg17,hm3⟩:=grd_some hm3;refine zap 1 hg17 fun a_r2 cap_r2=>?_;refine go_ms (ms':=[_,_,box b2 24 [_,_],_,box b1 24 [_,_]]) rfl ?_;refine zq1 ?_;refine zst 2 ?_;refine go_ms (ms':=[_,_,box b2 24 [_,_],_,box b1 24 [_,_]]) rfl ?_;refine zq3 ?_;obtain ⟨hg18,hm3⟩:=grd_some hm3;refine zq3 ?_;exact ⟨_,(_,_),hm3,⟨rfl,trivial⟩,⟨rfl,rfl,rfl,rfl,rfl,trivial⟩,[_],rfl⟩
   ·refine g_exit ?_
    exact ⟨_,(_,_),some_eq hj2,trivial,⟨rfl,rfl,trivial⟩,[],rfl⟩
  ·rintro ⟨l3,z1⟩ ⟨a_r2,cap_r2⟩ hst
   subst hst;refine k_norm (L':=[(4,_),(8,_)]) (ms':=[row a_r2 cap_r2 44 4 ANd.d l3,box b2 24 [.v (.slice a_r2 l3.length cap_r2),.i64 z1],_,_]) rfl rfl ?_;refine zq3 ?_;refine go_conv (peekAggE (i:=81) (q:=0) 0 rfl rfl rfl rfl rfl).refines ?_;refine zst 3 ?_;refine go_ms (ms':=[_,box b2 24 [_,_],_,box b1 24 [_,_]]) rfl ?_;refine gNl ?_
   cases hm2;exact g_ret zr1
noncomputable def m_lo_alike (a1:ATy) (bv1:ATy):Option Bool:=
 (m_rg_May a1).bind fun x1 =>
 bif (decide (x1=0)) then ((m_rg_Norm a1 a1.root).bind fun x2 =>
 (m_rg_SameList a1 x2).bind fun x3 =>
 bif x3 then ((m_rb_Below a1 bv1).bind fun x4 =>
 bif x4 then ((m_rb_Below bv1 a1).bind fun x5 =>
 some x5) else (some false)) else (some false)) else (some false)
theorem w_lo_alike {a1:ATy} {bv1:ATy} {r_1:Bool} (hm:m_lo_alike a1 bv1=some r_1):Fn0 Tryz.prog 43 [ATy.d a1,ATy.d bv1] (.bool r_1):=by
 unfold m_lo_alike at hm;refine fn_intro func43 rfl ntmps43 rfl fun H0 fr w0=>?_;refine zq7 ?_;obtain ⟨x1,hx1,hm⟩:=bS hm
 rcases cond_split hm with ⟨hg_1,hm⟩ | ⟨hg_1,hm⟩
 ·
  skip
  obtain ⟨x2,hx2,hm⟩:=bS hm;obtain ⟨x3,hx3,hm⟩:=bS hm
  rcases cond_split hm with ⟨hg_2,hm⟩ | ⟨hg_2,hm⟩
  ·
   skip
   obtain ⟨x4,hx4,hm⟩:=bS hm
   rcases cond_split hm with ⟨hg_3,hm⟩ | ⟨hg_3,hm⟩
   ·
    skip
    obtain ⟨x5,hx5,hm⟩:=bS hm;refine zdr 22 ?_;refine zq1 ?_;refine zcd (w_rg_May hx1) ?_;refine zq6 ?_;refine zce (w_rg_Norm hx2) ?_;refine zce (w_rg_SameList hx3) ?_;refine zq4 ?_;refine zce (w_rb_Below hx4) ?_;refine zq4 ?_;refine zce (w_rb_Below hx5) ?_;refine zq4 ?_
    cases hm;exact g_ret zr1
   ·
    skip
    refine zdr 22 ?_;refine zq1 ?_;refine zcd (w_rg_May hx1) ?_;refine zq6 ?_;refine zce (w_rg_Norm hx2) ?_;refine zce (w_rg_SameList hx3) ?_;refine zq4 ?_;refine zce (w_rb_Below hx4) ?_;refine zq9 ?_
    cases hm;exact g_ret zr1
  ·
   skip
   refine zdr 22 ?_;refine zq1 ?_;refine zcd (w_rg_May hx1) ?_;refine zq6 ?_;refine zce (w_rg_Norm hx2) ?_;refine zce (w_rg_SameList hx3) ?_;refine zq14 ?_
   cases hm;exact g_ret zr1
 ·
  skip
  refine zdr 22 ?_;refine zq1 ?_;refine zcd (w_rg_May hx1) ?_;refine zq22 ?_
  cases hm;exact g_ret zr1
noncomputable def m_bound_all_l1 (kind1:Int) (l2:(List ATy)):Nat->(Int×(List ANd)×Int)->Option ((List ANd)×Int)
 | 0,_=>none
 | n+1,(x4,z3,z4) =>
  bif (decide (x4<(l2.length:Int))) then
   (idx l2 x4).bind fun x5 =>
   (m_bound_over (fun y0=>m_bound_pair_1 y0 kind1) [(⟨z3,z4⟩:ATy),(⟨x5.l,x5.root⟩:ATy)]).bind fun x6 =>
   grd (InR (x4+1)) <|
   m_bound_all_l1 kind1 l2 n ((x4+1),x6.l,x6.root)
  else
   some (z3,z4)
noncomputable def m_bound_all (kind1:Int) (none1:Int) (l1:(List ATy)):Option (ATy×Int):=
 (m_bound_may l1).bind fun x1 =>
 bif (!decide (x1=0)) then
  some ((⟨([]:List ANd),0⟩:ATy),x1)
 else
  bif (decide ((l1.length:Int)=0)) then
   (m_graph_Leaf none1).bind fun x2 =>
   some ((⟨x2.l,x2.root⟩:ATy),0)
  else
   (idx l1 0).bind fun x3 =>
   (sli l1 1 (l1.length:Int)).bind fun l2 =>
   (m_bound_all_l1 kind1 l2 FU (0,x3.l,x3.root):Option ((List ANd)×Int)).bind fun (z1,z2) =>
   (m_bound_made (⟨z1,z2⟩:ATy)).bind fun (x7,x8) =>
   some ((⟨x7.l,x7.root⟩:ATy),x8)
theorem w_bound_all {kind1:Int} {none1:Int} {l1:(List ATy)} {r_1:ATy} {r_2:Int} (hm:m_bound_all kind1 none1 l1=some (r_1,r_2)):Fn0 Tryz.prog 81 [.i64 kind1,.i64 none1,.list 2 ATy.d l1] (.tup [ATy.d r_1,.i64 r_2]):=by
 unfold m_bound_all at hm;refine fn_intro func81 rfl ntmps81 rfl fun H0 fr w0=>?_;refine zq2 ?_;refine zal24a fun b1=>?_;refine zq6 ?_;obtain ⟨x1,hx1,hm⟩:=bS hm;refine zc0 (w_bound_may hx1) ?_;refine zq7 ?_;refine zcn hm (fun hc1 hm=>?_) (fun hc1 hm=>?_)
 ·refine zq2 ?_
  refine go_p rfl rfl rfl zb24b ?_;refine zq1 ?_;refine zst 0 ?_;refine go_ms (ms':=[box b1 24 [_,_]]) rfl ?_;refine zq2 ?_
  cases hm;exact g_ret zr2
 ·refine zq8 ?_
  refine zcn hm (fun hc2 hm=>?_) (fun hc2 hm=>?_)
  ·refine zq3 ?_
   obtain ⟨x2,hx2,hm⟩:=bS hm;refine zc0 (w_graph_Leaf hx2) ?_;refine zst 0 ?_;refine go_ms (ms':=[box b1 24 [_,_]]) rfl ?_;refine zq2 ?_
   cases hm;exact g_ret zr2
  ·refine zq4 ?_
   obtain ⟨x3,hx3,hm⟩:=bS hm;refine zq2 ?_;refine zal24a fun b2=>?_;refine zst 0 ?_;refine go_ms (ms':=[box b2 24 [_,_],box b1 24 [_,_]]) rfl ?_;refine zq5 ?_;obtain ⟨l2,hx4,hm⟩:=bS hm;refine go_p rfl rfl rfl (o_slice_m runUnderlying53 sizeOf24 rfl ⟨_,rfl⟩ rfl hx4) ?_;refine zq3 ?_;obtain ⟨o_1,hj1,hm1⟩:=bS hm;refine g_cut_m [(6,_),(9,_)] [(1,_)] (fun (st:((List ANd)×Int)) (hid:Unit)=>match st,hid with | (z1,z2),_=>[]) (fun F (st:((List ANd)×Int)) (hid:Unit)=>match st,hid with | (z1,z2),_=>[box b2 24 [.list 4 ANd.d z1,.i64 z2],(nthF F 0)]) (fun st=>st=o_1) ⟨rfl,rfl,trivial⟩ ⟨rfl,trivial⟩ ?_ ?_
   ·refine g_block ?_
    refine g_loop_m [(0,_),(6,_),(9,_),(27,_),(28,_)] [(1,_)] (fun (st:(Int×(List ANd)×Int)) (hid:Unit)=>match st,hid with | (x4,z3,z4),_=>[(29,.i64 x4)]) (fun F (st:(Int×(List ANd)×Int)) (hid:Unit)=>match st,hid with | (x4,z3,z4),_=>[box b2 24 [.list 4 ANd.d z3,.i64 z4],(nthF F 0)]) () hj1 (fun _=>rfl) ⟨rfl,rfl,rfl,rfl,rfl,trivial⟩ ⟨rfl,trivial⟩ ⟨rfl,trivial⟩ rfl ?_;rintro n ⟨x4,z3,z4⟩ _ hj1;rw [m_bound_all_l1] at hj1;refine g_norm (L':=[(29,.i64 x4),(0,_),(6,_),(9,_),(27,_),(28,_)]) (ms':=[box b2 24 [.list 4 ANd.d z3,.i64 z4],_]) rfl rfl ?_;refine zq5 ?_;refine zcn hj1 (fun hc3 hj1=>?_) (fun hc3 hj1=>?_)
    ·refine zq5 ?_
     obtain ⟨x5,hx5,hj1⟩:=bS hj1;refine zq2 ?_;refine zal24a fun b3=>?_;refine zst 0 ?_;refine go_ms (ms':=[box b3 24 [_,_],box b2 24 [_,_],box b1 24 [_,_]]) rfl ?_;refine gNl ?_;obtain ⟨x6,hx6,hj1⟩:=bS hj1;refine zdr 6 ?_;refine zq1 ?_;refine zcd (w_pair (k:=kind1)) ?_;refine zq2 ?_;refine gd_p rfl rfl rfl (o_buildSlice (xs:=[_,_]) (f:=ATy.d) (l:=[(⟨z3,z4⟩:ATy),(⟨x5.l,x5.root⟩:ATy)]) runUnderlying53 sizeOf24 zeroValue24 rfl rfl rfl (fun _=>⟨rfl,rfl,rfl⟩) rfl) ?_;refine gd_p rfl rfl rfl (o_call0 call82 rfl (w_bound_over (fun _ _ h=>fv_clo call114 (w_bound_pair_1 h)) hx6)) ?_;refine gd_nil ?_;refine zst 1 ?_;refine go_ms (ms':=[box b3 24 [_,_],box b2 24 [_,_],box b1 24 [_,_]]) rfl ?_;refine zq2 ?_;obtain ⟨hg7,hj1⟩:=grd_some hj1;refine zq3 ?_;exact ⟨_,(),hj1,⟨rfl,trivial⟩,⟨rfl,rfl,rfl,rfl,rfl,trivial⟩,[_],rfl⟩
    ·refine g_exit ?_
     exact ⟨_,(),some_eq hj1,trivial,⟨rfl,rfl,trivial⟩,[],rfl⟩
   ·rintro ⟨z1,z2⟩ _ hst
    subst hst;refine k_norm (L':=[(6,_),(9,_)]) (ms':=[box b2 24 [.list 4 ANd.d z1,.i64 z2],_]) rfl rfl ?_;refine zq3 ?_;obtain ⟨⟨x7,x8⟩,hx8,hm1⟩:=bS hm1;refine zc0 (w_bound_made hx8) ?_;refine zq2 ?_;refine zst 1 ?_;refine go_ms (ms':=[box b2 24 [_,_],box b1 24 [_,_]]) rfl ?_;refine zq2 ?_
    cases hm1;exact g_ret zr2
noncomputable def m_bound_Join (l1:(List ATy)):Option (ATy×Int):=
 (m_bound_all 9 2 l1).bind fun (x1,x2) =>
 some ((⟨x1.l,x1.root⟩:ATy),x2)
theorem w_bound_Join {l1:(List ATy)} {r_1:ATy} {r_2:Int} (hm:m_bound_Join l1=some (r_1,r_2)):Fn0 Tryz.prog 45 [.list 2 ATy.d l1] (.tup [ATy.d r_1,.i64 r_2]):=by
 unfold m_bound_Join at hm;refine fn_intro func45 rfl ntmps45 rfl fun H0 fr w0=>?_;refine zq2 ?_;refine zal24a fun b1=>?_;refine zq5 ?_;obtain ⟨⟨x1,x2⟩,hx1,hm⟩:=bS hm;refine zc0 (w_bound_all hx1) ?_;refine zq2 ?_;refine zst 0 ?_;refine go_ms (ms':=[box b1 24 [_,_]]) rfl ?_;refine zq2 ?_
 cases hm;exact g_ret zr2
noncomputable def m_bound_Meet (l1:(List ATy)):Option (ATy×Int):=
 (m_bound_all 10 1 l1).bind fun (x1,x2) =>
 some ((⟨x1.l,x1.root⟩:ATy),x2)
theorem w_bound_Meet {l1:(List ATy)} {r_1:ATy} {r_2:Int} (hm:m_bound_Meet l1=some (r_1,r_2)):Fn0 Tryz.prog 46 [.list 2 ATy.d l1] (.tup [ATy.d r_1,.i64 r_2]):=by
 unfold m_bound_Meet at hm;refine fn_intro func46 rfl ntmps46 rfl fun H0 fr w0=>?_;refine zq2 ?_;refine zal24a fun b1=>?_;refine zq5 ?_;obtain ⟨⟨x1,x2⟩,hx1,hm⟩:=bS hm;refine zc0 (w_bound_all hx1) ?_;refine zq2 ?_;refine zst 0 ?_;refine go_ms (ms':=[box b1 24 [_,_]]) rfl ?_;refine zq2 ?_
 cases hm;exact g_ret zr2
noncomputable def m_ro_Over (kind1:Int) (a1:ATy) (bv1:ATy):Option ATy:=
 (m_ref13_GraftO a1 bv1).bind fun (x1,s1) =>
 grd (InR (bv1.root+x1)) <|
 grd ((s1.l.length+([(⟨kind1,a1.root,(bv1.root+x1),([]:List AFd)⟩:ANd)]:List _).length)*48<=140737488355328) <|
 grd (InR (((s1.l++[(⟨kind1,a1.root,(bv1.root+x1),([]:List AFd)⟩:ANd)]).length:Int) - 1)) <|
 some (⟨(s1.l++[(⟨kind1,a1.root,(bv1.root+x1),([]:List AFd)⟩:ANd)]),(((s1.l++[(⟨kind1,a1.root,(bv1.root+x1),([]:List AFd)⟩:ANd)]).length:Int) - 1)⟩:ATy)
theorem w_ro_Over {kind1:Int} {a1:ATy} {bv1:ATy} {r_1:ATy} (hm:m_ro_Over kind1 a1 bv1=some r_1):Fn0 Tryz.prog 49 [.i64 kind1,ATy.d a1,ATy.d bv1] (ATy.d r_1):=by
 unfold m_ro_Over at hm;refine fn_intro func49 rfl ntmps49 rfl fun H0 fr w0=>?_;refine zq4 ?_;refine zal24a fun b1=>?_;refine zq5 ?_;obtain ⟨⟨x1,s1⟩,hx1,hm⟩:=bS hm;refine go_op rfl rfl rfl (o_call (ms₁:=[]) call67 rfl (List.Perm.refl _) (w_ref13_GraftO hx1)) ?_;rintro _ _ ⟨_,⟨a_r1,m_r1,cap_r1,rfl,rfl⟩,rfl⟩;refine zq3 ?_;refine zal24a fun b2=>?_;refine zst 0 ?_;refine go_ms (ms':=[box b2 24 [_,_],_,box b1 24 [_,_]]) rfl ?_;refine zq12 ?_;obtain ⟨hg2,hm⟩:=grd_some hm;refine zq1 ?_;refine go_p rfl rfl rfl zb44a ?_;refine go_p rfl rfl rfl (o_buildSlice (xs:=[_]) (f:=ANd.d) (l:=[(⟨kind1,a1.root,(bv1.root+x1),([]:List AFd)⟩:ANd)]) runUnderlying22 sizeOf44 zeroValue44 rfl rfl rfl (fun _=>⟨rfl,rfl,rfl⟩) rfl) ?_;obtain ⟨hg3,hm⟩:=grd_some hm;refine go_op rfl rfl rfl (o_append_own (a:=_) 1 underlying22 type44 rfl rfl rfl rfl rfl rfl (fun _=>rfl) (fun _=>rfl) hg3 (app_len hg3 rfl)) ?_;rintro _ _ ⟨a_r1,m_r1,cap_r1,rfl,rfl⟩;refine go_ms (ms':=[box b2 24 [_,_],_,box b1 24 [_,_]]) rfl ?_;refine zq1 ?_;refine zst 0 ?_;refine go_ms (ms':=[box b2 24 [_,_],_,box b1 24 [_,_]]) rfl ?_;refine zq5 ?_;refine go_p rfl rfl rfl (o_len_arr 1 runUnderlying22 rfl rfl) ?_;obtain ⟨hg4,hm⟩:=grd_some hm;refine zq2 ?_;refine zst 0 ?_;refine go_ms (ms':=[box b2 24 [_,_],_,box b1 24 [_,_]]) rfl ?_;refine zq3 ?_;refine go_thaw 1 rfl rfl ?_;rintro rfl;refine zq1 ?_;refine go_conv (peekAggE (i:=33) (q:=0) 1 rfl rfl rfl rfl rfl).refines ?_;refine zst 2 ?_;refine go_ms (ms':=[box b2 24 [_,_],_,box b1 24 [_,_]]) rfl ?_;refine gNl ?_
 cases hm;exact g_ret zr1
noncomputable def m_ro_All_l1 (kind1:Int) (l1:(List ATy)):Nat->(Int×(List ANd)×Int)->Option ((List ANd)×Int)
 | 0,_=>none
 | n+1,(i1,z3,z4) =>
  bif (decide (i1<(l1.length:Int))) then
   (idx l1 i1).bind fun x2 =>
   (m_ro_Over kind1 (⟨z3,z4⟩:ATy) x2).bind fun x3 =>
   grd (InR (i1+1)) <|
   m_ro_All_l1 kind1 l1 n ((i1+1),x3.l,x3.root)
  else
   some (z3,z4)
noncomputable def m_ro_All (kind1:Int) (none1:Int) (l1:(List ATy)):Option ATy:=
 bif (decide ((l1.length:Int)=0)) then
  some (⟨[(⟨none1,0,0,([]:List AFd)⟩:ANd)],0⟩:ATy)
 else
  (idx l1 0).bind fun x1 =>
  (m_ro_All_l1 kind1 l1 FU (1,x1.l,x1.root):Option ((List ANd)×Int)).bind fun (z1,z2) =>
  some (⟨z1,z2⟩:ATy)
theorem w_ro_All {kind1:Int} {none1:Int} {l1:(List ATy)} {r_1:ATy} (hm:m_ro_All kind1 none1 l1=some r_1):Fn0 Tryz.prog 47 [.i64 kind1,.i64 none1,.list 2 ATy.d l1] (ATy.d r_1):=by
 unfold m_ro_All at hm;refine fn_intro func47 rfl ntmps47 rfl fun H0 fr w0=>?_;refine zq2 ?_;refine zal24a fun b1=>?_;refine zq8 ?_;refine zcn hm (fun hc1 hm=>?_) (fun hc1 hm=>?_)
 ·refine zq3 ?_
  refine go_p rfl rfl rfl zb44a ?_;refine go_p rfl rfl rfl (o_buildSlice (xs:=[_]) (f:=ANd.d) (l:=[(⟨none1,0,0,([]:List AFd)⟩:ANd)]) runUnderlying22 sizeOf44 zeroValue44 rfl rfl rfl (fun _=>⟨rfl,rfl,rfl⟩) rfl) ?_;refine go_p rfl rfl rfl zb24b ?_;refine zst 0 ?_;refine go_ms (ms':=[box b1 24 [_,_]]) rfl ?_;refine gNl ?_
  cases hm;exact g_ret zr1
 ·refine zq4 ?_
  obtain ⟨x1,hx1,hm⟩:=bS hm;refine zq2 ?_;refine zal24a fun b2=>?_;refine zst 0 ?_;refine go_ms (ms':=[box b2 24 [_,_],box b1 24 [_,_]]) rfl ?_;refine zq6 ?_;obtain ⟨o_1,hj1,hm1⟩:=bS hm;refine g_cut_m [(6,_),(7,_)] [(1,_)] (fun (st:((List ANd)×Int)) (hid:Unit)=>match st,hid with | (z1,z2),_=>[]) (fun F (st:((List ANd)×Int)) (hid:Unit)=>match st,hid with | (z1,z2),_=>[box b2 24 [.list 4 ANd.d z1,.i64 z2],(nthF F 0)]) (fun st=>st=o_1) ⟨rfl,rfl,trivial⟩ ⟨rfl,trivial⟩ ?_ ?_
  ·refine g_block ?_
   refine g_loop_m [(0,_),(2,_),(6,_),(7,_)] [(1,_)] (fun (st:(Int×(List ANd)×Int)) (hid:Unit)=>match st,hid with | (i1,z3,z4),_=>[(8,.i64 i1)]) (fun F (st:(Int×(List ANd)×Int)) (hid:Unit)=>match st,hid with | (i1,z3,z4),_=>[box b2 24 [.list 4 ANd.d z3,.i64 z4],(nthF F 0)]) () hj1 (fun _=>rfl) ⟨rfl,rfl,rfl,rfl,trivial⟩ ⟨rfl,trivial⟩ ⟨rfl,trivial⟩ rfl ?_;rintro n ⟨i1,z3,z4⟩ _ hj1;rw [m_ro_All_l1] at hj1;refine g_norm (L':=[(8,.i64 i1),(0,_),(2,_),(6,_),(7,_)]) (ms':=[box b2 24 [.list 4 ANd.d z3,.i64 z4],_]) rfl rfl ?_;refine zq8 ?_;refine zcn hj1 (fun hc2 hj1=>?_) (fun hc2 hj1=>?_)
   ·refine zq3 ?_
    obtain ⟨x2,hx2,hj1⟩:=bS hj1;obtain ⟨x3,hx3,hj1⟩:=bS hj1;refine zdr 7 ?_;refine zq6 ?_;refine zcd (w_ro_Over hx3) ?_;refine gd_nil ?_;refine zst 0 ?_;refine go_ms (ms':=[box b2 24 [_,_],box b1 24 [_,_]]) rfl ?_;refine zq3 ?_;obtain ⟨hg4,hj1⟩:=grd_some hj1;refine zq3 ?_;exact ⟨_,(),hj1,⟨rfl,trivial⟩,⟨rfl,rfl,rfl,rfl,trivial⟩,[],rfl⟩
   ·refine g_exit ?_
    exact ⟨_,(),some_eq hj1,trivial,⟨rfl,rfl,trivial⟩,[],rfl⟩
  ·rintro ⟨z1,z2⟩ _ hst
   subst hst;refine k_norm (L':=[(6,_),(7,_)]) (ms':=[box b2 24 [.list 4 ANd.d z1,.i64 z2],_]) rfl rfl ?_;refine zq3 ?_;refine zst 1 ?_;refine go_ms (ms':=[box b2 24 [_,_],box b1 24 [_,_]]) rfl ?_;refine gNl ?_
   cases hm1;exact g_ret zr1
noncomputable def m_lo_BoundMakes (l1:(List ATy)):Option Bool:=
 (m_lo_few l1 3).bind fun x1 =>
 (m_lo_few x1 3).bind fun x2 =>
 (m_bound_Join x2).bind fun (x3,x4) =>
 (m_lo_few x1 3).bind fun x5 =>
 (m_bound_Meet x5).bind fun (x6,x7) =>
 (m_lo_fault x1).bind fun x8 =>
 bif (!decide (x8=0)) then
  (bif ((decide (x4=x8))&&(decide (x7=x8))) then (grd (InR ((x3.l.length:Int)+(x6.l.length:Int))) <|
  some (decide (((x3.l.length:Int)+(x6.l.length:Int))=0))) else (some false)).bind fun p1 =>
  (bif p1 then ((m_lo_works).bind fun x9 =>
  some x9) else (some false)).bind fun p2 =>
  some p2
 else
  bif (!decide (x4=0)) then (some false) else (bif (!decide (x7=0)) then (some false) else ((m_ro_All 9 2 x1).bind fun x10 =>
  (m_lo_alike (⟨x3.l,x3.root⟩:ATy) x10).bind fun x11 =>
  bif (!x11) then (some false) else ((m_ro_All 10 1 x1).bind fun x12 =>
  (m_lo_alike (⟨x6.l,x6.root⟩:ATy) x12).bind fun x13 =>
  bif (!x13) then
   some false
  else
   bif (decide ((x1.length:Int)<2)) then
    (m_lo_works).bind fun x14 =>
    some x14
   else
    (idx x1 0).bind fun x15 =>
    (idx x1 1).bind fun x16 =>
    (m_bound_Arrow x15 x16).bind fun (x17,x18) =>
    bif (decide (x18=0)) then ((idx x1 0).bind fun x19 =>
    (idx x1 1).bind fun x20 =>
    (m_ro_Over 6 x19 x20).bind fun x21 =>
    (m_lo_alike (⟨x17.l,x17.root⟩:ATy) x21).bind fun x22 =>
    bif x22 then ((m_lo_works).bind fun x23 =>
    some x23) else (some false)) else (some false))))
theorem w_lo_BoundMakes {l1:(List ATy)} {r_1:Bool} (hm:m_lo_BoundMakes l1=some r_1):Fn0 Tryz.prog 12 [.list 2 ATy.d l1] (.bool r_1):=by
 unfold m_lo_BoundMakes at hm;refine fn_intro func12 rfl ntmps12 rfl fun H0 fr w0=>?_;refine zq7 ?_;obtain ⟨x1,hx1,hm⟩:=bS hm;refine zc0 (w_lo_few hx1) ?_;refine zq5 ?_;obtain ⟨x2,hx2,hm⟩:=bS hm;refine zc0 (w_lo_few hx2) ?_;obtain ⟨⟨x3,x4⟩,hx3,hm⟩:=bS hm;refine zc0 (w_bound_Join hx3) ?_;refine zq3 ?_;refine zal24a fun b1=>?_;refine zst 0 ?_;refine go_ms (ms':=[box b1 24 [_,_]]) rfl ?_;refine zq5 ?_;obtain ⟨x5,hx4,hm⟩:=bS hm;refine zc0 (w_lo_few hx4) ?_;obtain ⟨⟨x6,x7⟩,hx5,hm⟩:=bS hm;refine zc0 (w_bound_Meet hx5) ?_;refine zq3 ?_;refine zal24a fun b2=>?_;refine zst 0 ?_;refine go_ms (ms':=[box b2 24 [_,_],box b1 24 [_,_]]) rfl ?_;refine zq6 ?_;obtain ⟨x8,hx6,hm⟩:=bS hm;refine zc0 (w_lo_fault hx6) ?_;refine zq7 ?_;refine zcn hm (fun hc1 hm=>?_) (fun hc1 hm=>?_)
 ·refine zq6 ?_
  apply go_and [(3,_),(5,_)] 4 35 (t:=31) ⟨rfl,rfl,trivial⟩ rfl
  ·intro hg_1 hk1
   refine zq4 ?_;exact zgm hk1
  ·intro hg_1 hk1
   refine zq4 ?_;exact zgm hk1
  refine zq1 ?_;obtain ⟨p1,hp_2,hm⟩:=bS hm;refine go_two [] 9 45 p1 (t:=36) trivial rfl (fun hg_2 hk2=>?_) (fun hg_2 hk2=>?_) ?_
  ·replace hp_2:=cond_t hg_2 hp_2
   refine zq6 ?_;obtain ⟨hg7,hp_2⟩:=grd_some hp_2;refine zq3 ?_;exact zgb hk2 hp_2
  ·replace hp_2:=cond_f hg_2 hp_2
   refine zq9 ?_;exact zgb hk2 hp_2
  refine zq1 ?_;obtain ⟨p2,hp_3,hm⟩:=bS hm;refine go_two [] 2 48 p2 (t:=46) trivial rfl (fun hg_3 hk3=>?_) (fun hg_3 hk3=>?_) ?_
  ·replace hp_3:=cond_t hg_3 hp_3
   obtain ⟨x9,hx8,hp_3⟩:=bS hp_3;refine zcw (w_lo_works hx8) ?_;refine zq1 ?_;exact zgb hk3 hp_3
  ·replace hp_3:=cond_f hg_3 hp_3
   refine zq2 ?_;exact zgb hk3 hp_3
  refine zq2 ?_
  cases hm;exact g_ret zr1
 ·refine zq3 ?_
  rcases cond_split hm with ⟨hg_4,hm⟩ | ⟨hg_4,hm⟩
  ·
   skip
   refine zdr 20 ?_;refine zq22 ?_;refine g_cond_true rfl rfl ?_;refine zq4 ?_
   cases hm;exact g_ret zr1
  ·
   skip
   rcases cond_split hm with ⟨hg_5,hm⟩ | ⟨hg_5,hm⟩
   ·
    skip
    refine zdr 20 ?_;refine zq22 ?_;refine g_cond_true rfl rfl ?_;refine zq4 ?_
    cases hm;exact g_ret zr1
   ·
    skip
    obtain ⟨x10,hx9,hm⟩:=bS hm;obtain ⟨x11,hx10,hm⟩:=bS hm
    rcases cond_split hm with ⟨hg_6,hm⟩ | ⟨hg_6,hm⟩
    ·
     skip
     refine zdr 20 ?_;refine zq9 ?_;refine zce (w_ro_All hx9) ?_;refine zce (w_lo_alike hx10) ?_;refine zq11 ?_;refine g_cond_true rfl rfl ?_;refine zq4 ?_
     cases hm;exact g_ret zr1
    ·
     skip
     obtain ⟨x12,hx11,hm⟩:=bS hm;obtain ⟨x13,hx12,hm⟩:=bS hm;refine zdr 20 ?_;refine zq9 ?_;refine zce (w_ro_All hx9) ?_;refine zce (w_lo_alike hx10) ?_;refine zq5 ?_;refine zce (w_ro_All hx11) ?_;refine zce (w_lo_alike hx12) ?_;refine zq4 ?_;refine zcn hm (fun hc2 hm=>?_) (fun hc2 hm=>?_)
     ·refine zq4 ?_
      cases hm;exact g_ret zr1
     ·refine zq8 ?_
      refine zcn hm (fun hc3 hm=>?_) (fun hc3 hm=>?_)
      ·refine zq2 ?_
       obtain ⟨x14,hx13,hm⟩:=bS hm;refine zc0 (w_lo_works hx13) ?_;refine zq2 ?_
       cases hm;exact g_ret zr1
      ·refine zq2 ?_
       obtain ⟨x15,hx14,hm⟩:=bS hm;obtain ⟨x16,hx15,hm⟩:=bS hm;obtain ⟨⟨x17,x18⟩,hx16,hm⟩:=bS hm;refine g_draw_c [10,11] [0,1,2,3,4,5,6,7,8,9,12] [] Tryz_mixed (by decide +kernel) (by decide +kernel) rfl ?_;refine gde_p rfl rfl rfl rfl rfl rfl (oMv rfl) ?_;refine gde_p rfl rfl rfl rfl rfl rfl (oIm runUnderlying53 sizeOf24 rfl rfl hx14) ?_;refine gde_p rfl rfl rfl rfl rfl rfl (o_load_agg isAgg24 sizeOf24 rfl rfl) ?_;refine gde_p rfl rfl rfl rfl rfl rfl (oMv rfl) ?_;refine gde_p rfl rfl rfl rfl rfl rfl (oIm runUnderlying53 sizeOf24 rfl rfl hx15) ?_;refine gde_p rfl rfl rfl rfl rfl rfl (o_load_agg isAgg24 sizeOf24 rfl rfl) ?_;refine gde_p rfl rfl rfl rfl rfl rfl (o_call0 call48 rfl (w_bound_Arrow hx16)) ?_;refine gde_p rfl rfl rfl rfl rfl rfl (oMv rfl) ?_;refine gde_p rfl rfl rfl rfl rfl rfl (o_extract rfl rfl) ?_;refine gde_p rfl rfl rfl rfl rfl rfl (o_extract rfl rfl) ?_;refine gde_e rfl ?_;refine gde_e rfl ?_;refine gde_p rfl rfl rfl rfl rfl rfl (oAs rfl) ?_;refine gde_nil ?_;refine gde2_t rfl rfl rfl rfl (o_alloc_own zeroValue24 (cs:=[.list 4 ANd.d [],.i64 0]) rfl) ?_;rintro _ _ ⟨b3,rfl,rfl⟩;refine ⟨(trivial:True),?_⟩;refine gde2_u rfl rfl rfl (oSb 0 sizeOf24 rfl rfl rfl rfl rfl rfl rfl rfl (nB rfl)) ?_;rintro _ _ rfl;refine ⟨(trivial:True),?_⟩;refine gde2_nil ?_;refine g_seq ?_
       rcases cond_split hm with ⟨hg_7,hm⟩ | ⟨hg_7,hm⟩
       ·
        skip
        obtain ⟨x19,hx17,hm⟩:=bS hm;obtain ⟨x20,hx18,hm⟩:=bS hm;obtain ⟨x21,hx19,hm⟩:=bS hm;obtain ⟨x22,hx20,hm⟩:=bS hm
        rcases cond_split hm with ⟨hg_8,hm⟩ | ⟨hg_8,hm⟩
        ·
         skip
         obtain ⟨x23,hx21,hm⟩:=bS hm;refine zdr 17 ?_;refine zq5 ?_;refine gd_want rfl rfl rfl hg_7 rfl rfl (oIm runUnderlying53 sizeOf24 rfl rfl hx17) ?_;refine zq2 ?_;refine gd_want rfl rfl rfl hg_7 rfl rfl (oIm runUnderlying53 sizeOf24 rfl rfl hx18) ?_;refine zq1 ?_;refine zce (w_ro_Over hx19) ?_;refine zce (w_lo_alike hx20) ?_;refine zq2 ?_;refine zce (w_lo_works hx21) ?_;refine zq4 ?_
         cases hm;exact g_ret zr1
        ·
         skip
         refine zdr 17 ?_;refine zq5 ?_;refine gd_want rfl rfl rfl hg_7 rfl rfl (oIm runUnderlying53 sizeOf24 rfl rfl hx17) ?_;refine zq2 ?_;refine gd_want rfl rfl rfl hg_7 rfl rfl (oIm runUnderlying53 sizeOf24 rfl rfl hx18) ?_;refine zq1 ?_;refine zce (w_ro_Over hx19) ?_;refine zce (w_lo_alike hx20) ?_;refine zq7 ?_
         cases hm;exact g_ret zr1
       ·
        skip
        refine zdr 17 ?_;refine zq19 ?_
        cases hm;exact g_ret zr1
end Go.Proofs.YtkfnogdccpcmhaaGreatDoor
namespace Go.Proofs.YtkfnogdccpcmhaaGreatDoor
open Go.V Tryz
open Classical
theorem push_eq (x:List Int) (hx:x.length<=1000):∀ (n q:Nat) (l:List Int),q<=x.length->q<n->l.length+q<=1000000000->m_rg_Below_l2 x n ((q:Int) - 1,l)=some (l++(x.take q).reverse)
 | 0,q,l,_,h,_=>by omega
 | n+1,0,l,_,_,_=>by
  simp only [m_rg_Below_l2];rw [dF (by omega),cF_];simp
 | n+1,q+1,l,hq,hn,hl=>by
  have hxq:x[q]? = some x[q]:=List.getElem?_eq_getElem (by omega)
  simp only [m_rg_Below_l2];rw [dT (by omega),cT,show (((q+1:Nat):Int) - 1)=(q:Int) by omega,getI hxq,oB,grd_pos (by simp only [List.length_cons,List.length_nil];omega),grd_pos (by omega),push_eq x hx n q (l++[x[q]]) (by omega) (by omega) (by simp only [List.length_append,List.length_cons,List.length_nil];omega)];rw [List.take_succ_eq_append_getElem (by omega),List.reverse_append]
  simp
theorem hasInt_eq (l:List Int) (x:Int) (h:l.length<=1000000000):m_ba_HasInt l x=some (decide (x∈l)):=by
 unfold m_ba_HasInt;rw [loop_any (φ:=m_ba_HasInt_l1 l x) (l:=l) true (fun _ k=>k=x) ?_ ?_ (by rw [FUv];omega),oB]
 ·have e:(∃ (i:Nat) (y:Int),l[i]? = some y/\y=x)↔x∈l:=by
   constructor
   ·rintro ⟨i,y,h1,rfl⟩;exact List.mem_of_getElem? h1
   ·intro h1;obtain ⟨i,hi⟩:=List.getElem?_of_mem h1;exact ⟨i,x,hi,rfl⟩
  by_cases h2:x∈l
  ·rw [if_pos (e.2 h2),dT h2];rfl
  ·rw [if_neg (fun h3=>h2 (e.1 h3)),dF h2];rfl
 ·intro n i y hy hi
  simp only [m_ba_HasInt_l1];rw [dT (show (i:Int)<l.length by omega),cT,getI hy,oB]
  by_cases h2:y=x
  ·rw [dT h2];exact ⟨fun h=>absurd h2 h,fun _=>rfl⟩
  ·rw [dF h2];exact ⟨fun _=>by rw [cF_,grd_pos (by omega)],fun h=>absurd h h2⟩
 ·intro n
  simp only [m_ba_HasInt_l1];rw [dF (by omega),cF_]
theorem below_lock2 {t:ATy} (hR:InL t.l) (hN:∀ n∈t.l,NB n) (hlen:t.l.length<=2001):∀ (n:Nat) (s out:List Int) (seen:List Bool),(∀ x∈s,0<=x/\x<(t.l.length:Int))->seen.length=t.l.length ->
  (∀ i:Nat,seen[i]? = some true↔((i:Int)∈out/\i<t.l.length))->out.length+s.length+wt (kat t.l) t.l.length out<=100000000->s.length+wt (kat t.l) t.l.length out<n ->
  ∃ ys,m_below_l1 t n (s.reverse,seen)=some ys/\dfs (kat t.l) n s out=out++ys/\m_rg_Below_l1 t n (s.reverse,out)=some ([],out++ys)
 | 0,s,out,seen,_,_,_,_,h=>by omega
 | n+1,[],out,seen,_,_,_,_,_=>by
  refine ⟨[],?_,by simp [dfs],?_⟩
  ·simp only [m_below_l1,List.reverse_nil,List.length_nil];rfl
  ·simp only [m_rg_Below_l1,List.reverse_nil,List.length_nil,List.append_nil];rfl
 | n+1,x::s,out,seen,hs,hsl,hse,hB,hn=>by
  obtain ⟨x0,x1⟩:=hs x (by simp);obtain ⟨i,rfl⟩:=Int.eq_ofNat_of_zero_le x0
  have hi:i<t.l.length:=by omega
  have hx:t.l[i]? = some t.l[i]:=List.getElem?_eq_getElem hi
  have hv:seen[i]? = some (seen[i]'(by omega)):=List.getElem?_eq_getElem (by omega)
  have hk:kat t.l (i:Int)=kidsL t.l[i]:=by unfold kat;rw [Int.toNat_natCast,hx]
  have hkl:=kat_len hN (i:Int)
  have hNi:=hN _ (List.getElem_mem hi)
  simp only [List.length_cons] at hB hn;rw [List.reverse_cons]
  have hl1:(s.reverse++[(i:Int)]).length=s.length+1:=by simp
  simp only [m_below_l1,m_rg_Below_l1];rw [dT (show (0:Int)<((s.reverse++[(i:Int)]).length:Int) by rw [hl1];omega),cT,grd_pos (by rw [hl1];omega),lastI,oB,grd_pos (by rw [hl1];omega),initI,oB,getI hv,oB,cT,grd_pos (by rw [hl1];omega),oB,oB,grd_pos (by rw [hl1];omega),oB,hasInt_eq out _ (by omega),oB]
  have hd:dfs (kat t.l) (n+1) ((i:Int)::s) out=if (i:Int)∈out then dfs (kat t.l) n s out else dfs (kat t.l) n (kat t.l i++s) (out++[(i:Int)]):=rfl
  rw [hd]
  by_cases ho:(i:Int)∈out
  ·have h1:seen[i]'(by omega)=true:=by have:=(hse i).2 ⟨ho,hi⟩;rw [hv] at this;exact Option.some.inj this
   rw [h1,cT,if_pos ho,dT ho,cT];exact below_lock2 hR hN hlen n s out seen (fun x hx=>hs x (by simp [hx])) hsl hse (by omega) (by omega)
  ·have h1:seen[i]'(by omega)=false:=by
    cases hq:seen[i]'(by omega) with
    | false=>rfl
    | true=>exact absurd ((hse i).1 (by rw [hv,hq])).1 ho
   have hw:=wt_add (K:=kat t.l) hi ho
   obtain ⟨ys,e1,e2,e3⟩:=below_lock2 hR hN hlen n (kat t.l i++s) (out++[(i:Int)]) (seen.set i true) (fun y hy=>by
    rcases List.mem_append.1 hy with hy | hy
    ·exact kat_in hR _ _ hy
    ·exact hs y (by simp [hy])) (by simpa using hsl) (fun j=>by
    rw [List.getElem?_set]
    by_cases hij:i=j
    ·subst hij;simp;omega
    ·rw [if_neg hij,hse j];simp;omega) (by simp only [List.length_append,List.length_cons,List.length_nil];omega) (by simp only [List.length_append];omega)
   rw [h1,cF_,if_neg ho,dF ho,cF_,getI hx,oB,kids_eq _ hNi,oB,<- hk,grd_pos (by omega),reverse_eq _ (by omega),oB,grd_pos (by simp only [List.length_reverse];omega),Int.toNat_natCast];refine ⟨(i:Int)::ys,?_,by rw [e2];simp,?_⟩
   ·rw [List.reverse_append] at e1
    rw [e1];rfl
   ·rw [grd_pos (by simp only [List.length_cons,List.length_nil];omega),oB,rkids_eq _ hNi,oB,<- hk,grd_pos (by omega),push_eq _ (by omega) FU _ _ (Nat.le_refl _) (by rw [FUv];omega) (by simp only [List.length_reverse];omega),oB,List.take_length]
    rw [List.reverse_append] at e3;rw [e3];simp
theorem below_eqs2 {t:ATy} (hR:InL t.l) (hN:∀ n∈t.l,NB n) (hlen:t.l.length<=2001) {root:Int} (h0:0<=root) (h1:root<(t.l.length:Int)) :
  m_below t root=some (belowL t.l root)/\m_rg_Below t root=some (belowL t.l root):=by
 have hw:=wt_bound hN []
 obtain ⟨ys,e1,e2,e3⟩:=below_lock2 hR hN hlen FU [root] [] (List.replicate t.l.length false) (fun x hx=>by simp at hx;subst hx;exact ⟨h0,h1⟩) (by simp) (fun i=>by rw [List.getElem?_replicate];split <;> simp) (by simp only [List.length_cons,List.length_nil];omega) (by rw [FUv];simp only [List.length_cons,List.length_nil];omega);rw [List.nil_append] at e2 e3
 constructor
 ·unfold m_below
  rw [grd_pos (by omega),grd_pos (by omega),Int.toNat_natCast]
  show m_below_l1 t FU ([root].reverse,_)=_
  rw [e1,belowL,e2]
 ·unfold m_rg_Below
  show (m_rg_Below_l1 t FU ([root].reverse,[])).bind _=_
  rw [e3,belowL,e2];rfl
def nodeAt (L:List ANd) (x:Int):ANd:=match L[x.toNat]? with
 | some n=>n
 | none=>⟨0,0,0,[]⟩
noncomputable def posOf (B:List Int) (k:Int):Int:=if k∈B then ((B.idxOf k:Nat):Int) else 0
theorem nodeAt_get {L:List ANd} {x:Int} (h0:0<=x) (h1:x<(L.length:Int)):idx L x=some (nodeAt L x)/\nodeAt L x∈L:=by
 have hn:L[x.toNat]? = some (L[x.toNat]'(by omega)):=List.getElem?_eq_getElem (by omega)
 unfold nodeAt idx;rw [if_pos h0,hn];exact ⟨rfl,List.getElem_mem _⟩
theorem normR_eq:∀ (xs l:List Int) (mm:List (Int×Int)),xs.Nodup->l.length+xs.length<=1000000->∃ mm',m_graph_norm_r1 xs (l,mm)=some (l++xs,mm')/\∀ k,mget mm' k=if k∈xs then some (((l.length+xs.idxOf k:Nat)):Int) else mget mm k
 | [],l,mm,_,_=>⟨mm,by simp [m_graph_norm_r1],fun k=>by simp⟩
 | x::xs,l,mm,hn,hl=>by
  rw [List.nodup_cons] at hn;simp only [List.length_cons] at hl;obtain ⟨mm',e1,e2⟩:=normR_eq xs (l++[x]) (mset mm x (l.length:Int)) hn.2 (by simp only [List.length_append,List.length_cons,List.length_nil];omega);refine ⟨mm',?_,fun k=>?_⟩
  ·unfold m_graph_norm_r1
   rw [grd_pos (by simp only [List.length_cons,List.length_nil];omega),e1];simp
  ·rw [e2 k,mget_set]
   by_cases hk:k∈xs
   ·have hkx:¬ x=k:=fun e=>hn.1 (e▸hk)
    rw [if_pos hk,if_pos (by simp [hk]),List.idxOf_cons]
    have:(x == k)=false:=by simp [hkx]
    rw [this];simp only [List.length_append,List.length_cons,List.length_nil,cF_]
    congr 2;omega
   ·rw [if_neg hk]
    by_cases hkx:k=x
    ·subst hkx
     rw [if_pos rfl,if_pos (by simp),List.idxOf_cons]
     simp
    ·rw [if_neg hkx,if_neg (by simp [hk,hkx])]
noncomputable def normL (L:List ANd) (root:Int):List ANd:=(belowL L root).map (fun x=>movedN (posOf (belowL L root)) (nodeAt L x))
theorem norm_eq {t:ATy} (hA:AllRight t.l) (hN:∀ n∈t.l,NB n) (hlen:t.l.length<=2001) {root:Int} (h0:0<=root) (h1:root<(t.l.length:Int)):m_graph_norm t root=some ⟨normL t.l root,0⟩:=by
 obtain ⟨b1,b2,b3⟩:=belowL_props (allRight_in hA) h0 h1;unfold m_graph_norm;rw [(below_eqs2 (allRight_in hA) hN hlen h0 h1).1,oB]
 generalize hB:belowL t.l root=B at *
 obtain ⟨mm,e1,e2⟩:=normR_eq B [] [] b2 (by simp only [List.length_nil];omega);rw [List.nil_append] at e1;rw [e1,oB]
 dsimp only
 have hp:∀ k,m_graph_norm_1 k mm=some (posOf B k):=by
  intro k
  unfold m_graph_norm_1 posOf;rw [e2 k]
  by_cases hk:k∈B
  ·rw [if_pos hk,if_pos hk];simp
  ·rw [if_neg hk,if_neg hk];rfl
 rw [loop_map (φ:=fun n i s=>m_graph_norm_l2 t B mm n (i,s,0)) (l:=B) (fun x=>movedN (posOf B) (nodeAt t.l x)) (fun s=>(s,0)) 0 ?_ ?_ (by rw [FUv];omega) [] rfl]
 ·rw [oB]
  dsimp only
  unfold normL;rw [hB];rfl
 ·intro n i x s hx hi hs
  obtain ⟨x0,x1⟩:=b1 x (List.mem_of_getElem? hx);obtain ⟨ix,hm⟩:=nodeAt_get x0 x1;simp only [m_graph_norm_l2];rw [dT (show (i:Int)<B.length by omega),cT,getI hx,oB,ix,oB,moved_eq _ _ (posOf B) (hN _ hm) (fun _=>⟨hp _,hp _⟩) (fun y _=>hp _),oB,grd_pos (by simp only [List.length_cons,List.length_nil];omega),grd_pos (by omega)]
 ·intro n s hs
  simp only [m_graph_norm_l2];rw [dF (by omega),cF_]
end Go.Proofs.YtkfnogdccpcmhaaGreatDoor
namespace Go.Proofs.YtkfnogdccpcmhaaGreatDoor
open Go.V Tryz
open Classical
theorem rwith_eq (n:ANd) (all:Int) (f:Int->Int) (h:NB n) (hr:rightB n all=true):m_rg_with n ((kidsL n).map f)=some (movedN f n):=by
 have hz:(!((!pB n.kind)&&((!decide (n.b=0))||((!decide (n.kind=11))&&(!decide (n.a=0))))))=true:=by
  unfold rightB at hr;simp only [Bool.and_eq_true] at hr;exact hr.2.1
 have hlen:n.l.length<=40:=h
 have key:∀ z1 z2 z3,m_rg_with_l1 n ((kidsL n).map f) FU (0,[],z1,z2,z3)=some (n.l.map (fun x=>⟨x.name,f x.at_⟩),z1,z2,z3):=by
  intro z1 z2 z3
  rw [loop_map (φ:=fun m i s=>m_rg_with_l1 n ((kidsL n).map f) m (i,s,z1,z2,z3)) (l:=n.l) (fun x=>(⟨x.name,f x.at_⟩:AFd)) (fun s=>(s,z1,z2,z3)) 0 ?_ ?_ (by rw [FUv];omega) [] rfl]
  ·rfl
  ·intro m i x s hx hi hs
   have hw:wB n.kind=true:=by
    cases hw:wB n.kind with
    | true=>rfl
    | false=>rw [right_wide hr hw] at hx;simp at hx
   have hk:kidsL n=n.l.map (·.at_):=by unfold kidsL;rw [pw_no hw,cF_,hw,cT]
   have hy:((kidsL n).map f)[i]? = some (f x.at_):=by rw [hk,List.getElem?_map,List.getElem?_map,hx];rfl
   simp only [m_rg_with_l1];rw [dT (show (i:Int)<n.l.length by omega),cT,getI hx,oB,getI hy,oB,grd_pos (by simp only [List.length_cons,List.length_nil];omega),grd_pos (by omega)]
  ·intro m s hs
   simp only [m_rg_with_l1];rw [dF (by omega),cF_]
 unfold m_rg_with movedN
 change ((bif decide (n.kind=11) then _ else _:Option ((List AFd)×Int×Int×Int)).bind fun q=>(bif pB n.kind then _ else _:Option ((List AFd)×Int×Int×Int)).bind _)=_
 cases hp:pB n.kind with
 | true =>
  have h11:¬ n.kind=11:=fun e=>by rw [e] at hp;exact absurd hp (by decide)
  have hk:kidsL n=[n.a,n.b]:=by unfold kidsL;rw [hp,cT]
  rw [dF h11,cF_,oB]
  dsimp only
  rw [cT,show idx ((kidsL n).map f) 0=some (f n.a) by rw [hk];rfl,oB,show idx ((kidsL n).map f) 1=some (f n.b) by rw [hk];rfl,oB,oB]
  dsimp only
  rw [key,oB];rfl
 | false =>
  rw [hp] at hz;simp only [Bool.not_false,Bool.true_and,Bool.not_eq_true',Bool.or_eq_false_iff,Bool.and_eq_false_iff,decide_eq_true_eq,Bool.not_eq_false'] at hz;obtain ⟨hb,ha⟩:=hz
  by_cases h11:n.kind=11
  ·rw [dT h11,cT,oB]
   dsimp only
   rw [cF_,oB]
   dsimp only
   rw [key,oB,hb];rfl
  ·have ha0:n.a=0:=by
    rcases ha with ha | ha
    ·exact absurd ha h11
    ·exact ha
   rw [dF h11,cF_,oB]
   dsimp only
   rw [cF_,oB]
   dsimp only
   rw [key,oB,hb,ha0];rfl
theorem idxOf_get {B:List Int} {i:Nat} {x:Int} (hn:B.Nodup) (hx:B[i]? = some x):B.idxOf x=i:=by
 have hi:=getLt hx
 have e:B[i]=x:=by rw [List.getElem?_eq_getElem hi] at hx;exact Option.some.inj hx
 rw [<- e];exact List.Nodup.idxOf_getElem hn i hi
theorem places_eq (B:List Int) (len:Nat) (hn:B.Nodup) (hB:∀ x∈B,0<=x/\x<(len:Int)) (hl:B.length<=2001) :
  ∃ A,m_rg_Norm_l1 B FU (0,List.replicate len 0)=some A/\A.length=len/\∀ k:Nat,k<len->A[k]? = some (posOf B (k:Int)):=by
 obtain ⟨A,e1,e2,e3⟩:=loop_rng (φ:=fun n i s=>m_rg_Norm_l1 B n (i,s)) (l:=B)
  (fun i s=>s.length=len/\∀ k:Nat,k<len->s[k]? = some (if (k:Int)∈B.take i then ((B.idxOf (k:Int):Nat):Int) else 0))
  (fun A=>A.length=len/\∀ k:Nat,k<len->A[k]? = some (posOf B (k:Int)))
  (by
   rintro n i x s hx hi ⟨s1,s2⟩;obtain ⟨x0,x1⟩:=hB x (List.mem_of_getElem? hx);obtain ⟨a,rfl⟩:=Int.eq_ofNat_of_zero_le x0
   have ha:a<len:=by omega
   have hy:s[a]? = some (s[a]'(by omega)):=List.getElem?_eq_getElem (by omega)
   refine .inl ⟨s.set a (i:Int),?_,by simpa using s1,fun k hk=>?_⟩
   ·simp only [m_rg_Norm_l1]
    rw [dT (show (i:Int)<B.length by omega),cT,getI hx,oB,getI hy,oB,grd_pos (by omega),Int.toNat_natCast]
   ·have hBi:B[i]=(a:Int):=by rw [List.getElem?_eq_getElem hi] at hx;exact Option.some.inj hx
    rw [List.take_succ_eq_append_getElem hi,hBi]
    by_cases hka:k=a
    ·subst hka
     rw [List.getElem?_set_self (by omega),if_pos (by simp),idxOf_get hn hx]
    ·rw [List.getElem?_set_ne (by omega),s2 k hk]
     have e:((k:Int)∈B.take i++[(a:Int)])↔(k:Int)∈B.take i:=by simp;omega
     by_cases h:(k:Int)∈B.take i
     ·rw [if_pos h,if_pos (e.2 h)]
     ·rw [if_neg h,if_neg (fun h2=>h (e.1 h2))])
  (by
   rintro n s ⟨s1,s2⟩;refine ⟨s,?_,s1,fun k hk=>?_⟩
   ·simp only [m_rg_Norm_l1]
    rw [dF (by omega),cF_]
   ·rw [s2 k hk,List.take_length];rfl) (by rw [FUv];omega) (List.replicate len 0) ⟨by simp,fun k hk=>by simp [hk]⟩
 exact ⟨A,e1,e2,e3⟩
theorem rkidsAt_eq (A ks:List Int) (f:Int->Int) (hk:∀ k∈ks,idx A k=some (f k)) (hl:ks.length<=1000):m_rg_Norm_l3 A ks FU (0,[])=some (ks.map f):=by
 rw [loop_map (φ:=fun n i s=>m_rg_Norm_l3 A ks n (i,s)) (l:=ks) f id 0 ?_ ?_ (by rw [FUv];omega) [] rfl]
 ·rfl
 ·intro n i x s hx hi hs
  simp only [m_rg_Norm_l3];rw [dT (show (i:Int)<ks.length by omega),cT,getI hx,oB,hk x (List.mem_of_getElem? hx),oB,grd_pos (by simp only [List.length_cons,List.length_nil];omega),grd_pos (by omega)]
 ·intro n s hs
  simp only [m_rg_Norm_l3];rw [dF (by omega),cF_];rfl
theorem rnorm_eq {t:ATy} (hA:AllRight t.l) (hN:∀ n∈t.l,NB n) (hlen:t.l.length<=2001) {root:Int} (h0:0<=root) (h1:root<(t.l.length:Int)):m_rg_Norm t root=some ⟨normL t.l root,0⟩:=by
 obtain ⟨b1,b2,b3⟩:=belowL_props (allRight_in hA) h0 h1;unfold m_rg_Norm;rw [(below_eqs2 (allRight_in hA) hN hlen h0 h1).2,oB,grd_pos (by omega),grd_pos (by omega),Int.toNat_natCast]
 generalize hB:belowL t.l root=B at *
 obtain ⟨A,a1,a2,a3⟩:=places_eq B t.l.length b2 b1 (by omega);rw [a1,oB]
 have hp:∀ k,0<=k->k<(t.l.length:Int)->idx A k=some (posOf B k):=by
  intro k k0 k1
  obtain ⟨q,rfl⟩:=Int.eq_ofNat_of_zero_le k0;exact getI (a3 q (by omega))
 rw [loop_map (φ:=fun n i s=>m_rg_Norm_l2 t B A n (i,s,0)) (l:=B) (fun x=>movedN (posOf B) (nodeAt t.l x)) (fun s=>(s,0)) 0 ?_ ?_ (by rw [FUv];omega) [] rfl]
 ·rw [oB]
  dsimp only
  unfold normL;rw [hB];rfl
 ·intro n i x s hx hi hs
  obtain ⟨x0,x1⟩:=b1 x (List.mem_of_getElem? hx);obtain ⟨ix,hm⟩:=nodeAt_get x0 x1
  have hr:=hA _ hm
  have hkl:=kidsL_len _ (hN _ hm)
  simp only [m_rg_Norm_l2];rw [dT (show (i:Int)<B.length by omega),cT,getI hx,oB,ix,oB,rkids_eq _ (hN _ hm),oB,rkidsAt_eq A _ (posOf B) (fun k hk=>by
   obtain ⟨k0,k1⟩:=right_in hr k hk;exact hp k k0 k1) (by omega),oB,oB,ix,oB,rwith_eq _ _ (posOf B) (hN _ hm) hr,oB,grd_pos (by simp only [List.length_cons,List.length_nil];omega),grd_pos (by omega)]
 ·intro n s hs
  simp only [m_rg_Norm_l2];rw [dF (by omega),cF_]
end Go.Proofs.YtkfnogdccpcmhaaGreatDoor
namespace Go.Proofs.YtkfnogdccpcmhaaGreatDoor
open Go.V Tryz
open Classical
theorem normL_nb {L:List ANd} (hR:InL L) (hN:∀ n∈L,NB n) {root:Int} (h0:0<=root) (h1:root<(L.length:Int)):(∀ n∈normL L root,NB n)/\(normL L root).length<=L.length:=by
 obtain ⟨b1,b2,b3⟩:=belowL_props hR h0 h1;unfold normL;refine ⟨fun n hn=>?_,by rw [List.length_map];exact b3⟩;obtain ⟨x,hx,rfl⟩:=List.mem_map.1 hn;obtain ⟨x0,x1⟩:=b1 x hx;exact movedN_nb (hN _ (nodeAt_get x0 x1).2)
noncomputable def normT (t:ATy):ATy×Int:=if mayT t.l t.root=0 then (⟨normL t.l t.root,0⟩,0) else (⟨[],0⟩,mayT t.l t.root)
theorem Norm_eq (t:ATy) (hlen:t.l.length<=2001) (hN:∀ n∈t.l,NB n):m_graph_Norm t=some (normT t):=by
 unfold m_graph_Norm normT;rw [may_eq t hlen hN,oB]
 by_cases h:mayT t.l t.root=0
 ·obtain ⟨_,_,r0,r1,hA,_⟩:=mayT_ok h
  rw [dT h,if_pos h,Bool.not_true,cF_,norm_eq hA hN hlen r0 r1,oB]
 ·rw [dF h,if_neg h];rfl
theorem Norm_ok {t:ATy} (hlen:t.l.length<=2001) (hN:∀ n∈t.l,NB n) (h:mayT t.l t.root=0):m_graph_Norm t=some (⟨normL t.l t.root,0⟩,0):=by
 rw [Norm_eq t hlen hN];unfold normT;rw [if_pos h]
end Go.Proofs.YtkfnogdccpcmhaaGreatDoor
namespace Go.Proofs.YtkfnogdccpcmhaaGreatDoor
open Go.V Tryz
open Classical
theorem kidsL_moved (f:Int->Int) (n:ANd):kidsL (movedN f n)=(kidsL n).map f:=by
 unfold kidsL movedN
 dsimp only
 cases pB n.kind
 ·cases wB n.kind
  ·rfl
  ·simp only [cF_,cT,List.map_map];rfl
 ·rfl
theorem movedN_moved (f g:Int->Int) (n:ANd):movedN f (movedN g n)=movedN (fun k=>f (g k)) n:=by
 unfold movedN
 dsimp only
 cases pB n.kind <;> simp [List.map_map,Function.comp_def]
theorem movedN_congr {n:ANd} {all:Int} {f g:Int->Int} (hr:rightB n all=true) (h:∀ k∈kidsL n,f k=g k):movedN f n=movedN g n:=by
 have hw:=right_wide hr
 unfold kidsL at h;unfold movedN
 cases hp:pB n.kind with
 | true =>
  rw [hp,cT] at h
  have hl:n.l=[]:=hw (by
   cases hq:wB n.kind with
   | false=>rfl
   | true=>rw [pw_no hq] at hp;cases hp)
  rw [hl,cT,cT,cT,cT,h n.a (by simp),h n.b (by simp)]
  rfl
 | false =>
  rw [hp,cF_] at h;rw [cF_,cF_,cF_,cF_]
  cases hq:wB n.kind with
  | false=>rw [hw hq];rfl
  | true =>
   rw [hq,cT] at h
   congr 1
   exact List.map_congr_left fun x hx=>by rw [h x.at_ (List.mem_map.2 ⟨x,hx,rfl⟩)]
theorem named_movedL {n:ANd} {f:Int->Int} (h:namedP n):namedP (movedN f n):=by
 intro i x hx
 have hx2:(n.l.map (fun x=>(⟨x.name,f x.at_⟩:AFd)))[i]? = some x:=hx
 rw [List.getElem?_map] at hx2
 cases h0:n.l[i]? with
 | none=>rw [h0] at hx2;cases hx2
 | some x0 =>
  rw [h0] at hx2
  have e:=Option.some.inj hx2
  subst e;obtain ⟨h1,h2⟩:=h i x0 h0;refine ⟨h1,fun hi y hy=>?_⟩
  have hy2:(n.l.map (fun x=>(⟨x.name,f x.at_⟩:AFd)))[i - 1]? = some y:=hy
  rw [List.getElem?_map] at hy2
  cases h3:n.l[i - 1]? with
  | none=>rw [h3] at hy2;cases hy2
  | some y0 =>
   rw [h3] at hy2
   have e:=Option.some.inj hy2
   subst e;exact h2 hi y0 h3
theorem moved_right {n:ANd} {all all':Int} {f:Int->Int} (h:rightB n all=true) (hf:∀ k∈kidsL n,0<=f k/\f k<all'):rightB (movedN f n) all'=true:=by
 unfold rightB at h ⊢;simp only [Bool.and_eq_true] at h ⊢;obtain ⟨h1,h2,h3,h4,⟨h5,h6⟩,_⟩:=h;refine ⟨h1,?_,?_,?_,⟨?_,?_⟩,?_⟩
 ·show (!((!pB n.kind)&&((!decide ((movedN f n).b=0))||((!decide (n.kind=11))&&(!decide ((movedN f n).a=0))))))=true
  cases hp:pB n.kind with
  | true=>rfl
  | false =>
   rw [hp] at h2;unfold movedN
   dsimp only
   rw [hp,cF_,cF_];exact h2
 ·show (!(decide (n.kind=11)&&(decide ((movedN f n).a<0)||decide (999<(movedN f n).a))))=true
  cases hp:pB n.kind with
  | true =>
   have h11:¬ n.kind=11:=fun e=>by rw [e] at hp;exact absurd hp (by decide)
   rw [dF h11];rfl
  | false =>
   unfold movedN
   dsimp only
   rw [hp,cF_];exact h3
 ·show (!((!wB n.kind)&&decide (0<((movedN f n).l.length:Int))))=true
  unfold movedN;simp only [List.length_map];exact h4
 ·rw [decide_eq_true_eq] at h5 ⊢
  exact named_movedL h5
 ·unfold movedN
  simp only [List.length_map];exact h6
 ·rw [Bool.not_eq_true',decide_eq_false_iff_not]
  rintro ⟨k,hk,hb⟩;rw [kidsL_moved] at hk;obtain ⟨q,hq,rfl⟩:=List.mem_map.1 hk;obtain ⟨q0,q1⟩:=hf q hq;unfold inB at hb;rw [Bool.or_eq_true,decide_eq_true_eq,decide_eq_true_eq] at hb
  omega
theorem kat_node (L:List ANd) (x:Int):kat L x=kidsL (nodeAt L x):=by
 unfold kat nodeAt
 cases L[x.toNat]? <;> rfl
theorem nodeAt_some {L:List ANd} {x:Int} (h0:0<=x) (h1:x<(L.length:Int)):L[x.toNat]? = some (nodeAt L x):=by
 have hn:L[x.toNat]? = some (L[x.toNat]'(by omega)):=List.getElem?_eq_getElem (by omega)
 unfold nodeAt;rw [hn]
structure EmbL (L M:List ANd) (B:List Int) (f:Int->Int):Prop where
 inn:∀ x∈B,0<=x/\x<(L.length:Int)
 closed:∀ x∈B,∀ k∈kidsL (nodeAt L x),k∈B
 inj:∀ x∈B,∀ y∈B,f x=f y->x=y
 out:∀ x∈B,0<=f x/\f x<(M.length:Int)
 node:∀ x∈B,nodeAt M (f x)=movedN f (nodeAt L x)
theorem dfs_prefix (K:Int->List Int):∀ (n:Nat) (s out:List Int),∃ ys,dfs K n s out=out++ys
 | 0,s,out=>⟨[],by simp [dfs]⟩
 | n+1,[],out=>⟨[],by simp [dfs]⟩
 | n+1,x::s,out=>by
  unfold dfs
  split
  ·exact dfs_prefix K n s out
  ·obtain ⟨ys,e⟩:=dfs_prefix K n (K x++s) (out++[x])
   exact ⟨[x]++ys,by rw [e,List.append_assoc]⟩
theorem dfs_closed {L:List ANd} (hR:InL L):∀ (n:Nat) (s out:List Int),(∀ x∈s,0<=x/\x<(L.length:Int))->s.length+wt (kat L) L.length out<n ->
  (∀ x∈s,x∈dfs (kat L) n s out)/\(∀ x∈dfs (kat L) n s out,x∈out\/∀ k∈kat L x,k∈dfs (kat L) n s out)
 | 0,s,out,_,h=>by omega
 | n+1,[],out,_,_=>⟨fun x hx=>by simp at hx,fun x hx => .inl (by simpa [dfs] using hx)⟩
 | n+1,x::s,out,hs,h=>by
  obtain ⟨x0,x1⟩:=hs x (by simp);simp only [List.length_cons] at h;unfold dfs
  by_cases hx:x∈out
  ·rw [if_pos hx]
   obtain ⟨i1,i2⟩:=dfs_closed hR n s out (fun y hy=>hs y (by simp [hy])) (by omega);obtain ⟨ys,e⟩:=dfs_prefix (kat L) n s out;refine ⟨fun y hy=>?_,i2⟩
   rcases List.mem_cons.1 hy with rfl | hy
   ·rw [e];exact List.mem_append_left _ hx
   ·exact i1 y hy
  ·rw [if_neg hx]
   obtain ⟨q,rfl⟩:=Int.eq_ofNat_of_zero_le x0
   have hw:=wt_add (K:=kat L) (len:=L.length) (out:=out) (i:=q) (by omega) hx
   obtain ⟨i1,i2⟩:=dfs_closed hR n (kat L (q:Int)++s) (out++[(q:Int)]) (fun y hy=>by
    rcases List.mem_append.1 hy with hy | hy
    ·exact kat_in hR _ _ hy
    ·exact hs y (by simp [hy])) (by rw [List.length_append];omega)
   obtain ⟨ys,e⟩:=dfs_prefix (kat L) n (kat L (q:Int)++s) (out++[(q:Int)]);refine ⟨fun y hy=>?_,fun y hy=>?_⟩
   ·rcases List.mem_cons.1 hy with rfl | hy
    ·rw [e];simp
    ·exact i1 y (by simp [hy])
   ·rcases i2 y hy with h3 | h3
    ·rcases List.mem_append.1 h3 with h3 | h3
     ·exact .inl h3
     ·simp at h3
      subst h3;exact .inr fun k hk=>i1 k (List.mem_append_left _ hk)
    ·exact .inr h3
theorem dfs_map {K K':Int->List Int} {D:Int->Prop} {f:Int->Int} (hK:∀ x,D x->K' (f x)=(K x).map f/\∀ k∈K x,D k) (hi:∀ x y,D x->D y->f x=f y->x=y) :
  ∀ (n:Nat) (s out:List Int),(∀ x∈s,D x)->(∀ x∈out,D x)->dfs K' n (s.map f) (out.map f)=(dfs K n s out).map f
 | 0,s,out,_,_=>by simp [dfs]
 | n+1,[],out,_,_=>by simp [dfs]
 | n+1,x::s,out,hs,ho=>by
  have hx:=hs x (by simp)
  rw [List.map_cons];unfold dfs
  have e:f x∈out.map f↔x∈out:=⟨fun h=>by
   obtain ⟨y,hy,he⟩:=List.mem_map.1 h;rw [<- hi y x (ho y hy) hx he];exact hy,fun h=>List.mem_map.2 ⟨x,h,rfl⟩⟩
  by_cases hm:x∈out
  ·rw [if_pos hm,if_pos (e.2 hm)]
   exact dfs_map hK hi n s out (fun y hy=>hs y (by simp [hy])) ho
  ·rw [if_neg hm,if_neg (fun h=>hm (e.1 h)),(hK x hx).1,<- List.map_append,show out.map f++[f x]=(out++[x]).map f by simp]
   refine dfs_map hK hi n _ _ (fun y hy=>?_) (fun y hy=>?_)
   ·rcases List.mem_append.1 hy with hy | hy
    ·exact (hK x hx).2 y hy
    ·exact hs y (by simp [hy])
   ·rcases List.mem_append.1 hy with hy | hy
    ·exact ho y hy
    ·simp at hy;subst hy;exact hx
theorem below_closed {L:List ANd} (hR:InL L) (hN:∀ n∈L,NB n) (hlen:L.length<=2001) {root:Int} (h0:0<=root) (h1:root<(L.length:Int)) :
  (∀ x∈belowL L root,∀ k∈kidsL (nodeAt L x),k∈belowL L root)/\∃ ys,belowL L root=root::ys:=by
 have hw:=wt_bound hN []
 obtain ⟨i1,i2⟩:=dfs_closed hR FU [root] [] (fun x hx=>by simp at hx;subst hx;exact ⟨h0,h1⟩) (by rw [FUv];simp only [List.length_cons,List.length_nil];omega);refine ⟨fun x hx k hk=>?_,?_⟩
 ·rw [<- kat_node] at hk
  rcases i2 x hx with h | h
  ·simp at h
  ·exact h k hk
 ·obtain ⟨m,hm⟩:∃ m,FU=m+1:=⟨18446744073709551615,by rw [FUv]⟩
  unfold belowL;rw [hm];unfold dfs;rw [if_neg (by simp)];obtain ⟨ys,e⟩:=dfs_prefix (kat L) m (kat L root++[]) ([]++[root]);exact ⟨ys,by rw [e];rfl⟩
theorem idxOf_map {f:Int->Int} {k:Int}:∀ B:List Int,(∀ x∈B,f x=f k->x=k)->(B.map f).idxOf (f k)=B.idxOf k
 | [],_=>rfl
 | x::B,h=>by
  rw [List.map_cons,List.idxOf_cons,List.idxOf_cons]
  by_cases e:x=k
  ·subst e;simp
  ·have e2:¬ f x=f k:=fun h2=>e (h x (by simp) h2)
   rw [show (f x == f k)=false by simp [e2],show (x == k)=false by simp [e],cF_,cF_,idxOf_map B (fun y hy=>h y (by simp [hy]))]
theorem emb_below {L M:List ANd} {root:Int} {f:Int->Int} (E:EmbL L M (belowL L root) f) (hr:root∈belowL L root):belowL M (f root)=(belowL L root).map f:=by
 have:=dfs_map (K:=kat L) (K':=kat M) (D:=fun x=>x∈belowL L root) (f:=f) (fun x hx=>⟨by rw [kat_node,kat_node,E.node x hx,kidsL_moved],fun k hk=>by rw [kat_node] at hk;exact E.closed x hx k hk⟩) (fun x y hx hy=>E.inj x hx y hy) FU [root] [] (fun x hx=>by simp at hx;subst hx;exact hr) (fun x hx=>by simp at hx)
 exact this
theorem emb_norm {L M:List ANd} {root:Int} {f:Int->Int} (hA:AllRight L) (E:EmbL L M (belowL L root) f) (hr:root∈belowL L root):normL M (f root)=normL L root:=by
 unfold normL;rw [emb_below E hr,List.map_map];refine List.map_congr_left fun x hx=>?_;obtain ⟨x0,x1⟩:=E.inn x hx
 show movedN _ (nodeAt M (f x))=_
 rw [E.node x hx,movedN_moved];refine movedN_congr (hA _ (nodeAt_get x0 x1).2) fun k hk=>?_
 have hkB:=E.closed x hx k hk
 show posOf ((belowL L root).map f) (f k)=posOf (belowL L root) k
 unfold posOf;rw [if_pos hkB,if_pos (List.mem_map.2 ⟨k,hkB,rfl⟩),idxOf_map _ (fun y hy e=>E.inj y hy k hkB e)]
theorem emb_ends {L M:List ANd} {B:List Int} {f:Int->Int} (E:EmbL L M B f):∀ (k:Nat) (x:Int),x∈B->endk M k (f x).toNat=endk L k x.toNat
 | 0,_,_=>rfl
 | k+1,x,hx=>by
  obtain ⟨x0,x1⟩:=E.inn x hx;obtain ⟨y0,y1⟩:=E.out x hx;unfold endk;rw [nodeAt_some x0 x1,nodeAt_some y0 y1,E.node x hx]
  show (!latB (nodeAt L x).kind||(endk M k (movedN f (nodeAt L x)).a.toNat&&endk M k (movedN f (nodeAt L x)).b.toNat))=(!latB (nodeAt L x).kind||(endk L k (nodeAt L x).a.toNat&&endk L k (nodeAt L x).b.toNat))
  cases hl:latB (nodeAt L x).kind with
  | false=>rfl
  | true =>
   have hk:=lat_kids hl
   have hc:=E.closed x hx
   rw [hk] at hc
   have hp:pB (nodeAt L x).kind=true:=by
    unfold latB at hl;unfold pB
    rw [Bool.or_eq_true,decide_eq_true_eq,decide_eq_true_eq] at hl
    rcases hl with h | h <;> rw [h] <;> rfl
   have ha:(movedN f (nodeAt L x)).a=f (nodeAt L x).a:=by unfold movedN;rw [hp];rfl
   have hb:(movedN f (nodeAt L x)).b=f (nodeAt L x).b:=by unfold movedN;rw [hp];rfl
   rw [ha,hb,emb_ends E k _ (hc _ (by simp)),emb_ends E k _ (hc _ (by simp))]
theorem posOf_in {B:List Int} {k:Int} (h:k∈B):0<=posOf B k/\posOf B k<(B.length:Int):=by
 unfold posOf;rw [if_pos h]
 have:=List.idxOf_lt_length_of_mem h
 omega
theorem posOf_get {B:List Int} {k:Int} (h:k∈B):B[(posOf B k).toNat]? = some k:=by
 unfold posOf;rw [if_pos h,Int.toNat_natCast]
 have hlt:=List.idxOf_lt_length_of_mem h
 rw [List.getElem?_eq_getElem hlt,List.getElem_idxOf hlt]
theorem posOf_inj {B:List Int} {x y:Int} (hx:x∈B) (hy:y∈B) (h:posOf B x=posOf B y):x=y:=by
 have h1:=posOf_get hx
 have h2:=posOf_get hy
 rw [h,h2] at h1;exact (Option.some.inj h1).symm
theorem normL_at {L:List ANd} {root x:Int} (hx:x∈belowL L root):(normL L root)[(posOf (belowL L root) x).toNat]? = some (movedN (posOf (belowL L root)) (nodeAt L x)):=by
 unfold normL;rw [List.getElem?_map,posOf_get hx];rfl
theorem normL_len (L:List ANd) (root:Int):(normL L root).length=(belowL L root).length:=by unfold normL;rw [List.length_map]
theorem embL_left {L:List ANd} {root:Int} (hR:InL L) (hN:∀ n∈L,NB n) (hlen:L.length<=2001) (h0:0<=root) (h1:root<(L.length:Int)) (X:List ANd) :
  EmbL L (normL L root++X) (belowL L root) (posOf (belowL L root)):=by
 obtain ⟨b1,b2,b3⟩:=belowL_props hR h0 h1;refine ⟨b1,(below_closed hR hN hlen h0 h1).1,fun x hx y hy=>posOf_inj hx hy,fun x hx=>?_,fun x hx=>?_⟩
 ·have:=posOf_in hx
  rw [List.length_append,normL_len];omega
 ·have h2:=normL_at hx
  have h3:=getLt h2
  unfold nodeAt;rw [List.getElem?_append_left h3,h2]
  rfl
theorem mayT_of {L:List ANd} {r:Int} (h1:0<L.length) (h2:L.length<=2000) (h3:0<=r) (h4:r<(L.length:Int)) (h5:AllRight L) (h6:AllEnds L):mayT L r=0:=by
 unfold mayT;rw [if_neg (by omega),if_neg (by omega),if_pos ⟨h5,h6⟩]
theorem normL_right {L:List ANd} {root:Int} (hA:AllRight L) (hN:∀ n∈L,NB n) (hlen:L.length<=2001) (h0:0<=root) (h1:root<(L.length:Int)) (f:Int->Int) (all:Int) (hf:∀ k,0<=k->k<((normL L root).length:Int)->0<=f k/\f k<all) :
  ∀ n∈normL L root,rightB (movedN f n) all=true:=by
 obtain ⟨b1,b2,b3⟩:=belowL_props (allRight_in hA) h0 h1
 intro n hn
 unfold normL at hn;obtain ⟨x,hx,rfl⟩:=List.mem_map.1 hn;obtain ⟨x0,x1⟩:=b1 x hx;rw [movedN_moved];refine moved_right (hA _ (nodeAt_get x0 x1).2) fun k hk=>?_
 have hp:=posOf_in ((below_closed (allRight_in hA) hN hlen h0 h1).1 x hx k hk)
 rw [<- normL_len] at hp;exact hf _ hp.1 hp.2
theorem movedN_idL (n:ANd):movedN (fun k=>k) n=n:=by
 unfold movedN
 cases pB n.kind <;> simp
theorem ends_all {L M:List ANd} {root:Int} {f:Int->Int} (hE:AllEnds L) (E:EmbL L M (belowL L root) f) {x:Int} (hx:x∈belowL L root):Ends M (f x).toNat:=by
 obtain ⟨x0,x1⟩:=E.inn x hx;obtain ⟨k,hk⟩:=hE x.toNat (by omega);exact ⟨k,by rw [emb_ends E k x hx];exact hk⟩
theorem alone_ok {L:List ANd} {r:Int} (hl:mayT L r=0) (hN:∀ n∈L,NB n) (hlen:L.length<=2000):mayT (normL L r) 0=0/\normL (normL L r) 0=normL L r:=by
 obtain ⟨_,l2,l3,l4,lA,lE⟩:=mayT_ok hl;obtain ⟨_,ys,ey⟩:=below_closed (allRight_in lA) hN (by omega) l3 l4
 have hr:r∈belowL L r:=by rw [ey];simp
 have pr:posOf (belowL L r) r=0:=by unfold posOf;rw [if_pos hr,ey];simp
 have El:=embL_left (allRight_in lA) hN (by omega) l3 l4 []
 rw [List.append_nil] at El;obtain ⟨_,n2⟩:=normL_nb (allRight_in lA) hN l3 l4
 have hl0:0<(normL L r).length:=by rw [normL_len,ey];simp
 refine ⟨?_,?_⟩
 ·refine mayT_of hl0 (by omega) (by omega) (by omega) ?_ ?_
  ·intro n hn
   have:=normL_right lA hN (by omega) l3 l4 (fun k=>k) ((normL L r).length:Int) (fun k k0 k1=>⟨k0,k1⟩) n hn
   rwa [movedN_idL] at this
  ·intro i hi
   have hb:i<(belowL L r).length:=by rw [<- normL_len];exact hi
   have hx:(belowL L r)[i]? = some ((belowL L r)[i]):=List.getElem?_eq_getElem hb
   have hm2:=List.mem_of_getElem? hx
   have h3:=ends_all lE El hm2
   have h4:posOf (belowL L r) ((belowL L r)[i])=(i:Int):=by
    unfold posOf;rw [if_pos hm2,idxOf_get (belowL_props (allRight_in lA) l3 l4).2.1 hx]
   rw [h4,Int.toNat_natCast] at h3;exact h3
 ·have:=emb_norm lA El hr
  rwa [pr] at this
end Go.Proofs.YtkfnogdccpcmhaaGreatDoor
namespace Go.Proofs.YtkfnogdccpcmhaaGreatDoor
open Go.V Tryz
open Classical
theorem nodeAt_nd {t:ATy} {x:Int} (h:In t x):nodeAt t.l x=nd t x:=by
 unfold nodeAt;rw [nd_get h]
noncomputable def normG (t:ATy):ATy:=⟨normL t.l t.root,0⟩
noncomputable def upN (t:ATy) (k:Int):Int:=(belowL t.l t.root)[k.toNat]?.getD 0
theorem up_pos {t:ATy} {k:Int} (h:k∈belowL t.l t.root):upN t (posOf (belowL t.l t.root) k)=k:=by
 unfold upN;rw [posOf_get h];rfl
theorem norm_may {t:ATy} (h:MayO t) (hl:t.l.length<=2000):MayO (normG t):=by
 obtain ⟨_,l2,l3,l4,lA,lE⟩:=mayT_ok h.may;exact ⟨(alone_ok h.may h.nb hl).1,(normL_nb (allRight_in lA) h.nb l3 l4).1⟩
theorem norm_len {t:ATy} (h:MayO t):(normG t).l.length<=t.l.length:=by
 obtain ⟨_,l2,l3,l4,lA,lE⟩:=mayT_ok h.may;exact (normL_nb (allRight_in lA) h.nb l3 l4).2
theorem norm_emb {t:ATy} (h:MayO t) (hl:t.l.length<=2000):Emb (normG t) t (upN t):=by
 obtain ⟨_,l2,l3,l4,lA,lE⟩:=mayT_ok h.may;obtain ⟨b1,b2,b3⟩:=belowL_props (allRight_in lA) l3 l4;obtain ⟨c1,_⟩:=below_closed (allRight_in lA) h.nb (by omega) l3 l4;refine ⟨fun i hi=>?_⟩
 have hi1:i.toNat<(belowL t.l t.root).length:=by
  have h1:=hi.1;have h2:=hi.2
  unfold normG at h2;rw [normL_len] at h2
  omega
 have hx:(belowL t.l t.root)[i.toNat]? = some ((belowL t.l t.root)[i.toNat]):=List.getElem?_eq_getElem hi1
 generalize (belowL t.l t.root)[i.toNat]=x at hx
 have hxm:=List.mem_of_getElem? hx
 have hxi:In t x:=b1 x hxm
 have e1:upN t i=x:=by unfold upN;rw [hx];rfl
 have e2:nd (normG t) i=movedN (posOf (belowL t.l t.root)) (nd t x):=by
  unfold nd normG normL;simp only [List.getElem?_map,hx,Option.map_some,Option.getD_some];rw [nodeAt_nd hxi];rfl
 rw [e1,e2,movedN_moved]
 have hr:=lA _ (nd_mem hxi)
 rw [movedN_congr (g:=fun k=>k) hr (fun k hk=>by
  have:=c1 x hxm k (by rw [nodeAt_nd hxi];exact hk)
  exact up_pos this),movedN_idL]
theorem up_root {t:ATy} (h:MayO t) (hl:t.l.length<=2000):upN t 0=t.root:=by
 obtain ⟨_,l2,l3,l4,lA,lE⟩:=mayT_ok h.may;obtain ⟨_,ys,ey⟩:=below_closed (allRight_in lA) h.nb (by omega) l3 l4;unfold upN;rw [ey];rfl
theorem norm_sat {t:ATy} (h:MayO t) (hl:t.l.length<=2000) (p:Pt):Sat (normG t) p (normG t).root↔Sat t p t.root:=by
 have:=sat_emb (norm_may h hl).ok (norm_emb h hl) p (normG t).root (norm_may h hl).root
 show Sat (normG t) p 0↔_
 rw [<- up_root h hl];exact this.symm
theorem norm_subL {t:ATy} (h:MayO t) (hl:t.l.length<=2000):Sub (normG t) t:=fun p hp=>(norm_sat h hl p).1 hp
theorem norm_subR {t:ATy} (h:MayO t) (hl:t.l.length<=2000):Sub t (normG t):=fun p hp=>(norm_sat h hl p).2 hp
theorem Norm_is {t:ATy} (h:MayO t) (hl:t.l.length<=2000):m_graph_Norm t=some (normG t,0):=Norm_ok (by omega) h.nb h.may
end Go.Proofs.YtkfnogdccpcmhaaGreatDoor
namespace Go.Proofs.YtkfnogdccpcmhaaGreatDoor
open Go.V Tryz
open Classical
theorem few16_eq (l:List ATy):m_lo_few l 3=some ((l.take 3).map (fewT 7)):=by
 unfold m_lo_few
 have hL:(l.take 3).length<=3/\(l.take 3).length<=l.length:=by rw [List.length_take];omega
 rw [loop_map (φ:=fun n i s=>m_lo_few_l1 l 3 n (i,s)) (l:=l.take 3) (fewT 7) id 0 ?_ ?_ (by rw [FUv];omega) [] rfl]
 ·rfl
 ·intro n i x s hx hi hs
  have hx2:l[i]? = some x:=by
   rw [List.getElem?_take,if_pos (by omega)] at hx;exact hx
  simp only [m_lo_few_l1];rw [dT (show (i:Int)<l.length by omega),dT (show (i:Int)<3 by omega),Bool.and_true,cT,getI hx2,oB,few_eq x 7 7 rfl (by omega),oB,grd_pos (by simp only [List.length_cons,List.length_nil];omega),grd_pos (by constructor <;> omega)]
 ·intro n s hs
  simp only [m_lo_few_l1];rw [show (decide (((l.take 3).length:Int)<l.length)&&decide (((l.take 3).length:Int)<3))=false by
   rw [List.length_take,Bool.and_eq_false_iff,decide_eq_false_iff_not,decide_eq_false_iff_not];omega,cF_]
  rfl
noncomputable def errL:List ATy->Int
 | []=>0
 | t::r=>if mayT t.l t.root=0 then errL r else mayT t.l t.root
theorem errL_ok {l:List ATy} (h:errL l=0):∀ t∈l,mayT t.l t.root=0:=by
 induction l with
 | nil=>intro t ht;cases ht
 | cons a r ih =>
  unfold errL at h
  split at h
  ·rename_i h0
   intro t ht
   rcases List.mem_cons.1 ht with rfl | ht
   ·exact h0
   ·exact ih h t ht
  ·contradiction
theorem errL_drop {l:List ATy} {i:Nat} {x:ATy} (hx:l[i]? = some x):errL (l.drop i)=if mayT x.l x.root=0 then errL (l.drop (i+1)) else mayT x.l x.root:=by
 have hi:=(List.getElem?_eq_some_iff.1 hx)
 obtain ⟨h1,h2⟩:=hi;rw [List.drop_eq_getElem_cons h1,h2]
 rfl
theorem may16_eq (l:List ATy) (hl:l.length<=1000) (hlen:∀ t∈l,t.l.length<=2001) (hN:∀ t∈l,∀ n∈t.l,NB n):m_bound_may l=some (errL l):=by
 unfold m_bound_may;obtain ⟨o,e1,e2⟩:=loop_rng (φ:=fun n i (_:Unit)=>m_bound_may_l1 l n i) (l:=l) (fun i _=>errL l=errL (l.drop i)) (fun o=>o=if errL l=0 then Out.go () else Out.ret (errL l)) (by
  intro n i x s hx hi h
  simp only [m_bound_may_l1]
  have hm:=List.mem_of_getElem? hx
  rw [errL_drop hx] at h;rw [dT (show (i:Int)<l.length by omega),cT,getI hx,oB]
  change (∃ s',((m_graph_May x).bind _)=_/\_)\/(∃ o,((m_graph_May x).bind _)=_/\_)
  rw [may_eq x (hlen x hm) (hN x hm),oB]
  by_cases h0:mayT x.l x.root=0
  ·rw [if_pos h0] at h
   left
   rw [dT h0,Bool.not_true,cF_,grd_pos (by constructor <;> omega)];exact ⟨(),rfl,h⟩
  ·rw [if_neg h0] at h
   right
   rw [dF h0,Bool.not_false,cT];exact ⟨_,rfl,by rw [if_neg (by rw [h];exact h0),h]⟩) (by
  intro n s h
  simp only [m_bound_may_l1];rw [List.drop_length] at h;rw [dF (by omega),cF_];exact ⟨_,rfl,by rw [if_pos (by rw [h];rfl)]⟩) (by rw [FUv];omega) () rfl
 rw [e1,e2,oB]
 by_cases h0:errL l=0
 ·rw [if_pos h0,h0];rfl
 ·rw [if_neg h0];rfl
theorem fault16_eq (l:List ATy) (hl:l.length<=1000) (hlen:∀ t∈l,t.l.length<=2001) (hN:∀ t∈l,∀ n∈t.l,NB n):m_lo_fault l=some (errL l):=by
 unfold m_lo_fault;obtain ⟨o,e1,e2⟩:=loop_rng (φ:=fun n i (_:Unit)=>m_lo_fault_l1 l n i) (l:=l) (fun i _=>errL l=errL (l.drop i)) (fun o=>o=if errL l=0 then Out.go () else Out.ret (errL l)) (by
  intro n i x s hx hi h
  simp only [m_lo_fault_l1]
  have hm:=List.mem_of_getElem? hx
  rw [errL_drop hx] at h;rw [dT (show (i:Int)<l.length by omega),cT,getI hx,oB,rmay_eq x (hlen x hm) (hN x hm),oB]
  by_cases h0:mayT x.l x.root=0
  ·rw [if_pos h0] at h
   left
   rw [dT h0,Bool.not_true,cF_,grd_pos (by constructor <;> omega)];exact ⟨(),rfl,h⟩
  ·rw [if_neg h0] at h
   right
   rw [dF h0,Bool.not_false,cT];exact ⟨_,rfl,by rw [if_neg (by rw [h];exact h0),h]⟩) (by
  intro n s h
  simp only [m_lo_fault_l1];rw [List.drop_length] at h;rw [dF (by omega),cF_];exact ⟨_,rfl,by rw [if_pos (by rw [h];rfl)]⟩) (by rw [FUv];omega) () rfl
 rw [e1,e2,oB]
 by_cases h0:errL l=0
 ·rw [if_pos h0,h0];rfl
 ·rw [if_neg h0];rfl
end Go.Proofs.YtkfnogdccpcmhaaGreatDoor
namespace Go.Proofs.YtkfnogdccpcmhaaGreatDoor
open Go.V Tryz
open Classical
theorem graftO_eq (a b:ATy) (ha:a.l.length<=4001) (hb:b.l.length<=2001) (hN:∀ n∈b.l,NB n) (hR:AllRight b.l):m_graph_GraftO a b=some ((a.l.length:Int),graftT a b):=by
 unfold m_graph_GraftO;rw [grd_pos (by omega)];rw [loop_map (φ:=fun n i s=>m_graph_GraftO_l1 a b n (i,a.root,s)) (l:=b.l) (movedN (fun k=>k+(a.l.length:Int))) (fun s=>(a.root,s)) a.l.length ?_ ?_ (by rw [FUv];omega) a.l rfl]
 ·rfl
 ·intro n i x s hx hi hs
  have hr:=right_kids (hR x (List.mem_of_getElem? hx))
  simp only [m_graph_GraftO_l1];rw [dT (show (i:Int)<b.l.length by omega),cT,getI hx,oB,show (⟨x.kind,x.a,x.b,x.l⟩:ANd)=x from rfl,moved_eq x _ (fun k=>k+(a.l.length:Int)) (hN x (List.mem_of_getElem? hx)) (fun hp=>by
   obtain ⟨⟨a0,a1⟩,b0,b1⟩:=hr.1 hp;unfold m_graph_Graft_1;rw [grd_pos (by omega),grd_pos (by omega)];exact ⟨rfl,rfl⟩) (fun y hy=>by
   obtain ⟨y0,y1⟩:=hr.2 y hy;unfold m_graph_Graft_1;rw [grd_pos (by omega)]),oB,grd_pos (by simp only [List.length_cons,List.length_nil];omega),grd_pos (by omega)]
 ·intro n s hs
  simp only [m_graph_GraftO_l1];rw [dF (by omega),cF_]
noncomputable def overS (s:List ANd×List Int) (x:ATy):List ANd×List Int:=(s.1++x.l.map (movedN (fun k=>k+(s.1.length:Int))),s.2++[x.root+(s.1.length:Int)])
noncomputable def overL (l:List ATy):List ANd×List Int:=l.foldl overS ([],[])
theorem overL_step {l:List ATy} {i:Nat} {x:ATy} (hx:l[i]? = some x):overL (l.take (i+1))=overS (overL (l.take i)) x:=by
 obtain ⟨h1,h2⟩:=List.getElem?_eq_some_iff.1 hx;unfold overL;rw [List.take_succ_eq_append_getElem h1,List.foldl_append,h2]
 rfl
theorem over_l {l:List ATy} (hl:l.length<=10) (hM:∀ x∈l,MayO x/\x.l.length<=100):m_bound_over_l1 l FU (0,[],[],0)=some ((overL l).2,(overL l).1,0)/\(overL l).1.length<=l.length*100/\(overL l).2.length=l.length:=by
 obtain ⟨o,e1,e2⟩:=loop_rng (φ:=fun n i (s:List Int×List ANd×Int)=>m_bound_over_l1 l n (i,s)) (l:=l) (fun i s=>s=((overL (l.take i)).2,(overL (l.take i)).1,0)/\(overL (l.take i)).1.length<=i*100/\(overL (l.take i)).2.length=i) (fun o=>o=((overL l).2,(overL l).1,0)/\(overL l).1.length<=l.length*100/\(overL l).2.length=l.length) (by
  rintro n i x s hx hi ⟨rfl,h1,h2⟩
  left
  obtain ⟨hx1,hx2⟩:=hM x (List.mem_of_getElem? hx)
  have hr:=hx1.root
  have r0:=hr.1;have r1:=hr.2
  simp only [m_bound_over_l1];rw [dT (show (i:Int)<l.length by omega),cT,getI hx,oB]
  change ∃ s',((m_graph_GraftO (⟨(overL (l.take i)).1,0⟩:ATy) x).bind _)=_/\_
  rw [graftO_eq _ x (by simp only;omega) (by omega) hx1.nb hx1.ok.right,oB]
  dsimp only
  rw [grd_pos (by constructor <;> omega),grd_pos (by simp only [List.length_cons,List.length_nil];omega),grd_pos (by constructor <;> omega)];refine ⟨_,rfl,?_,?_,?_⟩
  ·rw [overL_step hx];rfl
  ·rw [overL_step hx]
   unfold overS;simp only [List.length_append,List.length_map]
   omega
  ·rw [overL_step hx]
   unfold overS;simp only [List.length_append,List.length_cons,List.length_nil]
   omega) (by
  rintro n s ⟨rfl,h1,h2⟩;simp only [m_bound_over_l1];rw [dF (by omega),cF_];rw [List.take_length] at h1 h2 ⊢;exact ⟨_,rfl,rfl,h1,h2⟩) (by rw [FUv];omega) ([],[],0) (by simp [overL])
 obtain ⟨rfl,h1,h2⟩:=e2;exact ⟨e1,h1,h2⟩
theorem over_eq {N:List Int->Option ANd} {l:List ATy} {x:ANd} (hl:l.length<=10) (hM:∀ x∈l,MayO x/\x.l.length<=100) (hn:N (overL l).2=some x):m_bound_over N l=some ⟨(overL l).1++[x],((overL l).1.length:Int)⟩:=by
 obtain ⟨e,h1,h2⟩:=over_l hl hM;unfold m_bound_over;rw [e,oB]
 dsimp only
 rw [hn,oB,grd_pos (by simp only [List.length_cons,List.length_nil];omega),grd_pos (by rw [List.length_append];simp only [List.length_cons,List.length_nil];constructor <;> omega)]
 congr 2
 rw [List.length_append];simp only [List.length_cons,List.length_nil]
 omega
theorem overL_two (a b:ATy):overL [a,b]=((graftT a b).l,[a.root,b.root+(a.l.length:Int)]):=by
 have e:a.l.map (movedN fun k=>k)=a.l:=by
  have h:a.l.map (movedN fun k=>k)=a.l.map id:=List.map_congr_left fun n _=>movedN_idL n
  rw [h,List.map_id]
 unfold overL overS graftT;simp only [List.foldl_cons,List.foldl_nil,List.nil_append,List.length_nil,List.length_map,Int.natCast_zero,Int.add_zero,List.cons_append,e]
theorem pair_over {k:Int} {a b:ATy} (ha:MayO a) (hb:MayO b) (la:a.l.length<=100) (lb:b.l.length<=100):m_bound_over (fun y0=>m_bound_pair_1 y0 k) [a,b]=some (withT k a b):=by
 have h:=over_eq (N:=fun y0=>m_bound_pair_1 y0 k) (l:=[a,b]) (x:=⟨k,a.root,b.root+(a.l.length:Int),[]⟩) (by simp) (fun x hx=>by
  rcases List.mem_cons.1 hx with rfl | hx
  ·exact ⟨ha,la⟩
  ·rw [List.mem_singleton.1 hx];exact ⟨hb,lb⟩) (by
  rw [overL_two]
  rfl)
 rw [h,overL_two]
 rfl
theorem Over_eq {k:Int} {a b:ATy} (ha:MayO a) (hb:MayO b) (hl:a.l.length+b.l.length<=200):m_ro_Over k a b=some (withT k a b):=by
 have hrb:=hb.root
 have h3:=hrb.1;have h4:=hrb.2
 unfold m_ro_Over;rw [rgraftO_eq a b (by omega) (by omega) hb.nb hb.ok.right,oB]
 simp only
 rw [grd_pos (by constructor <;> omega),grd_pos (by rw [graft_len];simp only [List.length_cons,List.length_nil];omega),grd_pos (by rw [List.length_append,graft_len];simp only [List.length_cons,List.length_nil];constructor <;> omega)]
 congr 1
 unfold withT
 congr 1
 rw [List.length_append];simp only [List.length_cons,List.length_nil];omega
end Go.Proofs.YtkfnogdccpcmhaaGreatDoor
namespace Go.Proofs.YtkfnogdccpcmhaaGreatDoor
open Go.V Tryz
open Classical
noncomputable def foldW (k:Int) (a:ATy) (r:List ATy):ATy:=r.foldl (withT k) a
theorem foldW_step {k:Int} {a:ATy} {r:List ATy} {i:Nat} {x:ATy} (hx:r[i]? = some x):foldW k a (r.take (i+1))=withT k (foldW k a (r.take i)) x:=by
 unfold foldW;rw [takeS hx,List.foldl_append];rfl
def FewO (a:ATy):Prop:=MayO a/\a.l.length<=7
theorem fold_next {k:Int} (hk:k=9\/k=10) {t x:ATy} {i:Nat} (hi:i<3) (h:MayO t/\t.l.length<=7+8*i) (hx:FewO x):MayO (withT k t x)/\(withT k t x).l.length<=7+8*(i+1):=by
 have h1:=h.2;have h2:=hx.2
 exact ⟨with_may hk h.1 hx.1 (by omega),by rw [with_len];omega⟩
theorem all_l {k:Int} (hk:k=9\/k=10) {a:ATy} {r:List ATy} (ha:FewO a) (hr:∀ x∈r,FewO x) (hl:r.length<=2):m_bound_all_l1 k r FU (0,a.l,a.root)=some ((foldW k a r).l,(foldW k a r).root)/\MayO (foldW k a r)/\(foldW k a r).l.length<=7+8*r.length:=by
 obtain ⟨o,e1,e2⟩:=loop_rng (φ:=fun n i (s:List ANd×Int)=>m_bound_all_l1 k r n (i,s)) (l:=r) (fun i s=>s=((foldW k a (r.take i)).l,(foldW k a (r.take i)).root)/\MayO (foldW k a (r.take i))/\(foldW k a (r.take i)).l.length<=7+8*i) (fun o=>o=((foldW k a r).l,(foldW k a r).root)/\MayO (foldW k a r)/\(foldW k a r).l.length<=7+8*r.length) (by
  rintro n i x s hx hi ⟨rfl,h1,h2⟩
  left
  have hx1:=hr x (List.mem_of_getElem? hx)
  have hx2:=hx1.2
  simp only [m_bound_all_l1];rw [dT (show (i:Int)<r.length by omega),cT,getI hx,oB]
  change ∃ s',((m_bound_over (fun y0=>m_bound_pair_1 y0 k) [foldW k a (r.take i),x]).bind _)=_/\_
  rw [pair_over h1 hx1.1 (by omega) (by omega),oB,grd_pos (by constructor <;> omega)];refine ⟨_,rfl,?_⟩;rw [foldW_step hx];exact ⟨rfl,fold_next hk (by omega) ⟨h1,h2⟩ hx1⟩) (by
  rintro n s ⟨rfl,h1,h2⟩;simp only [m_bound_all_l1];rw [List.take_length] at h1 h2 ⊢;rw [dF (by omega),cF_];exact ⟨_,rfl,rfl,h1,h2⟩) (by rw [FUv];omega) (a.l,a.root) (by
  refine ⟨rfl,ha.1,?_⟩
  have:=ha.2
  show a.l.length<=_
  omega)
 obtain ⟨rfl,h1⟩:=e2;exact ⟨e1,h1⟩
theorem All_l {k:Int} (hk:k=9\/k=10) {a:ATy} {r:List ATy} (ha:FewO a) (hr:∀ x∈r,FewO x) (hl:r.length<=2):m_ro_All_l1 k (a::r) FU (1,a.l,a.root)=some ((foldW k a r).l,(foldW k a r).root):=by
 obtain ⟨o,e1,e2⟩:=loop_rng (φ:=fun n i (s:List ANd×Int)=>m_ro_All_l1 k (a::r) n (i+1,s)) (l:=r) (fun i s=>s=((foldW k a (r.take i)).l,(foldW k a (r.take i)).root)/\MayO (foldW k a (r.take i))/\(foldW k a (r.take i)).l.length<=7+8*i) (fun o=>o=((foldW k a r).l,(foldW k a r).root)) (by
  rintro n i x s hx hi ⟨rfl,h1,h2⟩
  left
  have hx1:=hr x (List.mem_of_getElem? hx)
  have hx2:=hx1.2
  have hx3:(a::r)[i+1]? = some x:=by rw [List.getElem?_cons_succ];exact hx
  simp only [m_ro_All_l1];rw [dT (show (i:Int)+1<((a::r).length:Int) by rw [List.length_cons];omega),cT,show (i:Int)+1=((i+1:Nat):Int) by omega,getI hx3,oB]
  change ∃ s',((m_ro_Over k (foldW k a (r.take i)) x).bind _)=_/\_
  rw [Over_eq h1 hx1.1 (by omega),oB,grd_pos (by constructor <;> omega)];refine ⟨_,rfl,?_⟩;rw [foldW_step hx];exact ⟨rfl,fold_next hk (by omega) ⟨h1,h2⟩ hx1⟩) (by
  rintro n s ⟨rfl,h1,h2⟩;simp only [m_ro_All_l1];rw [List.take_length] at h1 h2 ⊢;rw [dF (by rw [List.length_cons];omega),cF_];exact ⟨_,rfl,rfl⟩) (by rw [FUv];omega) (a.l,a.root) (by
  refine ⟨rfl,ha.1,?_⟩
  have:=ha.2
  show a.l.length<=_
  omega)
 subst e2;exact e1
theorem errL_zero {l:List ATy} (h:∀ t∈l,mayT t.l t.root=0):errL l=0:=by
 induction l with
 | nil=>rfl
 | cons a r ih =>
  unfold errL;rw [if_pos (h a (by simp))];exact ih fun t ht=>h t (by simp [ht])
theorem all_eq {k nn:Int} (hk:k=9\/k=10) {a:ATy} {r:List ATy} (ha:FewO a) (hr:∀ x∈r,FewO x) (hl:r.length<=2):m_bound_all k nn (a::r)=some (normG (foldW k a r),0):=by
 obtain ⟨e,h1,h2⟩:=all_l hk ha hr hl
 have hm:∀ x∈a::r,FewO x:=fun x hx=>by
  rcases List.mem_cons.1 hx with rfl | hx
  ·exact ha
  ·exact hr x hx
 unfold m_bound_all;rw [may16_eq (a::r) (by rw [List.length_cons];omega) (fun t ht=>by have:=(hm t ht).2;omega) (fun t ht=>(hm t ht).1.nb),oB,errL_zero fun t ht=>(hm t ht).1.may];rw [dT rfl,Bool.not_true,cF_,dF (by rw [List.length_cons];omega),cF_,show (0:Int)=((0:Nat):Int) from rfl,getI (l:=a::r) (i:=0) rfl,oB]
 have hs:sli (a::r) 1 ((a::r).length:Int)=some r:=by
  unfold sli;rw [if_pos (by rw [List.length_cons];omega)]
  simp
 rw [hs,oB]
 change ((m_bound_all_l1 k r FU (0,a.l,a.root)).bind _)=_
 rw [e,oB]
 dsimp only
 unfold m_bound_made
 change (((m_graph_Norm (foldW k a r)).bind _).bind _)=_
 rw [Norm_is h1 (by omega),oB,oB]
 rfl
theorem All_eq {k nn:Int} (hk:k=9\/k=10) {a:ATy} {r:List ATy} (ha:FewO a) (hr:∀ x∈r,FewO x) (hl:r.length<=2):m_ro_All k nn (a::r)=some (foldW k a r):=by
 unfold m_ro_All;rw [dF (by rw [List.length_cons];omega),cF_,show (0:Int)=((0:Nat):Int) from rfl,getI (l:=a::r) (i:=0) rfl,oB,All_l hk ha hr hl,oB]
end Go.Proofs.YtkfnogdccpcmhaaGreatDoor
namespace Go.Proofs.YtkfnogdccpcmhaaGreatDoor
open Go.V Tryz
open Classical
theorem field_eqv (x y:AFd):AFd.eqv x y=decide (x=y):=by
 obtain ⟨n,a⟩:=x;obtain ⟨m,b⟩:=y;unfold AFd.eqv
 by_cases h1:n=m <;> by_cases h2:a=b <;> simp [h1,h2]
theorem sameF_eq (x y:ANd) (h:x.l.length=y.l.length) (hN:NB x):m_rg_SameList_l2 x y FU 0=some (if x.l=y.l then .go () else .ret false):=by
 unfold NB at hN;refine loop_same (φ:=m_rg_SameList_l2 x y) (l:=x.l) (m:=y.l) false h ?_ ?_ (by rw [FUv];omega)
 ·intro n i a b ha hb hi
  simp only [m_rg_SameList_l2];rw [dT (show (i:Int)<x.l.length by omega),cT,getI ha,oB,getI hb,oB,field_eqv]
  constructor
  ·intro e;rw [dT e,Bool.not_true,cF_,grd_pos (by omega)]
  ·intro e;rw [dF e,Bool.not_false,cT]
 ·intro n
  simp only [m_rg_SameList_l2];rw [dF (by omega),cF_]
theorem sameList_eq (a b:ATy) (hl:a.l.length<=10000) (hN:∀ n∈a.l,NB n):m_rg_SameList a b=some (decide (a.l=b.l/\a.root=b.root)):=by
 unfold m_rg_SameList
 by_cases h1:a.l.length=b.l.length/\a.root=b.root
 ·rw [dT (show (a.l.length:Int)=b.l.length by omega),dT h1.2,Bool.not_true,Bool.or_false,cF_]
  rw [loop_same (φ:=m_rg_SameList_l1 a b) (l:=a.l) (m:=b.l) false h1.1 ?_ ?_ (by rw [FUv];omega),oB]
  ·by_cases h2:a.l=b.l
   ·rw [if_pos h2,dT ⟨h2,h1.2⟩];rfl
   ·rw [if_neg h2,dF (fun h=>h2 h.1)];rfl
  ·intro n i x y hx hy hi
   simp only [m_rg_SameList_l1];rw [dT (show (i:Int)<a.l.length by omega),cT,getI hx,oB,getI hy,oB]
   by_cases h4:x.kind=y.kind/\x.a=y.a/\x.b=y.b/\x.l.length=y.l.length
   ·obtain ⟨e1,e2,e3,e4⟩:=h4
    rw [dT e1,dT e2,dT e3,dT (show (x.l.length:Int)=y.l.length by omega),Bool.not_true,Bool.or_false,Bool.or_false,Bool.or_false,cF_,sameF_eq x y e4 (hN x (List.mem_of_getElem? hx)),oB]
    constructor
    ·intro e;rw [if_pos (by rw [e]),go_on,grd_pos (by omega)]
    ·intro e;rw [if_neg (fun h=>e (node_ext.2 ⟨e1,e2,e3,h⟩))];rfl
   ·rw [show (((!decide (x.kind=y.kind))||(!decide (x.a=y.a)))||(!decide (x.b=y.b))||(!decide ((x.l.length:Int)=(y.l.length:Int))))=true by
     simp only [Bool.or_eq_true,Bool.not_eq_true',decide_eq_false_iff_not];refine Classical.byContradiction fun h=>h4 ?_;simp only [not_or,Classical.not_not] at h;obtain ⟨⟨⟨h5,h6⟩,h7⟩,h8⟩:=h;exact ⟨h5,h6,h7,by omega⟩,cT]
    exact ⟨fun e=>absurd (by subst e;exact ⟨rfl,rfl,rfl,rfl⟩) h4,fun _=>rfl⟩
  ·intro n
   simp only [m_rg_SameList_l1];rw [dF (by omega),cF_]
 ·rw [show ((!decide ((a.l.length:Int)=(b.l.length:Int)))||(!decide (a.root=b.root)))=true by
   simp only [Bool.or_eq_true,Bool.not_eq_true',decide_eq_false_iff_not];refine Classical.byContradiction fun h=>h1 ?_;simp only [not_or,Classical.not_not] at h;exact ⟨by omega,h.2⟩,cT,dF (fun h=>h1 ⟨by rw [h.1],h.2⟩)]
theorem rbelow_of {a b:ATy} {U:List BSq} (ha:MayO a) (hb:MayO b) (hl:a.l.length+b.l.length<=60) (hU:UOk (graftT a b) ⟨[a.root],[b.root+(a.l.length:Int)]⟩ U):m_rb_Below a b=some (decide (Sub a b)):=by
 unfold m_rb_Below
 have hr:=hb.root
 rw [rgraft_eq a b (by omega) (by omega) hb.nb hb.ok.right,oB]
 simp only
 rw [grd_pos (by have:=hr.1;have:=hr.2;constructor <;> omega)];rw [show (⟨(graftT a b).l,(graftT a b).root⟩:ATy)=graftT a b from rfl,rholds_eq (graft_ok ha.ok hb.ok) (graft_nb ha.nb hb.nb) (by rw [graft_len];omega) (by simp) (by simp) (by rw [cs_one,cs_one];exact hU),oB,cs_one,cs_one]
 congr 1
 exact decide_eq_decide.2 (valid_graft ha hb)
theorem alike16_of {t:ATy} (h:MayO t) (hl:t.l.length<=2000) (h1:m_rb_Below (normG t) t=some (decide (Sub (normG t) t))) (h2:m_rb_Below t (normG t)=some (decide (Sub t (normG t)))):m_lo_alike (normG t) t=some true:=by
 have hm:=norm_may h hl
 have hle:=norm_len h
 have hr:=hm.root
 unfold m_lo_alike;rw [rmay_eq _ (by omega) hm.nb,oB,hm.may,dT rfl,cT,rnorm_eq hm.ok.right hm.nb (by omega) hr.1 hr.2,oB]
 have e:(⟨normL (normG t).l (normG t).root,0⟩:ATy)=normG t:=by
  have:=(alone_ok h.may h.nb hl).2
  unfold normG;rw [this]
 rw [e,sameList_eq _ _ (by omega) hm.nb,dT ⟨rfl,rfl⟩,oB,cT,h1,dT (norm_subL h hl),oB,cT,h2,dT (norm_subR h hl),oB]
theorem alike16_small {t:ATy} (h:MayO t) (hl:t.l.length<=19):m_lo_alike (normG t) t=some true:=by
 have hm:=norm_may h (by omega)
 have hle:=norm_len h
 exact alike16_of h (by omega) (rbelow_eq hm h (by omega)) (rbelow_eq h hm (by omega))
end Go.Proofs.YtkfnogdccpcmhaaGreatDoor
namespace Go.Proofs.YtkfnogdccpcmhaaGreatDoor
open Go.V Tryz
open Classical
structure TriS (t:ATy) (k r j:Int) (la lb lc:List Int):Prop where
 ka:Kept t (· ∈ la)
 kb:Kept t (· ∈ lb)
 kc:Kept t (· ∈ lc)
 ir:In t r
 ij:In t j
 rk:(nd t r).kind=k
 ra:(nd t r).a=j
 rb:(nd t r).b∈lc
 jk:(nd t j).kind=k
 ja:(nd t j).a∈la
 jb:(nd t j).b∈lb
def tp9 (r j:Int) (la lb lc W:List Int):List (List Int×List Int):=[([r],W),([j],W),(la,W),(lb,W),(lc,W),(W,la),(W,lb),(W,lc)]
def tp10 (r j:Int) (la lb lc W:List Int):List (List Int×List Int):=[(W,[r]),(W,[j]),(W,la),(W,lb),(W,lc),(la,W),(lb,W),(lc,W)]
section
variable {t:ATy} {r j:Int} {la lb lc W:List Int}
theorem TriS.step9 (h:TriS t 9 r j la lb lc) (hW:Kept t (· ∈ W)) {q s:BSq} (hq:Srt q) (hs:s∈(leadsA t q).2) {p:List Int×List Int} (hp:p∈tp9 r j la lb lc W) (hqp:SubP p q):∃ p'∈tp9 r j la lb lc W,SubP p' s:=by
 have latr:latB (nd t r).kind=true:=by rw [h.rk];rfl
 have latj:latB (nd t j).kind=true:=by rw [h.jk];rfl
 have fin:∀ {X:List Int},Kept t (· ∈ X)->(X,W)∈tp9 r j la lb lc W->(W,X)∈tp9 r j la lb lc W->SubP (X,W) q->∃ p'∈tp9 r j la lb lc W,SubP p' s:=fun hX h1 h2 hq2=>(lead_in hX hW hq2 hs).elim (fun h=>⟨_,h1,h⟩) (fun h=>⟨_,h2,h⟩)
 have fin':∀ {X:List Int},Kept t (· ∈ X)->(X,W)∈tp9 r j la lb lc W->(W,X)∈tp9 r j la lb lc W->SubP (W,X) q->∃ p'∈tp9 r j la lb lc W,SubP p' s:=fun hX h1 h2 hq2=>(lead_in hW hX hq2 hs).elim (fun h=>⟨_,h2,h⟩) (fun h=>⟨_,h1,h⟩)
 have one:∀ {m:Int} {Y Z:List Int},(nd t m).kind=9->(nd t m).a∈Y->(nd t m).b∈Z->(Y,W)∈tp9 r j la lb lc W->(Z,W)∈tp9 r j la lb lc W->SubP ([m],W) q->∃ p'∈tp9 r j la lb lc W,SubP p' s:=by
  intro m Y Z hm ha hb hY hZ hq2
  have none_:(∀ i∈q.left,latB (nd t i).kind=false)->∃ p'∈tp9 r j la lb lc W,SubP p' s:=fun a0=>fin (X:=la) h.ka (by simp [tp9]) (by simp [tp9]) ⟨fun x hx=>(by
   have e:x=m:=by simpa using hq2.1 x hx
   subst e
   have:=a0 _ hx
   rw [hm] at this;cases this),hq2.2⟩
  rcases open_cases hs with ⟨i,rest,M,a1,a2,rfl,a4⟩ | ⟨a0,_⟩ | ⟨a0,_⟩
  ·have hr:=rest_ne hq.1 a2
   have hi:i=m:=by simpa using hq2.1 i (a2.mem_iff.2 (by simp))
   subst hi
   have hre:∀ x∈rest,False:=fun x hx=>absurd (by simpa using hq2.1 x (hr x hx).1) (hr x hx).2
   rcases a4 with ⟨b1,_⟩ | ⟨_,rfl | rfl⟩
   ·rw [hm] at b1;omega
   ·exact ⟨_,hY,sub_step (l:=[]) (fun x hx=>(hre x hx).elim) (fun x hx=>by simp at hx;subst hx;exact ha),hq2.2⟩
   ·exact ⟨_,hZ,sub_step (l:=[]) (fun x hx=>(hre x hx).elim) (fun x hx=>by simp at hx;subst hx;exact hb),hq2.2⟩
  ·exact none_ a0
  ·exact none_ a0
 unfold tp9 at hp;simp only [List.mem_cons,List.not_mem_nil,or_false] at hp
 rcases hp with rfl | rfl | rfl | rfl | rfl | rfl | rfl | rfl
 ·exact one (Y:=[j]) h.rk (by rw [h.ra];simp) h.rb (by simp [tp9]) (by simp [tp9]) hqp
 ·exact one h.jk h.ja h.jb (by simp [tp9]) (by simp [tp9]) hqp
 ·exact fin h.ka (by simp [tp9]) (by simp [tp9]) hqp
 ·exact fin h.kb (by simp [tp9]) (by simp [tp9]) hqp
 ·exact fin h.kc (by simp [tp9]) (by simp [tp9]) hqp
 ·exact fin' h.ka (by simp [tp9]) (by simp [tp9]) hqp
 ·exact fin' h.kb (by simp [tp9]) (by simp [tp9]) hqp
 ·exact fin' h.kc (by simp [tp9]) (by simp [tp9]) hqp
theorem TriS.step10 (h:TriS t 10 r j la lb lc) (hW:Kept t (· ∈ W)) {q s:BSq} (hq:Srt q) (hs:s∈(leadsA t q).2) {p:List Int×List Int} (hp:p∈tp10 r j la lb lc W) (hqp:SubP p q):∃ p'∈tp10 r j la lb lc W,SubP p' s:=by
 have fin:∀ {X:List Int},Kept t (· ∈ X)->(W,X)∈tp10 r j la lb lc W->(X,W)∈tp10 r j la lb lc W->SubP (W,X) q->∃ p'∈tp10 r j la lb lc W,SubP p' s:=fun hX h1 h2 hq2=>(lead_in hW hX hq2 hs).elim (fun h=>⟨_,h1,h⟩) (fun h=>⟨_,h2,h⟩)
 have fin':∀ {X:List Int},Kept t (· ∈ X)->(W,X)∈tp10 r j la lb lc W->(X,W)∈tp10 r j la lb lc W->SubP (X,W) q->∃ p'∈tp10 r j la lb lc W,SubP p' s:=fun hX h1 h2 hq2=>(lead_in hX hW hq2 hs).elim (fun h=>⟨_,h2,h⟩) (fun h=>⟨_,h1,h⟩)
 have one:∀ {m:Int} {Y Z:List Int},(nd t m).kind=10->(nd t m).a∈Y->(nd t m).b∈Z->(W,[m])∈tp10 r j la lb lc W->(W,Y)∈tp10 r j la lb lc W->(W,Z)∈tp10 r j la lb lc W->SubP (W,[m]) q->∃ p'∈tp10 r j la lb lc W,SubP p' s:=by
  intro m Y Z hm ha hb hM hY hZ hq2
  rcases open_cases hs with ⟨i,rest,M,a1,a2,rfl,a4⟩ | ⟨_,i,rest,M,a1,a2,rfl,a4⟩ | ⟨_,a0⟩
  ·have hr:=rest_ne hq.1 a2
   have hi:=hq2.1 i (a2.mem_iff.2 (by simp))
   have hab:=hW.pair i hi (.inr (lat_yes a1))
   refine ⟨_,hM,sub_step (l:=[]) (fun x hx=>hq2.1 x (hr x hx).1) (fun x hx=>?_),hq2.2⟩
   rcases a4 with ⟨_,rfl⟩ | ⟨_,rfl | rfl⟩
   ·simp at hx;rcases hx with rfl | rfl;exact hab.1;exact hab.2
   ·simp at hx;subst hx;exact hab.1
   ·simp at hx;subst hx;exact hab.2
  ·have hr:=rest_ne hq.2 a2
   have hi:i=m:=by simpa using hq2.2 i (a2.mem_iff.2 (by simp))
   subst hi
   have hre:∀ x∈rest,False:=fun x hx=>absurd (by simpa using hq2.2 x (hr x hx).1) (hr x hx).2
   rcases a4 with ⟨b1,_⟩ | ⟨_,rfl | rfl⟩
   ·rw [hm] at b1;omega
   ·exact ⟨_,hY,hq2.1,sub_step (l:=[]) (fun x hx=>(hre x hx).elim) (fun x hx=>by simp at hx;subst hx;exact ha)⟩
   ·exact ⟨_,hZ,hq2.1,sub_step (l:=[]) (fun x hx=>(hre x hx).elim) (fun x hx=>by simp at hx;subst hx;exact hb)⟩
  ·exact fin (X:=la) h.ka (by simp [tp10]) (by simp [tp10]) ⟨hq2.1,fun x hx=>by
    have e:x=m:=by simpa using hq2.2 x hx
    subst e
    have:=a0 _ hx;rw [hm] at this;cases this⟩
 unfold tp10 at hp;simp only [List.mem_cons,List.not_mem_nil,or_false] at hp
 rcases hp with rfl | rfl | rfl | rfl | rfl | rfl | rfl | rfl
 ·exact one (Y:=[j]) h.rk (by rw [h.ra];simp) h.rb (by simp [tp10]) (by simp [tp10]) (by simp [tp10]) hqp
 ·exact one h.jk h.ja h.jb (by simp [tp10]) (by simp [tp10]) (by simp [tp10]) hqp
 ·exact fin h.ka (by simp [tp10]) (by simp [tp10]) hqp
 ·exact fin h.kb (by simp [tp10]) (by simp [tp10]) hqp
 ·exact fin h.kc (by simp [tp10]) (by simp [tp10]) hqp
 ·exact fin' h.ka (by simp [tp10]) (by simp [tp10]) hqp
 ·exact fin' h.kb (by simp [tp10]) (by simp [tp10]) hqp
 ·exact fin' h.kc (by simp [tp10]) (by simp [tp10]) hqp
theorem fam_U {F:List (List Int×List Int)} {q:BSq} (hl:F.length<=30) (hF:∀ p∈F,(∀ i∈p.1,In t i)/\(∀ i∈p.2,In t i)/\p.1.length+p.2.length<=32) (hq:Srt q) (hq2:∃ p∈F,SubP p q)
  (hst:∀ {q s:BSq},Srt q->s∈(leadsA t q).2->∀ {p:List Int×List Int},p∈F->SubP p q->∃ p'∈F,SubP p' s):∃ U,UOk t q U:=by
 have hmem:∀ s,s∈F.flatMap (fun p=>UAB (cs p.1) (cs p.2))↔Srt s/\∃ p∈F,SubP p s:=by
  intro s
  rw [List.mem_flatMap]
  constructor
  ·rintro ⟨p,hp,hs⟩
   obtain ⟨a,b,c⟩:=(mem_UAB (cs_sorted _) (cs_sorted _)).1 hs;exact ⟨a,p,hp,fun i hi=>mem_cs.1 (b i hi),fun i hi=>mem_cs.1 (c i hi)⟩
  ·rintro ⟨a,p,hp,b,c⟩
   exact ⟨p,hp,(mem_UAB (cs_sorted _) (cs_sorted _)).2 ⟨a,fun i hi=>mem_cs.2 (b i hi),fun i hi=>mem_cs.2 (c i hi)⟩⟩
 refine ⟨_,(hmem _).2 ⟨hq,hq2⟩,fun s hs=>((hmem s).1 hs).1,fun s hs=>?_,fun s hs s' hs'=>?_,?_⟩
 ·obtain ⟨_,p,hp,a,b⟩:=(hmem s).1 hs
  obtain ⟨c,d,_⟩:=hF p hp;exact ⟨fun i hi=>c i (a i hi),fun i hi=>d i (b i hi)⟩
 ·obtain ⟨a,p,hp,b⟩:=(hmem s).1 hs
  exact (hmem s').2 ⟨lead_srt a hs',hst a hs' hp b⟩
 ·refine Nat.le_trans (flat_len _ (2 ^ 32) _ fun p hp=>?_) (Nat.le_trans (Nat.mul_le_mul_right _ hl) (by decide))
  obtain ⟨_,_,e⟩:=hF p hp;rw [UAB_len]
  have:=cs_len p.1
  have:=cs_len p.2
  exact Nat.pow_le_pow_right (by omega) (by omega)
theorem TriS.U9 (h:TriS t 9 r j la lb lc) (hW:Kept t (· ∈ W)) {r2:Int} (hr2:r2∈W) (l1:la.length<=7) (l2:lb.length<=7) (l3:lc.length<=7) (lW:W.length<=25):∃ U,UOk t ⟨[r],[r2]⟩ U:=by
 refine fam_U (F:=tp9 r j la lb lc W) (by simp [tp9]) (fun p hp=>?_) ⟨by simp,by simp⟩ ⟨([r],W),by simp [tp9],fun i hi=>hi,fun i hi=>by rw [List.mem_singleton.1 hi];exact hr2⟩ (fun hq hs _ hp hqp=>h.step9 hW hq hs hp hqp)
 have q1:=h.ka.inn;have q2:=h.kb.inn;have q3:=h.kc.inn;have q4:=hW.inn
 have co:∀ {x:Int},In t x->∀ i∈[x],In t i:=fun h1 i hi=>by rw [List.mem_singleton.1 hi];exact h1
 unfold tp9 at hp;simp only [List.mem_cons,List.not_mem_nil,or_false] at hp
 rcases hp with rfl | rfl | rfl | rfl | rfl | rfl | rfl | rfl
 ·exact ⟨co h.ir,q4,by simp;omega⟩
 ·exact ⟨co h.ij,q4,by simp;omega⟩
 ·exact ⟨q1,q4,by simp only;omega⟩
 ·exact ⟨q2,q4,by simp only;omega⟩
 ·exact ⟨q3,q4,by simp only;omega⟩
 ·exact ⟨q4,q1,by simp only;omega⟩
 ·exact ⟨q4,q2,by simp only;omega⟩
 ·exact ⟨q4,q3,by simp only;omega⟩
theorem TriS.U10 (h:TriS t 10 r j la lb lc) (hW:Kept t (· ∈ W)) {r2:Int} (hr2:r2∈W) (l1:la.length<=7) (l2:lb.length<=7) (l3:lc.length<=7) (lW:W.length<=25):∃ U,UOk t ⟨[r2],[r]⟩ U:=by
 refine fam_U (F:=tp10 r j la lb lc W) (by simp [tp10]) (fun p hp=>?_) ⟨by simp,by simp⟩ ⟨(W,[r]),by simp [tp10],fun i hi=>by rw [List.mem_singleton.1 hi];exact hr2,fun i hi=>hi⟩ (fun hq hs _ hp hqp=>h.step10 hW hq hs hp hqp)
 have q1:=h.ka.inn;have q2:=h.kb.inn;have q3:=h.kc.inn;have q4:=hW.inn
 have co:∀ {x:Int},In t x->∀ i∈[x],In t i:=fun h1 i hi=>by rw [List.mem_singleton.1 hi];exact h1
 unfold tp10 at hp;simp only [List.mem_cons,List.not_mem_nil,or_false] at hp
 rcases hp with rfl | rfl | rfl | rfl | rfl | rfl | rfl | rfl
 ·exact ⟨q4,co h.ir,by simp;omega⟩
 ·exact ⟨q4,co h.ij,by simp;omega⟩
 ·exact ⟨q4,q1,by simp only;omega⟩
 ·exact ⟨q4,q2,by simp only;omega⟩
 ·exact ⟨q4,q3,by simp only;omega⟩
 ·exact ⟨q1,q4,by simp only;omega⟩
 ·exact ⟨q2,q4,by simp only;omega⟩
 ·exact ⟨q3,q4,by simp only;omega⟩
end
end Go.Proofs.YtkfnogdccpcmhaaGreatDoor
namespace Go.Proofs.YtkfnogdccpcmhaaGreatDoor
open Go.V Tryz
open Classical
theorem kept_map {s t:ATy} {f:Int->Int} {l:List Int} (hk:Kept s (· ∈ l)) (h:Emb s t f) (hin:∀ i,In s i->In t (f i)):Kept t (· ∈ l.map f):=by
 refine ⟨fun x hx=>?_,fun x hx hxk=>?_,fun x hx g hg=>?_⟩
 ·obtain ⟨i,hi,rfl⟩:=List.mem_map.1 hx
  exact hin i (hk.inn i hi)
 ·obtain ⟨i,hi,rfl⟩:=List.mem_map.1 hx
  rw [h.node i (hk.inn i hi)] at hxk ⊢;obtain ⟨e1,e2⟩:=movedN_ab (f:=f) (n:=nd s i) hxk;rw [e1,e2];obtain ⟨h1,h2⟩:=hk.pair i hi hxk;exact ⟨List.mem_map.2 ⟨_,h1,rfl⟩,List.mem_map.2 ⟨_,h2,rfl⟩⟩
 ·obtain ⟨i,hi,rfl⟩:=List.mem_map.1 hx
  rw [h.node i (hk.inn i hi)] at hg;obtain ⟨g0,hg0,rfl⟩:=List.mem_map.1 hg;exact List.mem_map.2 ⟨_,hk.fld i hi g0 hg0,rfl⟩
theorem tri_map {s t:ATy} {f:Int->Int} {k r j:Int} {la lb lc:List Int} (hk:k=9\/k=10) (h:TriS s k r j la lb lc) (he:Emb s t f) (hin:∀ i,In s i->In t (f i)):TriS t k (f r) (f j) (la.map f) (lb.map f) (lc.map f):=by
 have er:=he.node r h.ir
 have ej:=he.node j h.ij
 have kr:(nd s r).kind=6\/(nd s r).kind=9\/(nd s r).kind=10:=by rw [h.rk];rcases hk with rfl | rfl;exact .inr (.inl rfl);exact .inr (.inr rfl)
 have kj:(nd s j).kind=6\/(nd s j).kind=9\/(nd s j).kind=10:=by rw [h.jk];rcases hk with rfl | rfl;exact .inr (.inl rfl);exact .inr (.inr rfl)
 refine ⟨kept_map h.ka he hin,kept_map h.kb he hin,kept_map h.kc he hin,hin r h.ir,hin j h.ij,?_,?_,?_,?_,?_,?_⟩
 ·rw [er];exact h.rk
 ·rw [er,(movedN_ab kr).1,h.ra]
 ·rw [er,(movedN_ab kr).2];exact List.mem_map.2 ⟨_,h.rb,rfl⟩
 ·rw [ej];exact h.jk
 ·rw [ej,(movedN_ab kj).1];exact List.mem_map.2 ⟨_,h.ja,rfl⟩
 ·rw [ej,(movedN_ab kj).2];exact List.mem_map.2 ⟨_,h.jb,rfl⟩
theorem tri_fold {k:Int} (hk:k=9\/k=10) {a b c:ATy} (ha:FewO a) (hb:FewO b) (hc:FewO c):∃ j la lb lc,TriS (withT k (withT k a b) c) k (withT k (withT k a b) c).root j la lb lc/\la.length<=7/\lb.length<=7/\lc.length<=7:=by
 have l1:=ha.2;have l2:=hb.2;have l3:=hc.2
 have hj:MayO (withT k a b):=with_may hk ha.1 hb.1 (by omega)
 have lj:=with_len k a b
 have hT:MayO (withT k (withT k a b) c):=with_may hk hj hc.1 (by omega)
 have tT:=with_top k (withT k a b) c
 have tj:=with_top k a b
 have ej:=with_eL k (withT k a b) c
 have ec:=with_eR k (withT k a b) c
 have ij:∀ i,In (withT k a b) i->In (withT k (withT k a b) c) i:=fun i h=>with_inL h
 have ic:∀ i,In c i->In (withT k (withT k a b) c) (i+((withT k a b).l.length:Int)):=fun i h=>with_inR h
 have ea:=(with_eL k a b).comp ej (fun i h=>with_inL h)
 have eb:=(with_eR k a b).comp ej (fun i h=>with_inR h)
 have kj:=nd_emb ej hj.root hk tj
 refine ⟨(withT k a b).root,(rngI a.l.length).map (fun x=>x),(rngI b.l.length).map (fun x=>x+(a.l.length:Int)),(rngI c.l.length).map (fun x=>x+((withT k a b).l.length:Int)),
  ⟨kept_img ha.1.ok ea (fun i h=>ij i (with_inL h)),kept_img hb.1.ok eb (fun i h=>ij _ (with_inR h)),kept_img hc.1.ok ec ic,hT.root,ij _ hj.root,by rw [tT],by rw [tT],by rw [tT];exact root_img hc.1.root _,kj.1,by rw [kj.2.1];exact root_img ha.1.root _,by rw [kj.2.2];exact root_img hb.1.root _⟩,by rw [img_len];exact l1,by rw [img_len];exact l2,by rw [img_len];exact l3⟩
noncomputable def preL (t:ATy) (l:List Int):List Int:=(rngI (normG t).l.length).filter (fun i=>decide (upN t i∈l))
theorem mem_pre {t:ATy} {l:List Int} {i:Int}:i∈preL t l↔In (normG t) i/\upN t i∈l:=by
 unfold preL;rw [List.mem_filter,mem_rngI,decide_eq_true_eq];rfl
theorem up_inj {t:ATy} (h:MayO t) {x y:Int} (hx:In (normG t) x) (hy:In (normG t) y) (e:upN t x=upN t y):x=y:=by
 obtain ⟨_,l2,l3,l4,lA,lE⟩:=mayT_ok h.may;obtain ⟨b1,b2,b3⟩:=belowL_props (allRight_in lA) l3 l4
 have q:∀ {z:Int},In (normG t) z->z.toNat<(belowL t.l t.root).length:=fun {z} hz=>by
  have h1:=hz.1;have h2:=hz.2
  unfold normG at h2;rw [normL_len] at h2
  omega
 have hx1:=q hx;have hy1:=q hy
 unfold upN at e;rw [List.getElem?_eq_getElem hx1,List.getElem?_eq_getElem hy1] at e
 have e2:(belowL t.l t.root)[x.toNat]=(belowL t.l t.root)[y.toNat]:=e
 have:=(List.getElem_inj b2).1 e2
 have:=hx.1;have:=hy.1
 omega
theorem rngI_nodup (n:Nat):(rngI n).Nodup:=by
 unfold rngI;refine List.Pairwise.map _ (fun a b h=>?_) List.nodup_range
 intro e;exact h (by omega)
theorem pre_len {t:ATy} (h:MayO t) (l:List Int):(preL t l).length<=l.length:=by
 have hn:((preL t l).map (upN t)).Nodup:=by
  have h1:(preL t l).Nodup:=(rngI_nodup _).filter _
  rw [List.nodup_iff_pairwise_ne] at h1 ⊢;rw [List.pairwise_map];exact h1.imp_of_mem fun {x y} hx hy hne e=>hne (up_inj h (mem_pre.1 hx).1 (mem_pre.1 hy).1 e)
 have:=nodup_subI _ l hn (fun x hx=>by
  obtain ⟨i,hi,rfl⟩:=List.mem_map.1 hx;exact (mem_pre.1 hi).2)
 rw [List.length_map] at this;exact this
theorem pre_kept {t:ATy} (h:MayO t) (hl:t.l.length<=2000) {l:List Int} (hk:Kept t (· ∈ l)):Kept (normG t) (· ∈ preL t l):=by
 have hX:=(norm_may h hl).ok
 have he:=norm_emb h hl
 refine ⟨fun i hi=>(mem_pre.1 hi).1,fun i hi hik=>?_,fun i hi g hg=>?_⟩
 ·obtain ⟨h1,h2⟩:=mem_pre.1 hi
  have hn:=he.node i h1
  have hp:=hX.pair h1 hik
  have:=hk.pair _ h2 (by rw [hn];exact hik)
  rw [hn,(movedN_ab hik).1,(movedN_ab hik).2] at this;exact ⟨mem_pre.2 ⟨hp.1,this.1⟩,mem_pre.2 ⟨hp.2,this.2⟩⟩
 ·obtain ⟨h1,h2⟩:=mem_pre.1 hi
  have hn:=he.node i h1
  refine mem_pre.2 ⟨hX.at_ h1 hg,?_⟩
  have:=hk.fld _ h2 ⟨g.name,upN t g.at_⟩ (by rw [hn];exact List.mem_map.2 ⟨g,hg,rfl⟩)
  exact this
theorem tri_norm {k j:Int} (hk:k=9\/k=10) {t:ATy} {la lb lc:List Int} (h:MayO t) (hl:t.l.length<=2000) (hT:TriS t k t.root j la lb lc):TriS (normG t) k (normG t).root (nd (normG t) (normG t).root).a (preL t la) (preL t lb) (preL t lc):=by
 have hX:=norm_may h hl
 have he:=norm_emb h hl
 have r1:=hX.root
 have er:=he.node _ r1
 have e0:upN t (normG t).root=t.root:=up_root h hl
 rw [e0] at er
 have rk:(nd (normG t) (normG t).root).kind=k:=by have:=hT.rk;rw [er] at this;exact this
 have kr:(nd (normG t) (normG t).root).kind=6\/(nd (normG t) (normG t).root).kind=9\/(nd (normG t) (normG t).root).kind=10:=by rw [rk];rcases hk with rfl | rfl;exact .inr (.inl rfl);exact .inr (.inr rfl)
 have hp:=hX.ok.pair r1 kr
 have ra:=hT.ra
 have rb:=hT.rb
 rw [er,(movedN_ab kr).1] at ra;rw [er,(movedN_ab kr).2] at rb
 have ej:=he.node _ hp.1
 rw [ra] at ej
 have jk:(nd (normG t) (nd (normG t) (normG t).root).a).kind=k:=by have:=hT.jk;rw [ej] at this;exact this
 have kj:(nd (normG t) (nd (normG t) (normG t).root).a).kind=6\/(nd (normG t) (nd (normG t) (normG t).root).a).kind=9\/(nd (normG t) (nd (normG t) (normG t).root).a).kind=10:=by rw [jk];rcases hk with rfl | rfl;exact .inr (.inl rfl);exact .inr (.inr rfl)
 have hpj:=hX.ok.pair hp.1 kj
 have ja:=hT.ja
 have jb:=hT.jb
 rw [ej,(movedN_ab kj).1] at ja;rw [ej,(movedN_ab kj).2] at jb;exact ⟨pre_kept h hl hT.ka,pre_kept h hl hT.kb,pre_kept h hl hT.kc,r1,hp.1,rk,rfl,mem_pre.2 ⟨hp.2,rb⟩,jk,mem_pre.2 ⟨hpj.1,ja⟩,mem_pre.2 ⟨hpj.2,jb⟩⟩
end Go.Proofs.YtkfnogdccpcmhaaGreatDoor
namespace Go.Proofs.YtkfnogdccpcmhaaGreatDoor
open Go.V Tryz
open Classical
theorem tri_below9 {s t:ATy} {j:Int} {la lb lc:List Int} (hs:MayO s) (ht:MayO t) (h:TriS s 9 s.root j la lb lc) (l1:la.length<=7) (l2:lb.length<=7) (l3:lc.length<=7) (lt:t.l.length<=25):∃ U,UOk (graftT s t) ⟨[s.root],[t.root+(s.l.length:Int)]⟩ U:=by
 have h1:=tri_map (.inl rfl) h (graft_eL s t) (fun i hi=>graft_inL hi)
 have hW:=kept_img ht.ok (graft_eR s t) (fun i hi=>graft_inR hi)
 exact h1.U9 hW (root_img ht.root _) (by rw [List.length_map];exact l1) (by rw [List.length_map];exact l2) (by rw [List.length_map];exact l3) (by rw [img_len];exact lt)
theorem tri_below10 {s t:ATy} {j:Int} {la lb lc:List Int} (hs:MayO s) (ht:MayO t) (h:TriS t 10 t.root j la lb lc) (l1:la.length<=7) (l2:lb.length<=7) (l3:lc.length<=7) (ls:s.l.length<=25):∃ U,UOk (graftT s t) ⟨[s.root],[t.root+(s.l.length:Int)]⟩ U:=by
 have h1:=tri_map (.inr rfl) h (graft_eR s t) (fun i hi=>graft_inR hi)
 have hW:=kept_img hs.ok (graft_eL s t) (fun i hi=>graft_inL hi)
 exact h1.U10 hW (root_img hs.root _) (by rw [List.length_map];exact l1) (by rw [List.length_map];exact l2) (by rw [List.length_map];exact l3) (by rw [img_len];exact ls)
theorem alike16_three {k:Int} (hk:k=9\/k=10) {a b c:ATy} (ha:FewO a) (hb:FewO b) (hc:FewO c):m_lo_alike (normG (withT k (withT k a b) c)) (withT k (withT k a b) c)=some true:=by
 obtain ⟨j,la,lb,lc,hT,l1,l2,l3⟩:=tri_fold hk ha hb hc
 have q1:=ha.2;have q2:=hb.2;have q3:=hc.2
 have hj:MayO (withT k a b):=with_may hk ha.1 hb.1 (by omega)
 have lj:=with_len k a b
 have hM:MayO (withT k (withT k a b) c):=with_may hk hj hc.1 (by omega)
 have lT:=with_len k (withT k a b) c
 generalize withT k (withT k a b) c=T at *
 have lT2:T.l.length<=23:=by omega
 have hX:=norm_may hM (by omega)
 have lX:=norm_len hM
 have hN:=tri_norm hk hM (by omega) hT
 have n1:=Nat.le_trans (pre_len hM la) l1
 have n2:=Nat.le_trans (pre_len hM lb) l2
 have n3:=Nat.le_trans (pre_len hM lc) l3
 rcases hk with rfl | rfl
 ·obtain ⟨U,hU⟩:=tri_below9 hX hM hN n1 n2 n3 (by omega)
  obtain ⟨V,hV⟩:=tri_below9 hM hX hT l1 l2 l3 (by omega);exact alike16_of hM (by omega) (rbelow_of hX hM (by omega) hU) (rbelow_of hM hX (by omega) hV)
 ·obtain ⟨U,hU⟩:=tri_below10 hX hM hT l1 l2 l3 (by omega)
  obtain ⟨V,hV⟩:=tri_below10 hM hX hN n1 n2 n3 (by omega);exact alike16_of hM (by omega) (rbelow_of hX hM (by omega) hU) (rbelow_of hM hX (by omega) hV)
theorem alike16_fold {k:Int} (hk:k=9\/k=10) {a:ATy} {r:List ATy} (ha:FewO a) (hr:∀ x∈r,FewO x) (hl:r.length<=2):m_lo_alike (normG (foldW k a r)) (foldW k a r)=some true:=by
 have q1:=ha.2
 match r,hl with
 | [],_=>exact alike16_small ha.1 (by show a.l.length<=_;omega)
 | [b],_ =>
  have hb:=hr b (by simp)
  have q2:=hb.2
  exact alike16_small (t:=withT k a b) (with_may hk ha.1 hb.1 (by omega)) (by rw [with_len];omega)
 | [b,c],_=>exact alike16_three hk ha (hr b (by simp)) (hr c (by simp))
end Go.Proofs.YtkfnogdccpcmhaaGreatDoor
namespace Go.Proofs.YtkfnogdccpcmhaaGreatDoor
open Go.V Tryz
open Classical
def exV:ATy:=⟨[⟨11,0,0,[]⟩,⟨6,0,0,[]⟩],1⟩
def exP:ATy:=⟨[⟨6,1,1,[]⟩,⟨3,0,0,[]⟩],0⟩
def exQ:ATy:=⟨[⟨6,1,2,[]⟩,⟨3,0,0,[]⟩,⟨3,0,0,[]⟩],0⟩
set_option maxHeartbeats 4000000 in
theorem put_ex:m_bound_Put exV [leafT 3]=some (exP,0):=by rfl
set_option maxHeartbeats 4000000 in
theorem arrow_ex:m_bound_Arrow (leafT 3) (leafT 3)=some (exQ,0):=by rfl
theorem exP_ground:m_graph_Ground exP=some true:=by
 have e1:m_graph_May exP=some 0:=by rfl
 have e2:((m_below exP exP.root).bind fun xs1=>m_graph_Vars_r1 exP xs1 []:Option (List Int))=some []:=by rfl
 unfold m_graph_Ground m_graph_Vars;rw [e1,oB,oB,e2];rw [dT rfl,cT,Bool.not_true,cF_,oB,grd_pos (by simp)]
 simp [Lib.compact]
 first | rfl | (unfold Lib.compactUpTo;rfl) | simp [Lib.compactUpTo]
theorem exP_may:MayO exP:=may_of (by decide) (by intro n hn;simp [exP] at hn;rcases hn with rfl | rfl <;> simp [NB]) (by rfl)
theorem exQ_may:MayO exQ:=may_of (by decide) (by intro n hn;simp [exQ] at hn;rcases hn with rfl | rfl | rfl <;> simp [NB]) (by rfl)
theorem exPQ:Sub exP exQ:=by
 intro p hp
 have h1:=(la_head (t:=exP) (i:=0) (by decide) (by decide)).1 hp
 refine (la_head (t:=exQ) (i:=0) (by decide) (by decide)).2 ?_;rw [hd_arrow (by decide)] at h1 ⊢
 cases p with
 | tag S k=>exact h1
 | dom S q=>exact fun h2=>h1 ((sat_leaf (t:=exP) (i:=1) (k:=3) (by decide) (by decide)).2 ((sat_leaf (t:=exQ) (i:=1) (k:=3) (by decide) (by decide)).1 h2))
 | cod S q=>exact (sat_leaf (t:=exQ) (i:=2) (k:=3) (by decide) (by decide)).2 ((sat_leaf (t:=exP) (i:=1) (k:=3) (by decide) (by decide)).1 h1)
 | absent S q=>exact h1.elim
 | field S s q=>exact h1.elim
 | hasc S q=>exact h1.elim
 | case S s q=>exact h1.elim
theorem exQP:Sub exQ exP:=by
 intro p hp
 have h1:=(la_head (t:=exQ) (i:=0) (by decide) (by decide)).1 hp
 refine (la_head (t:=exP) (i:=0) (by decide) (by decide)).2 ?_;rw [hd_arrow (by decide)] at h1 ⊢
 cases p with
 | tag S k=>exact h1
 | dom S q=>exact fun h2=>h1 ((sat_leaf (t:=exQ) (i:=1) (k:=3) (by decide) (by decide)).2 ((sat_leaf (t:=exP) (i:=1) (k:=3) (by decide) (by decide)).1 h2))
 | cod S q=>exact (sat_leaf (t:=exP) (i:=1) (k:=3) (by decide) (by decide)).2 ((sat_leaf (t:=exQ) (i:=2) (k:=3) (by decide) (by decide)).1 h1)
 | absent S q=>exact h1.elim
 | field S s q=>exact h1.elim
 | hasc S q=>exact h1.elim
 | case S s q=>exact h1.elim
theorem works16_eq:m_lo_works=some true:=by
 unfold m_lo_works;rw [show m_graph_Leaf 3=some (leafT 3) from rfl,oB]
 change ((m_bound_Put exV [leafT 3]).bind _)=_
 rw [put_ex,oB]
 dsimp only
 rw [oB,oB,arrow_ex,oB]
 dsimp only
 change ((m_below_Alike exP exQ).bind _)=_
 rw [alike_eq (by decide) (by decide) exP_may.nb exQ_may.nb (fun _ _=>by decide),if_pos exP_may.may,if_pos exQ_may.may,dT exPQ,dT exQP,oB]
 change (Option.bind (bif true then ((m_graph_Ground exP).bind fun x10=>some x10) else some false) fun p1=>some p1)=_
 rw [exP_ground];rfl
end Go.Proofs.YtkfnogdccpcmhaaGreatDoor
namespace Go.Proofs.YtkfnogdccpcmhaaGreatDoor
open Go.V Tryz
open Classical
theorem with_may6 {k:Int} (hk:k=6\/k=6) {a b:ATy} (ha:MayO a) (hb:MayO b) (hl:a.l.length+b.l.length<=100):MayO (withT k a b):=by
 have hg:=graft_ok ha.ok hb.ok
 have hra:=ha.root
 have hrb:=hb.root
 have hR:AllRight (withT k a b).l:=by
  intro n hn
  rw [with_len]
  rcases List.mem_append.1 hn with hn | hn
  ·exact right_mono (hg.right n hn) (by rw [graft_len];omega)
  ·rw [List.mem_singleton] at hn
   subst hn
   have h1:=hra.1;have h2:=hra.2;have h3:=hrb.1;have h4:=hrb.2
   have hnm:namedP ⟨k,a.root,b.root+(a.l.length:Int),[]⟩:=fun i x hx=>by simp at hx
   have hkid:¬ ∃ q∈kidsL ⟨k,a.root,b.root+(a.l.length:Int),[]⟩,inB ((a.l.length+b.l.length+1:Nat):Int) q=true:=by
    rintro ⟨q,hq,h5⟩
    have e:kidsL ⟨k,a.root,b.root+(a.l.length:Int),[]⟩=[a.root,b.root+(a.l.length:Int)]:=by
     unfold kidsL pB
     rcases hk with rfl | rfl <;> rfl
    rw [e] at hq;unfold inB at h5;simp only [Bool.or_eq_true,decide_eq_true_eq] at h5;simp only [List.mem_cons,List.not_mem_nil,or_false] at hq
    rcases hq with rfl | rfl <;> omega
   unfold rightB;rw [dT hnm,dF hkid]
   rcases hk with rfl | rfl <;> rfl
 have hE:AllEnds (withT k a b).l:=by
  intro i hi
  rw [with_len] at hi
  by_cases h:i<(graftT a b).l.length
  ·obtain ⟨m,hm⟩:=hg.ends i h
   exact ⟨m,endk_left (allRight_in hg.right) m i h hm⟩
  ·rw [graft_len] at h
   have hii:i=a.l.length+b.l.length:=by omega
   subst hii
   have h1:=hra.1;have h2:=hra.2;have h3:=hrb.1;have h4:=hrb.2
   have la:a.root.toNat<(graftT a b).l.length:=by rw [graft_len];omega
   have lb:(b.root+(a.l.length:Int)).toNat<(graftT a b).l.length:=by rw [graft_len];omega
   obtain ⟨m1,hm1⟩:=hg.ends _ la;obtain ⟨m2,hm2⟩:=hg.ends _ lb
   have e1:=endk_left (B:=[⟨k,a.root,b.root+(a.l.length:Int),[]⟩]) (allRight_in hg.right) m1 _ la hm1
   have e2:=endk_left (B:=[⟨k,a.root,b.root+(a.l.length:Int),[]⟩]) (allRight_in hg.right) m2 _ lb hm2
   refine ⟨max m1 m2+1,?_⟩
   have e3:=endk_mono (Nat.le_max_left m1 m2) e1
   have e4:=endk_mono (Nat.le_max_right m1 m2) e2
   unfold endk
   have eq:(withT k a b).l[a.l.length+b.l.length]? = some ⟨k,a.root,b.root+(a.l.length:Int),[]⟩:=by
    unfold withT
    simp only
    rw [List.getElem?_append_right (by rw [graft_len];omega),graft_len,Nat.sub_self];rfl
   rw [eq]
   simp only
   show (!latB k||_)=true
   rw [Bool.or_eq_true,Bool.and_eq_true];exact .inr ⟨e3,e4⟩
 refine ⟨?_,fun n hn=>?_⟩
 ·unfold mayT
  rw [if_neg (by rw [with_len];omega),if_neg (by rw [with_len,with_root];omega),if_pos ⟨hR,hE⟩]
 ·rcases List.mem_append.1 hn with hn | hn
  ·exact graft_nb ha.nb hb.nb n hn
  ·rw [List.mem_singleton] at hn;subst hn;simp [NB]
theorem errL_two {a b:ATy} (ha:MayO a) (hb:MayO b):errL [a,b]=0:=errL_zero fun t ht=>by
 rcases List.mem_cons.1 ht with rfl | ht
 ·exact ha.may
 ·rw [List.mem_singleton.1 ht];exact hb.may
theorem arrow16_eq {a b:ATy} (ha:FewO a) (hb:FewO b):m_bound_Arrow a b=some (normG (withT 6 a b),0):=by
 have q1:=ha.2;have q2:=hb.2
 have hM:MayO (withT 6 a b):=with_may6 (.inl rfl) ha.1 hb.1 (by omega)
 unfold m_bound_Arrow;rw [may16_eq [a,b] (by simp) (fun t ht=>by
  rcases List.mem_cons.1 ht with rfl | ht
  ·omega
  ·rw [List.mem_singleton.1 ht];omega) (fun t ht=>by
  rcases List.mem_cons.1 ht with rfl | ht
  ·exact ha.1.nb
  ·rw [List.mem_singleton.1 ht];exact hb.1.nb),oB,errL_two ha.1 hb.1,dT rfl,Bool.not_true,cF_,pair_over ha.1 hb.1 (by omega) (by omega),oB]
 unfold m_bound_made;rw [Norm_is hM (by rw [with_len];omega),oB,oB]
theorem arrow_alike {a b:ATy} (ha:FewO a) (hb:FewO b):m_lo_alike (normG (withT 6 a b)) (withT 6 a b)=some true:=by
 have q1:=ha.2;have q2:=hb.2
 exact alike16_small (with_may6 (.inl rfl) ha.1 hb.1 (by omega)) (by rw [with_len];omega)
theorem all_bad {k nn:Int} {l:List ATy} (hl:l.length<=1000) (hlen:∀ t∈l,t.l.length<=2001) (hN:∀ t∈l,∀ n∈t.l,NB n) (h:¬ errL l=0):m_bound_all k nn l=some (⟨[],0⟩,errL l):=by
 unfold m_bound_all;rw [may16_eq l hl hlen hN,oB,dF h,Bool.not_false,cT]
theorem all_none {k nn:Int}:m_bound_all k nn []=some (leafT nn,0):=by
 unfold m_bound_all;rw [may16_eq [] (by simp) (fun t ht=>by cases ht) (fun t ht=>by cases ht),oB]
 rfl
theorem normG_leaf {k:Int} (h:MayO (leafT k)) (he:m_graph_Norm (leafT k)=some (leafT k,0)):normG (leafT k)=leafT k:=by
 have:=Norm_is h (by show 1<=2000;decide)
 rw [he] at this;exact (Prod.mk.inj (Option.some.inj this)).1.symm
theorem leaf_alike {k:Int} (h:MayO (leafT k)) (he:m_graph_Norm (leafT k)=some (leafT k,0)):m_lo_alike (leafT k) (leafT k)=some true:=by
 have:=alike16_small h (by show 1<=19;decide)
 rw [normG_leaf h he] at this;exact this
theorem norm_leaf1:m_graph_Norm (leafT 1)=some (leafT 1,0):=by rfl
theorem norm_leaf2:m_graph_Norm (leafT 2)=some (leafT 2,0):=by rfl
end Go.Proofs.YtkfnogdccpcmhaaGreatDoor
namespace Go.Proofs.YtkfnogdccpcmhaaGreatDoor
open Go.V Tryz
open Classical
theorem join16 (l:List ATy):m_bound_Join l=m_bound_all 9 2 l:=by
 unfold m_bound_Join
 cases m_bound_all 9 2 l with
 | none=>rfl
 | some x=>rfl
theorem meet16 (l:List ATy):m_bound_Meet l=m_bound_all 10 1 l:=by
 unfold m_bound_Meet
 cases m_bound_all 10 1 l with
 | none=>rfl
 | some x=>rfl
theorem law_BoundMakes (l:List ATy):m_lo_BoundMakes l=some true:=by
 unfold m_lo_BoundMakes;rw [few16_eq l,oB]
 have hLl:((l.take 3).map (fewT 7)).length<=3:=by rw [List.length_map,List.length_take];omega
 have hL2:((l.take 3).map (fewT 7)).map (fewT 7)=(l.take 3).map (fewT 7):=by
  rw [List.map_map];exact List.map_congr_left fun t _=>fewT_fewT 7 (by omega) t
 have hm:∀ t∈(l.take 3).map (fewT 7),t.l.length<=2001/\(∀ n∈t.l,NB n)/\(mayT t.l t.root=0->t.l.length<=7):=fun t ht=>by
  obtain ⟨s,_,rfl⟩:=List.mem_map.1 ht;exact ⟨fewT_len 7 (by omega) s,fewT_nb 7 s,fun h=>fewT_small 7 s (mayT_ok h).2.1⟩
 generalize (l.take 3).map (fewT 7)=L at *
 have hf:m_lo_few L 3=some L:=by rw [few16_eq,List.take_of_length_le hLl,hL2]
 have hlen:∀ t∈L,t.l.length<=2001:=fun t ht=>(hm t ht).1
 have hN:∀ t∈L,∀ n∈t.l,NB n:=fun t ht=>(hm t ht).2.1
 rw [hf,oB,join16]
 by_cases h0:errL L=0
 ·have hF:∀ t∈L,FewO t:=fun t ht=>⟨⟨errL_ok h0 t ht,hN t ht⟩,(hm t ht).2.2 (errL_ok h0 t ht)⟩
  cases L with
  | nil =>
   rw [all_none,oB]
   dsimp only
   rw [oB,meet16,all_none,oB]
   dsimp only
   rw [fault16_eq [] (by simp) hlen hN,oB,show errL []=0 from rfl,show (decide ((0:Int)=0))=true from rfl,Bool.not_true,cF_,cF_,cF_]
   change ((m_ro_All 9 2 []).bind _)=_
   rw [show m_ro_All 9 2 []=some (leafT 2) from rfl,oB]
   change ((m_lo_alike (leafT 2) (leafT 2)).bind _)=_
   rw [leaf_alike bot_may norm_leaf2,oB,Bool.not_true,cF_]
   change ((m_ro_All 10 1 []).bind _)=_
   rw [show m_ro_All 10 1 []=some (leafT 1) from rfl,oB]
   change ((m_lo_alike (leafT 1) (leafT 1)).bind _)=_
   rw [leaf_alike top_may norm_leaf1,oB,Bool.not_true,cF_,dT (by simp),cT,works16_eq,oB]
  | cons a r =>
   have ha:=hF a (by simp)
   have hr:∀ x∈r,FewO x:=fun x hx=>hF x (by simp [hx])
   have hl2:r.length<=2:=by rw [List.length_cons] at hLl;omega
   rw [all_eq (.inl rfl) ha hr hl2,oB]
   dsimp only
   rw [oB,meet16,all_eq (.inr rfl) ha hr hl2,oB]
   dsimp only
   rw [fault16_eq (a::r) (by omega) hlen hN,oB,h0]
   change ((m_ro_All 9 2 (a::r)).bind _)=_
   rw [All_eq (.inl rfl) ha hr hl2,oB]
   change ((m_lo_alike (normG (foldW 9 a r)) (foldW 9 a r)).bind _)=_
   rw [alike16_fold (.inl rfl) ha hr hl2,oB]
   change ((m_ro_All 10 1 (a::r)).bind _)=_
   rw [All_eq (.inr rfl) ha hr hl2,oB]
   change ((m_lo_alike (normG (foldW 10 a r)) (foldW 10 a r)).bind _)=_
   rw [alike16_fold (.inr rfl) ha hr hl2,oB,Bool.not_true,cF_]
   cases r with
   | nil =>
    rw [dT (by simp),cT,works16_eq,oB]
   | cons b r =>
    have hb:=hr b (by simp)
    have i0:idx (a::b::r) 0=some a:=by have:=getI (l:=a::b::r) (i:=0) rfl;exact this
    have i1:idx (a::b::r) 1=some b:=by have:=getI (l:=a::b::r) (i:=1) rfl;exact this
    rw [dF (by simp only [List.length_cons];omega),cF_,i0,oB,i1,oB,arrow16_eq ha hb,oB]
    dsimp only
    rw [dT rfl,cT,oB,oB];rw [Over_eq ha.1 hb.1 (by have:=ha.2;have:=hb.2;omega),oB]
    change ((m_lo_alike (normG (withT 6 a b)) (withT 6 a b)).bind _)=_
    rw [arrow_alike ha hb,oB,cT,works16_eq,oB]
 ·rw [all_bad (by omega) hlen hN h0,oB]
  dsimp only
  rw [oB,meet16,all_bad (by omega) hlen hN h0,oB]
  dsimp only
  rw [fault16_eq L (by omega) hlen hN,oB,dF h0,Bool.not_false,cT,dT rfl,Bool.and_true,cT,grd_pos (by constructor <;> simp),works16_eq]
  rfl
end Go.Proofs.YtkfnogdccpcmhaaGreatDoor
