/- Part 7 of the proof: a program logic, what the functions compute, and what these answer; no condition. -/
import Derived.Test.YtcoghblhdjmbfaaGreatq6
set_option linter.unusedVariables false
set_option linter.unusedSimpArgs false
set_option maxRecDepth 100000
set_option maxHeartbeats 2000000
namespace Go.Proofs.YtcoghblhdjmbfaaGreat
open Go.V Tryz
theorem zg1 {Γ:Ctx} {P:Program} {o:List Oper} {K:KT} {L:Env} {d:Nat->Nat->Bool} {n:Nat} {R:List Nat} {E:Env} {m:List Asrt} (e:Nat) (h:GDS Γ P o K L d n R e E m) (q:(R.filter fun a=>R.all fun b=>!(d a b))=[e]:=by decide +kernel):GDT Γ P o K L d (n+1) R E m:=⟨fun h0=>(by subst h0;cases q),fun x a b=>(by have z:x∈(R.filter fun a=>R.all fun b=>!(d a b)):=List.mem_filter.2 ⟨a,b⟩;rw [q,List.mem_singleton] at z;subst z;exact h)⟩
theorem zg2 {Γ:Ctx} {P:Program} {o:List Oper} {K:KT} {L:Env} {d:Nat->Nat->Bool} {n:Nat} {R:List Nat} {E:Env} {m:List Asrt} (e e':Nat) (h:GDS Γ P o K L d n R e E m) (h':GDS Γ P o K L d n R e' E m) (q:(R.filter fun a=>R.all fun b=>!(d a b))=[e,e']:=by decide +kernel):GDT Γ P o K L d (n+1) R E m:=⟨fun h0=>(by subst h0;cases q),fun x a b=>(by have z:x∈(R.filter fun a=>R.all fun b=>!(d a b)):=List.mem_filter.2 ⟨a,b⟩;rw [q] at z;simp only [List.mem_cons,List.not_mem_nil,or_false] at z;rcases z with rfl|rfl;exact h;exact h')⟩
theorem zgp {Γ:Ctx} {o:List Oper} {K:KT} {L:Env} {q:Nat->Nat->Bool} {n:Nat} {R R':List Nat} {E:Env} {m:List Asrt} {e i:Nat} {d:D} {p:Oper} (k:GDT Γ Tryz.prog o K L q n R' ((i,d)::E) m) (ho:o[e]? = some p:=by exact rfl) (hg:p.guard=none:=by exact rfl) (hd:p.dst=some i:=by exact rfl) (hi:Nat.blt i Γ.N=true:=by exact rfl) (hR:R.erase e=R':=by exact rfl) (h:OpP Tryz.prog p (Env.only (Ah o p) (E++L)) m d:=by exact qO):GDS Γ Tryz.prog o K L q n R e E m:=BP ho hg hd hi hR h (by rintro _ _ ⟨rfl,rfl⟩;exact k)
theorem Fy:FieldIs Tryz.prog 143 0 0 1 false:=⟨⟨_,_,runUnderlying143,rfl,rfl,sizeOf4,by decide,isAgg4⟩⟩
theorem JA:FieldIs Tryz.prog 143 1 1 4 true:=⟨⟨_,_,runUnderlying143,rfl,rfl,sizeOf49,by decide,isAgg49⟩⟩
def TB.d (v:Bool×NodeB AFd):D := .agg [.bool v.1,.i64 v.2.kind,.i64 v.2.a,.i64 v.2.b,.v (.slice v.2.p v.2.m v.2.c)]
def nodN (x:NodeB AFd):ANd:=⟨x.kind,x.a,x.b,x.fl⟩
def ndB (k a b:Int):NodeB AFd:=⟨k,a,b,[],none,0,0⟩
def evB (p:Bool):Int:=bif p then 1 else 2
def thA (s:AutoState):List (Bool×NodeB AFd):=[(s.all,ndB (evB s.plus) 0 0),(s.int,ndB 3 0 0),(s.bool,ndB 4 0 0),(s.str,ndB 5 0 0)]
def thC (s:AutoState) (x y:NodeB AFd):List (Bool×NodeB AFd):=[(s.arrow,ndB 6 s.dom s.cod),(s.rec_,x),(s.tag,y)]
def onB (l:List (Bool×NodeB AFd)):List ANd:=(l.filter (·.1)).map fun v=>nodN v.2
def Cb (s:AutoState):List ANd:=
 onB (thA s)++(s.vars.map fun v=>⟨11,v,0,[]⟩)++onB [(s.arrow,ndB 6 s.dom s.cod),(s.rec_,⟨7,0,0,s.fields.map edgeF,none,0,0⟩),(s.tag,⟨8,0,0,s.tags.map edgeF,none,0,0⟩)]
theorem Rt {b:Nat} {s:AutoState}:Fn0 Tryz.prog 68 [.v (.pointer (some ⟨b,0,none⟩)),AutoState.d s] (.clo (.func 98) [] [.ref (AutoState.d s),.ref (.i64 (evB s.plus)),.ref (.v (.pointer (some ⟨b,0,none⟩)))]):=by
 refine Ae func68 rfl ntmps68 rfl fun H0 fr w0=>?_;refine zq8 ?_;refine zal3a fun b1=>?_;refine zst 0 ?_;refine Aj (ms':=[box b1 3 [.i64 2]]) rfl ?_;refine zq7 ?_;refine gCd rfl (fun hc=>?_) (fun hc=>?_)
 ·have hp:s.plus=true:=hc
  refine gRg ?_;refine zst 0 ?_;refine Aj (ms':=[box b1 3 [.i64 1]]) rfl ?_;refine Ap (Gb (d := .i64 1) 0 5 rfl rfl rfl (ms':=[]) rfl) ?_;refine zq3 ?_;refine Ak rfl rfl rfl (Di (fs:=[]) (cs:=[_,_,_]) rfl rfl) ?_;refine zq2 ?_;refine Af ?_;exact retK (AV rfl (A6 rfl) (EL _)) (by unfold evB;rw [hp];rfl)
 ·have hp:s.plus=false:=hc
  refine zq3 ?_;refine Ap (Gb (d := .i64 2) 0 5 rfl rfl rfl (ms':=[]) rfl) ?_;refine Ak rfl rfl rfl (Di (fs:=[]) (cs:=[_,_,_]) rfl rfl) ?_;refine zq2 ?_;refine Af ?_;exact retK (AV rfl (A6 rfl) (EL _)) (by unfold evB;rw [hp];rfl)
section
variable {P:Program} {L:Env} {ms:List Asrt} {dst:Option Nat} {ty:TypeId} {pos:String} {after:Array Edge} {g:Option (Nat×Bool)} {x:Operand}
theorem H7 {args:List Operand} {ats:Array TypeId} {ds:List D} {y:D} {tl As own:List Asrt} {R:D->List Asrt->Prop} (hx:Env.ev L x=some y) (hev:evL L args=some ds) (hp:ms.Perm ((As++tl)++own)) (hf:FV P y ds (As++tl) R) :
  OpT P ⟨dst,.call ⟨.value x,args.toArray,ats⟩,ty,pos,after,g⟩ L ms (fun d ms'=>∃ tl',R d tl'/\ms'=own++tl'):=by
 have:=Ji (P:=P) (L:=L) (ms:=ms) (dst:=dst) (ty:=ty) (pos:=pos) (after:=after) (g:=g) (ats:=ats) (ms₁:=As++tl) (rest:=own) hx hev hp hf
 intro ro H fr a w hok henv next Q hn
 refine this ro H fr a w hok henv next Q ?_;rintro v d ms' w' H' ⟨tl',hR,rfl⟩ hle hok' hc' hs;exact hn v d _ w' H' ⟨tl',hR,rfl⟩ hle (hok'.perm ((List.perm_append_comm).append_right fr)) hc' hs
end
def nxT (P:List ANd) (q:List ANd) (ds:List D) (As:List Asrt) (q':List ANd):Prop:=
 ∃ x:NodeB AFd,ds=[x.d]/\As=[x.own 71 2 AFd.d]/\q'=q++[nodN x]/\q' <+: P
theorem Jp {l:List (Bool×NodeB AFd)} {i:Nat} {b:Bool} {x:NodeB AFd} (h:l[i]? = some (b,x)):onB (l.take (i+1))=onB (l.take i)++(bif b then [nodN x] else []):=by
 unfold onB;rw [Ic h,List.filter_append,List.map_append]
 cases b <;> rfl
theorem Qy (l:List (Bool×NodeB AFd)) (i:Nat):onB (l.take i) <+: onB l:=by
 unfold onB;exact ((List.take_prefix i l).filter _).map _
theorem PA {b:Nat} {s:AutoState} (hf:s.fields.length<=1000) (ht:s.tags.length<=1000) (hv:s.vars.length<=1000) :
  IterT Tryz.prog 98 [.ref (AutoState.d s),.ref (.i64 (evB s.plus)),.ref (.v (.pointer (some ⟨b,0,none⟩)))] ([]:List ANd) (nxT (Cb s)) (· = Cb s):=by
 intro y hys J Jx hy tl_0 hJ_0
 refine Ae func98 rfl ntmps98 rfl fun H0 fr w0=>?_;refine zq6 ?_;refine Ak rfl rfl rfl (Aw (zs:=[.v (.int .i64 0),.v (.int .i64 0),.v (.int .i64 0),.v (.slice none 0 0)]) runUnderlying49 zeroValue49 (E8 _ runUnderlying49) rfl rfl rfl rfl) ?_;refine Ak rfl rfl rfl (Aw (zs:=[.bool false,.v (.int .i64 0),.v (.int .i64 0),.v (.int .i64 0),.v (.slice none 0 0)]) runUnderlying143 zeroValue143 (Cx _ runUnderlying143) rfl rfl rfl rfl) ?_;refine zq2 ?_;refine Ak rfl rfl rfl (Aw (zs:=[.v (.int .i64 0),.v (.int .i64 0),.v (.int .i64 0),.v (.slice none 0 0)]) runUnderlying49 zeroValue49 (E8 _ runUnderlying49) rfl rfl rfl rfl) ?_;refine Ak rfl rfl rfl (Aw (zs:=[.bool false,.v (.int .i64 0),.v (.int .i64 0),.v (.int .i64 0),.v (.slice none 0 0)]) runUnderlying143 zeroValue143 (Cx _ runUnderlying143) rfl rfl rfl rfl) ?_;refine zq2 ?_;refine Ak rfl rfl rfl (Aw (zs:=[.v (.int .i64 0),.v (.int .i64 0),.v (.int .i64 0),.v (.slice none 0 0)]) runUnderlying49 zeroValue49 (E8 _ runUnderlying49) rfl rfl rfl rfl) ?_;refine Ak rfl rfl rfl (Aw (zs:=[.bool false,.v (.int .i64 0),.v (.int .i64 0),.v (.int .i64 0),.v (.slice none 0 0)]) runUnderlying143 zeroValue143 (Cx _ runUnderlying143) rfl rfl rfl rfl) ?_;refine zq2 ?_;refine Ak rfl rfl rfl (Aw (zs:=[.v (.int .i64 0),.v (.int .i64 0),.v (.int .i64 0),.v (.slice none 0 0)]) runUnderlying49 zeroValue49 (E8 _ runUnderlying49) rfl rfl rfl rfl) ?_;refine Ak rfl rfl rfl (Aw (zs:=[.bool false,.v (.int .i64 0),.v (.int .i64 0),.v (.int .i64 0),.v (.slice none 0 0)]) runUnderlying143 zeroValue143 (Cx _ runUnderlying143) rfl rfl rfl rfl) ?_;refine Ak rfl rfl rfl (Ai (xs:=[_,_,_,_]) (f:=TB.d) (l:=thA s) runUnderlying144 sizeOf143 zeroValue143 rfl rfl rfl (fun _=>⟨rfl,rfl,rfl⟩) rfl) ?_;refine zq3 ?_
 have hP:Cb s=onB (thA s)++((s.vars.map fun v=>(⟨11,v,0,[]⟩:ANd))++onB [(s.arrow,ndB 6 s.dom s.cod),(s.rec_,⟨7,0,0,s.fields.map edgeF,none,0,0⟩),(s.tag,⟨8,0,0,s.tags.map edgeF,none,0,0⟩)]):=by unfold Cb;rw [List.append_assoc]
 generalize hC:onB [(s.arrow,ndB 6 s.dom s.cod),(s.rec_,(⟨7,0,0,s.fields.map edgeF,none,0,0⟩:NodeB AFd)),(s.tag,⟨8,0,0,s.tags.map edgeF,none,0,0⟩)]=pC at hP
 refine Aq ?_;refine EZ [(0,_),(1,_),(3,_),(28,_),(29,_)] (fun (z:Nat×List Asrt)=>z.1<=4/\J (onB ((thA s).take z.1)) z.2) (fun z=>[(30,.i64 (z.1:Int))]) (fun z=>z.2) (fun z=>4 - z.1) (0,tl_0) ⟨Nat.zero_le _,hJ_0⟩ ⟨rfl,rfl,rfl,rfl,rfl,trivial⟩ ⟨rfl,trivial⟩ rfl ?_;rintro ⟨i,tl⟩ ⟨hi,hJ⟩
 have hi:i<=4:=hi
 have hJ:J (onB ((thA s).take i)) tl:=hJ
 refine At (L':=[(30,.i64 (i:Int)),(0,_),(1,_),(3,_),(28,_),(29,_)]) (ms':=tl) rfl rfl ?_;refine zq5 ?_;refine gCd rfl (fun hc=>?_) (fun hc=>?_)
 ·have hlt:i<4:=by have h:=of_decide_eq_true hc;have h3:((thA s).length:Int)=4:=rfl;omega
  obtain ⟨bv,k,hx0⟩:∃ bv k,(thA s)[i]? = some (bv,ndB k 0 0):=by
   rcases i with _ | _ | _ | _ | i
   ·exact ⟨_,_,rfl⟩
   ·exact ⟨_,_,rfl⟩
   ·exact ⟨_,_,rfl⟩
   ·exact ⟨_,_,rfl⟩
   ·omega
  have hpre:onB ((thA s).take (i+1)) <+: Cb s:=by rw [hP];exact (Qy _ _).trans (List.prefix_append _ _)
  have hstep:=Jp hx0
  have hx:idx (thA s) (i:Int)=some (bv,ndB k 0 0):=getI hx0
  refine zq5 ?_;refine Ak rfl rfl rfl (oIm runUnderlying144 sizeOf143 rfl rfl hx) ?_;refine zq1 ?_;refine KI fun b1=>?_
  cases bv with
  | true =>
   refine zst 0 ?_;refine Aj (ms':=[box b1 143 [.bool true,.i64 k,.i64 0,.i64 0,.v (.slice none 0 0)]]++tl) rfl ?_;refine zq3 ?_;refine Ak rfl rfl rfl (oFb Fy rfl) ?_;refine zq3 ?_;refine gWp rfl rfl rfl rfl rfl rfl (oFb JA rfl) ?_;refine zq1 ?_;refine Ap (BF (T:=71) (sz:=2) (f:=AFd.d)) ?_;refine Jh rfl rfl rfl rfl rfl rfl (H7 (tl:=tl) (As:=[NodeB.own 71 2 AFd.d (ndB k 0 0)]) (own:=[box b1 143 [.bool true,.i64 k,.i64 0,.i64 0,.v (.slice none 0 0)]]) rfl rfl ((List.perm_append_comm (l₁:=[box b1 143 [.bool true,.i64 k,.i64 0,.i64 0,.v (.slice none 0 0)]]) (l₂:=tl)).cons _) (hy _ [NodeB.d (ndB k 0 0)] _ (onB ((thA s).take (i+1))) tl ⟨ndB k 0 0,rfl,rfl,hstep,hpre⟩ hJ)) ?_;rintro _ _ ⟨tl',⟨rfl,hJ'⟩ | ⟨rfl,hJx⟩,rfl⟩
   ·refine zq3 ?_
    refine Bo rfl rfl ?_;refine zq2 ?_;refine Ak rfl rfl rfl (Gn rfl rfl (CS (by constructor <;> omega))) ?_;refine zq2 ?_;exact ⟨(i+1,tl'),⟨by show i+1<=4;omega,hJ'⟩,by show 4 - (i+1)<4 - i;omega,⟨rfl,trivial⟩,⟨rfl,rfl,rfl,rfl,rfl,trivial⟩,[_],rfl⟩
   ·refine zq3 ?_
    refine Ce rfl rfl ?_;refine Af ?_;exact retK (Cp (ms':=tl') (drop:=[_]) rfl (List.Perm.refl _)) (.inr hJx)
  | false =>
   refine zst 0 ?_;refine Aj (ms':=[box b1 143 [.bool false,.i64 k,.i64 0,.i64 0,.v (.slice none 0 0)]]++tl) rfl ?_;refine zq3 ?_;refine Ak rfl rfl rfl (oFb Fy rfl) ?_;refine zq9 ?_;refine Bo rfl rfl ?_;refine zq2 ?_;refine Ak rfl rfl rfl (Gn rfl rfl (CS (by constructor <;> omega))) ?_;refine zq2 ?_
   have hJ2:J (onB ((thA s).take (i+1))) tl:=by rw [hstep,cF_,List.append_nil];exact hJ
   exact ⟨(i+1,tl),⟨by show i+1<=4;omega,hJ2⟩,by show 4 - (i+1)<4 - i;omega,⟨rfl,trivial⟩,⟨rfl,rfl,rfl,rfl,rfl,trivial⟩,[_],rfl⟩
 ·have hge:i=4:=by have h:=of_decide_eq_false hc;have h3:((thA s).length:Int)=4:=rfl;omega
  subst hge
  clear hi hc
  have hJ:J (onB (thA s)) tl:=hJ
  refine Au ?_;refine An (L':=[(31,_),(30,_),(0,_),(1,_),(3,_),(28,_),(29,_)]) (ms':=tl) rfl rfl ?_;refine zq9 ?_;refine EZ [(0,_),(1,_),(3,_),(45,_),(46,_)] (fun (z:Nat×List Asrt)=>z.1<=s.vars.length/\J (onB (thA s)++(s.vars.take z.1).map fun v=>(⟨11,v,0,[]⟩:ANd)) z.2) (fun z=>[(47,.i64 (z.1:Int))]) (fun z=>z.2) (fun z=>s.vars.length - z.1) (0,tl) ⟨Nat.zero_le _,by rw [List.take_zero,List.map_nil,List.append_nil];exact hJ⟩ ⟨rfl,rfl,rfl,rfl,rfl,trivial⟩ ⟨rfl,trivial⟩ rfl ?_;rintro ⟨i,tl⟩ ⟨hi,hJ⟩
  have hi:i<=s.vars.length:=hi
  have hJ:J (onB (thA s)++(s.vars.take i).map fun v=>(⟨11,v,0,[]⟩:ANd)) tl:=hJ
  refine At (L':=[(47,.i64 (i:Int)),(0,_),(1,_),(3,_),(45,_),(46,_)]) (ms':=tl) rfl rfl ?_;refine zq5 ?_;refine gCd rfl (fun hc=>?_) (fun hc=>?_)
  ·have hlt:i<s.vars.length:=by have h:=of_decide_eq_true hc;omega
   have hx0:s.vars[i]? = some s.vars[i]:=List.getElem?_eq_getElem hlt
   generalize s.vars[i]=v at hx0
   have hx:idx s.vars (i:Int)=some v:=getI hx0
   have hstep:(onB (thA s)++(s.vars.take (i+1)).map fun v=>(⟨11,v,0,[]⟩:ANd))=(onB (thA s)++(s.vars.take i).map fun v=>(⟨11,v,0,[]⟩:ANd))++[nodN (ndB 11 v 0)]:=by rw [Ic hx0,List.map_append,List.append_assoc];rfl
   have hpre:(onB (thA s)++(s.vars.take (i+1)).map fun v=>(⟨11,v,0,[]⟩:ANd)) <+: Cb s:=by rw [hP];exact List.prefix_append_right_inj _ |>.2 (((List.take_prefix _ _).map _).trans (List.prefix_append _ _))
   refine zq5 ?_;refine Ak rfl rfl rfl (oIm runUnderlying43 sizeOf3 rfl rfl hx) ?_;refine zq7 ?_;refine Ak rfl rfl rfl (Aw (zs:=[.v (.int .i64 0),.v (.int .i64 0),.v (.int .i64 0),.v (.slice none 0 0)]) runUnderlying49 zeroValue49 (E8 _ runUnderlying49) rfl rfl rfl rfl) ?_;refine Ap (BF (T:=71) (sz:=2) (f:=AFd.d)) ?_;refine AJ rfl rfl rfl (H7 (tl:=tl) (As:=[NodeB.own 71 2 AFd.d (ndB 11 v 0)]) (own:=[]) rfl rfl (by rw [List.append_nil];exact List.Perm.refl _) (hy _ [NodeB.d (ndB 11 v 0)] _ _ tl ⟨ndB 11 v 0,rfl,rfl,hstep,hpre⟩ hJ)) ?_;rintro _ tl' ⟨_,⟨rfl,hJ'⟩ | ⟨rfl,hJx⟩,rfl⟩
   ·refine zq2 ?_
    refine Bo rfl rfl ?_;refine zq2 ?_;refine Ak rfl rfl rfl (Gn rfl rfl (CS (by constructor <;> omega))) ?_;refine zq2 ?_;exact ⟨(i+1,tl'),⟨by show i+1<=s.vars.length;omega,hJ'⟩,by show s.vars.length - (i+1)<s.vars.length - i;omega,⟨rfl,trivial⟩,⟨rfl,rfl,rfl,rfl,rfl,trivial⟩,[],rfl⟩
   ·refine zq2 ?_
    refine Ce rfl rfl ?_;refine Af ?_;exact retK (Cp (ms':=tl') (drop:=[]) rfl (List.Perm.refl _)) (.inr hJx)
  ·have hge:i=s.vars.length:=by have h:=of_decide_eq_false hc;omega
   subst hge;rw [List.take_length] at hJ
   clear hi hc
   refine Au ?_;refine An (L':=[(48,_),(47,_),(0,_),(1,_),(3,_),(45,_),(46,_)]) (ms':=tl) rfl rfl ?_;refine Gl ?_;refine Sz (σ:=(Option Addr×Nat×Nat)×Option Addr×Nat×Nat) (fun z=>match z with | ((a1,m1,c1),a2,m2,c2)=>[(83,.i64 0),(82,.i64 3),(81,.list 5 TB.d (thC s (⟨7,0,0,s.fields.map edgeF,a1,m1,c1⟩:NodeB AFd) (⟨8,0,0,s.tags.map edgeF,a2,m2,c2⟩:NodeB AFd)))]) (fun z=>match z with | ((a1,m1,c1),a2,m2,c2)=>[NodeB.own 71 2 AFd.d (⟨7,0,0,s.fields.map edgeF,a1,m1,c1⟩:NodeB AFd),NodeB.own 71 2 AFd.d (⟨8,0,0,s.tags.map edgeF,a2,m2,c2⟩:NodeB AFd)]++tl) ?_ ?_
   ·refine SM [13,14,15,21,22,23,24,25] AY (by decide +kernel) (by decide +kernel) (by decide) _ rfl ?_
    refine EO rfl rfl rfl rfl (oFa NH rfl rfl rfl) ?_;refine EO rfl rfl rfl rfl (BK isAgg4 rfl rfl) ?_;refine EO rfl rfl rfl rfl (oFa Jv rfl rfl rfl) ?_;refine EO rfl rfl rfl rfl (BK isAgg3 rfl rfl) ?_;refine EO rfl rfl rfl rfl (oFa HV rfl rfl rfl) ?_;refine EO rfl rfl rfl rfl (BK isAgg3 rfl rfl) ?_;refine EO rfl rfl rfl rfl (Aw (zs:=[.v (.int .i64 0),.v (.int .i64 0),.v (.int .i64 0),.v (.slice none 0 0)]) runUnderlying49 zeroValue49 (E8 _ runUnderlying49) rfl rfl rfl rfl) ?_;refine EO rfl rfl rfl rfl (Aw (zs:=[.bool false,.v (.int .i64 0),.v (.int .i64 0),.v (.int .i64 0),.v (.slice none 0 0)]) runUnderlying143 zeroValue143 (Cx _ runUnderlying143) rfl rfl rfl rfl) ?_;refine EO rfl rfl rfl rfl (oFa Nz rfl rfl rfl) ?_;refine EO rfl rfl rfl rfl (BK isAgg4 rfl rfl) ?_;refine EO rfl rfl rfl rfl (BK isAgg63 rfl rfl) ?_;refine EO rfl rfl rfl rfl (oFa O1 rfl rfl rfl) ?_;refine EO rfl rfl rfl rfl (BK isAgg57 rfl rfl) ?_;refine Ku rfl ?_;refine Ku rfl ?_;refine Ku rfl ?_;refine EO rfl rfl rfl rfl (oFa Nt rfl rfl rfl) ?_;refine EO rfl rfl rfl rfl (BK isAgg4 rfl rfl) ?_;refine EO rfl rfl rfl rfl (BK isAgg63 rfl rfl) ?_;refine EO rfl rfl rfl rfl (oFa Of rfl rfl rfl) ?_;refine EO rfl rfl rfl rfl (BK isAgg57 rfl rfl) ?_;refine Ku rfl ?_;refine Ku rfl ?_;refine Ku rfl ?_;refine Ku rfl ?_;refine Ku rfl ?_;refine EO rfl rfl rfl rfl (oMv rfl) ?_;refine Uc ?_;refine zg1 13 ?_;refine BP (R':=[14,15,21,22,23,24,25]) rfl rfl rfl rfl (by decide) (D5 (ms₁:=[]) call99 rfl (List.Perm.refl _) (Ij hf)) ?_;rintro _ _ ⟨_,⟨a1,m1,c1,rfl,rfl⟩,rfl⟩;refine zg2 14 21 ?_ ?_
    ·refine BP (R':=[15,21,22,23,24,25]) rfl rfl rfl rfl (by decide) (Aw (zs:=[.v (.int .i64 0),.v (.int .i64 0),.v (.int .i64 0),.v (.slice none 0 0)]) runUnderlying49 zeroValue49 (E8 _ runUnderlying49) rfl rfl rfl rfl) ?_
     rintro _ _ ⟨rfl,rfl⟩;refine zg2 15 21 ?_ ?_
     ·refine BP (R':=[21,22,23,24,25]) rfl rfl rfl rfl (by decide) (Aw (zs:=[.bool false,.v (.int .i64 0),.v (.int .i64 0),.v (.int .i64 0),.v (.slice none 0 0)]) runUnderlying143 zeroValue143 (Cx _ runUnderlying143) rfl rfl rfl rfl) ?_
      rintro _ _ ⟨rfl,rfl⟩;refine zg1 21 ?_;refine BP (R':=[22,23,24,25]) rfl rfl rfl rfl (by decide) (D5 (ms₁:=[]) call99 rfl (List.Perm.refl _) (Ij ht)) ?_;rintro _ _ ⟨_,⟨a2,m2,c2,rfl,rfl⟩,rfl⟩;refine zg1 22 ?_;refine BP (R':=[23,24,25]) rfl rfl rfl rfl (by decide) (Aw (zs:=[.v (.int .i64 0),.v (.int .i64 0),.v (.int .i64 0),.v (.slice none 0 0)]) runUnderlying49 zeroValue49 (E8 _ runUnderlying49) rfl rfl rfl rfl) ?_;rintro _ _ ⟨rfl,rfl⟩;refine zg1 23 ?_;refine BP (R':=[24,25]) rfl rfl rfl rfl (by decide) (Aw (zs:=[.bool false,.v (.int .i64 0),.v (.int .i64 0),.v (.int .i64 0),.v (.slice none 0 0)]) runUnderlying143 zeroValue143 (Cx _ runUnderlying143) rfl rfl rfl rfl) ?_;rintro _ _ ⟨rfl,rfl⟩;refine zg1 24 ?_;refine BP (R':=[25]) rfl rfl rfl rfl (by decide) (Ai (xs:=[_,_,_]) (f:=TB.d) (l:=(thC s (⟨7,0,0,s.fields.map edgeF,a1,m1,c1⟩:NodeB AFd) (⟨8,0,0,s.tags.map edgeF,a2,m2,c2⟩:NodeB AFd))) runUnderlying144 sizeOf143 zeroValue143 rfl rfl rfl (fun _=>⟨rfl,rfl,rfl⟩) rfl) ?_;rintro _ _ ⟨rfl,rfl⟩;refine zg1 25 ?_;refine zgp ?_;exact Er ((a1,m1,c1),a2,m2,c2) (Fj (M0:=[(83,_),(82,_),(81,_)]) (N0:=[(82,_),(81,_),(80,_),(79,_),(78,_),(72,_),(71,_),(70,_),(83,_),(77,_),(76,_),(75,_),(74,_),(73,_),(69,_),(68,_),(67,_),(66,_),(65,_),(64,_),(63,_),(62,_),(61,_),(60,_),(59,_),(58,_),(57,_)]) (by intro p hp;simp only [List.mem_cons,List.not_mem_nil,or_false] at hp;rcases hp with rfl | rfl | rfl <;> rfl) (by intro p hp;simp only [List.mem_cons,List.not_mem_nil,or_false] at hp;rcases hp with rfl | rfl | rfl | rfl | rfl | rfl | rfl | rfl | rfl | rfl | rfl | rfl | rfl | rfl | rfl | rfl | rfl | rfl | rfl | rfl | rfl | rfl | rfl | rfl | rfl | rfl | rfl <;> first | exact .inr rfl | exact .inl rfl)) (List.Perm.swap _ _ _)
     ·refine BP (R':=[15,22,23,24,25]) rfl rfl rfl rfl (by decide) (D5 (ms₁:=[]) call99 rfl (List.Perm.refl _) (Ij ht)) ?_
      rintro _ _ ⟨_,⟨a2,m2,c2,rfl,rfl⟩,rfl⟩;refine zg2 15 22 ?_ ?_
      ·refine BP (R':=[22,23,24,25]) rfl rfl rfl rfl (by decide) (Aw (zs:=[.bool false,.v (.int .i64 0),.v (.int .i64 0),.v (.int .i64 0),.v (.slice none 0 0)]) runUnderlying143 zeroValue143 (Cx _ runUnderlying143) rfl rfl rfl rfl) ?_
       rintro _ _ ⟨rfl,rfl⟩;refine zg1 22 ?_;refine BP (R':=[23,24,25]) rfl rfl rfl rfl (by decide) (Aw (zs:=[.v (.int .i64 0),.v (.int .i64 0),.v (.int .i64 0),.v (.slice none 0 0)]) runUnderlying49 zeroValue49 (E8 _ runUnderlying49) rfl rfl rfl rfl) ?_;rintro _ _ ⟨rfl,rfl⟩;refine zg1 23 ?_;refine BP (R':=[24,25]) rfl rfl rfl rfl (by decide) (Aw (zs:=[.bool false,.v (.int .i64 0),.v (.int .i64 0),.v (.int .i64 0),.v (.slice none 0 0)]) runUnderlying143 zeroValue143 (Cx _ runUnderlying143) rfl rfl rfl rfl) ?_;rintro _ _ ⟨rfl,rfl⟩;refine zg1 24 ?_;refine BP (R':=[25]) rfl rfl rfl rfl (by decide) (Ai (xs:=[_,_,_]) (f:=TB.d) (l:=(thC s (⟨7,0,0,s.fields.map edgeF,a1,m1,c1⟩:NodeB AFd) (⟨8,0,0,s.tags.map edgeF,a2,m2,c2⟩:NodeB AFd))) runUnderlying144 sizeOf143 zeroValue143 rfl rfl rfl (fun _=>⟨rfl,rfl,rfl⟩) rfl) ?_;rintro _ _ ⟨rfl,rfl⟩;refine zg1 25 ?_;refine zgp ?_;exact Er ((a1,m1,c1),a2,m2,c2) (Fj (M0:=[(83,_),(82,_),(81,_)]) (N0:=[(82,_),(81,_),(80,_),(79,_),(72,_),(78,_),(71,_),(70,_),(83,_),(77,_),(76,_),(75,_),(74,_),(73,_),(69,_),(68,_),(67,_),(66,_),(65,_),(64,_),(63,_),(62,_),(61,_),(60,_),(59,_),(58,_),(57,_)]) (by intro p hp;simp only [List.mem_cons,List.not_mem_nil,or_false] at hp;rcases hp with rfl | rfl | rfl <;> rfl) (by intro p hp;simp only [List.mem_cons,List.not_mem_nil,or_false] at hp;rcases hp with rfl | rfl | rfl | rfl | rfl | rfl | rfl | rfl | rfl | rfl | rfl | rfl | rfl | rfl | rfl | rfl | rfl | rfl | rfl | rfl | rfl | rfl | rfl | rfl | rfl | rfl | rfl <;> first | exact .inr rfl | exact .inl rfl)) (List.Perm.swap _ _ _)
      ·refine BP (R':=[15,23,24,25]) rfl rfl rfl rfl (by decide) (Aw (zs:=[.v (.int .i64 0),.v (.int .i64 0),.v (.int .i64 0),.v (.slice none 0 0)]) runUnderlying49 zeroValue49 (E8 _ runUnderlying49) rfl rfl rfl rfl) ?_
       rintro _ _ ⟨rfl,rfl⟩;refine zg2 15 23 ?_ ?_
       ·refine BP (R':=[23,24,25]) rfl rfl rfl rfl (by decide) (Aw (zs:=[.bool false,.v (.int .i64 0),.v (.int .i64 0),.v (.int .i64 0),.v (.slice none 0 0)]) runUnderlying143 zeroValue143 (Cx _ runUnderlying143) rfl rfl rfl rfl) ?_
        rintro _ _ ⟨rfl,rfl⟩;refine zg1 23 ?_;refine BP (R':=[24,25]) rfl rfl rfl rfl (by decide) (Aw (zs:=[.bool false,.v (.int .i64 0),.v (.int .i64 0),.v (.int .i64 0),.v (.slice none 0 0)]) runUnderlying143 zeroValue143 (Cx _ runUnderlying143) rfl rfl rfl rfl) ?_;rintro _ _ ⟨rfl,rfl⟩;refine zg1 24 ?_;refine BP (R':=[25]) rfl rfl rfl rfl (by decide) (Ai (xs:=[_,_,_]) (f:=TB.d) (l:=(thC s (⟨7,0,0,s.fields.map edgeF,a1,m1,c1⟩:NodeB AFd) (⟨8,0,0,s.tags.map edgeF,a2,m2,c2⟩:NodeB AFd))) runUnderlying144 sizeOf143 zeroValue143 rfl rfl rfl (fun _=>⟨rfl,rfl,rfl⟩) rfl) ?_;rintro _ _ ⟨rfl,rfl⟩;refine zg1 25 ?_;refine zgp ?_;exact Er ((a1,m1,c1),a2,m2,c2) (Fj (M0:=[(83,_),(82,_),(81,_)]) (N0:=[(82,_),(81,_),(80,_),(72,_),(79,_),(78,_),(71,_),(70,_),(83,_),(77,_),(76,_),(75,_),(74,_),(73,_),(69,_),(68,_),(67,_),(66,_),(65,_),(64,_),(63,_),(62,_),(61,_),(60,_),(59,_),(58,_),(57,_)]) (by intro p hp;simp only [List.mem_cons,List.not_mem_nil,or_false] at hp;rcases hp with rfl | rfl | rfl <;> rfl) (by intro p hp;simp only [List.mem_cons,List.not_mem_nil,or_false] at hp;rcases hp with rfl | rfl | rfl | rfl | rfl | rfl | rfl | rfl | rfl | rfl | rfl | rfl | rfl | rfl | rfl | rfl | rfl | rfl | rfl | rfl | rfl | rfl | rfl | rfl | rfl | rfl | rfl <;> first | exact .inr rfl | exact .inl rfl)) (List.Perm.swap _ _ _)
       ·refine BP (R':=[15,24,25]) rfl rfl rfl rfl (by decide) (Aw (zs:=[.bool false,.v (.int .i64 0),.v (.int .i64 0),.v (.int .i64 0),.v (.slice none 0 0)]) runUnderlying143 zeroValue143 (Cx _ runUnderlying143) rfl rfl rfl rfl) ?_
        rintro _ _ ⟨rfl,rfl⟩;refine zg1 15 ?_;refine BP (R':=[24,25]) rfl rfl rfl rfl (by decide) (Aw (zs:=[.bool false,.v (.int .i64 0),.v (.int .i64 0),.v (.int .i64 0),.v (.slice none 0 0)]) runUnderlying143 zeroValue143 (Cx _ runUnderlying143) rfl rfl rfl rfl) ?_;rintro _ _ ⟨rfl,rfl⟩;refine zg1 24 ?_;refine BP (R':=[25]) rfl rfl rfl rfl (by decide) (Ai (xs:=[_,_,_]) (f:=TB.d) (l:=(thC s (⟨7,0,0,s.fields.map edgeF,a1,m1,c1⟩:NodeB AFd) (⟨8,0,0,s.tags.map edgeF,a2,m2,c2⟩:NodeB AFd))) runUnderlying144 sizeOf143 zeroValue143 rfl rfl rfl (fun _=>⟨rfl,rfl,rfl⟩) rfl) ?_;rintro _ _ ⟨rfl,rfl⟩;refine zg1 25 ?_;refine zgp ?_;exact Er ((a1,m1,c1),a2,m2,c2) (Fj (M0:=[(83,_),(82,_),(81,_)]) (N0:=[(82,_),(81,_),(72,_),(80,_),(79,_),(78,_),(71,_),(70,_),(83,_),(77,_),(76,_),(75,_),(74,_),(73,_),(69,_),(68,_),(67,_),(66,_),(65,_),(64,_),(63,_),(62,_),(61,_),(60,_),(59,_),(58,_),(57,_)]) (by intro p hp;simp only [List.mem_cons,List.not_mem_nil,or_false] at hp;rcases hp with rfl | rfl | rfl <;> rfl) (by intro p hp;simp only [List.mem_cons,List.not_mem_nil,or_false] at hp;rcases hp with rfl | rfl | rfl | rfl | rfl | rfl | rfl | rfl | rfl | rfl | rfl | rfl | rfl | rfl | rfl | rfl | rfl | rfl | rfl | rfl | rfl | rfl | rfl | rfl | rfl | rfl | rfl <;> first | exact .inr rfl | exact .inl rfl)) (List.Perm.swap _ _ _)
    ·refine BP (R':=[14,15,22,23,24,25]) rfl rfl rfl rfl (by decide) (D5 (ms₁:=[]) call99 rfl (List.Perm.refl _) (Ij ht)) ?_
     rintro _ _ ⟨_,⟨a2,m2,c2,rfl,rfl⟩,rfl⟩;refine zg2 14 22 ?_ ?_
     ·refine BP (R':=[15,22,23,24,25]) rfl rfl rfl rfl (by decide) (Aw (zs:=[.v (.int .i64 0),.v (.int .i64 0),.v (.int .i64 0),.v (.slice none 0 0)]) runUnderlying49 zeroValue49 (E8 _ runUnderlying49) rfl rfl rfl rfl) ?_
      rintro _ _ ⟨rfl,rfl⟩;refine zg2 15 22 ?_ ?_
      ·refine BP (R':=[22,23,24,25]) rfl rfl rfl rfl (by decide) (Aw (zs:=[.bool false,.v (.int .i64 0),.v (.int .i64 0),.v (.int .i64 0),.v (.slice none 0 0)]) runUnderlying143 zeroValue143 (Cx _ runUnderlying143) rfl rfl rfl rfl) ?_
       rintro _ _ ⟨rfl,rfl⟩;refine zg1 22 ?_;refine BP (R':=[23,24,25]) rfl rfl rfl rfl (by decide) (Aw (zs:=[.v (.int .i64 0),.v (.int .i64 0),.v (.int .i64 0),.v (.slice none 0 0)]) runUnderlying49 zeroValue49 (E8 _ runUnderlying49) rfl rfl rfl rfl) ?_;rintro _ _ ⟨rfl,rfl⟩;refine zg1 23 ?_;refine BP (R':=[24,25]) rfl rfl rfl rfl (by decide) (Aw (zs:=[.bool false,.v (.int .i64 0),.v (.int .i64 0),.v (.int .i64 0),.v (.slice none 0 0)]) runUnderlying143 zeroValue143 (Cx _ runUnderlying143) rfl rfl rfl rfl) ?_;rintro _ _ ⟨rfl,rfl⟩;refine zg1 24 ?_;refine BP (R':=[25]) rfl rfl rfl rfl (by decide) (Ai (xs:=[_,_,_]) (f:=TB.d) (l:=(thC s (⟨7,0,0,s.fields.map edgeF,a1,m1,c1⟩:NodeB AFd) (⟨8,0,0,s.tags.map edgeF,a2,m2,c2⟩:NodeB AFd))) runUnderlying144 sizeOf143 zeroValue143 rfl rfl rfl (fun _=>⟨rfl,rfl,rfl⟩) rfl) ?_;rintro _ _ ⟨rfl,rfl⟩;refine zg1 25 ?_;refine zgp ?_;exact Er ((a1,m1,c1),a2,m2,c2) (Fj (M0:=[(83,_),(82,_),(81,_)]) (N0:=[(82,_),(81,_),(80,_),(79,_),(72,_),(71,_),(78,_),(70,_),(83,_),(77,_),(76,_),(75,_),(74,_),(73,_),(69,_),(68,_),(67,_),(66,_),(65,_),(64,_),(63,_),(62,_),(61,_),(60,_),(59,_),(58,_),(57,_)]) (by intro p hp;simp only [List.mem_cons,List.not_mem_nil,or_false] at hp;rcases hp with rfl | rfl | rfl <;> rfl) (by intro p hp;simp only [List.mem_cons,List.not_mem_nil,or_false] at hp;rcases hp with rfl | rfl | rfl | rfl | rfl | rfl | rfl | rfl | rfl | rfl | rfl | rfl | rfl | rfl | rfl | rfl | rfl | rfl | rfl | rfl | rfl | rfl | rfl | rfl | rfl | rfl | rfl <;> first | exact .inr rfl | exact .inl rfl)) (List.Perm.swap _ _ _)
      ·refine BP (R':=[15,23,24,25]) rfl rfl rfl rfl (by decide) (Aw (zs:=[.v (.int .i64 0),.v (.int .i64 0),.v (.int .i64 0),.v (.slice none 0 0)]) runUnderlying49 zeroValue49 (E8 _ runUnderlying49) rfl rfl rfl rfl) ?_
       rintro _ _ ⟨rfl,rfl⟩;refine zg2 15 23 ?_ ?_
       ·refine BP (R':=[23,24,25]) rfl rfl rfl rfl (by decide) (Aw (zs:=[.bool false,.v (.int .i64 0),.v (.int .i64 0),.v (.int .i64 0),.v (.slice none 0 0)]) runUnderlying143 zeroValue143 (Cx _ runUnderlying143) rfl rfl rfl rfl) ?_
        rintro _ _ ⟨rfl,rfl⟩;refine zg1 23 ?_;refine BP (R':=[24,25]) rfl rfl rfl rfl (by decide) (Aw (zs:=[.bool false,.v (.int .i64 0),.v (.int .i64 0),.v (.int .i64 0),.v (.slice none 0 0)]) runUnderlying143 zeroValue143 (Cx _ runUnderlying143) rfl rfl rfl rfl) ?_;rintro _ _ ⟨rfl,rfl⟩;refine zg1 24 ?_;refine BP (R':=[25]) rfl rfl rfl rfl (by decide) (Ai (xs:=[_,_,_]) (f:=TB.d) (l:=(thC s (⟨7,0,0,s.fields.map edgeF,a1,m1,c1⟩:NodeB AFd) (⟨8,0,0,s.tags.map edgeF,a2,m2,c2⟩:NodeB AFd))) runUnderlying144 sizeOf143 zeroValue143 rfl rfl rfl (fun _=>⟨rfl,rfl,rfl⟩) rfl) ?_;rintro _ _ ⟨rfl,rfl⟩;refine zg1 25 ?_;refine zgp ?_;exact Er ((a1,m1,c1),a2,m2,c2) (Fj (M0:=[(83,_),(82,_),(81,_)]) (N0:=[(82,_),(81,_),(80,_),(72,_),(79,_),(71,_),(78,_),(70,_),(83,_),(77,_),(76,_),(75,_),(74,_),(73,_),(69,_),(68,_),(67,_),(66,_),(65,_),(64,_),(63,_),(62,_),(61,_),(60,_),(59,_),(58,_),(57,_)]) (by intro p hp;simp only [List.mem_cons,List.not_mem_nil,or_false] at hp;rcases hp with rfl | rfl | rfl <;> rfl) (by intro p hp;simp only [List.mem_cons,List.not_mem_nil,or_false] at hp;rcases hp with rfl | rfl | rfl | rfl | rfl | rfl | rfl | rfl | rfl | rfl | rfl | rfl | rfl | rfl | rfl | rfl | rfl | rfl | rfl | rfl | rfl | rfl | rfl | rfl | rfl | rfl | rfl <;> first | exact .inr rfl | exact .inl rfl)) (List.Perm.swap _ _ _)
       ·refine BP (R':=[15,24,25]) rfl rfl rfl rfl (by decide) (Aw (zs:=[.bool false,.v (.int .i64 0),.v (.int .i64 0),.v (.int .i64 0),.v (.slice none 0 0)]) runUnderlying143 zeroValue143 (Cx _ runUnderlying143) rfl rfl rfl rfl) ?_
        rintro _ _ ⟨rfl,rfl⟩;refine zg1 15 ?_;refine BP (R':=[24,25]) rfl rfl rfl rfl (by decide) (Aw (zs:=[.bool false,.v (.int .i64 0),.v (.int .i64 0),.v (.int .i64 0),.v (.slice none 0 0)]) runUnderlying143 zeroValue143 (Cx _ runUnderlying143) rfl rfl rfl rfl) ?_;rintro _ _ ⟨rfl,rfl⟩;refine zg1 24 ?_;refine BP (R':=[25]) rfl rfl rfl rfl (by decide) (Ai (xs:=[_,_,_]) (f:=TB.d) (l:=(thC s (⟨7,0,0,s.fields.map edgeF,a1,m1,c1⟩:NodeB AFd) (⟨8,0,0,s.tags.map edgeF,a2,m2,c2⟩:NodeB AFd))) runUnderlying144 sizeOf143 zeroValue143 rfl rfl rfl (fun _=>⟨rfl,rfl,rfl⟩) rfl) ?_;rintro _ _ ⟨rfl,rfl⟩;refine zg1 25 ?_;refine zgp ?_;exact Er ((a1,m1,c1),a2,m2,c2) (Fj (M0:=[(83,_),(82,_),(81,_)]) (N0:=[(82,_),(81,_),(72,_),(80,_),(79,_),(71,_),(78,_),(70,_),(83,_),(77,_),(76,_),(75,_),(74,_),(73,_),(69,_),(68,_),(67,_),(66,_),(65,_),(64,_),(63,_),(62,_),(61,_),(60,_),(59,_),(58,_),(57,_)]) (by intro p hp;simp only [List.mem_cons,List.not_mem_nil,or_false] at hp;rcases hp with rfl | rfl | rfl <;> rfl) (by intro p hp;simp only [List.mem_cons,List.not_mem_nil,or_false] at hp;rcases hp with rfl | rfl | rfl | rfl | rfl | rfl | rfl | rfl | rfl | rfl | rfl | rfl | rfl | rfl | rfl | rfl | rfl | rfl | rfl | rfl | rfl | rfl | rfl | rfl | rfl | rfl | rfl <;> first | exact .inr rfl | exact .inl rfl)) (List.Perm.swap _ _ _)
     ·refine BP (R':=[14,15,23,24,25]) rfl rfl rfl rfl (by decide) (Aw (zs:=[.v (.int .i64 0),.v (.int .i64 0),.v (.int .i64 0),.v (.slice none 0 0)]) runUnderlying49 zeroValue49 (E8 _ runUnderlying49) rfl rfl rfl rfl) ?_
      rintro _ _ ⟨rfl,rfl⟩;refine zg2 14 23 ?_ ?_
      ·refine BP (R':=[15,23,24,25]) rfl rfl rfl rfl (by decide) (Aw (zs:=[.v (.int .i64 0),.v (.int .i64 0),.v (.int .i64 0),.v (.slice none 0 0)]) runUnderlying49 zeroValue49 (E8 _ runUnderlying49) rfl rfl rfl rfl) ?_
       rintro _ _ ⟨rfl,rfl⟩;refine zg2 15 23 ?_ ?_
       ·refine BP (R':=[23,24,25]) rfl rfl rfl rfl (by decide) (Aw (zs:=[.bool false,.v (.int .i64 0),.v (.int .i64 0),.v (.int .i64 0),.v (.slice none 0 0)]) runUnderlying143 zeroValue143 (Cx _ runUnderlying143) rfl rfl rfl rfl) ?_
        rintro _ _ ⟨rfl,rfl⟩;refine zg1 23 ?_;refine BP (R':=[24,25]) rfl rfl rfl rfl (by decide) (Aw (zs:=[.bool false,.v (.int .i64 0),.v (.int .i64 0),.v (.int .i64 0),.v (.slice none 0 0)]) runUnderlying143 zeroValue143 (Cx _ runUnderlying143) rfl rfl rfl rfl) ?_;rintro _ _ ⟨rfl,rfl⟩;refine zg1 24 ?_;refine BP (R':=[25]) rfl rfl rfl rfl (by decide) (Ai (xs:=[_,_,_]) (f:=TB.d) (l:=(thC s (⟨7,0,0,s.fields.map edgeF,a1,m1,c1⟩:NodeB AFd) (⟨8,0,0,s.tags.map edgeF,a2,m2,c2⟩:NodeB AFd))) runUnderlying144 sizeOf143 zeroValue143 rfl rfl rfl (fun _=>⟨rfl,rfl,rfl⟩) rfl) ?_;rintro _ _ ⟨rfl,rfl⟩;refine zg1 25 ?_;refine zgp ?_;exact Er ((a1,m1,c1),a2,m2,c2) (Fj (M0:=[(83,_),(82,_),(81,_)]) (N0:=[(82,_),(81,_),(80,_),(72,_),(71,_),(79,_),(78,_),(70,_),(83,_),(77,_),(76,_),(75,_),(74,_),(73,_),(69,_),(68,_),(67,_),(66,_),(65,_),(64,_),(63,_),(62,_),(61,_),(60,_),(59,_),(58,_),(57,_)]) (by intro p hp;simp only [List.mem_cons,List.not_mem_nil,or_false] at hp;rcases hp with rfl | rfl | rfl <;> rfl) (by intro p hp;simp only [List.mem_cons,List.not_mem_nil,or_false] at hp;rcases hp with rfl | rfl | rfl | rfl | rfl | rfl | rfl | rfl | rfl | rfl | rfl | rfl | rfl | rfl | rfl | rfl | rfl | rfl | rfl | rfl | rfl | rfl | rfl | rfl | rfl | rfl | rfl <;> first | exact .inr rfl | exact .inl rfl)) (List.Perm.swap _ _ _)
       ·refine BP (R':=[15,24,25]) rfl rfl rfl rfl (by decide) (Aw (zs:=[.bool false,.v (.int .i64 0),.v (.int .i64 0),.v (.int .i64 0),.v (.slice none 0 0)]) runUnderlying143 zeroValue143 (Cx _ runUnderlying143) rfl rfl rfl rfl) ?_
        rintro _ _ ⟨rfl,rfl⟩;refine zg1 15 ?_;refine BP (R':=[24,25]) rfl rfl rfl rfl (by decide) (Aw (zs:=[.bool false,.v (.int .i64 0),.v (.int .i64 0),.v (.int .i64 0),.v (.slice none 0 0)]) runUnderlying143 zeroValue143 (Cx _ runUnderlying143) rfl rfl rfl rfl) ?_;rintro _ _ ⟨rfl,rfl⟩;refine zg1 24 ?_;refine BP (R':=[25]) rfl rfl rfl rfl (by decide) (Ai (xs:=[_,_,_]) (f:=TB.d) (l:=(thC s (⟨7,0,0,s.fields.map edgeF,a1,m1,c1⟩:NodeB AFd) (⟨8,0,0,s.tags.map edgeF,a2,m2,c2⟩:NodeB AFd))) runUnderlying144 sizeOf143 zeroValue143 rfl rfl rfl (fun _=>⟨rfl,rfl,rfl⟩) rfl) ?_;rintro _ _ ⟨rfl,rfl⟩;refine zg1 25 ?_;refine zgp ?_;exact Er ((a1,m1,c1),a2,m2,c2) (Fj (M0:=[(83,_),(82,_),(81,_)]) (N0:=[(82,_),(81,_),(72,_),(80,_),(71,_),(79,_),(78,_),(70,_),(83,_),(77,_),(76,_),(75,_),(74,_),(73,_),(69,_),(68,_),(67,_),(66,_),(65,_),(64,_),(63,_),(62,_),(61,_),(60,_),(59,_),(58,_),(57,_)]) (by intro p hp;simp only [List.mem_cons,List.not_mem_nil,or_false] at hp;rcases hp with rfl | rfl | rfl <;> rfl) (by intro p hp;simp only [List.mem_cons,List.not_mem_nil,or_false] at hp;rcases hp with rfl | rfl | rfl | rfl | rfl | rfl | rfl | rfl | rfl | rfl | rfl | rfl | rfl | rfl | rfl | rfl | rfl | rfl | rfl | rfl | rfl | rfl | rfl | rfl | rfl | rfl | rfl <;> first | exact .inr rfl | exact .inl rfl)) (List.Perm.swap _ _ _)
      ·refine BP (R':=[14,15,24,25]) rfl rfl rfl rfl (by decide) (Aw (zs:=[.bool false,.v (.int .i64 0),.v (.int .i64 0),.v (.int .i64 0),.v (.slice none 0 0)]) runUnderlying143 zeroValue143 (Cx _ runUnderlying143) rfl rfl rfl rfl) ?_
       rintro _ _ ⟨rfl,rfl⟩;refine zg1 14 ?_;refine BP (R':=[15,24,25]) rfl rfl rfl rfl (by decide) (Aw (zs:=[.v (.int .i64 0),.v (.int .i64 0),.v (.int .i64 0),.v (.slice none 0 0)]) runUnderlying49 zeroValue49 (E8 _ runUnderlying49) rfl rfl rfl rfl) ?_;rintro _ _ ⟨rfl,rfl⟩;refine zg1 15 ?_;refine BP (R':=[24,25]) rfl rfl rfl rfl (by decide) (Aw (zs:=[.bool false,.v (.int .i64 0),.v (.int .i64 0),.v (.int .i64 0),.v (.slice none 0 0)]) runUnderlying143 zeroValue143 (Cx _ runUnderlying143) rfl rfl rfl rfl) ?_;rintro _ _ ⟨rfl,rfl⟩;refine zg1 24 ?_;refine BP (R':=[25]) rfl rfl rfl rfl (by decide) (Ai (xs:=[_,_,_]) (f:=TB.d) (l:=(thC s (⟨7,0,0,s.fields.map edgeF,a1,m1,c1⟩:NodeB AFd) (⟨8,0,0,s.tags.map edgeF,a2,m2,c2⟩:NodeB AFd))) runUnderlying144 sizeOf143 zeroValue143 rfl rfl rfl (fun _=>⟨rfl,rfl,rfl⟩) rfl) ?_;rintro _ _ ⟨rfl,rfl⟩;refine zg1 25 ?_;refine zgp ?_;exact Er ((a1,m1,c1),a2,m2,c2) (Fj (M0:=[(83,_),(82,_),(81,_)]) (N0:=[(82,_),(81,_),(72,_),(71,_),(80,_),(79,_),(78,_),(70,_),(83,_),(77,_),(76,_),(75,_),(74,_),(73,_),(69,_),(68,_),(67,_),(66,_),(65,_),(64,_),(63,_),(62,_),(61,_),(60,_),(59,_),(58,_),(57,_)]) (by intro p hp;simp only [List.mem_cons,List.not_mem_nil,or_false] at hp;rcases hp with rfl | rfl | rfl <;> rfl) (by intro p hp;simp only [List.mem_cons,List.not_mem_nil,or_false] at hp;rcases hp with rfl | rfl | rfl | rfl | rfl | rfl | rfl | rfl | rfl | rfl | rfl | rfl | rfl | rfl | rfl | rfl | rfl | rfl | rfl | rfl | rfl | rfl | rfl | rfl | rfl | rfl | rfl <;> first | exact .inr rfl | exact .inl rfl)) (List.Perm.swap _ _ _)
   ·rintro ⟨⟨a1,m1,c1⟩,a2,m2,c2⟩
    refine An (L':=[(83,.i64 0),(82,.i64 3),(81,.list 5 TB.d (thC s (⟨7,0,0,s.fields.map edgeF,a1,m1,c1⟩:NodeB AFd) (⟨8,0,0,s.tags.map edgeF,a2,m2,c2⟩:NodeB AFd))),(48,_),(47,_),(0,_),(1,_),(3,_),(45,_),(46,_)]) (ms':=[NodeB.own 71 2 AFd.d (⟨7,0,0,s.fields.map edgeF,a1,m1,c1⟩:NodeB AFd),NodeB.own 71 2 AFd.d (⟨8,0,0,s.tags.map edgeF,a2,m2,c2⟩:NodeB AFd)]++tl) rfl rfl ?_
    generalize hX:(⟨7,0,0,s.fields.map edgeF,a1,m1,c1⟩:NodeB AFd)=X
    generalize hY:(⟨8,0,0,s.tags.map edgeF,a2,m2,c2⟩:NodeB AFd)=Y
    have hXY:onB (thC s X Y)=pC:=by rw [<- hC,<- hX,<- hY];unfold onB thC;cases s.arrow <;> cases s.rec_ <;> cases s.tag <;> rfl
    clear hC hX hY
    refine Aq ?_;refine EZ [(0,_),(81,_),(82,_)] (fun (z:Nat×List Asrt)=>z.1<=3/\J ((onB (thA s)++s.vars.map fun v=>(⟨11,v,0,[]⟩:ANd))++onB ((thC s X Y).take z.1)) z.2) (fun z=>[(83,.i64 (z.1:Int))]) (fun z=>(if z.1<=1 then [NodeB.own 71 2 AFd.d X,NodeB.own 71 2 AFd.d Y] else if z.1<=2 then [NodeB.own 71 2 AFd.d Y] else [])++z.2) (fun z=>3 - z.1) (0,tl) ⟨Nat.zero_le _,by rw [List.take_zero];exact (List.append_nil _).symm▸hJ⟩ ⟨rfl,rfl,rfl,trivial⟩ ⟨rfl,trivial⟩ rfl ?_;rintro ⟨i,tl⟩ ⟨hi,hJ⟩
    have hi:i<=3:=hi
    have hJ:J ((onB (thA s)++s.vars.map fun v=>(⟨11,v,0,[]⟩:ANd))++onB ((thC s X Y).take i)) tl:=hJ
    have hpre:∀ j,((onB (thA s)++s.vars.map fun v=>(⟨11,v,0,[]⟩:ANd))++onB ((thC s X Y).take j)) <+: Cb s:=by
     intro j
     rw [hP,<- List.append_assoc,<- hXY];exact List.prefix_append_right_inj _ |>.2 (Qy _ _)
    rcases i with _ | _ | _ | _ | i
    ·refine At (L':=[(83,.i64 0),(0,_),(81,_),(82,_)]) (ms':=[NodeB.own 71 2 AFd.d X,NodeB.own 71 2 AFd.d Y]++tl) rfl rfl ?_
     refine zq5 ?_;refine Ce rfl rfl ?_
     have hstep:∀ bv,s.arrow=bv->((onB (thA s)++s.vars.map fun v=>(⟨11,v,0,[]⟩:ANd))++onB ((thC s X Y).take 1))=((onB (thA s)++s.vars.map fun v=>(⟨11,v,0,[]⟩:ANd))++onB ((thC s X Y).take 0))++(bif bv then [nodN (ndB 6 s.dom s.cod)] else []):=by
      intro bv e
      rw [Jp (l:=thC s X Y) (i:=0) (b:=s.arrow) (x:=ndB 6 s.dom s.cod) rfl,e];simp only [List.append_assoc]
     refine zq5 ?_;refine Ak rfl rfl rfl (oIm runUnderlying144 sizeOf143 rfl rfl (show idx (thC s X Y) 0=some (s.arrow,ndB 6 s.dom s.cod) from rfl)) ?_;refine zq1 ?_;refine KI fun b1=>?_
     cases hb:s.arrow with
     | true =>
      refine zst 0 ?_;refine Aj (ms':=[box b1 143 [.bool true,.i64 6,.i64 s.dom,.i64 s.cod,.v (.slice none 0 0)]]++([NodeB.own 71 2 AFd.d X,NodeB.own 71 2 AFd.d Y]++tl)) rfl ?_;refine zq3 ?_;refine Ak rfl rfl rfl (oFb Fy rfl) ?_;refine zq3 ?_;refine gWp rfl rfl rfl rfl rfl rfl (oFb JA rfl) ?_;refine zq1 ?_;refine Ap (BF (T:=71) (sz:=2) (f:=AFd.d)) ?_;refine Jh rfl rfl rfl rfl rfl rfl (H7 (tl:=tl) (As:=[NodeB.own 71 2 AFd.d (ndB 6 s.dom s.cod)]) (own:=[box b1 143 [.bool true,.i64 6,.i64 s.dom,.i64 s.cod,.v (.slice none 0 0)],NodeB.own 71 2 AFd.d X,NodeB.own 71 2 AFd.d Y]) rfl rfl ((List.perm_append_comm (l₁:=[box b1 143 [.bool true,.i64 6,.i64 s.dom,.i64 s.cod,.v (.slice none 0 0)],NodeB.own 71 2 AFd.d X,NodeB.own 71 2 AFd.d Y]) (l₂:=tl)).cons _) (hy _ [NodeB.d (ndB 6 s.dom s.cod)] _ ((onB (thA s)++s.vars.map fun v=>(⟨11,v,0,[]⟩:ANd))++onB ((thC s X Y).take 1)) tl ⟨ndB 6 s.dom s.cod,rfl,rfl,hstep true hb,hpre 1⟩ hJ)) ?_;rintro _ _ ⟨tl',⟨rfl,hJ'⟩ | ⟨rfl,hJx⟩,rfl⟩
      ·refine zq3 ?_
       refine Bo rfl rfl ?_;refine zq2 ?_;refine Ak rfl rfl rfl (Gn rfl rfl (CS (by constructor <;> omega))) ?_;refine zq2 ?_;exact ⟨(1,tl'),⟨(show (1:Nat)<=3 by decide),hJ'⟩,(show 3 - (1:Nat)<3 - 0 by decide),⟨rfl,trivial⟩,⟨rfl,rfl,rfl,trivial⟩,[_],rfl⟩
      ·refine zq3 ?_
       refine Ce rfl rfl ?_;refine Af ?_;exact retK (Cp (ms':=tl') (drop:=[box b1 143 [.bool true,.i64 6,.i64 s.dom,.i64 s.cod,.v (.slice none 0 0)],NodeB.own 71 2 AFd.d X,NodeB.own 71 2 AFd.d Y]) rfl (List.Perm.refl _)) (.inr hJx)
     | false =>
      refine zst 0 ?_;refine Aj (ms':=[box b1 143 [.bool false,.i64 6,.i64 s.dom,.i64 s.cod,.v (.slice none 0 0)]]++([NodeB.own 71 2 AFd.d X,NodeB.own 71 2 AFd.d Y]++tl)) rfl ?_;refine zq3 ?_;refine Ak rfl rfl rfl (oFb Fy rfl) ?_;refine zq9 ?_;refine Bo rfl rfl ?_;refine zq2 ?_;refine Ak rfl rfl rfl (Gn rfl rfl (CS (by constructor <;> omega))) ?_;refine zq2 ?_
      have hJ2:J ((onB (thA s)++s.vars.map fun v=>(⟨11,v,0,[]⟩:ANd))++onB ((thC s X Y).take 1)) tl:=by rw [hstep false hb,cF_,List.append_nil];exact hJ
      exact ⟨(1,tl),⟨(show (1:Nat)<=3 by decide),hJ2⟩,(show 3 - (1:Nat)<3 - 0 by decide),⟨rfl,trivial⟩,⟨rfl,rfl,rfl,trivial⟩,[_],rfl⟩
    ·refine At (L':=[(83,.i64 1),(0,_),(81,_),(82,_)]) (ms':=[NodeB.own 71 2 AFd.d X,NodeB.own 71 2 AFd.d Y]++tl) rfl rfl ?_
     refine zq5 ?_;refine Ce rfl rfl ?_
     have hstep:∀ bv,s.rec_=bv->((onB (thA s)++s.vars.map fun v=>(⟨11,v,0,[]⟩:ANd))++onB ((thC s X Y).take 2))=((onB (thA s)++s.vars.map fun v=>(⟨11,v,0,[]⟩:ANd))++onB ((thC s X Y).take 1))++(bif bv then [nodN (X)] else []):=by
      intro bv e
      rw [Jp (l:=thC s X Y) (i:=1) (b:=s.rec_) (x:=X) rfl,e];simp only [List.append_assoc]
     refine zq5 ?_;refine Ak rfl rfl rfl (oIm runUnderlying144 sizeOf143 rfl rfl (show idx (thC s X Y) 1=some (s.rec_,X) from rfl)) ?_;refine zq1 ?_;refine KI fun b1=>?_
     cases hb:s.rec_ with
     | true =>
      refine zst 0 ?_;refine Aj (ms':=[box b1 143 [.bool true,.i64 X.kind,.i64 X.a,.i64 X.b,.v (.slice X.p X.m X.c)]]++([NodeB.own 71 2 AFd.d X,NodeB.own 71 2 AFd.d Y]++tl)) rfl ?_;refine zq3 ?_;refine Ak rfl rfl rfl (oFb Fy rfl) ?_;refine zq3 ?_;refine gWp rfl rfl rfl rfl rfl rfl (oFb JA rfl) ?_;refine zq1 ?_;refine Jh rfl rfl rfl rfl rfl rfl (H7 (tl:=tl) (As:=[NodeB.own 71 2 AFd.d (X)]) (own:=[box b1 143 [.bool true,.i64 X.kind,.i64 X.a,.i64 X.b,.v (.slice X.p X.m X.c)],NodeB.own 71 2 AFd.d Y]) rfl rfl ((List.Perm.swap _ _ _).trans ((List.perm_append_comm (l₁:=[box b1 143 [.bool true,.i64 X.kind,.i64 X.a,.i64 X.b,.v (.slice X.p X.m X.c)],NodeB.own 71 2 AFd.d Y]) (l₂:=tl)).cons _)) (hy _ [NodeB.d (X)] _ ((onB (thA s)++s.vars.map fun v=>(⟨11,v,0,[]⟩:ANd))++onB ((thC s X Y).take 2)) tl ⟨X,rfl,rfl,hstep true hb,hpre 2⟩ hJ)) ?_;rintro _ _ ⟨tl',⟨rfl,hJ'⟩ | ⟨rfl,hJx⟩,rfl⟩
      ·refine zq3 ?_
       refine Bo rfl rfl ?_;refine zq2 ?_;refine Ak rfl rfl rfl (Gn rfl rfl (CS (by constructor <;> omega))) ?_;refine zq2 ?_;exact ⟨(2,tl'),⟨(show (2:Nat)<=3 by decide),hJ'⟩,(show 3 - (2:Nat)<3 - 1 by decide),⟨rfl,trivial⟩,⟨rfl,rfl,rfl,trivial⟩,[_],rfl⟩
      ·refine zq3 ?_
       refine Ce rfl rfl ?_;refine Af ?_;exact retK (Cp (ms':=tl') (drop:=[box b1 143 [.bool true,.i64 X.kind,.i64 X.a,.i64 X.b,.v (.slice X.p X.m X.c)],NodeB.own 71 2 AFd.d Y]) rfl (List.Perm.refl _)) (.inr hJx)
     | false =>
      refine zst 0 ?_;refine Aj (ms':=[box b1 143 [.bool false,.i64 X.kind,.i64 X.a,.i64 X.b,.v (.slice X.p X.m X.c)]]++([NodeB.own 71 2 AFd.d X,NodeB.own 71 2 AFd.d Y]++tl)) rfl ?_;refine zq3 ?_;refine Ak rfl rfl rfl (oFb Fy rfl) ?_;refine zq9 ?_;refine Bo rfl rfl ?_;refine zq2 ?_;refine Ak rfl rfl rfl (Gn rfl rfl (CS (by constructor <;> omega))) ?_;refine zq2 ?_
      have hJ2:J ((onB (thA s)++s.vars.map fun v=>(⟨11,v,0,[]⟩:ANd))++onB ((thC s X Y).take 2)) tl:=by rw [hstep false hb,cF_,List.append_nil];exact hJ
      exact ⟨(2,tl),⟨(show (2:Nat)<=3 by decide),hJ2⟩,(show 3 - (2:Nat)<3 - 1 by decide),⟨rfl,trivial⟩,⟨rfl,rfl,rfl,trivial⟩,[_,_],rfl⟩
    ·refine At (L':=[(83,.i64 2),(0,_),(81,_),(82,_)]) (ms':=[NodeB.own 71 2 AFd.d Y]++tl) rfl rfl ?_
     refine zq5 ?_;refine Ce rfl rfl ?_
     have hstep:∀ bv,s.tag=bv->((onB (thA s)++s.vars.map fun v=>(⟨11,v,0,[]⟩:ANd))++onB ((thC s X Y).take 3))=((onB (thA s)++s.vars.map fun v=>(⟨11,v,0,[]⟩:ANd))++onB ((thC s X Y).take 2))++(bif bv then [nodN (Y)] else []):=by
      intro bv e
      rw [Jp (l:=thC s X Y) (i:=2) (b:=s.tag) (x:=Y) rfl,e];simp only [List.append_assoc]
     refine zq5 ?_;refine Ak rfl rfl rfl (oIm runUnderlying144 sizeOf143 rfl rfl (show idx (thC s X Y) 2=some (s.tag,Y) from rfl)) ?_;refine zq1 ?_;refine KI fun b1=>?_
     cases hb:s.tag with
     | true =>
      refine zst 0 ?_;refine Aj (ms':=[box b1 143 [.bool true,.i64 Y.kind,.i64 Y.a,.i64 Y.b,.v (.slice Y.p Y.m Y.c)]]++([NodeB.own 71 2 AFd.d Y]++tl)) rfl ?_;refine zq3 ?_;refine Ak rfl rfl rfl (oFb Fy rfl) ?_;refine zq3 ?_;refine gWp rfl rfl rfl rfl rfl rfl (oFb JA rfl) ?_;refine zq1 ?_;refine Jh rfl rfl rfl rfl rfl rfl (H7 (tl:=tl) (As:=[NodeB.own 71 2 AFd.d (Y)]) (own:=[box b1 143 [.bool true,.i64 Y.kind,.i64 Y.a,.i64 Y.b,.v (.slice Y.p Y.m Y.c)]]) rfl rfl ((List.Perm.swap _ _ _).trans ((List.perm_append_comm (l₁:=[box b1 143 [.bool true,.i64 Y.kind,.i64 Y.a,.i64 Y.b,.v (.slice Y.p Y.m Y.c)]]) (l₂:=tl)).cons _)) (hy _ [NodeB.d (Y)] _ ((onB (thA s)++s.vars.map fun v=>(⟨11,v,0,[]⟩:ANd))++onB ((thC s X Y).take 3)) tl ⟨Y,rfl,rfl,hstep true hb,hpre 3⟩ hJ)) ?_;rintro _ _ ⟨tl',⟨rfl,hJ'⟩ | ⟨rfl,hJx⟩,rfl⟩
      ·refine zq3 ?_
       refine Bo rfl rfl ?_;refine zq2 ?_;refine Ak rfl rfl rfl (Gn rfl rfl (CS (by constructor <;> omega))) ?_;refine zq2 ?_;exact ⟨(3,tl'),⟨(show (3:Nat)<=3 by decide),hJ'⟩,(show 3 - (3:Nat)<3 - 2 by decide),⟨rfl,trivial⟩,⟨rfl,rfl,rfl,trivial⟩,[_],rfl⟩
      ·refine zq3 ?_
       refine Ce rfl rfl ?_;refine Af ?_;exact retK (Cp (ms':=tl') (drop:=[box b1 143 [.bool true,.i64 Y.kind,.i64 Y.a,.i64 Y.b,.v (.slice Y.p Y.m Y.c)]]) rfl (List.Perm.refl _)) (.inr hJx)
     | false =>
      refine zst 0 ?_;refine Aj (ms':=[box b1 143 [.bool false,.i64 Y.kind,.i64 Y.a,.i64 Y.b,.v (.slice Y.p Y.m Y.c)]]++([NodeB.own 71 2 AFd.d Y]++tl)) rfl ?_;refine zq3 ?_;refine Ak rfl rfl rfl (oFb Fy rfl) ?_;refine zq9 ?_;refine Bo rfl rfl ?_;refine zq2 ?_;refine Ak rfl rfl rfl (Gn rfl rfl (CS (by constructor <;> omega))) ?_;refine zq2 ?_
      have hJ2:J ((onB (thA s)++s.vars.map fun v=>(⟨11,v,0,[]⟩:ANd))++onB ((thC s X Y).take 3)) tl:=by rw [hstep false hb,cF_,List.append_nil];exact hJ
      exact ⟨(3,tl),⟨(show (3:Nat)<=3 by decide),hJ2⟩,(show 3 - (3:Nat)<3 - 2 by decide),⟨rfl,trivial⟩,⟨rfl,rfl,rfl,trivial⟩,[_,_],rfl⟩
    ·refine At (L':=[(83,.i64 3),(0,_),(81,_),(82,_)]) (ms':=tl) rfl rfl ?_
     refine zq5 ?_;refine Bo rfl rfl ?_;refine Au ?_;refine retKn (Cp (ms':=tl) (drop:=[]) rfl (List.Perm.refl _)) (.inl ⟨_,?_,hJ⟩);rw [hP,<- List.append_assoc,<- hXY];rfl
    ·omega
end Go.Proofs.YtcoghblhdjmbfaaGreat
namespace Go.Proofs.YtcoghblhdjmbfaaGreat
open Go.V Tryz
def noB (p:Bool):Int:=bif p then 2 else 1
def joB (p:Bool):Int:=bif p then 9 else 10
def CD (off:Int) (kind:Int) (z:Int×List ANd) (n:ANd):Int×List ANd:=
 if 0<=z.1 then (off+z.2.length+1,z.2++[n]++[⟨kind,z.1,off+z.2.length,[]⟩]) else (off+z.2.length,z.2++[n])
def chB (off:Int) (kind:Int) (l:List ANd):Int×List ANd:=l.foldl (CD off kind) (-1,[])
def Ca (off:Int) (s:AutoState):Int×List ANd:=
 if (chB off (joB s.plus) (Cb s)).1<0 then (off,[⟨noB s.plus,0,0,[]⟩]) else chB off (joB s.plus) (Cb s)
theorem I2 (off kind:Int) (l:List ANd) (n:ANd):chB off kind (l++[n])=CD off kind (chB off kind l) n:=by unfold chB;rw [List.foldl_append];rfl
theorem P0 (off kind:Int) (z:Int×List ANd) (n:ANd):(CD off kind z n).2.length<=z.2.length+2:=by
 unfold CD
 split <;> simp
theorem KF (off kind:Int):∀ (l:List ANd) (z:Int×List ANd),(l.foldl (CD off kind) z).2.length<=z.2.length+2*l.length
 | [],z=>by simp
 | n::l,z=>by
  have h1:=P0 off kind z n
  have h2:=KF off kind l (CD off kind z n)
  rw [List.foldl_cons,List.length_cons];omega
theorem Tm (off kind:Int) (h0:0<=off):∀ (l:List ANd) (z:Int×List ANd),(-1<=z.1/\z.1<off+z.2.length) -> -1<=(l.foldl (CD off kind) z).1/\(l.foldl (CD off kind) z).1<off+(l.foldl (CD off kind) z).2.length
 | [],z,h=>h
 | n::l,z,h=>by
  rw [List.foldl_cons];refine Tm off kind h0 l _ ?_;unfold CD
  split <;> simp <;> omega
theorem Pu {s:AutoState} (hv:s.vars.length<=1000):(Cb s).length<=1007:=by
 have h:∀ l:List (Bool×NodeB AFd),(onB l).length<=l.length:=fun l=>by unfold onB;rw [List.length_map];exact List.length_filter_le _ _
 have h1:=h (thA s)
 have h2:=h [(s.arrow,ndB 6 s.dom s.cod),(s.rec_,⟨7,0,0,s.fields.map edgeF,none,0,0⟩),(s.tag,⟨8,0,0,s.tags.map edgeF,none,0,0⟩)]
 unfold Cb;rw [List.length_append,List.length_append,List.length_map];simp only [thA,List.length_cons,List.length_nil] at h1 h2 ⊢
 omega
theorem permJ {A B C D E F G:Asrt} {R:List Asrt}:(A::B::C::D::E::F::R).Perm (E::F::A::B::C::D::R):=by
 have h:=(List.perm_append_comm (l₁:=[A,B,C,D]) (l₂:=[E,F])).append_right R
 simpa using h
theorem permK (A J C:List Asrt):(A++(J++C)).Perm (J++(A++C)):=by
 rw [<- List.append_assoc,<- List.append_assoc];exact List.perm_append_comm.append_right C
theorem VW {N B A P X S K:Asrt} {R:List Asrt}:(N::B::A::P::X::S::K::R).Perm ([P]++([S,K,B,A]++(R++[X]++[N]))):=by
 classical
 rw [List.perm_iff_count]
 intro a
 simp [List.count_cons,List.count_append,Nat.add_comm,Nat.add_left_comm,Nat.add_assoc]
theorem VH {B A P X S K:Asrt} {R:List Asrt}:(B::A::P::X::S::K::R).Perm ([P]++([S,K,B,A]++(R++[X]))):=by
 classical
 rw [List.perm_iff_count]
 intro a
 simp [List.count_cons,List.count_append,Nat.add_comm,Nat.add_left_comm,Nat.add_assoc]
theorem VA {N B A S K:Asrt}:[N,B,A,S,K].Perm ([S,K]++([B,A]++[N])):=by
 classical
 rw [List.perm_iff_count]
 intro a
 simp [List.count_cons,Nat.add_comm,Nat.add_left_comm,Nat.add_assoc]
theorem S2 (off kind:Int) (h0:0<=off):∀ (l:List ANd) (z:Int×List ANd),(z.1<0->z.2=[])->(l.foldl (CD off kind) z).1<0->(l.foldl (CD off kind) z).2=[]
 | [],z,h,h1=>h h1
 | n::l,z,h,h1=>by
  rw [List.foldl_cons] at h1 ⊢;refine S2 off kind h0 l _ (fun h2=>?_) h1;unfold CD at h2
  split at h2 <;> simp at h2 <;> omega
def JS (b b6 b7:Nat) (al:List AutoState) (st rt:Int) (a5:Option Addr) (m5 cap5:Nat) (q:List (NodeB AFd)) (kind:Int) (q0:List ANd) (ms:List Asrt):Prop:=
 ∃ (a:Option Addr) (m cap:Nat) (qn:List (NodeB AFd)) (junk:List Asrt),ms.Perm (junk++([box b7 3 [.i64 (chB (q.length:Int) kind q0).1],box b6 3 [.i64 kind],box b 65 [.list 13 AutoState.d al,.i64 st,.v (.slice a m cap),.i64 rt,.v (.slice a5 m5 cap5)],arr a m cap 49 4 NodeB.d (q++qn)]++ownsB 71 2 AFd.d qn))/\qn.map nodN=(chB (q.length:Int) kind q0).2
theorem TA {b:Nat} {al:List AutoState} {st rt:Int} {a5:Option Addr} {m5 cap5:Nat} {a:Option Addr} {m cap:Nat} {q:List (NodeB AFd)} {s:AutoState} (hq:q.length<=50000) (hf:s.fields.length<=1000) (ht:s.tags.length<=1000) (hv:s.vars.length<=1000) :
  Go.V.Fn Tryz.prog 30 [.v (.pointer (some ⟨b,0,none⟩)),AutoState.d s] [box b 65 [.list 13 AutoState.d al,.i64 st,.v (.slice a m cap),.i64 rt,.v (.slice a5 m5 cap5)],arr a m cap 49 4 NodeB.d q]
   (fun d ms'=>d = .i64 (Ca (q.length:Int) s).1/\∃ a' m' cap' qn,ms'=[box b 65 [.list 13 AutoState.d al,.i64 st,.v (.slice a' m' cap'),.i64 rt,.v (.slice a5 m5 cap5)],arr a' m' cap' 49 4 NodeB.d (q++qn)]++ownsB 71 2 AFd.d qn/\qn.map nodN=(Ca (q.length:Int) s).2):=by
 have hlen:=Pu hv
 refine Ae func30 rfl ntmps30 rfl fun H0 fr w0=>?_;refine zq8 ?_;refine zal3a fun b6=>?_;refine zq1 ?_;refine zst 0 ?_;refine Aj (ms':=[box b6 3 [.i64 10],box b 65 [.list 13 AutoState.d al,.i64 st,.v (.slice a m cap),.i64 rt,.v (.slice a5 m5 cap5)],arr a m cap 49 4 NodeB.d q]) rfl ?_;refine zq2 ?_;refine Tq (σ:=Unit) [(2,.ref (.v (.pointer (some ⟨b,0,none⟩)))),(3,.ref (AutoState.d s)),(6,.v (.pointer (some ⟨b6,0,none⟩)))] (fun _=>True) (fun _=>[(5,.i64 (noB s.plus))]) (fun _=>[box b6 3 [.i64 (joB s.plus)],box b 65 [.list 13 AutoState.d al,.i64 st,.v (.slice a m cap),.i64 rt,.v (.slice a5 m5 cap5)],arr a m cap 49 4 NodeB.d q]) ?_ ?_
 ·refine zq5 ?_
  refine gCd rfl (fun hc=>?_) (fun hc=>?_)
  ·have hp:s.plus=true:=hc
   refine zq2 ?_;refine zst 0 ?_;refine Aj (ms':=[box b6 3 [.i64 9],_,_]) rfl ?_;refine gNl ?_;rw [hp];exact ⟨(),trivial,⟨rfl,trivial⟩,⟨rfl,rfl,rfl,trivial⟩,[],rfl⟩
  ·have hp:s.plus=false:=hc
   refine gSp ?_;rw [hp];exact ⟨(),trivial,⟨rfl,trivial⟩,⟨rfl,rfl,rfl,trivial⟩,[],rfl⟩
 ·rintro ⟨⟩ _
  refine An (L':=[(5,.i64 (noB s.plus)),(2,_),(3,_),(6,_)]) (ms':=[box b6 3 [.i64 (joB s.plus)],box b 65 [.list 13 AutoState.d al,.i64 st,.v (.slice a m cap),.i64 rt,.v (.slice a5 m5 cap5)],arr a m cap 49 4 NodeB.d q]) rfl rfl ?_;refine zq2 ?_;refine zal3a fun b7=>?_;refine zst 0 ?_;refine Aj (ms':=[box b7 3 [.i64 (-1)],box b6 3 [.i64 (joB s.plus)],box b 65 [.list 13 AutoState.d al,.i64 st,.v (.slice a m cap),.i64 rt,.v (.slice a5 m5 cap5)],arr a m cap 49 4 NodeB.d q]) rfl ?_;refine zq6 ?_;refine Ak rfl rfl rfl (B7 call68 rfl Rt) ?_;refine zq2 ?_;refine Nb (caps:=_) (gf:=98) ([]:List ANd) (nxT (Cb s)) (· = Cb s) (JS b b6 b7 al st rt a5 m5 cap5 q (joB s.plus)) rfl call98 (PA hf ht hv) ⟨a,m,cap,[],[],by rw [List.append_nil];exact List.Perm.refl _,rfl⟩ (by rintro _ _ _ _ ⟨x,rfl,_⟩;rfl) rfl ?_ ?_
  ·rintro ⟨H0r,frr,Nr,ror,w0r,hrr⟩ q0 ds As q1 ms' hN ⟨x,rfl,rfl,rfl,hpre⟩ ⟨a,m,cap,qn,junk,hperm,hqn⟩
   replace hN:Nr=35:=hN
   subst hN
   have hl0:q0.length<=1007:=by have h:=hpre.length_le;rw [List.length_append] at h;omega
   have hqn2:qn.length<=2014:=by
    have h:=KF (q.length:Int) (joB s.plus) q0 (-1,[])
    have h2:qn.length=(chB (q.length:Int) (joB s.plus) q0).2.length:=by rw [<- hqn,List.length_map]
    unfold chB at h2;simp only [List.length_nil] at h
    omega
   have hrg:=Tm (q.length:Int) (joB s.plus) (by omega) q0 (-1,[]) ⟨by simp,by simp;omega⟩
   have hz2:(((chB (q.length:Int) (joB s.plus) q0).2.length:Nat):Int)=(qn.length:Int):=by rw [<- hqn,List.length_map]
   have hrg : -1<=(chB (q.length:Int) (joB s.plus) q0).1/\(chB (q.length:Int) (joB s.plus) q0).1<(q.length:Int)+((chB (q.length:Int) (joB s.plus) q0).2.length:Int):=hrg
   have hstep:=I2 (q.length:Int) (joB s.plus) q0 (nodN x)
   generalize hz:chB (q.length:Int) (joB s.plus) q0=z at *
   obtain ⟨at0,zs⟩:=z
   simp only at hqn hz2 hrg
   refine BY (CJ (ms':=junk++([x.own 71 2 AFd.d]++([box b7 3 [.i64 at0],box b6 3 [.i64 (joB s.plus)],box b 65 [.list 13 AutoState.d al,.i64 st,.v (.slice a m cap),.i64 rt,.v (.slice a5 m5 cap5)],arr a m cap 49 4 NodeB.d (q++qn)]++ownsB 71 2 AFd.d qn))) ((hperm.append_left _).trans (permK _ _ _))) ?_;refine BY (E2 junk) ?_;refine At (L':=[(15,x.d),(14,_),(13,_),(12,_),(7,_),(5,.i64 (noB s.plus)),(2,_),(3,_),(6,_)]) (ms':=[x.own 71 2 AFd.d,box b7 3 [.i64 at0],box b6 3 [.i64 (joB s.plus)],box b 65 [.list 13 AutoState.d al,.i64 st,.v (.slice a m cap),.i64 rt,.v (.slice a5 m5 cap5)],arr a m cap 49 4 NodeB.d (q++qn)]++ownsB 71 2 AFd.d qn) rfl rfl ?_;refine gRg ?_;refine VS fun b8=>?_;refine zst 0 ?_;refine Aj (ms':=[box b8 49 [.i64 x.kind,.i64 x.a,.i64 x.b,.v (.slice x.p x.m x.c)],x.own 71 2 AFd.d,box b7 3 [.i64 at0],box b6 3 [.i64 (joB s.plus)],box b 65 [.list 13 AutoState.d al,.i64 st,.v (.slice a m cap),.i64 rt,.v (.slice a5 m5 cap5)],arr a m cap 49 4 NodeB.d (q++qn)]++ownsB 71 2 AFd.d qn) rfl ?_;refine gNl ?_;rintro ⟨H0r,frr,Nr,ror,w0r,hrr⟩ hN
   replace hN:Nr=35:=hN
   subst hN;refine zq5 ?_;refine AJ rfl rfl rfl (D5 (ms₁:=[box b 65 [.list 13 AutoState.d al,.i64 st,.v (.slice a m cap),.i64 rt,.v (.slice a5 m5 cap5)],arr a m cap 49 4 NodeB.d (q++qn)]) call69 rfl (permJ (G:=box 0 0 [])) (PV (x:=x) (by rw [List.length_append];omega))) ?_;rintro _ _ ⟨_,⟨rfl,a2,m2,cap2,rfl⟩,rfl⟩;refine zq1 ?_;refine Aj (ms':=[box b 65 [.list 13 AutoState.d al,.i64 st,.v (.slice a2 m2 cap2),.i64 rt,.v (.slice a5 m5 cap5)],arr a2 m2 cap2 49 4 NodeB.d ((q++qn)++[x]),box b8 49 [.i64 x.kind,.i64 x.a,.i64 x.b,.v (.slice x.p x.m x.c)],x.own 71 2 AFd.d,box b7 3 [.i64 at0],box b6 3 [.i64 (joB s.plus)]]++ownsB 71 2 AFd.d qn) rfl ?_;refine zq7 ?_;refine gCd rfl (fun hc=>?_) (fun hc=>?_)
   ·have h0:0<=at0:=of_decide_eq_true hc
    refine zq5 ?_;refine Ak rfl rfl rfl (Aw (zs:=[.v (.int .i64 0),.v (.int .i64 0),.v (.int .i64 0),.v (.slice none 0 0)]) runUnderlying49 zeroValue49 (E8 _ runUnderlying49) rfl rfl rfl rfl) ?_;refine AJ rfl rfl rfl (D5 (ms₁:=[box b 65 [.list 13 AutoState.d al,.i64 st,.v (.slice a2 m2 cap2),.i64 rt,.v (.slice a5 m5 cap5)],arr a2 m2 cap2 49 4 NodeB.d ((q++qn)++[x])]) call69 rfl (List.Perm.refl _) (PV (x:=ndB (joB s.plus) at0 ((q++qn).length:Int)) (by simp only [List.length_append,List.length_cons,List.length_nil];omega))) ?_;rintro _ _ ⟨_,⟨rfl,a3,m3,cap3,rfl⟩,rfl⟩;refine zq1 ?_;refine Aj (ms':=[box b 65 [.list 13 AutoState.d al,.i64 st,.v (.slice a3 m3 cap3),.i64 rt,.v (.slice a5 m5 cap5)],arr a3 m3 cap3 49 4 NodeB.d (((q++qn)++[x])++[ndB (joB s.plus) at0 ((q++qn).length:Int)]),box b8 49 [.i64 x.kind,.i64 x.a,.i64 x.b,.v (.slice x.p x.m x.c)],x.own 71 2 AFd.d,box b7 3 [.i64 at0],box b6 3 [.i64 (joB s.plus)]]++ownsB 71 2 AFd.d qn) rfl ?_;refine zq3 ?_;refine zst 4 ?_;refine Ap (BF (T:=71) (sz:=2) (f:=AFd.d)) ?_;refine gNl ?_
    have hc2:CD (q.length:Int) (joB s.plus) (at0,zs) (nodN x)=((q.length:Int)+(qn.length:Int)+1,qn.map nodN++[nodN x]++[⟨joB s.plus,at0,(q.length:Int)+(qn.length:Int),[]⟩]):=by
     unfold CD;simp only [h0,if_true,hz2,hqn]
    refine ⟨a3,m3,cap3,qn++[x]++[ndB (joB s.plus) at0 ((q++qn).length:Int)],[box b8 49 [.i64 x.kind,.i64 x.a,.i64 x.b,.v (.slice x.p x.m x.c)]],?_,?_⟩
    ·have e1:(q.length:Int)+(qn.length:Int)+1=((((q++qn)++[x]).length:Nat):Int):=by simp only [List.length_append,List.length_cons,List.length_nil];omega
     have e2:q++(qn++[x]++[ndB (joB s.plus) at0 ((q++qn).length:Int)])=((q++qn)++[x])++[ndB (joB s.plus) at0 ((q++qn).length:Int)]:=by simp only [List.append_assoc]
     rw [hstep,hc2,e1,e2,Ih,Ih];exact VW
    ·rw [hstep,hc2]
     simp [nodN,ndB]
   ·have h0:¬ 0<=at0:=of_decide_eq_false hc
    refine zq3 ?_;refine zst 4 ?_;refine gNl ?_
    have hc2:CD (q.length:Int) (joB s.plus) (at0,zs) (nodN x)=((q.length:Int)+(qn.length:Int),qn.map nodN++[nodN x]):=by
     unfold CD;simp only [h0,if_false,hz2,hqn]
    refine ⟨a2,m2,cap2,qn++[x],[box b8 49 [.i64 x.kind,.i64 x.a,.i64 x.b,.v (.slice x.p x.m x.c)]],?_,?_⟩
    ·have e1:(q.length:Int)+(qn.length:Int)=(((q++qn).length:Nat):Int):=by simp only [List.length_append];omega
     have e2:q++(qn++[x])=(q++qn)++[x]:=by simp only [List.append_assoc]
     rw [hstep,hc2,e1,e2,Ih];exact VH
    ·rw [hstep,hc2]
     simp [nodN]
  ·rintro s1 ms' rfl ⟨a,m,cap,qn,junk,hperm,hqn⟩
   have hqn2:qn.length<=2014:=by
    have h:=KF (q.length:Int) (joB s.plus) (Cb s) (-1,[])
    have h2:qn.length=(chB (q.length:Int) (joB s.plus) (Cb s)).2.length:=by rw [<- hqn,List.length_map]
    unfold chB at h2;simp only [List.length_nil] at h
    omega
   have hneg:=S2 (q.length:Int) (joB s.plus) (by omega) (Cb s) (-1,[]) (fun _=>rfl)
   have hneg:(chB (q.length:Int) (joB s.plus) (Cb s)).1<0->(chB (q.length:Int) (joB s.plus) (Cb s)).2=[]:=hneg
   have hsb:Ca (q.length:Int) s=if (chB (q.length:Int) (joB s.plus) (Cb s)).1<0 then ((q.length:Int),[⟨noB s.plus,0,0,[]⟩]) else chB (q.length:Int) (joB s.plus) (Cb s):=rfl
   rw [hsb]
   generalize chB (q.length:Int) (joB s.plus) (Cb s)=z at *
   obtain ⟨at0,zs⟩:=z
   simp only at hqn hneg
   refine An rfl rfl ?_;refine BY (CJ hperm) ?_;refine BY (E2 junk) ?_;refine At (L':=[(14,_),(13,_),(12,_),(7,_),(5,.i64 (noB s.plus)),(2,_),(3,_),(6,_)]) (ms':=[box b7 3 [.i64 at0],box b6 3 [.i64 (joB s.plus)],box b 65 [.list 13 AutoState.d al,.i64 st,.v (.slice a m cap),.i64 rt,.v (.slice a5 m5 cap5)],arr a m cap 49 4 NodeB.d (q++qn)]++ownsB 71 2 AFd.d qn) rfl rfl ?_;refine zq6 ?_;refine gCd rfl (fun hc=>?_) (fun hc=>?_)
   ·have h0:at0<0:=of_decide_eq_true hc
    have hq0:qn=[]:=by
     have h1:=hneg h0
     rw [<- hqn,List.map_eq_nil_iff] at h1;exact h1
    subst hq0;refine zq4 ?_;refine Ak rfl rfl rfl (Aw (zs:=[.v (.int .i64 0),.v (.int .i64 0),.v (.int .i64 0),.v (.slice none 0 0)]) runUnderlying49 zeroValue49 (E8 _ runUnderlying49) rfl rfl rfl rfl) ?_;refine AJ rfl rfl rfl (D5 (ms₁:=[box b 65 [.list 13 AutoState.d al,.i64 st,.v (.slice a m cap),.i64 rt,.v (.slice a5 m5 cap5)],arr a m cap 49 4 NodeB.d (q++[])]) call69 rfl (List.perm_append_comm (l₁:=[_,_]) (l₂:=[_,_])) (PV (x:=ndB (noB s.plus) 0 0) (by rw [List.append_nil];omega))) ?_;rintro _ _ ⟨_,⟨rfl,a3,m3,cap3,rfl⟩,rfl⟩;refine zq1 ?_;refine Ap (BF (T:=71) (sz:=2) (f:=AFd.d)) ?_;refine gNl (Af ?_);refine retK (ms':=[box b 65 [.list 13 AutoState.d al,.i64 st,.v (.slice a3 m3 cap3),.i64 rt,.v (.slice a5 m5 cap5)],arr a3 m3 cap3 49 4 NodeB.d ((q++[])++[ndB (noB s.plus) 0 0])]++ownsB 71 2 AFd.d [ndB (noB s.plus) 0 0]) (AV (drop:=[box b7 3 [.i64 at0],box b6 3 [.i64 (joB s.plus)]]) rfl (A6 rfl) ?_) ⟨?_,a3,m3,cap3,[ndB (noB s.plus) 0 0],?_,?_⟩
    ·exact VA
    ·rw [if_pos h0,List.append_nil]
    ·rw [List.append_nil]
    ·rw [if_pos h0];rfl
   ·have h0:¬ at0<0:=of_decide_eq_false hc
    refine zq6 ?_;refine Af ?_;refine retK (ms':=[box b 65 [.list 13 AutoState.d al,.i64 st,.v (.slice a m cap),.i64 rt,.v (.slice a5 m5 cap5)],arr a m cap 49 4 NodeB.d (q++qn)]++ownsB 71 2 AFd.d qn) (AV (drop:=[box b7 3 [.i64 at0],box b6 3 [.i64 (joB s.plus)]]) rfl (A6 rfl) ?_) ⟨?_,a,m,cap,qn,rfl,?_⟩
    ·exact List.Perm.refl _
    ·rw [if_neg h0]
    ·rw [if_neg h0];exact hqn
end Go.Proofs.YtcoghblhdjmbfaaGreat
namespace Go.Proofs.YtcoghblhdjmbfaaGreat
open Go.V Tryz
section
variable {Γ:Ctx} {P:Program} {L:Env} {ms:List Asrt} {K:KT}
theorem P7 {c:Code} {a:Option Addr} {m cap:Nat} {T:TypeId} {sz:Nat} {α:Type} {f:α->D} {l:List α} {i:Nat} {z:α} (k:Nat) (hk:ms[k]? = some (arr a m cap T sz f l)) (hz:l[i]? = some z) (h:∀ bb,a=some ⟨bb,0,none⟩->G Γ P c L ms K):G Γ P c L ms K:=by
 intro act w mm
 obtain ⟨H,marks,hle,hok,henv,hdf⟩:=mm.ex;obtain ⟨bb,vs,us,ws,ha,_⟩:=G7 hok (getElem?_app hk) hz;exact h bb ha act w mm
theorem Ks {H:PH} {α:Type} {f:α->D} {sz:Nat} {l l':List α} {us:List Value} (h:l.map f=l'.map f) (e:ListEnc H f sz l us):ListEnc H f sz l' us:=by
 have hl:l.length=l'.length:=by have:=congrArg List.length h;simpa using this
 refine ⟨by rw [<- hl];exact e.1,fun i x hx=>?_⟩
 have h2:=congrArg (·[i]?) h
 simp only [List.getElem?_map,hx,Option.map_some] at h2
 cases hy:l[i]? with
 | none=>rw [hy] at h2;cases h2
 | some y =>
  rw [hy] at h2;obtain ⟨ws,e1,e2⟩:=e.2 i y hy
  have h3:f y=f x:=by simpa using h2
  exact ⟨ws,by rw [<- h3];exact e1,e2⟩
theorem Ui {a:Option Addr} {m cap:Nat} {T:TypeId} {sz:Nat} {α:Type} {f:α->D} {l l':List α} (h:l.map f=l'.map f):arr a m cap T sz f l=arr a m cap T sz f l':=by
 have hl:l.length=l'.length:=by have:=congrArg List.length h;simpa using this
 have hn:l=[]↔l'=[]:=by rw [<- List.length_eq_zero_iff,<- List.length_eq_zero_iff,hl]
 unfold arr
 congr 1
 funext H hh
 apply propext
 rw [hl];refine and_congr_right fun _=>and_congr_right fun _=>and_congr_right fun _=>or_congr ?_ ?_
 ·rw [hn]
 ·constructor
  ·rintro ⟨b,vs,us,h1,h2,h3,h4,h5,h6⟩;exact ⟨b,vs,us,h1,h2,h3,Ks h h4,h5,h6⟩
  ·rintro ⟨b,vs,us,h1,h2,h3,h4,h5,h6⟩;exact ⟨b,vs,us,h1,h2,h3,Ks h.symm h4,h5,h6⟩
end
theorem Vs (bb n:Nat):apt (some ⟨bb,0,none⟩) n=some ⟨bb,n,none⟩:=by simp [apt,Bq]
theorem Jy (bb n:Nat):some (D.v (.pointer (some ⟨bb,n,none⟩)))=some (D.v (.pointer (apt (some ⟨bb,0,none⟩) n))):=by rw [Vs]
def atI (at_:List Int) (k:Int):Int:=(idx at_ k).getD 0
def lfB (at_:List Int) (f:AFd):AFd:=⟨f.name,atI at_ f.at_⟩
def upB (at_:List Int) (x:NodeB AFd):NodeB AFd:=⟨x.kind,bif decide (x.kind=6) then atI at_ x.a else x.a,bif decide (x.kind=6) then atI at_ x.b else x.b,x.fl,x.p,x.m,x.c⟩
def lkB (at_:List Int) (x:NodeB AFd):NodeB AFd:=⟨x.kind,bif decide (x.kind=6) then atI at_ x.a else x.a,bif decide (x.kind=6) then atI at_ x.b else x.b,x.fl.map (lfB at_),x.p,x.m,x.c⟩
def lkOk (n:Nat) (x:NodeB AFd):Prop:=(x.kind=6->(0<=x.a/\x.a<(n:Int))/\0<=x.b/\x.b<(n:Int))/\x.fl.length<=1000/\∀ f∈x.fl,0<=f.at_/\f.at_<(n:Int)
theorem NA {at_:List Int} {k:Int} (h0:0<=k) (h1:k<(at_.length:Int)):idx at_ k=some (atI at_ k):=by
 have hlt:k.toNat<at_.length:=by omega
 have e:idx at_ k=some at_[k.toNat]:=by unfold idx;rw [if_pos h0,List.getElem?_eq_getElem hlt]
 unfold atI;rw [e];rfl
def mixL {α:Type} (f:α->α) (l:List α) (i:Nat):List α:=(l.take i).map f++l.drop i
theorem N3 {α:Type} {f:α->α} {l:List α} {i:Nat} {x:α} (h:l[i]? = some x):(mixL f l i)[i]? = some x:=by
 have hi:=(List.getElem?_eq_some_iff.1 h).1
 unfold mixL;rw [List.getElem?_append_right (by rw [List.length_map,List.length_take];omega),List.length_map,List.length_take,List.getElem?_drop,show i+(i - min i l.length)=i by omega];exact h
theorem O2 {α:Type} {f:α->α} {l:List α} {i:Nat} {x:α} (h:l[i]? = some x):(mixL f l i).set i (f x)=mixL f l (i+1):=by
 have hi:=(List.getElem?_eq_some_iff.1 h).1
 unfold mixL;rw [List.set_append_right _ _ (by rw [List.length_map,List.length_take];omega),List.length_map,List.length_take,show i - min i l.length=0 by omega,Ic h,List.map_append,List.append_assoc]
 congr 1
 have hd:l.drop i=x::l.drop (i+1):=by rw [List.drop_eq_getElem_cons hi];rw [List.getElem?_eq_getElem hi] at h;rw [Option.some.inj h]
 rw [hd];rfl
theorem Pd {α:Type} {f:α->α} {l:List α}:mixL f l l.length=l.map f:=by
 unfold mixL;rw [List.take_length,List.drop_length,List.append_nil]
theorem T8 {b:Nat} {al:List AutoState} {st rt:Int} {a5:Option Addr} {m5 cap5:Nat} {a:Option Addr} {m cap:Nat} {q:List (NodeB AFd)} {at_:List Int} (hq:q.length<=100000) (hok:∀ x∈q,lkOk at_.length x) :
  Go.V.Fn Tryz.prog 31 [.v (.pointer (some ⟨b,0,none⟩))] ([box b 65 [.list 13 AutoState.d al,.i64 st,.v (.slice a m cap),.i64 rt,.v (.slice a5 m5 cap5)],arr a m cap 49 4 NodeB.d q,arr a5 m5 cap5 3 1 D.i64 at_]++ownsB 71 2 AFd.d q)
   (fun d ms'=>d = .tup []/\ms'=[box b 65 [.list 13 AutoState.d al,.i64 st,.v (.slice a m cap),.i64 rt,.v (.slice a5 m5 cap5)],arr a m cap 49 4 NodeB.d (q.map (lkB at_)),arr a5 m5 cap5 3 1 D.i64 at_]++ownsB 71 2 AFd.d (q.map (lkB at_))):=by
 refine Ae func31 rfl ntmps31 rfl fun H0 fr w0=>?_;refine zq3 ?_;refine Ak rfl rfl rfl (Ad rfl) ?_;refine Ak rfl rfl rfl (oFb Hi rfl) ?_;refine zq2 ?_;refine Ak rfl rfl rfl (CZ 1 runUnderlying29 rfl rfl) ?_;refine zq3 ?_;refine EZ [(0,.v (.pointer (some ⟨b,0,none⟩))),(10,.i64 (q.length:Int))] (fun (i:Nat)=>i<=q.length) (fun i=>[(11,.i64 (i:Int))]) (fun i=>[box b 65 [.list 13 AutoState.d al,.i64 st,.v (.slice a m cap),.i64 rt,.v (.slice a5 m5 cap5)],arr a m cap 49 4 NodeB.d (mixL (lkB at_) q i),arr a5 m5 cap5 3 1 D.i64 at_]++ownsB 71 2 AFd.d (mixL (lkB at_) q i)) (fun i=>q.length - i) 0 (Nat.zero_le _) ⟨rfl,rfl,trivial⟩ ⟨rfl,trivial⟩ rfl ?_
 intro i hi
 have hi:i<=q.length:=hi
 refine At (L':=[(11,.i64 (i:Int)),(0,.v (.pointer (some ⟨b,0,none⟩))),(10,.i64 (q.length:Int))]) (ms':=[box b 65 [.list 13 AutoState.d al,.i64 st,.v (.slice a m cap),.i64 rt,.v (.slice a5 m5 cap5)],arr a m cap 49 4 NodeB.d (mixL (lkB at_) q i),arr a5 m5 cap5 3 1 D.i64 at_]++ownsB 71 2 AFd.d (mixL (lkB at_) q i)) rfl rfl ?_;refine zq5 ?_;refine gCd rfl (fun hc=>?_) (fun hc=>?_)
 ·have hlt:i<q.length:=by have:=of_decide_eq_true hc;omega
  have hx0:q[i]? = some q[i]:=List.getElem?_eq_getElem hlt
  have hxm:q[i]∈q:=List.getElem_mem hlt
  generalize q[i]=x at hx0 hxm
  obtain ⟨ha,hfl,hf⟩:=hok x hxm
  have hg:=N3 (f:=lkB at_) hx0
  have hset:=O2 (f:=lkB at_) hx0
  generalize mixL (lkB at_) q i=qi at hg hset
  have hxi:idx qi (i:Int)=some x:=getI hg
  have hil:i<qi.length:=(List.getElem?_eq_some_iff.1 hg).1
  refine P7 1 rfl hg fun bb hbb=>?_;subst hbb;refine zq11 ?_;refine Ak rfl rfl rfl (Ad rfl) ?_;refine Ak rfl rfl rfl (oFb Hi rfl) ?_;refine zq3 ?_;refine Ak rfl rfl rfl (Ag 1 runUnderlying29 sizeOf49 rfl rfl rfl hxi) ?_;refine zq3 ?_;refine Tq (σ:=Unit) [(3,.v (.pointer (some ⟨bb,i*4,none⟩))),(11,.i64 (i:Int)),(0,.v (.pointer (some ⟨b,0,none⟩))),(10,.i64 (q.length:Int))] (fun _=>True) (fun _=>[]) (fun _=>[box b 65 [.list 13 AutoState.d al,.i64 st,.v (.slice (some ⟨bb,0,none⟩) m cap),.i64 rt,.v (.slice a5 m5 cap5)],arr (some ⟨bb,0,none⟩) m cap 49 4 NodeB.d (qi.set i (upB at_ x)),arr a5 m5 cap5 3 1 D.i64 at_]++ownsB 71 2 AFd.d qi) ?_ ?_
  ·refine BY (FA (L':=[(3,.v (.pointer (some ⟨bb,i*4,none⟩))),(11,.i64 (i:Int)),(0,.v (.pointer (some ⟨b,0,none⟩))),(10,.i64 (q.length:Int))]) ⟨(Jy bb (i*4)).symm,rfl,rfl,rfl,trivial⟩) ?_
   refine zq3 ?_;refine Ak rfl rfl rfl (Ad rfl) ?_;refine zq1 ?_;refine Ak rfl rfl rfl (AR (a:=some ⟨bb,0,none⟩) (o:=i*4+0) (off:=0) 1 isAgg3 (Jy bb _) rfl hg rfl rfl rfl) ?_;refine zq2 ?_;refine gCd rfl (fun hc2=>?_) (fun hc2=>?_)
   ·have hk6:x.kind=6:=of_decide_eq_true hc2
    obtain ⟨⟨a0,a1⟩,b0,b1⟩:=ha hk6
    have hga:=NA a0 a1
    have hgb:=NA b0 b1
    refine Fw [24,27] [1,25,26] [] AY (by decide +kernel) (by decide +kernel) rfl ?_;refine AE rfl rfl rfl rfl rfl rfl (oMv rfl) ?_;refine AE rfl rfl rfl rfl rfl rfl (oMv rfl) ?_;refine AE rfl rfl rfl rfl rfl rfl (oMv rfl) ?_;refine AE rfl rfl rfl rfl rfl rfl (Ad rfl) ?_;refine AE rfl rfl rfl rfl rfl rfl (oFb IZ rfl) ?_;refine AE rfl rfl rfl rfl rfl rfl (oLb 0 isAgg43 rfl rfl rfl rfl) ?_;refine AE rfl rfl rfl rfl rfl rfl (oMv rfl) ?_;refine AE rfl rfl rfl rfl rfl rfl (Ad rfl) ?_;refine AE rfl rfl rfl rfl rfl rfl (oFb Nx rfl) ?_;refine AE rfl rfl rfl rfl rfl rfl (AR (a:=some ⟨bb,0,none⟩) (o:=i*4+1) (off:=1) 1 isAgg3 (Jy bb _) rfl hg rfl rfl rfl) ?_;refine AE rfl rfl rfl rfl rfl rfl (Ag 2 runUnderlying43 sizeOf3 rfl rfl rfl hga) ?_;refine AE rfl rfl rfl rfl rfl rfl (AR (off:=0) 2 isAgg3 rfl rfl (Ay hga).2 (by omega) rfl rfl) ?_;refine AE rfl rfl rfl rfl rfl rfl (oMv rfl) ?_;refine AE rfl rfl rfl rfl rfl rfl (Ad rfl) ?_;refine AE rfl rfl rfl rfl rfl rfl (oFb IZ rfl) ?_;refine AE rfl rfl rfl rfl rfl rfl (oLb 0 isAgg43 rfl rfl rfl rfl) ?_;refine AE rfl rfl rfl rfl rfl rfl (oMv rfl) ?_;refine AE rfl rfl rfl rfl rfl rfl (Ad rfl) ?_;refine AE rfl rfl rfl rfl rfl rfl (oFb Nd rfl) ?_;refine AE rfl rfl rfl rfl rfl rfl (AR (a:=some ⟨bb,0,none⟩) (o:=i*4+2) (off:=2) 1 isAgg3 (Jy bb _) rfl hg rfl rfl rfl) ?_;refine AE rfl rfl rfl rfl rfl rfl (Ag 2 runUnderlying43 sizeOf3 rfl rfl rfl hgb) ?_;refine AE rfl rfl rfl rfl rfl rfl (AR (off:=0) 2 isAgg3 rfl rfl (Ay hgb).2 (by omega) rfl rfl) ?_;refine AE rfl rfl rfl rfl rfl rfl (Ad rfl) ?_;refine AE rfl rfl rfl rfl rfl rfl (oFb Nx rfl) ?_;refine Es rfl ?_;refine AE rfl rfl rfl rfl rfl rfl (Ad rfl) ?_;refine AE rfl rfl rfl rfl rfl rfl (oFb Nd rfl) ?_;refine Es rfl ?_;refine Gk ?_;refine Fa rfl rfl rfl (Bn (a:=some ⟨bb,0,none⟩) (o:=i*4+1) (off:=1) (z':=⟨x.kind,atI at_ x.a,x.b,x.fl,x.p,x.m,x.c⟩) 1 sizeOf3 (Jy bb _) rfl hg rfl rfl rfl rfl rfl rfl (nB rfl) rfl rfl) ?_;rintro _ _ rfl;refine ⟨(trivial:True),?_⟩
    have hg2:(qi.set i ⟨x.kind,atI at_ x.a,x.b,x.fl,x.p,x.m,x.c⟩)[i]? = some (⟨x.kind,atI at_ x.a,x.b,x.fl,x.p,x.m,x.c⟩:NodeB AFd):=by simp [hil]
    refine Fa rfl rfl rfl (Bn (a:=some ⟨bb,0,none⟩) (o:=i*4+2) (off:=2) (z':=⟨x.kind,atI at_ x.a,atI at_ x.b,x.fl,x.p,x.m,x.c⟩) 1 sizeOf3 (Jy bb _) rfl hg2 rfl rfl rfl rfl rfl rfl (nB rfl) rfl rfl) ?_;rintro _ _ rfl;refine ⟨(trivial:True),?_⟩;refine Ek ?_
    have hup:(⟨x.kind,atI at_ x.a,atI at_ x.b,x.fl,x.p,x.m,x.c⟩:NodeB AFd)=upB at_ x:=by unfold upB;rw [dT hk6];rfl
    refine ⟨(),trivial,trivial,⟨rfl,rfl,rfl,rfl,trivial⟩,[],?_⟩
    have e:(qi.set i ⟨x.kind,atI at_ x.a,x.b,x.fl,x.p,x.m,x.c⟩).set i (⟨x.kind,atI at_ x.a,atI at_ x.b,x.fl,x.p,x.m,x.c⟩:NodeB AFd)=qi.set i (upB at_ x):=by rw [List.set_set,hup]
    rw [<- e]
    rfl
   ·have hk6:¬ x.kind=6:=of_decide_eq_false hc2
    refine gSp ?_
    have hup:upB at_ x=x:=by unfold upB;rw [dF hk6];rfl
    have hse:qi.set i (upB at_ x)=qi:=by
     rw [hup];obtain ⟨h1,h2⟩:=List.getElem?_eq_some_iff.1 hg;rw [<- h2];exact List.set_getElem_self h1
    rw [hse];exact ⟨(),trivial,trivial,⟨rfl,rfl,rfl,rfl,trivial⟩,[],rfl⟩
  ·rintro ⟨⟩ _
   obtain ⟨xk,xa,xb,xfl,xp,xm,xc⟩:=x
   have hfl:xfl.length<=1000:=hfl
   have hf:∀ f∈xfl,0<=f.at_/\f.at_<(at_.length:Int):=hf
   have hext:arr (some ⟨bb,0,none⟩) m cap 49 4 NodeB.d (qi.set i (upB at_ (⟨xk,xa,xb,xfl,xp,xm,xc⟩:NodeB AFd)))=arr (some ⟨bb,0,none⟩) m cap 49 4 NodeB.d (qi.set i (lkB at_ (⟨xk,xa,xb,xfl,xp,xm,xc⟩:NodeB AFd))):=Ui (by rw [List.map_set,List.map_set];rfl)
   rw [hext]
   have hgn:(qi.set i (lkB at_ (⟨xk,xa,xb,xfl,xp,xm,xc⟩:NodeB AFd)))[i]? = some (lkB at_ (⟨xk,xa,xb,xfl,xp,xm,xc⟩:NodeB AFd)):=by simp [hil]
   have hperm:([box b 65 [.list 13 AutoState.d al,.i64 st,.v (.slice (some ⟨bb,0,none⟩) m cap),.i64 rt,.v (.slice a5 m5 cap5)],arr (some ⟨bb,0,none⟩) m cap 49 4 NodeB.d (qi.set i (lkB at_ (⟨xk,xa,xb,xfl,xp,xm,xc⟩:NodeB AFd))),arr a5 m5 cap5 3 1 D.i64 at_]++ownsB 71 2 AFd.d qi).Perm (arr xp xm xc 71 2 AFd.d xfl::([box b 65 [.list 13 AutoState.d al,.i64 st,.v (.slice (some ⟨bb,0,none⟩) m cap),.i64 rt,.v (.slice a5 m5 cap5)],arr (some ⟨bb,0,none⟩) m cap 49 4 NodeB.d (qi.set i (lkB at_ (⟨xk,xa,xb,xfl,xp,xm,xc⟩:NodeB AFd))),arr a5 m5 cap5 3 1 D.i64 at_]++ownsB 71 2 AFd.d (qi.eraseIdx i))):=((LK (T:=71) (sz:=2) (f:=AFd.d) hg).append_left _).trans List.perm_middle
   have hperm2:(arr xp xm xc 71 2 AFd.d (xfl.map (lfB at_))::([box b 65 [.list 13 AutoState.d al,.i64 st,.v (.slice (some ⟨bb,0,none⟩) m cap),.i64 rt,.v (.slice a5 m5 cap5)],arr (some ⟨bb,0,none⟩) m cap 49 4 NodeB.d (qi.set i (lkB at_ (⟨xk,xa,xb,xfl,xp,xm,xc⟩:NodeB AFd))),arr a5 m5 cap5 3 1 D.i64 at_]++ownsB 71 2 AFd.d (qi.eraseIdx i))).Perm ([box b 65 [.list 13 AutoState.d al,.i64 st,.v (.slice (some ⟨bb,0,none⟩) m cap),.i64 rt,.v (.slice a5 m5 cap5)],arr (some ⟨bb,0,none⟩) m cap 49 4 NodeB.d (qi.set i (lkB at_ (⟨xk,xa,xb,xfl,xp,xm,xc⟩:NodeB AFd))),arr a5 m5 cap5 3 1 D.i64 at_]++ownsB 71 2 AFd.d (qi.set i (lkB at_ (⟨xk,xa,xb,xfl,xp,xm,xc⟩:NodeB AFd)))):=List.perm_middle.symm.trans ((RI (T:=71) (sz:=2) (f:=AFd.d) (v':=lkB at_ (⟨xk,xa,xb,xfl,xp,xm,xc⟩:NodeB AFd)) hg).append_left _)
   refine An (L':=[(3,.v (.pointer (some ⟨bb,i*4,none⟩))),(11,.i64 (i:Int)),(0,.v (.pointer (some ⟨b,0,none⟩))),(10,.i64 (q.length:Int))]) rfl rfl ?_;refine BY (CJ hperm) ?_;refine At (ms':=arr xp xm xc 71 2 AFd.d (mixL (lfB at_) xfl 0)::([box b 65 [.list 13 AutoState.d al,.i64 st,.v (.slice (some ⟨bb,0,none⟩) m cap),.i64 rt,.v (.slice a5 m5 cap5)],arr (some ⟨bb,0,none⟩) m cap 49 4 NodeB.d (qi.set i (lkB at_ (⟨xk,xa,xb,xfl,xp,xm,xc⟩:NodeB AFd))),arr a5 m5 cap5 3 1 D.i64 at_]++ownsB 71 2 AFd.d (qi.eraseIdx i))) rfl rfl ?_;refine zq3 ?_;refine Ak rfl rfl rfl (Ad rfl) ?_;refine zq1 ?_;refine Ak rfl rfl rfl (AR (a:=some ⟨bb,0,none⟩) (o:=i*4+3) (off:=3) 2 isAgg47 (Jy bb _) rfl hgn rfl rfl rfl) ?_;refine Ak rfl rfl rfl (CZ 0 runUnderlying47 rfl rfl) ?_;refine zq3 ?_;refine EZ [(3,.v (.pointer (some ⟨bb,i*4,none⟩))),(56,.i64 (xfl.length:Int)),(11,.i64 (i:Int)),(0,.v (.pointer (some ⟨b,0,none⟩))),(10,.i64 (q.length:Int))] (fun (k:Nat)=>k<=xfl.length) (fun k=>[(57,.i64 (k:Int))]) (fun k=>arr xp xm xc 71 2 AFd.d (mixL (lfB at_) xfl k)::([box b 65 [.list 13 AutoState.d al,.i64 st,.v (.slice (some ⟨bb,0,none⟩) m cap),.i64 rt,.v (.slice a5 m5 cap5)],arr (some ⟨bb,0,none⟩) m cap 49 4 NodeB.d (qi.set i (lkB at_ (⟨xk,xa,xb,xfl,xp,xm,xc⟩:NodeB AFd))),arr a5 m5 cap5 3 1 D.i64 at_]++ownsB 71 2 AFd.d (qi.eraseIdx i))) (fun k=>xfl.length - k) 0 (Nat.zero_le _) ⟨rfl,rfl,rfl,rfl,rfl,trivial⟩ ⟨rfl,trivial⟩ rfl ?_
   intro k hk
   have hk:k<=xfl.length:=hk
   refine At (L':=[(57,.i64 (k:Int)),(3,.v (.pointer (some ⟨bb,i*4,none⟩))),(56,.i64 (xfl.length:Int)),(11,.i64 (i:Int)),(0,.v (.pointer (some ⟨b,0,none⟩))),(10,.i64 (q.length:Int))]) (ms':=arr xp xm xc 71 2 AFd.d (mixL (lfB at_) xfl k)::([box b 65 [.list 13 AutoState.d al,.i64 st,.v (.slice (some ⟨bb,0,none⟩) m cap),.i64 rt,.v (.slice a5 m5 cap5)],arr (some ⟨bb,0,none⟩) m cap 49 4 NodeB.d (qi.set i (lkB at_ (⟨xk,xa,xb,xfl,xp,xm,xc⟩:NodeB AFd))),arr a5 m5 cap5 3 1 D.i64 at_]++ownsB 71 2 AFd.d (qi.eraseIdx i))) rfl rfl ?_;refine zq5 ?_;refine gCd rfl (fun hc3=>?_) (fun hc3=>?_)
   ·have hlt2:k<xfl.length:=by have:=of_decide_eq_true hc3;omega
    have hy0:xfl[k]? = some xfl[k]:=List.getElem?_eq_getElem hlt2
    have hym:xfl[k]∈xfl:=List.getElem_mem hlt2
    generalize xfl[k]=y at hy0 hym
    obtain ⟨y0,y1⟩:=hf y hym
    have hgy:=N3 (f:=lfB at_) hy0
    have hsy:=O2 (f:=lfB at_) hy0
    generalize mixL (lfB at_) xfl k=fk at hgy hsy
    have hyi:idx fk (k:Int)=some y:=getI hgy
    have hat:=NA y0 y1
    refine zq8 ?_;refine zdr 21 ?_;refine zq1 ?_;refine Av rfl rfl rfl (Ad rfl) ?_;refine zq1 ?_;refine Av rfl rfl rfl (AR (a:=some ⟨bb,0,none⟩) (o:=i*4+3) (off:=3) 2 isAgg47 (Jy bb _) rfl hgn rfl rfl rfl) ?_;refine zq2 ?_;refine Av rfl rfl rfl (Ad rfl) ?_;refine Av rfl rfl rfl (oFb IZ rfl) ?_;refine zq2 ?_;refine Av rfl rfl rfl (Ad rfl) ?_;refine zq1 ?_;refine Av rfl rfl rfl (AR (a:=some ⟨bb,0,none⟩) (o:=i*4+3) (off:=3) 2 isAgg47 (Jy bb _) rfl hgn rfl rfl rfl) ?_;refine zq1 ?_;refine Av rfl rfl rfl (Ag 0 runUnderlying47 sizeOf71 rfl rfl rfl hyi) ?_;refine Av rfl rfl rfl (CW (b:=0) 0 Jd rfl rfl hgy) ?_;refine Av rfl rfl rfl (AR (off:=1) 0 isAgg3 rfl rfl hgy rfl rfl rfl) ?_;refine Av rfl rfl rfl (Ag 3 runUnderlying43 sizeOf3 rfl rfl rfl hat) ?_;refine Av rfl rfl rfl (AR (off:=0) 3 isAgg3 rfl rfl (Ay hat).2 (by omega) rfl rfl) ?_;refine Av rfl rfl rfl (Ag 0 runUnderlying47 sizeOf71 rfl rfl rfl hyi) ?_;refine Av rfl rfl rfl (CW (b:=0) 0 Jd rfl rfl hgy) ?_;refine EB ?_;refine IW rfl rfl (Bn (off:=1) (z':=lfB at_ y) 0 sizeOf3 rfl rfl hgy rfl rfl rfl rfl rfl rfl (nB rfl) rfl rfl) ?_;rintro _ _ rfl;refine zq2 ?_;refine Ak rfl rfl rfl (Gn rfl rfl (CS (by constructor <;> omega))) ?_;refine zq2 ?_;refine ⟨k+1,(by show k+1<=xfl.length;omega),(by show xfl.length - (k+1)<xfl.length - k;omega),⟨rfl,trivial⟩,⟨rfl,rfl,rfl,rfl,rfl,trivial⟩,[],?_⟩;rw [<- hsy]
    rfl
   ·have hge2:k=xfl.length:=by have:=of_decide_eq_false hc3;omega
    subst hge2;rw [Pd];refine Au ?_;refine An rfl rfl ?_;refine BY (CJ hperm2) ?_;refine gRg ?_;refine Ak rfl rfl rfl (Gn rfl rfl (CS (by constructor <;> omega))) ?_;refine zq2 ?_;refine ⟨i+1,(by show i+1<=q.length;omega),(by show q.length - (i+1)<q.length - i;omega),⟨rfl,trivial⟩,⟨rfl,rfl,trivial⟩,[],?_⟩;rw [<- hset]
    rfl
 ·have hge:i=q.length:=by have:=of_decide_eq_false hc;omega
  subst hge;rw [Pd];refine Au ?_;exact retKn (Cp (drop:=[]) rfl (List.Perm.refl _)) ⟨rfl,rfl⟩
end Go.Proofs.YtcoghblhdjmbfaaGreat
namespace Go.Proofs.YtcoghblhdjmbfaaGreat
open Go.V Tryz
theorem Wp:∀ fs,(∀ w,(underlying 31).run Tryz.prog w = .ok (.struct fs) w)->Cu Tryz.prog fs [(0,1),(1,1)]:=by
 intro fs h w
 have:=(h w).symm.trans (runUnderlying31 w)
 simp only [Result.ok.injEq,TypeDesc.struct.injEq,and_true] at this;subst this
 simp [sizeOf29,sizeOf3,Sem.run]
theorem Wb:∀ fs,(∀ w,(underlying 65).run Tryz.prog w = .ok (.struct fs) w)->Cu Tryz.prog fs [(0,2),(2,2),(4,1)]:=by
 intro fs h w
 have:=(h w).symm.trans (runUnderlying65 w)
 simp only [Result.ok.injEq,TypeDesc.struct.injEq,and_true] at this;subst this
 simp [sizeOf27,sizeOf31,sizeOf43,Sem.run]
def runB (l:List AutoState):List Int×List ANd:=l.foldl (fun z s=>(z.1++[(Ca (z.2.length:Int) s).1],z.2++(Ca (z.2.length:Int) s).2)) ([],[])
def lkN (at_:List Int) (n:ANd):ANd:=⟨n.kind,bif decide (n.kind=6) then atI at_ n.a else n.a,bif decide (n.kind=6) then atI at_ n.b else n.b,n.l.map (lfB at_)⟩
def backT (x:AutoAuto):ATy:=⟨(runB x.l).2.map (lkN (runB x.l).1),atI (runB x.l).1 x.start⟩
def nOk (n:Nat) (x:ANd):Prop:=(x.kind=6->(0<=x.a/\x.a<(n:Int))/\0<=x.b/\x.b<(n:Int))/\x.l.length<=1000/\∀ f∈x.l,0<=f.at_/\f.at_<(n:Int)
structure BackOk (x:AutoAuto):Prop where
 len:x.l.length<=1000
 st:∀ s∈x.l,s.fields.length<=1000/\s.tags.length<=1000/\s.vars.length<=1000
 nodes:(runB x.l).2.length<=40000
 ok:∀ n∈(runB x.l).2,nOk x.l.length n
 s0:0<=x.start
 s1:x.start<(x.l.length:Int)
open Classical in
noncomputable def C1 (a1:AutoAuto):Option (ATy×Int):=
 (DW a1).bind fun (x,e) =>
 bif (!decide (e=0)) then
  some ((⟨([]:List ANd),0⟩:ATy),e)
 else if BackOk x then Eb (backT x) else none
theorem Gm {α:Type} {P:List α->Prop} (h0:P []) (h1:∀ l a,P l->P (l++[a])) (l:List α):P l:=by
 have key:∀ l:List α,P l.reverse:=by
  intro l
  induction l with
  | nil=>exact h0
  | cons a l ih=>rw [List.reverse_cons];exact h1 _ _ ih
 have:=key l.reverse
 rwa [List.reverse_reverse] at this
theorem Zq (l:List AutoState) (s:AutoState):runB (l++[s])=((runB l).1++[(Ca ((runB l).2.length:Int) s).1],(runB l).2++(Ca ((runB l).2.length:Int) s).2):=by unfold runB;rw [List.foldl_append];rfl
theorem GJ (l:List AutoState):(runB l).1.length=l.length:=by
 refine Gm (P:=fun l=>(runB l).1.length=l.length) rfl (fun l s ih=>?_) l;rw [Zq];simp [ih]
theorem TO (l:List AutoState) (i:Nat):(runB (l.take i)).2.length<=(runB l).2.length:=by
 have key:∀ (r l0:List AutoState),(runB l0).2.length<=(runB (l0++r)).2.length:=by
  intro r
  refine Gm (P:=fun r=>∀ l0:List AutoState,(runB l0).2.length<=(runB (l0++r)).2.length) (fun l0=>by rw [List.append_nil];exact Nat.le_refl _) (fun r s ih l0=>?_) r;rw [<- List.append_assoc,Zq]
  have:=ih l0
  simp only [List.length_append];omega
 have:=key (l.drop i) (l.take i)
 rwa [List.take_append_drop] at this
theorem VD {B A P T X Y:Asrt} {Q R:List Asrt}:(([B,A]++Q)++(P::T::X::Y::R)).Perm (P::B::A::T::X::Y::(R++Q)):=by
 classical
 rw [List.perm_iff_count]
 intro a
 simp [List.count_cons,List.count_append,Nat.add_comm,Nat.add_left_comm,Nat.add_assoc]
theorem permT2 {B A T X Y:Asrt} {R:List Asrt}:([B,A,T,X,Y]++R).Perm (([B,A,T]++R)++[X,Y]):=by
 classical
 rw [List.perm_iff_count]
 intro a
 simp [List.count_cons,List.count_append,Nat.add_comm,Nat.add_left_comm,Nat.add_assoc]
theorem Vu {B A T X Y:Asrt} {R:List Asrt}:([B,A,T,X,Y]++R).Perm (A::(R++[B,T,X,Y])):=by
 classical
 rw [List.perm_iff_count]
 intro a
 simp [List.count_cons,List.count_append,Nat.add_comm,Nat.add_left_comm,Nat.add_assoc]
theorem V3 {B A P:Asrt} {R:List Asrt}:(P::B::A::R).Perm ([B,A]++(P::R)):=by
 classical
 rw [List.perm_iff_count]
 intro a
 simp [List.count_cons,List.count_append,Nat.add_comm,Nat.add_left_comm,Nat.add_assoc]
theorem Km {a1:AutoAuto} {r_1:ATy} {r_2:Int} (hm:C1 a1=some (r_1,r_2)):Fn0 Tryz.prog 8 [AutoAuto.d a1] (.tup [ATy.d r_1,.i64 r_2]):=by
 unfold C1 at hm;refine Ae func8 rfl ntmps8 rfl fun H0 fr w0=>?_;refine zq3 ?_;refine F7 fun b2=>?_;refine zq5 ?_;obtain ⟨⟨x,e⟩,hx,hm⟩:=bS hm;refine zc0 (OR hx) ?_;refine zq3 ?_;refine JY fun b4=>?_;refine zst 0 ?_;refine zq1 ?_;refine Aj (ms':=[box b4 27 [.list 13 AutoState.d x.l,.i64 x.start],box b2 31 [.list 4 ANd.d [],.i64 0]]) rfl ?_;refine zq7 ?_;refine gCd rfl (fun hc=>?_) (fun hc=>?_)
 ·replace hm:=Bg hc hm
  obtain ⟨rfl,rfl⟩:=Prod.mk.inj (Ac hm);refine zq2 ?_;refine Ak rfl rfl rfl (Aw (zs:=[.list 4 ANd.d [],.v (.int .i64 0)]) runUnderlying31 zeroValue31 (Wp _ runUnderlying31) rfl rfl rfl rfl) ?_;refine zq1 ?_;refine zst 1 ?_;refine zq2 ?_;refine Af ?_;exact retK (LC (ds:=[_,_]) rfl (by decide) ⟨ES 1 rfl rfl rfl isAgg31 sizeOf31 rfl,⟨A6 rfl,rfl⟩⟩ (EL _)) rfl
 ·replace hm:=Be hc hm
  split at hm
  rotate_left
  ·cases hm
  rename_i hB
  refine zq2 ?_
  have hlen:=hB.len
  have h0:(0:Int)<=(x.l.length:Int):=by omega
  refine Fz 5 [4] AY (by decide +kernel) (by decide +kernel) rfl (by decide +kernel) ?_;refine AD rfl rfl rfl rfl (oLg 0 isAgg27 sizeOf27 rfl rfl rfl rfl (nB rfl)) ?_;refine AD rfl rfl rfl rfl (oFb Qj rfl) ?_;refine AD rfl rfl rfl rfl (oLb 0 isAgg25 rfl rfl rfl rfl) ?_;refine AD rfl rfl rfl rfl (Em runUnderlying25 rfl) ?_;refine DN (R:=fun d A=>∃ a m cap,d = .v (.slice a m cap)/\A=arr a m cap 3 1 D.i64 (List.replicate ((x.l.length:Int)).toNat 0)) rfl rfl rfl (OpT.mono (Dw (f:=D.i64) (z0:=0) underlying43 type3 rfl rfl rfl (nB rfl) rfl rfl h0 (by show x.l.length*8<=140737488355328;omega) (nB rfl)) (by rintro _ _ ⟨a,m,cap,rfl,rfl⟩;exact ⟨_,⟨a,m,cap,rfl,rfl⟩,rfl⟩)) ?_;refine Gr ?_;rintro _ _ ⟨a5,m5,cap5,rfl,rfl⟩;refine Ak rfl rfl rfl (Aw (zs:=[.list 13 AutoState.d [],.v (.int .i64 0),.v (.slice none 0 0),.v (.int .i64 0),.v (.slice none 0 0)]) runUnderlying65 zeroValue65 (Wb _ runUnderlying65) rfl rfl rfl rfl) ?_;refine AJ rfl rfl rfl (Iv rfl rfl rfl) ?_;rintro _ _ ⟨b,rfl,rfl⟩;refine zq1 ?_;refine Ap (BF (T:=49) (sz:=4) (f:=NodeB.d (β:=AFd))) ?_;refine Aj (ms':=[arr none 0 0 49 4 NodeB.d ([]:List (NodeB AFd)),box b 65 [.list 13 AutoState.d x.l,.i64 x.start,.v (.slice none 0 0),.i64 0,.v (.slice a5 m5 cap5)],arr a5 m5 cap5 3 1 D.i64 (List.replicate x.l.length 0),box b4 27 [.list 13 AutoState.d x.l,.i64 x.start],box b2 31 [.list 4 ANd.d [],.i64 0]]) rfl ?_;refine zq2 ?_;refine BY (CJ (List.Perm.swap _ _ _)) ?_;refine zq8 ?_;refine EZ [(2,.v (.pointer (some ⟨b2,0,none⟩))),(4,.v (.pointer (some ⟨b4,0,none⟩))),(6,.v (.pointer (some ⟨b,0,none⟩))),(26,.list 13 AutoState.d x.l),(27,.i64 (x.l.length:Int))] (fun (z:Nat×(Option Addr×Nat×Nat)×List (NodeB AFd))=>z.1<=x.l.length/\z.2.2.map nodN=(runB (x.l.take z.1)).2) (fun z=>[(28,.i64 (z.1:Int))]) (fun z=>[box b 65 [.list 13 AutoState.d x.l,.i64 x.start,.v (.slice z.2.1.1 z.2.1.2.1 z.2.1.2.2),.i64 0,.v (.slice a5 m5 cap5)],arr z.2.1.1 z.2.1.2.1 z.2.1.2.2 49 4 NodeB.d z.2.2,arr a5 m5 cap5 3 1 D.i64 ((runB (x.l.take z.1)).1++List.replicate (x.l.length - z.1) 0),box b4 27 [.list 13 AutoState.d x.l,.i64 x.start],box b2 31 [.list 4 ANd.d [],.i64 0]]++ownsB 71 2 AFd.d z.2.2) (fun z=>x.l.length - z.1) (0,(none,0,0),[]) ⟨Nat.zero_le _,rfl⟩ ⟨rfl,rfl,rfl,rfl,rfl,trivial⟩ ⟨rfl,trivial⟩ rfl ?_;rintro ⟨i,⟨a,m,cap⟩,q⟩ ⟨hi,hqn⟩
  have hi:i<=x.l.length:=hi
  have hqn:q.map nodN=(runB (x.l.take i)).2:=hqn
  have hql:q.length=(runB (x.l.take i)).2.length:=by rw [<- hqn,List.length_map]
  have hq1:q.length<=40000:=by rw [hql];exact Nat.le_trans (TO _ _) hB.nodes
  refine At (L':=(28,.i64 (i:Int))::[(2,.v (.pointer (some ⟨b2,0,none⟩))),(4,.v (.pointer (some ⟨b4,0,none⟩))),(6,.v (.pointer (some ⟨b,0,none⟩))),(26,.list 13 AutoState.d x.l),(27,.i64 (x.l.length:Int))]) (ms':=[box b 65 [.list 13 AutoState.d x.l,.i64 x.start,.v (.slice a m cap),.i64 0,.v (.slice a5 m5 cap5)],arr a m cap 49 4 NodeB.d q,arr a5 m5 cap5 3 1 D.i64 ((runB (x.l.take i)).1++List.replicate (x.l.length - i) 0),box b4 27 [.list 13 AutoState.d x.l,.i64 x.start],box b2 31 [.list 4 ANd.d [],.i64 0]]++ownsB 71 2 AFd.d q) rfl rfl ?_;refine zq5 ?_;refine gCd rfl (fun hc2=>?_) (fun hc2=>?_)
  ·have hlt:i<x.l.length:=by have:=of_decide_eq_true hc2;omega
   have hs0:x.l[i]? = some x.l[i]:=List.getElem?_eq_getElem hlt
   have hsm:x.l[i]∈x.l:=List.getElem_mem hlt
   generalize x.l[i]=s at hs0 hsm
   obtain ⟨hsf,hst,hsv⟩:=hB.st s hsm
   have hsi:idx x.l (i:Int)=some s:=getI hs0
   have hrl:=GJ (x.l.take i)
   rw [List.length_take,Nat.min_eq_left hi] at hrl
   have hrun:runB (x.l.take (i+1))=((runB (x.l.take i)).1++[(Ca (q.length:Int) s).1],(runB (x.l.take i)).2++(Ca (q.length:Int) s).2):=by rw [Ic hs0,Zq,hql]
   have hget:((runB (x.l.take i)).1++List.replicate (x.l.length - i) (0:Int))[i]? = some 0:=by
    rw [List.getElem?_append_right (by omega),hrl,Nat.sub_self,List.getElem?_replicate,if_pos (by omega)]
   have hidx:idx ((runB (x.l.take i)).1++List.replicate (x.l.length - i) (0:Int)) (i:Int)=some 0:=getI hget
   have hset:((runB (x.l.take i)).1++List.replicate (x.l.length - i) (0:Int)).set i (Ca (q.length:Int) s).1=(runB (x.l.take (i+1))).1++List.replicate (x.l.length - (i+1)) 0:=by
    rw [hrun,List.set_append_right _ _ (by omega),hrl,Nat.sub_self,show x.l.length - i=(x.l.length - (i+1))+1 by omega,List.replicate_succ]
    simp
   refine zq6 ?_;refine Ak rfl rfl rfl (oIm runUnderlying25 sizeOf59 rfl rfl hsi) ?_;refine zq1 ?_;refine PG fun b8=>?_;refine zq1 ?_;refine zst 0 ?_;refine Aj (ms':=box b8 59 [.bool s.plus,.bool s.all,.bool s.int,.bool s.bool,.bool s.str,.bool s.arrow,.bool s.rec_,.bool s.tag,.list 1 D.i64 s.vars,.i64 s.dom,.i64 s.cod,.list 2 AutoEdge.d s.fields,.list 2 AutoEdge.d s.tags]::([box b 65 [.list 13 AutoState.d x.l,.i64 x.start,.v (.slice a m cap),.i64 0,.v (.slice a5 m5 cap5)],arr a m cap 49 4 NodeB.d q,arr a5 m5 cap5 3 1 D.i64 ((runB (x.l.take i)).1++List.replicate (x.l.length - i) 0),box b4 27 [.list 13 AutoState.d x.l,.i64 x.start],box b2 31 [.list 4 ANd.d [],.i64 0]]++ownsB 71 2 AFd.d q)) rfl ?_;refine gNl ?_;refine Fw [7,8,9] [0,1,2,3,4] [3] AY (by decide +kernel) (by decide +kernel) rfl ?_;refine AE rfl rfl rfl rfl rfl rfl (oMv rfl) ?_;refine AE rfl rfl rfl rfl rfl rfl (Ad rfl) ?_;refine AE rfl rfl rfl rfl rfl rfl (oFb IZ rfl) ?_;refine I9 rfl rfl rfl rfl rfl (oLb 1 isAgg43 rfl rfl rfl rfl) ?_;refine AE rfl rfl rfl rfl rfl rfl (oMv rfl) ?_;refine AE rfl rfl rfl rfl rfl rfl (oMv rfl) ?_;refine AE rfl rfl rfl rfl rfl rfl (oLg 0 isAgg59 sizeOf59 rfl rfl rfl rfl (nB rfl)) ?_;refine Es rfl ?_;refine Es rfl ?_;refine Es rfl ?_;refine Gk ?_;refine FZ rfl rfl rfl rfl (D5 (ms₁:=[box b 65 [.list 13 AutoState.d x.l,.i64 x.start,.v (.slice a m cap),.i64 0,.v (.slice a5 m5 cap5)],arr a m cap 49 4 NodeB.d q]) call30 rfl V3 (TA (s:=s) (by omega) hsf hst hsv)) ?_;rintro _ _ ⟨_,⟨rfl,a2,m2,cap2,qn,rfl,hq2⟩,rfl⟩;refine ⟨⟨trivial,oLb 0 isAgg43 rfl rfl rfl rfl⟩,?_⟩;refine FZ rfl rfl rfl rfl (OpT.conv (CJ VD) (Ag 3 runUnderlying43 sizeOf3 rfl rfl rfl hidx)) ?_;rintro _ _ ⟨rfl,rfl⟩;refine ⟨⟨trivial,oLb 1 isAgg43 rfl rfl rfl rfl⟩,?_⟩;refine Fa rfl rfl rfl (Bn (off:=0) (z':=(Ca (q.length:Int) s).1) 3 sizeOf3 rfl rfl hget (by omega) rfl rfl rfl rfl rfl (nB rfl) rfl rfl) ?_;rintro _ _ rfl;refine ⟨⟨trivial,oLb 1 isAgg43 rfl rfl rfl rfl⟩,?_⟩;refine Ek ?_;refine gRg ?_;refine Ak rfl rfl rfl (Gn rfl rfl (CS (by constructor <;> omega))) ?_;refine zq2 ?_;refine ⟨(i+1,(a2,m2,cap2),q++qn),⟨by show i+1<=x.l.length;omega,?_⟩,by show x.l.length - (i+1)<x.l.length - i;omega,⟨rfl,trivial⟩,⟨rfl,rfl,rfl,rfl,rfl,trivial⟩,[box b8 59 [.bool s.plus,.bool s.all,.bool s.int,.bool s.bool,.bool s.str,.bool s.arrow,.bool s.rec_,.bool s.tag,.list 1 D.i64 s.vars,.i64 s.dom,.i64 s.cod,.list 2 AutoEdge.d s.fields,.list 2 AutoEdge.d s.tags]],?_⟩
   ·show (q++qn).map nodN=(runB (x.l.take (i+1))).2
    rw [hrun,List.map_append,hqn,hq2]
   ·show _=[box b8 59 [.bool s.plus,.bool s.all,.bool s.int,.bool s.bool,.bool s.str,.bool s.arrow,.bool s.rec_,.bool s.tag,.list 1 D.i64 s.vars,.i64 s.dom,.i64 s.cod,.list 2 AutoEdge.d s.fields,.list 2 AutoEdge.d s.tags]]++([box b 65 [.list 13 AutoState.d x.l,.i64 x.start,.v (.slice a2 m2 cap2),.i64 0,.v (.slice a5 m5 cap5)],arr a2 m2 cap2 49 4 NodeB.d (q++qn),arr a5 m5 cap5 3 1 D.i64 ((runB (x.l.take (i+1))).1++List.replicate (x.l.length - (i+1)) 0),box b4 27 [.list 13 AutoState.d x.l,.i64 x.start],box b2 31 [.list 4 ANd.d [],.i64 0]]++ownsB 71 2 AFd.d (q++qn))
    rw [<- hset,Ih]
    rfl
  ·have hge:i=x.l.length:=by have:=of_decide_eq_false hc2;omega
   subst hge;rw [List.take_length] at hqn hql;rw [List.take_length,Nat.sub_self,List.replicate_zero,List.append_nil]
   have hrl:=GJ x.l
   have hlk:∀ y∈q,lkOk (runB x.l).1.length y:=by
    intro y hy
    have h:=hB.ok (nodN y) (by rw [<- hqn];exact List.mem_map.2 ⟨y,hy,rfl⟩)
    rw [hrl];exact h
   have hst:=NA (at_:=(runB x.l).1) hB.s0 (by rw [hrl];exact hB.s1)
   refine Au ?_;refine An rfl rfl ?_;refine zq3 ?_;refine AJ rfl rfl rfl (D5 (ms₁:=[box b 65 [.list 13 AutoState.d x.l,.i64 x.start,.v (.slice a m cap),.i64 0,.v (.slice a5 m5 cap5)],arr a m cap 49 4 NodeB.d q,arr a5 m5 cap5 3 1 D.i64 (runB x.l).1]++ownsB 71 2 AFd.d q) call31 rfl permT2 (T8 (by omega) hlk)) ?_;rintro _ _ ⟨_,⟨rfl,rfl⟩,rfl⟩;refine Ap (CJ permT2.symm) ?_;refine zq2 ?_;refine zdr 12 ?_;refine zq2 ?_;refine Av rfl rfl rfl (Ad rfl) ?_;refine Av rfl rfl rfl (oFb IZ rfl) ?_;refine zq3 ?_;refine Av rfl rfl rfl (Ag 2 runUnderlying43 sizeOf3 rfl rfl rfl hst) ?_;refine Av rfl rfl rfl (AR (off:=0) 2 isAgg3 rfl rfl (Ay hst).2 (by omega) rfl rfl) ?_;refine Av rfl rfl rfl (Ad rfl) ?_;refine Av rfl rfl rfl (oFb Hi rfl) ?_;refine zq2 ?_;refine zst 0 ?_;refine Aj (ms':=[box b 65 [.list 13 AutoState.d x.l,.i64 x.start,.v (.slice a m cap),.i64 (atI (runB x.l).1 x.start),.v (.slice a5 m5 cap5)],arr a m cap 49 4 NodeB.d (q.map (lkB (runB x.l).1)),arr a5 m5 cap5 3 1 D.i64 (runB x.l).1,box b4 27 [.list 13 AutoState.d x.l,.i64 x.start],box b2 31 [.list 4 ANd.d [],.i64 0]]++ownsB 71 2 AFd.d (q.map (lkB (runB x.l).1))) rfl ?_;refine zq4 ?_;refine Ak rfl rfl rfl (Ad rfl) ?_;refine Ak rfl rfl rfl (oFb Hi rfl) ?_;refine zq1 ?_;refine Ap (CJ Vu) ?_;refine Ap (L6 (i:=60) (h:=nodN) (g:=ANd.d) (fun _=>rfl) rfl) ?_
   have hqm:(q.map (lkB (runB x.l).1)).map nodN=(backT x).l:=by
    show _=(runB x.l).2.map (lkN (runB x.l).1)
    rw [<- hqn,List.map_map,List.map_map];rfl
   refine zc0 (M9 (t1:=⟨(q.map (lkB (runB x.l).1)).map nodN,atI (runB x.l).1 x.start⟩) (by rw [hqm];exact hm)) ?_;refine zq2 ?_;refine zst 3 ?_;refine zq2 ?_;refine Af ?_;exact retK (LC (ds:=[_,_]) rfl (by decide) ⟨ES 3 rfl rfl rfl isAgg31 sizeOf31 rfl,⟨A6 rfl,rfl⟩⟩ (EL _)) rfl
end Go.Proofs.YtcoghblhdjmbfaaGreat
namespace Go.Proofs.YtcoghblhdjmbfaaGreat
open Go.V Tryz
noncomputable def Cf  : Option Bool:=
 (C1 (⟨[(⟨true,false,true,true,false,false,false,false,([]:List Int),0,0,([]:List AutoEdge),([]:List AutoEdge)⟩:AutoState)],0⟩:AutoAuto)).bind fun (x1,x2) =>
 (bif ((decide (x2=0))&&(decide ((x1.l.length:Int)=3))) then ((idx x1.l 0).bind fun x3 =>
 some (decide (x3.kind=9))) else (some false)).bind fun p1 =>
 some p1
theorem HF  {r_1:Bool} (hm:Cf=some r_1):Fn0 Tryz.prog 11 [] (.bool r_1):=by
 unfold Cf at hm;refine Ae func11 rfl ntmps11 rfl fun H0 fr w0=>?_;refine zq6 ?_;refine Ak rfl rfl rfl zb59b ?_;refine Ak rfl rfl rfl (Ai (xs:=[_]) (f:=AutoState.d) (l:=[(⟨true,false,true,true,false,false,false,false,([]:List Int),0,0,([]:List AutoEdge),([]:List AutoEdge)⟩:AutoState)]) runUnderlying25 sizeOf59 zeroValue59 rfl rfl rfl (fun _=>⟨rfl,rfl,rfl⟩) rfl) ?_;refine Ak rfl rfl rfl zb27b ?_;obtain ⟨⟨x1,x2⟩,hx1,hm⟩:=bS hm;refine zc0 (Km hx1) ?_;refine zq3 ?_;refine F7 fun b1=>?_;refine zst 0 ?_;refine Aj (ms':=[box b1 31 [_,_]]) rfl ?_;refine zq7 ?_
 apply Cz [(1,_)] 5 17 (t:=12) ⟨rfl,trivial⟩ rfl
 ·intro hg_1 hk1
  refine zq5 ?_;exact zgm hk1
 ·intro hg_1 hk1
  refine zq5 ?_;exact zgm hk1
 refine zq1 ?_;obtain ⟨p1,hp_2,hm⟩:=bS hm;refine Bs [] 7 25 p1 (t:=18) trivial rfl (fun hg_2 hk2=>?_) (fun hg_2 hk2=>?_) ?_
 ·replace hp_2:=Bg hg_2 hp_2
  refine zq2 ?_;obtain ⟨x3,hx2,hp_2⟩:=bS hp_2;refine zq5 ?_;exact zgb hk2 hp_2
 ·replace hp_2:=Be hg_2 hp_2
  refine zq7 ?_;exact zgb hk2 hp_2
 refine zq2 ?_
 cases hm;exact Af zr1
noncomputable def Ck (a1:AutoAuto) (t1:ATy):Option Bool:=
 (Cf).bind fun x1 =>
 bif (!x1) then
  some false
 else
  (Cn a1 10).bind fun x2 =>
  (G3 (⟨t1.l,t1.root⟩:ATy) 6).bind fun x3 =>
  (C1 (⟨x2.l,x2.start⟩:AutoAuto)).bind fun (x4,x5) =>
  (bif (!decide (x5=0)) then (some true) else ((Dt (⟨x3.l,x3.root⟩:ATy)).bind fun x6 =>
  some (!x6))).bind fun p1 =>
  bif p1 then
   some ((decide (x5=0))||(decide ((x4.l.length:Int)=0)))
  else
   (AN (⟨x4.l,x4.root⟩:ATy) (⟨x3.l,x3.root⟩:ATy)).bind fun x7 =>
   (CN (⟨x2.l,x2.start⟩:AutoAuto)).bind fun x8 =>
   (Ct x8).bind fun x9 =>
   (AN x9 (⟨x3.l,x3.root⟩:ATy)).bind fun x10 =>
   some (x7 == x10)
theorem w_syntagmalaw27_BackSame {a1:AutoAuto} {t1:ATy} {r_1:Bool} (hm:Ck a1 t1=some r_1):Fn0 Tryz.prog 5 [AutoAuto.d a1,ATy.d t1] (.bool r_1):=by
 unfold Ck at hm;refine Ae func5 rfl ntmps5 rfl fun H0 fr w0=>?_;refine zq3 ?_;refine AJ rfl rfl rfl (Iv rfl rfl rfl) ?_;rintro _ _ ⟨b1,rfl,rfl⟩;refine zq5 ?_;obtain ⟨x1,hx1,hm⟩:=bS hm;refine zc0 (HF hx1) ?_;refine zq2 ?_;refine zcn hm (fun hc1 hm=>?_) (fun hc1 hm=>?_)
 ·refine zq4 ?_
  cases hm;exact Af zr1
 ·refine zq4 ?_
  obtain ⟨x2,hx2,hm⟩:=bS hm;refine zc0 (H9 hx2) ?_;refine JY fun b2=>?_;refine zst 0 ?_;refine Aj (ms':=[box b2 27 [_,_],box b1 31 [_,_]]) rfl ?_;refine zq4 ?_;obtain ⟨x3,hx3,hm⟩:=bS hm;refine zc0 (SG hx3) ?_;refine zst 1 ?_;refine Aj (ms':=[box b2 27 [_,_],box b1 31 [_,_]]) rfl ?_;refine zq4 ?_;obtain ⟨⟨x4,x5⟩,hx4,hm⟩:=bS hm;refine zc0 (Km hx4) ?_;refine zq3 ?_;refine F7 fun b3=>?_;refine zst 0 ?_;refine Aj (ms':=[box b3 31 [_,_],box b2 27 [_,_],box b1 31 [_,_]]) rfl ?_;refine zq8 ?_;obtain ⟨p1,hp_1,hm⟩:=bS hm;refine Bs [(3,_),(5,_),(6,_),(7,_)] 4 25 p1 (t:=21) ⟨rfl,rfl,rfl,rfl,trivial⟩ rfl (fun hg_1 hk1=>?_) (fun hg_1 hk1=>?_) ?_
  ·replace hp_1:=Bg hg_1 hp_1
   refine zq4 ?_;exact zgb hk1 hp_1
  ·replace hp_1:=Be hg_1 hp_1
   refine zq1 ?_;obtain ⟨x6,hx5,hp_1⟩:=bS hp_1;refine zcw (Lr hx5) ?_;refine zq2 ?_;exact zgb hk1 hp_1
  refine gNl ?_;refine zcn hm (fun hc2 hm=>?_) (fun hc2 hm=>?_)
  ·refine zq5 ?_
   apply Cv [] 5 33 (t:=28) trivial rfl
   ·intro hg_2 hk2
    refine zq5 ?_;exact zgm hk2
   ·intro hg_2 hk2
    refine zq5 ?_;exact zgm hk2
   refine zq2 ?_
   cases hm;exact Af zr1
  ·refine zq2 ?_
   obtain ⟨x7,hx6,hm⟩:=bS hm;obtain ⟨x8,hx7,hm⟩:=bS hm;obtain ⟨x9,hx8,hm⟩:=bS hm;obtain ⟨x10,hx9,hm⟩:=bS hm;refine zdr 10 ?_;refine zq2 ?_;refine zcd (E5 hx6) ?_;refine zq1 ?_;refine zcd (II hx7) ?_;refine zcd (HN hx8) ?_;refine zq1 ?_;refine zcd (E5 hx9) ?_;refine zq4 ?_
   cases hm;exact Af zr1
end Go.Proofs.YtcoghblhdjmbfaaGreat
namespace Go.Proofs.YtcoghblhdjmbfaaGreat
open Go.V Tryz
open Classical
def SB (s:AutoState):Prop:=s.vars.length<=40/\s.fields.length<=40/\s.tags.length<=40
def AB (a:AutoAuto):Prop:=a.l.length<=2001/\∀ s∈a.l,SB s
theorem FUv:FU=18446744073709551616:=rfl
def nextP (s:AutoState):List Int:=(if s.arrow=true then [s.dom,s.cod] else [])++s.fields.map (·.to_)++s.tags.map (·.to_)
theorem Rn (s:AutoState) (h:SB s):(nextP s).length<=82:=by
 obtain ⟨h1,h2,h3⟩:=h;unfold nextP
 split <;> simp <;> omega
theorem Nj (l:List AutoEdge) (h:l.length<=40):Dh l=some (l.map (·.to_)):=by
 unfold Dh;refine bnd (Dm (φ:=fun n i s=>DL l n (i,s)) (l:=l) (fun x=>x.to_) id 0 ?_ ?_ (by rw [FUv];omega) [] rfl) rfl
 ·intro n i x s hx hi hs
  simp only [DL];rw [dT (by omega),cT,getI hx,oB,Ab (by simp;omega),Ab (by omega)]
 ·intro n s hs
  simp only [DL];rw [dF (by omega),cF_];rfl
theorem MI (ls:List (List Int)) (h:ls.length<=3) (h2:∀ l∈ls,l.length<=40):LS ls=some ls.flatten:=by
 have hm:∀ {i:Nat} {x:List Int},ls[i]? = some x->x.length<=40:=fun hx=>h2 _ (List.mem_of_getElem? hx)
 unfold LS
 have e1:=JE (φ:=fun n i s=>G6 ls n (s,i)) (l:=ls) (fun i s=>0<=s/\s<=40*i) (fun _ s x=>s+(x.length:Int)) id (by
  intro n i x s hx hi hI
  have hm:=hm hx
  simp only [G6];rw [dT (by omega),cT,getI hx,oB,Ab (by omega),dF (by omega),cF_,Ab (by omega)];exact ⟨rfl,by omega⟩) (by
  intro n s hI
  simp only [G6];rw [dF (by omega),cF_];rfl) (by rw [FUv];omega) (fun _ t s=>t.foldl (fun s x=>s+(x.length:Int)) s) (fun _ _=>rfl) (fun _ _ _ _=>rfl) 0 (by omega)
 have e2:=JE (φ:=fun n i s=>GZ ls n (i,s)) (l:=ls) (fun i s=>s.length<=40*i) (fun _ s x=>s++x) id (by
  intro n i x s hx hi hI
  have hm:=hm hx
  simp only [GZ];rw [dT (by omega),cT,getI hx,oB,Ab (by omega),Ab (by omega)];exact ⟨rfl,by simp;omega⟩) (by
  intro n s hI
  simp only [GZ];rw [dF (by omega),cF_];rfl) (by rw [FUv];omega) (fun _ t s=>s++t.flatten) (by simp) (by simp) [] (by simp)
 refine bnd e1.1 ?_
 have e3:=e1.2
 rw [id,Ab (by omega),Ab (by omega)];exact bnd e2.1 rfl
theorem UO (s:AutoState) (h:SB s):Fu s=some (nextP s):=by
 obtain ⟨h1,h2,h3⟩:=h;unfold Fu;refine bnd (x:=if s.arrow=true then [s.dom,s.cod] else []) ?_ ?_
 ·cases s.arrow with
  | true=>rw [cT,Ab (by simp)];rfl
  | false=>rfl
 rw [Nj _ h2,oB,Nj _ h3,oB,MI]
 ·simp [nextP]
 ·simp
 ·intro l hl
  simp only [List.mem_cons,List.not_mem_nil,or_false] at hl
  rcases hl with rfl | rfl | rfl
  ·split <;> simp
  ·simpa using h2
  ·simpa using h3
theorem Qi (l:List Int) (h:l.length<=100):FO l=some l:=by
 unfold FO;rw [Ab (by omega)];rfl
theorem Ia (a b:List Int) (h:a.length<=3000):C8 a b=some (decide (a=b)):=by
 unfold C8;simp only [Bool.cond_eq_ite,Bool.not_eq_true',decide_eq_false_iff_not]
 by_cases hl:a.length=b.length
 ·rw [if_neg (by omega)]
  refine bnd (Ib (φ:=CL a b) (l:=a) false (fun i x=>b[i]? = some x) ?_ ?_ (by rw [FUv];omega)) ?_
  ·intro n i x hx hi
   simp only [CL]
   have hy:b[i]? = some b[i]:=List.getElem?_eq_getElem (by omega)
   rw [dT (by omega),cT,getI hx,oB,getI hy,oB,hy];simp only [Bool.cond_eq_ite,Bool.not_eq_true',decide_eq_false_iff_not]
   constructor
   ·intro h;rw [if_neg (by simpa using (Option.some.inj h).symm),Ab (by omega)]
   ·intro h;rw [if_pos (by intro h2;exact h (by rw [h2]))]
  ·intro n
   simp only [CL];rw [dF (by omega),cF_]
  ·by_cases h3:a=b
   ·subst h3
    rw [if_pos (fun i x h=>h),dT rfl];rfl
   ·rw [if_neg,dF h3];rfl
    intro h4
    refine h3 (List.ext_getElem? fun i=>?_)
    by_cases hi:i<a.length
    ·rw [h4 i a[i] (List.getElem?_eq_getElem hi),List.getElem?_eq_getElem hi]
    ·rw [List.getElem?_eq_none (by omega),List.getElem?_eq_none (by omega)]
 ·rw [if_pos (by omega),dF (fun h=>hl (by rw [h]))]
def Gz (c:UInt8):Bool:=(decide (97<=(c.toNat:Int))&&decide ((c.toNat:Int)<=122))||decide ((c.toNat:Int)=95)
def GA (c:UInt8):Bool:=decide (65<=(c.toNat:Int))&&decide ((c.toNat:Int)<=90)
def moreB (c:UInt8):Bool:=(Gz c||GA c)||(decide (48<=(c.toNat:Int))&&decide ((c.toNat:Int)<=57))
def wordP:List UInt8->Nat
 | []=>0
 | c::r=>if Gz c=true\/GA c=true then 1+(r.takeWhile moreB).length else 0
theorem Vx (c:UInt8) (r:List UInt8):wordP (c::r)=if Gz c=true\/GA c=true then 1+(r.takeWhile moreB).length else 0:=rfl
theorem bt (b c:Bool):(bif b then some true else some c:Option Bool)=some (b||c):=by cases b <;> rfl
theorem bf (b c:Bool):(bif b then some c else some false:Option Bool)=some (b&&c):=by cases b <;> rfl
theorem UF (s:List UInt8) (h:s.length<=1000000000000):Fs s=some (wordP s:Int):=by
 unfold Fs
 rcases s with _ | ⟨c,r⟩
 ·rfl
 ·rw [dF (by simp),cF_,M8,oB]
  simp only [C2,DC,oB,bf];rw [show (((decide (97<=(c.toNat:Int)))&&(decide ((c.toNat:Int)<=122)))||(decide ((c.toNat:Int)=95)))=Gz c from rfl,show ((decide (65<=(c.toNat:Int)))&&(decide ((c.toNat:Int)<=90)))=GA c from rfl];rw [Vx]
  cases h1:Gz c||GA c with
  | false =>
   simp only [Bool.or_eq_false_iff] at h1;rw [h1.1,h1.2];simp
  | true =>
   rw [if_pos (by simpa using h1)]
   have:(!Gz c && !GA c)=false:=by cases hs:Gz c <;> cases hg:GA c <;> simp_all
   rw [this,cF_];simp only [List.length_cons] at h;refine bnd (Pr (φ:=Do (c::r)) (l:=c::r) moreB (fun i=>(i:Int)) ?_ ?_ FU 1 (by simp) (by rw [FUv];simp;omega)) rfl
   ·intro n i x hx hi
    simp only [List.length_cons] at hi;simp only [Do];rw [dT (by simp only [List.length_cons];omega),cT,getI hx,oB];simp only [Gj,C2,DC,oB,bt]
    constructor
    ·intro hq
     simp only [moreB,Gz,GA] at hq;rw [hq,cT,Ab (by omega)]
    ·intro hq
     simp only [moreB,Gz,GA] at hq;rw [hq,cF_]
   ·intro n
    simp only [Do];rw [dF (by omega),cF_,oB,cF_]
def keysL:List (List UInt8):=match DJ with | some l=>l | none=>[]
theorem Ul:DJ=some keysL:=rfl
theorem SL (l:List (List UInt8)) (s:List UInt8) (h:l.length<=1000):OB l s=some (decide (s∈l)):=by
 unfold OB Qp
 have e:=Fc (φ:=GG l s) (l:=l) (fun i=>(i:Int)) (fun x=>decide (s=x)) (by
  intro n i x hx hi
  simp only [GG];rw [dT (show (i:Int)<l.length by omega),cT,getI hx,oB]
  constructor
  ·intro hq;rw [show decide (s=x)=false from by simpa using hq,cF_,Ab (by omega)]
  ·intro hq;rw [show decide (s=x)=true from by simpa using hq,cT]) (by
  intro n
  simp only [GG];rw [dF (by omega),cF_]) (by rw [FUv];omega)
 rw [Fk e]
 cases hf:l.findIdx? (fun x=>decide (s=x)) with
 | none =>
  rw [List.findIdx?_eq_none_iff] at hf
  show some (decide _)=_
  congr 1
  rw [dF (by omega),dF]
  intro hs
  have:=hf s hs
  simp at this
 | some k =>
  rw [List.findIdx?_eq_some_iff_getElem] at hf;obtain ⟨hk,h1,_⟩:=hf
  show some (decide _)=_
  congr 1
  rw [dT (by omega),dT];simp only [decide_eq_true_eq] at h1;rw [h1];exact List.getElem_mem hk
theorem RH (l:List (List UInt8)) (s:List UInt8) (h:l.length<=1000):IS s l=some (decide (s∈l)):=by
 unfold IS;refine bnd (Jq (φ:=Ff s l) (l:=l) true (fun _ x=>x=s) ?_ ?_ (by rw [FUv];omega)) ?_
 ·intro n i x hx hi
  simp only [Ff];rw [dT (by omega),cT,getI hx,oB]
  constructor
  ·intro hq;rw [dF hq,cF_,Ab (by omega)]
  ·intro hq;rw [dT hq,cT]
 ·intro n
  simp only [Ff];rw [dF (by omega),cF_]
 ·by_cases hs:s∈l
  ·obtain ⟨i,hi,h2⟩:=List.getElem_of_mem hs
   rw [if_pos ⟨i,s,by rw [<- h2];exact List.getElem?_eq_getElem hi,rfl⟩,dT hs];rfl
  ·rw [if_neg,dF hs];rfl
   rintro ⟨i,x,h1,rfl⟩;exact hs (List.mem_of_getElem? h1)
def H6 (s:List UInt8):Bool:=decide (s≠[])&&decide (s.length<=20)&&decide (wordP s=s.length)
def headP (p:UInt8->Bool):List UInt8->Bool
 | []=>false
 | c::_=>p c
def nameP (s:List UInt8):Bool:=H6 s&&headP Gz s && !decide (s∈keysL)
def tagP (s:List UInt8):Bool:=H6 s&&headP GA s
theorem NZ (s:List UInt8):D6 s=some (H6 s):=by
 unfold D6 H6
 by_cases h1:s=[]
 ·subst h1;rfl
 by_cases h2:s.length<=20
 ·rw [dF h1,dT (show (s.length:Int)<=20 by omega),UF s (by omega)]
  simp only [Bool.not_false,Bool.true_and,cT,oB,dT (show s≠[] from h1),dT h2]
  congr 1
  exact decide_eq_decide.2 (by omega)
 ·rw [dF (show ¬ (s.length:Int)<=20 by omega),dF h2];simp
theorem QZ (s:List UInt8):DY s=some (nameP s):=by
 unfold DY nameP;rw [NZ,oB]
 cases hw:H6 s with
 | false=>rfl
 | true =>
  rcases s with _ | ⟨c,r⟩
  ·simp [H6] at hw
  ·rw [cT,M8,oB]
   simp only [C2,oB,EW,Ul,Bool.true_and];rw [SL _ _ (by decide),oB,oB,bf,oB];rfl
theorem SP (s:List UInt8):EA s=some (tagP s):=by
 unfold EA tagP;rw [NZ,oB]
 cases hw:H6 s with
 | false=>rfl
 | true =>
  rcases s with _ | ⟨c,r⟩
  ·simp [H6] at hw
  ·rw [cT,M8,oB];rfl
end Go.Proofs.YtcoghblhdjmbfaaGreat
namespace Go.Proofs.YtcoghblhdjmbfaaGreat
open Go.V Tryz
open Classical
def onP (a:AutoAuto) (k:Int) (p:Bool):Bool:=match idx a.l k with | some s=>s.plus == p | none=>false
theorem Qq (a:AutoAuto) (k:Int) (p:Bool):Cs a k p=some (onP a k p):=by
 unfold Cs onP
 by_cases h:0<=k/\k<(a.l.length:Int)
 ·rw [dT h.1,dT h.2]
  have hx:idx a.l k=some a.l[k.toNat]:=by
   unfold idx;rw [if_pos h.1];exact List.getElem?_eq_getElem (by omega)
  rw [hx];rfl
 ·have hx:idx a.l k=none:=by
   unfold idx
   split
   ·exact List.getElem?_eq_none (by omega)
   ·rfl
  rw [hx]
  have:(decide (0<=k)&&decide (k<(a.l.length:Int)))=false:=by
   rw [Bool.and_eq_false_iff,decide_eq_false_iff_not,decide_eq_false_iff_not];omega
  rw [this];rfl
def bareP (s:AutoState):Bool := !(s.all&&((((((s.int||s.bool)||s.str)||s.arrow)||s.rec_)||s.tag)||(decide (0<(s.vars.length:Int))))) && !((!s.arrow)&&((!decide (s.dom=0))||(!decide (s.cod=0))))&&((s.rec_||(decide ((s.fields.length:Int)=0)))&&(s.tag||(decide ((s.tags.length:Int)=0))))
theorem UD (s:AutoState):Fq s=some (bareP s):=by
 unfold Fq bareP
 cases (s.all&&((((((s.int||s.bool)||s.str)||s.arrow)||s.rec_)||s.tag)||(decide (0<(s.vars.length:Int))))) with
 | true=>rfl
 | false =>
  cases ((!s.arrow)&&((!decide (s.dom=0))||(!decide (s.cod=0)))) <;> rfl
def numP (l:List Int) (i:Nat) (x:Int):Prop:=0<=x/\x<=999/\(0<i->∀ y,l[i - 1]? = some y->y<x)
theorem prev {α:Type} {l:List α} {i:Nat} {x:α} (hx:l[i]? = some x) (h0:0<i):∃ y,l[i - 1]? = some y/\idx l ((i:Int) - 1)=some y:=by
 have:=getLt hx
 refine ⟨l[i - 1],List.getElem?_eq_getElem (by omega),?_⟩;rw [show (i:Int) - 1=((i - 1:Nat):Int) by omega,Nv];exact List.getElem?_eq_getElem (by omega)
theorem Pn (l:List Int) (h:l.length<=40):DG l=some (decide (∀ i x,l[i]? = some x->numP l i x)):=by
 unfold DG;refine bnd (Ib (φ:=Cg l) (l:=l) false (numP l) ?_ ?_ (by rw [FUv];omega)) ?_
 ·intro n i x hx hi
  simp only [Cg];rw [dT (show (i:Int)<l.length by omega),cT,getI hx,oB]
  by_cases h1:x<0\/999<x
  ·rw [show (decide (x<0)||decide (999<x))=true by simpa using h1,cT,oB,cT]
   exact ⟨fun hq=>by obtain ⟨h2,h3,_⟩:=hq;omega,fun _=>rfl⟩
  ·rw [show (decide (x<0)||decide (999<x))=false by simpa using h1,cF_]
   by_cases h0:0<i
   ·obtain ⟨y,hy,hy2⟩:=prev hx h0
    rw [dT (show 0<(i:Int) by omega),cT,Ab (by omega),hy2];simp only [oB]
    by_cases h2:x<=y
    ·rw [dT h2,cT]
     exact ⟨fun hq=>by have:=hq.2.2 h0 y hy;omega,fun _=>rfl⟩
    ·rw [dF h2,cF_,Ab (by omega)]
     refine ⟨fun _=>rfl,fun hq=>absurd ⟨by omega,by omega,fun _ z hz=>?_⟩ hq⟩;rw [hy] at hz
     have:=Option.some.inj hz
     omega
   ·rw [dF (show ¬ 0<(i:Int) by omega),cF_]
    rw [oB,oB,cF_,Ab (by omega)];exact ⟨fun _=>rfl,fun hq=>absurd ⟨by omega,by omega,fun h3=>absurd h3 h0⟩ hq⟩
 ·intro n
  simp only [Cg];rw [dF (by omega),cF_]
 ·by_cases hp:∀ i x,l[i]? = some x->numP l i x
  ·rw [if_pos hp,dT hp];rfl
  ·rw [if_neg hp,dF hp];rfl
def edgeP (isN:List UInt8->Bool) (l:List AutoEdge) (i:Nat) (x:AutoEdge):Prop:=isN x.name=true/\(0<i->∀ y,l[i - 1]? = some y->Op.bytesLess y.name x.name=true)
def Hj (isN:List UInt8->Bool) (l:List AutoEdge):Prop:=(∀ i x,l[i]? = some x->edgeP isN l i x)/\l.length<=30
theorem OO (l:List AutoEdge) (f:List UInt8->Option Bool) (isN:List UInt8->Bool) (hf:∀ s,f s=some (isN s)) (h:l.length<=40):Ed l f=some (decide (Hj isN l)):=by
 unfold Ed;refine bnd (Ib (φ:=CC l f) (l:=l) false (edgeP isN l) ?_ ?_ (by rw [FUv];omega)) ?_
 ·intro n i x hx hi
  simp only [CC];rw [dT (show (i:Int)<l.length by omega),cT,getI hx,oB,hf,oB]
  cases h1:isN x.name with
  | false=>exact ⟨fun hq=>absurd hq.1 (by rw [h1];simp),fun _=>rfl⟩
  | true =>
   rw [Bool.not_true,cF_]
   by_cases h0:0<i
   ·obtain ⟨y,hy,hy2⟩:=prev hx h0
    rw [dT (show 0<(i:Int) by omega),cT,Ab (by omega),hy2];simp only [oB]
    cases h2:Op.bytesLess y.name x.name with
    | false =>
     rw [Bool.not_false,cT];exact ⟨fun hq=>absurd (hq.2 h0 y hy) (by rw [h2];simp),fun _=>rfl⟩
    | true =>
     rw [Bool.not_true,cF_,Ab (by omega)];refine ⟨fun _=>rfl,fun hq=>absurd ⟨h1,fun _ z hz=>?_⟩ hq⟩;rw [hy] at hz;rw [<- Option.some.inj hz];exact h2
   ·rw [dF (show ¬ 0<(i:Int) by omega),cF_,Ab (by omega)]
    exact ⟨fun _=>rfl,fun hq=>absurd ⟨h1,fun h3=>absurd h3 h0⟩ hq⟩
 ·intro n
  simp only [CC];rw [dF (by omega),cF_]
 ·by_cases hp:∀ i x,l[i]? = some x->edgeP isN l i x
  ·rw [if_pos hp]
   show some (decide _)=_
   congr 1
   exact decide_eq_decide.2 ⟨fun h2=>⟨hp,by omega⟩,fun h2=>by have:=h2.2;omega⟩
  ·rw [if_neg hp,dF (p:=Hj isN l) (fun h2=>hp h2.1)];rfl
end Go.Proofs.YtcoghblhdjmbfaaGreat
namespace Go.Proofs.YtcoghblhdjmbfaaGreat
open Go.V Tryz
open Classical
theorem OX {α:Type} (l:List α) (p:α->Bool):(decide ((0:Int)<=(match l.findIdx? p with | some i=>(i:Int) | none => -1)))=l.any p:=by
 cases hf:l.findIdx? p with
 | none =>
  rw [List.findIdx?_eq_none_iff] at hf;rw [dF (by simp)]
  symm
  rw [List.any_eq_false]
  intro x hx
  rw [hf x hx];simp
 | some k =>
  rw [List.findIdx?_eq_some_iff_getElem] at hf;obtain ⟨hk,h1,_⟩:=hf;rw [dT (by simp)]
  symm
  rw [List.any_eq_true];exact ⟨_,List.getElem_mem hk,h1⟩
theorem RU (l:List Int) (f:Int->Option Bool) (p:Int->Bool) (hf:∀ x,f x=some (p x)) (h:l.length<=100000):Ja l f=some (l.any p):=by
 unfold Ja Pk
 have e:=Fc (φ:=EN l f) (l:=l) (fun i=>(i:Int)) p (by
  intro n i x hx hi
  simp only [EN];rw [dT (show (i:Int)<l.length by omega),cT,getI hx,oB,hf,oB]
  constructor
  ·intro hq;rw [hq,cF_,Ab (by omega)]
  ·intro hq;rw [hq,cT]) (by
  intro n
  simp only [EN];rw [dF (by omega),cF_]) (by rw [FUv];omega)
 rw [Fk e,<- OX]
 cases l.findIdx? p <;> rfl
theorem OF (l:List AutoState) (f:AutoState->Option Bool) (p:AutoState->Bool) (hf:∀ x∈l,f x=some (p x)) (h:l.length<=100000):AM l f=some (l.any p):=by
 unfold AM A5
 have e:=Fc (φ:=AG l f) (l:=l) (fun i=>(i:Int)) p (by
  intro n i x hx hi
  simp only [AG];rw [dT (show (i:Int)<l.length by omega),cT,getI hx,oB,hf x (List.mem_of_getElem? hx),oB]
  constructor
  ·intro hq;rw [hq,cF_,Ab (by omega)]
  ·intro hq;rw [hq,cT]) (by
  intro n
  simp only [AG];rw [dF (by omega),cF_]) (by rw [FUv];omega)
 rw [Fk e,<- OX]
 cases l.findIdx? p <;> rfl
def sideP (s:AutoState) (i:Nat):Bool:=bif s.arrow&&decide (i=0) then !s.plus else s.plus
def leadP (a:AutoAuto) (s:AutoState):Prop:=∀ i x,(nextP s)[i]? = some x->onP a x (sideP s i)=true
def EM (a:AutoAuto) (s:AutoState):Prop:=bareP s=true/\(∀ i x,s.vars[i]? = some x->numP s.vars i x)/\Hj nameP s.fields/\Hj tagP s.tags/\leadP a s
theorem Gt (a:AutoAuto) (s:AutoState) (h:s.arrow=true):leadP a s↔onP a s.dom (!s.plus)=true/\onP a s.cod s.plus=true/\∀ x∈s.fields.map (·.to_)++s.tags.map (·.to_),onP a x s.plus=true:=by
 unfold leadP nextP sideP;rw [if_pos h,h];simp only [List.cons_append,List.nil_append,Bool.true_and]
 constructor
 ·intro hh
  refine ⟨by simpa using hh 0 s.dom rfl,by simpa using hh 1 s.cod rfl,fun x hx=>?_⟩;obtain ⟨k,hk,hk2⟩:=List.getElem_of_mem hx
  have:=hh (k+2) x (by rw [<- hk2];exact List.getElem?_eq_getElem hk)
  simpa using this
 ·rintro ⟨h1,h2,h3⟩ i x hx
  match i,hx with
  | 0,hx=>rw [<- Option.some.inj hx];simpa using h1
  | 1,hx=>rw [<- Option.some.inj hx];simpa using h2
  | k+2,hx=>simpa using h3 x (List.mem_of_getElem? (by simpa using hx))
theorem Ph (a:AutoAuto) (s:AutoState) (h:s.arrow=false):leadP a s↔∀ x∈s.fields.map (·.to_)++s.tags.map (·.to_),onP a x s.plus=true:=by
 unfold leadP nextP sideP;rw [if_neg (by rw [h];simp),h];simp only [List.nil_append,Bool.false_and,cF_]
 constructor
 ·intro hh x hx
  obtain ⟨k,hk,hk2⟩:=List.getElem_of_mem hx;exact hh k x (by rw [<- hk2];exact List.getElem?_eq_getElem hk)
 ·intro hh i x hx
  exact hh x (List.mem_of_getElem? hx)
theorem Qh {α:Type} (l:List α) (p:α->Bool):(!l.any (fun x => !p x))=decide (∀ x∈l,p x=true):=by
 rw [Bool.eq_iff_iff]
 simp
theorem SX (a:AutoAuto) (s:AutoState) (h:SB s):C5 a s=some (decide (EM a s)):=by
 obtain ⟨h1,h2,h3⟩:=h;unfold C5;rw [UD,oB,Pn _ h1,OO _ _ nameP QZ h2,OO _ _ tagP SP h3]
 by_cases c1:bareP s=true
 rotate_left
 ·rw [Bool.not_eq_true] at c1
  rw [c1,dF (p:=EM a s) (fun h=>by have:=h.1;rw [c1] at this;simp at this)];rfl
 by_cases c2:∀ i x,s.vars[i]? = some x->numP s.vars i x
 rotate_left
 ·rw [c1,dF c2,dF (p:=EM a s) (fun h=>c2 h.2.1)];rfl
 by_cases c3:Hj nameP s.fields
 rotate_left
 ·rw [c1,dT c2,dF c3,dF (p:=EM a s) (fun h=>c3 h.2.2.1)];rfl
 by_cases c4:Hj tagP s.tags
 rotate_left
 ·rw [c1,dT c2,dT c3,dF c4,dF (p:=EM a s) (fun h=>c4 h.2.2.2.1)];rfl
 rw [c1,dT c2,dT c3,dT c4];simp only [Bool.not_true,cF_,oB]
 have e:decide (EM a s)=decide (leadP a s):=decide_eq_decide.2 ⟨fun h=>h.2.2.2.2,fun h=>⟨c1,c2,c3,c4,h⟩⟩
 rw [e]
 have e2:((Dh s.fields).bind fun x7=>(Dh s.tags).bind fun x8=>(LS [x7,x8]).bind fun x9=>(Ja x9 (fun y0=>CF y0 a s)).bind fun x10=>some (!x10))=some (decide (∀ x∈s.fields.map (·.to_)++s.tags.map (·.to_),onP a x s.plus=true)):=by
  rw [Nj _ h2,oB,Nj _ h3,oB,MI _ (by simp) (by
   intro l hl
   simp only [List.mem_cons,List.not_mem_nil,or_false] at hl
   rcases hl with rfl | rfl
   ·simpa using h2
   ·simpa using h3),oB,RU _ _ (fun x => !onP a x s.plus) (fun x=>by rw [CF,Qq];rfl) (by simp;omega),oB,Qh]
  simp
 cases ha:s.arrow with
 | false =>
  rw [cF_,oB,cF_,e2]
  congr 1
  exact decide_eq_decide.2 (Ph a s ha).symm
 | true =>
  rw [cT,Qq,oB,Qq,decide_eq_decide.2 (Gt a s ha)]
  have e3:decide (onP a s.dom (!s.plus)=true/\onP a s.cod s.plus=true/\∀ x∈s.fields.map (·.to_)++s.tags.map (·.to_),onP a x s.plus=true)=(onP a s.dom (!s.plus)&&(onP a s.cod s.plus&&decide (∀ x∈s.fields.map (·.to_)++s.tags.map (·.to_),onP a x s.plus=true))):=by
   rw [Bool.eq_iff_iff,decide_eq_true_eq,Bool.and_eq_true,Bool.and_eq_true,decide_eq_true_eq]
  rw [e3]
  cases onP a s.dom (!s.plus) with
  | false=>rfl
  | true =>
   cases onP a s.cod s.plus with
   | false=>rfl
   | true=>exact e2
noncomputable def mayP (a:AutoAuto):Int:=if a.l.length=0\/2000<a.l.length then 8 else if (∀ s∈a.l,EM a s)/\onP a a.start true=true then 0 else 4
theorem PB (a:AutoAuto) (h:AB a):E9 a=some (mayP a):=by
 obtain ⟨h1,h2⟩:=h;unfold E9 mayP
 by_cases c0:a.l.length=0\/2000<a.l.length
 ·rw [if_pos c0,show (decide ((a.l.length:Int)=0)||decide (2000<(a.l.length:Int)))=true by rw [Bool.or_eq_true,decide_eq_true_eq,decide_eq_true_eq];omega,cT]
 rw [if_neg c0,show (decide ((a.l.length:Int)=0)||decide (2000<(a.l.length:Int)))=false by rw [Bool.or_eq_false_iff,decide_eq_false_iff_not,decide_eq_false_iff_not];omega,cF_,Qq,oB]
 have e:=OF a.l (fun y0=>EX y0 a) (fun s => !decide (EM a s)) (by
  intro s hs
  rw [EX,SX _ _ (h2 s hs)];rfl) (by omega)
 rw [e]
 have e2:(a.l.any fun s => !decide (EM a s)) = !decide (∀ s∈a.l,EM a s):=by
  rw [<- Bool.not_not (b:=a.l.any _),Qh]
  congr 1
  exact decide_eq_decide.2 (by simp)
 rw [e2,oB,bt,oB]
 cases hb:onP a a.start true with
 | false=>rw [if_neg (by simp)];rfl
 | true =>
  by_cases hc:∀ s∈a.l,EM a s
  ·rw [dT hc,if_pos ⟨hc,rfl⟩];rfl
  ·rw [dF hc,if_neg (fun h=>hc h.1)];rfl
end Go.Proofs.YtcoghblhdjmbfaaGreat
namespace Go.Proofs.YtcoghblhdjmbfaaGreat
open Go.V Tryz
open Classical
def st0:AutoState:=⟨false,false,false,false,false,false,false,false,[],0,0,[],[]⟩
def stA (a:AutoAuto) (k:Int):AutoState:=(idx a.l k).getD st0
def nxA (a:AutoAuto) (k:Int):List Int:=nextP (stA a k)
def tm (to:List Int) (k:Int):Int:=(idx to k).getD 0
def edgeM (to:List Int) (x:AutoEdge):AutoEdge:=⟨x.name,tm to x.to_⟩
def Ei (to:List Int) (s:AutoState):AutoState:=⟨s.plus,s.all,s.int,s.bool,s.str,s.arrow,s.rec_,s.tag,s.vars,if s.arrow=true then tm to s.dom else s.dom,if s.arrow=true then tm to s.cod else s.cod,s.fields.map (edgeM to),s.tags.map (edgeM to)⟩
def AU (a:AutoAuto):List Int:=bfs (nxA a) a.l.length 0 [a.start]
def toP (a:AutoAuto):List Int:=Fg 0 (AU a) (List.replicate a.l.length 0)
def normP (a:AutoAuto):AutoAuto:=⟨(AU a).map (fun k=>Ei (toP a) (stA a k)),0⟩
structure Led (a:AutoAuto):Prop where
 ab:AB a
 led:∀ k s,idx a.l k=some s->inN a.l.length (nextP s)
 st:0<=a.start/\a.start<(a.l.length:Int)
theorem PX {α:Type} {l:List α} {k:Int} (h0:0<=k) (h:k<(l.length:Int)):∃ x,idx l k=some x/\x∈l:=by
 unfold idx;rw [if_pos h0];exact ⟨l[k.toNat],List.getElem?_eq_getElem (by omega),List.getElem_mem (by omega)⟩
theorem PR {α:Type} {l:List α} {k:Int} {x:α} (h:idx l k=some x):0<=k/\k<(l.length:Int):=by
 obtain ⟨h0,h1⟩:=Ay h
 have:=getLt h1
 omega
theorem Nn {to:List Int} {k:Int} (h0:0<=k) (h:k<(to.length:Int)):idx to k=some (tm to k):=by
 obtain ⟨x,hx,_⟩:=PX h0 h;rw [tm,hx];rfl
theorem NK {a:AutoAuto} {k:Int} (h0:0<=k) (h:k<(a.l.length:Int)):idx a.l k=some (stA a k):=by
 obtain ⟨x,hx,_⟩:=PX h0 h;rw [stA,hx];rfl
theorem KG {a:AutoAuto} {k:Int} (h0:0<=k) (h:k<(a.l.length:Int)):stA a k∈a.l:=by
 obtain ⟨x,hx,h2⟩:=PX h0 h;rw [stA,hx];exact h2
section
variable {a:AutoAuto} (ha:Led a)
include ha
theorem JT (x:Int) (h0:0<=x) (h:x<(a.l.length:Int)):inN a.l.length (nxA a x):=ha.led x _ (NK h0 h)
theorem Jr:inN a.l.length [a.start]:=by
 intro x hx
 simp only [List.mem_singleton] at hx;subst hx;exact ha.st
theorem B4:(AU a).Nodup/\inN a.l.length (AU a)/\(∃ e,AU a=[a.start]++e)/\(∀ (j:Nat) x,0<=j->(AU a)[j]? = some x->∀ y∈nxA a x,y∈AU a):=
 PL (JT ha) a.l.length 0 [a.start] (by omega) (by simp) (by simp) (Jr ha)
theorem Mt:(AU a).length<=2001:=by
 have:=DO _ _ (B4 ha).1 (B4 ha).2.1
 have:=ha.ab.1
 omega
end
theorem VP {a:AutoAuto} (_:Led a):(toP a).length=a.l.length:=by unfold toP;rw [L0];simp
def Hn (N:Nat) (l:List Int) (s:List Bool):Prop:=s.length=N/\∀ k:Nat,k<N->s[k]? = some (decide ((k:Int)∈l))
theorem NN {N:Nat} {l:List Int} {s:List Bool} {x:Int} (h:Hn N l s) (h0:0<=x) (h1:x<(N:Int)):idx s x=some (decide (x∈l)):=by
 have:=h.2 x.toNat (by omega)
 unfold idx;rw [if_pos h0,this,show ((x.toNat:Nat):Int)=x by omega]
theorem Oq {N:Nat} {l:List Int} {s:List Bool} {x:Int} (h:Hn N l s) (h0:0<=x) (h1:x<(N:Int)):Hn N (l++[x]) (s.set x.toNat true):=by
 refine ⟨by simp [h.1],fun k hk=>?_⟩
 by_cases e:x.toNat=k
 ·rw [<- e,List.getElem?_set_self (by rw [h.1];omega)]
  congr 1
  symm
  rw [decide_eq_true_eq]
  simp;omega
 ·rw [List.getElem?_set_ne e,h.2 k hk]
  congr 1
  refine decide_eq_decide.2 ?_;simp only [List.mem_append,List.mem_singleton];exact ⟨fun h => .inl h,fun h=>h.elim id (fun h=>absurd h (by omega))⟩
theorem Mc {N:Nat} (hN:N<=3000) (pre w nx:List Int) (seen:List Bool) (hs:Hn N (pre++w) seen) (hn:inN N nx) (hd:(pre++w).Nodup) (hr:inN N (pre++w)) (hlen:nx.length<=100) :
  ∃ w' seen',C3 nx FU (0,w,seen)=some (w',seen')/\pre++w'=addL (pre++w) nx/\Hn N (pre++w') seen':=by
 obtain ⟨⟨w',seen'⟩,h1,h2⟩:=BI (φ:=fun n i s=>C3 nx n (i,s.1,s.2)) (l:=nx) (fun i s=>pre++s.1=addL (pre++w) (nx.take i)/\Hn N (pre++s.1) s.2) (fun o=>pre++o.1=addL (pre++w) nx/\Hn N (pre++o.1) o.2) (by
  rintro n i x ⟨v,s⟩ hx hi ⟨hI1,hI2⟩
  left
  have hxr:=hn x (List.mem_of_getElem? hx)
  have hnt:inN N (nx.take i):=fun y hy=>hn y (List.mem_of_mem_take hy)
  have hb:(pre++v).length<=N:=by rw [hI1];exact SR hr hnt hd
  simp only [C3];rw [dT (show (i:Int)<nx.length by omega),cT,getI hx,oB,NN hI2 hxr.1 hxr.2,oB]
  by_cases hm:x∈pre++v
  ·rw [dT hm,Bool.not_true,cF_,Ab (by omega)]
   refine ⟨(v,s),rfl,?_,hI2⟩;rw [J6 hx,MC,<- hI1,if_pos hm]
  ·rw [dF hm,Bool.not_false,cT,oB,Ab (by simp only [List.length_append] at hb;simp only [List.length_cons,List.length_nil];omega),Ab (by omega)]
   refine ⟨(v++[x],s.set x.toNat true),rfl,?_,?_⟩
   ·rw [J6 hx,MC,<- hI1,if_neg hm,List.append_assoc]
   ·rw [<- List.append_assoc]
    exact Oq hI2 hxr.1 hxr.2) (by
  rintro n ⟨v,s⟩ ⟨hI1,hI2⟩;simp only [C3];rw [dF (by omega),cF_];rw [List.take_length] at hI1;exact ⟨_,rfl,hI1,hI2⟩) (by rw [FUv];omega) (w,seen) ⟨by simp [Jo],hs⟩
 exact ⟨w',seen',h1,h2⟩
theorem N2 {α:Type} {l:List α} {i:Nat} {x:α} (h:l[i]? = some x):l.drop i=x::l.drop (i+1):=by
 obtain ⟨hi,hx⟩:=List.getElem?_eq_some_iff.1 h;rw [List.drop_eq_getElem_cons hi,hx]
theorem L7 {a:AutoAuto} (ha:Led a):∀ (m i:Nat) (l:List Int) (n:Nat) (seen:List Bool),a.l.length<=i+m->i<=l.length->l.Nodup->inN a.l.length l->m<n->Hn a.l.length l seen->E1 a n (l.drop i,seen)=some ((bfs (nxA a) m i l).drop i):=by
 intro m
 induction m with
 | zero =>
  intro i l n seen hN hi hd hr hn hs
  have:=DO _ _ hd hr
  obtain ⟨n,rfl⟩:∃ k,n=k+1:=⟨n - 1,by omega⟩;rw [show l.drop i=[] from List.drop_eq_nil_of_le (by omega),show (bfs (nxA a) 0 i l).drop i=[] from List.drop_eq_nil_of_le (by simp only [bfs];omega)]
  rfl
 | succ m ih =>
  intro i l n seen hN hi hd hr hn hs
  obtain ⟨n,rfl⟩:∃ k,n=k+1:=⟨n - 1,by omega⟩
  cases hx:l[i]? with
  | none =>
   have:=List.getElem?_eq_none_iff.1 hx
   rw [Fv hx,show l.drop i=[] from List.drop_eq_nil_of_le (by omega)]
   rfl
  | some x =>
   have hxr:=hr x (List.mem_of_getElem? hx)
   have hil:=getLt hx
   have hin:=JT ha x hxr.1 hxr.2
   have hSB:=ha.ab.2 _ (KG hxr.1 hxr.2)
   have hl:=Rn _ hSB
   have hbig:=ha.ab.1
   obtain ⟨w',seen',h1,h2,h3⟩:=Mc (N:=a.l.length) (by omega) (l.take (i+1)) (l.drop (i+1)) (nxA a x) seen (by rw [List.take_append_drop];exact hs) hin (by rw [List.take_append_drop];exact hd) (by rw [List.take_append_drop];exact hr) (by unfold nxA;omega);rw [List.take_append_drop] at h2;obtain ⟨e,he⟩:=G9 (nxA a x) l
   have hw:w'=(addL l (nxA a x)).drop (i+1):=by
    rw [<- h2,List.drop_append_of_le_length (by simp;omega)]
    simp
   rw [FY hx,N2 hx];simp only [E1];rw [dT (by simp only [List.length_cons];omega),cT,M8,oB]
   have hsli:sli (x::l.drop (i+1)) 1 ((x::l.drop (i+1)).length:Int)=some (l.drop (i+1)):=by
    have:=Jk (l:=x::l.drop (i+1)) (i:=1) rfl (by simp)
    simpa using this
   have ih2:=ih (i+1) (addL l (nxA a x)) n seen' (by omega) (by rw [he];simp;omega) (Dz _ _ hd) (Ht hr hin) (by omega) (by rw [<- h2];exact h3)
   rw [hsli,oB,NK hxr.1 hxr.2,oB,UO _ hSB,oB,show nextP (stA a x)=nxA a x from rfl,h1,oB,hw]
   simp only
   rw [ih2,oB]
   have hok:=PL (JT ha) m (i+1) (addL l (nxA a x)) (by omega) (by rw [he];simp;omega) (Dz _ _ hd) (Ht hr hin)
   obtain ⟨_,_,⟨e2,h4⟩,_⟩:=hok;rw [<- N2];rw [h4,he,List.append_assoc,List.getElem?_append_left hil,hx]
theorem PI {a:AutoAuto} (ha:Led a):GX a=some (AU a):=by
 have hb:=ha.ab.1
 have hst:=ha.st
 unfold GX
 have hs0:Hn a.l.length [] (List.replicate a.l.length false):=⟨by simp,fun k hk=>by rw [List.getElem?_replicate,if_pos hk];simp⟩
 rw [Ab (by omega),Ab (by omega),Int.toNat_natCast,NN hs0 hst.1 hst.2,oB]
 have:=L7 ha a.l.length 0 [a.start] FU _ (by omega) (by simp) (by simp) (Jr ha) (by rw [FUv];omega) (Oq hs0 hst.1 hst.2)
 simpa [AU] using this
theorem LD {N:Nat}:∀ (xs l3 l4:List Int),inN N xs->l4.length=N->l3.length+xs.length<=100000->CQ xs (l3,l4)=some (l3++xs,Fg l3.length xs l4)
 | [],l3,l4,_,_,_=>by simp [CQ,Fg]
 | x::xs,l3,l4,hr,hl,hb=>by
  have hx:=hr x (by simp)
  simp only [List.length_cons] at hb;rw [CQ,Nn hx.1 (by omega),oB,Ab (by simp only [List.length_cons,List.length_nil];omega),LD xs _ _ (fun y hy=>hr y (by simp [hy])) (by simpa using hl) (by simp;omega)]
  simp [Fg]
theorem Om (l:List AutoEdge) (to:List Int) (h:l.length<=40) (hr:∀ x∈l,0<=x.to_/\x.to_<(to.length:Int)):Ee l to=some (l.map (edgeM to)):=by
 unfold Ee;rw [Ab (by omega)];refine bnd (Kp (φ:=fun n i s=>CY l to n (i,s)) (l:=l) (edgeM to) id ?_ ?_ (by rw [FUv];omega)) rfl
 ·intro n i x s hx hi hl hs
  have hxr:=hr x (List.mem_of_getElem? hx)
  simp only [CY];rw [dT (show (i:Int)<l.length by omega),cT,getI hs,oB,Nn hxr.1 hxr.2,oB,oB,Ab (by omega)]
  rfl
 ·intro n s hl
  simp only [CY];rw [dF (by omega),cF_];rfl
theorem TD {s:AutoState} (h:s.arrow=true):s.dom∈nextP s/\s.cod∈nextP s:=by unfold nextP;rw [if_pos h];simp
theorem VJ {s:AutoState} {x:AutoEdge} (h:x∈s.fields):x.to_∈nextP s:=by
 unfold nextP;simp only [List.mem_append,List.mem_map];exact .inl (.inr ⟨x,h,rfl⟩)
theorem V1 {s:AutoState} {x:AutoEdge} (h:x∈s.tags):x.to_∈nextP s:=by
 unfold nextP;simp only [List.mem_append,List.mem_map];exact .inr ⟨x,h,rfl⟩
theorem Pv {a:AutoAuto} (ha:Led a) (l to:List Int) (hr:inN a.l.length l) (hb:l.length<=100000) (ht:to.length=a.l.length):CO a l to FU (0,[],0)=some (l.map (fun k=>Ei to (stA a k)),0):=by
 have:=Dm (φ:=fun n i s=>CO a l to n (i,s,0)) (l:=l) (fun k=>Ei to (stA a k)) (fun s=>(s,(0:Int))) 0 (by
  intro n i x s hx hi hs
  have hxr:=hr x (List.mem_of_getElem? hx)
  have hnx:=JT ha x hxr.1 hxr.2
  have hSB:=ha.ab.2 _ (KG hxr.1 hxr.2)
  obtain ⟨b1,b2,b3⟩:=hSB;simp only [CO];rw [dT (show (i:Int)<l.length by omega),cT,getI hx,oB,NK hxr.1 hxr.2,oB]
  generalize hS:stA a x=S at *
  replace hnx:inN a.l.length (nextP S):=by rw [<- hS];exact hnx
  rw [Fk (x:=(S.plus,S.all,S.int,S.bool,S.str,S.arrow,S.rec_,S.tag,S.vars,(if S.arrow=true then tm to S.dom else S.dom),(if S.arrow=true then tm to S.cod else S.cod),S.fields,S.tags))]
  rotate_left
  ·cases h:S.arrow with
   | false=>rfl
   | true =>
    have hd:=TD h
    rw [cT,Nn (hnx _ hd.1).1 (by rw [ht];exact (hnx _ hd.1).2),oB,Nn (hnx _ hd.2).1 (by rw [ht];exact (hnx _ hd.2).2),oB]
    rfl
  simp only
  rw [Ab (by omega),Om _ _ b2 (fun y hy=>by rw [ht];exact hnx _ (VJ hy)),oB,Om _ _ b3 (fun y hy=>by rw [ht];exact hnx _ (V1 hy)),oB,Ab (by simp only [List.length_cons,List.length_nil];omega),Ab (by omega)]
  rfl) (by
  intro n s hs
  simp only [CO];rw [dF (by omega),cF_]) (by rw [FUv];omega) [] rfl
 exact this
theorem U7 {a:AutoAuto} (ha:Led a):Ft a=some (normP a):=by
 have hb:=ha.ab.1
 unfold Ft;rw [Ab (by omega),Ab (by omega),PI ha,oB,Int.toNat_natCast]
 have hok:=B4 ha
 have hlen:=Mt ha
 rw [LD (AU a) [] _ hok.2.1 (by simp) (by simp;omega),oB];simp only [List.nil_append,List.length_nil];rw [Pv ha (AU a) (Fg 0 (AU a) (List.replicate a.l.length 0)) hok.2.1 (by omega) (VP ha),oB]
 rfl
end Go.Proofs.YtcoghblhdjmbfaaGreat
namespace Go.Proofs.YtcoghblhdjmbfaaGreat
open Go.V Tryz
open Classical
theorem Sx {a:AutoAuto} {k:Int} {p:Bool} (h:onP a k p=true):∃ s,idx a.l k=some s/\s.plus=p:=by
 unfold onP at h
 cases hx:idx a.l k with
 | none=>rw [hx] at h;cases h
 | some s=>rw [hx] at h;exact ⟨s,rfl,by simpa using h⟩
theorem Gx {a:AutoAuto} (h:mayP a=0):0<a.l.length/\a.l.length<=2000/\(∀ s∈a.l,EM a s)/\onP a a.start true=true:=by
 unfold mayP at h
 split at h
 ·omega
 ·split at h
  ·rename_i h1 h2
   exact ⟨by omega,by omega,h2.1,h2.2⟩
  ·omega
theorem Vt {a:AutoAuto} (h1:0<a.l.length) (h2:a.l.length<=2000) (h3:∀ s∈a.l,EM a s) (h4:onP a a.start true=true):mayP a=0:=by
 unfold mayP;rw [if_neg (by omega),if_pos ⟨h3,h4⟩]
theorem LO {a:AutoAuto} (h:AB a) (hm:mayP a=0):Led a:=by
 obtain ⟨h1,h2,h3,h4⟩:=Gx hm;refine ⟨h,?_,?_⟩
 ·intro k s hs x hx
  obtain ⟨i,hi,hxi⟩:=List.getElem_of_mem hx;obtain ⟨_,hs2⟩:=Ay hs
  have:=(h3 s (List.mem_of_getElem? hs2)).2.2.2.2 i x (by rw [<- hxi];exact List.getElem?_eq_getElem hi)
  obtain ⟨s',h5,_⟩:=Sx this;exact PR h5
 ·obtain ⟨s',h5,_⟩:=Sx h4
  exact PR h5
theorem Rw {to:List Int} {s:AutoState} (h:SB s):SB (Ei to s):=by
 obtain ⟨h1,h2,h3⟩:=h;exact ⟨h1,by simpa [Ei] using h2,by simpa [Ei] using h3⟩
theorem NJ {a:AutoAuto} (ha:Led a):AB (normP a):=by
 refine ⟨by simpa [normP] using Mt ha,?_⟩
 intro s hs
 simp only [normP,List.mem_map] at hs;obtain ⟨k,hk,rfl⟩:=hs
 have:=(B4 ha).2.1 k hk
 exact Rw (ha.ab.2 _ (KG this.1 this.2))
theorem U2 {a:AutoAuto} (h:AB a) (hm:mayP a=0):DW a=some (normP a,0):=by
 unfold DW;rw [PB a h,oB,hm,show (!decide ((0:Int)=0))=false from rfl,cF_,U7 (LO h hm)]
 rfl
theorem UM {a:AutoAuto} (h:AB a) (hm:¬ mayP a=0):DW a=some (⟨[],0⟩,mayP a):=by
 unfold DW;rw [PB a h,oB,dF hm,Bool.not_false,cT]
theorem Vy (a:AutoAuto):∃ x,Cn a 10=some x/\AB x/\(x.l.length<=10\/2000<x.l.length):=by
 unfold Cn
 have key:∀ n (i:Nat) (s:List AutoState),i<=2001->(i<=10\/2000<a.l.length)->2001 - i<n->s.length=i->(∀ t∈s,SB t)->∃ s',B2 a 10 n ((i:Int),s,a.start)=some (s',a.start)/\s'.length<=2001/\(∀ t∈s',SB t)/\(s'.length<=10\/2000<s'.length):=by
  intro n
  induction n with
  | zero=>intro i s _ _ h;omega
  | succ n ih =>
   intro i s hi hi0 hn hs hSB
   simp only [B2]
   by_cases hc:i<a.l.length/\(i<10\/(2000<a.l.length/\i<=2000))
   rotate_left
   ·rw [show ((decide ((i:Int)<(a.l.length:Int)))&&((decide ((i:Int)<10))||((decide (2000<(a.l.length:Int)))&&(decide ((i:Int)<=2000)))))=false by
     rw [<- Bool.not_eq_true];simp only [Bool.and_eq_true,Bool.or_eq_true,decide_eq_true_eq];omega,cF_]
    exact ⟨s,rfl,by omega,hSB,by omega⟩
   ·rw [show ((decide ((i:Int)<(a.l.length:Int)))&&((decide ((i:Int)<10))||((decide (2000<(a.l.length:Int)))&&(decide ((i:Int)<=2000)))))=true by
     simp only [Bool.and_eq_true,Bool.or_eq_true,decide_eq_true_eq];omega,cT]
    have hx:a.l[i]? = some a.l[i]:=List.getElem?_eq_getElem hc.1
    generalize a.l[i]=x at hx
    have hv:sli x.vars 0 (if 40<(x.vars.length:Int) then 40 else (x.vars.length:Int))=some (x.vars.take (min 40 x.vars.length)):=by
     have:=minL 40 x.vars
     rw [show (if 40<(x.vars.length:Int) then 40 else (x.vars.length:Int))=((min 40 x.vars.length:Nat):Int) from this,Gd (by omega)]
    rw [getI hx,oB,hv,oB,Qi _ (by simp;omega),oB]
    generalize hvs:x.vars.take (min 40 x.vars.length)=vs
    have hvl:vs.length<=40:=by rw [<- hvs];simp;omega
    have e1:∀ n (k:Nat) (t:List AutoEdge),k<=40->40 - k<n->t.length=k->∃ t',B0 x n ((k:Int),[],t,x.plus,x.all,x.int,x.bool,x.str,x.arrow,x.rec_,x.tag,vs,x.dom,x.cod)=some ([],t',x.plus,x.all,x.int,x.bool,x.str,x.arrow,x.rec_,x.tag,vs,x.dom,x.cod)/\t'.length<=40:=by
     intro n
     induction n with
     | zero=>intro k t _ h;omega
     | succ n ih =>
      intro k t hk hn ht
      simp only [B0]
      by_cases hc:k<x.fields.length/\k<40
      rotate_left
      ·rw [show ((decide ((k:Int)<(x.fields.length:Int)))&&(decide ((k:Int)<40)))=false by
        rw [<- Bool.not_eq_true];simp only [Bool.and_eq_true,decide_eq_true_eq];omega,cF_]
       exact ⟨t,rfl,by omega⟩
      ·rw [show ((decide ((k:Int)<(x.fields.length:Int)))&&(decide ((k:Int)<40)))=true by
        simp only [Bool.and_eq_true,decide_eq_true_eq];omega,cT,getI (List.getElem?_eq_getElem hc.1),oB,oB,Ab (by simp only [List.length_cons,List.length_nil];omega),Ab (by omega)]
       exact ih (k+1) _ (by omega) (by omega) (by simp;omega)
    obtain ⟨fs,e1,hfs⟩:=e1 FU 0 [] (by omega) (by rw [FUv];omega) rfl;rw [show ((0:Nat):Int)=0 from rfl] at e1;rw [Fk e1]
    simp only
    have e2:∀ n (k:Nat) (t:List AutoEdge),k<=40->40 - k<n->t.length=k->∃ t',B1 x n ((k:Int),t,fs,x.plus,x.all,x.int,x.bool,x.str,x.arrow,x.rec_,x.tag,vs,x.dom,x.cod)=some (t',fs,x.plus,x.all,x.int,x.bool,x.str,x.arrow,x.rec_,x.tag,vs,x.dom,x.cod)/\t'.length<=40:=by
     intro n
     induction n with
     | zero=>intro k t _ h;omega
     | succ n ih =>
      intro k t hk hn ht
      simp only [B1]
      by_cases hc:k<x.tags.length/\k<40
      rotate_left
      ·rw [show ((decide ((k:Int)<(x.tags.length:Int)))&&(decide ((k:Int)<40)))=false by
        rw [<- Bool.not_eq_true];simp only [Bool.and_eq_true,decide_eq_true_eq];omega,cF_]
       exact ⟨t,rfl,by omega⟩
      ·rw [show ((decide ((k:Int)<(x.tags.length:Int)))&&(decide ((k:Int)<40)))=true by
        simp only [Bool.and_eq_true,decide_eq_true_eq];omega,cT,getI (List.getElem?_eq_getElem hc.1),oB,oB,Ab (by simp only [List.length_cons,List.length_nil];omega),Ab (by omega)]
       exact ih (k+1) _ (by omega) (by omega) (by simp;omega)
    obtain ⟨ts,e2,hts⟩:=e2 FU 0 [] (by omega) (by rw [FUv];omega) rfl;rw [show ((0:Nat):Int)=0 from rfl] at e2;rw [Fk e2]
    simp only
    rw [Ab (by simp only [List.length_cons,List.length_nil];omega),Ab (by omega)];refine ih (i+1) _ (by omega) (by omega) (by omega) (by simp;omega) ?_
    intro t ht
    simp only [List.mem_append,List.mem_singleton] at ht
    rcases ht with ht | rfl
    ·exact hSB t ht
    ·exact ⟨hvl,hfs,hts⟩
 obtain ⟨s',h1,h2,h3,h4⟩:=key FU 0 [] (by omega) (by omega) (by rw [FUv];omega) rfl (by simp);rw [show ((0:Nat):Int)=0 from rfl] at h1;rw [Fk h1];exact ⟨_,rfl,⟨h2,h3⟩,h4⟩
theorem V8 (a:AutoAuto) (h:AB a):CN a=some a:=by
 obtain ⟨h,hs⟩:=h;unfold CN
 have e:=Dm (φ:=fun n i s=>BQ a n (i,s,a.start)) (l:=a.l) id (fun s=>(s,a.start)) 0 (by
  intro n i x s hx hi hlen
  obtain ⟨b1,b2,b3⟩:=hs x (List.mem_of_getElem? hx);simp only [BQ];rw [dT (show (i:Int)<a.l.length by omega),cT,getI hx,oB,Qi _ (by omega),oB]
  have e1:=Dm (φ:=fun n i t=>BU x n (i,[],t,x.plus,x.all,x.int,x.bool,x.str,x.arrow,x.rec_,x.tag,x.vars,x.dom,x.cod)) (l:=x.fields) id (fun t=>(([]:List AutoEdge),t,x.plus,x.all,x.int,x.bool,x.str,x.arrow,x.rec_,x.tag,x.vars,x.dom,x.cod)) 0 (by
   intro n i y t hy hi ht
   simp only [BU];rw [dT (show (i:Int)<x.fields.length by omega),cT,getI hy,oB,oB,Ab (by simp only [List.length_cons,List.length_nil];omega),Ab (by omega)]
   rfl) (by
   intro n t ht
   simp only [BU];rw [dF (by omega),cF_]) (by rw [FUv];omega) [] rfl
  rw [Fk e1];simp only [List.nil_append,List.map_id]
  have e2:=Dm (φ:=fun n i t=>BS x n (i,t,x.fields,x.plus,x.all,x.int,x.bool,x.str,x.arrow,x.rec_,x.tag,x.vars,x.dom,x.cod)) (l:=x.tags) id (fun t=>(t,x.fields,x.plus,x.all,x.int,x.bool,x.str,x.arrow,x.rec_,x.tag,x.vars,x.dom,x.cod)) 0 (by
   intro n i y t hy hi ht
   simp only [BS];rw [dT (show (i:Int)<x.tags.length by omega),cT,getI hy,oB,oB,Ab (by simp only [List.length_cons,List.length_nil];omega),Ab (by omega)]
   rfl) (by
   intro n t ht
   simp only [BS];rw [dF (by omega),cF_]) (by rw [FUv];omega) [] rfl
  rw [Fk e2];simp only [List.nil_append,List.map_id];rw [Ab (by simp only [List.length_cons,List.length_nil];omega),Ab (by omega)]
  rfl) (by
  intro n s hlen
  simp only [BQ];rw [dF (by omega),cF_]) (by rw [FUv];omega) [] rfl
 rw [Fk e]
 simp
end Go.Proofs.YtcoghblhdjmbfaaGreat
namespace Go.Proofs.YtcoghblhdjmbfaaGreat
open Go.V Tryz
open Classical
theorem Tg {nx:Int->List Int} {N:Nat} (hnx:∀ x,0<=x->x<(N:Int)->inN N (nx x)):∀ (m m' i:Nat) (l:List Int),N<=i+m->m<=m'->i<=l.length->l.Nodup->inN N l->bfs nx m' i l=bfs nx m i l:=by
 intro m
 induction m with
 | zero =>
  intro m' i l hN _ hi hd hr
  have:=DO _ _ hd hr
  exact Fv (List.getElem?_eq_none (by omega))
 | succ m ih =>
  intro m' i l hN hm hi hd hr
  cases hx:l[i]? with
  | none=>rw [Fv hx,Fv hx]
  | some x =>
   have hxr:=hr x (List.mem_of_getElem? hx)
   have hil:=getLt hx
   obtain ⟨e,he⟩:=G9 (nx x) l;obtain ⟨m',rfl⟩:∃ k,m'=k+1:=⟨m' - 1,by omega⟩;rw [FY hx,FY hx];exact ih m' (i+1) _ (by omega) (by omega) (by rw [he];simp;omega) (Dz _ _ hd) (Ht hr (hnx x hxr.1 hxr.2))
theorem KX (to:List Int) (s:AutoState):nextP (Ei to s)=(nextP s).map (tm to):=by
 unfold nextP Ei
 cases h:s.arrow <;> simp [Function.comp_def,edgeM]
theorem QM {a:AutoAuto} (ha:Led a) {j:Nat} {x:Int} (h:(AU a)[j]? = some x):tm (toP a) x=(j:Int):=by
 obtain ⟨h1,h2,_⟩:=B4 ha
 have hx:=h2 x (List.mem_of_getElem? h)
 have:=Li (AU a) 0 (List.replicate a.l.length 0) h1 h2 (by simp) j x h
 unfold tm idx;rw [if_pos hx.1,show toP a=Fg 0 (AU a) (List.replicate a.l.length 0) from rfl,this]
 simp
theorem NE {a:AutoAuto} (ha:Led a) {j:Nat} {x:Int} (h:(AU a)[j]? = some x):idx (normP a).l (j:Int)=some (Ei (toP a) (stA a x)):=by
 rw [Nv];simp only [normP];rw [List.getElem?_map,h];rfl
theorem G2 {a:AutoAuto} (ha:Led a) {x:Int} (h:x∈AU a):∃ j:Nat,(AU a)[j]? = some x/\tm (toP a) x=(j:Int)/\j<(AU a).length:=by
 obtain ⟨j,hj,hj2⟩:=List.getElem_of_mem h
 have h2:(AU a)[j]? = some x:=by rw [<- hj2];exact List.getElem?_eq_getElem hj
 exact ⟨j,h2,QM ha h2,hj⟩
theorem No {a:AutoAuto} (ha:Led a) {x:Int} (h:x∈AU a):stA (normP a) (tm (toP a) x)=Ei (toP a) (stA a x):=by
 obtain ⟨j,h1,h2,_⟩:=G2 ha h;unfold stA;rw [h2,NE ha h1];rfl
theorem UK {a:AutoAuto} (ha:Led a) {x:Int} (h:x∈AU a):nxA (normP a) (tm (toP a) x)=(nxA a x).map (tm (toP a)):=by
 unfold nxA;rw [No ha h,KX]
theorem LY {a:AutoAuto} (ha:Led a) {x y:Int} (h:x∈AU a) (hy:y∈nxA a x):y∈AU a:=by
 obtain ⟨j,h1,_⟩:=G2 ha h;exact (B4 ha).2.2.2 j x (by omega) h1 y hy
theorem VM {a:AutoAuto} (ha:Led a) {x y:Int} (hx:x∈AU a) (hy:y∈AU a) (h:tm (toP a) x=tm (toP a) y):x=y:=by
 obtain ⟨j,h1,h2,_⟩:=G2 ha hx;obtain ⟨k,h3,h4,_⟩:=G2 ha hy
 have:j=k:=by omega
 subst this;rw [h1] at h3;exact Option.some.inj h3
theorem TT {a:AutoAuto} (ha:Led a) {x:Int} (h:x∈AU a):0<=tm (toP a) x/\tm (toP a) x<((AU a).length:Int):=by
 obtain ⟨j,h1,h2,h3⟩:=G2 ha h
 omega
theorem RY {a:AutoAuto} (ha:Led a):(AU a).map (tm (toP a))=(List.range (AU a).length).map (fun k:Nat=>(k:Int)):=by
 refine List.ext_getElem? fun j=>?_;rw [List.getElem?_map,List.getElem?_map]
 cases h:(AU a)[j]? with
 | none =>
  rw [List.getElem?_eq_none (by simpa using List.getElem?_eq_none_iff.1 h)];rfl
 | some x =>
  have:=getLt h
  rw [List.getElem?_range this];simp only [Option.map_some,QM ha h]
theorem E6 {a:AutoAuto} (ha:Led a):(normP a).l.length=(AU a).length:=by simp [normP]
theorem Kb {a:AutoAuto} (ha:Led a):a.start∈AU a:=by
 obtain ⟨e,he⟩:=(B4 ha).2.2.1;rw [he];simp
theorem Oa {a:AutoAuto} (ha:Led a):tm (toP a) a.start=0:=by
 obtain ⟨e,he⟩:=(B4 ha).2.2.1
 have:(AU a)[0]? = some a.start:=by rw [he];rfl
 simpa using QM ha this
theorem JH {a:AutoAuto} (ha:Led a):0<(AU a).length:=List.length_pos_of_mem (Kb ha)
theorem Ow {a:AutoAuto} (ha:Led a):Led (normP a):=by
 refine ⟨NJ ha,?_,?_⟩
 ·intro k s hs y hy
  obtain ⟨h0,h1⟩:=PR hs;rw [E6 ha] at h1 ⊢
  have hx:(AU a)[k.toNat]? = some (AU a)[k.toNat]:=List.getElem?_eq_getElem (by omega)
  have:=NE ha hx
  rw [show ((k.toNat:Nat):Int)=k by omega,hs] at this
  cases this
  rw [KX,List.mem_map] at hy;obtain ⟨z,hz,rfl⟩:=hy;exact TT ha (LY ha (List.mem_of_getElem? hx) hz)
 ·rw [E6 ha]
  have:=JH ha
  show 0<=(0:Int)/\(0:Int)<_
  omega
theorem P3 {a:AutoAuto} (ha:Led a):AU (normP a)=(List.range (AU a).length).map (fun k:Nat=>(k:Int)):=by
 have hn:=Ow ha
 have hpos:=JH ha
 have hle:=DO _ _ (B4 ha).1 (B4 ha).2.1
 rw [<- RY ha]
 have e1:AU (normP a)=bfs (nxA (normP a)) a.l.length 0 ([a.start].map (tm (toP a))):=by
  rw [List.map_cons,List.map_nil,Oa ha];unfold AU;rw [show (normP a).start=0 from rfl]
  symm
  exact Tg (JT hn) _ _ 0 [0] (by omega) (by rw [E6 ha];exact hle) (by simp) (by simp) (Jr hn)
 rw [e1];refine Vc (tm (toP a)) (JT ha) a.l.length 0 [a.start] (by omega) (by simp) (by simp) (Jr ha) ?_ ?_
 ·intro x hx;exact UK ha hx
 ·intro x y hx hy h;exact VM ha hx hy h
theorem V2 (to:List Int) (s:AutoState):bareP (Ei to s)=bareP s:=by
 unfold bareP Ei
 cases h:s.arrow <;> simp
theorem QK (to:List Int) (isN:List UInt8->Bool) (l:List AutoEdge) (h:Hj isN l):Hj isN (l.map (edgeM to)):=by
 obtain ⟨h1,h2⟩:=h;refine ⟨?_,by simpa using h2⟩
 intro i x hx
 rw [List.getElem?_map] at hx
 cases h3:l[i]? with
 | none=>rw [h3] at hx;cases hx
 | some y =>
  rw [h3] at hx
  cases hx
  obtain ⟨h4,h5⟩:=h1 i y h3;refine ⟨h4,fun h0 z hz=>?_⟩;rw [List.getElem?_map] at hz
  cases h6:l[i - 1]? with
  | none=>rw [h6] at hz;cases hz
  | some w =>
   rw [h6] at hz
   cases hz
   exact h5 h0 w h6
theorem QT {a:AutoAuto} (ha:Led a) {x:Int} {p:Bool} (hx:x∈AU a) (h:onP a x p=true):onP (normP a) (tm (toP a) x) p=true:=by
 obtain ⟨s,h1,h2⟩:=Sx h;obtain ⟨j,h3,h4,_⟩:=G2 ha hx
 have e:stA a x=s:=by unfold stA;rw [h1];rfl
 unfold onP;rw [h4,NE ha h3,e]
 simp [Ei,h2]
theorem LP {a:AutoAuto} (hab:AB a) (hm:mayP a=0):mayP (normP a)=0:=by
 have ha:=LO hab hm
 obtain ⟨h1,h2,h3,h4⟩:=Gx hm
 have hle:=DO _ _ (B4 ha).1 (B4 ha).2.1
 have hl:=E6 ha
 refine Vt (by have:=JH ha;omega) (by omega) ?_ ?_
 ·intro s hs
  simp only [normP,List.mem_map] at hs;obtain ⟨x,hx,rfl⟩:=hs
  have hxr:=(B4 ha).2.1 x hx
  obtain ⟨r1,r2,r3,r4,r5⟩:=h3 _ (KG hxr.1 hxr.2);refine ⟨by rw [V2];exact r1,r2,QK _ _ _ r3,QK _ _ _ r4,?_⟩
  intro i y hy
  rw [KX,List.getElem?_map] at hy
  cases h5:(nextP (stA a x))[i]? with
  | none=>rw [h5] at hy;cases hy
  | some z =>
   rw [h5] at hy
   cases hy
   exact QT ha (LY ha hx (List.mem_of_getElem? h5)) (r5 i z h5)
 ·have:=QT ha (Kb ha) h4
  rw [Oa ha] at this;exact this
end Go.Proofs.YtcoghblhdjmbfaaGreat
namespace Go.Proofs.YtcoghblhdjmbfaaGreat
open Go.V Tryz
open Classical
theorem Lg:∀ (a b:List Int),a.Pairwise (· < ·)->b.Pairwise (· < ·)->(∀ x,x∈a↔x∈b)->a=b
 | [],[],_,_,_=>rfl
 | [],y::b,_,_,h=>by have:=(h y).2 (by simp);simp at this
 | x::a,[],_,_,h=>by have:=(h x).1 (by simp);simp at this
 | x::a,y::b,ha,hb,h=>by
  rw [List.pairwise_cons] at ha hb
  have hxy:x=y:=by
   have h1:=(h x).1 (by simp)
   have h2:=(h y).2 (by simp)
   rcases List.mem_cons.1 h1 with h1 | h1
   ·exact h1
   ·rcases List.mem_cons.1 h2 with h2 | h2
    ·exact h2.symm
    ·have:=hb.1 x h1;have:=ha.1 y h2;omega
  subst hxy
  congr 1
  refine Lg a b ha.2 hb.2 fun z=>?_
  have h1:=h z
  simp only [List.mem_cons] at h1
  constructor
  ·intro hz
   rcases h1.1 (.inr hz) with e | e
   ·have:=ha.1 z hz;omega
   ·exact e
  ·intro hz
   rcases h1.2 (.inr hz) with e | e
   ·have:=hb.1 z hz;omega
   ·exact e
theorem Jc {d:Array Int} (hd:∀ i j,i<j->j<d.size->d[i]! <= d[j]!):∀ m,m<=d.size->(Lib.compactUpTo d m).Pairwise (· < ·)/\(∀ x,x∈Lib.compactUpTo d m↔∃ j,j<m/\d[j]! = x)/\∀ x∈Lib.compactUpTo d m,0<m/\x<=d[m - 1]!
 | 0,_=>by simp [Lib.compactUpTo]
 | m+1,hm=>by
  obtain ⟨h1,h2,h3⟩:=Jc hd m (by omega);rw [Lib.compactUpTo_succ]
  by_cases hk:Lib.keeps d m=true
  ·rw [if_pos hk]
   have hk2:m=0\/d[m]! ≠ d[m - 1]! := by simpa [Lib.keeps] using hk
   have hlt:∀ x∈Lib.compactUpTo d m,x<d[m]! := by
    intro x hx
    obtain ⟨h4,h5⟩:=h3 x hx
    have h6:=hd (m - 1) m (by omega) (by omega)
    rcases hk2 with h7 | h7
    ·omega
    ·omega
   refine ⟨?_,fun x=>?_,fun x hx=>⟨by omega,?_⟩⟩
   ·rw [List.pairwise_append]
    exact ⟨h1,by simp,fun a ha b hb=>by simp at hb;subst hb;exact hlt a ha⟩
   ·rw [List.mem_append,h2 x]
    simp only [List.mem_cons,List.not_mem_nil,or_false]
    constructor
    ·rintro (⟨j,hj,e⟩ | e)
     ·exact ⟨j,by omega,e⟩
     ·exact ⟨m,by omega,e.symm⟩
    ·rintro ⟨j,hj,e⟩
     by_cases hjm:j=m
     ·subst hjm;exact .inr e.symm
     ·exact .inl ⟨j,by omega,e⟩
   ·rw [Nat.add_sub_cancel]
    rcases List.mem_append.1 hx with hx | hx
    ·exact Int.le_of_lt (hlt x hx)
    ·simp at hx;omega
  ·have hk':Lib.keeps d m=false:=by simpa using hk
   rw [hk']
   have hk2:0<m/\d[m]! = d[m - 1]! := by
    have:¬ (m=0\/d[m]! ≠ d[m - 1]!):=by simpa [Lib.keeps] using hk'
    omega
   simp only [Bool.false_eq_true,if_false,List.append_nil];refine ⟨h1,fun x=>?_,fun x hx=>⟨by omega,?_⟩⟩
   ·rw [h2 x]
    constructor
    ·rintro ⟨j,hj,e⟩;exact ⟨j,by omega,e⟩
    ·rintro ⟨j,hj,e⟩
     by_cases hjm:j=m
     ·subst hjm;exact ⟨j - 1,by omega,by rw [<- hk2.2];exact e⟩
     ·exact ⟨j,by omega,e⟩
   ·rw [Nat.add_sub_cancel]
    have:=(h3 x hx).2
    omega
theorem H5 {l:List Int} (h:l.Pairwise (· <= ·)):(Lib.compact l).Pairwise (· < ·)/\∀ x,x∈Lib.compact l↔x∈l:=by
 have hget:∀ j,j<l.length->l.toArray[j]! = l[j]! := fun j _=>by simp
 obtain ⟨h1,h2,_⟩:=Jc (d:=l.toArray) (fun i j hij hj=>by
  simp at hj
  have:=List.pairwise_iff_getElem.1 h i j (by omega) hj hij
  simpa [hj,show i<l.length by omega] using this) l.length (by simp)
 refine ⟨h1,fun x=>(h2 x).trans ?_⟩
 constructor
 ·rintro ⟨j,hj,e⟩
  rw [<- e];simp [hj]
 ·intro hx
  obtain ⟨j,hj,e⟩:=List.getElem_of_mem hx;exact ⟨j,hj,by simp [hj,e]⟩
theorem IX (l:List Int):(List.mergeSort l fun x y=>decide (x<=y)).Pairwise (· <= ·):=by
 have:=List.pairwise_mergeSort (le:=fun x y:Int=>decide (x<=y)) (fun a b c h1 h2=>by simp at *;omega) (fun a b=>by simp;omega) l
 exact this.imp (fun h=>by simpa using h)
theorem takeS {α:Type} {l:List α} {i:Nat} {x:α} (h:l[i]? = some x):l.take (i+1)=l.take i++[x]:=by
 have hi:=(List.getElem?_eq_some_iff.1 h).1
 rw [List.take_succ_eq_append_getElem hi];rw [List.getElem?_eq_getElem hi] at h;rw [Option.some.inj h]
theorem UR {α:Type} {A B:List α} {x y:α} {i:Nat} (h:A.length=i):(A++x::B).set i y=A++y::B:=by
 subst h
 induction A with
 | nil=>rfl
 | cons a A ih=>simp only [List.cons_append,List.length_cons,List.set_cons_succ,ih]
end Go.Proofs.YtcoghblhdjmbfaaGreat
