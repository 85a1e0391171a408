/- Part 9 of the proof: a program logic, what the functions compute, and what these answer; no condition. -/
import Derived.Test.YtkfnogdccpcmhaaGreatDoorp8
set_option linter.unusedVariables false
set_option linter.unusedSimpArgs false
set_option maxRecDepth 100000
namespace Go.Proofs.YtkfnogdccpcmhaaGreatDoor
open Go.V
open Classical
def ColOk (z:List Int):Prop:=∀ c∈z,c=0\/c=1\/c=2
theorem whites_set {z:List Int} {i:Nat} {c d:Int} (h:z[i]? = some c):(z.set i d).count 0+(if c=0 then 1 else 0)=z.count 0+(if d=0 then 1 else 0):=by
 have hi:=(List.getElem?_eq_some_iff.1 h).1
 have h2:=(List.getElem?_eq_some_iff.1 h).2
 have hc:c=0->0<z.count 0:=fun e=>List.count_pos_iff.2 (by rw [<- e];exact List.mem_of_getElem? h)
 rw [List.count_set hi,h2]
 by_cases h0:c=0
 ·have:=hc h0
  subst h0
  simp
  split <;> omega
 ·rw [if_neg h0]
  have:(c == 0)=false:=by simp [h0]
  rw [this]
  simp
theorem colOk_set {z:List Int} {i:Nat} {d:Int} (h:ColOk z) (hd:d=0\/d=1\/d=2):ColOk (z.set i d):=by
 intro c hc
 rcases List.mem_or_eq_of_mem_set hc with h2 | h2
 ·exact h c h2
 ·rw [h2];exact hd
theorem endk_least {L:List ANd} {i:Nat}:∀ m,endk L m i=true->∃ k,k<m/\endk L (k+1) i=true/\endk L k i=false
 | 0,h=>by simp [endk] at h
 | m+1,h=>by
  cases hq:endk L m i with
  | false=>exact ⟨m,Nat.lt_succ_self m,h,hq⟩
  | true =>
   obtain ⟨k,h1,h2,h3⟩:=endk_least m hq;exact ⟨k,by omega,h2,h3⟩
theorem endk_false {L:List ANd} {k m i:Nat} (hkm:k<=m) (h:endk L m i=false):endk L k i=false:=by
 cases hq:endk L k i with
 | false=>rfl
 | true=>rw [endk_mono hkm hq] at h;cases h
structure WalkOk (L:List ANd) (i:Nat) (z:List Int) (b:Bool) (z':List Int):Prop where
 len:z'.length=L.length
 col:ColOk z'
 wh:z'.count 0<=z.count 0
 yes:b=true->Ends L i/\(∀ j:Nat,z'[j]? = some 2->Ends L j)/\∀ j:Nat,z'[j]? = some 1↔z[j]? = some 1
 no:b=false->∀ m,endk L m i=true->(∀ j:Nat,z[j]? = some 1->endk L m j=false)->False
theorem walk_ok {t:ATy} (hR:InL t.l) (hN:∀ n∈t.l,NB n) (hlen:t.l.length<=2001):∀ (n:Nat) (i:Nat) (z:List Int),i<t.l.length->z.length=t.l.length->ColOk z->z.count 0<n->(∀ j:Nat,z[j]? = some 2->Ends t.l j) ->
  ∃ b z',m_graph_contractive_1 t n (i:Int) z=some (b,z')/\WalkOk t.l i z b z'
 | 0,i,z,_,_,_,h,_=>by omega
 | n+1,i,z,hi,hz,hc,hw,hb=>by
  have hx:t.l[i]? = some t.l[i]:=List.getElem?_eq_getElem hi
  have hy:z[i]? = some (z[i]'(by omega)):=List.getElem?_eq_getElem (by omega)
  have hcz:=hc _ (List.mem_of_getElem? hy)
  show ∃ b z',m_graph_contractive_1F (m_graph_contractive_1 t n) (i:Int) z t=some (b,z')/\_
  unfold m_graph_contractive_1F;rw [getI hx,oB,show m_graph_lattice (t.l[i]).kind=some (latB (t.l[i]).kind) from rfl,oB,getI hy,oB,oB,oB]
  generalize hn:t.l[i]=nd at *
  generalize z[i]'(by omega)=c at *
  cases hlat:latB nd.kind with
  | false =>
   refine ⟨true,z,by rw [Bool.not_false,cT,oB,cT],hz,hc,Nat.le_refl _,fun _=>⟨ends_of hx fun h=>(by rw [hlat] at h;cases h),hb,fun j=>Iff.rfl⟩,fun h=>by cases h⟩
  | true =>
   rw [Bool.not_true,cF_,oB]
   by_cases h2:c=2
   ·refine ⟨true,z,by rw [dT h2,cT],hz,hc,Nat.le_refl _,fun _=>⟨hb i (by rw [hy,h2]),hb,fun j=>Iff.rfl⟩,fun h=>by cases h⟩
   rw [dF h2,cF_]
   by_cases h1:c=1
   ·refine ⟨false,z,by rw [dT h1,cT],hz,hc,Nat.le_refl _,fun h=>(by cases h),fun _ m hm hg=>?_⟩
    rw [hg i (by rw [hy,h1])] at hm;cases hm
   rw [dF h1,cF_]
   have h0:c=0:=by omega
   subst h0
   have hNd:NB nd:=by rw [<- hn];exact hN _ (List.getElem_mem hi)
   rw [oB,kids_eq _ hNd,oB,Int.toNat_natCast]
   have hk:∀ k∈kidsL nd,0<=k/\k<(t.l.length:Int):=hR nd (List.mem_of_getElem? hx)
   have hkl:=kidsL_len nd hNd
   have hwz:=whites_set (d:=1) hy
   simp at hwz
   have hz1:(z.set i 1).length=t.l.length:=by simpa using hz
   have gr1:∀ j:Nat,(z.set i 1)[j]? = some 1↔(j=i\/z[j]? = some 1):=by
    intro j
    rw [List.getElem?_set]
    by_cases hji:i=j
    ·subst hji;simp;omega
    ·rw [if_neg hji];exact ⟨.inr,fun h=>h.elim (fun e=>absurd e.symm hji) id⟩
   obtain ⟨o,e1,e2⟩:=loop_rng (φ:=fun m q s=>m_graph_contractive_1_l1 (m_graph_contractive_1 t n) (kidsL nd) m (q,s)) (l:=kidsL nd)
    (fun q s=>s.length=t.l.length/\ColOk s/\s.count 0<=(z.set i 1).count 0/\(∀ j:Nat,s[j]? = some 2->Ends t.l j)/\(∀ j:Nat,s[j]? = some 1↔(z.set i 1)[j]? = some 1)/\∀ (p:Nat) k,p<q->(kidsL nd)[p]? = some k->Ends t.l k.toNat)
    (fun o=>(∃ s,o=Out.ret (false,s)/\s.length=t.l.length/\ColOk s/\s.count 0<=(z.set i 1).count 0/\∀ m,endk t.l m i=true->(∀ j:Nat,z[j]? = some 1->endk t.l m j=false)->False) \/
     (∃ s,o=Out.go s/\s.length=t.l.length/\ColOk s/\s.count 0<=(z.set i 1).count 0/\(∀ j:Nat,s[j]? = some 2->Ends t.l j)/\(∀ j:Nat,s[j]? = some 1↔(z.set i 1)[j]? = some 1)/\∀ k∈kidsL nd,Ends t.l k.toNat))
    (by
     rintro m q k s hkq hq ⟨s1,s2,s3,s4,s5,s6⟩;obtain ⟨k0,k1⟩:=hk k (List.mem_of_getElem? hkq);obtain ⟨b,z',w1,w2⟩:=walk_ok hR hN hlen n k.toNat s (by omega) s1 s2 (by omega) s4;rw [Int.toNat_of_nonneg k0] at w1;simp only [m_graph_contractive_1_l1];rw [dT (show (q:Int)<(kidsL nd).length by omega),cT,getI hkq,oB,w1,oB]
     dsimp only
     cases b with
     | true =>
      obtain ⟨y1,y2,y3⟩:=w2.yes rfl;refine .inl ⟨z',by rw [Bool.not_true,cF_,grd_pos (by omega)],w2.len,w2.col,Nat.le_trans w2.wh s3,y2,fun j=>(y3 j).trans (s5 j),fun p k' hp hk'=>?_⟩
      by_cases hpq:p=q
      ·subst hpq;rw [hkq] at hk';cases hk';exact y1
      ·exact s6 p k' (by omega) hk'
     | false =>
      refine .inr ⟨_,by rw [Bool.not_false,cT],.inl ⟨z',rfl,w2.len,w2.col,Nat.le_trans w2.wh s3,fun m hm hg=>?_⟩⟩;obtain ⟨r,r1,r2,r3⟩:=endk_least m hm;refine w2.no rfl r ?_ fun j hj=>?_
      ·unfold endk at r2
       rw [hx] at r2;simp only [hlat,Bool.not_true,Bool.false_or,Bool.and_eq_true] at r2
       have:=List.mem_of_getElem? hkq
       rw [lat_kids hlat] at this;simp only [List.mem_cons,List.not_mem_nil,or_false] at this
       rcases this with rfl | rfl
       ·exact r2.1
       ·exact r2.2
      ·rcases (gr1 j).1 ((s5 j).1 hj) with rfl | hj
       ·exact r3
       ·exact endk_false (by omega) (hg j hj))
    (by
     rintro m s ⟨s1,s2,s3,s4,s5,s6⟩;refine ⟨Out.go s,?_,.inr ⟨s,rfl,s1,s2,s3,s4,s5,fun k hk'=>?_⟩⟩
     ·simp only [m_graph_contractive_1_l1]
      rw [dF (by omega),cF_]
     ·obtain ⟨p,hp⟩:=List.getElem?_of_mem hk'
      exact s6 p k (getLt hp) hp)
    (by rw [FUv];omega) (z.set i 1) ⟨hz1,colOk_set hc (by omega),Nat.le_refl _,fun j hj=>(by
     rw [List.getElem?_set] at hj
     by_cases hji:i=j
     ·rw [if_pos hji] at hj;split at hj <;> simp at hj
     ·rw [if_neg hji] at hj;exact hb j hj),fun j=>Iff.rfl,fun p k hp=>by omega⟩
   rw [e1,oB]
   rcases e2 with ⟨s,rfl,s1,s2,s3,s4⟩ | ⟨s,rfl,s1,s2,s3,s4,s5,s6⟩
   ·exact ⟨false,s,rfl,s1,s2,by omega,fun h=>(by cases h),fun _=>s4⟩
   ·have hsi:s[i]? = some 1:=(s5 i).2 ((gr1 i).2 (.inl rfl))
    have hws:=whites_set (d:=2) hsi
    simp at hws
    have hE:Ends t.l i:=ends_of hx fun _=>by
     rw [lat_kids hlat] at s6;exact ⟨s6 _ (by simp),s6 _ (by simp)⟩
    refine ⟨true,s.set i 2,by show (idx s (i:Int)).bind _=_;rw [getI hsi,oB],by simpa using s1,colOk_set s2 (by omega),by omega,fun _=>⟨hE,fun j hj=>?_,fun j=>?_⟩,fun h=>by cases h⟩
    ·rw [List.getElem?_set] at hj
     by_cases hji:i=j
     ·subst hji;exact hE
     ·rw [if_neg hji] at hj;exact s4 j hj
    ·rw [List.getElem?_set]
     by_cases hji:i=j
     ·subst hji;rw [if_pos rfl,hy];split <;> simp
     ·rw [if_neg hji,s5 j,gr1 j]
      exact ⟨fun h=>h.elim (fun e=>absurd e.symm hji) id,.inr⟩
theorem contractive_eq {t:ATy} (hR:InL t.l) (hN:∀ n∈t.l,NB n) (hlen:t.l.length<=2001):m_graph_contractive t=some (decide (AllEnds t.l)):=by
 unfold m_graph_contractive;rw [grd_pos (by omega),grd_pos (by omega),Int.toNat_natCast];obtain ⟨o,e1,e2⟩:=loop_rng (φ:=fun m q s=>m_graph_contractive_l1 t m (q,s)) (l:=t.l)
  (fun q s=>s.length=t.l.length/\ColOk s/\(∀ j:Nat,s[j]? = some 2->Ends t.l j)/\(∀ j:Nat,¬ s[j]? = some 1)/\∀ p,p<q->Ends t.l p)
  (fun o=>(o=Out.ret false/\¬ AllEnds t.l)\/∃ s,o=Out.go s/\AllEnds t.l)
  (by
   rintro m q nd s hnd hq ⟨s1,s2,s3,s4,s5⟩;obtain ⟨b,z',w1,w2⟩:=walk_ok hR hN hlen FU q s hq s1 s2 (by have:=List.count_le_length (a:=(0:Int)) (l:=s);rw [FUv];omega) s3;simp only [m_graph_contractive_l1];rw [dT (show (q:Int)<t.l.length by omega),cT,w1,oB]
   dsimp only
   cases b with
   | true =>
    obtain ⟨y1,y2,y3⟩:=w2.yes rfl;refine .inl ⟨z',by rw [Bool.not_true,cF_,grd_pos (by omega)],w2.len,w2.col,y2,fun j hj=>s4 j ((y3 j).1 hj),fun p hp=>?_⟩
    by_cases hpq:p=q
    ·subst hpq;exact y1
    ·exact s5 p (by omega)
   | false =>
    refine .inr ⟨_,by rw [Bool.not_false,cT],.inl ⟨rfl,fun hA=>?_⟩⟩;obtain ⟨k,hk⟩:=hA q hq;exact w2.no rfl k hk fun j hj=>absurd hj (s4 j))
  (by
   rintro m s ⟨s1,s2,s3,s4,s5⟩;refine ⟨Out.go s,?_,.inr ⟨s,rfl,s5⟩⟩;simp only [m_graph_contractive_l1];rw [dF (by omega),cF_])
  (by rw [FUv];omega) (List.replicate t.l.length 0) ⟨by simp,fun c hc=>(by rw [List.mem_replicate] at hc;exact .inl hc.2),fun j hj=>(by rw [List.getElem?_replicate] at hj;split at hj <;> simp at hj),fun j hj=>(by rw [List.getElem?_replicate] at hj;split at hj <;> simp at hj),fun p hp=>by omega⟩
 rw [e1,oB]
 rcases e2 with ⟨rfl,h⟩ | ⟨s,rfl,h⟩
 ·rw [dF h];rfl
 ·rw [dT h];rfl
end Go.Proofs.YtkfnogdccpcmhaaGreatDoor
namespace Go.Proofs.YtkfnogdccpcmhaaGreatDoor
open Go.V
open Classical
def AllRight (L:List ANd):Prop:=∀ n∈L,rightB n L.length=true
theorem right_in {n:ANd} {all:Int} (h:rightB n all=true):∀ k∈kidsL n,0<=k/\k<all:=by
 intro k hk
 unfold rightB at h;simp only [Bool.and_eq_true,Bool.not_eq_true',decide_eq_false_iff_not] at h
 have h2:=h.2.2.2.2.2
 have:inB all k=false:=by
  cases hq:inB all k with
  | false=>rfl
  | true=>exact absurd ⟨k,hk,hq⟩ h2
 unfold inB at this;rw [Bool.or_eq_false_iff,decide_eq_false_iff_not,decide_eq_false_iff_not] at this
 omega
theorem allRight_in {L:List ANd} (h:AllRight L):InL L:=fun n hn k hk=>right_in (h n hn) k hk
theorem wrong_eq (t:ATy) (hlen:t.l.length<=2001) (hN:∀ n∈t.l,NB n):m_cnN t.l (fun y0=>m_graph_May_1 y0 t)=some (!decide (AllRight t.l)):=by
 unfold m_cnN m_ixN;rw [loop_find (φ:=m_ixN_l1 t.l (fun y0=>m_graph_May_1 y0 t)) (l:=t.l) (fun i=>(i:Int)) (fun n => !rightB n t.l.length) ?_ ?_ (by rw [FUv];omega)]
 ·rw [oB]
  cases hf:t.l.findIdx? (fun n => !rightB n t.l.length) with
  | none =>
   have:AllRight t.l:=by
    intro n hn
    have:=List.findIdx?_eq_none_iff.1 hf n hn
    simpa using this
   rw [dT this];rfl
  | some i =>
   obtain ⟨hi,h1,_⟩:=List.findIdx?_eq_some_iff_getElem.1 hf
   have:¬ AllRight t.l:=fun h=>by
    rw [h _ (List.getElem_mem hi)] at h1;cases h1
   rw [dF this]
   show some (decide (0<=(i:Int)))=some true
   rw [dT (by omega)]
 ·intro n i x hx hi
  simp only [m_ixN_l1];rw [dT (show (i:Int)<t.l.length by omega),cT,getI hx,oB,show m_graph_May_1 x t=some (!rightB x t.l.length) by unfold m_graph_May_1;rw [right_eq _ _ (hN x (List.mem_of_getElem? hx)),oB],oB];exact ⟨fun hq=>by rw [hq,cF_,grd_pos (by omega)],fun hq=>by rw [hq,cT]⟩
 ·intro n
  simp only [m_ixN_l1];rw [dF (by omega),cF_]
theorem rwrong_eq (t:ATy) (hlen:t.l.length<=2001) (hN:∀ n∈t.l,NB n):m_rg_May_l1 t FU 0=some (if AllRight t.l then .go () else .ret 4):=by
 rw [loop_all (φ:=m_rg_May_l1 t) (l:=t.l) 4 (fun _ n=>rightB n t.l.length=true) ?_ ?_ (by rw [FUv];omega)]
 ·have e:(∀ (i:Nat) (x:ANd),t.l[i]? = some x->rightB x t.l.length=true)↔AllRight t.l:=⟨fun h b hb=>by obtain ⟨i,hi⟩:=List.getElem?_of_mem hb;exact h i b hi,fun h i x hx=>h x (List.mem_of_getElem? hx)⟩
  by_cases h2:AllRight t.l
  ·rw [if_pos (e.2 h2),if_pos h2]
  ·rw [if_neg (fun h3=>h2 (e.1 h3)),if_neg h2]
 ·intro n i x hx hi
  simp only [m_rg_May_l1];rw [dT (show (i:Int)<t.l.length by omega),cT,getI hx,oB,rright_eq _ _ (hN x (List.mem_of_getElem? hx)),oB]
  cases rightB x t.l.length
  ·exact ⟨fun h=>(by cases h),fun _=>by rw [Bool.not_false,cT]⟩
  ·exact ⟨fun _=>by rw [Bool.not_true,cF_,grd_pos (by omega)],fun h=>absurd rfl h⟩
 ·intro n
  simp only [m_rg_May_l1];rw [dF (by omega),cF_]
noncomputable def mayT (L:List ANd) (root:Int):Int:=if L.length=0\/2000<L.length then 8 else if root<0\/(L.length:Int)<=root then 4 else if AllRight L/\AllEnds L then 0 else 4
theorem may_eq (t:ATy) (hlen:t.l.length<=2001) (hN:∀ n∈t.l,NB n):m_graph_May t=some (mayT t.l t.root):=by
 unfold m_graph_May mayT
 by_cases h0:t.l.length=0\/2000<t.l.length
 ·rw [if_pos h0,show (decide ((t.l.length:Int)=0)||decide (2000<(t.l.length:Int)))=true by rw [Bool.or_eq_true,decide_eq_true_eq,decide_eq_true_eq];omega,cT]
 rw [if_neg h0,dF (by omega),dF (by omega),Bool.or_false,cF_]
 by_cases hr:t.root<0\/(t.l.length:Int)<=t.root
 ·rw [if_pos hr,show (decide (t.root<0)||decide ((t.l.length:Int)<=t.root))=true by rw [Bool.or_eq_true,decide_eq_true_eq,decide_eq_true_eq];exact hr,cT]
 rw [if_neg hr,dF (by omega),dF (by omega),Bool.or_false,cF_,wrong_eq t hlen hN,oB]
 by_cases hA:AllRight t.l
 ·rw [dT hA,Bool.not_true,cF_,contractive_eq (allRight_in hA) hN hlen,oB]
  by_cases hE:AllEnds t.l
  ·rw [dT hE,if_pos ⟨hA,hE⟩];rfl
  ·rw [dF hE,if_neg (fun h=>hE h.2)];rfl
 ·rw [dF hA,Bool.not_false,cT,if_neg (fun h=>hA h.1)];rfl
theorem rmay_eq (t:ATy) (hlen:t.l.length<=2001) (hN:∀ n∈t.l,NB n):m_rg_May t=some (mayT t.l t.root):=by
 unfold m_rg_May mayT
 by_cases h0:t.l.length=0\/2000<t.l.length
 ·rw [if_pos h0,show (decide ((t.l.length:Int)<1)||decide (2000<(t.l.length:Int)))=true by rw [Bool.or_eq_true,decide_eq_true_eq,decide_eq_true_eq];omega,cT]
 rw [if_neg h0,dF (by omega),dF (by omega),Bool.or_false,cF_]
 by_cases hr:t.root<0\/(t.l.length:Int)<=t.root
 ·rw [if_pos hr,show (decide (t.root<0)||decide ((t.l.length:Int)<=t.root))=true by rw [Bool.or_eq_true,decide_eq_true_eq,decide_eq_true_eq];exact hr,cT]
 rw [if_neg hr,dF (by omega),dF (by omega),Bool.or_false,cF_,rwrong_eq t hlen hN,oB]
 by_cases hA:AllRight t.l
 ·rw [if_pos hA]
  show grd _ _=_
  rw [grd_pos (by omega),grd_pos (by omega),Int.toNat_natCast];obtain ⟨l,l1,l2,l3⟩:=rounds (allRight_in hA) hlen;rw [l1,oB,allTrue_eq l (by omega),oB]
  have e:(∀ b∈l,b=true)↔AllEnds t.l:=by
   constructor
   ·intro h i hi
    have hx:l[i]? = some (l[i]'(by omega)):=List.getElem?_eq_getElem (by omega)
    rw [h _ (List.getElem_mem (by omega))] at hx;exact (l3 i hi).1 hx
   ·intro h b hb
    obtain ⟨i,hi⟩:=List.getElem?_of_mem hb
    have hlt:=getLt hi
    have:=(l3 i (by omega)).2 (h i (by omega))
    rw [hi] at this;exact Option.some.inj this
  by_cases hE:AllEnds t.l
  ·rw [if_pos (e.2 hE),if_pos ⟨hA,hE⟩];rfl
  ·rw [if_neg (fun h=>hE (e.1 h)),if_neg (fun h=>hE h.2)];rfl
 ·rw [if_neg hA,if_neg (fun h=>hA h.1)];rfl
theorem mayT_ok {L:List ANd} {r:Int} (h:mayT L r=0):0<L.length/\L.length<=2000/\0<=r/\r<L.length/\AllRight L/\AllEnds L:=by
 unfold mayT at h
 split at h
 ·omega
 ·split at h
  ·omega
  ·split at h
   ·rename_i h1 h2 h3;exact ⟨by omega,by omega,by omega,by omega,h3.1,h3.2⟩
   ·omega
end Go.Proofs.YtkfnogdccpcmhaaGreatDoor
namespace Go.Proofs.YtkfnogdccpcmhaaGreatDoor
open Go.V
open Classical
theorem reverse_eq (s:List Int) (h:s.length<=1000):m_rvI s=some s.reverse:=by
 unfold m_rvI;rw [grd_pos (by omega)];obtain ⟨o,e1,e2⟩:=loop_inv (φ:=m_rvI_l1) (fun st=>(st.2.1+1 - st.1).toNat)
  (fun st=>0<=st.1 /\ -1<=st.2.1/\st.1+st.2.1=(s.length:Int) - 1/\st.1<=st.2.1+2/\st.2.2.length=s.length/\∀ k:Nat,k<s.length->st.2.2[k]? = if (k:Int)<st.1\/st.2.1<(k:Int) then s.reverse[k]? else s[k]?)
  (fun o=>o=s.reverse)
  (by
   rintro n ⟨i,j,l⟩ ⟨h0,h1,h2,h3,h4,h5⟩
   simp only at h0 h1 h2 h3 h4 h5
   by_cases hij:i<j
   ·left
    obtain ⟨a,rfl⟩:=Int.eq_ofNat_of_zero_le h0;obtain ⟨b,rfl⟩:=Int.eq_ofNat_of_zero_le (show 0<=j by omega)
    have ha:a<s.length:=by omega
    have hb:b<s.length:=by omega
    have la:l[a]? = some s[a]:=by rw [h5 a ha,if_neg (by omega),List.getElem?_eq_getElem ha]
    have lb:l[b]? = some s[b]:=by rw [h5 b hb,if_neg (by omega),List.getElem?_eq_getElem hb]
    have lb2:(l.set a s[b])[b]? = some s[b]:=by rw [List.getElem?_set_ne (by omega)];exact lb
    refine ⟨((a:Int)+1,(b:Int) - 1,(l.set a s[b]).set b s[a]),⟨by simp only;omega,by simp only;omega,by simp only;omega,by simp only;omega,by simpa using h4,fun k hk=>?_⟩,by simp only;omega,?_⟩
    ·simp only
     by_cases hkb:k=b
     ·subst hkb
      rw [List.getElem?_set_self (by simp;omega),if_pos (by omega),List.getElem?_reverse hk,List.getElem?_eq_getElem (by omega)]
      congr 2;omega
     ·rw [List.getElem?_set_ne (by omega)]
      by_cases hka:k=a
      ·subst hka
       rw [List.getElem?_set_self (by omega),if_pos (by omega),List.getElem?_reverse hk,List.getElem?_eq_getElem (by omega)]
       congr 2;omega
      ·rw [List.getElem?_set_ne (by omega),h5 k hk]
       by_cases hc:(k:Int)<a\/(b:Int)<k
       ·rw [if_pos hc,if_pos (by omega)]
       ·rw [if_neg hc,if_neg (by omega)]
    ·simp only [m_rvI_l1]
     rw [dT hij,cT,getI lb,oB,getI la,oB,oB,oB,Int.toNat_natCast,Int.toNat_natCast,getI lb2,oB,grd_pos (by omega),grd_pos (by omega)]
   ·right
    refine ⟨l,?_,by simp only [m_rvI_l1];rw [dF hij,cF_]⟩;refine List.ext_getElem? fun k=>?_
    by_cases hk:k<s.length
    ·rw [h5 k hk]
     split
     ·rfl
     ·rw [List.getElem?_reverse hk];congr 1;omega
    ·rw [List.getElem?_eq_none (by omega),List.getElem?_eq_none (by simp;omega)])
  FU (0,(s.length:Int) - 1,s) ⟨by simp only;omega,by simp only;omega,by simp only;omega,by simp only;omega,rfl,fun k hk=>by simp only;rw [if_neg (by omega)]⟩ (by rw [FUv];simp only;omega)
 rw [e1,e2]
def kat (L:List ANd) (i:Int):List Int:=match L[i.toNat]? with
 | some n=>kidsL n
 | none=>[]
noncomputable def dfs (K:Int->List Int):Nat->List Int->List Int->List Int
 | 0,_,out=>out
 | _+1,[],out=>out
 | n+1,x::s,out=>if x∈out then dfs K n s out else dfs K n (K x++s) (out++[x])
theorem sum_flip (f g:Nat->Nat) (i:Nat):∀ l:List Nat,l.Nodup->i∈l->(∀ j∈l,j≠i->f j=g j)->(l.map f).sum+g i=(l.map g).sum+f i
 | [],_,h,_=>by simp at h
 | j::l,hn,hi,he=>by
  rw [List.nodup_cons] at hn;simp only [List.map_cons,List.sum_cons]
  by_cases hji:j=i
  ·subst hji
   have:l.map f=l.map g:=List.map_congr_left fun k hk=>he k (by simp [hk]) (fun e=>hn.1 (e▸hk))
   rw [this];omega
  ·have:=sum_flip f g i l hn.2 (by simpa [Ne.symm hji] using hi) (fun k hk=>he k (by simp [hk]))
   have:=he j (by simp) hji
   omega
noncomputable def wt (K:Int->List Int) (len:Nat) (out:List Int):Nat:=((List.range len).map (fun (i:Nat)=>if (i:Int)∈out then 0 else (K (i:Int)).length)).sum
theorem wt_add {K:Int->List Int} {len:Nat} {out:List Int} {i:Nat} (hi:i<len) (ho:¬ (i:Int)∈out):wt K len (out++[(i:Int)])+(K i).length=wt K len out:=by
 have:=sum_flip (fun (j:Nat)=>if (j:Int)∈out++[(i:Int)] then 0 else (K (j:Int)).length) (fun (j:Nat)=>if (j:Int)∈out then 0 else (K (j:Int)).length) i (List.range len) List.nodup_range (List.mem_range.2 hi) (fun j _ hj=>by
  have e:((j:Int)∈out++[(i:Int)])↔(j:Int)∈out:=by simp;omega
  by_cases h:(j:Int)∈out
  ·rw [if_pos h,if_pos (e.2 h)]
  ·rw [if_neg h,if_neg (fun h2=>h (e.1 h2))])
 rw [if_neg ho,if_pos (by simp)] at this;unfold wt;omega
theorem kat_in {L:List ANd} (hR:InL L):∀ i k,k∈kat L i->0<=k/\k<(L.length:Int):=by
 intro i k hk
 unfold kat at hk
 cases hq:L[i.toNat]? with
 | none=>rw [hq] at hk;simp at hk
 | some n=>rw [hq] at hk;exact hR n (List.mem_of_getElem? hq) k hk
theorem kat_len {L:List ANd} (hN:∀ n∈L,NB n) (i:Int):(kat L i).length<=40:=by
 unfold kat
 cases hq:L[i.toNat]? with
 | none=>simp
 | some n=>exact kidsL_len n (hN n (List.mem_of_getElem? hq))
theorem lastI (s:List Int) (x:Int):idx (s++[x]) (((s++[x]).length:Int) - 1)=some x:=by
 rw [show (((s++[x]).length:Int) - 1)=(s.length:Int) by simp];exact getI (by simp)
theorem initI (s:List Int) (x:Int):sli (s++[x]) 0 (((s++[x]).length:Int) - 1)=some s:=by
 rw [show (((s++[x]).length:Int) - 1)=(s.length:Int) by simp,sli_take (by simp)]
 simp
end Go.Proofs.YtkfnogdccpcmhaaGreatDoor
namespace Go.Proofs.YtkfnogdccpcmhaaGreatDoor
open Go.V
open Classical
noncomputable def belowL (L:List ANd) (root:Int):List Int:=dfs (kat L) FU [root] []
theorem sum_bound (f:Nat->Nat) (c:Nat):∀ l:List Nat,(∀ j∈l,f j<=c)->(l.map f).sum<=l.length*c
 | [],_=>by simp
 | j::l,h=>by
  have h1:=sum_bound f c l (fun k hk=>h k (by simp [hk]))
  have h2:=h j (by simp)
  simp only [List.map_cons,List.sum_cons,List.length_cons,Nat.add_mul]
  omega
theorem wt_bound {L:List ANd} (hN:∀ n∈L,NB n) (out:List Int):wt (kat L) L.length out<=L.length*40:=by
 have:=sum_bound (fun (i:Nat)=>if (i:Int)∈out then 0 else (kat L (i:Int)).length) 40 (List.range L.length) (fun j _=>by
  split
  ·omega
  ·exact kat_len hN _)
 rw [List.length_range] at this;exact this
theorem dfs_props {K:Int->List Int} {D:Int->Prop} (hK:∀ x,D x->∀ k∈K x,D k):∀ (n:Nat) (s out:List Int),(∀ x∈s,D x)->(∀ x∈out,D x)->out.Nodup->(∀ x∈dfs K n s out,D x)/\(dfs K n s out).Nodup
 | 0,s,out,_,ho,hn=>⟨ho,hn⟩
 | n+1,[],out,_,ho,hn=>⟨ho,hn⟩
 | n+1,x::s,out,hs,ho,hn=>by
  unfold dfs
  split
  ·exact dfs_props hK n s out (fun y hy=>hs y (by simp [hy])) ho hn
  ·rename_i hx
   have hDx:=hs x (by simp)
   refine dfs_props hK n _ _ (fun y hy=>?_) (fun y hy=>?_) ?_
   ·rcases List.mem_append.1 hy with hy | hy
    ·exact hK x hDx y hy
    ·exact hs y (by simp [hy])
   ·rcases List.mem_append.1 hy with hy | hy
    ·exact ho y hy
    ·simp at hy;subst hy;exact hDx
   ·rw [List.nodup_append]
    refine ⟨hn,by simp,fun a ha b hb e=>?_⟩
    simp at hb
    subst hb e;exact hx ha
theorem nodup_bound:∀ (m:Nat) (l:List Int),l.Nodup->(∀ x∈l,0<=x/\x<(m:Int))->l.length<=m
 | 0,l,_,h=>by
  cases l with
  | nil=>simp
  | cons a l=>have:=h a (by simp);omega
 | m+1,l,hn,h=>by
  have h1:=nodup_bound m (l.erase (m:Int)) (hn.erase _) (fun x hx=>by
   have h2:=h x (List.mem_of_mem_erase hx)
   have h3:x≠(m:Int):=fun e=>by rw [e] at hx;exact absurd hx (by rw [hn.mem_erase_iff];simp)
   omega)
  have:=List.length_erase_le (a:=(m:Int)) (l:=l)
  have h4:l.length<=(l.erase (m:Int)).length+1:=by rw [List.length_erase];split <;> omega
  omega
theorem belowL_props {L:List ANd} (hR:InL L) {root:Int} (h0:0<=root) (h1:root<(L.length:Int)):(∀ x∈belowL L root,0<=x/\x<(L.length:Int))/\(belowL L root).Nodup/\(belowL L root).length<=L.length:=by
 obtain ⟨a,b⟩:=dfs_props (K:=kat L) (D:=fun x=>0<=x/\x<(L.length:Int)) (fun x _ k hk=>kat_in hR x k hk) FU [root] [] (fun x hx=>by simp at hx;subst hx;exact ⟨h0,h1⟩) (by simp) (by simp);exact ⟨a,b,nodup_bound _ _ b a⟩
theorem sorted_ext:∀ (a b:List Int),a.Pairwise (· < ·)->b.Pairwise (· < ·)->(∀ x,x∈a↔x∈b)->a=b
 | [],[],_,_,_=>rfl
 | [],y::b,_,_,h=>by have:=(h y).2 (by simp);simp at this
 | x::a,[],_,_,h=>by have:=(h x).1 (by simp);simp at this
 | x::a,y::b,ha,hb,h=>by
  rw [List.pairwise_cons] at ha hb
  have hxy:x=y:=by
   have h1:=(h x).1 (by simp)
   have h2:=(h y).2 (by simp)
   rcases List.mem_cons.1 h1 with h1 | h1
   ·exact h1
   ·rcases List.mem_cons.1 h2 with h2 | h2
    ·exact h2.symm
    ·have:=hb.1 x h1;have:=ha.1 y h2;omega
  subst hxy
  congr 1
  refine sorted_ext a b ha.2 hb.2 fun z=>?_
  have h1:=h z
  simp only [List.mem_cons] at h1
  constructor
  ·intro hz
   rcases h1.1 (.inr hz) with e | e
   ·have:=ha.1 z hz;omega
   ·exact e
  ·intro hz
   rcases h1.2 (.inr hz) with e | e
   ·have:=hb.1 z hz;omega
   ·exact e
theorem compact_upto {d:Array Int} (hd:∀ i j,i<j->j<d.size->d[i]! <= d[j]!):∀ m,m<=d.size->(Lib.compactUpTo d m).Pairwise (· < ·)/\(∀ x,x∈Lib.compactUpTo d m↔∃ j,j<m/\d[j]! = x)/\∀ x∈Lib.compactUpTo d m,0<m/\x<=d[m - 1]!
 | 0,_=>by simp [Lib.compactUpTo]
 | m+1,hm=>by
  obtain ⟨h1,h2,h3⟩:=compact_upto hd m (by omega);rw [Lib.compactUpTo_succ]
  by_cases hk:Lib.keeps d m=true
  ·rw [if_pos hk]
   have hk2:m=0\/d[m]! ≠ d[m - 1]! := by simpa [Lib.keeps] using hk
   have hlt:∀ x∈Lib.compactUpTo d m,x<d[m]! := by
    intro x hx
    obtain ⟨h4,h5⟩:=h3 x hx
    have h6:=hd (m - 1) m (by omega) (by omega)
    rcases hk2 with h7 | h7
    ·omega
    ·omega
   refine ⟨?_,fun x=>?_,fun x hx=>⟨by omega,?_⟩⟩
   ·rw [List.pairwise_append]
    exact ⟨h1,by simp,fun a ha b hb=>by simp at hb;subst hb;exact hlt a ha⟩
   ·rw [List.mem_append,h2 x]
    simp only [List.mem_cons,List.not_mem_nil,or_false]
    constructor
    ·rintro (⟨j,hj,e⟩ | e)
     ·exact ⟨j,by omega,e⟩
     ·exact ⟨m,by omega,e.symm⟩
    ·rintro ⟨j,hj,e⟩
     by_cases hjm:j=m
     ·subst hjm;exact .inr e.symm
     ·exact .inl ⟨j,by omega,e⟩
   ·rw [Nat.add_sub_cancel]
    rcases List.mem_append.1 hx with hx | hx
    ·exact Int.le_of_lt (hlt x hx)
    ·simp at hx;omega
  ·have hk':Lib.keeps d m=false:=by simpa using hk
   rw [hk']
   have hk2:0<m/\d[m]! = d[m - 1]! := by
    have:¬ (m=0\/d[m]! ≠ d[m - 1]!):=by simpa [Lib.keeps] using hk'
    omega
   simp only [Bool.false_eq_true,if_false,List.append_nil];refine ⟨h1,fun x=>?_,fun x hx=>⟨by omega,?_⟩⟩
   ·rw [h2 x]
    constructor
    ·rintro ⟨j,hj,e⟩;exact ⟨j,by omega,e⟩
    ·rintro ⟨j,hj,e⟩
     by_cases hjm:j=m
     ·subst hjm;exact ⟨j - 1,by omega,by rw [<- hk2.2];exact e⟩
     ·exact ⟨j,by omega,e⟩
   ·rw [Nat.add_sub_cancel]
    have:=(h3 x hx).2
    omega
theorem compact_sorted {l:List Int} (h:l.Pairwise (· <= ·)):(Lib.compact l).Pairwise (· < ·)/\∀ x,x∈Lib.compact l↔x∈l:=by
 have hget:∀ j,j<l.length->l.toArray[j]! = l[j]! := fun j _=>by simp
 obtain ⟨h1,h2,_⟩:=compact_upto (d:=l.toArray) (fun i j hij hj=>by
  simp at hj
  have:=List.pairwise_iff_getElem.1 h i j (by omega) hj hij
  simpa [hj,show i<l.length by omega] using this) l.length (by simp)
 refine ⟨h1,fun x=>(h2 x).trans ?_⟩
 constructor
 ·rintro ⟨j,hj,e⟩
  rw [<- e];simp [hj]
 ·intro hx
  obtain ⟨j,hj,e⟩:=List.getElem_of_mem hx;exact ⟨j,hj,by simp [hj,e]⟩
theorem sortI_sorted (l:List Int):(List.mergeSort l fun x y=>decide (x<=y)).Pairwise (· <= ·):=by
 have:=List.pairwise_mergeSort (le:=fun x y:Int=>decide (x<=y)) (fun a b c h1 h2=>by simp at *;omega) (fun a b=>by simp;omega) l
 exact this.imp (fun h=>by simpa using h)
end Go.Proofs.YtkfnogdccpcmhaaGreatDoor
namespace Go.Proofs.YtkfnogdccpcmhaaGreatDoor
open Go.V
open Classical
theorem range_lt:∀ n:Nat,(List.range n).Pairwise (· < ·)
 | 0=>by simp
 | n+1=>by
  rw [List.range_succ,List.pairwise_append];exact ⟨range_lt n,by simp,fun a ha b hb=>by simp at ha hb;omega⟩
end Go.Proofs.YtkfnogdccpcmhaaGreatDoor
namespace Go.Proofs.YtkfnogdccpcmhaaGreatDoor
open Go.V
open Classical
def movedN (f:Int->Int) (n:ANd):ANd:=⟨n.kind,bif pB n.kind then f n.a else n.a,bif pB n.kind then f n.b else n.b,n.l.map (fun x=>⟨x.name,f x.at_⟩)⟩
theorem moved_eq (n:ANd) (p:Int->Option Int) (f:Int->Int) (h:NB n) (h1:pB n.kind=true->p n.a=some (f n.a)/\p n.b=some (f n.b)) (h2:∀ x∈n.l,p x.at_=some (f x.at_)):m_graph_moved n p=some (movedN f n):=by
 unfold m_graph_moved movedN;unfold NB at h;rw [show m_graph_pair n.kind=some (pB n.kind) from rfl,oB]
 have key:∀ z1 z2 z3,m_graph_moved_l1 p n.l FU (0,n.l,z1,z2,z3)=some (n.l.map (fun x=>⟨x.name,f x.at_⟩),z1,z2,z3):=by
  intro z1 z2 z3
  refine loop_setmap (φ:=fun k i s=>m_graph_moved_l1 p n.l k (i,s,z1,z2,z3)) (l:=n.l) (fun x=>⟨x.name,f x.at_⟩) (fun s=>(s,z1,z2,z3)) ?_ ?_ (by rw [FUv];omega)
  ·intro k i x s hx hi hs hsx
   simp only [m_graph_moved_l1];rw [dT (show (i:Int)<n.l.length by omega),cT,getI hsx,oB,h2 x (List.mem_of_getElem? hx),oB,oB,grd_pos (by omega),Int.toNat_natCast]
  ·intro k s hs
   simp only [m_graph_moved_l1];rw [dF (by omega),cF_]
 cases hp:pB n.kind with
 | true =>
  obtain ⟨ha,hb⟩:=h1 hp;rw [cT,ha,oB,hb,oB,oB]
  dsimp only
  rw [grd_pos (by omega),key,oB];rfl
 | false =>
  rw [cF_,oB]
  dsimp only
  rw [grd_pos (by omega),key,oB];rfl
theorem right_wide {n:ANd} {all:Int} (h:rightB n all=true) (hw:wB n.kind=false):n.l=[]:=by
 unfold rightB at h;simp only [Bool.and_eq_true,Bool.not_eq_true'] at h
 have h2:=h.2.2.2.1
 rw [hw,Bool.not_false,Bool.true_and,decide_eq_false_iff_not] at h2;exact List.length_eq_zero_iff.1 (by omega)
theorem pw_no {k:Int} (h:wB k=true):pB k=false:=by
 unfold wB at h;unfold pB
 rw [Bool.or_eq_true,decide_eq_true_eq,decide_eq_true_eq] at h
 rcases h with h | h <;> rw [h] <;> rfl
theorem right_kids {n:ANd} {all:Int} (h:rightB n all=true):(pB n.kind=true->(0<=n.a/\n.a<all)/\(0<=n.b/\n.b<all))/\∀ x∈n.l,0<=x.at_/\x.at_<all:=by
 have hk:=right_in h
 unfold kidsL at hk
 constructor
 ·intro hp
  rw [hp,cT] at hk;exact ⟨hk n.a (by simp),hk n.b (by simp)⟩
 ·intro x hx
  cases hw:wB n.kind with
  | false=>rw [right_wide h hw] at hx;simp at hx
  | true =>
   rw [pw_no hw,cF_,hw,cT] at hk;exact hk x.at_ (List.mem_map.2 ⟨x,hx,rfl⟩)
noncomputable def graftT (a b:ATy):ATy:=⟨a.l++b.l.map (movedN (fun k=>k+(a.l.length:Int))),a.root⟩
theorem graft_eq (a b:ATy) (ha:a.l.length<=4001) (hb:b.l.length<=2001) (hN:∀ n∈b.l,NB n) (hR:AllRight b.l):m_graph_Graft a b=some (graftT a b,(a.l.length:Int)):=by
 unfold m_graph_Graft;rw [grd_pos (by omega)];rw [loop_map (φ:=fun n i s=>m_graph_Graft_l1 a b n (i,a.root,s)) (l:=b.l) (movedN (fun k=>k+(a.l.length:Int))) (fun s=>(a.root,s)) a.l.length ?_ ?_ (by rw [FUv];omega) a.l rfl]
 ·rfl
 ·intro n i x s hx hi hs
  have hr:=right_kids (hR x (List.mem_of_getElem? hx))
  simp only [m_graph_Graft_l1];rw [dT (show (i:Int)<b.l.length by omega),cT,getI hx,oB,show (⟨x.kind,x.a,x.b,x.l⟩:ANd)=x from rfl,moved_eq x _ (fun k=>k+(a.l.length:Int)) (hN x (List.mem_of_getElem? hx)) (fun hp=>by
   obtain ⟨⟨a0,a1⟩,b0,b1⟩:=hr.1 hp;unfold m_graph_Graft_1;rw [grd_pos (by omega),grd_pos (by omega)];exact ⟨rfl,rfl⟩) (fun y hy=>by
   obtain ⟨y0,y1⟩:=hr.2 y hy;unfold m_graph_Graft_1;rw [grd_pos (by omega)]),oB,grd_pos (by simp only [List.length_cons,List.length_nil];omega),grd_pos (by omega)]
 ·intro n s hs
  simp only [m_graph_Graft_l1];rw [dF (by omega),cF_]
theorem rgraft_eq (a b:ATy) (ha:a.l.length<=4001) (hb:b.l.length<=2001) (hN:∀ n∈b.l,NB n) (hR:AllRight b.l):m_rg_Graft a b=some (graftT a b,(a.l.length:Int)):=by
 unfold m_rg_Graft;rw [grd_pos (by omega),List.nil_append];rw [loop_map (φ:=fun n i s=>m_rg_Graft_l1 a b n (i,a.root,s)) (l:=b.l) (movedN (fun k=>k+(a.l.length:Int))) (fun s=>(a.root,s)) a.l.length ?_ ?_ (by rw [FUv];omega) a.l rfl]
 ·rfl
 ·intro n i x s hx hi hs
  have hr:=right_kids (hR x (List.mem_of_getElem? hx))
  have hNx:=hN x (List.mem_of_getElem? hx)
  unfold NB at hNx
  have key:m_rg_Graft_l2 a x.l FU (0,[])=some (x.l.map (fun y=>⟨y.name,y.at_+(a.l.length:Int)⟩)):=by
   rw [loop_map (φ:=fun n i s=>m_rg_Graft_l2 a x.l n (i,s)) (l:=x.l) (fun y=>(⟨y.name,y.at_+(a.l.length:Int)⟩:AFd)) id 0 ?_ ?_ (by rw [FUv];omega) [] rfl]
   ·rfl
   ·intro n i y s hy hi hs
    obtain ⟨y0,y1⟩:=hr.2 y (List.mem_of_getElem? hy);simp only [m_rg_Graft_l2];rw [dT (show (i:Int)<x.l.length by omega),cT,getI hy,oB,oB,grd_pos (by omega),grd_pos (by simp only [List.length_cons,List.length_nil];omega),grd_pos (by omega)]
   ·intro n s hs
    simp only [m_rg_Graft_l2];rw [dF (by omega),cF_];rfl
  simp only [m_rg_Graft_l1];rw [dT (show (i:Int)<b.l.length by omega),cT,getI hx,oB]
  change ((bif pB x.kind then _ else _:Option (Int×Int×Int×(List AFd))).bind _)=_
  unfold movedN
  cases hp:pB x.kind with
  | true =>
   obtain ⟨⟨a0,a1⟩,b0,b1⟩:=hr.1 hp;rw [cT,grd_pos (by omega),grd_pos (by omega),oB]
   dsimp only
   rw [key,oB,grd_pos (by simp only [List.length_cons,List.length_nil];omega),grd_pos (by omega)]
   rfl
  | false =>
   rw [cF_,oB]
   dsimp only
   rw [key,oB,grd_pos (by simp only [List.length_cons,List.length_nil];omega),grd_pos (by omega)]
   rfl
 ·intro n s hs
  simp only [m_rg_Graft_l1];rw [dF (by omega),cF_]
theorem node_ext {x y:ANd}:x=y↔x.kind=y.kind/\x.a=y.a/\x.b=y.b/\x.l=y.l:=by
 obtain ⟨a,b,c,d⟩:=x;obtain ⟨a',b',c',d'⟩:=y
 simp
theorem movedN_nb {n:ANd} {f:Int->Int} (h:NB n):NB (movedN f n):=by unfold NB movedN at *;simpa using h
theorem graftT_nb {a b:ATy} (ha:∀ n∈a.l,NB n) (hb:∀ n∈b.l,NB n):∀ n∈(graftT a b).l,NB n:=by
 intro n hn
 rcases List.mem_append.1 hn with hn | hn
 ·exact ha n hn
 ·obtain ⟨m,hm,rfl⟩:=List.mem_map.1 hn
  exact movedN_nb (hb m hm)
end Go.Proofs.YtkfnogdccpcmhaaGreatDoor
namespace Go.Proofs.YtkfnogdccpcmhaaGreatDoor
open Go.V
open Classical
def In (t:ATy) (i:Int):Prop:=0<=i/\i<(t.l.length:Int)
def nd (t:ATy) (i:Int):ANd:=(t.l[i.toNat]?).getD ⟨0,0,0,[]⟩
theorem nd_get {t:ATy} {i:Int} (h:In t i):t.l[i.toNat]? = some (nd t i):=by
 unfold nd
 have h1:i.toNat<t.l.length:=by have:=h.1;have:=h.2;omega
 rw [List.getElem?_eq_getElem h1];rfl
theorem nd_mem {t:ATy} {i:Int} (h:In t i):nd t i∈t.l:=List.mem_of_getElem? (nd_get h)
def cs (l:List Int):List Int:=Lib.compact (List.mergeSort l fun x y=>decide (x<=y))
theorem mem_cs {l:List Int} {x:Int}:x∈cs l↔x∈l:=by
 unfold cs;rw [(compact_sorted (sortI_sorted l)).2 x,List.mem_mergeSort]
theorem cs_sorted (l:List Int):(cs l).Pairwise (· < ·):=(compact_sorted (sortI_sorted l)).1
theorem cs_uniq {l m:List Int} (h:l.Pairwise (· < ·)) (hm:∀ x,x∈l↔x∈m):l=cs m:=sorted_ext l (cs m) h (cs_sorted m) (fun x=>by rw [hm x,mem_cs])
def wsum (w:Int->Nat):List Int->Nat
 | []=>0
 | x::l=>w x+wsum w l
theorem wsum_app (w:Int->Nat):∀ l m:List Int,wsum w (l++m)=wsum w l+wsum w m
 | [],m=>by simp [wsum]
 | x::l,m=>by simp only [List.cons_append,wsum,wsum_app w l m];omega
theorem wsum_perm {w:Int->Nat} {l m:List Int} (h:l.Perm m):wsum w l=wsum w m:=by
 induction h with
 | nil=>rfl
 | cons x _ ih=>simp only [wsum,ih]
 | swap x y l=>simp only [wsum];omega
 | trans _ _ a b=>exact a.trans b
theorem wsum_sub (w:Int->Nat):∀ s l:List Int,s.Nodup->(∀ x∈s,x∈l)->wsum w s<=wsum w l
 | [],l,_,_=>Nat.zero_le _
 | x::s,l,hn,h=>by
  obtain ⟨h1,h2⟩:=List.nodup_cons.1 hn
  have hp:=List.perm_cons_erase (h x (by simp))
  have:=wsum_sub w s (l.erase x) h2 (fun y hy=>(List.mem_erase_of_ne (fun e=>h1 (by rw [<- e];exact hy))).2 (h y (by simp [hy])))
  rw [wsum_perm hp];simp only [wsum];omega
theorem wsum_cs (w:Int->Nat) (l:List Int):wsum w (cs l)<=wsum w l:=wsum_sub w (cs l) l ((cs_sorted l).imp (fun h=>by omega)) (fun x hx=>mem_cs.1 hx)
structure OkT (t:ATy):Prop where
 right:AllRight t.l
 ends:AllEnds t.l
theorem OkT.kind {t:ATy} (h:OkT t) {i:Int} (hi:In t i):1<=(nd t i).kind/\(nd t i).kind<=11:=by
 have:=h.right _ (nd_mem hi)
 unfold rightB at this;simp only [Bool.and_eq_true,Bool.not_eq_true',Bool.or_eq_false_iff,decide_eq_false_iff_not] at this
 have:=this.1;omega
theorem OkT.kids {t:ATy} (h:OkT t) {i:Int} (hi:In t i) {k:Int} (hk:k∈kidsL (nd t i)):In t k:=allRight_in h.right _ (nd_mem hi) k hk
theorem OkT.pair {t:ATy} (h:OkT t) {i:Int} (hi:In t i) (hk:(nd t i).kind=6\/(nd t i).kind=9\/(nd t i).kind=10):In t (nd t i).a/\In t (nd t i).b:=by
 have h1:kidsL (nd t i)=[(nd t i).a,(nd t i).b]:=by
  unfold kidsL pB
  rcases hk with hk | hk | hk <;> rw [hk] <;> rfl
 exact ⟨h.kids hi (by rw [h1];simp),h.kids hi (by rw [h1];simp)⟩
theorem OkT.at_ {t:ATy} (h:OkT t) {i:Int} (hi:In t i) {f:AFd} (hf:f∈(nd t i).l):In t f.at_:=(right_kids (h.right _ (nd_mem hi))).2 f hf
theorem OkT.weight {t:ATy} (h:OkT t):∃ w:Int->Nat,∀ i,In t i->latB (nd t i).kind=true->w (nd t i).a+w (nd t i).b<w i:=by
 have key:∀ i:Nat,∃ r:Nat,i<t.l.length->endk t.l (r+1) i=true/\endk t.l r i=false:=by
  intro i
  by_cases hi:i<t.l.length
  ·obtain ⟨m,hm⟩:=h.ends i hi
   obtain ⟨k,_,h1,h2⟩:=endk_least m hm;exact ⟨k,fun _=>⟨h1,h2⟩⟩
  ·exact ⟨0,fun h=>absurd h hi⟩
 obtain ⟨r,hr⟩:=Classical.axiomOfChoice key;refine ⟨fun i=>3 ^ r i.toNat,fun i hi hl=>?_⟩
 have hil:i.toNat<t.l.length:=by have:=hi.1;have:=hi.2;omega
 have hp:In t (nd t i).a/\In t (nd t i).b:=h.pair hi (by unfold latB at hl;simp only [Bool.or_eq_true,decide_eq_true_eq] at hl;exact .inr hl)
 obtain ⟨h1,h2⟩:=hr i.toNat hil
 have hlt:∀ k:Int,In t k->endk t.l (r i.toNat) k.toNat=true->r k.toNat<r i.toNat:=by
  intro k hk he
  have hkl:k.toNat<t.l.length:=by have:=hk.1;have:=hk.2;omega
  rcases Nat.lt_or_ge (r k.toNat) (r i.toNat) with h3 | h3
  ·exact h3
  ·have:=endk_mono h3 he;rw [(hr _ hkl).2] at this;cases this
 have h3:endk t.l (r i.toNat) (nd t i).a.toNat=true/\endk t.l (r i.toNat) (nd t i).b.toNat=true:=by
  unfold endk at h1;rw [nd_get hi] at h1;simp only [hl,Bool.not_true,Bool.false_or,Bool.and_eq_true] at h1;exact h1
 have ha:=hlt _ hp.1 h3.1
 have hb:=hlt _ hp.2 h3.2
 obtain ⟨m,hm⟩:∃ m,r i.toNat=m+1:=⟨r i.toNat - 1,by omega⟩
 have h4:3 ^ r (nd t i).a.toNat<=3 ^ m:=Nat.pow_le_pow_right (by omega) (by omega)
 have h5:3 ^ r (nd t i).b.toNat<=3 ^ m:=Nat.pow_le_pow_right (by omega) (by omega)
 have h6:3 ^ (m+1)=3*3 ^ m:=by rw [Nat.pow_succ];omega
 have h7:0<3 ^ m:=Nat.pow_pos (by omega)
 show 3 ^ r (nd t i).a.toNat+3 ^ r (nd t i).b.toNat<3 ^ r i.toNat
 rw [hm,h6];omega
def atN (n:ANd) (s:List UInt8):Option Int:=(n.l.find? fun f=>decide (f.name=s)).map (·.at_)
theorem atN_mem {n:ANd} {s:List UInt8} {k:Int} (h:atN n s=some k):∃ f∈n.l,f.name=s/\f.at_=k:=by
 unfold atN at h
 cases hq:n.l.find? fun f=>decide (f.name=s) with
 | none=>rw [hq] at h;cases h
 | some f=>rw [hq] at h;exact ⟨f,List.mem_of_find?_eq_some hq,by simpa using List.find?_some hq,by simpa using h⟩
theorem atN_some {n:ANd} {s:List UInt8}:atN n s≠none↔s∈n.l.map (·.name):=by
 unfold atN
 constructor
 ·intro h
  cases hq:n.l.find? fun f=>decide (f.name=s) with
  | none=>rw [hq] at h;exact absurd rfl h
  | some f=>exact List.mem_map.2 ⟨f,List.mem_of_find?_eq_some hq,by simpa using List.find?_some hq⟩
 ·intro h hq
  obtain ⟨f,hf,rfl⟩:=List.mem_map.1 h;rw [Option.map_eq_none_iff,List.find?_eq_none] at hq
  simpa using hq f hf
def partsA (t:ATy) (l:List Int) (s:List UInt8):List Int:=l.filterMap fun i=>atN (nd t i) s
def namesA (t:ATy):List Int->List (List UInt8)
 | []=>[]
 | i::l=>((nd t i).l.map (·.name)).filter fun s=>(i::l).all fun j=>(atN (nd t j) s).isSome
def ofK (t:ATy) (l:List Int) (k:Int):List Int:=l.filter fun i=>decide ((nd t i).kind=k)
def latA (t:ATy) (l:List Int):Option (ANd×List Int):=(l.findIdx? fun i=>latB (nd t i).kind).map fun k=>(nd t (l.getD k 0),l.take k++l.drop (k+1))
def openA (t:ATy) (q:BSq):Option (List BSq):=match latA t q.left with
 | some (n,rest)=>some (if n.kind=10 then [⟨cs (rest++[n.a,n.b]),q.right⟩] else [⟨cs (rest++[n.a]),q.right⟩,⟨cs (rest++[n.b]),q.right⟩])
 | none=>match latA t q.right with
  | some (n,rest)=>some (if n.kind=9 then [⟨q.left,cs (rest++[n.a,n.b])⟩] else [⟨q.left,cs (rest++[n.a])⟩,⟨q.left,cs (rest++[n.b])⟩])
  | none=>none
def badA (t:ATy) (l r:List Int) (s:List UInt8):Bool:=(partsA t l s).isEmpty||(partsA t r s).isEmpty
def allA (t:ATy) (k:Int) (l r:List Int):List (List UInt8):=if k=7 then namesA t r else if k=8 then namesA t l else []
def headsA (t:ATy) (k:Int) (l r:List Int):Bool×List BSq:=
 if k≠8/\r=[] then (true,[]) else
 if k=6 then (false,[⟨cs (r.map fun i=>(nd t i).a),cs (l.map fun i=>(nd t i).a)⟩,⟨cs (l.map fun i=>(nd t i).b),cs (r.map fun i=>(nd t i).b)⟩]) else
 if (allA t k l r).any (badA t l r) then (true,[]) else (false,(allA t k l r).map fun s=>⟨cs (partsA t l s),cs (partsA t r s)⟩)
def kindsA (t:ATy) (l:List Int):List Int:=[3,4,5,6,7,8].filter fun k=>l.any fun i=>decide ((nd t i).kind=k)
def closedA (t:ATy) (q:BSq):Bool×List BSq:=match kindsA t q.left with
 | []=>(true,[])
 | [k]=>headsA t k (ofK t q.left k) (ofK t q.right k)
 | _=>(false,[])
def endA (t:ATy) (q:BSq):Bool:=(q.left.any fun i=>decide ((nd t i).kind=2))||(q.right.any fun i=>decide ((nd t i).kind=1))
def shareA (t:ATy) (q:BSq):Bool:=q.left.any fun i=>q.right.any fun j=>decide ((nd t i).kind=11)&&decide ((nd t j).kind=11)&&decide ((nd t i).a=(nd t j).a)
def leadsA (t:ATy) (q:BSq):Bool×List BSq:=
 if endA t q=true then (false,[]) else match openA t q with
 | some l=>(false,l)
 | none=>if shareA t q=true then (false,[]) else closedA t q
theorem latA_some {t:ATy} {l rest:List Int} {n:ANd} (h:latA t l=some (n,rest)):∃ i,n=nd t i/\latB n.kind=true/\l.Perm (i::rest):=by
 unfold latA at h
 cases hq:l.findIdx? fun i=>latB (nd t i).kind with
 | none=>rw [hq] at h;cases h
 | some k =>
  rw [hq] at h;simp only [Option.map_some,Option.some.injEq,Prod.mk.injEq] at h;obtain ⟨rfl,rfl⟩:=h;rw [List.findIdx?_eq_some_iff_getElem] at hq;obtain ⟨hk,h1,_⟩:=hq
  have e:l.getD k 0=l[k]:=by rw [List.getD_eq_getElem?_getD,List.getElem?_eq_getElem hk];rfl
  refine ⟨l[k],by rw [e],by rw [e];exact h1,?_⟩
  have e2:l=l.take k++l[k]::l.drop (k+1):=by rw [<- List.drop_eq_getElem_cons hk,List.take_append_drop]
  have h3:=List.perm_middle (a:=l[k]) (l₁:=l.take k) (l₂:=l.drop (k+1))
  rw [<- e2] at h3;exact h3
theorem latA_none {t:ATy} {l:List Int} (h:latA t l=none):∀ i∈l,latB (nd t i).kind=false:=by
 unfold latA at h;rw [Option.map_eq_none_iff,List.findIdx?_eq_none_iff] at h
 intro i hi
 simpa using h i hi
theorem mem_names {t:ATy} {l:List Int} {s:List UInt8}:s∈namesA t l↔l≠[]/\∀ i∈l,atN (nd t i) s≠none:=by
 cases l with
 | nil=>simp [namesA]
 | cons i l =>
  unfold namesA;rw [List.mem_filter,<- atN_some,List.all_eq_true]
  constructor
  ·rintro ⟨_,h2⟩
   exact ⟨by simp,fun j hj=>by have:=h2 j hj;cases hq:atN (nd t j) s with
    | none=>rw [hq] at this;cases this
    | some _=>simp⟩
  ·rintro ⟨_,h2⟩
   exact ⟨h2 i (by simp),fun j hj=>by have:=h2 j hj;cases hq:atN (nd t j) s with
    | none=>exact absurd hq this
    | some _=>rfl⟩
theorem mem_parts {t:ATy} {l:List Int} {s:List UInt8} {k:Int}:k∈partsA t l s↔∃ i∈l,atN (nd t i) s=some k:=by unfold partsA;rw [List.mem_filterMap]
theorem mem_ofK {t:ATy} {l:List Int} {k i:Int}:i∈ofK t l k↔i∈l/\(nd t i).kind=k:=by unfold ofK;rw [List.mem_filter,decide_eq_true_eq]
theorem mem_kinds {t:ATy} {l:List Int} {k:Int}:k∈kindsA t l↔(3<=k/\k<=8)/\∃ i∈l,(nd t i).kind=k:=by
 unfold kindsA;rw [List.mem_filter,List.any_eq_true];simp only [List.mem_cons,List.not_mem_nil,or_false,decide_eq_true_eq]
 constructor
 ·rintro ⟨h1,h2⟩;exact ⟨by omega,h2⟩
 ·rintro ⟨h1,h2⟩;exact ⟨by omega,h2⟩
theorem kinds_nodup (t:ATy) (l:List Int):(kindsA t l).Nodup:=by unfold kindsA;exact List.Nodup.sublist List.filter_sublist (by decide)
inductive Pt
 | tag (S:Int->Prop) (k:Int)
 | dom (S:Int->Prop) (q:Pt)
 | cod (S:Int->Prop) (q:Pt)
 | absent (S:Int->Prop) (s:List UInt8)
 | field (S:Int->Prop) (s:List UInt8) (q:Pt)
 | hasc (S:Int->Prop) (s:List UInt8)
 | case (S:Int->Prop) (s:List UInt8) (q:Pt)
def Pt.vars:Pt->Int->Prop
 | .tag S _=>S
 | .dom S _=>S
 | .cod S _=>S
 | .absent S _=>S
 | .field S _ _=>S
 | .hasc S _=>S
 | .case S _ _=>S
def Pt.kind:Pt->Int
 | .tag _ k=>k
 | .dom _ _=>6
 | .cod _ _=>6
 | .absent _ _=>7
 | .field _ _ _=>7
 | .hasc _ _=>8
 | .case _ _ _=>8
def Pt.size:Pt->Nat
 | .tag _ _=>0
 | .dom _ q=>q.size+1
 | .cod _ q=>q.size+1
 | .absent _ _=>0
 | .field _ _ q=>q.size+1
 | .hasc _ _=>0
 | .case _ _ q=>q.size+1
inductive La (t:ATy) (S:Int->Prop) (D:ANd->Prop):Int->Prop
 | top {i:Int}:(nd t i).kind=1->La t S D i
 | inl {i:Int}:(nd t i).kind=9->La t S D (nd t i).a->La t S D i
 | inr {i:Int}:(nd t i).kind=9->La t S D (nd t i).b->La t S D i
 | both {i:Int}:(nd t i).kind=10->La t S D (nd t i).a->La t S D (nd t i).b->La t S D i
 | var {i:Int}:(nd t i).kind=11->S (nd t i).a->La t S D i
 | head {i:Int}:3<=(nd t i).kind->(nd t i).kind<=8->D (nd t i)->La t S D i
def hdP (t:ATy):Pt->ANd->Prop
 | .tag _ k,x=>x.kind=k/\k≠8
 | .dom _ q,x=>x.kind=6/\¬ La t q.vars (hdP t q) x.a
 | .cod _ q,x=>x.kind=6/\La t q.vars (hdP t q) x.b
 | .absent _ s,x=>x.kind=7/\atN x s=none
 | .field _ s q,x=>x.kind=7/\∀ k,atN x s=some k->La t q.vars (hdP t q) k
 | .hasc _ s,x=>x.kind=8/\atN x s≠none
 | .case _ s q,x=>x.kind=8/\∃ k,atN x s=some k/\La t q.vars (hdP t q) k
def Sat (t:ATy) (p:Pt) (i:Int):Prop:=La t p.vars (hdP t p) i
theorem hdP_kind {t:ATy} {p:Pt} {x:ANd} (h:hdP t p x):x.kind=p.kind:=by
 cases p <;> exact h.1
section
variable {t:ATy} {S:Int->Prop} {D:ANd->Prop} {i:Int}
theorem la_top (h:(nd t i).kind=1):La t S D i := .top h
theorem la_bot (h:(nd t i).kind=2):¬ La t S D i:=by intro h2;cases h2 <;> omega
theorem la_join (h:(nd t i).kind=9):La t S D i↔La t S D (nd t i).a\/La t S D (nd t i).b:=by
 constructor
 ·intro h2
  cases h2 with
  | inl _ h3=>exact .inl h3
  | inr _ h3=>exact .inr h3
  | top h3=>omega
  | both h3 _ _=>omega
  | var h3 _=>omega
  | head h3 h4 _=>omega
 ·rintro (h2 | h2)
  ·exact .inl h h2
  ·exact .inr h h2
theorem la_meet (h:(nd t i).kind=10):La t S D i↔La t S D (nd t i).a/\La t S D (nd t i).b:=by
 constructor
 ·intro h2
  cases h2 with
  | both _ h3 h4=>exact ⟨h3,h4⟩
  | inl h3 _=>omega
  | inr h3 _=>omega
  | top h3=>omega
  | var h3 _=>omega
  | head h3 h4 _=>omega
 ·rintro ⟨h2,h3⟩;exact .both h h2 h3
theorem la_var (h:(nd t i).kind=11):La t S D i↔S (nd t i).a:=by
 constructor
 ·intro h2
  cases h2 with
  | var _ h3=>exact h3
  | both h3 _ _=>omega
  | inl h3 _=>omega
  | inr h3 _=>omega
  | top h3=>omega
  | head h3 h4 _=>omega
 ·intro h2;exact .var h h2
theorem la_head (h:3<=(nd t i).kind) (h':(nd t i).kind<=8):La t S D i↔D (nd t i):=by
 constructor
 ·intro h2
  cases h2 with
  | head _ _ h3=>exact h3
  | both h3 _ _=>omega
  | inl h3 _=>omega
  | inr h3 _=>omega
  | top h3=>omega
  | var h3 _=>omega
 ·intro h2;exact .head h h' h2
end
def CE (t:ATy) (p:Pt) (q:BSq):Prop:=(∀ i∈q.left,Sat t p i)/\∀ i∈q.right,¬ Sat t p i
def InQ (t:ATy) (q:BSq):Prop:=(∀ i∈q.left,In t i)/\∀ i∈q.right,In t i
structure Closed (t:ATy) (q:BSq):Prop where
 bot:∀ i∈q.left,(nd t i).kind≠2
 top:∀ i∈q.right,(nd t i).kind≠1
 latL:∀ i∈q.left,latB (nd t i).kind=false
 latR:∀ i∈q.right,latB (nd t i).kind=false
 share:∀ i∈q.left,∀ j∈q.right,(nd t i).kind=11->(nd t j).kind=11->(nd t i).a≠(nd t j).a
theorem lat_no {k:Int} (h:latB k=false):k≠9/\k≠10:=by
 unfold latB at h;simp only [Bool.or_eq_false_iff,decide_eq_false_iff_not] at h;exact h
theorem lat_yes {k:Int} (h:latB k=true):k=9\/k=10:=by
 unfold latB at h
 simpa only [Bool.or_eq_true,decide_eq_true_eq] using h
def SV (t:ATy) (q:BSq):Int->Prop:=fun v=>∃ i∈q.left,(nd t i).kind=11/\(nd t i).a=v
theorem mk_ce {t:ATy} {q:BSq} {p:Pt} (hO:OkT t) (hq:InQ t q) (hC:Closed t q) (hS:p.vars=SV t q)
  (hL:∀ i∈q.left,3<=(nd t i).kind->(nd t i).kind<=8->hdP t p (nd t i)) (hR:∀ i∈q.right,3<=(nd t i).kind->(nd t i).kind<=8->¬ hdP t p (nd t i)):CE t p q:=by
 constructor
 ·intro i hi
  have hk:=hO.kind (hq.1 i hi)
  have h2:=hC.bot i hi
  have h3:=lat_no (hC.latL i hi)
  by_cases h1:(nd t i).kind=1
  ·exact .top h1
  ·by_cases h11:(nd t i).kind=11
   ·refine .var h11 ?_
    rw [hS];exact ⟨i,hi,h11,rfl⟩
   ·exact .head (by omega) (by omega) (hL i hi (by omega) (by omega))
 ·intro i hi hs
  have h1:=hC.top i hi
  have h3:=lat_no (hC.latR i hi)
  unfold Sat at hs
  cases hs with
  | top h=>exact h1 h
  | inl h _=>exact h3.1 h
  | inr h _=>exact h3.1 h
  | both h _ _=>exact h3.2 h
  | var h h4 =>
   rw [hS] at h4;obtain ⟨j,hj,hj1,hj2⟩:=h4;exact hC.share j hj i hi hj1 h hj2
  | head h4 h5 h6=>exact hR i hi h4 h5 h6
theorem kinds_nil {t:ATy} {l:List Int} (h:kindsA t l=[]):∀ i∈l,3<=(nd t i).kind->(nd t i).kind<=8->False:=by
 intro i hi h1 h2
 have:=(mem_kinds (t:=t) (l:=l)).2 ⟨⟨h1,h2⟩,i,hi,rfl⟩
 rw [h] at this;cases this
theorem kinds_one {t:ATy} {l:List Int} {k:Int} (h:kindsA t l=[k]):(3<=k/\k<=8)/\(∃ i∈l,(nd t i).kind=k)/\∀ i∈l,3<=(nd t i).kind->(nd t i).kind<=8->(nd t i).kind=k:=by
 have h0:=(mem_kinds (t:=t) (l:=l) (k:=k)).1 (by rw [h];simp)
 refine ⟨h0.1,h0.2,fun i hi h1 h2=>?_⟩
 have:=(mem_kinds (t:=t) (l:=l)).2 ⟨⟨h1,h2⟩,i,hi,rfl⟩
 rw [h] at this;simpa using this
theorem kinds_two {t:ATy} {l m:List Int} {a b:Int} (h:kindsA t l=a::b::m):∃ i∈l,∃ j∈l,(3<=(nd t i).kind/\(nd t i).kind<=8)/\(3<=(nd t j).kind/\(nd t j).kind<=8)/\(nd t i).kind≠(nd t j).kind:=by
 have ha:=(mem_kinds (t:=t) (l:=l) (k:=a)).1 (by rw [h];simp)
 have hb:=(mem_kinds (t:=t) (l:=l) (k:=b)).1 (by rw [h];simp)
 have hn:=kinds_nodup t l
 rw [h] at hn
 have hab:a≠b:=fun e=>by subst e;exact (List.nodup_cons.1 hn).1 (by simp)
 obtain ⟨i,hi,rfl⟩:=ha.2;obtain ⟨j,hj,rfl⟩:=hb.2;exact ⟨i,hi,j,hj,ha.1,hb.1,hab⟩
theorem bad_some {t:ATy} {l r:List Int} {s:List UInt8} (h:badA t l r s=true):(∀ i∈l,atN (nd t i) s=none)\/∀ i∈r,atN (nd t i) s=none:=by
 unfold badA at h;rw [Bool.or_eq_true,List.isEmpty_iff,List.isEmpty_iff] at h
 have key:∀ l:List Int,partsA t l s=[]->∀ i∈l,atN (nd t i) s=none:=by
  intro l hl i hi
  cases hq:atN (nd t i) s with
  | none=>rfl
  | some k=>have:=(mem_parts (t:=t) (l:=l)).2 ⟨i,hi,hq⟩;rw [hl] at this;cases this
 exact h.imp (key l) (key r)
theorem bad_of {t:ATy} {l r:List Int} {s:List UInt8} (h:(∀ i∈l,atN (nd t i) s=none)\/∀ i∈r,atN (nd t i) s=none):badA t l r s=true:=by
 unfold badA;rw [Bool.or_eq_true,List.isEmpty_iff,List.isEmpty_iff]
 have key:∀ l:List Int,(∀ i∈l,atN (nd t i) s=none)->partsA t l s=[]:=by
  intro l hl
  rw [List.eq_nil_iff_forall_not_mem]
  intro k hk
  obtain ⟨i,hi,h2⟩:=mem_parts.1 hk;rw [hl i hi] at h2;cases h2
 exact h.imp (key l) (key r)
theorem heads_bad {t:ATy} {q:BSq} {k:Int} (hO:OkT t) (hq:InQ t q) (hC:Closed t q) (hk:kindsA t q.left=[k]) (h:(headsA t k (ofK t q.left k) (ofK t q.right k)).1=true):∃ p,CE t p q:=by
 obtain ⟨h0,⟨i0,hi0,hk0⟩,h1⟩:=kinds_one hk;unfold headsA at h
 split at h
 ·rename_i hr
  refine ⟨.tag (SV t q) k,mk_ce hO hq hC rfl (fun i hi h3 h8=>⟨h1 i hi h3 h8,hr.1⟩) (fun i hi h3 h8 hd=>?_)⟩
  have:=mem_ofK.2 ⟨hi,hd.1⟩
  rw [hr.2] at this;cases this
 ·rename_i hr
  split at h
  ·cases h
  ·split at h
   ·rename_i h2
    rw [List.any_eq_true] at h2;obtain ⟨s,hs,hb⟩:=h2;unfold allA at hs
    split at hs
    ·rename_i h7;subst h7
     obtain ⟨hne,hall⟩:=mem_names.1 hs
     rcases bad_some hb with hb | hb
     ·refine ⟨.absent (SV t q) s,mk_ce hO hq hC rfl (fun i hi h3 h8=>⟨h1 i hi h3 h8,hb i (mem_ofK.2 ⟨hi,h1 i hi h3 h8⟩)⟩) (fun i hi h3 h8 hd=>?_)⟩
      exact hall i (mem_ofK.2 ⟨hi,hd.1⟩) hd.2
     ·exfalso
      cases hq':ofK t q.right 7 with
      | nil=>exact hne hq'
      | cons j m=>exact hall j (by rw [hq'];simp) (hb j (by rw [hq'];simp))
    ·split at hs
     ·rename_i h8;subst h8
      obtain ⟨hne,hall⟩:=mem_names.1 hs
      rcases bad_some hb with hb | hb
      ·exfalso
       exact hall i0 (mem_ofK.2 ⟨hi0,hk0⟩) (hb i0 (mem_ofK.2 ⟨hi0,hk0⟩))
      ·refine ⟨.hasc (SV t q) s,mk_ce hO hq hC rfl (fun i hi h3 h8=>⟨h1 i hi h3 h8,hall i (mem_ofK.2 ⟨hi,h1 i hi h3 h8⟩)⟩) (fun i hi h3 h8 hd=>?_)⟩
       exact hd.2 (hb i (mem_ofK.2 ⟨hi,hd.1⟩))
     ·cases hs
   ·cases h
theorem heads_up {t:ATy} {q s:BSq} {k:Int} {p:Pt} (hO:OkT t) (hq:InQ t q) (hC:Closed t q) (hk:kindsA t q.left=[k]) (hs:s∈(headsA t k (ofK t q.left k) (ofK t q.right k)).2) (hp:CE t p s):∃ p,CE t p q:=by
 obtain ⟨h0,⟨i0,hi0,hk0⟩,h1⟩:=kinds_one hk;unfold headsA at hs
 split at hs
 ·cases hs
 ·rename_i hr
  split at hs
  ·rename_i h6;subst h6
   simp only [List.mem_cons,List.not_mem_nil,or_false] at hs
   rcases hs with rfl | rfl
   ·refine ⟨.dom (SV t q) p,mk_ce hO hq hC rfl (fun i hi h3 h8=>⟨h1 i hi h3 h8,?_⟩) (fun i hi h3 h8 hd=>?_)⟩
    ·exact hp.2 _ (mem_cs.2 (List.mem_map.2 ⟨i,mem_ofK.2 ⟨hi,h1 i hi h3 h8⟩,rfl⟩))
    ·exact hd.2 (hp.1 _ (mem_cs.2 (List.mem_map.2 ⟨i,mem_ofK.2 ⟨hi,hd.1⟩,rfl⟩)))
   ·refine ⟨.cod (SV t q) p,mk_ce hO hq hC rfl (fun i hi h3 h8=>⟨h1 i hi h3 h8,?_⟩) (fun i hi h3 h8 hd=>?_)⟩
    ·exact hp.1 _ (mem_cs.2 (List.mem_map.2 ⟨i,mem_ofK.2 ⟨hi,h1 i hi h3 h8⟩,rfl⟩))
    ·exact hp.2 _ (mem_cs.2 (List.mem_map.2 ⟨i,mem_ofK.2 ⟨hi,hd.1⟩,rfl⟩)) hd.2
  ·split at hs
   ·cases hs
   ·rename_i hb
    obtain ⟨n,hn,rfl⟩:=List.mem_map.1 hs;unfold allA at hn
    split at hn
    ·rename_i h7;subst h7
     obtain ⟨hne,hall⟩:=mem_names.1 hn;refine ⟨.field (SV t q) n p,mk_ce hO hq hC rfl (fun i hi h3 h8=>⟨h1 i hi h3 h8,fun k hk=>?_⟩) (fun i hi h3 h8 hd=>?_)⟩
     ·exact hp.1 _ (mem_cs.2 (mem_parts.2 ⟨i,mem_ofK.2 ⟨hi,h1 i hi h3 h8⟩,hk⟩))
     ·have hi2:=mem_ofK.2 ⟨hi,hd.1⟩
      cases hq2:atN (nd t i) n with
      | none=>exact hall i hi2 hq2
      | some k=>exact hp.2 _ (mem_cs.2 (mem_parts.2 ⟨i,hi2,hq2⟩)) (hd.2 k hq2)
    ·split at hn
     ·rename_i h8;subst h8
      obtain ⟨hne,hall⟩:=mem_names.1 hn;refine ⟨.case (SV t q) n p,mk_ce hO hq hC rfl (fun i hi h3 h8=>⟨h1 i hi h3 h8,?_⟩) (fun i hi h3 h8 hd=>?_)⟩
      ·have hi2:=mem_ofK.2 ⟨hi,h1 i hi h3 h8⟩
       cases hq2:atN (nd t i) n with
       | none=>exact absurd hq2 (hall i hi2)
       | some k=>exact ⟨k,rfl,hp.1 _ (mem_cs.2 (mem_parts.2 ⟨i,hi2,hq2⟩))⟩
      ·obtain ⟨k,hk2,hk3⟩:=hd.2
       exact hp.2 _ (mem_cs.2 (mem_parts.2 ⟨i,mem_ofK.2 ⟨hi,hd.1⟩,hk2⟩)) hk3
     ·cases hn
theorem mk_closed {t:ATy} {q:BSq} (h1:¬ endA t q=true) (h2:openA t q=none) (h3:¬ shareA t q=true):Closed t q:=by
 unfold endA at h1;unfold openA at h2;unfold shareA at h3;rw [Bool.or_eq_true,List.any_eq_true,List.any_eq_true] at h1;simp only [List.any_eq_true,Bool.and_eq_true,decide_eq_true_eq] at h1 h3
 have hL:latA t q.left=none:=by
  cases hq:latA t q.left with
  | none=>rfl
  | some x=>rw [hq] at h2;cases h2
 have hR:latA t q.right=none:=by
  cases hq:latA t q.right with
  | none=>rfl
  | some x=>rw [hL,hq] at h2;cases h2
 exact ⟨fun i hi h=>h1 (.inl ⟨i,hi,h⟩),fun i hi h=>h1 (.inr ⟨i,hi,h⟩),latA_none hL,latA_none hR,fun i hi j hj h4 h5 h6=>h3 ⟨i,hi,j,hj,⟨h4,h5⟩,h6⟩⟩
theorem lead_bad {t:ATy} {q:BSq} (hO:OkT t) (hq:InQ t q) (h:(leadsA t q).1=true):∃ p,CE t p q:=by
 unfold leadsA at h
 split at h
 ·cases h
 ·rename_i h1
  split at h
  ·cases h
  ·rename_i h2
   split at h
   ·cases h
   ·rename_i h3
    have hC:=mk_closed h1 h2 h3
    unfold closedA at h
    split at h
    ·rename_i hk
     exact ⟨.tag (SV t q) 0,mk_ce hO hq hC rfl (fun i hi h3 h8=>(kinds_nil hk i hi h3 h8).elim) (fun i hi h3 h8 hd=>by have:=hd.1;omega)⟩
    ·rename_i k hk
     exact heads_bad hO hq hC hk h
    ·cases h
theorem open_up {t:ATy} {q s:BSq} {l:List BSq} {p:Pt} (h:openA t q=some l) (hs:s∈l) (hp:CE t p s):CE t p q:=by
 unfold openA at h
 split at h
 ·rename_i n rest hl
  obtain ⟨i,rfl,hk,hpm⟩:=latA_some hl
  cases h
  have key:Sat t p i->(∀ j∈rest,Sat t p j)->(∀ j∈q.right,¬ Sat t p j)->CE t p q:=fun h1 h2 h3=>⟨fun j hj=>by rcases List.mem_cons.1 (hpm.mem_iff.1 hj) with rfl | h;exact h1;exact h2 j h,h3⟩
  split at hs
  ·rename_i h10
   simp only [List.mem_singleton] at hs;subst hs
   exact key ((la_meet h10).2 ⟨hp.1 _ (mem_cs.2 (by simp)),hp.1 _ (mem_cs.2 (by simp))⟩) (fun j hj=>hp.1 _ (mem_cs.2 (by simp [hj]))) hp.2
  ·rename_i h10
   have h9:(nd t i).kind=9:=(lat_yes hk).resolve_right h10
   simp only [List.mem_cons,List.not_mem_nil,or_false] at hs
   rcases hs with rfl | rfl
   ·exact key ((la_join h9).2 (.inl (hp.1 _ (mem_cs.2 (by simp))))) (fun j hj=>hp.1 _ (mem_cs.2 (by simp [hj]))) hp.2
   ·exact key ((la_join h9).2 (.inr (hp.1 _ (mem_cs.2 (by simp))))) (fun j hj=>hp.1 _ (mem_cs.2 (by simp [hj]))) hp.2
 ·split at h
  ·rename_i n rest hl
   obtain ⟨i,rfl,hk,hpm⟩:=latA_some hl
   cases h
   have key:¬ Sat t p i->(∀ j∈rest,¬ Sat t p j)->(∀ j∈q.left,Sat t p j)->CE t p q:=fun h1 h2 h3=>⟨h3,fun j hj=>by rcases List.mem_cons.1 (hpm.mem_iff.1 hj) with rfl | h;exact h1;exact h2 j h⟩
   split at hs
   ·rename_i h9
    simp only [List.mem_singleton] at hs;subst hs
    exact key (fun h=>((la_join h9).1 h).elim (hp.2 _ (mem_cs.2 (by simp))) (hp.2 _ (mem_cs.2 (by simp)))) (fun j hj=>hp.2 _ (mem_cs.2 (by simp [hj]))) hp.1
   ·rename_i h9
    have h10:(nd t i).kind=10:=(lat_yes hk).resolve_left h9
    simp only [List.mem_cons,List.not_mem_nil,or_false] at hs
    rcases hs with rfl | rfl
    ·exact key (fun h=>hp.2 _ (mem_cs.2 (by simp)) ((la_meet h10).1 h).1) (fun j hj=>hp.2 _ (mem_cs.2 (by simp [hj]))) hp.1
    ·exact key (fun h=>hp.2 _ (mem_cs.2 (by simp)) ((la_meet h10).1 h).2) (fun j hj=>hp.2 _ (mem_cs.2 (by simp [hj]))) hp.1
  ·cases h
theorem lead_up {t:ATy} {q s:BSq} {p:Pt} (hO:OkT t) (hq:InQ t q) (hs:s∈(leadsA t q).2) (hp:CE t p s):∃ p,CE t p q:=by
 unfold leadsA at hs
 split at hs
 ·cases hs
 ·rename_i h1
  split at hs
  ·rename_i l h2
   exact ⟨p,open_up h2 hs hp⟩
  ·rename_i h2
   split at hs
   ·cases hs
   ·rename_i h3
    have hC:=mk_closed h1 h2 h3
    unfold closedA at hs
    split at hs
    ·cases hs
    ·rename_i k hk
     exact heads_up hO hq hC hk hs hp
    ·cases hs
def wq (w:Int->Nat) (q:BSq):Nat:=wsum w q.left+wsum w q.right
theorem open_down {t:ATy} {q:BSq} {l:List BSq} {p:Pt} {w:Int->Nat} (hw:∀ i,In t i->latB (nd t i).kind=true->w (nd t i).a+w (nd t i).b<w i) (hq:InQ t q) (h:openA t q=some l) (hp:CE t p q):∃ s∈l,CE t p s/\wq w s<wq w q:=by
 unfold openA at h
 split at h
 ·rename_i n rest hl
  obtain ⟨i,rfl,hk,hpm⟩:=latA_some hl
  cases h
  have hi:i∈q.left:=hpm.mem_iff.2 (by simp)
  have hrest:∀ j∈rest,Sat t p j:=fun j hj=>hp.1 j (hpm.mem_iff.2 (by simp [hj]))
  have hwi:=hw i (hq.1 i hi) hk
  have hwl:wsum w q.left=w i+wsum w rest:=by rw [wsum_perm hpm];rfl
  have h2:∀ m:List Int,(∀ j∈m,Sat t p j)->wsum w m<w i->CE t p ⟨cs (rest++m),q.right⟩/\wq w ⟨cs (rest++m),q.right⟩<wq w q:=by
   intro m hm hwm
   refine ⟨⟨fun j hj=>?_,hp.2⟩,?_⟩
   ·rcases List.mem_append.1 (mem_cs.1 hj) with h | h
    ·exact hrest j h
    ·exact hm j h
   ·have:=wsum_cs w (rest++m)
    rw [wsum_app] at this;simp only [wq]
    omega
  split
  ·rename_i h10
   have hs:=(la_meet h10).1 (hp.1 i hi)
   have:=h2 [(nd t i).a,(nd t i).b] (fun j hj=>by simp at hj;rcases hj with rfl | rfl;exact hs.1;exact hs.2) (by simp only [wsum];omega)
   exact ⟨_,by simp,this⟩
  ·rename_i h10
   have h9:(nd t i).kind=9:=(lat_yes hk).resolve_right h10
   rcases (la_join h9).1 (hp.1 i hi) with hs | hs
   ·have:=h2 [(nd t i).a] (fun j hj=>by simp at hj;subst hj;exact hs) (by simp only [wsum];omega)
    exact ⟨_,by simp,this⟩
   ·have:=h2 [(nd t i).b] (fun j hj=>by simp at hj;subst hj;exact hs) (by simp only [wsum];omega)
    exact ⟨⟨cs (rest++[(nd t i).b]),q.right⟩,by simp,this⟩
 ·split at h
  ·rename_i n rest hl
   obtain ⟨i,rfl,hk,hpm⟩:=latA_some hl
   cases h
   have hi:i∈q.right:=hpm.mem_iff.2 (by simp)
   have hrest:∀ j∈rest,¬ Sat t p j:=fun j hj=>hp.2 j (hpm.mem_iff.2 (by simp [hj]))
   have hwi:=hw i (hq.2 i hi) hk
   have hwl:wsum w q.right=w i+wsum w rest:=by rw [wsum_perm hpm];rfl
   have h2:∀ m:List Int,(∀ j∈m,¬ Sat t p j)->wsum w m<w i->CE t p ⟨q.left,cs (rest++m)⟩/\wq w ⟨q.left,cs (rest++m)⟩<wq w q:=by
    intro m hm hwm
    refine ⟨⟨hp.1,fun j hj=>?_⟩,?_⟩
    ·rcases List.mem_append.1 (mem_cs.1 hj) with h | h
     ·exact hrest j h
     ·exact hm j h
    ·have:=wsum_cs w (rest++m)
     rw [wsum_app] at this;simp only [wq]
     omega
   have hs:=hp.2 i hi
   split
   ·rename_i h9
    have:=h2 [(nd t i).a,(nd t i).b] (fun j hj=>by
     simp at hj
     rcases hj with rfl | rfl
     ·exact fun h=>hs ((la_join h9).2 (.inl h))
     ·exact fun h=>hs ((la_join h9).2 (.inr h))) (by simp only [wsum];omega)
    exact ⟨_,by simp,this⟩
   ·rename_i h9
    have h10:(nd t i).kind=10:=(lat_yes hk).resolve_left h9
    by_cases ha:Sat t p (nd t i).a
    ·have:=h2 [(nd t i).b] (fun j hj=>by simp at hj;subst hj;exact fun h=>hs ((la_meet h10).2 ⟨ha,h⟩)) (by simp only [wsum];omega)
     exact ⟨⟨q.left,cs (rest++[(nd t i).b])⟩,by simp,this⟩
    ·have:=h2 [(nd t i).a] (fun j hj=>by simp at hj;subst hj;exact ha) (by simp only [wsum];omega)
     exact ⟨_,by simp,this⟩
  ·cases h
theorem head_sat {t:ATy} {q:BSq} {p:Pt} {k:Int} (hk:kindsA t q.left=[k]) (hp:CE t p q):k=p.kind/\(3<=k/\k<=8)/\(∃ i,i∈ofK t q.left k)/\(∀ i∈ofK t q.left k,hdP t p (nd t i))/\∀ i∈ofK t q.right k,¬ hdP t p (nd t i):=by
 obtain ⟨h0,⟨i0,hi0,hk0⟩,h1⟩:=kinds_one hk
 have hd:∀ i∈ofK t q.left k,hdP t p (nd t i):=fun i hi=>by
  obtain ⟨h2,h3⟩:=mem_ofK.1 hi;exact (la_head (by omega) (by omega)).1 (hp.1 i h2)
 refine ⟨?_,h0,⟨i0,mem_ofK.2 ⟨hi0,hk0⟩⟩,hd,fun i hi hh=>?_⟩
 ·rw [<- hdP_kind (hd i0 (mem_ofK.2 ⟨hi0,hk0⟩)),hk0]
 ·obtain ⟨h2,h3⟩:=mem_ofK.1 hi
  exact hp.2 i h2 ((la_head (by omega) (by omega)).2 hh)
theorem heads_down {t:ATy} {p:Pt} {l r:List Int} (h0:3<=p.kind/\p.kind<=8) (hne:∃ i,i∈l) (hK:∀ i∈r,(nd t i).kind=p.kind) (hL:∀ i∈l,hdP t p (nd t i)) (hR:∀ i∈r,¬ hdP t p (nd t i)) :
  (headsA t p.kind l r).1=true\/∃ s∈(headsA t p.kind l r).2,∃ p',CE t p' s/\p'.size<p.size:=by
 by_cases hr:p.kind≠8/\r=[]
 ·left;unfold headsA;rw [if_pos hr]
 have hnil:p.kind≠8->r≠[]:=fun h h2=>hr ⟨h,h2⟩
 cases p with
 | tag S k =>
  exfalso
  by_cases h8:k=8
  ·obtain ⟨i,hi⟩:=hne
   exact (hL i hi).2 h8
  ·cases r with
   | nil=>exact hnil h8 rfl
   | cons j m=>exact hR j (by simp) ⟨hK j (by simp),h8⟩
 | dom S p =>
  right
  refine ⟨⟨cs (r.map fun i=>(nd t i).a),cs (l.map fun i=>(nd t i).a)⟩,by unfold headsA;rw [if_neg hr];simp [Pt.kind],p,⟨fun x hx=>?_,fun x hx=>?_⟩,by simp [Pt.size]⟩
  ·obtain ⟨i,hi,rfl⟩:=List.mem_map.1 (mem_cs.1 hx)
   exact Classical.byContradiction fun h=>hR i hi ⟨hK i hi,h⟩
  ·obtain ⟨i,hi,rfl⟩:=List.mem_map.1 (mem_cs.1 hx)
   exact (hL i hi).2
 | cod S p =>
  right
  refine ⟨⟨cs (l.map fun i=>(nd t i).b),cs (r.map fun i=>(nd t i).b)⟩,by unfold headsA;rw [if_neg hr];simp [Pt.kind],p,⟨fun x hx=>?_,fun x hx=>?_⟩,by simp [Pt.size]⟩
  ·obtain ⟨i,hi,rfl⟩:=List.mem_map.1 (mem_cs.1 hx)
   exact (hL i hi).2
  ·obtain ⟨i,hi,rfl⟩:=List.mem_map.1 (mem_cs.1 hx)
   exact fun h=>hR i hi ⟨hK i hi,h⟩
 | absent S s =>
  left
  have hs:s∈namesA t r:=mem_names.2 ⟨hnil (by simp [Pt.kind]),fun i hi h=>hR i hi ⟨hK i hi,h⟩⟩
  unfold headsA;rw [if_neg hr,if_neg (by simp [Pt.kind]),if_pos (List.any_eq_true.2 ⟨s,by simp [allA,Pt.kind,hs],bad_of (.inl fun i hi=>(hL i hi).2)⟩)]
 | field S s p =>
  have hex:∀ i∈r,∃ k,atN (nd t i) s=some k/\¬ Sat t p k:=fun i hi=>Classical.byContradiction fun h=>hR i hi ⟨hK i hi,fun k hk=>Classical.byContradiction fun h2=>h ⟨k,hk,h2⟩⟩
  have hs:s∈namesA t r:=mem_names.2 ⟨hnil (by simp [Pt.kind]),fun i hi h=>by obtain ⟨k,hk,_⟩:=hex i hi;rw [h] at hk;cases hk⟩
  by_cases hb:(allA t (Pt.field S s p).kind l r).any (badA t l r)=true
  ·left;unfold headsA;rw [if_neg hr,if_neg (by simp [Pt.kind]),if_pos hb]
  ·right
   refine ⟨⟨cs (partsA t l s),cs (partsA t r s)⟩,?_,p,⟨fun x hx=>?_,fun x hx=>?_⟩,by simp [Pt.size]⟩
   ·unfold headsA;rw [if_neg hr,if_neg (by simp [Pt.kind]),if_neg hb]
    exact List.mem_map.2 ⟨s,by simp [allA,Pt.kind,hs],rfl⟩
   ·obtain ⟨i,hi,hk⟩:=mem_parts.1 (mem_cs.1 hx)
    exact (hL i hi).2 x hk
   ·obtain ⟨i,hi,hk⟩:=mem_parts.1 (mem_cs.1 hx)
    obtain ⟨k,hk2,hk3⟩:=hex i hi;rw [hk] at hk2;cases hk2
    exact hk3
 | hasc S s =>
  left
  obtain ⟨i0,hi0⟩:=hne
  have hs:s∈namesA t l:=mem_names.2 ⟨fun e=>(by rw [e] at hi0;cases hi0),fun i hi=>(hL i hi).2⟩
  have hn:∀ i∈r,atN (nd t i) s=none:=fun i hi=>by
   cases hq:atN (nd t i) s with
   | none=>rfl
   | some k=>exact absurd ⟨hK i hi,by rw [hq];simp⟩ (hR i hi)
  unfold headsA;rw [if_neg hr,if_neg (by simp [Pt.kind]),if_pos (List.any_eq_true.2 ⟨s,by simp [allA,Pt.kind,hs],bad_of (.inr hn)⟩)]
 | case S s p =>
  obtain ⟨i0,hi0⟩:=hne
  have hs:s∈namesA t l:=mem_names.2 ⟨fun e=>(by rw [e] at hi0;cases hi0),fun i hi h=>by obtain ⟨k,hk,_⟩:=(hL i hi).2;rw [h] at hk;cases hk⟩
  by_cases hb:(allA t (Pt.case S s p).kind l r).any (badA t l r)=true
  ·left;unfold headsA;rw [if_neg hr,if_neg (by simp [Pt.kind]),if_pos hb]
  ·right
   refine ⟨⟨cs (partsA t l s),cs (partsA t r s)⟩,?_,p,⟨fun x hx=>?_,fun x hx=>?_⟩,by simp [Pt.size]⟩
   ·unfold headsA;rw [if_neg hr,if_neg (by simp [Pt.kind]),if_neg hb]
    exact List.mem_map.2 ⟨s,by simp [allA,Pt.kind,hs],rfl⟩
   ·obtain ⟨i,hi,hk⟩:=mem_parts.1 (mem_cs.1 hx)
    obtain ⟨k,hk2,hk3⟩:=(hL i hi).2;rw [hk] at hk2;cases hk2
    exact hk3
   ·obtain ⟨i,hi,hk⟩:=mem_parts.1 (mem_cs.1 hx)
    exact fun h=>hR i hi ⟨hK i hi,x,hk,h⟩
theorem lead_down {t:ATy} {q:BSq} {p:Pt} {w:Int->Nat} (hO:OkT t) (hw:∀ i,In t i->latB (nd t i).kind=true->w (nd t i).a+w (nd t i).b<w i) (hq:InQ t q) (hp:CE t p q) :
  (leadsA t q).1=true\/∃ s∈(leadsA t q).2,∃ p',CE t p' s/\(p'.size<p.size\/(p'.size=p.size/\wq w s<wq w q)):=by
 have h1:¬ endA t q=true:=by
  unfold endA;rw [Bool.or_eq_true,List.any_eq_true,List.any_eq_true];rintro (⟨i,hi,h⟩ | ⟨i,hi,h⟩)
  ·exact la_bot (of_decide_eq_true h) (hp.1 i hi)
  ·exact hp.2 i hi (la_top (of_decide_eq_true h))
 unfold leadsA;rw [if_neg h1]
 cases h2:openA t q with
 | some l =>
  right
  obtain ⟨s,hs,h3,h4⟩:=open_down hw hq h2 hp;exact ⟨s,hs,p,h3,.inr ⟨rfl,h4⟩⟩
 | none =>
  have h3:¬ shareA t q=true:=by
   unfold shareA;simp only [List.any_eq_true,Bool.and_eq_true,decide_eq_true_eq];rintro ⟨i,hi,j,hj,⟨h4,h5⟩,h6⟩
   have:=(la_var h4).1 (hp.1 i hi)
   rw [h6] at this;exact hp.2 j hj ((la_var h5).2 this)
  simp only [if_neg h3];unfold closedA
  cases hk:kindsA t q.left with
  | nil=>left;rfl
  | cons k m =>
   cases m with
   | nil =>
    obtain ⟨rfl,h5,h6,h7,h8⟩:=head_sat hk hp
    rcases heads_down h5 h6 (fun i hi=>(mem_ofK.1 hi).2) h7 h8 with h | ⟨s,hs,p',h9,h10⟩
    ·left;exact h
    ·right;exact ⟨s,hs,p',h9,.inl h10⟩
   | cons b m =>
    exfalso
    obtain ⟨i,hi,j,hj,h5,h6,h7⟩:=kinds_two hk
    have e1:=hdP_kind ((la_head h5.1 h5.2).1 (hp.1 i hi))
    have e2:=hdP_kind ((la_head h6.1 h6.2).1 (hp.1 j hj))
    exact h7 (e1.trans e2.symm)
structure Kept (t:ATy) (A:Int->Prop):Prop where
 inn:∀ i,A i->In t i
 pair:∀ i,A i->(nd t i).kind=6\/(nd t i).kind=9\/(nd t i).kind=10->A (nd t i).a/\A (nd t i).b
 fld:∀ i,A i->∀ f∈(nd t i).l,A f.at_
theorem Kept.all {t:ATy} (hO:OkT t):Kept t (In t):=⟨fun _ h=>h,fun _ h hk=>hO.pair h hk,fun _ h _ hf=>hO.at_ h hf⟩
def InAB (A B:Int->Prop) (q:BSq):Prop:=(∀ i∈q.left,A i)/\∀ i∈q.right,B i
theorem Kept.parts {t:ATy} {A:Int->Prop} (hA:Kept t A) {l:List Int} (h:∀ i∈l,A i) (s:List UInt8):∀ i∈cs (partsA t l s),A i:=fun k hk=>by
 obtain ⟨i,hi,h2⟩:=mem_parts.1 (mem_cs.1 hk);obtain ⟨f,hf,_,rfl⟩:=atN_mem h2;exact hA.fld i (h i hi) f hf
theorem lead_in {t:ATy} {A B:Int->Prop} (hA:Kept t A) (hB:Kept t B) {q s:BSq} (hq:InAB A B q) (hs:s∈(leadsA t q).2):InAB A B s\/InAB B A s:=by
 unfold leadsA at hs
 split at hs
 ·cases hs
 ·split at hs
  ·rename_i l h2
   left
   unfold openA at h2
   split at h2
   ·rename_i n rest hl
    obtain ⟨i,rfl,hk,hpm⟩:=latA_some hl
    cases h2
    have hi:A i:=hq.1 i (hpm.mem_iff.2 (by simp))
    have hp:=hA.pair i hi (.inr (lat_yes hk))
    have hrest:∀ j∈rest,A j:=fun j hj=>hq.1 j (hpm.mem_iff.2 (by simp [hj]))
    have h2:∀ m:List Int,(∀ j∈m,A j)->InAB A B ⟨cs (rest++m),q.right⟩:=fun m hm=>⟨fun j hj=>by
     rcases List.mem_append.1 (mem_cs.1 hj) with h | h
     ·exact hrest j h
     ·exact hm j h,hq.2⟩
    split at hs
    ·simp only [List.mem_singleton] at hs;subst hs
     exact h2 _ (fun j hj=>by simp at hj;rcases hj with rfl | rfl;exact hp.1;exact hp.2)
    ·simp only [List.mem_cons,List.not_mem_nil,or_false] at hs
     rcases hs with rfl | rfl
     ·exact h2 _ (fun j hj=>by simp at hj;subst hj;exact hp.1)
     ·exact h2 _ (fun j hj=>by simp at hj;subst hj;exact hp.2)
   ·split at h2
    ·rename_i n rest hl
     obtain ⟨i,rfl,hk,hpm⟩:=latA_some hl
     cases h2
     have hi:B i:=hq.2 i (hpm.mem_iff.2 (by simp))
     have hp:=hB.pair i hi (.inr (lat_yes hk))
     have hrest:∀ j∈rest,B j:=fun j hj=>hq.2 j (hpm.mem_iff.2 (by simp [hj]))
     have h2:∀ m:List Int,(∀ j∈m,B j)->InAB A B ⟨q.left,cs (rest++m)⟩:=fun m hm=>⟨hq.1,fun j hj=>by
      rcases List.mem_append.1 (mem_cs.1 hj) with h | h
      ·exact hrest j h
      ·exact hm j h⟩
     split at hs
     ·simp only [List.mem_singleton] at hs;subst hs
      exact h2 _ (fun j hj=>by simp at hj;rcases hj with rfl | rfl;exact hp.1;exact hp.2)
     ·simp only [List.mem_cons,List.not_mem_nil,or_false] at hs
      rcases hs with rfl | rfl
      ·exact h2 _ (fun j hj=>by simp at hj;subst hj;exact hp.1)
      ·exact h2 _ (fun j hj=>by simp at hj;subst hj;exact hp.2)
    ·cases h2
  ·split at hs
   ·cases hs
   ·unfold closedA at hs
    split at hs
    ·cases hs
    ·rename_i k hk
     have hL:∀ i∈ofK t q.left k,A i:=fun i hi=>hq.1 i (mem_ofK.1 hi).1
     have hR:∀ i∈ofK t q.right k,B i:=fun i hi=>hq.2 i (mem_ofK.1 hi).1
     unfold headsA at hs
     split at hs
     ·cases hs
     ·split at hs
      ·rename_i h6;subst h6
       simp only [List.mem_cons,List.not_mem_nil,or_false] at hs
       rcases hs with rfl | rfl
       ·right
        refine ⟨fun x hx=>?_,fun x hx=>?_⟩ <;> obtain ⟨i,hi,rfl⟩:=List.mem_map.1 (mem_cs.1 hx)
        ·exact (hB.pair i (hR i hi) (.inl (mem_ofK.1 hi).2)).1
        ·exact (hA.pair i (hL i hi) (.inl (mem_ofK.1 hi).2)).1
       ·left
        refine ⟨fun x hx=>?_,fun x hx=>?_⟩ <;> obtain ⟨i,hi,rfl⟩:=List.mem_map.1 (mem_cs.1 hx)
        ·exact (hA.pair i (hL i hi) (.inl (mem_ofK.1 hi).2)).2
        ·exact (hB.pair i (hR i hi) (.inl (mem_ofK.1 hi).2)).2
      ·split at hs
       ·cases hs
       ·obtain ⟨n,hn,rfl⟩:=List.mem_map.1 hs
        left
        exact ⟨hA.parts hL n,hB.parts hR n⟩
    ·cases hs
inductive Rch (t:ATy) (q:BSq):BSq->Prop
 | refl:Rch t q q
 | step {s s':BSq}:Rch t q s->s'∈(leadsA t s).2->Rch t q s'
theorem Rch.head {t:ATy} {q s s':BSq} (h1:s∈(leadsA t q).2) (h:Rch t s s'):Rch t q s':=by
 induction h with
 | refl=>exact .step .refl h1
 | step _ h2 ih=>exact .step ih h2
theorem lead_inQ {t:ATy} (hO:OkT t) {q s:BSq} (hq:InQ t q) (hs:s∈(leadsA t q).2):InQ t s:=(lead_in (Kept.all hO) (Kept.all hO) hq hs).elim id id
theorem Rch.inQ {t:ATy} (hO:OkT t) {q s:BSq} (hq:InQ t q) (h:Rch t q s):InQ t s:=by
 induction h with
 | refl=>exact hq
 | step _ h2 ih=>exact lead_inQ hO ih h2
theorem ce_fails {t:ATy} (hO:OkT t) {w:Int->Nat} (hw:∀ i,In t i->latB (nd t i).kind=true->w (nd t i).a+w (nd t i).b<w i):∀ (n m:Nat) (q:BSq) (p:Pt),p.size<=n->wq w q<=m->InQ t q->CE t p q->∃ s,Rch t q s/\(leadsA t s).1=true:=by
 intro n
 induction n with
 | zero =>
  intro m
  induction m with
  | zero =>
   intro q p h1 h2 hq hp
   rcases lead_down hO hw hq hp with h | ⟨s,_,p',_,h⟩
   ·exact ⟨q,.refl,h⟩
   ·omega
  | succ m ih =>
   intro q p h1 h2 hq hp
   rcases lead_down hO hw hq hp with h | ⟨s,hs,p',hp',h⟩
   ·exact ⟨q,.refl,h⟩
   ·obtain ⟨s',h3,h4⟩:=ih s p' (by omega) (by omega) (lead_inQ hO hq hs) hp'
    exact ⟨s',h3.head hs,h4⟩
 | succ n ihn =>
  intro m
  induction m with
  | zero =>
   intro q p h1 h2 hq hp
   rcases lead_down hO hw hq hp with h | ⟨s,hs,p',hp',h⟩
   ·exact ⟨q,.refl,h⟩
   ·obtain ⟨s',h3,h4⟩:=ihn (wq w s) s p' (by omega) (Nat.le_refl _) (lead_inQ hO hq hs) hp'
    exact ⟨s',h3.head hs,h4⟩
  | succ m ih =>
   intro q p h1 h2 hq hp
   rcases lead_down hO hw hq hp with h | ⟨s,hs,p',hp',h⟩
   ·exact ⟨q,.refl,h⟩
   ·by_cases h5:p'.size<=n
    ·obtain ⟨s',h3,h4⟩:=ihn (wq w s) s p' h5 (Nat.le_refl _) (lead_inQ hO hq hs) hp'
     exact ⟨s',h3.head hs,h4⟩
    ·obtain ⟨s',h3,h4⟩:=ih s p' (by omega) (by omega) (lead_inQ hO hq hs) hp'
     exact ⟨s',h3.head hs,h4⟩
theorem fails_ce {t:ATy} (hO:OkT t) {q s:BSq} (h:Rch t q s) (hq:InQ t q) (hs:∃ p,CE t p s):∃ p,CE t p q:=by
 induction h with
 | refl=>exact hs
 | step h1 h2 ih =>
  obtain ⟨p,hp⟩:=hs;exact ih (lead_up hO (h1.inQ hO hq) h2 hp)
def Valid (t:ATy) (q:BSq):Prop:=∀ p,¬ CE t p q
theorem valid_iff {t:ATy} (hO:OkT t) {q:BSq} (hq:InQ t q):(∀ s,Rch t q s->(leadsA t s).1=false)↔Valid t q:=by
 obtain ⟨w,hw⟩:=hO.weight
 constructor
 ·intro h p hp
  obtain ⟨s,h1,h2⟩:=ce_fails hO hw p.size (wq w q) q p (Nat.le_refl _) (Nat.le_refl _) hq hp;rw [h s h1] at h2;cases h2
 ·intro h s hs
  cases h1:(leadsA t s).1 with
  | false=>rfl
  | true =>
   obtain ⟨p,hp⟩:=fails_ce hO hs hq (lead_bad hO (hs.inQ hO hq) h1);exact absurd hp (h p)
end Go.Proofs.YtkfnogdccpcmhaaGreatDoor
namespace Go.Proofs.YtkfnogdccpcmhaaGreatDoor
open Go.V
open Classical
theorem takeS {α:Type} {l:List α} {i:Nat} {x:α} (h:l[i]? = some x):l.take (i+1)=l.take i++[x]:=by
 have hi:=(List.getElem?_eq_some_iff.1 h).1
 rw [List.take_succ_eq_append_getElem hi];rw [List.getElem?_eq_getElem hi] at h;rw [Option.some.inj h]
theorem getN {t:ATy} {i:Int} (h:In t i):idx t.l i=some (nd t i):=by unfold idx;rw [if_pos h.1,nd_get h]
theorem kind_eq {t:ATy} {i:Int} (h:In t i):m_below_search_kind t i=some (nd t i).kind:=by unfold m_below_search_kind;rw [getN h];rfl
theorem index_eq (l:List Int) (f:Int->Option Bool) (g:Int->Bool) (h:∀ x∈l,f x=some (g x)) (hl:l.length<=1000000):m_ixI l f=some (match l.findIdx? g with | some i=>(i:Int) | none => -1):=by
 unfold m_ixI;rw [loop_find (φ:=m_ixI_l1 l f) (l:=l) (fun i=>(i:Int)) g ?_ ?_ (by rw [FUv];omega)]
 ·rw [oB]
  cases hf:l.findIdx? g with
  | none=>rfl
  | some i=>rfl
 ·intro n i x hx hi
  simp only [m_ixI_l1];rw [dT (show (i:Int)<l.length by omega),cT,getI hx,oB,h x (List.mem_of_getElem? hx),oB];exact ⟨fun hq=>by rw [hq,cF_,grd_pos (by omega)],fun hq=>by rw [hq,cT]⟩
 ·intro n
  simp only [m_ixI_l1];rw [dF (by omega),cF_]
theorem contains_eq (l:List Int) (f:Int->Option Bool) (g:Int->Bool) (h:∀ x∈l,f x=some (g x)) (hl:l.length<=1000000):m_cnI l f=some (l.any g):=by
 unfold m_cnI;rw [index_eq l f g h hl,oB]
 cases hf:l.findIdx? g with
 | none =>
  have:l.any g=false:=by
   rw [List.any_eq_false]
   intro x hx
   have:=List.findIdx?_eq_none_iff.1 hf x hx
   simp [this]
  rw [this];rfl
 | some i =>
  obtain ⟨hi,h1,_⟩:=List.findIdx?_eq_some_iff_getElem.1 hf
  have:l.any g=true:=List.any_eq_true.2 ⟨l[i],List.getElem_mem hi,h1⟩
  rw [this]
  show some (decide (0<=(i:Int)))=some true
  rw [dT (by omega)]
theorem has_eq {t:ATy} {l:List Int} (h:∀ i∈l,In t i) (hl:l.length<=1000) (k:Int):m_below_search_has t l k=some (l.any fun i=>decide ((nd t i).kind=k)):=by
 unfold m_below_search_has;rw [contains_eq l _ (fun i=>decide ((nd t i).kind=k)) (fun x hx=>by unfold m_below_search_has_1;rw [kind_eq (h x hx)];rfl) (by omega)]
 rfl
theorem lattice_eq {t:ATy} {l:List Int} (h:∀ i∈l,In t i) (hl:l.length<=1000):m_below_search_lattice t l=some (match latA t l with | some (n,rest)=>(n,rest,true) | none=>(⟨0,0,0,[]⟩,[],false)):=by
 unfold m_below_search_lattice;rw [index_eq l _ (fun i=>latB (nd t i).kind) (fun x hx=>by
  unfold m_below_search_lattice_1;rw [kind_eq (h x hx),oB];unfold latB
  cases decide ((nd t x).kind=9) <;> rfl) (by omega),oB]
 unfold latA
 cases hf:l.findIdx? (fun i=>latB (nd t i).kind) with
 | none=>rfl
 | some i =>
  obtain ⟨hi,h1,_⟩:=List.findIdx?_eq_some_iff_getElem.1 hf
  have hx:l[i]? = some l[i]:=List.getElem?_eq_getElem hi
  have e:l.getD i 0=l[i]:=by rw [List.getD_eq_getElem?_getD,hx];rfl
  simp only [Option.map_some];rw [dF (by omega),cF_,getI hx,oB,getN (h _ (List.getElem_mem hi)),oB,grd_pos (by omega),grd_pos (by constructor <;> omega),grd_pos (by omega),grd_pos (by omega),grd_pos (by omega),grd_pos (by rintro rfl;cases hi),e]
  congr 3
theorem concat_eq (ls:List (List Int)) (h:ls.length<=3) (h2:∀ l∈ls,l.length<=2000):m_ccI ls=some ls.flatten:=by
 have hm:∀ {i:Nat} {x:List Int},ls[i]? = some x->x.length<=2000:=fun hx=>h2 _ (List.mem_of_getElem? hx)
 unfold m_ccI
 have e1:=loop_fold (φ:=fun n i s=>m_ccI_l1 ls n (s,i)) (l:=ls) (fun i s=>0<=s/\s<=2000*i) (fun _ s x=>s+(x.length:Int)) id (by
  intro n i x s hx hi hI
  have hm:=hm hx
  simp only [m_ccI_l1];rw [dT (by omega),cT,getI hx,oB,grd_pos (by omega),dF (by omega),cF_,grd_pos (by omega)];exact ⟨rfl,by omega⟩) (by
  intro n s hI
  simp only [m_ccI_l1];rw [dF (by omega),cF_];rfl) (by rw [FUv];omega) (fun _ t s=>t.foldl (fun s x=>s+(x.length:Int)) s) (fun _ _=>rfl) (fun _ _ _ _=>rfl) 0 (by omega)
 have e2:=loop_fold (φ:=fun n i s=>m_ccI_l2 ls n (i,s)) (l:=ls) (fun i s=>s.length<=2000*i) (fun _ s x=>s++x) id (by
  intro n i x s hx hi hI
  have hm:=hm hx
  simp only [m_ccI_l2];rw [dT (by omega),cT,getI hx,oB,grd_pos (by omega),grd_pos (by omega)];exact ⟨rfl,by simp;omega⟩) (by
  intro n s hI
  simp only [m_ccI_l2];rw [dF (by omega),cF_];rfl) (by rw [FUv];omega) (fun _ t s=>s++t.flatten) (by simp) (by simp) [] (by simp)
 rw [e1.1,oB]
 have e3:=e1.2
 rw [id,grd_pos (by omega),grd_pos (by omega)];rw [e2.1];rfl
theorem set_eq {l:List Int} (h:l.length<=1000000):m_below_set l=some (cs l):=by
 unfold m_below_set;rw [grd_pos (by omega),grd_pos (by omega)];rfl
theorem plus_eq {l m:List Int} (h:l.length<=1000) (h2:m.length<=1000):m_below_plus l m=some (cs (l++m)):=by
 unfold m_below_plus;rw [concat_eq [l,m] (by simp) (by simp;omega),oB,set_eq (by simp;omega)]
 simp
theorem latA_len {t:ATy} {l rest:List Int} {n:ANd} (h:latA t l=some (n,rest)):rest.length<=l.length:=by
 obtain ⟨i,_,_,hp⟩:=latA_some h
 have:=hp.length_eq
 simp at this;omega
theorem opened_eq {t:ATy} {q:BSq} (hq:InQ t q) (h1:q.left.length<=500) (h2:q.right.length<=500):m_below_search_opened t q=some (match openA t q with | some l=>(⟨l,false⟩,true) | none=>(⟨[],false⟩,false)):=by
 unfold m_below_search_opened openA;rw [lattice_eq hq.1 (by omega),oB]
 cases hl:latA t q.left with
 | some x =>
  obtain ⟨n,rest⟩:=x
  have:=latA_len hl
  simp only [cT]
  by_cases h10:n.kind=10
  ·rw [dT h10,cT,plus_eq (by omega) (by simp),if_pos h10];rfl
  ·rw [dF h10,cF_,plus_eq (by omega) (by simp),oB,plus_eq (by omega) (by simp),if_neg h10];rfl
 | none =>
  simp only [cF_];rw [lattice_eq hq.2 (by omega),oB]
  cases hr:latA t q.right with
  | some x =>
   obtain ⟨n,rest⟩:=x
   have:=latA_len hr
   simp only [cT]
   by_cases h9:n.kind=9
   ·rw [dT h9,cT,plus_eq (by omega) (by simp),if_pos h9];rfl
   ·rw [dF h9,cF_,plus_eq (by omega) (by simp),oB,plus_eq (by omega) (by simp),if_neg h9];rfl
  | none=>simp only [cF_]
theorem shared_eq {t:ATy} {q:BSq} (hq:InQ t q) (h1:q.left.length<=500) (h2:q.right.length<=500):m_below_search_shared t q=some (shareA t q):=by
 unfold m_below_search_shared;obtain ⟨o,e1,e2⟩:=loop_rng (φ:=fun n i s=>m_below_search_shared_l1 t q n (i,s)) (l:=q.left) (fun i s=>∀ v,(mget s v).getD false=(q.left.take i).any fun j=>decide ((nd t j).kind=11)&&decide ((nd t j).a=v)) (fun o=>∀ v,(mget o v).getD false=q.left.any fun j=>decide ((nd t j).kind=11)&&decide ((nd t j).a=v))
  (by
   intro n i x s hx hi hI
   left
   simp only [m_below_search_shared_l1];rw [dT (show (i:Int)<(q.left.length:Int) by omega),cT,getI hx,oB,getN (hq.1 _ (List.mem_of_getElem? hx)),oB]
   by_cases h11:(nd t x).kind=11
   ·rw [dT h11,cT,grd_pos (by constructor <;> omega)]
    refine ⟨_,rfl,fun v=>?_⟩;rw [takeS hx,List.any_append,mget_set,<- hI v]
    by_cases hv:v=(nd t x).a
    ·subst hv;simp [h11]
    ·rw [if_neg hv];simp [h11,show ¬ (nd t x).a=v from fun e=>hv e.symm]
   ·rw [dF h11,cF_,grd_pos (by constructor <;> omega)]
    refine ⟨_,rfl,fun v=>?_⟩;rw [takeS hx,List.any_append,<- hI v]
    simp [h11])
  (by
   intro n s hI
   simp only [m_below_search_shared_l1];rw [dF (by omega),cF_];exact ⟨s,rfl,by simpa using hI⟩) (by rw [FUv];omega) [] (by intro v;simp [mget])
 rw [e1,oB];rw [contains_eq q.right _ (fun j=>decide ((nd t j).kind=11)&&(mget o (nd t j).a).getD false) (fun x hx=>by
  unfold m_below_search_shared_1;rw [getN (hq.2 _ hx)];rfl) (by omega),oB]
 congr 1
 unfold shareA;rw [Bool.eq_iff_iff];simp only [List.any_eq_true,Bool.and_eq_true,decide_eq_true_eq,e2]
 constructor
 ·rintro ⟨j,hj,h3,i,hi,h4,h5⟩;exact ⟨i,hi,j,hj,⟨h4,h3⟩,h5⟩
 ·rintro ⟨i,hi,j,hj,⟨h4,h3⟩,h5⟩;exact ⟨j,hj,h3,i,hi,h4,h5⟩
theorem nodup_one {l:List Int} {k:Int} (hn:l.Nodup) (h:∀ x,x∈l↔x=k):l=[k]:=by
 cases l with
 | nil=>have:=(h k).2 rfl;cases this
 | cons a m =>
  have ha:=(h a).1 (by simp)
  subst ha
  cases m with
  | nil=>rfl
  | cons b m =>
   have hb:=(h b).1 (by simp)
   subst hb;exact absurd (List.nodup_cons.1 hn).1 (by simp)
def headsI (t:ATy) (l:List Int) (k:Int):Prop:=(k=0/\∀ i∈l,3<=(nd t i).kind->(nd t i).kind<=8->False)\/((3<=k/\k<=8)/\(∃ i∈l,(nd t i).kind=k)/\∀ i∈l,3<=(nd t i).kind->(nd t i).kind<=8->(nd t i).kind=k)
theorem heads_kinds {t:ATy} {l:List Int} {k:Int} (h:headsI t l k):(k=0/\kindsA t l=[])\/(3<=k/\kindsA t l=[k]):=by
 rcases h with ⟨h1,h2⟩ | ⟨h1,h2,h3⟩
 ·left
  refine ⟨h1,?_⟩;rw [List.eq_nil_iff_forall_not_mem]
  intro x hx
  obtain ⟨h4,i,hi,rfl⟩:=mem_kinds.1 hx;exact h2 i hi h4.1 h4.2
 ·right
  refine ⟨h1.1,nodup_one (kinds_nodup t l) (fun x=>⟨fun hx=>?_,fun hx=>?_⟩)⟩
  ·obtain ⟨h4,i,hi,rfl⟩:=mem_kinds.1 hx
   exact h3 i hi h4.1 h4.2
  ·subst hx;exact mem_kinds.2 ⟨h1,h2⟩
theorem heads_eq {t:ATy} {l:List Int} (hO:OkT t) (h:∀ i∈l,In t i) (hb:∀ i∈l,(nd t i).kind≠2) (hla:∀ i∈l,latB (nd t i).kind=false) (hl:l.length<=500) :
  ∃ k more,m_below_search_heads t l=some (k,more)/\(more=true->∃ a b m,kindsA t l=a::b::m)/\(more=false->(k=0/\kindsA t l=[])\/(3<=k/\kindsA t l=[k])):=by
 unfold m_below_search_heads;obtain ⟨o,e1,e2⟩:=loop_rng (φ:=fun n i s=>m_below_search_heads_l1 t l n (s,i)) (l:=l) (fun i k=>headsI t (l.take i) k) (fun o=>(∃ k,o=Out.go k/\headsI t l k)\/(∃ k a b m,o=Out.ret (k,true)/\kindsA t l=a::b::m))
  (by
   intro n i x k hx hi hI
   have hxm:=List.mem_of_getElem? hx
   have hk:=hO.kind (h x hxm)
   have h2:=hb x hxm
   have h3:=lat_no (hla x hxm)
   simp only [m_below_search_heads_l1];rw [dT (show (i:Int)<(l.length:Int) by omega),cT,getI hx,oB,kind_eq (h x hxm),oB]
   by_cases hv:(nd t x).kind=11\/(nd t x).kind=1
   ·left
    rw [show (decide ((nd t x).kind=11)||decide ((nd t x).kind=1))=true by simpa using hv,cT,grd_pos (by constructor <;> omega)];refine ⟨_,rfl,?_⟩;rw [takeS hx]
    rcases hI with ⟨h4,h5⟩ | ⟨h4,⟨j,hj,h5⟩,h6⟩
    ·left
     refine ⟨h4,fun j hj h6 h7=>?_⟩
     rcases List.mem_append.1 hj with hj | hj
     ·exact h5 j hj h6 h7
     ·simp at hj;subst hj;omega
    ·right
     refine ⟨h4,⟨j,by simp [hj],h5⟩,fun j hj h7 h8=>?_⟩
     rcases List.mem_append.1 hj with hj | hj
     ·exact h6 j hj h7 h8
     ·simp at hj;subst hj;omega
   ·rw [show (decide ((nd t x).kind=11)||decide ((nd t x).kind=1))=false by simpa using hv,cF_]
    have hx38:3<=(nd t x).kind/\(nd t x).kind<=8:=by omega
    by_cases hc:k≠0/\(nd t x).kind≠k
    ·right
     rw [show ((!decide (k=0))&&(!decide ((nd t x).kind=k)))=true by simpa using hc,cT];refine ⟨_,rfl,.inr ?_⟩
     rcases hI with ⟨h4,_⟩ | ⟨h4,⟨j,hj,h5⟩,_⟩
     ·exact absurd h4 hc.1
     ·cases hkk:kindsA t l with
      | nil=>exact (kinds_nil hkk x hxm hx38.1 hx38.2).elim
      | cons a m =>
       cases m with
       | nil =>
        obtain ⟨_,_,h7⟩:=kinds_one hkk
        have e1:=h7 x hxm hx38.1 hx38.2
        have e2:=h7 j (List.mem_of_mem_take hj) (by omega) (by omega)
        omega
       | cons b m=>exact ⟨k,a,b,m,rfl,rfl⟩
    ·left
     rw [show ((!decide (k=0))&&(!decide ((nd t x).kind=k)))=false by
      by_cases h0:k=0
      ·simp [h0]
      ·simp [h0];exact Classical.byContradiction fun h=>hc ⟨h0,h⟩,cF_,grd_pos (by constructor <;> omega)]
     refine ⟨_,rfl,.inr ⟨hx38,⟨x,by rw [takeS hx];simp,rfl⟩,fun j hj h7 h8=>?_⟩⟩;rw [takeS hx] at hj
     rcases List.mem_append.1 hj with hj | hj
     ·rcases hI with ⟨h4,h5⟩ | ⟨h4,_,h6⟩
      ·exact (h5 j hj h7 h8).elim
      ·have:=h6 j hj h7 h8
       have:k=(nd t x).kind:=Classical.byContradiction fun h=>hc ⟨by omega,fun e=>h e.symm⟩
       omega
     ·simp at hj;subst hj;rfl)
  (by
   intro n k hI
   simp only [m_below_search_heads_l1];rw [dF (by omega),cF_];exact ⟨_,rfl,.inl ⟨k,rfl,by simpa using hI⟩⟩) (by rw [FUv];omega) 0 (.inl ⟨rfl,by simp⟩)
 rw [e1,oB]
 rcases e2 with ⟨k,rfl,h4⟩ | ⟨k,a,b,m,rfl,h4⟩
 ·exact ⟨k,false,rfl,fun h=>(by cases h),fun _=>heads_kinds h4⟩
 ·exact ⟨k,true,rfl,fun _=>⟨a,b,m,h4⟩,fun h=>(by cases h)⟩
theorem kAt_nd (t:ATy) (x:Int):kAt t x=(nd t x).kind:=by
 unfold kAt nd
 cases t.l[x.toNat]? <;> rfl
theorem only_eq {t:ATy} {l:List Int} (h:∀ i∈l,In t i) (hl:l.length<=500) (k:Int):m_below_search_only t l k=some (ofK t l k):=by
 unfold m_below_search_only;rw [grd_pos (by omega),grd_pos (show ∀ x∈l,0<=x/\x<(t.l.length:Int) from h)]
 congr 1
 unfold keepK ofK
 congr 1
 funext x
 rw [kAt_nd,Bool.not_not]
theorem arrows_eq {t:ATy} {l r:List Int} (hq:InQ t ⟨l,r⟩) (h1:l.length<=500) (h2:r.length<=500) (hr:r≠[]) :
  m_below_search_arrows t ⟨l,r⟩=some ⟨[⟨cs (r.map fun i=>(nd t i).a),cs (l.map fun i=>(nd t i).a)⟩,⟨cs (l.map fun i=>(nd t i).b),cs (r.map fun i=>(nd t i).b)⟩],false⟩:=by
 unfold m_below_search_arrows;rw [dF (by have:=List.length_pos_iff.2 hr;simp only;omega),cF_];obtain ⟨o,e1,e2⟩:=loop_rng (φ:=fun n i s=>m_below_search_arrows_l1 t ⟨l,r⟩ n (i,s)) (l:=l) (fun i s=>s=([],(l.take i).map (fun i=>(nd t i).b),(l.take i).map (fun i=>(nd t i).a),[])) (fun o=>o=([],l.map (fun i=>(nd t i).b),l.map (fun i=>(nd t i).a),[]))
  (by
   rintro n i x s hx hi rfl
   left
   have hxm:=List.mem_of_getElem? hx
   have hti:(l.take i).length<=500:=by rw [List.length_take];omega
   simp only [m_below_search_arrows_l1];rw [dT (show (i:Int)<(l.length:Int) by omega),cT,getI hx,oB,getN (hq.1 x hxm),oB,grd_pos (by simp only [List.length_map,List.length_cons,List.length_nil];omega),oB,grd_pos (by simp only [List.length_map,List.length_cons,List.length_nil];omega),grd_pos (by constructor <;> omega)];refine ⟨_,rfl,?_⟩;rw [takeS hx];simp)
  (by
   rintro n s rfl;simp only [m_below_search_arrows_l1];rw [dF (by omega),cF_];exact ⟨_,rfl,by simp⟩) (by rw [FUv];omega) ([],[],[],[]) (by simp)
 rw [e1,oB,e2];obtain ⟨o,e3,e4⟩:=loop_rng (φ:=fun n i s=>m_below_search_arrows_l2 t ⟨l,r⟩ n (i,s)) (l:=r) (fun i s=>s=((r.take i).map (fun i=>(nd t i).b),l.map (fun i=>(nd t i).b),l.map (fun i=>(nd t i).a),(r.take i).map (fun i=>(nd t i).a))) (fun o=>o=(r.map (fun i=>(nd t i).b),l.map (fun i=>(nd t i).b),l.map (fun i=>(nd t i).a),r.map (fun i=>(nd t i).a)))
  (by
   rintro n i x s hx hi rfl
   left
   have hxm:=List.mem_of_getElem? hx
   have hti:(r.take i).length<=500:=by rw [List.length_take];omega
   simp only [m_below_search_arrows_l2];rw [dT (show (i:Int)<(r.length:Int) by omega),cT,getI hx,oB,getN (hq.2 x hxm),oB,grd_pos (by simp only [List.length_map,List.length_cons,List.length_nil];omega),oB,grd_pos (by simp only [List.length_map,List.length_cons,List.length_nil];omega),grd_pos (by constructor <;> omega)];refine ⟨_,rfl,?_⟩;rw [takeS hx];simp)
  (by
   rintro n s rfl;simp only [m_below_search_arrows_l2];rw [dF (by omega),cF_];exact ⟨_,rfl,by simp⟩) (by rw [FUv];omega) ([],l.map (fun i=>(nd t i).b),l.map (fun i=>(nd t i).a),[]) (by simp)
 simp only
 rw [e3,oB,e4]
 simp only
 rw [set_eq (by simp;omega),oB,set_eq (by simp;omega),oB,set_eq (by simp;omega),oB,set_eq (by simp;omega),oB]
end Go.Proofs.YtkfnogdccpcmhaaGreatDoor
namespace Go.Proofs.YtkfnogdccpcmhaaGreatDoor
open Go.V
open Classical
theorem mset_keys {α β:Type} [DecidableEq α] {l:List (α×β)} {k:α} {v:β}:(mset l k v).map (·.1)=if k∈l.map (·.1) then l.map (·.1) else l.map (·.1)++[k]:=by
 induction l with
 | nil=>simp [mset]
 | cons p l ih =>
  obtain ⟨a,b⟩:=p;simp only [mset]
  by_cases h:k=a
  ·subst h;simp
  ·rw [if_neg h]
   simp only [List.map_cons,ih,List.mem_cons,h,false_or]
   split <;> simp
theorem mset_nodup {α β:Type} [DecidableEq α] {l:List (α×β)} {k:α} {v:β} (h:(l.map (·.1)).Nodup):((mset l k v).map (·.1)).Nodup:=by
 rw [mset_keys]
 split
 ·exact h
 ·rename_i hk
  rw [List.nodup_append];exact ⟨h,by simp,fun a ha b hb e=>by simp at hb;subst hb e;exact hk ha⟩
theorem mset_len {α β:Type} [DecidableEq α] {l:List (α×β)} {k:α} {v:β}:(mset l k v).length<=l.length+1:=by
 have:=congrArg List.length (mset_keys (l:=l) (k:=k) (v:=v))
 rw [List.length_map] at this;rw [this]
 split <;> simp
theorem mget_mem {α β:Type} [DecidableEq α] {l:List (α×β)} (h:(l.map (·.1)).Nodup) {k:α} {v:β}:(k,v)∈l↔mget l k=some v:=by
 induction l with
 | nil=>simp [mget]
 | cons p l ih =>
  obtain ⟨a,b⟩:=p;simp only [List.map_cons,List.nodup_cons] at h
  have ih:=ih h.2
  simp only [mget,List.mem_cons]
  by_cases hk:k=a
  ·subst hk
   rw [if_pos rfl]
   constructor
   ·rintro (e | e)
    ·rw [(Prod.mk.inj e).2]
    ·exact absurd (List.mem_map.2 ⟨_,e,rfl⟩) h.1
   ·intro e;left;rw [Option.some.inj e]
  ·rw [if_neg hk,<- ih]
   constructor
   ·rintro (e | e)
    ·exact absurd (Prod.mk.inj e).1 hk
    ·exact e
   ·exact .inr
theorem less_irrefl:∀ x:List UInt8,Op.bytesLess x x=false
 | []=>rfl
 | a::x=>by
  unfold Op.bytesLess;rw [less_irrefl x]
  have:¬ a<a:=by intro h;exact absurd (UInt8.lt_iff_toNat_lt.1 h) (Nat.lt_irrefl _)
  simp [this]
theorem less_trans:∀ x y z:List UInt8,Op.bytesLess x y=true->Op.bytesLess y z=true->Op.bytesLess x z=true
 | x,y,[],_,h=>by cases y <;> cases h
 | [],_,_::_,_,_=>rfl
 | a::x,[],c::z,h,_=>by cases h
 | a::x,b::y,c::z,h1,h2=>by
  unfold Op.bytesLess at h1 h2 ⊢;simp only [Bool.or_eq_true,Bool.and_eq_true,decide_eq_true_eq,beq_iff_eq,UInt8.lt_iff_toNat_lt] at h1 h2 ⊢
  rcases h1 with h1 | ⟨rfl,h1⟩
  ·rcases h2 with h2 | ⟨rfl,h2⟩
   ·left;omega
   ·left;exact h1
  ·rcases h2 with h2 | ⟨rfl,h2⟩
   ·left;exact h2
   ·right;exact ⟨rfl,less_trans x y z h1 h2⟩
theorem named_lt {n:ANd} (h:namedP n):∀ (j i:Nat) (x y:AFd),i<j->n.l[i]? = some x->n.l[j]? = some y->Op.bytesLess x.name y.name=true:=by
 intro j
 induction j with
 | zero=>intro i x y h1;omega
 | succ j ih =>
  intro i x y h1 hx hy
  have hj:j<n.l.length:=by have:=(List.getElem?_eq_some_iff.1 hy).1;omega
  have h3:=(h (j+1) y hy).2 (by omega) n.l[j] (by rw [Nat.add_sub_cancel];exact List.getElem?_eq_getElem hj)
  by_cases h4:i=j
  ·subst h4
   rw [List.getElem?_eq_getElem hj] at hx;rw [<- Option.some.inj hx];exact h3
  ·exact less_trans _ _ _ (ih i x _ (by omega) hx (List.getElem?_eq_getElem hj)) h3
theorem named_nodup {n:ANd} (h:namedP n):(n.l.map (·.name)).Nodup:=by
 unfold List.Nodup;rw [List.pairwise_iff_getElem]
 intro i j hi hj hij e
 rw [List.length_map] at hi hj
 have:=named_lt h j i n.l[i] n.l[j] hij (List.getElem?_eq_getElem hi) (List.getElem?_eq_getElem hj)
 rw [List.getElem_map,List.getElem_map] at e;rw [e,less_irrefl] at this
 cases this
theorem right_named {n:ANd} {all:Int} (h:rightB n all=true):namedP n:=by
 unfold rightB at h;simp only [Bool.and_eq_true,decide_eq_true_eq] at h;exact h.2.2.2.2.1.1
def fld (L:List AFd) (s:List UInt8):List Int:=(L.filter fun f=>decide (f.name=s)).map (·.at_)
theorem fld_one {s:List UInt8}:∀ L:List AFd,(L.map (·.name)).Nodup->fld L s=((L.find? fun f=>decide (f.name=s)).map (·.at_)).toList
 | [],_=>rfl
 | f::L,h=>by
  rw [List.map_cons,List.nodup_cons] at h;unfold fld
  by_cases hf:f.name=s
  ·rw [List.filter_cons_of_pos (by simpa using hf),List.find?_cons_of_pos (by simpa using hf)]
   have:L.filter (fun f=>decide (f.name=s))=[]:=by
    rw [List.filter_eq_nil_iff]
    intro g hg hgs
    exact h.1 (List.mem_map.2 ⟨g,hg,by rw [hf];simpa using hgs⟩)
   rw [this];rfl
  ·rw [List.filter_cons_of_neg (by simpa using hf),List.find?_cons_of_neg (by simpa using hf)]
   exact fld_one L h.2
def FP (t:ATy) (l:List Int) (s:List UInt8):List Int:=l.flatMap fun i=>fld (nd t i).l s
theorem FP_eq {t:ATy} (hO:OkT t) (s:List UInt8):∀ l:List Int,(∀ i∈l,In t i)->FP t l s=partsA t l s
 | [],_=>rfl
 | i::l,h=>by
  have h1:=FP_eq hO s l (fun j hj=>h j (by simp [hj]))
  have h2:=fld_one (s:=s) _ (named_nodup (right_named (hO.right _ (nd_mem (h i (by simp))))))
  unfold FP partsA at h1 ⊢;rw [List.flatMap_cons,h1,h2,List.filterMap_cons];unfold atN
  cases ((nd t i).l.find? fun f=>decide (f.name=s)).map (·.at_) <;> rfl
structure MI (M:List (List UInt8×List Int)) (f:List UInt8->List Int) (n:Nat):Prop where
 nodup:(M.map (·.1)).Nodup
 get:∀ s,mget M s=if f s=[] then none else some (f s)
 len:M.length<=n
 flen:∀ s,(f s).length<=n
theorem MI.getD {M:List (List UInt8×List Int)} {f:List UInt8->List Int} {n:Nat} (h:MI M f n) (s:List UInt8):(mget M s).getD []=f s:=by
 rw [h.get s]
 by_cases hs:f s=[]
 ·rw [if_pos hs,hs];rfl
 ·rw [if_neg hs];rfl
theorem parts_l2_eq {x:ANd} (hx:NB x) {M:List (List UInt8×List Int)} {f:List UInt8->List Int} {n:Nat} (hn:n<=1000000) (h:MI M f n):∃ M',m_parts_l2 x FU (0,M)=some M'/\MI M' (fun s=>f s++fld x.l s) (n+x.l.length):=by
 have hx40:x.l.length<=40:=hx
 obtain ⟨o,e1,e2⟩:=loop_rng (φ:=fun n i s=>m_parts_l2 x n (i,s)) (l:=x.l) (fun i M=>MI M (fun s=>f s++fld (x.l.take i) s) (n+i)) (fun M=>MI M (fun s=>f s++fld x.l s) (n+x.l.length))
  (by
   intro m i y M hy hi hI
   left
   have hl:=hI.flen y.name
   simp only [m_parts_l2];rw [dT (show (i:Int)<(x.l.length:Int) by omega),cT,getI hy,oB,hI.getD,grd_pos (by simp only [List.length_cons,List.length_nil];omega),grd_pos (by constructor <;> omega)];refine ⟨_,rfl,⟨mset_nodup hI.nodup,fun s=>?_,?_,fun s=>?_⟩⟩
   ·rw [mget_set]
    by_cases hs:s=y.name
    ·subst hs
     rw [if_pos rfl,takeS hy]
     have e:fld (x.l.take i++[y]) y.name=fld (x.l.take i) y.name++[y.at_]:=by unfold fld;rw [List.filter_append,List.map_append];simp
     rw [e,<- List.append_assoc,if_neg (by simp)]
    ·rw [if_neg hs,hI.get s,takeS hy]
     have e:fld (x.l.take i++[y]) s=fld (x.l.take i) s:=by unfold fld;rw [List.filter_append,List.map_append];simp [show ¬ y.name=s from fun e=>hs e.symm]
     rw [e]
   ·have:=mset_len (l:=M) (k:=y.name) (v:=(f y.name++fld (x.l.take i) y.name)++[y.at_])
    have:=hI.len
    omega
   ·have h2:(fld (x.l.take (i+1)) s).length<=(fld (x.l.take i) s).length+1:=by
     rw [takeS hy];unfold fld;rw [List.filter_append,List.map_append,List.length_append,List.length_map,List.length_map]
     have:=List.length_filter_le (fun f=>decide (f.name=s)) [y]
     simp only [List.length_cons,List.length_nil] at this
     omega
    have:=hI.flen s
    simp only [List.length_append] at this ⊢
    omega)
  (by
   intro m M hI
   simp only [m_parts_l2];rw [dF (by omega),cF_];exact ⟨M,rfl,by simpa using hI⟩) (by rw [FUv];omega) M (by simpa [fld] using h)
 exact ⟨o,e1,e2⟩
theorem parts_eq {t:ATy} (hN:∀ n∈t.l,NB n) {l:List Int} (h:∀ i∈l,In t i) (hl:l.length<=500):∃ M,m_parts t l=some M/\MI M (FP t l) 20000:=by
 unfold m_parts;obtain ⟨o,e1,e2⟩:=loop_rng (φ:=fun n i s=>m_parts_l1 t l n (i,s)) (l:=l) (fun i M=>MI M (FP t (l.take i)) (40*i)) (fun M=>MI M (FP t l) 20000)
  (by
   intro m i x M hx hi hI
   left
   have hxi:=h x (List.mem_of_getElem? hx)
   obtain ⟨M',h1,h2⟩:=parts_l2_eq (hN _ (nd_mem hxi)) (by omega) hI;simp only [m_parts_l1];rw [dT (show (i:Int)<(l.length:Int) by omega),cT,getI hx,oB,getN hxi,oB,h1,oB,grd_pos (by constructor <;> omega)];refine ⟨_,rfl,?_⟩
   have h40:(nd t x).l.length<=40:=hN _ (nd_mem hxi)
   have e:FP t (l.take (i+1))=fun s=>FP t (l.take i) s++fld (nd t x).l s:=by
    funext s;rw [takeS hx];unfold FP;rw [List.flatMap_append];simp
   rw [e];exact ⟨h2.nodup,h2.get,by have:=h2.len;omega,fun s=>by have:=h2.flen s;omega⟩)
  (by
   intro m M hI
   simp only [m_parts_l1];rw [dF (by omega),cF_];rw [List.take_length] at hI;exact ⟨M,rfl,hI.nodup,hI.get,by have:=hI.len;omega,fun s=>by have:=hI.flen s;omega⟩) (by rw [FUv];omega) [] ⟨by simp,fun s=>by simp [mget,FP],by simp,fun s=>by simp [FP]⟩
 exact ⟨o,by rw [e1];rfl,e2⟩
theorem wide_eq {Ml Mr Ma:List (List UInt8×List Int)} {fl fr fa:List UInt8->List Int} (hl:MI Ml fl 20000) (hr:MI Mr fr 20000) (ha:MI Ma fa 20000) (n:Nat) (hn:0<n) :
  ∃ r,m_wide Ml Mr Ma (n:Int)=some r/\(r.fails=true↔∃ s,n<=(fa s).length/\(fl s=[]\/fr s=[]))/\(r.fails=true->r.to_=[])/\(r.fails=false->∀ q,q∈r.to_↔∃ s,n<=(fa s).length/\q=⟨cs (fl s),cs (fr s)⟩):=by
 have hmem:∀ e,e∈Ma↔(e.2=fa e.1/\fa e.1≠[]):=by
  rintro ⟨s,v⟩;rw [mget_mem ha.nodup,ha.get s]
  by_cases hs:fa s=[]
  ·rw [if_pos hs];simp [hs]
  ·rw [if_neg hs];simp only [Option.some.injEq];exact ⟨fun e=>⟨e.symm,hs⟩,fun e=>e.1.symm⟩
 have hE:∀ e∈Ma,wideE Ml Mr (n:Int) e=if (fa e.1).length<n then some none else if fl e.1=[]\/fr e.1=[] then some (some none) else some (some (some ⟨cs (fl e.1),cs (fr e.1)⟩)):=by
  intro e he
  obtain ⟨h1,h2⟩:=(hmem e).1 he;unfold wideE;rw [hl.getD,hr.getD,h1]
  have h3:=hl.flen e.1
  have h4:=hr.flen e.1
  by_cases hc:(fa e.1).length<n
  ·rw [if_pos (by omega),if_pos hc]
  ·rw [if_neg (by omega),if_neg hc]
   by_cases hd:fl e.1=[]\/fr e.1=[]
   ·rw [if_pos (by rw [List.length_eq_zero_iff,List.length_eq_zero_iff];exact hd),if_pos hd]
   ·rw [if_neg (by rw [List.length_eq_zero_iff,List.length_eq_zero_iff];exact hd),if_neg hd,set_eq (by omega),oB,set_eq (by omega),oB]
 have hlen:=ha.len
 unfold m_wide;rw [if_pos ⟨by omega,fun e he=>by rw [hE e he];split;rfl;split <;> rfl⟩]
 have hbad:(∃ e∈Ma,wideE Ml Mr (n:Int) e=some (some none))↔∃ s,n<=(fa s).length/\(fl s=[]\/fr s=[]):=by
  constructor
  ·rintro ⟨e,he,h1⟩
   rw [hE e he] at h1
   by_cases hc:(fa e.1).length<n
   ·rw [if_pos hc] at h1;cases h1
   ·rw [if_neg hc] at h1
    by_cases hd:fl e.1=[]\/fr e.1=[]
    ·exact ⟨e.1,by omega,hd⟩
    ·rw [if_neg hd] at h1;cases h1
  ·rintro ⟨s,h1,h2⟩
   have hne:fa s≠[]:=fun e=>by rw [e] at h1;simp at h1;omega
   have he:(s,fa s)∈Ma:=(hmem _).2 ⟨rfl,hne⟩
   refine ⟨_,he,?_⟩;rw [hE _ he,if_neg (by simp only;omega),if_pos h2]
 by_cases hb:∃ e∈Ma,wideE Ml Mr (n:Int) e=some (some none)
 ·rw [if_pos hb]
  exact ⟨_,rfl,⟨fun _=>hbad.1 hb,fun _=>rfl⟩,fun _=>rfl,fun h=>(by cases h)⟩
 ·rw [if_neg hb]
  refine ⟨_,rfl,⟨fun h=>(by cases h),fun h=>absurd (hbad.2 h) hb⟩,fun h=>(by cases h),fun _ q=>?_⟩;simp only [List.mem_filterMap]
  constructor
  ·rintro ⟨e,he,h1⟩
   unfold wideQ at h1;rw [hE e he] at h1
   by_cases hc:(fa e.1).length<n
   ·rw [if_pos hc] at h1;cases h1
   ·rw [if_neg hc] at h1
    by_cases hd:fl e.1=[]\/fr e.1=[]
    ·rw [if_pos hd] at h1;cases h1
    ·rw [if_neg hd] at h1
     exact ⟨e.1,by omega,(Option.some.inj h1).symm⟩
  ·rintro ⟨s,h1,rfl⟩
   have hne:fa s≠[]:=fun e=>by rw [e] at h1;simp at h1;omega
   have he:(s,fa s)∈Ma:=(hmem _).2 ⟨rfl,hne⟩
   refine ⟨_,he,?_⟩;unfold wideQ;rw [hE _ he,if_neg (by simp only;omega),if_neg (fun h=>hb (hbad.2 ⟨s,h1,h⟩))]
theorem fm_len {f:Int->Option Int}:∀ l:List Int,(l.filterMap f).length<=l.length/\(l.length<=(l.filterMap f).length↔∀ i∈l,f i≠none)
 | []=>by simp
 | i::l=>by
  obtain ⟨h1,h2⟩:=fm_len (f:=f) l;rw [List.filterMap_cons]
  cases hi:f i with
  | none=>simp only [List.length_cons,List.mem_cons,forall_eq_or_imp,hi];exact ⟨by omega,⟨fun h=>by omega,fun h=>absurd rfl h.1⟩⟩
  | some k =>
   simp only [List.length_cons,List.mem_cons,forall_eq_or_imp,hi];exact ⟨by omega,by rw [<- h2];simp⟩
theorem names_len {t:ATy} {l:List Int} (hne:l≠[]) {s:List UInt8}:l.length<=(partsA t l s).length↔s∈namesA t l:=by
 rw [mem_names];unfold partsA;rw [(fm_len l).2]
 simp [hne]
theorem bad_iff {t:ATy} {l r:List Int} {s:List UInt8}:badA t l r s=true↔partsA t l s=[]\/partsA t r s=[]:=by
 unfold badA;rw [Bool.or_eq_true,List.isEmpty_iff,List.isEmpty_iff]
theorem closed_eq {t:ATy} {q:BSq} (hO:OkT t) (hN:∀ n∈t.l,NB n) (hq:InQ t q) (h1:q.left.length<=500) (h2:q.right.length<=500) (hb:∀ i∈q.left,(nd t i).kind≠2) (hla:∀ i∈q.left,latB (nd t i).kind=false) :
  ∃ r,m_below_search_closed t q=some r/\r.fails=(closedA t q).1/\∀ s,s∈r.to_↔s∈(closedA t q).2:=by
 unfold m_below_search_closed;obtain ⟨k,more,e1,e2,e3⟩:=heads_eq hO hq.1 hb hla h1;rw [e1,oB]
 simp only
 cases more with
 | true =>
  obtain ⟨a,b,m,e4⟩:=e2 rfl;rw [cT];refine ⟨_,rfl,?_⟩;unfold closedA;rw [e4];simp
 | false =>
  rw [cF_]
  rcases e3 rfl with ⟨hk,e4⟩ | ⟨hk,e4⟩
  ·rw [dT hk,cT]
   refine ⟨_,rfl,?_⟩;unfold closedA;rw [e4];simp
  ·rw [dF (by omega),cF_]
   have hL:∀ i∈ofK t q.left k,In t i:=fun i hi=>hq.1 i (mem_ofK.1 hi).1
   have hR:∀ i∈ofK t q.right k,In t i:=fun i hi=>hq.2 i (mem_ofK.1 hi).1
   have hll:(ofK t q.left k).length<=500:=Nat.le_trans (List.length_filter_le _ _) h1
   have hrl:(ofK t q.right k).length<=500:=Nat.le_trans (List.length_filter_le _ _) h2
   rw [only_eq hq.1 h1,oB,only_eq hq.2 h2,oB];obtain ⟨Ml,e5,e6⟩:=parts_eq hN hL hll;obtain ⟨Mr,e7,e8⟩:=parts_eq hN hR hrl;rw [e5,oB,e7,oB];rw [show FP t (ofK t q.left k)=partsA t (ofK t q.left k) from funext (fun s=>FP_eq hO s _ hL)] at e6;rw [show FP t (ofK t q.right k)=partsA t (ofK t q.right k) from funext (fun s=>FP_eq hO s _ hR)] at e8
   have hcl:closedA t q=headsA t k (ofK t q.left k) (ofK t q.right k):=by unfold closedA;rw [e4]
   rw [hcl];obtain ⟨_,⟨i0,hi0,hk0⟩,_⟩:=kinds_one e4
   have hlne:ofK t q.left k≠[]:=fun e=>by have:=mem_ofK.2 ⟨hi0,hk0⟩;rw [e] at this;cases this
   generalize ofK t q.left k=l at *
   generalize ofK t q.right k=r at *
   unfold headsA
   by_cases h6:k=6
   ·subst h6
    rw [dT rfl,cT]
    by_cases hr:r=[]
    ·rw [if_pos ⟨by omega,hr⟩]
     unfold m_below_search_arrows;rw [hr,dT (by simp),cT];exact ⟨_,rfl,rfl,fun s=>Iff.rfl⟩
    ·rw [if_neg (fun h=>hr h.2),if_pos rfl,arrows_eq ⟨hL,hR⟩ hll hrl hr]
     exact ⟨_,rfl,rfl,fun s=>Iff.rfl⟩
   ·rw [dF h6,cF_]
    by_cases h7:k=7
    ·subst h7
     rw [dT rfl,cT]
     by_cases hr:r=[]
     ·rw [if_pos ⟨by omega,hr⟩,hr,dT (by simp),cT]
      exact ⟨_,rfl,rfl,fun s=>Iff.rfl⟩
     ·rw [if_neg (fun h=>hr h.2),if_neg (by omega),dF (by have:=List.length_pos_iff.2 hr;omega),cF_]
      obtain ⟨a,e9,e10,e11,e12⟩:=wide_eq e6 e8 e8 r.length (List.length_pos_iff.2 hr);rw [e9,oB];refine ⟨a,rfl,?_⟩
      have hall:allA t 7 l r=namesA t r:=by unfold allA;simp
      rw [hall]
      have hbb:(namesA t r).any (badA t l r)=a.fails:=by
       rw [Bool.eq_iff_iff,e10,List.any_eq_true];simp only [bad_iff,names_len hr]
      cases hf:a.fails with
      | true=>rw [if_pos (by rw [hbb,hf]),e11 hf];exact ⟨rfl,fun s=>Iff.rfl⟩
      | false =>
       rw [if_neg (by rw [hbb,hf];simp)];refine ⟨rfl,fun s=>?_⟩;rw [e12 hf,List.mem_map];simp only [names_len hr];exact ⟨fun ⟨n,hn,e⟩=>⟨n,hn,e.symm⟩,fun ⟨n,hn,e⟩=>⟨n,hn,e.symm⟩⟩
    ·rw [dF h7,cF_]
     by_cases h8:k=8
     ·subst h8
      rw [dT rfl,cT,if_neg (fun h=>h.1 rfl),if_neg (by omega)];obtain ⟨a,e9,e10,e11,e12⟩:=wide_eq e6 e8 e6 l.length (List.length_pos_iff.2 hlne);rw [e9,oB];refine ⟨a,rfl,?_⟩
      have hall:allA t 8 l r=namesA t l:=by unfold allA;simp
      rw [hall]
      have hbb:(namesA t l).any (badA t l r)=a.fails:=by
       rw [Bool.eq_iff_iff,e10,List.any_eq_true];simp only [bad_iff,names_len hlne]
      cases hf:a.fails with
      | true=>rw [if_pos (by rw [hbb,hf]),e11 hf];exact ⟨rfl,fun s=>Iff.rfl⟩
      | false =>
       rw [if_neg (by rw [hbb,hf];simp)];refine ⟨rfl,fun s=>?_⟩;rw [e12 hf,List.mem_map];simp only [names_len hlne];exact ⟨fun ⟨n,hn,e⟩=>⟨n,hn,e.symm⟩,fun ⟨n,hn,e⟩=>⟨n,hn,e.symm⟩⟩
     ·rw [dF h8,cF_]
      refine ⟨_,rfl,?_⟩
      have hall:allA t k l r=[]:=by unfold allA;rw [if_neg h7,if_neg h8]
      by_cases hr:r=[]
      ·rw [if_pos ⟨h8,hr⟩,hr];exact ⟨rfl,fun s=>Iff.rfl⟩
      ·rw [if_neg (fun h=>hr h.2),if_neg h6,hall]
       refine ⟨?_,fun s=>Iff.rfl⟩
       simp [hr]
theorem leads_eq {t:ATy} {q:BSq} (hO:OkT t) (hN:∀ n∈t.l,NB n) (hq:InQ t q) (h1:q.left.length<=500) (h2:q.right.length<=500) :
  ∃ r,m_below_search_leads t q=some r/\r.fails=(leadsA t q).1/\∀ s,s∈r.to_↔s∈(leadsA t q).2:=by
 unfold m_below_search_leads;rw [has_eq hq.1 (by omega),oB,has_eq hq.2 (by omega)]
 have he:(bif (q.left.any fun i=>decide ((nd t i).kind=2)) then (some true) else ((some (q.right.any fun i=>decide ((nd t i).kind=1))).bind fun x2=>some x2))=some (endA t q):=by
  unfold endA
  cases q.left.any fun i=>decide ((nd t i).kind=2) <;> rfl
 rw [he,oB];unfold leadsA
 cases h3:endA t q with
 | true=>rw [cT,if_pos rfl];exact ⟨_,rfl,rfl,fun s=>Iff.rfl⟩
 | false =>
  rw [cF_,if_neg (by simp),opened_eq hq h1 h2,oB]
  cases h4:openA t q with
  | some l=>simp only [cT];exact ⟨_,rfl,rfl,fun s=>Iff.rfl⟩
  | none =>
   simp only [cF_];rw [shared_eq hq h1 h2,oB]
   cases h5:shareA t q with
   | true=>rw [cT,if_pos rfl];exact ⟨_,rfl,rfl,fun s=>Iff.rfl⟩
   | false =>
    rw [cF_,if_neg (by simp)]
    have hC:=mk_closed (t:=t) (q:=q) (by rw [h3];simp) h4 (by rw [h5];simp)
    obtain ⟨r,e1,e2,e3⟩:=closed_eq hO hN hq h1 h2 hC.bot hC.latL;rw [e1,oB];exact ⟨r,rfl,e2,e3⟩
end Go.Proofs.YtkfnogdccpcmhaaGreatDoor
namespace Go.Proofs.YtkfnogdccpcmhaaGreatDoor
open Go.V
open Classical
def dd (x:Int):List UInt8:=Lib.decDigits x.toNat
theorem ofN_inj {a b:Nat} (ha:a<256) (hb:b<256) (h:UInt8.ofNat a=UInt8.ofNat b):a=b:=by
 have:=congrArg UInt8.toNat h
 rw [UInt8.toNat_ofNat',UInt8.toNat_ofNat'] at this
 omega
theorem dd_eq {u:Nat} (h:u<100):Lib.decDigits u=if u<10 then [UInt8.ofNat (48+u)] else [UInt8.ofNat (48+u / 10),UInt8.ofNat (48+u % 10)]:=by
 rw [Lib.decDigits]
 by_cases h1:u<10
 ·rw [dif_pos h1,if_pos h1]
 ·rw [dif_neg h1,if_neg h1,Lib.decDigits,dif_pos (by omega)];rfl
theorem dd_inj {x y:Int} (hx:0<=x/\x<100) (hy:0<=y/\y<100) (h:dd x=dd y):x=y:=by
 unfold dd at h;rw [dd_eq (by omega),dd_eq (by omega)] at h
 have key:x.toNat=y.toNat:=by
  split at h
  ·split at h
   ·have:=ofN_inj (by omega) (by omega) (List.cons.inj h).1;omega
   ·cases (List.cons.inj h).2
  ·split at h
   ·cases (List.cons.inj h).2
   ·have h1:=ofN_inj (by omega) (by omega) (List.cons.inj h).1
    have h2:=ofN_inj (by omega) (by omega) (List.cons.inj (List.cons.inj h).2).1
    omega
 omega
theorem dd_ne {x:Int} (hx:0<=x/\x<100):dd x≠[]/\(dd x).length<=2/\∀ c∈dd x,c≠32/\c≠124:=by
 have key:∀ n:Nat,48<=n->n<58->UInt8.ofNat n≠32/\UInt8.ofNat n≠124:=by
  intro n h1 h2
  constructor <;> intro e <;> have:=congrArg UInt8.toNat e <;> rw [UInt8.toNat_ofNat'] at this
  ·change n % 256=32 at this;omega
  ·change n % 256=124 at this;omega
 unfold dd;rw [dd_eq (by omega)]
 split
 ·exact ⟨by simp,by simp,fun c hc=>by rw [List.mem_singleton] at hc;subst hc;exact key _ (by omega) (by omega)⟩
 ·refine ⟨by simp,by simp,fun c hc=>?_⟩
  simp only [List.mem_cons,List.not_mem_nil,or_false] at hc
  rcases hc with rfl | rfl
  ·exact key _ (by omega) (by omega)
  ·exact key _ (by omega) (by omega)
theorem sep_inj {c:UInt8}:∀ (a b x y:List UInt8),c∉a->c∉b->a++c::x=b++c::y->a=b/\x=y
 | [],[],x,y,_,_,h=>⟨rfl,(List.cons.inj h).2⟩
 | [],d::b,x,y,_,hb,h=>absurd (List.cons.inj h).1 (fun e=>hb (by simp [e]))
 | d::a,[],x,y,ha,_,h=>absurd (List.cons.inj h).1 (fun e=>ha (by simp [e]))
 | d::a,e::b,x,y,ha,hb,h=>by
  obtain ⟨h1,h2⟩:=List.cons.inj h;obtain ⟨h3,h4⟩:=sep_inj a b x y (fun h=>ha (by simp [h])) (fun h=>hb (by simp [h])) h2;exact ⟨by rw [h1,h3],h4⟩
def tl (l:List Int):List UInt8:=l.flatMap fun y=>32::dd y
def tx:List Int->List UInt8
 | []=>[]
 | x::l=>dd x++tl l
theorem join_tx:∀ l:List Int,Lib.join (l.map dd) [32]=tx l
 | []=>Lib.join_nil _
 | x::l=>by
  rw [List.map_cons,Lib.join_cons]
  show _=dd x++List.flatMap (fun y=>32::dd y) l
  unfold Lib.joinTail;rw [List.flatMap_def,List.map_map]
  rfl
def Low (l:List Int):Prop:=∀ x∈l,0<=x/\x<100
theorem tl_inj:∀ l m:List Int,Low l->Low m->tl l=tl m->l=m
 | [],[],_,_,_=>rfl
 | [],y::m,_,_,h=>by cases h
 | x::l,[],_,_,h=>by cases h
 | x::l,y::m,hl,hm,h=>by
  have hx:=dd_ne (hl x (by simp))
  have hy:=dd_ne (hm y (by simp))
  have h1:dd x++tl l=dd y++tl m:=by
   unfold tl at h ⊢;rw [List.flatMap_cons,List.flatMap_cons,List.cons_append,List.cons_append] at h;exact (List.cons.inj h).2
  have h2:dd x++(tl l++[32])=dd y++(tl m++[32]):=by rw [<- List.append_assoc,<- List.append_assoc,h1]
  have hc:∀ l:List Int,∃ z,tl l++[32]=32::z:=by
   intro l
   cases l with
   | nil=>exact ⟨[],rfl⟩
   | cons a l=>exact ⟨dd a++tl l++[32],by unfold tl;rw [List.flatMap_cons];rfl⟩
  obtain ⟨z1,e1⟩:=hc l;obtain ⟨z2,e2⟩:=hc m;rw [e1,e2] at h2;obtain ⟨h3,h4⟩:=sep_inj _ _ _ _ (fun h=>(hx.2.2 _ h).1 rfl) (fun h=>(hy.2.2 _ h).1 rfl) h2
  have hxy:=dd_inj (hl x (by simp)) (hm y (by simp)) h3
  subst hxy;rw [tl_inj l m (fun z hz=>hl z (by simp [hz])) (fun z hz=>hm z (by simp [hz])) (List.append_cancel_left h1)]
theorem tx_inj {l m:List Int} (hl:Low l) (hm:Low m) (h:tx l=tx m):l=m:=by
 refine tl_inj l m hl hm ?_
 cases l with
 | nil =>
  cases m with
  | nil=>rfl
  | cons y m =>
   have:=(dd_ne (hm y (by simp))).1
   unfold tx at h;exact absurd (List.append_eq_nil_iff.1 h.symm).1 this
 | cons x l =>
  cases m with
  | nil =>
   have:=(dd_ne (hl x (by simp))).1
   unfold tx at h;exact absurd (List.append_eq_nil_iff.1 h).1 this
  | cons y m =>
   change dd x++tl l=dd y++tl m at h
   unfold tl at h ⊢;rw [List.flatMap_cons,List.flatMap_cons,List.cons_append,List.cons_append,h]
theorem tl_facts:∀ l:List Int,Low l->(tl l).length<=3*l.length/\(124:UInt8)∉tl l
 | [],_=>by simp [tl]
 | x::l,h=>by
  obtain ⟨h1,h2⟩:=tl_facts l (fun z hz=>h z (by simp [hz]));obtain ⟨_,h3,h4⟩:=dd_ne (h x (by simp))
  have e:tl (x::l)=32::(dd x++tl l):=by unfold tl;rw [List.flatMap_cons];rfl
  rw [e];refine ⟨by simp only [List.length_cons,List.length_append];omega,?_⟩;simp only [List.mem_cons,List.mem_append,not_or];exact ⟨by decide,fun h=>(h4 _ h).2 rfl,h2⟩
theorem tx_facts {l:List Int} (h:Low l):(tx l).length<=3*l.length/\(124:UInt8)∉tx l:=by
 cases l with
 | nil=>simp [tx]
 | cons x l =>
  obtain ⟨h1,h2⟩:=tl_facts l (fun z hz=>h z (by simp [hz]));obtain ⟨_,h3,h4⟩:=dd_ne (h x (by simp));unfold tx;refine ⟨by simp only [List.length_cons,List.length_append];omega,?_⟩;simp only [List.mem_append,not_or];exact ⟨fun h=>(h4 _ h).2 rfl,h2⟩
theorem text_eq {l:List Int} (h:Low l) (hl:l.length<=1000):m_below_text l=some (tx l):=by
 unfold m_below_text;rw [grd_pos (by omega),grd_pos (by omega)];obtain ⟨o,e1,e2⟩:=loop_rng (φ:=fun n i s=>m_below_text_l1 l n (i,s)) (l:=l) (fun i s=>s.length=l.length/\∀ j,j<i->s[j]? = (l[j]?).map dd) (fun o=>o=l.map dd)
  (by
   intro n i x s hx hi hI
   left
   have h3:s[i]? = some (s[i]'(by omega)):=List.getElem?_eq_getElem (by omega)
   simp only [m_below_text_l1];rw [dT (show (i:Int)<(l.length:Int) by omega),cT,getI hx,oB,grd_pos (h x (List.mem_of_getElem? hx)),getI h3,oB,grd_pos (by constructor <;> omega)];refine ⟨_,rfl,by rw [List.length_set];exact hI.1,fun j hj=>?_⟩;rw [Int.toNat_natCast]
   by_cases hji:j=i
   ·subst hji
    rw [List.getElem?_set_self (by omega),hx];rfl
   ·rw [List.getElem?_set_ne (by omega)]
    exact hI.2 j (by omega))
  (by
   intro n s hI
   simp only [m_below_text_l1];rw [dF (by omega),cF_];refine ⟨s,rfl,List.ext_getElem? fun j=>?_⟩;rw [List.getElem?_map]
   by_cases hj:j<l.length
   ·exact hI.2 j hj
   ·rw [List.getElem?_eq_none (by omega),List.getElem?_eq_none (by omega)];rfl) (by rw [FUv];omega) (List.replicate ((l.length:Int)).toNat []) ⟨by simp,fun j hj=>by omega⟩
 have hf:=tx_facts h
 rw [e1,oB,e2,join_tx,grd_pos (by rw [List.length_map];omega),grd_pos (by omega)]
def keyS (q:BSq):List UInt8:=(tx q.left++[124])++tx q.right
theorem key_eq {q:BSq} (h1:Low q.left) (h2:Low q.right) (h3:q.left.length<=1000) (h4:q.right.length<=1000):m_below_sequent_key q=some (keyS q):=by
 have f1:=tx_facts h1
 have f2:=tx_facts h2
 unfold m_below_sequent_key;rw [text_eq h1 h3,oB,grd_pos (by simp only [List.length_cons,List.length_nil];omega),text_eq h2 h4,oB,grd_pos (by simp only [List.length_append,List.length_cons,List.length_nil];omega)]
 rfl
theorem key_inj {q s:BSq} (h1:Low q.left) (h2:Low q.right) (h3:Low s.left) (h4:Low s.right) (h:keyS q=keyS s):q=s:=by
 unfold keyS at h;rw [List.append_assoc,List.append_assoc] at h;obtain ⟨a,b⟩:=sep_inj _ _ _ _ (tx_facts h1).2 (tx_facts h3).2 h;obtain ⟨l,r⟩:=q;obtain ⟨l',r'⟩:=s
 have e1:=tx_inj h1 h3 a
 have e2:=tx_inj h2 h4 b
 simp only at e1 e2
 rw [e1,e2]
def subs:List Int->List (List Int)
 | []=>[[]]
 | x::l=>subs l++(subs l).map (x :: ·)
theorem subs_len:∀ l:List Int,(subs l).length=2 ^ l.length
 | []=>rfl
 | x::l=>by
  unfold subs;rw [List.length_append,List.length_map,subs_len l,List.length_cons,Nat.pow_succ];omega
theorem subs_sub:∀ (l s:List Int),s∈subs l->s.Sublist l
 | [],s,h=>by simp [subs] at h;subst h;exact List.Sublist.slnil
 | x::l,s,h=>by
  unfold subs at h
  rcases List.mem_append.1 h with h | h
  ·exact (subs_sub l s h).cons x
  ·obtain ⟨s',h',rfl⟩:=List.mem_map.1 h
   exact (subs_sub l s' h').cons_cons x
theorem mem_subs:∀ (P s:List Int),P.Pairwise (· < ·)->s.Pairwise (· < ·)->(∀ x∈s,x∈P)->s∈subs P
 | [],s,_,_,h=>by
  cases s with
  | nil=>simp [subs]
  | cons x s=>exact absurd (h x (by simp)) (by simp)
 | x::P,[],hP,hs,h=>by
  unfold subs;exact List.mem_append_left _ (mem_subs P [] (List.pairwise_cons.1 hP).2 List.Pairwise.nil (by simp))
 | x::P,y::s,hP,hs,h=>by
  obtain ⟨p1,p2⟩:=List.pairwise_cons.1 hP;obtain ⟨s1,s2⟩:=List.pairwise_cons.1 hs;unfold subs
  by_cases hxy:y=x
  ·subst hxy
   refine List.mem_append_right _ (List.mem_map.2 ⟨s,mem_subs P s p2 s2 (fun z hz=>?_),rfl⟩)
   rcases List.mem_cons.1 (h z (by simp [hz])) with e | e
   ·have:=s1 z hz;omega
   ·exact e
  ·have hyP:y∈P:=(List.mem_cons.1 (h y (by simp))).resolve_left hxy
   have hxy2:=p1 y hyP
   refine List.mem_append_left _ (mem_subs P (y::s) p2 hs (fun z hz=>?_))
   rcases List.mem_cons.1 (h z hz) with e | e
   ·exfalso
    rcases List.mem_cons.1 hz with e2 | e2
    ·omega
    ·have:=s1 z e2;omega
   ·exact e
def UAB (A B:List Int):List BSq:=(subs A).flatMap fun l=>(subs B).map fun r=>⟨l,r⟩
theorem sum_const (c:Nat):∀ l:List Nat,(∀ x∈l,x=c)->l.sum=l.length*c
 | [],_=>by simp
 | x::l,h=>by
  rw [List.sum_cons,sum_const c l (fun y hy=>h y (by simp [hy])),h x (by simp),List.length_cons,Nat.succ_mul];omega
theorem UAB_len (A B:List Int):(UAB A B).length=2 ^ (A.length+B.length):=by
 unfold UAB;rw [List.length_flatMap,sum_const (2 ^ B.length),List.length_map,subs_len,Nat.pow_add]
 intro x hx
 obtain ⟨l,_,rfl⟩:=List.mem_map.1 hx;rw [List.length_map,subs_len]
def Srt (q:BSq):Prop:=q.left.Pairwise (· < ·)/\q.right.Pairwise (· < ·)
theorem mem_UAB {A B:List Int} (hA:A.Pairwise (· < ·)) (hB:B.Pairwise (· < ·)) {q:BSq}:q∈UAB A B↔Srt q/\InAB (· ∈ A) (· ∈ B) q:=by
 unfold UAB;rw [List.mem_flatMap]
 constructor
 ·rintro ⟨l,hl,h⟩
  obtain ⟨r,hr,rfl⟩:=List.mem_map.1 h
  have h1:=subs_sub A l hl
  have h2:=subs_sub B r hr
  exact ⟨⟨hA.sublist h1,hB.sublist h2⟩,fun i hi=>h1.subset hi,fun i hi=>h2.subset hi⟩
 ·rintro ⟨⟨h1,h2⟩,h3,h4⟩
  exact ⟨q.left,mem_subs A _ hA h1 h3,List.mem_map.2 ⟨q.right,mem_subs B _ hB h2 h4,rfl⟩⟩
theorem lead_srt {t:ATy} {q s:BSq} (hq:Srt q) (hs:s∈(leadsA t q).2):Srt s:=by
 unfold leadsA at hs
 split at hs
 ·cases hs
 ·split at hs
  ·rename_i l h2
   unfold openA at h2
   split at h2
   ·cases h2
    split at hs
    ·simp only [List.mem_singleton] at hs;subst hs;exact ⟨cs_sorted _,hq.2⟩
    ·simp only [List.mem_cons,List.not_mem_nil,or_false] at hs
     rcases hs with rfl | rfl
     ·exact ⟨cs_sorted _,hq.2⟩
     ·exact ⟨cs_sorted _,hq.2⟩
   ·split at h2
    ·cases h2
     split at hs
     ·simp only [List.mem_singleton] at hs;subst hs;exact ⟨hq.1,cs_sorted _⟩
     ·simp only [List.mem_cons,List.not_mem_nil,or_false] at hs
      rcases hs with rfl | rfl
      ·exact ⟨hq.1,cs_sorted _⟩
      ·exact ⟨hq.1,cs_sorted _⟩
    ·cases h2
  ·split at hs
   ·cases hs
   ·unfold closedA at hs
    split at hs
    ·cases hs
    ·unfold headsA at hs
     split at hs
     ·cases hs
     ·split at hs
      ·simp only [List.mem_cons,List.not_mem_nil,or_false] at hs
       rcases hs with rfl | rfl
       ·exact ⟨cs_sorted _,cs_sorted _⟩
       ·exact ⟨cs_sorted _,cs_sorted _⟩
      ·split at hs
       ·cases hs
       ·obtain ⟨n,_,rfl⟩:=List.mem_map.1 hs
        exact ⟨cs_sorted _,cs_sorted _⟩
    ·cases hs
theorem srt_len {t:ATy} {l:List Int} (h:l.Pairwise (· < ·)) (hi:∀ i∈l,In t i):l.length<=t.l.length:=nodup_bound _ l (h.imp (fun h=>by omega)) hi
structure UOk (t:ATy) (q:BSq) (U:List BSq):Prop where
 mem:q∈U
 srt:∀ s∈U,Srt s
 inn:∀ s∈U,InQ t s
 clo:∀ s∈U,∀ s'∈(leadsA t s).2,s'∈U
 len:U.length<=1000000000000
theorem UOk.rch {t:ATy} {q:BSq} {U:List BSq} (h:UOk t q U) {s:BSq} (hs:Rch t q s):s∈U:=by
 induction hs with
 | refl=>exact h.mem
 | step _ h2 ih=>exact h.clo _ ih _ h2
open Classical in
theorem holds_eq {t:ATy} {q:BSq} {U:List BSq} (hO:OkT t) (hN:∀ n∈t.l,NB n) (ht:t.l.length<=99) (hU:UOk t q U):m_holds t q=some (decide (Valid t q)):=by
 have hlen:∀ s∈U,s.left.length<=99/\s.right.length<=99:=fun s hs=>⟨Nat.le_trans (srt_len (hU.srt s hs).1 (hU.inn s hs).1) ht,Nat.le_trans (srt_len (hU.srt s hs).2 (hU.inn s hs).2) ht⟩
 have hlow:∀ s∈U,Low s.left/\Low s.right:=fun s hs=>⟨fun x hx=>by have:=(hU.inn s hs).1 x hx;exact ⟨this.1,by have:=this.2;omega⟩,fun x hx=>by have:=(hU.inn s hs).2 x hx;exact ⟨this.1,by have:=this.2;omega⟩⟩
 have hkey:∀ s∈U,m_below_sequent_key s=some (keyS s):=fun s hs=>key_eq (hlow s hs).1 (hlow s hs).2 (by have:=(hlen s hs).1;omega) (by have:=(hlen s hs).2;omega)
 have hlead:∀ s∈U,∃ r,m_below_search_leads t s=some r/\r.fails=(leadsA t s).1/\∀ x,x∈r.to_↔x∈(leadsA t s).2:=fun s hs=>leads_eq hO hN (hU.inn s hs) (by have:=(hlen s hs).1;omega) (by have:=(hlen s hs).2;omega)
 refine holds_of ⟨U,hU.mem,hU.len,fun s hs=>⟨_,hkey s hs⟩,fun s hs s' hs' h=>?_,fun s hs=>?_,?_⟩
 ·rw [hkey s hs,hkey s' hs'] at h
  exact key_inj (hlow s hs).1 (hlow s hs).2 (hlow s' hs').1 (hlow s' hs').2 (Option.some.inj h)
 ·obtain ⟨r,h1,_,h3⟩:=hlead s hs
  exact ⟨r,h1,fun s' hs'=>hU.clo s hs s' ((h3 s').1 hs')⟩
 ·rw [decide_eq_true_eq,<- valid_iff hO (hU.inn q hU.mem)]
  have hto:∀ s,Reach t q s->Rch t q s:=by
   intro s hs
   induction hs with
   | refl=>exact .refl
   | step _ h2 h3 ih =>
    obtain ⟨r,h4,_,h5⟩:=hlead _ (hU.rch ih);rw [h2] at h4;cases h4
    exact .step ih ((h5 _).1 h3)
  have hof:∀ s,Rch t q s->Reach t q s:=by
   intro s hs
   induction hs with
   | refl=>exact .refl
   | step h1 h2 ih =>
    obtain ⟨r,h4,_,h5⟩:=hlead _ (hU.rch h1);exact .step ih h4 ((h5 _).2 h2)
  constructor
  ·intro h s hs r hr
   obtain ⟨r',h4,h5,_⟩:=hlead s (hU.rch (hto s hs));rw [hr] at h4;cases h4
   rw [h5];exact h s (hto s hs)
  ·intro h s hs
   obtain ⟨r,h4,h5,_⟩:=hlead s (hU.rch hs);rw [<- h5];exact h s (hof s hs) r h4
theorem kept_U {t:ATy} {A B:List Int} (hA:A.Pairwise (· < ·)) (hB:B.Pairwise (· < ·)) (kA:Kept t (· ∈ A)) (kB:Kept t (· ∈ B)) (hl:A.length+B.length<=38) {q:BSq} (hs:Srt q) (hq:InAB (· ∈ A) (· ∈ B) q):UOk t q (UAB A B++UAB B A):=by
 refine ⟨List.mem_append_left _ ((mem_UAB hA hB).2 ⟨hs,hq⟩),fun s h=>?_,fun s h=>?_,fun s h s' h'=>?_,?_⟩
 ·rcases List.mem_append.1 h with h | h
  ·exact ((mem_UAB hA hB).1 h).1
  ·exact ((mem_UAB hB hA).1 h).1
 ·rcases List.mem_append.1 h with h | h
  ·have:=((mem_UAB hA hB).1 h).2
   exact ⟨fun i hi=>kA.inn i (this.1 i hi),fun i hi=>kB.inn i (this.2 i hi)⟩
  ·have:=((mem_UAB hB hA).1 h).2
   exact ⟨fun i hi=>kB.inn i (this.1 i hi),fun i hi=>kA.inn i (this.2 i hi)⟩
 ·rcases List.mem_append.1 h with h | h
  ·obtain ⟨h1,h2⟩:=(mem_UAB hA hB).1 h
   rcases lead_in kA kB h2 h' with h3 | h3
   ·exact List.mem_append_left _ ((mem_UAB hA hB).2 ⟨lead_srt h1 h',h3⟩)
   ·exact List.mem_append_right _ ((mem_UAB hB hA).2 ⟨lead_srt h1 h',h3⟩)
  ·obtain ⟨h1,h2⟩:=(mem_UAB hB hA).1 h
   rcases lead_in kB kA h2 h' with h3 | h3
   ·exact List.mem_append_right _ ((mem_UAB hB hA).2 ⟨lead_srt h1 h',h3⟩)
   ·exact List.mem_append_left _ ((mem_UAB hA hB).2 ⟨lead_srt h1 h',h3⟩)
 ·rw [List.length_append,UAB_len,UAB_len,Nat.add_comm B.length]
  have:=Nat.pow_le_pow_right (show 0<2 by omega) hl
  have:(2:Nat) ^ 38=274877906944:=by decide
  omega
def rngI (n:Nat):List Int:=(List.range n).map fun k:Nat=>(k:Int)
theorem mem_rngI {n:Nat} {x:Int}:x∈rngI n↔0<=x/\x<(n:Int):=by
 unfold rngI;rw [List.mem_map]
 constructor
 ·rintro ⟨k,hk,rfl⟩
  have:=List.mem_range.1 hk
  omega
 ·rintro ⟨h1,h2⟩
  exact ⟨x.toNat,List.mem_range.2 (by omega),by omega⟩
theorem rngI_sorted (n:Nat):(rngI n).Pairwise (· < ·):=by
 unfold rngI;rw [List.pairwise_map];exact (range_lt n).imp (fun h=>by omega)
theorem rngI_len (n:Nat):(rngI n).length=n:=by unfold rngI;rw [List.length_map,List.length_range]
end Go.Proofs.YtkfnogdccpcmhaaGreatDoor
namespace Go.Proofs.YtkfnogdccpcmhaaGreatDoor
open Go.V
open Classical
structure Emb (s t:ATy) (f:Int->Int):Prop where
 node:∀ i,In s i->nd t (f i)=movedN f (nd s i)
theorem movedN_kind (f:Int->Int) (n:ANd):(movedN f n).kind=n.kind:=rfl
theorem movedN_ab {f:Int->Int} {n:ANd} (h:n.kind=6\/n.kind=9\/n.kind=10):(movedN f n).a=f n.a/\(movedN f n).b=f n.b:=by
 unfold movedN pB
 rcases h with h | h | h <;> rw [h] <;> exact ⟨rfl,rfl⟩
theorem movedN_var {f:Int->Int} {n:ANd} (h:n.kind=11):(movedN f n).a=n.a:=by
 unfold movedN pB;rw [h];rfl
theorem movedN_atN (f:Int->Int) (n:ANd) (s:List UInt8):atN (movedN f n) s=(atN n s).map f:=by
 unfold atN movedN;rw [List.find?_map]
 show Option.map _ (Option.map _ (n.l.find? fun x=>decide (x.name=s)))=_
 rw [Option.map_map,Option.map_map];rfl
theorem la_emb {s t:ATy} {f:Int->Int} {S:Int->Prop} {D D':ANd->Prop} (hO:OkT s) (h:Emb s t f) (hD:∀ i,In s i->3<=(nd s i).kind->(nd s i).kind<=8->(D' (nd t (f i))↔D (nd s i))) :
  ∀ i,In s i->(La t S D' (f i)↔La s S D i):=by
 intro i hi
 constructor
 ·intro hla
  generalize hj:f i=j at hla
  induction hla generalizing i with
  | top h1=>subst hj;rw [h.node i hi] at h1;exact .top h1
  | inl h1 _ ih =>
   subst hj;rw [h.node i hi] at h1 ih
   have h1:(nd s i).kind=9:=h1
   exact .inl h1 (ih _ (hO.pair hi (.inr (.inl h1))).1 (movedN_ab (.inr (.inl h1))).1.symm)
  | inr h1 _ ih =>
   subst hj;rw [h.node i hi] at h1 ih
   have h1:(nd s i).kind=9:=h1
   exact .inr h1 (ih _ (hO.pair hi (.inr (.inl h1))).2 (movedN_ab (.inr (.inl h1))).2.symm)
  | both h1 _ _ ih1 ih2 =>
   subst hj;rw [h.node i hi] at h1 ih1 ih2
   have h1:(nd s i).kind=10:=h1
   exact .both h1 (ih1 _ (hO.pair hi (.inr (.inr h1))).1 (movedN_ab (.inr (.inr h1))).1.symm) (ih2 _ (hO.pair hi (.inr (.inr h1))).2 (movedN_ab (.inr (.inr h1))).2.symm)
  | var h1 h2 =>
   subst hj;rw [h.node i hi] at h1 h2
   have h1:(nd s i).kind=11:=h1
   rw [movedN_var h1] at h2;exact .var h1 h2
  | head h1 h2 h3 =>
   subst hj
   have h4:=h.node i hi
   rw [h4] at h1 h2;exact .head h1 h2 ((hD i hi h1 h2).1 h3)
 ·intro hla
  induction hla with
  | top h1=>exact .top (by rw [h.node _ hi];exact h1)
  | @inl i h1 _ ih =>
   have h4:=h.node i hi
   refine .inl (by rw [h4];exact h1) ?_;rw [h4,(movedN_ab (.inr (.inl h1))).1];exact ih (hO.pair hi (.inr (.inl h1))).1
  | @inr i h1 _ ih =>
   have h4:=h.node i hi
   refine .inr (by rw [h4];exact h1) ?_;rw [h4,(movedN_ab (.inr (.inl h1))).2];exact ih (hO.pair hi (.inr (.inl h1))).2
  | @both i h1 _ _ ih1 ih2 =>
   have h4:=h.node i hi
   refine .both (by rw [h4];exact h1) ?_ ?_
   ·rw [h4,(movedN_ab (.inr (.inr h1))).1]
    exact ih1 (hO.pair hi (.inr (.inr h1))).1
   ·rw [h4,(movedN_ab (.inr (.inr h1))).2]
    exact ih2 (hO.pair hi (.inr (.inr h1))).2
  | @var i h1 h2 =>
   have h4:=h.node i hi
   refine .var (by rw [h4];exact h1) ?_;rw [h4,movedN_var h1];exact h2
  | @head i h1 h2 h3 =>
   have h4:=h.node i hi
   exact .head (by rw [h4];exact h1) (by rw [h4];exact h2) ((hD i hi h1 h2).2 h3)
theorem atN_in {t:ATy} (hO:OkT t) {i k:Int} {s:List UInt8} (hi:In t i) (h:atN (nd t i) s=some k):In t k:=by
 obtain ⟨f,hf,_,rfl⟩:=atN_mem h;exact hO.at_ hi hf
theorem sat_emb {s t:ATy} {f:Int->Int} (hO:OkT s) (h:Emb s t f):∀ (p:Pt) (i:Int),In s i->(Sat t p (f i)↔Sat s p i):=by
 intro p
 induction p with
 | tag S k =>
  refine la_emb hO h fun i hi h1 h2=>?_;rw [h.node i hi];exact Iff.rfl
 | dom S q ih =>
  refine la_emb hO h fun i hi h1 h2=>?_;rw [h.node i hi]
  show ((nd s i).kind=6/\¬ Sat t q (movedN f (nd s i)).a)↔((nd s i).kind=6/\¬ Sat s q (nd s i).a)
  refine and_congr_right fun h6=>?_;rw [(movedN_ab (.inl h6)).1,ih _ (hO.pair hi (.inl h6)).1]
 | cod S q ih =>
  refine la_emb hO h fun i hi h1 h2=>?_;rw [h.node i hi]
  show ((nd s i).kind=6/\Sat t q (movedN f (nd s i)).b)↔((nd s i).kind=6/\Sat s q (nd s i).b)
  refine and_congr_right fun h6=>?_;rw [(movedN_ab (.inl h6)).2,ih _ (hO.pair hi (.inl h6)).2]
 | absent S n =>
  refine la_emb hO h fun i hi h1 h2=>?_;rw [h.node i hi]
  show ((nd s i).kind=7/\atN (movedN f (nd s i)) n=none)↔((nd s i).kind=7/\atN (nd s i) n=none)
  rw [movedN_atN,Option.map_eq_none_iff]
 | field S n q ih =>
  refine la_emb hO h fun i hi h1 h2=>?_;rw [h.node i hi]
  show ((nd s i).kind=7/\∀ k,atN (movedN f (nd s i)) n=some k->Sat t q k)↔((nd s i).kind=7/\∀ k,atN (nd s i) n=some k->Sat s q k)
  rw [movedN_atN]
  cases hq:atN (nd s i) n with
  | none=>simp
  | some k =>
   simp only [Option.map_some,Option.some.injEq,forall_eq'];rw [ih k (atN_in hO hi hq)]
 | hasc S n =>
  refine la_emb hO h fun i hi h1 h2=>?_;rw [h.node i hi]
  show ((nd s i).kind=8/\atN (movedN f (nd s i)) n≠none)↔((nd s i).kind=8/\atN (nd s i) n≠none)
  rw [movedN_atN,ne_eq,Option.map_eq_none_iff]
 | case S n q ih =>
  refine la_emb hO h fun i hi h1 h2=>?_;rw [h.node i hi]
  show ((nd s i).kind=8/\∃ k,atN (movedN f (nd s i)) n=some k/\Sat t q k)↔((nd s i).kind=8/\∃ k,atN (nd s i) n=some k/\Sat s q k)
  rw [movedN_atN]
  cases hq:atN (nd s i) n with
  | none=>simp
  | some k =>
   simp only [Option.map_some,Option.some.injEq,exists_eq_left'];rw [ih k (atN_in hO hi hq)]
theorem inB_mono {all all':Int} (hle:all<=all') {l:List Int} (h:¬ ∃ k∈l,inB all k=true):¬ ∃ k∈l,inB all' k=true:=by
 rintro ⟨k,hk,h2⟩;refine h ⟨k,hk,?_⟩;unfold inB at h2 ⊢;simp only [Bool.or_eq_true,decide_eq_true_eq] at h2 ⊢
 omega
theorem right_mono {n:ANd} {all all':Int} (h:rightB n all=true) (hle:all<=all'):rightB n all'=true:=by
 unfold rightB at h ⊢;rw [Bool.and_eq_true,Bool.and_eq_true,Bool.and_eq_true,Bool.and_eq_true,Bool.and_eq_true] at h ⊢;obtain ⟨h1,h2,h3,h4,h5,h6⟩:=h;refine ⟨h1,h2,h3,h4,h5,?_⟩;rw [Bool.not_eq_true',decide_eq_false_iff_not] at h6 ⊢;exact inB_mono hle h6
theorem named_moved {n:ANd} {f:Int->Int} (h:namedP n):namedP (movedN f n):=by
 intro i x hx
 have hx:(n.l.map fun x=>(⟨x.name,f x.at_⟩:AFd))[i]? = some x:=hx
 rw [List.getElem?_map] at hx
 cases hq:n.l[i]? with
 | none=>rw [hq] at hx;cases hx
 | some z =>
  rw [hq] at hx;cases hx
  obtain ⟨h1,h2⟩:=h i z hq;refine ⟨h1,fun h0 y hy=>?_⟩
  have hy:(n.l.map fun x=>(⟨x.name,f x.at_⟩:AFd))[i - 1]? = some y:=hy
  rw [List.getElem?_map] at hy
  cases hq2:n.l[i - 1]? with
  | none=>rw [hq2] at hy;cases hy
  | some z2=>rw [hq2] at hy;cases hy;exact h2 h0 z2 hq2
theorem kids_moved {n:ANd} {f:Int->Int}:kidsL (movedN f n)=(kidsL n).map f:=by
 unfold kidsL;rw [movedN_kind]
 cases hp:pB n.kind
 ·cases wB n.kind
  ·rfl
  ·unfold movedN;simp only [cF_,cT,List.map_map];rfl
 ·unfold movedN;simp only [cT,hp,List.map_cons,List.map_nil]
theorem right_moved {n:ANd} {all all':Int} {f:Int->Int} (h:rightB n all=true) (hf:∀ k,0<=k->k<all->0<=f k/\f k<all'):rightB (movedN f n) all'=true:=by
 have hk:=right_in h
 unfold rightB at h ⊢;rw [Bool.and_eq_true,Bool.and_eq_true,Bool.and_eq_true,Bool.and_eq_true,Bool.and_eq_true] at h ⊢;obtain ⟨h1,h2,h3,h4,h5,h6⟩:=h;refine ⟨h1,?_,?_,?_,?_,?_⟩
 ·rw [movedN_kind]
  cases hp:pB n.kind with
  | true=>rfl
  | false =>
   rw [hp] at h2;unfold movedN;rw [hp];exact h2
 ·rw [movedN_kind]
  by_cases h11:n.kind=11
  ·rw [movedN_var h11];exact h3
  ·rw [dF h11];rfl
 ·unfold movedN;simp only [List.length_map];exact h4
 ·rw [Bool.and_eq_true,decide_eq_true_eq] at h5 ⊢
  exact ⟨named_moved h5.1,by unfold movedN;simp only [List.length_map];exact h5.2⟩
 ·rw [Bool.not_eq_true',decide_eq_false_iff_not,kids_moved]
  rintro ⟨k,hk1,hk2⟩;obtain ⟨k0,hk0,rfl⟩:=List.mem_map.1 hk1
  have:=hk k0 hk0
  have:=hf k0 this.1 this.2
  unfold inB at hk2;simp only [Bool.or_eq_true,decide_eq_true_eq] at hk2
  omega
theorem endk_left {A B:List ANd} (hA:InL A):∀ (k i:Nat),i<A.length->endk A k i=true->endk (A++B) k i=true
 | 0,_,_,h=>by cases h
 | k+1,i,hi,h=>by
  unfold endk at h ⊢;rw [List.getElem?_append_left hi]
  have hx:A[i]? = some A[i]:=List.getElem?_eq_getElem hi
  rw [hx] at h ⊢
  simp only at h ⊢
  cases hl:latB A[i].kind with
  | false=>rfl
  | true =>
   rw [hl] at h
   have hk:=lat_kids hl
   have h1:=hA _ (List.getElem_mem hi) A[i].a (by rw [hk];simp)
   have h2:=hA _ (List.getElem_mem hi) A[i].b (by rw [hk];simp)
   simp only [Bool.not_true,Bool.false_or,Bool.and_eq_true] at h ⊢;exact ⟨endk_left hA k _ (by omega) h.1,endk_left hA k _ (by omega) h.2⟩
theorem endk_right {A B:List ANd} (hB:InL B):∀ (k i:Nat),i<B.length->endk B k i=true->endk (A++B.map (movedN (· + (A.length:Int)))) k (i+A.length)=true
 | 0,_,_,h=>by cases h
 | k+1,i,hi,h=>by
  unfold endk at h ⊢;rw [List.getElem?_append_right (by omega),Nat.add_sub_cancel,List.getElem?_map]
  have hx:B[i]? = some B[i]:=List.getElem?_eq_getElem hi
  rw [hx] at h ⊢;simp only [Option.map_some,movedN_kind] at h ⊢
  cases hl:latB B[i].kind with
  | false=>rfl
  | true =>
   rw [hl] at h
   have hk:=lat_kids hl
   have h1:=hB _ (List.getElem_mem hi) B[i].a (by rw [hk];simp)
   have h2:=hB _ (List.getElem_mem hi) B[i].b (by rw [hk];simp)
   have hab:=movedN_ab (f:=(· + (A.length:Int))) (n:=B[i]) (.inr (lat_yes hl))
   simp only [Bool.not_true,Bool.false_or,Bool.and_eq_true] at h ⊢;rw [hab.1,hab.2,show (B[i].a+(A.length:Int)).toNat=B[i].a.toNat+A.length by omega,show (B[i].b+(A.length:Int)).toNat=B[i].b.toNat+A.length by omega];exact ⟨endk_right hB k _ (by omega) h.1,endk_right hB k _ (by omega) h.2⟩
end Go.Proofs.YtkfnogdccpcmhaaGreatDoor
namespace Go.Proofs.YtkfnogdccpcmhaaGreatDoor
open Go.V
open Classical
theorem movedN_id (n:ANd):movedN (fun k=>k) n=n:=by
 unfold movedN;rw [Bool.cond_self,Bool.cond_self]
 have:n.l.map (fun x=>(⟨x.name,x.at_⟩:AFd))=n.l:=by
  conv=>rhs;rw [<- List.map_id n.l]
  rfl
 rw [this]
theorem emb_left {a t:ATy} {X:List ANd} (h:t.l=a.l++X):Emb a t (fun k=>k):=⟨fun i hi=>by
 rw [movedN_id]
 have hil:i.toNat<a.l.length:=by have:=hi.1;have:=hi.2;omega
 unfold nd;rw [h,List.getElem?_append_left hil]⟩
theorem emb_right {a b t:ATy} {X:List ANd} (h:t.l=a.l++b.l.map (movedN (fun k=>k+(a.l.length:Int)))++X):Emb b t (fun k=>k+(a.l.length:Int)):=⟨fun i hi=>by
 have hil:i.toNat<b.l.length:=by have:=hi.1;have:=hi.2;omega
 have h1:=nd_get hi
 have e:(i+(a.l.length:Int)).toNat=a.l.length+i.toNat:=by have:=hi.1;omega
 show (t.l[(i+(a.l.length:Int)).toNat]?).getD ⟨0,0,0,[]⟩=_
 rw [h,e,List.getElem?_append_left (by rw [List.length_append,List.length_map];omega),List.getElem?_append_right (by omega),Nat.add_sub_cancel_left,List.getElem?_map,h1]
 rfl⟩
theorem kept_emb {s t:ATy} {f:Int->Int} (hO:OkT s) (h:Emb s t f) (hin:∀ i,In s i->In t (f i)):Kept t (fun x=>∃ i,In s i/\f i=x):=by
 refine ⟨?_,?_,?_⟩
 ·rintro _ ⟨i,hi,rfl⟩;exact hin i hi
 ·rintro _ ⟨i,hi,rfl⟩ hk
  rw [h.node i hi] at hk ⊢;obtain ⟨e1,e2⟩:=movedN_ab (f:=f) (n:=nd s i) hk;rw [e1,e2];obtain ⟨h1,h2⟩:=hO.pair hi hk;exact ⟨⟨_,h1,rfl⟩,⟨_,h2,rfl⟩⟩
 ·rintro _ ⟨i,hi,rfl⟩ g hg
  rw [h.node i hi] at hg;obtain ⟨g0,hg0,rfl⟩:=List.mem_map.1 hg;exact ⟨_,hO.at_ hi hg0,rfl⟩
theorem Kept.congr {t:ATy} {A B:Int->Prop} (h:Kept t A) (he:∀ x,A x↔B x):Kept t B:=by
 have:A=B:=funext fun x=>propext (he x)
 rw [<- this];exact h
theorem graft_len (a b:ATy):(graftT a b).l.length=a.l.length+b.l.length:=by unfold graftT;rw [List.length_append,List.length_map]
theorem graft_ok {a b:ATy} (ha:OkT a) (hb:OkT b):OkT (graftT a b):=by
 refine ⟨fun n hn=>?_,fun i hi=>?_⟩
 ·rw [graft_len]
  unfold graftT at hn
  rcases List.mem_append.1 hn with hn | hn
  ·exact right_mono (ha.right n hn) (by omega)
  ·obtain ⟨m,hm,rfl⟩:=List.mem_map.1 hn
   exact right_moved (hb.right m hm) (fun k h1 h2=>by omega)
 ·rw [graft_len] at hi
  by_cases h:i<a.l.length
  ·obtain ⟨k,hk⟩:=ha.ends i h
   exact ⟨k,endk_left (allRight_in ha.right) k i h hk⟩
  ·obtain ⟨k,hk⟩:=hb.ends (i - a.l.length) (by omega)
   have:=endk_right (A:=a.l) (allRight_in hb.right) k (i - a.l.length) (by omega) hk
   rw [Nat.sub_add_cancel (by omega)] at this;exact ⟨k,this⟩
def Sub (a b:ATy):Prop:=∀ p,Sat a p a.root->Sat b p b.root
structure MayO (a:ATy):Prop where
 may:mayT a.l a.root=0
 nb:∀ n∈a.l,NB n
theorem MayO.ok {a:ATy} (h:MayO a):OkT a:=⟨(mayT_ok h.may).2.2.2.2.1,(mayT_ok h.may).2.2.2.2.2⟩
theorem MayO.root {a:ATy} (h:MayO a):In a a.root:=⟨(mayT_ok h.may).2.2.1,(mayT_ok h.may).2.2.2.1⟩
theorem graft_inL {a b:ATy} {i:Int} (h:In a i):In (graftT a b) i:=⟨h.1,by rw [graft_len];have:=h.2;omega⟩
theorem graft_inR {a b:ATy} {i:Int} (h:In b i):In (graftT a b) (i+(a.l.length:Int)):=⟨by have:=h.1;omega,by rw [graft_len];have:=h.2;omega⟩
theorem graft_eL (a b:ATy):Emb a (graftT a b) (fun k=>k):=emb_left (X:=b.l.map (movedN (fun k=>k+(a.l.length:Int)))) rfl
theorem graft_eR (a b:ATy):Emb b (graftT a b) (fun k=>k+(a.l.length:Int)):=emb_right (X:=[]) (by rw [List.append_nil];rfl)
theorem valid_graft {a b:ATy} (ha:MayO a) (hb:MayO b):Valid (graftT a b) ⟨[a.root],[b.root+(a.l.length:Int)]⟩↔Sub a b:=by
 have h1:∀ p,Sat (graftT a b) p a.root↔Sat a p a.root:=fun p=>sat_emb ha.ok (graft_eL a b) p a.root ha.root
 have h2:∀ p,Sat (graftT a b) p (b.root+(a.l.length:Int))↔Sat b p b.root:=fun p=>sat_emb hb.ok (graft_eR a b) p b.root hb.root
 constructor
 ·intro h p hp
  refine Classical.byContradiction fun hn=>h p ⟨fun i hi=>?_,fun i hi=>?_⟩
  ·rw [List.mem_singleton] at hi;subst hi;exact (h1 p).2 hp
  ·rw [List.mem_singleton] at hi;subst hi;exact fun h3=>hn ((h2 p).1 h3)
 ·intro h p hp
  exact hp.2 _ (by simp) ((h2 p).2 (h p ((h1 p).1 (hp.1 _ (by simp)))))
theorem shiftI_sorted (n m:Nat):((rngI n).map (fun k=>k+(m:Int))).Pairwise (· < ·):=by
 rw [List.pairwise_map];exact (rngI_sorted n).imp (fun h=>by omega)
theorem graft_nb {a b:ATy} (ha:∀ n∈a.l,NB n) (hb:∀ n∈b.l,NB n):∀ n∈(graftT a b).l,NB n:=graftT_nb ha hb
theorem graft_U {a b:ATy} (ha:MayO a) (hb:MayO b) (hl:a.l.length+b.l.length<=38):∃ U,UOk (graftT a b) ⟨[a.root],[b.root+(a.l.length:Int)]⟩ U:=by
 have kA:Kept (graftT a b) (· ∈ rngI a.l.length):=(kept_emb ha.ok (graft_eL a b) (fun i hi=>graft_inL hi)).congr (fun x=>by
  rw [mem_rngI]
  constructor
  ·rintro ⟨i,hi,rfl⟩;exact hi
  ·intro h;exact ⟨x,h,rfl⟩)
 have kB:Kept (graftT a b) (· ∈ (rngI b.l.length).map (fun k=>k+(a.l.length:Int))):=(kept_emb hb.ok (graft_eR a b) (fun i hi=>graft_inR hi)).congr (fun x=>by
  rw [List.mem_map]
  constructor
  ·rintro ⟨i,hi,rfl⟩;exact ⟨i,mem_rngI.2 hi,rfl⟩
  ·rintro ⟨i,hi,rfl⟩;exact ⟨i,mem_rngI.1 hi,rfl⟩)
 refine ⟨_,kept_U (rngI_sorted _) (shiftI_sorted _ _) kA kB (by rw [List.length_map,rngI_len,rngI_len];exact hl) ⟨by simp,by simp⟩ ⟨fun i hi=>?_,fun i hi=>?_⟩⟩
 ·rw [List.mem_singleton] at hi;subst hi;exact mem_rngI.2 ha.root
 ·rw [List.mem_singleton] at hi;subst hi;exact List.mem_map.2 ⟨b.root,mem_rngI.2 hb.root,rfl⟩
theorem below_of {a b:ATy} {U:List BSq} (ha:MayO a) (hb:MayO b) (hl:a.l.length+b.l.length<=99) (hU:UOk (graftT a b) ⟨[a.root],[b.root+(a.l.length:Int)]⟩ U):m_below_below a b=some (decide (Sub a b)):=by
 unfold m_below_below
 have hr:=hb.root
 rw [graft_eq a b (by omega) (by omega) hb.nb hb.ok.right,oB]
 simp only
 rw [grd_pos (by have:=hr.1;have:=hr.2;constructor <;> omega)];rw [show (⟨(graftT a b).l,(graftT a b).root⟩:ATy)=graftT a b from rfl,holds_eq (graft_ok ha.ok hb.ok) (graft_nb ha.nb hb.nb) (by rw [graft_len];exact hl) hU,oB]
 congr 1
 exact decide_eq_decide.2 (valid_graft ha hb)
theorem below_eq {a b:ATy} (ha:MayO a) (hb:MayO b) (hl:a.l.length+b.l.length<=38):m_below_below a b=some (decide (Sub a b)):=by
 obtain ⟨U,hU⟩:=graft_U ha hb hl;exact below_of ha hb (by omega) hU
theorem bmay_eq {a b:ATy} (ha:a.l.length<=2001) (hb:b.l.length<=2001) (hNa:∀ n∈a.l,NB n) (hNb:∀ n∈b.l,NB n):m_below_may a b=some (if mayT a.l a.root=0 then mayT b.l b.root else mayT a.l a.root):=by
 unfold m_below_may;rw [may_eq a ha hNa,oB]
 by_cases h:mayT a.l a.root=0
 ·rw [dT h,Bool.not_true,cF_,may_eq b hb hNb,if_pos h];rfl
 ·rw [dF h,Bool.not_false,cT,if_neg h]
def isTag (p:Pt) (k:Int):Prop:=match p with
 | .tag _ k'=>k=k'
 | _=>False
theorem hd_leaf {t:ATy} {p:Pt} {x:ANd} {k:Int} (hx:x.kind=k) (hk:3<=k/\k<=5):hdP t p x↔isTag p k:=by
 cases p with
 | tag S k' =>
  show (x.kind=k'/\k'≠8)↔k=k'
  rw [hx];exact ⟨fun h=>h.1,fun h=>⟨h,by omega⟩⟩
 | dom S q=>exact ⟨fun h=>by have:=h.1;omega,fun h=>h.elim⟩
 | cod S q=>exact ⟨fun h=>by have:=h.1;omega,fun h=>h.elim⟩
 | absent S q=>exact ⟨fun h=>by have:=h.1;omega,fun h=>h.elim⟩
 | field S s q=>exact ⟨fun h=>by have:=h.1;omega,fun h=>h.elim⟩
 | hasc S q=>exact ⟨fun h=>by have:=h.1;omega,fun h=>h.elim⟩
 | case S s q=>exact ⟨fun h=>by have:=h.1;omega,fun h=>h.elim⟩
theorem sat_leaf {t:ATy} {p:Pt} {i k:Int} (hx:(nd t i).kind=k) (hk:3<=k/\k<=5):Sat t p i↔isTag p k:=(la_head (by omega) (by omega)).trans (hd_leaf hx hk)
theorem hd_arrow {t:ATy} {p:Pt} {x:ANd} (hx:x.kind=6):hdP t p x↔(match p with
  | .tag _ k=>k=6
  | .dom _ q=>¬ Sat t q x.a
  | .cod _ q=>Sat t q x.b
  | _=>False):=by
 cases p with
 | tag S k =>
  show (x.kind=k/\k≠8)↔k=6
  rw [hx];exact ⟨fun h=>h.1.symm,fun h=>⟨h.symm,by omega⟩⟩
 | dom S q=>exact ⟨fun h=>h.2,fun h=>⟨hx,h⟩⟩
 | cod S q=>exact ⟨fun h=>h.2,fun h=>⟨hx,h⟩⟩
 | absent S q=>exact ⟨fun h=>by have:=h.1;omega,fun h=>h.elim⟩
 | field S s q=>exact ⟨fun h=>by have:=h.1;omega,fun h=>h.elim⟩
 | hasc S q=>exact ⟨fun h=>by have:=h.1;omega,fun h=>h.elim⟩
 | case S s q=>exact ⟨fun h=>by have:=h.1;omega,fun h=>h.elim⟩
def leafT (k:Int):ATy:=⟨[⟨k,0,0,[]⟩],0⟩
theorem may_of {t:ATy} (hlen:t.l.length<=2001) (hN:∀ n∈t.l,NB n) (h:m_graph_May t=some 0):MayO t:=⟨by rw [may_eq t hlen hN] at h;exact Option.some.inj h,hN⟩
theorem bot_may:MayO (leafT 2):=may_of (by decide) (by intro n hn;simp [leafT] at hn;subst hn;simp [NB]) (by rfl)
theorem top_may:MayO (leafT 1):=may_of (by decide) (by intro n hn;simp [leafT] at hn;subst hn;simp [NB]) (by rfl)
end Go.Proofs.YtkfnogdccpcmhaaGreatDoor
namespace Go.Proofs.YtkfnogdccpcmhaaGreatDoor
open Go.V
open Classical
theorem open_cases {t:ATy} {q s:BSq} (hs:s∈(leadsA t q).2) :
  (∃ i rest M,latB (nd t i).kind=true/\q.left.Perm (i::rest)/\s=⟨cs (rest++M),q.right⟩/\(((nd t i).kind=10/\M=[(nd t i).a,(nd t i).b])\/((nd t i).kind=9/\(M=[(nd t i).a]\/M=[(nd t i).b])))) \/
  ((∀ i∈q.left,latB (nd t i).kind=false)/\∃ i rest M,latB (nd t i).kind=true/\q.right.Perm (i::rest)/\s=⟨q.left,cs (rest++M)⟩/\(((nd t i).kind=9/\M=[(nd t i).a,(nd t i).b])\/((nd t i).kind=10/\(M=[(nd t i).a]\/M=[(nd t i).b])))) \/
  ((∀ i∈q.left,latB (nd t i).kind=false)/\(∀ i∈q.right,latB (nd t i).kind=false)):=by
 unfold leadsA at hs
 split at hs
 ·cases hs
 ·cases hL:latA t q.left with
  | some x =>
   obtain ⟨n,rest⟩:=x
   left
   obtain ⟨i,rfl,hk,hp⟩:=latA_some hL;unfold openA at hs;rw [hL] at hs
   simp only at hs
   by_cases h10:(nd t i).kind=10
   ·rw [if_pos h10,List.mem_singleton] at hs
    exact ⟨i,rest,_,hk,hp,hs,.inl ⟨h10,rfl⟩⟩
   ·rw [if_neg h10] at hs
    have h9:=(lat_yes hk).resolve_right h10
    simp only [List.mem_cons,List.not_mem_nil,or_false] at hs
    rcases hs with h | h
    ·exact ⟨i,rest,_,hk,hp,h,.inr ⟨h9,.inl rfl⟩⟩
    ·exact ⟨i,rest,_,hk,hp,h,.inr ⟨h9,.inr rfl⟩⟩
  | none =>
   cases hR:latA t q.right with
   | some x =>
    obtain ⟨n,rest⟩:=x
    right;left
    obtain ⟨i,rfl,hk,hp⟩:=latA_some hR;unfold openA at hs;rw [hL,hR] at hs
    simp only at hs
    refine ⟨latA_none hL,?_⟩
    by_cases h9:(nd t i).kind=9
    ·rw [if_pos h9,List.mem_singleton] at hs
     exact ⟨i,rest,_,hk,hp,hs,.inl ⟨h9,rfl⟩⟩
    ·rw [if_neg h9] at hs
     have h10:=(lat_yes hk).resolve_left h9
     simp only [List.mem_cons,List.not_mem_nil,or_false] at hs
     rcases hs with h | h
     ·exact ⟨i,rest,_,hk,hp,h,.inr ⟨h10,.inl rfl⟩⟩
     ·exact ⟨i,rest,_,hk,hp,h,.inr ⟨h10,.inr rfl⟩⟩
   | none=>exact .inr (.inr ⟨latA_none hL,latA_none hR⟩)
theorem Kept.or {t:ATy} {A B:Int->Prop} (hA:Kept t A) (hB:Kept t B):Kept t (fun x=>A x\/B x):=by
 refine ⟨fun i h=>h.elim (hA.inn i) (hB.inn i),fun i h hk=>?_,fun i h f hf=>?_⟩
 ·rcases h with h | h
  ·exact ⟨.inl (hA.pair i h hk).1,.inl (hA.pair i h hk).2⟩
  ·exact ⟨.inr (hB.pair i h hk).1,.inr (hB.pair i h hk).2⟩
 ·rcases h with h | h
  ·exact .inl (hA.fld i h f hf)
  ·exact .inr (hB.fld i h f hf)
structure DistS (t:ATy) (r1 r2 j m1 m2:Int) (la lb lc ra rb rc rd:List Int):Prop where
 kla:Kept t (· ∈ la)
 klb:Kept t (· ∈ lb)
 klc:Kept t (· ∈ lc)
 kra:Kept t (· ∈ ra)
 krb:Kept t (· ∈ rb)
 krc:Kept t (· ∈ rc)
 krd:Kept t (· ∈ rd)
 i1:In t r1
 i2:In t r2
 ij:In t j
 im1:In t m1
 im2:In t m2
 r1k:(nd t r1).kind=10
 r1a:(nd t r1).a=j
 r1b:(nd t r1).b∈lc
 jk:(nd t j).kind=9
 ja:(nd t j).a∈la
 jb:(nd t j).b∈lb
 r2k:(nd t r2).kind=9
 r2a:(nd t r2).a=m1
 r2b:(nd t r2).b=m2
 m1k:(nd t m1).kind=10
 m1a:(nd t m1).a∈ra
 m1b:(nd t m1).b∈rc
 m2k:(nd t m2).kind=10
 m2a:(nd t m2).a∈rb
 m2b:(nd t m2).b∈rd
def dp (r2 m1 m2:Int) (ra rb rc rd L:List Int):List (List Int×List Int):=
 [(L,[r2]),(L,[m1,m2]),(L,m2::ra),(L,m2::rc),(L,m1::rb),(L,m1::rd),(L,ra++rb),(L,ra++rd),(L,rc++rb),(L,rc++rd),(ra++rb,L),(ra++rd,L),(rc++rb,L),(rc++rd,L)]
def dps (r1 r2 j m1 m2:Int) (la lb lc ra rb rc rd:List Int):List (List Int×List Int):=[([r1],[r2]),(j::lc,[r2])]++(dp r2 m1 m2 ra rb rc rd (la++lc)++dp r2 m1 m2 ra rb rc rd (lb++lc))
def SubP (p:List Int×List Int) (s:BSq):Prop:=(∀ i∈s.left,i∈p.1)/\∀ i∈s.right,i∈p.2
theorem rest_ne {l rest:List Int} {i:Int} (hs:l.Pairwise (· < ·)) (hp:l.Perm (i::rest)):∀ x∈rest,x∈l/\x≠i:=by
 intro x hx
 have hn:l.Nodup:=hs.imp (fun h=>by omega)
 have hn2:=hp.nodup hn
 exact ⟨hp.mem_iff.2 (by simp [hx]),fun e=>by subst e;exact (List.nodup_cons.1 hn2).1 hx⟩
theorem sub_step {rest M l:List Int} {P:Int->Prop} (h1:∀ x∈rest,P x) (h2:∀ x∈M,P x):∀ x∈cs (rest++M),P x:=fun x hx=>(List.mem_append.1 (mem_cs.1 hx)).elim (h1 x) (h2 x)
section
variable {t:ATy} {r1 r2 j m1 m2:Int} {la lb lc ra rb rc rd:List Int}
theorem DistS.left (h:DistS t r1 r2 j m1 m2 la lb lc ra rb rc rd) {L:List Int} (hL:Kept t (· ∈ L)) {q s:BSq} (hq:Srt q) {p:List Int} (hp:SubP (L,p) q) {i:Int} {rest M:List Int} (hk:latB (nd t i).kind=true) (hpm:q.left.Perm (i::rest)) (hs:s=⟨cs (rest++M),q.right⟩)
  (hM:((nd t i).kind=10/\M=[(nd t i).a,(nd t i).b])\/((nd t i).kind=9/\(M=[(nd t i).a]\/M=[(nd t i).b]))):SubP (L,p) s:=by
 subst hs
 have hi:i∈L:=hp.1 i (hpm.mem_iff.2 (by simp))
 have hab:=hL.pair i hi (.inr (lat_yes hk))
 refine ⟨sub_step (l:=[]) (fun x hx=>hp.1 x (rest_ne hq.1 hpm x hx).1) (fun x hx=>?_),hp.2⟩
 rcases hM with ⟨_,rfl⟩ | ⟨_,rfl | rfl⟩
 ·simp at hx;rcases hx with rfl | rfl;exact hab.1;exact hab.2
 ·simp at hx;subst hx;exact hab.1
 ·simp at hx;subst hx;exact hab.2
theorem DistS.side (h:DistS t r1 r2 j m1 m2 la lb lc ra rb rc rd) {L:List Int} (hL:Kept t (· ∈ L)) {q s:BSq} (hq:Srt q) (hs:s∈(leadsA t q).2) {p:List Int×List Int} (hp:p∈dp r2 m1 m2 ra rb rc rd L) (hqp:SubP p q):∃ p'∈dp r2 m1 m2 ra rb rc rd L,SubP p' s:=by
 have kab:∀ {X Y:List Int},Kept t (· ∈ X)->Kept t (· ∈ Y)->Kept t (· ∈ X++Y):=fun hX hY=>(hX.or hY).congr (fun x=>List.mem_append.symm)
 have kAB:=kab h.kra h.krb
 have kAD:=kab h.kra h.krd
 have kCB:=kab h.krc h.krb
 have kCD:=kab h.krc h.krd
 have kk:∀ {X:List Int},Kept t (· ∈ X)->SubP (L,X) q->SubP (L,X) s\/SubP (X,L) s:=fun hX hq2=>lead_in hL hX hq2 hs
 have kk':∀ {X:List Int},Kept t (· ∈ X)->SubP (X,L) q->SubP (X,L) s\/SubP (L,X) s:=fun hX hq2=>lead_in hX hL hq2 hs
 have fin:∀ {X:List Int},Kept t (· ∈ X)->(L,X)∈dp r2 m1 m2 ra rb rc rd L->(X,L)∈dp r2 m1 m2 ra rb rc rd L->SubP (L,X) q->∃ p'∈dp r2 m1 m2 ra rb rc rd L,SubP p' s:=fun hX h1 h2 hq2=>(kk hX hq2).elim (fun h=>⟨_,h1,h⟩) (fun h=>⟨_,h2,h⟩)
 have fin':∀ {X:List Int},Kept t (· ∈ X)->(L,X)∈dp r2 m1 m2 ra rb rc rd L->(X,L)∈dp r2 m1 m2 ra rb rc rd L->SubP (X,L) q->∃ p'∈dp r2 m1 m2 ra rb rc rd L,SubP p' s:=fun hX h1 h2 hq2=>(kk' hX hq2).elim (fun h=>⟨_,h2,h⟩) (fun h=>⟨_,h1,h⟩)
 have mAB:(L,ra++rb)∈dp r2 m1 m2 ra rb rc rd L:=by simp [dp]
 have mAD:(L,ra++rd)∈dp r2 m1 m2 ra rb rc rd L:=by simp [dp]
 have mCB:(L,rc++rb)∈dp r2 m1 m2 ra rb rc rd L:=by simp [dp]
 have mCD:(L,rc++rd)∈dp r2 m1 m2 ra rb rc rd L:=by simp [dp]
 have nAB:(ra++rb,L)∈dp r2 m1 m2 ra rb rc rd L:=by simp [dp]
 have nAD:(ra++rd,L)∈dp r2 m1 m2 ra rb rc rd L:=by simp [dp]
 have nCB:(rc++rb,L)∈dp r2 m1 m2 ra rb rc rd L:=by simp [dp]
 have nCD:(rc++rd,L)∈dp r2 m1 m2 ra rb rc rd L:=by simp [dp]
 have lat9:latB (nd t r2).kind=true:=by rw [h.r2k];rfl
 have lat1:latB (nd t m1).kind=true:=by rw [h.m1k];rfl
 have lat2:latB (nd t m2).kind=true:=by rw [h.m2k];rfl
 have gen:∀ {R:List Int},(L,R)∈dp r2 m1 m2 ra rb rc rd L->SubP (L,R) q ->
   (∀ i rest M,latB (nd t i).kind=true->q.right.Perm (i::rest)->s=⟨q.left,cs (rest++M)⟩->(((nd t i).kind=9/\M=[(nd t i).a,(nd t i).b])\/((nd t i).kind=10/\(M=[(nd t i).a]\/M=[(nd t i).b])))->∃ p'∈dp r2 m1 m2 ra rb rc rd L,SubP p' s) ->
   ((∀ i∈q.right,latB (nd t i).kind=false)->∃ p'∈dp r2 m1 m2 ra rb rc rd L,SubP p' s)->∃ p'∈dp r2 m1 m2 ra rb rc rd L,SubP p' s:=by
  intro R hR hq2 h1 h2
  rcases open_cases hs with ⟨i,rest,M,a1,a2,a3,a4⟩ | ⟨_,i,rest,M,a1,a2,a3,a4⟩ | ⟨_,a5⟩
  ·exact ⟨_,hR,h.left hL hq hq2 a1 a2 a3 a4⟩
  ·exact h1 i rest M a1 a2 a3 a4
  ·exact h2 a5
 have ins:∀ {R':List Int} {rest M:List Int},(L,R')∈dp r2 m1 m2 ra rb rc rd L->s=⟨q.left,cs (rest++M)⟩->(∀ i∈q.left,i∈L)->(∀ x∈rest,x∈R')->(∀ x∈M,x∈R')->∃ p'∈dp r2 m1 m2 ra rb rc rd L,SubP p' s:=by
  intro R' rest M h1 h2 h3 h4 h5
  subst h2;exact ⟨_,h1,h3,sub_step (l:=[]) h4 h5⟩
 have one:∀ {m:Int} {X Y Z:List Int},Kept t (· ∈ X)->(nd t m).kind=10->(nd t m).a∈Y->(nd t m).b∈Z->(L,m::X)∈dp r2 m1 m2 ra rb rc rd L->SubP (L,m::X) q ->
   (∀ {rest M:List Int},s=⟨q.left,cs (rest++M)⟩->(∀ x∈rest,x∈X)->((∀ x∈M,x∈Y)\/∀ x∈M,x∈Z)->∃ p'∈dp r2 m1 m2 ra rb rc rd L,SubP p' s) ->
   (SubP (L,X) q->∃ p'∈dp r2 m1 m2 ra rb rc rd L,SubP p' s)->∃ p'∈dp r2 m1 m2 ra rb rc rd L,SubP p' s:=by
  intro m X Y Z hX hm ha hb hin hq2 h1 h2
  refine gen hin hq2 (fun i rest M a1 a2 a3 a4=>?_) (fun a5=>h2 ⟨hq2.1,fun x hx=>?_⟩)
  ·have hr:=rest_ne hq.2 a2
   have hi:=hq2.2 i (a2.mem_iff.2 (by simp))
   by_cases him:i=m
   ·subst him
    have hrX:∀ x∈rest,x∈X:=fun x hx=>(List.mem_cons.1 (hq2.2 x (hr x hx).1)).resolve_left (hr x hx).2
    rcases a4 with ⟨b1,_⟩ | ⟨_,rfl | rfl⟩
    ·omega
    ·exact h1 a3 hrX (.inl (by simpa using ha))
    ·exact h1 a3 hrX (.inr (by simpa using hb))
   ·have hiX:i∈X:=(List.mem_cons.1 hi).resolve_left him
    have hab:=hX.pair i hiX (.inr (lat_yes a1))
    refine ins hin a3 hq2.1 (fun x hx=>hq2.2 x (hr x hx).1) (fun x hx=>?_)
    rcases a4 with ⟨_,rfl⟩ | ⟨_,rfl | rfl⟩
    ·simp at hx;rcases hx with rfl | rfl
     ·exact List.mem_cons_of_mem _ hab.1
     ·exact List.mem_cons_of_mem _ hab.2
    ·simp at hx;subst hx;exact List.mem_cons_of_mem _ hab.1
    ·simp at hx;subst hx;exact List.mem_cons_of_mem _ hab.2
  ·rcases List.mem_cons.1 (hq2.2 x hx) with e | e
   ·subst e
    have:=a5 _ hx
    rw [hm] at this;cases this
   ·exact e
 have sL:∀ {X Y:List Int},SubP (L,X) q->SubP (L,X++Y) q:=fun h=>⟨h.1,fun x hx=>List.mem_append_left _ (h.2 x hx)⟩
 have sR:∀ {X Y:List Int},SubP (L,Y) q->SubP (L,X++Y) q:=fun h=>⟨h.1,fun x hx=>List.mem_append_right _ (h.2 x hx)⟩
 have al:∀ {X Y rest:List Int},(∀ x∈rest,x∈X)->∀ x∈rest,x∈X++Y:=fun h x hx=>List.mem_append_left _ (h x hx)
 have ar:∀ {X Y rest:List Int},(∀ x∈rest,x∈Y)->∀ x∈rest,x∈X++Y:=fun h x hx=>List.mem_append_right _ (h x hx)
 unfold dp at hp;simp only [List.mem_cons,List.not_mem_nil,or_false] at hp
 rcases hp with rfl | rfl | rfl | rfl | rfl | rfl | rfl | rfl | rfl | rfl | rfl | rfl | rfl | rfl
 ·
  refine gen (R:=[r2]) (by simp [dp]) hqp (fun i rest M a1 a2 a3 a4=>?_) (fun a5=>?_)
  ·have hr:=rest_ne hq.2 a2
   have hi:i=r2:=by simpa using hqp.2 i (a2.mem_iff.2 (by simp))
   subst hi;refine ins (R':=[m1,m2]) (by simp [dp]) a3 hqp.1 (fun x hx=>absurd (by simpa using hqp.2 x (hr x hx).1) (hr x hx).2) (fun x hx=>?_)
   rcases a4 with ⟨_,rfl⟩ | ⟨b1,_⟩
   ·rw [h.r2a,h.r2b] at hx;exact hx
   ·rw [h.r2k] at b1;omega
  ·refine fin kAB mAB nAB ⟨hqp.1,fun x hx=>?_⟩
   have e:x=r2:=by simpa using hqp.2 x hx
   subst e
   have:=a5 _ hx;rw [lat9] at this;cases this
 ·
  refine gen (R:=[m1,m2]) (by simp [dp]) hqp (fun i rest M a1 a2 a3 a4=>?_) (fun a5=>?_)
  ·have hr:=rest_ne hq.2 a2
   have hi:i=m1\/i=m2:=by simpa using hqp.2 i (a2.mem_iff.2 (by simp))
   rcases hi with rfl | rfl
   ·have hrest:∀ x∈rest,x=m2:=fun x hx=>by
     have:x=i\/x=m2:=by simpa using hqp.2 x (hr x hx).1
     exact this.resolve_left (hr x hx).2
    rcases a4 with ⟨b1,_⟩ | ⟨_,rfl | rfl⟩
    ·rw [h.m1k] at b1;omega
    ·exact ins (R':=m2::ra) (by simp [dp]) a3 hqp.1 (fun x hx=>by rw [hrest x hx];simp) (fun x hx=>by simp at hx;subst hx;exact List.mem_cons_of_mem _ h.m1a)
    ·exact ins (R':=m2::rc) (by simp [dp]) a3 hqp.1 (fun x hx=>by rw [hrest x hx];simp) (fun x hx=>by simp at hx;subst hx;exact List.mem_cons_of_mem _ h.m1b)
   ·have hrest:∀ x∈rest,x=m1:=fun x hx=>by
     have:x=m1\/x=i:=by simpa using hqp.2 x (hr x hx).1
     exact this.resolve_right (hr x hx).2
    rcases a4 with ⟨b1,_⟩ | ⟨_,rfl | rfl⟩
    ·rw [h.m2k] at b1;omega
    ·exact ins (R':=m1::rb) (by simp [dp]) a3 hqp.1 (fun x hx=>by rw [hrest x hx];simp) (fun x hx=>by simp at hx;subst hx;exact List.mem_cons_of_mem _ h.m2a)
    ·exact ins (R':=m1::rd) (by simp [dp]) a3 hqp.1 (fun x hx=>by rw [hrest x hx];simp) (fun x hx=>by simp at hx;subst hx;exact List.mem_cons_of_mem _ h.m2b)
  ·refine fin kAB mAB nAB ⟨hqp.1,fun x hx=>?_⟩
   have e:x=m1\/x=m2:=by simpa using hqp.2 x hx
   rcases e with rfl | rfl
   ·have:=a5 _ hx;rw [lat1] at this;cases this
   ·have:=a5 _ hx;rw [lat2] at this;cases this
 ·exact one h.kra h.m2k h.m2a h.m2b (by simp [dp]) hqp (fun a3 hr hM=>hM.elim (fun hM=>ins mAB a3 hqp.1 (al hr) (ar hM)) (fun hM=>ins mAD a3 hqp.1 (al hr) (ar hM))) (fun hx=>fin kAB mAB nAB (sL hx))
 ·exact one h.krc h.m2k h.m2a h.m2b (by simp [dp]) hqp (fun a3 hr hM=>hM.elim (fun hM=>ins mCB a3 hqp.1 (al hr) (ar hM)) (fun hM=>ins mCD a3 hqp.1 (al hr) (ar hM))) (fun hx=>fin kCB mCB nCB (sL hx))
 ·exact one h.krb h.m1k h.m1a h.m1b (by simp [dp]) hqp (fun a3 hr hM=>hM.elim (fun hM=>ins mAB a3 hqp.1 (ar hr) (al hM)) (fun hM=>ins mCB a3 hqp.1 (ar hr) (al hM))) (fun hx=>fin kAB mAB nAB (sR hx))
 ·exact one h.krd h.m1k h.m1a h.m1b (by simp [dp]) hqp (fun a3 hr hM=>hM.elim (fun hM=>ins mAD a3 hqp.1 (ar hr) (al hM)) (fun hM=>ins mCD a3 hqp.1 (ar hr) (al hM))) (fun hx=>fin kAD mAD nAD (sR hx))
 ·exact fin kAB mAB nAB hqp
 ·exact fin kAD mAD nAD hqp
 ·exact fin kCB mCB nCB hqp
 ·exact fin kCD mCD nCD hqp
 ·exact fin' kAB mAB nAB hqp
 ·exact fin' kAD mAD nAD hqp
 ·exact fin' kCB mCB nCB hqp
 ·exact fin' kCD mCD nCD hqp
end
end Go.Proofs.YtkfnogdccpcmhaaGreatDoor
namespace Go.Proofs.YtkfnogdccpcmhaaGreatDoor
open Go.V
open Classical
theorem rgraftO_eq (a b:ATy) (ha:a.l.length<=4001) (hb:b.l.length<=2001) (hN:∀ n∈b.l,NB n) (hR:AllRight b.l):m_ref13_GraftO a b=some ((a.l.length:Int),graftT a b):=by
 unfold m_ref13_GraftO;rw [grd_pos (by omega),List.nil_append];rw [loop_map (φ:=fun n i s=>m_ref13_GraftO_l1 a b n (i,a.root,s)) (l:=b.l) (movedN (fun k=>k+(a.l.length:Int))) (fun s=>(a.root,s)) a.l.length ?_ ?_ (by rw [FUv];omega) a.l rfl]
 ·rfl
 ·intro n i x s hx hi hs
  have hr:=right_kids (hR x (List.mem_of_getElem? hx))
  have hNx:=hN x (List.mem_of_getElem? hx)
  unfold NB at hNx
  have key:m_ref13_GraftO_l2 a x.l FU (0,[])=some (x.l.map (fun y=>⟨y.name,y.at_+(a.l.length:Int)⟩)):=by
   rw [loop_map (φ:=fun n i s=>m_ref13_GraftO_l2 a x.l n (i,s)) (l:=x.l) (fun y=>(⟨y.name,y.at_+(a.l.length:Int)⟩:AFd)) id 0 ?_ ?_ (by rw [FUv];omega) [] rfl]
   ·rfl
   ·intro n i y s hy hi hs
    obtain ⟨y0,y1⟩:=hr.2 y (List.mem_of_getElem? hy);simp only [m_ref13_GraftO_l2];rw [dT (show (i:Int)<x.l.length by omega),cT,getI hy,oB,oB,grd_pos (by omega),grd_pos (by simp only [List.length_cons,List.length_nil];omega),grd_pos (by omega)]
   ·intro n s hs
    simp only [m_ref13_GraftO_l2];rw [dF (by omega),cF_];rfl
  simp only [m_ref13_GraftO_l1];rw [dT (show (i:Int)<b.l.length by omega),cT,getI hx,oB]
  change ((bif pB x.kind then _ else _:Option (Int×Int×Int×(List AFd))).bind _)=_
  unfold movedN
  cases hp:pB x.kind with
  | true =>
   obtain ⟨⟨a0,a1⟩,b0,b1⟩:=hr.1 hp;rw [cT,grd_pos (by omega),grd_pos (by omega),oB]
   dsimp only
   rw [key,oB,grd_pos (by simp only [List.length_cons,List.length_nil];omega),grd_pos (by omega)]
   rfl
  | false =>
   rw [cF_,oB]
   dsimp only
   rw [key,oB,grd_pos (by simp only [List.length_cons,List.length_nil];omega),grd_pos (by omega)]
   rfl
 ·intro n s hs
  simp only [m_ref13_GraftO_l1];rw [dF (by omega),cF_]
section
variable {t:ATy} {r1 r2 j m1 m2:Int} {la lb lc ra rb rc rd:List Int}
theorem DistS.step (h:DistS t r1 r2 j m1 m2 la lb lc ra rb rc rd) {q s:BSq} (hq:Srt q) (hs:s∈(leadsA t q).2) {p:List Int×List Int} (hp:p∈dps r1 r2 j m1 m2 la lb lc ra rb rc rd) (hqp:SubP p q):∃ p'∈dps r1 r2 j m1 m2 la lb lc ra rb rc rd,SubP p' s:=by
 have kAC:Kept t (· ∈ la++lc):=(h.kla.or h.klc).congr (fun x=>List.mem_append.symm)
 have kBC:Kept t (· ∈ lb++lc):=(h.klb.or h.klc).congr (fun x=>List.mem_append.symm)
 have inA:∀ {p},p∈dp r2 m1 m2 ra rb rc rd (la++lc)->p∈dps r1 r2 j m1 m2 la lb lc ra rb rc rd:=fun h=>by unfold dps;exact List.mem_append_right _ (List.mem_append_left _ h)
 have inB:∀ {p},p∈dp r2 m1 m2 ra rb rc rd (lb++lc)->p∈dps r1 r2 j m1 m2 la lb lc ra rb rc rd:=fun h=>by unfold dps;exact List.mem_append_right _ (List.mem_append_right _ h)
 have lat1:latB (nd t r1).kind=true:=by rw [h.r1k];rfl
 have latj:latB (nd t j).kind=true:=by rw [h.jk];rfl
 have lat2:latB (nd t r2).kind=true:=by rw [h.r2k];rfl
 have right:∀ {L:List Int},(∀ p,p∈dp r2 m1 m2 ra rb rc rd L->p∈dps r1 r2 j m1 m2 la lb lc ra rb rc rd)->Kept t (· ∈ L)->SubP (L,[r2]) q->∃ p'∈dps r1 r2 j m1 m2 la lb lc ra rb rc rd,SubP p' s:=fun hin hL hq2=>by
  obtain ⟨p',h1,h2⟩:=h.side hL hq hs (p:=(_,[r2])) (by simp [dp]) hq2;exact ⟨p',hin _ h1,h2⟩
 unfold dps at hp;rw [List.mem_append,List.mem_append] at hp
 rcases hp with hp | hp | hp
 ·simp only [List.mem_cons,List.not_mem_nil,or_false] at hp
  rcases hp with rfl | rfl
  ·
   rcases open_cases hs with ⟨i,rest,M,a1,a2,rfl,a4⟩ | ⟨a0,_⟩ | ⟨a0,_⟩
   ·have hr:=rest_ne hq.1 a2
    have hi:i=r1:=by simpa using hqp.1 i (a2.mem_iff.2 (by simp))
    subst hi;refine ⟨(j::lc,[r2]),by unfold dps;simp,sub_step (l:=[]) (fun x hx=>absurd (by simpa using hqp.1 x (hr x hx).1) (hr x hx).2) (fun x hx=>?_),hqp.2⟩
    rcases a4 with ⟨_,rfl⟩ | ⟨b1,_⟩
    ·simp at hx;rcases hx with rfl | rfl
     ·rw [h.r1a];simp
     ·exact List.mem_cons_of_mem _ h.r1b
    ·rw [h.r1k] at b1;omega
   all_goals
    refine right (L:=la++lc) (fun _=>inA) kAC ⟨fun x hx=>?_,hqp.2⟩
    have e:x=r1:=by simpa using hqp.1 x hx
    subst e
    have:=a0 _ hx;rw [lat1] at this;cases this
  ·rcases open_cases hs with ⟨i,rest,M,a1,a2,rfl,a4⟩ | ⟨a0,_⟩ | ⟨a0,_⟩
   ·have hr:=rest_ne hq.1 a2
    have hi:=hqp.1 i (a2.mem_iff.2 (by simp))
    by_cases hij:i=j
    ·subst hij
     have hrc:∀ x∈rest,x∈lc:=fun x hx=>(List.mem_cons.1 (hqp.1 x (hr x hx).1)).resolve_left (hr x hx).2
     rcases a4 with ⟨b1,_⟩ | ⟨_,rfl | rfl⟩
     ·rw [h.jk] at b1;omega
     ·exact ⟨(la++lc,[r2]),inA (by simp [dp]),sub_step (l:=[]) (fun x hx=>List.mem_append_right _ (hrc x hx)) (fun x hx=>by simp at hx;subst hx;exact List.mem_append_left _ h.ja),hqp.2⟩
     ·exact ⟨(lb++lc,[r2]),inB (by simp [dp]),sub_step (l:=[]) (fun x hx=>List.mem_append_right _ (hrc x hx)) (fun x hx=>by simp at hx;subst hx;exact List.mem_append_left _ h.jb),hqp.2⟩
    ·have hic:i∈lc:=(List.mem_cons.1 hi).resolve_left hij
     have hab:=h.klc.pair i hic (.inr (lat_yes a1))
     refine ⟨(j::lc,[r2]),by unfold dps;simp,sub_step (l:=[]) (fun x hx=>hqp.1 x (hr x hx).1) (fun x hx=>?_),hqp.2⟩
     rcases a4 with ⟨_,rfl⟩ | ⟨_,rfl | rfl⟩
     ·simp at hx;rcases hx with rfl | rfl
      ·exact List.mem_cons_of_mem _ hab.1
      ·exact List.mem_cons_of_mem _ hab.2
     ·simp at hx;subst hx;exact List.mem_cons_of_mem _ hab.1
     ·simp at hx;subst hx;exact List.mem_cons_of_mem _ hab.2
   all_goals
    refine right (L:=la++lc) (fun _=>inA) kAC ⟨fun x hx=>?_,hqp.2⟩
    rcases List.mem_cons.1 (hqp.1 x hx) with e | e
    ·subst e
     have:=a0 _ hx;rw [latj] at this;cases this
    ·exact List.mem_append_right _ e
 ·obtain ⟨p',h1,h2⟩:=h.side kAC hq hs hp hqp
  exact ⟨p',inA h1,h2⟩
 ·obtain ⟨p',h1,h2⟩:=h.side kBC hq hs hp hqp
  exact ⟨p',inB h1,h2⟩
theorem nodup_subI:∀ (S U:List Int),S.Nodup->(∀ s∈S,s∈U)->S.length<=U.length
 | [],U,_,_=>Nat.zero_le _
 | a::S,U,hn,h=>by
  obtain ⟨h1,h2⟩:=List.nodup_cons.1 hn
  have ha:a∈U:=h a (by simp)
  have:=nodup_subI S (U.erase a) h2 (fun s hs=>(List.mem_erase_of_ne (fun e=>h1 (by rw [<- e];exact hs))).2 (h s (by simp [hs])))
  rw [List.length_erase_of_mem ha] at this
  have:=List.length_pos_of_mem ha
  simp only [List.length_cons]
  omega
theorem cs_len (l:List Int):(cs l).length<=l.length:=nodup_subI (cs l) l ((cs_sorted l).imp (fun h=>by omega)) (fun x hx=>mem_cs.1 hx)
theorem flat_len {α:Type} (f:α->List BSq) (c:Nat):∀ l:List α,(∀ x∈l,(f x).length<=c)->(l.flatMap f).length<=l.length*c
 | [],_=>by simp
 | x::l,h=>by
  have h1:=flat_len f c l (fun y hy=>h y (by simp [hy]))
  have h2:=h x (by simp)
  rw [List.flatMap_cons,List.length_append,List.length_cons,Nat.succ_mul];omega
end
end Go.Proofs.YtkfnogdccpcmhaaGreatDoor
namespace Go.Proofs.YtkfnogdccpcmhaaGreatDoor
open Go.V
open Classical
noncomputable def withT (k:Int) (a b:ATy):ATy:=⟨(graftT a b).l++[⟨k,a.root,b.root+(a.l.length:Int),[]⟩],((graftT a b).l.length:Int)⟩
theorem with_len (k:Int) (a b:ATy):(withT k a b).l.length=a.l.length+b.l.length+1:=by unfold withT;rw [List.length_append,graft_len];rfl
theorem with_root (k:Int) (a b:ATy):(withT k a b).root=((a.l.length+b.l.length:Nat):Int):=by unfold withT;simp only;rw [graft_len]
theorem with_top (k:Int) (a b:ATy):nd (withT k a b) (withT k a b).root=⟨k,a.root,b.root+(a.l.length:Int),[]⟩:=by
 unfold nd withT
 simp only
 rw [Int.toNat_natCast,List.getElem?_append_right (Nat.le_refl _),Nat.sub_self]
 rfl
theorem with_eL (k:Int) (a b:ATy):Emb a (withT k a b) (fun x=>x):=emb_left (X:=b.l.map (movedN (fun x=>x+(a.l.length:Int)))++[⟨k,a.root,b.root+(a.l.length:Int),[]⟩]) (by unfold withT graftT;simp only;rw [List.append_assoc])
theorem with_eR (k:Int) (a b:ATy):Emb b (withT k a b) (fun x=>x+(a.l.length:Int)):=emb_right (X:=[⟨k,a.root,b.root+(a.l.length:Int),[]⟩]) rfl
theorem with_inL {k:Int} {a b:ATy} {i:Int} (h:In a i):In (withT k a b) i:=⟨h.1,by rw [with_len];have:=h.2;omega⟩
theorem with_inR {k:Int} {a b:ATy} {i:Int} (h:In b i):In (withT k a b) (i+(a.l.length:Int)):=⟨by have:=h.1;omega,by rw [with_len];have:=h.2;omega⟩
theorem with_may {k:Int} (hk:k=9\/k=10) {a b:ATy} (ha:MayO a) (hb:MayO b) (hl:a.l.length+b.l.length<=100):MayO (withT k a b):=by
 have hg:=graft_ok ha.ok hb.ok
 have hra:=ha.root
 have hrb:=hb.root
 have hR:AllRight (withT k a b).l:=by
  intro n hn
  rw [with_len]
  rcases List.mem_append.1 hn with hn | hn
  ·exact right_mono (hg.right n hn) (by rw [graft_len];omega)
  ·rw [List.mem_singleton] at hn
   subst hn
   have h1:=hra.1;have h2:=hra.2;have h3:=hrb.1;have h4:=hrb.2
   have hnm:namedP ⟨k,a.root,b.root+(a.l.length:Int),[]⟩:=fun i x hx=>by simp at hx
   have hkid:¬ ∃ q∈kidsL ⟨k,a.root,b.root+(a.l.length:Int),[]⟩,inB ((a.l.length+b.l.length+1:Nat):Int) q=true:=by
    rintro ⟨q,hq,h5⟩
    have e:kidsL ⟨k,a.root,b.root+(a.l.length:Int),[]⟩=[a.root,b.root+(a.l.length:Int)]:=by
     unfold kidsL pB
     rcases hk with rfl | rfl <;> rfl
    rw [e] at hq;unfold inB at h5;simp only [Bool.or_eq_true,decide_eq_true_eq] at h5;simp only [List.mem_cons,List.not_mem_nil,or_false] at hq
    rcases hq with rfl | rfl <;> omega
   unfold rightB;rw [dT hnm,dF hkid]
   rcases hk with rfl | rfl <;> rfl
 have hE:AllEnds (withT k a b).l:=by
  intro i hi
  rw [with_len] at hi
  by_cases h:i<(graftT a b).l.length
  ·obtain ⟨m,hm⟩:=hg.ends i h
   exact ⟨m,endk_left (allRight_in hg.right) m i h hm⟩
  ·rw [graft_len] at h
   have hii:i=a.l.length+b.l.length:=by omega
   subst hii
   have h1:=hra.1;have h2:=hra.2;have h3:=hrb.1;have h4:=hrb.2
   have la:a.root.toNat<(graftT a b).l.length:=by rw [graft_len];omega
   have lb:(b.root+(a.l.length:Int)).toNat<(graftT a b).l.length:=by rw [graft_len];omega
   obtain ⟨m1,hm1⟩:=hg.ends _ la;obtain ⟨m2,hm2⟩:=hg.ends _ lb
   have e1:=endk_left (B:=[⟨k,a.root,b.root+(a.l.length:Int),[]⟩]) (allRight_in hg.right) m1 _ la hm1
   have e2:=endk_left (B:=[⟨k,a.root,b.root+(a.l.length:Int),[]⟩]) (allRight_in hg.right) m2 _ lb hm2
   refine ⟨max m1 m2+1,?_⟩
   have e3:=endk_mono (Nat.le_max_left m1 m2) e1
   have e4:=endk_mono (Nat.le_max_right m1 m2) e2
   unfold endk
   have eq:(withT k a b).l[a.l.length+b.l.length]? = some ⟨k,a.root,b.root+(a.l.length:Int),[]⟩:=by
    unfold withT
    simp only
    rw [List.getElem?_append_right (by rw [graft_len];omega),graft_len,Nat.sub_self];rfl
   rw [eq]
   simp only
   show (!latB k||_)=true
   rw [Bool.or_eq_true,Bool.and_eq_true];exact .inr ⟨e3,e4⟩
 refine ⟨?_,fun n hn=>?_⟩
 ·unfold mayT
  rw [if_neg (by rw [with_len];omega),if_neg (by rw [with_len,with_root];omega),if_pos ⟨hR,hE⟩]
 ·rcases List.mem_append.1 hn with hn | hn
  ·exact graft_nb ha.nb hb.nb n hn
  ·rw [List.mem_singleton] at hn;subst hn;simp [NB]
theorem movedN_comp (f g:Int->Int) (n:ANd):movedN g (movedN f n)=movedN (fun x=>g (f x)) n:=by
 unfold movedN;simp only [List.map_map]
 congr 1
 ·cases pB n.kind <;> rfl
 ·cases pB n.kind <;> rfl
theorem Emb.comp {s t u:ATy} {f g:Int->Int} (h1:Emb s t f) (h2:Emb t u g) (hin:∀ i,In s i->In t (f i)):Emb s u (fun x=>g (f x)):=⟨fun i hi=>by
 rw [h2.node _ (hin i hi),h1.node i hi,movedN_comp]⟩
theorem kept_img {s t:ATy} {f:Int->Int} (hO:OkT s) (h:Emb s t f) (hin:∀ i,In s i->In t (f i)):Kept t (· ∈ (rngI s.l.length).map f):=(kept_emb hO h hin).congr (fun x=>by
 rw [List.mem_map]
 constructor
 ·rintro ⟨i,hi,rfl⟩;exact ⟨i,mem_rngI.2 hi,rfl⟩
 ·rintro ⟨i,hi,rfl⟩;exact ⟨i,mem_rngI.1 hi,rfl⟩)
theorem root_img {s:ATy} (h:In s s.root) (f:Int->Int):f s.root∈(rngI s.l.length).map f:=List.mem_map.2 ⟨_,mem_rngI.2 h,rfl⟩
theorem img_len (s:ATy) (f:Int->Int):((rngI s.l.length).map f).length=s.l.length:=by rw [List.length_map,rngI_len]
theorem nd_emb {s t:ATy} {f:Int->Int} (h:Emb s t f) {i:Int} (hi:In s i) {k a b:Int} (hk:k=9\/k=10) (hn:nd s i=⟨k,a,b,[]⟩):(nd t (f i)).kind=k/\(nd t (f i)).a=f a/\(nd t (f i)).b=f b:=by
 rw [h.node i hi,hn]
 have:=movedN_ab (f:=f) (n:=⟨k,a,b,[]⟩) (by rcases hk with rfl | rfl;exact .inr (.inl rfl);exact .inr (.inr rfl))
 exact ⟨rfl,this.1,this.2⟩
end Go.Proofs.YtkfnogdccpcmhaaGreatDoor
namespace Go.Proofs.YtkfnogdccpcmhaaGreatDoor
open Go.V
open Classical
theorem setl2 {l1 l3:List Int} {i:Nat} {v:Int} (hv:l1[i]? = some v) (h3:l3.length<=1000000):∃ k:Nat,m_rb_Set_l2 l1 (i:Int) l3 FU 0=some (k:Int)/\k<=l3.length/\(∀ j x,j<k->l3[j]? = some x->x<v)/\∀ x,l3[k]? = some x->¬ x<v:=by
 obtain ⟨o,e1,k,e2,e3,e4,e5⟩:=loop_rng (φ:=fun n k (_:Unit)=>m_rb_Set_l2 l1 (i:Int) l3 n k) (l:=l3) (fun k _=>∀ j x,j<k->l3[j]? = some x->x<v) (fun o=>∃ k:Nat,o=(k:Int)/\k<=l3.length/\(∀ j x,j<k->l3[j]? = some x->x<v)/\∀ x,l3[k]? = some x->¬ x<v)
  (by
   intro n k x s hx hk hI
   simp only [m_rb_Set_l2];rw [dT (show (k:Int)<(l3.length:Int) by omega),cT,getI hx,oB,getI hv,oB]
   by_cases hlt:x<v
   ·left
    rw [dT hlt,cT,grd_pos (by constructor <;> omega)];refine ⟨s,rfl,fun j y hj hy=>?_⟩
    by_cases hjk:j=k
    ·subst hjk;rw [hx] at hy;cases hy;exact hlt
    ·exact hI j y (by omega) hy
   ·right
    rw [dF hlt,cF_];exact ⟨_,rfl,k,rfl,by omega,hI,fun y hy=>by rw [hx] at hy;cases hy;exact hlt⟩)
  (by
   intro n s hI
   simp only [m_rb_Set_l2];rw [dF (by omega),cF_];exact ⟨_,rfl,l3.length,rfl,Nat.le_refl _,hI,fun y hy=>by rw [List.getElem?_eq_none (Nat.le_refl _)] at hy;cases hy⟩) (by rw [FUv];omega) () (by intro j x hj;omega)
 exact ⟨k,by rw [e1,e2],e3,e4,e5⟩
theorem ins_sorted {l:List Int} {k:Nat} {v:Int} (h:l.Pairwise (· < ·)) (hk:k<=l.length) (h1:∀ j x,j<k->l[j]? = some x->x<v) (h2:∀ x,l[k]? = some x->v<x):(l.take k++[v]++l.drop k).Pairwise (· < ·)/\∀ x,x∈l.take k++[v]++l.drop k↔x∈l\/x=v:=by
 have e:l=l.take k++l.drop k:=(List.take_append_drop k l).symm
 have ht:∀ x∈l.take k,x<v:=fun x hx=>by
  obtain ⟨j,hj⟩:=List.getElem?_of_mem hx
  have hj2:j<k:=by have:=(List.getElem?_eq_some_iff.1 hj).1;rw [List.length_take] at this;omega
  rw [List.getElem?_take,if_pos hj2] at hj;exact h1 j x hj2 hj
 have hp:=h
 rw [e,List.pairwise_append] at hp
 have hd:∀ x∈l.drop k,v<x:=fun x hx=>by
  by_cases hkl:k<l.length
  ·have h3:=h2 _ (List.getElem?_eq_getElem hkl)
   rw [List.drop_eq_getElem_cons hkl] at hx
   have h4:=hp.2.1
   rw [List.drop_eq_getElem_cons hkl,List.pairwise_cons] at h4
   rcases List.mem_cons.1 hx with rfl | hx
   ·exact h3
   ·have:=h4.1 x hx;omega
  ·rw [List.drop_eq_nil_of_le (by omega)] at hx;cases hx
 refine ⟨?_,fun x=>?_⟩
 ·rw [List.append_assoc,List.pairwise_append]
  refine ⟨hp.1,?_,fun x hx y hy=>?_⟩
  ·rw [List.cons_append,List.nil_append,List.pairwise_cons];exact ⟨hd,hp.2.1⟩
  ·rw [List.cons_append,List.nil_append] at hy
   rcases List.mem_cons.1 hy with rfl | hy
   ·exact ht x hx
   ·exact hp.2.2 x hx y hy
 ·have e2:x∈l↔x∈l.take k\/x∈l.drop k:=by
   constructor
   ·intro h;rw [e] at h;exact List.mem_append.1 h
   ·intro h;rw [e];exact List.mem_append.2 h
  rw [e2];simp only [List.mem_append,List.mem_singleton]
  constructor
  ·rintro ((h | h) | h)
   ·exact .inl (.inl h)
   ·exact .inr h
   ·exact .inl (.inr h)
  ·rintro ((h | h) | h)
   ·exact .inl (.inl h)
   ·exact .inr h
   ·exact .inl (.inr h)
theorem rset_eq {l:List Int} (hl:l.length<=100000):m_rb_Set l=some (cs l):=by
 unfold m_rb_Set;obtain ⟨o,e1,e2,e3,_⟩:=loop_rng (φ:=fun n i s=>m_rb_Set_l1 l n (i,s)) (l:=l) (fun i s=>s.Pairwise (· < ·)/\(∀ x,x∈s↔x∈l.take i)/\s.length<=i) (fun o=>o.Pairwise (· < ·)/\(∀ x,x∈o↔x∈l)/\o.length<=l.length)
  (by
   rintro n i v s hv hi ⟨h1,h2,h3⟩
   left
   obtain ⟨k,e1,e2,e3,e4⟩:=setl2 hv (l3:=s) (by omega);simp only [m_rb_Set_l1];rw [dT (show (i:Int)<(l.length:Int) by omega),cT,e1,oB]
   have hlt:(s.take k).length=k:=by rw [List.length_take];omega
   have hins:(∀ x,s[k]? = some x->v<x)->(s.take k++[v]++s.drop k).Pairwise (· < ·)/\(∀ x,x∈s.take k++[v]++s.drop k↔x∈l.take (i+1))/\(s.take k++[v]++s.drop k).length<=i+1:=fun h=>by
    obtain ⟨a,b⟩:=ins_sorted h1 e2 e3 h;refine ⟨a,fun x=>by rw [b x,h2 x,takeS hv];simp,?_⟩;simp only [List.length_append,List.length_drop,List.length_cons,List.length_nil];omega
   by_cases hk:k<s.length
   ·have hy:s[k]? = some s[k]:=List.getElem?_eq_getElem hk
    rw [dT (show (k:Int)<(s.length:Int) by omega),cT,getI hy,oB,getI hv,oB]
    by_cases he:s[k]=v
    ·rw [dT he,cT,grd_pos (by constructor <;> omega)]
     refine ⟨_,rfl,h1,fun x=>?_,by omega⟩;rw [h2 x,takeS hv]
     constructor
     ·intro h;exact List.mem_append_left _ h
     ·intro h
      rcases List.mem_append.1 h with h | h
      ·exact h
      ·rw [List.mem_singleton] at h;subst h;exact (h2 _).1 (he▸List.getElem_mem hk)
    ·rw [dF he,cF_,sli_take e2,oB,grd_pos (by omega),oB,grd_pos (by simp only [List.nil_append,List.length_cons,List.length_nil];omega),sli_from rfl e2,oB,grd_pos (by simp only [List.nil_append,List.length_append,List.length_drop,List.length_cons,List.length_nil];omega),grd_pos (by constructor <;> omega)]
     exact ⟨_,rfl,hins fun x hx=>by have:=e4 x hx;rw [hy] at hx;cases hx;omega⟩
   ·rw [dF (by omega),cF_,sli_take e2,oB,grd_pos (by omega),getI hv,oB,grd_pos (by simp only [List.nil_append,List.length_cons,List.length_nil];omega),sli_from rfl e2,oB,grd_pos (by simp only [List.nil_append,List.length_append,List.length_drop,List.length_cons,List.length_nil];omega),grd_pos (by constructor <;> omega)]
    exact ⟨_,rfl,hins fun x hx=>by rw [List.getElem?_eq_none (by omega)] at hx;cases hx⟩)
  (by
   rintro n s ⟨h1,h2,h3⟩;simp only [m_rb_Set_l1];rw [dF (by omega),cF_];exact ⟨s,rfl,h1,fun x=>by rw [h2 x,List.take_length],h3⟩) (by rw [FUv];omega) [] ⟨List.Pairwise.nil,by simp,by simp⟩
 rw [e1,oB,cs_uniq e2 e3]
theorem dec_find (l:List Int) (g:Int->Bool):decide (0<=(match l.findIdx? g with | some i=>(i:Int) | none => -1))=l.any g:=by
 cases hf:l.findIdx? g with
 | none =>
  have:l.any g=false:=by
   rw [List.any_eq_false]
   intro x hx
   have:=List.findIdx?_eq_none_iff.1 hf x hx
   simp [this]
  rw [this];rfl
 | some i =>
  obtain ⟨hi,h1,_⟩:=List.findIdx?_eq_some_iff_getElem.1 hf;rw [List.any_eq_true.2 ⟨l[i],List.getElem_mem hi,h1⟩];exact dT (by show (0:Int)<=(i:Int);omega)
theorem rfind_eq {t:ATy} {l:List Int} (h:∀ i∈l,In t i) (hl:l.length<=1000) (k:Int):m_rb_find t l k=some (match l.findIdx? (fun i=>decide ((nd t i).kind=k)) with | some i=>(i:Int) | none => -1):=by
 unfold m_rb_find;rw [loop_find (φ:=m_rb_find_l1 t l k) (l:=l) (fun i=>(i:Int)) (fun i=>decide ((nd t i).kind=k)) ?_ ?_ (by rw [FUv];omega)]
 ·rw [oB]
  cases l.findIdx? (fun i=>decide ((nd t i).kind=k)) <;> rfl
 ·intro n i x hx hi
  simp only [m_rb_find_l1];rw [dT (show (i:Int)<(l.length:Int) by omega),cT,getI hx,oB,getN (h x (List.mem_of_getElem? hx)),oB];exact ⟨fun hq=>by rw [hq,cF_,grd_pos (by constructor <;> omega)],fun hq=>by rw [hq,cT]⟩
 ·intro n
  simp only [m_rb_find_l1];rw [dF (by omega),cF_]
theorem rfirst_eq {t:ATy} {l:List Int} (h:∀ i∈l,In t i) (hl:l.length<=1000):m_rb_first t l 9 10=some (match l.findIdx? (fun i=>latB (nd t i).kind) with | some i=>(i:Int) | none => -1):=by
 unfold m_rb_first;rw [loop_find (φ:=m_rb_first_l1 t l 9 10) (l:=l) (fun i=>(i:Int)) (fun i=>latB (nd t i).kind) ?_ ?_ (by rw [FUv];omega)]
 ·rw [oB]
  cases l.findIdx? (fun i=>latB (nd t i).kind) <;> rfl
 ·intro n i x hx hi
  simp only [m_rb_first_l1];rw [dT (show (i:Int)<(l.length:Int) by omega),cT,getI hx,oB,getN (h x (List.mem_of_getElem? hx)),oB]
  change (latB (nd t x).kind=false->(bif latB (nd t x).kind then _ else _)=_)/\(latB (nd t x).kind=true->(bif latB (nd t x).kind then _ else _)=_)
  exact ⟨fun hq=>by rw [hq,cF_,grd_pos (by constructor <;> omega)],fun hq=>by rw [hq,cT]⟩
 ·intro n
  simp only [m_rb_first_l1];rw [dF (by omega),cF_]
theorem rswap_eq {l m:List Int} {i:Nat} (hi:i<l.length) (hl:l.length<=1000) (hm:m.length<=1000):m_rb_swap l (i:Int) m=some (cs (l.take i++l.drop (i+1)++m)):=by
 unfold m_rb_swap;rw [sli_take (by omega),oB,grd_pos (by rw [List.length_take];omega),grd_pos (by constructor <;> omega),show ((i:Int)+1)=((i+1:Nat):Int) by omega,sli_from rfl (by omega),oB,grd_pos (by simp only [List.nil_append,List.length_take,List.length_drop];omega),grd_pos (by simp only [List.nil_append,List.length_append,List.length_take,List.length_drop];omega),List.nil_append,rset_eq (by simp only [List.length_append,List.length_take,List.length_drop];omega),oB]
theorem rpart_eq {n:ANd} (h:NB n) (s:List UInt8):m_rb_part n s=some ((atN n s).getD (-1)):=by
 have h40:n.l.length<=40:=h
 unfold m_rb_part;obtain ⟨o,e1,e2⟩:=loop_rng (φ:=fun k i (_:Unit)=>m_rb_part_l1 n s k i) (l:=n.l) (fun i _=>(n.l.take i).find? (fun f=>decide (f.name=s))=none) (fun o=>o.on (fun r=>some r) (fun _=>some (-1))=some ((atN n s).getD (-1)))
  (by
   intro k i x u hx hi hI
   simp only [m_rb_part_l1];rw [dT (show (i:Int)<(n.l.length:Int) by omega),cT,getI hx,oB]
   by_cases hs:x.name=s
   ·right
    rw [dT hs,cT,oB];refine ⟨_,rfl,?_⟩
    have e:n.l=n.l.take i++x::n.l.drop (i+1):=by
     have hx2:=(List.getElem?_eq_some_iff.1 hx).2
     rw [<- hx2,<- List.drop_eq_getElem_cons hi,List.take_append_drop]
    have:atN n s=some x.at_:=by
     unfold atN;rw [e,List.find?_append,hI,List.find?_cons_of_pos (by simpa using hs)];rfl
    rw [this];rfl
   ·left
    rw [dF hs,cF_,grd_pos (by constructor <;> omega)];refine ⟨u,rfl,?_⟩;rw [takeS hx,List.find?_append,hI,List.find?_cons_of_neg (by simpa using hs)];rfl)
  (by
   intro k u hI
   simp only [m_rb_part_l1];rw [dF (by omega),cF_];refine ⟨_,rfl,?_⟩;rw [List.take_length] at hI;unfold atN;rw [hI];rfl) (by rw [FUv];omega) () (by simp)
 rw [e1,oB,e2]
theorem rparts_eq {t:ATy} (hO:OkT t) (hN:∀ n∈t.l,NB n) {l:List Int} (h:∀ i∈l,In t i) (hl:l.length<=1000) (s:List UInt8):m_rb_parts t l s=some (cs (partsA t l s)):=by
 unfold m_rb_parts
 have hlen:∀ m:List Int,m.length<=1000->(partsA t m s).length<=1000:=fun m hm=>Nat.le_trans (List.length_filterMap_le _ _) hm
 obtain ⟨o,e1,e2⟩:=loop_rng (φ:=fun k i q=>m_rb_parts_l1 t l s k (i,q)) (l:=l) (fun i q=>q=partsA t (l.take i) s) (fun o=>o=partsA t l s)
  (by
   rintro k i x q hx hi rfl
   left
   have hxi:=h x (List.mem_of_getElem? hx)
   have hl2:=hlen (l.take i) (by rw [List.length_take];omega)
   simp only [m_rb_parts_l1];rw [dT (show (i:Int)<(l.length:Int) by omega),cT,getI hx,oB,getN hxi,oB,rpart_eq (hN _ (nd_mem hxi)),oB]
   have ep:partsA t (l.take (i+1)) s=partsA t (l.take i) s++(atN (nd t x) s).toList:=by
    rw [takeS hx];unfold partsA;rw [List.filterMap_append]
    congr 1
   rw [ep]
   cases ha:atN (nd t x) s with
   | none =>
    rw [show decide (0<=(none:Option Int).getD (-1))=false from rfl,cF_,grd_pos (by constructor <;> omega)];exact ⟨_,rfl,by simp⟩
   | some z =>
    have hz:=(atN_in hO hxi ha).1
    rw [show (some z).getD (-1)=z from rfl,dT hz,cT,grd_pos (by simp only [List.length_cons,List.length_nil];omega),grd_pos (by constructor <;> omega)];exact ⟨_,rfl,by simp⟩)
  (by
   rintro k q rfl;simp only [m_rb_parts_l1];rw [dF (by omega),cF_];exact ⟨_,rfl,by rw [List.take_length]⟩) (by rw [FUv];omega) [] (by simp [partsA])
 rw [e1,oB,e2,rset_eq (by have:=hlen l hl;omega),oB]
theorem rcount_eq {t:ATy} (hO:OkT t) (hN:∀ n∈t.l,NB n) {l:List Int} (h:∀ i∈l,In t i) (hl:l.length<=1000) (s:List UInt8):m_rb_countOf t l s=some ((partsA t l s).length:Int):=by
 unfold m_rb_countOf
 have hlen:∀ m:List Int,m.length<=1000->(partsA t m s).length<=1000:=fun m hm=>Nat.le_trans (List.length_filterMap_le _ _) hm
 obtain ⟨o,e1,e2⟩:=loop_rng (φ:=fun k i q=>m_rb_countOf_l1 t l s k (q,i)) (l:=l) (fun i q=>q=((partsA t (l.take i) s).length:Int)) (fun o=>o=((partsA t l s).length:Int))
  (by
   rintro k i x q hx hi rfl
   left
   have hxi:=h x (List.mem_of_getElem? hx)
   have hl2:=hlen (l.take i) (by rw [List.length_take];omega)
   simp only [m_rb_countOf_l1];rw [dT (show (i:Int)<(l.length:Int) by omega),cT,getI hx,oB,getN hxi,oB,rpart_eq (hN _ (nd_mem hxi)),oB]
   have ep:partsA t (l.take (i+1)) s=partsA t (l.take i) s++(atN (nd t x) s).toList:=by
    rw [takeS hx];unfold partsA;rw [List.filterMap_append]
    congr 1
   rw [ep]
   cases ha:atN (nd t x) s with
   | none =>
    rw [show decide (0<=(none:Option Int).getD (-1))=false from rfl,cF_,grd_pos (by constructor <;> omega)];exact ⟨_,rfl,by simp⟩
   | some z =>
    have hz:=(atN_in hO hxi ha).1
    rw [show (some z).getD (-1)=z from rfl,dT hz,cT,grd_pos (by constructor <;> omega),grd_pos (by constructor <;> omega)];exact ⟨_,rfl,by simp⟩)
  (by
   rintro k q rfl;simp only [m_rb_countOf_l1];rw [dF (by omega),cF_];exact ⟨_,rfl,by rw [List.take_length]⟩) (by rw [FUv];omega) 0 (by simp [partsA])
 rw [e1,oB,e2]
theorem rof_eq {t:ATy} {l:List Int} (h:∀ i∈l,In t i) (hl:l.length<=1000) (k:Int):m_rb_of t l k=some (ofK t l k):=by
 unfold m_rb_of
 have hlen:∀ m:List Int,m.length<=1000->(ofK t m k).length<=1000:=fun m hm=>Nat.le_trans (List.length_filter_le _ _) hm
 obtain ⟨o,e1,e2⟩:=loop_rng (φ:=fun n i q=>m_rb_of_l1 t l k n (i,q)) (l:=l) (fun i q=>q=ofK t (l.take i) k) (fun o=>o=ofK t l k)
  (by
   rintro n i x q hx hi rfl
   left
   have hxi:=h x (List.mem_of_getElem? hx)
   have hl2:=hlen (l.take i) (by rw [List.length_take];omega)
   simp only [m_rb_of_l1];rw [dT (show (i:Int)<(l.length:Int) by omega),cT,getI hx,oB,getN hxi,oB]
   have ep:ofK t (l.take (i+1)) k=ofK t (l.take i) k++(if (nd t x).kind=k then [x] else []):=by
    rw [takeS hx];unfold ofK;rw [List.filter_append]
    congr 1
    by_cases hk:(nd t x).kind=k
    ·simp [hk]
    ·simp [hk]
   rw [ep]
   by_cases hk:(nd t x).kind=k
   ·rw [dT hk,cT,oB,grd_pos (by simp only [List.length_cons,List.length_nil];omega),grd_pos (by constructor <;> omega),if_pos hk]
    exact ⟨_,rfl,rfl⟩
   ·rw [dF hk,cF_,grd_pos (by constructor <;> omega),if_neg hk,List.append_nil]
    exact ⟨_,rfl,rfl⟩)
  (by
   rintro n q rfl;simp only [m_rb_of_l1];rw [dF (by omega),cF_];exact ⟨_,rfl,by rw [List.take_length]⟩) (by rw [FUv];omega) [] (by simp [ofK])
 rw [e1,oB,e2]
theorem all_parts {t:ATy} {l:List Int} {s:List UInt8}:(partsA t l s).length=l.length↔(l.all fun j=>(atN (nd t j) s).isSome)=true:=by
 obtain ⟨h1,h2⟩:=fm_len (f:=fun i=>atN (nd t i) s) l;unfold partsA;rw [List.all_eq_true]
 constructor
 ·intro h j hj
  have:=h2.1 (by omega) j hj
  cases hq:atN (nd t j) s with
  | none=>exact absurd hq this
  | some _=>rfl
 ·intro h
  have:=h2.2 fun j hj=>by have:=h j hj;cases hq:atN (nd t j) s with
   | none=>rw [hq] at this;cases this
   | some _=>simp
  omega
theorem rnames_eq {t:ATy} (hO:OkT t) (hN:∀ n∈t.l,NB n) {l:List Int} (h:∀ i∈l,In t i) (hl:l.length<=1000) (hne:l≠[]):m_rb_names t l=some (namesA t l):=by
 obtain ⟨a,m,rfl⟩:=List.exists_cons_of_ne_nil hne
 have ha:=h a (by simp)
 have h40:(nd t a).l.length<=40:=hN _ (nd_mem ha)
 have hnd:=named_nodup (right_named (hO.right _ (nd_mem ha)))
 unfold m_rb_names
 have i0:idx (a::m) 0=some a:=rfl
 obtain ⟨o,e1,e2⟩:=loop_rng (φ:=fun n i q=>m_rb_names_l1 t (a::m) n (i,q)) (l:=(nd t a).l) (fun i q=>q=(((nd t a).l.take i).map (·.name)).filter fun s=>(a::m).all fun j=>(atN (nd t j) s).isSome) (fun o=>o=namesA t (a::m))
  (by
   rintro n i x q hx hi rfl
   left
   have hql:((((nd t a).l.take i).map (·.name)).filter fun s=>(a::m).all fun j=>(atN (nd t j) s).isSome).length<=40:=Nat.le_trans (List.length_filter_le _ _) (by rw [List.length_map,List.length_take];omega)
   have hnot:x.name∉(((nd t a).l.take i).map (·.name)).filter fun s=>(a::m).all fun j=>(atN (nd t j) s).isSome:=by
    intro hm
    have hm2:=(List.mem_filter.1 hm).1
    have e:(nd t a).l.map (·.name)=((nd t a).l.take i).map (·.name)++x.name::((nd t a).l.drop (i+1)).map (·.name):=by
     have hx2:=(List.getElem?_eq_some_iff.1 hx).2
     rw [<- hx2,<- List.map_cons,<- List.drop_eq_getElem_cons hi,<- List.map_append,List.take_append_drop]
    rw [e,List.nodup_append] at hnd;exact hnd.2.2 _ hm2 _ (List.mem_cons_self) rfl
   simp only [m_rb_names_l1];rw [i0,oB,getN ha,oB,dT (show (i:Int)<((nd t a).l.length:Int) by omega),cT,oB,getN ha,oB,getI hx,oB,rparts_eq hO hN h hl,oB,rcount_eq hO hN h hl,oB,rIsKey_eq _ _ (by omega),dF hnot]
   have hlast:(((nd t a).l.take (i+1)).map (·.name)).filter (fun s=>(a::m).all fun j=>(atN (nd t j) s).isSome)=(((nd t a).l.take i).map (·.name)).filter (fun s=>(a::m).all fun j=>(atN (nd t j) s).isSome)++(if ((a::m).all fun j=>(atN (nd t j) x.name).isSome)=true then [x.name] else []):=by
    rw [takeS hx,List.map_append,List.filter_append]
    congr 1
    by_cases hk:((a::m).all fun j=>(atN (nd t j) x.name).isSome)=true
    ·rw [if_pos hk,List.map_cons,List.map_nil,List.filter_cons_of_pos (by exact hk)];rfl
    ·rw [if_neg hk,List.map_cons,List.map_nil,List.filter_cons_of_neg (by exact hk)];rfl
   by_cases hall:((a::m).all fun j=>(atN (nd t j) x.name).isSome)=true
   ·have hlen:=all_parts.2 hall
    have hpos:0<(cs (partsA t (a::m) x.name)).length:=by
     have hp:0<(partsA t (a::m) x.name).length:=by rw [hlen];simp
     obtain ⟨y,hy⟩:=List.exists_mem_of_length_pos hp;exact List.length_pos_of_mem (mem_cs.2 hy)
    rw [dT (show (0:Int)<((cs (partsA t (a::m) x.name)).length:Int) by omega),cT,oB,dT (by omega),cT,oB,Bool.not_false,oB,cT,grd_pos (by simp only [List.length_cons,List.length_nil];omega),grd_pos (by constructor <;> omega)];exact ⟨_,rfl,by rw [hlast,if_pos hall]⟩
   ·have hlen:¬ (partsA t (a::m) x.name).length=(a::m).length:=fun e=>hall (all_parts.1 e)
    have e0:((bif decide (0<((cs (partsA t (a::m) x.name)).length:Int)) then some (decide (((partsA t (a::m) x.name).length:Int)=((a::m).length:Int))) else some false):Option Bool)=some false:=by
     rw [dF (show ¬ ((partsA t (a::m) x.name).length:Int)=((a::m).length:Int) by omega)]
     cases decide (0<((cs (partsA t (a::m) x.name)).length:Int)) <;> rfl
    rw [e0,oB,cF_,oB,cF_,grd_pos (by constructor <;> omega)];exact ⟨_,rfl,by rw [hlast,if_neg hall,List.append_nil]⟩)
  (by
   rintro n q rfl;simp only [m_rb_names_l1];rw [i0,oB,getN ha,oB,dF (by omega),cF_];exact ⟨_,rfl,by rw [List.take_length];rfl⟩) (by rw [FUv];omega) [] (by simp)
 rw [e1,oB,e2]
end Go.Proofs.YtkfnogdccpcmhaaGreatDoor
namespace Go.Proofs.YtkfnogdccpcmhaaGreatDoor
open Go.V
open Classical
def toS (q:BSq):RSeq:=⟨q.left,q.right⟩
def ofS (q:RSeq):BSq:=⟨q.l,q.r⟩
theorem rheads6 {t:ATy} {l r:List Int} (hL:∀ i∈l,In t i) (hR:∀ i∈r,In t i) (hl:l.length<=1000) (hr:r.length<=1000) :
  (m_rb_heads_l1 t l FU (0,[],[],[],[])).bind (fun (l2,l3,l4,l5)=>(m_rb_heads_l2 t r FU (0,l2,l3,l4,l5)).bind fun (l10,l11,l12,l13)=>some (l10,l11,l12,l13))=some (r.map (fun i=>(nd t i).b),l.map (fun i=>(nd t i).b),l.map (fun i=>(nd t i).a),r.map (fun i=>(nd t i).a)):=by
 obtain ⟨o,e1,e2⟩:=loop_rng (φ:=fun n i s=>m_rb_heads_l1 t l n (i,s)) (l:=l) (fun i s=>s=([],(l.take i).map (fun i=>(nd t i).b),(l.take i).map (fun i=>(nd t i).a),[])) (fun o=>o=([],l.map (fun i=>(nd t i).b),l.map (fun i=>(nd t i).a),[]))
  (by
   rintro n i x s hx hi rfl
   left
   have hxm:=List.mem_of_getElem? hx
   have hti:(l.take i).length<=1000:=by rw [List.length_take];omega
   simp only [m_rb_heads_l1];rw [dT (show (i:Int)<(l.length:Int) by omega),cT,getI hx,oB,getN (hL x hxm),oB,grd_pos (by simp only [List.length_map,List.length_cons,List.length_nil];omega),oB,getN (hL x hxm),oB,grd_pos (by simp only [List.length_map,List.length_cons,List.length_nil];omega),grd_pos (by constructor <;> omega)];refine ⟨_,rfl,?_⟩;rw [takeS hx];simp)
  (by
   rintro n s rfl;simp only [m_rb_heads_l1];rw [dF (by omega),cF_];exact ⟨_,rfl,by simp⟩) (by rw [FUv];omega) ([],[],[],[]) (by simp)
 rw [e1,oB,e2];obtain ⟨o,e3,e4⟩:=loop_rng (φ:=fun n i s=>m_rb_heads_l2 t r n (i,s)) (l:=r) (fun i s=>s=((r.take i).map (fun i=>(nd t i).b),l.map (fun i=>(nd t i).b),l.map (fun i=>(nd t i).a),(r.take i).map (fun i=>(nd t i).a))) (fun o=>o=(r.map (fun i=>(nd t i).b),l.map (fun i=>(nd t i).b),l.map (fun i=>(nd t i).a),r.map (fun i=>(nd t i).a)))
  (by
   rintro n i x s hx hi rfl
   left
   have hxm:=List.mem_of_getElem? hx
   have hti:(r.take i).length<=1000:=by rw [List.length_take];omega
   simp only [m_rb_heads_l2];rw [dT (show (i:Int)<(r.length:Int) by omega),cT,getI hx,oB,getN (hR x hxm),oB,grd_pos (by simp only [List.length_map,List.length_cons,List.length_nil];omega),oB,getN (hR x hxm),oB,grd_pos (by simp only [List.length_map,List.length_cons,List.length_nil];omega),grd_pos (by constructor <;> omega)];refine ⟨_,rfl,?_⟩;rw [takeS hx];simp)
  (by
   rintro n s rfl;simp only [m_rb_heads_l2];rw [dF (by omega),cF_];exact ⟨_,rfl,by simp⟩) (by rw [FUv];omega) ([],l.map (fun i=>(nd t i).b),l.map (fun i=>(nd t i).a),[]) (by simp)
 simp only
 rw [e3,oB,e4]
theorem on_go15 {R S T:Type} (u:S) (f:R->Option T) (g:S->Option T):(Out.go u:Out R S).on f g=g u:=rfl
theorem isEmpty_len {α:Type} (l:List α):decide ((l.length:Int)=0)=l.isEmpty:=by
 cases l with
 | nil=>rfl
 | cons a l=>exact dF (by simp only [List.length_cons];omega)
theorem cs_empty (l:List Int):(cs l).isEmpty=l.isEmpty:=by
 cases h:l with
 | nil =>
  have:cs []=[]:=by rw [List.eq_nil_iff_forall_not_mem];intro x hx;exact absurd (mem_cs.1 hx) (by simp)
  rw [this]
 | cons a m =>
  have:a∈cs (a::m):=mem_cs.2 (by simp)
  cases hq:cs (a::m) with
  | nil=>rw [hq] at this;cases this
  | cons _ _=>rfl
theorem rheads_l3 {t:ATy} (hO:OkT t) (hN:∀ n∈t.l,NB n) {l r:List Int} (hL:∀ i∈l,In t i) (hR:∀ i∈r,In t i) (hl:l.length<=1000) (hr:r.length<=1000) (all:List (List UInt8)) (ha:all.length<=1000) :
  (m_rb_heads_l3 t l r all FU (0,[])).bind (fun oo=>oo.on (fun r2=>some r2) (fun l18=>some (l18,true)))=some (if all.any (badA t l r)=true then ([],false) else (all.map fun s=>⟨cs (partsA t l s),cs (partsA t r s)⟩,true)):=by
 obtain ⟨o,e1,e2⟩:=loop_rng (φ:=fun n i s=>m_rb_heads_l3 t l r all n (i,s)) (l:=all) (fun i s=>s=(all.take i).map (fun s=>(⟨cs (partsA t l s),cs (partsA t r s)⟩:RSeq))/\(all.take i).any (badA t l r)=false) (fun oo=>oo.on (fun r2=>some r2) (fun l18=>some (l18,true))=some (if all.any (badA t l r)=true then ([],false) else (all.map fun s=>⟨cs (partsA t l s),cs (partsA t r s)⟩,true)))
  (by
   rintro n i x s hx hi ⟨rfl,hb⟩
   have hti:(all.take i).length<=1000:=by rw [List.length_take];omega
   simp only [m_rb_heads_l3];rw [dT (show (i:Int)<(all.length:Int) by omega),cT,getI hx,oB,rparts_eq hO hN hL hl,oB,oB,rparts_eq hO hN hR hr,oB,isEmpty_len,isEmpty_len,cs_empty,cs_empty]
   change (∃ s',(bif badA t l r x then _ else _)=_/\_)\/(∃ o,(bif badA t l r x then _ else _)=_/\_)
   cases hbx:badA t l r x with
   | true =>
    right
    rw [cT];refine ⟨_,rfl,?_⟩;rw [if_pos (List.any_eq_true.2 ⟨x,List.mem_of_getElem? hx,hbx⟩)];rfl
   | false =>
    left
    rw [cF_,grd_pos (by simp only [List.length_map,List.length_cons,List.length_nil];omega),grd_pos (by constructor <;> omega)];refine ⟨_,rfl,by rw [takeS hx];simp,?_⟩;rw [takeS hx,List.any_append,hb];simp [hbx])
  (by
   rintro n s ⟨rfl,hb⟩;simp only [m_rb_heads_l3];rw [dF (by omega),cF_];rw [List.take_length] at hb ⊢;exact ⟨_,rfl,by rw [hb];rfl⟩) (by rw [FUv];omega) [] ⟨by simp,by simp⟩
 rw [e1,oB,e2]
theorem names_small {t:ATy} (hN:∀ n∈t.l,NB n) {l:List Int} (h:∀ i∈l,In t i):(namesA t l).length<=1000:=by
 cases l with
 | nil=>simp [namesA]
 | cons a m =>
  have h40:(nd t a).l.length<=40:=hN _ (nd_mem (h a (by simp)))
  unfold namesA;exact Nat.le_trans (List.length_filter_le _ _) (by rw [List.length_map];omega)
theorem rheads_eq {t:ATy} (hO:OkT t) (hN:∀ n∈t.l,NB n) {l r:List Int} {k:Int} (hL:∀ i∈l,In t i) (hR:∀ i∈r,In t i) (hl:l.length<=1000) (hr:r.length<=1000) (hlne:l≠[]) :
  m_rb_heads t k l r=some ((headsA t k l r).2.map toS,!(headsA t k l r).1):=by
 unfold m_rb_heads headsA;rw [isEmpty_len]
 by_cases h0:k≠8/\r=[]
 ·rw [if_pos h0,dF h0.1,h0.2];rfl
 ·rw [if_neg h0]
  have e0:((!decide (k=8))&&r.isEmpty)=false:=by
   by_cases h8:k=8
   ·rw [dT h8];rfl
   ·rw [dF h8]
    cases r with
    | nil=>exact absurd ⟨h8,rfl⟩ h0
    | cons _ _=>rfl
  rw [e0,cF_]
  by_cases h6:k=6
  ·rw [dT h6,cT,if_pos h6]
   have e1:=rheads6 hL hR hl hr
   rw [Option.bind_eq_some_iff] at e1;obtain ⟨⟨l2,l3,l4,l5⟩,e2,e3⟩:=e1;rw [Option.bind_eq_some_iff] at e3;obtain ⟨⟨l10,l11,l12,l13⟩,e4,e5⟩:=e3;simp only [Option.some.injEq,Prod.mk.injEq] at e5;obtain ⟨rfl,rfl,rfl,rfl⟩:=e5;rw [e2,oB]
   simp only
   rw [e4,oB]
   simp only
   rw [rset_eq (by simp;omega),oB,rset_eq (by simp;omega),oB,rset_eq (by simp;omega),oB,rset_eq (by simp;omega),oB]
   rfl
  ·rw [dF h6,cF_,if_neg h6]
   have hrne:k=7->r≠[]:=fun h7 e=>h0 ⟨by omega,e⟩
   have eall:((bif (decide (k=7)) then (m_rb_names t r).bind fun x13=>some x13 else some []:Option (List (List UInt8))).bind fun all1=>(bif (decide (k=8)) then (m_rb_names t l).bind fun x14=>some x14 else some all1:Option (List (List UInt8))))=some (allA t k l r):=by
    unfold allA
    by_cases h7:k=7
    ·rw [dT h7,cT,if_pos h7,rnames_eq hO hN hR hr (hrne h7),oB,oB,dF (by omega),cF_]
    ·rw [dF h7,cF_,if_neg h7,oB]
     by_cases h8:k=8
     ·rw [dT h8,cT,if_pos h8,rnames_eq hO hN hL hl hlne,oB]
     ·rw [dF h8,cF_,if_neg h8]
   have hsm:(allA t k l r).length<=1000:=by
    unfold allA
    split
    ·exact names_small hN hR
    ·split
     ·exact names_small hN hL
     ·simp
   rw [<- Option.bind_assoc,eall,oB,rheads_l3 hO hN hL hR hl hr _ hsm]
   by_cases hb:(allA t k l r).any (badA t l r)=true
   ·rw [if_pos hb,if_pos hb];rfl
   ·rw [if_neg hb,if_neg hb];simp [toS,Function.comp_def]
theorem share_eq {t:ATy} {q:BSq} (hq:InQ t q) (h1:q.left.length<=500) (h2:q.right.length<=500):m_rb_Leads_l1 t (toS q) FU 0=some (if shareA t q=true then .ret ([],true) else .go ()):=by
 have hl2:∀ (i:Nat) x,q.left[i]? = some x->m_rb_Leads_l2 t (toS q) (i:Int) FU 0=some (if (q.right.any fun j=>decide ((nd t x).kind=11)&&decide ((nd t j).kind=11)&&decide ((nd t x).a=(nd t j).a))=true then .ret ([],true) else .go ()):=by
  intro i x hx
  rw [loop_any (φ:=m_rb_Leads_l2 t (toS q) (i:Int)) (l:=q.right) ([],true) (fun _ j=>(decide ((nd t x).kind=11)&&decide ((nd t j).kind=11)&&decide ((nd t x).a=(nd t j).a))=true) ?_ ?_ (by rw [FUv];omega)]
  ·congr 1
   have e:(∃ (k:Nat) (j:Int),q.right[k]? = some j/\(decide ((nd t x).kind=11)&&decide ((nd t j).kind=11)&&decide ((nd t x).a=(nd t j).a))=true)↔(q.right.any fun j=>decide ((nd t x).kind=11)&&decide ((nd t j).kind=11)&&decide ((nd t x).a=(nd t j).a))=true:=by
    rw [List.any_eq_true]
    constructor
    ·rintro ⟨k,j,hk,h⟩;exact ⟨j,List.mem_of_getElem? hk,h⟩
    ·rintro ⟨j,hj,h⟩;obtain ⟨k,hk⟩:=List.getElem?_of_mem hj;exact ⟨k,j,hk,h⟩
   by_cases hc:(q.right.any fun j=>decide ((nd t x).kind=11)&&decide ((nd t j).kind=11)&&decide ((nd t x).a=(nd t j).a))=true
   ·rw [if_pos (e.2 hc),if_pos hc]
   ·rw [if_neg (fun h=>hc (e.1 h)),if_neg hc]
  ·intro n k j hj hk
   simp only [m_rb_Leads_l2]
   have e1:idx (toS q).l (i:Int)=some x:=getI hx
   have e2:idx (toS q).r (k:Int)=some j:=getI hj
   rw [dT (show (k:Int)<((toS q).r.length:Int) by show (k:Int)<(q.right.length:Int);omega),cT,e1,oB,getN (hq.1 x (List.mem_of_getElem? hx)),oB,e2,oB,getN (hq.2 j (List.mem_of_getElem? hj)),oB]
   constructor
   ·intro hc;rw [show (decide ((nd t x).kind=11)&&decide ((nd t j).kind=11)&&decide ((nd t x).a=(nd t j).a))=false by simpa using hc,cF_,grd_pos (by constructor <;> omega)]
   ·intro hc;rw [hc,cT]
  ·intro n
   simp only [m_rb_Leads_l2];rw [dF (by show ¬ (q.right.length:Int)<(q.right.length:Int);omega),cF_]
 rw [loop_any (φ:=m_rb_Leads_l1 t (toS q)) (l:=q.left) ([],true) (fun _ x=>(q.right.any fun j=>decide ((nd t x).kind=11)&&decide ((nd t j).kind=11)&&decide ((nd t x).a=(nd t j).a))=true) ?_ ?_ (by rw [FUv];omega)]
 ·congr 1
  unfold shareA
  have e:(∃ (k:Nat) (x:Int),q.left[k]? = some x/\(q.right.any fun j=>decide ((nd t x).kind=11)&&decide ((nd t j).kind=11)&&decide ((nd t x).a=(nd t j).a))=true)↔(q.left.any fun x=>q.right.any fun j=>decide ((nd t x).kind=11)&&decide ((nd t j).kind=11)&&decide ((nd t x).a=(nd t j).a))=true:=by
   rw [List.any_eq_true]
   constructor
   ·rintro ⟨k,j,hk,h⟩;exact ⟨j,List.mem_of_getElem? hk,h⟩
   ·rintro ⟨j,hj,h⟩;obtain ⟨k,hk⟩:=List.getElem?_of_mem hj;exact ⟨k,j,hk,h⟩
  by_cases hc:(q.left.any fun x=>q.right.any fun j=>decide ((nd t x).kind=11)&&decide ((nd t j).kind=11)&&decide ((nd t x).a=(nd t j).a))=true
  ·rw [if_pos (e.2 hc),if_pos hc]
  ·rw [if_neg (fun h=>hc (e.1 h)),if_neg hc]
 ·intro n i x hx hi
  simp only [m_rb_Leads_l1];rw [dT (show (i:Int)<((toS q).l.length:Int) by show (i:Int)<(q.left.length:Int);omega),cT,hl2 i x hx,oB]
  constructor
  ·intro hc;rw [if_neg hc]
   rw [on_go15,grd_pos (by constructor <;> omega)]
  ·intro hc;rw [if_pos hc];rfl
 ·intro n
  simp only [m_rb_Leads_l1];rw [dF (by show ¬ (q.left.length:Int)<(q.left.length:Int);omega),cF_]
theorem l3_step {t:ATy} {q:BSq} (hq:InQ t q) (h1:q.left.length<=500) (n:Nat) (i:Int) (hi:3<=i/\i<=8) (l:List Int) (hl:l.length<=100) :
  m_rb_Leads_l3 t (toS q) (n+1) (i,l)=m_rb_Leads_l3 t (toS q) n (i+1,l++(if (q.left.any fun j=>decide ((nd t j).kind=i))=true then [i] else [])):=by
 simp only [m_rb_Leads_l3];rw [dT hi.2,cT,show (toS q).l=q.left from rfl,rfind_eq hq.1 (by omega),oB,dec_find]
 by_cases hc:(q.left.any fun j=>decide ((nd t j).kind=i))=true
 ·rw [hc,cT,grd_pos (by simp only [List.length_cons,List.length_nil];omega),grd_pos (by constructor <;> omega),if_pos rfl]
 ·have hc2:(q.left.any fun j=>decide ((nd t j).kind=i))=false:=by simpa using hc
  rw [hc2,cF_,grd_pos (by constructor <;> omega),if_neg (by simp),List.append_nil]
theorem filt_cons (p:Int->Bool) (a:Int) (l:List Int):List.filter p (a::l)=(if p a=true then [a] else [])++List.filter p l:=by
 by_cases h:p a=true
 ·rw [List.filter_cons_of_pos h,if_pos h];rfl
 ·rw [List.filter_cons_of_neg h,if_neg h];rfl
def ints (i:Int):Nat->List Int
 | 0=>[]
 | m+1=>i::ints (i+1) m
theorem l3_run {t:ATy} {q:BSq} (hq:InQ t q) (h1:q.left.length<=500):∀ (m n:Nat) (i:Int) (l:List Int),3<=i->i+m=9->l.length+m<=100 ->
  m_rb_Leads_l3 t (toS q) (n+m+1) (i,l)=some (l++(ints i m).filter fun k=>q.left.any fun j=>decide ((nd t j).kind=k))
 | 0,n,i,l,h3,h9,hl=>by
  simp only [m_rb_Leads_l3];rw [dF (by omega),cF_]
  simp [ints]
 | m+1,n,i,l,h3,h9,hl=>by
  rw [show n+(m+1)+1=(n+m+1)+1 from rfl,l3_step hq h1 _ i (by omega) l (by omega)]
  have hle:(if (q.left.any fun j=>decide ((nd t j).kind=i))=true then [i] else []:List Int).length<=1:=by split <;> simp
  rw [l3_run hq h1 m n (i+1) _ (by omega) (by omega) (by rw [List.length_append];omega)];rw [show ints i (m+1)=i::ints (i+1) m from rfl,filt_cons,List.append_assoc]
theorem rkinds_eq {t:ATy} {q:BSq} (hq:InQ t q) (h1:q.left.length<=500):m_rb_Leads_l3 t (toS q) FU (3,[])=some (kindsA t q.left):=by
 have:=l3_run hq h1 6 18446744073709551609 3 [] (by omega) (by omega) (by simp)
 rw [show FU=18446744073709551609+6+1 from rfl,this,List.nil_append]
 rfl
theorem rlat_eq {t:ATy} {l:List Int} (h:∀ i∈l,In t i) (hl:l.length<=500) {α:Type} (K:ANd->(List Int->Option (List Int))->Option α) (Z:Option α) (hK:∀ n f g,(∀ m:List Int,m.length<=2->f m=g m)->K n f=K n g) :
  (m_rb_first t l 9 10).bind (fun x3=>bif (decide (0<=x3)) then (idx l x3).bind fun x4=>(idx t.l x4).bind fun x5=>K x5 (fun m=>m_rb_swap l x3 m) else Z)=(match latA t l with | some (n,rest)=>K n (fun m=>some (cs (rest++m))) | none=>Z):=by
 rw [rfirst_eq h (by omega),oB];unfold latA
 cases hf:l.findIdx? (fun i=>latB (nd t i).kind) with
 | none=>rfl
 | some i =>
  obtain ⟨hi,h1,_⟩:=List.findIdx?_eq_some_iff_getElem.1 hf
  have hx:l[i]? = some l[i]:=List.getElem?_eq_getElem hi
  have e:l.getD i 0=l[i]:=by rw [List.getD_eq_getElem?_getD,hx];rfl
  simp only [Option.map_some];rw [dT (by omega),cT,getI hx,oB,getN (h _ (List.getElem_mem hi)),oB,e];exact hK _ _ _ fun m hm=>rswap_eq hi (by omega) (by omega)
theorem rleads_eq {t:ATy} {q:BSq} (hO:OkT t) (hN:∀ n∈t.l,NB n) (hq:InQ t q) (h1:q.left.length<=500) (h2:q.right.length<=500):m_rb_Leads t (toS q)=some ((leadsA t q).2.map toS,!(leadsA t q).1):=by
 unfold m_rb_Leads;rw [show (toS q).l=q.left from rfl,show (toS q).r=q.right from rfl,rfind_eq hq.1 (by omega),oB,dec_find,rfind_eq hq.2 (by omega),oB,dec_find]
 have he:(bif (q.left.any fun i=>decide ((nd t i).kind=2)) then (some true) else (some (q.right.any fun i=>decide ((nd t i).kind=1)):Option Bool))=some (endA t q):=by
  unfold endA
  cases q.left.any fun i=>decide ((nd t i).kind=2) <;> rfl
 rw [he,oB];unfold leadsA
 cases h3:endA t q with
 | true=>rw [cT,if_pos rfl];rfl
 | false =>
  rw [cF_,if_neg (by simp)]
  have eL:=rlat_eq hq.1 h1 (fun x5 f=>bif (decide (x5.kind=10)) then (f [x5.a,x5.b]).bind fun x6=>some ([(⟨x6,q.right⟩:RSeq)],true) else (f [x5.a]).bind fun x7=>(f [x5.b]).bind fun x8=>some ([(⟨x7,q.right⟩:RSeq),(⟨x8,q.right⟩:RSeq)],true))
  have eR:=rlat_eq hq.2 h2 (fun x5 f=>bif (decide (x5.kind=9)) then (f [x5.a,x5.b]).bind fun x6=>some ([(⟨q.left,x6⟩:RSeq)],true) else (f [x5.a]).bind fun x7=>(f [x5.b]).bind fun x8=>some ([(⟨q.left,x7⟩:RSeq),(⟨q.left,x8⟩:RSeq)],true))
  refine (eL _ (fun n f g hfg=>by rw [hfg _ (by simp),hfg _ (by simp),hfg _ (by simp)])).trans ?_;unfold openA
  cases hl:latA t q.left with
  | some x =>
   obtain ⟨n,rest⟩:=x
   simp only
   by_cases h10:n.kind=10
   ·rw [dT h10,cT,oB,if_pos h10];rfl
   ·rw [dF h10,cF_,oB,oB,if_neg h10];rfl
  | none =>
   simp only
   refine (eR _ (fun n f g hfg=>by rw [hfg _ (by simp),hfg _ (by simp),hfg _ (by simp)])).trans ?_
   cases hr:latA t q.right with
   | some x =>
    obtain ⟨n,rest⟩:=x
    simp only
    by_cases h9:n.kind=9
    ·rw [dT h9,cT,oB,if_pos h9];rfl
    ·rw [dF h9,cF_,oB,oB,if_neg h9];rfl
   | none =>
    simp only
    rw [share_eq hq h1 h2,oB]
    cases h5:shareA t q with
    | true=>rw [if_pos rfl,if_pos rfl];rfl
    | false =>
     rw [if_neg (by simp),if_neg (by simp)]
     show (m_rb_Leads_l3 t (toS q) FU (3,[]):Option (List Int)).bind _=_
     rw [rkinds_eq hq h1,oB];unfold closedA
     cases hk:kindsA t q.left with
     | nil=>rfl
     | cons k m =>
      cases m with
      | nil =>
       obtain ⟨_,⟨i0,hi0,hk0⟩,_⟩:=kinds_one hk
       have hlne:ofK t q.left k≠[]:=fun e=>by have:=mem_ofK.2 ⟨hi0,hk0⟩;rw [e] at this;cases this
       have hL:∀ i∈ofK t q.left k,In t i:=fun i hi=>hq.1 i (mem_ofK.1 hi).1
       have hR:∀ i∈ofK t q.right k,In t i:=fun i hi=>hq.2 i (mem_ofK.1 hi).1
       have hll:(ofK t q.left k).length<=500:=Nat.le_trans (List.length_filter_le _ _) h1
       have hrl:(ofK t q.right k).length<=500:=Nat.le_trans (List.length_filter_le _ _) h2
       simp only [List.length_cons,List.length_nil];rw [dF (by omega),cF_,dF (by omega),cF_,show idx [k] 0=some k from rfl,oB,oB,rof_eq hq.1 (by omega),oB,oB,rof_eq hq.2 (by omega),oB,rheads_eq hO hN hL hR (by omega) (by omega) hlne,oB]
      | cons b m =>
       simp only [List.length_cons];rw [dF (by omega),cF_,dT (by omega),cT];rfl
end Go.Proofs.YtkfnogdccpcmhaaGreatDoor
namespace Go.Proofs.YtkfnogdccpcmhaaGreatDoor
open Go.V
open Classical
theorem rsame_eq (a b:RSeq) (h1:a.l.length<=3000) (h2:a.r.length<=3000):m_rb_Same a b=some (decide (a=b)):=by
 obtain ⟨al,ar⟩:=a;obtain ⟨bl,br⟩:=b;unfold m_rb_Same
 simp only
 rw [sameInts_eq _ _ h1,oB]
 by_cases hl:al=bl
 ·rw [dT hl,cT,sameInts_eq _ _ h2,oB,oB]
  congr 1
  exact decide_eq_decide.2 ⟨fun h=>by have h:ar=br:=h;rw [hl,h],fun h=>(RSeq.mk.inj h).2⟩
 ·rw [dF hl,cF_,oB]
  congr 1
  exact (dF fun h=>hl (RSeq.mk.inj h).1).symm
def SmS (s:RSeq):Prop:=s.l.length<=3000/\s.r.length<=3000
theorem rin_eq {x4:List RSeq} {k:Nat} {x:RSeq} (hk:x4[k]? = some x) (l4:List RSeq) (hs:∀ s∈l4,SmS s) (hl:l4.length<=2000000000000):m_rb_Holds_l3 x4 (k:Int) l4 FU (false,0)=some (decide (x∈l4)):=by
 obtain ⟨o,e1,e2⟩:=loop_rng (φ:=fun n i (b:Bool)=>m_rb_Holds_l3 x4 (k:Int) l4 n (b,i)) (l:=l4) (fun i b=>(b=true->x∈l4)/\(b=false->x∉l4.take i)) (fun o=>o=decide (x∈l4))
  (by
   rintro n i y b hy hi ⟨h1,h2⟩;simp only [m_rb_Holds_l3];rw [dT (show (i:Int)<(l4.length:Int) by omega)]
   cases b with
   | true =>
    right
    simp only [Bool.not_true,Bool.and_false,cF_];exact ⟨_,rfl,(dT (h1 rfl)).symm⟩
   | false =>
    left
    have hsy:=hs y (List.mem_of_getElem? hy)
    rw [Bool.not_false,Bool.and_true,cT,getI hy,oB,getI hk,oB,rsame_eq y x hsy.1 hsy.2,oB,grd_pos (by constructor <;> omega)];refine ⟨_,rfl,fun h=>?_,fun h hm=>?_⟩
    ·rw [<- of_decide_eq_true h];exact List.mem_of_getElem? hy
    ·rw [takeS hy] at hm
     rcases List.mem_append.1 hm with hm | hm
     ·exact h2 rfl hm
     ·rw [List.mem_singleton] at hm
      exact of_decide_eq_false h hm.symm)
  (by
   rintro n b ⟨h1,h2⟩;simp only [m_rb_Holds_l3];rw [dF (by omega),Bool.false_and,cF_];refine ⟨b,rfl,?_⟩
   cases b with
   | true=>exact (dT (h1 rfl)).symm
   | false=>exact (dF (by have:=h2 rfl;rwa [List.take_length] at this)).symm) (by rw [FUv];omega) false ⟨fun h=>by (cases h),fun _=>by simp⟩
 rw [e1,e2]
noncomputable def addS (l x:List RSeq):List RSeq:=x.foldl (fun acc s=>if s∈acc then acc else acc++[s]) l
theorem addS_snoc (l x:List RSeq) (s:RSeq):addS l (x++[s])=if s∈addS l x then addS l x else addS l x++[s]:=by unfold addS;rw [List.foldl_append];rfl
theorem addS_len (l:List RSeq):∀ x:List RSeq,(addS l x).length<=l.length+x.length:=by
 intro x
 induction x generalizing l with
 | nil=>exact Nat.le_refl _
 | cons s x ih =>
  have:=ih (if s∈l then l else l++[s])
  have e:addS l (s::x)=addS (if s∈l then l else l++[s]) x:=rfl
  rw [e,List.length_cons]
  split at this <;> rename_i h
  ·rw [if_pos h];omega
  ·rw [if_neg h];simp only [List.length_append,List.length_cons,List.length_nil] at this;omega
theorem addS_props (l:List RSeq):∀ x:List RSeq,(∀ s,s∈addS l x↔s∈l\/s∈x)/\(l.Nodup->(addS l x).Nodup)/\∃ e,addS l x=l++e:=by
 intro x
 induction x generalizing l with
 | nil=>exact ⟨fun s=>by simp [addS],fun h=>h,[],by simp [addS]⟩
 | cons s x ih =>
  have e:addS l (s::x)=addS (if s∈l then l else l++[s]) x:=rfl
  rw [e]
  by_cases h:s∈l
  ·rw [if_pos h]
   obtain ⟨a,b,c⟩:=ih l;refine ⟨fun y=>?_,b,c⟩;rw [a y,List.mem_cons]
   constructor
   ·rintro (h | h);exact .inl h;exact .inr (.inr h)
   ·rintro (h2 | rfl | h2)
    ·exact .inl h2
    ·exact .inl h
    ·exact .inr h2
  ·rw [if_neg h]
   obtain ⟨a,b,e2,c⟩:=ih (l++[s]);refine ⟨fun y=>?_,fun hn=>b ?_,[s]++e2,by rw [c,List.append_assoc]⟩
   ·rw [a y,List.mem_append,List.mem_singleton,List.mem_cons]
    constructor
    ·rintro ((h | h) | h)
     ·exact .inl h
     ·exact .inr (.inl h)
     ·exact .inr (.inr h)
    ·rintro (h | h | h)
     ·exact .inl (.inl h)
     ·exact .inl (.inr h)
     ·exact .inr h
   ·rw [List.nodup_append]
    exact ⟨hn,by simp,fun a ha b hb e3=>by rw [List.mem_singleton] at hb;subst hb;subst e3;exact h ha⟩
theorem radd_eq (x4 l4:List RSeq) (hs:∀ s∈l4,SmS s) (hx:∀ s∈x4,SmS s) (hl:l4.length+x4.length<=2000000000000):m_rb_Holds_l2 x4 FU (0,l4)=some (addS l4 x4):=by
 obtain ⟨o,e1,e2⟩:=loop_rng (φ:=fun n i q=>m_rb_Holds_l2 x4 n (i,q)) (l:=x4) (fun i q=>q=addS l4 (x4.take i)) (fun o=>o=addS l4 x4)
  (by
   rintro n i x q hxi hi rfl
   left
   have hal:=addS_len l4 (x4.take i)
   rw [List.length_take] at hal
   have hsm:∀ s∈addS l4 (x4.take i),SmS s:=fun s h=>((addS_props l4 (x4.take i)).1 s).1 h |>.elim (hs s) (fun h=>hx s (List.mem_of_mem_take h))
   simp only [m_rb_Holds_l2];rw [dT (show (i:Int)<(x4.length:Int) by omega),cT,rin_eq hxi _ hsm (by omega),oB,takeS hxi,addS_snoc]
   by_cases hm:x∈addS l4 (x4.take i)
   ·rw [dT hm,Bool.not_true,cF_,grd_pos (by constructor <;> omega),if_pos hm]
    exact ⟨_,rfl,rfl⟩
   ·rw [dF hm,Bool.not_false,cT,getI hxi,oB,grd_pos (by simp only [List.length_cons,List.length_nil];omega),grd_pos (by constructor <;> omega),if_neg hm]
    exact ⟨_,rfl,rfl⟩)
  (by
   rintro n q rfl;simp only [m_rb_Holds_l2];rw [dF (by omega),cF_];exact ⟨_,rfl,by rw [List.take_length]⟩) (by rw [FUv];omega) l4 (by simp [addS])
 rw [e1,e2]
theorem allA_len {t:ATy} (hN:∀ n∈t.l,NB n) {k:Int} {l r:List Int} (hL:∀ i∈l,In t i) (hR:∀ i∈r,In t i):(allA t k l r).length<=1000:=by
 unfold allA
 split
 ·exact names_small hN hR
 ·split
  ·exact names_small hN hL
  ·simp
theorem leadsA_len {t:ATy} (hN:∀ n∈t.l,NB n) {q:BSq} (hq:InQ t q):(leadsA t q).2.length<=1000:=by
 unfold leadsA
 split
 ·simp
 ·split
  ·rename_i l h
   unfold openA at h
   split at h
   ·cases h;split <;> simp
   ·split at h
    ·cases h;split <;> simp
    ·cases h
  ·split
   ·simp
   ·unfold closedA
    split
    ·simp
    ·unfold headsA
     split
     ·simp
     ·split
      ·simp
      ·split
       ·simp
       ·rw [List.length_map]
        exact allA_len hN (fun i hi=>hq.1 i (mem_ofK.1 hi).1) (fun i hi=>hq.2 i (mem_ofK.1 hi).1)
    ·simp
theorem rholds_run {t:ATy} {q:BSq} {U:List BSq} (hO:OkT t) (hN:∀ n∈t.l,NB n) (ht:t.l.length<=99) (hU:UOk t q U):∀ (n i:Nat) (all:List RSeq),i<=all.length->U.length - i<n->all.Nodup->(∀ s∈all,Rch t q (ofS s)) ->
  (∀ j s,j<i->all[j]? = some s->(leadsA t (ofS s)).1=false/\∀ s'∈(leadsA t (ofS s)).2,toS s'∈all)->toS q∈all ->
  ∃ o,m_rb_Holds_l1 t n ((i:Int),all)=some o/\((o = .ret false/\∃ s,Rch t q s/\(leadsA t s).1=true)\/(∃ l,o = .go l/\∀ s,Rch t q s->(leadsA t s).1=false))
 | 0,i,all,_,h,_,_,_,_=>by omega
 | n+1,i,all,hi,hn,hnd,hr,hp,hqa=>by
  have hlen:all.length<=U.length:=by
   have h1:(all.map ofS).Nodup:=by
    unfold List.Nodup;rw [List.pairwise_map];exact hnd.imp (fun {a b} h e=>h (by have:=congrArg toS e;exact this))
   have:=nodup_sub (all.map ofS) U h1 (fun s hs=>by obtain ⟨x,hx,rfl⟩:=List.mem_map.1 hs;exact hU.rch (hr x hx))
   rwa [List.length_map] at this
  have hUl:=hU.len
  have hsml:∀ s∈U,s.left.length<=99/\s.right.length<=99:=fun s hs=>⟨Nat.le_trans (srt_len (hU.srt s hs).1 (hU.inn s hs).1) ht,Nat.le_trans (srt_len (hU.srt s hs).2 (hU.inn s hs).2) ht⟩
  have hsm:∀ s∈all,SmS s:=fun s hs=>by have:=hsml _ (hU.rch (hr s hs));exact ⟨by have:=this.1;show (ofS s).left.length<=3000;omega,by have:=this.2;show (ofS s).right.length<=3000;omega⟩
  simp only [m_rb_Holds_l1]
  by_cases hie:i=all.length
  ·rw [dF (by omega),cF_]
   refine ⟨_,rfl,.inr ⟨all,rfl,fun s hs=>?_⟩⟩
   have key:∀ s,Rch t q s->toS s∈all:=by
    intro s hs
    induction hs with
    | refl=>exact hqa
    | step h1 h2 ih =>
     obtain ⟨j,hj⟩:=List.getElem?_of_mem ih;exact (hp j _ (by have:=(List.getElem?_eq_some_iff.1 hj).1;omega) hj).2 _ h2
   obtain ⟨j,hj⟩:=List.getElem?_of_mem (key s hs);exact (hp j _ (by have:=(List.getElem?_eq_some_iff.1 hj).1;omega) hj).1
  ·have hil:i<all.length:=by omega
   have hx:all[i]? = some all[i]:=List.getElem?_eq_getElem hil
   have hxr:=hr _ (List.getElem_mem hil)
   have hxU:=hU.rch hxr
   have hxs:=hsml _ hxU
   rw [dT (by omega),cT,getI hx,oB,show m_rb_Leads t all[i]=some ((leadsA t (ofS all[i])).2.map toS,!(leadsA t (ofS all[i])).1) from rleads_eq hO hN (hU.inn _ hxU) (by omega) (by omega),oB];simp only [Bool.not_not]
   cases hf:(leadsA t (ofS all[i])).1 with
   | true=>rw [cT];exact ⟨_,rfl,.inl ⟨rfl,_,hxr,hf⟩⟩
   | false =>
    rw [cF_]
    have hnew:∀ s∈(leadsA t (ofS all[i])).2,Rch t q s:=fun s hs => .step hxr hs
    have hll:=leadsA_len hN (hU.inn _ hxU)
    rw [radd_eq _ _ hsm (fun s hs=>by
     obtain ⟨y,hy,rfl⟩:=List.mem_map.1 hs
     have:=hsml _ (hU.rch (hnew y hy))
     exact ⟨by show y.left.length<=3000;omega,by show y.right.length<=3000;omega⟩) (by rw [List.length_map];omega),oB,grd_pos (by constructor <;> omega)]
    obtain ⟨a1,a2,e,a3⟩:=addS_props all ((leadsA t (ofS all[i])).2.map toS)
    have hpre:∀ j s,j<all.length->(addS all ((leadsA t (ofS all[i])).2.map toS))[j]? = some s->all[j]? = some s:=fun j s hj h=>by
     rw [a3,List.getElem?_append_left hj] at h;exact h
    exact rholds_run hO hN ht hU n (i+1) _ (by rw [a3,List.length_append];omega) (by omega) (a2 hnd) (fun s hs=>by
     rcases (a1 s).1 hs with h | h
     ·exact hr s h
     ·obtain ⟨y,hy,rfl⟩:=List.mem_map.1 h;exact hnew y hy) (fun j s hj hjs=>by
     have hjs2:=hpre j s (by omega) hjs
     by_cases hji:j=i
     ·subst hji
      rw [hx] at hjs2;cases hjs2
      exact ⟨hf,fun s' hs'=>(a1 _).2 (.inr (List.mem_map.2 ⟨s',hs',rfl⟩))⟩
     ·obtain ⟨b1,b2⟩:=hp j s (by omega) hjs2
      exact ⟨b1,fun s' hs'=>(a1 _).2 (.inl (b2 s' hs'))⟩) ((a1 _).2 (.inl hqa))
theorem rholds_eq {t:ATy} {l r:List Int} {U:List BSq} (hO:OkT t) (hN:∀ n∈t.l,NB n) (ht:t.l.length<=99) (hl:l.length<=1000) (hr:r.length<=1000) (hU:UOk t ⟨cs l,cs r⟩ U):m_rb_Holds t l r=some (decide (Valid t ⟨cs l,cs r⟩)):=by
 unfold m_rb_Holds;rw [rset_eq (by omega),oB,rset_eq (by omega),oB]
 have hUl:=hU.len
 obtain ⟨o,e1,h⟩:=rholds_run hO hN ht hU FU 0 [toS ⟨cs l,cs r⟩] (by simp) (by rw [FUv];omega) (by simp) (fun s hs=>by rw [List.mem_singleton] at hs;subst hs;exact .refl) (fun j s hj=>by omega) (by simp)
 have e1:m_rb_Holds_l1 t FU (0,[(⟨cs l,cs r⟩:RSeq)])=some o:=e1
 rw [e1,oB]
 have hv:=valid_iff hO (hU.inn _ hU.mem)
 rcases h with ⟨rfl,s,hs,hf⟩ | ⟨l',rfl,h⟩
 ·have:¬ Valid t ⟨cs l,cs r⟩:=fun h=>by have:=hv.2 h s hs;rw [hf] at this;cases this
  rw [dF this];rfl
 ·rw [dT (hv.1 h)];rfl
theorem cs_one (x:Int):cs [x]=[x]:=(cs_uniq (l:=[x]) (m:=[x]) (by simp) (fun _=>Iff.rfl)).symm
end Go.Proofs.YtkfnogdccpcmhaaGreatDoor
namespace Go.Proofs.YtkfnogdccpcmhaaGreatDoor
open Go.V
open Classical
theorem rbelow_eq {a b:ATy} (ha:MayO a) (hb:MayO b) (hl:a.l.length+b.l.length<=38):m_rb_Below a b=some (decide (Sub a b)):=by
 unfold m_rb_Below
 have hr:=hb.root
 rw [rgraft_eq a b (by omega) (by omega) hb.nb hb.ok.right,oB]
 simp only
 rw [grd_pos (by have:=hr.1;have:=hr.2;constructor <;> omega)];obtain ⟨U,hU⟩:=graft_U ha hb hl;rw [show (⟨(graftT a b).l,(graftT a b).root⟩:ATy)=graftT a b from rfl,rholds_eq (graft_ok ha.ok hb.ok) (graft_nb ha.nb hb.nb) (by rw [graft_len];omega) (by simp) (by simp) (by rw [cs_one,cs_one];exact hU),oB,cs_one,cs_one]
 congr 1
 exact decide_eq_decide.2 (valid_graft ha hb)
theorem alike_eq {a b:ATy} (ha:a.l.length<=2001) (hb:b.l.length<=2001) (hNa:∀ n∈a.l,NB n) (hNb:∀ n∈b.l,NB n) (hl:mayT a.l a.root=0->mayT b.l b.root=0->a.l.length+b.l.length<=38) :
  m_below_Alike a b=some (if mayT a.l a.root=0 then if mayT b.l b.root=0 then (decide (Sub a b)&&decide (Sub b a),0) else (false,mayT b.l b.root) else (false,mayT a.l a.root)):=by
 unfold m_below_Alike;rw [bmay_eq ha hb hNa hNb,oB]
 by_cases h:mayT a.l a.root=0
 ·rw [if_pos h,if_pos h]
  by_cases h2:mayT b.l b.root=0
  ·have hl:=hl h h2
   rw [dT h2,Bool.not_true,cF_,below_eq ⟨h,hNa⟩ ⟨h2,hNb⟩ hl,oB,below_eq ⟨h2,hNb⟩ ⟨h,hNa⟩ (by omega),if_pos h2]
   cases decide (Sub a b) <;> rfl
  ·rw [dF h2,Bool.not_false,cT,if_neg h2]
 ·rw [if_neg h,if_neg h,dF h,Bool.not_false,cT]
end Go.Proofs.YtkfnogdccpcmhaaGreatDoor
