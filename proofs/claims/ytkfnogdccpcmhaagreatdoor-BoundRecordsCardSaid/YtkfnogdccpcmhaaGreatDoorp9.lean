/- Part 9 of the proof: a program logic, what the functions compute, and what these answer; no condition. -/
import Derived.Test.YtkfnogdccpcmhaaGreatDoorp8
set_option linter.unusedVariables false
set_option linter.unusedSimpArgs false
set_option maxRecDepth 100000
namespace Go.Proofs.YtkfnogdccpcmhaaGreatDoor
open Go.V
open Classical
def ColOk (z:List Int):Prop:=∀ c∈z,c=0\/c=1\/c=2
theorem K8 {z:List Int} {i:Nat} {c d:Int} (h:z[i]? = some c):(z.set i d).count 0+(if c=0 then 1 else 0)=z.count 0+(if d=0 then 1 else 0):=by
 have hi:=(List.getElem?_eq_some_iff.1 h).1
 have h2:=(List.getElem?_eq_some_iff.1 h).2
 have hc:c=0->0<z.count 0:=fun e=>List.count_pos_iff.2 (by rw [<- e];exact List.mem_of_getElem? h)
 rw [List.count_set hi,h2]
 by_cases h0:c=0
 ·have:=hc h0
  subst h0
  simp
  split <;> omega
 ·rw [if_neg h0]
  have:(c == 0)=false:=by simp [h0]
  rw [this]
  simp
theorem MD {z:List Int} {i:Nat} {d:Int} (h:ColOk z) (hd:d=0\/d=1\/d=2):ColOk (z.set i d):=by
 intro c hc
 rcases List.mem_or_eq_of_mem_set hc with h2 | h2
 ·exact h c h2
 ·rw [h2];exact hd
theorem Jf {L:List ANd} {i:Nat}:∀ m,endk L m i=true->∃ k,k<m/\endk L (k+1) i=true/\endk L k i=false
 | 0,h=>by simp [endk] at h
 | m+1,h=>by
  cases hq:endk L m i with
  | false=>exact ⟨m,Nat.lt_succ_self m,h,hq⟩
  | true =>
   obtain ⟨k,h1,h2,h3⟩:=Jf m hq;exact ⟨k,by omega,h2,h3⟩
theorem PK {L:List ANd} {k m i:Nat} (hkm:k<=m) (h:endk L m i=false):endk L k i=false:=by
 cases hq:endk L k i with
 | false=>rfl
 | true=>rw [Iy hkm hq] at h;cases h
structure WalkOk (L:List ANd) (i:Nat) (z:List Int) (b:Bool) (z':List Int):Prop where
 len:z'.length=L.length
 col:ColOk z'
 wh:z'.count 0<=z.count 0
 yes:b=true->Ends L i/\(∀ j:Nat,z'[j]? = some 2->Ends L j)/\∀ j:Nat,z'[j]? = some 1↔z[j]? = some 1
 no:b=false->∀ m,endk L m i=true->(∀ j:Nat,z[j]? = some 1->endk L m j=false)->False
theorem PM {t:ATy} (hR:InL t.l) (hN:∀ n∈t.l,NB n) (hlen:t.l.length<=2001):∀ (n:Nat) (i:Nat) (z:List Int),i<t.l.length->z.length=t.l.length->ColOk z->z.count 0<n->(∀ j:Nat,z[j]? = some 2->Ends t.l j) ->
  ∃ b z',AZ t n (i:Int) z=some (b,z')/\WalkOk t.l i z b z'
 | 0,i,z,_,_,_,h,_=>by omega
 | n+1,i,z,hi,hz,hc,hw,hb=>by
  have hx:t.l[i]? = some t.l[i]:=List.getElem?_eq_getElem hi
  have hy:z[i]? = some (z[i]'(by omega)):=List.getElem?_eq_getElem (by omega)
  have hcz:=hc _ (List.mem_of_getElem? hy)
  show ∃ b z',Bz (AZ t n) (i:Int) z t=some (b,z')/\_
  unfold Bz;rw [getI hx,oB,show Ew (t.l[i]).kind=some (latB (t.l[i]).kind) from rfl,oB,getI hy,oB,oB,oB]
  generalize hn:t.l[i]=nd at *
  generalize z[i]'(by omega)=c at *
  cases hlat:latB nd.kind with
  | false =>
   refine ⟨true,z,by rw [Bool.not_false,cT,oB,cT],hz,hc,Nat.le_refl _,fun _=>⟨M8 hx fun h=>(by rw [hlat] at h;cases h),hb,fun j=>Iff.rfl⟩,fun h=>by cases h⟩
  | true =>
   rw [Bool.not_true,cF_,oB]
   by_cases h2:c=2
   ·refine ⟨true,z,by rw [dT h2,cT],hz,hc,Nat.le_refl _,fun _=>⟨hb i (by rw [hy,h2]),hb,fun j=>Iff.rfl⟩,fun h=>by cases h⟩
   rw [dF h2,cF_]
   by_cases h1:c=1
   ·refine ⟨false,z,by rw [dT h1,cT],hz,hc,Nat.le_refl _,fun h=>(by cases h),fun _ m hm hg=>?_⟩
    rw [hg i (by rw [hy,h1])] at hm;cases hm
   rw [dF h1,cF_]
   have h0:c=0:=by omega
   subst h0
   have hNd:NB nd:=by rw [<- hn];exact hN _ (List.getElem_mem hi)
   rw [oB,NC _ hNd,oB,Int.toNat_natCast]
   have hk:∀ k∈kidsL nd,0<=k/\k<(t.l.length:Int):=hR nd (List.mem_of_getElem? hx)
   have hkl:=G6 nd hNd
   have hwz:=K8 (d:=1) hy
   simp at hwz
   have hz1:(z.set i 1).length=t.l.length:=by simpa using hz
   have gr1:∀ j:Nat,(z.set i 1)[j]? = some 1↔(j=i\/z[j]? = some 1):=by
    intro j
    rw [List.getElem?_set]
    by_cases hji:i=j
    ·subst hji;simp;omega
    ·rw [if_neg hji];exact ⟨.inr,fun h=>h.elim (fun e=>absurd e.symm hji) id⟩
   obtain ⟨o,e1,e2⟩:=AR (φ:=fun m q s=>A7 (AZ t n) (kidsL nd) m (q,s)) (l:=kidsL nd)
    (fun q s=>s.length=t.l.length/\ColOk s/\s.count 0<=(z.set i 1).count 0/\(∀ j:Nat,s[j]? = some 2->Ends t.l j)/\(∀ j:Nat,s[j]? = some 1↔(z.set i 1)[j]? = some 1)/\∀ (p:Nat) k,p<q->(kidsL nd)[p]? = some k->Ends t.l k.toNat)
    (fun o=>(∃ s,o=Out.ret (false,s)/\s.length=t.l.length/\ColOk s/\s.count 0<=(z.set i 1).count 0/\∀ m,endk t.l m i=true->(∀ j:Nat,z[j]? = some 1->endk t.l m j=false)->False) \/
     (∃ s,o=Out.go s/\s.length=t.l.length/\ColOk s/\s.count 0<=(z.set i 1).count 0/\(∀ j:Nat,s[j]? = some 2->Ends t.l j)/\(∀ j:Nat,s[j]? = some 1↔(z.set i 1)[j]? = some 1)/\∀ k∈kidsL nd,Ends t.l k.toNat))
    (by
     rintro m q k s hkq hq ⟨s1,s2,s3,s4,s5,s6⟩;obtain ⟨k0,k1⟩:=hk k (List.mem_of_getElem? hkq);obtain ⟨b,z',w1,w2⟩:=PM hR hN hlen n k.toNat s (by omega) s1 s2 (by omega) s4;rw [Int.toNat_of_nonneg k0] at w1;simp only [A7];rw [dT (show (q:Int)<(kidsL nd).length by omega),cT,getI hkq,oB,w1,oB]
     dsimp only
     cases b with
     | true =>
      obtain ⟨y1,y2,y3⟩:=w2.yes rfl;refine .inl ⟨z',by rw [Bool.not_true,cF_,Ab (by omega)],w2.len,w2.col,Nat.le_trans w2.wh s3,y2,fun j=>(y3 j).trans (s5 j),fun p k' hp hk'=>?_⟩
      by_cases hpq:p=q
      ·subst hpq;rw [hkq] at hk';cases hk';exact y1
      ·exact s6 p k' (by omega) hk'
     | false =>
      refine .inr ⟨_,by rw [Bool.not_false,cT],.inl ⟨z',rfl,w2.len,w2.col,Nat.le_trans w2.wh s3,fun m hm hg=>?_⟩⟩;obtain ⟨r,r1,r2,r3⟩:=Jf m hm;refine w2.no rfl r ?_ fun j hj=>?_
      ·unfold endk at r2
       rw [hx] at r2;simp only [hlat,Bool.not_true,Bool.false_or,Bool.and_eq_true] at r2
       have:=List.mem_of_getElem? hkq
       rw [Fj hlat] at this;simp only [List.mem_cons,List.not_mem_nil,or_false] at this
       rcases this with rfl | rfl
       ·exact r2.1
       ·exact r2.2
      ·rcases (gr1 j).1 ((s5 j).1 hj) with rfl | hj
       ·exact r3
       ·exact PK (by omega) (hg j hj))
    (by
     rintro m s ⟨s1,s2,s3,s4,s5,s6⟩;refine ⟨Out.go s,?_,.inr ⟨s,rfl,s1,s2,s3,s4,s5,fun k hk'=>?_⟩⟩
     ·simp only [A7]
      rw [dF (by omega),cF_]
     ·obtain ⟨p,hp⟩:=List.getElem?_of_mem hk'
      exact s6 p k (getLt hp) hp)
    (by rw [FUv];omega) (z.set i 1) ⟨hz1,MD hc (by omega),Nat.le_refl _,fun j hj=>(by
     rw [List.getElem?_set] at hj
     by_cases hji:i=j
     ·rw [if_pos hji] at hj;split at hj <;> simp at hj
     ·rw [if_neg hji] at hj;exact hb j hj),fun j=>Iff.rfl,fun p k hp=>by omega⟩
   rw [e1,oB]
   rcases e2 with ⟨s,rfl,s1,s2,s3,s4⟩ | ⟨s,rfl,s1,s2,s3,s4,s5,s6⟩
   ·exact ⟨false,s,rfl,s1,s2,by omega,fun h=>(by cases h),fun _=>s4⟩
   ·have hsi:s[i]? = some 1:=(s5 i).2 ((gr1 i).2 (.inl rfl))
    have hws:=K8 (d:=2) hsi
    simp at hws
    have hE:Ends t.l i:=M8 hx fun _=>by
     rw [Fj hlat] at s6;exact ⟨s6 _ (by simp),s6 _ (by simp)⟩
    refine ⟨true,s.set i 2,by show (idx s (i:Int)).bind _=_;rw [getI hsi,oB],by simpa using s1,MD s2 (by omega),by omega,fun _=>⟨hE,fun j hj=>?_,fun j=>?_⟩,fun h=>by cases h⟩
    ·rw [List.getElem?_set] at hj
     by_cases hji:i=j
     ·subst hji;exact hE
     ·rw [if_neg hji] at hj;exact s4 j hj
    ·rw [List.getElem?_set]
     by_cases hji:i=j
     ·subst hji;rw [if_pos rfl,hy];split <;> simp
     ·rw [if_neg hji,s5 j,gr1 j]
      exact ⟨fun h=>h.elim (fun e=>absurd e.symm hji) id,.inr⟩
theorem Lf {t:ATy} (hR:InL t.l) (hN:∀ n∈t.l,NB n) (hlen:t.l.length<=2001):B9 t=some (decide (Eu t.l)):=by
 unfold B9;rw [Ab (by omega),Ab (by omega),Int.toNat_natCast];obtain ⟨o,e1,e2⟩:=AR (φ:=fun m q s=>Bi t m (q,s)) (l:=t.l)
  (fun q s=>s.length=t.l.length/\ColOk s/\(∀ j:Nat,s[j]? = some 2->Ends t.l j)/\(∀ j:Nat,¬ s[j]? = some 1)/\∀ p,p<q->Ends t.l p)
  (fun o=>(o=Out.ret false/\¬ Eu t.l)\/∃ s,o=Out.go s/\Eu t.l)
  (by
   rintro m q nd s hnd hq ⟨s1,s2,s3,s4,s5⟩;obtain ⟨b,z',w1,w2⟩:=PM hR hN hlen FU q s hq s1 s2 (by have:=List.count_le_length (a:=(0:Int)) (l:=s);rw [FUv];omega) s3;simp only [Bi];rw [dT (show (q:Int)<t.l.length by omega),cT,w1,oB]
   dsimp only
   cases b with
   | true =>
    obtain ⟨y1,y2,y3⟩:=w2.yes rfl;refine .inl ⟨z',by rw [Bool.not_true,cF_,Ab (by omega)],w2.len,w2.col,y2,fun j hj=>s4 j ((y3 j).1 hj),fun p hp=>?_⟩
    by_cases hpq:p=q
    ·subst hpq;exact y1
    ·exact s5 p (by omega)
   | false =>
    refine .inr ⟨_,by rw [Bool.not_false,cT],.inl ⟨rfl,fun hA=>?_⟩⟩;obtain ⟨k,hk⟩:=hA q hq;exact w2.no rfl k hk fun j hj=>absurd hj (s4 j))
  (by
   rintro m s ⟨s1,s2,s3,s4,s5⟩;refine ⟨Out.go s,?_,.inr ⟨s,rfl,s5⟩⟩;simp only [Bi];rw [dF (by omega),cF_])
  (by rw [FUv];omega) (List.replicate t.l.length 0) ⟨by simp,fun c hc=>(by rw [List.mem_replicate] at hc;exact .inl hc.2),fun j hj=>(by rw [List.getElem?_replicate] at hj;split at hj <;> simp at hj),fun j hj=>(by rw [List.getElem?_replicate] at hj;split at hj <;> simp at hj),fun p hp=>by omega⟩
 rw [e1,oB]
 rcases e2 with ⟨rfl,h⟩ | ⟨s,rfl,h⟩
 ·rw [dF h];rfl
 ·rw [dT h];rfl
end Go.Proofs.YtkfnogdccpcmhaaGreatDoor
namespace Go.Proofs.YtkfnogdccpcmhaaGreatDoor
open Go.V
open Classical
def Bk (L:List ANd):Prop:=∀ n∈L,Bn n L.length=true
theorem JI {n:ANd} {all:Int} (h:Bn n all=true):∀ k∈kidsL n,0<=k/\k<all:=by
 intro k hk
 unfold Bn at h;simp only [Bool.and_eq_true,Bool.not_eq_true',decide_eq_false_iff_not] at h
 have h2:=h.2.2.2.2.2
 have:inB all k=false:=by
  cases hq:inB all k with
  | false=>rfl
  | true=>exact absurd ⟨k,hk,hq⟩ h2
 unfold inB at this;rw [Bool.or_eq_false_iff,decide_eq_false_iff_not,decide_eq_false_iff_not] at this
 omega
theorem AI {L:List ANd} (h:Bk L):InL L:=fun n hn k hk=>JI (h n hn) k hk
theorem Rl (t:ATy) (hlen:t.l.length<=2001) (hN:∀ n∈t.l,NB n):N5 t.l (fun y0=>CR y0 t)=some (!decide (Bk t.l)):=by
 unfold N5 PL;rw [FJ (φ:=GY t.l (fun y0=>CR y0 t)) (l:=t.l) (fun i=>(i:Int)) (fun n => !Bn n t.l.length) ?_ ?_ (by rw [FUv];omega)]
 ·rw [oB]
  cases hf:t.l.findIdx? (fun n => !Bn n t.l.length) with
  | none =>
   have:Bk t.l:=by
    intro n hn
    have:=List.findIdx?_eq_none_iff.1 hf n hn
    simpa using this
   rw [dT this];rfl
  | some i =>
   obtain ⟨hi,h1,_⟩:=List.findIdx?_eq_some_iff_getElem.1 hf
   have:¬ Bk t.l:=fun h=>by
    rw [h _ (List.getElem_mem hi)] at h1;cases h1
   rw [dF this]
   show some (decide (0<=(i:Int)))=some true
   rw [dT (by omega)]
 ·intro n i x hx hi
  simp only [GY];rw [dT (show (i:Int)<t.l.length by omega),cT,getI hx,oB,show CR x t=some (!Bn x t.l.length) by unfold CR;rw [RU _ _ (hN x (List.mem_of_getElem? hx)),oB],oB];exact ⟨fun hq=>by rw [hq,cF_,Ab (by omega)],fun hq=>by rw [hq,cT]⟩
 ·intro n
  simp only [GY];rw [dF (by omega),cF_]
theorem Q7 (t:ATy) (hlen:t.l.length<=2001) (hN:∀ n∈t.l,NB n):DO t FU 0=some (if Bk t.l then .go () else .ret 4):=by
 rw [FN (φ:=DO t) (l:=t.l) 4 (fun _ n=>Bn n t.l.length=true) ?_ ?_ (by rw [FUv];omega)]
 ·have e:(∀ (i:Nat) (x:ANd),t.l[i]? = some x->Bn x t.l.length=true)↔Bk t.l:=⟨fun h b hb=>by obtain ⟨i,hi⟩:=List.getElem?_of_mem hb;exact h i b hi,fun h i x hx=>h x (List.mem_of_getElem? hx)⟩
  by_cases h2:Bk t.l
  ·rw [if_pos (e.2 h2),if_pos h2]
  ·rw [if_neg (fun h3=>h2 (e.1 h3)),if_neg h2]
 ·intro n i x hx hi
  simp only [DO];rw [dT (show (i:Int)<t.l.length by omega),cT,getI hx,oB,Rf _ _ (hN x (List.mem_of_getElem? hx)),oB]
  cases Bn x t.l.length
  ·exact ⟨fun h=>(by cases h),fun _=>by rw [Bool.not_false,cT]⟩
  ·exact ⟨fun _=>by rw [Bool.not_true,cF_,Ab (by omega)],fun h=>absurd rfl h⟩
 ·intro n
  simp only [DO];rw [dF (by omega),cF_]
noncomputable def mayT (L:List ANd) (root:Int):Int:=if L.length=0\/2000<L.length then 8 else if root<0\/(L.length:Int)<=root then 4 else if Bk L/\Eu L then 0 else 4
theorem Le (t:ATy) (hlen:t.l.length<=2001) (hN:∀ n∈t.l,NB n):Bp t=some (mayT t.l t.root):=by
 unfold Bp mayT
 by_cases h0:t.l.length=0\/2000<t.l.length
 ·rw [if_pos h0,show (decide ((t.l.length:Int)=0)||decide (2000<(t.l.length:Int)))=true by rw [Bool.or_eq_true,decide_eq_true_eq,decide_eq_true_eq];omega,cT]
 rw [if_neg h0,dF (by omega),dF (by omega),Bool.or_false,cF_]
 by_cases hr:t.root<0\/(t.l.length:Int)<=t.root
 ·rw [if_pos hr,show (decide (t.root<0)||decide ((t.l.length:Int)<=t.root))=true by rw [Bool.or_eq_true,decide_eq_true_eq,decide_eq_true_eq];exact hr,cT]
 rw [if_neg hr,dF (by omega),dF (by omega),Bool.or_false,cF_,Rl t hlen hN,oB]
 by_cases hA:Bk t.l
 ·rw [dT hA,Bool.not_true,cF_,Lf (AI hA) hN hlen,oB]
  by_cases hE:Eu t.l
  ·rw [dT hE,if_pos ⟨hA,hE⟩];rfl
  ·rw [dF hE,if_neg (fun h=>hE h.2)];rfl
 ·rw [dF hA,Bool.not_false,cT,if_neg (fun h=>hA h.1)];rfl
theorem P5 (t:ATy) (hlen:t.l.length<=2001) (hN:∀ n∈t.l,NB n):G2 t=some (mayT t.l t.root):=by
 unfold G2 mayT
 by_cases h0:t.l.length=0\/2000<t.l.length
 ·rw [if_pos h0,show (decide ((t.l.length:Int)<1)||decide (2000<(t.l.length:Int)))=true by rw [Bool.or_eq_true,decide_eq_true_eq,decide_eq_true_eq];omega,cT]
 rw [if_neg h0,dF (by omega),dF (by omega),Bool.or_false,cF_]
 by_cases hr:t.root<0\/(t.l.length:Int)<=t.root
 ·rw [if_pos hr,show (decide (t.root<0)||decide ((t.l.length:Int)<=t.root))=true by rw [Bool.or_eq_true,decide_eq_true_eq,decide_eq_true_eq];exact hr,cT]
 rw [if_neg hr,dF (by omega),dF (by omega),Bool.or_false,cF_,Q7 t hlen hN,oB]
 by_cases hA:Bk t.l
 ·rw [if_pos hA]
  show grd _ _=_
  rw [Ab (by omega),Ab (by omega),Int.toNat_natCast];obtain ⟨l,l1,l2,l3⟩:=T4 (AI hA) hlen;rw [l1,oB,PC l (by omega),oB]
  have e:(∀ b∈l,b=true)↔Eu t.l:=by
   constructor
   ·intro h i hi
    have hx:l[i]? = some (l[i]'(by omega)):=List.getElem?_eq_getElem (by omega)
    rw [h _ (List.getElem_mem (by omega))] at hx;exact (l3 i hi).1 hx
   ·intro h b hb
    obtain ⟨i,hi⟩:=List.getElem?_of_mem hb
    have hlt:=getLt hi
    have:=(l3 i (by omega)).2 (h i (by omega))
    rw [hi] at this;exact Option.some.inj this
  by_cases hE:Eu t.l
  ·rw [if_pos (e.2 hE),if_pos ⟨hA,hE⟩];rfl
  ·rw [if_neg (fun h=>hE (e.1 h)),if_neg (fun h=>hE h.2)];rfl
 ·rw [if_neg hA,if_neg (fun h=>hA h.1)];rfl
theorem Ev {L:List ANd} {r:Int} (h:mayT L r=0):0<L.length/\L.length<=2000/\0<=r/\r<L.length/\Bk L/\Eu L:=by
 unfold mayT at h
 split at h
 ·omega
 ·split at h
  ·omega
  ·split at h
   ·rename_i h1 h2 h3;exact ⟨by omega,by omega,by omega,by omega,h3.1,h3.2⟩
   ·omega
end Go.Proofs.YtkfnogdccpcmhaaGreatDoor
namespace Go.Proofs.YtkfnogdccpcmhaaGreatDoor
open Go.V
open Classical
theorem Py (s:List Int) (h:s.length<=1000):OL s=some s.reverse:=by
 unfold OL;rw [Ab (by omega)];obtain ⟨o,e1,e2⟩:=N3 (φ:=G4) (fun st=>(st.2.1+1 - st.1).toNat)
  (fun st=>0<=st.1 /\ -1<=st.2.1/\st.1+st.2.1=(s.length:Int) - 1/\st.1<=st.2.1+2/\st.2.2.length=s.length/\∀ k:Nat,k<s.length->st.2.2[k]? = if (k:Int)<st.1\/st.2.1<(k:Int) then s.reverse[k]? else s[k]?)
  (fun o=>o=s.reverse)
  (by
   rintro n ⟨i,j,l⟩ ⟨h0,h1,h2,h3,h4,h5⟩
   simp only at h0 h1 h2 h3 h4 h5
   by_cases hij:i<j
   ·left
    obtain ⟨a,rfl⟩:=Int.eq_ofNat_of_zero_le h0;obtain ⟨b,rfl⟩:=Int.eq_ofNat_of_zero_le (show 0<=j by omega)
    have ha:a<s.length:=by omega
    have hb:b<s.length:=by omega
    have la:l[a]? = some s[a]:=by rw [h5 a ha,if_neg (by omega),List.getElem?_eq_getElem ha]
    have lb:l[b]? = some s[b]:=by rw [h5 b hb,if_neg (by omega),List.getElem?_eq_getElem hb]
    have lb2:(l.set a s[b])[b]? = some s[b]:=by rw [List.getElem?_set_ne (by omega)];exact lb
    refine ⟨((a:Int)+1,(b:Int) - 1,(l.set a s[b]).set b s[a]),⟨by simp only;omega,by simp only;omega,by simp only;omega,by simp only;omega,by simpa using h4,fun k hk=>?_⟩,by simp only;omega,?_⟩
    ·simp only
     by_cases hkb:k=b
     ·subst hkb
      rw [List.getElem?_set_self (by simp;omega),if_pos (by omega),List.getElem?_reverse hk,List.getElem?_eq_getElem (by omega)]
      congr 2;omega
     ·rw [List.getElem?_set_ne (by omega)]
      by_cases hka:k=a
      ·subst hka
       rw [List.getElem?_set_self (by omega),if_pos (by omega),List.getElem?_reverse hk,List.getElem?_eq_getElem (by omega)]
       congr 2;omega
      ·rw [List.getElem?_set_ne (by omega),h5 k hk]
       by_cases hc:(k:Int)<a\/(b:Int)<k
       ·rw [if_pos hc,if_pos (by omega)]
       ·rw [if_neg hc,if_neg (by omega)]
    ·simp only [G4]
     rw [dT hij,cT,getI lb,oB,getI la,oB,oB,oB,Int.toNat_natCast,Int.toNat_natCast,getI lb2,oB,Ab (by omega),Ab (by omega)]
   ·right
    refine ⟨l,?_,by simp only [G4];rw [dF hij,cF_]⟩;refine List.ext_getElem? fun k=>?_
    by_cases hk:k<s.length
    ·rw [h5 k hk]
     split
     ·rfl
     ·rw [List.getElem?_reverse hk];congr 1;omega
    ·rw [List.getElem?_eq_none (by omega),List.getElem?_eq_none (by simp;omega)])
  FU (0,(s.length:Int) - 1,s) ⟨by simp only;omega,by simp only;omega,by simp only;omega,by simp only;omega,rfl,fun k hk=>by simp only;rw [if_neg (by omega)]⟩ (by rw [FUv];simp only;omega)
 rw [e1,e2]
def kat (L:List ANd) (i:Int):List Int:=match L[i.toNat]? with
 | some n=>kidsL n
 | none=>[]
noncomputable def dfs (K:Int->List Int):Nat->List Int->List Int->List Int
 | 0,_,out=>out
 | _+1,[],out=>out
 | n+1,x::s,out=>if x∈out then dfs K n s out else dfs K n (K x++s) (out++[x])
theorem NK (f g:Nat->Nat) (i:Nat):∀ l:List Nat,l.Nodup->i∈l->(∀ j∈l,j≠i->f j=g j)->(l.map f).sum+g i=(l.map g).sum+f i
 | [],_,h,_=>by simp at h
 | j::l,hn,hi,he=>by
  rw [List.nodup_cons] at hn;simp only [List.map_cons,List.sum_cons]
  by_cases hji:j=i
  ·subst hji
   have:l.map f=l.map g:=List.map_congr_left fun k hk=>he k (by simp [hk]) (fun e=>hn.1 (e▸hk))
   rw [this];omega
  ·have:=NK f g i l hn.2 (by simpa [Ne.symm hji] using hi) (fun k hk=>he k (by simp [hk]))
   have:=he j (by simp) hji
   omega
noncomputable def wt (K:Int->List Int) (len:Nat) (out:List Int):Nat:=((List.range len).map (fun (i:Nat)=>if (i:Int)∈out then 0 else (K (i:Int)).length)).sum
theorem RZ {K:Int->List Int} {len:Nat} {out:List Int} {i:Nat} (hi:i<len) (ho:¬ (i:Int)∈out):wt K len (out++[(i:Int)])+(K i).length=wt K len out:=by
 have:=NK (fun (j:Nat)=>if (j:Int)∈out++[(i:Int)] then 0 else (K (j:Int)).length) (fun (j:Nat)=>if (j:Int)∈out then 0 else (K (j:Int)).length) i (List.range len) List.nodup_range (List.mem_range.2 hi) (fun j _ hj=>by
  have e:((j:Int)∈out++[(i:Int)])↔(j:Int)∈out:=by simp;omega
  by_cases h:(j:Int)∈out
  ·rw [if_pos h,if_pos (e.2 h)]
  ·rw [if_neg h,if_neg (fun h2=>h (e.1 h2))])
 rw [if_neg ho,if_pos (by simp)] at this;unfold wt;omega
theorem Pw {L:List ANd} (hR:InL L):∀ i k,k∈kat L i->0<=k/\k<(L.length:Int):=by
 intro i k hk
 unfold kat at hk
 cases hq:L[i.toNat]? with
 | none=>rw [hq] at hk;simp at hk
 | some n=>rw [hq] at hk;exact hR n (List.mem_of_getElem? hq) k hk
theorem P3 {L:List ANd} (hN:∀ n∈L,NB n) (i:Int):(kat L i).length<=40:=by
 unfold kat
 cases hq:L[i.toNat]? with
 | none=>simp
 | some n=>exact G6 n (hN n (List.mem_of_getElem? hq))
theorem lastI (s:List Int) (x:Int):idx (s++[x]) (((s++[x]).length:Int) - 1)=some x:=by
 rw [show (((s++[x]).length:Int) - 1)=(s.length:Int) by simp];exact getI (by simp)
theorem initI (s:List Int) (x:Int):sli (s++[x]) 0 (((s++[x]).length:Int) - 1)=some s:=by
 rw [show (((s++[x]).length:Int) - 1)=(s.length:Int) by simp,GH (by simp)]
 simp
end Go.Proofs.YtkfnogdccpcmhaaGreatDoor
namespace Go.Proofs.YtkfnogdccpcmhaaGreatDoor
open Go.V
open Classical
noncomputable def AJ (L:List ANd) (root:Int):List Int:=dfs (kat L) FU [root] []
theorem Mx (f:Nat->Nat) (c:Nat):∀ l:List Nat,(∀ j∈l,f j<=c)->(l.map f).sum<=l.length*c
 | [],_=>by simp
 | j::l,h=>by
  have h1:=Mx f c l (fun k hk=>h k (by simp [hk]))
  have h2:=h j (by simp)
  simp only [List.map_cons,List.sum_cons,List.length_cons,Nat.add_mul]
  omega
theorem Ot {L:List ANd} (hN:∀ n∈L,NB n) (out:List Int):wt (kat L) L.length out<=L.length*40:=by
 have:=Mx (fun (i:Nat)=>if (i:Int)∈out then 0 else (kat L (i:Int)).length) 40 (List.range L.length) (fun j _=>by
  split
  ·omega
  ·exact P3 hN _)
 rw [List.length_range] at this;exact this
theorem J4 {K:Int->List Int} {D:Int->Prop} (hK:∀ x,D x->∀ k∈K x,D k):∀ (n:Nat) (s out:List Int),(∀ x∈s,D x)->(∀ x∈out,D x)->out.Nodup->(∀ x∈dfs K n s out,D x)/\(dfs K n s out).Nodup
 | 0,s,out,_,ho,hn=>⟨ho,hn⟩
 | n+1,[],out,_,ho,hn=>⟨ho,hn⟩
 | n+1,x::s,out,hs,ho,hn=>by
  unfold dfs
  split
  ·exact J4 hK n s out (fun y hy=>hs y (by simp [hy])) ho hn
  ·rename_i hx
   have hDx:=hs x (by simp)
   refine J4 hK n _ _ (fun y hy=>?_) (fun y hy=>?_) ?_
   ·rcases List.mem_append.1 hy with hy | hy
    ·exact hK x hDx y hy
    ·exact hs y (by simp [hy])
   ·rcases List.mem_append.1 hy with hy | hy
    ·exact ho y hy
    ·simp at hy;subst hy;exact hDx
   ·rw [List.nodup_append]
    refine ⟨hn,by simp,fun a ha b hb e=>?_⟩
    simp at hb
    subst hb e;exact hx ha
theorem HR:∀ (m:Nat) (l:List Int),l.Nodup->(∀ x∈l,0<=x/\x<(m:Int))->l.length<=m
 | 0,l,_,h=>by
  cases l with
  | nil=>simp
  | cons a l=>have:=h a (by simp);omega
 | m+1,l,hn,h=>by
  have h1:=HR m (l.erase (m:Int)) (hn.erase _) (fun x hx=>by
   have h2:=h x (List.mem_of_mem_erase hx)
   have h3:x≠(m:Int):=fun e=>by rw [e] at hx;exact absurd hx (by rw [hn.mem_erase_iff];simp)
   omega)
  have:=List.length_erase_le (a:=(m:Int)) (l:=l)
  have h4:l.length<=(l.erase (m:Int)).length+1:=by rw [List.length_erase];split <;> omega
  omega
theorem CG {L:List ANd} (hR:InL L) {root:Int} (h0:0<=root) (h1:root<(L.length:Int)):(∀ x∈AJ L root,0<=x/\x<(L.length:Int))/\(AJ L root).Nodup/\(AJ L root).length<=L.length:=by
 obtain ⟨a,b⟩:=J4 (K:=kat L) (D:=fun x=>0<=x/\x<(L.length:Int)) (fun x _ k hk=>Pw hR x k hk) FU [root] [] (fun x hx=>by simp at hx;subst hx;exact ⟨h0,h1⟩) (by simp) (by simp);exact ⟨a,b,HR _ _ b a⟩
theorem KV:∀ (a b:List Int),a.Pairwise (· < ·)->b.Pairwise (· < ·)->(∀ x,x∈a↔x∈b)->a=b
 | [],[],_,_,_=>rfl
 | [],y::b,_,_,h=>by have:=(h y).2 (by simp);simp at this
 | x::a,[],_,_,h=>by have:=(h x).1 (by simp);simp at this
 | x::a,y::b,ha,hb,h=>by
  rw [List.pairwise_cons] at ha hb
  have hxy:x=y:=by
   have h1:=(h x).1 (by simp)
   have h2:=(h y).2 (by simp)
   rcases List.mem_cons.1 h1 with h1 | h1
   ·exact h1
   ·rcases List.mem_cons.1 h2 with h2 | h2
    ·exact h2.symm
    ·have:=hb.1 x h1;have:=ha.1 y h2;omega
  subst hxy
  congr 1
  refine KV a b ha.2 hb.2 fun z=>?_
  have h1:=h z
  simp only [List.mem_cons] at h1
  constructor
  ·intro hz
   rcases h1.1 (.inr hz) with e | e
   ·have:=ha.1 z hz;omega
   ·exact e
  ·intro hz
   rcases h1.2 (.inr hz) with e | e
   ·have:=hb.1 z hz;omega
   ·exact e
theorem JJ {d:Array Int} (hd:∀ i j,i<j->j<d.size->d[i]! <= d[j]!):∀ m,m<=d.size->(Lib.compactUpTo d m).Pairwise (· < ·)/\(∀ x,x∈Lib.compactUpTo d m↔∃ j,j<m/\d[j]! = x)/\∀ x∈Lib.compactUpTo d m,0<m/\x<=d[m - 1]!
 | 0,_=>by simp [Lib.compactUpTo]
 | m+1,hm=>by
  obtain ⟨h1,h2,h3⟩:=JJ hd m (by omega);rw [Lib.compactUpTo_succ]
  by_cases hk:Lib.keeps d m=true
  ·rw [if_pos hk]
   have hk2:m=0\/d[m]! ≠ d[m - 1]! := by simpa [Lib.keeps] using hk
   have hlt:∀ x∈Lib.compactUpTo d m,x<d[m]! := by
    intro x hx
    obtain ⟨h4,h5⟩:=h3 x hx
    have h6:=hd (m - 1) m (by omega) (by omega)
    rcases hk2 with h7 | h7
    ·omega
    ·omega
   refine ⟨?_,fun x=>?_,fun x hx=>⟨by omega,?_⟩⟩
   ·rw [List.pairwise_append]
    exact ⟨h1,by simp,fun a ha b hb=>by simp at hb;subst hb;exact hlt a ha⟩
   ·rw [List.mem_append,h2 x]
    simp only [List.mem_cons,List.not_mem_nil,or_false]
    constructor
    ·rintro (⟨j,hj,e⟩ | e)
     ·exact ⟨j,by omega,e⟩
     ·exact ⟨m,by omega,e.symm⟩
    ·rintro ⟨j,hj,e⟩
     by_cases hjm:j=m
     ·subst hjm;exact .inr e.symm
     ·exact .inl ⟨j,by omega,e⟩
   ·rw [Nat.add_sub_cancel]
    rcases List.mem_append.1 hx with hx | hx
    ·exact Int.le_of_lt (hlt x hx)
    ·simp at hx;omega
  ·have hk':Lib.keeps d m=false:=by simpa using hk
   rw [hk']
   have hk2:0<m/\d[m]! = d[m - 1]! := by
    have:¬ (m=0\/d[m]! ≠ d[m - 1]!):=by simpa [Lib.keeps] using hk'
    omega
   simp only [Bool.false_eq_true,if_false,List.append_nil];refine ⟨h1,fun x=>?_,fun x hx=>⟨by omega,?_⟩⟩
   ·rw [h2 x]
    constructor
    ·rintro ⟨j,hj,e⟩;exact ⟨j,by omega,e⟩
    ·rintro ⟨j,hj,e⟩
     by_cases hjm:j=m
     ·subst hjm;exact ⟨j - 1,by omega,by rw [<- hk2.2];exact e⟩
     ·exact ⟨j,by omega,e⟩
   ·rw [Nat.add_sub_cancel]
    have:=(h3 x hx).2
    omega
theorem Ia {l:List Int} (h:l.Pairwise (· <= ·)):(Lib.compact l).Pairwise (· < ·)/\∀ x,x∈Lib.compact l↔x∈l:=by
 have hget:∀ j,j<l.length->l.toArray[j]! = l[j]! := fun j _=>by simp
 obtain ⟨h1,h2,_⟩:=JJ (d:=l.toArray) (fun i j hij hj=>by
  simp at hj
  have:=List.pairwise_iff_getElem.1 h i j (by omega) hj hij
  simpa [hj,show i<l.length by omega] using this) l.length (by simp)
 refine ⟨h1,fun x=>(h2 x).trans ?_⟩
 constructor
 ·rintro ⟨j,hj,e⟩
  rw [<- e];simp [hj]
 ·intro hx
  obtain ⟨j,hj,e⟩:=List.getElem_of_mem hx;exact ⟨j,hj,by simp [hj,e]⟩
theorem Jn (l:List Int):(List.mergeSort l fun x y=>decide (x<=y)).Pairwise (· <= ·):=by
 have:=List.pairwise_mergeSort (le:=fun x y:Int=>decide (x<=y)) (fun a b c h1 h2=>by simp at *;omega) (fun a b=>by simp;omega) l
 exact this.imp (fun h=>by simpa using h)
end Go.Proofs.YtkfnogdccpcmhaaGreatDoor
namespace Go.Proofs.YtkfnogdccpcmhaaGreatDoor
open Go.V
open Classical
theorem Oa:∀ n:Nat,(List.range n).Pairwise (· < ·)
 | 0=>by simp
 | n+1=>by
  rw [List.range_succ,List.pairwise_append];exact ⟨Oa n,by simp,fun a ha b hb=>by simp at ha hb;omega⟩
end Go.Proofs.YtkfnogdccpcmhaaGreatDoor
namespace Go.Proofs.YtkfnogdccpcmhaaGreatDoor
open Go.V
open Classical
def At (f:Int->Int) (n:ANd):ANd:=⟨n.kind,bif pB n.kind then f n.a else n.a,bif pB n.kind then f n.b else n.b,n.l.map (fun x=>⟨x.name,f x.at_⟩)⟩
theorem LJ (n:ANd) (p:Int->Option Int) (f:Int->Int) (h:NB n) (h1:pB n.kind=true->p n.a=some (f n.a)/\p n.b=some (f n.b)) (h2:∀ x∈n.l,p x.at_=some (f x.at_)):CO n p=some (At f n):=by
 unfold CO At;unfold NB at h;rw [show CK n.kind=some (pB n.kind) from rfl,oB]
 have key:∀ z1 z2 z3,BQ p n.l FU (0,n.l,z1,z2,z3)=some (n.l.map (fun x=>⟨x.name,f x.at_⟩),z1,z2,z3):=by
  intro z1 z2 z3
  refine NL (φ:=fun k i s=>BQ p n.l k (i,s,z1,z2,z3)) (l:=n.l) (fun x=>⟨x.name,f x.at_⟩) (fun s=>(s,z1,z2,z3)) ?_ ?_ (by rw [FUv];omega)
  ·intro k i x s hx hi hs hsx
   simp only [BQ];rw [dT (show (i:Int)<n.l.length by omega),cT,getI hsx,oB,h2 x (List.mem_of_getElem? hx),oB,oB,Ab (by omega),Int.toNat_natCast]
  ·intro k s hs
   simp only [BQ];rw [dF (by omega),cF_]
 cases hp:pB n.kind with
 | true =>
  obtain ⟨ha,hb⟩:=h1 hp;rw [cT,ha,oB,hb,oB,oB]
  dsimp only
  rw [Ab (by omega),key,oB];rfl
 | false =>
  rw [cF_,oB]
  dsimp only
  rw [Ab (by omega),key,oB];rfl
theorem Je {n:ANd} {all:Int} (h:Bn n all=true) (hw:wB n.kind=false):n.l=[]:=by
 unfold Bn at h;simp only [Bool.and_eq_true,Bool.not_eq_true'] at h
 have h2:=h.2.2.2.1
 rw [hw,Bool.not_false,Bool.true_and,decide_eq_false_iff_not] at h2;exact List.length_eq_zero_iff.1 (by omega)
theorem Rs {k:Int} (h:wB k=true):pB k=false:=by
 unfold wB at h;unfold pB
 rw [Bool.or_eq_true,decide_eq_true_eq,decide_eq_true_eq] at h
 rcases h with h | h <;> rw [h] <;> rfl
theorem FY {n:ANd} {all:Int} (h:Bn n all=true):(pB n.kind=true->(0<=n.a/\n.a<all)/\(0<=n.b/\n.b<all))/\∀ x∈n.l,0<=x.at_/\x.at_<all:=by
 have hk:=JI h
 unfold kidsL at hk
 constructor
 ·intro hp
  rw [hp,cT] at hk;exact ⟨hk n.a (by simp),hk n.b (by simp)⟩
 ·intro x hx
  cases hw:wB n.kind with
  | false=>rw [Je h hw] at hx;simp at hx
  | true =>
   rw [Rs hw,cF_,hw,cT] at hk;exact hk x.at_ (List.mem_map.2 ⟨x,hx,rfl⟩)
noncomputable def AM (a b:ATy):ATy:=⟨a.l++b.l.map (At (fun k=>k+(a.l.length:Int))),a.root⟩
theorem Ss (a b:ATy) (ha:a.l.length<=4001) (hb:b.l.length<=2001) (hN:∀ n∈b.l,NB n) (hR:Bk b.l):Eo a b=some (AM a b,(a.l.length:Int)):=by
 unfold Eo;rw [Ab (by omega)];rw [CI (φ:=fun n i s=>Cg a b n (i,a.root,s)) (l:=b.l) (At (fun k=>k+(a.l.length:Int))) (fun s=>(a.root,s)) a.l.length ?_ ?_ (by rw [FUv];omega) a.l rfl]
 ·rfl
 ·intro n i x s hx hi hs
  have hr:=FY (hR x (List.mem_of_getElem? hx))
  simp only [Cg];rw [dT (show (i:Int)<b.l.length by omega),cT,getI hx,oB,show (⟨x.kind,x.a,x.b,x.l⟩:ANd)=x from rfl,LJ x _ (fun k=>k+(a.l.length:Int)) (hN x (List.mem_of_getElem? hx)) (fun hp=>by
   obtain ⟨⟨a0,a1⟩,b0,b1⟩:=hr.1 hp;unfold BG;rw [Ab (by omega),Ab (by omega)];exact ⟨rfl,rfl⟩) (fun y hy=>by
   obtain ⟨y0,y1⟩:=hr.2 y hy;unfold BG;rw [Ab (by omega)]),oB,Ab (by simp only [List.length_cons,List.length_nil];omega),Ab (by omega)]
 ·intro n s hs
  simp only [Cg];rw [dF (by omega),cF_]
theorem MS (a b:ATy) (ha:a.l.length<=4001) (hb:b.l.length<=2001) (hN:∀ n∈b.l,NB n) (hR:Bk b.l):F4 a b=some (AM a b,(a.l.length:Int)):=by
 unfold F4;rw [Ab (by omega),List.nil_append];rw [CI (φ:=fun n i s=>DF a b n (i,a.root,s)) (l:=b.l) (At (fun k=>k+(a.l.length:Int))) (fun s=>(a.root,s)) a.l.length ?_ ?_ (by rw [FUv];omega) a.l rfl]
 ·rfl
 ·intro n i x s hx hi hs
  have hr:=FY (hR x (List.mem_of_getElem? hx))
  have hNx:=hN x (List.mem_of_getElem? hx)
  unfold NB at hNx
  have key:CX a x.l FU (0,[])=some (x.l.map (fun y=>⟨y.name,y.at_+(a.l.length:Int)⟩)):=by
   rw [CI (φ:=fun n i s=>CX a x.l n (i,s)) (l:=x.l) (fun y=>(⟨y.name,y.at_+(a.l.length:Int)⟩:AFd)) id 0 ?_ ?_ (by rw [FUv];omega) [] rfl]
   ·rfl
   ·intro n i y s hy hi hs
    obtain ⟨y0,y1⟩:=hr.2 y (List.mem_of_getElem? hy);simp only [CX];rw [dT (show (i:Int)<x.l.length by omega),cT,getI hy,oB,oB,Ab (by omega),Ab (by simp only [List.length_cons,List.length_nil];omega),Ab (by omega)]
   ·intro n s hs
    simp only [CX];rw [dF (by omega),cF_];rfl
  simp only [DF];rw [dT (show (i:Int)<b.l.length by omega),cT,getI hx,oB]
  change ((bif pB x.kind then _ else _:Option (Int×Int×Int×(List AFd))).bind _)=_
  unfold At
  cases hp:pB x.kind with
  | true =>
   obtain ⟨⟨a0,a1⟩,b0,b1⟩:=hr.1 hp;rw [cT,Ab (by omega),Ab (by omega),oB]
   dsimp only
   rw [key,oB,Ab (by simp only [List.length_cons,List.length_nil];omega),Ab (by omega)]
   rfl
  | false =>
   rw [cF_,oB]
   dsimp only
   rw [key,oB,Ab (by simp only [List.length_cons,List.length_nil];omega),Ab (by omega)]
   rfl
 ·intro n s hs
  simp only [DF];rw [dF (by omega),cF_]
theorem node_ext {x y:ANd}:x=y↔x.kind=y.kind/\x.a=y.a/\x.b=y.b/\x.l=y.l:=by
 obtain ⟨a,b,c,d⟩:=x;obtain ⟨a',b',c',d'⟩:=y
 simp
theorem Mt {n:ANd} {f:Int->Int} (h:NB n):NB (At f n):=by unfold NB At at *;simpa using h
theorem Q9 {a b:ATy} (ha:∀ n∈a.l,NB n) (hb:∀ n∈b.l,NB n):∀ n∈(AM a b).l,NB n:=by
 intro n hn
 rcases List.mem_append.1 hn with hn | hn
 ·exact ha n hn
 ·obtain ⟨m,hm,rfl⟩:=List.mem_map.1 hn
  exact Mt (hb m hm)
end Go.Proofs.YtkfnogdccpcmhaaGreatDoor
namespace Go.Proofs.YtkfnogdccpcmhaaGreatDoor
open Go.V
open Classical
def In (t:ATy) (i:Int):Prop:=0<=i/\i<(t.l.length:Int)
def nd (t:ATy) (i:Int):ANd:=(t.l[i.toNat]?).getD ⟨0,0,0,[]⟩
theorem LZ {t:ATy} {i:Int} (h:In t i):t.l[i.toNat]? = some (nd t i):=by
 unfold nd
 have h1:i.toNat<t.l.length:=by have:=h.1;have:=h.2;omega
 rw [List.getElem?_eq_getElem h1];rfl
theorem Fx {t:ATy} {i:Int} (h:In t i):nd t i∈t.l:=List.mem_of_getElem? (LZ h)
theorem Uy {t:ATy} {i:Nat} {n:ANd} (h:t.l[i]? = some n):nd t i=n:=by unfold nd;rw [Int.toNat_natCast,h];rfl
def cs (l:List Int):List Int:=Lib.compact (List.mergeSort l fun x y=>decide (x<=y))
theorem mem_cs {l:List Int} {x:Int}:x∈cs l↔x∈l:=by
 unfold cs;rw [(Ia (Jn l)).2 x,List.mem_mergeSort]
theorem A1 (l:List Int):(cs l).Pairwise (· < ·):=(Ia (Jn l)).1
theorem Qa {l m:List Int} (h:l.Pairwise (· < ·)) (hm:∀ x,x∈l↔x∈m):l=cs m:=KV l (cs m) h (A1 m) (fun x=>by rw [hm x,mem_cs])
def wsum (w:Int->Nat):List Int->Nat
 | []=>0
 | x::l=>w x+wsum w l
theorem L7 (w:Int->Nat):∀ l m:List Int,wsum w (l++m)=wsum w l+wsum w m
 | [],m=>by simp [wsum]
 | x::l,m=>by simp only [List.cons_append,wsum,L7 w l m];omega
theorem JZ {w:Int->Nat} {l m:List Int} (h:l.Perm m):wsum w l=wsum w m:=by
 induction h with
 | nil=>rfl
 | cons x _ ih=>simp only [wsum,ih]
 | swap x y l=>simp only [wsum];omega
 | trans _ _ a b=>exact a.trans b
theorem Oh (w:Int->Nat):∀ s l:List Int,s.Nodup->(∀ x∈s,x∈l)->wsum w s<=wsum w l
 | [],l,_,_=>Nat.zero_le _
 | x::s,l,hn,h=>by
  obtain ⟨h1,h2⟩:=List.nodup_cons.1 hn
  have hp:=List.perm_cons_erase (h x (by simp))
  have:=Oh w s (l.erase x) h2 (fun y hy=>(List.mem_erase_of_ne (fun e=>h1 (by rw [<- e];exact hy))).2 (h y (by simp [hy])))
  rw [JZ hp];simp only [wsum];omega
theorem Qd (w:Int->Nat) (l:List Int):wsum w (cs l)<=wsum w l:=Oh w (cs l) l ((A1 l).imp (fun h=>by omega)) (fun x hx=>mem_cs.1 hx)
structure OkT (t:ATy):Prop where
 right:Bk t.l
 ends:Eu t.l
theorem OkT.kind {t:ATy} (h:OkT t) {i:Int} (hi:In t i):1<=(nd t i).kind/\(nd t i).kind<=11:=by
 have:=h.right _ (Fx hi)
 unfold Bn at this;simp only [Bool.and_eq_true,Bool.not_eq_true',Bool.or_eq_false_iff,decide_eq_false_iff_not] at this
 have:=this.1;omega
theorem OkT.kids {t:ATy} (h:OkT t) {i:Int} (hi:In t i) {k:Int} (hk:k∈kidsL (nd t i)):In t k:=AI h.right _ (Fx hi) k hk
theorem OkT.pair {t:ATy} (h:OkT t) {i:Int} (hi:In t i) (hk:(nd t i).kind=6\/(nd t i).kind=9\/(nd t i).kind=10):In t (nd t i).a/\In t (nd t i).b:=by
 have h1:kidsL (nd t i)=[(nd t i).a,(nd t i).b]:=by
  unfold kidsL pB
  rcases hk with hk | hk | hk <;> rw [hk] <;> rfl
 exact ⟨h.kids hi (by rw [h1];simp),h.kids hi (by rw [h1];simp)⟩
theorem OkT.at_ {t:ATy} (h:OkT t) {i:Int} (hi:In t i) {f:AFd} (hf:f∈(nd t i).l):In t f.at_:=(FY (h.right _ (Fx hi))).2 f hf
theorem OkT.weight {t:ATy} (h:OkT t):∃ w:Int->Nat,∀ i,In t i->latB (nd t i).kind=true->w (nd t i).a+w (nd t i).b<w i:=by
 have key:∀ i:Nat,∃ r:Nat,i<t.l.length->endk t.l (r+1) i=true/\endk t.l r i=false:=by
  intro i
  by_cases hi:i<t.l.length
  ·obtain ⟨m,hm⟩:=h.ends i hi
   obtain ⟨k,_,h1,h2⟩:=Jf m hm;exact ⟨k,fun _=>⟨h1,h2⟩⟩
  ·exact ⟨0,fun h=>absurd h hi⟩
 obtain ⟨r,hr⟩:=Classical.axiomOfChoice key;refine ⟨fun i=>3 ^ r i.toNat,fun i hi hl=>?_⟩
 have hil:i.toNat<t.l.length:=by have:=hi.1;have:=hi.2;omega
 have hp:In t (nd t i).a/\In t (nd t i).b:=h.pair hi (by unfold latB at hl;simp only [Bool.or_eq_true,decide_eq_true_eq] at hl;exact .inr hl)
 obtain ⟨h1,h2⟩:=hr i.toNat hil
 have hlt:∀ k:Int,In t k->endk t.l (r i.toNat) k.toNat=true->r k.toNat<r i.toNat:=by
  intro k hk he
  have hkl:k.toNat<t.l.length:=by have:=hk.1;have:=hk.2;omega
  rcases Nat.lt_or_ge (r k.toNat) (r i.toNat) with h3 | h3
  ·exact h3
  ·have:=Iy h3 he;rw [(hr _ hkl).2] at this;cases this
 have h3:endk t.l (r i.toNat) (nd t i).a.toNat=true/\endk t.l (r i.toNat) (nd t i).b.toNat=true:=by
  unfold endk at h1;rw [LZ hi] at h1;simp only [hl,Bool.not_true,Bool.false_or,Bool.and_eq_true] at h1;exact h1
 have ha:=hlt _ hp.1 h3.1
 have hb:=hlt _ hp.2 h3.2
 obtain ⟨m,hm⟩:∃ m,r i.toNat=m+1:=⟨r i.toNat - 1,by omega⟩
 have h4:3 ^ r (nd t i).a.toNat<=3 ^ m:=Nat.pow_le_pow_right (by omega) (by omega)
 have h5:3 ^ r (nd t i).b.toNat<=3 ^ m:=Nat.pow_le_pow_right (by omega) (by omega)
 have h6:3 ^ (m+1)=3*3 ^ m:=by rw [Nat.pow_succ];omega
 have h7:0<3 ^ m:=Nat.pow_pos (by omega)
 show 3 ^ r (nd t i).a.toNat+3 ^ r (nd t i).b.toNat<3 ^ r i.toNat
 rw [hm,h6];omega
def atN (n:ANd) (s:List UInt8):Option Int:=(n.l.find? fun f=>decide (f.name=s)).map (·.at_)
theorem NF {n:ANd} {s:List UInt8} {k:Int} (h:atN n s=some k):∃ f∈n.l,f.name=s/\f.at_=k:=by
 unfold atN at h
 cases hq:n.l.find? fun f=>decide (f.name=s) with
 | none=>rw [hq] at h;cases h
 | some f=>rw [hq] at h;exact ⟨f,List.mem_of_find?_eq_some hq,by simpa using List.find?_some hq,by simpa using h⟩
theorem Sl {n:ANd} {s:List UInt8}:atN n s≠none↔s∈n.l.map (·.name):=by
 unfold atN
 constructor
 ·intro h
  cases hq:n.l.find? fun f=>decide (f.name=s) with
  | none=>rw [hq] at h;exact absurd rfl h
  | some f=>exact List.mem_map.2 ⟨f,List.mem_of_find?_eq_some hq,by simpa using List.find?_some hq⟩
 ·intro h hq
  obtain ⟨f,hf,rfl⟩:=List.mem_map.1 h;rw [Option.map_eq_none_iff,List.find?_eq_none] at hq
  simpa using hq f hf
def AH (t:ATy) (l:List Int) (s:List UInt8):List Int:=l.filterMap fun i=>atN (nd t i) s
def Dj (t:ATy):List Int->List (List UInt8)
 | []=>[]
 | i::l=>((nd t i).l.map (·.name)).filter fun s=>(i::l).all fun j=>(atN (nd t j) s).isSome
def ofK (t:ATy) (l:List Int) (k:Int):List Int:=l.filter fun i=>decide ((nd t i).kind=k)
def latA (t:ATy) (l:List Int):Option (ANd×List Int):=(l.findIdx? fun i=>latB (nd t i).kind).map fun k=>(nd t (l.getD k 0),l.take k++l.drop (k+1))
def openA (t:ATy) (q:BSq):Option (List BSq):=match latA t q.left with
 | some (n,rest)=>some (if n.kind=10 then [⟨cs (rest++[n.a,n.b]),q.right⟩] else [⟨cs (rest++[n.a]),q.right⟩,⟨cs (rest++[n.b]),q.right⟩])
 | none=>match latA t q.right with
  | some (n,rest)=>some (if n.kind=9 then [⟨q.left,cs (rest++[n.a,n.b])⟩] else [⟨q.left,cs (rest++[n.a])⟩,⟨q.left,cs (rest++[n.b])⟩])
  | none=>none
def badA (t:ATy) (l r:List Int) (s:List UInt8):Bool:=(AH t l s).isEmpty||(AH t r s).isEmpty
def allA (t:ATy) (k:Int) (l r:List Int):List (List UInt8):=if k=7 then Dj t r else if k=8 then Dj t l else []
def B5 (t:ATy) (k:Int) (l r:List Int):Bool×List BSq:=
 if k≠8/\r=[] then (true,[]) else
 if k=6 then (false,[⟨cs (r.map fun i=>(nd t i).a),cs (l.map fun i=>(nd t i).a)⟩,⟨cs (l.map fun i=>(nd t i).b),cs (r.map fun i=>(nd t i).b)⟩]) else
 if (allA t k l r).any (badA t l r) then (true,[]) else (false,(allA t k l r).map fun s=>⟨cs (AH t l s),cs (AH t r s)⟩)
def Cp (t:ATy) (l:List Int):List Int:=[3,4,5,6,7,8].filter fun k=>l.any fun i=>decide ((nd t i).kind=k)
def Do (t:ATy) (q:BSq):Bool×List BSq:=match Cp t q.left with
 | []=>(true,[])
 | [k]=>B5 t k (ofK t q.left k) (ofK t q.right k)
 | _=>(false,[])
def endA (t:ATy) (q:BSq):Bool:=(q.left.any fun i=>decide ((nd t i).kind=2))||(q.right.any fun i=>decide ((nd t i).kind=1))
def FW (t:ATy) (q:BSq):Bool:=q.left.any fun i=>q.right.any fun j=>decide ((nd t i).kind=11)&&decide ((nd t j).kind=11)&&decide ((nd t i).a=(nd t j).a)
def AS (t:ATy) (q:BSq):Bool×List BSq:=
 if endA t q=true then (false,[]) else match openA t q with
 | some l=>(false,l)
 | none=>if FW t q=true then (false,[]) else Do t q
theorem C6 {t:ATy} {l rest:List Int} {n:ANd} (h:latA t l=some (n,rest)):∃ i,n=nd t i/\latB n.kind=true/\l.Perm (i::rest):=by
 unfold latA at h
 cases hq:l.findIdx? fun i=>latB (nd t i).kind with
 | none=>rw [hq] at h;cases h
 | some k =>
  rw [hq] at h;simp only [Option.map_some,Option.some.injEq,Prod.mk.injEq] at h;obtain ⟨rfl,rfl⟩:=h;rw [List.findIdx?_eq_some_iff_getElem] at hq;obtain ⟨hk,h1,_⟩:=hq
  have e:l.getD k 0=l[k]:=by rw [List.getD_eq_getElem?_getD,List.getElem?_eq_getElem hk];rfl
  refine ⟨l[k],by rw [e],by rw [e];exact h1,?_⟩
  have e2:l=l.take k++l[k]::l.drop (k+1):=by rw [<- List.drop_eq_getElem_cons hk,List.take_append_drop]
  have h3:=List.perm_middle (a:=l[k]) (l₁:=l.take k) (l₂:=l.drop (k+1))
  rw [<- e2] at h3;exact h3
theorem GT {t:ATy} {l:List Int} (h:latA t l=none):∀ i∈l,latB (nd t i).kind=false:=by
 unfold latA at h;rw [Option.map_eq_none_iff,List.findIdx?_eq_none_iff] at h
 intro i hi
 simpa using h i hi
theorem mem_names {t:ATy} {l:List Int} {s:List UInt8}:s∈Dj t l↔l≠[]/\∀ i∈l,atN (nd t i) s≠none:=by
 cases l with
 | nil=>simp [Dj]
 | cons i l =>
  unfold Dj;rw [List.mem_filter,<- Sl,List.all_eq_true]
  constructor
  ·rintro ⟨_,h2⟩
   exact ⟨by simp,fun j hj=>by have:=h2 j hj;cases hq:atN (nd t j) s with
    | none=>rw [hq] at this;cases this
    | some _=>simp⟩
  ·rintro ⟨_,h2⟩
   exact ⟨h2 i (by simp),fun j hj=>by have:=h2 j hj;cases hq:atN (nd t j) s with
    | none=>exact absurd hq this
    | some _=>rfl⟩
theorem mem_parts {t:ATy} {l:List Int} {s:List UInt8} {k:Int}:k∈AH t l s↔∃ i∈l,atN (nd t i) s=some k:=by unfold AH;rw [List.mem_filterMap]
theorem mem_ofK {t:ATy} {l:List Int} {k i:Int}:i∈ofK t l k↔i∈l/\(nd t i).kind=k:=by unfold ofK;rw [List.mem_filter,decide_eq_true_eq]
theorem mem_kinds {t:ATy} {l:List Int} {k:Int}:k∈Cp t l↔(3<=k/\k<=8)/\∃ i∈l,(nd t i).kind=k:=by
 unfold Cp;rw [List.mem_filter,List.any_eq_true];simp only [List.mem_cons,List.not_mem_nil,or_false,decide_eq_true_eq]
 constructor
 ·rintro ⟨h1,h2⟩;exact ⟨by omega,h2⟩
 ·rintro ⟨h1,h2⟩;exact ⟨by omega,h2⟩
theorem Kq (t:ATy) (l:List Int):(Cp t l).Nodup:=by unfold Cp;exact List.Nodup.sublist List.filter_sublist (by decide)
inductive Pt
 | tag (S:Int->Prop) (k:Int)
 | dom (S:Int->Prop) (q:Pt)
 | cod (S:Int->Prop) (q:Pt)
 | absent (S:Int->Prop) (s:List UInt8)
 | field (S:Int->Prop) (s:List UInt8) (q:Pt)
 | hasc (S:Int->Prop) (s:List UInt8)
 | case (S:Int->Prop) (s:List UInt8) (q:Pt)
def Pt.vars:Pt->Int->Prop
 | .tag S _=>S
 | .dom S _=>S
 | .cod S _=>S
 | .absent S _=>S
 | .field S _ _=>S
 | .hasc S _=>S
 | .case S _ _=>S
def Pt.kind:Pt->Int
 | .tag _ k=>k
 | .dom _ _=>6
 | .cod _ _=>6
 | .absent _ _=>7
 | .field _ _ _=>7
 | .hasc _ _=>8
 | .case _ _ _=>8
def Pt.size:Pt->Nat
 | .tag _ _=>0
 | .dom _ q=>q.size+1
 | .cod _ q=>q.size+1
 | .absent _ _=>0
 | .field _ _ q=>q.size+1
 | .hasc _ _=>0
 | .case _ _ q=>q.size+1
inductive La (t:ATy) (S:Int->Prop) (D:ANd->Prop):Int->Prop
 | top {i:Int}:(nd t i).kind=1->La t S D i
 | inl {i:Int}:(nd t i).kind=9->La t S D (nd t i).a->La t S D i
 | inr {i:Int}:(nd t i).kind=9->La t S D (nd t i).b->La t S D i
 | both {i:Int}:(nd t i).kind=10->La t S D (nd t i).a->La t S D (nd t i).b->La t S D i
 | var {i:Int}:(nd t i).kind=11->S (nd t i).a->La t S D i
 | head {i:Int}:3<=(nd t i).kind->(nd t i).kind<=8->D (nd t i)->La t S D i
def hdP (t:ATy):Pt->ANd->Prop
 | .tag _ k,x=>x.kind=k/\k≠8
 | .dom _ q,x=>x.kind=6/\¬ La t q.vars (hdP t q) x.a
 | .cod _ q,x=>x.kind=6/\La t q.vars (hdP t q) x.b
 | .absent _ s,x=>x.kind=7/\atN x s=none
 | .field _ s q,x=>x.kind=7/\∀ k,atN x s=some k->La t q.vars (hdP t q) k
 | .hasc _ s,x=>x.kind=8/\atN x s≠none
 | .case _ s q,x=>x.kind=8/\∃ k,atN x s=some k/\La t q.vars (hdP t q) k
def Sat (t:ATy) (p:Pt) (i:Int):Prop:=La t p.vars (hdP t p) i
theorem K2 {t:ATy} {p:Pt} {x:ANd} (h:hdP t p x):x.kind=p.kind:=by
 cases p <;> exact h.1
section
variable {t:ATy} {S:Int->Prop} {D:ANd->Prop} {i:Int}
theorem TR (h:(nd t i).kind=1):La t S D i := .top h
theorem T7 (h:(nd t i).kind=2):¬ La t S D i:=by intro h2;cases h2 <;> omega
theorem IC (h:(nd t i).kind=9):La t S D i↔La t S D (nd t i).a\/La t S D (nd t i).b:=by
 constructor
 ·intro h2
  cases h2 with
  | inl _ h3=>exact .inl h3
  | inr _ h3=>exact .inr h3
  | top h3=>omega
  | both h3 _ _=>omega
  | var h3 _=>omega
  | head h3 h4 _=>omega
 ·rintro (h2 | h2)
  ·exact .inl h h2
  ·exact .inr h h2
theorem JN (h:(nd t i).kind=10):La t S D i↔La t S D (nd t i).a/\La t S D (nd t i).b:=by
 constructor
 ·intro h2
  cases h2 with
  | both _ h3 h4=>exact ⟨h3,h4⟩
  | inl h3 _=>omega
  | inr h3 _=>omega
  | top h3=>omega
  | var h3 _=>omega
  | head h3 h4 _=>omega
 ·rintro ⟨h2,h3⟩;exact .both h h2 h3
theorem RW (h:(nd t i).kind=11):La t S D i↔S (nd t i).a:=by
 constructor
 ·intro h2
  cases h2 with
  | var _ h3=>exact h3
  | both h3 _ _=>omega
  | inl h3 _=>omega
  | inr h3 _=>omega
  | top h3=>omega
  | head h3 h4 _=>omega
 ·intro h2;exact .var h h2
theorem FB (h:3<=(nd t i).kind) (h':(nd t i).kind<=8):La t S D i↔D (nd t i):=by
 constructor
 ·intro h2
  cases h2 with
  | head _ _ h3=>exact h3
  | both h3 _ _=>omega
  | inl h3 _=>omega
  | inr h3 _=>omega
  | top h3=>omega
  | var h3 _=>omega
 ·intro h2;exact .head h h' h2
end
def CE (t:ATy) (p:Pt) (q:BSq):Prop:=(∀ i∈q.left,Sat t p i)/\∀ i∈q.right,¬ Sat t p i
def InQ (t:ATy) (q:BSq):Prop:=(∀ i∈q.left,In t i)/\∀ i∈q.right,In t i
structure Bc (t:ATy) (q:BSq):Prop where
 bot:∀ i∈q.left,(nd t i).kind≠2
 top:∀ i∈q.right,(nd t i).kind≠1
 latL:∀ i∈q.left,latB (nd t i).kind=false
 latR:∀ i∈q.right,latB (nd t i).kind=false
 share:∀ i∈q.left,∀ j∈q.right,(nd t i).kind=11->(nd t j).kind=11->(nd t i).a≠(nd t j).a
theorem Px {k:Int} (h:latB k=false):k≠9/\k≠10:=by
 unfold latB at h;simp only [Bool.or_eq_false_iff,decide_eq_false_iff_not] at h;exact h
theorem D7 {k:Int} (h:latB k=true):k=9\/k=10:=by
 unfold latB at h
 simpa only [Bool.or_eq_true,decide_eq_true_eq] using h
def SV (t:ATy) (q:BSq):Int->Prop:=fun v=>∃ i∈q.left,(nd t i).kind=11/\(nd t i).a=v
theorem Km {t:ATy} {q:BSq} {p:Pt} (hO:OkT t) (hq:InQ t q) (hC:Bc t q) (hS:p.vars=SV t q)
  (hL:∀ i∈q.left,3<=(nd t i).kind->(nd t i).kind<=8->hdP t p (nd t i)) (hR:∀ i∈q.right,3<=(nd t i).kind->(nd t i).kind<=8->¬ hdP t p (nd t i)):CE t p q:=by
 constructor
 ·intro i hi
  have hk:=hO.kind (hq.1 i hi)
  have h2:=hC.bot i hi
  have h3:=Px (hC.latL i hi)
  by_cases h1:(nd t i).kind=1
  ·exact .top h1
  ·by_cases h11:(nd t i).kind=11
   ·refine .var h11 ?_
    rw [hS];exact ⟨i,hi,h11,rfl⟩
   ·exact .head (by omega) (by omega) (hL i hi (by omega) (by omega))
 ·intro i hi hs
  have h1:=hC.top i hi
  have h3:=Px (hC.latR i hi)
  unfold Sat at hs
  cases hs with
  | top h=>exact h1 h
  | inl h _=>exact h3.1 h
  | inr h _=>exact h3.1 h
  | both h _ _=>exact h3.2 h
  | var h h4 =>
   rw [hS] at h4;obtain ⟨j,hj,hj1,hj2⟩:=h4;exact hC.share j hj i hi hj1 h hj2
  | head h4 h5 h6=>exact hR i hi h4 h5 h6
theorem MX {t:ATy} {l:List Int} (h:Cp t l=[]):∀ i∈l,3<=(nd t i).kind->(nd t i).kind<=8->False:=by
 intro i hi h1 h2
 have:=(mem_kinds (t:=t) (l:=l)).2 ⟨⟨h1,h2⟩,i,hi,rfl⟩
 rw [h] at this;cases this
theorem FK {t:ATy} {l:List Int} {k:Int} (h:Cp t l=[k]):(3<=k/\k<=8)/\(∃ i∈l,(nd t i).kind=k)/\∀ i∈l,3<=(nd t i).kind->(nd t i).kind<=8->(nd t i).kind=k:=by
 have h0:=(mem_kinds (t:=t) (l:=l) (k:=k)).1 (by rw [h];simp)
 refine ⟨h0.1,h0.2,fun i hi h1 h2=>?_⟩
 have:=(mem_kinds (t:=t) (l:=l)).2 ⟨⟨h1,h2⟩,i,hi,rfl⟩
 rw [h] at this;simpa using this
theorem Q8 {t:ATy} {l m:List Int} {a b:Int} (h:Cp t l=a::b::m):∃ i∈l,∃ j∈l,(3<=(nd t i).kind/\(nd t i).kind<=8)/\(3<=(nd t j).kind/\(nd t j).kind<=8)/\(nd t i).kind≠(nd t j).kind:=by
 have ha:=(mem_kinds (t:=t) (l:=l) (k:=a)).1 (by rw [h];simp)
 have hb:=(mem_kinds (t:=t) (l:=l) (k:=b)).1 (by rw [h];simp)
 have hn:=Kq t l
 rw [h] at hn
 have hab:a≠b:=fun e=>by subst e;exact (List.nodup_cons.1 hn).1 (by simp)
 obtain ⟨i,hi,rfl⟩:=ha.2;obtain ⟨j,hj,rfl⟩:=hb.2;exact ⟨i,hi,j,hj,ha.1,hb.1,hab⟩
theorem OK {t:ATy} {l r:List Int} {s:List UInt8} (h:badA t l r s=true):(∀ i∈l,atN (nd t i) s=none)\/∀ i∈r,atN (nd t i) s=none:=by
 unfold badA at h;rw [Bool.or_eq_true,List.isEmpty_iff,List.isEmpty_iff] at h
 have key:∀ l:List Int,AH t l s=[]->∀ i∈l,atN (nd t i) s=none:=by
  intro l hl i hi
  cases hq:atN (nd t i) s with
  | none=>rfl
  | some k=>have:=(mem_parts (t:=t) (l:=l)).2 ⟨i,hi,hq⟩;rw [hl] at this;cases this
 exact h.imp (key l) (key r)
theorem Rp {t:ATy} {l r:List Int} {s:List UInt8} (h:(∀ i∈l,atN (nd t i) s=none)\/∀ i∈r,atN (nd t i) s=none):badA t l r s=true:=by
 unfold badA;rw [Bool.or_eq_true,List.isEmpty_iff,List.isEmpty_iff]
 have key:∀ l:List Int,(∀ i∈l,atN (nd t i) s=none)->AH t l s=[]:=by
  intro l hl
  rw [List.eq_nil_iff_forall_not_mem]
  intro k hk
  obtain ⟨i,hi,h2⟩:=mem_parts.1 hk;rw [hl i hi] at h2;cases h2
 exact h.imp (key l) (key r)
theorem Qw {t:ATy} {q:BSq} {k:Int} (hO:OkT t) (hq:InQ t q) (hC:Bc t q) (hk:Cp t q.left=[k]) (h:(B5 t k (ofK t q.left k) (ofK t q.right k)).1=true):∃ p,CE t p q:=by
 obtain ⟨h0,⟨i0,hi0,hk0⟩,h1⟩:=FK hk;unfold B5 at h
 split at h
 ·rename_i hr
  refine ⟨.tag (SV t q) k,Km hO hq hC rfl (fun i hi h3 h8=>⟨h1 i hi h3 h8,hr.1⟩) (fun i hi h3 h8 hd=>?_)⟩
  have:=mem_ofK.2 ⟨hi,hd.1⟩
  rw [hr.2] at this;cases this
 ·rename_i hr
  split at h
  ·cases h
  ·split at h
   ·rename_i h2
    rw [List.any_eq_true] at h2;obtain ⟨s,hs,hb⟩:=h2;unfold allA at hs
    split at hs
    ·rename_i h7;subst h7
     obtain ⟨hne,hall⟩:=mem_names.1 hs
     rcases OK hb with hb | hb
     ·refine ⟨.absent (SV t q) s,Km hO hq hC rfl (fun i hi h3 h8=>⟨h1 i hi h3 h8,hb i (mem_ofK.2 ⟨hi,h1 i hi h3 h8⟩)⟩) (fun i hi h3 h8 hd=>?_)⟩
      exact hall i (mem_ofK.2 ⟨hi,hd.1⟩) hd.2
     ·exfalso
      cases hq':ofK t q.right 7 with
      | nil=>exact hne hq'
      | cons j m=>exact hall j (by rw [hq'];simp) (hb j (by rw [hq'];simp))
    ·split at hs
     ·rename_i h8;subst h8
      obtain ⟨hne,hall⟩:=mem_names.1 hs
      rcases OK hb with hb | hb
      ·exfalso
       exact hall i0 (mem_ofK.2 ⟨hi0,hk0⟩) (hb i0 (mem_ofK.2 ⟨hi0,hk0⟩))
      ·refine ⟨.hasc (SV t q) s,Km hO hq hC rfl (fun i hi h3 h8=>⟨h1 i hi h3 h8,hall i (mem_ofK.2 ⟨hi,h1 i hi h3 h8⟩)⟩) (fun i hi h3 h8 hd=>?_)⟩
       exact hd.2 (hb i (mem_ofK.2 ⟨hi,hd.1⟩))
     ·cases hs
   ·cases h
theorem R4 {t:ATy} {q s:BSq} {k:Int} {p:Pt} (hO:OkT t) (hq:InQ t q) (hC:Bc t q) (hk:Cp t q.left=[k]) (hs:s∈(B5 t k (ofK t q.left k) (ofK t q.right k)).2) (hp:CE t p s):∃ p,CE t p q:=by
 obtain ⟨h0,⟨i0,hi0,hk0⟩,h1⟩:=FK hk;unfold B5 at hs
 split at hs
 ·cases hs
 ·rename_i hr
  split at hs
  ·rename_i h6;subst h6
   simp only [List.mem_cons,List.not_mem_nil,or_false] at hs
   rcases hs with rfl | rfl
   ·refine ⟨.dom (SV t q) p,Km hO hq hC rfl (fun i hi h3 h8=>⟨h1 i hi h3 h8,?_⟩) (fun i hi h3 h8 hd=>?_)⟩
    ·exact hp.2 _ (mem_cs.2 (List.mem_map.2 ⟨i,mem_ofK.2 ⟨hi,h1 i hi h3 h8⟩,rfl⟩))
    ·exact hd.2 (hp.1 _ (mem_cs.2 (List.mem_map.2 ⟨i,mem_ofK.2 ⟨hi,hd.1⟩,rfl⟩)))
   ·refine ⟨.cod (SV t q) p,Km hO hq hC rfl (fun i hi h3 h8=>⟨h1 i hi h3 h8,?_⟩) (fun i hi h3 h8 hd=>?_)⟩
    ·exact hp.1 _ (mem_cs.2 (List.mem_map.2 ⟨i,mem_ofK.2 ⟨hi,h1 i hi h3 h8⟩,rfl⟩))
    ·exact hp.2 _ (mem_cs.2 (List.mem_map.2 ⟨i,mem_ofK.2 ⟨hi,hd.1⟩,rfl⟩)) hd.2
  ·split at hs
   ·cases hs
   ·rename_i hb
    obtain ⟨n,hn,rfl⟩:=List.mem_map.1 hs;unfold allA at hn
    split at hn
    ·rename_i h7;subst h7
     obtain ⟨hne,hall⟩:=mem_names.1 hn;refine ⟨.field (SV t q) n p,Km hO hq hC rfl (fun i hi h3 h8=>⟨h1 i hi h3 h8,fun k hk=>?_⟩) (fun i hi h3 h8 hd=>?_)⟩
     ·exact hp.1 _ (mem_cs.2 (mem_parts.2 ⟨i,mem_ofK.2 ⟨hi,h1 i hi h3 h8⟩,hk⟩))
     ·have hi2:=mem_ofK.2 ⟨hi,hd.1⟩
      cases hq2:atN (nd t i) n with
      | none=>exact hall i hi2 hq2
      | some k=>exact hp.2 _ (mem_cs.2 (mem_parts.2 ⟨i,hi2,hq2⟩)) (hd.2 k hq2)
    ·split at hn
     ·rename_i h8;subst h8
      obtain ⟨hne,hall⟩:=mem_names.1 hn;refine ⟨.case (SV t q) n p,Km hO hq hC rfl (fun i hi h3 h8=>⟨h1 i hi h3 h8,?_⟩) (fun i hi h3 h8 hd=>?_)⟩
      ·have hi2:=mem_ofK.2 ⟨hi,h1 i hi h3 h8⟩
       cases hq2:atN (nd t i) n with
       | none=>exact absurd hq2 (hall i hi2)
       | some k=>exact ⟨k,rfl,hp.1 _ (mem_cs.2 (mem_parts.2 ⟨i,hi2,hq2⟩))⟩
      ·obtain ⟨k,hk2,hk3⟩:=hd.2
       exact hp.2 _ (mem_cs.2 (mem_parts.2 ⟨i,mem_ofK.2 ⟨hi,hd.1⟩,hk2⟩)) hk3
     ·cases hn
theorem J7 {t:ATy} {q:BSq} (h1:¬ endA t q=true) (h2:openA t q=none) (h3:¬ FW t q=true):Bc t q:=by
 unfold endA at h1;unfold openA at h2;unfold FW at h3;rw [Bool.or_eq_true,List.any_eq_true,List.any_eq_true] at h1;simp only [List.any_eq_true,Bool.and_eq_true,decide_eq_true_eq] at h1 h3
 have hL:latA t q.left=none:=by
  cases hq:latA t q.left with
  | none=>rfl
  | some x=>rw [hq] at h2;cases h2
 have hR:latA t q.right=none:=by
  cases hq:latA t q.right with
  | none=>rfl
  | some x=>rw [hL,hq] at h2;cases h2
 exact ⟨fun i hi h=>h1 (.inl ⟨i,hi,h⟩),fun i hi h=>h1 (.inr ⟨i,hi,h⟩),GT hL,GT hR,fun i hi j hj h4 h5 h6=>h3 ⟨i,hi,j,hj,⟨h4,h5⟩,h6⟩⟩
theorem RD {t:ATy} {q:BSq} (hO:OkT t) (hq:InQ t q) (h:(AS t q).1=true):∃ p,CE t p q:=by
 unfold AS at h
 split at h
 ·cases h
 ·rename_i h1
  split at h
  ·cases h
  ·rename_i h2
   split at h
   ·cases h
   ·rename_i h3
    have hC:=J7 h1 h2 h3
    unfold Do at h
    split at h
    ·rename_i hk
     exact ⟨.tag (SV t q) 0,Km hO hq hC rfl (fun i hi h3 h8=>(MX hk i hi h3 h8).elim) (fun i hi h3 h8 hd=>by have:=hd.1;omega)⟩
    ·rename_i k hk
     exact Qw hO hq hC hk h
    ·cases h
theorem TD {t:ATy} {q s:BSq} {l:List BSq} {p:Pt} (h:openA t q=some l) (hs:s∈l) (hp:CE t p s):CE t p q:=by
 unfold openA at h
 split at h
 ·rename_i n rest hl
  obtain ⟨i,rfl,hk,hpm⟩:=C6 hl
  cases h
  have key:Sat t p i->(∀ j∈rest,Sat t p j)->(∀ j∈q.right,¬ Sat t p j)->CE t p q:=fun h1 h2 h3=>⟨fun j hj=>by rcases List.mem_cons.1 (hpm.mem_iff.1 hj) with rfl | h;exact h1;exact h2 j h,h3⟩
  split at hs
  ·rename_i h10
   simp only [List.mem_singleton] at hs;subst hs
   exact key ((JN h10).2 ⟨hp.1 _ (mem_cs.2 (by simp)),hp.1 _ (mem_cs.2 (by simp))⟩) (fun j hj=>hp.1 _ (mem_cs.2 (by simp [hj]))) hp.2
  ·rename_i h10
   have h9:(nd t i).kind=9:=(D7 hk).resolve_right h10
   simp only [List.mem_cons,List.not_mem_nil,or_false] at hs
   rcases hs with rfl | rfl
   ·exact key ((IC h9).2 (.inl (hp.1 _ (mem_cs.2 (by simp))))) (fun j hj=>hp.1 _ (mem_cs.2 (by simp [hj]))) hp.2
   ·exact key ((IC h9).2 (.inr (hp.1 _ (mem_cs.2 (by simp))))) (fun j hj=>hp.1 _ (mem_cs.2 (by simp [hj]))) hp.2
 ·split at h
  ·rename_i n rest hl
   obtain ⟨i,rfl,hk,hpm⟩:=C6 hl
   cases h
   have key:¬ Sat t p i->(∀ j∈rest,¬ Sat t p j)->(∀ j∈q.left,Sat t p j)->CE t p q:=fun h1 h2 h3=>⟨h3,fun j hj=>by rcases List.mem_cons.1 (hpm.mem_iff.1 hj) with rfl | h;exact h1;exact h2 j h⟩
   split at hs
   ·rename_i h9
    simp only [List.mem_singleton] at hs;subst hs
    exact key (fun h=>((IC h9).1 h).elim (hp.2 _ (mem_cs.2 (by simp))) (hp.2 _ (mem_cs.2 (by simp)))) (fun j hj=>hp.2 _ (mem_cs.2 (by simp [hj]))) hp.1
   ·rename_i h9
    have h10:(nd t i).kind=10:=(D7 hk).resolve_left h9
    simp only [List.mem_cons,List.not_mem_nil,or_false] at hs
    rcases hs with rfl | rfl
    ·exact key (fun h=>hp.2 _ (mem_cs.2 (by simp)) ((JN h10).1 h).1) (fun j hj=>hp.2 _ (mem_cs.2 (by simp [hj]))) hp.1
    ·exact key (fun h=>hp.2 _ (mem_cs.2 (by simp)) ((JN h10).1 h).2) (fun j hj=>hp.2 _ (mem_cs.2 (by simp [hj]))) hp.1
  ·cases h
theorem Tl {t:ATy} {q s:BSq} {p:Pt} (hO:OkT t) (hq:InQ t q) (hs:s∈(AS t q).2) (hp:CE t p s):∃ p,CE t p q:=by
 unfold AS at hs
 split at hs
 ·cases hs
 ·rename_i h1
  split at hs
  ·rename_i l h2
   exact ⟨p,TD h2 hs hp⟩
  ·rename_i h2
   split at hs
   ·cases hs
   ·rename_i h3
    have hC:=J7 h1 h2 h3
    unfold Do at hs
    split at hs
    ·cases hs
    ·rename_i k hk
     exact R4 hO hq hC hk hs hp
    ·cases hs
def wq (w:Int->Nat) (q:BSq):Nat:=wsum w q.left+wsum w q.right
theorem QN {t:ATy} {q:BSq} {l:List BSq} {p:Pt} {w:Int->Nat} (hw:∀ i,In t i->latB (nd t i).kind=true->w (nd t i).a+w (nd t i).b<w i) (hq:InQ t q) (h:openA t q=some l) (hp:CE t p q):∃ s∈l,CE t p s/\wq w s<wq w q:=by
 unfold openA at h
 split at h
 ·rename_i n rest hl
  obtain ⟨i,rfl,hk,hpm⟩:=C6 hl
  cases h
  have hi:i∈q.left:=hpm.mem_iff.2 (by simp)
  have hrest:∀ j∈rest,Sat t p j:=fun j hj=>hp.1 j (hpm.mem_iff.2 (by simp [hj]))
  have hwi:=hw i (hq.1 i hi) hk
  have hwl:wsum w q.left=w i+wsum w rest:=by rw [JZ hpm];rfl
  have h2:∀ m:List Int,(∀ j∈m,Sat t p j)->wsum w m<w i->CE t p ⟨cs (rest++m),q.right⟩/\wq w ⟨cs (rest++m),q.right⟩<wq w q:=by
   intro m hm hwm
   refine ⟨⟨fun j hj=>?_,hp.2⟩,?_⟩
   ·rcases List.mem_append.1 (mem_cs.1 hj) with h | h
    ·exact hrest j h
    ·exact hm j h
   ·have:=Qd w (rest++m)
    rw [L7] at this;simp only [wq]
    omega
  split
  ·rename_i h10
   have hs:=(JN h10).1 (hp.1 i hi)
   have:=h2 [(nd t i).a,(nd t i).b] (fun j hj=>by simp at hj;rcases hj with rfl | rfl;exact hs.1;exact hs.2) (by simp only [wsum];omega)
   exact ⟨_,by simp,this⟩
  ·rename_i h10
   have h9:(nd t i).kind=9:=(D7 hk).resolve_right h10
   rcases (IC h9).1 (hp.1 i hi) with hs | hs
   ·have:=h2 [(nd t i).a] (fun j hj=>by simp at hj;subst hj;exact hs) (by simp only [wsum];omega)
    exact ⟨_,by simp,this⟩
   ·have:=h2 [(nd t i).b] (fun j hj=>by simp at hj;subst hj;exact hs) (by simp only [wsum];omega)
    exact ⟨⟨cs (rest++[(nd t i).b]),q.right⟩,by simp,this⟩
 ·split at h
  ·rename_i n rest hl
   obtain ⟨i,rfl,hk,hpm⟩:=C6 hl
   cases h
   have hi:i∈q.right:=hpm.mem_iff.2 (by simp)
   have hrest:∀ j∈rest,¬ Sat t p j:=fun j hj=>hp.2 j (hpm.mem_iff.2 (by simp [hj]))
   have hwi:=hw i (hq.2 i hi) hk
   have hwl:wsum w q.right=w i+wsum w rest:=by rw [JZ hpm];rfl
   have h2:∀ m:List Int,(∀ j∈m,¬ Sat t p j)->wsum w m<w i->CE t p ⟨q.left,cs (rest++m)⟩/\wq w ⟨q.left,cs (rest++m)⟩<wq w q:=by
    intro m hm hwm
    refine ⟨⟨hp.1,fun j hj=>?_⟩,?_⟩
    ·rcases List.mem_append.1 (mem_cs.1 hj) with h | h
     ·exact hrest j h
     ·exact hm j h
    ·have:=Qd w (rest++m)
     rw [L7] at this;simp only [wq]
     omega
   have hs:=hp.2 i hi
   split
   ·rename_i h9
    have:=h2 [(nd t i).a,(nd t i).b] (fun j hj=>by
     simp at hj
     rcases hj with rfl | rfl
     ·exact fun h=>hs ((IC h9).2 (.inl h))
     ·exact fun h=>hs ((IC h9).2 (.inr h))) (by simp only [wsum];omega)
    exact ⟨_,by simp,this⟩
   ·rename_i h9
    have h10:(nd t i).kind=10:=(D7 hk).resolve_left h9
    by_cases ha:Sat t p (nd t i).a
    ·have:=h2 [(nd t i).b] (fun j hj=>by simp at hj;subst hj;exact fun h=>hs ((JN h10).2 ⟨ha,h⟩)) (by simp only [wsum];omega)
     exact ⟨⟨q.left,cs (rest++[(nd t i).b])⟩,by simp,this⟩
    ·have:=h2 [(nd t i).a] (fun j hj=>by simp at hj;subst hj;exact ha) (by simp only [wsum];omega)
     exact ⟨_,by simp,this⟩
  ·cases h
theorem RI {t:ATy} {q:BSq} {p:Pt} {k:Int} (hk:Cp t q.left=[k]) (hp:CE t p q):k=p.kind/\(3<=k/\k<=8)/\(∃ i,i∈ofK t q.left k)/\(∀ i∈ofK t q.left k,hdP t p (nd t i))/\∀ i∈ofK t q.right k,¬ hdP t p (nd t i):=by
 obtain ⟨h0,⟨i0,hi0,hk0⟩,h1⟩:=FK hk
 have hd:∀ i∈ofK t q.left k,hdP t p (nd t i):=fun i hi=>by
  obtain ⟨h2,h3⟩:=mem_ofK.1 hi;exact (FB (by omega) (by omega)).1 (hp.1 i h2)
 refine ⟨?_,h0,⟨i0,mem_ofK.2 ⟨hi0,hk0⟩⟩,hd,fun i hi hh=>?_⟩
 ·rw [<- K2 (hd i0 (mem_ofK.2 ⟨hi0,hk0⟩)),hk0]
 ·obtain ⟨h2,h3⟩:=mem_ofK.1 hi
  exact hp.2 i h2 ((FB (by omega) (by omega)).2 hh)
theorem Pd {t:ATy} {p:Pt} {l r:List Int} (h0:3<=p.kind/\p.kind<=8) (hne:∃ i,i∈l) (hK:∀ i∈r,(nd t i).kind=p.kind) (hL:∀ i∈l,hdP t p (nd t i)) (hR:∀ i∈r,¬ hdP t p (nd t i)) :
  (B5 t p.kind l r).1=true\/∃ s∈(B5 t p.kind l r).2,∃ p',CE t p' s/\p'.size<p.size:=by
 by_cases hr:p.kind≠8/\r=[]
 ·left;unfold B5;rw [if_pos hr]
 have hnil:p.kind≠8->r≠[]:=fun h h2=>hr ⟨h,h2⟩
 cases p with
 | tag S k =>
  exfalso
  by_cases h8:k=8
  ·obtain ⟨i,hi⟩:=hne
   exact (hL i hi).2 h8
  ·cases r with
   | nil=>exact hnil h8 rfl
   | cons j m=>exact hR j (by simp) ⟨hK j (by simp),h8⟩
 | dom S p =>
  right
  refine ⟨⟨cs (r.map fun i=>(nd t i).a),cs (l.map fun i=>(nd t i).a)⟩,by unfold B5;rw [if_neg hr];simp [Pt.kind],p,⟨fun x hx=>?_,fun x hx=>?_⟩,by simp [Pt.size]⟩
  ·obtain ⟨i,hi,rfl⟩:=List.mem_map.1 (mem_cs.1 hx)
   exact Classical.byContradiction fun h=>hR i hi ⟨hK i hi,h⟩
  ·obtain ⟨i,hi,rfl⟩:=List.mem_map.1 (mem_cs.1 hx)
   exact (hL i hi).2
 | cod S p =>
  right
  refine ⟨⟨cs (l.map fun i=>(nd t i).b),cs (r.map fun i=>(nd t i).b)⟩,by unfold B5;rw [if_neg hr];simp [Pt.kind],p,⟨fun x hx=>?_,fun x hx=>?_⟩,by simp [Pt.size]⟩
  ·obtain ⟨i,hi,rfl⟩:=List.mem_map.1 (mem_cs.1 hx)
   exact (hL i hi).2
  ·obtain ⟨i,hi,rfl⟩:=List.mem_map.1 (mem_cs.1 hx)
   exact fun h=>hR i hi ⟨hK i hi,h⟩
 | absent S s =>
  left
  have hs:s∈Dj t r:=mem_names.2 ⟨hnil (by simp [Pt.kind]),fun i hi h=>hR i hi ⟨hK i hi,h⟩⟩
  unfold B5;rw [if_neg hr,if_neg (by simp [Pt.kind]),if_pos (List.any_eq_true.2 ⟨s,by simp [allA,Pt.kind,hs],Rp (.inl fun i hi=>(hL i hi).2)⟩)]
 | field S s p =>
  have hex:∀ i∈r,∃ k,atN (nd t i) s=some k/\¬ Sat t p k:=fun i hi=>Classical.byContradiction fun h=>hR i hi ⟨hK i hi,fun k hk=>Classical.byContradiction fun h2=>h ⟨k,hk,h2⟩⟩
  have hs:s∈Dj t r:=mem_names.2 ⟨hnil (by simp [Pt.kind]),fun i hi h=>by obtain ⟨k,hk,_⟩:=hex i hi;rw [h] at hk;cases hk⟩
  by_cases hb:(allA t (Pt.field S s p).kind l r).any (badA t l r)=true
  ·left;unfold B5;rw [if_neg hr,if_neg (by simp [Pt.kind]),if_pos hb]
  ·right
   refine ⟨⟨cs (AH t l s),cs (AH t r s)⟩,?_,p,⟨fun x hx=>?_,fun x hx=>?_⟩,by simp [Pt.size]⟩
   ·unfold B5;rw [if_neg hr,if_neg (by simp [Pt.kind]),if_neg hb]
    exact List.mem_map.2 ⟨s,by simp [allA,Pt.kind,hs],rfl⟩
   ·obtain ⟨i,hi,hk⟩:=mem_parts.1 (mem_cs.1 hx)
    exact (hL i hi).2 x hk
   ·obtain ⟨i,hi,hk⟩:=mem_parts.1 (mem_cs.1 hx)
    obtain ⟨k,hk2,hk3⟩:=hex i hi;rw [hk] at hk2;cases hk2
    exact hk3
 | hasc S s =>
  left
  obtain ⟨i0,hi0⟩:=hne
  have hs:s∈Dj t l:=mem_names.2 ⟨fun e=>(by rw [e] at hi0;cases hi0),fun i hi=>(hL i hi).2⟩
  have hn:∀ i∈r,atN (nd t i) s=none:=fun i hi=>by
   cases hq:atN (nd t i) s with
   | none=>rfl
   | some k=>exact absurd ⟨hK i hi,by rw [hq];simp⟩ (hR i hi)
  unfold B5;rw [if_neg hr,if_neg (by simp [Pt.kind]),if_pos (List.any_eq_true.2 ⟨s,by simp [allA,Pt.kind,hs],Rp (.inr hn)⟩)]
 | case S s p =>
  obtain ⟨i0,hi0⟩:=hne
  have hs:s∈Dj t l:=mem_names.2 ⟨fun e=>(by rw [e] at hi0;cases hi0),fun i hi h=>by obtain ⟨k,hk,_⟩:=(hL i hi).2;rw [h] at hk;cases hk⟩
  by_cases hb:(allA t (Pt.case S s p).kind l r).any (badA t l r)=true
  ·left;unfold B5;rw [if_neg hr,if_neg (by simp [Pt.kind]),if_pos hb]
  ·right
   refine ⟨⟨cs (AH t l s),cs (AH t r s)⟩,?_,p,⟨fun x hx=>?_,fun x hx=>?_⟩,by simp [Pt.size]⟩
   ·unfold B5;rw [if_neg hr,if_neg (by simp [Pt.kind]),if_neg hb]
    exact List.mem_map.2 ⟨s,by simp [allA,Pt.kind,hs],rfl⟩
   ·obtain ⟨i,hi,hk⟩:=mem_parts.1 (mem_cs.1 hx)
    obtain ⟨k,hk2,hk3⟩:=(hL i hi).2;rw [hk] at hk2;cases hk2
    exact hk3
   ·obtain ⟨i,hi,hk⟩:=mem_parts.1 (mem_cs.1 hx)
    exact fun h=>hR i hi ⟨hK i hi,x,hk,h⟩
theorem IB {t:ATy} {q:BSq} {p:Pt} {w:Int->Nat} (hO:OkT t) (hw:∀ i,In t i->latB (nd t i).kind=true->w (nd t i).a+w (nd t i).b<w i) (hq:InQ t q) (hp:CE t p q) :
  (AS t q).1=true\/∃ s∈(AS t q).2,∃ p',CE t p' s/\(p'.size<p.size\/(p'.size=p.size/\wq w s<wq w q)):=by
 have h1:¬ endA t q=true:=by
  unfold endA;rw [Bool.or_eq_true,List.any_eq_true,List.any_eq_true];rintro (⟨i,hi,h⟩ | ⟨i,hi,h⟩)
  ·exact T7 (of_decide_eq_true h) (hp.1 i hi)
  ·exact hp.2 i hi (TR (of_decide_eq_true h))
 unfold AS;rw [if_neg h1]
 cases h2:openA t q with
 | some l =>
  right
  obtain ⟨s,hs,h3,h4⟩:=QN hw hq h2 hp;exact ⟨s,hs,p,h3,.inr ⟨rfl,h4⟩⟩
 | none =>
  have h3:¬ FW t q=true:=by
   unfold FW;simp only [List.any_eq_true,Bool.and_eq_true,decide_eq_true_eq];rintro ⟨i,hi,j,hj,⟨h4,h5⟩,h6⟩
   have:=(RW h4).1 (hp.1 i hi)
   rw [h6] at this;exact hp.2 j hj ((RW h5).2 this)
  simp only [if_neg h3];unfold Do
  cases hk:Cp t q.left with
  | nil=>left;rfl
  | cons k m =>
   cases m with
   | nil =>
    obtain ⟨rfl,h5,h6,h7,h8⟩:=RI hk hp
    rcases Pd h5 h6 (fun i hi=>(mem_ofK.1 hi).2) h7 h8 with h | ⟨s,hs,p',h9,h10⟩
    ·left;exact h
    ·right;exact ⟨s,hs,p',h9,.inl h10⟩
   | cons b m =>
    exfalso
    obtain ⟨i,hi,j,hj,h5,h6,h7⟩:=Q8 hk
    have e1:=K2 ((FB h5.1 h5.2).1 (hp.1 i hi))
    have e2:=K2 ((FB h6.1 h6.2).1 (hp.1 j hj))
    exact h7 (e1.trans e2.symm)
structure Kept (t:ATy) (A:Int->Prop):Prop where
 inn:∀ i,A i->In t i
 pair:∀ i,A i->(nd t i).kind=6\/(nd t i).kind=9\/(nd t i).kind=10->A (nd t i).a/\A (nd t i).b
 fld:∀ i,A i->∀ f∈(nd t i).l,A f.at_
theorem Kept.all {t:ATy} (hO:OkT t):Kept t (In t):=⟨fun _ h=>h,fun _ h hk=>hO.pair h hk,fun _ h _ hf=>hO.at_ h hf⟩
def InAB (A B:Int->Prop) (q:BSq):Prop:=(∀ i∈q.left,A i)/\∀ i∈q.right,B i
theorem Kept.parts {t:ATy} {A:Int->Prop} (hA:Kept t A) {l:List Int} (h:∀ i∈l,A i) (s:List UInt8):∀ i∈cs (AH t l s),A i:=fun k hk=>by
 obtain ⟨i,hi,h2⟩:=mem_parts.1 (mem_cs.1 hk);obtain ⟨f,hf,_,rfl⟩:=NF h2;exact hA.fld i (h i hi) f hf
theorem Hp {t:ATy} {A B:Int->Prop} (hA:Kept t A) (hB:Kept t B) {q s:BSq} (hq:InAB A B q) (hs:s∈(AS t q).2):InAB A B s\/InAB B A s:=by
 unfold AS at hs
 split at hs
 ·cases hs
 ·split at hs
  ·rename_i l h2
   left
   unfold openA at h2
   split at h2
   ·rename_i n rest hl
    obtain ⟨i,rfl,hk,hpm⟩:=C6 hl
    cases h2
    have hi:A i:=hq.1 i (hpm.mem_iff.2 (by simp))
    have hp:=hA.pair i hi (.inr (D7 hk))
    have hrest:∀ j∈rest,A j:=fun j hj=>hq.1 j (hpm.mem_iff.2 (by simp [hj]))
    have h2:∀ m:List Int,(∀ j∈m,A j)->InAB A B ⟨cs (rest++m),q.right⟩:=fun m hm=>⟨fun j hj=>by
     rcases List.mem_append.1 (mem_cs.1 hj) with h | h
     ·exact hrest j h
     ·exact hm j h,hq.2⟩
    split at hs
    ·simp only [List.mem_singleton] at hs;subst hs
     exact h2 _ (fun j hj=>by simp at hj;rcases hj with rfl | rfl;exact hp.1;exact hp.2)
    ·simp only [List.mem_cons,List.not_mem_nil,or_false] at hs
     rcases hs with rfl | rfl
     ·exact h2 _ (fun j hj=>by simp at hj;subst hj;exact hp.1)
     ·exact h2 _ (fun j hj=>by simp at hj;subst hj;exact hp.2)
   ·split at h2
    ·rename_i n rest hl
     obtain ⟨i,rfl,hk,hpm⟩:=C6 hl
     cases h2
     have hi:B i:=hq.2 i (hpm.mem_iff.2 (by simp))
     have hp:=hB.pair i hi (.inr (D7 hk))
     have hrest:∀ j∈rest,B j:=fun j hj=>hq.2 j (hpm.mem_iff.2 (by simp [hj]))
     have h2:∀ m:List Int,(∀ j∈m,B j)->InAB A B ⟨q.left,cs (rest++m)⟩:=fun m hm=>⟨hq.1,fun j hj=>by
      rcases List.mem_append.1 (mem_cs.1 hj) with h | h
      ·exact hrest j h
      ·exact hm j h⟩
     split at hs
     ·simp only [List.mem_singleton] at hs;subst hs
      exact h2 _ (fun j hj=>by simp at hj;rcases hj with rfl | rfl;exact hp.1;exact hp.2)
     ·simp only [List.mem_cons,List.not_mem_nil,or_false] at hs
      rcases hs with rfl | rfl
      ·exact h2 _ (fun j hj=>by simp at hj;subst hj;exact hp.1)
      ·exact h2 _ (fun j hj=>by simp at hj;subst hj;exact hp.2)
    ·cases h2
  ·split at hs
   ·cases hs
   ·unfold Do at hs
    split at hs
    ·cases hs
    ·rename_i k hk
     have hL:∀ i∈ofK t q.left k,A i:=fun i hi=>hq.1 i (mem_ofK.1 hi).1
     have hR:∀ i∈ofK t q.right k,B i:=fun i hi=>hq.2 i (mem_ofK.1 hi).1
     unfold B5 at hs
     split at hs
     ·cases hs
     ·split at hs
      ·rename_i h6;subst h6
       simp only [List.mem_cons,List.not_mem_nil,or_false] at hs
       rcases hs with rfl | rfl
       ·right
        refine ⟨fun x hx=>?_,fun x hx=>?_⟩ <;> obtain ⟨i,hi,rfl⟩:=List.mem_map.1 (mem_cs.1 hx)
        ·exact (hB.pair i (hR i hi) (.inl (mem_ofK.1 hi).2)).1
        ·exact (hA.pair i (hL i hi) (.inl (mem_ofK.1 hi).2)).1
       ·left
        refine ⟨fun x hx=>?_,fun x hx=>?_⟩ <;> obtain ⟨i,hi,rfl⟩:=List.mem_map.1 (mem_cs.1 hx)
        ·exact (hA.pair i (hL i hi) (.inl (mem_ofK.1 hi).2)).2
        ·exact (hB.pair i (hR i hi) (.inl (mem_ofK.1 hi).2)).2
      ·split at hs
       ·cases hs
       ·obtain ⟨n,hn,rfl⟩:=List.mem_map.1 hs
        left
        exact ⟨hA.parts hL n,hB.parts hR n⟩
    ·cases hs
inductive Rch (t:ATy) (q:BSq):BSq->Prop
 | refl:Rch t q q
 | step {s s':BSq}:Rch t q s->s'∈(AS t s).2->Rch t q s'
theorem Rch.head {t:ATy} {q s s':BSq} (h1:s∈(AS t q).2) (h:Rch t s s'):Rch t q s':=by
 induction h with
 | refl=>exact .step .refl h1
 | step _ h2 ih=>exact .step ih h2
theorem HY {t:ATy} (hO:OkT t) {q s:BSq} (hq:InQ t q) (hs:s∈(AS t q).2):InQ t s:=(Hp (Kept.all hO) (Kept.all hO) hq hs).elim id id
theorem Rch.inQ {t:ATy} (hO:OkT t) {q s:BSq} (hq:InQ t q) (h:Rch t q s):InQ t s:=by
 induction h with
 | refl=>exact hq
 | step _ h2 ih=>exact HY hO ih h2
theorem RM {t:ATy} (hO:OkT t) {w:Int->Nat} (hw:∀ i,In t i->latB (nd t i).kind=true->w (nd t i).a+w (nd t i).b<w i):∀ (n m:Nat) (q:BSq) (p:Pt),p.size<=n->wq w q<=m->InQ t q->CE t p q->∃ s,Rch t q s/\(AS t s).1=true:=by
 intro n
 induction n with
 | zero =>
  intro m
  induction m with
  | zero =>
   intro q p h1 h2 hq hp
   rcases IB hO hw hq hp with h | ⟨s,_,p',_,h⟩
   ·exact ⟨q,.refl,h⟩
   ·omega
  | succ m ih =>
   intro q p h1 h2 hq hp
   rcases IB hO hw hq hp with h | ⟨s,hs,p',hp',h⟩
   ·exact ⟨q,.refl,h⟩
   ·obtain ⟨s',h3,h4⟩:=ih s p' (by omega) (by omega) (HY hO hq hs) hp'
    exact ⟨s',h3.head hs,h4⟩
 | succ n ihn =>
  intro m
  induction m with
  | zero =>
   intro q p h1 h2 hq hp
   rcases IB hO hw hq hp with h | ⟨s,hs,p',hp',h⟩
   ·exact ⟨q,.refl,h⟩
   ·obtain ⟨s',h3,h4⟩:=ihn (wq w s) s p' (by omega) (Nat.le_refl _) (HY hO hq hs) hp'
    exact ⟨s',h3.head hs,h4⟩
  | succ m ih =>
   intro q p h1 h2 hq hp
   rcases IB hO hw hq hp with h | ⟨s,hs,p',hp',h⟩
   ·exact ⟨q,.refl,h⟩
   ·by_cases h5:p'.size<=n
    ·obtain ⟨s',h3,h4⟩:=ihn (wq w s) s p' h5 (Nat.le_refl _) (HY hO hq hs) hp'
     exact ⟨s',h3.head hs,h4⟩
    ·obtain ⟨s',h3,h4⟩:=ih s p' (by omega) (by omega) (HY hO hq hs) hp'
     exact ⟨s',h3.head hs,h4⟩
theorem Si {t:ATy} (hO:OkT t) {q s:BSq} (h:Rch t q s) (hq:InQ t q) (hs:∃ p,CE t p s):∃ p,CE t p q:=by
 induction h with
 | refl=>exact hs
 | step h1 h2 ih =>
  obtain ⟨p,hp⟩:=hs;exact ih (Tl hO (h1.inQ hO hq) h2 hp)
def Valid (t:ATy) (q:BSq):Prop:=∀ p,¬ CE t p q
theorem MW {t:ATy} (hO:OkT t) {q:BSq} (hq:InQ t q):(∀ s,Rch t q s->(AS t s).1=false)↔Valid t q:=by
 obtain ⟨w,hw⟩:=hO.weight
 constructor
 ·intro h p hp
  obtain ⟨s,h1,h2⟩:=RM hO hw p.size (wq w q) q p (Nat.le_refl _) (Nat.le_refl _) hq hp;rw [h s h1] at h2;cases h2
 ·intro h s hs
  cases h1:(AS t s).1 with
  | false=>rfl
  | true =>
   obtain ⟨p,hp⟩:=Si hO hs hq (RD hO (hs.inQ hO hq) h1);exact absurd hp (h p)
end Go.Proofs.YtkfnogdccpcmhaaGreatDoor
namespace Go.Proofs.YtkfnogdccpcmhaaGreatDoor
open Go.V
open Classical
theorem takeS {α:Type} {l:List α} {i:Nat} {x:α} (h:l[i]? = some x):l.take (i+1)=l.take i++[x]:=by
 have hi:=(List.getElem?_eq_some_iff.1 h).1
 rw [List.take_succ_eq_append_getElem hi];rw [List.getElem?_eq_getElem hi] at h;rw [Option.some.inj h]
theorem getN {t:ATy} {i:Int} (h:In t i):idx t.l i=some (nd t i):=by unfold idx;rw [if_pos h.1,LZ h]
theorem Nh {t:ATy} {i:Int} (h:In t i):A8 t i=some (nd t i).kind:=by unfold A8;rw [getN h];rfl
theorem N9 (l:List Int) (f:Int->Option Bool) (g:Int->Bool) (h:∀ x∈l,f x=some (g x)) (hl:l.length<=1000000):LK l f=some (match l.findIdx? g with | some i=>(i:Int) | none => -1):=by
 unfold LK;rw [FJ (φ:=EW l f) (l:=l) (fun i=>(i:Int)) g ?_ ?_ (by rw [FUv];omega)]
 ·rw [oB]
  cases hf:l.findIdx? g with
  | none=>rfl
  | some i=>rfl
 ·intro n i x hx hi
  simp only [EW];rw [dT (show (i:Int)<l.length by omega),cT,getI hx,oB,h x (List.mem_of_getElem? hx),oB];exact ⟨fun hq=>by rw [hq,cF_,Ab (by omega)],fun hq=>by rw [hq,cT]⟩
 ·intro n
  simp only [EW];rw [dF (by omega),cF_]
theorem Kn (l:List Int) (f:Int->Option Bool) (g:Int->Bool) (h:∀ x∈l,f x=some (g x)) (hl:l.length<=1000000):Jq l f=some (l.any g):=by
 unfold Jq;rw [N9 l f g h hl,oB]
 cases hf:l.findIdx? g with
 | none =>
  have:l.any g=false:=by
   rw [List.any_eq_false]
   intro x hx
   have:=List.findIdx?_eq_none_iff.1 hf x hx
   simp [this]
  rw [this];rfl
 | some i =>
  obtain ⟨hi,h1,_⟩:=List.findIdx?_eq_some_iff_getElem.1 hf
  have:l.any g=true:=List.any_eq_true.2 ⟨l[i],List.getElem_mem hi,h1⟩
  rw [this]
  show some (decide (0<=(i:Int)))=some true
  rw [dT (by omega)]
theorem SB {t:ATy} {l:List Int} (h:∀ i∈l,In t i) (hl:l.length<=1000) (k:Int):BO t l k=some (l.any fun i=>decide ((nd t i).kind=k)):=by
 unfold BO;rw [Kn l _ (fun i=>decide ((nd t i).kind=k)) (fun x hx=>by unfold CH;rw [Nh (h x hx)];rfl) (by omega)]
 rfl
theorem L5 {t:ATy} {l:List Int} (h:∀ i∈l,In t i) (hl:l.length<=1000):Bf t l=some (match latA t l with | some (n,rest)=>(n,rest,true) | none=>(⟨0,0,0,[]⟩,[],false)):=by
 unfold Bf;rw [N9 l _ (fun i=>latB (nd t i).kind) (fun x hx=>by
  unfold BU;rw [Nh (h x hx),oB];unfold latB
  cases decide ((nd t x).kind=9) <;> rfl) (by omega),oB]
 unfold latA
 cases hf:l.findIdx? (fun i=>latB (nd t i).kind) with
 | none=>rfl
 | some i =>
  obtain ⟨hi,h1,_⟩:=List.findIdx?_eq_some_iff_getElem.1 hf
  have hx:l[i]? = some l[i]:=List.getElem?_eq_getElem hi
  have e:l.getD i 0=l[i]:=by rw [List.getD_eq_getElem?_getD,hx];rfl
  simp only [Option.map_some];rw [dF (by omega),cF_,getI hx,oB,getN (h _ (List.getElem_mem hi)),oB,Ab (by omega),Ab (by constructor <;> omega),Ab (by omega),Ab (by omega),Ab (by omega),Ab (by rintro rfl;cases hi),e]
  congr 3
theorem Qy (ls:List (List Int)) (h:ls.length<=3) (h2:∀ l∈ls,l.length<=2000):Ox ls=some ls.flatten:=by
 have hm:∀ {i:Nat} {x:List Int},ls[i]? = some x->x.length<=2000:=fun hx=>h2 _ (List.mem_of_getElem? hx)
 unfold Ox
 have e1:=JX (φ:=fun n i s=>GE ls n (s,i)) (l:=ls) (fun i s=>0<=s/\s<=2000*i) (fun _ s x=>s+(x.length:Int)) id (by
  intro n i x s hx hi hI
  have hm:=hm hx
  simp only [GE];rw [dT (by omega),cT,getI hx,oB,Ab (by omega),dF (by omega),cF_,Ab (by omega)];exact ⟨rfl,by omega⟩) (by
  intro n s hI
  simp only [GE];rw [dF (by omega),cF_];rfl) (by rw [FUv];omega) (fun _ t s=>t.foldl (fun s x=>s+(x.length:Int)) s) (fun _ _=>rfl) (fun _ _ _ _=>rfl) 0 (by omega)
 have e2:=JX (φ:=fun n i s=>G5 ls n (i,s)) (l:=ls) (fun i s=>s.length<=2000*i) (fun _ s x=>s++x) id (by
  intro n i x s hx hi hI
  have hm:=hm hx
  simp only [G5];rw [dT (by omega),cT,getI hx,oB,Ab (by omega),Ab (by omega)];exact ⟨rfl,by simp;omega⟩) (by
  intro n s hI
  simp only [G5];rw [dF (by omega),cF_];rfl) (by rw [FUv];omega) (fun _ t s=>s++t.flatten) (by simp) (by simp) [] (by simp)
 rw [e1.1,oB]
 have e3:=e1.2
 rw [id,Ab (by omega),Ab (by omega)];rw [e2.1];rfl
theorem Jh {l:List Int} (h:l.length<=1000000):AF l=some (cs l):=by
 unfold AF;rw [Ab (by omega),Ab (by omega)];rfl
theorem Iw {l m:List Int} (h:l.length<=1000) (h2:m.length<=1000):BV l m=some (cs (l++m)):=by
 unfold BV;rw [Qy [l,m] (by simp) (by simp;omega),oB,Jh (by simp;omega)]
 simp
theorem Og {t:ATy} {l rest:List Int} {n:ANd} (h:latA t l=some (n,rest)):rest.length<=l.length:=by
 obtain ⟨i,_,_,hp⟩:=C6 h
 have:=hp.length_eq
 simp at this;omega
theorem QG {t:ATy} {q:BSq} (hq:InQ t q) (h1:q.left.length<=500) (h2:q.right.length<=500):BK t q=some (match openA t q with | some l=>(⟨l,false⟩,true) | none=>(⟨[],false⟩,false)):=by
 unfold BK openA;rw [L5 hq.1 (by omega),oB]
 cases hl:latA t q.left with
 | some x =>
  obtain ⟨n,rest⟩:=x
  have:=Og hl
  simp only [cT]
  by_cases h10:n.kind=10
  ·rw [dT h10,cT,Iw (by omega) (by simp),if_pos h10];rfl
  ·rw [dF h10,cF_,Iw (by omega) (by simp),oB,Iw (by omega) (by simp),if_neg h10];rfl
 | none =>
  simp only [cF_];rw [L5 hq.2 (by omega),oB]
  cases hr:latA t q.right with
  | some x =>
   obtain ⟨n,rest⟩:=x
   have:=Og hr
   simp only [cT]
   by_cases h9:n.kind=9
   ·rw [dT h9,cT,Iw (by omega) (by simp),if_pos h9];rfl
   ·rw [dF h9,cF_,Iw (by omega) (by simp),oB,Iw (by omega) (by simp),if_neg h9];rfl
  | none=>simp only [cF_]
theorem QT {t:ATy} {q:BSq} (hq:InQ t q) (h1:q.left.length<=500) (h2:q.right.length<=500):BN t q=some (FW t q):=by
 unfold BN;obtain ⟨o,e1,e2⟩:=AR (φ:=fun n i s=>AX t q n (i,s)) (l:=q.left) (fun i s=>∀ v,(mget s v).getD false=(q.left.take i).any fun j=>decide ((nd t j).kind=11)&&decide ((nd t j).a=v)) (fun o=>∀ v,(mget o v).getD false=q.left.any fun j=>decide ((nd t j).kind=11)&&decide ((nd t j).a=v))
  (by
   intro n i x s hx hi hI
   left
   simp only [AX];rw [dT (show (i:Int)<(q.left.length:Int) by omega),cT,getI hx,oB,getN (hq.1 _ (List.mem_of_getElem? hx)),oB]
   by_cases h11:(nd t x).kind=11
   ·rw [dT h11,cT,Ab (by constructor <;> omega)]
    refine ⟨_,rfl,fun v=>?_⟩;rw [takeS hx,List.any_append,Jt,<- hI v]
    by_cases hv:v=(nd t x).a
    ·subst hv;simp [h11]
    ·rw [if_neg hv];simp [h11,show ¬ (nd t x).a=v from fun e=>hv e.symm]
   ·rw [dF h11,cF_,Ab (by constructor <;> omega)]
    refine ⟨_,rfl,fun v=>?_⟩;rw [takeS hx,List.any_append,<- hI v]
    simp [h11])
  (by
   intro n s hI
   simp only [AX];rw [dF (by omega),cF_];exact ⟨s,rfl,by simpa using hI⟩) (by rw [FUv];omega) [] (by intro v;simp [mget])
 rw [e1,oB];rw [Kn q.right _ (fun j=>decide ((nd t j).kind=11)&&(mget o (nd t j).a).getD false) (fun x hx=>by
  unfold B2;rw [getN (hq.2 _ hx)];rfl) (by omega),oB]
 congr 1
 unfold FW;rw [Bool.eq_iff_iff];simp only [List.any_eq_true,Bool.and_eq_true,decide_eq_true_eq,e2]
 constructor
 ·rintro ⟨j,hj,h3,i,hi,h4,h5⟩;exact ⟨i,hi,j,hj,⟨h4,h3⟩,h5⟩
 ·rintro ⟨i,hi,j,hj,⟨h4,h3⟩,h5⟩;exact ⟨j,hj,h3,i,hi,h4,h5⟩
theorem Rc {l:List Int} {k:Int} (hn:l.Nodup) (h:∀ x,x∈l↔x=k):l=[k]:=by
 cases l with
 | nil=>have:=(h k).2 rfl;cases this
 | cons a m =>
  have ha:=(h a).1 (by simp)
  subst ha
  cases m with
  | nil=>rfl
  | cons b m =>
   have hb:=(h b).1 (by simp)
   subst hb;exact absurd (List.nodup_cons.1 hn).1 (by simp)
def O4 (t:ATy) (l:List Int) (k:Int):Prop:=(k=0/\∀ i∈l,3<=(nd t i).kind->(nd t i).kind<=8->False)\/((3<=k/\k<=8)/\(∃ i∈l,(nd t i).kind=k)/\∀ i∈l,3<=(nd t i).kind->(nd t i).kind<=8->(nd t i).kind=k)
theorem OA {t:ATy} {l:List Int} {k:Int} (h:O4 t l k):(k=0/\Cp t l=[])\/(3<=k/\Cp t l=[k]):=by
 rcases h with ⟨h1,h2⟩ | ⟨h1,h2,h3⟩
 ·left
  refine ⟨h1,?_⟩;rw [List.eq_nil_iff_forall_not_mem]
  intro x hx
  obtain ⟨h4,i,hi,rfl⟩:=mem_kinds.1 hx;exact h2 i hi h4.1 h4.2
 ·right
  refine ⟨h1.1,Rc (Kq t l) (fun x=>⟨fun hx=>?_,fun hx=>?_⟩)⟩
  ·obtain ⟨h4,i,hi,rfl⟩:=mem_kinds.1 hx
   exact h3 i hi h4.1 h4.2
  ·subst hx;exact mem_kinds.2 ⟨h1,h2⟩
theorem Rj {t:ATy} {l:List Int} (hO:OkT t) (h:∀ i∈l,In t i) (hb:∀ i∈l,(nd t i).kind≠2) (hla:∀ i∈l,latB (nd t i).kind=false) (hl:l.length<=500) :
  ∃ k more,BZ t l=some (k,more)/\(more=true->∃ a b m,Cp t l=a::b::m)/\(more=false->(k=0/\Cp t l=[])\/(3<=k/\Cp t l=[k])):=by
 unfold BZ;obtain ⟨o,e1,e2⟩:=AR (φ:=fun n i s=>A0 t l n (s,i)) (l:=l) (fun i k=>O4 t (l.take i) k) (fun o=>(∃ k,o=Out.go k/\O4 t l k)\/(∃ k a b m,o=Out.ret (k,true)/\Cp t l=a::b::m))
  (by
   intro n i x k hx hi hI
   have hxm:=List.mem_of_getElem? hx
   have hk:=hO.kind (h x hxm)
   have h2:=hb x hxm
   have h3:=Px (hla x hxm)
   simp only [A0];rw [dT (show (i:Int)<(l.length:Int) by omega),cT,getI hx,oB,Nh (h x hxm),oB]
   by_cases hv:(nd t x).kind=11\/(nd t x).kind=1
   ·left
    rw [show (decide ((nd t x).kind=11)||decide ((nd t x).kind=1))=true by simpa using hv,cT,Ab (by constructor <;> omega)];refine ⟨_,rfl,?_⟩;rw [takeS hx]
    rcases hI with ⟨h4,h5⟩ | ⟨h4,⟨j,hj,h5⟩,h6⟩
    ·left
     refine ⟨h4,fun j hj h6 h7=>?_⟩
     rcases List.mem_append.1 hj with hj | hj
     ·exact h5 j hj h6 h7
     ·simp at hj;subst hj;omega
    ·right
     refine ⟨h4,⟨j,by simp [hj],h5⟩,fun j hj h7 h8=>?_⟩
     rcases List.mem_append.1 hj with hj | hj
     ·exact h6 j hj h7 h8
     ·simp at hj;subst hj;omega
   ·rw [show (decide ((nd t x).kind=11)||decide ((nd t x).kind=1))=false by simpa using hv,cF_]
    have hx38:3<=(nd t x).kind/\(nd t x).kind<=8:=by omega
    by_cases hc:k≠0/\(nd t x).kind≠k
    ·right
     rw [show ((!decide (k=0))&&(!decide ((nd t x).kind=k)))=true by simpa using hc,cT];refine ⟨_,rfl,.inr ?_⟩
     rcases hI with ⟨h4,_⟩ | ⟨h4,⟨j,hj,h5⟩,_⟩
     ·exact absurd h4 hc.1
     ·cases hkk:Cp t l with
      | nil=>exact (MX hkk x hxm hx38.1 hx38.2).elim
      | cons a m =>
       cases m with
       | nil =>
        obtain ⟨_,_,h7⟩:=FK hkk
        have e1:=h7 x hxm hx38.1 hx38.2
        have e2:=h7 j (List.mem_of_mem_take hj) (by omega) (by omega)
        omega
       | cons b m=>exact ⟨k,a,b,m,rfl,rfl⟩
    ·left
     rw [show ((!decide (k=0))&&(!decide ((nd t x).kind=k)))=false by
      by_cases h0:k=0
      ·simp [h0]
      ·simp [h0];exact Classical.byContradiction fun h=>hc ⟨h0,h⟩,cF_,Ab (by constructor <;> omega)]
     refine ⟨_,rfl,.inr ⟨hx38,⟨x,by rw [takeS hx];simp,rfl⟩,fun j hj h7 h8=>?_⟩⟩;rw [takeS hx] at hj
     rcases List.mem_append.1 hj with hj | hj
     ·rcases hI with ⟨h4,h5⟩ | ⟨h4,_,h6⟩
      ·exact (h5 j hj h7 h8).elim
      ·have:=h6 j hj h7 h8
       have:k=(nd t x).kind:=Classical.byContradiction fun h=>hc ⟨by omega,fun e=>h e.symm⟩
       omega
     ·simp at hj;subst hj;rfl)
  (by
   intro n k hI
   simp only [A0];rw [dF (by omega),cF_];exact ⟨_,rfl,.inl ⟨k,rfl,by simpa using hI⟩⟩) (by rw [FUv];omega) 0 (.inl ⟨rfl,by simp⟩)
 rw [e1,oB]
 rcases e2 with ⟨k,rfl,h4⟩ | ⟨k,a,b,m,rfl,h4⟩
 ·exact ⟨k,false,rfl,fun h=>(by cases h),fun _=>OA h4⟩
 ·exact ⟨k,true,rfl,fun _=>⟨a,b,m,h4⟩,fun h=>(by cases h)⟩
theorem T3 (t:ATy) (x:Int):kAt t x=(nd t x).kind:=by
 unfold kAt nd
 cases t.l[x.toNat]? <;> rfl
theorem PY {t:ATy} {l:List Int} (h:∀ i∈l,In t i) (hl:l.length<=500) (k:Int):BF t l k=some (ofK t l k):=by
 unfold BF;rw [Ab (by omega),Ab (show ∀ x∈l,0<=x/\x<(t.l.length:Int) from h)]
 congr 1
 unfold keepK ofK
 congr 1
 funext x
 rw [T3,Bool.not_not]
theorem QX {t:ATy} {l r:List Int} (hq:InQ t ⟨l,r⟩) (h1:l.length<=500) (h2:r.length<=500) (hr:r≠[]) :
  Bq t ⟨l,r⟩=some ⟨[⟨cs (r.map fun i=>(nd t i).a),cs (l.map fun i=>(nd t i).a)⟩,⟨cs (l.map fun i=>(nd t i).b),cs (r.map fun i=>(nd t i).b)⟩],false⟩:=by
 unfold Bq;rw [dF (by have:=List.length_pos_iff.2 hr;simp only;omega),cF_];obtain ⟨o,e1,e2⟩:=AR (φ:=fun n i s=>A6 t ⟨l,r⟩ n (i,s)) (l:=l) (fun i s=>s=([],(l.take i).map (fun i=>(nd t i).b),(l.take i).map (fun i=>(nd t i).a),[])) (fun o=>o=([],l.map (fun i=>(nd t i).b),l.map (fun i=>(nd t i).a),[]))
  (by
   rintro n i x s hx hi rfl
   left
   have hxm:=List.mem_of_getElem? hx
   have hti:(l.take i).length<=500:=by rw [List.length_take];omega
   simp only [A6];rw [dT (show (i:Int)<(l.length:Int) by omega),cT,getI hx,oB,getN (hq.1 x hxm),oB,Ab (by simp only [List.length_map,List.length_cons,List.length_nil];omega),oB,Ab (by simp only [List.length_map,List.length_cons,List.length_nil];omega),Ab (by constructor <;> omega)];refine ⟨_,rfl,?_⟩;rw [takeS hx];simp)
  (by
   rintro n s rfl;simp only [A6];rw [dF (by omega),cF_];exact ⟨_,rfl,by simp⟩) (by rw [FUv];omega) ([],[],[],[]) (by simp)
 rw [e1,oB,e2];obtain ⟨o,e3,e4⟩:=AR (φ:=fun n i s=>A5 t ⟨l,r⟩ n (i,s)) (l:=r) (fun i s=>s=((r.take i).map (fun i=>(nd t i).b),l.map (fun i=>(nd t i).b),l.map (fun i=>(nd t i).a),(r.take i).map (fun i=>(nd t i).a))) (fun o=>o=(r.map (fun i=>(nd t i).b),l.map (fun i=>(nd t i).b),l.map (fun i=>(nd t i).a),r.map (fun i=>(nd t i).a)))
  (by
   rintro n i x s hx hi rfl
   left
   have hxm:=List.mem_of_getElem? hx
   have hti:(r.take i).length<=500:=by rw [List.length_take];omega
   simp only [A5];rw [dT (show (i:Int)<(r.length:Int) by omega),cT,getI hx,oB,getN (hq.2 x hxm),oB,Ab (by simp only [List.length_map,List.length_cons,List.length_nil];omega),oB,Ab (by simp only [List.length_map,List.length_cons,List.length_nil];omega),Ab (by constructor <;> omega)];refine ⟨_,rfl,?_⟩;rw [takeS hx];simp)
  (by
   rintro n s rfl;simp only [A5];rw [dF (by omega),cF_];exact ⟨_,rfl,by simp⟩) (by rw [FUv];omega) ([],l.map (fun i=>(nd t i).b),l.map (fun i=>(nd t i).a),[]) (by simp)
 simp only
 rw [e3,oB,e4]
 simp only
 rw [Jh (by simp;omega),oB,Jh (by simp;omega),oB,Jh (by simp;omega),oB,Jh (by simp;omega),oB]
end Go.Proofs.YtkfnogdccpcmhaaGreatDoor
namespace Go.Proofs.YtkfnogdccpcmhaaGreatDoor
open Go.V
open Classical
theorem Mn {α β:Type} [DecidableEq α] {l:List (α×β)} {k:α} {v:β}:(mset l k v).map (·.1)=if k∈l.map (·.1) then l.map (·.1) else l.map (·.1)++[k]:=by
 induction l with
 | nil=>simp [mset]
 | cons p l ih =>
  obtain ⟨a,b⟩:=p;simp only [mset]
  by_cases h:k=a
  ·subst h;simp
  ·rw [if_neg h]
   simp only [List.map_cons,ih,List.mem_cons,h,false_or]
   split <;> simp
theorem PI {α β:Type} [DecidableEq α] {l:List (α×β)} {k:α} {v:β} (h:(l.map (·.1)).Nodup):((mset l k v).map (·.1)).Nodup:=by
 rw [Mn]
 split
 ·exact h
 ·rename_i hk
  rw [List.nodup_append];exact ⟨h,by simp,fun a ha b hb e=>by simp at hb;subst hb e;exact hk ha⟩
theorem RN {α β:Type} [DecidableEq α] {l:List (α×β)} {k:α} {v:β}:(mset l k v).length<=l.length+1:=by
 have:=congrArg List.length (Mn (l:=l) (k:=k) (v:=v))
 rw [List.length_map] at this;rw [this]
 split <;> simp
theorem RS {α β:Type} [DecidableEq α] {l:List (α×β)} (h:(l.map (·.1)).Nodup) {k:α} {v:β}:(k,v)∈l↔mget l k=some v:=by
 induction l with
 | nil=>simp [mget]
 | cons p l ih =>
  obtain ⟨a,b⟩:=p;simp only [List.map_cons,List.nodup_cons] at h
  have ih:=ih h.2
  simp only [mget,List.mem_cons]
  by_cases hk:k=a
  ·subst hk
   rw [if_pos rfl]
   constructor
   ·rintro (e | e)
    ·rw [(Prod.mk.inj e).2]
    ·exact absurd (List.mem_map.2 ⟨_,e,rfl⟩) h.1
   ·intro e;left;rw [Option.some.inj e]
  ·rw [if_neg hk,<- ih]
   constructor
   ·rintro (e | e)
    ·exact absurd (Prod.mk.inj e).1 hk
    ·exact e
   ·exact .inr
theorem Kt:∀ x:List UInt8,Op.bytesLess x x=false
 | []=>rfl
 | a::x=>by
  unfold Op.bytesLess;rw [Kt x]
  have:¬ a<a:=by intro h;exact absurd (UInt8.lt_iff_toNat_lt.1 h) (Nat.lt_irrefl _)
  simp [this]
theorem LL:∀ x y z:List UInt8,Op.bytesLess x y=true->Op.bytesLess y z=true->Op.bytesLess x z=true
 | x,y,[],_,h=>by cases y <;> cases h
 | [],_,_::_,_,_=>rfl
 | a::x,[],c::z,h,_=>by cases h
 | a::x,b::y,c::z,h1,h2=>by
  unfold Op.bytesLess at h1 h2 ⊢;simp only [Bool.or_eq_true,Bool.and_eq_true,decide_eq_true_eq,beq_iff_eq,UInt8.lt_iff_toNat_lt] at h1 h2 ⊢
  rcases h1 with h1 | ⟨rfl,h1⟩
  ·rcases h2 with h2 | ⟨rfl,h2⟩
   ·left;omega
   ·left;exact h1
  ·rcases h2 with h2 | ⟨rfl,h2⟩
   ·left;exact h2
   ·right;exact ⟨rfl,LL x y z h1 h2⟩
theorem R2 {n:ANd} (h:ER n):∀ (j i:Nat) (x y:AFd),i<j->n.l[i]? = some x->n.l[j]? = some y->Op.bytesLess x.name y.name=true:=by
 intro j
 induction j with
 | zero=>intro i x y h1;omega
 | succ j ih =>
  intro i x y h1 hx hy
  have hj:j<n.l.length:=by have:=(List.getElem?_eq_some_iff.1 hy).1;omega
  have h3:=(h (j+1) y hy).2 (by omega) n.l[j] (by rw [Nat.add_sub_cancel];exact List.getElem?_eq_getElem hj)
  by_cases h4:i=j
  ·subst h4
   rw [List.getElem?_eq_getElem hj] at hx;rw [<- Option.some.inj hx];exact h3
  ·exact LL _ _ _ (ih i x _ (by omega) hx (List.getElem?_eq_getElem hj)) h3
theorem Kh {n:ANd} (h:ER n):(n.l.map (·.name)).Nodup:=by
 unfold List.Nodup;rw [List.pairwise_iff_getElem]
 intro i j hi hj hij e
 rw [List.length_map] at hi hj
 have:=R2 h j i n.l[i] n.l[j] hij (List.getElem?_eq_getElem hi) (List.getElem?_eq_getElem hj)
 rw [List.getElem_map,List.getElem_map] at e;rw [e,Kt] at this
 cases this
theorem Ky {n:ANd} {all:Int} (h:Bn n all=true):ER n:=by
 unfold Bn at h;simp only [Bool.and_eq_true,decide_eq_true_eq] at h;exact h.2.2.2.2.1.1
def fld (L:List AFd) (s:List UInt8):List Int:=(L.filter fun f=>decide (f.name=s)).map (·.at_)
theorem Qf {s:List UInt8}:∀ L:List AFd,(L.map (·.name)).Nodup->fld L s=((L.find? fun f=>decide (f.name=s)).map (·.at_)).toList
 | [],_=>rfl
 | f::L,h=>by
  rw [List.map_cons,List.nodup_cons] at h;unfold fld
  by_cases hf:f.name=s
  ·rw [List.filter_cons_of_pos (by simpa using hf),List.find?_cons_of_pos (by simpa using hf)]
   have:L.filter (fun f=>decide (f.name=s))=[]:=by
    rw [List.filter_eq_nil_iff]
    intro g hg hgs
    exact h.1 (List.mem_map.2 ⟨g,hg,by rw [hf];simpa using hgs⟩)
   rw [this];rfl
  ·rw [List.filter_cons_of_neg (by simpa using hf),List.find?_cons_of_neg (by simpa using hf)]
   exact Qf L h.2
def FP (t:ATy) (l:List Int) (s:List UInt8):List Int:=l.flatMap fun i=>fld (nd t i).l s
theorem RJ {t:ATy} (hO:OkT t) (s:List UInt8):∀ l:List Int,(∀ i∈l,In t i)->FP t l s=AH t l s
 | [],_=>rfl
 | i::l,h=>by
  have h1:=RJ hO s l (fun j hj=>h j (by simp [hj]))
  have h2:=Qf (s:=s) _ (Kh (Ky (hO.right _ (Fx (h i (by simp))))))
  unfold FP AH at h1 ⊢;rw [List.flatMap_cons,h1,h2,List.filterMap_cons];unfold atN
  cases ((nd t i).l.find? fun f=>decide (f.name=s)).map (·.at_) <;> rfl
structure MI (M:List (List UInt8×List Int)) (f:List UInt8->List Int) (n:Nat):Prop where
 nodup:(M.map (·.1)).Nodup
 get:∀ s,mget M s=if f s=[] then none else some (f s)
 len:M.length<=n
 flen:∀ s,(f s).length<=n
theorem MI.getD {M:List (List UInt8×List Int)} {f:List UInt8->List Int} {n:Nat} (h:MI M f n) (s:List UInt8):(mget M s).getD []=f s:=by
 rw [h.get s]
 by_cases hs:f s=[]
 ·rw [if_pos hs,hs];rfl
 ·rw [if_neg hs];rfl
theorem N8 {x:ANd} (hx:NB x) {M:List (List UInt8×List Int)} {f:List UInt8->List Int} {n:Nat} (hn:n<=1000000) (h:MI M f n):∃ M',Ex x FU (0,M)=some M'/\MI M' (fun s=>f s++fld x.l s) (n+x.l.length):=by
 have hx40:x.l.length<=40:=hx
 obtain ⟨o,e1,e2⟩:=AR (φ:=fun n i s=>Ex x n (i,s)) (l:=x.l) (fun i M=>MI M (fun s=>f s++fld (x.l.take i) s) (n+i)) (fun M=>MI M (fun s=>f s++fld x.l s) (n+x.l.length))
  (by
   intro m i y M hy hi hI
   left
   have hl:=hI.flen y.name
   simp only [Ex];rw [dT (show (i:Int)<(x.l.length:Int) by omega),cT,getI hy,oB,hI.getD,Ab (by simp only [List.length_cons,List.length_nil];omega),Ab (by constructor <;> omega)];refine ⟨_,rfl,⟨PI hI.nodup,fun s=>?_,?_,fun s=>?_⟩⟩
   ·rw [Jt]
    by_cases hs:s=y.name
    ·subst hs
     rw [if_pos rfl,takeS hy]
     have e:fld (x.l.take i++[y]) y.name=fld (x.l.take i) y.name++[y.at_]:=by unfold fld;rw [List.filter_append,List.map_append];simp
     rw [e,<- List.append_assoc,if_neg (by simp)]
    ·rw [if_neg hs,hI.get s,takeS hy]
     have e:fld (x.l.take i++[y]) s=fld (x.l.take i) s:=by unfold fld;rw [List.filter_append,List.map_append];simp [show ¬ y.name=s from fun e=>hs e.symm]
     rw [e]
   ·have:=RN (l:=M) (k:=y.name) (v:=(f y.name++fld (x.l.take i) y.name)++[y.at_])
    have:=hI.len
    omega
   ·have h2:(fld (x.l.take (i+1)) s).length<=(fld (x.l.take i) s).length+1:=by
     rw [takeS hy];unfold fld;rw [List.filter_append,List.map_append,List.length_append,List.length_map,List.length_map]
     have:=List.length_filter_le (fun f=>decide (f.name=s)) [y]
     simp only [List.length_cons,List.length_nil] at this
     omega
    have:=hI.flen s
    simp only [List.length_append] at this ⊢
    omega)
  (by
   intro m M hI
   simp only [Ex];rw [dF (by omega),cF_];exact ⟨M,rfl,by simpa using hI⟩) (by rw [FUv];omega) M (by simpa [fld] using h)
 exact ⟨o,e1,e2⟩
theorem NU {t:ATy} (hN:∀ n∈t.l,NB n) {l:List Int} (h:∀ i∈l,In t i) (hl:l.length<=500):∃ M,IA t l=some M/\MI M (FP t l) 20000:=by
 unfold IA;obtain ⟨o,e1,e2⟩:=AR (φ:=fun n i s=>E5 t l n (i,s)) (l:=l) (fun i M=>MI M (FP t (l.take i)) (40*i)) (fun M=>MI M (FP t l) 20000)
  (by
   intro m i x M hx hi hI
   left
   have hxi:=h x (List.mem_of_getElem? hx)
   obtain ⟨M',h1,h2⟩:=N8 (hN _ (Fx hxi)) (by omega) hI;simp only [E5];rw [dT (show (i:Int)<(l.length:Int) by omega),cT,getI hx,oB,getN hxi,oB,h1,oB,Ab (by constructor <;> omega)];refine ⟨_,rfl,?_⟩
   have h40:(nd t x).l.length<=40:=hN _ (Fx hxi)
   have e:FP t (l.take (i+1))=fun s=>FP t (l.take i) s++fld (nd t x).l s:=by
    funext s;rw [takeS hx];unfold FP;rw [List.flatMap_append];simp
   rw [e];exact ⟨h2.nodup,h2.get,by have:=h2.len;omega,fun s=>by have:=h2.flen s;omega⟩)
  (by
   intro m M hI
   simp only [E5];rw [dF (by omega),cF_];rw [List.take_length] at hI;exact ⟨M,rfl,hI.nodup,hI.get,by have:=hI.len;omega,fun s=>by have:=hI.flen s;omega⟩) (by rw [FUv];omega) [] ⟨by simp,fun s=>by simp [mget,FP],by simp,fun s=>by simp [FP]⟩
 exact ⟨o,by rw [e1];rfl,e2⟩
theorem Qk {Ml Mr Ma:List (List UInt8×List Int)} {fl fr fa:List UInt8->List Int} (hl:MI Ml fl 20000) (hr:MI Mr fr 20000) (ha:MI Ma fa 20000) (n:Nat) (hn:0<n) :
  ∃ r,Il Ml Mr Ma (n:Int)=some r/\(r.fails=true↔∃ s,n<=(fa s).length/\(fl s=[]\/fr s=[]))/\(r.fails=true->r.to_=[])/\(r.fails=false->∀ q,q∈r.to_↔∃ s,n<=(fa s).length/\q=⟨cs (fl s),cs (fr s)⟩):=by
 have hmem:∀ e,e∈Ma↔(e.2=fa e.1/\fa e.1≠[]):=by
  rintro ⟨s,v⟩;rw [RS ha.nodup,ha.get s]
  by_cases hs:fa s=[]
  ·rw [if_pos hs];simp [hs]
  ·rw [if_neg hs];simp only [Option.some.injEq];exact ⟨fun e=>⟨e.symm,hs⟩,fun e=>e.1.symm⟩
 have hE:∀ e∈Ma,wideE Ml Mr (n:Int) e=if (fa e.1).length<n then some none else if fl e.1=[]\/fr e.1=[] then some (some none) else some (some (some ⟨cs (fl e.1),cs (fr e.1)⟩)):=by
  intro e he
  obtain ⟨h1,h2⟩:=(hmem e).1 he;unfold wideE;rw [hl.getD,hr.getD,h1]
  have h3:=hl.flen e.1
  have h4:=hr.flen e.1
  by_cases hc:(fa e.1).length<n
  ·rw [if_pos (by omega),if_pos hc]
  ·rw [if_neg (by omega),if_neg hc]
   by_cases hd:fl e.1=[]\/fr e.1=[]
   ·rw [if_pos (by rw [List.length_eq_zero_iff,List.length_eq_zero_iff];exact hd),if_pos hd]
   ·rw [if_neg (by rw [List.length_eq_zero_iff,List.length_eq_zero_iff];exact hd),if_neg hd,Jh (by omega),oB,Jh (by omega),oB]
 have hlen:=ha.len
 unfold Il;rw [if_pos ⟨by omega,fun e he=>by rw [hE e he];split;rfl;split <;> rfl⟩]
 have hbad:(∃ e∈Ma,wideE Ml Mr (n:Int) e=some (some none))↔∃ s,n<=(fa s).length/\(fl s=[]\/fr s=[]):=by
  constructor
  ·rintro ⟨e,he,h1⟩
   rw [hE e he] at h1
   by_cases hc:(fa e.1).length<n
   ·rw [if_pos hc] at h1;cases h1
   ·rw [if_neg hc] at h1
    by_cases hd:fl e.1=[]\/fr e.1=[]
    ·exact ⟨e.1,by omega,hd⟩
    ·rw [if_neg hd] at h1;cases h1
  ·rintro ⟨s,h1,h2⟩
   have hne:fa s≠[]:=fun e=>by rw [e] at h1;simp at h1;omega
   have he:(s,fa s)∈Ma:=(hmem _).2 ⟨rfl,hne⟩
   refine ⟨_,he,?_⟩;rw [hE _ he,if_neg (by simp only;omega),if_pos h2]
 by_cases hb:∃ e∈Ma,wideE Ml Mr (n:Int) e=some (some none)
 ·rw [if_pos hb]
  exact ⟨_,rfl,⟨fun _=>hbad.1 hb,fun _=>rfl⟩,fun _=>rfl,fun h=>(by cases h)⟩
 ·rw [if_neg hb]
  refine ⟨_,rfl,⟨fun h=>(by cases h),fun h=>absurd (hbad.2 h) hb⟩,fun h=>(by cases h),fun _ q=>?_⟩;simp only [List.mem_filterMap]
  constructor
  ·rintro ⟨e,he,h1⟩
   unfold wideQ at h1;rw [hE e he] at h1
   by_cases hc:(fa e.1).length<n
   ·rw [if_pos hc] at h1;cases h1
   ·rw [if_neg hc] at h1
    by_cases hd:fl e.1=[]\/fr e.1=[]
    ·rw [if_pos hd] at h1;cases h1
    ·rw [if_neg hd] at h1
     exact ⟨e.1,by omega,(Option.some.inj h1).symm⟩
  ·rintro ⟨s,h1,rfl⟩
   have hne:fa s≠[]:=fun e=>by rw [e] at h1;simp at h1;omega
   have he:(s,fa s)∈Ma:=(hmem _).2 ⟨rfl,hne⟩
   refine ⟨_,he,?_⟩;unfold wideQ;rw [hE _ he,if_neg (by simp only;omega),if_neg (fun h=>hb (hbad.2 ⟨s,h1,h⟩))]
theorem Pb {f:Int->Option Int}:∀ l:List Int,(l.filterMap f).length<=l.length/\(l.length<=(l.filterMap f).length↔∀ i∈l,f i≠none)
 | []=>by simp
 | i::l=>by
  obtain ⟨h1,h2⟩:=Pb (f:=f) l;rw [List.filterMap_cons]
  cases hi:f i with
  | none=>simp only [List.length_cons,List.mem_cons,forall_eq_or_imp,hi];exact ⟨by omega,⟨fun h=>by omega,fun h=>absurd rfl h.1⟩⟩
  | some k =>
   simp only [List.length_cons,List.mem_cons,forall_eq_or_imp,hi];exact ⟨by omega,by rw [<- h2];simp⟩
theorem IL {t:ATy} {l:List Int} (hne:l≠[]) {s:List UInt8}:l.length<=(AH t l s).length↔s∈Dj t l:=by
 rw [mem_names];unfold AH;rw [(Pb l).2]
 simp [hne]
theorem PN {t:ATy} {l r:List Int} {s:List UInt8}:badA t l r s=true↔AH t l s=[]\/AH t r s=[]:=by
 unfold badA;rw [Bool.or_eq_true,List.isEmpty_iff,List.isEmpty_iff]
theorem Qv {t:ATy} {q:BSq} (hO:OkT t) (hN:∀ n∈t.l,NB n) (hq:InQ t q) (h1:q.left.length<=500) (h2:q.right.length<=500) (hb:∀ i∈q.left,(nd t i).kind≠2) (hla:∀ i∈q.left,latB (nd t i).kind=false) :
  ∃ r,BM t q=some r/\r.fails=(Do t q).1/\∀ s,s∈r.to_↔s∈(Do t q).2:=by
 unfold BM;obtain ⟨k,more,e1,e2,e3⟩:=Rj hO hq.1 hb hla h1;rw [e1,oB]
 simp only
 cases more with
 | true =>
  obtain ⟨a,b,m,e4⟩:=e2 rfl;rw [cT];refine ⟨_,rfl,?_⟩;unfold Do;rw [e4];simp
 | false =>
  rw [cF_]
  rcases e3 rfl with ⟨hk,e4⟩ | ⟨hk,e4⟩
  ·rw [dT hk,cT]
   refine ⟨_,rfl,?_⟩;unfold Do;rw [e4];simp
  ·rw [dF (by omega),cF_]
   have hL:∀ i∈ofK t q.left k,In t i:=fun i hi=>hq.1 i (mem_ofK.1 hi).1
   have hR:∀ i∈ofK t q.right k,In t i:=fun i hi=>hq.2 i (mem_ofK.1 hi).1
   have hll:(ofK t q.left k).length<=500:=Nat.le_trans (List.length_filter_le _ _) h1
   have hrl:(ofK t q.right k).length<=500:=Nat.le_trans (List.length_filter_le _ _) h2
   rw [PY hq.1 h1,oB,PY hq.2 h2,oB];obtain ⟨Ml,e5,e6⟩:=NU hN hL hll;obtain ⟨Mr,e7,e8⟩:=NU hN hR hrl;rw [e5,oB,e7,oB];rw [show FP t (ofK t q.left k)=AH t (ofK t q.left k) from funext (fun s=>RJ hO s _ hL)] at e6;rw [show FP t (ofK t q.right k)=AH t (ofK t q.right k) from funext (fun s=>RJ hO s _ hR)] at e8
   have hcl:Do t q=B5 t k (ofK t q.left k) (ofK t q.right k):=by unfold Do;rw [e4]
   rw [hcl];obtain ⟨_,⟨i0,hi0,hk0⟩,_⟩:=FK e4
   have hlne:ofK t q.left k≠[]:=fun e=>by have:=mem_ofK.2 ⟨hi0,hk0⟩;rw [e] at this;cases this
   generalize ofK t q.left k=l at *
   generalize ofK t q.right k=r at *
   unfold B5
   by_cases h6:k=6
   ·subst h6
    rw [dT rfl,cT]
    by_cases hr:r=[]
    ·rw [if_pos ⟨by omega,hr⟩]
     unfold Bq;rw [hr,dT (by simp),cT];exact ⟨_,rfl,rfl,fun s=>Iff.rfl⟩
    ·rw [if_neg (fun h=>hr h.2),if_pos rfl,QX ⟨hL,hR⟩ hll hrl hr]
     exact ⟨_,rfl,rfl,fun s=>Iff.rfl⟩
   ·rw [dF h6,cF_]
    by_cases h7:k=7
    ·subst h7
     rw [dT rfl,cT]
     by_cases hr:r=[]
     ·rw [if_pos ⟨by omega,hr⟩,hr,dT (by simp),cT]
      exact ⟨_,rfl,rfl,fun s=>Iff.rfl⟩
     ·rw [if_neg (fun h=>hr h.2),if_neg (by omega),dF (by have:=List.length_pos_iff.2 hr;omega),cF_]
      obtain ⟨a,e9,e10,e11,e12⟩:=Qk e6 e8 e8 r.length (List.length_pos_iff.2 hr);rw [e9,oB];refine ⟨a,rfl,?_⟩
      have hall:allA t 7 l r=Dj t r:=by unfold allA;simp
      rw [hall]
      have hbb:(Dj t r).any (badA t l r)=a.fails:=by
       rw [Bool.eq_iff_iff,e10,List.any_eq_true];simp only [PN,IL hr]
      cases hf:a.fails with
      | true=>rw [if_pos (by rw [hbb,hf]),e11 hf];exact ⟨rfl,fun s=>Iff.rfl⟩
      | false =>
       rw [if_neg (by rw [hbb,hf];simp)];refine ⟨rfl,fun s=>?_⟩;rw [e12 hf,List.mem_map];simp only [IL hr];exact ⟨fun ⟨n,hn,e⟩=>⟨n,hn,e.symm⟩,fun ⟨n,hn,e⟩=>⟨n,hn,e.symm⟩⟩
    ·rw [dF h7,cF_]
     by_cases h8:k=8
     ·subst h8
      rw [dT rfl,cT,if_neg (fun h=>h.1 rfl),if_neg (by omega)];obtain ⟨a,e9,e10,e11,e12⟩:=Qk e6 e8 e6 l.length (List.length_pos_iff.2 hlne);rw [e9,oB];refine ⟨a,rfl,?_⟩
      have hall:allA t 8 l r=Dj t l:=by unfold allA;simp
      rw [hall]
      have hbb:(Dj t l).any (badA t l r)=a.fails:=by
       rw [Bool.eq_iff_iff,e10,List.any_eq_true];simp only [PN,IL hlne]
      cases hf:a.fails with
      | true=>rw [if_pos (by rw [hbb,hf]),e11 hf];exact ⟨rfl,fun s=>Iff.rfl⟩
      | false =>
       rw [if_neg (by rw [hbb,hf];simp)];refine ⟨rfl,fun s=>?_⟩;rw [e12 hf,List.mem_map];simp only [IL hlne];exact ⟨fun ⟨n,hn,e⟩=>⟨n,hn,e.symm⟩,fun ⟨n,hn,e⟩=>⟨n,hn,e.symm⟩⟩
     ·rw [dF h8,cF_]
      refine ⟨_,rfl,?_⟩
      have hall:allA t k l r=[]:=by unfold allA;rw [if_neg h7,if_neg h8]
      by_cases hr:r=[]
      ·rw [if_pos ⟨h8,hr⟩,hr];exact ⟨rfl,fun s=>Iff.rfl⟩
      ·rw [if_neg (fun h=>hr h.2),if_neg h6,hall]
       refine ⟨?_,fun s=>Iff.rfl⟩
       simp [hr]
theorem Sh {t:ATy} {q:BSq} (hO:OkT t) (hN:∀ n∈t.l,NB n) (hq:InQ t q) (h1:q.left.length<=500) (h2:q.right.length<=500) :
  ∃ r,AG t q=some r/\r.fails=(AS t q).1/\∀ s,s∈r.to_↔s∈(AS t q).2:=by
 unfold AG;rw [SB hq.1 (by omega),oB,SB hq.2 (by omega)]
 have he:(bif (q.left.any fun i=>decide ((nd t i).kind=2)) then (some true) else ((some (q.right.any fun i=>decide ((nd t i).kind=1))).bind fun x2=>some x2))=some (endA t q):=by
  unfold endA
  cases q.left.any fun i=>decide ((nd t i).kind=2) <;> rfl
 rw [he,oB];unfold AS
 cases h3:endA t q with
 | true=>rw [cT,if_pos rfl];exact ⟨_,rfl,rfl,fun s=>Iff.rfl⟩
 | false =>
  rw [cF_,if_neg (by simp),QG hq h1 h2,oB]
  cases h4:openA t q with
  | some l=>simp only [cT];exact ⟨_,rfl,rfl,fun s=>Iff.rfl⟩
  | none =>
   simp only [cF_];rw [QT hq h1 h2,oB]
   cases h5:FW t q with
   | true=>rw [cT,if_pos rfl];exact ⟨_,rfl,rfl,fun s=>Iff.rfl⟩
   | false =>
    rw [cF_,if_neg (by simp)]
    have hC:=J7 (t:=t) (q:=q) (by rw [h3];simp) h4 (by rw [h5];simp)
    obtain ⟨r,e1,e2,e3⟩:=Qv hO hN hq h1 h2 hC.bot hC.latL;rw [e1,oB];exact ⟨r,rfl,e2,e3⟩
end Go.Proofs.YtkfnogdccpcmhaaGreatDoor
namespace Go.Proofs.YtkfnogdccpcmhaaGreatDoor
open Go.V
open Classical
def dd (x:Int):List UInt8:=Lib.decDigits x.toNat
theorem Nt {a b:Nat} (ha:a<256) (hb:b<256) (h:UInt8.ofNat a=UInt8.ofNat b):a=b:=by
 have:=congrArg UInt8.toNat h
 rw [UInt8.toNat_ofNat',UInt8.toNat_ofNat'] at this
 omega
theorem Sv {u:Nat} (h:u<100):Lib.decDigits u=if u<10 then [UInt8.ofNat (48+u)] else [UInt8.ofNat (48+u / 10),UInt8.ofNat (48+u % 10)]:=by
 rw [Lib.decDigits]
 by_cases h1:u<10
 ·rw [dif_pos h1,if_pos h1]
 ·rw [dif_neg h1,if_neg h1,Lib.decDigits,dif_pos (by omega)];rfl
theorem Uh {x y:Int} (hx:0<=x/\x<100) (hy:0<=y/\y<100) (h:dd x=dd y):x=y:=by
 unfold dd at h;rw [Sv (by omega),Sv (by omega)] at h
 have key:x.toNat=y.toNat:=by
  split at h
  ·split at h
   ·have:=Nt (by omega) (by omega) (List.cons.inj h).1;omega
   ·cases (List.cons.inj h).2
  ·split at h
   ·cases (List.cons.inj h).2
   ·have h1:=Nt (by omega) (by omega) (List.cons.inj h).1
    have h2:=Nt (by omega) (by omega) (List.cons.inj (List.cons.inj h).2).1
    omega
 omega
theorem M2 {x:Int} (hx:0<=x/\x<100):dd x≠[]/\(dd x).length<=2/\∀ c∈dd x,c≠32/\c≠124:=by
 have key:∀ n:Nat,48<=n->n<58->UInt8.ofNat n≠32/\UInt8.ofNat n≠124:=by
  intro n h1 h2
  constructor <;> intro e <;> have:=congrArg UInt8.toNat e <;> rw [UInt8.toNat_ofNat'] at this
  ·change n % 256=32 at this;omega
  ·change n % 256=124 at this;omega
 unfold dd;rw [Sv (by omega)]
 split
 ·exact ⟨by simp,by simp,fun c hc=>by rw [List.mem_singleton] at hc;subst hc;exact key _ (by omega) (by omega)⟩
 ·refine ⟨by simp,by simp,fun c hc=>?_⟩
  simp only [List.mem_cons,List.not_mem_nil,or_false] at hc
  rcases hc with rfl | rfl
  ·exact key _ (by omega) (by omega)
  ·exact key _ (by omega) (by omega)
theorem M4 {c:UInt8}:∀ (a b x y:List UInt8),c∉a->c∉b->a++c::x=b++c::y->a=b/\x=y
 | [],[],x,y,_,_,h=>⟨rfl,(List.cons.inj h).2⟩
 | [],d::b,x,y,_,hb,h=>absurd (List.cons.inj h).1 (fun e=>hb (by simp [e]))
 | d::a,[],x,y,ha,_,h=>absurd (List.cons.inj h).1 (fun e=>ha (by simp [e]))
 | d::a,e::b,x,y,ha,hb,h=>by
  obtain ⟨h1,h2⟩:=List.cons.inj h;obtain ⟨h3,h4⟩:=M4 a b x y (fun h=>ha (by simp [h])) (fun h=>hb (by simp [h])) h2;exact ⟨by rw [h1,h3],h4⟩
def tl (l:List Int):List UInt8:=l.flatMap fun y=>32::dd y
def tx:List Int->List UInt8
 | []=>[]
 | x::l=>dd x++tl l
theorem Td:∀ l:List Int,Lib.join (l.map dd) [32]=tx l
 | []=>Lib.join_nil _
 | x::l=>by
  rw [List.map_cons,Lib.join_cons]
  show _=dd x++List.flatMap (fun y=>32::dd y) l
  unfold Lib.joinTail;rw [List.flatMap_def,List.map_map]
  rfl
def Low (l:List Int):Prop:=∀ x∈l,0<=x/\x<100
theorem Sr:∀ l m:List Int,Low l->Low m->tl l=tl m->l=m
 | [],[],_,_,_=>rfl
 | [],y::m,_,_,h=>by cases h
 | x::l,[],_,_,h=>by cases h
 | x::l,y::m,hl,hm,h=>by
  have hx:=M2 (hl x (by simp))
  have hy:=M2 (hm y (by simp))
  have h1:dd x++tl l=dd y++tl m:=by
   unfold tl at h ⊢;rw [List.flatMap_cons,List.flatMap_cons,List.cons_append,List.cons_append] at h;exact (List.cons.inj h).2
  have h2:dd x++(tl l++[32])=dd y++(tl m++[32]):=by rw [<- List.append_assoc,<- List.append_assoc,h1]
  have hc:∀ l:List Int,∃ z,tl l++[32]=32::z:=by
   intro l
   cases l with
   | nil=>exact ⟨[],rfl⟩
   | cons a l=>exact ⟨dd a++tl l++[32],by unfold tl;rw [List.flatMap_cons];rfl⟩
  obtain ⟨z1,e1⟩:=hc l;obtain ⟨z2,e2⟩:=hc m;rw [e1,e2] at h2;obtain ⟨h3,h4⟩:=M4 _ _ _ _ (fun h=>(hx.2.2 _ h).1 rfl) (fun h=>(hy.2.2 _ h).1 rfl) h2
  have hxy:=Uh (hl x (by simp)) (hm y (by simp)) h3
  subst hxy;rw [Sr l m (fun z hz=>hl z (by simp [hz])) (fun z hz=>hm z (by simp [hz])) (List.append_cancel_left h1)]
theorem R8 {l m:List Int} (hl:Low l) (hm:Low m) (h:tx l=tx m):l=m:=by
 refine Sr l m hl hm ?_
 cases l with
 | nil =>
  cases m with
  | nil=>rfl
  | cons y m =>
   have:=(M2 (hm y (by simp))).1
   unfold tx at h;exact absurd (List.append_eq_nil_iff.1 h.symm).1 this
 | cons x l =>
  cases m with
  | nil =>
   have:=(M2 (hl x (by simp))).1
   unfold tx at h;exact absurd (List.append_eq_nil_iff.1 h).1 this
  | cons y m =>
   change dd x++tl l=dd y++tl m at h
   unfold tl at h ⊢;rw [List.flatMap_cons,List.flatMap_cons,List.cons_append,List.cons_append,h]
theorem NW:∀ l:List Int,Low l->(tl l).length<=3*l.length/\(124:UInt8)∉tl l
 | [],_=>by simp [tl]
 | x::l,h=>by
  obtain ⟨h1,h2⟩:=NW l (fun z hz=>h z (by simp [hz]));obtain ⟨_,h3,h4⟩:=M2 (h x (by simp))
  have e:tl (x::l)=32::(dd x++tl l):=by unfold tl;rw [List.flatMap_cons];rfl
  rw [e];refine ⟨by simp only [List.length_cons,List.length_append];omega,?_⟩;simp only [List.mem_cons,List.mem_append,not_or];exact ⟨by decide,fun h=>(h4 _ h).2 rfl,h2⟩
theorem HL {l:List Int} (h:Low l):(tx l).length<=3*l.length/\(124:UInt8)∉tx l:=by
 cases l with
 | nil=>simp [tx]
 | cons x l =>
  obtain ⟨h1,h2⟩:=NW l (fun z hz=>h z (by simp [hz]));obtain ⟨_,h3,h4⟩:=M2 (h x (by simp));unfold tx;refine ⟨by simp only [List.length_cons,List.length_append];omega,?_⟩;simp only [List.mem_append,not_or];exact ⟨fun h=>(h4 _ h).2 rfl,h2⟩
theorem PS {l:List Int} (h:Low l) (hl:l.length<=1000):D5 l=some (tx l):=by
 unfold D5;rw [Ab (by omega),Ab (by omega)];obtain ⟨o,e1,e2⟩:=AR (φ:=fun n i s=>CA l n (i,s)) (l:=l) (fun i s=>s.length=l.length/\∀ j,j<i->s[j]? = (l[j]?).map dd) (fun o=>o=l.map dd)
  (by
   intro n i x s hx hi hI
   left
   have h3:s[i]? = some (s[i]'(by omega)):=List.getElem?_eq_getElem (by omega)
   simp only [CA];rw [dT (show (i:Int)<(l.length:Int) by omega),cT,getI hx,oB,Ab (h x (List.mem_of_getElem? hx)),getI h3,oB,Ab (by constructor <;> omega)];refine ⟨_,rfl,by rw [List.length_set];exact hI.1,fun j hj=>?_⟩;rw [Int.toNat_natCast]
   by_cases hji:j=i
   ·subst hji
    rw [List.getElem?_set_self (by omega),hx];rfl
   ·rw [List.getElem?_set_ne (by omega)]
    exact hI.2 j (by omega))
  (by
   intro n s hI
   simp only [CA];rw [dF (by omega),cF_];refine ⟨s,rfl,List.ext_getElem? fun j=>?_⟩;rw [List.getElem?_map]
   by_cases hj:j<l.length
   ·exact hI.2 j hj
   ·rw [List.getElem?_eq_none (by omega),List.getElem?_eq_none (by omega)];rfl) (by rw [FUv];omega) (List.replicate ((l.length:Int)).toNat []) ⟨by simp,fun j hj=>by omega⟩
 have hf:=HL h
 rw [e1,oB,e2,Td,Ab (by rw [List.length_map];omega),Ab (by omega)]
def keyS (q:BSq):List UInt8:=(tx q.left++[124])++tx q.right
theorem Ub {q:BSq} (h1:Low q.left) (h2:Low q.right) (h3:q.left.length<=1000) (h4:q.right.length<=1000):AD q=some (keyS q):=by
 have f1:=HL h1
 have f2:=HL h2
 unfold AD;rw [PS h1 h3,oB,Ab (by simp only [List.length_cons,List.length_nil];omega),PS h2 h4,oB,Ab (by simp only [List.length_append,List.length_cons,List.length_nil];omega)]
 rfl
theorem Tz {q s:BSq} (h1:Low q.left) (h2:Low q.right) (h3:Low s.left) (h4:Low s.right) (h:keyS q=keyS s):q=s:=by
 unfold keyS at h;rw [List.append_assoc,List.append_assoc] at h;obtain ⟨a,b⟩:=M4 _ _ _ _ (HL h1).2 (HL h3).2 h;obtain ⟨l,r⟩:=q;obtain ⟨l',r'⟩:=s
 have e1:=R8 h1 h3 a
 have e2:=R8 h2 h4 b
 simp only at e1 e2
 rw [e1,e2]
def subs:List Int->List (List Int)
 | []=>[[]]
 | x::l=>subs l++(subs l).map (x :: ·)
theorem Lj:∀ l:List Int,(subs l).length=2 ^ l.length
 | []=>rfl
 | x::l=>by
  unfold subs;rw [List.length_append,List.length_map,Lj l,List.length_cons,Nat.pow_succ];omega
theorem Jz:∀ (l s:List Int),s∈subs l->s.Sublist l
 | [],s,h=>by simp [subs] at h;subst h;exact List.Sublist.slnil
 | x::l,s,h=>by
  unfold subs at h
  rcases List.mem_append.1 h with h | h
  ·exact (Jz l s h).cons x
  ·obtain ⟨s',h',rfl⟩:=List.mem_map.1 h
   exact (Jz l s' h').cons_cons x
theorem HV:∀ (P s:List Int),P.Pairwise (· < ·)->s.Pairwise (· < ·)->(∀ x∈s,x∈P)->s∈subs P
 | [],s,_,_,h=>by
  cases s with
  | nil=>simp [subs]
  | cons x s=>exact absurd (h x (by simp)) (by simp)
 | x::P,[],hP,hs,h=>by
  unfold subs;exact List.mem_append_left _ (HV P [] (List.pairwise_cons.1 hP).2 List.Pairwise.nil (by simp))
 | x::P,y::s,hP,hs,h=>by
  obtain ⟨p1,p2⟩:=List.pairwise_cons.1 hP;obtain ⟨s1,s2⟩:=List.pairwise_cons.1 hs;unfold subs
  by_cases hxy:y=x
  ·subst hxy
   refine List.mem_append_right _ (List.mem_map.2 ⟨s,HV P s p2 s2 (fun z hz=>?_),rfl⟩)
   rcases List.mem_cons.1 (h z (by simp [hz])) with e | e
   ·have:=s1 z hz;omega
   ·exact e
  ·have hyP:y∈P:=(List.mem_cons.1 (h y (by simp))).resolve_left hxy
   have hxy2:=p1 y hyP
   refine List.mem_append_left _ (HV P (y::s) p2 hs (fun z hz=>?_))
   rcases List.mem_cons.1 (h z hz) with e | e
   ·exfalso
    rcases List.mem_cons.1 hz with e2 | e2
    ·omega
    ·have:=s1 z e2;omega
   ·exact e
def UAB (A B:List Int):List BSq:=(subs A).flatMap fun l=>(subs B).map fun r=>⟨l,r⟩
theorem MN (c:Nat):∀ l:List Nat,(∀ x∈l,x=c)->l.sum=l.length*c
 | [],_=>by simp
 | x::l,h=>by
  rw [List.sum_cons,MN c l (fun y hy=>h y (by simp [hy])),h x (by simp),List.length_cons,Nat.succ_mul];omega
theorem KM (A B:List Int):(UAB A B).length=2 ^ (A.length+B.length):=by
 unfold UAB;rw [List.length_flatMap,MN (2 ^ B.length),List.length_map,Lj,Nat.pow_add]
 intro x hx
 obtain ⟨l,_,rfl⟩:=List.mem_map.1 hx;rw [List.length_map,Lj]
def Srt (q:BSq):Prop:=q.left.Pairwise (· < ·)/\q.right.Pairwise (· < ·)
theorem Dp {A B:List Int} (hA:A.Pairwise (· < ·)) (hB:B.Pairwise (· < ·)) {q:BSq}:q∈UAB A B↔Srt q/\InAB (· ∈ A) (· ∈ B) q:=by
 unfold UAB;rw [List.mem_flatMap]
 constructor
 ·rintro ⟨l,hl,h⟩
  obtain ⟨r,hr,rfl⟩:=List.mem_map.1 h
  have h1:=Jz A l hl
  have h2:=Jz B r hr
  exact ⟨⟨hA.sublist h1,hB.sublist h2⟩,fun i hi=>h1.subset hi,fun i hi=>h2.subset hi⟩
 ·rintro ⟨⟨h1,h2⟩,h3,h4⟩
  exact ⟨q.left,HV A _ hA h1 h3,List.mem_map.2 ⟨q.right,HV B _ hB h2 h4,rfl⟩⟩
theorem GG {t:ATy} {q s:BSq} (hq:Srt q) (hs:s∈(AS t q).2):Srt s:=by
 unfold AS at hs
 split at hs
 ·cases hs
 ·split at hs
  ·rename_i l h2
   unfold openA at h2
   split at h2
   ·cases h2
    split at hs
    ·simp only [List.mem_singleton] at hs;subst hs;exact ⟨A1 _,hq.2⟩
    ·simp only [List.mem_cons,List.not_mem_nil,or_false] at hs
     rcases hs with rfl | rfl
     ·exact ⟨A1 _,hq.2⟩
     ·exact ⟨A1 _,hq.2⟩
   ·split at h2
    ·cases h2
     split at hs
     ·simp only [List.mem_singleton] at hs;subst hs;exact ⟨hq.1,A1 _⟩
     ·simp only [List.mem_cons,List.not_mem_nil,or_false] at hs
      rcases hs with rfl | rfl
      ·exact ⟨hq.1,A1 _⟩
      ·exact ⟨hq.1,A1 _⟩
    ·cases h2
  ·split at hs
   ·cases hs
   ·unfold Do at hs
    split at hs
    ·cases hs
    ·unfold B5 at hs
     split at hs
     ·cases hs
     ·split at hs
      ·simp only [List.mem_cons,List.not_mem_nil,or_false] at hs
       rcases hs with rfl | rfl
       ·exact ⟨A1 _,A1 _⟩
       ·exact ⟨A1 _,A1 _⟩
      ·split at hs
       ·cases hs
       ·obtain ⟨n,_,rfl⟩:=List.mem_map.1 hs
        exact ⟨A1 _,A1 _⟩
    ·cases hs
theorem KK {t:ATy} {l:List Int} (h:l.Pairwise (· < ·)) (hi:∀ i∈l,In t i):l.length<=t.l.length:=HR _ l (h.imp (fun h=>by omega)) hi
structure UOk (t:ATy) (q:BSq) (U:List BSq):Prop where
 mem:q∈U
 srt:∀ s∈U,Srt s
 inn:∀ s∈U,InQ t s
 clo:∀ s∈U,∀ s'∈(AS t s).2,s'∈U
 len:U.length<=1000000000000
theorem UOk.rch {t:ATy} {q:BSq} {U:List BSq} (h:UOk t q U) {s:BSq} (hs:Rch t q s):s∈U:=by
 induction hs with
 | refl=>exact h.mem
 | step _ h2 ih=>exact h.clo _ ih _ h2
open Classical in
theorem Rr {t:ATy} {q:BSq} {U:List BSq} (hO:OkT t) (hN:∀ n∈t.l,NB n) (ht:t.l.length<=99) (hU:UOk t q U):He t q=some (decide (Valid t q)):=by
 have hlen:∀ s∈U,s.left.length<=99/\s.right.length<=99:=fun s hs=>⟨Nat.le_trans (KK (hU.srt s hs).1 (hU.inn s hs).1) ht,Nat.le_trans (KK (hU.srt s hs).2 (hU.inn s hs).2) ht⟩
 have hlow:∀ s∈U,Low s.left/\Low s.right:=fun s hs=>⟨fun x hx=>by have:=(hU.inn s hs).1 x hx;exact ⟨this.1,by have:=this.2;omega⟩,fun x hx=>by have:=(hU.inn s hs).2 x hx;exact ⟨this.1,by have:=this.2;omega⟩⟩
 have hkey:∀ s∈U,AD s=some (keyS s):=fun s hs=>Ub (hlow s hs).1 (hlow s hs).2 (by have:=(hlen s hs).1;omega) (by have:=(hlen s hs).2;omega)
 have hlead:∀ s∈U,∃ r,AG t s=some r/\r.fails=(AS t s).1/\∀ x,x∈r.to_↔x∈(AS t s).2:=fun s hs=>Sh hO hN (hU.inn s hs) (by have:=(hlen s hs).1;omega) (by have:=(hlen s hs).2;omega)
 refine SC ⟨U,hU.mem,hU.len,fun s hs=>⟨_,hkey s hs⟩,fun s hs s' hs' h=>?_,fun s hs=>?_,?_⟩
 ·rw [hkey s hs,hkey s' hs'] at h
  exact Tz (hlow s hs).1 (hlow s hs).2 (hlow s' hs').1 (hlow s' hs').2 (Option.some.inj h)
 ·obtain ⟨r,h1,_,h3⟩:=hlead s hs
  exact ⟨r,h1,fun s' hs'=>hU.clo s hs s' ((h3 s').1 hs')⟩
 ·rw [decide_eq_true_eq,<- MW hO (hU.inn q hU.mem)]
  have hto:∀ s,Reach t q s->Rch t q s:=by
   intro s hs
   induction hs with
   | refl=>exact .refl
   | step _ h2 h3 ih =>
    obtain ⟨r,h4,_,h5⟩:=hlead _ (hU.rch ih);rw [h2] at h4;cases h4
    exact .step ih ((h5 _).1 h3)
  have hof:∀ s,Rch t q s->Reach t q s:=by
   intro s hs
   induction hs with
   | refl=>exact .refl
   | step h1 h2 ih =>
    obtain ⟨r,h4,_,h5⟩:=hlead _ (hU.rch h1);exact .step ih h4 ((h5 _).2 h2)
  constructor
  ·intro h s hs r hr
   obtain ⟨r',h4,h5,_⟩:=hlead s (hU.rch (hto s hs));rw [hr] at h4;cases h4
   rw [h5];exact h s (hto s hs)
  ·intro h s hs
   obtain ⟨r,h4,h5,_⟩:=hlead s (hU.rch hs);rw [<- h5];exact h s (hof s hs) r h4
theorem Ug {t:ATy} {A B:List Int} (hA:A.Pairwise (· < ·)) (hB:B.Pairwise (· < ·)) (kA:Kept t (· ∈ A)) (kB:Kept t (· ∈ B)) (hl:A.length+B.length<=38) {q:BSq} (hs:Srt q) (hq:InAB (· ∈ A) (· ∈ B) q):UOk t q (UAB A B++UAB B A):=by
 refine ⟨List.mem_append_left _ ((Dp hA hB).2 ⟨hs,hq⟩),fun s h=>?_,fun s h=>?_,fun s h s' h'=>?_,?_⟩
 ·rcases List.mem_append.1 h with h | h
  ·exact ((Dp hA hB).1 h).1
  ·exact ((Dp hB hA).1 h).1
 ·rcases List.mem_append.1 h with h | h
  ·have:=((Dp hA hB).1 h).2
   exact ⟨fun i hi=>kA.inn i (this.1 i hi),fun i hi=>kB.inn i (this.2 i hi)⟩
  ·have:=((Dp hB hA).1 h).2
   exact ⟨fun i hi=>kB.inn i (this.1 i hi),fun i hi=>kA.inn i (this.2 i hi)⟩
 ·rcases List.mem_append.1 h with h | h
  ·obtain ⟨h1,h2⟩:=(Dp hA hB).1 h
   rcases Hp kA kB h2 h' with h3 | h3
   ·exact List.mem_append_left _ ((Dp hA hB).2 ⟨GG h1 h',h3⟩)
   ·exact List.mem_append_right _ ((Dp hB hA).2 ⟨GG h1 h',h3⟩)
  ·obtain ⟨h1,h2⟩:=(Dp hB hA).1 h
   rcases Hp kB kA h2 h' with h3 | h3
   ·exact List.mem_append_right _ ((Dp hB hA).2 ⟨GG h1 h',h3⟩)
   ·exact List.mem_append_left _ ((Dp hA hB).2 ⟨GG h1 h',h3⟩)
 ·rw [List.length_append,KM,KM,Nat.add_comm B.length]
  have:=Nat.pow_le_pow_right (show 0<2 by omega) hl
  have:(2:Nat) ^ 38=274877906944:=by decide
  omega
def rngI (n:Nat):List Int:=(List.range n).map fun k:Nat=>(k:Int)
theorem mem_rngI {n:Nat} {x:Int}:x∈rngI n↔0<=x/\x<(n:Int):=by
 unfold rngI;rw [List.mem_map]
 constructor
 ·rintro ⟨k,hk,rfl⟩
  have:=List.mem_range.1 hk
  omega
 ·rintro ⟨h1,h2⟩
  exact ⟨x.toNat,List.mem_range.2 (by omega),by omega⟩
theorem Ks (n:Nat):(rngI n).Pairwise (· < ·):=by
 unfold rngI;rw [List.pairwise_map];exact (Oa n).imp (fun h=>by omega)
theorem Lc (n:Nat):(rngI n).length=n:=by unfold rngI;rw [List.length_map,List.length_range]
end Go.Proofs.YtkfnogdccpcmhaaGreatDoor
namespace Go.Proofs.YtkfnogdccpcmhaaGreatDoor
open Go.V
open Classical
structure Emb (s t:ATy) (f:Int->Int):Prop where
 node:∀ i,In s i->nd t (f i)=At f (nd s i)
theorem Gp (f:Int->Int) (n:ANd):(At f n).kind=n.kind:=rfl
theorem BT {f:Int->Int} {n:ANd} (h:n.kind=6\/n.kind=9\/n.kind=10):(At f n).a=f n.a/\(At f n).b=f n.b:=by
 unfold At pB
 rcases h with h | h | h <;> rw [h] <;> exact ⟨rfl,rfl⟩
theorem I8 {f:Int->Int} {n:ANd} (h:n.kind=11):(At f n).a=n.a:=by
 unfold At pB;rw [h];rfl
theorem Hw (f:Int->Int) (n:ANd) (s:List UInt8):atN (At f n) s=(atN n s).map f:=by
 unfold atN At;rw [List.find?_map]
 show Option.map _ (Option.map _ (n.l.find? fun x=>decide (x.name=s)))=_
 rw [Option.map_map,Option.map_map];rfl
theorem I9 {s t:ATy} {f:Int->Int} {S:Int->Prop} {D D':ANd->Prop} (hO:OkT s) (h:Emb s t f) (hD:∀ i,In s i->3<=(nd s i).kind->(nd s i).kind<=8->(D' (nd t (f i))↔D (nd s i))) :
  ∀ i,In s i->(La t S D' (f i)↔La s S D i):=by
 intro i hi
 constructor
 ·intro hla
  generalize hj:f i=j at hla
  induction hla generalizing i with
  | top h1=>subst hj;rw [h.node i hi] at h1;exact .top h1
  | inl h1 _ ih =>
   subst hj;rw [h.node i hi] at h1 ih
   have h1:(nd s i).kind=9:=h1
   exact .inl h1 (ih _ (hO.pair hi (.inr (.inl h1))).1 (BT (.inr (.inl h1))).1.symm)
  | inr h1 _ ih =>
   subst hj;rw [h.node i hi] at h1 ih
   have h1:(nd s i).kind=9:=h1
   exact .inr h1 (ih _ (hO.pair hi (.inr (.inl h1))).2 (BT (.inr (.inl h1))).2.symm)
  | both h1 _ _ ih1 ih2 =>
   subst hj;rw [h.node i hi] at h1 ih1 ih2
   have h1:(nd s i).kind=10:=h1
   exact .both h1 (ih1 _ (hO.pair hi (.inr (.inr h1))).1 (BT (.inr (.inr h1))).1.symm) (ih2 _ (hO.pair hi (.inr (.inr h1))).2 (BT (.inr (.inr h1))).2.symm)
  | var h1 h2 =>
   subst hj;rw [h.node i hi] at h1 h2
   have h1:(nd s i).kind=11:=h1
   rw [I8 h1] at h2;exact .var h1 h2
  | head h1 h2 h3 =>
   subst hj
   have h4:=h.node i hi
   rw [h4] at h1 h2;exact .head h1 h2 ((hD i hi h1 h2).1 h3)
 ·intro hla
  induction hla with
  | top h1=>exact .top (by rw [h.node _ hi];exact h1)
  | @inl i h1 _ ih =>
   have h4:=h.node i hi
   refine .inl (by rw [h4];exact h1) ?_;rw [h4,(BT (.inr (.inl h1))).1];exact ih (hO.pair hi (.inr (.inl h1))).1
  | @inr i h1 _ ih =>
   have h4:=h.node i hi
   refine .inr (by rw [h4];exact h1) ?_;rw [h4,(BT (.inr (.inl h1))).2];exact ih (hO.pair hi (.inr (.inl h1))).2
  | @both i h1 _ _ ih1 ih2 =>
   have h4:=h.node i hi
   refine .both (by rw [h4];exact h1) ?_ ?_
   ·rw [h4,(BT (.inr (.inr h1))).1]
    exact ih1 (hO.pair hi (.inr (.inr h1))).1
   ·rw [h4,(BT (.inr (.inr h1))).2]
    exact ih2 (hO.pair hi (.inr (.inr h1))).2
  | @var i h1 h2 =>
   have h4:=h.node i hi
   refine .var (by rw [h4];exact h1) ?_;rw [h4,I8 h1];exact h2
  | @head i h1 h2 h3 =>
   have h4:=h.node i hi
   exact .head (by rw [h4];exact h1) (by rw [h4];exact h2) ((hD i hi h1 h2).2 h3)
theorem Na {t:ATy} (hO:OkT t) {i k:Int} {s:List UInt8} (hi:In t i) (h:atN (nd t i) s=some k):In t k:=by
 obtain ⟨f,hf,_,rfl⟩:=NF h;exact hO.at_ hi hf
theorem Nu {s t:ATy} {f:Int->Int} (hO:OkT s) (h:Emb s t f):∀ (p:Pt) (i:Int),In s i->(Sat t p (f i)↔Sat s p i):=by
 intro p
 induction p with
 | tag S k =>
  refine I9 hO h fun i hi h1 h2=>?_;rw [h.node i hi];exact Iff.rfl
 | dom S q ih =>
  refine I9 hO h fun i hi h1 h2=>?_;rw [h.node i hi]
  show ((nd s i).kind=6/\¬ Sat t q (At f (nd s i)).a)↔((nd s i).kind=6/\¬ Sat s q (nd s i).a)
  refine and_congr_right fun h6=>?_;rw [(BT (.inl h6)).1,ih _ (hO.pair hi (.inl h6)).1]
 | cod S q ih =>
  refine I9 hO h fun i hi h1 h2=>?_;rw [h.node i hi]
  show ((nd s i).kind=6/\Sat t q (At f (nd s i)).b)↔((nd s i).kind=6/\Sat s q (nd s i).b)
  refine and_congr_right fun h6=>?_;rw [(BT (.inl h6)).2,ih _ (hO.pair hi (.inl h6)).2]
 | absent S n =>
  refine I9 hO h fun i hi h1 h2=>?_;rw [h.node i hi]
  show ((nd s i).kind=7/\atN (At f (nd s i)) n=none)↔((nd s i).kind=7/\atN (nd s i) n=none)
  rw [Hw,Option.map_eq_none_iff]
 | field S n q ih =>
  refine I9 hO h fun i hi h1 h2=>?_;rw [h.node i hi]
  show ((nd s i).kind=7/\∀ k,atN (At f (nd s i)) n=some k->Sat t q k)↔((nd s i).kind=7/\∀ k,atN (nd s i) n=some k->Sat s q k)
  rw [Hw]
  cases hq:atN (nd s i) n with
  | none=>simp
  | some k =>
   simp only [Option.map_some,Option.some.injEq,forall_eq'];rw [ih k (Na hO hi hq)]
 | hasc S n =>
  refine I9 hO h fun i hi h1 h2=>?_;rw [h.node i hi]
  show ((nd s i).kind=8/\atN (At f (nd s i)) n≠none)↔((nd s i).kind=8/\atN (nd s i) n≠none)
  rw [Hw,ne_eq,Option.map_eq_none_iff]
 | case S n q ih =>
  refine I9 hO h fun i hi h1 h2=>?_;rw [h.node i hi]
  show ((nd s i).kind=8/\∃ k,atN (At f (nd s i)) n=some k/\Sat t q k)↔((nd s i).kind=8/\∃ k,atN (nd s i) n=some k/\Sat s q k)
  rw [Hw]
  cases hq:atN (nd s i) n with
  | none=>simp
  | some k =>
   simp only [Option.map_some,Option.some.injEq,exists_eq_left'];rw [ih k (Na hO hi hq)]
theorem Rk {all all':Int} (hle:all<=all') {l:List Int} (h:¬ ∃ k∈l,inB all k=true):¬ ∃ k∈l,inB all' k=true:=by
 rintro ⟨k,hk,h2⟩;refine h ⟨k,hk,?_⟩;unfold inB at h2 ⊢;simp only [Bool.or_eq_true,decide_eq_true_eq] at h2 ⊢
 omega
theorem LH {n:ANd} {all all':Int} (h:Bn n all=true) (hle:all<=all'):Bn n all'=true:=by
 unfold Bn at h ⊢;rw [Bool.and_eq_true,Bool.and_eq_true,Bool.and_eq_true,Bool.and_eq_true,Bool.and_eq_true] at h ⊢;obtain ⟨h1,h2,h3,h4,h5,h6⟩:=h;refine ⟨h1,h2,h3,h4,h5,?_⟩;rw [Bool.not_eq_true',decide_eq_false_iff_not] at h6 ⊢;exact Rk hle h6
theorem Oz {n:ANd} {f:Int->Int} (h:ER n):ER (At f n):=by
 intro i x hx
 have hx:(n.l.map fun x=>(⟨x.name,f x.at_⟩:AFd))[i]? = some x:=hx
 rw [List.getElem?_map] at hx
 cases hq:n.l[i]? with
 | none=>rw [hq] at hx;cases hx
 | some z =>
  rw [hq] at hx;cases hx
  obtain ⟨h1,h2⟩:=h i z hq;refine ⟨h1,fun h0 y hy=>?_⟩
  have hy:(n.l.map fun x=>(⟨x.name,f x.at_⟩:AFd))[i - 1]? = some y:=hy
  rw [List.getElem?_map] at hy
  cases hq2:n.l[i - 1]? with
  | none=>rw [hq2] at hy;cases hy
  | some z2=>rw [hq2] at hy;cases hy;exact h2 h0 z2 hq2
theorem PG {n:ANd} {f:Int->Int}:kidsL (At f n)=(kidsL n).map f:=by
 unfold kidsL;rw [Gp]
 cases hp:pB n.kind
 ·cases wB n.kind
  ·rfl
  ·unfold At;simp only [cF_,cT,List.map_map];rfl
 ·unfold At;simp only [cT,hp,List.map_cons,List.map_nil]
theorem OI {n:ANd} {all all':Int} {f:Int->Int} (h:Bn n all=true) (hf:∀ k,0<=k->k<all->0<=f k/\f k<all'):Bn (At f n) all'=true:=by
 have hk:=JI h
 unfold Bn at h ⊢;rw [Bool.and_eq_true,Bool.and_eq_true,Bool.and_eq_true,Bool.and_eq_true,Bool.and_eq_true] at h ⊢;obtain ⟨h1,h2,h3,h4,h5,h6⟩:=h;refine ⟨h1,?_,?_,?_,?_,?_⟩
 ·rw [Gp]
  cases hp:pB n.kind with
  | true=>rfl
  | false =>
   rw [hp] at h2;unfold At;rw [hp];exact h2
 ·rw [Gp]
  by_cases h11:n.kind=11
  ·rw [I8 h11];exact h3
  ·rw [dF h11];rfl
 ·unfold At;simp only [List.length_map];exact h4
 ·rw [Bool.and_eq_true,decide_eq_true_eq] at h5 ⊢
  exact ⟨Oz h5.1,by unfold At;simp only [List.length_map];exact h5.2⟩
 ·rw [Bool.not_eq_true',decide_eq_false_iff_not,PG]
  rintro ⟨k,hk1,hk2⟩;obtain ⟨k0,hk0,rfl⟩:=List.mem_map.1 hk1
  have:=hk k0 hk0
  have:=hf k0 this.1 this.2
  unfold inB at hk2;simp only [Bool.or_eq_true,decide_eq_true_eq] at hk2
  omega
theorem II {A B:List ANd} (hA:InL A):∀ (k i:Nat),i<A.length->endk A k i=true->endk (A++B) k i=true
 | 0,_,_,h=>by cases h
 | k+1,i,hi,h=>by
  unfold endk at h ⊢;rw [List.getElem?_append_left hi]
  have hx:A[i]? = some A[i]:=List.getElem?_eq_getElem hi
  rw [hx] at h ⊢
  simp only at h ⊢
  cases hl:latB A[i].kind with
  | false=>rfl
  | true =>
   rw [hl] at h
   have hk:=Fj hl
   have h1:=hA _ (List.getElem_mem hi) A[i].a (by rw [hk];simp)
   have h2:=hA _ (List.getElem_mem hi) A[i].b (by rw [hk];simp)
   simp only [Bool.not_true,Bool.false_or,Bool.and_eq_true] at h ⊢;exact ⟨II hA k _ (by omega) h.1,II hA k _ (by omega) h.2⟩
theorem Jb {A B:List ANd} (hB:InL B):∀ (k i:Nat),i<B.length->endk B k i=true->endk (A++B.map (At (· + (A.length:Int)))) k (i+A.length)=true
 | 0,_,_,h=>by cases h
 | k+1,i,hi,h=>by
  unfold endk at h ⊢;rw [List.getElem?_append_right (by omega),Nat.add_sub_cancel,List.getElem?_map]
  have hx:B[i]? = some B[i]:=List.getElem?_eq_getElem hi
  rw [hx] at h ⊢;simp only [Option.map_some,Gp] at h ⊢
  cases hl:latB B[i].kind with
  | false=>rfl
  | true =>
   rw [hl] at h
   have hk:=Fj hl
   have h1:=hB _ (List.getElem_mem hi) B[i].a (by rw [hk];simp)
   have h2:=hB _ (List.getElem_mem hi) B[i].b (by rw [hk];simp)
   have hab:=BT (f:=(· + (A.length:Int))) (n:=B[i]) (.inr (D7 hl))
   simp only [Bool.not_true,Bool.false_or,Bool.and_eq_true] at h ⊢;rw [hab.1,hab.2,show (B[i].a+(A.length:Int)).toNat=B[i].a.toNat+A.length by omega,show (B[i].b+(A.length:Int)).toNat=B[i].b.toNat+A.length by omega];exact ⟨Jb hB k _ (by omega) h.1,Jb hB k _ (by omega) h.2⟩
end Go.Proofs.YtkfnogdccpcmhaaGreatDoor
namespace Go.Proofs.YtkfnogdccpcmhaaGreatDoor
open Go.V
open Classical
theorem QV (n:ANd):At (fun k=>k) n=n:=by
 unfold At;rw [Bool.cond_self,Bool.cond_self]
 have:n.l.map (fun x=>(⟨x.name,x.at_⟩:AFd))=n.l:=by
  conv=>rhs;rw [<- List.map_id n.l]
  rfl
 rw [this]
theorem N7 {a t:ATy} {X:List ANd} (h:t.l=a.l++X):Emb a t (fun k=>k):=⟨fun i hi=>by
 rw [QV]
 have hil:i.toNat<a.l.length:=by have:=hi.1;have:=hi.2;omega
 unfold nd;rw [h,List.getElem?_append_left hil]⟩
theorem QH {a b t:ATy} {X:List ANd} (h:t.l=a.l++b.l.map (At (fun k=>k+(a.l.length:Int)))++X):Emb b t (fun k=>k+(a.l.length:Int)):=⟨fun i hi=>by
 have hil:i.toNat<b.l.length:=by have:=hi.1;have:=hi.2;omega
 have h1:=LZ hi
 have e:(i+(a.l.length:Int)).toNat=a.l.length+i.toNat:=by have:=hi.1;omega
 show (t.l[(i+(a.l.length:Int)).toNat]?).getD ⟨0,0,0,[]⟩=_
 rw [h,e,List.getElem?_append_left (by rw [List.length_append,List.length_map];omega),List.getElem?_append_right (by omega),Nat.add_sub_cancel_left,List.getElem?_map,h1]
 rfl⟩
theorem Lr {s t:ATy} {f:Int->Int} (hO:OkT s) (h:Emb s t f) (hin:∀ i,In s i->In t (f i)):Kept t (fun x=>∃ i,In s i/\f i=x):=by
 refine ⟨?_,?_,?_⟩
 ·rintro _ ⟨i,hi,rfl⟩;exact hin i hi
 ·rintro _ ⟨i,hi,rfl⟩ hk
  rw [h.node i hi] at hk ⊢;obtain ⟨e1,e2⟩:=BT (f:=f) (n:=nd s i) hk;rw [e1,e2];obtain ⟨h1,h2⟩:=hO.pair hi hk;exact ⟨⟨_,h1,rfl⟩,⟨_,h2,rfl⟩⟩
 ·rintro _ ⟨i,hi,rfl⟩ g hg
  rw [h.node i hi] at hg;obtain ⟨g0,hg0,rfl⟩:=List.mem_map.1 hg;exact ⟨_,hO.at_ hi hg0,rfl⟩
theorem Kept.congr {t:ATy} {A B:Int->Prop} (h:Kept t A) (he:∀ x,A x↔B x):Kept t B:=by
 have:A=B:=funext fun x=>propext (he x)
 rw [<- this];exact h
theorem ED (a b:ATy):(AM a b).l.length=a.l.length+b.l.length:=by unfold AM;rw [List.length_append,List.length_map]
theorem Jp {a b:ATy} (ha:OkT a) (hb:OkT b):OkT (AM a b):=by
 refine ⟨fun n hn=>?_,fun i hi=>?_⟩
 ·rw [ED]
  unfold AM at hn
  rcases List.mem_append.1 hn with hn | hn
  ·exact LH (ha.right n hn) (by omega)
  ·obtain ⟨m,hm,rfl⟩:=List.mem_map.1 hn
   exact OI (hb.right m hm) (fun k h1 h2=>by omega)
 ·rw [ED] at hi
  by_cases h:i<a.l.length
  ·obtain ⟨k,hk⟩:=ha.ends i h
   exact ⟨k,II (AI ha.right) k i h hk⟩
  ·obtain ⟨k,hk⟩:=hb.ends (i - a.l.length) (by omega)
   have:=Jb (A:=a.l) (AI hb.right) k (i - a.l.length) (by omega) hk
   rw [Nat.sub_add_cancel (by omega)] at this;exact ⟨k,this⟩
def Sub (a b:ATy):Prop:=∀ p,Sat a p a.root->Sat b p b.root
structure MayO (a:ATy):Prop where
 may:mayT a.l a.root=0
 nb:∀ n∈a.l,NB n
theorem MayO.ok {a:ATy} (h:MayO a):OkT a:=⟨(Ev h.may).2.2.2.2.1,(Ev h.may).2.2.2.2.2⟩
theorem MayO.root {a:ATy} (h:MayO a):In a a.root:=⟨(Ev h.may).2.2.1,(Ev h.may).2.2.2.1⟩
theorem D2 {a b:ATy} {i:Int} (h:In a i):In (AM a b) i:=⟨h.1,by rw [ED];have:=h.2;omega⟩
theorem E9 {a b:ATy} {i:Int} (h:In b i):In (AM a b) (i+(a.l.length:Int)):=⟨by have:=h.1;omega,by rw [ED];have:=h.2;omega⟩
theorem GJ (a b:ATy):Emb a (AM a b) (fun k=>k):=N7 (X:=b.l.map (At (fun k=>k+(a.l.length:Int)))) rfl
theorem H5 (a b:ATy):Emb b (AM a b) (fun k=>k+(a.l.length:Int)):=QH (X:=[]) (by rw [List.append_nil];rfl)
theorem Io {a b:ATy} (ha:MayO a) (hb:MayO b):Valid (AM a b) ⟨[a.root],[b.root+(a.l.length:Int)]⟩↔Sub a b:=by
 have h1:∀ p,Sat (AM a b) p a.root↔Sat a p a.root:=fun p=>Nu ha.ok (GJ a b) p a.root ha.root
 have h2:∀ p,Sat (AM a b) p (b.root+(a.l.length:Int))↔Sat b p b.root:=fun p=>Nu hb.ok (H5 a b) p b.root hb.root
 constructor
 ·intro h p hp
  refine Classical.byContradiction fun hn=>h p ⟨fun i hi=>?_,fun i hi=>?_⟩
  ·rw [List.mem_singleton] at hi;subst hi;exact (h1 p).2 hp
  ·rw [List.mem_singleton] at hi;subst hi;exact fun h3=>hn ((h2 p).1 h3)
 ·intro h p hp
  exact hp.2 _ (by simp) ((h2 p).2 (h p ((h1 p).1 (hp.1 _ (by simp)))))
theorem L9 (n m:Nat):((rngI n).map (fun k=>k+(m:Int))).Pairwise (· < ·):=by
 rw [List.pairwise_map];exact (Ks n).imp (fun h=>by omega)
theorem JU {a b:ATy} (ha:∀ n∈a.l,NB n) (hb:∀ n∈b.l,NB n):∀ n∈(AM a b).l,NB n:=Q9 ha hb
theorem PO {a b:ATy} (ha:MayO a) (hb:MayO b) (hl:a.l.length+b.l.length<=38):∃ U,UOk (AM a b) ⟨[a.root],[b.root+(a.l.length:Int)]⟩ U:=by
 have kA:Kept (AM a b) (· ∈ rngI a.l.length):=(Lr ha.ok (GJ a b) (fun i hi=>D2 hi)).congr (fun x=>by
  rw [mem_rngI]
  constructor
  ·rintro ⟨i,hi,rfl⟩;exact hi
  ·intro h;exact ⟨x,h,rfl⟩)
 have kB:Kept (AM a b) (· ∈ (rngI b.l.length).map (fun k=>k+(a.l.length:Int))):=(Lr hb.ok (H5 a b) (fun i hi=>E9 hi)).congr (fun x=>by
  rw [List.mem_map]
  constructor
  ·rintro ⟨i,hi,rfl⟩;exact ⟨i,mem_rngI.2 hi,rfl⟩
  ·rintro ⟨i,hi,rfl⟩;exact ⟨i,mem_rngI.1 hi,rfl⟩)
 refine ⟨_,Ug (Ks _) (L9 _ _) kA kB (by rw [List.length_map,Lc,Lc];exact hl) ⟨by simp,by simp⟩ ⟨fun i hi=>?_,fun i hi=>?_⟩⟩
 ·rw [List.mem_singleton] at hi;subst hi;exact mem_rngI.2 ha.root
 ·rw [List.mem_singleton] at hi;subst hi;exact List.mem_map.2 ⟨b.root,mem_rngI.2 hb.root,rfl⟩
theorem RC {a b:ATy} {U:List BSq} (ha:MayO a) (hb:MayO b) (hl:a.l.length+b.l.length<=99) (hU:UOk (AM a b) ⟨[a.root],[b.root+(a.l.length:Int)]⟩ U):CW a b=some (decide (Sub a b)):=by
 unfold CW
 have hr:=hb.root
 rw [Ss a b (by omega) (by omega) hb.nb hb.ok.right,oB]
 simp only
 rw [Ab (by have:=hr.1;have:=hr.2;constructor <;> omega)];rw [show (⟨(AM a b).l,(AM a b).root⟩:ATy)=AM a b from rfl,Rr (Jp ha.ok hb.ok) (JU ha.nb hb.nb) (by rw [ED];exact hl) hU,oB]
 congr 1
 exact decide_eq_decide.2 (Io ha hb)
theorem Ow {a b:ATy} (ha:MayO a) (hb:MayO b) (hl:a.l.length+b.l.length<=38):CW a b=some (decide (Sub a b)):=by
 obtain ⟨U,hU⟩:=PO ha hb hl;exact RC ha hb (by omega) hU
theorem S4 {a b:ATy} (ha:a.l.length<=2001) (hb:b.l.length<=2001) (hNa:∀ n∈a.l,NB n) (hNb:∀ n∈b.l,NB n):Fk a b=some (if mayT a.l a.root=0 then mayT b.l b.root else mayT a.l a.root):=by
 unfold Fk;rw [Le a ha hNa,oB]
 by_cases h:mayT a.l a.root=0
 ·rw [dT h,Bool.not_true,cF_,Le b hb hNb,if_pos h];rfl
 ·rw [dF h,Bool.not_false,cT,if_neg h]
def isTag (p:Pt) (k:Int):Prop:=match p with
 | .tag _ k'=>k=k'
 | _=>False
theorem S0 {t:ATy} {p:Pt} {x:ANd} {k:Int} (hx:x.kind=k) (hk:3<=k/\k<=5):hdP t p x↔isTag p k:=by
 cases p with
 | tag S k' =>
  show (x.kind=k'/\k'≠8)↔k=k'
  rw [hx];exact ⟨fun h=>h.1,fun h=>⟨h,by omega⟩⟩
 | dom S q=>exact ⟨fun h=>by have:=h.1;omega,fun h=>h.elim⟩
 | cod S q=>exact ⟨fun h=>by have:=h.1;omega,fun h=>h.elim⟩
 | absent S q=>exact ⟨fun h=>by have:=h.1;omega,fun h=>h.elim⟩
 | field S s q=>exact ⟨fun h=>by have:=h.1;omega,fun h=>h.elim⟩
 | hasc S q=>exact ⟨fun h=>by have:=h.1;omega,fun h=>h.elim⟩
 | case S s q=>exact ⟨fun h=>by have:=h.1;omega,fun h=>h.elim⟩
theorem Fm {t:ATy} {p:Pt} {i k:Int} (hx:(nd t i).kind=k) (hk:3<=k/\k<=5):Sat t p i↔isTag p k:=(FB (by omega) (by omega)).trans (S0 hx hk)
theorem OM {t:ATy} {p:Pt} {x:ANd} (hx:x.kind=6):hdP t p x↔(match p with
  | .tag _ k=>k=6
  | .dom _ q=>¬ Sat t q x.a
  | .cod _ q=>Sat t q x.b
  | _=>False):=by
 cases p with
 | tag S k =>
  show (x.kind=k/\k≠8)↔k=6
  rw [hx];exact ⟨fun h=>h.1.symm,fun h=>⟨h.symm,by omega⟩⟩
 | dom S q=>exact ⟨fun h=>h.2,fun h=>⟨hx,h⟩⟩
 | cod S q=>exact ⟨fun h=>h.2,fun h=>⟨hx,h⟩⟩
 | absent S q=>exact ⟨fun h=>by have:=h.1;omega,fun h=>h.elim⟩
 | field S s q=>exact ⟨fun h=>by have:=h.1;omega,fun h=>h.elim⟩
 | hasc S q=>exact ⟨fun h=>by have:=h.1;omega,fun h=>h.elim⟩
 | case S s q=>exact ⟨fun h=>by have:=h.1;omega,fun h=>h.elim⟩
def leafT (k:Int):ATy:=⟨[⟨k,0,0,[]⟩],0⟩
theorem Se {t:ATy} (hlen:t.l.length<=2001) (hN:∀ n∈t.l,NB n) (h:Bp t=some 0):MayO t:=⟨by rw [Le t hlen hN] at h;exact Option.some.inj h,hN⟩
end Go.Proofs.YtkfnogdccpcmhaaGreatDoor
namespace Go.Proofs.YtkfnogdccpcmhaaGreatDoor
open Go.V
open Classical
theorem Hl {t:ATy} {q s:BSq} (hs:s∈(AS t q).2) :
  (∃ i rest M,latB (nd t i).kind=true/\q.left.Perm (i::rest)/\s=⟨cs (rest++M),q.right⟩/\(((nd t i).kind=10/\M=[(nd t i).a,(nd t i).b])\/((nd t i).kind=9/\(M=[(nd t i).a]\/M=[(nd t i).b])))) \/
  ((∀ i∈q.left,latB (nd t i).kind=false)/\∃ i rest M,latB (nd t i).kind=true/\q.right.Perm (i::rest)/\s=⟨q.left,cs (rest++M)⟩/\(((nd t i).kind=9/\M=[(nd t i).a,(nd t i).b])\/((nd t i).kind=10/\(M=[(nd t i).a]\/M=[(nd t i).b])))) \/
  ((∀ i∈q.left,latB (nd t i).kind=false)/\(∀ i∈q.right,latB (nd t i).kind=false)):=by
 unfold AS at hs
 split at hs
 ·cases hs
 ·cases hL:latA t q.left with
  | some x =>
   obtain ⟨n,rest⟩:=x
   left
   obtain ⟨i,rfl,hk,hp⟩:=C6 hL;unfold openA at hs;rw [hL] at hs
   simp only at hs
   by_cases h10:(nd t i).kind=10
   ·rw [if_pos h10,List.mem_singleton] at hs
    exact ⟨i,rest,_,hk,hp,hs,.inl ⟨h10,rfl⟩⟩
   ·rw [if_neg h10] at hs
    have h9:=(D7 hk).resolve_right h10
    simp only [List.mem_cons,List.not_mem_nil,or_false] at hs
    rcases hs with h | h
    ·exact ⟨i,rest,_,hk,hp,h,.inr ⟨h9,.inl rfl⟩⟩
    ·exact ⟨i,rest,_,hk,hp,h,.inr ⟨h9,.inr rfl⟩⟩
  | none =>
   cases hR:latA t q.right with
   | some x =>
    obtain ⟨n,rest⟩:=x
    right;left
    obtain ⟨i,rfl,hk,hp⟩:=C6 hR;unfold openA at hs;rw [hL,hR] at hs
    simp only at hs
    refine ⟨GT hL,?_⟩
    by_cases h9:(nd t i).kind=9
    ·rw [if_pos h9,List.mem_singleton] at hs
     exact ⟨i,rest,_,hk,hp,hs,.inl ⟨h9,rfl⟩⟩
    ·rw [if_neg h9] at hs
     have h10:=(D7 hk).resolve_left h9
     simp only [List.mem_cons,List.not_mem_nil,or_false] at hs
     rcases hs with h | h
     ·exact ⟨i,rest,_,hk,hp,h,.inr ⟨h10,.inl rfl⟩⟩
     ·exact ⟨i,rest,_,hk,hp,h,.inr ⟨h10,.inr rfl⟩⟩
   | none=>exact .inr (.inr ⟨GT hL,GT hR⟩)
theorem Kept.or {t:ATy} {A B:Int->Prop} (hA:Kept t A) (hB:Kept t B):Kept t (fun x=>A x\/B x):=by
 refine ⟨fun i h=>h.elim (hA.inn i) (hB.inn i),fun i h hk=>?_,fun i h f hf=>?_⟩
 ·rcases h with h | h
  ·exact ⟨.inl (hA.pair i h hk).1,.inl (hA.pair i h hk).2⟩
  ·exact ⟨.inr (hB.pair i h hk).1,.inr (hB.pair i h hk).2⟩
 ·rcases h with h | h
  ·exact .inl (hA.fld i h f hf)
  ·exact .inr (hB.fld i h f hf)
structure DistS (t:ATy) (r1 r2 j m1 m2:Int) (la lb lc ra rb rc rd:List Int):Prop where
 kla:Kept t (· ∈ la)
 klb:Kept t (· ∈ lb)
 klc:Kept t (· ∈ lc)
 kra:Kept t (· ∈ ra)
 krb:Kept t (· ∈ rb)
 krc:Kept t (· ∈ rc)
 krd:Kept t (· ∈ rd)
 i1:In t r1
 i2:In t r2
 ij:In t j
 im1:In t m1
 im2:In t m2
 r1k:(nd t r1).kind=10
 r1a:(nd t r1).a=j
 r1b:(nd t r1).b∈lc
 jk:(nd t j).kind=9
 ja:(nd t j).a∈la
 jb:(nd t j).b∈lb
 r2k:(nd t r2).kind=9
 r2a:(nd t r2).a=m1
 r2b:(nd t r2).b=m2
 m1k:(nd t m1).kind=10
 m1a:(nd t m1).a∈ra
 m1b:(nd t m1).b∈rc
 m2k:(nd t m2).kind=10
 m2a:(nd t m2).a∈rb
 m2b:(nd t m2).b∈rd
def dp (r2 m1 m2:Int) (ra rb rc rd L:List Int):List (List Int×List Int):=
 [(L,[r2]),(L,[m1,m2]),(L,m2::ra),(L,m2::rc),(L,m1::rb),(L,m1::rd),(L,ra++rb),(L,ra++rd),(L,rc++rb),(L,rc++rd),(ra++rb,L),(ra++rd,L),(rc++rb,L),(rc++rd,L)]
def dps (r1 r2 j m1 m2:Int) (la lb lc ra rb rc rd:List Int):List (List Int×List Int):=[([r1],[r2]),(j::lc,[r2])]++(dp r2 m1 m2 ra rb rc rd (la++lc)++dp r2 m1 m2 ra rb rc rd (lb++lc))
def SubP (p:List Int×List Int) (s:BSq):Prop:=(∀ i∈s.left,i∈p.1)/\∀ i∈s.right,i∈p.2
theorem Hd {l rest:List Int} {i:Int} (hs:l.Pairwise (· < ·)) (hp:l.Perm (i::rest)):∀ x∈rest,x∈l/\x≠i:=by
 intro x hx
 have hn:l.Nodup:=hs.imp (fun h=>by omega)
 have hn2:=hp.nodup hn
 exact ⟨hp.mem_iff.2 (by simp [hx]),fun e=>by subst e;exact (List.nodup_cons.1 hn2).1 hx⟩
theorem F2 {rest M l:List Int} {P:Int->Prop} (h1:∀ x∈rest,P x) (h2:∀ x∈M,P x):∀ x∈cs (rest++M),P x:=fun x hx=>(List.mem_append.1 (mem_cs.1 hx)).elim (h1 x) (h2 x)
section
variable {t:ATy} {r1 r2 j m1 m2:Int} {la lb lc ra rb rc rd:List Int}
theorem DistS.left (h:DistS t r1 r2 j m1 m2 la lb lc ra rb rc rd) {L:List Int} (hL:Kept t (· ∈ L)) {q s:BSq} (hq:Srt q) {p:List Int} (hp:SubP (L,p) q) {i:Int} {rest M:List Int} (hk:latB (nd t i).kind=true) (hpm:q.left.Perm (i::rest)) (hs:s=⟨cs (rest++M),q.right⟩)
  (hM:((nd t i).kind=10/\M=[(nd t i).a,(nd t i).b])\/((nd t i).kind=9/\(M=[(nd t i).a]\/M=[(nd t i).b]))):SubP (L,p) s:=by
 subst hs
 have hi:i∈L:=hp.1 i (hpm.mem_iff.2 (by simp))
 have hab:=hL.pair i hi (.inr (D7 hk))
 refine ⟨F2 (l:=[]) (fun x hx=>hp.1 x (Hd hq.1 hpm x hx).1) (fun x hx=>?_),hp.2⟩
 rcases hM with ⟨_,rfl⟩ | ⟨_,rfl | rfl⟩
 ·simp at hx;rcases hx with rfl | rfl;exact hab.1;exact hab.2
 ·simp at hx;subst hx;exact hab.1
 ·simp at hx;subst hx;exact hab.2
theorem DistS.side (h:DistS t r1 r2 j m1 m2 la lb lc ra rb rc rd) {L:List Int} (hL:Kept t (· ∈ L)) {q s:BSq} (hq:Srt q) (hs:s∈(AS t q).2) {p:List Int×List Int} (hp:p∈dp r2 m1 m2 ra rb rc rd L) (hqp:SubP p q):∃ p'∈dp r2 m1 m2 ra rb rc rd L,SubP p' s:=by
 have kab:∀ {X Y:List Int},Kept t (· ∈ X)->Kept t (· ∈ Y)->Kept t (· ∈ X++Y):=fun hX hY=>(hX.or hY).congr (fun x=>List.mem_append.symm)
 have kAB:=kab h.kra h.krb
 have kAD:=kab h.kra h.krd
 have kCB:=kab h.krc h.krb
 have kCD:=kab h.krc h.krd
 have kk:∀ {X:List Int},Kept t (· ∈ X)->SubP (L,X) q->SubP (L,X) s\/SubP (X,L) s:=fun hX hq2=>Hp hL hX hq2 hs
 have kk':∀ {X:List Int},Kept t (· ∈ X)->SubP (X,L) q->SubP (X,L) s\/SubP (L,X) s:=fun hX hq2=>Hp hX hL hq2 hs
 have fin:∀ {X:List Int},Kept t (· ∈ X)->(L,X)∈dp r2 m1 m2 ra rb rc rd L->(X,L)∈dp r2 m1 m2 ra rb rc rd L->SubP (L,X) q->∃ p'∈dp r2 m1 m2 ra rb rc rd L,SubP p' s:=fun hX h1 h2 hq2=>(kk hX hq2).elim (fun h=>⟨_,h1,h⟩) (fun h=>⟨_,h2,h⟩)
 have fin':∀ {X:List Int},Kept t (· ∈ X)->(L,X)∈dp r2 m1 m2 ra rb rc rd L->(X,L)∈dp r2 m1 m2 ra rb rc rd L->SubP (X,L) q->∃ p'∈dp r2 m1 m2 ra rb rc rd L,SubP p' s:=fun hX h1 h2 hq2=>(kk' hX hq2).elim (fun h=>⟨_,h2,h⟩) (fun h=>⟨_,h1,h⟩)
 have mAB:(L,ra++rb)∈dp r2 m1 m2 ra rb rc rd L:=by simp [dp]
 have mAD:(L,ra++rd)∈dp r2 m1 m2 ra rb rc rd L:=by simp [dp]
 have mCB:(L,rc++rb)∈dp r2 m1 m2 ra rb rc rd L:=by simp [dp]
 have mCD:(L,rc++rd)∈dp r2 m1 m2 ra rb rc rd L:=by simp [dp]
 have nAB:(ra++rb,L)∈dp r2 m1 m2 ra rb rc rd L:=by simp [dp]
 have nAD:(ra++rd,L)∈dp r2 m1 m2 ra rb rc rd L:=by simp [dp]
 have nCB:(rc++rb,L)∈dp r2 m1 m2 ra rb rc rd L:=by simp [dp]
 have nCD:(rc++rd,L)∈dp r2 m1 m2 ra rb rc rd L:=by simp [dp]
 have lat9:latB (nd t r2).kind=true:=by rw [h.r2k];rfl
 have lat1:latB (nd t m1).kind=true:=by rw [h.m1k];rfl
 have lat2:latB (nd t m2).kind=true:=by rw [h.m2k];rfl
 have gen:∀ {R:List Int},(L,R)∈dp r2 m1 m2 ra rb rc rd L->SubP (L,R) q ->
   (∀ i rest M,latB (nd t i).kind=true->q.right.Perm (i::rest)->s=⟨q.left,cs (rest++M)⟩->(((nd t i).kind=9/\M=[(nd t i).a,(nd t i).b])\/((nd t i).kind=10/\(M=[(nd t i).a]\/M=[(nd t i).b])))->∃ p'∈dp r2 m1 m2 ra rb rc rd L,SubP p' s) ->
   ((∀ i∈q.right,latB (nd t i).kind=false)->∃ p'∈dp r2 m1 m2 ra rb rc rd L,SubP p' s)->∃ p'∈dp r2 m1 m2 ra rb rc rd L,SubP p' s:=by
  intro R hR hq2 h1 h2
  rcases Hl hs with ⟨i,rest,M,a1,a2,a3,a4⟩ | ⟨_,i,rest,M,a1,a2,a3,a4⟩ | ⟨_,a5⟩
  ·exact ⟨_,hR,h.left hL hq hq2 a1 a2 a3 a4⟩
  ·exact h1 i rest M a1 a2 a3 a4
  ·exact h2 a5
 have ins:∀ {R':List Int} {rest M:List Int},(L,R')∈dp r2 m1 m2 ra rb rc rd L->s=⟨q.left,cs (rest++M)⟩->(∀ i∈q.left,i∈L)->(∀ x∈rest,x∈R')->(∀ x∈M,x∈R')->∃ p'∈dp r2 m1 m2 ra rb rc rd L,SubP p' s:=by
  intro R' rest M h1 h2 h3 h4 h5
  subst h2;exact ⟨_,h1,h3,F2 (l:=[]) h4 h5⟩
 have one:∀ {m:Int} {X Y Z:List Int},Kept t (· ∈ X)->(nd t m).kind=10->(nd t m).a∈Y->(nd t m).b∈Z->(L,m::X)∈dp r2 m1 m2 ra rb rc rd L->SubP (L,m::X) q ->
   (∀ {rest M:List Int},s=⟨q.left,cs (rest++M)⟩->(∀ x∈rest,x∈X)->((∀ x∈M,x∈Y)\/∀ x∈M,x∈Z)->∃ p'∈dp r2 m1 m2 ra rb rc rd L,SubP p' s) ->
   (SubP (L,X) q->∃ p'∈dp r2 m1 m2 ra rb rc rd L,SubP p' s)->∃ p'∈dp r2 m1 m2 ra rb rc rd L,SubP p' s:=by
  intro m X Y Z hX hm ha hb hin hq2 h1 h2
  refine gen hin hq2 (fun i rest M a1 a2 a3 a4=>?_) (fun a5=>h2 ⟨hq2.1,fun x hx=>?_⟩)
  ·have hr:=Hd hq.2 a2
   have hi:=hq2.2 i (a2.mem_iff.2 (by simp))
   by_cases him:i=m
   ·subst him
    have hrX:∀ x∈rest,x∈X:=fun x hx=>(List.mem_cons.1 (hq2.2 x (hr x hx).1)).resolve_left (hr x hx).2
    rcases a4 with ⟨b1,_⟩ | ⟨_,rfl | rfl⟩
    ·omega
    ·exact h1 a3 hrX (.inl (by simpa using ha))
    ·exact h1 a3 hrX (.inr (by simpa using hb))
   ·have hiX:i∈X:=(List.mem_cons.1 hi).resolve_left him
    have hab:=hX.pair i hiX (.inr (D7 a1))
    refine ins hin a3 hq2.1 (fun x hx=>hq2.2 x (hr x hx).1) (fun x hx=>?_)
    rcases a4 with ⟨_,rfl⟩ | ⟨_,rfl | rfl⟩
    ·simp at hx;rcases hx with rfl | rfl
     ·exact List.mem_cons_of_mem _ hab.1
     ·exact List.mem_cons_of_mem _ hab.2
    ·simp at hx;subst hx;exact List.mem_cons_of_mem _ hab.1
    ·simp at hx;subst hx;exact List.mem_cons_of_mem _ hab.2
  ·rcases List.mem_cons.1 (hq2.2 x hx) with e | e
   ·subst e
    have:=a5 _ hx
    rw [hm] at this;cases this
   ·exact e
 have sL:∀ {X Y:List Int},SubP (L,X) q->SubP (L,X++Y) q:=fun h=>⟨h.1,fun x hx=>List.mem_append_left _ (h.2 x hx)⟩
 have sR:∀ {X Y:List Int},SubP (L,Y) q->SubP (L,X++Y) q:=fun h=>⟨h.1,fun x hx=>List.mem_append_right _ (h.2 x hx)⟩
 have al:∀ {X Y rest:List Int},(∀ x∈rest,x∈X)->∀ x∈rest,x∈X++Y:=fun h x hx=>List.mem_append_left _ (h x hx)
 have ar:∀ {X Y rest:List Int},(∀ x∈rest,x∈Y)->∀ x∈rest,x∈X++Y:=fun h x hx=>List.mem_append_right _ (h x hx)
 unfold dp at hp;simp only [List.mem_cons,List.not_mem_nil,or_false] at hp
 rcases hp with rfl | rfl | rfl | rfl | rfl | rfl | rfl | rfl | rfl | rfl | rfl | rfl | rfl | rfl
 ·
  refine gen (R:=[r2]) (by simp [dp]) hqp (fun i rest M a1 a2 a3 a4=>?_) (fun a5=>?_)
  ·have hr:=Hd hq.2 a2
   have hi:i=r2:=by simpa using hqp.2 i (a2.mem_iff.2 (by simp))
   subst hi;refine ins (R':=[m1,m2]) (by simp [dp]) a3 hqp.1 (fun x hx=>absurd (by simpa using hqp.2 x (hr x hx).1) (hr x hx).2) (fun x hx=>?_)
   rcases a4 with ⟨_,rfl⟩ | ⟨b1,_⟩
   ·rw [h.r2a,h.r2b] at hx;exact hx
   ·rw [h.r2k] at b1;omega
  ·refine fin kAB mAB nAB ⟨hqp.1,fun x hx=>?_⟩
   have e:x=r2:=by simpa using hqp.2 x hx
   subst e
   have:=a5 _ hx;rw [lat9] at this;cases this
 ·
  refine gen (R:=[m1,m2]) (by simp [dp]) hqp (fun i rest M a1 a2 a3 a4=>?_) (fun a5=>?_)
  ·have hr:=Hd hq.2 a2
   have hi:i=m1\/i=m2:=by simpa using hqp.2 i (a2.mem_iff.2 (by simp))
   rcases hi with rfl | rfl
   ·have hrest:∀ x∈rest,x=m2:=fun x hx=>by
     have:x=i\/x=m2:=by simpa using hqp.2 x (hr x hx).1
     exact this.resolve_left (hr x hx).2
    rcases a4 with ⟨b1,_⟩ | ⟨_,rfl | rfl⟩
    ·rw [h.m1k] at b1;omega
    ·exact ins (R':=m2::ra) (by simp [dp]) a3 hqp.1 (fun x hx=>by rw [hrest x hx];simp) (fun x hx=>by simp at hx;subst hx;exact List.mem_cons_of_mem _ h.m1a)
    ·exact ins (R':=m2::rc) (by simp [dp]) a3 hqp.1 (fun x hx=>by rw [hrest x hx];simp) (fun x hx=>by simp at hx;subst hx;exact List.mem_cons_of_mem _ h.m1b)
   ·have hrest:∀ x∈rest,x=m1:=fun x hx=>by
     have:x=m1\/x=i:=by simpa using hqp.2 x (hr x hx).1
     exact this.resolve_right (hr x hx).2
    rcases a4 with ⟨b1,_⟩ | ⟨_,rfl | rfl⟩
    ·rw [h.m2k] at b1;omega
    ·exact ins (R':=m1::rb) (by simp [dp]) a3 hqp.1 (fun x hx=>by rw [hrest x hx];simp) (fun x hx=>by simp at hx;subst hx;exact List.mem_cons_of_mem _ h.m2a)
    ·exact ins (R':=m1::rd) (by simp [dp]) a3 hqp.1 (fun x hx=>by rw [hrest x hx];simp) (fun x hx=>by simp at hx;subst hx;exact List.mem_cons_of_mem _ h.m2b)
  ·refine fin kAB mAB nAB ⟨hqp.1,fun x hx=>?_⟩
   have e:x=m1\/x=m2:=by simpa using hqp.2 x hx
   rcases e with rfl | rfl
   ·have:=a5 _ hx;rw [lat1] at this;cases this
   ·have:=a5 _ hx;rw [lat2] at this;cases this
 ·exact one h.kra h.m2k h.m2a h.m2b (by simp [dp]) hqp (fun a3 hr hM=>hM.elim (fun hM=>ins mAB a3 hqp.1 (al hr) (ar hM)) (fun hM=>ins mAD a3 hqp.1 (al hr) (ar hM))) (fun hx=>fin kAB mAB nAB (sL hx))
 ·exact one h.krc h.m2k h.m2a h.m2b (by simp [dp]) hqp (fun a3 hr hM=>hM.elim (fun hM=>ins mCB a3 hqp.1 (al hr) (ar hM)) (fun hM=>ins mCD a3 hqp.1 (al hr) (ar hM))) (fun hx=>fin kCB mCB nCB (sL hx))
 ·exact one h.krb h.m1k h.m1a h.m1b (by simp [dp]) hqp (fun a3 hr hM=>hM.elim (fun hM=>ins mAB a3 hqp.1 (ar hr) (al hM)) (fun hM=>ins mCB a3 hqp.1 (ar hr) (al hM))) (fun hx=>fin kAB mAB nAB (sR hx))
 ·exact one h.krd h.m1k h.m1a h.m1b (by simp [dp]) hqp (fun a3 hr hM=>hM.elim (fun hM=>ins mAD a3 hqp.1 (ar hr) (al hM)) (fun hM=>ins mCD a3 hqp.1 (ar hr) (al hM))) (fun hx=>fin kAD mAD nAD (sR hx))
 ·exact fin kAB mAB nAB hqp
 ·exact fin kAD mAD nAD hqp
 ·exact fin kCB mCB nCB hqp
 ·exact fin kCD mCD nCD hqp
 ·exact fin' kAB mAB nAB hqp
 ·exact fin' kAD mAD nAD hqp
 ·exact fin' kCB mCB nCB hqp
 ·exact fin' kCD mCD nCD hqp
end
end Go.Proofs.YtkfnogdccpcmhaaGreatDoor
namespace Go.Proofs.YtkfnogdccpcmhaaGreatDoor
open Go.V
open Classical
theorem Po (a b:ATy) (ha:a.l.length<=4001) (hb:b.l.length<=2001) (hN:∀ n∈b.l,NB n) (hR:Bk b.l):DV a b=some ((a.l.length:Int),AM a b):=by
 unfold DV;rw [Ab (by omega),List.nil_append];rw [CI (φ:=fun n i s=>B1 a b n (i,a.root,s)) (l:=b.l) (At (fun k=>k+(a.l.length:Int))) (fun s=>(a.root,s)) a.l.length ?_ ?_ (by rw [FUv];omega) a.l rfl]
 ·rfl
 ·intro n i x s hx hi hs
  have hr:=FY (hR x (List.mem_of_getElem? hx))
  have hNx:=hN x (List.mem_of_getElem? hx)
  unfold NB at hNx
  have key:BD a x.l FU (0,[])=some (x.l.map (fun y=>⟨y.name,y.at_+(a.l.length:Int)⟩)):=by
   rw [CI (φ:=fun n i s=>BD a x.l n (i,s)) (l:=x.l) (fun y=>(⟨y.name,y.at_+(a.l.length:Int)⟩:AFd)) id 0 ?_ ?_ (by rw [FUv];omega) [] rfl]
   ·rfl
   ·intro n i y s hy hi hs
    obtain ⟨y0,y1⟩:=hr.2 y (List.mem_of_getElem? hy);simp only [BD];rw [dT (show (i:Int)<x.l.length by omega),cT,getI hy,oB,oB,Ab (by omega),Ab (by simp only [List.length_cons,List.length_nil];omega),Ab (by omega)]
   ·intro n s hs
    simp only [BD];rw [dF (by omega),cF_];rfl
  simp only [B1];rw [dT (show (i:Int)<b.l.length by omega),cT,getI hx,oB]
  change ((bif pB x.kind then _ else _:Option (Int×Int×Int×(List AFd))).bind _)=_
  unfold At
  cases hp:pB x.kind with
  | true =>
   obtain ⟨⟨a0,a1⟩,b0,b1⟩:=hr.1 hp;rw [cT,Ab (by omega),Ab (by omega),oB]
   dsimp only
   rw [key,oB,Ab (by simp only [List.length_cons,List.length_nil];omega),Ab (by omega)]
   rfl
  | false =>
   rw [cF_,oB]
   dsimp only
   rw [key,oB,Ab (by simp only [List.length_cons,List.length_nil];omega),Ab (by omega)]
   rfl
 ·intro n s hs
  simp only [B1];rw [dF (by omega),cF_]
section
variable {t:ATy} {r1 r2 j m1 m2:Int} {la lb lc ra rb rc rd:List Int}
theorem DistS.step (h:DistS t r1 r2 j m1 m2 la lb lc ra rb rc rd) {q s:BSq} (hq:Srt q) (hs:s∈(AS t q).2) {p:List Int×List Int} (hp:p∈dps r1 r2 j m1 m2 la lb lc ra rb rc rd) (hqp:SubP p q):∃ p'∈dps r1 r2 j m1 m2 la lb lc ra rb rc rd,SubP p' s:=by
 have kAC:Kept t (· ∈ la++lc):=(h.kla.or h.klc).congr (fun x=>List.mem_append.symm)
 have kBC:Kept t (· ∈ lb++lc):=(h.klb.or h.klc).congr (fun x=>List.mem_append.symm)
 have inA:∀ {p},p∈dp r2 m1 m2 ra rb rc rd (la++lc)->p∈dps r1 r2 j m1 m2 la lb lc ra rb rc rd:=fun h=>by unfold dps;exact List.mem_append_right _ (List.mem_append_left _ h)
 have inB:∀ {p},p∈dp r2 m1 m2 ra rb rc rd (lb++lc)->p∈dps r1 r2 j m1 m2 la lb lc ra rb rc rd:=fun h=>by unfold dps;exact List.mem_append_right _ (List.mem_append_right _ h)
 have lat1:latB (nd t r1).kind=true:=by rw [h.r1k];rfl
 have latj:latB (nd t j).kind=true:=by rw [h.jk];rfl
 have lat2:latB (nd t r2).kind=true:=by rw [h.r2k];rfl
 have right:∀ {L:List Int},(∀ p,p∈dp r2 m1 m2 ra rb rc rd L->p∈dps r1 r2 j m1 m2 la lb lc ra rb rc rd)->Kept t (· ∈ L)->SubP (L,[r2]) q->∃ p'∈dps r1 r2 j m1 m2 la lb lc ra rb rc rd,SubP p' s:=fun hin hL hq2=>by
  obtain ⟨p',h1,h2⟩:=h.side hL hq hs (p:=(_,[r2])) (by simp [dp]) hq2;exact ⟨p',hin _ h1,h2⟩
 unfold dps at hp;rw [List.mem_append,List.mem_append] at hp
 rcases hp with hp | hp | hp
 ·simp only [List.mem_cons,List.not_mem_nil,or_false] at hp
  rcases hp with rfl | rfl
  ·
   rcases Hl hs with ⟨i,rest,M,a1,a2,rfl,a4⟩ | ⟨a0,_⟩ | ⟨a0,_⟩
   ·have hr:=Hd hq.1 a2
    have hi:i=r1:=by simpa using hqp.1 i (a2.mem_iff.2 (by simp))
    subst hi;refine ⟨(j::lc,[r2]),by unfold dps;simp,F2 (l:=[]) (fun x hx=>absurd (by simpa using hqp.1 x (hr x hx).1) (hr x hx).2) (fun x hx=>?_),hqp.2⟩
    rcases a4 with ⟨_,rfl⟩ | ⟨b1,_⟩
    ·simp at hx;rcases hx with rfl | rfl
     ·rw [h.r1a];simp
     ·exact List.mem_cons_of_mem _ h.r1b
    ·rw [h.r1k] at b1;omega
   all_goals
    refine right (L:=la++lc) (fun _=>inA) kAC ⟨fun x hx=>?_,hqp.2⟩
    have e:x=r1:=by simpa using hqp.1 x hx
    subst e
    have:=a0 _ hx;rw [lat1] at this;cases this
  ·rcases Hl hs with ⟨i,rest,M,a1,a2,rfl,a4⟩ | ⟨a0,_⟩ | ⟨a0,_⟩
   ·have hr:=Hd hq.1 a2
    have hi:=hqp.1 i (a2.mem_iff.2 (by simp))
    by_cases hij:i=j
    ·subst hij
     have hrc:∀ x∈rest,x∈lc:=fun x hx=>(List.mem_cons.1 (hqp.1 x (hr x hx).1)).resolve_left (hr x hx).2
     rcases a4 with ⟨b1,_⟩ | ⟨_,rfl | rfl⟩
     ·rw [h.jk] at b1;omega
     ·exact ⟨(la++lc,[r2]),inA (by simp [dp]),F2 (l:=[]) (fun x hx=>List.mem_append_right _ (hrc x hx)) (fun x hx=>by simp at hx;subst hx;exact List.mem_append_left _ h.ja),hqp.2⟩
     ·exact ⟨(lb++lc,[r2]),inB (by simp [dp]),F2 (l:=[]) (fun x hx=>List.mem_append_right _ (hrc x hx)) (fun x hx=>by simp at hx;subst hx;exact List.mem_append_left _ h.jb),hqp.2⟩
    ·have hic:i∈lc:=(List.mem_cons.1 hi).resolve_left hij
     have hab:=h.klc.pair i hic (.inr (D7 a1))
     refine ⟨(j::lc,[r2]),by unfold dps;simp,F2 (l:=[]) (fun x hx=>hqp.1 x (hr x hx).1) (fun x hx=>?_),hqp.2⟩
     rcases a4 with ⟨_,rfl⟩ | ⟨_,rfl | rfl⟩
     ·simp at hx;rcases hx with rfl | rfl
      ·exact List.mem_cons_of_mem _ hab.1
      ·exact List.mem_cons_of_mem _ hab.2
     ·simp at hx;subst hx;exact List.mem_cons_of_mem _ hab.1
     ·simp at hx;subst hx;exact List.mem_cons_of_mem _ hab.2
   all_goals
    refine right (L:=la++lc) (fun _=>inA) kAC ⟨fun x hx=>?_,hqp.2⟩
    rcases List.mem_cons.1 (hqp.1 x hx) with e | e
    ·subst e
     have:=a0 _ hx;rw [latj] at this;cases this
    ·exact List.mem_append_right _ e
 ·obtain ⟨p',h1,h2⟩:=h.side kAC hq hs hp hqp
  exact ⟨p',inA h1,h2⟩
 ·obtain ⟨p',h1,h2⟩:=h.side kBC hq hs hp hqp
  exact ⟨p',inB h1,h2⟩
theorem I4:∀ (S U:List Int),S.Nodup->(∀ s∈S,s∈U)->S.length<=U.length
 | [],U,_,_=>Nat.zero_le _
 | a::S,U,hn,h=>by
  obtain ⟨h1,h2⟩:=List.nodup_cons.1 hn
  have ha:a∈U:=h a (by simp)
  have:=I4 S (U.erase a) h2 (fun s hs=>(List.mem_erase_of_ne (fun e=>h1 (by rw [<- e];exact hs))).2 (h s (by simp [hs])))
  rw [List.length_erase_of_mem ha] at this
  have:=List.length_pos_of_mem ha
  simp only [List.length_cons]
  omega
theorem M6 (l:List Int):(cs l).length<=l.length:=I4 (cs l) l ((A1 l).imp (fun h=>by omega)) (fun x hx=>mem_cs.1 hx)
theorem KR {α:Type} (f:α->List BSq) (c:Nat):∀ l:List α,(∀ x∈l,(f x).length<=c)->(l.flatMap f).length<=l.length*c
 | [],_=>by simp
 | x::l,h=>by
  have h1:=KR f c l (fun y hy=>h y (by simp [hy]))
  have h2:=h x (by simp)
  rw [List.flatMap_cons,List.length_append,List.length_cons,Nat.succ_mul];omega
theorem DistS.U (h:DistS t r1 r2 j m1 m2 la lb lc ra rb rc rd) (l1:la.length<=7) (l2:lb.length<=7) (l3:lc.length<=7) (l4:ra.length<=7) (l5:rb.length<=7) (l6:rc.length<=7) (l7:rd.length<=7):∃ U,UOk t ⟨[r1],[r2]⟩ U:=by
 have hmem:∀ s,s∈(dps r1 r2 j m1 m2 la lb lc ra rb rc rd).flatMap (fun p=>UAB (cs p.1) (cs p.2))↔Srt s/\∃ p∈dps r1 r2 j m1 m2 la lb lc ra rb rc rd,SubP p s:=by
  intro s
  rw [List.mem_flatMap]
  constructor
  ·rintro ⟨p,hp,hs⟩
   obtain ⟨a,b,c⟩:=(Dp (A1 _) (A1 _)).1 hs;exact ⟨a,p,hp,fun i hi=>mem_cs.1 (b i hi),fun i hi=>mem_cs.1 (c i hi)⟩
  ·rintro ⟨a,p,hp,b,c⟩
   exact ⟨p,hp,(Dp (A1 _) (A1 _)).2 ⟨a,fun i hi=>mem_cs.2 (b i hi),fun i hi=>mem_cs.2 (c i hi)⟩⟩
 have hin:∀ p∈dps r1 r2 j m1 m2 la lb lc ra rb rc rd,(∀ i∈p.1,In t i)/\(∀ i∈p.2,In t i)/\p.1.length+p.2.length<=28:=by
  have q1:=h.kla.inn;have q2:=h.klb.inn;have q3:=h.klc.inn;have q4:=h.kra.inn;have q5:=h.krb.inn;have q6:=h.krc.inn;have q7:=h.krd.inn
  have ap:∀ {X Y:List Int},(∀ i∈X,In t i)->(∀ i∈Y,In t i)->∀ i∈X++Y,In t i:=fun h1 h2 i hi=>(List.mem_append.1 hi).elim (h1 i) (h2 i)
  have co:∀ {x:Int} {Y:List Int},In t x->(∀ i∈Y,In t i)->∀ i∈x::Y,In t i:=fun h1 h2 i hi=>(List.mem_cons.1 hi).elim (fun e=>e▸h1) (h2 i)
  have ni:∀ i∈([]:List Int),In t i:=fun i hi=>by cases hi
  have hdp:∀ L:List Int,(∀ i∈L,In t i)->L.length<=14->∀ p∈dp r2 m1 m2 ra rb rc rd L,(∀ i∈p.1,In t i)/\(∀ i∈p.2,In t i)/\p.1.length+p.2.length<=28:=by
   intro L hL hl p hp
   unfold dp at hp;simp only [List.mem_cons,List.not_mem_nil,or_false] at hp
   rcases hp with rfl | rfl | rfl | rfl | rfl | rfl | rfl | rfl | rfl | rfl | rfl | rfl | rfl | rfl
   ·exact ⟨hL,co h.i2 ni,by simp;omega⟩
   ·exact ⟨hL,co h.im1 (co h.im2 ni),by simp;omega⟩
   ·exact ⟨hL,co h.im2 q4,by simp;omega⟩
   ·exact ⟨hL,co h.im2 q6,by simp;omega⟩
   ·exact ⟨hL,co h.im1 q5,by simp;omega⟩
   ·exact ⟨hL,co h.im1 q7,by simp;omega⟩
   ·exact ⟨hL,ap q4 q5,by simp;omega⟩
   ·exact ⟨hL,ap q4 q7,by simp;omega⟩
   ·exact ⟨hL,ap q6 q5,by simp;omega⟩
   ·exact ⟨hL,ap q6 q7,by simp;omega⟩
   ·exact ⟨ap q4 q5,hL,by simp;omega⟩
   ·exact ⟨ap q4 q7,hL,by simp;omega⟩
   ·exact ⟨ap q6 q5,hL,by simp;omega⟩
   ·exact ⟨ap q6 q7,hL,by simp;omega⟩
  intro p hp
  unfold dps at hp;rw [List.mem_append,List.mem_append] at hp
  rcases hp with hp | hp | hp
  ·simp only [List.mem_cons,List.not_mem_nil,or_false] at hp
   rcases hp with rfl | rfl
   ·exact ⟨co h.i1 ni,co h.i2 ni,by simp⟩
   ·exact ⟨co h.ij q3,co h.i2 ni,by simp;omega⟩
  ·exact hdp _ (ap q1 q3) (by rw [List.length_append];omega) p hp
  ·exact hdp _ (ap q2 q3) (by rw [List.length_append];omega) p hp
 refine ⟨_,(hmem _).2 ⟨(⟨by simp,by simp⟩:Srt ⟨[r1],[r2]⟩),([r1],[r2]),by unfold dps;simp,fun i hi=>hi,fun i hi=>hi⟩,fun s hs=>((hmem s).1 hs).1,fun s hs=>?_,fun s hs s' hs'=>?_,?_⟩
 ·obtain ⟨_,p,hp,a,b⟩:=(hmem s).1 hs
  obtain ⟨c,d,_⟩:=hin p hp;exact ⟨fun i hi=>c i (a i hi),fun i hi=>d i (b i hi)⟩
 ·obtain ⟨a,p,hp,b⟩:=(hmem s).1 hs
  exact (hmem s').2 ⟨GG a hs',h.step a hs' hp b⟩
 ·refine Nat.le_trans (KR _ (2 ^ 28) _ fun p hp=>?_) (by show 30*2 ^ 28<=_;decide)
  obtain ⟨_,_,e⟩:=hin p hp;rw [KM]
  have:=M6 p.1
  have:=M6 p.2
  exact Nat.pow_le_pow_right (by omega) (by omega)
end
end Go.Proofs.YtkfnogdccpcmhaaGreatDoor
namespace Go.Proofs.YtkfnogdccpcmhaaGreatDoor
open Go.V
open Classical
theorem Ok (f g:Int->Int) (n:ANd):At g (At f n)=At (fun x=>g (f x)) n:=by
 unfold At;simp only [List.map_map]
 congr 1
 ·cases pB n.kind <;> rfl
 ·cases pB n.kind <;> rfl
theorem Emb.comp {s t u:ATy} {f g:Int->Int} (h1:Emb s t f) (h2:Emb t u g) (hin:∀ i,In s i->In t (f i)):Emb s u (fun x=>g (f x)):=⟨fun i hi=>by
 rw [h2.node _ (hin i hi),h1.node i hi,Ok]⟩
theorem JF {s t:ATy} {f:Int->Int} (hO:OkT s) (h:Emb s t f) (hin:∀ i,In s i->In t (f i)):Kept t (· ∈ (rngI s.l.length).map f):=(Lr hO h hin).congr (fun x=>by
 rw [List.mem_map]
 constructor
 ·rintro ⟨i,hi,rfl⟩;exact ⟨i,mem_rngI.2 hi,rfl⟩
 ·rintro ⟨i,hi,rfl⟩;exact ⟨i,mem_rngI.1 hi,rfl⟩)
theorem Jo {s:ATy} (h:In s s.root) (f:Int->Int):f s.root∈(rngI s.l.length).map f:=List.mem_map.2 ⟨_,mem_rngI.2 h,rfl⟩
theorem Qe (s:ATy) (f:Int->Int):((rngI s.l.length).map f).length=s.l.length:=by rw [List.length_map,Lc]
end Go.Proofs.YtkfnogdccpcmhaaGreatDoor
namespace Go.Proofs.YtkfnogdccpcmhaaGreatDoor
open Go.V
open Classical
theorem setl2 {l1 l3:List Int} {i:Nat} {v:Int} (hv:l1[i]? = some v) (h3:l3.length<=1000000):∃ k:Nat,DR l1 (i:Int) l3 FU 0=some (k:Int)/\k<=l3.length/\(∀ j x,j<k->l3[j]? = some x->x<v)/\∀ x,l3[k]? = some x->¬ x<v:=by
 obtain ⟨o,e1,k,e2,e3,e4,e5⟩:=AR (φ:=fun n k (_:Unit)=>DR l1 (i:Int) l3 n k) (l:=l3) (fun k _=>∀ j x,j<k->l3[j]? = some x->x<v) (fun o=>∃ k:Nat,o=(k:Int)/\k<=l3.length/\(∀ j x,j<k->l3[j]? = some x->x<v)/\∀ x,l3[k]? = some x->¬ x<v)
  (by
   intro n k x s hx hk hI
   simp only [DR];rw [dT (show (k:Int)<(l3.length:Int) by omega),cT,getI hx,oB,getI hv,oB]
   by_cases hlt:x<v
   ·left
    rw [dT hlt,cT,Ab (by constructor <;> omega)];refine ⟨s,rfl,fun j y hj hy=>?_⟩
    by_cases hjk:j=k
    ·subst hjk;rw [hx] at hy;cases hy;exact hlt
    ·exact hI j y (by omega) hy
   ·right
    rw [dF hlt,cF_];exact ⟨_,rfl,k,rfl,by omega,hI,fun y hy=>by rw [hx] at hy;cases hy;exact hlt⟩)
  (by
   intro n s hI
   simp only [DR];rw [dF (by omega),cF_];exact ⟨_,rfl,l3.length,rfl,Nat.le_refl _,hI,fun y hy=>by rw [List.getElem?_eq_none (Nat.le_refl _)] at hy;cases hy⟩) (by rw [FUv];omega) () (by intro j x hj;omega)
 exact ⟨k,by rw [e1,e2],e3,e4,e5⟩
theorem OZ {l:List Int} {k:Nat} {v:Int} (h:l.Pairwise (· < ·)) (hk:k<=l.length) (h1:∀ j x,j<k->l[j]? = some x->x<v) (h2:∀ x,l[k]? = some x->v<x):(l.take k++[v]++l.drop k).Pairwise (· < ·)/\∀ x,x∈l.take k++[v]++l.drop k↔x∈l\/x=v:=by
 have e:l=l.take k++l.drop k:=(List.take_append_drop k l).symm
 have ht:∀ x∈l.take k,x<v:=fun x hx=>by
  obtain ⟨j,hj⟩:=List.getElem?_of_mem hx
  have hj2:j<k:=by have:=(List.getElem?_eq_some_iff.1 hj).1;rw [List.length_take] at this;omega
  rw [List.getElem?_take,if_pos hj2] at hj;exact h1 j x hj2 hj
 have hp:=h
 rw [e,List.pairwise_append] at hp
 have hd:∀ x∈l.drop k,v<x:=fun x hx=>by
  by_cases hkl:k<l.length
  ·have h3:=h2 _ (List.getElem?_eq_getElem hkl)
   rw [List.drop_eq_getElem_cons hkl] at hx
   have h4:=hp.2.1
   rw [List.drop_eq_getElem_cons hkl,List.pairwise_cons] at h4
   rcases List.mem_cons.1 hx with rfl | hx
   ·exact h3
   ·have:=h4.1 x hx;omega
  ·rw [List.drop_eq_nil_of_le (by omega)] at hx;cases hx
 refine ⟨?_,fun x=>?_⟩
 ·rw [List.append_assoc,List.pairwise_append]
  refine ⟨hp.1,?_,fun x hx y hy=>?_⟩
  ·rw [List.cons_append,List.nil_append,List.pairwise_cons];exact ⟨hd,hp.2.1⟩
  ·rw [List.cons_append,List.nil_append] at hy
   rcases List.mem_cons.1 hy with rfl | hy
   ·exact ht x hx
   ·exact hp.2.2 x hx y hy
 ·have e2:x∈l↔x∈l.take k\/x∈l.drop k:=by
   constructor
   ·intro h;rw [e] at h;exact List.mem_append.1 h
   ·intro h;rw [e];exact List.mem_append.2 h
  rw [e2];simp only [List.mem_append,List.mem_singleton]
  constructor
  ·rintro ((h | h) | h)
   ·exact .inl (.inl h)
   ·exact .inr h
   ·exact .inl (.inr h)
  ·rintro ((h | h) | h)
   ·exact .inl (.inl h)
   ·exact .inr h
   ·exact .inl (.inr h)
theorem Gl {l:List Int} (hl:l.length<=100000):Dv l=some (cs l):=by
 unfold Dv;obtain ⟨o,e1,e2,e3,_⟩:=AR (φ:=fun n i s=>Df l n (i,s)) (l:=l) (fun i s=>s.Pairwise (· < ·)/\(∀ x,x∈s↔x∈l.take i)/\s.length<=i) (fun o=>o.Pairwise (· < ·)/\(∀ x,x∈o↔x∈l)/\o.length<=l.length)
  (by
   rintro n i v s hv hi ⟨h1,h2,h3⟩
   left
   obtain ⟨k,e1,e2,e3,e4⟩:=setl2 hv (l3:=s) (by omega);simp only [Df];rw [dT (show (i:Int)<(l.length:Int) by omega),cT,e1,oB]
   have hlt:(s.take k).length=k:=by rw [List.length_take];omega
   have hins:(∀ x,s[k]? = some x->v<x)->(s.take k++[v]++s.drop k).Pairwise (· < ·)/\(∀ x,x∈s.take k++[v]++s.drop k↔x∈l.take (i+1))/\(s.take k++[v]++s.drop k).length<=i+1:=fun h=>by
    obtain ⟨a,b⟩:=OZ h1 e2 e3 h;refine ⟨a,fun x=>by rw [b x,h2 x,takeS hv];simp,?_⟩;simp only [List.length_append,List.length_drop,List.length_cons,List.length_nil];omega
   by_cases hk:k<s.length
   ·have hy:s[k]? = some s[k]:=List.getElem?_eq_getElem hk
    rw [dT (show (k:Int)<(s.length:Int) by omega),cT,getI hy,oB,getI hv,oB]
    by_cases he:s[k]=v
    ·rw [dT he,cT,Ab (by constructor <;> omega)]
     refine ⟨_,rfl,h1,fun x=>?_,by omega⟩;rw [h2 x,takeS hv]
     constructor
     ·intro h;exact List.mem_append_left _ h
     ·intro h
      rcases List.mem_append.1 h with h | h
      ·exact h
      ·rw [List.mem_singleton] at h;subst h;exact (h2 _).1 (he▸List.getElem_mem hk)
    ·rw [dF he,cF_,GH e2,oB,Ab (by omega),oB,Ab (by simp only [List.nil_append,List.length_cons,List.length_nil];omega),Lt rfl e2,oB,Ab (by simp only [List.nil_append,List.length_append,List.length_drop,List.length_cons,List.length_nil];omega),Ab (by constructor <;> omega)]
     exact ⟨_,rfl,hins fun x hx=>by have:=e4 x hx;rw [hy] at hx;cases hx;omega⟩
   ·rw [dF (by omega),cF_,GH e2,oB,Ab (by omega),getI hv,oB,Ab (by simp only [List.nil_append,List.length_cons,List.length_nil];omega),Lt rfl e2,oB,Ab (by simp only [List.nil_append,List.length_append,List.length_drop,List.length_cons,List.length_nil];omega),Ab (by constructor <;> omega)]
    exact ⟨_,rfl,hins fun x hx=>by rw [List.getElem?_eq_none (by omega)] at hx;cases hx⟩)
  (by
   rintro n s ⟨h1,h2,h3⟩;simp only [Df];rw [dF (by omega),cF_];exact ⟨s,rfl,h1,fun x=>by rw [h2 x,List.take_length],h3⟩) (by rw [FUv];omega) [] ⟨List.Pairwise.nil,by simp,by simp⟩
 rw [e1,oB,Qa e2 e3]
theorem K3 (l:List Int) (g:Int->Bool):decide (0<=(match l.findIdx? g with | some i=>(i:Int) | none => -1))=l.any g:=by
 cases hf:l.findIdx? g with
 | none =>
  have:l.any g=false:=by
   rw [List.any_eq_false]
   intro x hx
   have:=List.findIdx?_eq_none_iff.1 hf x hx
   simp [this]
  rw [this];rfl
 | some i =>
  obtain ⟨hi,h1,_⟩:=List.findIdx?_eq_some_iff_getElem.1 hf;rw [List.any_eq_true.2 ⟨l[i],List.getElem_mem hi,h1⟩];exact dT (by show (0:Int)<=(i:Int);omega)
theorem LO {t:ATy} {l:List Int} (h:∀ i∈l,In t i) (hl:l.length<=1000) (k:Int):Fb t l k=some (match l.findIdx? (fun i=>decide ((nd t i).kind=k)) with | some i=>(i:Int) | none => -1):=by
 unfold Fb;rw [FJ (φ:=Ee t l k) (l:=l) (fun i=>(i:Int)) (fun i=>decide ((nd t i).kind=k)) ?_ ?_ (by rw [FUv];omega)]
 ·rw [oB]
  cases l.findIdx? (fun i=>decide ((nd t i).kind=k)) <;> rfl
 ·intro n i x hx hi
  simp only [Ee];rw [dT (show (i:Int)<(l.length:Int) by omega),cT,getI hx,oB,getN (h x (List.mem_of_getElem? hx)),oB];exact ⟨fun hq=>by rw [hq,cF_,Ab (by constructor <;> omega)],fun hq=>by rw [hq,cT]⟩
 ·intro n
  simp only [Ee];rw [dF (by omega),cF_]
theorem QE {t:ATy} {l:List Int} (h:∀ i∈l,In t i) (hl:l.length<=1000):EC t l 9 10=some (match l.findIdx? (fun i=>latB (nd t i).kind) with | some i=>(i:Int) | none => -1):=by
 unfold EC;rw [FJ (φ:=Dz t l 9 10) (l:=l) (fun i=>(i:Int)) (fun i=>latB (nd t i).kind) ?_ ?_ (by rw [FUv];omega)]
 ·rw [oB]
  cases l.findIdx? (fun i=>latB (nd t i).kind) <;> rfl
 ·intro n i x hx hi
  simp only [Dz];rw [dT (show (i:Int)<(l.length:Int) by omega),cT,getI hx,oB,getN (h x (List.mem_of_getElem? hx)),oB]
  change (latB (nd t x).kind=false->(bif latB (nd t x).kind then _ else _)=_)/\(latB (nd t x).kind=true->(bif latB (nd t x).kind then _ else _)=_)
  exact ⟨fun hq=>by rw [hq,cF_,Ab (by constructor <;> omega)],fun hq=>by rw [hq,cT]⟩
 ·intro n
  simp only [Dz];rw [dF (by omega),cF_]
theorem R7 {l m:List Int} {i:Nat} (hi:i<l.length) (hl:l.length<=1000) (hm:m.length<=1000):Dc l (i:Int) m=some (cs (l.take i++l.drop (i+1)++m)):=by
 unfold Dc;rw [GH (by omega),oB,Ab (by rw [List.length_take];omega),Ab (by constructor <;> omega),show ((i:Int)+1)=((i+1:Nat):Int) by omega,Lt rfl (by omega),oB,Ab (by simp only [List.nil_append,List.length_take,List.length_drop];omega),Ab (by simp only [List.nil_append,List.length_append,List.length_take,List.length_drop];omega),List.nil_append,Gl (by simp only [List.length_append,List.length_take,List.length_drop];omega),oB]
theorem Oc {n:ANd} (h:NB n) (s:List UInt8):FH n s=some ((atN n s).getD (-1)):=by
 have h40:n.l.length<=40:=h
 unfold FH;obtain ⟨o,e1,e2⟩:=AR (φ:=fun k i (_:Unit)=>Ed n s k i) (l:=n.l) (fun i _=>(n.l.take i).find? (fun f=>decide (f.name=s))=none) (fun o=>o.on (fun r=>some r) (fun _=>some (-1))=some ((atN n s).getD (-1)))
  (by
   intro k i x u hx hi hI
   simp only [Ed];rw [dT (show (i:Int)<(n.l.length:Int) by omega),cT,getI hx,oB]
   by_cases hs:x.name=s
   ·right
    rw [dT hs,cT,oB];refine ⟨_,rfl,?_⟩
    have e:n.l=n.l.take i++x::n.l.drop (i+1):=by
     have hx2:=(List.getElem?_eq_some_iff.1 hx).2
     rw [<- hx2,<- List.drop_eq_getElem_cons hi,List.take_append_drop]
    have:atN n s=some x.at_:=by
     unfold atN;rw [e,List.find?_append,hI,List.find?_cons_of_pos (by simpa using hs)];rfl
    rw [this];rfl
   ·left
    rw [dF hs,cF_,Ab (by constructor <;> omega)];refine ⟨u,rfl,?_⟩;rw [takeS hx,List.find?_append,hI,List.find?_cons_of_neg (by simpa using hs)];rfl)
  (by
   intro k u hI
   simp only [Ed];rw [dF (by omega),cF_];refine ⟨_,rfl,?_⟩;rw [List.take_length] at hI;unfold atN;rw [hI];rfl) (by rw [FUv];omega) () (by simp)
 rw [e1,oB,e2]
theorem J5 {t:ATy} (hO:OkT t) (hN:∀ n∈t.l,NB n) {l:List Int} (h:∀ i∈l,In t i) (hl:l.length<=1000) (s:List UInt8):EA t l s=some (cs (AH t l s)):=by
 unfold EA
 have hlen:∀ m:List Int,m.length<=1000->(AH t m s).length<=1000:=fun m hm=>Nat.le_trans (List.length_filterMap_le _ _) hm
 obtain ⟨o,e1,e2⟩:=AR (φ:=fun k i q=>CT t l s k (i,q)) (l:=l) (fun i q=>q=AH t (l.take i) s) (fun o=>o=AH t l s)
  (by
   rintro k i x q hx hi rfl
   left
   have hxi:=h x (List.mem_of_getElem? hx)
   have hl2:=hlen (l.take i) (by rw [List.length_take];omega)
   simp only [CT];rw [dT (show (i:Int)<(l.length:Int) by omega),cT,getI hx,oB,getN hxi,oB,Oc (hN _ (Fx hxi)),oB]
   have ep:AH t (l.take (i+1)) s=AH t (l.take i) s++(atN (nd t x) s).toList:=by
    rw [takeS hx];unfold AH;rw [List.filterMap_append]
    congr 1
   rw [ep]
   cases ha:atN (nd t x) s with
   | none =>
    rw [show decide (0<=(none:Option Int).getD (-1))=false from rfl,cF_,Ab (by constructor <;> omega)];exact ⟨_,rfl,by simp⟩
   | some z =>
    have hz:=(Na hO hxi ha).1
    rw [show (some z).getD (-1)=z from rfl,dT hz,cT,Ab (by simp only [List.length_cons,List.length_nil];omega),Ab (by constructor <;> omega)];exact ⟨_,rfl,by simp⟩)
  (by
   rintro k q rfl;simp only [CT];rw [dF (by omega),cF_];exact ⟨_,rfl,by rw [List.take_length]⟩) (by rw [FUv];omega) [] (by simp [AH])
 rw [e1,oB,e2,Gl (by have:=hlen l hl;omega),oB]
theorem Q5 {t:ATy} (hO:OkT t) (hN:∀ n∈t.l,NB n) {l:List Int} (h:∀ i∈l,In t i) (hl:l.length<=1000) (s:List UInt8):ET t l s=some ((AH t l s).length:Int):=by
 unfold ET
 have hlen:∀ m:List Int,m.length<=1000->(AH t m s).length<=1000:=fun m hm=>Nat.le_trans (List.length_filterMap_le _ _) hm
 obtain ⟨o,e1,e2⟩:=AR (φ:=fun k i q=>B8 t l s k (q,i)) (l:=l) (fun i q=>q=((AH t (l.take i) s).length:Int)) (fun o=>o=((AH t l s).length:Int))
  (by
   rintro k i x q hx hi rfl
   left
   have hxi:=h x (List.mem_of_getElem? hx)
   have hl2:=hlen (l.take i) (by rw [List.length_take];omega)
   simp only [B8];rw [dT (show (i:Int)<(l.length:Int) by omega),cT,getI hx,oB,getN hxi,oB,Oc (hN _ (Fx hxi)),oB]
   have ep:AH t (l.take (i+1)) s=AH t (l.take i) s++(atN (nd t x) s).toList:=by
    rw [takeS hx];unfold AH;rw [List.filterMap_append]
    congr 1
   rw [ep]
   cases ha:atN (nd t x) s with
   | none =>
    rw [show decide (0<=(none:Option Int).getD (-1))=false from rfl,cF_,Ab (by constructor <;> omega)];exact ⟨_,rfl,by simp⟩
   | some z =>
    have hz:=(Na hO hxi ha).1
    rw [show (some z).getD (-1)=z from rfl,dT hz,cT,Ab (by constructor <;> omega),Ab (by constructor <;> omega)];exact ⟨_,rfl,by simp⟩)
  (by
   rintro k q rfl;simp only [B8];rw [dF (by omega),cF_];exact ⟨_,rfl,by rw [List.take_length]⟩) (by rw [FUv];omega) 0 (by simp [AH])
 rw [e1,oB,e2]
theorem Sy {t:ATy} {l:List Int} (h:∀ i∈l,In t i) (hl:l.length<=1000) (k:Int):Iz t l k=some (ofK t l k):=by
 unfold Iz
 have hlen:∀ m:List Int,m.length<=1000->(ofK t m k).length<=1000:=fun m hm=>Nat.le_trans (List.length_filter_le _ _) hm
 obtain ⟨o,e1,e2⟩:=AR (φ:=fun n i q=>EB t l k n (i,q)) (l:=l) (fun i q=>q=ofK t (l.take i) k) (fun o=>o=ofK t l k)
  (by
   rintro n i x q hx hi rfl
   left
   have hxi:=h x (List.mem_of_getElem? hx)
   have hl2:=hlen (l.take i) (by rw [List.length_take];omega)
   simp only [EB];rw [dT (show (i:Int)<(l.length:Int) by omega),cT,getI hx,oB,getN hxi,oB]
   have ep:ofK t (l.take (i+1)) k=ofK t (l.take i) k++(if (nd t x).kind=k then [x] else []):=by
    rw [takeS hx];unfold ofK;rw [List.filter_append]
    congr 1
    by_cases hk:(nd t x).kind=k
    ·simp [hk]
    ·simp [hk]
   rw [ep]
   by_cases hk:(nd t x).kind=k
   ·rw [dT hk,cT,oB,Ab (by simp only [List.length_cons,List.length_nil];omega),Ab (by constructor <;> omega),if_pos hk]
    exact ⟨_,rfl,rfl⟩
   ·rw [dF hk,cF_,Ab (by constructor <;> omega),if_neg hk,List.append_nil]
    exact ⟨_,rfl,rfl⟩)
  (by
   rintro n q rfl;simp only [EB];rw [dF (by omega),cF_];exact ⟨_,rfl,by rw [List.take_length]⟩) (by rw [FUv];omega) [] (by simp [ofK])
 rw [e1,oB,e2]
theorem all_parts {t:ATy} {l:List Int} {s:List UInt8}:(AH t l s).length=l.length↔(l.all fun j=>(atN (nd t j) s).isSome)=true:=by
 obtain ⟨h1,h2⟩:=Pb (f:=fun i=>atN (nd t i) s) l;unfold AH;rw [List.all_eq_true]
 constructor
 ·intro h j hj
  have:=h2.1 (by omega) j hj
  cases hq:atN (nd t j) s with
  | none=>exact absurd hq this
  | some _=>rfl
 ·intro h
  have:=h2.2 fun j hj=>by have:=h j hj;cases hq:atN (nd t j) s with
   | none=>rw [hq] at this;cases this
   | some _=>simp
  omega
theorem ME {t:ATy} (hO:OkT t) (hN:∀ n∈t.l,NB n) {l:List Int} (h:∀ i∈l,In t i) (hl:l.length<=1000) (hne:l≠[]):DM t l=some (Dj t l):=by
 obtain ⟨a,m,rfl⟩:=List.exists_cons_of_ne_nil hne
 have ha:=h a (by simp)
 have h40:(nd t a).l.length<=40:=hN _ (Fx ha)
 have hnd:=Kh (Ky (hO.right _ (Fx ha)))
 unfold DM
 have i0:idx (a::m) 0=some a:=rfl
 obtain ⟨o,e1,e2⟩:=AR (φ:=fun n i q=>CY t (a::m) n (i,q)) (l:=(nd t a).l) (fun i q=>q=(((nd t a).l.take i).map (·.name)).filter fun s=>(a::m).all fun j=>(atN (nd t j) s).isSome) (fun o=>o=Dj t (a::m))
  (by
   rintro n i x q hx hi rfl
   left
   have hql:((((nd t a).l.take i).map (·.name)).filter fun s=>(a::m).all fun j=>(atN (nd t j) s).isSome).length<=40:=Nat.le_trans (List.length_filter_le _ _) (by rw [List.length_map,List.length_take];omega)
   have hnot:x.name∉(((nd t a).l.take i).map (·.name)).filter fun s=>(a::m).all fun j=>(atN (nd t j) s).isSome:=by
    intro hm
    have hm2:=(List.mem_filter.1 hm).1
    have e:(nd t a).l.map (·.name)=((nd t a).l.take i).map (·.name)++x.name::((nd t a).l.drop (i+1)).map (·.name):=by
     have hx2:=(List.getElem?_eq_some_iff.1 hx).2
     rw [<- hx2,<- List.map_cons,<- List.drop_eq_getElem_cons hi,<- List.map_append,List.take_append_drop]
    rw [e,List.nodup_append] at hnd;exact hnd.2.2 _ hm2 _ (List.mem_cons_self) rfl
   simp only [CY];rw [i0,oB,getN ha,oB,dT (show (i:Int)<((nd t a).l.length:Int) by omega),cT,oB,getN ha,oB,getI hx,oB,J5 hO hN h hl,oB,Q5 hO hN h hl,oB,MJ _ _ (by omega),dF hnot]
   have hlast:(((nd t a).l.take (i+1)).map (·.name)).filter (fun s=>(a::m).all fun j=>(atN (nd t j) s).isSome)=(((nd t a).l.take i).map (·.name)).filter (fun s=>(a::m).all fun j=>(atN (nd t j) s).isSome)++(if ((a::m).all fun j=>(atN (nd t j) x.name).isSome)=true then [x.name] else []):=by
    rw [takeS hx,List.map_append,List.filter_append]
    congr 1
    by_cases hk:((a::m).all fun j=>(atN (nd t j) x.name).isSome)=true
    ·rw [if_pos hk,List.map_cons,List.map_nil,List.filter_cons_of_pos (by exact hk)];rfl
    ·rw [if_neg hk,List.map_cons,List.map_nil,List.filter_cons_of_neg (by exact hk)];rfl
   by_cases hall:((a::m).all fun j=>(atN (nd t j) x.name).isSome)=true
   ·have hlen:=all_parts.2 hall
    have hpos:0<(cs (AH t (a::m) x.name)).length:=by
     have hp:0<(AH t (a::m) x.name).length:=by rw [hlen];simp
     obtain ⟨y,hy⟩:=List.exists_mem_of_length_pos hp;exact List.length_pos_of_mem (mem_cs.2 hy)
    rw [dT (show (0:Int)<((cs (AH t (a::m) x.name)).length:Int) by omega),cT,oB,dT (by omega),cT,oB,Bool.not_false,oB,cT,Ab (by simp only [List.length_cons,List.length_nil];omega),Ab (by constructor <;> omega)];exact ⟨_,rfl,by rw [hlast,if_pos hall]⟩
   ·have hlen:¬ (AH t (a::m) x.name).length=(a::m).length:=fun e=>hall (all_parts.1 e)
    have e0:((bif decide (0<((cs (AH t (a::m) x.name)).length:Int)) then some (decide (((AH t (a::m) x.name).length:Int)=((a::m).length:Int))) else some false):Option Bool)=some false:=by
     rw [dF (show ¬ ((AH t (a::m) x.name).length:Int)=((a::m).length:Int) by omega)]
     cases decide (0<((cs (AH t (a::m) x.name)).length:Int)) <;> rfl
    rw [e0,oB,cF_,oB,cF_,Ab (by constructor <;> omega)];exact ⟨_,rfl,by rw [hlast,if_neg hall,List.append_nil]⟩)
  (by
   rintro n q rfl;simp only [CY];rw [i0,oB,getN ha,oB,dF (by omega),cF_];exact ⟨_,rfl,by rw [List.take_length];rfl⟩) (by rw [FUv];omega) [] (by simp)
 rw [e1,oB,e2]
end Go.Proofs.YtkfnogdccpcmhaaGreatDoor
namespace Go.Proofs.YtkfnogdccpcmhaaGreatDoor
open Go.V
open Classical
def toS (q:BSq):RSeq:=⟨q.left,q.right⟩
def ofS (q:RSeq):BSq:=⟨q.l,q.r⟩
theorem SS {t:ATy} {l r:List Int} (hL:∀ i∈l,In t i) (hR:∀ i∈r,In t i) (hl:l.length<=1000) (hr:r.length<=1000) :
  (CU t l FU (0,[],[],[],[])).bind (fun (l2,l3,l4,l5)=>(CP t r FU (0,l2,l3,l4,l5)).bind fun (l10,l11,l12,l13)=>some (l10,l11,l12,l13))=some (r.map (fun i=>(nd t i).b),l.map (fun i=>(nd t i).b),l.map (fun i=>(nd t i).a),r.map (fun i=>(nd t i).a)):=by
 obtain ⟨o,e1,e2⟩:=AR (φ:=fun n i s=>CU t l n (i,s)) (l:=l) (fun i s=>s=([],(l.take i).map (fun i=>(nd t i).b),(l.take i).map (fun i=>(nd t i).a),[])) (fun o=>o=([],l.map (fun i=>(nd t i).b),l.map (fun i=>(nd t i).a),[]))
  (by
   rintro n i x s hx hi rfl
   left
   have hxm:=List.mem_of_getElem? hx
   have hti:(l.take i).length<=1000:=by rw [List.length_take];omega
   simp only [CU];rw [dT (show (i:Int)<(l.length:Int) by omega),cT,getI hx,oB,getN (hL x hxm),oB,Ab (by simp only [List.length_map,List.length_cons,List.length_nil];omega),oB,getN (hL x hxm),oB,Ab (by simp only [List.length_map,List.length_cons,List.length_nil];omega),Ab (by constructor <;> omega)];refine ⟨_,rfl,?_⟩;rw [takeS hx];simp)
  (by
   rintro n s rfl;simp only [CU];rw [dF (by omega),cF_];exact ⟨_,rfl,by simp⟩) (by rw [FUv];omega) ([],[],[],[]) (by simp)
 rw [e1,oB,e2];obtain ⟨o,e3,e4⟩:=AR (φ:=fun n i s=>CP t r n (i,s)) (l:=r) (fun i s=>s=((r.take i).map (fun i=>(nd t i).b),l.map (fun i=>(nd t i).b),l.map (fun i=>(nd t i).a),(r.take i).map (fun i=>(nd t i).a))) (fun o=>o=(r.map (fun i=>(nd t i).b),l.map (fun i=>(nd t i).b),l.map (fun i=>(nd t i).a),r.map (fun i=>(nd t i).a)))
  (by
   rintro n i x s hx hi rfl
   left
   have hxm:=List.mem_of_getElem? hx
   have hti:(r.take i).length<=1000:=by rw [List.length_take];omega
   simp only [CP];rw [dT (show (i:Int)<(r.length:Int) by omega),cT,getI hx,oB,getN (hR x hxm),oB,Ab (by simp only [List.length_map,List.length_cons,List.length_nil];omega),oB,getN (hR x hxm),oB,Ab (by simp only [List.length_map,List.length_cons,List.length_nil];omega),Ab (by constructor <;> omega)];refine ⟨_,rfl,?_⟩;rw [takeS hx];simp)
  (by
   rintro n s rfl;simp only [CP];rw [dF (by omega),cF_];exact ⟨_,rfl,by simp⟩) (by rw [FUv];omega) ([],l.map (fun i=>(nd t i).b),l.map (fun i=>(nd t i).a),[]) (by simp)
 simp only
 rw [e3,oB,e4]
theorem Tm {R S T:Type} (u:S) (f:R->Option T) (g:S->Option T):(Out.go u:Out R S).on f g=g u:=rfl
theorem If {α:Type} (l:List α):decide ((l.length:Int)=0)=l.isEmpty:=by
 cases l with
 | nil=>rfl
 | cons a l=>exact dF (by simp only [List.length_cons];omega)
theorem OF (l:List Int):(cs l).isEmpty=l.isEmpty:=by
 cases h:l with
 | nil =>
  have:cs []=[]:=by rw [List.eq_nil_iff_forall_not_mem];intro x hx;exact absurd (mem_cs.1 hx) (by simp)
  rw [this]
 | cons a m =>
  have:a∈cs (a::m):=mem_cs.2 (by simp)
  cases hq:cs (a::m) with
  | nil=>rw [hq] at this;cases this
  | cons _ _=>rfl
theorem Q3 {t:ATy} (hO:OkT t) (hN:∀ n∈t.l,NB n) {l r:List Int} (hL:∀ i∈l,In t i) (hR:∀ i∈r,In t i) (hl:l.length<=1000) (hr:r.length<=1000) (all:List (List UInt8)) (ha:all.length<=1000) :
  (CZ t l r all FU (0,[])).bind (fun oo=>oo.on (fun r2=>some r2) (fun l18=>some (l18,true)))=some (if all.any (badA t l r)=true then ([],false) else (all.map fun s=>⟨cs (AH t l s),cs (AH t r s)⟩,true)):=by
 obtain ⟨o,e1,e2⟩:=AR (φ:=fun n i s=>CZ t l r all n (i,s)) (l:=all) (fun i s=>s=(all.take i).map (fun s=>(⟨cs (AH t l s),cs (AH t r s)⟩:RSeq))/\(all.take i).any (badA t l r)=false) (fun oo=>oo.on (fun r2=>some r2) (fun l18=>some (l18,true))=some (if all.any (badA t l r)=true then ([],false) else (all.map fun s=>⟨cs (AH t l s),cs (AH t r s)⟩,true)))
  (by
   rintro n i x s hx hi ⟨rfl,hb⟩
   have hti:(all.take i).length<=1000:=by rw [List.length_take];omega
   simp only [CZ];rw [dT (show (i:Int)<(all.length:Int) by omega),cT,getI hx,oB,J5 hO hN hL hl,oB,oB,J5 hO hN hR hr,oB,If,If,OF,OF]
   change (∃ s',(bif badA t l r x then _ else _)=_/\_)\/(∃ o,(bif badA t l r x then _ else _)=_/\_)
   cases hbx:badA t l r x with
   | true =>
    right
    rw [cT];refine ⟨_,rfl,?_⟩;rw [if_pos (List.any_eq_true.2 ⟨x,List.mem_of_getElem? hx,hbx⟩)];rfl
   | false =>
    left
    rw [cF_,Ab (by simp only [List.length_map,List.length_cons,List.length_nil];omega),Ab (by constructor <;> omega)];refine ⟨_,rfl,by rw [takeS hx];simp,?_⟩;rw [takeS hx,List.any_append,hb];simp [hbx])
  (by
   rintro n s ⟨rfl,hb⟩;simp only [CZ];rw [dF (by omega),cF_];rw [List.take_length] at hb ⊢;exact ⟨_,rfl,by rw [hb];rfl⟩) (by rw [FUv];omega) [] ⟨by simp,by simp⟩
 rw [e1,oB,e2]
theorem Gq {t:ATy} (hN:∀ n∈t.l,NB n) {l:List Int} (h:∀ i∈l,In t i):(Dj t l).length<=1000:=by
 cases l with
 | nil=>simp [Dj]
 | cons a m =>
  have h40:(nd t a).l.length<=40:=hN _ (Fx (h a (by simp)))
  unfold Dj;exact Nat.le_trans (List.length_filter_le _ _) (by rw [List.length_map];omega)
theorem Qn {t:ATy} (hO:OkT t) (hN:∀ n∈t.l,NB n) {l r:List Int} {k:Int} (hL:∀ i∈l,In t i) (hR:∀ i∈r,In t i) (hl:l.length<=1000) (hr:r.length<=1000) (hlne:l≠[]) :
  F6 t k l r=some ((B5 t k l r).2.map toS,!(B5 t k l r).1):=by
 unfold F6 B5;rw [If]
 by_cases h0:k≠8/\r=[]
 ·rw [if_pos h0,dF h0.1,h0.2];rfl
 ·rw [if_neg h0]
  have e0:((!decide (k=8))&&r.isEmpty)=false:=by
   by_cases h8:k=8
   ·rw [dT h8];rfl
   ·rw [dF h8]
    cases r with
    | nil=>exact absurd ⟨h8,rfl⟩ h0
    | cons _ _=>rfl
  rw [e0,cF_]
  by_cases h6:k=6
  ·rw [dT h6,cT,if_pos h6]
   have e1:=SS hL hR hl hr
   rw [Option.bind_eq_some_iff] at e1;obtain ⟨⟨l2,l3,l4,l5⟩,e2,e3⟩:=e1;rw [Option.bind_eq_some_iff] at e3;obtain ⟨⟨l10,l11,l12,l13⟩,e4,e5⟩:=e3;simp only [Option.some.injEq,Prod.mk.injEq] at e5;obtain ⟨rfl,rfl,rfl,rfl⟩:=e5;rw [e2,oB]
   simp only
   rw [e4,oB]
   simp only
   rw [Gl (by simp;omega),oB,Gl (by simp;omega),oB,Gl (by simp;omega),oB,Gl (by simp;omega),oB]
   rfl
  ·rw [dF h6,cF_,if_neg h6]
   have hrne:k=7->r≠[]:=fun h7 e=>h0 ⟨by omega,e⟩
   have eall:((bif (decide (k=7)) then (DM t r).bind fun x13=>some x13 else some []:Option (List (List UInt8))).bind fun all1=>(bif (decide (k=8)) then (DM t l).bind fun x14=>some x14 else some all1:Option (List (List UInt8))))=some (allA t k l r):=by
    unfold allA
    by_cases h7:k=7
    ·rw [dT h7,cT,if_pos h7,ME hO hN hR hr (hrne h7),oB,oB,dF (by omega),cF_]
    ·rw [dF h7,cF_,if_neg h7,oB]
     by_cases h8:k=8
     ·rw [dT h8,cT,if_pos h8,ME hO hN hL hl hlne,oB]
     ·rw [dF h8,cF_,if_neg h8]
   have hsm:(allA t k l r).length<=1000:=by
    unfold allA
    split
    ·exact Gq hN hR
    ·split
     ·exact Gq hN hL
     ·simp
   rw [<- Option.bind_assoc,eall,oB,Q3 hO hN hL hR hl hr _ hsm]
   by_cases hb:(allA t k l r).any (badA t l r)=true
   ·rw [if_pos hb,if_pos hb];rfl
   ·rw [if_neg hb,if_neg hb];simp [toS,Function.comp_def]
theorem Su {t:ATy} {q:BSq} (hq:InQ t q) (h1:q.left.length<=500) (h2:q.right.length<=500):C0 t (toS q) FU 0=some (if FW t q=true then .ret ([],true) else .go ()):=by
 have hl2:∀ (i:Nat) x,q.left[i]? = some x->CV t (toS q) (i:Int) FU 0=some (if (q.right.any fun j=>decide ((nd t x).kind=11)&&decide ((nd t j).kind=11)&&decide ((nd t x).a=(nd t j).a))=true then .ret ([],true) else .go ()):=by
  intro i x hx
  rw [HZ (φ:=CV t (toS q) (i:Int)) (l:=q.right) ([],true) (fun _ j=>(decide ((nd t x).kind=11)&&decide ((nd t j).kind=11)&&decide ((nd t x).a=(nd t j).a))=true) ?_ ?_ (by rw [FUv];omega)]
  ·congr 1
   have e:(∃ (k:Nat) (j:Int),q.right[k]? = some j/\(decide ((nd t x).kind=11)&&decide ((nd t j).kind=11)&&decide ((nd t x).a=(nd t j).a))=true)↔(q.right.any fun j=>decide ((nd t x).kind=11)&&decide ((nd t j).kind=11)&&decide ((nd t x).a=(nd t j).a))=true:=by
    rw [List.any_eq_true]
    constructor
    ·rintro ⟨k,j,hk,h⟩;exact ⟨j,List.mem_of_getElem? hk,h⟩
    ·rintro ⟨j,hj,h⟩;obtain ⟨k,hk⟩:=List.getElem?_of_mem hj;exact ⟨k,j,hk,h⟩
   by_cases hc:(q.right.any fun j=>decide ((nd t x).kind=11)&&decide ((nd t j).kind=11)&&decide ((nd t x).a=(nd t j).a))=true
   ·rw [if_pos (e.2 hc),if_pos hc]
   ·rw [if_neg (fun h=>hc (e.1 h)),if_neg hc]
  ·intro n k j hj hk
   simp only [CV]
   have e1:idx (toS q).l (i:Int)=some x:=getI hx
   have e2:idx (toS q).r (k:Int)=some j:=getI hj
   rw [dT (show (k:Int)<((toS q).r.length:Int) by show (k:Int)<(q.right.length:Int);omega),cT,e1,oB,getN (hq.1 x (List.mem_of_getElem? hx)),oB,e2,oB,getN (hq.2 j (List.mem_of_getElem? hj)),oB]
   constructor
   ·intro hc;rw [show (decide ((nd t x).kind=11)&&decide ((nd t j).kind=11)&&decide ((nd t x).a=(nd t j).a))=false by simpa using hc,cF_,Ab (by constructor <;> omega)]
   ·intro hc;rw [hc,cT]
  ·intro n
   simp only [CV];rw [dF (by show ¬ (q.right.length:Int)<(q.right.length:Int);omega),cF_]
 rw [HZ (φ:=C0 t (toS q)) (l:=q.left) ([],true) (fun _ x=>(q.right.any fun j=>decide ((nd t x).kind=11)&&decide ((nd t j).kind=11)&&decide ((nd t x).a=(nd t j).a))=true) ?_ ?_ (by rw [FUv];omega)]
 ·congr 1
  unfold FW
  have e:(∃ (k:Nat) (x:Int),q.left[k]? = some x/\(q.right.any fun j=>decide ((nd t x).kind=11)&&decide ((nd t j).kind=11)&&decide ((nd t x).a=(nd t j).a))=true)↔(q.left.any fun x=>q.right.any fun j=>decide ((nd t x).kind=11)&&decide ((nd t j).kind=11)&&decide ((nd t x).a=(nd t j).a))=true:=by
   rw [List.any_eq_true]
   constructor
   ·rintro ⟨k,j,hk,h⟩;exact ⟨j,List.mem_of_getElem? hk,h⟩
   ·rintro ⟨j,hj,h⟩;obtain ⟨k,hk⟩:=List.getElem?_of_mem hj;exact ⟨k,j,hk,h⟩
  by_cases hc:(q.left.any fun x=>q.right.any fun j=>decide ((nd t x).kind=11)&&decide ((nd t j).kind=11)&&decide ((nd t x).a=(nd t j).a))=true
  ·rw [if_pos (e.2 hc),if_pos hc]
  ·rw [if_neg (fun h=>hc (e.1 h)),if_neg hc]
 ·intro n i x hx hi
  simp only [C0];rw [dT (show (i:Int)<((toS q).l.length:Int) by show (i:Int)<(q.left.length:Int);omega),cT,hl2 i x hx,oB]
  constructor
  ·intro hc;rw [if_neg hc]
   rw [Tm,Ab (by constructor <;> omega)]
  ·intro hc;rw [if_pos hc];rfl
 ·intro n
  simp only [C0];rw [dF (by show ¬ (q.left.length:Int)<(q.left.length:Int);omega),cF_]
theorem S1 {t:ATy} {q:BSq} (hq:InQ t q) (h1:q.left.length<=500) (n:Nat) (i:Int) (hi:3<=i/\i<=8) (l:List Int) (hl:l.length<=100) :
  Br t (toS q) (n+1) (i,l)=Br t (toS q) n (i+1,l++(if (q.left.any fun j=>decide ((nd t j).kind=i))=true then [i] else [])):=by
 simp only [Br];rw [dT hi.2,cT,show (toS q).l=q.left from rfl,LO hq.1 (by omega),oB,K3]
 by_cases hc:(q.left.any fun j=>decide ((nd t j).kind=i))=true
 ·rw [hc,cT,Ab (by simp only [List.length_cons,List.length_nil];omega),Ab (by constructor <;> omega),if_pos rfl]
 ·have hc2:(q.left.any fun j=>decide ((nd t j).kind=i))=false:=by simpa using hc
  rw [hc2,cF_,Ab (by constructor <;> omega),if_neg (by simp),List.append_nil]
theorem QO (p:Int->Bool) (a:Int) (l:List Int):List.filter p (a::l)=(if p a=true then [a] else [])++List.filter p l:=by
 by_cases h:p a=true
 ·rw [List.filter_cons_of_pos h,if_pos h];rfl
 ·rw [List.filter_cons_of_neg h,if_neg h];rfl
def ints (i:Int):Nat->List Int
 | 0=>[]
 | m+1=>i::ints (i+1) m
theorem Sw {t:ATy} {q:BSq} (hq:InQ t q) (h1:q.left.length<=500):∀ (m n:Nat) (i:Int) (l:List Int),3<=i->i+m=9->l.length+m<=100 ->
  Br t (toS q) (n+m+1) (i,l)=some (l++(ints i m).filter fun k=>q.left.any fun j=>decide ((nd t j).kind=k))
 | 0,n,i,l,h3,h9,hl=>by
  simp only [Br];rw [dF (by omega),cF_]
  simp [ints]
 | m+1,n,i,l,h3,h9,hl=>by
  rw [show n+(m+1)+1=(n+m+1)+1 from rfl,S1 hq h1 _ i (by omega) l (by omega)]
  have hle:(if (q.left.any fun j=>decide ((nd t j).kind=i))=true then [i] else []:List Int).length<=1:=by split <;> simp
  rw [Sw hq h1 m n (i+1) _ (by omega) (by omega) (by rw [List.length_append];omega)];rw [show ints i (m+1)=i::ints (i+1) m from rfl,QO,List.append_assoc]
theorem QB {t:ATy} {q:BSq} (hq:InQ t q) (h1:q.left.length<=500):Br t (toS q) FU (3,[])=some (Cp t q.left):=by
 have:=Sw hq h1 6 18446744073709551609 3 [] (by omega) (by omega) (by simp)
 rw [show FU=18446744073709551609+6+1 from rfl,this,List.nil_append]
 rfl
theorem PZ {t:ATy} {l:List Int} (h:∀ i∈l,In t i) (hl:l.length<=500) {α:Type} (K:ANd->(List Int->Option (List Int))->Option α) (Z:Option α) (hK:∀ n f g,(∀ m:List Int,m.length<=2->f m=g m)->K n f=K n g) :
  (EC t l 9 10).bind (fun x3=>bif (decide (0<=x3)) then (idx l x3).bind fun x4=>(idx t.l x4).bind fun x5=>K x5 (fun m=>Dc l x3 m) else Z)=(match latA t l with | some (n,rest)=>K n (fun m=>some (cs (rest++m))) | none=>Z):=by
 rw [QE h (by omega),oB];unfold latA
 cases hf:l.findIdx? (fun i=>latB (nd t i).kind) with
 | none=>rfl
 | some i =>
  obtain ⟨hi,h1,_⟩:=List.findIdx?_eq_some_iff_getElem.1 hf
  have hx:l[i]? = some l[i]:=List.getElem?_eq_getElem hi
  have e:l.getD i 0=l[i]:=by rw [List.getD_eq_getElem?_getD,hx];rfl
  simp only [Option.map_some];rw [dT (by omega),cT,getI hx,oB,getN (h _ (List.getElem_mem hi)),oB,e];exact hK _ _ _ fun m hm=>R7 hi (by omega) (by omega)
theorem Rb {t:ATy} {q:BSq} (hO:OkT t) (hN:∀ n∈t.l,NB n) (hq:InQ t q) (h1:q.left.length<=500) (h2:q.right.length<=500):Fc t (toS q)=some ((AS t q).2.map toS,!(AS t q).1):=by
 unfold Fc;rw [show (toS q).l=q.left from rfl,show (toS q).r=q.right from rfl,LO hq.1 (by omega),oB,K3,LO hq.2 (by omega),oB,K3]
 have he:(bif (q.left.any fun i=>decide ((nd t i).kind=2)) then (some true) else (some (q.right.any fun i=>decide ((nd t i).kind=1)):Option Bool))=some (endA t q):=by
  unfold endA
  cases q.left.any fun i=>decide ((nd t i).kind=2) <;> rfl
 rw [he,oB];unfold AS
 cases h3:endA t q with
 | true=>rw [cT,if_pos rfl];rfl
 | false =>
  rw [cF_,if_neg (by simp)]
  have eL:=PZ hq.1 h1 (fun x5 f=>bif (decide (x5.kind=10)) then (f [x5.a,x5.b]).bind fun x6=>some ([(⟨x6,q.right⟩:RSeq)],true) else (f [x5.a]).bind fun x7=>(f [x5.b]).bind fun x8=>some ([(⟨x7,q.right⟩:RSeq),(⟨x8,q.right⟩:RSeq)],true))
  have eR:=PZ hq.2 h2 (fun x5 f=>bif (decide (x5.kind=9)) then (f [x5.a,x5.b]).bind fun x6=>some ([(⟨q.left,x6⟩:RSeq)],true) else (f [x5.a]).bind fun x7=>(f [x5.b]).bind fun x8=>some ([(⟨q.left,x7⟩:RSeq),(⟨q.left,x8⟩:RSeq)],true))
  refine (eL _ (fun n f g hfg=>by rw [hfg _ (by simp),hfg _ (by simp),hfg _ (by simp)])).trans ?_;unfold openA
  cases hl:latA t q.left with
  | some x =>
   obtain ⟨n,rest⟩:=x
   simp only
   by_cases h10:n.kind=10
   ·rw [dT h10,cT,oB,if_pos h10];rfl
   ·rw [dF h10,cF_,oB,oB,if_neg h10];rfl
  | none =>
   simp only
   refine (eR _ (fun n f g hfg=>by rw [hfg _ (by simp),hfg _ (by simp),hfg _ (by simp)])).trans ?_
   cases hr:latA t q.right with
   | some x =>
    obtain ⟨n,rest⟩:=x
    simp only
    by_cases h9:n.kind=9
    ·rw [dT h9,cT,oB,if_pos h9];rfl
    ·rw [dF h9,cF_,oB,oB,if_neg h9];rfl
   | none =>
    simp only
    rw [Su hq h1 h2,oB]
    cases h5:FW t q with
    | true=>rw [if_pos rfl,if_pos rfl];rfl
    | false =>
     rw [if_neg (by simp),if_neg (by simp)]
     show (Br t (toS q) FU (3,[]):Option (List Int)).bind _=_
     rw [QB hq h1,oB];unfold Do
     cases hk:Cp t q.left with
     | nil=>rfl
     | cons k m =>
      cases m with
      | nil =>
       obtain ⟨_,⟨i0,hi0,hk0⟩,_⟩:=FK hk
       have hlne:ofK t q.left k≠[]:=fun e=>by have:=mem_ofK.2 ⟨hi0,hk0⟩;rw [e] at this;cases this
       have hL:∀ i∈ofK t q.left k,In t i:=fun i hi=>hq.1 i (mem_ofK.1 hi).1
       have hR:∀ i∈ofK t q.right k,In t i:=fun i hi=>hq.2 i (mem_ofK.1 hi).1
       have hll:(ofK t q.left k).length<=500:=Nat.le_trans (List.length_filter_le _ _) h1
       have hrl:(ofK t q.right k).length<=500:=Nat.le_trans (List.length_filter_le _ _) h2
       simp only [List.length_cons,List.length_nil];rw [dF (by omega),cF_,dF (by omega),cF_,show idx [k] 0=some k from rfl,oB,oB,Sy hq.1 (by omega),oB,oB,Sy hq.2 (by omega),oB,Qn hO hN hL hR (by omega) (by omega) hlne,oB]
      | cons b m =>
       simp only [List.length_cons];rw [dF (by omega),cF_,dT (by omega),cT];rfl
end Go.Proofs.YtkfnogdccpcmhaaGreatDoor
namespace Go.Proofs.YtkfnogdccpcmhaaGreatDoor
open Go.V
open Classical
theorem RL (a b:RSeq) (h1:a.l.length<=3000) (h2:a.r.length<=3000):GS a b=some (decide (a=b)):=by
 obtain ⟨al,ar⟩:=a;obtain ⟨bl,br⟩:=b;unfold GS
 simp only
 rw [Kg _ _ h1,oB]
 by_cases hl:al=bl
 ·rw [dT hl,cT,Kg _ _ h2,oB,oB]
  congr 1
  exact decide_eq_decide.2 ⟨fun h=>by have h:ar=br:=h;rw [hl,h],fun h=>(RSeq.mk.inj h).2⟩
 ·rw [dF hl,cF_,oB]
  congr 1
  exact (dF fun h=>hl (RSeq.mk.inj h).1).symm
def SmS (s:RSeq):Prop:=s.l.length<=3000/\s.r.length<=3000
theorem TV {x4:List RSeq} {k:Nat} {x:RSeq} (hk:x4[k]? = some x) (l4:List RSeq) (hs:∀ s∈l4,SmS s) (hl:l4.length<=2000000000000):CQ x4 (k:Int) l4 FU (false,0)=some (decide (x∈l4)):=by
 obtain ⟨o,e1,e2⟩:=AR (φ:=fun n i (b:Bool)=>CQ x4 (k:Int) l4 n (b,i)) (l:=l4) (fun i b=>(b=true->x∈l4)/\(b=false->x∉l4.take i)) (fun o=>o=decide (x∈l4))
  (by
   rintro n i y b hy hi ⟨h1,h2⟩;simp only [CQ];rw [dT (show (i:Int)<(l4.length:Int) by omega)]
   cases b with
   | true =>
    right
    simp only [Bool.not_true,Bool.and_false,cF_];exact ⟨_,rfl,(dT (h1 rfl)).symm⟩
   | false =>
    left
    have hsy:=hs y (List.mem_of_getElem? hy)
    rw [Bool.not_false,Bool.and_true,cT,getI hy,oB,getI hk,oB,RL y x hsy.1 hsy.2,oB,Ab (by constructor <;> omega)];refine ⟨_,rfl,fun h=>?_,fun h hm=>?_⟩
    ·rw [<- of_decide_eq_true h];exact List.mem_of_getElem? hy
    ·rw [takeS hy] at hm
     rcases List.mem_append.1 hm with hm | hm
     ·exact h2 rfl hm
     ·rw [List.mem_singleton] at hm
      exact of_decide_eq_false h hm.symm)
  (by
   rintro n b ⟨h1,h2⟩;simp only [CQ];rw [dF (by omega),Bool.false_and,cF_];refine ⟨b,rfl,?_⟩
   cases b with
   | true=>exact (dT (h1 rfl)).symm
   | false=>exact (dF (by have:=h2 rfl;rwa [List.take_length] at this)).symm) (by rw [FUv];omega) false ⟨fun h=>by (cases h),fun _=>by simp⟩
 rw [e1,e2]
noncomputable def addS (l x:List RSeq):List RSeq:=x.foldl (fun acc s=>if s∈acc then acc else acc++[s]) l
theorem Q6 (l x:List RSeq) (s:RSeq):addS l (x++[s])=if s∈addS l x then addS l x else addS l x++[s]:=by unfold addS;rw [List.foldl_append];rfl
theorem SA (l:List RSeq):∀ x:List RSeq,(addS l x).length<=l.length+x.length:=by
 intro x
 induction x generalizing l with
 | nil=>exact Nat.le_refl _
 | cons s x ih =>
  have:=ih (if s∈l then l else l++[s])
  have e:addS l (s::x)=addS (if s∈l then l else l++[s]) x:=rfl
  rw [e,List.length_cons]
  split at this <;> rename_i h
  ·rw [if_pos h];omega
  ·rw [if_neg h];simp only [List.length_append,List.length_cons,List.length_nil] at this;omega
theorem KZ (l:List RSeq):∀ x:List RSeq,(∀ s,s∈addS l x↔s∈l\/s∈x)/\(l.Nodup->(addS l x).Nodup)/\∃ e,addS l x=l++e:=by
 intro x
 induction x generalizing l with
 | nil=>exact ⟨fun s=>by simp [addS],fun h=>h,[],by simp [addS]⟩
 | cons s x ih =>
  have e:addS l (s::x)=addS (if s∈l then l else l++[s]) x:=rfl
  rw [e]
  by_cases h:s∈l
  ·rw [if_pos h]
   obtain ⟨a,b,c⟩:=ih l;refine ⟨fun y=>?_,b,c⟩;rw [a y,List.mem_cons]
   constructor
   ·rintro (h | h);exact .inl h;exact .inr (.inr h)
   ·rintro (h2 | rfl | h2)
    ·exact .inl h2
    ·exact .inl h
    ·exact .inr h2
  ·rw [if_neg h]
   obtain ⟨a,b,e2,c⟩:=ih (l++[s]);refine ⟨fun y=>?_,fun hn=>b ?_,[s]++e2,by rw [c,List.append_assoc]⟩
   ·rw [a y,List.mem_append,List.mem_singleton,List.mem_cons]
    constructor
    ·rintro ((h | h) | h)
     ·exact .inl h
     ·exact .inr (.inl h)
     ·exact .inr (.inr h)
    ·rintro (h | h | h)
     ·exact .inl (.inl h)
     ·exact .inl (.inr h)
     ·exact .inr h
   ·rw [List.nodup_append]
    exact ⟨hn,by simp,fun a ha b hb e3=>by rw [List.mem_singleton] at hb;subst hb;subst e3;exact h ha⟩
theorem Tq (x4 l4:List RSeq) (hs:∀ s∈l4,SmS s) (hx:∀ s∈x4,SmS s) (hl:l4.length+x4.length<=2000000000000):Cc x4 FU (0,l4)=some (addS l4 x4):=by
 obtain ⟨o,e1,e2⟩:=AR (φ:=fun n i q=>Cc x4 n (i,q)) (l:=x4) (fun i q=>q=addS l4 (x4.take i)) (fun o=>o=addS l4 x4)
  (by
   rintro n i x q hxi hi rfl
   left
   have hal:=SA l4 (x4.take i)
   rw [List.length_take] at hal
   have hsm:∀ s∈addS l4 (x4.take i),SmS s:=fun s h=>((KZ l4 (x4.take i)).1 s).1 h |>.elim (hs s) (fun h=>hx s (List.mem_of_mem_take h))
   simp only [Cc];rw [dT (show (i:Int)<(x4.length:Int) by omega),cT,TV hxi _ hsm (by omega),oB,takeS hxi,Q6]
   by_cases hm:x∈addS l4 (x4.take i)
   ·rw [dT hm,Bool.not_true,cF_,Ab (by constructor <;> omega),if_pos hm]
    exact ⟨_,rfl,rfl⟩
   ·rw [dF hm,Bool.not_false,cT,getI hxi,oB,Ab (by simp only [List.length_cons,List.length_nil];omega),Ab (by constructor <;> omega),if_neg hm]
    exact ⟨_,rfl,rfl⟩)
  (by
   rintro n q rfl;simp only [Cc];rw [dF (by omega),cF_];exact ⟨_,rfl,by rw [List.take_length]⟩) (by rw [FUv];omega) l4 (by simp [addS])
 rw [e1,e2]
theorem Sb {t:ATy} (hN:∀ n∈t.l,NB n) {k:Int} {l r:List Int} (hL:∀ i∈l,In t i) (hR:∀ i∈r,In t i):(allA t k l r).length<=1000:=by
 unfold allA
 split
 ·exact Gq hN hR
 ·split
  ·exact Gq hN hL
  ·simp
theorem PF {t:ATy} (hN:∀ n∈t.l,NB n) {q:BSq} (hq:InQ t q):(AS t q).2.length<=1000:=by
 unfold AS
 split
 ·simp
 ·split
  ·rename_i l h
   unfold openA at h
   split at h
   ·cases h;split <;> simp
   ·split at h
    ·cases h;split <;> simp
    ·cases h
  ·split
   ·simp
   ·unfold Do
    split
    ·simp
    ·unfold B5
     split
     ·simp
     ·split
      ·simp
      ·split
       ·simp
       ·rw [List.length_map]
        exact Sb hN (fun i hi=>hq.1 i (mem_ofK.1 hi).1) (fun i hi=>hq.2 i (mem_ofK.1 hi).1)
    ·simp
theorem K9 {t:ATy} {q:BSq} {U:List BSq} (hO:OkT t) (hN:∀ n∈t.l,NB n) (ht:t.l.length<=99) (hU:UOk t q U):∀ (n i:Nat) (all:List RSeq),i<=all.length->U.length - i<n->all.Nodup->(∀ s∈all,Rch t q (ofS s)) ->
  (∀ j s,j<i->all[j]? = some s->(AS t (ofS s)).1=false/\∀ s'∈(AS t (ofS s)).2,toS s'∈all)->toS q∈all ->
  ∃ o,DE t n ((i:Int),all)=some o/\((o = .ret false/\∃ s,Rch t q s/\(AS t s).1=true)\/(∃ l,o = .go l/\∀ s,Rch t q s->(AS t s).1=false))
 | 0,i,all,_,h,_,_,_,_=>by omega
 | n+1,i,all,hi,hn,hnd,hr,hp,hqa=>by
  have hlen:all.length<=U.length:=by
   have h1:(all.map ofS).Nodup:=by
    unfold List.Nodup;rw [List.pairwise_map];exact hnd.imp (fun {a b} h e=>h (by have:=congrArg toS e;exact this))
   have:=Kc (all.map ofS) U h1 (fun s hs=>by obtain ⟨x,hx,rfl⟩:=List.mem_map.1 hs;exact hU.rch (hr x hx))
   rwa [List.length_map] at this
  have hUl:=hU.len
  have hsml:∀ s∈U,s.left.length<=99/\s.right.length<=99:=fun s hs=>⟨Nat.le_trans (KK (hU.srt s hs).1 (hU.inn s hs).1) ht,Nat.le_trans (KK (hU.srt s hs).2 (hU.inn s hs).2) ht⟩
  have hsm:∀ s∈all,SmS s:=fun s hs=>by have:=hsml _ (hU.rch (hr s hs));exact ⟨by have:=this.1;show (ofS s).left.length<=3000;omega,by have:=this.2;show (ofS s).right.length<=3000;omega⟩
  simp only [DE]
  by_cases hie:i=all.length
  ·rw [dF (by omega),cF_]
   refine ⟨_,rfl,.inr ⟨all,rfl,fun s hs=>?_⟩⟩
   have key:∀ s,Rch t q s->toS s∈all:=by
    intro s hs
    induction hs with
    | refl=>exact hqa
    | step h1 h2 ih =>
     obtain ⟨j,hj⟩:=List.getElem?_of_mem ih;exact (hp j _ (by have:=(List.getElem?_eq_some_iff.1 hj).1;omega) hj).2 _ h2
   obtain ⟨j,hj⟩:=List.getElem?_of_mem (key s hs);exact (hp j _ (by have:=(List.getElem?_eq_some_iff.1 hj).1;omega) hj).1
  ·have hil:i<all.length:=by omega
   have hx:all[i]? = some all[i]:=List.getElem?_eq_getElem hil
   have hxr:=hr _ (List.getElem_mem hil)
   have hxU:=hU.rch hxr
   have hxs:=hsml _ hxU
   rw [dT (by omega),cT,getI hx,oB,show Fc t all[i]=some ((AS t (ofS all[i])).2.map toS,!(AS t (ofS all[i])).1) from Rb hO hN (hU.inn _ hxU) (by omega) (by omega),oB];simp only [Bool.not_not]
   cases hf:(AS t (ofS all[i])).1 with
   | true=>rw [cT];exact ⟨_,rfl,.inl ⟨rfl,_,hxr,hf⟩⟩
   | false =>
    rw [cF_]
    have hnew:∀ s∈(AS t (ofS all[i])).2,Rch t q s:=fun s hs => .step hxr hs
    have hll:=PF hN (hU.inn _ hxU)
    rw [Tq _ _ hsm (fun s hs=>by
     obtain ⟨y,hy,rfl⟩:=List.mem_map.1 hs
     have:=hsml _ (hU.rch (hnew y hy))
     exact ⟨by show y.left.length<=3000;omega,by show y.right.length<=3000;omega⟩) (by rw [List.length_map];omega),oB,Ab (by constructor <;> omega)]
    obtain ⟨a1,a2,e,a3⟩:=KZ all ((AS t (ofS all[i])).2.map toS)
    have hpre:∀ j s,j<all.length->(addS all ((AS t (ofS all[i])).2.map toS))[j]? = some s->all[j]? = some s:=fun j s hj h=>by
     rw [a3,List.getElem?_append_left hj] at h;exact h
    exact K9 hO hN ht hU n (i+1) _ (by rw [a3,List.length_append];omega) (by omega) (a2 hnd) (fun s hs=>by
     rcases (a1 s).1 hs with h | h
     ·exact hr s h
     ·obtain ⟨y,hy,rfl⟩:=List.mem_map.1 h;exact hnew y hy) (fun j s hj hjs=>by
     have hjs2:=hpre j s (by omega) hjs
     by_cases hji:j=i
     ·subst hji
      rw [hx] at hjs2;cases hjs2
      exact ⟨hf,fun s' hs'=>(a1 _).2 (.inr (List.mem_map.2 ⟨s',hs',rfl⟩))⟩
     ·obtain ⟨b1,b2⟩:=hp j s (by omega) hjs2
      exact ⟨b1,fun s' hs'=>(a1 _).2 (.inl (b2 s' hs'))⟩) ((a1 _).2 (.inl hqa))
theorem MK {t:ATy} {l r:List Int} {U:List BSq} (hO:OkT t) (hN:∀ n∈t.l,NB n) (ht:t.l.length<=99) (hl:l.length<=1000) (hr:r.length<=1000) (hU:UOk t ⟨cs l,cs r⟩ U):FO t l r=some (decide (Valid t ⟨cs l,cs r⟩)):=by
 unfold FO;rw [Gl (by omega),oB,Gl (by omega),oB]
 have hUl:=hU.len
 obtain ⟨o,e1,h⟩:=K9 hO hN ht hU FU 0 [toS ⟨cs l,cs r⟩] (by simp) (by rw [FUv];omega) (by simp) (fun s hs=>by rw [List.mem_singleton] at hs;subst hs;exact .refl) (fun j s hj=>by omega) (by simp)
 have e1:DE t FU (0,[(⟨cs l,cs r⟩:RSeq)])=some o:=e1
 rw [e1,oB]
 have hv:=MW hO (hU.inn _ hU.mem)
 rcases h with ⟨rfl,s,hs,hf⟩ | ⟨l',rfl,h⟩
 ·have:¬ Valid t ⟨cs l,cs r⟩:=fun h=>by have:=hv.2 h s hs;rw [hf] at this;cases this
  rw [dF this];rfl
 ·rw [dT (hv.1 h)];rfl
theorem HW (x:Int):cs [x]=[x]:=(Qa (l:=[x]) (m:=[x]) (by simp) (fun _=>Iff.rfl)).symm
end Go.Proofs.YtkfnogdccpcmhaaGreatDoor
namespace Go.Proofs.YtkfnogdccpcmhaaGreatDoor
open Go.V
open Classical
theorem MZ {a b:ATy} (ha:MayO a) (hb:MayO b) (hl:a.l.length+b.l.length<=38):CN a b=some (decide (Sub a b)):=by
 unfold CN
 have hr:=hb.root
 rw [MS a b (by omega) (by omega) hb.nb hb.ok.right,oB]
 simp only
 rw [Ab (by have:=hr.1;have:=hr.2;constructor <;> omega)];obtain ⟨U,hU⟩:=PO ha hb hl;rw [show (⟨(AM a b).l,(AM a b).root⟩:ATy)=AM a b from rfl,MK (Jp ha.ok hb.ok) (JU ha.nb hb.nb) (by rw [ED];omega) (by simp) (by simp) (by rw [HW,HW];exact hU),oB,HW,HW]
 congr 1
 exact decide_eq_decide.2 (Io ha hb)
theorem Sn {a b:ATy} (ha:a.l.length<=2001) (hb:b.l.length<=2001) (hNa:∀ n∈a.l,NB n) (hNb:∀ n∈b.l,NB n) (hl:mayT a.l a.root=0->mayT b.l b.root=0->a.l.length+b.l.length<=38) :
  Dx a b=some (if mayT a.l a.root=0 then if mayT b.l b.root=0 then (decide (Sub a b)&&decide (Sub b a),0) else (false,mayT b.l b.root) else (false,mayT a.l a.root)):=by
 unfold Dx;rw [S4 ha hb hNa hNb,oB]
 by_cases h:mayT a.l a.root=0
 ·rw [if_pos h,if_pos h]
  by_cases h2:mayT b.l b.root=0
  ·have hl:=hl h h2
   rw [dT h2,Bool.not_true,cF_,Ow ⟨h,hNa⟩ ⟨h2,hNb⟩ hl,oB,Ow ⟨h2,hNb⟩ ⟨h,hNa⟩ (by omega),if_pos h2]
   cases decide (Sub a b) <;> rfl
  ·rw [dF h2,Bool.not_false,cT,if_neg h2]
 ·rw [if_neg h,if_neg h,dF h,Bool.not_false,cT]
end Go.Proofs.YtkfnogdccpcmhaaGreatDoor
