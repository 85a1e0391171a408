/- Part 9 of the proof: a program logic, what the functions compute, and what these answer; no condition. -/
import Derived.Test.YtcoghblhdjmbfaaGreatb8
set_option linter.unusedVariables false
set_option linter.unusedSimpArgs false
set_option maxRecDepth 100000
namespace Go.Proofs.YtcoghblhdjmbfaaGreat
open Go.V
open Classical
theorem RW (n:ANd) (p:Int->Option Int) (f:Int->Int) (h:NB n) (h1:pB n.kind=true->p n.a=some (f n.a)/\p n.b=some (f n.b)) (h2:∀ x∈n.l,p x.at_=some (f x.at_)):EA n p=some (Aq f n):=by
 unfold EA Aq;unfold NB at h;rw [show C4 n.kind=some (pB n.kind) from rfl,oB]
 have key:∀ z1 z2 z3,Ck p n.l FU (0,n.l,z1,z2,z3)=some (n.l.map (fun x=>⟨x.name,f x.at_⟩),z1,z2,z3):=by
  intro z1 z2 z3
  refine Kw (φ:=fun k i s=>Ck p n.l k (i,s,z1,z2,z3)) (l:=n.l) (fun x=>⟨x.name,f x.at_⟩) (fun s=>(s,z1,z2,z3)) ?_ ?_ (by rw [FUv];omega)
  ·intro k i x s hx hi hs hsx
   simp only [Ck];rw [dT (show (i:Int)<n.l.length by omega),cT,getI hsx,oB,h2 x (List.mem_of_getElem? hx),oB,oB,Ab (by omega),Int.toNat_natCast]
  ·intro k s hs
   simp only [Ck];rw [dF (by omega),cF_]
 cases hp:pB n.kind with
 | true =>
  obtain ⟨ha,hb⟩:=h1 hp;rw [cT,ha,oB,hb,oB,oB]
  dsimp only
  rw [Ab (by omega),key,oB];rfl
 | false =>
  rw [cF_,oB]
  dsimp only
  rw [Ab (by omega),key,oB];rfl
theorem RA {n:ANd} {f:Int->Int} (h:NB n):NB (Aq f n):=by unfold NB Aq at *;simpa using h
theorem Mx {B:List Int} {i:Nat} {x:Int} (hn:B.Nodup) (hx:B[i]? = some x):B.idxOf x=i:=by
 have hi:=getLt hx
 have e:B[i]=x:=by rw [List.getElem?_eq_getElem hi] at hx;exact Option.some.inj hx
 rw [<- e];exact List.Nodup.idxOf_getElem hn i hi
def BC (L:List ANd) (x:Int):ANd:=match L[x.toNat]? with
 | some n=>n
 | none=>⟨0,0,0,[]⟩
noncomputable def posOf (B:List Int) (k:Int):Int:=if k∈B then ((B.idxOf k:Nat):Int) else 0
theorem Gv {L:List ANd} {x:Int} (h0:0<=x) (h1:x<(L.length:Int)):idx L x=some (BC L x)/\BC L x∈L:=by
 have hn:L[x.toNat]? = some (L[x.toNat]'(by omega)):=List.getElem?_eq_getElem (by omega)
 unfold BC idx;rw [if_pos h0,hn];exact ⟨rfl,List.getElem_mem _⟩
theorem Pk:∀ (xs l:List Int) (mm:List (Int×Int)),xs.Nodup->l.length+xs.length<=1000000->∃ mm',Cx xs (l,mm)=some (l++xs,mm')/\∀ k,mget mm' k=if k∈xs then some (((l.length+xs.idxOf k:Nat)):Int) else mget mm k
 | [],l,mm,_,_=>⟨mm,by simp [Cx],fun k=>by simp⟩
 | x::xs,l,mm,hn,hl=>by
  rw [List.nodup_cons] at hn;simp only [List.length_cons] at hl;obtain ⟨mm',e1,e2⟩:=Pk xs (l++[x]) (mset mm x (l.length:Int)) hn.2 (by simp only [List.length_append,List.length_cons,List.length_nil];omega);refine ⟨mm',?_,fun k=>?_⟩
  ·unfold Cx
   rw [Ab (by simp only [List.length_cons,List.length_nil];omega),e1];simp
  ·rw [e2 k,Tp]
   by_cases hk:k∈xs
   ·have hkx:¬ x=k:=fun e=>hn.1 (e▸hk)
    rw [if_pos hk,if_pos (by simp [hk]),List.idxOf_cons]
    have:(x == k)=false:=by simp [hkx]
    rw [this];simp only [List.length_append,List.length_cons,List.length_nil,cF_]
    congr 2;omega
   ·rw [if_neg hk]
    by_cases hkx:k=x
    ·subst hkx
     rw [if_pos rfl,if_pos (by simp),List.idxOf_cons]
     simp
    ·rw [if_neg hkx,if_neg (by simp [hk,hkx])]
noncomputable def normL (L:List ANd) (root:Int):List ANd:=(Ax L root).map (fun x=>Aq (posOf (Ax L root)) (BC L x))
theorem S3 {t:ATy} (hA:BZ t.l) (hN:∀ n∈t.l,NB n) (hlen:t.l.length<=2001) {root:Int} (h0:0<=root) (h1:root<(t.l.length:Int)):E1 t root=some ⟨normL t.l root,0⟩:=by
 obtain ⟨b1,b2,b3⟩:=CF (AP hA) h0 h1;unfold E1;rw [Rj (AP hA) hN hlen h0 h1,oB]
 generalize hB:Ax t.l root=B at *
 obtain ⟨mm,e1,e2⟩:=Pk B [] [] b2 (by simp only [List.length_nil];omega);rw [List.nil_append] at e1;rw [e1,oB]
 dsimp only
 have hp:∀ k,D6 k mm=some (posOf B k):=by
  intro k
  unfold D6 posOf;rw [e2 k]
  by_cases hk:k∈B
  ·rw [if_pos hk,if_pos hk];simp
  ·rw [if_neg hk,if_neg hk];rfl
 rw [BW (φ:=fun n i s=>CU t B mm n (i,s,0)) (l:=B) (fun x=>Aq (posOf B) (BC t.l x)) (fun s=>(s,0)) 0 ?_ ?_ (by rw [FUv];omega) [] rfl]
 ·rw [oB]
  dsimp only
  unfold normL;rw [hB];rfl
 ·intro n i x s hx hi hs
  obtain ⟨x0,x1⟩:=b1 x (List.mem_of_getElem? hx);obtain ⟨ix,hm⟩:=Gv x0 x1;simp only [CU];rw [dT (show (i:Int)<B.length by omega),cT,getI hx,oB,ix,oB,RW _ _ (posOf B) (hN _ hm) (fun _=>⟨hp _,hp _⟩) (fun y _=>hp _),oB,Ab (by simp only [List.length_cons,List.length_nil];omega),Ab (by omega)]
 ·intro n s hs
  simp only [CU];rw [dF (by omega),cF_]
theorem N3 {L:List ANd} (hR:InL L) (hN:∀ n∈L,NB n) {root:Int} (h0:0<=root) (h1:root<(L.length:Int)):(∀ n∈normL L root,NB n)/\(normL L root).length<=L.length:=by
 obtain ⟨b1,b2,b3⟩:=CF hR h0 h1;unfold normL;refine ⟨fun n hn=>?_,by rw [List.length_map];exact b3⟩;obtain ⟨x,hx,rfl⟩:=List.mem_map.1 hn;obtain ⟨x0,x1⟩:=b1 x hx;exact RA (hN _ (Gv x0 x1).2)
noncomputable def normT (t:ATy):ATy×Int:=if mayT t.l t.root=0 then (⟨normL t.l t.root,0⟩,0) else (⟨[],0⟩,mayT t.l t.root)
theorem UY (t:ATy) (hlen:t.l.length<=2001) (hN:∀ n∈t.l,NB n):En t=some (normT t):=by
 unfold En normT;rw [UU t hlen hN,oB]
 by_cases h:mayT t.l t.root=0
 ·obtain ⟨_,_,r0,r1,hA,_⟩:=Eu h
  rw [dT h,if_pos h,Bool.not_true,cF_,S3 hA hN hlen r0 r1,oB]
 ·rw [dF h,if_neg h];rfl
theorem Kz (f:Int->Int) (n:ANd):kidsL (Aq f n)=(kidsL n).map f:=by
 unfold kidsL Aq
 dsimp only
 cases pB n.kind
 ·cases wB n.kind
  ·rfl
  ·simp only [cF_,cT,List.map_map];rfl
 ·rfl
theorem E6 (f g:Int->Int) (n:ANd):Aq f (Aq g n)=Aq (fun k=>f (g k)) n:=by
 unfold Aq
 dsimp only
 cases pB n.kind <;> simp [List.map_map,Function.comp_def]
theorem MO {n:ANd} {all:Int} {f g:Int->Int} (hr:AY n all=true) (h:∀ k∈kidsL n,f k=g k):Aq f n=Aq g n:=by
 have hw:=IU hr
 unfold kidsL at h;unfold Aq
 cases hp:pB n.kind with
 | true =>
  rw [hp,cT] at h
  have hl:n.l=[]:=hw (by
   cases hq:wB n.kind with
   | false=>rfl
   | true=>rw [Se hq] at hp;cases hp)
  rw [hl,cT,cT,cT,cT,h n.a (by simp),h n.b (by simp)]
  rfl
 | false =>
  rw [hp,cF_] at h;rw [cF_,cF_,cF_,cF_]
  cases hq:wB n.kind with
  | false=>rw [hw hq];rfl
  | true =>
   rw [hq,cT] at h
   congr 1
   exact List.map_congr_left fun x hx=>by rw [h x.at_ (List.mem_map.2 ⟨x,hx,rfl⟩)]
theorem Nn {n:ANd} {f:Int->Int} (h:D1 n):D1 (Aq f n):=by
 intro i x hx
 have hx2:(n.l.map (fun x=>(⟨x.name,f x.at_⟩:AFd)))[i]? = some x:=hx
 rw [List.getElem?_map] at hx2
 cases h0:n.l[i]? with
 | none=>rw [h0] at hx2;cases hx2
 | some x0 =>
  rw [h0] at hx2
  have e:=Option.some.inj hx2
  subst e;obtain ⟨h1,h2⟩:=h i x0 h0;refine ⟨h1,fun hi y hy=>?_⟩
  have hy2:(n.l.map (fun x=>(⟨x.name,f x.at_⟩:AFd)))[i - 1]? = some y:=hy
  rw [List.getElem?_map] at hy2
  cases h3:n.l[i - 1]? with
  | none=>rw [h3] at hy2;cases hy2
  | some y0 =>
   rw [h3] at hy2
   have e:=Option.some.inj hy2
   subst e;exact h2 hi y0 h3
theorem N2 {n:ANd} {all all':Int} {f:Int->Int} (h:AY n all=true) (hf:∀ k∈kidsL n,0<=f k/\f k<all'):AY (Aq f n) all'=true:=by
 unfold AY at h ⊢;simp only [Bool.and_eq_true] at h ⊢;obtain ⟨h1,h2,h3,h4,⟨h5,h6⟩,_⟩:=h;refine ⟨h1,?_,?_,?_,⟨?_,?_⟩,?_⟩
 ·show (!((!pB n.kind)&&((!decide ((Aq f n).b=0))||((!decide (n.kind=11))&&(!decide ((Aq f n).a=0))))))=true
  cases hp:pB n.kind with
  | true=>rfl
  | false =>
   rw [hp] at h2;unfold Aq
   dsimp only
   rw [hp,cF_,cF_];exact h2
 ·show (!(decide (n.kind=11)&&(decide ((Aq f n).a<0)||decide (999<(Aq f n).a))))=true
  cases hp:pB n.kind with
  | true =>
   have h11:¬ n.kind=11:=fun e=>by rw [e] at hp;exact absurd hp (by decide)
   rw [dF h11];rfl
  | false =>
   unfold Aq
   dsimp only
   rw [hp,cF_];exact h3
 ·show (!((!wB n.kind)&&decide (0<((Aq f n).l.length:Int))))=true
  unfold Aq;simp only [List.length_map];exact h4
 ·rw [decide_eq_true_eq] at h5 ⊢
  exact Nn h5
 ·unfold Aq
  simp only [List.length_map];exact h6
 ·rw [Bool.not_eq_true',decide_eq_false_iff_not]
  rintro ⟨k,hk,hb⟩;rw [Kz] at hk;obtain ⟨q,hq,rfl⟩:=List.mem_map.1 hk;obtain ⟨q0,q1⟩:=hf q hq;unfold inB at hb;rw [Bool.or_eq_true,decide_eq_true_eq,decide_eq_true_eq] at hb
  omega
theorem G7 (L:List ANd) (x:Int):kat L x=kidsL (BC L x):=by
 unfold kat BC
 cases L[x.toNat]? <;> rfl
theorem HR {L:List ANd} {x:Int} (h0:0<=x) (h1:x<(L.length:Int)):L[x.toNat]? = some (BC L x):=by
 have hn:L[x.toNat]? = some (L[x.toNat]'(by omega)):=List.getElem?_eq_getElem (by omega)
 unfold BC;rw [hn]
structure EmbL (L M:List ANd) (B:List Int) (f:Int->Int):Prop where
 inn:∀ x∈B,0<=x/\x<(L.length:Int)
 closed:∀ x∈B,∀ k∈kidsL (BC L x),k∈B
 inj:∀ x∈B,∀ y∈B,f x=f y->x=y
 out:∀ x∈B,0<=f x/\f x<(M.length:Int)
 node:∀ x∈B,BC M (f x)=Aq f (BC L x)
theorem MS {K K':Int->List Int} {D:Int->Prop} {f:Int->Int} (hK:∀ x,D x->K' (f x)=(K x).map f/\∀ k∈K x,D k) (hi:∀ x y,D x->D y->f x=f y->x=y) :
  ∀ (n:Nat) (s out:List Int),(∀ x∈s,D x)->(∀ x∈out,D x)->dfs K' n (s.map f) (out.map f)=(dfs K n s out).map f
 | 0,s,out,_,_=>by simp [dfs]
 | n+1,[],out,_,_=>by simp [dfs]
 | n+1,x::s,out,hs,ho=>by
  have hx:=hs x (by simp)
  rw [List.map_cons];unfold dfs
  have e:f x∈out.map f↔x∈out:=⟨fun h=>by
   obtain ⟨y,hy,he⟩:=List.mem_map.1 h;rw [<- hi y x (ho y hy) hx he];exact hy,fun h=>List.mem_map.2 ⟨x,h,rfl⟩⟩
  by_cases hm:x∈out
  ·rw [if_pos hm,if_pos (e.2 hm)]
   exact MS hK hi n s out (fun y hy=>hs y (by simp [hy])) ho
  ·rw [if_neg hm,if_neg (fun h=>hm (e.1 h)),(hK x hx).1,<- List.map_append,show out.map f++[f x]=(out++[x]).map f by simp]
   refine MS hK hi n _ _ (fun y hy=>?_) (fun y hy=>?_)
   ·rcases List.mem_append.1 hy with hy | hy
    ·exact (hK x hx).2 y hy
    ·exact hs y (by simp [hy])
   ·rcases List.mem_append.1 hy with hy | hy
    ·exact ho y hy
    ·simp at hy;subst hy;exact hx
theorem EG {L:List ANd} (hR:InL L) (hN:∀ n∈L,NB n) (hlen:L.length<=2001) {root:Int} (h0:0<=root) (h1:root<(L.length:Int)) :
  (∀ x∈Ax L root,∀ k∈kidsL (BC L x),k∈Ax L root)/\∃ ys,Ax L root=root::ys:=by
 have hw:=Jc hN []
 obtain ⟨i1,i2⟩:=Hv hR FU [root] [] (fun x hx=>by simp at hx;subst hx;exact ⟨h0,h1⟩) (by rw [FUv];simp only [List.length_cons,List.length_nil];omega);refine ⟨fun x hx k hk=>?_,?_⟩
 ·rw [<- G7] at hk
  rcases i2 x hx with h | h
  ·simp at h
  ·exact h k hk
 ·obtain ⟨m,hm⟩:∃ m,FU=m+1:=⟨18446744073709551615,by rw [FUv]⟩
  unfold Ax;rw [hm];unfold dfs;rw [if_neg (by simp)];obtain ⟨ys,e⟩:=Gs (kat L) m (kat L root++[]) ([]++[root]);exact ⟨ys,by rw [e];rfl⟩
theorem Mg {f:Int->Int} {k:Int}:∀ B:List Int,(∀ x∈B,f x=f k->x=k)->(B.map f).idxOf (f k)=B.idxOf k
 | [],_=>rfl
 | x::B,h=>by
  rw [List.map_cons,List.idxOf_cons,List.idxOf_cons]
  by_cases e:x=k
  ·subst e;simp
  ·have e2:¬ f x=f k:=fun h2=>e (h x (by simp) h2)
   rw [show (f x == f k)=false by simp [e2],show (x == k)=false by simp [e],cF_,cF_,Mg B (fun y hy=>h y (by simp [hy]))]
theorem R3 {L M:List ANd} {root:Int} {f:Int->Int} (E:EmbL L M (Ax L root) f) (hr:root∈Ax L root):Ax M (f root)=(Ax L root).map f:=by
 have:=MS (K:=kat L) (K':=kat M) (D:=fun x=>x∈Ax L root) (f:=f) (fun x hx=>⟨by rw [G7,G7,E.node x hx,Kz],fun k hk=>by rw [G7] at hk;exact E.closed x hx k hk⟩) (fun x y hx hy=>E.inj x hx y hy) FU [root] [] (fun x hx=>by simp at hx;subst hx;exact hr) (fun x hx=>by simp at hx)
 exact this
theorem SF {L M:List ANd} {root:Int} {f:Int->Int} (hA:BZ L) (E:EmbL L M (Ax L root) f) (hr:root∈Ax L root):normL M (f root)=normL L root:=by
 unfold normL;rw [R3 E hr,List.map_map];refine List.map_congr_left fun x hx=>?_;obtain ⟨x0,x1⟩:=E.inn x hx
 show Aq _ (BC M (f x))=_
 rw [E.node x hx,E6];refine MO (hA _ (Gv x0 x1).2) fun k hk=>?_
 have hkB:=E.closed x hx k hk
 show posOf ((Ax L root).map f) (f k)=posOf (Ax L root) k
 unfold posOf;rw [if_pos hkB,if_pos (List.mem_map.2 ⟨k,hkB,rfl⟩),Mg _ (fun y hy e=>E.inj y hy k hkB e)]
theorem KZ {L M:List ANd} {B:List Int} {f:Int->Int} (E:EmbL L M B f):∀ (k:Nat) (x:Int),x∈B->endk M k (f x).toNat=endk L k x.toNat
 | 0,_,_=>rfl
 | k+1,x,hx=>by
  obtain ⟨x0,x1⟩:=E.inn x hx;obtain ⟨y0,y1⟩:=E.out x hx;unfold endk;rw [HR x0 x1,HR y0 y1,E.node x hx]
  show (!latB (BC L x).kind||(endk M k (Aq f (BC L x)).a.toNat&&endk M k (Aq f (BC L x)).b.toNat))=(!latB (BC L x).kind||(endk L k (BC L x).a.toNat&&endk L k (BC L x).b.toNat))
  cases hl:latB (BC L x).kind with
  | false=>rfl
  | true =>
   have hk:=DM hl
   have hc:=E.closed x hx
   rw [hk] at hc
   have hp:pB (BC L x).kind=true:=by
    unfold latB at hl;unfold pB
    rw [Bool.or_eq_true,decide_eq_true_eq,decide_eq_true_eq] at hl
    rcases hl with h | h <;> rw [h] <;> rfl
   have ha:(Aq f (BC L x)).a=f (BC L x).a:=by unfold Aq;rw [hp];rfl
   have hb:(Aq f (BC L x)).b=f (BC L x).b:=by unfold Aq;rw [hp];rfl
   rw [ha,hb,KZ E k _ (hc _ (by simp)),KZ E k _ (hc _ (by simp))]
theorem K3 {B:List Int} {k:Int} (h:k∈B):0<=posOf B k/\posOf B k<(B.length:Int):=by
 unfold posOf;rw [if_pos h]
 have:=List.idxOf_lt_length_of_mem h
 omega
theorem J2 {B:List Int} {k:Int} (h:k∈B):B[(posOf B k).toNat]? = some k:=by
 unfold posOf;rw [if_pos h,Int.toNat_natCast]
 have hlt:=List.idxOf_lt_length_of_mem h
 rw [List.getElem?_eq_getElem hlt,List.getElem_idxOf hlt]
theorem R5 {B:List Int} {x y:Int} (hx:x∈B) (hy:y∈B) (h:posOf B x=posOf B y):x=y:=by
 have h1:=J2 hx
 have h2:=J2 hy
 rw [h,h2] at h1;exact (Option.some.inj h1).symm
theorem OP {L:List ANd} {root x:Int} (hx:x∈Ax L root):(normL L root)[(posOf (Ax L root) x).toNat]? = some (Aq (posOf (Ax L root)) (BC L x)):=by
 unfold normL;rw [List.getElem?_map,J2 hx];rfl
theorem G5 (L:List ANd) (root:Int):(normL L root).length=(Ax L root).length:=by unfold normL;rw [List.length_map]
theorem RZ {L:List ANd} {root:Int} (hR:InL L) (hN:∀ n∈L,NB n) (hlen:L.length<=2001) (h0:0<=root) (h1:root<(L.length:Int)) (X:List ANd) :
  EmbL L (normL L root++X) (Ax L root) (posOf (Ax L root)):=by
 obtain ⟨b1,b2,b3⟩:=CF hR h0 h1;refine ⟨b1,(EG hR hN hlen h0 h1).1,fun x hx y hy=>R5 hx hy,fun x hx=>?_,fun x hx=>?_⟩
 ·have:=K3 hx
  rw [List.length_append,G5];omega
 ·have h2:=OP hx
  have h3:=getLt h2
  unfold BC;rw [List.getElem?_append_left h3,h2]
  rfl
theorem UR {L:List ANd} {r:Int} (h1:0<L.length) (h2:L.length<=2000) (h3:0<=r) (h4:r<(L.length:Int)) (h5:BZ L) (h6:EJ L):mayT L r=0:=by
 unfold mayT;rw [if_neg (by omega),if_neg (by omega),if_pos ⟨h5,h6⟩]
theorem OA {L:List ANd} {root:Int} (hA:BZ L) (hN:∀ n∈L,NB n) (hlen:L.length<=2001) (h0:0<=root) (h1:root<(L.length:Int)) (f:Int->Int) (all:Int) (hf:∀ k,0<=k->k<((normL L root).length:Int)->0<=f k/\f k<all) :
  ∀ n∈normL L root,AY (Aq f n) all=true:=by
 obtain ⟨b1,b2,b3⟩:=CF (AP hA) h0 h1
 intro n hn
 unfold normL at hn;obtain ⟨x,hx,rfl⟩:=List.mem_map.1 hn;obtain ⟨x0,x1⟩:=b1 x hx;rw [E6];refine N2 (hA _ (Gv x0 x1).2) fun k hk=>?_
 have hp:=K3 ((EG (AP hA) hN hlen h0 h1).1 x hx k hk)
 rw [<- G5] at hp;exact hf _ hp.1 hp.2
theorem PA (n:ANd):Aq (fun k=>k) n=n:=by
 unfold Aq
 cases pB n.kind <;> simp
theorem Sw {L M:List ANd} {root:Int} {f:Int->Int} (hE:EJ L) (E:EmbL L M (Ax L root) f) {x:Int} (hx:x∈Ax L root):Ends M (f x).toNat:=by
 obtain ⟨x0,x1⟩:=E.inn x hx;obtain ⟨k,hk⟩:=hE x.toNat (by omega);exact ⟨k,by rw [KZ E k x hx];exact hk⟩
theorem O9 {L:List ANd} {r:Int} (hl:mayT L r=0) (hN:∀ n∈L,NB n) (hlen:L.length<=2000):mayT (normL L r) 0=0/\normL (normL L r) 0=normL L r:=by
 obtain ⟨_,l2,l3,l4,lA,lE⟩:=Eu hl;obtain ⟨_,ys,ey⟩:=EG (AP lA) hN (by omega) l3 l4
 have hr:r∈Ax L r:=by rw [ey];simp
 have pr:posOf (Ax L r) r=0:=by unfold posOf;rw [if_pos hr,ey];simp
 have El:=RZ (AP lA) hN (by omega) l3 l4 []
 rw [List.append_nil] at El;obtain ⟨_,n2⟩:=N3 (AP lA) hN l3 l4
 have hl0:0<(normL L r).length:=by rw [G5,ey];simp
 refine ⟨?_,?_⟩
 ·refine UR hl0 (by omega) (by omega) (by omega) ?_ ?_
  ·intro n hn
   have:=OA lA hN (by omega) l3 l4 (fun k=>k) ((normL L r).length:Int) (fun k k0 k1=>⟨k0,k1⟩) n hn
   rwa [PA] at this
  ·intro i hi
   have hb:i<(Ax L r).length:=by rw [<- G5];exact hi
   have hx:(Ax L r)[i]? = some ((Ax L r)[i]):=List.getElem?_eq_getElem hb
   have hm2:=List.mem_of_getElem? hx
   have h3:=Sw lE El hm2
   have h4:posOf (Ax L r) ((Ax L r)[i])=(i:Int):=by
    unfold posOf;rw [if_pos hm2,Mx (CF (AP lA) l3 l4).2.1 hx]
   rw [h4,Int.toNat_natCast] at h3;exact h3
 ·have:=SF lA El hr
  rwa [pr] at this
theorem NP {t:ATy} (hlen:t.l.length<=2001) (hN:∀ n∈t.l,NB n) (h:mayT t.l t.root=0):En t=some (⟨normL t.l t.root,0⟩,0):=by
 rw [UY t hlen hN];unfold normT;rw [if_pos h]
theorem Tk {w:ATy} {k no:Int} {B:Int->Prop} (hk:k=9\/k=10) (hB:∀ x,B x->In w x->∀ y∈kidsL (nd w x),B y) {l:List ANd} {i:Int} (h:Rep w k no l i):B i->∀ n∈l,∃ x,B x/\In w x/\nd w x=n:=by
 induction h with
 | none _ _=>intro _ n hn;cases hn
 | @one i hi _ _=>intro hb n hn;rw [List.mem_singleton.1 hn];exact ⟨i,hb,hi,rfl⟩
 | @join i l m hi hkk _ _ ih1 ih2 =>
  intro hb n hn
  have hl:kidsL (nd w i)=[(nd w i).a,(nd w i).b]:=DM (by unfold latB;rcases hk with hk | hk <;> rw [hkk,hk] <;> rfl)
  rcases List.mem_append.1 hn with hn | hn
  ·exact ih1 (hB i hb hi _ (by rw [hl];simp)) n hn
  ·exact ih2 (hB i hb hi _ (by rw [hl];simp)) n hn
theorem Kg {w:ATy} {i:Int} (h:In w i):BC w.l i=nd w i:=by
 have:=HX h
 unfold BC;rw [this]
section
variable {w:ATy}
theorem Jo {x:Int} (hx:x∈Ax w.l w.root) (hi:In w x):In ⟨normL w.l w.root,0⟩ (posOf (Ax w.l w.root) x)/\nd ⟨normL w.l w.root,0⟩ (posOf (Ax w.l w.root) x)=Aq (posOf (Ax w.l w.root)) (nd w x):=by
 have h:=K3 hx
 have hin:In ⟨normL w.l w.root,0⟩ (posOf (Ax w.l w.root) x):=⟨h.1,by show _<((normL w.l w.root).length:Int);rw [G5];exact h.2⟩
 refine ⟨hin,?_⟩
 have e1:=HX hin
 have e2:=OP hx
 rw [show (⟨normL w.l w.root,0⟩:ATy).l=normL w.l w.root from rfl,e2,Kg hi] at e1;exact (Option.some.inj e1).symm
theorem S0 {k no:Int} (hk:k=9\/k=10) (hB:∀ x∈Ax w.l w.root,∀ y∈kidsL (nd w x),y∈Ax w.l w.root) {l:List ANd} {i:Int} (h:Rep w k no l i):i∈Ax w.l w.root->Rep ⟨normL w.l w.root,0⟩ k no (l.map (Aq (posOf (Ax w.l w.root)))) (posOf (Ax w.l w.root) i):=by
 induction h with
 | none hi h =>
  intro hb
  obtain ⟨e1,e2⟩:=Jo hb hi;exact .none e1 (by rw [e2];exact h)
 | @one i hi h9 h10 =>
  intro hb
  obtain ⟨e1,e2⟩:=Jo hb hi
  have:=Rep.one (k:=k) (no:=no) e1 (by rw [e2];exact h9) (by rw [e2];exact h10)
  rw [e2] at this;exact this
 | @join i l m hi hkk _ _ ih1 ih2 =>
  intro hb
  have hlat:latB (nd w i).kind=true:=by unfold latB;rcases hk with hk | hk <;> rw [hkk,hk] <;> rfl
  have hl:kidsL (nd w i)=[(nd w i).a,(nd w i).b]:=DM hlat
  obtain ⟨e1,e2⟩:=Jo hb hi;obtain ⟨a1,a2⟩:=BY (f:=posOf (Ax w.l w.root)) (n:=nd w i) (.inr (FC hlat));rw [List.map_append];refine .join e1 (by rw [e2];exact hkk) ?_ ?_
  ·rw [e2,a1];exact ih1 (hB i hb _ (by rw [hl];simp))
  ·rw [e2,a2];exact ih2 (hB i hb _ (by rw [hl];simp))
theorem RD {a:List AutoState} {at_:Int->Int} (h:RepA w a at_) (hB:∀ x∈Ax w.l w.root,∀ y∈kidsL (nd w x),y∈Ax w.l w.root) (hall:∀ i:Int,0<=i->i<(a.length:Int)->at_ i∈Ax w.l w.root) (hO:OkT ⟨normL w.l w.root,0⟩) :
  RepA ⟨normL w.l w.root,0⟩ a (fun i=>posOf (Ax w.l w.root) (at_ i)):=by
 refine ⟨hO,fun i h0 h1=>?_⟩;obtain ⟨l,h2,h3⟩:=h.rep i h0 h1;refine ⟨l.map (Aq (posOf (Ax w.l w.root))),S0 (by cases (stL a i).plus <;> simp [joK]) hB h2 (hall i h0 h1),fun n=>?_⟩;rw [List.mem_map,List.mem_map]
 constructor
 ·rintro ⟨m,hm,rfl⟩
  obtain ⟨q,hq,rfl⟩:=List.mem_map.1 ((h3 m).1 hm);exact ⟨q,hq,(E6 _ _ q).symm⟩
 ·rintro ⟨q,hq,rfl⟩
  exact ⟨Aq at_ q,(h3 _).2 (List.mem_map.2 ⟨q,hq,rfl⟩),E6 _ _ q⟩
end
theorem QK {nx:Int->List Int} {C:Int->Prop} (hc:∀ x,C x->∀ y∈nx x,C y):∀ (m i:Nat) (l:List Int),(∀ x∈l,C x)->∀ x∈bfs nx m i l,C x
 | 0,i,l,h=>by unfold bfs;exact h
 | m+1,i,l,h=>by
  cases hx:l[i]? with
  | none=>rw [E8 hx];exact h
  | some x =>
   rw [FL hx];refine QK hc m (i+1) _ fun y hy=>?_
   rcases (Gr _ _).1 hy with hy | hy
   ·exact h y hy
   ·exact hc x (h x (List.mem_of_getElem? hx)) y hy
theorem TZ {a:AutoAuto} (ha:Led a) {C:Int->Prop} (h0:C 0) (hc:∀ x,C x->0<=x->x<((normP a).l.length:Int)->∀ y∈nextP (stL (normP a).l x),C y):∀ i:Int,0<=i->i<((normP a).l.length:Int)->C i:=by
 have hL:=NL ha
 have key:∀ x∈AJ (normP a),C x/\0<=x/\x<((normP a).l.length:Int):=by
  unfold AJ;refine QK (C:=fun x=>C x/\0<=x/\x<((normP a).l.length:Int)) (fun x hx y hy=>?_) _ _ _ (fun x hx=>?_)
  ·obtain ⟨h1,h2,h3⟩:=hx
   have hy2:y∈nextP (stL (normP a).l x):=by rw [IA h2 h3];exact hy
   refine ⟨hc x h1 h2 h3 y hy2,?_⟩
   have e:=(J0 h2 h3).1
   exact hL.led x (stL (normP a).l x) (by unfold idx;rw [if_pos h2];exact e) y hy2
  ·rw [List.mem_singleton.1 hx]
   exact ⟨h0,hL.st⟩
 intro i hi0 hi1
 refine (key i ?_).1;rw [Px ha,List.mem_map];rw [D7 ha] at hi1;exact ⟨i.toNat,List.mem_range.2 (by omega),by show ((i.toNat:Nat):Int)=i;omega⟩
theorem R9 {a:AutoAuto} {s:AutoState} (h:Dt a s) {y:Int} (hy:y∈nextP s):∃ n∈An s,y∈kidsL n:=by
 have hb:bareP s=true:=h.1
 unfold bareP at hb;simp only [Bool.and_eq_true,Bool.or_eq_true,decide_eq_true_eq] at hb;obtain ⟨_,hf,ht⟩:=hb;unfold nextP at hy;simp only [List.mem_append,List.mem_map] at hy;unfold An;simp only [List.mem_append,JZ,List.mem_map]
 rcases hy with (hy | ⟨e,he,rfl⟩) | ⟨e,he,rfl⟩
 ·by_cases ha:s.arrow=true
  ·rw [if_pos ha] at hy
   exact ⟨⟨6,s.dom,s.cod,[]⟩,.inl (.inl (.inr ⟨ha,rfl⟩)),hy⟩
  ·rw [if_neg ha] at hy;cases hy
 ·have hr:s.rec_=true:=hf.elim id fun h=>by rw [List.eq_nil_of_length_eq_zero (show s.fields.length=0 by omega)] at he;cases he
  refine ⟨⟨7,0,0,edF s.fields⟩,.inl (.inr ⟨hr,rfl⟩),?_⟩
  have e2:kidsL ⟨7,0,0,edF s.fields⟩=(edF s.fields).map (·.at_):=rfl
  rw [e2];exact List.mem_map.2 ⟨_,List.mem_map.2 ⟨e,he,rfl⟩,rfl⟩
 ·have hr:s.tag=true:=ht.elim id fun h=>by rw [List.eq_nil_of_length_eq_zero (show s.tags.length=0 by omega)] at he;cases he
  refine ⟨⟨8,0,0,edF s.tags⟩,.inr ⟨hr,rfl⟩,?_⟩
  have e2:kidsL ⟨8,0,0,edF s.tags⟩=(edF s.tags).map (·.at_):=rfl
  rw [e2];exact List.mem_map.2 ⟨_,List.mem_map.2 ⟨e,he,rfl⟩,rfl⟩
theorem Mi {w:ATy} {a:AutoAuto} {at_:Int->Int} (ha:Led a) (hm:mayP (normP a)=0) (h:RepA w (normP a).l at_) (hr:at_ 0=w.root) (hroot:w.root∈Ax w.l w.root) (hB:∀ x∈Ax w.l w.root,∀ y∈kidsL (nd w x),y∈Ax w.l w.root) :
  ∀ i:Int,0<=i->i<((normP a).l.length:Int)->at_ i∈Ax w.l w.root:=by
 refine TZ ha (by rw [hr];exact hroot) (fun x hx h0 h1 y hy=>?_);obtain ⟨l,h2,h3⟩:=h.rep x h0 h1;obtain ⟨e,hs⟩:=J0 h0 h1;obtain ⟨n,hn,hyn⟩:=R9 ((GH hm).2.2.1 _ hs) hy;obtain ⟨z,hz,_,e2⟩:=Tk (B:=(· ∈ Ax w.l w.root)) (by cases (stL (normP a).l x).plus <;> simp [joK]) (fun x hx _=>hB x hx) h2 hx _ ((h3 _).2 (List.mem_map.2 ⟨n,hn,rfl⟩));refine hB z hz _ ?_;rw [e2,Lc];exact List.mem_map.2 ⟨y,hyn,rfl⟩
end Go.Proofs.YtcoghblhdjmbfaaGreat
namespace Go.Proofs.YtcoghblhdjmbfaaGreat
open Go.V
open Classical
theorem Tl (b:Bool) (x:NodeB AFd) (l:List (Bool×NodeB AFd)):onB ((b,x)::l)=(if b=true then [nodN x] else [])++onB l:=by cases b <;> rfl
theorem Ue:onB []=[]:=rfl
theorem EZ (s:AutoState):B9 s=An s:=by
 unfold B9 An;simp only [thA,Tl,Ue,List.append_assoc,List.append_nil]
 rfl
theorem H8 {ats:List Int} {x:ANd} (h:x.kind≠9/\x.kind≠10):lkN ats x=Aq (atI ats) x:=by
 unfold lkN Aq pB;rw [dF h.1,dF h.2,Bool.or_false,Bool.or_false]
 rfl
theorem UW {w:ATy} {ats:List Int} {off k no:Int} (hk:k=9\/k=10) (h0:0<=off) (l:List ANd):∀ (A B:List ANd),(∀ x∈l,x.kind≠9/\x.kind≠10)->w.l=A++((chB off k l).2.map (lkN ats)++B)->off=(A.length:Int)->l≠[] ->
  0<=(chB off k l).1/\Rep w k no (l.map (Aq (atI ats))) (chB off k l).1:=by
 refine EH (P:=fun l=>∀ (A B:List ANd),(∀ x∈l,x.kind≠9/\x.kind≠10)->w.l=A++((chB off k l).2.map (lkN ats)++B)->off=(A.length:Int)->l≠[] ->
  0<=(chB off k l).1/\Rep w k no (l.map (Aq (atI ats))) (chB off k l).1) (fun _ _ _ _ _ h=>absurd rfl h) (fun l x ih A B hl hw hoff _=>?_) l
 have hx:=hl x (by simp)
 rw [Gh] at hw ⊢
 by_cases hn:l=[]
 ·subst hn
  have hz:BK off k (chB off k []) x=(off,[x]):=by
   unfold chB BK
   simp
  rw [hz] at hw ⊢;obtain ⟨e1,e2⟩:=DD (w:=w) (A:=A) (B:=B) (x:=lkN ats x) (i:=off) (by rw [hw];rfl) hoff;rw [H8 hx] at e1;refine ⟨h0,?_⟩
  have hr:=Rep.one (w:=w) (k:=k) (no:=no) e2 (by rw [e1];exact hx.1) (by rw [e1];exact hx.2)
  rw [e1] at hr;exact hr
 ·have hk6:k≠6:=by omega
  generalize hz:chB off k l=z at *
  obtain ⟨at0,zs⟩:=z
  have hpos:0<=at0:=by
   by_cases hc:0<=at0
   ·exact hc
   ·have hst:BK off k (at0,zs) x=(off+zs.length,zs++[x]):=by unfold BK;simp [hc]
    rw [hst] at hw
    have:=(ih A ([lkN ats x]++B) (fun y hy=>hl y (by simp [hy])) (by rw [hw];simp) hoff hn).1
    exact this
  have hst:BK off k (at0,zs) x=(off+zs.length+1,zs++[x]++[⟨k,at0,off+zs.length,[]⟩]):=by unfold BK;simp [hpos]
  rw [hst] at hw ⊢
  have hj:lkN ats ⟨k,at0,off+zs.length,[]⟩=⟨k,at0,off+zs.length,[]⟩:=by
   unfold lkN
   simp [hk6]
  have hI:=(ih A ([lkN ats x,⟨k,at0,off+zs.length,[]⟩]++B) (fun y hy=>hl y (by simp [hy])) (by rw [hw];simp [hj]) hoff hn).2
  obtain ⟨e1,e2⟩:=DD (w:=w) (A:=A++zs.map (lkN ats)) (B:=⟨k,at0,off+zs.length,[]⟩::B) (x:=lkN ats x) (i:=off+zs.length) (by rw [hw];simp [hj]) (by simp;omega);obtain ⟨f1,f2⟩:=DD (w:=w) (A:=A++zs.map (lkN ats)++[lkN ats x]) (B:=B) (x:=⟨k,at0,off+zs.length,[]⟩) (i:=off+zs.length+1) (by rw [hw];simp [hj]) (by simp;omega);rw [H8 hx] at e1;refine ⟨by show 0<=off+(zs.length:Int)+1;omega,?_⟩;rw [List.map_append];refine Rep.join f2 (by rw [f1]) (by rw [f1];exact hI) ?_;rw [f1]
  have hr:=Rep.one (w:=w) (k:=k) (no:=no) e2 (by rw [e1];exact hx.1) (by rw [e1];exact hx.2)
  rw [e1] at hr;exact hr
theorem PW {w:ATy} {ats:List Int} {off:Int} {s:AutoState} (h0:0<=off) {A B:List ANd} (hw:w.l=A++((BB off s).2.map (lkN ats)++B)) (hoff:off=(A.length:Int)) :
  Rep w (joK s.plus) (noK s.plus) ((An s).map (Aq (atI ats))) (BB off s).1:=by
 have hsb:BB off s=if (chB off (joK s.plus) (An s)).1<0 then (off,[⟨noK s.plus,0,0,[]⟩]) else chB off (joK s.plus) (An s):=by rw [<- EZ];rfl
 rw [hsb] at hw ⊢
 have hjk:joK s.plus=9\/joK s.plus=10:=by cases s.plus <;> simp [joK]
 by_cases hn:An s=[]
 ·rw [hn] at hw ⊢
  have hz:(chB off (joK s.plus) []).1<0:=by show (-1:Int)<0;decide
  rw [if_pos hz] at hw ⊢;obtain ⟨e1,e2⟩:=DD (w:=w) (A:=A) (B:=B) (x:=lkN ats ⟨noK s.plus,0,0,[]⟩) (i:=off) (by rw [hw];rfl) hoff;refine Rep.none e2 ?_;rw [e1];rfl
 ·by_cases hz:(chB off (joK s.plus) (An s)).1<0
  ·
   exfalso
   have hge:∀ l:List ANd,l≠[]->0<=(chB off (joK s.plus) l).1:=by
    intro l
    refine EH (P:=fun l=>l≠[]->0<=(chB off (joK s.plus) l).1) (fun h=>absurd rfl h) (fun l x ih _=>?_) l;rw [Gh];unfold BK
    split <;> simp <;> omega
   have:=hge _ hn
   omega
  ·rw [if_neg hz] at hw ⊢
   exact (UW hjk h0 (An s) A B (fun x hx=>Ef hx) hw hoff hn).2
theorem Ra:∀ (l:List AutoState) (i:Nat) (s:AutoState),l[i]? = some s->∃ A B,(runB l).2=A++((BB (A.length:Int) s).2++B)/\(runB l).1[i]? = some (BB (A.length:Int) s).1:=by
 intro l
 refine EH (P:=fun l=>∀ (i:Nat) (s:AutoState),l[i]? = some s->∃ A B,(runB l).2=A++((BB (A.length:Int) s).2++B)/\(runB l).1[i]? = some (BB (A.length:Int) s).1) (fun i s h=>by simp at h) (fun l t ih i s h=>?_) l;rw [Fx]
 by_cases hi:i<l.length
 ·rw [List.getElem?_append_left hi] at h
  obtain ⟨A,B,h1,h2⟩:=ih i s h;refine ⟨A,B++(BB ((runB l).2.length:Int) t).2,?_,?_⟩
  ·show (runB l).2++_=_
   rw [h1];simp
  ·show ((runB l).1++_)[i]? = _
   rw [List.getElem?_append_left (by rw [Hg];exact hi)];exact h2
 ·have hie:i=l.length:=by
   have:=(List.getElem?_eq_some_iff.1 h).1
   simp at this;omega
  subst hie;rw [List.getElem?_append_right (Nat.le_refl _),Nat.sub_self] at h
  cases h
  refine ⟨(runB l).2,[],by rw [List.append_nil],?_⟩
  show ((runB l).1++_)[l.length]? = _
  rw [List.getElem?_append_right (by rw [Hg];exact Nat.le_refl _),Hg,Nat.sub_self];rfl
def NodOk (s:AutoState) (j:Int) (n:ANd):Prop:=n∈An s\/n=⟨noK s.plus,0,0,[]⟩\/∃ x y,n=⟨joK s.plus,x,y,[]⟩/\(0<=x/\x<j)/\0<=y/\y<j
theorem Rz {s:AutoState} {off:Int} (h0:0<=off) (l:List ANd):(∀ x∈l,x∈An s)->(chB off (joK s.plus) l).1<off+((chB off (joK s.plus) l).2.length:Int)/\∀ (r:Nat) n,(chB off (joK s.plus) l).2[r]? = some n->NodOk s (off+r) n:=by
 refine EH (P:=fun l=>(∀ x∈l,x∈An s)->(chB off (joK s.plus) l).1<off+((chB off (joK s.plus) l).2.length:Int)/\∀ (r:Nat) n,(chB off (joK s.plus) l).2[r]? = some n->NodOk s (off+r) n) (fun _=>⟨by unfold chB;simp;omega,fun r n h=>by unfold chB at h;simp at h⟩) (fun l x ih hl=>?_) l;obtain ⟨i1,i2⟩:=ih (fun y hy=>hl y (by simp [hy]))
 have hx:=hl x (by simp)
 rw [Gh]
 generalize chB off (joK s.plus) l=z at i1 i2
 obtain ⟨at0,zs⟩:=z
 simp only at i1 i2
 have hget:∀ (r:Nat) n,(zs++[x])[r]? = some n->NodOk s (off+r) n:=by
  intro r n h
  by_cases hr:r<zs.length
  ·rw [List.getElem?_append_left hr] at h;exact i2 r n h
  ·rw [List.getElem?_append_right (by omega)] at h
   have h1:=(List.getElem?_eq_some_iff.1 h).1
   simp only [List.length_cons,List.length_nil] at h1;rw [show r - zs.length=0 by omega] at h
   cases h;exact .inl hx
 unfold BK
 split
 ·rename_i hp
  simp only at hp
  refine ⟨by show off+(zs.length:Int)+1<_;simp;omega,fun r n h=>?_⟩
  have h:(zs++[x]++[(⟨joK s.plus,at0,off+zs.length,[]⟩:ANd)])[r]? = some n:=h
  by_cases hr:r<(zs++[x]).length
  ·rw [List.getElem?_append_left hr] at h;exact hget r n h
  ·rw [List.getElem?_append_right (by omega)] at h
   have h1:=(List.getElem?_eq_some_iff.1 h).1
   simp only [List.length_cons,List.length_nil,List.length_append] at h1 hr;rw [show r - (zs++[x]).length=0 by simp;omega] at h
   cases h
   exact .inr (.inr ⟨at0,off+zs.length,rfl,⟨hp,by omega⟩,by omega,by omega⟩)
 ·refine ⟨by show off+(zs.length:Int)<_;simp;omega,fun r n h=>hget r n h⟩
theorem Np {s:AutoState} {off:Int} (h0:0<=off):(BB off s).1<off+((BB off s).2.length:Int)/\0<=(BB off s).1/\∀ (r:Nat) n,(BB off s).2[r]? = some n->NodOk s (off+r) n:=by
 have hsb:BB off s=if (chB off (joK s.plus) (An s)).1<0 then (off,[⟨noK s.plus,0,0,[]⟩]) else chB off (joK s.plus) (An s):=by rw [<- EZ];rfl
 rw [hsb]
 split
 ·refine ⟨by show off<_;simp;omega,h0,fun r n h=>?_⟩
  have h1:=(List.getElem?_eq_some_iff.1 h).1
  simp only [List.length_cons,List.length_nil] at h1
  have hr:r=0:=by omega
  subst hr
  cases h;exact .inr (.inl rfl)
 ·rename_i hz
  have h:=Rz h0 (s:=s) (An s) (fun x hx=>hx)
  exact ⟨h.1,by omega,h.2⟩
theorem Qh {s:AutoState} {off:Int} (hv:s.vars.length<=40):(BB off s).2.length<=94:=by
 have hsb:BB off s=if (chB off (joK s.plus) (An s)).1<0 then (off,[⟨noK s.plus,0,0,[]⟩]) else chB off (joK s.plus) (An s):=by rw [<- EZ];rfl
 rw [hsb]
 split
 ·simp
 ·have h:=KO off (joK s.plus) (An s) (-1,[])
  have h2:=Fy hv
  simp only [List.length_nil] at h
  have h3:(chB off (joK s.plus) (An s)).2.length<=0+2*(An s).length:=h
  omega
theorem I6 (l:List AutoState):(∀ k∈(runB l).1,0<=k/\k<((runB l).2.length:Int))/\∀ (j:Nat) n,(runB l).2[j]? = some n->∃ s∈l,NodOk s j n:=by
 refine EH (P:=fun l=>(∀ k∈(runB l).1,0<=k/\k<((runB l).2.length:Int))/\∀ (j:Nat) n,(runB l).2[j]? = some n->∃ s∈l,NodOk s j n) ⟨fun k h=>by unfold runB at h;simp at h,fun j n h=>by unfold runB at h;simp at h⟩ (fun l s ih=>?_) l;obtain ⟨i1,i2⟩:=ih;obtain ⟨s1,s2,s3⟩:=Np (s:=s) (off:=((runB l).2.length:Int)) (by omega);rw [Fx];refine ⟨fun k hk=>?_,fun j n h=>?_⟩
 ·have hk:k∈(runB l).1++[(BB ((runB l).2.length:Int) s).1]:=hk
  show 0<=k/\k<(((runB l).2++(BB ((runB l).2.length:Int) s).2).length:Int)
  rw [List.length_append]
  rcases List.mem_append.1 hk with hk | hk
  ·have:=i1 k hk;omega
  ·rw [List.mem_singleton.1 hk];omega
 ·have h:((runB l).2++(BB ((runB l).2.length:Int) s).2)[j]? = some n:=h
  by_cases hj:j<(runB l).2.length
  ·rw [List.getElem?_append_left hj] at h
   obtain ⟨t,ht,hn⟩:=i2 j n h;exact ⟨t,by simp [ht],hn⟩
  ·rw [List.getElem?_append_right (by omega)] at h
   have:=s3 _ n h
   rw [show ((runB l).2.length:Int)+((j - (runB l).2.length:Nat):Int)=(j:Int) by omega] at this;exact ⟨s,by simp,this⟩
theorem MG (l:List AutoState):(∀ s∈l,s.vars.length<=40)->(runB l).2.length<=94*l.length:=by
 refine EH (P:=fun l=>(∀ s∈l,s.vars.length<=40)->(runB l).2.length<=94*l.length) (fun _=>by unfold runB;simp) (fun l s ih h=>?_) l
 have h1:=ih (fun t ht=>h t (by simp [ht]))
 have h2:=Qh (off:=((runB l).2.length:Int)) (h s (by simp))
 rw [Fx]
 show ((runB l).2++_).length<=_
 rw [List.length_append,List.length_append,List.length_cons,List.length_nil];omega
theorem Qe {ats:List Int} {i:Nat} {k:Int} (h:ats[i]? = some k):atI ats (i:Int)=k:=by
 unfold atI idx;rw [if_pos (by omega),Int.toNat_natCast,h];rfl
theorem NQ (l:List AutoState) {i:Int} (h0:0<=i) (h1:i<(l.length:Int)):0<=atI (runB l).1 i/\atI (runB l).1 i<((runB l).2.length:Int):=by
 have hlt:i.toNat<(runB l).1.length:=by rw [Hg];omega
 have e:(runB l).1[i.toNat]? = some (runB l).1[i.toNat]:=List.getElem?_eq_getElem hlt
 have e2:=Qe e
 rw [show ((i.toNat:Nat):Int)=i by omega] at e2;rw [e2];exact (I6 l).1 _ (List.getElem_mem hlt)
theorem QA {ats:List Int} {p:Bool} {x y:Int}:lkN ats ⟨joK p,x,y,[]⟩=⟨joK p,x,y,[]⟩:=by
 cases p <;> rfl
theorem Vs {ats:List Int} {p:Bool}:lkN ats ⟨noK p,0,0,[]⟩=⟨noK p,0,0,[]⟩:=by
 cases p <;> rfl
theorem Tr {p:Bool} {all:Int}:AY ⟨noK p,0,0,[]⟩ all=true:=by
 refine Zq (by cases p <;> simp [noK]) (.inr ⟨rfl,.inr rfl⟩) (fun h=>by revert h;cases p <;> simp [noK]) (.inr rfl) Gb (by simp) (fun q hq=>?_)
 have e:kidsL ⟨noK p,0,0,[]⟩=[]:=by cases p <;> rfl
 rw [e] at hq;cases hq
theorem ND (x:AutoAuto):(backT x).l.length=(runB x.l).2.length:=by unfold backT;rw [List.length_map]
theorem Pb (x:AutoAuto) (j:Nat) {m:ANd} (h:(backT x).l[j]? = some m):∃ n s,(runB x.l).2[j]? = some n/\s∈x.l/\NodOk s (j:Int) n/\m=lkN (runB x.l).1 n:=by
 unfold backT at h;rw [List.getElem?_map,Option.map_eq_some_iff] at h;obtain ⟨n,h1,rfl⟩:=h;obtain ⟨s,hs,h2⟩:=(I6 x.l).2 j n h1;exact ⟨n,s,h1,hs,h2,rfl⟩
theorem P4 {x:AutoAuto} (h:NmA x):BZ (backT x).l:=by
 intro m hm
 obtain ⟨j,hj,rfl⟩:=List.mem_iff_getElem.1 hm;obtain ⟨n,s,h1,hs,h2,e⟩:=Pb x j (List.getElem?_eq_getElem hj);rw [e]
 have hjl:j<(backT x).l.length:=hj
 rcases h2 with h2 | rfl | ⟨y,z,rfl,hy,hz⟩
 ·rw [H8 (Ef h2)]
  refine Kx (HT h hs (Int.le_refl _) h2) fun k h0 h1=>?_;rw [ND];exact NQ x.l h0 h1
 ·rw [Vs];exact Tr
 ·rw [QA];exact Kb (by omega) (by omega)
theorem RC {x:AutoAuto}:EJ (backT x).l:=by
 have key:∀ (k j:Nat),j<k->j<(backT x).l.length->endk (backT x).l k j=true:=by
  intro k
  induction k with
  | zero=>intro j hj;omega
  | succ k ih =>
   intro j hj hl
   have hg:(backT x).l[j]? = some (backT x).l[j]:=List.getElem?_eq_getElem hl
   obtain ⟨n,s,h1,hs,h2,e⟩:=Pb x j hg;unfold endk;rw [hg]
   simp only
   rw [e]
   rcases h2 with h2 | rfl | ⟨y,z,rfl,hy,hz⟩
   ·have hk:=Ef h2
    have:latB (lkN (runB x.l).1 n).kind=false:=by
     show latB n.kind=false
     unfold latB;rw [dF hk.1,dF hk.2];rfl
    rw [this];rfl
   ·rw [Vs];cases s.plus <;> rfl
   ·rw [QA]
    rw [Bool.or_eq_true,Bool.and_eq_true];exact .inr ⟨ih _ (by show y.toNat<k;omega) (by show y.toNat<_;omega),ih _ (by show z.toNat<k;omega) (by show z.toNat<_;omega)⟩
 exact fun i hi=>⟨i+1,key (i+1) i (by omega) hi⟩
theorem Ql {x:AutoAuto} (h:NmA x):OkT (backT x):=⟨P4 h,RC⟩
theorem OX {x:AutoAuto} (h:NmA x):RepA (backT x) x.l (atI (runB x.l).1):=by
 refine ⟨Ql h,fun i h0 h1=>?_⟩;obtain ⟨e,_⟩:=J0 h0 h1;obtain ⟨A,B,e1,e2⟩:=Ra x.l i.toNat _ e
 have e3:=Qe e2
 rw [show ((i.toNat:Nat):Int)=i by omega] at e3;rw [e3];refine ⟨_,PW (w:=backT x) (ats:=(runB x.l).1) (off:=(A.length:Int)) (s:=stL x.l i) (by omega) (A:=A.map (lkN (runB x.l).1)) (B:=B.map (lkN (runB x.l).1)) ?_ (by rw [List.length_map]),fun n=>Iff.rfl⟩
 show (runB x.l).2.map _=_
 conv=>lhs;rw [e1]
 rw [List.map_append,List.map_append]
theorem OC {n:ANd} {all:Int} (h:AY n all=true):NB n:=by
 unfold AY at h;simp only [Bool.and_eq_true,decide_eq_true_eq] at h;unfold NB
 have:=h.2.2.2.2.1.2
 omega
theorem S1 {x:AutoAuto} (h:NmA x) (hl:x.l.length<=20) (h0:0<=x.start) (h1:x.start<(x.l.length:Int)):MayO (backT x)/\(backT x).l.length<=94*x.l.length:=by
 have hb:=MG x.l (fun s hs=>(h.vars s hs).1)
 have hO:=Ql h
 have hr:=NQ x.l h0 h1
 have hlen:=ND x
 refine ⟨⟨?_,fun n hn=>OC (hO.right n hn)⟩,by omega⟩;unfold mayT
 have e:(backT x).root=atI (runB x.l).1 x.start:=rfl
 rw [if_neg (by omega),if_neg (by rw [e];omega),if_pos ⟨hO.right,hO.ends⟩]
theorem NT {x:AutoAuto} (h:NmA x) (hl:x.l.length<=20) (h0:0<=x.start) (h1:x.start<(x.l.length:Int)):BackOk x:=by
 have hb:=MG x.l (fun s hs=>(h.vars s hs).1)
 refine ⟨by omega,fun s hs=>?_,by omega,fun n hn=>?_,h0,h1⟩
 ·have:=(h.vars s hs).1;have:=(h.flds s hs).1;have:=(h.tags s hs).1;omega
 ·obtain ⟨j,hj,rfl⟩:=List.mem_iff_getElem.1 hn
  obtain ⟨s,hs,h2⟩:=(I6 x.l).2 j _ (List.getElem?_eq_getElem hj)
  generalize (runB x.l).2[j]=n at h2
  rcases h2 with h2 | rfl | ⟨y,z,rfl,hy,hz⟩
  ·have hr:=HT h hs (Int.le_refl _) h2
   have hk:=Ip hr
   have hnb:=OC hr
   refine ⟨fun h6=>?_,by unfold NB at hnb;omega,fun f hf=>(IW hr).2 f hf⟩
   have e:kidsL n=[n.a,n.b]:=by unfold kidsL pB;rw [h6];rfl
   exact ⟨hk _ (by rw [e];simp),hk _ (by rw [e];simp)⟩
  ·exact ⟨fun h6=>(by revert h6;cases s.plus <;> simp [noK]),by simp,fun f hf=>(by cases hf)⟩
  ·exact ⟨fun h6=>(by revert h6;cases s.plus <;> simp [joK]),by simp,fun f hf=>(by cases hf)⟩
end Go.Proofs.YtcoghblhdjmbfaaGreat
namespace Go.Proofs.YtcoghblhdjmbfaaGreat
open Go.V
open Classical
theorem Ga {x:AutoAuto} (ha:AB x) (hm:mayP x=0) (hl:x.l.length<=20):C7 x=some (⟨normL (backT (normP x)).l (backT (normP x)).root,0⟩,0)/\MayO (backT (normP x))/\(backT (normP x)).l.length<=94*x.l.length:=by
 have hL:=I2 ha hm
 have hn:=JE hL
 have hmn:=HL ha hm
 have hnl:(normP x).l.length<=x.l.length:=by
  rw [D7 hL];exact Cs _ _ (Bj hL).1 (Bj hL).2.1
 have hM:=Ni hn hmn (by omega)
 obtain ⟨n0,n1,_⟩:=GS (GH hmn).2.2.2;obtain ⟨b1,b2⟩:=S1 hM (by omega) n0 n1
 have hB:=NT hM (by omega) n0 n1
 refine ⟨?_,b1,by omega⟩;unfold C7;rw [U3 ha hm]
 dsimp only [oB]
 rw [dT rfl,Bool.not_true,cF_,if_pos hB];exact NP (by omega) b1.nb b1.may
theorem U0 {x:AutoAuto} (ha:AB x) (hm:¬ mayP x=0):C7 x=some (⟨[],0⟩,mayP x):=by
 unfold C7;rw [Ud ha hm]
 dsimp only [oB]
 rw [dF hm,Bool.not_false,cT]
theorem Iy {x:AutoAuto} (ha:AB x) (hm:mayP x=0) (hl:x.l.length<=20):∃ at_:Int->Int,RepA ⟨normL (backT (normP x)).l (backT (normP x)).root,0⟩ (normP x).l at_/\at_ 0=0 /\
  mayT (normL (backT (normP x)).l (backT (normP x)).root) 0=0/\(∀ n∈normL (backT (normP x)).l (backT (normP x)).root,NB n)/\(normL (backT (normP x)).l (backT (normP x)).root).length<=94*x.l.length:=by
 obtain ⟨_,hMO,hlen⟩:=Ga ha hm hl
 have hL:=I2 ha hm
 have hn:=JE hL
 have hmn:=HL ha hm
 have hnl:(normP x).l.length<=x.l.length:=by
  rw [D7 hL];exact Cs _ _ (Bj hL).1 (Bj hL).2.1
 have hM:=Ni hn hmn (by omega)
 have hrep:=OX hM
 have hroot:atI (runB (normP x).l).1 0=(backT (normP x)).root:=rfl
 generalize backT (normP x)=w at *
 obtain ⟨_,_,l3,l4,lA,lE⟩:=Eu hMO.may;obtain ⟨c1,c2⟩:=JA lA hMO.nb (by omega) l3 l4;obtain ⟨_,ys,ey⟩:=EG (AP lA) hMO.nb (by omega) l3 l4
 have pr:posOf (Ax w.l w.root) w.root=0:=by unfold posOf;rw [if_pos c1,ey];simp
 obtain ⟨a1,a2⟩:=O9 hMO.may hMO.nb (by omega);obtain ⟨d1,d2⟩:=N3 (AP lA) hMO.nb l3 l4
 have hk:∀ y∈Ax w.l w.root,∀ z∈kidsL (nd w y),z∈Ax w.l w.root:=by
  intro y hy z hz
  have hyr:=(CF (AP lA) l3 l4).1 y hy
  refine c2 y hy z ?_;rw [G7,Kg hyr];exact hz
 have hO:OkT ⟨normL w.l w.root,0⟩:=⟨(Eu a1).2.2.2.2.1,(Eu a1).2.2.2.2.2⟩
 have hre:=Mi hL hmn hrep hroot c1 hk
 exact ⟨_,RD hrep hk hre hO,by show posOf _ (atI _ 0)=0;rw [hroot,pr],a1,d1,by omega⟩
theorem LI (x:AutoAuto):(⟨x.l,x.start⟩:AutoAuto)=x:=by cases x;rfl
def a27:AutoAuto:=⟨[⟨true,false,true,true,false,false,false,false,[],0,0,[],[]⟩],0⟩
theorem Sq:AB a27:=⟨by decide,by
 intro s hs
 simp only [a27,List.mem_cons,List.not_mem_nil,or_false] at hs
 rcases hs with rfl <;> exact ⟨by decide,by decide,by decide⟩⟩
theorem Ut:mayP a27=0:=by
 have h:=PJ a27 Sq
 have h2:Fu a27=some 0:=by rfl
 rw [h2] at h;exact (Option.some.inj h).symm
theorem S4:normP a27=a27:=by rfl
theorem TG:C7 a27=some (⟨[⟨9,1,2,[]⟩,⟨3,0,0,[]⟩,⟨4,0,0,[]⟩],0⟩,0):=by
 obtain ⟨h1,h2,h3⟩:=Ga Sq Ut (by decide)
 have e:backT (normP a27)=⟨[⟨3,0,0,[]⟩,⟨4,0,0,[]⟩,⟨9,0,1,[]⟩],2⟩:=by rw [S4];rfl
 rw [h1,e];rw [e] at h2
 have h4:=NP (t:=⟨[⟨3,0,0,[]⟩,⟨4,0,0,[]⟩,⟨9,0,1,[]⟩],2⟩) (by decide) h2.nb h2.may
 rw [<- h4]
 rfl
theorem QY:AU=some true:=by
 unfold AU;rw [show (⟨[(⟨true,false,true,true,false,false,false,false,([]:List Int),0,0,([]:List AutoEdge),([]:List AutoEdge)⟩:AutoState)],0⟩:AutoAuto)=a27 from rfl,TG]
 rfl
end Go.Proofs.YtcoghblhdjmbfaaGreat
namespace Go.Proofs.YtcoghblhdjmbfaaGreat
open Go.V
open Classical
theorem Q6 (x:List Int) (hx:x.length<=1000):∀ (n q:Nat) (l:List Int),q<=x.length->q<n->l.length+q<=1000000000->DW x n ((q:Int) - 1,l)=some (l++(x.take q).reverse)
 | 0,q,l,_,h,_=>by omega
 | n+1,0,l,_,_,_=>by
  simp only [DW];rw [dF (by omega),cF_];simp
 | n+1,q+1,l,hq,hn,hl=>by
  have hxq:x[q]? = some x[q]:=List.getElem?_eq_getElem (by omega)
  simp only [DW];rw [dT (by omega),cT,show (((q+1:Nat):Int) - 1)=(q:Int) by omega,getI hxq,oB,Ab (by simp only [List.length_cons,List.length_nil];omega),Ab (by omega),Q6 x hx n q (l++[x[q]]) (by omega) (by omega) (by simp only [List.length_append,List.length_cons,List.length_nil];omega)];rw [List.take_succ_eq_append_getElem (by omega),List.reverse_append]
  simp
theorem PG (l:List Int) (x:Int) (h:l.length<=1000000000):Dz l x=some (decide (x∈l)):=by
 unfold Dz;rw [Hc (φ:=B7 l x) (l:=l) true (fun _ k=>k=x) ?_ ?_ (by rw [FUv];omega),oB]
 ·have e:(∃ (i:Nat) (y:Int),l[i]? = some y/\y=x)↔x∈l:=by
   constructor
   ·rintro ⟨i,y,h1,rfl⟩;exact List.mem_of_getElem? h1
   ·intro h1;obtain ⟨i,hi⟩:=List.getElem?_of_mem h1;exact ⟨i,x,hi,rfl⟩
  by_cases h2:x∈l
  ·rw [if_pos (e.2 h2),dT h2];rfl
  ·rw [if_neg (fun h3=>h2 (e.1 h3)),dF h2];rfl
 ·intro n i y hy hi
  simp only [B7];rw [dT (show (i:Int)<l.length by omega),cT,getI hy,oB]
  by_cases h2:y=x
  ·rw [dT h2];exact ⟨fun h=>absurd h2 h,fun _=>rfl⟩
  ·rw [dF h2];exact ⟨fun _=>by rw [cF_,Ab (by omega)],fun h=>absurd h h2⟩
 ·intro n
  simp only [B7];rw [dF (by omega),cF_]
theorem Ig {t:ATy} (hR:InL t.l) (hN:∀ n∈t.l,NB n) (hlen:t.l.length<=2001):∀ (n:Nat) (s out:List Int) (seen:List Bool),(∀ x∈s,0<=x/\x<(t.l.length:Int))->seen.length=t.l.length ->
  (∀ i:Nat,seen[i]? = some true↔((i:Int)∈out/\i<t.l.length))->out.length+s.length+wt (kat t.l) t.l.length out<=100000000->s.length+wt (kat t.l) t.l.length out<n ->
  ∃ ys,Cw t n (s.reverse,seen)=some ys/\dfs (kat t.l) n s out=out++ys/\CH t n (s.reverse,out)=some ([],out++ys)
 | 0,s,out,seen,_,_,_,_,h=>by omega
 | n+1,[],out,seen,_,_,_,_,_=>by
  refine ⟨[],?_,by simp [dfs],?_⟩
  ·simp only [Cw,List.reverse_nil,List.length_nil];rfl
  ·simp only [CH,List.reverse_nil,List.length_nil,List.append_nil];rfl
 | n+1,x::s,out,seen,hs,hsl,hse,hB,hn=>by
  obtain ⟨x0,x1⟩:=hs x (by simp);obtain ⟨i,rfl⟩:=Int.eq_ofNat_of_zero_le x0
  have hi:i<t.l.length:=by omega
  have hx:t.l[i]? = some t.l[i]:=List.getElem?_eq_getElem hi
  have hv:seen[i]? = some (seen[i]'(by omega)):=List.getElem?_eq_getElem (by omega)
  have hk:kat t.l (i:Int)=kidsL t.l[i]:=by unfold kat;rw [Int.toNat_natCast,hx]
  have hkl:=MM hN (i:Int)
  have hNi:=hN _ (List.getElem_mem hi)
  simp only [List.length_cons] at hB hn;rw [List.reverse_cons]
  have hl1:(s.reverse++[(i:Int)]).length=s.length+1:=by simp
  simp only [Cw,CH];rw [dT (show (0:Int)<((s.reverse++[(i:Int)]).length:Int) by rw [hl1];omega),cT,Ab (by rw [hl1];omega),lastI,oB,Ab (by rw [hl1];omega),initI,oB,getI hv,oB,cT,Ab (by rw [hl1];omega),oB,oB,Ab (by rw [hl1];omega),oB,PG out _ (by omega),oB]
  have hd:dfs (kat t.l) (n+1) ((i:Int)::s) out=if (i:Int)∈out then dfs (kat t.l) n s out else dfs (kat t.l) n (kat t.l i++s) (out++[(i:Int)]):=rfl
  rw [hd]
  by_cases ho:(i:Int)∈out
  ·have h1:seen[i]'(by omega)=true:=by have:=(hse i).2 ⟨ho,hi⟩;rw [hv] at this;exact Option.some.inj this
   rw [h1,cT,if_pos ho,dT ho,cT];exact Ig hR hN hlen n s out seen (fun x hx=>hs x (by simp [hx])) hsl hse (by omega) (by omega)
  ·have h1:seen[i]'(by omega)=false:=by
    cases hq:seen[i]'(by omega) with
    | false=>rfl
    | true=>exact absurd ((hse i).1 (by rw [hv,hq])).1 ho
   have hw:=Pv (K:=kat t.l) hi ho
   obtain ⟨ys,e1,e2,e3⟩:=Ig hR hN hlen n (kat t.l i++s) (out++[(i:Int)]) (seen.set i true) (fun y hy=>by
    rcases List.mem_append.1 hy with hy | hy
    ·exact MN hR _ _ hy
    ·exact hs y (by simp [hy])) (by simpa using hsl) (fun j=>by
    rw [List.getElem?_set]
    by_cases hij:i=j
    ·subst hij;simp;omega
    ·rw [if_neg hij,hse j];simp;omega) (by simp only [List.length_append,List.length_cons,List.length_nil];omega) (by simp only [List.length_append];omega)
   rw [h1,cF_,if_neg ho,dF ho,cF_,getI hx,oB,KI _ hNi,oB,<- hk,Ab (by omega),K9 _ (by omega),oB,Ab (by simp only [List.length_reverse];omega),Int.toNat_natCast];refine ⟨(i:Int)::ys,?_,by rw [e2];simp,?_⟩
   ·rw [List.reverse_append] at e1
    rw [e1];rfl
   ·rw [Ab (by simp only [List.length_cons,List.length_nil];omega),oB,Je _ hNi,oB,<- hk,Ab (by omega),Q6 _ (by omega) FU _ _ (Nat.le_refl _) (by rw [FUv];omega) (by simp only [List.length_reverse];omega),oB,List.take_length]
    rw [List.reverse_append] at e3;rw [e3];simp
theorem PR {t:ATy} (hR:InL t.l) (hN:∀ n∈t.l,NB n) (hlen:t.l.length<=2001) {root:Int} (h0:0<=root) (h1:root<(t.l.length:Int)) :
  Hu t root=some (Ax t.l root)/\Gm t root=some (Ax t.l root):=by
 have hw:=Jc hN []
 obtain ⟨ys,e1,e2,e3⟩:=Ig hR hN hlen FU [root] [] (List.replicate t.l.length false) (fun x hx=>by simp at hx;subst hx;exact ⟨h0,h1⟩) (by simp) (fun i=>by rw [List.getElem?_replicate];split <;> simp) (by simp only [List.length_cons,List.length_nil];omega) (by rw [FUv];simp only [List.length_cons,List.length_nil];omega);rw [List.nil_append] at e2 e3
 constructor
 ·unfold Hu
  rw [Ab (by omega),Ab (by omega),Int.toNat_natCast]
  show Cw t FU ([root].reverse,_)=_
  rw [e1,Ax,e2]
 ·unfold Gm
  show (CH t FU ([root].reverse,[])).bind _=_
  rw [e3,Ax,e2];rfl
theorem Tc (n:ANd) (all:Int) (f:Int->Int) (h:NB n) (hr:AY n all=true):G0 n ((kidsL n).map f)=some (Aq f n):=by
 have hz:(!((!pB n.kind)&&((!decide (n.b=0))||((!decide (n.kind=11))&&(!decide (n.a=0))))))=true:=by
  unfold AY at hr;simp only [Bool.and_eq_true] at hr;exact hr.2.1
 have hlen:n.l.length<=40:=h
 have key:∀ z1 z2 z3,DL n ((kidsL n).map f) FU (0,[],z1,z2,z3)=some (n.l.map (fun x=>⟨x.name,f x.at_⟩),z1,z2,z3):=by
  intro z1 z2 z3
  rw [BW (φ:=fun m i s=>DL n ((kidsL n).map f) m (i,s,z1,z2,z3)) (l:=n.l) (fun x=>(⟨x.name,f x.at_⟩:AFd)) (fun s=>(s,z1,z2,z3)) 0 ?_ ?_ (by rw [FUv];omega) [] rfl]
  ·rfl
  ·intro m i x s hx hi hs
   have hw:wB n.kind=true:=by
    cases hw:wB n.kind with
    | true=>rfl
    | false=>rw [IU hr hw] at hx;simp at hx
   have hk:kidsL n=n.l.map (·.at_):=by unfold kidsL;rw [Se hw,cF_,hw,cT]
   have hy:((kidsL n).map f)[i]? = some (f x.at_):=by rw [hk,List.getElem?_map,List.getElem?_map,hx];rfl
   simp only [DL];rw [dT (show (i:Int)<n.l.length by omega),cT,getI hx,oB,getI hy,oB,Ab (by simp only [List.length_cons,List.length_nil];omega),Ab (by omega)]
  ·intro m s hs
   simp only [DL];rw [dF (by omega),cF_]
 unfold G0 Aq
 change ((bif decide (n.kind=11) then _ else _:Option ((List AFd)×Int×Int×Int)).bind fun q=>(bif pB n.kind then _ else _:Option ((List AFd)×Int×Int×Int)).bind _)=_
 cases hp:pB n.kind with
 | true =>
  have h11:¬ n.kind=11:=fun e=>by rw [e] at hp;exact absurd hp (by decide)
  have hk:kidsL n=[n.a,n.b]:=by unfold kidsL;rw [hp,cT]
  rw [dF h11,cF_,oB]
  dsimp only
  rw [cT,show idx ((kidsL n).map f) 0=some (f n.a) by rw [hk];rfl,oB,show idx ((kidsL n).map f) 1=some (f n.b) by rw [hk];rfl,oB,oB]
  dsimp only
  rw [key,oB];rfl
 | false =>
  rw [hp] at hz;simp only [Bool.not_false,Bool.true_and,Bool.not_eq_true',Bool.or_eq_false_iff,Bool.and_eq_false_iff,decide_eq_true_eq,Bool.not_eq_false'] at hz;obtain ⟨hb,ha⟩:=hz
  by_cases h11:n.kind=11
  ·rw [dT h11,cT,oB]
   dsimp only
   rw [cF_,oB]
   dsimp only
   rw [key,oB,hb];rfl
  ·have ha0:n.a=0:=by
    rcases ha with ha | ha
    ·exact absurd ha h11
    ·exact ha
   rw [dF h11,cF_,oB]
   dsimp only
   rw [cF_,oB]
   dsimp only
   rw [key,oB,hb,ha0];rfl
theorem RU (B:List Int) (len:Nat) (hn:B.Nodup) (hB:∀ x∈B,0<=x/\x<(len:Int)) (hl:B.length<=2001) :
  ∃ A,DE B FU (0,List.replicate len 0)=some A/\A.length=len/\∀ k:Nat,k<len->A[k]? = some (posOf B (k:Int)):=by
 obtain ⟨A,e1,e2,e3⟩:=Be (φ:=fun n i s=>DE B n (i,s)) (l:=B)
  (fun i s=>s.length=len/\∀ k:Nat,k<len->s[k]? = some (if (k:Int)∈B.take i then ((B.idxOf (k:Int):Nat):Int) else 0))
  (fun A=>A.length=len/\∀ k:Nat,k<len->A[k]? = some (posOf B (k:Int)))
  (by
   rintro n i x s hx hi ⟨s1,s2⟩;obtain ⟨x0,x1⟩:=hB x (List.mem_of_getElem? hx);obtain ⟨a,rfl⟩:=Int.eq_ofNat_of_zero_le x0
   have ha:a<len:=by omega
   have hy:s[a]? = some (s[a]'(by omega)):=List.getElem?_eq_getElem (by omega)
   refine .inl ⟨s.set a (i:Int),?_,by simpa using s1,fun k hk=>?_⟩
   ·simp only [DE]
    rw [dT (show (i:Int)<B.length by omega),cT,getI hx,oB,getI hy,oB,Ab (by omega),Int.toNat_natCast]
   ·have hBi:B[i]=(a:Int):=by rw [List.getElem?_eq_getElem hi] at hx;exact Option.some.inj hx
    rw [List.take_succ_eq_append_getElem hi,hBi]
    by_cases hka:k=a
    ·subst hka
     rw [List.getElem?_set_self (by omega),if_pos (by simp),Mx hn hx]
    ·rw [List.getElem?_set_ne (by omega),s2 k hk]
     have e:((k:Int)∈B.take i++[(a:Int)])↔(k:Int)∈B.take i:=by simp;omega
     by_cases h:(k:Int)∈B.take i
     ·rw [if_pos h,if_pos (e.2 h)]
     ·rw [if_neg h,if_neg (fun h2=>h (e.1 h2))])
  (by
   rintro n s ⟨s1,s2⟩;refine ⟨s,?_,s1,fun k hk=>?_⟩
   ·simp only [DE]
    rw [dF (by omega),cF_]
   ·rw [s2 k hk,List.take_length];rfl) (by rw [FUv];omega) (List.replicate len 0) ⟨by simp,fun k hk=>by simp [hk]⟩
 exact ⟨A,e1,e2,e3⟩
theorem PQ (A ks:List Int) (f:Int->Int) (hk:∀ k∈ks,idx A k=some (f k)) (hl:ks.length<=1000):DG A ks FU (0,[])=some (ks.map f):=by
 rw [BW (φ:=fun n i s=>DG A ks n (i,s)) (l:=ks) f id 0 ?_ ?_ (by rw [FUv];omega) [] rfl]
 ·rfl
 ·intro n i x s hx hi hs
  simp only [DG];rw [dT (show (i:Int)<ks.length by omega),cT,getI hx,oB,hk x (List.mem_of_getElem? hx),oB,Ab (by simp only [List.length_cons,List.length_nil];omega),Ab (by omega)]
 ·intro n s hs
  simp only [DG];rw [dF (by omega),cF_];rfl
theorem Sd {t:ATy} (hA:BZ t.l) (hN:∀ n∈t.l,NB n) (hlen:t.l.length<=2001) {root:Int} (h0:0<=root) (h1:root<(t.l.length:Int)):Gc t root=some ⟨normL t.l root,0⟩:=by
 obtain ⟨b1,b2,b3⟩:=CF (AP hA) h0 h1;unfold Gc;rw [(PR (AP hA) hN hlen h0 h1).2,oB,Ab (by omega),Ab (by omega),Int.toNat_natCast]
 generalize hB:Ax t.l root=B at *
 obtain ⟨A,a1,a2,a3⟩:=RU B t.l.length b2 b1 (by omega);rw [a1,oB]
 have hp:∀ k,0<=k->k<(t.l.length:Int)->idx A k=some (posOf B k):=by
  intro k k0 k1
  obtain ⟨q,rfl⟩:=Int.eq_ofNat_of_zero_le k0;exact getI (a3 q (by omega))
 rw [BW (φ:=fun n i s=>Ei t B A n (i,s,0)) (l:=B) (fun x=>Aq (posOf B) (BC t.l x)) (fun s=>(s,0)) 0 ?_ ?_ (by rw [FUv];omega) [] rfl]
 ·rw [oB]
  dsimp only
  unfold normL;rw [hB];rfl
 ·intro n i x s hx hi hs
  obtain ⟨x0,x1⟩:=b1 x (List.mem_of_getElem? hx);obtain ⟨ix,hm⟩:=Gv x0 x1
  have hr:=hA _ hm
  have hkl:=GR _ (hN _ hm)
  simp only [Ei];rw [dT (show (i:Int)<B.length by omega),cT,getI hx,oB,ix,oB,Je _ (hN _ hm),oB,PQ A _ (posOf B) (fun k hk=>by
   obtain ⟨k0,k1⟩:=Ip hr k hk;exact hp k k0 k1) (by omega),oB,oB,ix,oB,Tc _ _ (posOf B) (hN _ hm) hr,oB,Ab (by simp only [List.length_cons,List.length_nil];omega),Ab (by omega)]
 ·intro n s hs
  simp only [Ei];rw [dF (by omega),cF_]
theorem Rv (x y:AFd):AFd.eqv x y=decide (x=y):=by
 obtain ⟨n,a⟩:=x;obtain ⟨m,b⟩:=y;unfold AFd.eqv
 by_cases h1:n=m <;> by_cases h2:a=b <;> simp [h1,h2]
theorem node_ext {x y:ANd}:x=y↔x.kind=y.kind/\x.a=y.a/\x.b=y.b/\x.l=y.l:=by
 obtain ⟨a,b,c,d⟩:=x;obtain ⟨a',b',c',d'⟩:=y
 simp
theorem TK (x y:ANd) (h:x.l.length=y.l.length) (hN:NB x):Cl x y FU 0=some (if x.l=y.l then .go () else .ret false):=by
 unfold NB at hN;refine MK (φ:=Cl x y) (l:=x.l) (m:=y.l) false h ?_ ?_ (by rw [FUv];omega)
 ·intro n i a b ha hb hi
  simp only [Cl];rw [dT (show (i:Int)<x.l.length by omega),cT,getI ha,oB,getI hb,oB,Rv]
  constructor
  ·intro e;rw [dT e,Bool.not_true,cF_,Ab (by omega)]
  ·intro e;rw [dF e,Bool.not_false,cT]
 ·intro n
  simp only [Cl];rw [dF (by omega),cF_]
theorem NH (a b:ATy) (hl:a.l.length<=10000) (hN:∀ n∈a.l,NB n):DT a b=some (decide (a.l=b.l/\a.root=b.root)):=by
 unfold DT
 by_cases h1:a.l.length=b.l.length/\a.root=b.root
 ·rw [dT (show (a.l.length:Int)=b.l.length by omega),dT h1.2,Bool.not_true,Bool.or_false,cF_]
  rw [MK (φ:=CJ a b) (l:=a.l) (m:=b.l) false h1.1 ?_ ?_ (by rw [FUv];omega),oB]
  ·by_cases h2:a.l=b.l
   ·rw [if_pos h2,dT ⟨h2,h1.2⟩];rfl
   ·rw [if_neg h2,dF (fun h=>h2 h.1)];rfl
  ·intro n i x y hx hy hi
   simp only [CJ];rw [dT (show (i:Int)<a.l.length by omega),cT,getI hx,oB,getI hy,oB]
   by_cases h4:x.kind=y.kind/\x.a=y.a/\x.b=y.b/\x.l.length=y.l.length
   ·obtain ⟨e1,e2,e3,e4⟩:=h4
    rw [dT e1,dT e2,dT e3,dT (show (x.l.length:Int)=y.l.length by omega),Bool.not_true,Bool.or_false,Bool.or_false,Bool.or_false,cF_,TK x y e4 (hN x (List.mem_of_getElem? hx)),oB]
    constructor
    ·intro e;rw [if_pos (by rw [e]),QW,Ab (by omega)]
    ·intro e;rw [if_neg (fun h=>e (node_ext.2 ⟨e1,e2,e3,h⟩))];rfl
   ·rw [show (((!decide (x.kind=y.kind))||(!decide (x.a=y.a)))||(!decide (x.b=y.b))||(!decide ((x.l.length:Int)=(y.l.length:Int))))=true by
     simp only [Bool.or_eq_true,Bool.not_eq_true',decide_eq_false_iff_not];refine Classical.byContradiction fun h=>h4 ?_;simp only [not_or,Classical.not_not] at h;obtain ⟨⟨⟨h5,h6⟩,h7⟩,h8⟩:=h;exact ⟨h5,h6,h7,by omega⟩,cT]
    exact ⟨fun e=>absurd (by subst e;exact ⟨rfl,rfl,rfl,rfl⟩) h4,fun _=>rfl⟩
  ·intro n
   simp only [CJ];rw [dF (by omega),cF_]
 ·rw [show ((!decide ((a.l.length:Int)=(b.l.length:Int)))||(!decide (a.root=b.root)))=true by
   simp only [Bool.or_eq_true,Bool.not_eq_true',decide_eq_false_iff_not];refine Classical.byContradiction fun h=>h1 ?_;simp only [not_or,Classical.not_not] at h;exact ⟨by omega,h.2⟩,cT,dF (fun h=>h1 ⟨by rw [h.1],h.2⟩)]
end Go.Proofs.YtcoghblhdjmbfaaGreat
namespace Go.Proofs.YtcoghblhdjmbfaaGreat
open Go.V
open Classical
theorem VG (l:List Int):(cs l).length<=l.length:=Hr (cs l) l ((Kd l).imp (fun h=>by omega)) (fun x hx=>mem_cs.1 hx)
inductive RepC (w:ATy) (k no:Int):Nat->List ANd->Int->Prop
 | none {i:Int}:In w i->(nd w i).kind=no->RepC w k no 0 [] i
 | one {i:Int}:In w i->(nd w i).kind≠9->(nd w i).kind≠10->RepC w k no 0 [nd w i] i
 | join {i:Int} {c d:Nat} {l m:List ANd}:In w i->(nd w i).kind=k->RepC w k no c l (nd w i).a->RepC w k no d m (nd w i).b->RepC w k no (c+d+1) (l++m) i
theorem RepC.inn {w:ATy} {k no:Int} {c:Nat} {l:List ANd} {i:Int} (h:RepC w k no c l i):In w i:=by cases h <;> assumption
theorem RepC.uniq {w:ATy} {k no:Int} (hk:k=9\/k=10) (hno:no≠9/\no≠10) {c:Nat} {l:List ANd} {i:Int} (h:RepC w k no c l i):∀ {c':Nat} {l':List ANd},RepC w k no c' l' i->c=c':=by
 induction h with
 | none h1 h2 =>
  intro c' l' h
  cases h with
  | none _ _=>rfl
  | one _ _ _=>rfl
  | join _ h _ _=>omega
 | one h1 h2 h3 =>
  intro c' l' h
  cases h with
  | none _ _=>rfl
  | one _ _ _=>rfl
  | join _ h _ _=>omega
 | join h1 h2 _ _ ih1 ih2 =>
  intro c' l' h
  cases h with
  | none _ h=>omega
  | one _ _ _=>omega
  | join _ _ g1 g2=>rw [ih1 g1,ih2 g2]
theorem Pp {s t:ATy} {f:Int->Int} {B:Int->Prop} {k no:Int} (hk:k=9\/k=10) (hB:∀ x,B x->In s x->∀ y∈kidsL (nd s x),B y) (hf:∀ x,B x->In s x->In t (f x)/\nd t (f x)=Aq f (nd s x)) {c:Nat} {l:List ANd} {i:Int} (h:RepC s k no c l i):B i->RepC t k no c (l.map (Aq f)) (f i):=by
 induction h with
 | none hi h =>
  intro hb
  obtain ⟨e1,e2⟩:=hf _ hb hi;exact .none e1 (by rw [e2];exact h)
 | @one i hi h9 h10 =>
  intro hb
  obtain ⟨e1,e2⟩:=hf i hb hi
  have:=RepC.one (k:=k) (no:=no) e1 (by rw [e2];exact h9) (by rw [e2];exact h10)
  rw [e2] at this;exact this
 | @join i c d l m hi hkk _ _ ih1 ih2 =>
  intro hb
  have hlat:latB (nd s i).kind=true:=by unfold latB;rcases hk with hk | hk <;> rw [hkk,hk] <;> rfl
  have hl:kidsL (nd s i)=[(nd s i).a,(nd s i).b]:=DM hlat
  obtain ⟨e1,e2⟩:=hf i hb hi;obtain ⟨a1,a2⟩:=BY (f:=f) (n:=nd s i) (.inr (FC hlat));rw [List.map_append];refine .join e1 (by rw [e2];exact hkk) ?_ ?_
  ·rw [e2,a1];exact ih1 (hB i hb hi _ (by rw [hl];simp))
  ·rw [e2,a2];exact ih2 (hB i hb hi _ (by rw [hl];simp))
def RepK (w:ATy) (a:List AutoState) (at_:Int->Int):Prop:=∀ i:Int,0<=i->i<(a.length:Int)->∃ c l,c<=200/\RepC w (joK (stL a i).plus) (noK (stL a i).plus) c l (at_ i)/\∀ n∈l,n∈(An (stL a i)).map (Aq at_)
def SdC (t:ATy) (a:List AutoState) (at_:Int->Int) (p:Bool) (i:Int) (c:Nat) (x:Int):Prop:=
 (0<=i/\i<(a.length:Int)/\(stL a i).plus=p)/\∃ l,RepC t (joK p) (noK p) c l x/\∀ n∈l,n∈(An (stL a i)).map (Aq at_)
section
variable {t:ATy} {a:List AutoState} {at_:Int->Int} {p:Bool} {i:Int} {c:Nat} {x:Int}
theorem Tn (p:Bool):joK p=9\/joK p=10:=by cases p <;> simp [joK]
theorem TF (p:Bool):noK p≠9/\noK p≠10:=by cases p <;> simp [noK]
theorem SdC.st (h:RepK t a at_) (h0:0<=i) (h1:i<(a.length:Int)) (hp:(stL a i).plus=p):∃ c,c<=200/\SdC t a at_ p i c (at_ i):=by
 obtain ⟨c,l,h2,h3,h4⟩:=h i h0 h1;subst hp;exact ⟨c,h2,⟨h0,h1,rfl⟩,l,h3,h4⟩
theorem SdC.inn (h:SdC t a at_ p i c x):In t x:=by obtain ⟨_,l,h,_⟩:=h;exact h.inn
theorem SdC.lat (h:SdC t a at_ p i c x) (hl:latB (nd t x).kind=true):(nd t x).kind=joK p/\∃ d e,c=d+e+1/\SdC t a at_ p i d (nd t x).a/\SdC t a at_ p i e (nd t x).b:=by
 obtain ⟨h0,l,h,hm⟩:=h
 have h910:=FC hl
 cases h with
 | none _ h=>have:=TF p;omega
 | one _ h9 h10=>omega
 | join _ h h1 h2=>exact ⟨h,_,_,rfl,⟨h0,_,h1,fun n hn=>hm n (List.mem_append_left _ hn)⟩,⟨h0,_,h2,fun n hn=>hm n (List.mem_append_right _ hn)⟩⟩
theorem SdC.leaf (h:SdC t a at_ p i c x) (hk:3<=(nd t x).kind/\(nd t x).kind<=8):∃ m∈An (stL a i),nd t x=Aq at_ m:=by
  obtain ⟨h0,l,h,hm⟩:=h
  cases h with
  | none _ h => exfalso;have:noK p=1\/noK p=2:=by cases p <;> simp [noK]
                omega
  | one _ h9 h10 =>
    obtain ⟨m,h1,h2⟩:=List.mem_map.1 (hm (nd t x) (List.mem_cons_self ..))
    exact ⟨m,h1,h2.symm⟩
  | join _ h _ _=>exfalso;have:=Tn p;omega
theorem Pm {s:AutoState} {m m':ANd} (h:m∈An s) (h':m'∈An s) (hk:m.kind=m'.kind) (h3:3<=m.kind/\m.kind<=8):m=m':=by
 have ev:evK s.plus=1\/evK s.plus=2:=by cases s.plus <;> simp [evK]
 unfold An at h h';simp only [List.mem_append,JZ,List.mem_map] at h h'
 rcases h with ((((((⟨_,rfl⟩ | ⟨_,rfl⟩) | ⟨_,rfl⟩) | ⟨_,rfl⟩) | ⟨v,_,rfl⟩) | ⟨_,rfl⟩) | ⟨_,rfl⟩) | ⟨_,rfl⟩ <;>
  rcases h' with ((((((⟨_,rfl⟩ | ⟨_,rfl⟩) | ⟨_,rfl⟩) | ⟨_,rfl⟩) | ⟨v',_,rfl⟩) | ⟨_,rfl⟩) | ⟨_,rfl⟩) | ⟨_,rfl⟩ <;>
  first | rfl | (exfalso;simp only at hk h3;omega)
theorem SdC.same {x':Int} {c':Nat} (h:SdC t a at_ p i c x) (h':SdC t a at_ p i c' x') (hk:(nd t x).kind=(nd t x').kind) (h3:3<=(nd t x).kind/\(nd t x).kind<=8):nd t x=nd t x':=by
 obtain ⟨m,h1,e1⟩:=h.leaf h3;obtain ⟨m',h1',e1'⟩:=h'.leaf (by omega);rw [e1,e1'] at hk ⊢;rw [e1] at h3;rw [Pm h1 h1' hk h3]
theorem SdC.arrow (hA:PolA a) (hR:RepK t a at_) (h:SdC t a at_ p i c x) (hk:(nd t x).kind=6):(∃ j d,d<=200/\SdC t a at_ (!p) j d (nd t x).a)/\∃ j d,d<=200/\SdC t a at_ p j d (nd t x).b:=by
 obtain ⟨m,h1,e1⟩:=h.leaf (by omega);obtain ⟨⟨h0,hl,hp⟩,_⟩:=h
 have hmk:m.kind=6:=by rw [e1] at hk;exact hk
 obtain ⟨⟨k1,_⟩,_⟩:=CP hA h0 hl h1;obtain ⟨q1,q2,q3⟩:=k1 hmk;obtain ⟨⟨d0,d1,d2⟩,c0,c1,c2⟩:=hA.arrow i h0 hl q1;rw [e1,(BY (.inl hmk)).1,(BY (.inl hmk)).2,q2,q3];obtain ⟨u,hu,hu2⟩:=SdC.st hR d0 d1 (p := !p) (by rw [d2,hp]);obtain ⟨v,hv,hv2⟩:=SdC.st hR c0 c1 (p:=p) (by rw [c2,hp]);exact ⟨⟨_,u,hu,hu2⟩,_,v,hv,hv2⟩
theorem SdC.part (hA:PolA a) (hR:RepK t a at_) (h:SdC t a at_ p i c x) (hk:3<=(nd t x).kind/\(nd t x).kind<=8) {s:List UInt8} {v:Int} (hv:atN (nd t x) s=some v):∃ j d,d<=200/\SdC t a at_ p j d v:=by
 obtain ⟨m,h1,e1⟩:=h.leaf hk;obtain ⟨⟨h0,hl,hp⟩,_⟩:=h;obtain ⟨⟨_,k2⟩,_⟩:=CP hA h0 hl h1;rw [e1] at hv;obtain ⟨f,hf,_,rfl⟩:=Jt hv;obtain ⟨g,hg,rfl⟩:=List.mem_map.1 hf;obtain ⟨d0,d1,d2⟩:=k2 g hg;obtain ⟨u,hu,hu2⟩:=SdC.st hR d0 d1 (p:=p) (by rw [d2,hp]);exact ⟨_,u,hu,hu2⟩
open Classical in
noncomputable def cntC (t:ATy) (p:Bool) (x:Int):Nat:=if h:∃ c,∃ l,RepC t (joK p) (noK p) c l x then h.choose else 0
theorem SdC.cnt (h:SdC t a at_ p i c x):cntC t p x=c:=by
 obtain ⟨_,l,h,_⟩:=h
 have hex:∃ c,∃ l,RepC t (joK p) (noK p) c l x:=⟨c,l,h⟩
 unfold cntC;rw [dif_pos hex];obtain ⟨l',h'⟩:=hex.choose_spec;exact h'.uniq (Tn p) (TF p) h
end
def stpC (t:ATy) (S:List Int):List Int:=match latA t S with | some (n,rest)=>cs (rest++[n.a,n.b]) | none=>S
def orbC (t:ATy):Nat->Int->List Int
 | 0,x=>[x]
 | k+1,x=>stpC t (orbC t k x)
theorem Re (t:ATy) (x:Int):∀ k,(orbC t k x).length<=k+1
 | 0=>by simp [orbC]
 | k+1=>by
  have ih:=Re t x k
  show (stpC t (orbC t k x)).length<=_
  unfold stpC
  cases h:latA t (orbC t k x) with
  | none=>simp only;omega
  | some z =>
   obtain ⟨n,rest⟩:=z
   simp only
   obtain ⟨j,_,_,hp⟩:=Es h
   have h1:=hp.length_eq
   have h2:=VG (rest++[n.a,n.b])
   simp only [List.length_append,List.length_cons,List.length_nil] at h1 h2
   omega
def OrbS (t:ATy) (a:List AutoState) (at_:Int->Int) (p:Bool) (S:List Int):Prop:=∃ (i:Int) (x:Int) (k:Nat),S=orbC t k x/\In t x/\wsum (cntC t p) S+k<=200/\∀ z∈S,∃ c,SdC t a at_ p i c z
theorem Ll {l:List Int} {v:Int} (hne:l≠[]) (h:∀ x∈l,x=v):cs l=[v]:=by
 refine (MW (l:=[v]) (m:=l) (by simp) fun x=>?_).symm;rw [List.mem_singleton]
 constructor
 ·rintro rfl
  cases l with
  | nil=>exact absurd rfl hne
  | cons y r =>
   have:=h y (List.mem_cons_self ..)
   subst this;exact List.mem_cons_self ..
 ·exact h x
def MonS (t:ATy) (a:List AutoState) (at_:Int->Int) (p:Bool) (l:List Int):Prop:=∃ i,∀ z∈l,∃ c,SdC t a at_ p i c z
def OneS (t:ATy) (a:List AutoState) (at_:Int->Int) (p:Bool) (l:List Int):Prop:=∃ i c y,l=[y]/\SdC t a at_ p i c y
def StS (t:ATy) (a:List AutoState) (at_:Int->Int) (p:Bool) (l:List Int):Prop:=∃ i c y,l=[y]/\c<=200/\SdC t a at_ p i c y
section
variable {t:ATy} {a b:List AutoState} {at_ bt:Int->Int} {p:Bool} {l r S:List Int}
theorem OneS.mon (h:OneS t a at_ p l):MonS t a at_ p l:=by
 obtain ⟨i,c,y,rfl,h⟩:=h;exact ⟨i,fun z hz=>by rw [List.mem_singleton.1 hz];exact ⟨c,h⟩⟩
theorem OrbS.mon (h:OrbS t a at_ p l):MonS t a at_ p l:=by
 obtain ⟨i,_,_,_,_,_,h⟩:=h;exact ⟨i,h⟩
theorem MonS.sub (h:MonS t a at_ p l) (hs:∀ z∈r,z∈l):MonS t a at_ p r:=by
 obtain ⟨i,h⟩:=h;exact ⟨i,fun z hz=>h z (hs z hz)⟩
theorem StS.one (h:StS t a at_ p l):OneS t a at_ p l:=by
 obtain ⟨i,c,y,h1,_,h2⟩:=h;exact ⟨i,c,y,h1,h2⟩
theorem StS.orb (h:StS t a at_ p l):OrbS t a at_ p l:=by
 obtain ⟨i,c,y,rfl,h1,h2⟩:=h;refine ⟨i,y,0,rfl,h2.inn,?_,fun z hz=>by rw [List.mem_singleton.1 hz];exact ⟨c,h2⟩⟩
 have:=h2.cnt
 simp only [wsum]
 omega
theorem OneS.split {n:ANd} {rest:List Int} (h:OneS t a at_ p l) (hl:latA t l=some (n,rest)):n.kind=joK p/\OneS t a at_ p (cs (rest++[n.a]))/\OneS t a at_ p (cs (rest++[n.b])):=by
 obtain ⟨i,c,y,rfl,h⟩:=h;obtain ⟨j,rfl,hk,hp⟩:=Es hl
 have hr:rest=[]:=by
  have:=hp.length_eq
  simp only [List.length_cons,List.length_nil] at this;exact List.length_eq_zero_iff.1 (by omega)
 subst hr
 have hj:j=y:=by have:=hp.mem_iff (a:=j);simpa using this
 subst hj;obtain ⟨h1,d,e,_,h2,h3⟩:=h.lat hk;refine ⟨h1,⟨i,d,_,?_,h2⟩,i,e,_,?_,h3⟩ <;> exact K8 _
theorem OrbS.step {n:ANd} {rest:List Int} (h:OrbS t a at_ p l) (hl:latA t l=some (n,rest)):n.kind=joK p/\OrbS t a at_ p (cs (rest++[n.a,n.b])):=by
 obtain ⟨i,x,k,rfl,hx,hw,h⟩:=h
 have hst:orbC t (k+1) x=cs (rest++[n.a,n.b]):=by
  show stpC t (orbC t k x)=_
  unfold stpC;rw [hl]
 obtain ⟨j,rfl,hk,hp⟩:=Es hl;obtain ⟨c,hj⟩:=h j (hp.mem_iff.2 (List.mem_cons_self ..));obtain ⟨h1,d,e,hc,h2,h3⟩:=hj.lat hk;refine ⟨h1,i,x,k+1,hst.symm,hx,?_,fun z hz=>?_⟩
 ·have e1:=Iv (w:=cntC t p) hp
  have e2:=Ns (cntC t p) (rest++[(nd t j).a,(nd t j).b])
  rw [Js] at e2;simp only [wsum] at e1 e2;rw [h2.cnt,h3.cnt] at e2;rw [hj.cnt] at e1
  omega
 ·have hz:=mem_cs.1 hz
  rcases List.mem_append.1 hz with hz | hz
  ·exact h z (hp.mem_iff.2 (List.mem_cons_of_mem _ hz))
  ·simp only [List.mem_cons,List.not_mem_nil,or_false] at hz
   rcases hz with rfl | rfl
   ·exact ⟨d,h2⟩
   ·exact ⟨e,h3⟩
theorem Mw (hA:PolA a) (hR:RepK t a at_) (h:MonS t a at_ p l) (hk:∀ z∈l,(nd t z).kind=6) (hne:l≠[]):StS t a at_ (!p) (cs (l.map fun i=>(nd t i).a))/\StS t a at_ p (cs (l.map fun i=>(nd t i).b)):=by
 obtain ⟨i,h⟩:=h;obtain ⟨z,hz⟩:=List.exists_mem_of_ne_nil l hne;obtain ⟨c,hzc⟩:=h z hz
 have hkz:=hk z hz
 have hs:∀ z'∈l,nd t z'=nd t z:=fun z' hz'=>by
  obtain ⟨c',h'⟩:=h z' hz'
  have hk':=hk z' hz'
  exact h'.same hzc (by omega) (by omega)
 obtain ⟨⟨j,d,hd,h1⟩,j',d',hd',h2⟩:=hzc.arrow hA hR hkz;refine ⟨⟨j,d,_,Ll (v:=(nd t z).a) (by simpa using hne) (fun x hx=>?_),hd,h1⟩,j',d',_,Ll (v:=(nd t z).b) (by simpa using hne) (fun x hx=>?_),hd',h2⟩
 ·obtain ⟨y,hy,rfl⟩:=List.mem_map.1 hx;rw [hs y hy]
 ·obtain ⟨y,hy,rfl⟩:=List.mem_map.1 hx;rw [hs y hy]
theorem NU (hA:PolA a) (hR:RepK t a at_) (h:MonS t a at_ p l) {k:Int} (hk3:3<=k/\k<=8) (hk:∀ z∈l,(nd t z).kind=k) {s:List UInt8} (hne:AR t l s≠[]):StS t a at_ p (cs (AR t l s)):=by
 obtain ⟨i,h⟩:=h;obtain ⟨v,hv⟩:=List.exists_mem_of_ne_nil _ hne;obtain ⟨z,hz,hzv⟩:=List.mem_filterMap.1 hv;obtain ⟨c,hzc⟩:=h z hz
 have hkz:=hk z hz
 have hs:∀ z'∈l,nd t z'=nd t z:=fun z' hz'=>by
  obtain ⟨c',h'⟩:=h z' hz'
  have hk':=hk z' hz'
  exact h'.same hzc (by omega) (by omega)
 obtain ⟨j,d,hd,h1⟩:=hzc.part hA hR (by omega) hzv;refine ⟨j,d,v,Ll hne (fun x hx=>?_),hd,h1⟩;obtain ⟨y,hy,hyv⟩:=List.mem_filterMap.1 hx;rw [hs y hy,hzv] at hyv;exact (Option.some.inj hyv).symm
theorem OG (hA:PolA a) (hB:PolA b) (hR:RepK t a at_) (hS:RepK t b bt) {k:Int} (hl:MonS t a at_ p l) (hr:MonS t b bt p r) (hk:3<=k/\k<=8) (hlk:∀ z∈l,(nd t z).kind=k) (hrk:∀ z∈r,(nd t z).kind=k) (hne:l≠[]) {s:BSq} (hs:s∈(CM t k l r).2) :
  (StS t a at_ p s.left/\StS t b bt p s.right)\/(StS t b bt (!p) s.left/\StS t a at_ (!p) s.right):=by
 unfold CM at hs
 by_cases h0:k≠8/\r=[]
 ·rw [if_pos h0] at hs;cases hs
 rw [if_neg h0] at hs
 by_cases h6:k=6
 ·rw [if_pos h6] at hs
  have hrne:r≠[]:=fun e=>h0 ⟨by omega,e⟩
  obtain ⟨a1,a2⟩:=Mw hA hR hl (fun z hz=>by rw [hlk z hz,h6]) hne;obtain ⟨b1,b2⟩:=Mw hB hS hr (fun z hz=>by rw [hrk z hz,h6]) hrne;simp only [List.mem_cons,List.not_mem_nil,or_false] at hs
  rcases hs with rfl | rfl
  ·exact .inr ⟨b1,a1⟩
  ·exact .inl ⟨a2,b2⟩
 rw [if_neg h6] at hs
 by_cases hb:(allA t k l r).any (badA t l r)=true
 ·rw [if_pos hb] at hs;cases hs
 rw [if_neg hb] at hs;obtain ⟨s0,hm,rfl⟩:=List.mem_map.1 hs
 have hbad:badA t l r s0=false:=by
  cases hq:badA t l r s0 with
  | false=>rfl
  | true=>exact absurd (List.any_eq_true.2 ⟨s0,hm,hq⟩) hb
 unfold badA at hbad;rw [Bool.or_eq_false_iff] at hbad
 have n1:AR t l s0≠[]:=fun e=>by rw [e] at hbad;exact absurd hbad.1 (by decide)
 have n2:AR t r s0≠[]:=fun e=>by rw [e] at hbad;exact absurd hbad.2 (by decide)
 exact .inl ⟨NU hA hR hl hk hlk n1,NU hB hS hr hk hrk n2⟩
def FamS (t:ATy) (a b:List AutoState) (at_ bt:Int->Int) (q:BSq):Prop:=(OneS t a at_ true q.left/\OrbS t b bt true q.right)\/(OrbS t b bt false q.left/\OneS t a at_ false q.right)
theorem KU {k:Int} (h:MonS t a at_ p l):MonS t a at_ p (ofK t l k):=h.sub fun z hz=>(mem_ofK.1 hz).1
theorem U5 (hA:PolA a) (hB:PolA b) (hR:RepK t a at_) (hS:RepK t b bt) {q s:BSq} (h:FamS t a b at_ bt q) (hs:s∈(BJ t q).2):FamS t a b at_ bt s:=by
 have hcl:s∈(F8 t q).2->FamS t a b at_ bt s:=by
  intro hs
  unfold F8 at hs
  split at hs
  ·cases hs
  ·rename_i k hk
   obtain ⟨hk3,⟨z,hz,hzk⟩,_⟩:=Hi hk
   have hne:ofK t q.left k≠[]:=fun e=>by have:=mem_ofK.2 ⟨hz,hzk⟩;rw [e] at this;cases this
   have e1:∀ z∈ofK t q.left k,(nd t z).kind=k:=fun z hz=>(mem_ofK.1 hz).2
   have e2:∀ z∈ofK t q.right k,(nd t z).kind=k:=fun z hz=>(mem_ofK.1 hz).2
   rcases h with ⟨h1,h2⟩ | ⟨h1,h2⟩
   ·rcases OG hA hB hR hS (KU h1.mon) (KU h2.mon) hk3 e1 e2 hne hs with ⟨g1,g2⟩ | ⟨g1,g2⟩
    ·exact .inl ⟨g1.one,g2.orb⟩
    ·exact .inr ⟨g1.orb,g2.one⟩
   ·rcases OG hB hA hS hR (KU h1.mon) (KU h2.mon) hk3 e1 e2 hne hs with ⟨g1,g2⟩ | ⟨g1,g2⟩
    ·exact .inr ⟨g1.orb,g2.one⟩
    ·exact .inl ⟨g1.one,g2.orb⟩
  ·cases hs
 unfold BJ at hs
 split at hs
 ·cases hs
 ·unfold openA at hs
  cases hL:latA t q.left with
  | some z =>
   obtain ⟨n,rest⟩:=z;rw [hL] at hs
   simp only at hs
   rcases h with ⟨h1,h2⟩ | ⟨h1,h2⟩
   ·obtain ⟨k1,g1,g2⟩:=h1.split hL
    have k1:n.kind=9:=k1
    rw [if_neg (by omega)] at hs;simp only [List.mem_cons,List.not_mem_nil,or_false] at hs
    rcases hs with rfl | rfl
    ·exact .inl ⟨g1,h2⟩
    ·exact .inl ⟨g2,h2⟩
   ·obtain ⟨k1,g1⟩:=h1.step hL
    have k1:n.kind=10:=k1
    rw [if_pos k1,List.mem_singleton] at hs;subst hs;exact .inr ⟨g1,h2⟩
  | none =>
   rw [hL] at hs
   simp only at hs
   cases hQ:latA t q.right with
   | some z =>
    obtain ⟨n,rest⟩:=z;rw [hQ] at hs
    simp only at hs
    rcases h with ⟨h1,h2⟩ | ⟨h1,h2⟩
    ·obtain ⟨k1,g1⟩:=h2.step hQ
     have k1:n.kind=9:=k1
     rw [if_pos k1,List.mem_singleton] at hs;subst hs;exact .inl ⟨h1,g1⟩
    ·obtain ⟨k1,g1,g2⟩:=h2.split hQ
     have k1:n.kind=10:=k1
     rw [if_neg (by omega)] at hs;simp only [List.mem_cons,List.not_mem_nil,or_false] at hs
     rcases hs with rfl | rfl
     ·exact .inr ⟨h1,g1⟩
     ·exact .inr ⟨h1,g2⟩
   | none =>
    rw [hQ] at hs
    simp only at hs
    split at hs
    ·cases hs
    ·exact hcl hs
theorem IG {α β:Type} {f:α->List β} {m:Nat}:∀ l:List α,(∀ x∈l,(f x).length<=m)->(l.flatMap f).length<=l.length*m
 | [],_=>by simp
 | x::l,h=>by
  have h1:=IG l fun y hy=>h y (List.mem_cons_of_mem _ hy)
  have h2:=h x (List.mem_cons_self ..)
  rw [List.flatMap_cons,List.length_append,List.length_cons,Nat.succ_mul]
  omega
def bigU (t:ATy):List BSq:=(rngI t.l.length).flatMap fun y=>(rngI t.l.length).flatMap fun x=>(List.range 201).flatMap fun k=>[⟨[y],orbC t k x⟩,⟨orbC t k x,[y]⟩]
theorem TS (t:ATy):(bigU t).length<=t.l.length*(t.l.length*402):=by
 have e:(rngI t.l.length).length=t.l.length:=by unfold rngI;rw [List.length_map,List.length_range]
 have h:=IG (f:=fun y=>(rngI t.l.length).flatMap fun x=>(List.range 201).flatMap fun k=>[(⟨[y],orbC t k x⟩:BSq),⟨orbC t k x,[y]⟩]) (m:=t.l.length*402) (rngI t.l.length) fun y _=>by
  have h:=IG (f:=fun x=>(List.range 201).flatMap fun k=>[(⟨[y],orbC t k x⟩:BSq),⟨orbC t k x,[y]⟩]) (m:=402) (rngI t.l.length) fun x _=>by
   have h:=IG (f:=fun k=>[(⟨[y],orbC t k x⟩:BSq),⟨orbC t k x,[y]⟩]) (m:=2) (List.range 201) fun k _=>by simp
   rw [List.length_range] at h;exact h
  rw [e] at h;exact h
 rw [e] at h;exact h
theorem QG {q:BSq} (h:FamS t a b at_ bt q):q∈bigU t:=by
 unfold bigU
 rcases h with ⟨⟨i,c,y,h1,h2⟩,j,x,k,h3,h4,h5,_⟩ | ⟨⟨j,x,k,h3,h4,h5,_⟩,i,c,y,h1,h2⟩
 ·refine List.mem_flatMap.2 ⟨y,mem_rngI.2 h2.inn,List.mem_flatMap.2 ⟨x,mem_rngI.2 h4,List.mem_flatMap.2 ⟨k,List.mem_range.2 (by omega),?_⟩⟩⟩
  obtain ⟨ql,qr⟩:=q
  simp only at h1 h3
  rw [h1,h3];exact List.mem_cons_self ..
 ·refine List.mem_flatMap.2 ⟨y,mem_rngI.2 h2.inn,List.mem_flatMap.2 ⟨x,mem_rngI.2 h4,List.mem_flatMap.2 ⟨k,List.mem_range.2 (by omega),?_⟩⟩⟩
  obtain ⟨ql,qr⟩:=q
  simp only at h1 h3
  rw [h1,h3];exact List.mem_cons_of_mem _ (List.mem_cons_self ..)
theorem OneS.small (h:OneS t a at_ p l):l.length<=500/\∀ z∈l,In t z:=by
 obtain ⟨i,c,y,rfl,h⟩:=h;exact ⟨by simp,fun z hz=>by rw [List.mem_singleton.1 hz];exact h.inn⟩
theorem OrbS.small (h:OrbS t a at_ p l):l.length<=500/\∀ z∈l,In t z:=by
 obtain ⟨i,x,k,rfl,_,h1,h⟩:=h
 have:=Re t x k
 exact ⟨by omega,fun z hz=>by obtain ⟨c,h⟩:=h z hz;exact h.inn⟩
end
structure UQ (t:ATy) (q:BSq) (U:List BSq):Prop where
 mem:q∈U
 sml:∀ s∈U,s.left.length<=500/\s.right.length<=500
 inn:∀ s∈U,InQ t s
 clo:∀ s∈U,∀ s'∈(BJ t s).2,s'∈U
 len:U.length<=1000000000000
theorem UQ.rch {t:ATy} {q:BSq} {U:List BSq} (h:UQ t q U) {s:BSq} (hs:Rch t q s):s∈U:=by
 induction hs with
 | refl=>exact h.mem
 | step _ h2 ih=>exact h.clo _ ih _ h2
open Classical in
theorem V2 {t:ATy} {a b:List AutoState} {at_ bt:Int->Int} (hA:PolA a) (hB:PolA b) (hR:RepK t a at_) (hS:RepK t b bt) (ht:t.l.length<=5000) {q:BSq} (h:FamS t a b at_ bt q):∃ U,UQ t q U:=by
 refine ⟨(bigU t).filter fun s=>decide (FamS t a b at_ bt s),?_,fun s hs=>?_,fun s hs=>?_,fun s hs s' hs'=>?_,?_⟩
 ·exact List.mem_filter.2 ⟨QG h,dT h⟩
 ·rcases of_decide_eq_true (List.mem_filter.1 hs).2 with ⟨h1,h2⟩ | ⟨h1,h2⟩
  ·exact ⟨h1.small.1,h2.small.1⟩
  ·exact ⟨h1.small.1,h2.small.1⟩
 ·rcases of_decide_eq_true (List.mem_filter.1 hs).2 with ⟨h1,h2⟩ | ⟨h1,h2⟩
  ·exact ⟨h1.small.2,h2.small.2⟩
  ·exact ⟨h1.small.2,h2.small.2⟩
 ·have:=U5 hA hB hR hS (of_decide_eq_true (List.mem_filter.1 hs).2) hs'
  exact List.mem_filter.2 ⟨QG this,dT this⟩
 ·refine Nat.le_trans (List.length_filter_le ..) (Nat.le_trans (TS t) ?_)
  have h1:t.l.length*402<=5000*402:=Nat.mul_le_mul_right _ ht
  exact Nat.le_trans (Nat.mul_le_mul ht h1) (by decide)
end Go.Proofs.YtcoghblhdjmbfaaGreat
namespace Go.Proofs.YtcoghblhdjmbfaaGreat
open Go.V
open Classical
def ofS (q:RSeq):BSq:=⟨q.l,q.r⟩
def SmS (s:RSeq):Prop:=s.l.length<=3000/\s.r.length<=3000
theorem VX {x4:List RSeq} {k:Nat} {x:RSeq} (hk:x4[k]? = some x) (l4:List RSeq) (hs:∀ s∈l4,SmS s) (hl:l4.length<=2000000000000):Da x4 (k:Int) l4 FU (false,0)=some (decide (x∈l4)):=by
 obtain ⟨o,e1,e2⟩:=Be (φ:=fun n i (b:Bool)=>Da x4 (k:Int) l4 n (b,i)) (l:=l4) (fun i b=>(b=true->x∈l4)/\(b=false->x∉l4.take i)) (fun o=>o=decide (x∈l4))
  (by
   rintro n i y b hy hi ⟨h1,h2⟩;simp only [Da];rw [dT (show (i:Int)<(l4.length:Int) by omega)]
   cases b with
   | true =>
    right
    simp only [Bool.not_true,Bool.and_false,cF_];exact ⟨_,rfl,(dT (h1 rfl)).symm⟩
   | false =>
    left
    have hsy:=hs y (List.mem_of_getElem? hy)
    rw [Bool.not_false,Bool.and_true,cT,getI hy,oB,getI hk,oB,T1 y x hsy.1 hsy.2,oB,Ab (by constructor <;> omega)];refine ⟨_,rfl,fun h=>?_,fun h hm=>?_⟩
    ·rw [<- of_decide_eq_true h];exact List.mem_of_getElem? hy
    ·rw [takeS hy] at hm
     rcases List.mem_append.1 hm with hm | hm
     ·exact h2 rfl hm
     ·rw [List.mem_singleton] at hm
      exact of_decide_eq_false h hm.symm)
  (by
   rintro n b ⟨h1,h2⟩;simp only [Da];rw [dF (by omega),Bool.false_and,cF_];refine ⟨b,rfl,?_⟩
   cases b with
   | true=>exact (dT (h1 rfl)).symm
   | false=>exact (dF (by have:=h2 rfl;rwa [List.take_length] at this)).symm) (by rw [FUv];omega) false ⟨fun h=>by (cases h),fun _=>by simp⟩
 rw [e1,e2]
noncomputable def addS (l x:List RSeq):List RSeq:=x.foldl (fun acc s=>if s∈acc then acc else acc++[s]) l
theorem Sa (l x:List RSeq) (s:RSeq):addS l (x++[s])=if s∈addS l x then addS l x else addS l x++[s]:=by unfold addS;rw [List.foldl_append];rfl
theorem T6 (l:List RSeq):∀ x:List RSeq,(addS l x).length<=l.length+x.length:=by
 intro x
 induction x generalizing l with
 | nil=>exact Nat.le_refl _
 | cons s x ih =>
  have:=ih (if s∈l then l else l++[s])
  have e:addS l (s::x)=addS (if s∈l then l else l++[s]) x:=rfl
  rw [e,List.length_cons]
  split at this <;> rename_i h
  ·rw [if_pos h];omega
  ·rw [if_neg h];simp only [List.length_append,List.length_cons,List.length_nil] at this;omega
theorem KW (l:List RSeq):∀ x:List RSeq,(∀ s,s∈addS l x↔s∈l\/s∈x)/\(l.Nodup->(addS l x).Nodup)/\∃ e,addS l x=l++e:=by
 intro x
 induction x generalizing l with
 | nil=>exact ⟨fun s=>by simp [addS],fun h=>h,[],by simp [addS]⟩
 | cons s x ih =>
  have e:addS l (s::x)=addS (if s∈l then l else l++[s]) x:=rfl
  rw [e]
  by_cases h:s∈l
  ·rw [if_pos h]
   obtain ⟨a,b,c⟩:=ih l;refine ⟨fun y=>?_,b,c⟩;rw [a y,List.mem_cons]
   constructor
   ·rintro (h | h);exact .inl h;exact .inr (.inr h)
   ·rintro (h2 | rfl | h2)
    ·exact .inl h2
    ·exact .inl h
    ·exact .inr h2
  ·rw [if_neg h]
   obtain ⟨a,b,e2,c⟩:=ih (l++[s]);refine ⟨fun y=>?_,fun hn=>b ?_,[s]++e2,by rw [c,List.append_assoc]⟩
   ·rw [a y,List.mem_append,List.mem_singleton,List.mem_cons]
    constructor
    ·rintro ((h | h) | h)
     ·exact .inl h
     ·exact .inr (.inl h)
     ·exact .inr (.inr h)
    ·rintro (h | h | h)
     ·exact .inl (.inl h)
     ·exact .inl (.inr h)
     ·exact .inr h
   ·rw [List.nodup_append]
    exact ⟨hn,by simp,fun a ha b hb e3=>by rw [List.mem_singleton] at hb;subst hb;subst e3;exact h ha⟩
theorem UA (x4 l4:List RSeq) (hs:∀ s∈l4,SmS s) (hx:∀ s∈x4,SmS s) (hl:l4.length+x4.length<=2000000000000):CI x4 FU (0,l4)=some (addS l4 x4):=by
 obtain ⟨o,e1,e2⟩:=Be (φ:=fun n i q=>CI x4 n (i,q)) (l:=x4) (fun i q=>q=addS l4 (x4.take i)) (fun o=>o=addS l4 x4)
  (by
   rintro n i x q hxi hi rfl
   left
   have hal:=T6 l4 (x4.take i)
   rw [List.length_take] at hal
   have hsm:∀ s∈addS l4 (x4.take i),SmS s:=fun s h=>((KW l4 (x4.take i)).1 s).1 h |>.elim (hs s) (fun h=>hx s (List.mem_of_mem_take h))
   simp only [CI];rw [dT (show (i:Int)<(x4.length:Int) by omega),cT,VX hxi _ hsm (by omega),oB,takeS hxi,Sa]
   by_cases hm:x∈addS l4 (x4.take i)
   ·rw [dT hm,Bool.not_true,cF_,Ab (by constructor <;> omega),if_pos hm]
    exact ⟨_,rfl,rfl⟩
   ·rw [dF hm,Bool.not_false,cT,getI hxi,oB,Ab (by simp only [List.length_cons,List.length_nil];omega),Ab (by constructor <;> omega),if_neg hm]
    exact ⟨_,rfl,rfl⟩)
  (by
   rintro n q rfl;simp only [CI];rw [dF (by omega),cF_];exact ⟨_,rfl,by rw [List.take_length]⟩) (by rw [FUv];omega) l4 (by simp [addS])
 rw [e1,e2]
set_option maxHeartbeats 1000000 in
theorem Kt {t:ATy} {q:BSq} {U:List BSq} (hO:OkT t) (hN:∀ n∈t.l,NB n) (hU:UQ t q U):∀ (n i:Nat) (all:List RSeq),i<=all.length->U.length - i<n->all.Nodup->(∀ s∈all,Rch t q (ofS s)) ->
  (∀ j s,j<i->all[j]? = some s->(BJ t (ofS s)).1=false/\∀ s'∈(BJ t (ofS s)).2,toS s'∈all)->toS q∈all ->
  ∃ o,DY t n ((i:Int),all)=some o/\((o = .ret false/\∃ s,Rch t q s/\(BJ t s).1=true)\/(∃ l,o = .go l/\∀ s,Rch t q s->(BJ t s).1=false))
 | 0,i,all,_,h,_,_,_,_=>by omega
 | n+1,i,all,hi,hn,hnd,hr,hp,hqa=>by
  have hlen:all.length<=U.length:=by
   have h1:(all.map ofS).Nodup:=by
    unfold List.Nodup;rw [List.pairwise_map];exact hnd.imp (fun {a b} h e=>h (by have:=congrArg toS e;exact this))
   have:=Hr (all.map ofS) U h1 (fun s hs=>by obtain ⟨x,hx,rfl⟩:=List.mem_map.1 hs;exact hU.rch (hr x hx))
   rwa [List.length_map] at this
  have hUl:=hU.len
  have hsml:=hU.sml
  have hsm:∀ s∈all,SmS s:=fun s hs=>by have:=hsml _ (hU.rch (hr s hs));exact ⟨by have:=this.1;show (ofS s).left.length<=3000;omega,by have:=this.2;show (ofS s).right.length<=3000;omega⟩
  simp only [DY]
  by_cases hie:i=all.length
  ·rw [dF (by omega),cF_]
   refine ⟨_,rfl,.inr ⟨all,rfl,fun s hs=>?_⟩⟩
   have key:∀ s,Rch t q s->toS s∈all:=by
    intro s hs
    induction hs with
    | refl=>exact hqa
    | step h1 h2 ih =>
     obtain ⟨j,hj⟩:=List.getElem?_of_mem ih;exact (hp j _ (by have:=(List.getElem?_eq_some_iff.1 hj).1;omega) hj).2 _ h2
   obtain ⟨j,hj⟩:=List.getElem?_of_mem (key s hs);exact (hp j _ (by have:=(List.getElem?_eq_some_iff.1 hj).1;omega) hj).1
  ·have hil:i<all.length:=by omega
   have hx:all[i]? = some all[i]:=List.getElem?_eq_getElem hil
   have hxr:=hr _ (List.getElem_mem hil)
   have hxU:=hU.rch hxr
   have hxs:=hsml _ hxU
   rw [dT (by omega),cT,getI hx,oB,show FB t all[i]=some ((BJ t (ofS all[i])).2.map toS,!(BJ t (ofS all[i])).1) from R4 hO hN (hU.inn _ hxU) (by omega) (by omega),oB];simp only [Bool.not_not]
   cases hf:(BJ t (ofS all[i])).1 with
   | true=>rw [cT];exact ⟨_,rfl,.inl ⟨rfl,_,hxr,hf⟩⟩
   | false =>
    rw [cF_]
    have hnew:∀ s∈(BJ t (ofS all[i])).2,Rch t q s:=fun s hs => .step hxr hs
    have hll:=Po hN (hU.inn _ hxU)
    rw [UA _ _ hsm (fun s hs=>by
     obtain ⟨y,hy,rfl⟩:=List.mem_map.1 hs
     have:=hsml _ (hU.rch (hnew y hy))
     exact ⟨by show y.left.length<=3000;omega,by show y.right.length<=3000;omega⟩) (by rw [List.length_map];omega),oB,Ab (by constructor <;> omega)]
    obtain ⟨a1,a2,e,a3⟩:=KW all ((BJ t (ofS all[i])).2.map toS)
    have hpre:∀ j s,j<all.length->(addS all ((BJ t (ofS all[i])).2.map toS))[j]? = some s->all[j]? = some s:=fun j s hj h=>by
     rw [a3,List.getElem?_append_left hj] at h;exact h
    exact Kt hO hN hU n (i+1) _ (by rw [a3,List.length_append];omega) (by omega) (a2 hnd) (fun s hs=>by
     rcases (a1 s).1 hs with h | h
     ·exact hr s h
     ·obtain ⟨y,hy,rfl⟩:=List.mem_map.1 h;exact hnew y hy) (fun j s hj hjs=>by
     have hjs2:=hpre j s (by omega) hjs
     by_cases hji:j=i
     ·subst hji
      rw [hx] at hjs2;cases hjs2
      exact ⟨hf,fun s' hs'=>(a1 _).2 (.inr (List.mem_map.2 ⟨s',hs',rfl⟩))⟩
     ·obtain ⟨b1,b2⟩:=hp j s (by omega) hjs2
      exact ⟨b1,fun s' hs'=>(a1 _).2 (.inl (b2 s' hs'))⟩) ((a1 _).2 (.inl hqa))
theorem P8 {t:ATy} {l r:List Int} {U:List BSq} (hO:OkT t) (hN:∀ n∈t.l,NB n) (hl:l.length<=1000) (hr:r.length<=1000) (hU:UQ t ⟨cs l,cs r⟩ U):Gi t l r=some (decide (Valid t ⟨cs l,cs r⟩)):=by
 unfold Gi;rw [Gx (by omega),oB,Gx (by omega),oB]
 have hUl:=hU.len
 obtain ⟨o,e1,h⟩:=Kt hO hN hU FU 0 [toS ⟨cs l,cs r⟩] (by simp) (by rw [FUv];omega) (by simp) (fun s hs=>by rw [List.mem_singleton] at hs;subst hs;exact .refl) (fun j s hj=>by omega) (by simp)
 have e1:DY t FU (0,[(⟨cs l,cs r⟩:RSeq)])=some o:=e1
 rw [e1,oB]
 have hv:=Rm hO (hU.inn _ hU.mem)
 rcases h with ⟨rfl,s,hs,hf⟩ | ⟨l',rfl,h⟩
 ·have:¬ Valid t ⟨cs l,cs r⟩:=fun h=>by have:=hv.2 h s hs;rw [hf] at this;cases this
  rw [dF this];rfl
 ·rw [dT (hv.1 h)];rfl
def Sub (a b:ATy):Prop:=∀ p,Sat a p a.root->Sat b p b.root
theorem N6 {a b:ATy} (ha:MayO a) (hb:MayO b):Valid (Dj a b) ⟨[a.root],[b.root+(a.l.length:Int)]⟩↔Sub a b:=by
 have h1:∀ p,Sat (Dj a b) p a.root↔Sat a p a.root:=fun p=>Qx ha.ok (Oc a b) p a.root ha.root
 have h2:∀ p,Sat (Dj a b) p (b.root+(a.l.length:Int))↔Sat b p b.root:=fun p=>Qx hb.ok (OI a b) p b.root hb.root
 constructor
 ·intro h p hp
  refine Classical.byContradiction fun hn=>h p ⟨fun i hi=>?_,fun i hi=>?_⟩
  ·rw [List.mem_singleton] at hi;subst hi;exact (h1 p).2 hp
  ·rw [List.mem_singleton] at hi;subst hi;exact fun h3=>hn ((h2 p).1 h3)
 ·intro h p hp
  exact hp.2 _ (by simp) ((h2 p).2 (h p ((h1 p).1 (hp.1 _ (by simp)))))
theorem Ly {a b:ATy} {U:List BSq} (ha:MayO a) (hb:MayO b) (hl:a.l.length<=2500) (hl2:b.l.length<=2001) (hU:UQ (Dj a b) ⟨[a.root],[b.root+(a.l.length:Int)]⟩ U):Dk a b=some (decide (Sub a b)):=by
 unfold Dk
 have hr:=hb.root
 rw [Ry a b (by omega) (by omega) hb.nb hb.ok.right,oB]
 simp only
 rw [Ab (by have:=hr.1;have:=hr.2;constructor <;> omega)];rw [show (⟨(Dj a b).l,(Dj a b).root⟩:ATy)=Dj a b from rfl,P8 (Sz ha.ok hb.ok) (S6 ha.nb hb.nb) (by simp) (by simp) (by rw [K8,K8];exact hU),oB,K8,K8]
 congr 1
 exact decide_eq_decide.2 (N6 ha hb)
theorem S7 {w:ATy} {ats:List Int} {off k no:Int} (hk:k=9\/k=10) (h0:0<=off) (l:List ANd):∀ (A B:List ANd),(∀ x∈l,x.kind≠9/\x.kind≠10)->w.l=A++((chB off k l).2.map (lkN ats)++B)->off=(A.length:Int)->l≠[] ->
  0<=(chB off k l).1/\∃ c,c+1=l.length/\RepC w k no c (l.map (Aq (atI ats))) (chB off k l).1:=by
 refine EH (P:=fun l=>∀ (A B:List ANd),(∀ x∈l,x.kind≠9/\x.kind≠10)->w.l=A++((chB off k l).2.map (lkN ats)++B)->off=(A.length:Int)->l≠[] ->
  0<=(chB off k l).1/\∃ c,c+1=l.length/\RepC w k no c (l.map (Aq (atI ats))) (chB off k l).1) (fun _ _ _ _ _ h=>absurd rfl h) (fun l x ih A B hl hw hoff _=>?_) l
 have hx:=hl x (by simp)
 rw [Gh] at hw ⊢
 by_cases hn:l=[]
 ·subst hn
  have hz:BK off k (chB off k []) x=(off,[x]):=by
   unfold chB BK
   simp
  rw [hz] at hw ⊢;obtain ⟨e1,e2⟩:=DD (w:=w) (A:=A) (B:=B) (x:=lkN ats x) (i:=off) (by rw [hw];rfl) hoff;rw [H8 hx] at e1;refine ⟨h0,0,rfl,?_⟩
  have hr:=RepC.one (w:=w) (k:=k) (no:=no) e2 (by rw [e1];exact hx.1) (by rw [e1];exact hx.2)
  rw [e1] at hr;exact hr
 ·have hk6:k≠6:=by omega
  generalize hz:chB off k l=z at *
  obtain ⟨at0,zs⟩:=z
  have hpos:0<=at0:=by
   by_cases hc:0<=at0
   ·exact hc
   ·have hst:BK off k (at0,zs) x=(off+zs.length,zs++[x]):=by unfold BK;simp [hc]
    rw [hst] at hw
    have:=(ih A ([lkN ats x]++B) (fun y hy=>hl y (by simp [hy])) (by rw [hw];simp) hoff hn).1
    exact this
  have hst:BK off k (at0,zs) x=(off+zs.length+1,zs++[x]++[⟨k,at0,off+zs.length,[]⟩]):=by unfold BK;simp [hpos]
  rw [hst] at hw ⊢
  have hj:lkN ats ⟨k,at0,off+zs.length,[]⟩=⟨k,at0,off+zs.length,[]⟩:=by
   unfold lkN
   simp [hk6]
  obtain ⟨_,c,hc,hI⟩:=ih A ([lkN ats x,⟨k,at0,off+zs.length,[]⟩]++B) (fun y hy=>hl y (by simp [hy])) (by rw [hw];simp [hj]) hoff hn;obtain ⟨e1,e2⟩:=DD (w:=w) (A:=A++zs.map (lkN ats)) (B:=⟨k,at0,off+zs.length,[]⟩::B) (x:=lkN ats x) (i:=off+zs.length) (by rw [hw];simp [hj]) (by simp;omega);obtain ⟨f1,f2⟩:=DD (w:=w) (A:=A++zs.map (lkN ats)++[lkN ats x]) (B:=B) (x:=⟨k,at0,off+zs.length,[]⟩) (i:=off+zs.length+1) (by rw [hw];simp [hj]) (by simp;omega);rw [H8 hx] at e1;refine ⟨by show 0<=off+(zs.length:Int)+1;omega,c+0+1,by rw [List.length_append];simp only [List.length_cons,List.length_nil];omega,?_⟩;rw [List.map_append]
  have hr:=RepC.one (w:=w) (k:=k) (no:=no) e2 (by rw [e1];exact hx.1) (by rw [e1];exact hx.2)
  rw [e1] at hr;exact RepC.join (k:=k) f2 (by rw [f1]) (by rw [f1];exact hI) (by rw [f1];exact hr)
theorem Of {w:ATy} {ats:List Int} {off:Int} {s:AutoState} (h0:0<=off) {A B:List ANd} (hw:w.l=A++((BB off s).2.map (lkN ats)++B)) (hoff:off=(A.length:Int)) :
  ∃ c,c<=(An s).length/\RepC w (joK s.plus) (noK s.plus) c ((An s).map (Aq (atI ats))) (BB off s).1:=by
 have hsb:BB off s=if (chB off (joK s.plus) (An s)).1<0 then (off,[⟨noK s.plus,0,0,[]⟩]) else chB off (joK s.plus) (An s):=by rw [<- EZ];rfl
 rw [hsb] at hw ⊢
 have hjk:joK s.plus=9\/joK s.plus=10:=by cases s.plus <;> simp [joK]
 by_cases hn:An s=[]
 ·rw [hn] at hw ⊢
  have hz:(chB off (joK s.plus) []).1<0:=by show (-1:Int)<0;decide
  rw [if_pos hz] at hw ⊢;obtain ⟨e1,e2⟩:=DD (w:=w) (A:=A) (B:=B) (x:=lkN ats ⟨noK s.plus,0,0,[]⟩) (i:=off) (by rw [hw];rfl) hoff;refine ⟨0,Nat.zero_le _,RepC.none e2 ?_⟩;rw [e1];rfl
 ·by_cases hz:(chB off (joK s.plus) (An s)).1<0
  ·exfalso
   have hge:∀ l:List ANd,l≠[]->0<=(chB off (joK s.plus) l).1:=by
    intro l
    refine EH (P:=fun l=>l≠[]->0<=(chB off (joK s.plus) l).1) (fun h=>absurd rfl h) (fun l x ih _=>?_) l;rw [Gh];unfold BK
    split <;> simp <;> omega
   have:=hge _ hn
   omega
  ·rw [if_neg hz] at hw ⊢
   obtain ⟨_,c,hc,h⟩:=S7 (no:=noK s.plus) hjk h0 (An s) A B (fun x hx=>Ef hx) hw hoff hn;exact ⟨c,by omega,h⟩
theorem O8 {w:ATy} {k no:Int}:∀ (l:List ANd) (at_ off:Int) (pre:List ANd) (c:Nat) (A B:List ANd),w.l=A++(chn k at_ off l++B)->off=(A.length:Int)->(∀ x∈l,x.kind≠9/\x.kind≠10)->RepC w k no c pre at_->RepC w k no (c+l.length) (pre++l) (lastA at_ off l)
 | [],at_,off,pre,c,A,B,_,_,_,h=>by rw [List.append_nil];exact h
 | x::r,at_,off,pre,c,A,B,hw,ho,hx,h=>by
  have h1:=DD (w:=w) (A:=A) (x:=x) (B:=⟨k,at_,off,[]⟩::(chn k (off+1) (off+2) r++B)) (i:=off) (by rw [hw];simp [chn]) ho
  have h2:=DD (w:=w) (A:=A++[x]) (x:=⟨k,at_,off,[]⟩) (B:=chn k (off+1) (off+2) r++B) (i:=off+1) (by rw [hw];simp [chn]) (by rw [List.length_append];simp;omega)
  have hk:=hx x (by simp)
  have r1:RepC w k no 0 [x] off:=by
   have:=RepC.one (w:=w) (k:=k) (no:=no) h1.2 (by rw [h1.1];exact hk.1) (by rw [h1.1];exact hk.2)
   rw [h1.1] at this;exact this
  have r2:RepC w k no (c+0+1) (pre++[x]) (off+1) := .join h2.2 (by rw [h2.1]) (by rw [h2.1];exact h) (by rw [h2.1];exact r1)
  have:=O8 r (off+1) (off+2) (pre++[x]) (c+0+1) (A++[x,⟨k,at_,off,[]⟩]) B (by rw [hw];simp [chn]) (by rw [List.length_append];simp;omega) (fun y hy=>hx y (by simp [hy])) r2
  have e:c+0+1+r.length=c+(x::r).length:=by rw [List.length_cons];omega
  rw [e] at this
  simpa [lastA] using this
theorem Qg {a:AutoAuto} (hv:∀ s∈a.l,s.vars.length<=40):RepK (typeW a) a.l (fun k=>k):=by
 intro i h0 h1
 obtain ⟨j,rfl⟩:=Int.eq_ofNat_of_zero_le h0
 have hj:j<a.l.length:=by omega
 have hs:stL a.l (j:Int)=a.l[j]:=by unfold stL;rw [Int.toNat_natCast,List.getElem?_eq_getElem hj];rfl
 have hsp:a.l=a.l.take j++a.l[j]::a.l.drop (j+1):=by rw [<- List.drop_eq_getElem_cons hj,List.take_append_drop]
 obtain ⟨e1,e2⟩:=Iw (a.l.take j) a.l[j] (a.l.drop (j+1)) (a.l.length:Int);rw [<- hsp] at e1 e2;rw [hs]
 have hpl:=Fy (hv a.l[j] (List.getElem_mem hj))
 generalize a.l[j]=s at *
 have hw:(typeW a).l=typH (a.l.length:Int) a.l++typB (a.l.length:Int) a.l:=rfl
 have hlen:(typH (a.l.length:Int) a.l).length=a.l.length:=FT _ _
 have hB:=Ih (a.l.take j) (a.l.length:Int)
 generalize ho:offA (a.l.length:Int) (a.l.take j)=off at *
 have hA:((typH (a.l.length:Int) a.l++typB (a.l.length:Int) (a.l.take j)).length:Int)=off:=by rw [List.length_append,hlen];omega
 have n0:=DD (w:=typeW a) (A:=typH (a.l.length:Int) a.l++typB (a.l.length:Int) (a.l.take j)) (x:=⟨noK s.plus,0,0,[]⟩) (B:=chn (joK s.plus) off (off+1) (An s)++typB (offA (a.l.length:Int) (a.l.take j++[s])) (a.l.drop (j+1))) (i:=off) (by rw [hw,e2];simp [blk]) hA.symm
 have r0:RepC (typeW a) (joK s.plus) (noK s.plus) 0 [] off := .none n0.2 (by rw [n0.1])
 have r1:=O8 (w:=typeW a) (k:=joK s.plus) (no:=noK s.plus) (An s) off (off+1) [] 0 (typH (a.l.length:Int) a.l++typB (a.l.length:Int) (a.l.take j)++[⟨noK s.plus,0,0,[]⟩]) (typB (offA (a.l.length:Int) (a.l.take j++[s])) (a.l.drop (j+1))) (by rw [hw,e2];simp [blk]) (by rw [List.length_append];simp only [List.length_cons,List.length_nil];omega) (fun x hx=>Ef hx) r0
 rw [List.nil_append] at r1
 have nh:=DD (w:=typeW a) (A:=typH (a.l.length:Int) (a.l.take j)) (x:=hdN off s) (B:=typH (offA (a.l.length:Int) (a.l.take j++[s])) (a.l.drop (j+1))++typB (a.l.length:Int) a.l) (i:=(j:Int)) (by rw [hw,e1];simp) (by rw [FT,List.length_take];omega)
 refine ⟨0+(An s).length+(0+(An s).length)+1,An s++An s,by omega,.join nh.2 (by rw [nh.1];rfl) (by rw [nh.1];exact r1) (by rw [nh.1];exact r1),fun n hn=>?_⟩
 have hid:(An s).map (Aq fun k=>k)=An s:=by
  have h:(An s).map (Aq fun k=>k)=(An s).map id:=List.map_congr_left fun n _=>J8 n
  rw [h,List.map_id]
 rw [hid]
 rcases List.mem_append.1 hn with h | h <;> exact h
theorem Rw {x:AutoAuto} (hv:∀ s∈x.l,s.vars.length<=40):RepK (backT x) x.l (atI (runB x.l).1):=by
 intro i h0 h1
 obtain ⟨j,rfl⟩:=Int.eq_ofNat_of_zero_le h0
 have hj:j<x.l.length:=by omega
 have hs:stL x.l (j:Int)=x.l[j]:=by unfold stL;rw [Int.toNat_natCast,List.getElem?_eq_getElem hj];rfl
 obtain ⟨A,B,e1,e2⟩:=Ra x.l j x.l[j] (List.getElem?_eq_getElem hj)
 have hpl:=Fy (hv x.l[j] (List.getElem_mem hj))
 rw [hs];obtain ⟨c,hc,h⟩:=Of (w:=backT x) (ats:=(runB x.l).1) (off:=(A.length:Int)) (s:=x.l[j]) (by omega) (A:=A.map (lkN (runB x.l).1)) (B:=B.map (lkN (runB x.l).1)) (by show ((runB x.l).2).map _=_;rw [e1,List.map_append,List.map_append]) (by rw [List.length_map]);rw [Qe e2];exact ⟨c,_,by omega,h,fun n hn=>hn⟩
theorem IR {s t:ATy} {a:List AutoState} {at_ f:Int->Int} {B:Int->Prop} (hB:∀ x,B x->In s x->∀ y∈kidsL (nd s x),B y) (hf:∀ x,B x->In s x->In t (f x)/\nd t (f x)=Aq f (nd s x)) (h:RepK s a at_) (hall:∀ i:Int,0<=i->i<(a.length:Int)->B (at_ i)):RepK t a (fun i=>f (at_ i)):=by
 intro i h0 h1
 obtain ⟨c,l,hc,hr,hm⟩:=h i h0 h1;refine ⟨c,l.map (Aq f),hc,Pp (Tn _) hB hf hr (hall i h0 h1),fun n hn=>?_⟩;obtain ⟨n',hn',rfl⟩:=List.mem_map.1 hn;obtain ⟨m,hm',rfl⟩:=List.mem_map.1 (hm n' hn');rw [E6];exact List.mem_map.2 ⟨m,hm',rfl⟩
theorem Lj {x:AutoAuto} (ha:AB x) (hm:mayP x=0) (hl:x.l.length<=20):∃ at_:Int->Int,RepK ⟨normL (backT (normP x)).l (backT (normP x)).root,0⟩ (normP x).l at_/\at_ 0=0:=by
 obtain ⟨_,hMO,hlen⟩:=Ga ha hm hl
 have hL:=I2 ha hm
 have hn:=JE hL
 have hmn:=HL ha hm
 have hnl:(normP x).l.length<=x.l.length:=by
  rw [D7 hL];exact Cs _ _ (Bj hL).1 (Bj hL).2.1
 have hM:=Ni hn hmn (by omega)
 have hrep:=OX hM
 have hrepK:=Rw (x:=normP x) (fun s hs=>(hn.2 s hs).1)
 have hroot:atI (runB (normP x).l).1 0=(backT (normP x)).root:=rfl
 generalize backT (normP x)=w at *
 obtain ⟨_,_,l3,l4,lA,lE⟩:=Eu hMO.may;obtain ⟨c1,c2⟩:=JA lA hMO.nb (by omega) l3 l4;obtain ⟨_,ys,ey⟩:=EG (AP lA) hMO.nb (by omega) l3 l4
 have pr:posOf (Ax w.l w.root) w.root=0:=by unfold posOf;rw [if_pos c1,ey];simp
 have hk:∀ y∈Ax w.l w.root,∀ z∈kidsL (nd w y),z∈Ax w.l w.root:=by
  intro y hy z hz
  have hyr:=(CF (AP lA) l3 l4).1 y hy
  refine c2 y hy z ?_;rw [G7,Kg hyr];exact hz
 have hre:=Mi hL hmn hrep hroot c1 hk
 exact ⟨_,IR (B:=fun y=>y∈Ax w.l w.root) (f:=posOf (Ax w.l w.root)) (fun y hy _=>hk y hy) (fun y hy hi=>Jo hy hi) hrepK hre,by show posOf _ (atI _ 0)=0;rw [hroot,pr]⟩
theorem OQ {w1 w2:ATy} {a1 a2:List AutoState} {at1 at2:Int->Int} (A1:PolA a1) (A2:PolA a2) (K1:RepK w1 a1 at1) (K2:RepK w2 a2 at2) {i1 i2:Int} (b1:(0<=i1/\i1<(a1.length:Int)/\(stL a1 i1).plus=true)/\at1 i1=w1.root) (b2:(0<=i2/\i2<(a2.length:Int)/\(stL a2 i2).plus=true)/\at2 i2=w2.root) (hl:w1.l.length+w2.l.length<=5000) :
  ∃ U,UQ (Dj w1 w2) ⟨[w1.root],[w2.root+(w1.l.length:Int)]⟩ U:=by
 have G1:RepK (Dj w1 w2) a1 (fun i=>(fun k=>k) (at1 i)):=IR (f:=fun k=>k) (B:=fun _=>True) (fun _ _ _ _ _=>trivial) (fun y _ hy=>⟨Rp hy,(Oc w1 w2).node y hy⟩) K1 (fun _ _ _=>trivial)
 have G2:RepK (Dj w1 w2) a2 (fun i=>(fun k=>k+(w1.l.length:Int)) (at2 i)):=IR (f:=fun k=>k+(w1.l.length:Int)) (B:=fun _=>True) (fun _ _ _ _ _=>trivial) (fun y _ hy=>⟨RT hy,(OI w1 w2).node y hy⟩) K2 (fun _ _ _=>trivial)
 obtain ⟨⟨b10,b11,b12⟩,b13⟩:=b1;obtain ⟨⟨b20,b21,b22⟩,b23⟩:=b2;obtain ⟨c1,hc1,s1⟩:=SdC.st G1 b10 b11 b12;obtain ⟨c2,hc2,s2⟩:=SdC.st G2 b20 b21 b22;refine V2 A1 A2 G1 G2 (by rw [G4];exact hl) (.inl ⟨?_,?_⟩)
 ·refine ⟨i1,c1,w1.root,rfl,?_⟩
  rw [<- b13];exact s1
 ·refine StS.orb ⟨i2,c2,w2.root+(w1.l.length:Int),rfl,hc2,?_⟩
  rw [<- b23];exact s2
theorem TR {a:AutoAuto} (ha:Led a) (hP:PolA a.l) (hp:(stL a.l a.start).plus=true) {ρ:Pt->Int->Prop} {p:Pt}:SatS (normP a).l ρ p 0↔SatS a.l ρ p a.start:=by
 have hB:=SU ha hP
 have hs:a.start∈AJ a:=JW ha
 have h00:tm (toP a) a.start=0:=by
  obtain ⟨e,he⟩:=(Bj ha).2.2.1;exact QX ha (j:=0) (by rw [he];rfl)
 have hR:a.start∈AJ a/\(0:Int)=tm (toP a) a.start:=⟨hs,h00.symm⟩
 have hf:=hB.flags _ _ hR
 have hvars:∀ i j,(i∈AJ a/\j=tm (toP a) i)->(stL (normP a).l j).vars=(stL a.l i).vars:=by
  rintro i _ ⟨hi,rfl⟩
  have h:=St ha hi
  have hin:=(Bj ha).2.1 i hi
  rw [IA h.1 (by rw [D7 ha];exact h.2),MP ha hi,IA hin.1 hin.2];rfl
 constructor
 ·intro hp'
  refine (TX hB.symm (ρ:=ρ) (ρ':=ρ) ?_ ?_ p 0 a.start hR).1 (by rw [<- hf.1];exact hp) hp'
  ·rintro j i p hr hpl ⟨v,hv,hx⟩
   exact .inl ⟨v,by rw [<- hvars i j hr];exact hv,hx⟩
  ·intro j i p hr hpl hall _ v hv
   exact hall v (by rw [<- hvars i j hr];exact hv)
 ·intro hp'
  refine (TX hB (ρ:=ρ) (ρ':=ρ) ?_ ?_ p a.start 0 hR).1 hp hp'
  ·rintro i j p hr hpl ⟨v,hv,hx⟩
   exact .inl ⟨v,by rw [hvars i j hr];exact hv,hx⟩
  ·intro i j p hr hpl hall _ v hv
   exact hall v (by rw [hvars i j hr];exact hv)
theorem PV {x:AutoAuto} (ha:AB x) (hm:mayP x=0) (hl:x.l.length<=20) :
  Dk ⟨normL (backT (normP x)).l (backT (normP x)).root,0⟩ (typeW x)=some true/\Dk (typeW x) ⟨normL (backT (normP x)).l (backT (normP x)).root,0⟩=some true:=by
 obtain ⟨at_,hR,h00,h1,h2,h3⟩:=Iy ha hm hl;obtain ⟨at2,hK,k00⟩:=Lj ha hm hl
 have hL:=I2 ha hm
 have hmn:=HL ha hm
 have hP:=Nm hmn
 have hPx:=Nm hm
 have hM:=Ni ha hm (by omega)
 obtain ⟨n0,n1,n2⟩:=GS (GH hmn).2.2.2
 have n0:(0:Int)<=0:=n0
 have n1:(0:Int)<((normP x).l.length:Int):=n1
 have n2:(stL (normP x).l 0).plus=true:=n2
 obtain ⟨s0,s1,s2⟩:=GS (GH hm).2.2.2;obtain ⟨tM,tl⟩:=RE hM hl s0 s1
 have tK:=Qg (a:=x) (fun s hs=>(ha.2 s hs).1)
 have tR:=P0 hM
 generalize hw:(⟨normL (backT (normP x)).l (backT (normP x)).root,0⟩:ATy)=w at hR hK ⊢
 have hwl:w.l=normL (backT (normP x)).l (backT (normP x)).root:=by rw [<- hw]
 have hwr:w.root=0:=by rw [<- hw]
 rw [<- hwl] at h1 h2 h3
 have hwM:MayO w:=⟨by rw [hwr];exact h1,h2⟩
 have e1:∀ p,Sat w p w.root↔SatS (normP x).l Pt.vars p 0:=fun p=>by
  rw [<- Mp,hwr,<- Qz hP hR p 0 n0 n1,h00]
 have e2:∀ p,Sat (typeW x) p (typeW x).root↔SatS x.l Pt.vars p x.start:=fun p=>by
  rw [<- Mp,<- Qz hPx tR p x.start s0 s1];exact Iff.rfl
 have e3:∀ p,Sat w p w.root↔Sat (typeW x) p (typeW x).root:=fun p=>by rw [e1,e2];exact TR hL hPx s2
 obtain ⟨U,hU⟩:=OQ hP hPx hK tK (i1:=0) (i2:=x.start) ⟨⟨n0,n1,n2⟩,by rw [k00,hwr]⟩ ⟨⟨s0,s1,s2⟩,rfl⟩ (by omega);obtain ⟨V,hV⟩:=OQ hPx hP tK hK (i1:=x.start) (i2:=0) ⟨⟨s0,s1,s2⟩,rfl⟩ ⟨⟨n0,n1,n2⟩,by rw [k00,hwr]⟩ (by omega);refine ⟨?_,?_⟩
 ·rw [Ly hwM tM (by omega) (by omega) hU,dT (show Sub w (typeW x) from fun p h=>(e3 p).1 h)]
 ·rw [Ly tM hwM (by omega) (by omega) hV,dT (show Sub (typeW x) w from fun p h=>(e3 p).2 h)]
end Go.Proofs.YtcoghblhdjmbfaaGreat
namespace Go.Proofs.YtcoghblhdjmbfaaGreat
open Go.V
open Classical
def V4 (v:Int):Prop:=v=0\/v=1\/v=2\/v=3
def swV (v:Int):Int:=(Int.tmod v 2)*2+Int.tdiv v 2
def upV (s w:Int):Int:=(if (Int.tmod s 2) > (Int.tmod w 2) then (Int.tmod s 2) else (Int.tmod w 2))+(2*(if (Int.tdiv s 2) > (Int.tdiv w 2) then (Int.tdiv s 2) else (Int.tdiv w 2)))
theorem Ty {v:Int} (h:V4 v):InR ((Int.tmod v 2)*2)/\InR (Int.tdiv v 2)/\InR (swV v)/\V4 (swV v)/\((swV v=1\/swV v=3)->(v=2\/v=3))/\((swV v=2\/swV v=3)->(v=1\/v=3)):=by
 rcases h with rfl | rfl | rfl | rfl <;> (unfold swV V4 InR;decide)
theorem SM {s w:Int} (h:V4 s) (h':V4 w):InR (Int.tdiv w 2)/\InR (Int.tdiv s 2)/\InR (2*(if (Int.tdiv s 2) > (Int.tdiv w 2) then (Int.tdiv s 2) else (Int.tdiv w 2)))/\InR (upV s w)/\V4 (upV s w)/\w<=upV s w/\((upV s w=1\/upV s w=3)->(s=1\/s=3)\/(w=1\/w=3))/\((upV s w=2\/upV s w=3)->(s=2\/s=3)\/(w=2\/w=3)):=by
 rcases h with rfl | rfl | rfl | rfl <;> rcases h' with rfl | rfl | rfl | rfl <;> (unfold upV V4 InR;decide)
def OkV (A B:Int->Prop) (v i:Int):Prop:=V4 v/\(v=1\/v=3->A i)/\(v=2\/v=3->B i)
def GoodV (t:ATy) (A B:Int->Prop) (l:List Int):Prop:=l.length=t.l.length/\∀ (j:Nat) (v:Int),l[j]? = some v->OkV A B v (j:Int)
def sumI:List Int->Int
 | []=>0
 | x::l=>x+sumI l
theorem NZ {v w:Int}:∀ {l:List Int} {k:Nat},l[k]? = some w->sumI (l.set k v)=sumI l - w+v
 | [],_,h=>by simp at h
 | x::l,0,h=>by
  simp only [List.getElem?_cons_zero,Option.some.injEq] at h;subst h;simp only [List.set_cons_zero,sumI];omega
 | x::l,k+1,h=>by
  simp only [List.getElem?_cons_succ] at h;simp only [List.set_cons_succ,sumI,NZ h];omega
theorem KL:∀ {l:List Int},(∀ (j:Nat) v,l[j]? = some v->V4 v)->0<=sumI l/\sumI l<=3*(l.length:Int)
 | [],_=>by simp [sumI]
 | x::l,h=>by
  obtain ⟨h1,h2⟩:=KL (l:=l) fun j v hj=>h (j+1) v (by simpa using hj)
  have:=h 0 x rfl
  simp only [sumI,List.length_cons];unfold V4 at this
  omega
section
variable {t:ATy} {A B:Int->Prop}
theorem GoodV.get {l:List Int} (h:GoodV t A B l) {i:Int} (hi:In t i):∃ v,idx l i=some v/\l[i.toNat]? = some v/\OkV A B v i:=by
 have h0:=hi.1;have h1:=hi.2
 have hk:i.toNat<l.length:=by rw [h.1];omega
 refine ⟨l[i.toNat],?_,List.getElem?_eq_getElem hk,?_⟩
 ·unfold idx;rw [if_pos h0,List.getElem?_eq_getElem hk]
 ·have:=h.2 i.toNat _ (List.getElem?_eq_getElem hk)
  rwa [Int.toNat_of_nonneg h0] at this
theorem GoodV.set {l:List Int} (h:GoodV t A B l) {i v:Int} (h0:0<=i) (hv:OkV A B v i):GoodV t A B (l.set i.toNat v):=by
 refine ⟨by rw [List.length_set];exact h.1,fun j w hj=>?_⟩;rw [List.getElem?_set] at hj
 by_cases e:i.toNat=j
 ·rw [if_pos e] at hj
  split at hj
  ·cases hj
   subst e;rw [Int.toNat_of_nonneg h0];exact hv
  ·cases hj
 ·rw [if_neg e] at hj
  exact h.2 j w hj
structure SidS (t:ATy) (A B:Int->Prop):Prop where
 first:∀ i y,In t i->(nd t i).kind=6->(kidsL (nd t i))[0]? = some y->(B i->A y)/\(A i->B y)
 other:∀ (i:Int) (j:Nat) y,In t i->¬ ((nd t i).kind=6/\j=0)->(kidsL (nd t i))[j]? = some y->(A i->A y)/\(B i->B y)
def UpD (more:Bool) (l:List Int) (o:Bool×List Int):Prop:=sumI l<=sumI o.2/\(o.1=true->more=true\/sumI l<sumI o.2)
theorem UpD.trans {m:Bool} {l:List Int} {o o':Bool×List Int} (h:UpD m l o) (h':UpD o.1 o.2 o'):UpD m l o':=by
 refine ⟨Int.le_trans h.1 h'.1,fun e=>?_⟩
 rcases h'.2 e with e | e
 ·rcases h.2 e with e | e
  ·exact .inl e
  ·exact .inr (Int.lt_of_lt_of_le e h'.1)
 ·exact .inr (Int.lt_of_le_of_lt h.1 e)
theorem SN (hO:OkT t) (hS:SidS t A B) {i:Int} (hi:In t i) (hlen:(kidsL (nd t i)).length<=1000) (more:Bool) (l:List Int) (hl:GoodV t A B l) :
  ∃ o,AS t i (kidsL (nd t i)) FU (more,0,l)=some o/\GoodV t A B o.2/\UpD more l o:=by
 refine Be (φ:=fun n k (q:Bool×List Int)=>AS t i (kidsL (nd t i)) n (q.1,k,q.2)) (l:=kidsL (nd t i)) (fun _ q=>GoodV t A B q.2/\UpD more l q) (fun o=>GoodV t A B o.2/\UpD more l o)
  (by
   rintro n k y ⟨m,l6⟩ hy hk ⟨h1,h2⟩
   left
   have h1:GoodV t A B l6:=h1
   obtain ⟨v,g1,g2,g3⟩:=h1.get hi
   have hyI:In t y:=hO.kids hi (List.mem_of_getElem? hy)
   obtain ⟨w,f1,f2,f3⟩:=h1.get hyI;obtain ⟨s,hs1,hs2,hs3⟩:∃ s,(bif ((decide ((nd t i).kind=6))&&(decide ((k:Int)=0))) then grd (InR ((Int.tmod v 2)*2)) <| grd (InR (Int.tdiv v 2)) <| grd (InR (((Int.tmod v 2)*2)+(Int.tdiv v 2))) <| some (((Int.tmod v 2)*2)+(Int.tdiv v 2)) else some v:Option Int)=some s/\V4 s/\((s=1\/s=3->A y)/\(s=2\/s=3->B y)):=by
    by_cases h6:(nd t i).kind=6/\k=0
    ·obtain ⟨h6,rfl⟩:=h6
     obtain ⟨a1,a2,a3,a4,a5,a6⟩:=Ty g3.1;obtain ⟨b1,b2⟩:=hS.first i y hi h6 hy;refine ⟨swV v,?_,a4,fun h=>b1 (g3.2.2 (a5 h)),fun h=>b2 (g3.2.1 (a6 h))⟩;rw [dT h6,Bool.true_and,dT (show ((0:Nat):Int)=0 from rfl),cT,Ab a1,Ab a2,Ab (show InR ((Int.tmod v 2)*2+Int.tdiv v 2) from a3)]
     rfl
    ·obtain ⟨b1,b2⟩:=hS.other i k y hi h6 hy
     refine ⟨v,?_,g3.1,fun h=>b1 (g3.2.1 h),fun h=>b2 (g3.2.2 h)⟩
     have:(decide ((nd t i).kind=6)&&decide ((k:Int)=0))=false:=by
      rw [Bool.and_eq_false_iff]
      by_cases h:(nd t i).kind=6
      ·right;exact dF (fun e=>h6 ⟨h,by omega⟩)
      ·left;exact dF h
     rw [this,cF_]
   obtain ⟨u1,u2,u3,u4,u5,u6,u7,u8⟩:=SM hs2 f3.1
   have hnew:OkV A B (upV s w) y:=⟨u5,fun h=>(u7 h).elim hs3.1 f3.2.1,fun h=>(u8 h).elim hs3.2 f3.2.2⟩
   simp only [AS];rw [dT (show (k:Int)<((kidsL (nd t i)).length:Int) by omega),cT,g1,oB,getN hi,oB,hs1,oB,getI hy,oB,f1,oB,Ab u1,Ab u2,Ab u3,Ab (show InR ((if (Int.tmod s 2) > (Int.tmod w 2) then (Int.tmod s 2) else (Int.tmod w 2))+(2*(if (Int.tdiv s 2) > (Int.tdiv w 2) then (Int.tdiv s 2) else (Int.tdiv w 2)))) from u4)]
   show ∃ s',(bif !decide (upV s w=w) then _ else _)=_/\_
   by_cases he:upV s w=w
   ·rw [dT he,Bool.not_true,cF_,Ab (by constructor <;> omega)]
    exact ⟨(m,l6),rfl,h1,h2⟩
   ·rw [dF he,Bool.not_false,cT,oB,f1,oB,Ab (by constructor <;> omega)]
    refine ⟨(true,l6.set y.toNat (upV s w)),rfl,h1.set hyI.1 hnew,?_⟩
    have e:=NZ (v:=upV s w) f2
    refine h2.trans ⟨?_,fun _ => .inr ?_⟩
    ·show sumI l6<=sumI (l6.set y.toNat (upV s w));omega
    ·show sumI l6<sumI (l6.set y.toNat (upV s w));omega)
  (by
   rintro n ⟨m,l6⟩ h;simp only [AS];rw [dF (by omega),cF_];exact ⟨_,rfl,h⟩) (by rw [FUv];omega) (more,l) ⟨hl,Int.le_refl _,fun h => .inl h⟩
theorem Sv {n:ANd} (h:NB n):(kidsL n).length<=1000:=by
 unfold kidsL NB at *
 cases pB n.kind with
 | true=>simp
 | false =>
  cases wB n.kind with
  | true=>simp only [cF_,cT,List.length_map];omega
  | false=>simp
theorem TA (hO:OkT t) (hN:∀ n∈t.l,NB n) (ht:t.l.length<=5000) (hS:SidS t A B) (more:Bool) (l:List Int) (hl:GoodV t A B l) :
  ∃ o,A6 t FU (more,0,l)=some o/\GoodV t A B o.2/\UpD more l o:=by
 refine Be (φ:=fun n k (q:Bool×List Int)=>A6 t n (q.1,k,q.2)) (l:=t.l) (fun _ q=>GoodV t A B q.2/\UpD more l q) (fun o=>GoodV t A B o.2/\UpD more l o)
  (by
   rintro n k x ⟨m,l4⟩ hx hk ⟨h1,h2⟩
   left
   have hi:In t (k:Int):=⟨by omega,by omega⟩
   have hnd:nd t (k:Int)=x:=by unfold nd;rw [Int.toNat_natCast,hx];rfl
   have hNx:=hN x (List.mem_of_getElem? hx)
   obtain ⟨o,e1,e2,e3⟩:=SN hO hS hi (Sv (by rw [hnd];exact hNx)) m l4 h1;rw [hnd] at e1;simp only [A6];rw [dT (show (k:Int)<(t.l.length:Int) by omega),cT,getI hx,oB,Je x hNx,oB,e1,oB,Ab (by constructor <;> omega)];exact ⟨o,rfl,e2,h2.trans e3⟩)
  (by
   rintro n ⟨m,l4⟩ h;simp only [A6];rw [dF (by omega),cF_];exact ⟨_,rfl,h⟩) (by rw [FUv];omega) (more,l) ⟨hl,Int.le_refl _,fun h => .inl h⟩
theorem Om (hO:OkT t) (hN:∀ n∈t.l,NB n) (ht:t.l.length<=5000) (hS:SidS t A B):∀ (n:Nat) (more:Bool) (l:List Int),GoodV t A B l->(more=true->(3*(t.l.length:Int) - sumI l).toNat+1<n)->0<n->∃ o,BV t n (more,l)=some o/\GoodV t A B o
 | 0,_,_,_,_,h=>by omega
 | n+1,more,l,hl,hn,_=>by
  simp only [BV]
  cases more with
  | false=>rw [cF_];exact ⟨l,rfl,hl⟩
  | true =>
   obtain ⟨⟨m,l3⟩,e1,e2,e3⟩:=TA hO hN ht hS false l hl;rw [cT,e1,oB]
   have hn:=hn rfl
   have e2:GoodV t A B l3:=e2
   refine Om hO hN ht hS n m l3 e2 (fun hm=>?_) (by omega)
   have hlt:sumI l<sumI l3:=by
    rcases e3.2 hm with h | h
    ·cases h
    ·exact h
   have h4:=KL (l:=l3) fun j v hj=>(e2.2 j v hj).1
   have h5:=KL (l:=l) fun j v hj=>(hl.2 j v hj).1
   rw [e2.1] at h4
   omega
theorem Sy (hO:OkT t) (hN:∀ n∈t.l,NB n) (ht:t.l.length<=5000) (hS:SidS t A B) (hr:In t t.root) (hA:A t.root):∃ l,Cd t=some l/\GoodV t A B l:=by
 have h0:=hr.1;have h1:=hr.2
 have hz:GoodV t A B (List.replicate t.l.length (0:Int)):=⟨List.length_replicate,fun j v hj=>by
  rw [List.getElem?_replicate] at hj
  split at hj
  ·cases hj
   exact ⟨.inl rfl,fun h=>by omega,fun h=>by omega⟩
  ·cases hj⟩
 have h1s:=hz.set (v:=1) h0 ⟨.inr (.inl rfl),fun _=>hA,fun h=>by omega⟩
 obtain ⟨v,g1,_,_⟩:=hz.get hr;obtain ⟨o,e1,e2⟩:=Om hO hN ht hS FU true _ h1s (fun _=>by
  have h5:=KL (l:=(List.replicate t.l.length (0:Int)).set t.root.toNat 1) fun j v hj=>(h1s.2 j v hj).1
  rw [FUv];omega) (by rw [FUv];omega)
 unfold Cd;rw [Ab (by omega),Ab (by rw [Int.toNat_natCast];omega),Int.toNat_natCast,g1,oB,e1,oB];exact ⟨o,rfl,e2⟩
theorem T7 (hm:mayT t.l t.root=0) (hN:∀ n∈t.l,NB n) (ht:t.l.length<=2001) (hS:SidS t A B) (hA:A t.root) (h10:∀ i,In t i->A i->(nd t i).kind≠10) (h9:∀ i,In t i->B i->(nd t i).kind≠9):BO t=some 0:=by
 obtain ⟨_,_,r0,r1,lA,lE⟩:=Eu hm;obtain ⟨l,e1,e2⟩:=Sy ⟨lA,lE⟩ hN (by omega) hS ⟨r0,r1⟩ hA;unfold BO;rw [TY t ht hN,oB,hm,dT rfl,Bool.not_true,cF_,e1,oB];obtain ⟨o,f1,f2⟩:=Be (φ:=fun n k (_:Unit)=>Bp t l n k) (l:=t.l) (fun _ _=>True) (fun o=>o=Out.go ())
  (by
   rintro n k x _ hx hk _
   left
   have hi:In t (k:Int):=⟨by omega,by omega⟩
   have hnd:nd t (k:Int)=x:=by unfold nd;rw [Int.toNat_natCast,hx];rfl
   obtain ⟨v,g1,_,g2⟩:=e2.get hi
   have a9:x.kind=9->¬ 2<=v:=fun h h2=>h9 _ hi (g2.2.2 (by have:=g2.1;unfold V4 at this;omega)) (by rw [hnd];exact h)
   have a10:x.kind=10->¬ Int.tmod v 2=1:=fun h h2=>by
    refine h10 _ hi (g2.2.1 ?_) (by rw [hnd];exact h)
    rcases g2.1 with rfl | rfl | rfl | rfl
    ·exact absurd h2 (by decide)
    ·exact .inl rfl
    ·exact absurd h2 (by decide)
    ·exact .inr rfl
   have p1:(bif decide (x.kind=9) then ((idx l (k:Int)).bind fun x4=>some (decide (2<=x4))) else (some false):Option Bool)=some false:=by
    by_cases h:x.kind=9
    ·rw [dT h,cT,g1,oB,dF (a9 h)]
    ·rw [dF h,cF_]
   have p2:(bif decide (x.kind=10) then ((idx l (k:Int)).bind fun x6=>some (decide ((Int.tmod x6 2)=1))) else (some false):Option Bool)=some false:=by
    by_cases h:x.kind=10
    ·rw [dT h,cT,g1,oB,dF (a10 h)]
    ·rw [dF h,cF_]
   simp only [Bp];rw [dT (show (k:Int)<(t.l.length:Int) by omega),cT,getI hx,oB,p1,oB,cF_,oB,p2,oB,oB,cF_,Ab (by constructor <;> omega)];exact ⟨(),rfl,trivial⟩)
  (by
   rintro n _ _;simp only [Bp];rw [dF (by omega),cF_];exact ⟨_,rfl,rfl⟩) (by rw [FUv];omega) () trivial
 rw [f1,f2]
 rfl
end
end Go.Proofs.YtcoghblhdjmbfaaGreat
namespace Go.Proofs.YtcoghblhdjmbfaaGreat
open Go.V
open Classical
def latN (l:List ANd):Nat:=(l.filter fun n=>latB n.kind).length
theorem HW (l m:List ANd):latN (l++m)=latN l+latN m:=by unfold latN;rw [List.filter_append,List.length_append]
theorem TT:latN []=0:=rfl
theorem Tg (x:ANd):latN [x]<=1:=by
 unfold latN;refine Nat.le_trans (List.length_filter_le ..) ?_
 simp
theorem Qo {x:ANd} (h:x.kind≠9/\x.kind≠10):latN [x]=0:=by
 have hb:latB x.kind=false:=by unfold latB;rw [dF h.1,dF h.2];rfl
 unfold latN;rw [List.filter_cons,hb];rfl
theorem UM {off k:Int} (l:List ANd):(∀ x∈l,x.kind≠9/\x.kind≠10)->(l=[]->(chB off k l).1<0)/\latN (chB off k l).2<=l.length - 1:=by
 refine EH (P:=fun l=>(∀ x∈l,x.kind≠9/\x.kind≠10)->(l=[]->(chB off k l).1<0)/\latN (chB off k l).2<=l.length - 1) (fun _=>⟨fun _=>(by show (-1:Int)<0;decide),(by show latN []<=_;rw [TT];exact Nat.zero_le _)⟩) (fun l x ih hl=>?_) l;obtain ⟨i1,i2⟩:=ih fun y hy=>hl y (by simp [hy])
 have hx:=Qo (hl x (by simp))
 refine ⟨fun h=>absurd h (by simp),?_⟩;rw [Gh,List.length_append,List.length_cons,List.length_nil]
 generalize hz:chB off k l=z at *
 obtain ⟨at0,zs⟩:=z
 simp only at i1 i2
 unfold BK
 split
 ·rename_i hp
  have hp:0<=at0:=hp
  have hne:l.length≠0:=fun h=>by have:=i1 (List.length_eq_zero_iff.1 h);omega
  show latN (zs++[x]++[(⟨k,at0,off+zs.length,[]⟩:ANd)])<=_
  have:=Tg (⟨k,at0,off+zs.length,[]⟩:ANd)
  rw [HW,HW,hx]
  omega
 ·show latN (zs++[x])<=_
  rw [HW,hx]
  omega
theorem Qc {off:Int} {s:AutoState}:latN (BB off s).2<=(An s).length - 1:=by
 have hsb:BB off s=if (chB off (joK s.plus) (An s)).1<0 then (off,[⟨noK s.plus,0,0,[]⟩]) else chB off (joK s.plus) (An s):=by rw [<- EZ];rfl
 rw [hsb]
 split
 ·show latN [(⟨noK s.plus,0,0,[]⟩:ANd)]<=_
  rw [Qo (TF s.plus)];exact Nat.zero_le _
 ·exact (UM (An s) fun x hx=>Ef hx).2
def mostB:List AutoState->Nat
 | []=>0
 | s::r=>((An s).length - 1)+mostB r
theorem I1 (s:AutoState):∀ l:List AutoState,mostB (l++[s])=mostB l+((An s).length - 1)
 | []=>by simp [mostB]
 | x::l=>by
  have:=I1 s l
  simp only [List.cons_append,mostB,this];omega
theorem SX (l:List AutoState):latN (runB l).2<=mostB l:=by
 refine EH (P:=fun l=>latN (runB l).2<=mostB l) (by show latN []<=_;exact Nat.zero_le _) (fun l s ih=>?_) l;rw [Fx,I1]
 have h:=Qc (off:=((runB l).2.length:Int)) (s:=s)
 show latN ((runB l).2++(BB ((runB l).2.length:Int) s).2)<=_
 rw [HW];omega
theorem S8 (x:AutoAuto):latN (backT x).l<=mostB x.l:=by
 have h:=SX x.l
 have e:latN (backT x).l=latN (runB x.l).2:=by
  show latN ((runB x.l).2.map (lkN (runB x.l).1))=_
  unfold latN;rw [List.filter_map,List.length_map]
  rfl
 omega
theorem Ti {L:List ANd} (hR:InL L) {root:Int} (h0:0<=root) (h1:root<(L.length:Int)):latN (normL L root)<=latN L:=by
 obtain ⟨b1,b2,_⟩:=CF hR h0 h1
 have e1:latN (normL L root)=((Ax L root).filter fun i=>latB (BC L i).kind).length:=by
  unfold latN normL;rw [List.filter_map,List.length_map]
  rfl
 have e0:L=(rngI L.length).map (BC L):=by
  refine List.ext_getElem? fun i=>?_
  show L[i]? = ((List.map (fun k:Nat=>(k:Int)) (List.range L.length)).map (BC L))[i]?
  rw [List.getElem?_map,List.getElem?_map]
  by_cases hi:i<L.length
  ·have:=HR (L:=L) (x:=(i:Int)) (by omega) (by omega)
   rw [Int.toNat_natCast] at this;rw [this,List.getElem?_eq_getElem (by rw [List.length_range];exact hi),List.getElem_range]
   rfl
  ·rw [List.getElem?_eq_none (by omega),List.getElem?_eq_none (by rw [List.length_range];omega)]
   rfl
 have e2:latN L=((rngI L.length).filter fun i=>latB (BC L i).kind).length:=by
  unfold latN
  conv=>lhs;rw [e0]
  rw [List.filter_map,List.length_map]
  rfl
 rw [e1,e2];refine Hr _ _ (b2.sublist (List.filter_sublist ..)) fun i hi=>?_;obtain ⟨hi,hk⟩:=List.mem_filter.1 hi;exact List.mem_filter.2 ⟨mem_rngI.2 (b1 i hi),hk⟩
theorem U4 {b:Bool} {x:ANd}:(if b=true then [x] else []).length=(if b=true then 1 else 0):=by cases b <;> rfl
theorem SK {b:Bool} {l:List Bool}:((b::l).filter id).length=(if b=true then 1 else 0)+(l.filter id).length:=by cases b <;> simp [Nat.add_comm]
theorem Rg (s:AutoState):(An s).length=s.vars.length+([s.all,s.int,s.bool,s.str,s.arrow,s.rec_,s.tag].filter id).length:=by
 unfold An;simp only [List.length_append,List.length_map,U4,SK,List.filter_nil,List.length_nil]
 omega
def SdE (t:ATy) (a:List AutoState) (at_:Int->Int) (p:Bool) (x:Int):Prop:=∃ j c,SdC t a at_ p j c x
theorem kids6 {n:ANd} (h:n.kind=6):kidsL n=[n.a,n.b]:=by unfold kidsL pB;rw [h];rfl
theorem M6 {a b y:Int} {j:Nat} (h:[a,b][j]? = some y):(j=0/\y=a)\/(j=1/\y=b):=by
 match j with
 | 0=>left;simp at h;exact ⟨rfl,h.symm⟩
 | 1=>right;simp at h;exact ⟨rfl,h.symm⟩
 | j+2=>simp at h
theorem N7 {t:ATy} {a:List AutoState} {at_:Int->Int} {p:Bool} (hA:PolA a) (hR:RepK t a at_) {x y:Int} {j:Nat} (hn:¬ ((nd t x).kind=6/\j=0)) (hy:(kidsL (nd t x))[j]? = some y) (h:SdE t a at_ p x):SdE t a at_ p y:=by
 obtain ⟨i,c,h⟩:=h
 by_cases h6:(nd t x).kind=6
 ·rw [kids6 h6] at hy
  obtain ⟨_,k,d,_,h2⟩:=h.arrow hA hR h6
  rcases M6 hy with ⟨e,_⟩ | ⟨_,rfl⟩
  ·exact absurd ⟨h6,e⟩ hn
  ·exact ⟨k,d,h2⟩
 by_cases hl:latB (nd t x).kind=true
 ·rw [DM hl] at hy
  obtain ⟨_,d,e,_,h1,h2⟩:=h.lat hl
  rcases M6 hy with ⟨_,rfl⟩ | ⟨_,rfl⟩
  ·exact ⟨i,d,h1⟩
  ·exact ⟨i,e,h2⟩
 have hm:=List.mem_of_getElem? hy
 have hp:pB (nd t x).kind=false:=by
  have h9:(nd t x).kind≠9/\(nd t x).kind≠10:=⟨fun e=>hl (by rw [e];rfl),fun e=>hl (by rw [e];rfl)⟩
  unfold pB;rw [dF h6,dF h9.1,dF h9.2];rfl
 unfold kidsL at hm;rw [hp,cF_] at hm
 cases hw:wB (nd t x).kind with
 | false=>rw [hw,cF_] at hm;cases hm
 | true =>
  rw [hw,cT] at hm;obtain ⟨f,hf,rfl⟩:=List.mem_map.1 hm
  have hk:3<=(nd t x).kind/\(nd t x).kind<=8:=by
   unfold wB at hw;simp only [Bool.or_eq_true,decide_eq_true_eq] at hw
   omega
  obtain ⟨m,h1,e1⟩:=h.leaf hk;obtain ⟨⟨h0,hlt,hpp⟩,_⟩:=h;obtain ⟨⟨_,k2⟩,_⟩:=CP hA h0 hlt h1;rw [e1] at hf;obtain ⟨g,hg,rfl⟩:=List.mem_map.1 hf;obtain ⟨d0,d1,d2⟩:=k2 g hg;obtain ⟨u,_,hu2⟩:=SdC.st hR d0 d1 (p:=p) (by rw [d2,hpp]);exact ⟨_,u,hu2⟩
theorem VH {t:ATy} {a:List AutoState} {at_:Int->Int} (hA:PolA a) (hR:RepK t a at_):SidS t (SdE t a at_ true) (SdE t a at_ false):=by
 refine ⟨fun i y hi hk hy=>?_,fun i j y hi hn hy=>⟨N7 hA hR hn hy,N7 hA hR hn hy⟩⟩;rw [kids6 hk] at hy
 rcases M6 hy with ⟨_,rfl⟩ | ⟨e,_⟩
 ·refine ⟨fun ⟨j,c,h⟩=>?_,fun ⟨j,c,h⟩=>?_⟩
  ·obtain ⟨⟨k,d,_,h1⟩,_⟩:=h.arrow hA hR hk
   exact ⟨k,d,h1⟩
  ·obtain ⟨⟨k,d,_,h1⟩,_⟩:=h.arrow hA hR hk
   exact ⟨k,d,h1⟩
 ·exact absurd e (by decide)
theorem PL {x:AutoAuto} (ha:AB x) (hm:mayP x=0) (hl:x.l.length<=20):BO ⟨normL (backT (normP x)).l (backT (normP x)).root,0⟩=some 0:=by
 obtain ⟨_,_,_,h1,h2,h3⟩:=Iy ha hm hl;obtain ⟨at_,hK,k00⟩:=Lj ha hm hl
 have hmn:=HL ha hm
 have hP:=Nm hmn
 obtain ⟨n0,n1,n2⟩:=GS (GH hmn).2.2.2
 have n0:(0:Int)<=0:=n0
 have n1:(0:Int)<((normP x).l.length:Int):=n1
 have n2:(stL (normP x).l 0).plus=true:=n2
 obtain ⟨c,_,hc⟩:=SdC.st hK n0 n1 n2;rw [k00] at hc
 have h4:(⟨normL (backT (normP x)).l (backT (normP x)).root,0⟩:ATy).l.length<=1880:=by show (normL (backT (normP x)).l (backT (normP x)).root).length<=1880;omega
 refine T7 (A:=SdE _ _ at_ true) (B:=SdE _ _ at_ false) h1 h2 (Nat.le_trans h4 (by decide)) (VH hP hK) ⟨0,c,hc⟩ (fun i _ ⟨j,d,h⟩ hk=>?_) (fun i _ ⟨j,d,h⟩ hk=>?_)
 ·have:=(h.lat (by rw [hk];rfl)).1
  rw [hk] at this;exact absurd this (by decide)
 ·have:=(h.lat (by rw [hk];rfl)).1
  rw [hk] at this;exact absurd this (by decide)
theorem Pw {x:AutoAuto} (ha:AB x) (hm:mayP x=0) (hl:x.l.length<=20):∃ y,Gc ⟨normL (backT (normP x)).l (backT (normP x)).root,0⟩ 0=some y/\DT ⟨normL (backT (normP x)).l (backT (normP x)).root,0⟩ y=some true:=by
 obtain ⟨_,_,_,h1,h2,h3⟩:=Iy ha hm hl;obtain ⟨_,hMO,hlen⟩:=Ga ha hm hl
 have h4:=(O9 hMO.may hMO.nb (by omega)).2
 obtain ⟨_,_,r0,r1,lA,lE⟩:=Eu h1
 have h5:(⟨normL (backT (normP x)).l (backT (normP x)).root,0⟩:ATy).l.length<=1880:=by show (normL (backT (normP x)).l (backT (normP x)).root).length<=1880;omega
 refine ⟨_,Sd (t:=⟨normL (backT (normP x)).l (backT (normP x)).root,0⟩) lA h2 (Nat.le_trans h5 (by decide)) r0 r1,?_⟩;rw [show normL (⟨normL (backT (normP x)).l (backT (normP x)).root,0⟩:ATy).l 0=normL (backT (normP x)).l (backT (normP x)).root from h4,NH _ _ (Nat.le_trans h5 (by decide)) h2,dT ⟨rfl,rfl⟩]
theorem RG {x:AutoAuto} (ha:AB x) (hm:mayP x=0) (hl:x.l.length<=20):latN (normL (backT (normP x)).l (backT (normP x)).root)<=mostB (normP x).l:=by
 obtain ⟨_,hMO,_⟩:=Ga ha hm hl;obtain ⟨_,_,l3,l4,lA,_⟩:=Eu hMO.may;exact Nat.le_trans (Ti (AP lA) l3 l4) (S8 _)
end Go.Proofs.YtcoghblhdjmbfaaGreat
namespace Go.Proofs.YtcoghblhdjmbfaaGreat
open Go.V
open Classical
theorem VP (a:AutoAuto):∃ x,Cr a 12=some x/\AB x/\(x.l.length<=12\/2000<x.l.length):=by
 unfold Cr
 have key:∀ n (i:Nat) (s:List AutoState),i<=2001->(i<=12\/2000<a.l.length)->2001 - i<n->s.length=i->(∀ t∈s,SB t)->∃ s',B3 a 12 n ((i:Int),s,a.start)=some (s',a.start)/\s'.length<=2001/\(∀ t∈s',SB t)/\(s'.length<=12\/2000<s'.length):=by
  intro n
  induction n with
  | zero=>intro i s _ _ h;omega
  | succ n ih =>
   intro i s hi hi0 hn hs hSB
   simp only [B3]
   by_cases hc:i<a.l.length/\(i<12\/(2000<a.l.length/\i<=2000))
   rotate_left
   ·rw [show ((decide ((i:Int)<(a.l.length:Int)))&&((decide ((i:Int)<12))||((decide (2000<(a.l.length:Int)))&&(decide ((i:Int)<=2000)))))=false by
     rw [<- Bool.not_eq_true];simp only [Bool.and_eq_true,Bool.or_eq_true,decide_eq_true_eq];omega,cF_]
    exact ⟨s,rfl,by omega,hSB,by omega⟩
   ·rw [show ((decide ((i:Int)<(a.l.length:Int)))&&((decide ((i:Int)<12))||((decide (2000<(a.l.length:Int)))&&(decide ((i:Int)<=2000)))))=true by
     simp only [Bool.and_eq_true,Bool.or_eq_true,decide_eq_true_eq];omega,cT]
    have hx:a.l[i]? = some a.l[i]:=List.getElem?_eq_getElem hc.1
    generalize a.l[i]=x at hx
    have hv:sli x.vars 0 (if 40<(x.vars.length:Int) then 40 else (x.vars.length:Int))=some (x.vars.take (min 40 x.vars.length)):=by
     have:=minL 40 x.vars
     rw [show (if 40<(x.vars.length:Int) then 40 else (x.vars.length:Int))=((min 40 x.vars.length:Nat):Int) from this,Ia (by omega)]
    rw [getI hx,oB,hv,oB,Qp _ (by simp;omega),oB]
    generalize hvs:x.vars.take (min 40 x.vars.length)=vs
    have hvl:vs.length<=40:=by rw [<- hvs];simp;omega
    have e1:∀ n (k:Nat) (t:List AutoEdge),k<=40->40 - k<n->t.length=k->∃ t',B0 x n ((k:Int),[],t,x.plus,x.all,x.int,x.bool,x.str,x.arrow,x.rec_,x.tag,vs,x.dom,x.cod)=some ([],t',x.plus,x.all,x.int,x.bool,x.str,x.arrow,x.rec_,x.tag,vs,x.dom,x.cod)/\t'.length<=40:=by
     intro n
     induction n with
     | zero=>intro k t _ h;omega
     | succ n ih =>
      intro k t hk hn ht
      simp only [B0]
      by_cases hc:k<x.fields.length/\k<40
      rotate_left
      ·rw [show ((decide ((k:Int)<(x.fields.length:Int)))&&(decide ((k:Int)<40)))=false by
        rw [<- Bool.not_eq_true];simp only [Bool.and_eq_true,decide_eq_true_eq];omega,cF_]
       exact ⟨t,rfl,by omega⟩
      ·rw [show ((decide ((k:Int)<(x.fields.length:Int)))&&(decide ((k:Int)<40)))=true by
        simp only [Bool.and_eq_true,decide_eq_true_eq];omega,cT,getI (List.getElem?_eq_getElem hc.1),oB,oB,Ab (by simp only [List.length_cons,List.length_nil];omega),Ab (by omega)]
       exact ih (k+1) _ (by omega) (by omega) (by simp;omega)
    obtain ⟨fs,e1,hfs⟩:=e1 FU 0 [] (by omega) (by rw [FUv];omega) rfl;rw [show ((0:Nat):Int)=0 from rfl] at e1;rw [Dq e1]
    simp only
    have e2:∀ n (k:Nat) (t:List AutoEdge),k<=40->40 - k<n->t.length=k->∃ t',B1 x n ((k:Int),t,fs,x.plus,x.all,x.int,x.bool,x.str,x.arrow,x.rec_,x.tag,vs,x.dom,x.cod)=some (t',fs,x.plus,x.all,x.int,x.bool,x.str,x.arrow,x.rec_,x.tag,vs,x.dom,x.cod)/\t'.length<=40:=by
     intro n
     induction n with
     | zero=>intro k t _ h;omega
     | succ n ih =>
      intro k t hk hn ht
      simp only [B1]
      by_cases hc:k<x.tags.length/\k<40
      rotate_left
      ·rw [show ((decide ((k:Int)<(x.tags.length:Int)))&&(decide ((k:Int)<40)))=false by
        rw [<- Bool.not_eq_true];simp only [Bool.and_eq_true,decide_eq_true_eq];omega,cF_]
       exact ⟨t,rfl,by omega⟩
      ·rw [show ((decide ((k:Int)<(x.tags.length:Int)))&&(decide ((k:Int)<40)))=true by
        simp only [Bool.and_eq_true,decide_eq_true_eq];omega,cT,getI (List.getElem?_eq_getElem hc.1),oB,oB,Ab (by simp only [List.length_cons,List.length_nil];omega),Ab (by omega)]
       exact ih (k+1) _ (by omega) (by omega) (by simp;omega)
    obtain ⟨ts,e2,hts⟩:=e2 FU 0 [] (by omega) (by rw [FUv];omega) rfl;rw [show ((0:Nat):Int)=0 from rfl] at e2;rw [Dq e2]
    simp only
    rw [Ab (by simp only [List.length_cons,List.length_nil];omega),Ab (by omega)];refine ih (i+1) _ (by omega) (by omega) (by omega) (by simp;omega) ?_
    intro t ht
    simp only [List.mem_append,List.mem_singleton] at ht
    rcases ht with ht | rfl
    ·exact hSB t ht
    ·exact ⟨hvl,hfs,hts⟩
 obtain ⟨s',h1,h2,h3,h4⟩:=key FU 0 [] (by omega) (by omega) (by rw [FUv];omega) rfl (by simp);rw [show ((0:Nat):Int)=0 from rfl] at h1;rw [Dq h1];exact ⟨_,rfl,⟨h2,h3⟩,h4⟩
theorem RO (s:AutoState) (hv:s.vars.length<=1000):B8 s=some ((An s).length:Int):=by
 unfold B8;obtain ⟨l,hb⟩:∃ l,[s.all,s.int,s.bool,s.str,s.arrow,s.rec_,s.tag]=l:=⟨_,rfl⟩
 have hl:l.length=7:=by rw [<- hb];rfl
 obtain ⟨o,e1,e2⟩:=Be (φ:=fun n i (q:Int)=>AZ s n (q,i)) (l:=l) (fun i q=>q=(s.vars.length:Int)+(((l.take i).filter id).length:Int)) (fun o=>o=(s.vars.length:Int)+((l.filter id).length:Int))
  (by
   rintro n i y q hy hi rfl
   left
   have hle:=List.length_filter_le id (l.take i)
   rw [List.length_take] at hle
   have hi7:i<l.length:=(List.getElem?_eq_some_iff.1 hy).1
   simp only [AZ,hb];rw [dT (show (i:Int)<(l.length:Int) by omega),cT,getI hy,oB,takeS hy,List.filter_append,List.length_append]
   cases y with
   | true=>rw [cT,Ab (by constructor <;> omega),Ab (by constructor <;> omega)];exact ⟨_,rfl,by simp;omega⟩
   | false=>rw [cF_,Ab (by constructor <;> omega)];exact ⟨_,rfl,by simp⟩)
  (by
   rintro n q rfl;simp only [AZ,hb];rw [dF (by omega),cF_];exact ⟨_,rfl,by rw [List.take_length]⟩) (by rw [FUv];omega) (s.vars.length:Int) (by simp)
 rw [e1,e2,Rg,hb]
 simp
theorem Ul (a:AutoAuto) (hl:a.l.length<=2001) (hv:∀ s∈a.l,s.vars.length<=40):AO a FU (0,0)=some ((mostB a.l:Nat):Int):=by
 have hle:∀ l:List AutoState,(∀ s∈l,s.vars.length<=40)->mostB l<=47*l.length:=by
  intro l
  induction l with
  | nil=>intro _;simp [mostB]
  | cons s l ih =>
   intro h
   have h1:=ih fun t ht=>h t (List.mem_cons_of_mem _ ht)
   have h2:=Fy (h s (List.mem_cons_self ..))
   simp only [mostB,List.length_cons];omega
 obtain ⟨o,e1,e2⟩:=Be (φ:=fun n i (q:Int)=>AO a n (q,i)) (l:=a.l) (fun i q=>q=((mostB (a.l.take i):Nat):Int)) (fun o=>o=((mostB a.l:Nat):Int))
  (by
   rintro n i y q hy hi rfl
   left
   have hm:=List.mem_of_getElem? hy
   have h1:=hle (a.l.take i) fun t ht=>hv t (List.mem_of_mem_take ht)
   have h2:=Fy (hv y hm)
   rw [List.length_take] at h1
   have hz:(if (0:Int) > (((An y).length:Nat):Int) - 1 then (0:Int) else (((An y).length:Nat):Int) - 1)=(((An y).length - 1:Nat):Int):=by split <;> omega
   simp only [AO];rw [dT (show (i:Int)<(a.l.length:Int) by omega),cT,getI hy,oB,RO y (by have:=hv y hm;omega),oB,Ab (by constructor <;> omega),hz,Ab (by constructor <;> omega),Ab (by constructor <;> omega),takeS hy,I1];exact ⟨_,rfl,by omega⟩)
  (by
   rintro n q rfl;simp only [AO];rw [dF (by omega),cF_];exact ⟨_,rfl,by rw [List.take_length]⟩) (by rw [FUv];omega) 0 rfl
 rw [e1,e2]
theorem UX (t:ATy) (hl:t.l.length<=2001):AK t FU (0,0)=some ((latN t.l:Nat):Int):=by
 obtain ⟨o,e1,e2⟩:=Be (φ:=fun n i (q:Int)=>AK t n (q,i)) (l:=t.l) (fun i q=>q=((latN (t.l.take i):Nat):Int)) (fun o=>o=((latN t.l:Nat):Int))
  (by
   rintro n i y q hy hi rfl
   left
   have h1:latN (t.l.take i)<=(t.l.take i).length:=List.length_filter_le ..
   rw [List.length_take] at h1
   have hp:(bif decide (y.kind=9) then (some true) else ((idx t.l (i:Int)).bind fun x17=>some (decide (x17.kind=10))):Option Bool)=some (latB y.kind):=by
    unfold latB
    by_cases h9:y.kind=9
    ·rw [dT h9,cT,Bool.true_or]
    ·rw [dF h9,cF_,Bool.false_or,getI hy,oB]
   have ho:latN [y]=if latB y.kind=true then 1 else 0:=by
    unfold latN;rw [List.filter_cons]
    cases latB y.kind <;> rfl
   simp only [AK];rw [dT (show (i:Int)<(t.l.length:Int) by omega),cT,getI hy,oB,show (bif decide (y.kind=9) then (some true) else ((some y).bind fun x17=>some (decide (x17.kind=10))):Option Bool)=some (latB y.kind) from by rw [getI hy] at hp;exact hp,oB,takeS hy,HW,ho]
   cases latB y.kind with
   | true=>rw [cT,Ab (by constructor <;> omega),Ab (by constructor <;> omega)];exact ⟨_,rfl,by simp⟩
   | false=>rw [cF_,Ab (by constructor <;> omega)];exact ⟨_,rfl,by simp⟩)
  (by
   rintro n q rfl;simp only [AK];rw [dF (by omega),cF_];exact ⟨_,rfl,by rw [List.take_length]⟩) (by rw [FUv];omega) 0 rfl
 rw [e1,e2]
theorem law_BackTypes (a:AutoAuto):Cc a=some true:=by
 unfold Cc;obtain ⟨x,hx,ha,hlen⟩:=VP a;rw [hx,oB,LI]
 by_cases hm:mayP x=0
 ·have hx12:x.l.length<=20:=by
   have:=(GH hm).2.1
   omega
  obtain ⟨y,hy1,hy2⟩:=Pw ha hm hx12
  have hL:=I2 ha hm
  have hn:=JE hL
  have hnl:(normP x).l.length<=x.l.length:=by
   rw [D7 hL];exact Cs _ _ (Bj hL).1 (Bj hL).2.1
  obtain ⟨_,_,_,h1,h2,h3⟩:=Iy ha hm hx12
  have hmost:=RG ha hm hx12
  obtain ⟨hb1,hb2⟩:=PV ha hm hx12
  have hck:=PL ha hm hx12
  rw [(Ga ha hm hx12).1]
  dsimp only [oB]
  generalize hw:normL (backT (normP x)).l (backT (normP x)).root=w at *
  rw [Vk _ ha,oB,LI,Rf x ha,oB,hm,dT rfl,Bool.not_true,cF_,cF_,hck,oB,dT rfl,Bool.not_true,cF_,hy1,oB,hy2,oB,Bool.not_true,cF_,
   TI hL,oB,Ul (normP x) (by omega) (fun s hs=>(hn.2 s hs).1),oB,UX ⟨w,0⟩ (by show w.length<=2001;omega),oB,Rr _ ha,oB,dT (show ((latN w:Nat):Int)<=((mostB (normP x).l:Nat):Int) by omega),cT]
  rw [show Dk (⟨w,0⟩:ATy) (⟨(typeW x).l,(typeW x).root⟩:ATy)=some true from hb1,oB,oB,cT,show Dk (⟨(typeW x).l,(typeW x).root⟩:ATy) (⟨w,0⟩:ATy)=some true from hb2,oB,oB,cT,QY]
  rfl
 ·rw [U0 ha hm]
  dsimp only [oB]
  rw [Vk _ ha,oB,LI,Rf x ha,oB,dF hm,Bool.not_false,cT,dT rfl,dT (show (([]:List ANd).length:Int)=0 from rfl),Bool.and_true,cT,QY]
  rfl
end Go.Proofs.YtcoghblhdjmbfaaGreat
