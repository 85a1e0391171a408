/- Part 10 of the proof: a program logic, what the functions compute, and what these answer; no condition. -/
import Derived.Test.YtcoghblhdjmbfaaGreatp9
set_option linter.unusedVariables false
set_option linter.unusedSimpArgs false
set_option maxRecDepth 100000
namespace Go.Proofs.YtcoghblhdjmbfaaGreat
open Go.V
open Classical
structure FinG (t:ATy) (g:BSq):Prop where
 ok:OkT t
 nb:∀ n∈t.l,NB n
 inq:∀ q,Cl t g q->InQ t q
 sm:∀ q,Cl t g q->SmQ (toS q)
 fin:∀ l:List RSeq,l.Nodup->(∀ q∈l,Cl t g (toB q))->l.length<=500000
structure WInv (t:ATy) (g:BSq) (c:Nat) (w:Syntagmaref19World):Prop where
 ht:w.t=t
 hf:w.flex=1000
 b:BInv w
 bl:w.below_.length=1000
 al:w.above.length=1000
 nd:w.all.Nodup
 cl:∀ q∈w.all,Cl t g (toB q)
 bel:∀ (v:Nat) L,w.below_[v]? = some L->L.length<=c/\∀ l∈L,∃ q,Cl t g q/\BlwP t q (v:Int) l
 abv:∀ (v:Nat) L,w.above[v]? = some L->L.length<=c/\∀ l∈L,∃ q,Cl t g q/\AbvP t q (v:Int) l
 mix:w.mixed=true->∃ q,Cl t g q/\MixP t q
 fai:w.fails=true->∃ q,Cl t g q/\¬ VarP t q/\(AX t q).1=true
structure ExtW (w w':Syntagmaref19World):Prop where
 all:∃ s,w'.all=w.all++s
 bel:∀ (v:Nat) L,w.below_[v]? = some L->∃ L',w'.below_[v]? = some L'/\∀ l∈L,l∈L'
 abv:∀ (v:Nat) L,w.above[v]? = some L->∃ L',w'.above[v]? = some L'/\∀ l∈L,l∈L'
 mix:w.mixed=true->w'.mixed=true
 fai:w.fails=true->w'.fails=true
theorem ExtW.refl (w:Syntagmaref19World):ExtW w w:=⟨⟨[],by simp⟩,fun v L h=>⟨L,h,fun _ h=>h⟩,fun v L h=>⟨L,h,fun _ h=>h⟩,id,id⟩
theorem ExtW.trans {a b c:Syntagmaref19World} (h:ExtW a b) (k:ExtW b c):ExtW a c:=by
 obtain ⟨s,e⟩:=h.all;obtain ⟨s',e'⟩:=k.all
 refine ⟨⟨s++s',by rw [e',e,List.append_assoc]⟩,fun v L hL=>?_,fun v L hL=>?_,fun h'=>k.mix (h.mix h'),fun h'=>k.fai (h.fai h')⟩
 ·obtain ⟨L1,h1,h2⟩:=h.bel v L hL
  obtain ⟨L2,h3,h4⟩:=k.bel v L1 h1;exact ⟨L2,h3,fun l hl=>h4 l (h2 l hl)⟩
 ·obtain ⟨L1,h1,h2⟩:=h.abv v L hL
  obtain ⟨L2,h3,h4⟩:=k.abv v L1 h1;exact ⟨L2,h3,fun l hl=>h4 l (h2 l hl)⟩
theorem ExtW.mem {w w':Syntagmaref19World} (h:ExtW w w') {q:RSeq} (hq:q∈w.all):q∈w'.all:=by
 obtain ⟨s,e⟩:=h.all;rw [e];exact List.mem_append_left _ hq
structure DoneW (t:ATy) (w:Syntagmaref19World) (q:BSq):Prop where
 abv:∀ v r,AbvP t q v r->∃ L,w.above[v.toNat]? = some L/\r∈L
 bel:∀ v l,BlwP t q v l->∃ L,w.below_[v.toNat]? = some L/\l∈L
 mix:MixP t q->w.mixed=true
 fai:¬ VarP t q->(AX t q).1=true->w.fails=true
 led:¬ VarP t q->∀ s∈(AX t q).2,toS s∈w.all
theorem DoneW.ext {t:ATy} {w w':Syntagmaref19World} {q:BSq} (h:DoneW t w q) (e:ExtW w w'):DoneW t w' q:=by
 refine ⟨fun v r ha=>?_,fun v l ha=>?_,fun hm=>e.mix (h.mix hm),fun hv hl=>e.fai (h.fai hv hl),fun hv s hs=>e.mem (h.led hv s hs)⟩
 ·obtain ⟨L,h1,h2⟩:=h.abv v r ha
  obtain ⟨L',h3,h4⟩:=e.abv _ L h1;exact ⟨L',h3,h4 _ h2⟩
 ·obtain ⟨L,h1,h2⟩:=h.bel v l ha
  obtain ⟨L',h3,h4⟩:=e.bel _ L h1;exact ⟨L',h3,h4 _ h2⟩
section
variable {t:ATy} {g:BSq} {c:Nat} {w:Syntagmaref19World}
theorem WInv.len (hG:FinG t g) (hw:WInv t g c w):w.all.length<=500000:=hG.fin _ hw.nd hw.cl
theorem Og (hG:FinG t g) (hw:WInv t g c w) {q:RSeq} (hq:Cl t g (toB q)):∃ w',Ax w q=some w'/\WInv t g c w'/\ExtW w w'/\q∈w'.all/\w'.below_=w.below_/\w'.above=w.above:=by
 rcases WZ hw.b (hG.sm _ hq) (by have:=hw.len hG;omega) with ⟨h1,h2⟩ | ⟨h1,bs,h2,h3⟩
 ·exact ⟨w,h2,hw,.refl w,h1,rfl,rfl⟩
 ·refine ⟨addQ w q bs,h2,⟨hw.ht,hw.hf,h3,hw.bl,hw.al,?_,?_,hw.bel,hw.abv,hw.mix,hw.fai⟩,⟨⟨[q],rfl⟩,fun v L h=>⟨L,h,fun _ h=>h⟩,fun v L h=>⟨L,h,fun _ h=>h⟩,id,id⟩,by show q∈w.all++[q];simp,rfl,rfl⟩
  ·show (w.all++[q]).Nodup
   rw [List.nodup_append];exact ⟨hw.nd,by simp,fun a ha b hb=>by rw [List.mem_singleton] at hb;subst hb;exact fun e=>h1 (e▸ha)⟩
  ·intro x hx
   rcases List.mem_append.1 (show x∈w.all++[q] from hx) with h | h
   ·exact hw.cl x h
   ·rw [List.mem_singleton] at h;subst h;exact hq
theorem Pf (hG:FinG t g) (hw:WInv t g c w) (xs:List RSeq) (hx:∀ x∈xs,Cl t g (toB x)) (hl:xs.length<=1000000) :
  ∃ w',AJ xs FU (0,w.t.l,w.t.root,w.flex,w.mixed,w.fails,w.all,w.buckets,w.below_,w.above)=some w'/\WInv t g c w'/\ExtW w w'/\∀ x∈xs,x∈w'.all:=by
 obtain ⟨o,e1,e2⟩:=A5 (φ:=fun n i (s:Syntagmaref19World)=>AJ xs n (i,s.t.l,s.t.root,s.flex,s.mixed,s.fails,s.all,s.buckets,s.below_,s.above)) (l:=xs)
  (fun i s=>WInv t g c s/\ExtW w s/\∀ x∈xs.take i,x∈s.all) (fun o=>WInv t g c o/\ExtW w o/\∀ x∈xs,x∈o.all)
  (by
   rintro n i x s hxi hi ⟨h1,h2,h3⟩
   left
   obtain ⟨s',e,h4,h5,h6,_⟩:=Og hG h1 (hx x (List.mem_of_getElem? hxi));refine ⟨s',?_,h4,h2.trans h5,fun y hy=>?_⟩
   ·simp only [AJ]
    rw [dT (show (i:Int)<(xs.length:Int) by omega),cT,getI hxi,oB,show Ax (⟨(⟨s.t.l,s.t.root⟩:ATy),s.flex,s.all,s.buckets,s.below_,s.above,s.mixed,s.fails⟩:Syntagmaref19World) x=_ from e,oB,Ab (by constructor <;> omega)]
   ·rw [takeS hxi] at hy
    rcases List.mem_append.1 hy with hy | hy
    ·exact h5.mem (h3 y hy)
    ·rw [List.mem_singleton] at hy;subst hy;exact h6)
  (by
   rintro n s ⟨h1,h2,h3⟩;refine ⟨s,?_,h1,h2,by rwa [List.take_length] at h3⟩;simp only [AJ];rw [dF (by omega),cF_]) (by rw [FUv];omega) w ⟨hw,.refl w,by simp⟩
 exact ⟨o,e1,e2⟩
theorem WInv.mono {d:Nat} (h:WInv t g c w) (hd:c<=d):WInv t g d w:=⟨h.ht,h.hf,h.b,h.bl,h.al,h.nd,h.cl,fun v L hL=>⟨Nat.le_trans (h.bel v L hL).1 hd,(h.bel v L hL).2⟩,fun v L hL=>⟨Nat.le_trans (h.abv v L hL).1 hd,(h.abv v L hL).2⟩,h.mix,h.fai⟩
def KX (w:Syntagmaref19World) (v:Nat) (L:List (List Int)):Syntagmaref19World:={ w with above:=w.above.set v L }
def KK (w:Syntagmaref19World) (v:Nat) (L:List (List Int)):Syntagmaref19World:={ w with below_:=w.below_.set v L }
theorem Sc (hG:FinG t g) (hw:WInv t g c w) {v:Nat} {L:List (List Int)} (h:w.above[v]? = some L):∀ m∈L,m.length<=500:=by
 intro m hm
 obtain ⟨q,hq,ha⟩:=(hw.abv v L h).2 m hm;rw [ha.2.1];exact Nat.le_trans (List.length_filter_le ..) (hG.sm q hq).2.1
theorem Sz (hG:FinG t g) (hw:WInv t g c w) {v:Nat} {L:List (List Int)} (h:w.below_[v]? = some L):∀ m∈L,m.length<=500:=by
 intro m hm
 obtain ⟨q,hq,ha⟩:=(hw.bel v L h).2 m hm;rw [ha.2.1];exact Nat.le_trans (List.length_filter_le ..) (hG.sm q hq).1
theorem insA (hG:FinG t g) (hw:WInv t g c w) (hc:c<=2000000) {q:BSq} (hq:Cl t g q) {a:Int} {r:List Int} (h0:0<=a) (h1:a<1000) (ha:AbvP t q a r) :
  ∃ L L':List (List Int),idx w.above a=some L/\AQ L r=some L'/\WInv t g (c+1) (KX w a.toNat L')/\ExtW w (KX w a.toNat L')/\r∈L'/\(KX w a.toNat L').above[a.toNat]? = some L':=by
 have hlt:a.toNat<w.above.length:=by rw [hw.al];omega
 have hL:w.above[a.toNat]? = some w.above[a.toNat]:=List.getElem?_eq_getElem hlt
 obtain ⟨hb1,hb2⟩:=hw.abv _ _ hL
 have hrs:r.length<=500:=by rw [ha.2.1];exact Nat.le_trans (List.length_filter_le ..) (hG.sm q hq).2.1
 obtain ⟨L',e,hm,hln⟩:=Np w.above[a.toNat] r (by omega) (by omega) (fun m hm=>by have:=Sc hG hw hL m hm;omega)
 have hset:(w.above.set a.toNat L')[a.toNat]? = some L':=List.getElem?_set_self hlt
 refine ⟨_,L',?_,e,?_,?_,(hm r).2 (.inr rfl),hset⟩
 ·unfold idx;rw [if_pos h0];exact hL
 ·have hw2:=hw.mono (Nat.le_succ c)
  refine ⟨hw.ht,hw.hf,⟨hw.b.len,hw.b.lens,hw.b.rng,hw.b.has,hw.b.sm⟩,hw.bl,by simp [KX,hw.al],hw.nd,hw.cl,hw2.bel,?_,hw.mix,hw.fai⟩
  intro v L hvL
  have hvL':(w.above.set a.toNat L')[v]? = some L:=hvL
  by_cases hv:a.toNat=v
  ·subst hv
   rw [hset] at hvL';cases hvL'
   refine ⟨by omega,fun l hl=>?_⟩
   rcases (hm l).1 hl with h | rfl
   ·exact hb2 l h
   ·exact ⟨q,hq,by rwa [Int.toNat_of_nonneg h0]⟩
  ·rw [List.getElem?_set_ne hv] at hvL'
   exact hw2.abv v L hvL'
 ·refine ⟨⟨[],by simp [KX]⟩,fun v L h=>⟨L,h,fun _ h=>h⟩,fun v L hvL=>?_,id,id⟩
  by_cases hv:a.toNat=v
  ·subst hv
   rw [hL] at hvL;cases hvL
   exact ⟨L',hset,fun l hl=>(hm l).2 (.inl hl)⟩
  ·exact ⟨L,by show (w.above.set a.toNat L')[v]? = some L;rw [List.getElem?_set_ne hv];exact hvL,fun _ h=>h⟩
theorem insB (hG:FinG t g) (hw:WInv t g c w) (hc:c<=2000000) {q:BSq} (hq:Cl t g q) {a:Int} {r:List Int} (h0:0<=a) (h1:a<1000) (ha:BlwP t q a r) :
  ∃ L L':List (List Int),idx w.below_ a=some L/\AQ L r=some L'/\WInv t g (c+1) (KK w a.toNat L')/\ExtW w (KK w a.toNat L')/\r∈L'/\(KK w a.toNat L').below_[a.toNat]? = some L':=by
 have hlt:a.toNat<w.below_.length:=by rw [hw.bl];omega
 have hL:w.below_[a.toNat]? = some w.below_[a.toNat]:=List.getElem?_eq_getElem hlt
 obtain ⟨hb1,hb2⟩:=hw.bel _ _ hL
 have hrs:r.length<=500:=by rw [ha.2.1];exact Nat.le_trans (List.length_filter_le ..) (hG.sm q hq).1
 obtain ⟨L',e,hm,hln⟩:=Np w.below_[a.toNat] r (by omega) (by omega) (fun m hm=>by have:=Sz hG hw hL m hm;omega)
 have hset:(w.below_.set a.toNat L')[a.toNat]? = some L':=List.getElem?_set_self hlt
 refine ⟨_,L',?_,e,?_,?_,(hm r).2 (.inr rfl),hset⟩
 ·unfold idx;rw [if_pos h0];exact hL
 ·have hw2:=hw.mono (Nat.le_succ c)
  refine ⟨hw.ht,hw.hf,⟨hw.b.len,hw.b.lens,hw.b.rng,hw.b.has,hw.b.sm⟩,by simp [KK,hw.bl],hw.al,hw.nd,hw.cl,?_,hw2.abv,hw.mix,hw.fai⟩
  intro v L hvL
  have hvL':(w.below_.set a.toNat L')[v]? = some L:=hvL
  by_cases hv:a.toNat=v
  ·subst hv
   rw [hset] at hvL';cases hvL'
   refine ⟨by omega,fun l hl=>?_⟩
   rcases (hm l).1 hl with h | rfl
   ·exact hb2 l h
   ·exact ⟨q,hq,by rwa [Int.toNat_of_nonneg h0]⟩
  ·rw [List.getElem?_set_ne hv] at hvL'
   exact hw2.bel v L hvL'
 ·refine ⟨⟨[],by simp [KK]⟩,fun v L hvL=>?_,fun v L h=>⟨L,h,fun _ h=>h⟩,id,id⟩
  by_cases hv:a.toNat=v
  ·subst hv
   rw [hL] at hvL;cases hvL
   exact ⟨L',hset,fun l hl=>(hm l).2 (.inl hl)⟩
  ·exact ⟨L,by show (w.below_.set a.toNat L')[v]? = some L;rw [List.getElem?_set_ne hv];exact hvL,fun _ h=>h⟩
end
end Go.Proofs.YtcoghblhdjmbfaaGreat
namespace Go.Proofs.YtcoghblhdjmbfaaGreat
open Go.V
open Classical
theorem QQ {A B H:Bool} {m:Option Bool} (h:m=some H):(bif A then ((bif B then (some true) else (m.bind fun x6=>some (!x6))).bind fun p2=>some p2) else (some false):Option Bool)=some (A&&(B || !H)):=by
 subst h;cases A <;> cases B <;> rfl
section
variable {t:ATy} {g:BSq} {c:Nat} {w:Syntagmaref19World}
theorem XB {q:RSeq} (hq:InQ t (toB q)):(∀ i∈nzL t q.l 1,In t i)/\∀ i∈nzL t q.r 2,In t i:=⟨fun i hi=>hq.1 i (List.mem_filter.1 hi).1,fun i hi=>hq.2 i (List.mem_filter.1 hi).1⟩
theorem MB {l:List Int} {v v':Int} (h:E3 t l v) (h':E3 t l v'):v=v':=by
 obtain ⟨hne,h⟩:=h
 cases l with
 | nil=>exact absurd rfl hne
 | cons x r=>rw [<- (h x (by simp)).2,<- (h'.2 x (by simp)).2]
theorem VL (hG:FinG t g) (hw:WInv t g c w) (hc:c<=2000000) {q:BSq} (hq:Cl t g q) {a:Int} {r:List Int} {P:Bool} (hP:P=true->0<=a/\a<1000/\AbvP t q a r) :
  ∃ w1,(bif P then (idx w.above a).bind fun x7=>(AQ x7 r).bind fun x8=>(idx w.above a).bind fun x9=>some (w.t.l,w.t.root,w.flex,w.mixed,w.fails,w.all,w.buckets,w.below_,(w.above.set (a).toNat x8))
   else some (w.t.l,w.t.root,w.flex,w.mixed,w.fails,w.all,w.buckets,w.below_,w.above):Option ((List ANd)×Int×Int×Bool×Bool×(List RSeq)×(List (List Int))×(List (List (List Int)))×(List (List (List Int))))) =
    some (w1.t.l,w1.t.root,w1.flex,w1.mixed,w1.fails,w1.all,w1.buckets,w1.below_,w1.above)/\WInv t g (c+1) w1/\ExtW w w1/\(P=true->∃ L,w1.above[a.toNat]? = some L/\r∈L)/\(P=false->w1=w):=by
 cases P with
 | false=>exact ⟨w,rfl,hw.mono (Nat.le_succ c),.refl w,fun h=>(by cases h),fun _=>rfl⟩
 | true =>
  obtain ⟨h0,h1,ha⟩:=hP rfl;obtain ⟨L,L',e1,e2,e3,e4,e5,e6⟩:=insA hG hw hc hq h0 h1 ha;refine ⟨KX w a.toNat L',?_,e3,e4,fun _=>⟨L',e6,e5⟩,fun h=>(by cases h)⟩;rw [cT,e1,oB,e2,oB,oB];rfl
theorem Vt (hG:FinG t g) (hw:WInv t g c w) (hc:c<=2000000) {q:BSq} (hq:Cl t g q) {a:Int} {r:List Int} {P:Bool} (hP:P=true->0<=a/\a<1000/\BlwP t q a r) :
  ∃ w1,(bif P then (idx w.below_ a).bind fun x11=>(AQ x11 r).bind fun x12=>(idx w.below_ a).bind fun x13=>some (w.t.l,w.t.root,w.flex,w.mixed,w.fails,w.all,w.buckets,(w.below_.set (a).toNat x12),w.above)
   else some (w.t.l,w.t.root,w.flex,w.mixed,w.fails,w.all,w.buckets,w.below_,w.above):Option ((List ANd)×Int×Int×Bool×Bool×(List RSeq)×(List (List Int))×(List (List (List Int)))×(List (List (List Int))))) =
    some (w1.t.l,w1.t.root,w1.flex,w1.mixed,w1.fails,w1.all,w1.buckets,w1.below_,w1.above)/\WInv t g (c+1) w1/\ExtW w w1/\(P=true->∃ L,w1.below_[a.toNat]? = some L/\r∈L)/\(P=false->w1=w):=by
 cases P with
 | false=>exact ⟨w,rfl,hw.mono (Nat.le_succ c),.refl w,fun h=>(by cases h),fun _=>rfl⟩
 | true =>
  obtain ⟨h0,h1,ha⟩:=hP rfl;obtain ⟨L,L',e1,e2,e3,e4,e5,e6⟩:=insB hG hw hc hq h0 h1 ha;refine ⟨KK w a.toNat L',?_,e3,e4,fun _=>⟨L',e6,e5⟩,fun h=>(by cases h)⟩;rw [cT,e1,oB,e2,oB,oB];rfl
def mixW (w:Syntagmaref19World):Syntagmaref19World:={ w with mixed:=true }
def failW (w:Syntagmaref19World):Syntagmaref19World:={ w with fails:=true }
theorem VZ (hw:WInv t g c w) {q:BSq} (hq:Cl t g q) (hm:MixP t q):WInv t g c (mixW w)/\ExtW w (mixW w):=
 ⟨⟨hw.ht,hw.hf,⟨hw.b.len,hw.b.lens,hw.b.rng,hw.b.has,hw.b.sm⟩,hw.bl,hw.al,hw.nd,hw.cl,hw.bel,hw.abv,fun _=>⟨q,hq,hm⟩,hw.fai⟩,⟨[],by simp [mixW]⟩,fun v L h=>⟨L,h,fun _ h=>h⟩,fun v L h=>⟨L,h,fun _ h=>h⟩,fun _=>rfl,id⟩
theorem Ti (hw:WInv t g c w) {q:BSq} (hq:Cl t g q) (hv:¬ VarP t q) (hl:(AX t q).1=true):WInv t g c (failW w)/\ExtW w (failW w):=
 ⟨⟨hw.ht,hw.hf,⟨hw.b.len,hw.b.lens,hw.b.rng,hw.b.has,hw.b.sm⟩,hw.bl,hw.al,hw.nd,hw.cl,hw.bel,hw.abv,hw.mix,fun _=>⟨q,hq,hv,hl⟩⟩,⟨[],by simp [failW]⟩,fun v L h=>⟨L,h,fun _ h=>h⟩,fun v L h=>⟨L,h,fun _ h=>h⟩,id,fun _=>rfl⟩
theorem Nv (hG:FinG t g) (hw:WInv t g c w) {q:RSeq} (hq:Cl t g (toB q)) (hv:¬ VarP t (toB q)) :
  ∃ w',((Ew (⟨w.t.l,w.t.root⟩:ATy) q).bind fun (x18,x19) =>
   (bif (!x19) then some (w.t.l,w.t.root,w.flex,w.mixed,true,w.all,w.buckets,w.below_,w.above)
    else some (w.t.l,w.t.root,w.flex,w.mixed,w.fails,w.all,w.buckets,w.below_,w.above):Option ((List ANd)×Int×Int×Bool×Bool×(List RSeq)×(List (List Int))×(List (List (List Int)))×(List (List (List Int))))).bind fun (z16,z17,z18,z19,z20,l13,l14,l15,l16) =>
   AJ x18 FU (0,z16,z17,z18,z19,z20,l13,l14,l15,l16))=some w'/\WInv t g c w'/\ExtW w w'/\((AX t (toB q)).1=true->w'.fails=true)/\∀ s∈(AX t (toB q)).2,toS s∈w'.all:=by
 have hsm:=hG.sm _ hq
 have hin:=hG.inq _ hq
 have e:=SN hG.ok hG.nb hin hsm.1 hsm.2.1
 rw [Vu] at e;rw [show Ew (⟨w.t.l,w.t.root⟩:ATy) q=Ew t q by rw [<- hw.ht],e,oB]
 have hcl:∀ x∈(AX t (toB q)).2.map toS,Cl t g (toB x):=by
  intro x hx
  obtain ⟨s,hs,rfl⟩:=List.mem_map.1 hx;exact .lead hq hv hs
 have hln:((AX t (toB q)).2.map toS).length<=1000000:=by
  rw [List.length_map];exact Nat.le_trans (QC hG.nb hin) (by omega)
 cases hb:(AX t (toB q)).1 with
 | true =>
  obtain ⟨h1,h2⟩:=Ti hw hq hv hb;obtain ⟨w',e1,e2,e3,e4⟩:=Pf hG h1 _ hcl hln;exact ⟨w',e1,e2,h2.trans e3,fun _=>e3.fai rfl,fun s hs=>e4 _ (List.mem_map.2 ⟨s,hs,rfl⟩)⟩
 | false =>
  obtain ⟨w',e1,e2,e3,e4⟩:=Pf hG hw _ hcl hln;exact ⟨w',e1,e2,e3,fun h=>(by cases h),fun s hs=>e4 _ (List.mem_map.2 ⟨s,hs,rfl⟩)⟩
end
end Go.Proofs.YtcoghblhdjmbfaaGreat
namespace Go.Proofs.YtcoghblhdjmbfaaGreat
open Go.V
open Classical
theorem bndE {α β γ:Type} {m:Option α} {k:α->Option β} {k2:β->Option γ} {x:α} {P:γ->Prop} (h:m=some x) (h2:∃ r,(k x).bind k2=some r/\P r):∃ r,(m.bind k).bind k2=some r/\P r:=by rw [h];exact h2
theorem Xi {P B H:Bool} {m:Option Bool} (h:m=some H):(bif P then (some true) else ((bif B then (m.bind fun x15=>some (!x15)) else (some false)).bind fun p8=>some p8):Option Bool)=some (P||(B && !H)):=by
 subst h;cases P <;> cases B <;> rfl
theorem pb3:∀ {A B HL HR:Bool},(A&&(B || !HR))=false->(B && !HL)=false->(B&&(A || !HL))=false:=by decide
section
variable {t:ATy} {g:BSq} {c:Nat} {w:Syntagmaref19World}
theorem WI (hG:FinG t g) (hw:WInv t g c w) (hc:c<=1500000) {q:RSeq} (hq:Cl t g (toB q)) :
  ∃ w',BA w q=some w'/\WInv t g (c+2) w'/\ExtW w w'/\DoneW t w' (toB q):=by
 have hsm:=hG.sm _ hq
 have hin:=hG.inq _ hq
 have hl5:q.l.length<=500:=hsm.1
 have hr5:q.r.length<=500:=hsm.2.1
 have hVt:=hG.ok.vno
 unfold BA
 have he:Bl (⟨w.t.l,w.t.root⟩:ATy) q=some (KG t q):=by
  rw [show Bl (⟨w.t.l,w.t.root⟩:ATy) q=Bl t q by rw [<- hw.ht]];exact Ts hin hl5 hr5
 rw [he,oB]
 cases hB:KG t q with
 | true =>
  have hE:Ge t (toB q):=early_iff.1 hB
  have hv:¬ VarP t (toB q):=fun h=>h.1 hE
  obtain ⟨w',e1,e2,e3,e4,e5⟩:=Nv hG hw hq hv;refine ⟨w',e1,e2.mono (by omega),e3,fun v r h=>absurd hE h.1,fun v l h=>absurd hE h.1,fun h=>absurd h.1 hv,fun _=>e4,fun _=>e5⟩
 | false =>
  have hE:¬ Ge t (toB q):=fun h=>by rw [early_iff.2 h] at hB;cases hB
  rw [Bool.not_false,cT];obtain ⟨hLin,hRin⟩:=XB hin
  have hLl:(nzL t q.l 1).length<=500:=Nat.le_trans (List.length_filter_le ..) hl5
  have hRl:(nzL t q.r 2).length<=500:=Nat.le_trans (List.length_filter_le ..) hr5
  have wl:AE (⟨w.t.l,w.t.root⟩:ATy) q.l 1=some (nzL t q.l 1):=by
   rw [show AE (⟨w.t.l,w.t.root⟩:ATy) q.l 1=AE t q.l 1 by rw [<- hw.ht]];exact Mr hin.1 hl5 1
  have wr:AE (⟨w.t.l,w.t.root⟩:ATy) q.r 2=some (nzL t q.r 2):=by
   rw [show AE (⟨w.t.l,w.t.root⟩:ATy) q.r 2=AE t q.r 2 by rw [<- hw.ht]];exact Mr hin.2 hr5 2
  refine bndE wl ?_;refine bndE wr ?_;obtain ⟨L,hL⟩:∃ L,L=nzL t q.l 1:=⟨_,rfl⟩;obtain ⟨R,hR⟩:∃ R,R=nzL t q.r 2:=⟨_,rfl⟩;rw [<- hL,<- hR];rw [<- hL] at hLin hLl;rw [<- hR] at hRin hRl
  have hVw:VNo w.t:=by rw [hw.ht];exact hVt
  obtain ⟨a,ea,ha⟩:=PD hVw hw.hf (l:=L) (by rw [hw.ht];exact hLin) hLl;obtain ⟨b,eb,hb⟩:=PD hVw hw.hf (l:=R) (by rw [hw.ht];exact hRin) hRl;rw [hw.ht] at ha hb;refine bndE ea ?_;refine bndE eb ?_;obtain ⟨HL,hHL⟩:∃ HL,HL=(L.any fun i=>decide ((nd t i).kind=11)):=⟨_,rfl⟩;obtain ⟨HR,hHR⟩:∃ HR,HR=(R.any fun i=>decide ((nd t i).kind=11)):=⟨_,rfl⟩
  have hasL:∀ {w':Syntagmaref19World} {d:Nat},WInv t g d w'->Aw w' L=some HL:=fun {w'} {d} h=>by
   rw [hHL,<- h.ht];exact TB (by rw [h.ht];exact hVt) h.hf (by rw [h.ht];exact hLin) hLl
  have hasR:∀ {w':Syntagmaref19World} {d:Nat},WInv t g d w'->Aw w' R=some HR:=fun {w'} {d} h=>by
   rw [hHR,<- h.ht];exact TB (by rw [h.ht];exact hVt) h.hf (by rw [h.ht];exact hRin) hRl
  have hLV:HL=true↔hasV t L:=by rw [hHL];exact OT
  have hRV:HR=true↔hasV t R:=by rw [hHR];exact OT
  have hA:decide (0<=a)=true↔E3 t L a:=by
   rw [decide_eq_true_eq]
   rcases ha with ⟨h1,_,h2⟩ | ⟨h1,h2⟩
   ·exact ⟨fun _=>h2,fun _=>h1⟩
   ·exact ⟨fun h=>by omega,fun h=>absurd h (h2 a)⟩
  have hBb:decide (0<=b)=true↔E3 t R b:=by
   rw [decide_eq_true_eq]
   rcases hb with ⟨h1,_,h2⟩ | ⟨h1,h2⟩
   ·exact ⟨fun _=>h2,fun _=>h1⟩
   ·exact ⟨fun h=>by omega,fun h=>absurd h (h2 b)⟩
  have hA1:∀ v,E3 t L v->v=a:=fun v hv=>by
   rcases ha with ⟨_,_,h2⟩ | ⟨_,h2⟩
   ·exact MB hv h2
   ·exact absurd hv (h2 v)
  have hB1:∀ v,E3 t R v->v=b:=fun v hv=>by
   rcases hb with ⟨_,_,h2⟩ | ⟨_,h2⟩
   ·exact MB hv h2
   ·exact absurd hv (h2 v)
  obtain ⟨A,hAe⟩:∃ A,A=decide (0<=a):=⟨_,rfl⟩;obtain ⟨B,hBe⟩:∃ B,B=decide (0<=b):=⟨_,rfl⟩;rw [<- hAe] at hA;rw [<- hBe] at hBb;rw [<- hAe,<- hBe]
  have haR:A=true->0<=a/\a<1000:=fun h=>by
   rcases ha with ⟨h1,h2,_⟩ | ⟨_,h2⟩
   ·exact ⟨h1,h2⟩
   ·exact absurd (hA.1 h) (h2 a)
  have hbR:B=true->0<=b/\b<1000:=fun h=>by
   rcases hb with ⟨h1,h2,_⟩ | ⟨_,h2⟩
   ·exact ⟨h1,h2⟩
   ·exact absurd (hBb.1 h) (h2 b)
  have habv:∀ v r,AbvP t (toB q) v r↔(A&&(B || !HR))=true/\v=a/\r=R:=by
   intro v r
   constructor
   ·rintro ⟨_,h2,h3,h4⟩
    have h2':r=R:=by rw [hR];exact h2
    have h3':E3 t L v:=by rw [hL];exact h3
    have hva:=hA1 v h3'
    refine ⟨?_,hva,h2'⟩;rw [hA.2 (hva▸h3'),Bool.true_and]
    rcases h4 with ⟨x,hx⟩ | h4
    ·rw [h2'] at hx;rw [hBb.2 (hB1 x hx▸hx)];rfl
    ·rw [h2'] at h4
     cases hq2:HR with
     | true=>exact absurd (hRV.1 hq2) h4
     | false=>simp
   ·rintro ⟨h1,rfl,rfl⟩
    rw [Bool.and_eq_true,Bool.or_eq_true] at h1;refine ⟨hE,hR,by rw [hL] at hA;exact hA.1 h1.1,?_⟩
    rcases h1.2 with h | h
    ·exact .inl ⟨b,hBb.1 h⟩
    ·exact .inr fun hv=>by rw [hRV.2 hv] at h;cases h
  have hblw:∀ v l,BlwP t (toB q) v l↔(B&&(A || !HL))=true/\v=b/\l=L:=by
   intro v r
   constructor
   ·rintro ⟨_,h2,h3,h4⟩
    have h2':r=L:=by rw [hL];exact h2
    have h3':E3 t R v:=by rw [hR];exact h3
    have hva:=hB1 v h3'
    refine ⟨?_,hva,h2'⟩;rw [hBb.2 (hva▸h3'),Bool.true_and]
    rcases h4 with ⟨x,hx⟩ | h4
    ·rw [h2'] at hx;rw [hA.2 (hA1 x hx▸hx)];rfl
    ·rw [h2'] at h4
     cases hq2:HL with
     | true=>exact absurd (hLV.1 hq2) h4
     | false=>simp
   ·rintro ⟨h1,rfl,rfl⟩
    rw [Bool.and_eq_true,Bool.or_eq_true] at h1;refine ⟨hE,hL,by rw [hR] at hBb;exact hBb.1 h1.1,?_⟩
    rcases h1.2 with h | h
    ·exact .inl ⟨a,hA.1 h⟩
    ·exact .inr fun hv=>by rw [hLV.2 hv] at h;cases h
  have hvar:VarP t (toB q)↔HL=true\/HR=true:=by
   unfold VarP;rw [hLV,hRV,hL,hR];exact ⟨fun h=>h.2,fun h=>⟨hE,h⟩⟩
  have hAl:A=true->HL=true:=fun h=>by
   have:=hA.1 h
   obtain ⟨hne,h2⟩:=this
   cases hLc:L with
   | nil=>exact absurd hLc hne
   | cons x r=>exact hLV.2 ⟨x,by rw [hLc];simp,(h2 x (by rw [hLc];simp)).1⟩
  have hBl:B=true->HR=true:=fun h=>by
   have:=hBb.1 h
   obtain ⟨hne,h2⟩:=this
   cases hLc:R with
   | nil=>exact absurd hLc hne
   | cons x r=>exact hRV.2 ⟨x,by rw [hLc];simp,(h2 x (by rw [hLc];simp)).1⟩
  refine bndE (QQ (hasR hw)) ?_;obtain ⟨w1,e1,i1,x1,p1,n1⟩:=VL hG hw (by omega) hq (a:=a) (r:=R) (P:=A&&(B || !HR)) (fun h=>by
   have:=(habv a R).2 ⟨h,rfl,rfl⟩
   rw [Bool.and_eq_true] at h;exact ⟨(haR h.1).1,(haR h.1).2,this⟩)
  refine bndE e1 ?_;refine bndE (QQ (hasL i1)) ?_;obtain ⟨w2,e2,i2,x2,p2,n2⟩:=Vt hG i1 (by omega) hq (a:=b) (r:=L) (P:=B&&(A || !HL)) (fun h=>by
   have:=(hblw b L).2 ⟨h,rfl,rfl⟩
   rw [Bool.and_eq_true] at h;exact ⟨(hbR h.1).1,(hbR h.1).2,this⟩)
  refine bndE e2 ?_;refine bndE (QQ (hasR i2)) ?_;refine bndE (Xi (hasL i2)) ?_
  have hd:∀ w',ExtW w2 w'->(∀ v r,AbvP t (toB q) v r->∃ L,w'.above[v.toNat]? = some L/\r∈L)/\(∀ v l,BlwP t (toB q) v l->∃ L,w'.below_[v.toNat]? = some L/\l∈L):=by
   intro w' hx
   constructor
   ·intro v r h
    obtain ⟨h1,rfl,rfl⟩:=(habv v r).1 h;obtain ⟨M,m1,m2⟩:=p1 h1;obtain ⟨M',m3,m4⟩:=(x2.trans hx).abv _ M m1;exact ⟨M',m3,m4 _ m2⟩
   ·intro v r h
    obtain ⟨h1,rfl,rfl⟩:=(hblw v r).1 h;obtain ⟨M,m1,m2⟩:=p2 h1;obtain ⟨M',m3,m4⟩:=hx.bel _ M m1;exact ⟨M',m3,m4 _ m2⟩
  cases hP:((A&&(B || !HR))||(B && !HL)) with
  | true =>
   have hPv:VarP t (toB q):=by
    rw [hvar];simp only [Bool.or_eq_true,Bool.and_eq_true] at hP
    rcases hP with h | h
    ·exact .inl (hAl h.1)
    ·exact .inr (hBl h.1)
   refine ⟨w2,rfl,i2,x1.trans x2,(hd w2 (.refl _)).1,(hd w2 (.refl _)).2,fun hm=>?_,fun h=>absurd hPv h,fun h=>absurd hPv h⟩
   exfalso
   rcases Bool.or_eq_true _ _▸hP with h | h
   ·exact hm.2.1 a R ((habv a R).2 ⟨h,rfl,rfl⟩)
   ·refine hm.2.2 b L ((hblw b L).2 ⟨?_,rfl,rfl⟩)
    simp only [Bool.and_eq_true,Bool.or_eq_true] at h ⊢;exact ⟨h.1,.inr h.2⟩
  | false =>
   rw [cF_]
   have hP1:(A&&(B || !HR))=false:=by
    cases h:(A&&(B || !HR)) with
    | true=>rw [h] at hP;simp at hP
    | false=>rfl
   have hP3:(B&&(A || !HL))=false:=by
    rw [hP1,Bool.false_or] at hP;exact pb3 hP1 hP
   have ew1:=n1 hP1
   have ew2:=n2 hP3
   subst ew1;subst ew2
   have hna:∀ v r,¬ AbvP t (toB q) v r:=fun v r h=>by rw [((habv v r).1 h).1] at hP1;cases hP1
   have hnb:∀ v r,¬ BlwP t (toB q) v r:=fun v r h=>by rw [((hblw v r).1 h).1] at hP3;cases hP3
   refine bndE (hasL hw) ?_;refine bndE (x:=HL||HR) (by cases HL with | true=>rfl | false=>rw [cF_,hasR hw];rfl) ?_
   cases hM:(HL||HR) with
   | true =>
    have hPv:VarP t (toB q):=hvar.2 (by simpa using hM)
    have hm:MixP t (toB q):=⟨hPv,hna,hnb⟩
    obtain ⟨h1,h2⟩:=VZ i2 hq hm;exact ⟨_,rfl,h1,h2,fun v r h=>absurd h (hna v r),fun v l h=>absurd h (hnb v l),fun _=>rfl,fun h=>absurd hPv h,fun h=>absurd hPv h⟩
   | false =>
    have hv:¬ VarP t (toB q):=fun h=>by
     rcases hvar.1 h with h | h <;> rw [h] at hM <;> simp at hM
    obtain ⟨w',f1,f2,f3,f4,f5⟩:=Nv hG hw hq hv;exact ⟨w',f1,f2.mono (by omega),f3,fun v r h=>absurd h (hna v r),fun v l h=>absurd h (hnb v l),fun h=>absurd h.1 hv,fun _=>f4,fun _=>f5⟩
end
end Go.Proofs.YtcoghblhdjmbfaaGreat
namespace Go.Proofs.YtcoghblhdjmbfaaGreat
open Go.V
open Classical
abbrev WT:=(List RSeq)×(List ANd)×Int×Int×Bool×Bool×(List (List (List Int)))×(List (List (List Int)))×(List (List Int))
abbrev tupW (w:Syntagmaref19World):WT:=(w.all,w.t.l,w.t.root,w.flex,w.mixed,w.fails,w.below_,w.above,w.buckets)
theorem Wq {p:Prop} (h:p) {i:Decidable p}:@decide p i=true:=by simp [h]
theorem Wt {p:Prop} (h:¬ p) {i:Decidable p}:@decide p i=false:=by simp [h]
section
variable {t:ATy} {g:BSq} {c:Nat} {w:Syntagmaref19World}
structure ProcW (t:ATy) (g:BSq) (d:Nat) (w:Syntagmaref19World):Prop where
 inv:WInv t g (2*d) w
 le:d<=w.all.length
 pr:∀ (j:Nat) q,j<d->w.all[j]? = some q->DoneW t w (toB q)
theorem Q8 {w w':Syntagmaref19World} (h:ExtW w w') {j:Nat} (hj:j<w.all.length):w'.all[j]? = w.all[j]? := by
 obtain ⟨s,e⟩:=h.all;rw [e,List.getElem?_append_left hj]
theorem Tq (hG:FinG t g) {d:Nat} (h:ProcW t g d w):∃ w',A1 FU ((d:Int),tupW w)=some ((w'.all.length:Int),tupW w')/\ProcW t g w'.all.length w'/\ExtW w w':=by
 obtain ⟨o,e1,w',e2,e3,e4⟩:=IK (φ:=fun n (s:Nat×Syntagmaref19World)=>A1 n ((s.1:Int),tupW s.2)) (fun s=>500001 - s.1) (fun s=>ProcW t g s.1 s.2/\ExtW w s.2)
  (fun o=>∃ w',o=((w'.all.length:Int),tupW w')/\ProcW t g w'.all.length w'/\ExtW w w') (by
  rintro n ⟨k,s⟩ ⟨hp,hx⟩
  have hlen:=hp.inv.len hG
  have hle:=hp.le
  dsimp only at hp hx hlen hle ⊢
  by_cases hk:k<s.all.length
  ·left
   obtain ⟨q,hq⟩:∃ q,s.all[k]? = some q:=⟨_,List.getElem?_eq_getElem hk⟩;obtain ⟨s',e,i1,i2,i3⟩:=WI hG hp.inv (by omega) (hp.inv.cl q (List.mem_of_getElem? hq));refine ⟨(k+1,s'),⟨⟨i1.mono (by omega),?_,?_⟩,hx.trans i2⟩,by dsimp only;omega,?_⟩
   ·obtain ⟨r,hr⟩:=i2.all
    dsimp only
    rw [hr,List.length_append];omega
   ·intro j x hj hjx
    dsimp only at hj hjx ⊢
    rw [Q8 i2 (by omega)] at hjx
    by_cases hjk:j=k
    ·subst hjk;rw [hq] at hjx;cases hjx;exact i3
    ·exact (hp.pr j x (by omega) hjx).ext i2
   ·simp only [A1,tupW]
    rw [Wq (show (k:Int)<(s.all.length:Int) by omega),cT,getI hq,oB,show BA (⟨(⟨s.t.l,s.t.root⟩:ATy),s.flex,s.all,s.buckets,s.below_,s.above,s.mixed,s.fails⟩:Syntagmaref19World) q=_ from e,oB,Ab (by constructor <;> omega)]
    rfl
  ·right
   have hkl:k=s.all.length:=by omega
   subst hkl;refine ⟨_,⟨s,rfl,hp,hx⟩,?_⟩;simp only [A1,tupW];rw [Wt (show ¬ (s.all.length:Int)<(s.all.length:Int) by omega),cF_]) FU (d,w) ⟨h,.refl w⟩ (by rw [FUv];dsimp only;omega)
 exact ⟨w',by rw [<- e2];exact e1,e3,e4⟩
structure AddW (t:ATy) (g:BSq) (c:Nat) (w w':Syntagmaref19World):Prop where
 inv:WInv t g c w'
 ext:ExtW w w'
 bel:w'.below_=w.below_
 abv:w'.above=w.above
theorem AddW.trans {a b d:Syntagmaref19World} (h:AddW t g c a b) (k:AddW t g c b d):AddW t g c a d:=⟨k.inv,h.ext.trans k.ext,k.bel.trans h.bel,k.abv.trans h.abv⟩
theorem Vn (hw:WInv t g c w) {v:Nat} {LB LA:List (List Int)} (hB:w.below_[v]? = some LB) (hA:w.above[v]? = some LA) {l r:List Int} (hl:l∈LB) (hr:r∈LA):Cl t g (toB ⟨l,r⟩):=by
 obtain ⟨q,q1,q2⟩:=(hw.bel v LB hB).2 l hl;obtain ⟨p,p1,p2⟩:=(hw.abv v LA hA).2 r hr;exact .cut q1 p1 q2 p2
theorem UA (hG:FinG t g) (hw:WInv t g c w) (hc:c<=2000000) {v i:Nat} {LB LA:List (List Int)} (hB:w.below_[v]? = some LB) (hA:w.above[v]? = some LA) {l:List Int} (hl:LB[i]? = some l) :
  ∃ w',A3 (v:Int) (i:Int) FU (0,tupW w)=some (tupW w')/\AddW t g c w w'/\∀ r∈LA,(⟨l,r⟩:RSeq)∈w'.all:=by
 have hLA:=(hw.abv v LA hA).1
 obtain ⟨o,e1,w',rfl,e3,e4⟩:=A5 (φ:=fun n k (s:Syntagmaref19World)=>A3 (v:Int) (i:Int) n (k,tupW s)) (l:=LA) (fun k s=>AddW t g c w s/\∀ r∈LA.take k,(⟨l,r⟩:RSeq)∈s.all)
  (fun o=>∃ w',o=tupW w'/\AddW t g c w w'/\∀ r∈LA,(⟨l,r⟩:RSeq)∈w'.all)
  (by
   rintro n k r s hr hk ⟨h1,h2⟩
   left
   obtain ⟨s',e,h4,h5,h6,h7,h8⟩:=Og hG h1.inv (Vn hw hB hA (List.mem_of_getElem? hl) (List.mem_of_getElem? hr));refine ⟨s',?_,h1.trans ⟨h4,h5,h7,h8⟩,fun y hy=>?_⟩
   ·have hA':s.above[v]? = some LA:=by rw [h1.abv];exact hA
    have hB':s.below_[v]? = some LB:=by rw [h1.bel];exact hB
    simp only [A3,tupW];rw [getI hA',oB,dT (show (k:Int)<(LA.length:Int) by omega),cT,getI hB',oB,getI hl,oB,oB,getI hr,oB,show Ax (⟨(⟨s.t.l,s.t.root⟩:ATy),s.flex,s.all,s.buckets,s.below_,s.above,s.mixed,s.fails⟩:Syntagmaref19World) (⟨l,r⟩:RSeq)=_ from e,oB,Ab (by constructor <;> omega)]
   ·rw [takeS hr] at hy
    rcases List.mem_append.1 hy with hy | hy
    ·exact h5.mem (h2 y hy)
    ·rw [List.mem_singleton] at hy;subst hy;exact h6)
  (by
   rintro n s ⟨h1,h2⟩
   have hA':s.above[v]? = some LA:=by rw [h1.abv];exact hA
   refine ⟨tupW s,?_,s,rfl,h1,by rwa [List.take_length] at h2⟩;simp only [A3,tupW];rw [getI hA',oB,dF (by omega),cF_]) (by rw [FUv];omega) w ⟨⟨hw,.refl w,rfl,rfl⟩,by simp⟩
 exact ⟨w',e1,e3,e4⟩
theorem T5 (hG:FinG t g) (hw:WInv t g c w) (hc:c<=2000000) {v:Nat} {LB LA:List (List Int)} (hB:w.below_[v]? = some LB) (hA:w.above[v]? = some LA) :
  ∃ w',A2 (v:Int) FU (0,tupW w)=some (tupW w')/\AddW t g c w w'/\∀ l∈LB,∀ r∈LA,(⟨l,r⟩:RSeq)∈w'.all:=by
 have hLB:=(hw.bel v LB hB).1
 obtain ⟨o,e1,w',rfl,e3,e4⟩:=A5 (φ:=fun n k (s:Syntagmaref19World)=>A2 (v:Int) n (k,tupW s)) (l:=LB) (fun k s=>AddW t g c w s/\∀ l∈LB.take k,∀ r∈LA,(⟨l,r⟩:RSeq)∈s.all)
  (fun o=>∃ w',o=tupW w'/\AddW t g c w w'/\∀ l∈LB,∀ r∈LA,(⟨l,r⟩:RSeq)∈w'.all)
  (by
   rintro n k l s hl hk ⟨h1,h2⟩
   left
   have hA':s.above[v]? = some LA:=by rw [h1.abv];exact hA
   have hB':s.below_[v]? = some LB:=by rw [h1.bel];exact hB
   obtain ⟨s',e,h4,h5⟩:=UA hG h1.inv hc hB' hA' hl;refine ⟨s',?_,h1.trans h4,fun y hy r hr=>?_⟩
   ·have e':A3 (v:Int) (k:Int) FU (0,s.all,s.t.l,s.t.root,s.flex,s.mixed,s.fails,s.below_,s.above,s.buckets)=some (tupW s'):=e
    simp only [A2,tupW];rw [getI hB',oB,dT (show (k:Int)<(LB.length:Int) by omega),cT,e',oB]
    show grd _ _=_
    rw [Ab (by constructor <;> omega)]
   ·rw [takeS hl] at hy
    rcases List.mem_append.1 hy with hy | hy
    ·exact h4.ext.mem (h2 y hy r hr)
    ·rw [List.mem_singleton] at hy;subst hy;exact h5 r hr)
  (by
   rintro n s ⟨h1,h2⟩
   have hB':s.below_[v]? = some LB:=by rw [h1.bel];exact hB
   refine ⟨tupW s,?_,s,rfl,h1,by rwa [List.take_length] at h2⟩;simp only [A2,tupW];rw [getI hB',oB,dF (by omega),cF_]) (by rw [FUv];omega) w ⟨⟨hw,.refl w,rfl,rfl⟩,by simp⟩
 exact ⟨w',e1,e3,e4⟩
def Jy (w:Syntagmaref19World) (n:Nat):Prop:=∀ (v:Nat) LB LA,v<n->w.below_[v]? = some LB->w.above[v]? = some LA->∀ l∈LB,∀ r∈LA,(⟨l,r⟩:RSeq)∈w.all
theorem UU (hG:FinG t g) (hw:WInv t g c w) (hc:c<=2000000):∃ w',AP 1000 FU (0,tupW w)=some (tupW w')/\AddW t g c w w'/\Jy w' 1000:=by
 obtain ⟨o,e1,w',rfl,e3,e4⟩:=A5 (φ:=fun n k (s:Syntagmaref19World)=>AP 1000 n (k,tupW s)) (l:=List.range 1000) (fun k s=>AddW t g c w s/\Jy s k)
  (fun o=>∃ w',o=tupW w'/\AddW t g c w w'/\Jy w' 1000)
  (by
   rintro n k x s _ hk ⟨h1,h2⟩;rw [List.length_range] at hk
   left
   have hB':s.below_[k]? = some (s.below_[k]'(by rw [h1.inv.bl];exact hk)):=List.getElem?_eq_getElem _
   have hA':s.above[k]? = some (s.above[k]'(by rw [h1.inv.al];exact hk)):=List.getElem?_eq_getElem _
   obtain ⟨s',e,h4,h5⟩:=T5 hG h1.inv hc hB' hA';refine ⟨s',?_,h1.trans h4,fun v LB LA hv hB hA l hl r hr=>?_⟩
   ·have e':A2 (k:Int) FU (0,s.all,s.t.l,s.t.root,s.flex,s.mixed,s.fails,s.below_,s.above,s.buckets)=some (tupW s'):=e
    simp only [AP,tupW];rw [dT (show (k:Int)<1000 by omega),cT,e',oB]
    show grd _ _=_
    rw [Ab (by constructor <;> omega)]
   ·rw [h4.bel] at hB;rw [h4.abv] at hA
    by_cases hvk:v=k
    ·subst hvk;rw [hB'] at hB;rw [hA'] at hA;cases hB;cases hA;exact h5 l hl r hr
    ·exact h4.ext.mem (h2 v LB LA (by omega) hB hA l hl r hr))
  (by
   rintro n s ⟨h1,h2⟩;rw [List.length_range] at h2;refine ⟨tupW s,?_,s,rfl,h1,h2⟩;simp only [AP,tupW];rw [List.length_range,dF (by omega),cF_]) (by rw [FUv,List.length_range];omega) w ⟨⟨hw,.refl w,rfl,rfl⟩,fun v LB LA h=>by omega⟩
 exact ⟨w',e1,e3,e4⟩
theorem UI (hG:FinG t g) (hw:WInv t g 0 w) (hg:toS g∈w.all):∃ w',AZ 1000 FU (0,tupW w)=some (tupW w')/\ProcW t g w'.all.length w'/\Jy w' 1000/\toS g∈w'.all:=by
 obtain ⟨o,e1,w',rfl,e3,e4,e5⟩:=IK (φ:=fun n (s:Nat×Syntagmaref19World)=>AZ 1000 n ((s.1:Int),tupW s.2)) (fun s=>500001 - s.1) (fun s=>ProcW t g s.1 s.2/\(s.1≠0->Jy s.2 1000)/\toS g∈s.2.all)
  (fun o=>∃ w',o=tupW w'/\ProcW t g w'.all.length w'/\Jy w' 1000/\toS g∈w'.all) (by
  rintro n ⟨k,s⟩ ⟨hp,hpr,hgs⟩
  have hlen:=hp.inv.len hG
  have hle:=hp.le
  dsimp only at hp hpr hgs hlen hle ⊢
  by_cases hk:k<s.all.length
  ·left
   obtain ⟨s1,f1,f2,f3⟩:=Tq hG hp
   have hlen1:=f2.inv.len hG
   obtain ⟨s2,k1,k2,k3⟩:=UU hG f2.inv (by omega);obtain ⟨r1,hr1⟩:=f3.all
   have hl1:s.all.length<=s1.all.length:=by rw [hr1,List.length_append];omega
   refine ⟨(s1.all.length,s2),⟨⟨k2.inv,?_,?_⟩,fun _=>k3,(k2.ext.mem (f3.mem hgs))⟩,by dsimp only;omega,?_⟩
   ·obtain ⟨r,hr⟩:=k2.ext.all
    dsimp only;rw [hr,List.length_append];omega
   ·intro j q hj hjq
    dsimp only at hj hjq ⊢
    rw [Q8 k2.ext hj] at hjq;exact (f2.pr j q hj hjq).ext k2.ext
   ·have f1':A1 FU ((k:Int),s.all,s.t.l,s.t.root,s.flex,s.mixed,s.fails,s.below_,s.above,s.buckets)=some ((s1.all.length:Int),tupW s1):=f1
    have k1':AP 1000 FU (0,s1.all,s1.t.l,s1.t.root,s1.flex,s1.mixed,s1.fails,s1.below_,s1.above,s1.buckets)=some (tupW s2):=k1
    simp only [AZ,tupW];rw [Wq (show (k:Int)<(s.all.length:Int) by omega),cT,f1',oB]
    show Option.bind (AP 1000 FU (0,s1.all,s1.t.l,s1.t.root,s1.flex,s1.mixed,s1.fails,s1.below_,s1.above,s1.buckets)) _=_
    rw [k1',oB]
  ·right
   have hkl:k=s.all.length:=by omega
   subst hkl
   have hpos:s.all.length≠0:=by
    intro h;rw [List.length_eq_zero_iff] at h;rw [h] at hgs;simp at hgs
   refine ⟨_,⟨s,rfl,hp,hpr hpos,hgs⟩,?_⟩;simp only [AZ,tupW];rw [Wt (show ¬ (s.all.length:Int)<(s.all.length:Int) by omega),cF_]) FU (0,w) ⟨⟨hw,Nat.zero_le _,fun j q h=>by omega⟩,fun h=>absurd rfl h,hg⟩ (by rw [FUv];dsimp only;omega)
 exact ⟨w',e1,e3,e4,e5⟩
theorem SZ {w:Syntagmaref19World} (hp:ProcW t g w.all.length w) (hpr:Jy w 1000) (hg:toS g∈w.all) (hV:∀ q v l,Cl t g q->BlwP t q v l->0<=v/\v<1000):∀ q,Cl t g q->toS q∈w.all/\DoneW t w q:=by
 have hd:∀ q,toS q∈w.all->DoneW t w q:=by
  intro q hq
  obtain ⟨j,hj⟩:=List.getElem?_of_mem hq;exact hp.pr j _ (List.getElem?_eq_some_iff.1 hj).1 hj
 intro q hq
 induction hq with
 | goal=>exact ⟨hg,hd _ hg⟩
 | lead h hv hs ih =>
  have:=ih.2.led hv _ hs
  exact ⟨this,hd _ this⟩
 | cut h h' hb ha ih ih' =>
  obtain ⟨L,l1,l2⟩:=ih.2.bel _ _ hb;obtain ⟨M,m1,m2⟩:=ih'.2.abv _ _ ha
  have hv:=hV _ _ _ h hb
  have:=hpr _ L M (by omega) l1 m1 _ l2 _ m2
  exact ⟨this,hd _ this⟩
end
end Go.Proofs.YtcoghblhdjmbfaaGreat
namespace Go.Proofs.YtcoghblhdjmbfaaGreat
open Go.V
open Classical
def w0S (t:ATy):Syntagmaref19World:=⟨t,1000,[],List.replicate 997 [],List.replicate 1000 [],List.replicate 1000 [],false,false⟩
section
variable {t:ATy} {g:BSq}
theorem WP (t:ATy) (g:BSq):WInv t g 0 (w0S t):=by
 refine ⟨rfl,rfl,⟨List.length_replicate ..,?_,?_,?_,?_⟩,List.length_replicate ..,List.length_replicate ..,List.nodup_nil,fun q h=>(by cases h),?_,?_,fun h=>(by cases h),fun h=>(by cases h)⟩
 ·intro l hl;rw [List.eq_of_mem_replicate hl];exact Nat.zero_le _
 ·intro l hl i hi;rw [List.eq_of_mem_replicate hl] at hi;cases hi
 ·intro i q hq;exact absurd hq (by simp [w0S])
 ·intro q hq;cases hq
 ·intro v L hL
  have:=List.eq_of_mem_replicate (List.mem_of_getElem? (show (List.replicate 1000 ([]:List (List Int)))[v]? = some L from hL))
  subst this;exact ⟨Nat.le_refl _,fun l hl=>(by cases hl)⟩
 ·intro v L hL
  have:=List.eq_of_mem_replicate (List.mem_of_getElem? (show (List.replicate 1000 ([]:List (List Int)))[v]? = some L from hL))
  subst this;exact ⟨Nat.le_refl _,fun l hl=>(by cases hl)⟩
theorem Rz (x:Int):DJ [x]=some [x]:=by rw [HH (by simp),GV]
theorem V4 (hG:FinG t g):∀ q v l,Cl t g q->BlwP t q v l->0<=v/\v<1000:=by
 intro q v l hq hb
 obtain ⟨hne,h⟩:=hb.2.2.1
 have hin:=hG.inq q hq
 cases hc:nzL t q.right 2 with
 | nil=>exact absurd hc hne
 | cons x r =>
  have hx:=h x (by rw [hc];simp)
  have hm:x∈q.right:=(List.mem_filter.1 (show x∈nzL t q.right 2 by rw [hc];simp)).1
  have:=hG.ok.vno x (hin.2 x hm) hx.1
  rw [hx.2] at this;exact this
theorem TW {x y:Int} (hG:FinG t ⟨[x],[y]⟩):∃ w',B1 t [⟨[x],[y]⟩] 1000=some w'/\((w'.mixed=false/\w'.fails=false)↔MemA t ⟨[x],[y]⟩):=by
 obtain ⟨w1,e1,i1,x1,m1,b1,a1⟩:=Og hG (WP t ⟨[x],[y]⟩) (q:=⟨[x],[y]⟩) .goal;obtain ⟨w2,e2,i2,p2,m2⟩:=UI hG i1 (show toS ⟨[x],[y]⟩∈w1.all from m1)
 have l1:Bi [⟨[x],[y]⟩] FU (0,[],t.l,t.root,1000,false,false,List.replicate (1000:Int).toNat [],List.replicate (1000:Int).toNat [],List.replicate (997:Int).toNat [])=some (tupW w1):=by
  obtain ⟨o,f1,f2⟩:=A5 (φ:=fun n i (s:Syntagmaref19World)=>Bi [⟨[x],[y]⟩] n (i,tupW s)) (l:=[()]) (fun i s=>(i=0->s=w0S t)/\(i≠0->s=w1)) (fun o=>o=tupW w1)
   (by
    rintro n i u s hu hi ⟨h1,_⟩
    have hi0:i=0:=by simpa using hi
    subst hi0
    left
    refine ⟨w1,?_,fun h=>absurd h (by omega),fun _=>rfl⟩;rw [h1 rfl];simp only [Bi,tupW];rw [dT (show ((0:Nat):Int)<(([⟨[x],[y]⟩]:List RSeq).length:Int) by simp),cT,getI (show ([⟨[x],[y]⟩]:List RSeq)[0]? = some ⟨[x],[y]⟩ from rfl),oB,Rz,oB,oB,Rz,oB];rw [show Ax (⟨(⟨(w0S t).t.l,(w0S t).t.root⟩:ATy),(w0S t).flex,(w0S t).all,(w0S t).buckets,(w0S t).below_,(w0S t).above,(w0S t).mixed,(w0S t).fails⟩:Syntagmaref19World) (⟨[x],[y]⟩:RSeq)=_ from e1,oB,Ab (by constructor <;> omega)])
   (by
    rintro n s ⟨_,h2⟩;refine ⟨tupW s,?_,by rw [h2 (by simp)]⟩;simp only [Bi,tupW];rw [dF (by simp),cF_]) (by rw [FUv];simp) (w0S t) ⟨fun _=>rfl,fun h=>absurd rfl h⟩
  rw [f2] at f1;exact f1
 refine ⟨w2,?_,?_⟩
 ·unfold B1
  rw [Ab (by omega),Ab (by decide),Ab (by omega),Ab (by decide),Ab (by omega),Ab (by decide),l1,oB]
  show Option.bind (AZ 1000 FU (0,tupW w1)) _=_
  rw [e2,oB]
 ·have hall:=SZ i2 p2 m2 (V4 hG)
  constructor
  ·rintro ⟨hm,hf⟩ q hq
   have hd:=(hall q hq).2
   refine ⟨fun h=>(by rw [hd.mix h] at hm;cases hm),fun hv=>?_⟩
   cases hb:(AX t q).1 with
   | false=>rfl
   | true=>rw [hd.fai hv hb] at hf;cases hf
  ·intro h
   constructor
   ·cases hm:w2.mixed with
    | false=>rfl
    | true=>obtain ⟨q,q1,q2⟩:=i2.inv.mix hm;exact absurd q2 (h q q1).1
   ·cases hm:w2.fails with
    | false=>rfl
    | true =>
     obtain ⟨q,q1,q2,q3⟩:=i2.inv.fai hm
     have:=(h q q1).2 q2;rw [q3] at this;cases this
end
end Go.Proofs.YtcoghblhdjmbfaaGreat
namespace Go.Proofs.YtcoghblhdjmbfaaGreat
open Go.V
open Classical
theorem If {α:Type}:∀ (S U:List α),S.Nodup->(∀ s∈S,s∈U)->S.length<=U.length
 | [],U,_,_=>Nat.zero_le _
 | a::S,U,hn,h=>by
  classical
  obtain ⟨h1,h2⟩:=List.nodup_cons.1 hn
  have ha:a∈U:=h a (by simp)
  have:=If S (U.erase a) h2 (fun s hs=>(List.mem_erase_of_ne (fun e=>h1 (by rw [<- e];exact hs))).2 (h s (by simp [hs])))
  rw [List.length_erase_of_mem ha] at this
  have:=List.length_pos_of_mem ha
  simp only [List.length_cons]
  omega
def SrtQ (q:BSq):Prop:=q.left.Pairwise (· < ·)/\q.right.Pairwise (· < ·)
theorem Ur {t:ATy} {q s:BSq} (h:SrtQ q) (hs:s∈(AX t q).2):SrtQ s:=by
 unfold AX at hs
 split at hs
 ·cases hs
 ·split at hs
  ·rename_i l ho
   unfold openA at ho
   split at ho
   ·cases ho
    split at hs
    ·simp only [List.mem_cons,List.not_mem_nil,or_false] at hs
     subst hs;exact ⟨DT _,h.2⟩
    ·simp only [List.mem_cons,List.not_mem_nil,or_false] at hs
     rcases hs with rfl | rfl <;> exact ⟨DT _,h.2⟩
   ·split at ho
    ·cases ho
     split at hs
     ·simp only [List.mem_cons,List.not_mem_nil,or_false] at hs
      subst hs;exact ⟨h.1,DT _⟩
     ·simp only [List.mem_cons,List.not_mem_nil,or_false] at hs
      rcases hs with rfl | rfl <;> exact ⟨h.1,DT _⟩
    ·cases ho
  ·split at hs
   ·cases hs
   ·unfold EJ at hs
    split at hs
    ·cases hs
    ·unfold BB at hs
     split at hs
     ·cases hs
     ·split at hs
      ·simp only [List.mem_cons,List.not_mem_nil,or_false] at hs
       rcases hs with rfl | rfl <;> exact ⟨DT _,DT _⟩
      ·split at hs
       ·cases hs
       ·obtain ⟨n,_,rfl⟩:=List.mem_map.1 hs
        exact ⟨DT _,DT _⟩
    ·cases hs
theorem Cl.srt {t:ATy} {g q:BSq} (hg:SrtQ g) (h:Cl t g q):SrtQ q:=by
 induction h with
 | goal=>exact hg
 | lead _ _ hs ih=>exact Ur ih hs
 | cut _ _ hb ha ih ih'=>exact ⟨by rw [hb.2.1];exact ih.1.filter _,by rw [ha.2.1];exact ih'.2.filter _⟩
def subsL:List Int->List (List Int)
 | []=>[[]]
 | x::l=>subsL l++(subsL l).map (x :: ·)
theorem Hx:∀ l:List Int,(subsL l).length=2 ^ l.length
 | []=>rfl
 | x::l=>by simp only [subsL,List.length_append,List.length_map,Hx l,List.length_cons,Nat.pow_succ];omega
theorem NJ:∀ l:List Int,[]∈subsL l
 | []=>by simp [subsL]
 | x::l=>List.mem_append_left _ (NJ l)
theorem Gt:∀ (gl m:List Int),gl.Pairwise (· < ·)->m.Pairwise (· < ·)->(∀ x∈m,x∈gl)->m∈subsL gl
 | _,[],_,_,_=>NJ _
 | [],y::m,_,_,h=>absurd (h y (by simp)) (by simp)
 | x::gl,y::m,hg,hm,h=>by
  rw [List.pairwise_cons] at hg hm
  by_cases e:y=x
  ·subst e
   refine List.mem_append_right _ (List.mem_map.2 ⟨m,Gt gl m hg.2 hm.2 fun z hz=>?_,rfl⟩)
   rcases List.mem_cons.1 (h z (by simp [hz])) with e | h'
   ·have:=hm.1 z hz;omega
   ·exact h'
  ·have hy:y∈gl:=by
    rcases List.mem_cons.1 (h y (by simp)) with e' | h'
    ·exact absurd e' e
    ·exact h'
   refine List.mem_append_left _ (Gt gl (y::m) hg.2 (List.pairwise_cons.2 hm) fun z hz=>?_)
   rcases List.mem_cons.1 hz with rfl | hz'
   ·exact hy
   ·rcases List.mem_cons.1 (h z hz) with e' | h'
    ·have:=hm.1 z hz';have:=hg.1 y hy;omega
    ·exact h'
def candQ (gl pl:List Int):List RSeq:=
 ((subsL gl).flatMap fun l=>(subsL gl).map fun r=>⟨l,r⟩)++((pl.flatMap fun x=>(subsL gl).map fun r=>⟨[x],r⟩)++(pl.flatMap fun x=>(subsL gl).map fun l=>⟨l,[x]⟩))
theorem I2 {α β:Type} (f:α->List β) (n:Nat):∀ l:List α,(∀ x∈l,(f x).length=n)->(l.flatMap f).length=l.length*n
 | [],_=>by simp
 | x::l,h=>by
  rw [List.flatMap_cons,List.length_append,h x (by simp),I2 f n l fun y hy=>h y (by simp [hy]),List.length_cons,Nat.add_mul];omega
theorem TL (gl pl:List Int):(candQ gl pl).length=2 ^ gl.length*2 ^ gl.length+2*(pl.length*2 ^ gl.length):=by
 unfold candQ;rw [List.length_append,List.length_append,I2 _ (2 ^ gl.length) _ (fun x _=>by rw [List.length_map,Hx]),I2 _ (2 ^ gl.length) _ (fun x _=>by rw [List.length_map,Hx]),I2 _ (2 ^ gl.length) _ (fun x _=>by rw [List.length_map,Hx]),Hx]
 omega
theorem WF {t:ATy} {P M:Int->Prop} {gl:List Int} {x y:Int} (hG:PolG t P M (· ∈ gl)) (hO:OkT t) (hN:∀ n∈t.l,NB n) (ht:t.l.length<=1500) (hgl:gl.Pairwise (· < ·)) (hgn:gl.length<=6) (hg:Shp P M (· ∈ gl) ⟨[x],[y]⟩):FinG t ⟨[x],[y]⟩:=by
 have hs0:SrtQ ⟨[x],[y]⟩:=⟨List.pairwise_singleton _ _,List.pairwise_singleton _ _⟩
 have hlen:∀ l:List Int,l.Pairwise (· < ·)->(∀ i∈l,i∈gl)->l.length<=6:=fun l h1 h2=>Nat.le_trans (If l gl (h1.imp (fun h=>by omega)) h2) hgn
 have hI:∀ q,Cl t ⟨[x],[y]⟩ q->InQ t q:=fun q hq=>(hq.shp hG hg).inQ hG
 refine ⟨hO,hN,hI,fun q hq=>?_,fun l hl hq=>?_⟩
 ·have hs:=hq.srt hs0
  have hsh:=hq.shp hG hg
  have hin:=hI q hq
  have hll:q.left.length<=6/\q.right.length<=6:=by
   rcases hsh with ⟨h1,h2⟩ | ⟨z,_,h1,h2⟩ | ⟨h1,z,_,h2⟩
   ·exact ⟨hlen _ hs.1 h1,hlen _ hs.2 h2⟩
   ·exact ⟨by rw [h1];simp,hlen _ hs.2 h2⟩
   ·exact ⟨hlen _ hs.1 h1,by rw [h2];simp⟩
  refine ⟨by show q.left.length<=500;omega,by show q.right.length<=500;omega,fun i hi=>?_,fun i hi=>?_⟩
  ·obtain ⟨h0,h1⟩:=hin.1 i hi;omega
  ·obtain ⟨h0,h1⟩:=hin.2 i hi;omega
 ·have hsub:∀ q∈l,q∈candQ gl (rngI t.l.length):=by
   intro q hql
   have hc:=hq q hql
   have hs:=hc.srt hs0
   have hsh:=hc.shp hG hg
   have hin:=hI _ hc
   obtain ⟨ql,qr⟩:=q;unfold candQ
   rcases hsh with ⟨h1,h2⟩ | ⟨z,_,h1,h2⟩ | ⟨h1,z,_,h2⟩
   ·exact List.mem_append_left _ (List.mem_flatMap.2 ⟨ql,Gt _ _ hgl hs.1 h1,List.mem_map.2 ⟨qr,Gt _ _ hgl hs.2 h2,rfl⟩⟩)
   ·have h1':ql=[z]:=h1
    subst h1';refine List.mem_append_right _ (List.mem_append_left _ (List.mem_flatMap.2 ⟨z,mem_rngI.2 ?_,List.mem_map.2 ⟨qr,Gt _ _ hgl hs.2 h2,rfl⟩⟩));exact hin.1 z (by simp [toB])
   ·have h2':qr=[z]:=h2
    subst h2';refine List.mem_append_right _ (List.mem_append_right _ (List.mem_flatMap.2 ⟨z,mem_rngI.2 ?_,List.mem_map.2 ⟨ql,Gt _ _ hgl hs.1 h1,rfl⟩⟩));exact hin.2 z (by simp [toB])
  have h1:=If l _ hl hsub
  rw [TL] at h1
  have hr:(rngI t.l.length).length=t.l.length:=by simp [rngI]
  rw [hr] at h1
  have hp:2 ^ gl.length<=64:=by
   have:=Nat.pow_le_pow_right (show 0<2 by omega) hgn
   simpa using this
  have h2:2 ^ gl.length*2 ^ gl.length<=64*64:=Nat.mul_le_mul hp hp
  have h3:t.l.length*2 ^ gl.length<=1500*64:=Nat.mul_le_mul ht hp
  omega
end Go.Proofs.YtcoghblhdjmbfaaGreat
namespace Go.Proofs.YtcoghblhdjmbfaaGreat
open Go.V
open Classical
theorem Sw (a b:ATy) (ha:a.l.length<=4001) (hb:b.l.length<=2001) (hN:∀ n∈b.l,NB n) (hR:Es b.l):GM a b=some (CP a b,(a.l.length:Int)):=by
 unfold GM;rw [Ab (by omega),List.nil_append];rw [DK (φ:=fun n i s=>Ej a b n (i,a.root,s)) (l:=b.l) (AY (fun k=>k+(a.l.length:Int))) (fun s=>(a.root,s)) a.l.length ?_ ?_ (by rw [FUv];omega) a.l rfl]
 ·rfl
 ·intro n i x s hx hi hs
  have hr:=LH (hR x (List.mem_of_getElem? hx))
  have hNx:=hN x (List.mem_of_getElem? hx)
  unfold NB at hNx
  have key:DE a x.l FU (0,[])=some (x.l.map (fun y=>⟨y.name,y.at_+(a.l.length:Int)⟩)):=by
   rw [DK (φ:=fun n i s=>DE a x.l n (i,s)) (l:=x.l) (fun y=>(⟨y.name,y.at_+(a.l.length:Int)⟩:AFd)) id 0 ?_ ?_ (by rw [FUv];omega) [] rfl]
   ·rfl
   ·intro n i y s hy hi hs
    obtain ⟨y0,y1⟩:=hr.2 y (List.mem_of_getElem? hy);simp only [DE];rw [dT (show (i:Int)<x.l.length by omega),cT,getI hy,oB,oB,Ab (by omega),Ab (by simp only [List.length_cons,List.length_nil];omega),Ab (by omega)]
   ·intro n s hs
    simp only [DE];rw [dF (by omega),cF_];rfl
  simp only [Ej];rw [dT (show (i:Int)<b.l.length by omega),cT,getI hx,oB]
  change ((bif pB x.kind then _ else _:Option (Int×Int×Int×(List AFd))).bind _)=_
  unfold AY
  cases hp:pB x.kind with
  | true =>
   obtain ⟨⟨a0,a1⟩,b0,b1⟩:=hr.1 hp;rw [cT,Ab (by omega),Ab (by omega),oB]
   dsimp only
   rw [key,oB,Ab (by simp only [List.length_cons,List.length_nil];omega),Ab (by omega)]
   rfl
  | false =>
   rw [cF_,oB]
   dsimp only
   rw [key,oB,Ab (by simp only [List.length_cons,List.length_nil];omega),Ab (by omega)]
   rfl
 ·intro n s hs
  simp only [Ej];rw [dF (by omega),cF_]
end Go.Proofs.YtcoghblhdjmbfaaGreat
namespace Go.Proofs.YtcoghblhdjmbfaaGreat
open Go.V
open Classical
theorem W0 (w:Syntagmaref19World):∃ e,Bu w=some e/\(e=0↔(w.mixed=false/\w.fails=false)):=by
 unfold Bu
 cases w.mixed with
 | true=>exact ⟨14,rfl,by simp⟩
 | false=>cases w.fails with
  | true=>exact ⟨11,rfl,by simp⟩
  | false=>exact ⟨0,rfl,by simp⟩
theorem SL {w u:ATy} {P M:Int->Prop} {gl:List Int} (hw:w.l.length<=1400) (hu:u.l.length<=6) (hOu:Es u.l) (hNu:∀ n∈u.l,NB n) (hr:In u u.root)
  (hG:PolG (CP w u) P M (· ∈ gl)) (hO:OkT (CP w u)) (hN:∀ n∈(CP w u).l,NB n) (hln:(CP w u).l.length<=1500) (hgl:gl.Pairwise (· < ·)) (hgn:gl.length<=6)
  (hg:Shp P M (· ∈ gl) ⟨[w.root],[u.root+(w.l.length:Int)]⟩):AD w u=some (decide (MemA (CP w u) ⟨[w.root],[u.root+(w.l.length:Int)]⟩)):=by
 unfold AD;refine bnd (Sw w u (by omega) (by omega) hNu hOu) ?_;obtain ⟨h0,h1⟩:=hr;refine (Ab (p:=InR ((w.l.length:Int)+u.root)) (by constructor <;> omega)).trans ?_;rw [Int.add_comm (w.l.length:Int) u.root];obtain ⟨w',e,h⟩:=TW (WF hG hO hN hln hgl hgn hg);rw [show B1 (⟨(CP w u).l,(CP w u).root⟩:ATy) [(⟨[w.root],[(u.root+(w.l.length:Int))]⟩:RSeq)] 1000=_ from e,oB];obtain ⟨x,e2,h2⟩:=W0 w';rw [show Bu (⟨(⟨w'.t.l,w'.t.root⟩:ATy),w'.flex,w'.all,w'.buckets,w'.below_,w'.above,w'.mixed,w'.fails⟩:Syntagmaref19World)=_ from e2,oB];refine congrArg some ?_;exact decide_eq_decide.2 (h2.trans h)
end Go.Proofs.YtcoghblhdjmbfaaGreat
namespace Go.Proofs.YtcoghblhdjmbfaaGreat
open Go.V
open Classical
theorem Si {gl:List Int} (h:gl.Pairwise (· < ·)) (k:Int):(gl.map (fun i=>i+k)).Pairwise (· < ·):=by
 rw [List.pairwise_map];exact h.imp (fun h=>by omega)
theorem W8 {u:ATy} {gl:List Int} (hg:GU u gl):gl.length<=u.l.length:=by
 have:=If gl (rngI u.l.length) (hg.srt.imp (fun h=>by omega)) (fun i hi=>mem_rngI.2 (hg.kept.inn i hi))
 simpa [rngI] using this
theorem Uf {w u:ATy} (h:∀ n∈w.l,NB n) (k:∀ n∈u.l,NB n):∀ n∈(CP w u).l,NB n:=by
 intro n hn
 unfold CP at hn
 rcases List.mem_append.1 hn with hn | hn
 ·exact h n hn
 ·obtain ⟨m,hm,rfl⟩:=List.mem_map.1 hn
  have:=k m hm
  unfold NB AY at *
  simpa using this
theorem IM {a:AutoAuto} {u:ATy} {gl:List Int} (hM:NmA a) (hl:a.l.length<=10) (hP:PolA a.l) (h0:0<=a.start) (h1:a.start<(a.l.length:Int)) (hp:(stL a.l a.start).plus=true)
  (hu:MayO u) (hg:GU u gl) (hul:u.l.length<=6) :
  AD (typeW a) u=some (decide (∃ ρ,∀ p,SatS a.l ρ p a.start->Sat u p u.root)):=by
 have hR:=QW hM
 have hlen:=(Nq hM (by omega) h0 h1).2
 have hG:=Nw hP hR hu hg
 have e:=SL (w:=typeW a) (u:=u) (by omega) hul hu.ok.right hu.nb hu.root hG (PP hR.ok hu.ok) (Uf (Nq hM (by omega) h0 h1).1.nb hu.nb) (by rw [HC];omega) (Si hg.srt _) (by rw [List.length_map];exact Nat.le_trans (W8 hg) hul)
  (.inr (.inl ⟨_,I1 hR h0 h1 hp,rfl,fun i hi=>by rw [List.mem_singleton.1 hi];exact N2 hg _⟩))
 rw [e];refine congrArg some (decide_eq_decide.2 ?_);exact TP hP hR h0 h1 hp rfl hu hg
end Go.Proofs.YtcoghblhdjmbfaaGreat
namespace Go.Proofs.YtcoghblhdjmbfaaGreat
open Go.V
open Classical
theorem Bis.symm {a b:List AutoState} {R:Int->Int->Prop} (h:Bis a b R):Bis b a (fun j i=>R i j):=by
 refine ⟨fun j i hR=>?_,fun j i hR ha=>?_,fun j i hR ha=>?_,fun j i hR ha s=>?_,fun j i hR ha s=>?_⟩
 ·obtain ⟨h1,h2,h3,h4,h5,h6,h7,h8⟩:=h.flags i j hR
  exact ⟨h1.symm,h2.symm,h3.symm,h4.symm,h5.symm,h6.symm,h7.symm,h8.symm⟩
 ·have f:=h.flags i j hR
  have d:=h.dom i j hR (by rw [f.2.2.2.2.2.1];exact ha)
  exact ⟨d.1,by rw [<- (h.flags _ _ d.1).1,d.2,f.1]⟩
 ·have f:=h.flags i j hR
  have d:=h.cod i j hR (by rw [f.2.2.2.2.2.1];exact ha)
  exact ⟨d.1,by rw [<- (h.flags _ _ d.1).1,d.2,f.1]⟩
 ·have f:=h.flags i j hR
  rcases h.fld i j hR (by rw [f.2.2.2.2.2.2.1];exact ha) s with ⟨h1,h2⟩ | ⟨x,y,h1,h2,h3,h4⟩
  ·exact .inl ⟨h2,h1⟩
  ·exact .inr ⟨y,x,h2,h1,h3,by rw [<- (h.flags _ _ h3).1,h4,f.1]⟩
 ·have f:=h.flags i j hR
  rcases h.tgs i j hR (by rw [f.2.2.2.2.2.2.2];exact ha) s with ⟨h1,h2⟩ | ⟨x,y,h1,h2,h3,h4⟩
  ·exact .inl ⟨h2,h1⟩
  ·exact .inr ⟨y,x,h2,h1,h3,by rw [<- (h.flags _ _ h3).1,h4,f.1]⟩
def RngR (c:List AutoState) (i j:Int):Prop:=i=j/\0<=i/\i<(c.length:Int)
theorem Gg {c:List AutoState} {i:Int} (h0:0<=i) (h1:i<(c.length:Int)):c[i.toNat]? = some (stL c i)/\stL c i∈c:=by
 have hlt:i.toNat<c.length:=by omega
 have e:c[i.toNat]? = some (stL c i):=by unfold stL;rw [List.getElem?_eq_getElem hlt];rfl
 exact ⟨e,List.mem_of_getElem? e⟩
theorem D3 {c:List AutoState} {g:AutoState->AutoState} {i:Int} (h0:0<=i) (h1:i<(c.length:Int)):stL (c.map g) i=g (stL c i):=by
 unfold stL;rw [List.getElem?_map,(Gg h0 h1).1];rfl
theorem Lm {l:List AutoEdge} {s:List UInt8} {k:Int} (h:atE l s=some k):∃ e∈l,e.to_=k:=by
 unfold atE at h
 cases hq:l.find? fun e=>decide (e.name=s) with
 | none=>rw [hq] at h;cases h
 | some e=>rw [hq] at h;exact ⟨e,List.mem_of_find?_eq_some hq,by simpa using h⟩
theorem JZ {c:List AutoState} (hP:PolA c) (f:Int->Option Int):Bis c (c.map (stW f)) (RngR c):=by
 refine ⟨?_,?_,?_,?_,?_⟩
 ·rintro i _ ⟨rfl,h0,h1⟩
  rw [D3 h0 h1];exact ⟨rfl,rfl,rfl,rfl,rfl,rfl,rfl,rfl⟩
 ·rintro i _ ⟨rfl,h0,h1⟩ ha
  obtain ⟨⟨a1,a2,a3⟩,_⟩:=hP.arrow i h0 h1 ha;rw [D3 h0 h1];exact ⟨⟨rfl,a1,a2⟩,a3⟩
 ·rintro i _ ⟨rfl,h0,h1⟩ ha
  obtain ⟨_,⟨a1,a2,a3⟩⟩:=hP.arrow i h0 h1 ha;rw [D3 h0 h1];exact ⟨⟨rfl,a1,a2⟩,a3⟩
 ·rintro i _ ⟨rfl,h0,h1⟩ ha s
  rw [D3 h0 h1]
  show relO _ (atE (stL c i).fields s) (atE (stL c i).fields s)
  cases hq:atE (stL c i).fields s with
  | none=>exact .inl ⟨rfl,rfl⟩
  | some k =>
   obtain ⟨e,he,rfl⟩:=Lm hq;obtain ⟨a1,a2,a3⟩:=hP.edge i h0 h1 e (.inl ⟨he,ha⟩);exact .inr ⟨_,_,rfl,rfl,⟨rfl,a1,a2⟩,a3⟩
 ·rintro i _ ⟨rfl,h0,h1⟩ ha s
  rw [D3 h0 h1]
  show relO _ (atE (stL c i).tags s) (atE (stL c i).tags s)
  cases hq:atE (stL c i).tags s with
  | none=>exact .inl ⟨rfl,rfl⟩
  | some k =>
   obtain ⟨e,he,rfl⟩:=Lm hq;obtain ⟨a1,a2,a3⟩:=hP.edge i h0 h1 e (.inr ⟨he,ha⟩);exact .inr ⟨_,_,rfl,rfl,⟨rfl,a1,a2⟩,a3⟩
theorem stW_vars {f:Int->Option Int} {s:AutoState} {z:Int}:z∈(stW f s).vars↔∃ v∈s.vars,f v=some z:=by
 show z∈setC (s.vars.filterMap f)↔_
 rw [(E9 _).2,List.mem_filterMap]
def ExR (a:List AutoState) (i:Int) (D:Pt->Prop):Prop:=∃ ρ,∀ p,SatS a ρ p i->D p
theorem Vs {c:List AutoState} (hP:PolA c) {f:Int->Option Int} {ρ ρ':Pt->Int->Prop} {i:Int} (h0:0<=i) (h1:i<(c.length:Int)) (hp:(stL c i).plus=true)
  (hplus:∀ s∈c,s.plus=true->∀ v∈s.vars,∀ p,ρ p v->∃ z,f v=some z/\ρ' p z) (hminus:∀ s∈c,s.plus=false->∀ v∈s.vars,∀ p,(∀ z,f v=some z->ρ' p z)->ρ p v) :
  ∀ p,SatS c ρ p i->SatS (c.map (stW f)) ρ' p i:=by
 intro p
 refine (KB (JZ hP f) (ρ:=ρ) (ρ':=ρ') ?_ ?_ p i i ⟨rfl,h0,h1⟩).1 hp
 ·rintro i _ p ⟨rfl,h0,h1⟩ hpl ⟨v,hv,hr⟩
  obtain ⟨z,hz,hz'⟩:=hplus _ (Gg h0 h1).2 hpl v hv p hr;exact .inl ⟨z,by rw [D3 h0 h1];exact stW_vars.2 ⟨v,hv,hz⟩,hz'⟩
 ·rintro i _ p ⟨rfl,h0,h1⟩ hpl hall _ v hv
  refine hminus _ (Gg h0 h1).2 hpl v hv p fun z hz=>hall z ?_;rw [D3 h0 h1];exact stW_vars.2 ⟨v,hv,hz⟩
theorem Vd {c:List AutoState} (hP:PolA c) {f:Int->Option Int} {ρ ρ':Pt->Int->Prop} {i:Int} (h0:0<=i) (h1:i<(c.length:Int)) (hp:(stL c i).plus=true)
  (hplus:∀ s∈c,s.plus=true->∀ v∈s.vars,∀ z,f v=some z->∀ p,ρ' p z->ρ p v) (hminus:∀ s∈c,s.plus=false->∀ v∈s.vars,∀ z,f v=some z->∀ p,ρ p v->ρ' p z) :
  ∀ p,SatS (c.map (stW f)) ρ' p i->SatS c ρ p i:=by
 intro p
 refine (KB (JZ hP f).symm (ρ:=ρ') (ρ':=ρ) ?_ ?_ p i i ⟨rfl,h0,h1⟩).1 (by rw [D3 h0 h1];exact hp)
 ·rintro i _ p ⟨rfl,h0,h1⟩ hpl ⟨z,hz,hr⟩
  rw [D3 h0 h1] at hz hpl;obtain ⟨v,hv,hf⟩:=stW_vars.1 hz;exact .inl ⟨v,hv,hplus _ (Gg h0 h1).2 hpl v hv z hf p hr⟩
 ·rintro i _ p ⟨rfl,h0,h1⟩ hpl hall _ z hz
  rw [D3 h0 h1] at hz hpl;obtain ⟨v,hv,hf⟩:=stW_vars.1 hz;exact hminus _ (Gg h0 h1).2 hpl v hv z hf p (hall v hv)
end Go.Proofs.YtcoghblhdjmbfaaGreat
namespace Go.Proofs.YtcoghblhdjmbfaaGreat
open Go.V
open Classical
theorem Kf {a:AutoAuto} {k:Int} (h0:0<=k) (h1:k<(a.l.length:Int)):stL a.l k=stA a k:=by
 have e:=(Gg h0 h1).1
 unfold stA idx;rw [if_pos h0,e];rfl
theorem Rh {l:List AutoEdge} {to:List Int} {s:List UInt8}:atE (l.map (edgeM to)) s=(atE l s).map (tm to):=by
 induction l with
 | nil=>rfl
 | cons e r ih =>
  unfold atE at ih ⊢;rw [List.map_cons,List.find?_cons,List.find?_cons]
  show Option.map _ (match decide (e.name=s) with | true=>_ | false=>_)=_
  cases decide (e.name=s) with
  | true=>rfl
  | false=>exact ih
theorem Ua {a:AutoAuto} (ha:Led a) (hP:PolA a.l):Bis a.l (normP a).l (fun i j=>i∈AH a/\j=tm (toP a) i):=by
 have hin:∀ i,i∈AH a->0<=i/\i<(a.l.length:Int):=fun i hi=>(Cq ha).2.1 i hi
 have hst:∀ i,i∈AH a->stL (normP a).l (tm (toP a) i)=C2 (toP a) (stL a.l i):=by
  intro i hi
  have h:=RW ha hi
  rw [Kf h.1 (by rw [F4 ha];exact h.2),OA ha hi,Kf (hin i hi).1 (hin i hi).2]
 have hnx:∀ i,i∈AH a->∀ y∈nextP (stL a.l i),y∈AH a:=by
  intro i hi y hy
  rw [Kf (hin i hi).1 (hin i hi).2] at hy;exact Kj ha hi hy
 refine ⟨?_,?_,?_,?_,?_⟩
 ·rintro i _ ⟨hi,rfl⟩
  rw [hst i hi];exact ⟨rfl,rfl,rfl,rfl,rfl,rfl,rfl,rfl⟩
 ·rintro i _ ⟨hi,rfl⟩ har
  obtain ⟨⟨a1,a2,a3⟩,_⟩:=hP.arrow i (hin i hi).1 (hin i hi).2 har;refine ⟨⟨hnx i hi _ (by unfold nextP;rw [har];simp),?_⟩,a3⟩;rw [hst i hi];simp only [C2,har,if_true]
 ·rintro i _ ⟨hi,rfl⟩ har
  obtain ⟨_,⟨a1,a2,a3⟩⟩:=hP.arrow i (hin i hi).1 (hin i hi).2 har;refine ⟨⟨hnx i hi _ (by unfold nextP;rw [har];simp),?_⟩,a3⟩;rw [hst i hi];simp only [C2,har,if_true]
 ·rintro i _ ⟨hi,rfl⟩ har s
  rw [hst i hi]
  show relO _ (atE (stL a.l i).fields s) (atE ((stL a.l i).fields.map (edgeM (toP a))) s)
  rw [Rh]
  cases hq:atE (stL a.l i).fields s with
  | none=>exact .inl ⟨rfl,rfl⟩
  | some k =>
   obtain ⟨e,he,rfl⟩:=Lm hq;obtain ⟨a1,a2,a3⟩:=hP.edge i (hin i hi).1 (hin i hi).2 e (.inl ⟨he,har⟩);exact .inr ⟨_,_,rfl,rfl,⟨hnx i hi _ (by unfold nextP;simp only [List.mem_append,List.mem_map];exact .inl (.inr ⟨e,he,rfl⟩)),rfl⟩,a3⟩
 ·rintro i _ ⟨hi,rfl⟩ har s
  rw [hst i hi]
  show relO _ (atE (stL a.l i).tags s) (atE ((stL a.l i).tags.map (edgeM (toP a))) s)
  rw [Rh]
  cases hq:atE (stL a.l i).tags s with
  | none=>exact .inl ⟨rfl,rfl⟩
  | some k =>
   obtain ⟨e,he,rfl⟩:=Lm hq;obtain ⟨a1,a2,a3⟩:=hP.edge i (hin i hi).1 (hin i hi).2 e (.inr ⟨he,har⟩);exact .inr ⟨_,_,rfl,rfl,⟨hnx i hi _ (by unfold nextP;simp only [List.mem_append,List.mem_map];exact .inr ⟨e,he,rfl⟩),rfl⟩,a3⟩
theorem V1 {a:AutoAuto} (ha:Led a) (hP:PolA a.l) (hp:(stL a.l a.start).plus=true) (D:Pt->Prop):ExR (normP a).l 0 D↔ExR a.l a.start D:=by
 have hB:=Ua ha hP
 have hs:a.start∈AH a:=KD ha
 have h00:tm (toP a) a.start=0:=by
  obtain ⟨e,he⟩:=(Cq ha).2.2.1;exact OR ha (j:=0) (by rw [he];rfl)
 have hR:a.start∈AH a/\(0:Int)=tm (toP a) a.start:=⟨hs,h00.symm⟩
 have hf:=hB.flags _ _ hR
 have hvars:∀ i j,(i∈AH a/\j=tm (toP a) i)->(stL (normP a).l j).vars=(stL a.l i).vars:=by
  rintro i _ ⟨hi,rfl⟩
  have h:=RW ha hi
  have hin:=(Cq ha).2.1 i hi
  rw [Kf h.1 (by rw [F4 ha];exact h.2),OA ha hi,Kf hin.1 hin.2];rfl
 constructor
 ·rintro ⟨ρ,h⟩
  refine ⟨ρ,fun p hp'=>h p ?_⟩;refine (KB hB (ρ:=ρ) (ρ':=ρ) ?_ ?_ p a.start 0 hR).1 hp hp'
  ·rintro i j p hr hpl ⟨v,hv,hx⟩
   exact .inl ⟨v,by rw [hvars i j hr];exact hv,hx⟩
  ·intro i j p hr hpl hall _ v hv
   exact hall v (by rw [hvars i j hr];exact hv)
 ·rintro ⟨ρ,h⟩
  refine ⟨ρ,fun p hp'=>h p ?_⟩;refine (KB hB.symm (ρ:=ρ) (ρ':=ρ) ?_ ?_ p 0 a.start hR).1 (by rw [<- hf.1];exact hp) hp'
  ·rintro j i p hr hpl ⟨v,hv,hx⟩
   exact .inl ⟨v,by rw [<- hvars i j hr];exact hv,hx⟩
  ·intro j i p hr hpl hall _ v hv
   exact hall v (by rw [<- hvars i j hr];exact hv)
end Go.Proofs.YtcoghblhdjmbfaaGreat
namespace Go.Proofs.YtcoghblhdjmbfaaGreat
open Go.V
open Classical
theorem L6 {l:List AutoEdge} {k:Int} {isN:List UInt8->Bool} (h:HO isN l) (hk:(k=7/\isN=nameP)\/(k=8/\isN=tagP)):FF ⟨k,0,0,edF l⟩:=by
 intro i x hx
 have hx':(edF l)[i]? = some x:=hx
 unfold edF at hx';rw [List.getElem?_map] at hx'
 cases hq:l[i]? with
 | none=>rw [hq] at hx';cases hx'
 | some e =>
  rw [hq] at hx'
  cases hx'
  obtain ⟨h1,h2⟩:=h.1 i e hq;refine ⟨?_,fun h0 y hy=>?_⟩
  ·unfold badF
   rcases hk with ⟨rfl,rfl⟩ | ⟨rfl,rfl⟩ <;> simp [h1]
  ·have hy':(edF l)[i - 1]? = some y:=hy
   unfold edF at hy';rw [List.getElem?_map] at hy'
   cases hq2:l[i - 1]? with
   | none=>rw [hq2] at hy';cases hy'
   | some e2 =>
    rw [hq2] at hy'
    cases hy'
    exact h2 h0 e2 hq2
theorem G3 {a:AutoAuto} {k:Int} {p:Bool} (h:onP a k p=true):0<=k/\k<(a.l.length:Int)/\(stL a.l k).plus=p:=by
 unfold onP at h
 cases hq:idx a.l k with
 | none=>rw [hq] at h;cases h
 | some s =>
  rw [hq] at h;obtain ⟨h0,h1⟩:=Ar hq
  have hlt:=(List.getElem?_eq_some_iff.1 h1).1
  refine ⟨h0,by omega,?_⟩
  have:stL a.l k=s:=by unfold stL;rw [h1];rfl
  rw [this];simpa using h
theorem Ku {a:AutoAuto} {s:AutoState} (h:leadP a s) {x:Int} (hx:x∈s.fields.map (·.to_)++s.tags.map (·.to_)):onP a x s.plus=true:=by
 by_cases ha:s.arrow=true
 ·exact ((G2 a s ha).1 h).2.2 x hx
 ·have ha':s.arrow=false:=by simpa using ha
  obtain ⟨i,hi⟩:=List.getElem?_of_mem hx
  have:=h i x (by unfold nextP;rw [if_neg ha];simpa using hi)
  unfold sideP at this;rw [ha'] at this
  simpa using this
theorem IY {a:AutoAuto} (hm:mayP a=0):PolA a.l:=by
 obtain ⟨_,_,hr,_⟩:=FN hm;refine ⟨fun i h0 h1 ha=>?_,fun i h0 h1 e he=>?_⟩
 ·have h:=(hr _ (Gg h0 h1).2).2.2.2.2
  obtain ⟨d1,d2,_⟩:=(G2 a _ ha).1 h;exact ⟨G3 d1,G3 d2⟩
 ·have h:=(hr _ (Gg h0 h1).2).2.2.2.2
  refine G3 (Ku h ?_);rw [List.mem_append,List.mem_map,List.mem_map]
  rcases he with ⟨he,_⟩ | ⟨he,_⟩
  ·exact .inl ⟨e,he,rfl⟩
  ·exact .inr ⟨e,he,rfl⟩
theorem QD {a:AutoAuto} (hab:AB a) (hm:mayP a=0) (hl:a.l.length<=30):NmA a:=by
 obtain ⟨_,_,hr,_⟩:=FN hm;refine ⟨hl,fun s hs=>⟨(hab.2 s hs).1,fun v hv=>?_⟩,fun s hs=>⟨(hr s hs).2.2.1.2,L6 (hr s hs).2.2.1 (.inl ⟨rfl,rfl⟩)⟩,fun s hs=>⟨(hr s hs).2.2.2.1.2,L6 (hr s hs).2.2.2.1 (.inr ⟨rfl,rfl⟩)⟩,fun s hs=>⟨fun ha=>?_,fun _ e he=>?_,fun _ e he=>?_⟩⟩
 ·obtain ⟨i,hi⟩:=List.getElem?_of_mem hv
  have:=(hr s hs).2.1 i v hi
  exact ⟨this.1,this.2.1⟩
 ·obtain ⟨d1,d2,_⟩:=(G2 a s ha).1 (hr s hs).2.2.2.2
  exact ⟨⟨(G3 d1).1,(G3 d1).2.1⟩,(G3 d2).1,(G3 d2).2.1⟩
 ·have:=G3 (Ku (hr s hs).2.2.2.2 (x:=e.to_) (by rw [List.mem_append,List.mem_map];exact .inl ⟨e,he,rfl⟩))
  exact ⟨this.1,this.2.1⟩
 ·have:=G3 (Ku (hr s hs).2.2.2.2 (x:=e.to_) (by rw [List.mem_append,List.mem_map,List.mem_map];exact .inr ⟨e,he,rfl⟩))
  exact ⟨this.1,this.2.1⟩
end Go.Proofs.YtcoghblhdjmbfaaGreat
namespace Go.Proofs.YtcoghblhdjmbfaaGreat
open Go.V
open Classical
def fewN (n:ANd):ANd:=⟨n.kind,n.a,n.b,[]++n.l.take 40⟩
def fewC (m:Nat) (l:List ANd):Nat:=if 2000<l.length then 2001 else m
def fewT (m:Nat) (t:ATy):ATy:=⟨(t.l.take (fewC m t.l)).map fewN,t.root⟩
theorem min40 (l:List AFd):sli l 0 (if 40<(l.length:Int) then 40 else (l.length:Int))=some (l.take 40):=by
 by_cases h:40<(l.length:Int)
 ·rw [if_pos h];exact GQ (k:=40) (by omega)
 ·rw [if_neg h,GQ (by omega),List.take_of_length_le (by omega),List.take_of_length_le (by omega)]
theorem W2 (t:ATy) (m:Nat) (M:Int) (hM:M=m) (hm:m<=2000):Hz t M=some (fewT m t):=by
 subst hM;unfold Hz fewT
 have hC:fewC m t.l=2001/\2000<t.l.length\/fewC m t.l=m/\¬ 2000<t.l.length:=by unfold fewC;split <;> simp_all
 have hL:(t.l.take (fewC m t.l)).length<=2001/\(t.l.take (fewC m t.l)).length<=t.l.length/\(t.l.take (fewC m t.l)).length<=fewC m t.l:=by rw [List.length_take];omega
 rw [DK (φ:=fun n i s=>Fb t (m:Int) n (i,s,t.root)) (l:=t.l.take (fewC m t.l)) fewN (fun s=>(s,t.root)) 0 ?_ ?_ (by rw [FUv];omega) [] rfl]
 ·rfl
 ·intro n i x s hx hi hs
  have hx2:t.l[i]? = some x:=by
   rw [List.getElem?_take,if_pos (by omega)] at hx;exact hx
  have h40:(x.l.take 40).length<=40:=by rw [List.length_take];omega
  simp only [Fb];rw [dT (show (i:Int)<t.l.length by omega),Bool.true_and,show (decide ((i:Int)<(m:Int))||(decide (2000<(t.l.length:Int))&&decide ((i:Int)<=2000)))=true by
   rw [Bool.or_eq_true,Bool.and_eq_true,decide_eq_true_eq,decide_eq_true_eq,decide_eq_true_eq];omega,cT,getI hx2,oB,min40,oB,Ab (by omega),Ab (by simp only [List.length_cons,List.length_nil];omega),Ab (by omega)]
  rfl
 ·intro n s hs
  simp only [Fb];rw [show (decide (((t.l.take (fewC m t.l)).length:Int)<t.l.length)&&(decide (((t.l.take (fewC m t.l)).length:Int)<(m:Int))||(decide (2000<(t.l.length:Int))&&decide (((t.l.take (fewC m t.l)).length:Int)<=2000))))=false by
   rw [List.length_take,Bool.and_eq_false_iff,Bool.or_eq_false_iff,Bool.and_eq_false_iff,decide_eq_false_iff_not,decide_eq_false_iff_not,decide_eq_false_iff_not,decide_eq_false_iff_not];omega,cF_]
theorem UW (m:Nat) (hm:m<=2000) (t:ATy):(fewT m t).l.length<=2001:=by unfold fewT fewC;simp only [List.length_map,List.length_take];split <;> omega
theorem Vv (n:ANd):NB (fewN n):=by unfold fewN NB;simp;omega
theorem Rt (m:Nat) (t:ATy):∀ n∈(fewT m t).l,NB n:=by
 intro n hn
 obtain ⟨k,_,rfl⟩:=List.mem_map.1 hn;exact Vv k
theorem Q2 (m:Nat) (t:ATy) (h:(fewT m t).l.length<=2000):(fewT m t).l.length<=m:=by
 unfold fewT fewC at h ⊢;simp only [List.length_map,List.length_take] at h ⊢
 split at h <;> split <;> omega
theorem OF (n:ANd) (h:NB n):D7 n=some (kidsL n):=by
 unfold D7 kidsL EG EN;unfold NB at h;rw [oB,oB]
 change (bif pB n.kind then _ else bif wB n.kind then _ else _)=_
 cases pB n.kind
 ·cases wB n.kind
  ·rfl
  ·rw [cF_,cT,cF_,cT,DK (φ:=fun k i s=>C8 n k (i,s)) (l:=n.l) (·.at_) id 0 ?_ ?_ (by rw [FUv];omega) [] rfl]
   ·rfl
   ·intro k i x s hx hi hs
    simp only [C8];rw [dT (show (i:Int)<n.l.length by omega),cT,getI hx,oB,Ab (by simp only [List.length_cons,List.length_nil];omega),Ab (by omega)]
   ·intro k s hs
    simp only [C8];rw [dF (by omega),cF_];rfl
 ·rfl
theorem Kw (n:ANd) (h:NB n):(kidsL n).length<=40:=by
 unfold kidsL;unfold NB at h
 cases pB n.kind
 ·cases wB n.kind
  ·simp
  ·simpa using h
 ·simp
theorem S4 (n:ANd) (h:NB n):EX n=some (decide (FF n)&&decide ((n.l.length:Int)<=30)):=by
 unfold EX;unfold NB at h;rw [II (φ:=Cv n) (l:=n.l) false (okF n) ?_ ?_ (by rw [FUv];omega),oB]
 ·by_cases hp:FF n
  ·rw [if_pos (show ∀ i x,n.l[i]? = some x->okF n i x from hp),dT hp];rfl
  ·rw [if_neg (show ¬ ∀ i x,n.l[i]? = some x->okF n i x from hp),dF hp];rfl
 ·intro k i x hx hi
  simp only [Cv]
  have e1:((bif (decide (n.kind=7)) then ((Eu x.name).bind fun x3=>some (!x3)) else (some false)).bind fun p1 =>
   (bif p1 then (some true) else ((bif (decide (n.kind=8)) then ((E6 x.name).bind fun x4=>some (!x4)) else (some false)).bind fun p3=>some p3)))=some (badF n x):=by
   rw [RK,T6,oB,oB,bf,oB,bf,oB,bt];rfl
  rw [dT (show (i:Int)<n.l.length by omega),cT,getI hx,oB,<- Option.bind_assoc,e1,oB];unfold okF
  cases hb:badF n x
  ·rw [cF_]
   by_cases h0:0<i
   ·have hy:n.l[i - 1]? = some n.l[i - 1]:=List.getElem?_eq_getElem (by omega)
    rw [dT (show (0:Int)<(i:Int) by omega),cT,Ab (by omega),show ((i:Int) - 1)=((i - 1:Nat):Int) by omega,getI hy,oB]
    constructor
    ·rintro ⟨_,h2⟩
     rw [h2 h0 _ hy,Bool.not_true,cF_,Ab (by omega)]
    ·intro h2
     cases hl:Op.bytesLess (n.l[i - 1]).name x.name
     ·rfl
     ·exact absurd ⟨rfl,fun _ y hy2=>by rw [hy] at hy2;cases hy2;exact hl⟩ h2
   ·rw [dF (show ¬ (0:Int)<(i:Int) by omega),cF_]
    exact ⟨fun _=>by rw [Ab (by omega)],fun h2=>absurd ⟨rfl,fun h3=>absurd h3 h0⟩ h2⟩
  ·rw [cT]
   exact ⟨fun h2=>by simp at h2,fun _=>rfl⟩
 ·intro k
  simp only [Cv];rw [dF (by omega),cF_]
theorem Qk (l:List Int) (all:Int) (h:l.length<=1000):JW l (fun y0=>C7 y0 all)=some (decide (∃ k∈l,inB all k=true)):=by
 unfold JW PX;rw [Fi (φ:=Fm l (fun y0=>C7 y0 all)) (l:=l) (fun i=>(i:Int)) (inB all) ?_ ?_ (by rw [FUv];omega)]
 ·rw [oB]
  cases hf:l.findIdx? (inB all) with
  | none =>
   have:¬ ∃ k∈l,inB all k=true:=by
    rintro ⟨c,hc,hne⟩
    have:=List.findIdx?_eq_none_iff.1 hf c hc
    rw [hne] at this;cases this
   rw [dF this];rfl
  | some i =>
   obtain ⟨hi,h1,_⟩:=List.findIdx?_eq_some_iff_getElem.1 hf
   have:∃ k∈l,inB all k=true:=⟨l[i],List.getElem_mem hi,h1⟩
   rw [dT this]
   show some (decide (0<=(i:Int)))=some true
   rw [dT (by omega)]
 ·intro n i x hx hi
  simp only [Fm];rw [dT (show (i:Int)<l.length by omega),cT,getI hx,oB,show C7 x all=some (inB all x) from rfl,oB];exact ⟨fun hq=>by rw [hq,cF_,Ab (by omega)],fun hq=>by rw [hq,cT]⟩
 ·intro n
  simp only [Fm];rw [dF (by omega),cF_]
theorem S6 (n:ANd) (all:Int) (h:NB n):EZ n all=some (B9 n all):=by
 unfold EZ B9;rw [show EG n.kind=some (pB n.kind) from rfl,show EN n.kind=some (wB n.kind) from rfl,oB,oB,S4 n h,OF n h,oB,oB,Qk _ _ (by have:=Kw n h;omega),oB]
 cases (decide (n.kind<1)||decide (11<n.kind))
 ·cases ((!pB n.kind)&&((!decide (n.b=0))||((!decide (n.kind=11))&&(!decide (n.a=0)))))
  ·cases (decide (n.kind=11)&&(decide (n.a<0)||decide (999<n.a)))
   ·cases ((!wB n.kind)&&decide (0<(n.l.length:Int)))
    ·cases (decide (FF n)&&decide ((n.l.length:Int)<=30)) <;> rfl
    ·rfl
   ·rfl
  ·rfl
 ·rfl
theorem Rw {L:List ANd} {i:Nat} {n:ANd} (hi:L[i]? = some n) (h:latB n.kind=true->Ends L n.a.toNat/\Ends L n.b.toNat):Ends L i:=by
 cases hl:latB n.kind with
 | false=>exact ⟨1,by simp [endk,hi,hl]⟩
 | true =>
  obtain ⟨⟨k1,h1⟩,⟨k2,h2⟩⟩:=h hl;exact ⟨max k1 k2+1,by simp [endk,hi,hl,Gu (Nat.le_max_left k1 k2) h1,Gu (Nat.le_max_right k1 k2) h2]⟩
def ColOk (z:List Int):Prop:=∀ c∈z,c=0\/c=1\/c=2
theorem Mg {z:List Int} {i:Nat} {c d:Int} (h:z[i]? = some c):(z.set i d).count 0+(if c=0 then 1 else 0)=z.count 0+(if d=0 then 1 else 0):=by
 have hi:=(List.getElem?_eq_some_iff.1 h).1
 have h2:=(List.getElem?_eq_some_iff.1 h).2
 have hc:c=0->0<z.count 0:=fun e=>List.count_pos_iff.2 (by rw [<- e];exact List.mem_of_getElem? h)
 rw [List.count_set hi,h2]
 by_cases h0:c=0
 ·have:=hc h0
  subst h0
  simp
  split <;> omega
 ·rw [if_neg h0]
  have:(c == 0)=false:=by simp [h0]
  rw [this]
  simp
theorem Nk {z:List Int} {i:Nat} {d:Int} (h:ColOk z) (hd:d=0\/d=1\/d=2):ColOk (z.set i d):=by
 intro c hc
 rcases List.mem_or_eq_of_mem_set hc with h2 | h2
 ·exact h c h2
 ·rw [h2];exact hd
theorem Q5 {L:List ANd} {k m i:Nat} (hkm:k<=m) (h:endk L m i=false):endk L k i=false:=by
 cases hq:endk L k i with
 | false=>rfl
 | true=>rw [Gu hkm hq] at h;cases h
structure WalkOk (L:List ANd) (i:Nat) (z:List Int) (b:Bool) (z':List Int):Prop where
 len:z'.length=L.length
 col:ColOk z'
 wh:z'.count 0<=z.count 0
 yes:b=true->Ends L i/\(∀ j:Nat,z'[j]? = some 2->Ends L j)/\∀ j:Nat,z'[j]? = some 1↔z[j]? = some 1
 no:b=false->∀ m,endk L m i=true->(∀ j:Nat,z[j]? = some 1->endk L m j=false)->False
theorem Ru {t:ATy} (hR:InL t.l) (hN:∀ n∈t.l,NB n) (hlen:t.l.length<=2001):∀ (n:Nat) (i:Nat) (z:List Int),i<t.l.length->z.length=t.l.length->ColOk z->z.count 0<n->(∀ j:Nat,z[j]? = some 2->Ends t.l j) ->
  ∃ b z',Bm t n (i:Int) z=some (b,z')/\WalkOk t.l i z b z'
 | 0,i,z,_,_,_,h,_=>by omega
 | n+1,i,z,hi,hz,hc,hw,hb=>by
  have hx:t.l[i]? = some t.l[i]:=List.getElem?_eq_getElem hi
  have hy:z[i]? = some (z[i]'(by omega)):=List.getElem?_eq_getElem (by omega)
  have hcz:=hc _ (List.mem_of_getElem? hy)
  show ∃ b z',Ck (Bm t n) (i:Int) z t=some (b,z')/\_
  unfold Ck;rw [getI hx,oB,show E0 (t.l[i]).kind=some (latB (t.l[i]).kind) from rfl,oB,getI hy,oB,oB,oB]
  generalize hn:t.l[i]=nd at *
  generalize z[i]'(by omega)=c at *
  cases hlat:latB nd.kind with
  | false =>
   refine ⟨true,z,by rw [Bool.not_false,cT,oB,cT],hz,hc,Nat.le_refl _,fun _=>⟨Rw hx fun h=>(by rw [hlat] at h;cases h),hb,fun j=>Iff.rfl⟩,fun h=>by cases h⟩
  | true =>
   rw [Bool.not_true,cF_,oB]
   by_cases h2:c=2
   ·refine ⟨true,z,by rw [dT h2,cT],hz,hc,Nat.le_refl _,fun _=>⟨hb i (by rw [hy,h2]),hb,fun j=>Iff.rfl⟩,fun h=>by cases h⟩
   rw [dF h2,cF_]
   by_cases h1:c=1
   ·refine ⟨false,z,by rw [dT h1,cT],hz,hc,Nat.le_refl _,fun h=>(by cases h),fun _ m hm hg=>?_⟩
    rw [hg i (by rw [hy,h1])] at hm;cases hm
   rw [dF h1,cF_]
   have h0:c=0:=by omega
   subst h0
   have hNd:NB nd:=by rw [<- hn];exact hN _ (List.getElem_mem hi)
   rw [oB,OF _ hNd,oB,Int.toNat_natCast]
   have hk:∀ k∈kidsL nd,0<=k/\k<(t.l.length:Int):=hR nd (List.mem_of_getElem? hx)
   have hkl:=Kw nd hNd
   have hwz:=Mg (d:=1) hy
   simp at hwz
   have hz1:(z.set i 1).length=t.l.length:=by simpa using hz
   have gr1:∀ j:Nat,(z.set i 1)[j]? = some 1↔(j=i\/z[j]? = some 1):=by
    intro j
    rw [List.getElem?_set]
    by_cases hji:i=j
    ·subst hji;simp;omega
    ·rw [if_neg hji];exact ⟨.inr,fun h=>h.elim (fun e=>absurd e.symm hji) id⟩
   obtain ⟨o,e1,e2⟩:=A5 (φ:=fun m q s=>BG (Bm t n) (kidsL nd) m (q,s)) (l:=kidsL nd)
    (fun q s=>s.length=t.l.length/\ColOk s/\s.count 0<=(z.set i 1).count 0/\(∀ j:Nat,s[j]? = some 2->Ends t.l j)/\(∀ j:Nat,s[j]? = some 1↔(z.set i 1)[j]? = some 1)/\∀ (p:Nat) k,p<q->(kidsL nd)[p]? = some k->Ends t.l k.toNat)
    (fun o=>(∃ s,o=Out.ret (false,s)/\s.length=t.l.length/\ColOk s/\s.count 0<=(z.set i 1).count 0/\∀ m,endk t.l m i=true->(∀ j:Nat,z[j]? = some 1->endk t.l m j=false)->False) \/
     (∃ s,o=Out.go s/\s.length=t.l.length/\ColOk s/\s.count 0<=(z.set i 1).count 0/\(∀ j:Nat,s[j]? = some 2->Ends t.l j)/\(∀ j:Nat,s[j]? = some 1↔(z.set i 1)[j]? = some 1)/\∀ k∈kidsL nd,Ends t.l k.toNat))
    (by
     rintro m q k s hkq hq ⟨s1,s2,s3,s4,s5,s6⟩;obtain ⟨k0,k1⟩:=hk k (List.mem_of_getElem? hkq);obtain ⟨b,z',w1,w2⟩:=Ru hR hN hlen n k.toNat s (by omega) s1 s2 (by omega) s4;rw [Int.toNat_of_nonneg k0] at w1;simp only [BG];rw [dT (show (q:Int)<(kidsL nd).length by omega),cT,getI hkq,oB,w1,oB]
     dsimp only
     cases b with
     | true =>
      obtain ⟨y1,y2,y3⟩:=w2.yes rfl;refine .inl ⟨z',by rw [Bool.not_true,cF_,Ab (by omega)],w2.len,w2.col,Nat.le_trans w2.wh s3,y2,fun j=>(y3 j).trans (s5 j),fun p k' hp hk'=>?_⟩
      by_cases hpq:p=q
      ·subst hpq;rw [hkq] at hk';cases hk';exact y1
      ·exact s6 p k' (by omega) hk'
     | false =>
      refine .inr ⟨_,by rw [Bool.not_false,cT],.inl ⟨z',rfl,w2.len,w2.col,Nat.le_trans w2.wh s3,fun m hm hg=>?_⟩⟩;obtain ⟨r,r1,r2,r3⟩:=Jz m hm;refine w2.no rfl r ?_ fun j hj=>?_
      ·unfold endk at r2
       rw [hx] at r2;simp only [hlat,Bool.not_true,Bool.false_or,Bool.and_eq_true] at r2
       have:=List.mem_of_getElem? hkq
       rw [JY hlat] at this;simp only [List.mem_cons,List.not_mem_nil,or_false] at this
       rcases this with rfl | rfl
       ·exact r2.1
       ·exact r2.2
      ·rcases (gr1 j).1 ((s5 j).1 hj) with rfl | hj
       ·exact r3
       ·exact Q5 (by omega) (hg j hj))
    (by
     rintro m s ⟨s1,s2,s3,s4,s5,s6⟩;refine ⟨Out.go s,?_,.inr ⟨s,rfl,s1,s2,s3,s4,s5,fun k hk'=>?_⟩⟩
     ·simp only [BG]
      rw [dF (by omega),cF_]
     ·obtain ⟨p,hp⟩:=List.getElem?_of_mem hk'
      exact s6 p k (getLt hp) hp)
    (by rw [FUv];omega) (z.set i 1) ⟨hz1,Nk hc (by omega),Nat.le_refl _,fun j hj=>(by
     rw [List.getElem?_set] at hj
     by_cases hji:i=j
     ·rw [if_pos hji] at hj;split at hj <;> simp at hj
     ·rw [if_neg hji] at hj;exact hb j hj),fun j=>Iff.rfl,fun p k hp=>by omega⟩
   rw [e1,oB]
   rcases e2 with ⟨s,rfl,s1,s2,s3,s4⟩ | ⟨s,rfl,s1,s2,s3,s4,s5,s6⟩
   ·exact ⟨false,s,rfl,s1,s2,by omega,fun h=>(by cases h),fun _=>s4⟩
   ·have hsi:s[i]? = some 1:=(s5 i).2 ((gr1 i).2 (.inl rfl))
    have hws:=Mg (d:=2) hsi
    simp at hws
    have hE:Ends t.l i:=Rw hx fun _=>by
     rw [JY hlat] at s6;exact ⟨s6 _ (by simp),s6 _ (by simp)⟩
    refine ⟨true,s.set i 2,by show (idx s (i:Int)).bind _=_;rw [getI hsi,oB],by simpa using s1,Nk s2 (by omega),by omega,fun _=>⟨hE,fun j hj=>?_,fun j=>?_⟩,fun h=>by cases h⟩
    ·rw [List.getElem?_set] at hj
     by_cases hji:i=j
     ·subst hji;exact hE
     ·rw [if_neg hji] at hj;exact s4 j hj
    ·rw [List.getElem?_set]
     by_cases hji:i=j
     ·subst hji;rw [if_pos rfl,hy];split <;> simp
     ·rw [if_neg hji,s5 j,gr1 j]
      exact ⟨fun h=>h.elim (fun e=>absurd e.symm hji) id,.inr⟩
theorem MA {t:ATy} (hR:InL t.l) (hN:∀ n∈t.l,NB n) (hlen:t.l.length<=2001):CS t=some (decide (H1 t.l)):=by
 unfold CS;rw [Ab (by omega),Ab (by omega),Int.toNat_natCast];obtain ⟨o,e1,e2⟩:=A5 (φ:=fun m q s=>BQ t m (q,s)) (l:=t.l)
  (fun q s=>s.length=t.l.length/\ColOk s/\(∀ j:Nat,s[j]? = some 2->Ends t.l j)/\(∀ j:Nat,¬ s[j]? = some 1)/\∀ p,p<q->Ends t.l p)
  (fun o=>(o=Out.ret false/\¬ H1 t.l)\/∃ s,o=Out.go s/\H1 t.l)
  (by
   rintro m q nd s hnd hq ⟨s1,s2,s3,s4,s5⟩;obtain ⟨b,z',w1,w2⟩:=Ru hR hN hlen FU q s hq s1 s2 (by have:=List.count_le_length (a:=(0:Int)) (l:=s);rw [FUv];omega) s3;simp only [BQ];rw [dT (show (q:Int)<t.l.length by omega),cT,w1,oB]
   dsimp only
   cases b with
   | true =>
    obtain ⟨y1,y2,y3⟩:=w2.yes rfl;refine .inl ⟨z',by rw [Bool.not_true,cF_,Ab (by omega)],w2.len,w2.col,y2,fun j hj=>s4 j ((y3 j).1 hj),fun p hp=>?_⟩
    by_cases hpq:p=q
    ·subst hpq;exact y1
    ·exact s5 p (by omega)
   | false =>
    refine .inr ⟨_,by rw [Bool.not_false,cT],.inl ⟨rfl,fun hA=>?_⟩⟩;obtain ⟨k,hk⟩:=hA q hq;exact w2.no rfl k hk fun j hj=>absurd hj (s4 j))
  (by
   rintro m s ⟨s1,s2,s3,s4,s5⟩;refine ⟨Out.go s,?_,.inr ⟨s,rfl,s5⟩⟩;simp only [BQ];rw [dF (by omega),cF_])
  (by rw [FUv];omega) (List.replicate t.l.length 0) ⟨by simp,fun c hc=>(by rw [List.mem_replicate] at hc;exact .inl hc.2),fun j hj=>(by rw [List.getElem?_replicate] at hj;split at hj <;> simp at hj),fun j hj=>(by rw [List.getElem?_replicate] at hj;split at hj <;> simp at hj),fun p hp=>by omega⟩
 rw [e1,oB]
 rcases e2 with ⟨rfl,h⟩ | ⟨s,rfl,h⟩
 ·rw [dF h];rfl
 ·rw [dT h];rfl
theorem T1 (t:ATy) (hlen:t.l.length<=2001) (hN:∀ n∈t.l,NB n):OJ t.l (fun y0=>Du y0 t)=some (!decide (Es t.l)):=by
 unfold OJ RB;rw [Fi (φ:=Ho t.l (fun y0=>Du y0 t)) (l:=t.l) (fun i=>(i:Int)) (fun n => !B9 n t.l.length) ?_ ?_ (by rw [FUv];omega)]
 ·rw [oB]
  cases hf:t.l.findIdx? (fun n => !B9 n t.l.length) with
  | none =>
   have:Es t.l:=by
    intro n hn
    have:=List.findIdx?_eq_none_iff.1 hf n hn
    simpa using this
   rw [dT this];rfl
  | some i =>
   obtain ⟨hi,h1,_⟩:=List.findIdx?_eq_some_iff_getElem.1 hf
   have:¬ Es t.l:=fun h=>by
    rw [h _ (List.getElem_mem hi)] at h1;cases h1
   rw [dF this]
   show some (decide (0<=(i:Int)))=some true
   rw [dT (by omega)]
 ·intro n i x hx hi
  simp only [Ho];rw [dT (show (i:Int)<t.l.length by omega),cT,getI hx,oB,show Du x t=some (!B9 x t.l.length) by unfold Du;rw [S6 _ _ (hN x (List.mem_of_getElem? hx)),oB],oB];exact ⟨fun hq=>by rw [hq,cF_,Ab (by omega)],fun hq=>by rw [hq,cT]⟩
 ·intro n
  simp only [Ho];rw [dF (by omega),cF_]
theorem Vf (t:ATy) (hlen:t.l.length<=2001) (hN:∀ n∈t.l,NB n):Fc t=some (mayT t.l t.root):=by
 unfold Fc mayT
 by_cases h0:t.l.length=0\/2000<t.l.length
 ·rw [if_pos h0,show (decide ((t.l.length:Int)=0)||decide (2000<(t.l.length:Int)))=true by rw [Bool.or_eq_true,decide_eq_true_eq,decide_eq_true_eq];omega,cT]
 rw [if_neg h0,dF (by omega),dF (by omega),Bool.or_false,cF_]
 by_cases hr:t.root<0\/(t.l.length:Int)<=t.root
 ·rw [if_pos hr,show (decide (t.root<0)||decide ((t.l.length:Int)<=t.root))=true by rw [Bool.or_eq_true,decide_eq_true_eq,decide_eq_true_eq];exact hr,cT]
 rw [if_neg hr,dF (by omega),dF (by omega),Bool.or_false,cF_,T1 t hlen hN,oB]
 by_cases hA:Es t.l
 ·rw [dT hA,Bool.not_true,cF_,MA (DX hA) hN hlen,oB]
  by_cases hE:H1 t.l
  ·rw [dT hE,if_pos ⟨hA,hE⟩];rfl
  ·rw [dF hE,if_neg (fun h=>hE h.2)];rfl
 ·rw [dF hA,Bool.not_false,cT,if_neg (fun h=>hA h.1)];rfl
theorem Qm (s:List Int) (h:s.length<=1000):Po s=some s.reverse:=by
 unfold Po;rw [Ab (by omega)];obtain ⟨o,e1,e2⟩:=IK (φ:=HG) (fun st=>(st.2.1+1 - st.1).toNat)
  (fun st=>0<=st.1 /\ -1<=st.2.1/\st.1+st.2.1=(s.length:Int) - 1/\st.1<=st.2.1+2/\st.2.2.length=s.length/\∀ k:Nat,k<s.length->st.2.2[k]? = if (k:Int)<st.1\/st.2.1<(k:Int) then s.reverse[k]? else s[k]?)
  (fun o=>o=s.reverse)
  (by
   rintro n ⟨i,j,l⟩ ⟨h0,h1,h2,h3,h4,h5⟩
   simp only at h0 h1 h2 h3 h4 h5
   by_cases hij:i<j
   ·left
    obtain ⟨a,rfl⟩:=Int.eq_ofNat_of_zero_le h0;obtain ⟨b,rfl⟩:=Int.eq_ofNat_of_zero_le (show 0<=j by omega)
    have ha:a<s.length:=by omega
    have hb:b<s.length:=by omega
    have la:l[a]? = some s[a]:=by rw [h5 a ha,if_neg (by omega),List.getElem?_eq_getElem ha]
    have lb:l[b]? = some s[b]:=by rw [h5 b hb,if_neg (by omega),List.getElem?_eq_getElem hb]
    have lb2:(l.set a s[b])[b]? = some s[b]:=by rw [List.getElem?_set_ne (by omega)];exact lb
    refine ⟨((a:Int)+1,(b:Int) - 1,(l.set a s[b]).set b s[a]),⟨by simp only;omega,by simp only;omega,by simp only;omega,by simp only;omega,by simpa using h4,fun k hk=>?_⟩,by simp only;omega,?_⟩
    ·simp only
     by_cases hkb:k=b
     ·subst hkb
      rw [List.getElem?_set_self (by simp;omega),if_pos (by omega),List.getElem?_reverse hk,List.getElem?_eq_getElem (by omega)]
      congr 2;omega
     ·rw [List.getElem?_set_ne (by omega)]
      by_cases hka:k=a
      ·subst hka
       rw [List.getElem?_set_self (by omega),if_pos (by omega),List.getElem?_reverse hk,List.getElem?_eq_getElem (by omega)]
       congr 2;omega
      ·rw [List.getElem?_set_ne (by omega),h5 k hk]
       by_cases hc:(k:Int)<a\/(b:Int)<k
       ·rw [if_pos hc,if_pos (by omega)]
       ·rw [if_neg hc,if_neg (by omega)]
    ·simp only [HG]
     rw [dT hij,cT,getI lb,oB,getI la,oB,oB,oB,Int.toNat_natCast,Int.toNat_natCast,getI lb2,oB,Ab (by omega),Ab (by omega)]
   ·right
    refine ⟨l,?_,by simp only [HG];rw [dF hij,cF_]⟩;refine List.ext_getElem? fun k=>?_
    by_cases hk:k<s.length
    ·rw [h5 k hk]
     split
     ·rfl
     ·rw [List.getElem?_reverse hk];congr 1;omega
    ·rw [List.getElem?_eq_none (by omega),List.getElem?_eq_none (by simp;omega)])
  FU (0,(s.length:Int) - 1,s) ⟨by simp only;omega,by simp only;omega,by simp only;omega,by simp only;omega,rfl,fun k hk=>by simp only;rw [if_neg (by omega)]⟩ (by rw [FUv];simp only;omega)
 rw [e1,e2]
def kat (L:List ANd) (i:Int):List Int:=match L[i.toNat]? with
 | some n=>kidsL n
 | none=>[]
noncomputable def dfs (K:Int->List Int):Nat->List Int->List Int->List Int
 | 0,_,out=>out
 | _+1,[],out=>out
 | n+1,x::s,out=>if x∈out then dfs K n s out else dfs K n (K x++s) (out++[x])
theorem Pa (f g:Nat->Nat) (i:Nat):∀ l:List Nat,l.Nodup->i∈l->(∀ j∈l,j≠i->f j=g j)->(l.map f).sum+g i=(l.map g).sum+f i
 | [],_,h,_=>by simp at h
 | j::l,hn,hi,he=>by
  rw [List.nodup_cons] at hn;simp only [List.map_cons,List.sum_cons]
  by_cases hji:j=i
  ·subst hji
   have:l.map f=l.map g:=List.map_congr_left fun k hk=>he k (by simp [hk]) (fun e=>hn.1 (e▸hk))
   rw [this];omega
  ·have:=Pa f g i l hn.2 (by simpa [Ne.symm hji] using hi) (fun k hk=>he k (by simp [hk]))
   have:=he j (by simp) hji
   omega
noncomputable def wt (K:Int->List Int) (len:Nat) (out:List Int):Nat:=((List.range len).map (fun (i:Nat)=>if (i:Int)∈out then 0 else (K (i:Int)).length)).sum
theorem UC {K:Int->List Int} {len:Nat} {out:List Int} {i:Nat} (hi:i<len) (ho:¬ (i:Int)∈out):wt K len (out++[(i:Int)])+(K i).length=wt K len out:=by
 have:=Pa (fun (j:Nat)=>if (j:Int)∈out++[(i:Int)] then 0 else (K (j:Int)).length) (fun (j:Nat)=>if (j:Int)∈out then 0 else (K (j:Int)).length) i (List.range len) List.nodup_range (List.mem_range.2 hi) (fun j _ hj=>by
  have e:((j:Int)∈out++[(i:Int)])↔(j:Int)∈out:=by simp;omega
  by_cases h:(j:Int)∈out
  ·rw [if_pos h,if_pos (e.2 h)]
  ·rw [if_neg h,if_neg (fun h2=>h (e.1 h2))])
 rw [if_neg ho,if_pos (by simp)] at this;unfold wt;omega
theorem Q6 {L:List ANd} (hR:InL L):∀ i k,k∈kat L i->0<=k/\k<(L.length:Int):=by
 intro i k hk
 unfold kat at hk
 cases hq:L[i.toNat]? with
 | none=>rw [hq] at hk;simp at hk
 | some n=>rw [hq] at hk;exact hR n (List.mem_of_getElem? hq) k hk
theorem RV {L:List ANd} (hN:∀ n∈L,NB n) (i:Int):(kat L i).length<=40:=by
 unfold kat
 cases hq:L[i.toNat]? with
 | none=>simp
 | some n=>exact Kw n (hN n (List.mem_of_getElem? hq))
theorem lastI (s:List Int) (x:Int):idx (s++[x]) (((s++[x]).length:Int) - 1)=some x:=by
 rw [show (((s++[x]).length:Int) - 1)=(s.length:Int) by simp];exact getI (by simp)
theorem initI (s:List Int) (x:Int):sli (s++[x]) 0 (((s++[x]).length:Int) - 1)=some s:=by
 rw [show (((s++[x]).length:Int) - 1)=(s.length:Int) by simp,GQ (by simp)]
 simp
theorem Ju {t:ATy} (hR:InL t.l) (hN:∀ n∈t.l,NB n) (hlen:t.l.length<=2001):∀ (n:Nat) (s out:List Int) (seen:List Bool),(∀ x∈s,0<=x/\x<(t.l.length:Int))->seen.length=t.l.length ->
  (∀ i:Nat,seen[i]? = some true↔((i:Int)∈out/\i<t.l.length))->out.length+s.length+wt (kat t.l) t.l.length out<=100000000->s.length+wt (kat t.l) t.l.length out<n ->
  ∃ ys,EC t n (s.reverse,seen)=some ys/\dfs (kat t.l) n s out=out++ys
 | 0,s,out,seen,_,_,_,_,h=>by omega
 | n+1,[],out,seen,_,_,_,_,_=>by
  refine ⟨[],?_,by simp [dfs]⟩;simp only [EC,List.reverse_nil,List.length_nil];rfl
 | n+1,x::s,out,seen,hs,hsl,hse,hB,hn=>by
  obtain ⟨x0,x1⟩:=hs x (by simp);obtain ⟨i,rfl⟩:=Int.eq_ofNat_of_zero_le x0
  have hi:i<t.l.length:=by omega
  have hx:t.l[i]? = some t.l[i]:=List.getElem?_eq_getElem hi
  have hv:seen[i]? = some (seen[i]'(by omega)):=List.getElem?_eq_getElem (by omega)
  have hk:kat t.l (i:Int)=kidsL t.l[i]:=by unfold kat;rw [Int.toNat_natCast,hx]
  have hkl:=RV hN (i:Int)
  have hNi:=hN _ (List.getElem_mem hi)
  simp only [List.length_cons] at hB hn;rw [List.reverse_cons]
  have hl1:(s.reverse++[(i:Int)]).length=s.length+1:=by simp
  simp only [EC];rw [dT (show (0:Int)<((s.reverse++[(i:Int)]).length:Int) by rw [hl1];omega),cT,Ab (by rw [hl1];omega),lastI,oB,Ab (by rw [hl1];omega),initI,oB,getI hv,oB,oB]
  have hd:dfs (kat t.l) (n+1) ((i:Int)::s) out=if (i:Int)∈out then dfs (kat t.l) n s out else dfs (kat t.l) n (kat t.l i++s) (out++[(i:Int)]):=rfl
  rw [hd]
  by_cases ho:(i:Int)∈out
  ·have h1:seen[i]'(by omega)=true:=by have:=(hse i).2 ⟨ho,hi⟩;rw [hv] at this;exact Option.some.inj this
   rw [h1,cT,if_pos ho];exact Ju hR hN hlen n s out seen (fun x hx=>hs x (by simp [hx])) hsl hse (by omega) (by omega)
  ·have h1:seen[i]'(by omega)=false:=by
    cases hq:seen[i]'(by omega) with
    | false=>rfl
    | true=>exact absurd ((hse i).1 (by rw [hv,hq])).1 ho
   have hw:=UC (K:=kat t.l) hi ho
   obtain ⟨ys,e1,e2⟩:=Ju hR hN hlen n (kat t.l i++s) (out++[(i:Int)]) (seen.set i true) (fun y hy=>by
    rcases List.mem_append.1 hy with hy | hy
    ·exact Q6 hR _ _ hy
    ·exact hs y (by simp [hy])) (by simpa using hsl) (fun j=>by
    rw [List.getElem?_set]
    by_cases hij:i=j
    ·subst hij;simp;omega
    ·rw [if_neg hij,hse j];simp;omega) (by simp only [List.length_append,List.length_cons,List.length_nil];omega) (by simp only [List.length_append];omega)
   rw [h1,cF_,if_neg ho,getI hx,oB,OF _ hNi,oB,<- hk,Ab (by omega),Qm _ (by omega),oB,Ab (by simp only [List.length_reverse];omega),Int.toNat_natCast];refine ⟨(i:Int)::ys,?_,by rw [e2];simp⟩;rw [List.reverse_append] at e1;rw [e1];rfl
noncomputable def ET (L:List ANd) (root:Int):List Int:=dfs (kat L) FU [root] []
theorem Nr (f:Nat->Nat) (c:Nat):∀ l:List Nat,(∀ j∈l,f j<=c)->(l.map f).sum<=l.length*c
 | [],_=>by simp
 | j::l,h=>by
  have h1:=Nr f c l (fun k hk=>h k (by simp [hk]))
  have h2:=h j (by simp)
  simp only [List.map_cons,List.sum_cons,List.length_cons,Nat.add_mul]
  omega
theorem PJ {L:List ANd} (hN:∀ n∈L,NB n) (out:List Int):wt (kat L) L.length out<=L.length*40:=by
 have:=Nr (fun (i:Nat)=>if (i:Int)∈out then 0 else (kat L (i:Int)).length) 40 (List.range L.length) (fun j _=>by
  split
  ·omega
  ·exact RV hN _)
 rw [List.length_range] at this;exact this
theorem Sv {t:ATy} (hR:InL t.l) (hN:∀ n∈t.l,NB n) (hlen:t.l.length<=2001) {root:Int} (h0:0<=root) (h1:root<(t.l.length:Int)) :
  Kl t root=some (ET t.l root):=by
 have hw:=PJ hN []
 obtain ⟨ys,e1,e2⟩:=Ju hR hN hlen FU [root] [] (List.replicate t.l.length false) (fun x hx=>by simp at hx;subst hx;exact ⟨h0,h1⟩) (by simp) (fun i=>by rw [List.getElem?_replicate];split <;> simp) (by simp only [List.length_cons,List.length_nil];omega) (by rw [FUv];simp only [List.length_cons,List.length_nil];omega);rw [List.nil_append] at e2;unfold Kl;rw [Ab (by omega),Ab (by omega),Int.toNat_natCast]
 show EC t FU ([root].reverse,_)=_
 rw [e1,ET,e2]
theorem KE {K:Int->List Int} {D:Int->Prop} (hK:∀ x,D x->∀ k∈K x,D k):∀ (n:Nat) (s out:List Int),(∀ x∈s,D x)->(∀ x∈out,D x)->out.Nodup->(∀ x∈dfs K n s out,D x)/\(dfs K n s out).Nodup
 | 0,s,out,_,ho,hn=>⟨ho,hn⟩
 | n+1,[],out,_,ho,hn=>⟨ho,hn⟩
 | n+1,x::s,out,hs,ho,hn=>by
  unfold dfs
  split
  ·exact KE hK n s out (fun y hy=>hs y (by simp [hy])) ho hn
  ·rename_i hx
   have hDx:=hs x (by simp)
   refine KE hK n _ _ (fun y hy=>?_) (fun y hy=>?_) ?_
   ·rcases List.mem_append.1 hy with hy | hy
    ·exact hK x hDx y hy
    ·exact hs y (by simp [hy])
   ·rcases List.mem_append.1 hy with hy | hy
    ·exact ho y hy
    ·simp at hy;subst hy;exact hDx
   ·rw [List.nodup_append]
    refine ⟨hn,by simp,fun a ha b hb e=>?_⟩
    simp at hb
    subst hb e;exact hx ha
theorem Kk {L:List ANd} (hR:InL L) {root:Int} (h0:0<=root) (h1:root<(L.length:Int)):(∀ x∈ET L root,0<=x/\x<(L.length:Int))/\(ET L root).Nodup/\(ET L root).length<=L.length:=by
 obtain ⟨a,b⟩:=KE (K:=kat L) (D:=fun x=>0<=x/\x<(L.length:Int)) (fun x _ k hk=>Q6 hR x k hk) FU [root] [] (fun x hx=>by simp at hx;subst hx;exact ⟨h0,h1⟩) (by simp) (by simp);exact ⟨a,b,K4 _ _ b a⟩
def varOf (L:List ANd) (x:Int):Option Int:=match L[x.toNat]? with
 | some n=>if n.kind=11 then some n.a else none
 | none=>none
theorem LP (t:ATy):∀ (xs acc:List Int),(∀ x∈xs,0<=x/\x<(t.l.length:Int))->acc.length+xs.length<=1000000->Cn t xs acc=some (acc++xs.filterMap (varOf t.l))
 | [],acc,_,_=>by simp [Cn]
 | x::xs,acc,hx,hl=>by
  obtain ⟨x0,x1⟩:=hx x (by simp)
  have hn:t.l[x.toNat]? = some (t.l[x.toNat]'(by omega)):=List.getElem?_eq_getElem (by omega)
  have ix:idx t.l x=some (t.l[x.toNat]'(by omega)):=by rw [<- hn];unfold idx;rw [if_pos x0]
  simp only [List.length_cons] at hl;unfold Cn;rw [ix,oB,List.filterMap_cons];unfold varOf;rw [hn]
  simp only
  by_cases hk:(t.l[x.toNat]'(by omega)).kind=11
  ·rw [dT hk,cT,if_pos hk,Ab (by simp only [List.length_cons,List.length_nil];omega),LP t xs _ (fun y hy=>hx y (by simp [hy])) (by simp only [List.length_append,List.length_cons,List.length_nil];omega)]
   simp only [List.append_assoc,List.cons_append,List.nil_append]
   rfl
  ·rw [dF hk,cF_,if_neg hk,LP t xs _ (fun y hy=>hx y (by simp [hy])) (by omega)]
   rfl
theorem HJ (K:Int->List Int):∀ (n:Nat) (s out:List Int),∃ ys,dfs K n s out=out++ys
 | 0,s,out=>⟨[],by simp [dfs]⟩
 | n+1,[],out=>⟨[],by simp [dfs]⟩
 | n+1,x::s,out=>by
  unfold dfs
  split
  ·exact HJ K n s out
  ·obtain ⟨ys,e⟩:=HJ K n (K x++s) (out++[x])
   exact ⟨[x]++ys,by rw [e,List.append_assoc]⟩
theorem Jq {L:List ANd} (hR:InL L):∀ (n:Nat) (s out:List Int),(∀ x∈s,0<=x/\x<(L.length:Int))->s.length+wt (kat L) L.length out<n ->
  (∀ x∈s,x∈dfs (kat L) n s out)/\(∀ x∈dfs (kat L) n s out,x∈out\/∀ k∈kat L x,k∈dfs (kat L) n s out)
 | 0,s,out,_,h=>by omega
 | n+1,[],out,_,_=>⟨fun x hx=>by simp at hx,fun x hx => .inl (by simpa [dfs] using hx)⟩
 | n+1,x::s,out,hs,h=>by
  obtain ⟨x0,x1⟩:=hs x (by simp);simp only [List.length_cons] at h;unfold dfs
  by_cases hx:x∈out
  ·rw [if_pos hx]
   obtain ⟨i1,i2⟩:=Jq hR n s out (fun y hy=>hs y (by simp [hy])) (by omega);obtain ⟨ys,e⟩:=HJ (kat L) n s out;refine ⟨fun y hy=>?_,i2⟩
   rcases List.mem_cons.1 hy with rfl | hy
   ·rw [e];exact List.mem_append_left _ hx
   ·exact i1 y hy
  ·rw [if_neg hx]
   obtain ⟨q,rfl⟩:=Int.eq_ofNat_of_zero_le x0
   have hw:=UC (K:=kat L) (len:=L.length) (out:=out) (i:=q) (by omega) hx
   obtain ⟨i1,i2⟩:=Jq hR n (kat L (q:Int)++s) (out++[(q:Int)]) (fun y hy=>by
    rcases List.mem_append.1 hy with hy | hy
    ·exact Q6 hR _ _ hy
    ·exact hs y (by simp [hy])) (by rw [List.length_append];omega)
   obtain ⟨ys,e⟩:=HJ (kat L) n (kat L (q:Int)++s) (out++[(q:Int)]);refine ⟨fun y hy=>?_,fun y hy=>?_⟩
   ·rcases List.mem_cons.1 hy with rfl | hy
    ·rw [e];simp
    ·exact i1 y (by simp [hy])
   ·rcases i2 y hy with h3 | h3
    ·rcases List.mem_append.1 h3 with h3 | h3
     ·exact .inl h3
     ·simp at h3
      subst h3;exact .inr fun k hk=>i1 k (List.mem_append_left _ hk)
    ·exact .inr h3
theorem Ov {t:ATy} (hA:Es t.l) (hN:∀ n∈t.l,NB n) (hlen:t.l.length<=2001) (h0:0<=t.root) (h1:t.root<(t.l.length:Int)) :
  t.root∈ET t.l t.root/\∀ x∈ET t.l t.root,∀ k∈kat t.l x,k∈ET t.l t.root:=by
 have hw:=PJ hN []
 obtain ⟨c1,c2⟩:=Jq (DX hA) FU [t.root] [] (fun x hx=>by rw [List.mem_singleton.1 hx];exact ⟨h0,h1⟩) (by rw [FUv];simp only [List.length_cons,List.length_nil];omega);refine ⟨c1 _ (by simp),fun x hx k hk=>?_⟩
 rcases c2 x hx with h | h
 ·cases h
 ·exact h k hk
theorem WX {t:ATy} {x:Int} (h:In t x):kat t.l x=kidsL (nd t x):=by
 unfold kat;rw [IJ h]
theorem SS {t:ATy} (hu:MayO t) (hv:∀ x∈ET t.l t.root,(nd t x).kind≠11):GU t (cs (ET t.l t.root)):=by
 obtain ⟨l0,l1,r0,r1,hA,_⟩:=HK hu.may;obtain ⟨b1,b2,b3⟩:=Kk (DX hA) r0 r1;obtain ⟨c1,c2⟩:=Ov hA hu.nb (by omega) r0 r1
 have hk:∀ x∈ET t.l t.root,∀ k∈kidsL (nd t x),k∈ET t.l t.root:=fun x hx k hk=>c2 x hx k (by rw [WX (b1 x hx)];exact hk)
 refine ⟨⟨fun i hi=>b1 i (mem_cs.1 hi),fun i hi hp=>?_,fun i hi f hf=>?_⟩,mem_cs.2 c1,fun i hi=>hv i (mem_cs.1 hi),DT _⟩
 ·have hq:kidsL (nd t i)=[(nd t i).a,(nd t i).b]:=by
   unfold kidsL pB
   rcases hp with h | h | h <;> rw [h] <;> rfl
  have:=hk i (mem_cs.1 hi)
  rw [hq] at this;exact ⟨mem_cs.2 (this _ (by simp)),mem_cs.2 (this _ (by simp))⟩
 ·have hR:=hA _ (GP (b1 i (mem_cs.1 hi)))
  cases hw:wB (nd t i).kind with
  | false=>rw [Jr hR hw] at hf;cases hf
  | true =>
   refine mem_cs.2 (hk i (mem_cs.1 hi) _ ?_);unfold kidsL;rw [Wu hw,hw,cF_,cT];exact List.mem_map.2 ⟨f,hf,rfl⟩
theorem QN (t:ATy) (hlen:t.l.length<=2001) (hN:∀ n∈t.l,NB n):∃ b,DL t=some b/\(b=true->mayT t.l t.root=0/\∀ x∈ET t.l t.root,(nd t x).kind≠11):=by
 unfold DL Gj;rw [Vf t hlen hN,oB]
 by_cases h:mayT t.l t.root=0
 ·obtain ⟨_,_,r0,r1,hA,_⟩:=HK h
  obtain ⟨b1,b2,b3⟩:=Kk (DX hA) r0 r1
  have hfl:((ET t.l t.root).filterMap (varOf t.l)).length<=(ET t.l t.root).length:=List.length_filterMap_le _ _
  rw [dT h,cT,oB,show (!decide (mayT t.l t.root=0))=false by rw [dT h];rfl,cF_,Sv (DX hA) hN hlen r0 r1,oB,LP t _ _ b1 (by simp only [List.length_nil];omega),oB,List.nil_append,Ab (by omega),oB,oB];refine ⟨_,rfl,fun hz=>⟨h,fun x hx hk=>?_⟩⟩
  have hz0:=of_decide_eq_true hz
  have hm:(nd t x).a∈(ET t.l t.root).filterMap (varOf t.l):=by
   refine List.mem_filterMap.2 ⟨x,hx,?_⟩;unfold varOf;rw [IJ (b1 x hx)];simp only [hk,if_true]
  have hm2:=mem_cs.2 hm
  unfold cs at hm2
  have:=List.length_pos_of_mem hm2
  omega
 ·rw [dF h,cF_]
  exact ⟨false,rfl,fun h=>by cases h⟩
end Go.Proofs.YtcoghblhdjmbfaaGreat
namespace Go.Proofs.YtcoghblhdjmbfaaGreat
open Go.V
open Classical
theorem OH (x:AutoAuto):(⟨x.l,x.start⟩:AutoAuto)=x:=by cases x;rfl
theorem WH {t:ATy} (h:MayO (fewT 6 t)):(fewT 6 t).l.length<=6:=Q2 6 t (HK h.may).2.1
end Go.Proofs.YtcoghblhdjmbfaaGreat
namespace Go.Proofs.YtcoghblhdjmbfaaGreat
open Go.V
open Classical
theorem Vp (x y:Int):EA x y=some (decide (x<y)):=by
 have h:C6 x=some false:=by unfold C6;simp
 unfold EA;rw [h,oB,cF_,oB,Bool.false_or]
theorem Tg (x:Int):Ct x=some false:=by unfold Ct;simp
theorem Qi (l:List Int) (t:Int) (hs:l.Pairwise (· < ·)) (hl:l.length<=100000):∀ (n lo hi:Nat),hi - lo<n->lo<=hi->hi<=l.length->(∀ j x,j<lo->l[j]? = some x->x<t)->(∀ j x,hi<=j->l[j]? = some x->t<=x) ->
  ∃ k:Nat,AI l t n ((lo:Int),(hi:Int))=some (k:Int)/\k<=l.length/\(∀ j x,j<k->l[j]? = some x->x<t)/\(∀ j x,k<=j->l[j]? = some x->t<=x)
 | 0,_,_,h,_,_,_,_=>by omega
 | n+1,lo,hi,h,h1,h2,h3,h4=>by
  by_cases hlt:lo<hi
  ·have hm:((lo:Int)+(hi:Int)) / 2=(((lo+hi) / 2:Nat):Int):=by omega
   have hx:l[(lo+hi) / 2]? = some (l[(lo+hi) / 2]'(by omega)):=List.getElem?_eq_getElem (by omega)
   generalize l[(lo+hi) / 2]'(by omega)=x at hx
   have hbound:(lo+hi) / 2<hi/\lo<=(lo+hi) / 2:=by omega
   simp only [AI];rw [dT (show (lo:Int)<(hi:Int) by omega),cT,Ab (by omega),Ab (by omega),Ab (by omega),hm,getI hx,oB,Vp,oB]
   have hge:∀ j y,(lo+hi) / 2<=j->l[j]? = some y->x<=y:=by
    intro j y hj hy
    rcases Nat.eq_or_lt_of_le hj with e | e
    ·subst e;rw [hx] at hy;cases hy;omega
    ·have hj2:=(List.getElem?_eq_some_iff.1 hy)
     have hx2:=(List.getElem?_eq_some_iff.1 hx)
     have:=List.pairwise_iff_getElem.1 hs _ _ hx2.1 hj2.1 e
     rw [hx2.2,hj2.2] at this;omega
   have hle:∀ j y,j<=(lo+hi) / 2->l[j]? = some y->y<=x:=by
    intro j y hj hy
    rcases Nat.eq_or_lt_of_le hj with e | e
    ·subst e;rw [hx] at hy;cases hy;omega
    ·have hj2:=(List.getElem?_eq_some_iff.1 hy)
     have hx2:=(List.getElem?_eq_some_iff.1 hx)
     have:=List.pairwise_iff_getElem.1 hs _ _ hj2.1 hx2.1 e
     rw [hx2.2,hj2.2] at this;omega
   by_cases hxt:x<t
   ·rw [dT hxt,cT,Ab (by omega)]
    have:=Qi l t hs hl n ((lo+hi) / 2+1) hi (by omega) (by omega) h2 (fun j y hj hy=>by have:=hle j y (by omega) hy;omega) h4
    rw [show (((lo+hi) / 2:Nat):Int)+1=(((lo+hi) / 2+1:Nat):Int) by omega];exact this
   ·rw [dF hxt,cF_]
    exact Qi l t hs hl n lo ((lo+hi) / 2) (by omega) (by omega) (by omega) h3 (fun j y hj hy=>by have:=hge j y hj hy;omega)
  ·refine ⟨lo,?_,by omega,h3,fun j y hj hy=>h4 j y (by omega) hy⟩
   simp only [AI];rw [dF (by omega),cF_]
theorem WN (l:List Int) (t:Int) (hs:l.Pairwise (· < ·)) (hl:l.length<=100000):∃ k:Int,Bt l t=some (k,decide (t∈l)):=by
 obtain ⟨k,h1,h2,h3,h4⟩:=Qi l t hs hl FU 0 l.length (by rw [FUv];omega) (Nat.zero_le _) (Nat.le_refl _) (fun j x hj=>by omega) (fun j x hj hx=>by have:=(List.getElem?_eq_some_iff.1 hx).1;omega);refine ⟨k,?_⟩;unfold Bt;rw [show ((0:Int),(l.length:Int))=(((0:Nat):Int),(l.length:Int)) from rfl,h1,oB]
 have hin:∀ x,x∈l->x=t->l[k]? = some t:=by
  intro x hx e
  subst e;obtain ⟨j,hj⟩:=List.getElem?_of_mem hx
  have a1:¬ j<k:=fun h=>by have:=h3 j x h hj;omega
  rcases Nat.eq_or_lt_of_le (Nat.le_of_not_lt a1) with e | e
  ·rw [e];exact hj
  ·have hj2:=List.getElem?_eq_some_iff.1 hj
   have hjl:=hj2.1
   have hk:l[k]? = some (l[k]'(by omega)):=List.getElem?_eq_getElem (by omega)
   have:=List.pairwise_iff_getElem.1 hs _ _ (by omega) hj2.1 e
   have h5:=h4 k _ (Nat.le_refl _) hk
   rw [hj2.2] at this;omega
 by_cases hkl:k<l.length
 ·have hk:l[k]? = some (l[k]'hkl):=List.getElem?_eq_getElem hkl
  generalize l[k]'hkl=y at hk
  rw [dT (show (k:Int)<(l.length:Int) by omega),cT,getI hk,oB]
  by_cases hy:y=t
  ·have hm:t∈l:=by rw [<- hy];exact List.mem_of_getElem? hk
   rw [dT hy,cT,oB,dT hm]
   rfl
  ·have hm:¬ t∈l:=fun h=>by have:=hin t h rfl;rw [hk] at this;exact hy (Option.some.inj this)
   rw [dF hy,cF_,oB,Tg,oB,dF hm]
   rfl
 ·have hm:¬ t∈l:=fun h=>by have:=(List.getElem?_eq_some_iff.1 (hin t h rfl)).1;omega
  rw [dF (by omega),cF_,oB,dF hm]
theorem IV (s:AutoState) (v:Int) (hs:s.vars.Pairwise (· < ·)) (hl:s.vars.length<=40):DD s v=some (decide (v∈s.vars)):=by
 obtain ⟨k,h⟩:=WN s.vars v hs (by omega);unfold DD;rw [h]
 rfl
def SortA (a:AutoAuto):Prop:=∀ s∈a.l,s.vars.Pairwise (· < ·)
theorem Mf {R:Type} {l:List Int} {φ:Nat->Int->Option (Out R Unit)} (s:Nat) (q:Int->Bool) (g:Int->R)
  (step:∀ n (i:Nat) x,s<=i->l[i]? = some x->i<l.length->(q x=false->φ (n+1) (i:Int)=φ n ((i:Int)+1))/\(q x=true->φ (n+1) (i:Int)=some (.ret (g x))))
  (stop:∀ n,φ (n+1) (l.length:Int)=some (.go ())):∀ (n i:Nat) (t:List Int),l.drop i=t->s<=i->i<=l.length->l.length - i<n->φ n (i:Int)=some (match t.find? q with | some x => .ret (g x) | none => .go ())
 | 0,i,t,_,_,_,h=>by omega
 | n+1,i,[],ht,_,hi,hn=>by
  have:=EV ht hi
  simp only [List.length_nil] at this;rw [show i=l.length by omega,stop]
  rfl
 | n+1,i,x::t,ht,hs,hi,hn=>by
  have hL:=EV ht hi
  simp only [List.length_cons] at hL
  have hx:l[i]? = some x:=by
   have:=congrArg (·[0]?) ht
   simpa [List.getElem?_drop] using this
  obtain ⟨h1,h2⟩:=step n i x hs hx (by omega)
  cases hq:q x with
  | true=>rw [h2 hq,List.find?_cons,hq]
  | false =>
   rw [h1 hq,List.find?_cons,hq]
   have:=Mf s q g step stop n (i+1) t (Mq ht) (by omega) (by omega) (by omega)
   rw [show ((i:Int)+1)=((i+1:Nat):Int) by simp,this]
def ofP (r:Int×Int×Bool):Out (Int×Int×Bool) Unit:=bif r.2.2 then .ret r else .go ()
def El (P:Int->Int->Bool):List Int->Int×Int×Bool
 | []=>(0,0,false)
 | v::l=>match l.find? (P v) with
  | some w=>(v,w,true)
  | none=>El P l
theorem PK (l:List Int) (is:Int->Int->Option Bool) (P:Int->Int->Bool) (his:∀ v w,is v w=some (P v w)) (hl:l.length<=100000):∀ (n i:Nat) (t:List Int),l.drop i=t->i<=l.length->l.length - i<n->Da l is n (i:Int)=some (ofP (El P t))
 | 0,i,t,_,_,h=>by omega
 | n+1,i,[],ht,hi,hn=>by
  have:=EV ht hi
  simp only [List.length_nil] at this;simp only [Da];rw [dF (by omega),cF_]
  rfl
 | n+1,i,x::t,ht,hi,hn=>by
  have hL:=EV ht hi
  simp only [List.length_cons] at hL
  have hx:l[i]? = some x:=by
   have:=congrArg (·[0]?) ht
   simpa [List.getElem?_drop] using this
  have hin:CJ is x t FU 0=some (match t.find? (P x) with | some w => .ret (x,w,true) | none => .go ()):=by
   have:=Mf (φ:=CJ is x t) (l:=t) 0 (P x) (fun w=>(x,w,true)) (by
    intro n i y _ hy hi
    simp only [CJ];rw [dT (show (i:Int)<(t.length:Int) by omega),cT,getI hy,oB,his,oB];refine ⟨fun h=>by rw [h,cF_,Ab (by omega)],fun h=>by rw [h,cT]⟩) (by
    intro n
    simp only [CJ];rw [dF (by omega),cF_]) FU 0 t rfl (Nat.zero_le _) (Nat.zero_le _) (by rw [FUv];omega)
   exact this
  have ih:=PK l is P his hl n (i+1) t (Mq ht) (by omega) (by omega)
  rw [show ((i+1:Nat):Int)=(i:Int)+1 by simp] at ih;simp only [Da];rw [dT (show (i:Int)<(l.length:Int) by omega),cT,getI hx,oB,Ab (by omega),S7 ht,oB,hin,oB];simp only [El]
  cases t.find? (P x) with
  | some w=>rw [QF];rfl
  | none=>rw [Wz,Ab (by omega),ih]
theorem Uh (l:List Int) (is:Int->Int->Option Bool) (P:Int->Int->Bool) (his:∀ v w,is v w=some (P v w)) (hl:l.length<=100000):EO l is=some (El P l):=by
 have h:=PK l is P his hl FU 0 l rfl (Nat.zero_le _) (by rw [FUv];omega)
 unfold EO;rw [show ((0:Nat):Int)=0 from rfl] at h;rw [h,oB]
 have key:∀ l,(ofP (El P l)).on (fun r2=>some r2) (fun _=>some ((0:Int),(0:Int),false))=some (El P l):=by
  intro l
  induction l with
  | nil=>rfl
  | cons v l ih =>
   simp only [El]
   cases l.find? (P v) with
   | some w=>rfl
   | none=>exact ih
 exact key l
noncomputable def stP (a:AutoAuto) (v:Int):Bool:=occ a.l true v&&occ a.l false v
theorem K7 {P:Int->Int->Bool} {v w:Int}:∀ {l},El P l=(v,w,true)->v∈l/\w∈l/\P v w=true
 | [],h=>by simp [El] at h
 | x::l,h=>by
  simp only [El] at h
  cases hf:l.find? (P x) with
  | some y =>
   rw [hf] at h;simp only [Prod.mk.injEq,and_true] at h;obtain ⟨rfl,rfl⟩:=h;exact ⟨by simp,List.mem_cons_of_mem _ (List.mem_of_find?_eq_some hf),List.find?_some hf⟩
  | none =>
   rw [hf] at h;obtain ⟨h1,h2,h3⟩:=K7 h;exact ⟨List.mem_cons_of_mem _ h1,List.mem_cons_of_mem _ h2,h3⟩
theorem QY {l:List AutoState} {v:Int}:decide (bits l v=3)=(occ l true v&&occ l false v):=by
 unfold bits
 cases occ l true v <;> cases occ l false v <;> rfl
theorem Mj {n:AutoAuto} (h:AB n) (hm:mayP n=0) (hn:normP n=n):DW n=some ((varsA n).filter (stP n)):=by
 have hlen:=Hn h
 unfold DW;rw [TQ h hm,hn];simp only [oB]
 have hsl:(HZ n).length=(varsA n).length:=by unfold HZ;rw [List.length_map]
 obtain ⟨o,e1,e2⟩:=A5 (φ:=fun m i q=>Ci (HZ n) m (i,q)) (l:=varsA n) (fun i q=>q=((varsA n).take i).filter (stP n)) (fun o=>o=(varsA n).filter (stP n))
  (by
   rintro m i v q hv hi rfl
   left
   have hs:idx (HZ n) (i:Int)=some ⟨v,bits n.l v⟩:=getI (by unfold HZ;rw [List.getElem?_map,hv];rfl)
   have hl:=List.length_filter_le (stP n) ((varsA n).take i)
   have hl2:((varsA n).take i).length<=100000:=by rw [List.length_take];omega
   refine ⟨_,?_,rfl⟩;rw [takeS hv,List.filter_append];simp only [Ci];rw [dT (show (i:Int)<((HZ n).length:Int) by omega),cT,hs,oB,QY]
   cases hst:(occ n.l true v&&occ n.l false v) with
   | true=>rw [cT,Ab (by simp only [List.length_cons,List.length_nil];omega),Ab (by omega),List.filter_cons_of_pos (show stP n v=true from hst)];rfl
   | false=>rw [cF_,Ab (by omega),List.filter_cons_of_neg (by rw [show stP n v=false from hst];simp)];simp)
  (by
   rintro m q rfl;refine ⟨_,?_,rfl⟩;simp only [Ci];rw [dF (by omega),cF_,List.take_length]) (by rw [FUv];omega) [] (by simp)
 rw [e1,oB,e2]
def rho (w v u:Int):Int:=if u=w then v else u
noncomputable def mapV (f:List Int->List Int) (s:AutoState):AutoState:=⟨s.plus,s.all,s.int,s.bool,s.str,s.arrow,s.rec_,s.tag,f s.vars,s.dom,s.cod,s.fields,s.tags⟩
noncomputable def mapA (f:List Int->List Int) (a:AutoAuto):AutoAuto:=⟨a.l.map (mapV f),a.start⟩
noncomputable def putV (w v:Int) (l:List Int):List Int:=setC (l.map (rho w v))
theorem U6 (l:List Int) (w:Int) (hl:l.length<=100000) (hw:w∈l):∃ k:Nat,Cj l w=some (k:Int)/\l[k]? = some w:=by
 unfold Cj;rw [Fi (φ:=Bw l w) (l:=l) (fun i=>(i:Int)) (fun x=>decide (w=x)) ?_ ?_ (by rw [FUv];omega),oB]
 ·cases hf:l.findIdx? (fun x=>decide (w=x)) with
  | none =>
   rw [List.findIdx?_eq_none_iff] at hf
   have:=hf w hw
   simp at this
  | some k =>
   refine ⟨k,by rw [QF],?_⟩;rw [List.findIdx?_eq_some_iff_getElem] at hf;obtain ⟨h1,h2,_⟩:=hf;rw [List.getElem?_eq_getElem h1]
   simp at h2
   rw [h2]
 ·intro n i x hx hi
  simp only [Bw];rw [dT (show (i:Int)<(l.length:Int) by omega),cT,getI hx,oB];exact ⟨fun h=>by rw [h,cF_,Ab (by omega)],fun h=>by rw [h,cT]⟩
 ·intro n
  simp only [Bw];rw [dF (by omega),cF_]
theorem Vr {l:List Int} {w v:Int} {k:Nat} (hs:l.Pairwise (· < ·)) (hk:l[k]? = some w):setC (l.set k v)=putV w v l:=by
 refine TH fun z=>?_
 have hk2:=List.getElem?_eq_some_iff.1 hk
 have uniq:∀ j,l[j]? = some w->j=k:=by
  intro j hj
  have hj2:=List.getElem?_eq_some_iff.1 hj
  rcases Nat.lt_trichotomy j k with h | h | h
  ·have:=List.pairwise_iff_getElem.1 hs _ _ hj2.1 hk2.1 h;rw [hj2.2,hk2.2] at this;omega
  ·exact h
  ·have:=List.pairwise_iff_getElem.1 hs _ _ hk2.1 hj2.1 h;rw [hj2.2,hk2.2] at this;omega
 rw [List.mem_map]
 constructor
 ·intro hz
  obtain ⟨j,hj⟩:=List.getElem?_of_mem hz;rw [List.getElem?_set] at hj
  split at hj
  ·rename_i e
   rw [if_pos hk2.1] at hj
   cases hj
   exact ⟨w,List.mem_of_getElem? hk,by unfold rho;rw [if_pos rfl]⟩
  ·rename_i e
   exact ⟨z,List.mem_of_getElem? hj,by unfold rho;rw [if_neg];intro ez;subst ez;exact e (uniq j hj).symm⟩
 ·rintro ⟨u,hu,rfl⟩
  obtain ⟨j,hj⟩:=List.getElem?_of_mem hu;refine List.mem_of_getElem? (i:=j) ?_;rw [List.getElem?_set];unfold rho
  by_cases e:k=j
  ·subst e
   rw [hk] at hj
   cases hj
   rw [if_pos rfl,if_pos hk2.1,if_pos rfl]
  ·rw [if_neg e,hj,if_neg (fun ew=>e (uniq j (by rw [hj,ew])).symm)]
theorem Tb {l:List Int} {w v:Int} (hs:l.Pairwise (· < ·)) (hw:w∉l):putV w v l=l:=by
 refine (FA hs fun z=>?_).symm;rw [List.mem_map]
 constructor
 ·intro hz;exact ⟨z,hz,by unfold rho;rw [if_neg];intro e;subst e;exact hw hz⟩
 ·rintro ⟨u,hu,rfl⟩
  have hne:¬ u=w:=by intro e;subst e;exact hw hu
  unfold rho;rw [if_neg hne];exact hu
theorem QH {n:AutoAuto} (h:AB n) (hs:SortA n) (w v:Int):Ez n w v=some (mapA (putV w v) n):=by
 have hlen:=h.1
 unfold Ez;obtain ⟨o,e1,e2⟩:=A5 (φ:=fun m i q=>BV n w v m (i,q)) (l:=n.l) (fun i q=>q=(n.l.take i).map (mapV (putV w v))++n.l.drop i) (fun o=>o=mapA (putV w v) n)
  (by
   rintro m i s q hx hi rfl
   left
   have hd:=JD hx
   have hm:=List.mem_of_getElem? hx
   have hA:((n.l.take i).map (mapV (putV w v))).length=i:=by rw [List.length_map,List.length_take];omega
   have hsl:=(h.2 s hm).1
   have hg:((n.l.take i).map (mapV (putV w v))++n.l.drop i)[i]? = some s:=by
    rw [List.getElem?_append_right (by omega),hd,hA,Nat.sub_self];rfl
   have hi2:InR ((i:Int)+1):=by unfold InR;omega
   by_cases hw:w∈s.vars
   ·obtain ⟨k,q1,q2⟩:=U6 s.vars w (by omega) hw
    refine ⟨_,?_,rfl⟩
    have hset:((n.l.take i).map (mapV (putV w v))++n.l.drop i).set ((i:Int)).toNat (mapV (putV w v) s)=(n.l.take (i+1)).map (mapV (putV w v))++n.l.drop (i+1):=by
     rw [hd,Int.toNat_natCast,NR hA,takeS hx,List.map_append,List.append_assoc];rfl
    rw [<- hset];simp only [BV];rw [dT (show (i:Int)<(n.l.length:Int) by omega),cT,getI hg,oB,IV s w (hs s hm) hsl,oB,dT hw,Bool.not_true,cF_,Ab (by omega),q1,oB,getI q2,oB,Int.toNat_natCast,Ab (by rw [List.length_set];omega),Ab hi2]
    have hp:=Vr (v:=v) (hs s hm) q2
    unfold setC at hp;rw [hp]
    rfl
   ·refine ⟨(n.l.take i).map (mapV (putV w v))++n.l.drop i,?_,?_⟩
    ·simp only [BV]
     rw [dT (show (i:Int)<(n.l.length:Int) by omega),cT,getI hg,oB,IV s w (hs s hm) hsl,oB,dF hw,Bool.not_false,cT,Ab hi2]
    ·rw [takeS hx,List.map_append,List.append_assoc,hd]
     have:mapV (putV w v) s=s:=by unfold mapV;rw [Tb (hs s hm) hw]
     simp only [List.map_cons,List.map_nil,this,List.cons_append,List.nil_append])
  (by
   rintro m q rfl;refine ⟨_,?_,rfl⟩;simp only [BV];rw [dF (by omega),cF_,List.take_length,List.drop_length,List.append_nil]
   rfl) (by rw [FUv];omega) n.l (by simp)
 rw [e1,e2]
theorem RI {α β:Type} (f:α->β) (l:List α) (k:Int):idx (l.map f) k=(idx l k).map f:=by
 unfold idx
 split
 ·rw [List.getElem?_map]
 ·rfl
theorem R5 (f:List Int->List Int) (a:AutoAuto) (k:Int) (p:Bool):onP (mapA f a) k p=onP a k p:=by
 unfold onP mapA;simp only [RI]
 cases idx a.l k <;> rfl
theorem Rv (f:List Int->List Int) (hf:f []=[]) (a:AutoAuto) (k:Int):stA (mapA f a) k=mapV f (stA a k):=by
 unfold stA mapA;simp only [RI]
 cases idx a.l k with
 | some s=>rfl
 | none=>simp [mapV,st0,hf]
theorem SA (f:List Int->List Int) (hf:f []=[]) (a:AutoAuto):normP (mapA f a)=mapA f (normP a):=by
 have hl:(mapA f a).l.length=a.l.length:=by unfold mapA;rw [List.length_map]
 have hnx:nxA (mapA f a)=nxA a:=by
  funext k
  unfold nxA;rw [Rv f hf]
  rfl
 have ho:AH (mapA f a)=AH a:=by
  unfold AH;rw [hnx,hl]
  rfl
 have ht:toP (mapA f a)=toP a:=by
  unfold toP;rw [ho,hl]
 unfold normP;rw [ho,ht];unfold mapA
 congr 1
 rw [List.map_map]
 apply List.map_congr_left
 intro k _
 have:=Rv f hf a k
 unfold mapA at this;rw [this]
 rfl
def NF (n:AutoAuto):Prop:=AB n/\mayP n=0/\normP n=n
theorem QI {l:List Int} (h:∀ i x,l[i]? = some x->numP l i x):l.Pairwise (· < ·):=by
 have key:∀ (d i:Nat) x y,l[i]? = some x->l[i+d+1]? = some y->x<y:=by
  intro d
  induction d with
  | zero=>intro i x y hx hy;exact (h (i+1) y hy).2.2 (by omega) x (by simpa using hx)
  | succ d ih =>
   intro i x y hx hy
   have hlt:=(List.getElem?_eq_some_iff.1 hy).1
   have hz:l[i+d+1]? = some (l[i+d+1]'(by omega)):=List.getElem?_eq_getElem (by omega)
   have h1:=ih i x _ hx hz
   have h2:=(h (i+(d+1)+1) y hy).2.2 (by omega) _ (by rw [show i+(d+1)+1 - 1=i+d+1 by omega];exact hz)
   omega
 rw [List.pairwise_iff_getElem]
 intro i j hi hj hij
 exact key (j - i - 1) i _ _ (List.getElem?_eq_getElem hi) (by rw [show i+(j - i - 1)+1=j by omega];exact List.getElem?_eq_getElem hj)
theorem Q0 {l:List Int} (hs:l.Pairwise (· < ·)) (h:∀ x∈l,0<=x/\x<=999):∀ i x,l[i]? = some x->numP l i x:=by
 intro i x hx
 have h1:=h x (List.mem_of_getElem? hx)
 refine ⟨h1.1,h1.2,fun hi y hy=>?_⟩
 have hx2:=List.getElem?_eq_some_iff.1 hx
 have hy2:=List.getElem?_eq_some_iff.1 hy
 have:=List.pairwise_iff_getElem.1 hs _ _ hy2.1 hx2.1 (by omega)
 rw [hy2.2,hx2.2] at this;exact this
theorem Iz {n:AutoAuto} (hm:mayP n=0):SortA n:=fun s hs=>QI ((FN hm).2.2.1 s hs).2.1
theorem TR {f:List Int->List Int} (hf:f []=[]) {s:AutoState} (h:bareP s=true):bareP (mapV f s)=true:=by
 unfold bareP at h ⊢;unfold mapV
 by_cases hv:s.vars=[]
 ·simp only [hv,hf] at h ⊢
  exact h
 ·have hp:decide (0<(s.vars.length:Int))=true:=dT (by have:=List.length_pos_iff.2 hv;omega)
  rw [hp] at h
  cases ha:s.all with
  | true=>rw [ha] at h;simp at h
  | false=>rw [ha] at h;simpa using h
theorem RQ {f:List Int->List Int} (hf:f []=[]) {n:AutoAuto} (hm:mayP n=0) (hg:∀ s∈n.l,(f s.vars).Pairwise (· < ·)/\∀ x∈f s.vars,0<=x/\x<=999):mayP (mapA f n)=0:=by
 obtain ⟨h1,h2,h3,h4⟩:=FN hm
 have hl:(mapA f n).l.length=n.l.length:=by unfold mapA;rw [List.length_map]
 refine UO (by omega) (by omega) ?_ (by rw [R5];exact h4)
 intro s hs
 obtain ⟨t,ht,rfl⟩:=List.mem_map.1 (show s∈n.l.map (mapV f) from hs);obtain ⟨r1,r2,r3,r4,r5⟩:=h3 t ht;refine ⟨TR hf r1,Q0 (hg t ht).1 (hg t ht).2,r3,r4,?_⟩
 intro i x hx
 rw [R5];exact r5 i x hx
theorem Uu {f:List Int->List Int} {n:AutoAuto} (h:AB n) (hf:∀ s∈n.l,(f s.vars).length<=40):AB (mapA f n):=by
 refine ⟨by show (n.l.map (mapV f)).length<=2001;rw [List.length_map];exact h.1,?_⟩
 intro s hs
 obtain ⟨t,ht,rfl⟩:=List.mem_map.1 (show s∈n.l.map (mapV f) from hs);exact ⟨hf t ht,(h.2 t ht).2.1,(h.2 t ht).2.2⟩
theorem KC {n:AutoAuto} (hm:mayP n=0) {v:Int} (hv:v∈varsA n):0<=v/\v<=999:=by
 obtain ⟨s,hs,hvs⟩:=varsA_mem.1 hv;obtain ⟨i,hi⟩:=List.getElem?_of_mem hvs
 have:=((FN hm).2.2.1 s hs).2.1 i v hi
 exact ⟨this.1,this.2.1⟩
theorem put_mem {w v z:Int} {l:List Int}:z∈putV w v l↔∃ u∈l,rho w v u=z:=by
 unfold putV;rw [(E9 _).2,List.mem_map]
theorem U3 {n:AutoAuto} (h:NF n) {w v:Int} (hv:v∈varsA n):NF (mapA (putV w v) n):=by
 obtain ⟨h1,h2,h3⟩:=h
 have hnil:putV w v []=[]:=PV
 refine ⟨Uu h1 fun s hs=>?_,RQ hnil h2 fun s hs=>⟨(E9 _).1,fun x hx=>?_⟩,by rw [SA _ hnil,h3]⟩
 ·have a1:=PN (s.vars.map (rho w v))
  have a2:=(h1.2 s hs).1
  rw [List.length_map] at a1
  show (setC (s.vars.map (rho w v))).length<=40
  omega
 ·obtain ⟨u,hu,rfl⟩:=put_mem.1 hx
  unfold rho
  split
  ·exact KC h2 hv
  ·exact KC h2 (varsA_mem.2 ⟨s,hs,hu⟩)
theorem TC {n:AutoAuto} {w v:Int} (hv:v∈varsA n) (hw:w∈varsA n) (hne:v≠w):(varsA (mapA (putV w v) n)).length<(varsA n).length:=by
 have e:varsA (mapA (putV w v) n)=(varsA n).filter fun u => !decide (u=w):=by
  refine (FA ((E9 (n.l.flatMap (·.vars))).1.sublist List.filter_sublist) fun z=>?_).symm;rw [List.mem_filter]
  have hm:(z∈(mapA (putV w v) n).l.flatMap (·.vars))↔∃ s∈n.l,∃ u∈s.vars,rho w v u=z:=by
   rw [List.mem_flatMap]
   constructor
   ·rintro ⟨s,hs,hz⟩
    obtain ⟨t,ht,rfl⟩:=List.mem_map.1 (show s∈n.l.map (mapV (putV w v)) from hs);exact ⟨t,ht,put_mem.1 hz⟩
   ·rintro ⟨t,ht,hz⟩
    exact ⟨_,List.mem_map.2 ⟨t,ht,rfl⟩,put_mem.2 hz⟩
  rw [hm]
  constructor
  ·rintro ⟨hz,hzw⟩
   obtain ⟨s,hs,hzs⟩:=varsA_mem.1 (show z∈varsA n from hz);exact ⟨s,hs,z,hzs,by unfold rho;rw [if_neg (by simpa using hzw)]⟩
  ·rintro ⟨s,hs,u,hu,rfl⟩
   unfold rho
   by_cases e:u=w
   ·rw [if_pos e];exact ⟨hv,by simpa using hne⟩
   ·rw [if_neg e];exact ⟨varsA_mem.2 ⟨s,hs,hu⟩,by simpa using e⟩
 rw [e];rw [List.length_filter_lt_length_iff_exists];exact ⟨w,hw,by simp⟩
noncomputable def bwP (a:AutoAuto) (sel:AutoState->Bool) (v:Int):Bool:=decide (∀ s∈a.l,v∈s.vars->sel s=true)
theorem QE (a:AutoAuto) (sel:AutoState->Bool) (v:Int):(!a.l.any fun s=>decide (v∈s.vars) && !sel s)=bwP a sel v:=by
 unfold bwP;rw [Bool.eq_iff_iff,Bool.not_eq_true',List.any_eq_false,decide_eq_true_eq]
 constructor
 ·intro h s hs hv
  have:=h s hs
  simpa [hv] using this
 ·intro h s hs
  by_cases hv:v∈s.vars
  ·simp [hv,h s hs hv]
  ·simp [hv]
theorem NV {a:AutoAuto} (h:AB a) (hs:SortA a) (v:Int):Dk a v=some (bwP a (·.int) v):=by
 unfold Dk;rw [GY a.l _ (fun s=>decide (v∈s.vars) && !s.int) ?_ (by have:=h.1;omega),oB,QE]
 intro s hm
 unfold DH EE;rw [IV s v (hs s hm) (h.2 s hm).1]
 by_cases hv:v∈s.vars <;> simp [hv]
theorem Oc {a:AutoAuto} (h:AB a) (hs:SortA a) (v:Int):Dj a v=some (bwP a (·.bool) v):=by
 unfold Dj;rw [GY a.l _ (fun s=>decide (v∈s.vars) && !s.bool) ?_ (by have:=h.1;omega),oB,QE]
 intro s hm
 unfold DI EQ;rw [IV s v (hs s hm) (h.2 s hm).1]
 by_cases hv:v∈s.vars <;> simp [hv]
theorem Oy {a:AutoAuto} (h:AB a) (hs:SortA a) (v:Int):De a v=some (bwP a (·.str) v):=by
 unfold De;rw [GY a.l _ (fun s=>decide (v∈s.vars) && !s.str) ?_ (by have:=h.1;omega),oB,QE]
 intro s hm
 unfold DG EL;rw [IV s v (hs s hm) (h.2 s hm).1]
 by_cases hv:v∈s.vars <;> simp [hv]
noncomputable def goneP (a:AutoAuto) (v:Int):Bool:=stP a v&&(bwP a (·.int) v||bwP a (·.bool) v||bwP a (·.str) v)
noncomputable def keepP (a:AutoAuto) (l:List Int):List Int:=l.filter fun v => !goneP a v
theorem M9 (g:Int->Bool):∀ (ds:List Int) (mm:List (Int×Bool)) (v:Int),mget (ds.foldl (fun m v=>mset m v (g v)) mm) v=if v∈ds then some (g v) else mget mm v
 | [],mm,v=>by simp
 | d::ds,mm,v=>by
  rw [List.foldl_cons,M9 g ds,PI]
  by_cases h1:v∈ds
  ·simp [h1]
  ·by_cases h2:v=d
   ·subst h2;simp [h1]
   ·simp [h1,h2]
theorem UT (n:AutoAuto) (v:Int) (hv:v∈varsA n):(mget (((varsA n).filter (stP n)).foldl (fun m v=>mset m v (bwP n (·.int) v||bwP n (·.bool) v||bwP n (·.str) v)) []) v).getD false=goneP n v:=by
 rw [M9];unfold goneP
 cases hs:stP n v with
 | true=>rw [if_pos (List.mem_filter.2 ⟨hv,hs⟩)];rfl
 | false=>rw [if_neg (fun h=>by have:=(List.mem_filter.1 h).2;rw [hs] at this;cases this)];rfl
theorem VC {n:AutoAuto} (h:AB n):AB (mapA (keepP n) n):=Uu h fun s hs=>by
 have h1:=List.length_filter_le (fun v => !goneP n v) s.vars
 have:=(h.2 s hs).1
 show (s.vars.filter fun v => !goneP n v).length<=40
 omega
theorem UQ {c:List AutoState} (hP:PolA c) {f:Int->Option Int} {ρ ρ':Pt->Int->Prop} {i:Int} (h0:0<=i) (h1:i<(c.length:Int)) (hp:(stL c i).plus=true)
  (hplus:∀ s∈c,s.plus=true->∀ v∈s.vars,∀ p,ρ p v->(∃ u∈s.vars,∃ z,f u=some z/\ρ' p z)\/baseP s p)
  (hminus:∀ s∈c,s.plus=false->∀ p,(∀ u∈s.vars,∀ z,f u=some z->ρ' p z)->baseM s p->∀ v∈s.vars,ρ p v) :
  ∀ p,SatS c ρ p i->SatS (c.map (stW f)) ρ' p i:=by
 intro p
 refine (KB (JZ hP f) (ρ:=ρ) (ρ':=ρ') ?_ ?_ p i i ⟨rfl,h0,h1⟩).1 hp
 ·rintro i _ p ⟨rfl,h0,h1⟩ hpl ⟨v,hv,hr⟩
  rw [D3 h0 h1]
  rcases hplus _ (Gg h0 h1).2 hpl v hv p hr with ⟨u,hu,z,hz,hz'⟩ | hb
  ·exact .inl ⟨z,stW_vars.2 ⟨u,hu,hz⟩,hz'⟩
  ·exact .inr hb
 ·rintro i _ p ⟨rfl,h0,h1⟩ hpl hall hb v hv
  rw [D3 h0 h1] at hall hb;exact hminus _ (Gg h0 h1).2 hpl p (fun u hu z hz=>hall z (stW_vars.2 ⟨u,hu,hz⟩)) hb v hv
theorem PC {c:List AutoState} (hP:PolA c) {f:Int->Option Int} {ρ ρ':Pt->Int->Prop} {i:Int} (h0:0<=i) (h1:i<(c.length:Int)) (hp:(stL c i).plus=true)
  (hplus:∀ s∈c,s.plus=true->∀ u∈s.vars,∀ z,f u=some z->∀ p,ρ' p z->(∃ v∈s.vars,ρ p v)\/baseP s p)
  (hminus:∀ s∈c,s.plus=false->∀ p,(∀ v∈s.vars,ρ p v)->baseM s p->∀ u∈s.vars,∀ z,f u=some z->ρ' p z) :
  ∀ p,SatS (c.map (stW f)) ρ' p i->SatS c ρ p i:=by
 intro p
 refine (KB (JZ hP f).symm (ρ:=ρ') (ρ':=ρ) ?_ ?_ p i i ⟨rfl,h0,h1⟩).1 (by rw [D3 h0 h1];exact hp)
 ·rintro i _ p ⟨rfl,h0,h1⟩ hpl ⟨z,hz,hr⟩
  rw [D3 h0 h1] at hz hpl;obtain ⟨v,hv,hf⟩:=stW_vars.1 hz;exact hplus _ (Gg h0 h1).2 hpl v hv z hf p hr
 ·rintro i _ p ⟨rfl,h0,h1⟩ hpl hall hb z hz
  rw [D3 h0 h1] at hz hpl;obtain ⟨v,hv,hf⟩:=stW_vars.1 hz;exact hminus _ (Gg h0 h1).2 hpl p hall hb v hv z hf
theorem WG {c:List AutoState} (hP:PolA c) {w v:Int} {q:Bool} (ht:∀ s∈c,s.plus=q->(v∈s.vars↔w∈s.vars)) {i:Int} (h0:0<=i) (h1:i<(c.length:Int)) (hp:(stL c i).plus=true) (D:Pt->Prop) :
  ExR (c.map (stW fun u=>some (rho w v u))) i D↔ExR c i D:=by
 have hrho:∀ u,(rho w v u=v/\(u=w\/u=v))\/(rho w v u=u/\u≠w/\u≠v):=by
  intro u
  unfold rho
  by_cases h:u=w
  ·rw [if_pos h];exact .inl ⟨rfl,.inl h⟩
  ·rw [if_neg h]
   by_cases h':u=v
   ·exact .inl ⟨h',.inr h'⟩
   ·exact .inr ⟨rfl,h,h'⟩
 constructor
 ·rintro ⟨ρ',h⟩
  refine ⟨fun p u=>ρ' p (rho w v u),fun p hq=>h p (Vs hP h0 h1 hp ?_ ?_ p hq)⟩
  ·intro s hs hpl u hu p hr;exact ⟨_,rfl,hr⟩
  ·intro s hs hpl u hu p hz;exact hz _ rfl
 ·rintro ⟨ρ,h⟩
  cases q with
  | true =>
   refine ⟨fun p z=>(z=v/\(ρ p v\/ρ p w))\/(z≠v/\ρ p z),fun p hq=>h p (PC hP h0 h1 hp ?_ ?_ p hq)⟩
   ·intro s hs hpl u hu z hz p hr
    obtain rfl:=Option.some.inj hz
    left
    rcases hrho u with ⟨e,hu'⟩ | ⟨e,h1,h2⟩
    ·have hv:v∈s.vars:=by
      rcases hu' with rfl | rfl
      ·exact (ht s hs hpl).2 hu
      ·exact hu
     rcases hr with ⟨_,hr | hr⟩ | ⟨hr,_⟩
     ·exact ⟨v,hv,hr⟩
     ·exact ⟨w,(ht s hs hpl).1 hv,hr⟩
     ·exact absurd e hr
    ·rw [e] at hr
     rcases hr with ⟨hr,_⟩ | ⟨_,hr⟩
     ·exact absurd hr h2
     ·exact ⟨u,hu,hr⟩
   ·intro s hs hpl p hall _ u hu z hz
    obtain rfl:=Option.some.inj hz
    rcases hrho u with ⟨e,rfl | rfl⟩ | ⟨e,h1,h2⟩
    ·rw [e];exact .inl ⟨rfl,.inr (hall _ hu)⟩
    ·rw [e];exact .inl ⟨rfl,.inl (hall _ hu)⟩
    ·rw [e];exact .inr ⟨h2,hall _ hu⟩
  | false =>
   refine ⟨fun p z=>(z=v/\ρ p v/\ρ p w)\/(z≠v/\ρ p z),fun p hq=>h p (PC hP h0 h1 hp ?_ ?_ p hq)⟩
   ·intro s hs hpl u hu z hz p hr
    obtain rfl:=Option.some.inj hz
    left
    rcases hrho u with ⟨e,hu'⟩ | ⟨e,h1,h2⟩
    ·rcases hr with ⟨_,hr⟩ | ⟨hr,_⟩
     ·rcases hu' with rfl | rfl
      ·exact ⟨_,hu,hr.2⟩
      ·exact ⟨_,hu,hr.1⟩
     ·exact absurd e hr
    ·rw [e] at hr
     rcases hr with ⟨hr,_⟩ | ⟨_,hr⟩
     ·exact absurd hr h2
     ·exact ⟨u,hu,hr⟩
   ·intro s hs hpl p hall _ u hu z hz
    obtain rfl:=Option.some.inj hz
    rcases hrho u with ⟨e,hu'⟩ | ⟨e,h1,h2⟩
    ·have hv:v∈s.vars:=by
      rcases hu' with rfl | rfl
      ·exact (ht s hs hpl).2 hu
      ·exact hu
     rw [e];exact .inl ⟨rfl,hall _ hv,hall _ ((ht s hs hpl).1 hv)⟩
    ·rw [e];exact .inr ⟨h2,hall _ hu⟩
theorem V9 {c:List AutoState} (hP:PolA c) {g:Int->Bool} (hg:∀ v,g v=true->(∀ s∈c,v∈s.vars->s.int=true)\/(∀ s∈c,v∈s.vars->s.bool=true)\/(∀ s∈c,v∈s.vars->s.str=true))
  {i:Int} (h0:0<=i) (h1:i<(c.length:Int)) (hp:(stL c i).plus=true) (D:Pt->Prop):ExR (c.map (stW fun v=>bif g v then none else some v)) i D↔ExR c i D:=by
 constructor
 ·rintro ⟨ρ',h⟩
  refine ⟨fun p v=>(g v=false/\ρ' p v)\/(g v=true/\(((∀ s∈c,v∈s.vars->s.int=true)/\leafM 3 p)\/((¬ ∀ s∈c,v∈s.vars->s.int=true)/\(∀ s∈c,v∈s.vars->s.bool=true)/\leafM 4 p) \/
   ((¬ ∀ s∈c,v∈s.vars->s.int=true)/\(¬ ∀ s∈c,v∈s.vars->s.bool=true)/\leafM 5 p))),fun p hs=>h p (UQ hP h0 h1 hp ?_ ?_ p hs)⟩
  ·rintro s hs hpl v hv p (⟨e,hr⟩ | ⟨e,hr⟩)
   ·exact .inl ⟨v,hv,v,by rw [e];rfl,hr⟩
   ·right
    rcases hr with ⟨ha,hr⟩ | ⟨_,ha,hr⟩ | ⟨n1,n2,hr⟩
    ·exact .inl ⟨ha s hs hv,hr⟩
    ·exact .inr (.inl ⟨ha s hs hv,hr⟩)
    ·rcases hg v e with ha | ha | ha
     ·exact absurd ha n1
     ·exact absurd ha n2
     ·exact .inr (.inr ⟨ha s hs hv,hr⟩)
  ·intro s hs hpl p hall hb v hv
   cases e:g v with
   | false=>exact .inl ⟨rfl,hall v hv v (by rw [e];rfl)⟩
   | true =>
    refine .inr ⟨rfl,?_⟩
    by_cases a1:∀ s∈c,v∈s.vars->s.int=true
    ·exact .inl ⟨a1,hb.1 (a1 s hs hv)⟩
    ·by_cases a2:∀ s∈c,v∈s.vars->s.bool=true
     ·exact .inr (.inl ⟨a1,a2,hb.2.1 (a2 s hs hv)⟩)
     ·rcases hg v e with ha | ha | ha
      ·exact absurd ha a1
      ·exact absurd ha a2
      ·exact .inr (.inr ⟨a1,a2,hb.2.2 (ha s hs hv)⟩)
 ·rintro ⟨ρ,h⟩
  refine ⟨ρ,fun p hs=>h p (Vd hP h0 h1 hp ?_ ?_ p hs)⟩
  ·intro s hs hpl u hu z hz p hr
   cases e:g u with
   | true=>rw [e] at hz;cases hz
   | false=>rw [e] at hz;cases hz;exact hr
  ·intro s hs hpl u hu z hz p hr
   cases e:g u with
   | true=>rw [e] at hz;cases hz
   | false=>rw [e] at hz;cases hz;exact hr
theorem K3 {a b:AutoAuto} (hab:AB a) (hm:mayP a=0) (hl:a.l.length<=10) (hbb:AB b) (hbm:mayP b=0) (hbl:b.l.length<=10) {u:ATy} {gl:List Int} (hu:MayO u) (hg:GU u gl) (hul:u.l.length<=6)
  (hE:∀ D,ExR b.l b.start D↔ExR a.l a.start D):AD (typeW b) u=AD (typeW a) u:=by
 obtain ⟨s0,s1,s2⟩:=G3 (FN hm).2.2.2;obtain ⟨n0,n1,n2⟩:=G3 (FN hbm).2.2.2;rw [IM (QD hab hm (by omega)) hl (IY hm) s0 s1 s2 hu hg hul,IM (QD hbb hbm (by omega)) hbl (IY hbm) n0 n1 n2 hu hg hul];exact congrArg some (decide_eq_decide.2 (hE fun p=>Sat u p u.root))
theorem RS (a:AutoAuto) (v w:Int) (p:Bool) (h:AB a) (hs:SortA a):∃ r,B6 a v w p=some r/\(r=true->v≠w/\∀ s∈a.l,s.plus=p->(v∈s.vars↔w∈s.vars)):=by
 have hlen:=h.1
 obtain ⟨o,e1,e2⟩:=A5 (φ:=fun n i s=>B8 a v w p n (s,i)) (l:=a.l) (fun i _=>∀ (j:Nat) (s:AutoState),j<i->a.l[j]? = some s->s.plus=p->(v∈s.vars↔w∈s.vars)) (fun o=>o = .ret false\/∃ b,o = .go b/\∀ (j:Nat) (s:AutoState),a.l[j]? = some s->s.plus=p->(v∈s.vars↔w∈s.vars))
  (by
   intro n i s b hx hi hI
   have hm:=List.mem_of_getElem? hx
   have h2:=fun v=>IV s v (hs s hm) (h.2 s hm).1
   have hnext:(s.plus=p->(v∈s.vars↔w∈s.vars))->∀ j t,j<i+1->a.l[j]? = some t->t.plus=p->(v∈t.vars↔w∈t.vars):=by
    intro hs j t hj ht
    by_cases e:j=i
    ·subst e;rw [hx] at ht;cases ht;exact hs
    ·exact hI j t (by omega) ht
   simp only [B8];rw [dT (show (i:Int)<(a.l.length:Int) by omega),cT,getI hx,oB];rw [show (⟨s.plus,s.all,s.int,s.bool,s.str,s.arrow,s.rec_,s.tag,s.vars,s.dom,s.cod,s.fields,s.tags⟩:AutoState)=s from rfl,h2,oB,h2,oB]
   cases hc:(!(s.plus == p)) with
   | true=>left;exact ⟨b,by rw [cT,Ab (by omega)],hnext fun e=>by rw [e] at hc;simp at hc⟩
   | false =>
    rw [cF_]
    cases hd:(!(decide (v∈s.vars) == decide (w∈s.vars))) with
    | true=>right;exact ⟨_,by rw [cT],.inl rfl⟩
    | false=>left;exact ⟨_,by rw [cF_,Ab (by omega)],hnext fun _=>by simpa using hd⟩)
  (by
   intro n s hI
   refine ⟨.go s,?_,.inr ⟨s,rfl,fun j t ht=>hI j t (List.getElem?_eq_some_iff.1 ht).1 ht⟩⟩;simp only [B8];rw [dF (by omega),cF_]) (by rw [FUv];omega) false (fun j s hj=>by omega)
 unfold B6;rw [e1,oB]
 rcases e2 with rfl | ⟨b,rfl,hA⟩
 ·exact ⟨false,by rw [QF],fun h=>by cases h⟩
 ·refine ⟨_,by rw [Wz],fun hr=>?_⟩
  simp only [Bool.and_eq_true,Bool.not_eq_true',decide_eq_false_iff_not] at hr;refine ⟨hr.2,fun s hs=>?_⟩;obtain ⟨j,hj⟩:=List.getElem?_of_mem hs;exact hA j s hj
noncomputable def togP (a:AutoAuto) (v w:Int) (p:Bool):Bool:=(B6 a v w p).getD false
theorem Qu (a:AutoAuto) (v w:Int) (p:Bool) (h:AB a) (hs:SortA a):B6 a v w p=some (togP a v w p):=by
 obtain ⟨r,e,_⟩:=RS a v w p h hs;unfold togP;rw [e];rfl
theorem Lq {a:AutoAuto} {v w:Int} {p:Bool} (h:AB a) (hs:SortA a) (ht:togP a v w p=true):v≠w/\∀ s∈a.l,s.plus=p->(v∈s.vars↔w∈s.vars):=by
 obtain ⟨r,e,hr⟩:=RS a v w p h hs;unfold togP at ht;rw [e] at ht;exact hr ht
noncomputable def taP (a:AutoAuto) (v w:Int):Bool:=togP a v w true||togP a v w false
theorem Vk {n:AutoAuto} (h:AB n) (hs:SortA n):(EO ((varsA n).filter (stP n)) fun y0 y1=>Et y0 y1 n)=some (El (taP n) ((varsA n).filter (stP n))):=by
 have hl:=List.length_filter_le (stP n) (varsA n)
 have hl2:=Hn h
 refine Uh _ _ (taP n) (fun v w=>?_) (by omega);unfold Et taP;rw [Qu _ _ _ _ h hs,Qu _ _ _ _ h hs]
 cases togP n v w true <;> simp
theorem TG (w v:Int) (n:AutoAuto):mapA (putV w v) n=⟨n.l.map (stW fun u=>some (rho w v u)),n.start⟩:=by
 unfold mapA
 congr 1
 apply List.map_congr_left
 intro s _
 unfold mapV stW putV
 congr 2
 rw [List.filterMap_eq_map']
theorem Sa {n:AutoAuto} (hs:SortA n):mapA (keepP n) n=⟨n.l.map (stW fun v=>bif goneP n v then none else some v),n.start⟩:=by
  unfold mapA
  congr 1
  apply List.map_congr_left
  intro s hm
  unfold mapV stW
  congr 1
  refine FA ((hs s hm).sublist List.filter_sublist) fun z=>?_
  unfold keepP
  rw [List.mem_filter,List.mem_filterMap]
  constructor
  · rintro ⟨h1,h2⟩
    exact ⟨z,h1,by have:goneP n z=false:=by simpa using h2
                   rw [this];rfl⟩
  · rintro ⟨v,h1,h2⟩
    cases e:goneP n v with
    | true=>rw [e] at h2;cases h2
    | false=>rw [e] at h2;cases h2;exact ⟨h1,by rw [e];rfl⟩
theorem Jl {n:AutoAuto} (h:NF n) {v w:Int} {b:Bool} (hr:El (taP n) ((varsA n).filter (stP n))=(v,w,b)) :
  (∀ x f,CQ x (f+1) (n.start,n.l)=bif !b then some (n,x) else CQ x f ((mapA (putV w v) n).start,(mapA (putV w v) n).l)) /\
  (b=true->v∈varsA n/\w∈varsA n/\v≠w/\∃ q:Bool,∀ s:AutoState,s∈n.l->s.plus=q->(v∈s.vars↔w∈s.vars)):=by
 obtain ⟨h1,h2,h3⟩:=h
 have hs:=Iz h2
 have hp:=Vk h1 hs
 rw [hr] at hp
 have hd:=Mj h1 h2 h3
 refine ⟨fun x f=>?_,fun e=>?_⟩
 ·simp only [CQ]
  rw [show (⟨n.l,n.start⟩:AutoAuto)=n from rfl,hd,oB,hp,oB]
  cases b with
  | false=>rfl
  | true =>
   simp only [Bool.not_true,cF_];rw [QH h1 hs,oB]
   rfl
 ·subst e
  obtain ⟨q1,q2,q3⟩:=K7 hr;unfold taP at q3;rw [Bool.or_eq_true] at q3
  rcases q3 with q | q
  ·exact ⟨(List.mem_filter.1 q1).1,(List.mem_filter.1 q2).1,(Lq h1 hs q).1,_,(Lq h1 hs q).2⟩
  ·exact ⟨(List.mem_filter.1 q1).1,(List.mem_filter.1 q2).1,(Lq h1 hs q).1,_,(Lq h1 hs q).2⟩
theorem LN:∀ (m f:Nat) (n:AutoAuto),NF n->(varsA n).length<=m->m<f->∃ r,(∀ x,CQ x f (n.start,n.l)=some (r,x))/\NF r/\r.l.length=n.l.length/\∀ D,ExR r.l r.start D↔ExR n.l n.start D
 | m,0,n,_,_,h=>by omega
 | m,f+1,n,h,hm,hf=>by
  generalize hr:El (taP n) ((varsA n).filter (stP n))=r
  obtain ⟨v,w,b⟩:=r;obtain ⟨e1,e3⟩:=Jl h hr
  cases b with
  | false=>exact ⟨n,fun x=>by rw [e1];rfl,h,rfl,fun _=>Iff.rfl⟩
  | true =>
   obtain ⟨q1,q2,q3,q,ht⟩:=e3 rfl
   have hlt:=TC q1 q2 q3
   have hn:=U3 h q1 (w:=w)
   obtain ⟨s0,s1,s2⟩:=G3 (FN h.2.1).2.2.2
   have hE:∀ D,ExR (mapA (putV w v) n).l (mapA (putV w v) n).start D↔ExR n.l n.start D:=by
    intro D
    rw [TG];exact WG (IY h.2.1) ht s0 s1 s2 D
   cases m with
   | zero=>omega
   | succ m =>
    obtain ⟨r,r1,r2,r3,r4⟩:=LN m f _ hn (by omega) (by omega);refine ⟨r,fun x=>?_,r2,by rw [r3];exact List.length_map ..,fun D=>(r4 D).trans (hE D)⟩;rw [e1,Bool.not_true,cF_];exact r1 x
theorem JF {a:AutoAuto} (h:AB a) (hm:mayP a=0):NF (normP a):=⟨NS (Hg h hm),TU h hm,Sn (Hg h hm)⟩
theorem UB {a:AutoAuto} (h:AB a) (hm:mayP a=0):∃ r,CB a=some (r,0)/\NF r/\r.l.length=(normP a).l.length/\∀ D,ExR r.l r.start D↔ExR (normP a).l (normP a).start D:=by
 have hn:=JF h hm
 have hlen:=Hn hn.1
 obtain ⟨r,r1,r2,r3,r4⟩:=LN 100000 FU (normP a) hn hlen (by rw [FUv];omega);refine ⟨r,?_,r2,r3,r4⟩;unfold CB;rw [J2 h hm];simp only [oB,decide_true,Bool.not_true,cF_];exact r1 0
theorem Ul {a:AutoAuto} (h:AB a) (hm:¬ mayP a=0):CB a=some (⟨[],0⟩,mayP a):=by
 unfold CB;rw [O8 h hm];simp only [oB];rw [dF hm,Bool.not_false,cT]
theorem K5 {a:AutoAuto} (h:AB a) (hm:mayP a=0) (v w:Int) (p:Bool):Co a v w p=some (togP (normP a) v w p):=by
 have hn:=JF h hm
 unfold Co;rw [Vm h hm];simp only [oB,decide_true,cT];rw [show (⟨(normP a).l,(normP a).start⟩:AutoAuto)=normP a from rfl,Qu _ _ _ _ hn.1 (Iz hn.2.1)]
 rfl
noncomputable def gvP (n:AutoAuto) (v:Int):Bool:=bwP n (·.int) v||bwP n (·.bool) v||bwP n (·.str) v
noncomputable def goneM (n:AutoAuto) (ds:List Int):List (Int×Bool):=ds.foldl (fun m v=>mset m v (gvP n v)) []
theorem QO {n:AutoAuto} (h:AB n) (hs:SortA n) (ds:List Int) (hl:ds.length<=100000):BK n ds FU (0,[])=some (goneM n ds):=by
 obtain ⟨o,e1,e2⟩:=A5 (φ:=fun m i q=>BK n ds m (i,q)) (l:=ds) (fun i q=>q=goneM n (ds.take i)) (fun o=>o=goneM n ds)
  (by
   rintro m i v q hv hi rfl
   left
   have hi2:InR ((i:Int)+1):=by unfold InR;omega
   have hg:goneM n (ds.take (i+1))=mset (goneM n (ds.take i)) v (gvP n v):=by unfold goneM;rw [takeS hv,List.foldl_append];rfl
   refine ⟨_,?_,rfl⟩;rw [hg];simp only [BK];rw [dT (show (i:Int)<(ds.length:Int) by omega),cT,getI hv,oB,show (⟨n.l,n.start⟩:AutoAuto)=n from rfl,NV h hs,oB];unfold gvP
   cases e0:bwP n (·.int) v with
   | true=>rw [cT,Ab hi2];rfl
   | false =>
    rw [cF_,Oc h hs,oB]
    cases e1:bwP n (·.bool) v with
    | true=>rw [cT,Ab hi2];rfl
    | false=>rw [cF_,Oy h hs,oB,Ab hi2];rfl)
  (by
   rintro m q rfl;refine ⟨_,?_,rfl⟩;simp only [BK];rw [dF (by omega),cF_,List.take_length]) (by rw [FUv];omega) [] (by simp [goneM])
 rw [e1,e2]
noncomputable def cutM (mm:List (Int×Bool)) (l:List Int):List Int:=l.filter fun x => !(mget mm x).getD false
theorem QZ {n:AutoAuto} (h:AB n) (mm:List (Int×Bool)):Ch n mm FU (0,n.start,n.l)=some (n.start,n.l.map (mapV (cutM mm))):=by
 have hlen:=h.1
 obtain ⟨o,e1,e2⟩:=A5 (φ:=fun m i (q:Int×List AutoState)=>Ch n mm m (i,q)) (l:=n.l) (fun i q=>q=(n.start,(n.l.take i).map (mapV (cutM mm))++n.l.drop i)) (fun o=>o=(n.start,n.l.map (mapV (cutM mm))))
  (by
   rintro m i s q hx hi rfl
   left
   have hd:=JD hx
   have hA:((n.l.take i).map (mapV (cutM mm))).length=i:=by rw [List.length_map,List.length_take];omega
   have hsl:=(h.2 s (List.mem_of_getElem? hx)).1
   have hg:((n.l.take i).map (mapV (cutM mm))++n.l.drop i)[i]? = some s:=by
    rw [List.getElem?_append_right (by omega),hd,hA,Nat.sub_self];rfl
   have hi2:InR ((i:Int)+1):=by unfold InR;omega
   refine ⟨_,?_,rfl⟩
   have hset:((n.l.take i).map (mapV (cutM mm))++n.l.drop i).set ((i:Int)).toNat (mapV (cutM mm) s)=(n.l.take (i+1)).map (mapV (cutM mm))++n.l.drop (i+1):=by
    rw [hd,Int.toNat_natCast,NR hA,takeS hx,List.map_append,List.append_assoc];rfl
   rw [<- hset];simp only [Ch];rw [dT (show (i:Int)<(n.l.length:Int) by omega),cT,getI hg,oB,Ab (by omega),oB,Ab hi2]
   rfl)
  (by
   rintro m q rfl;refine ⟨_,?_,rfl⟩;simp only [Ch];rw [dF (by omega),cF_,List.take_length,List.drop_length,List.append_nil]) (by rw [FUv];omega) (n.start,n.l) (by simp)
 rw [e1,e2]
theorem Qw {a:AutoAuto} (h:AB a) (hm:mayP a=0):C3 a=some (mapA (keepP (normP a)) (normP a),0):=by
 obtain ⟨n1,n2,n3⟩:=JF h hm;unfold C3;rw [J2 h hm];simp only [oB,decide_true,Bool.not_true,cF_]
 generalize hN:normP a=n at n1 n2 n3
 have hlen:=Hn n1
 have hfl:=List.length_filter_le (stP n) (varsA n)
 rw [show (⟨n.l,n.start⟩:AutoAuto)=n from rfl,Mj n1 n2 n3,oB,QO n1 (Iz n2) _ (by omega),oB,QZ n1,oB]
 congr 2
 unfold mapA
 congr 1
 apply List.map_congr_left
 intro s hs
 unfold mapV
 congr 1
 unfold cutM keepP
 apply List.filter_congr
 intro v hv
 have:=UT n v (varsA_mem.2 ⟨s,hs,hv⟩)
 unfold goneM gvP;rw [this]
theorem Qx {a:AutoAuto} (h:AB a) (hm:¬ mayP a=0):C3 a=some (⟨[],0⟩,mayP a):=by
 unfold C3;rw [O8 h hm];simp only [oB];rw [dF hm,Bool.not_false,cT]
theorem Qy {a:AutoAuto} (h:AB a) (hm:mayP a=0):∀ D,ExR (mapA (keepP (normP a)) (normP a)).l (mapA (keepP (normP a)) (normP a)).start D↔ExR (normP a).l (normP a).start D:=by
 obtain ⟨n1,n2,n3⟩:=JF h hm
 generalize normP a=n at n1 n2 n3
 obtain ⟨s0,s1,s2⟩:=G3 (FN n2).2.2.2
 intro D
 rw [Sa (Iz n2)];refine V9 (IY n2) (fun v hv=>?_) s0 s1 s2 D;unfold goneP bwP at hv;simp only [Bool.and_eq_true,Bool.or_eq_true,decide_eq_true_eq] at hv
 rcases hv.2 with (h | h) | h
 ·exact .inl h
 ·exact .inr (.inl h)
 ·exact .inr (.inr h)
theorem UD {n:AutoAuto} (hm:mayP n=0):mayP (mapA (keepP n) n)=0:=by
 refine RQ (by rfl) hm fun s hs=>⟨(Iz hm s hs).sublist List.filter_sublist,fun x hx=>?_⟩;exact KC hm (varsA_mem.2 ⟨s,hs,(List.mem_filter.1 hx).1⟩)
theorem QA {a:AutoAuto} (h:AB a) (hm:mayP a=0) (hl:a.l.length<=10):(normP a).l.length<=10:=by
 rw [F4 (Hg h hm)]
 have:=EM _ _ (Cq (Hg h hm)).1 (Cq (Hg h hm)).2.1
 omega
end Go.Proofs.YtcoghblhdjmbfaaGreat
namespace Go.Proofs.YtcoghblhdjmbfaaGreat
open Go.V
open Classical
def a29:AutoAuto:=⟨[⟨true,false,false,false,false,true,false,false,[],1,2,[],[]⟩,⟨false,false,false,false,false,false,false,false,[0,1],0,0,[],[]⟩,⟨true,false,false,false,false,false,true,false,[],0,0,[⟨[108],3⟩,⟨[109],4⟩],[]⟩,⟨true,false,false,false,false,false,false,false,[0],0,0,[],[]⟩,⟨true,false,false,false,false,false,false,false,[1],0,0,[],[]⟩],0⟩
def b29:AutoAuto:=⟨[⟨true,false,false,false,false,true,false,false,[],1,2,[],[]⟩,⟨false,false,false,false,false,false,false,false,[0],0,0,[],[]⟩,⟨true,false,false,false,false,false,true,false,[],0,0,[⟨[108],3⟩,⟨[109],4⟩],[]⟩,⟨true,false,false,false,false,false,false,false,[0],0,0,[],[]⟩,⟨true,false,false,false,false,false,false,false,[0],0,0,[],[]⟩],0⟩
theorem Md:AB a29:=⟨by decide,by
 intro s hs
 simp only [a29,List.mem_cons,List.not_mem_nil,or_false] at hs
 rcases hs with rfl | rfl | rfl | rfl | rfl <;> exact ⟨by decide,by decide,by decide⟩⟩
theorem LG:mayP a29=0:=by
 have h:=Ow a29 Md
 have h2:E4 a29=some 0:=by rfl
 rw [h2] at h;exact (Option.some.inj h).symm
theorem JI:normP a29=a29:=by rfl
theorem S9:NF a29:=⟨Md,LG,JI⟩
theorem Rb:mapA (putV 1 0) a29=b29:=by
 have e1:putV 1 0 []=[]:=PV
 have e2:putV 1 0 [0,1]=[0]:=(FA (by decide) (by intro x;simp [rho])).symm
 have e3:putV 1 0 [0]=[0]:=(FA (by decide) (by intro x;simp [rho])).symm
 have e4:putV 1 0 [1]=[0]:=(FA (by decide) (by intro x;simp [rho])).symm
 unfold mapA a29 b29;simp only [List.map_cons,List.map_nil,mapV,e1,e2,e3,e4]
theorem Tu:El (taP a29) ((varsA a29).filter (stP a29))=(0,1,true):=by
 have hv:varsA a29=[0,1]:=(FA (by decide) (by
  intro x
  rw [show a29.l.flatMap (·.vars)=[0,1,0,1] from rfl];simp only [List.mem_cons,List.not_mem_nil,or_false]
  omega)).symm
 have hp:∀ v p,occ a29.l p v=decide (a29.l.any (fun s=>(s.plus == p)&&decide (v∈s.vars))=true):=by
  intro v p
  unfold occ
  congr 1
  rw [eq_iff_iff,List.any_eq_true]
  constructor
  ·rintro ⟨s,hs,h1,h2⟩;exact ⟨s,hs,by simp [h1,h2]⟩
  ·rintro ⟨s,hs,h⟩;simp at h;exact ⟨s,hs,h.1,h.2⟩
 have h0:stP a29 0=true:=by unfold stP;rw [hp,hp];decide
 have h1:stP a29 1=true:=by unfold stP;rw [hp,hp];decide
 have ht:taP a29 0 1=true:=by rfl
 rw [hv,List.filter_cons_of_pos h0,List.filter_cons_of_pos h1,List.filter_nil];simp only [El,List.find?_cons,ht]
theorem TV:∃ v w,El (taP b29) ((varsA b29).filter (stP b29))=(v,w,false):=by
 have hv:varsA b29=[0]:=(FA (by decide) (by
  intro x
  rw [show b29.l.flatMap (·.vars)=[0,0,0] from rfl];simp only [List.mem_cons,List.not_mem_nil,or_false]
  omega)).symm
 rw [hv]
 cases hs:stP b29 0 with
 | true=>rw [List.filter_cons_of_pos hs,List.filter_nil];exact ⟨0,0,by simp [El]⟩
 | false=>rw [List.filter_cons_of_neg (by rw [hs];simp),List.filter_nil];exact ⟨0,0,by simp [El]⟩
theorem S2:CB a29=some (b29,0):=by
 obtain ⟨e1,e3⟩:=Jl S9 Tu
 have hb:=U3 S9 (w:=1) (e3 rfl).1
 rw [Rb] at hb;obtain ⟨v,w,g⟩:=TV;obtain ⟨f1,_⟩:=Jl hb g;unfold CB;rw [J2 Md LG,JI];simp only [oB,decide_true,Bool.not_true,cF_];rw [show FU=(FU - 2)+1+1 from rfl,e1,Rb,Bool.not_true,cF_,f1]
 rfl
theorem Wb:Cp=some true:=by
 have t1:Co a29 0 1 false=some true:=by
  rw [K5 Md LG,JI]
  rfl
 have t2:Co a29 0 1 true=some false:=by
  rw [K5 Md LG,JI]
  rfl
 have s1:CA [0] [0]=some true:=by rfl
 have m1:=S2
 unfold a29 at m1 t1 t2;unfold Cp;rw [m1]
 dsimp only [oB]
 rw [t1,t2]
 have i1:idx b29.l 1=some ⟨false,false,false,false,false,false,false,false,[0],0,0,[],[]⟩:=rfl
 have i4:idx b29.l 4=some ⟨true,false,false,false,false,false,false,false,[0],0,0,[],[]⟩:=rfl
 simp only [oB,decide_true,cT,Bool.not_false,i1,i4,s1]
 rfl
theorem law_PairSame (a:AutoAuto) (t:ATy):Cz a t=some true:=by
 unfold Cz;rw [Wb,oB,Bool.not_true,cF_];obtain ⟨x,hx,ha,hlen⟩:=W7 a;rw [hx,oB,show Hz (⟨t.l,t.root⟩:ATy) 6=some (fewT 6 t) from W2 t 6 6 rfl (by omega),oB,OH]
 by_cases hm:mayP x=0
 ·have hl:=Hg ha hm
  obtain ⟨n1,n2,n3⟩:=JF ha hm
  have hx10:x.l.length<=10:=by
   have:=(FN hm).2.1
   omega
  have hnl:=QA ha hm hx10
  obtain ⟨r,r1,r2,r3,r4⟩:=UB ha hm
  have hk:=VC n1
  rw [r1,Qw ha hm]
  dsimp only [oB]
  obtain ⟨b,e1,e2⟩:=QN (fewT 6 t) (UW 6 (by omega) t) (Rt 6 t);rw [show DL (⟨(fewT 6 t).l,(fewT 6 t).root⟩:ATy)=some b from e1];rw [show (!decide ((0:Int)=0))=false from rfl,Bool.or_self,cF_]
  cases b with
  | false=>rfl
  | true =>
   obtain ⟨g1,g2⟩:=e2 rfl
   have hu:MayO (fewT 6 t):=⟨g1,Rt 6 t⟩
   have hg:=SS hu g2
   have hu6:=WH hu
   obtain ⟨s0,s1,s2⟩:=G3 (FN hm).2.2.2
   have hnx:∀ D,ExR (normP x).l (normP x).start D↔ExR x.l x.start D:=fun D=>V1 hl (IY hm) s2 D
   have m1:=K3 ha hm hx10 r2.1 r2.2.1 (by omega) hu hg hu6 (fun D=>(r4 D).trans (hnx D))
   have m2:=K3 ha hm hx10 hk (UD n2) (by show (List.map _ _).length<=10;rw [List.length_map];exact hnl) hu hg hu6 (fun D=>(Qy ha hm D).trans (hnx D))
   have m0:=IM (QD ha hm (by omega)) hx10 (IY hm) s0 s1 s2 hu hg hu6
   dsimp only [Bool.not_true,oB,cF_]
   simp only [OH];rw [Ue _ ha,oB,Ky _ ha,oB];rw [show AD (typeW x) (⟨(fewT 6 t).l,(fewT 6 t).root⟩:ATy)=_ from m0,oB,Ue _ r2.1,oB,Ky _ r2.1,oB,
    show AD (typeW r) (⟨(fewT 6 t).l,(fewT 6 t).root⟩:ATy)=_ from m1.trans m0,oB,beq_self_eq_true,cT,Ue _ hk,oB,Ky _ hk,oB,
    show AD (typeW (mapA (keepP (normP x)) (normP x))) (⟨(fewT 6 t).l,(fewT 6 t).root⟩:ATy)=_ from m2.trans m0,oB,beq_self_eq_true]
   rfl
 ·rw [Ul ha hm,Qx ha hm]
  dsimp only [oB]
  rw [dF hm,Bool.not_false,Bool.or_self,cT,oB,cT,dT rfl]
end Go.Proofs.YtcoghblhdjmbfaaGreat
