/- Part 10 of the proof: a program logic, what the functions compute, and what these answer; no condition. -/
import Derived.Test.YtcoghblhdjmbfaaGreatp9
set_option linter.unusedVariables false
set_option linter.unusedSimpArgs false
set_option maxRecDepth 100000
namespace Go.Proofs.YtcoghblhdjmbfaaGreat
open Go.V
open Classical
structure FinG (t:ATy) (g:BSq):Prop where
 ok:OkT t
 nb:∀ n∈t.l,NB n
 inq:∀ q,Cl t g q->InQ t q
 sm:∀ q,Cl t g q->SmQ (toS q)
 fin:∀ l:List RSeq,l.Nodup->(∀ q∈l,Cl t g (toB q))->l.length<=500000
structure WInv (t:ATy) (g:BSq) (c:Nat) (w:Syntagmaref19World):Prop where
 ht:w.t=t
 hf:w.flex=1000
 b:BInv w
 bl:w.below_.length=1000
 al:w.above.length=1000
 nd:w.all.Nodup
 cl:∀ q∈w.all,Cl t g (toB q)
 bel:∀ (v:Nat) L,w.below_[v]? = some L->L.length<=c/\∀ l∈L,∃ q,Cl t g q/\BlwP t q (v:Int) l
 abv:∀ (v:Nat) L,w.above[v]? = some L->L.length<=c/\∀ l∈L,∃ q,Cl t g q/\AbvP t q (v:Int) l
 mix:w.mixed=true->∃ q,Cl t g q/\MixP t q
 fai:w.fails=true->∃ q,Cl t g q/\¬ VarP t q/\(AQ t q).1=true
structure ExtW (w w':Syntagmaref19World):Prop where
 all:∃ s,w'.all=w.all++s
 bel:∀ (v:Nat) L,w.below_[v]? = some L->∃ L',w'.below_[v]? = some L'/\∀ l∈L,l∈L'
 abv:∀ (v:Nat) L,w.above[v]? = some L->∃ L',w'.above[v]? = some L'/\∀ l∈L,l∈L'
 mix:w.mixed=true->w'.mixed=true
 fai:w.fails=true->w'.fails=true
theorem ExtW.refl (w:Syntagmaref19World):ExtW w w:=⟨⟨[],by simp⟩,fun v L h=>⟨L,h,fun _ h=>h⟩,fun v L h=>⟨L,h,fun _ h=>h⟩,id,id⟩
theorem ExtW.trans {a b c:Syntagmaref19World} (h:ExtW a b) (k:ExtW b c):ExtW a c:=by
 obtain ⟨s,e⟩:=h.all;obtain ⟨s',e'⟩:=k.all
 refine ⟨⟨s++s',by rw [e',e,List.append_assoc]⟩,fun v L hL=>?_,fun v L hL=>?_,fun h'=>k.mix (h.mix h'),fun h'=>k.fai (h.fai h')⟩
 ·obtain ⟨L1,h1,h2⟩:=h.bel v L hL
  obtain ⟨L2,h3,h4⟩:=k.bel v L1 h1;exact ⟨L2,h3,fun l hl=>h4 l (h2 l hl)⟩
 ·obtain ⟨L1,h1,h2⟩:=h.abv v L hL
  obtain ⟨L2,h3,h4⟩:=k.abv v L1 h1;exact ⟨L2,h3,fun l hl=>h4 l (h2 l hl)⟩
theorem ExtW.mem {w w':Syntagmaref19World} (h:ExtW w w') {q:RSeq} (hq:q∈w.all):q∈w'.all:=by
 obtain ⟨s,e⟩:=h.all;rw [e];exact List.mem_append_left _ hq
structure DoneW (t:ATy) (w:Syntagmaref19World) (q:BSq):Prop where
 abv:∀ v r,AbvP t q v r->∃ L,w.above[v.toNat]? = some L/\r∈L
 bel:∀ v l,BlwP t q v l->∃ L,w.below_[v.toNat]? = some L/\l∈L
 mix:MixP t q->w.mixed=true
 fai:¬ VarP t q->(AQ t q).1=true->w.fails=true
 led:¬ VarP t q->∀ s∈(AQ t q).2,toS s∈w.all
theorem DoneW.ext {t:ATy} {w w':Syntagmaref19World} {q:BSq} (h:DoneW t w q) (e:ExtW w w'):DoneW t w' q:=by
 refine ⟨fun v r ha=>?_,fun v l ha=>?_,fun hm=>e.mix (h.mix hm),fun hv hl=>e.fai (h.fai hv hl),fun hv s hs=>e.mem (h.led hv s hs)⟩
 ·obtain ⟨L,h1,h2⟩:=h.abv v r ha
  obtain ⟨L',h3,h4⟩:=e.abv _ L h1;exact ⟨L',h3,h4 _ h2⟩
 ·obtain ⟨L,h1,h2⟩:=h.bel v l ha
  obtain ⟨L',h3,h4⟩:=e.bel _ L h1;exact ⟨L',h3,h4 _ h2⟩
section
variable {t:ATy} {g:BSq} {c:Nat} {w:Syntagmaref19World}
theorem WInv.len (hG:FinG t g) (hw:WInv t g c w):w.all.length<=500000:=hG.fin _ hw.nd hw.cl
theorem M5 (hG:FinG t g) (hw:WInv t g c w) {q:RSeq} (hq:Cl t g (toB q)):∃ w',Aw w q=some w'/\WInv t g c w'/\ExtW w w'/\q∈w'.all/\w'.below_=w.below_/\w'.above=w.above:=by
 rcases UT hw.b (hG.sm _ hq) (by have:=hw.len hG;omega) with ⟨h1,h2⟩ | ⟨h1,bs,h2,h3⟩
 ·exact ⟨w,h2,hw,.refl w,h1,rfl,rfl⟩
 ·refine ⟨addQ w q bs,h2,⟨hw.ht,hw.hf,h3,hw.bl,hw.al,?_,?_,hw.bel,hw.abv,hw.mix,hw.fai⟩,⟨⟨[q],rfl⟩,fun v L h=>⟨L,h,fun _ h=>h⟩,fun v L h=>⟨L,h,fun _ h=>h⟩,id,id⟩,by show q∈w.all++[q];simp,rfl,rfl⟩
  ·show (w.all++[q]).Nodup
   rw [List.nodup_append];exact ⟨hw.nd,by simp,fun a ha b hb=>by rw [List.mem_singleton] at hb;subst hb;exact fun e=>h1 (e▸ha)⟩
  ·intro x hx
   rcases List.mem_append.1 (show x∈w.all++[q] from hx) with h | h
   ·exact hw.cl x h
   ·rw [List.mem_singleton] at h;subst h;exact hq
theorem NJ (hG:FinG t g) (hw:WInv t g c w) (xs:List RSeq) (hx:∀ x∈xs,Cl t g (toB x)) (hl:xs.length<=1000000) :
  ∃ w',AG xs FU (0,w.t.l,w.t.root,w.flex,w.mixed,w.fails,w.all,w.buckets,w.below_,w.above)=some w'/\WInv t g c w'/\ExtW w w'/\∀ x∈xs,x∈w'.all:=by
 obtain ⟨o,e1,e2⟩:=A2 (φ:=fun n i (s:Syntagmaref19World)=>AG xs n (i,s.t.l,s.t.root,s.flex,s.mixed,s.fails,s.all,s.buckets,s.below_,s.above)) (l:=xs)
  (fun i s=>WInv t g c s/\ExtW w s/\∀ x∈xs.take i,x∈s.all) (fun o=>WInv t g c o/\ExtW w o/\∀ x∈xs,x∈o.all)
  (by
   rintro n i x s hxi hi ⟨h1,h2,h3⟩
   left
   obtain ⟨s',e,h4,h5,h6,_⟩:=M5 hG h1 (hx x (List.mem_of_getElem? hxi));refine ⟨s',?_,h4,h2.trans h5,fun y hy=>?_⟩
   ·simp only [AG]
    rw [dT (show (i:Int)<(xs.length:Int) by omega),cT,getI hxi,oB,show Aw (⟨(⟨s.t.l,s.t.root⟩:ATy),s.flex,s.all,s.buckets,s.below_,s.above,s.mixed,s.fails⟩:Syntagmaref19World) x=_ from e,oB,Ab (by constructor <;> omega)]
   ·rw [takeS hxi] at hy
    rcases List.mem_append.1 hy with hy | hy
    ·exact h5.mem (h3 y hy)
    ·rw [List.mem_singleton] at hy;subst hy;exact h6)
  (by
   rintro n s ⟨h1,h2,h3⟩;refine ⟨s,?_,h1,h2,by rwa [List.take_length] at h3⟩;simp only [AG];rw [dF (by omega),cF_]) (by rw [FUv];omega) w ⟨hw,.refl w,by simp⟩
 exact ⟨o,e1,e2⟩
theorem WInv.mono {d:Nat} (h:WInv t g c w) (hd:c<=d):WInv t g d w:=⟨h.ht,h.hf,h.b,h.bl,h.al,h.nd,h.cl,fun v L hL=>⟨Nat.le_trans (h.bel v L hL).1 hd,(h.bel v L hL).2⟩,fun v L hL=>⟨Nat.le_trans (h.abv v L hL).1 hd,(h.abv v L hL).2⟩,h.mix,h.fai⟩
def Jm (w:Syntagmaref19World) (v:Nat) (L:List (List Int)):Syntagmaref19World:={ w with above:=w.above.set v L }
def JD (w:Syntagmaref19World) (v:Nat) (L:List (List Int)):Syntagmaref19World:={ w with below_:=w.below_.set v L }
theorem Rv (hG:FinG t g) (hw:WInv t g c w) {v:Nat} {L:List (List Int)} (h:w.above[v]? = some L):∀ m∈L,m.length<=500:=by
 intro m hm
 obtain ⟨q,hq,ha⟩:=(hw.abv v L h).2 m hm;rw [ha.2.1];exact Nat.le_trans (List.length_filter_le ..) (hG.sm q hq).2.1
theorem QD (hG:FinG t g) (hw:WInv t g c w) {v:Nat} {L:List (List Int)} (h:w.below_[v]? = some L):∀ m∈L,m.length<=500:=by
 intro m hm
 obtain ⟨q,hq,ha⟩:=(hw.bel v L h).2 m hm;rw [ha.2.1];exact Nat.le_trans (List.length_filter_le ..) (hG.sm q hq).1
theorem insA (hG:FinG t g) (hw:WInv t g c w) (hc:c<=2000000) {q:BSq} (hq:Cl t g q) {a:Int} {r:List Int} (h0:0<=a) (h1:a<1000) (ha:AbvP t q a r) :
  ∃ L L':List (List Int),idx w.above a=some L/\AL L r=some L'/\WInv t g (c+1) (Jm w a.toNat L')/\ExtW w (Jm w a.toNat L')/\r∈L'/\(Jm w a.toNat L').above[a.toNat]? = some L':=by
 have hlt:a.toNat<w.above.length:=by rw [hw.al];omega
 have hL:w.above[a.toNat]? = some w.above[a.toNat]:=List.getElem?_eq_getElem hlt
 obtain ⟨hb1,hb2⟩:=hw.abv _ _ hL
 have hrs:r.length<=500:=by rw [ha.2.1];exact Nat.le_trans (List.length_filter_le ..) (hG.sm q hq).2.1
 obtain ⟨L',e,hm,hln⟩:=Ms w.above[a.toNat] r (by omega) (by omega) (fun m hm=>by have:=Rv hG hw hL m hm;omega)
 have hset:(w.above.set a.toNat L')[a.toNat]? = some L':=List.getElem?_set_self hlt
 refine ⟨_,L',?_,e,?_,?_,(hm r).2 (.inr rfl),hset⟩
 ·unfold idx;rw [if_pos h0];exact hL
 ·have hw2:=hw.mono (Nat.le_succ c)
  refine ⟨hw.ht,hw.hf,⟨hw.b.len,hw.b.lens,hw.b.rng,hw.b.has,hw.b.sm⟩,hw.bl,by simp [Jm,hw.al],hw.nd,hw.cl,hw2.bel,?_,hw.mix,hw.fai⟩
  intro v L hvL
  have hvL':(w.above.set a.toNat L')[v]? = some L:=hvL
  by_cases hv:a.toNat=v
  ·subst hv
   rw [hset] at hvL';cases hvL'
   refine ⟨by omega,fun l hl=>?_⟩
   rcases (hm l).1 hl with h | rfl
   ·exact hb2 l h
   ·exact ⟨q,hq,by rwa [Int.toNat_of_nonneg h0]⟩
  ·rw [List.getElem?_set_ne hv] at hvL'
   exact hw2.abv v L hvL'
 ·refine ⟨⟨[],by simp [Jm]⟩,fun v L h=>⟨L,h,fun _ h=>h⟩,fun v L hvL=>?_,id,id⟩
  by_cases hv:a.toNat=v
  ·subst hv
   rw [hL] at hvL;cases hvL
   exact ⟨L',hset,fun l hl=>(hm l).2 (.inl hl)⟩
  ·exact ⟨L,by show (w.above.set a.toNat L')[v]? = some L;rw [List.getElem?_set_ne hv];exact hvL,fun _ h=>h⟩
theorem insB (hG:FinG t g) (hw:WInv t g c w) (hc:c<=2000000) {q:BSq} (hq:Cl t g q) {a:Int} {r:List Int} (h0:0<=a) (h1:a<1000) (ha:BlwP t q a r) :
  ∃ L L':List (List Int),idx w.below_ a=some L/\AL L r=some L'/\WInv t g (c+1) (JD w a.toNat L')/\ExtW w (JD w a.toNat L')/\r∈L'/\(JD w a.toNat L').below_[a.toNat]? = some L':=by
 have hlt:a.toNat<w.below_.length:=by rw [hw.bl];omega
 have hL:w.below_[a.toNat]? = some w.below_[a.toNat]:=List.getElem?_eq_getElem hlt
 obtain ⟨hb1,hb2⟩:=hw.bel _ _ hL
 have hrs:r.length<=500:=by rw [ha.2.1];exact Nat.le_trans (List.length_filter_le ..) (hG.sm q hq).1
 obtain ⟨L',e,hm,hln⟩:=Ms w.below_[a.toNat] r (by omega) (by omega) (fun m hm=>by have:=QD hG hw hL m hm;omega)
 have hset:(w.below_.set a.toNat L')[a.toNat]? = some L':=List.getElem?_set_self hlt
 refine ⟨_,L',?_,e,?_,?_,(hm r).2 (.inr rfl),hset⟩
 ·unfold idx;rw [if_pos h0];exact hL
 ·have hw2:=hw.mono (Nat.le_succ c)
  refine ⟨hw.ht,hw.hf,⟨hw.b.len,hw.b.lens,hw.b.rng,hw.b.has,hw.b.sm⟩,by simp [JD,hw.bl],hw.al,hw.nd,hw.cl,?_,hw2.abv,hw.mix,hw.fai⟩
  intro v L hvL
  have hvL':(w.below_.set a.toNat L')[v]? = some L:=hvL
  by_cases hv:a.toNat=v
  ·subst hv
   rw [hset] at hvL';cases hvL'
   refine ⟨by omega,fun l hl=>?_⟩
   rcases (hm l).1 hl with h | rfl
   ·exact hb2 l h
   ·exact ⟨q,hq,by rwa [Int.toNat_of_nonneg h0]⟩
  ·rw [List.getElem?_set_ne hv] at hvL'
   exact hw2.bel v L hvL'
 ·refine ⟨⟨[],by simp [JD]⟩,fun v L hvL=>?_,fun v L h=>⟨L,h,fun _ h=>h⟩,id,id⟩
  by_cases hv:a.toNat=v
  ·subst hv
   rw [hL] at hvL;cases hvL
   exact ⟨L',hset,fun l hl=>(hm l).2 (.inl hl)⟩
  ·exact ⟨L,by show (w.below_.set a.toNat L')[v]? = some L;rw [List.getElem?_set_ne hv];exact hvL,fun _ h=>h⟩
end
end Go.Proofs.YtcoghblhdjmbfaaGreat
namespace Go.Proofs.YtcoghblhdjmbfaaGreat
open Go.V
open Classical
theorem Pu {A B H:Bool} {m:Option Bool} (h:m=some H):(bif A then ((bif B then (some true) else (m.bind fun x6=>some (!x6))).bind fun p2=>some p2) else (some false):Option Bool)=some (A&&(B || !H)):=by
 subst h;cases A <;> cases B <;> rfl
section
variable {t:ATy} {g:BSq} {c:Nat} {w:Syntagmaref19World}
theorem VE {q:RSeq} (hq:InQ t (toB q)):(∀ i∈nzL t q.l 1,In t i)/\∀ i∈nzL t q.r 2,In t i:=⟨fun i hi=>hq.1 i (List.mem_filter.1 hi).1,fun i hi=>hq.2 i (List.mem_filter.1 hi).1⟩
theorem Kx {l:List Int} {v v':Int} (h:Eu t l v) (h':Eu t l v'):v=v':=by
 obtain ⟨hne,h⟩:=h
 cases l with
 | nil=>exact absurd rfl hne
 | cons x r=>rw [<- (h x (by simp)).2,<- (h'.2 x (by simp)).2]
theorem Us (hG:FinG t g) (hw:WInv t g c w) (hc:c<=2000000) {q:BSq} (hq:Cl t g q) {a:Int} {r:List Int} {P:Bool} (hP:P=true->0<=a/\a<1000/\AbvP t q a r) :
  ∃ w1,(bif P then (idx w.above a).bind fun x7=>(AL x7 r).bind fun x8=>(idx w.above a).bind fun x9=>some (w.t.l,w.t.root,w.flex,w.mixed,w.fails,w.all,w.buckets,w.below_,(w.above.set (a).toNat x8))
   else some (w.t.l,w.t.root,w.flex,w.mixed,w.fails,w.all,w.buckets,w.below_,w.above):Option ((List ANd)×Int×Int×Bool×Bool×(List RSeq)×(List (List Int))×(List (List (List Int)))×(List (List (List Int))))) =
    some (w1.t.l,w1.t.root,w1.flex,w1.mixed,w1.fails,w1.all,w1.buckets,w1.below_,w1.above)/\WInv t g (c+1) w1/\ExtW w w1/\(P=true->∃ L,w1.above[a.toNat]? = some L/\r∈L)/\(P=false->w1=w):=by
 cases P with
 | false=>exact ⟨w,rfl,hw.mono (Nat.le_succ c),.refl w,fun h=>(by cases h),fun _=>rfl⟩
 | true =>
  obtain ⟨h0,h1,ha⟩:=hP rfl;obtain ⟨L,L',e1,e2,e3,e4,e5,e6⟩:=insA hG hw hc hq h0 h1 ha;refine ⟨Jm w a.toNat L',?_,e3,e4,fun _=>⟨L',e6,e5⟩,fun h=>(by cases h)⟩;rw [cT,e1,oB,e2,oB,oB];rfl
theorem TZ (hG:FinG t g) (hw:WInv t g c w) (hc:c<=2000000) {q:BSq} (hq:Cl t g q) {a:Int} {r:List Int} {P:Bool} (hP:P=true->0<=a/\a<1000/\BlwP t q a r) :
  ∃ w1,(bif P then (idx w.below_ a).bind fun x11=>(AL x11 r).bind fun x12=>(idx w.below_ a).bind fun x13=>some (w.t.l,w.t.root,w.flex,w.mixed,w.fails,w.all,w.buckets,(w.below_.set (a).toNat x12),w.above)
   else some (w.t.l,w.t.root,w.flex,w.mixed,w.fails,w.all,w.buckets,w.below_,w.above):Option ((List ANd)×Int×Int×Bool×Bool×(List RSeq)×(List (List Int))×(List (List (List Int)))×(List (List (List Int))))) =
    some (w1.t.l,w1.t.root,w1.flex,w1.mixed,w1.fails,w1.all,w1.buckets,w1.below_,w1.above)/\WInv t g (c+1) w1/\ExtW w w1/\(P=true->∃ L,w1.below_[a.toNat]? = some L/\r∈L)/\(P=false->w1=w):=by
 cases P with
 | false=>exact ⟨w,rfl,hw.mono (Nat.le_succ c),.refl w,fun h=>(by cases h),fun _=>rfl⟩
 | true =>
  obtain ⟨h0,h1,ha⟩:=hP rfl;obtain ⟨L,L',e1,e2,e3,e4,e5,e6⟩:=insB hG hw hc hq h0 h1 ha;refine ⟨JD w a.toNat L',?_,e3,e4,fun _=>⟨L',e6,e5⟩,fun h=>(by cases h)⟩;rw [cT,e1,oB,e2,oB,oB];rfl
def mixW (w:Syntagmaref19World):Syntagmaref19World:={ w with mixed:=true }
def failW (w:Syntagmaref19World):Syntagmaref19World:={ w with fails:=true }
theorem TT (hw:WInv t g c w) {q:BSq} (hq:Cl t g q) (hm:MixP t q):WInv t g c (mixW w)/\ExtW w (mixW w):=
 ⟨⟨hw.ht,hw.hf,⟨hw.b.len,hw.b.lens,hw.b.rng,hw.b.has,hw.b.sm⟩,hw.bl,hw.al,hw.nd,hw.cl,hw.bel,hw.abv,fun _=>⟨q,hq,hm⟩,hw.fai⟩,⟨[],by simp [mixW]⟩,fun v L h=>⟨L,h,fun _ h=>h⟩,fun v L h=>⟨L,h,fun _ h=>h⟩,fun _=>rfl,id⟩
theorem Tp (hw:WInv t g c w) {q:BSq} (hq:Cl t g q) (hv:¬ VarP t q) (hl:(AQ t q).1=true):WInv t g c (failW w)/\ExtW w (failW w):=
 ⟨⟨hw.ht,hw.hf,⟨hw.b.len,hw.b.lens,hw.b.rng,hw.b.has,hw.b.sm⟩,hw.bl,hw.al,hw.nd,hw.cl,hw.bel,hw.abv,hw.mix,fun _=>⟨q,hq,hv,hl⟩⟩,⟨[],by simp [failW]⟩,fun v L h=>⟨L,h,fun _ h=>h⟩,fun v L h=>⟨L,h,fun _ h=>h⟩,id,fun _=>rfl⟩
theorem LL (hG:FinG t g) (hw:WInv t g c w) {q:RSeq} (hq:Cl t g (toB q)) (hv:¬ VarP t (toB q)) :
  ∃ w',((DY (⟨w.t.l,w.t.root⟩:ATy) q).bind fun (x18,x19) =>
   (bif (!x19) then some (w.t.l,w.t.root,w.flex,w.mixed,true,w.all,w.buckets,w.below_,w.above)
    else some (w.t.l,w.t.root,w.flex,w.mixed,w.fails,w.all,w.buckets,w.below_,w.above):Option ((List ANd)×Int×Int×Bool×Bool×(List RSeq)×(List (List Int))×(List (List (List Int)))×(List (List (List Int))))).bind fun (z16,z17,z18,z19,z20,l13,l14,l15,l16) =>
   AG x18 FU (0,z16,z17,z18,z19,z20,l13,l14,l15,l16))=some w'/\WInv t g c w'/\ExtW w w'/\((AQ t (toB q)).1=true->w'.fails=true)/\∀ s∈(AQ t (toB q)).2,toS s∈w'.all:=by
 have hsm:=hG.sm _ hq
 have hin:=hG.inq _ hq
 have e:=QI hG.ok hG.nb hin hsm.1 hsm.2.1
 rw [Tv] at e;rw [show DY (⟨w.t.l,w.t.root⟩:ATy) q=DY t q by rw [<- hw.ht],e,oB]
 have hcl:∀ x∈(AQ t (toB q)).2.map toS,Cl t g (toB x):=by
  intro x hx
  obtain ⟨s,hs,rfl⟩:=List.mem_map.1 hx;exact .lead hq hv hs
 have hln:((AQ t (toB q)).2.map toS).length<=1000000:=by
  rw [List.length_map];exact Nat.le_trans (O9 hG.nb hin) (by omega)
 cases hb:(AQ t (toB q)).1 with
 | true =>
  obtain ⟨h1,h2⟩:=Tp hw hq hv hb;obtain ⟨w',e1,e2,e3,e4⟩:=NJ hG h1 _ hcl hln;exact ⟨w',e1,e2,h2.trans e3,fun _=>e3.fai rfl,fun s hs=>e4 _ (List.mem_map.2 ⟨s,hs,rfl⟩)⟩
 | false =>
  obtain ⟨w',e1,e2,e3,e4⟩:=NJ hG hw _ hcl hln;exact ⟨w',e1,e2,e3,fun h=>(by cases h),fun s hs=>e4 _ (List.mem_map.2 ⟨s,hs,rfl⟩)⟩
end
end Go.Proofs.YtcoghblhdjmbfaaGreat
namespace Go.Proofs.YtcoghblhdjmbfaaGreat
open Go.V
open Classical
theorem bndE {α β γ:Type} {m:Option α} {k:α->Option β} {k2:β->Option γ} {x:α} {P:γ->Prop} (h:m=some x) (h2:∃ r,(k x).bind k2=some r/\P r):∃ r,(m.bind k).bind k2=some r/\P r:=by rw [h];exact h2
theorem VL {P B H:Bool} {m:Option Bool} (h:m=some H):(bif P then (some true) else ((bif B then (m.bind fun x15=>some (!x15)) else (some false)).bind fun p8=>some p8):Option Bool)=some (P||(B && !H)):=by
 subst h;cases P <;> cases B <;> rfl
theorem pb3:∀ {A B HL HR:Bool},(A&&(B || !HR))=false->(B && !HL)=false->(B&&(A || !HL))=false:=by decide
section
variable {t:ATy} {g:BSq} {c:Nat} {w:Syntagmaref19World}
theorem US (hG:FinG t g) (hw:WInv t g c w) (hc:c<=1500000) {q:RSeq} (hq:Cl t g (toB q)) :
  ∃ w',Br w q=some w'/\WInv t g (c+2) w'/\ExtW w w'/\DoneW t w' (toB q):=by
 have hsm:=hG.sm _ hq
 have hin:=hG.inq _ hq
 have hl5:q.l.length<=500:=hsm.1
 have hr5:q.r.length<=500:=hsm.2.1
 have hVt:=hG.ok.vno
 unfold Br
 have he:Bd (⟨w.t.l,w.t.root⟩:ATy) q=some (JL t q):=by
  rw [show Bd (⟨w.t.l,w.t.root⟩:ATy) q=Bd t q by rw [<- hw.ht]];exact Tk hin hl5 hr5
 rw [he,oB]
 cases hB:JL t q with
 | true =>
  have hE:Fl t (toB q):=early_iff.1 hB
  have hv:¬ VarP t (toB q):=fun h=>h.1 hE
  obtain ⟨w',e1,e2,e3,e4,e5⟩:=LL hG hw hq hv;refine ⟨w',e1,e2.mono (by omega),e3,fun v r h=>absurd hE h.1,fun v l h=>absurd hE h.1,fun h=>absurd h.1 hv,fun _=>e4,fun _=>e5⟩
 | false =>
  have hE:¬ Fl t (toB q):=fun h=>by rw [early_iff.2 h] at hB;cases hB
  rw [Bool.not_false,cT];obtain ⟨hLin,hRin⟩:=VE hin
  have hLl:(nzL t q.l 1).length<=500:=Nat.le_trans (List.length_filter_le ..) hl5
  have hRl:(nzL t q.r 2).length<=500:=Nat.le_trans (List.length_filter_le ..) hr5
  have wl:AD (⟨w.t.l,w.t.root⟩:ATy) q.l 1=some (nzL t q.l 1):=by
   rw [show AD (⟨w.t.l,w.t.root⟩:ATy) q.l 1=AD t q.l 1 by rw [<- hw.ht]];exact Lt hin.1 hl5 1
  have wr:AD (⟨w.t.l,w.t.root⟩:ATy) q.r 2=some (nzL t q.r 2):=by
   rw [show AD (⟨w.t.l,w.t.root⟩:ATy) q.r 2=AD t q.r 2 by rw [<- hw.ht]];exact Lt hin.2 hr5 2
  refine bndE wl ?_;refine bndE wr ?_;obtain ⟨L,hL⟩:∃ L,L=nzL t q.l 1:=⟨_,rfl⟩;obtain ⟨R,hR⟩:∃ R,R=nzL t q.r 2:=⟨_,rfl⟩;rw [<- hL,<- hR];rw [<- hL] at hLin hLl;rw [<- hR] at hRin hRl
  have hVw:VNo w.t:=by rw [hw.ht];exact hVt
  obtain ⟨a,ea,ha⟩:=N1 hVw hw.hf (l:=L) (by rw [hw.ht];exact hLin) hLl;obtain ⟨b,eb,hb⟩:=N1 hVw hw.hf (l:=R) (by rw [hw.ht];exact hRin) hRl;rw [hw.ht] at ha hb;refine bndE ea ?_;refine bndE eb ?_;obtain ⟨HL,hHL⟩:∃ HL,HL=(L.any fun i=>decide ((nd t i).kind=11)):=⟨_,rfl⟩;obtain ⟨HR,hHR⟩:∃ HR,HR=(R.any fun i=>decide ((nd t i).kind=11)):=⟨_,rfl⟩
  have hasL:∀ {w':Syntagmaref19World} {d:Nat},WInv t g d w'->Av w' L=some HL:=fun {w'} {d} h=>by
   rw [hHL,<- h.ht];exact SW (by rw [h.ht];exact hVt) h.hf (by rw [h.ht];exact hLin) hLl
  have hasR:∀ {w':Syntagmaref19World} {d:Nat},WInv t g d w'->Av w' R=some HR:=fun {w'} {d} h=>by
   rw [hHR,<- h.ht];exact SW (by rw [h.ht];exact hVt) h.hf (by rw [h.ht];exact hRin) hRl
  have hLV:HL=true↔hasV t L:=by rw [hHL];exact Ow
  have hRV:HR=true↔hasV t R:=by rw [hHR];exact Ow
  have hA:decide (0<=a)=true↔Eu t L a:=by
   rw [decide_eq_true_eq]
   rcases ha with ⟨h1,_,h2⟩ | ⟨h1,h2⟩
   ·exact ⟨fun _=>h2,fun _=>h1⟩
   ·exact ⟨fun h=>by omega,fun h=>absurd h (h2 a)⟩
  have hBb:decide (0<=b)=true↔Eu t R b:=by
   rw [decide_eq_true_eq]
   rcases hb with ⟨h1,_,h2⟩ | ⟨h1,h2⟩
   ·exact ⟨fun _=>h2,fun _=>h1⟩
   ·exact ⟨fun h=>by omega,fun h=>absurd h (h2 b)⟩
  have hA1:∀ v,Eu t L v->v=a:=fun v hv=>by
   rcases ha with ⟨_,_,h2⟩ | ⟨_,h2⟩
   ·exact Kx hv h2
   ·exact absurd hv (h2 v)
  have hB1:∀ v,Eu t R v->v=b:=fun v hv=>by
   rcases hb with ⟨_,_,h2⟩ | ⟨_,h2⟩
   ·exact Kx hv h2
   ·exact absurd hv (h2 v)
  obtain ⟨A,hAe⟩:∃ A,A=decide (0<=a):=⟨_,rfl⟩;obtain ⟨B,hBe⟩:∃ B,B=decide (0<=b):=⟨_,rfl⟩;rw [<- hAe] at hA;rw [<- hBe] at hBb;rw [<- hAe,<- hBe]
  have haR:A=true->0<=a/\a<1000:=fun h=>by
   rcases ha with ⟨h1,h2,_⟩ | ⟨_,h2⟩
   ·exact ⟨h1,h2⟩
   ·exact absurd (hA.1 h) (h2 a)
  have hbR:B=true->0<=b/\b<1000:=fun h=>by
   rcases hb with ⟨h1,h2,_⟩ | ⟨_,h2⟩
   ·exact ⟨h1,h2⟩
   ·exact absurd (hBb.1 h) (h2 b)
  have habv:∀ v r,AbvP t (toB q) v r↔(A&&(B || !HR))=true/\v=a/\r=R:=by
   intro v r
   constructor
   ·rintro ⟨_,h2,h3,h4⟩
    have h2':r=R:=by rw [hR];exact h2
    have h3':Eu t L v:=by rw [hL];exact h3
    have hva:=hA1 v h3'
    refine ⟨?_,hva,h2'⟩;rw [hA.2 (hva▸h3'),Bool.true_and]
    rcases h4 with ⟨x,hx⟩ | h4
    ·rw [h2'] at hx;rw [hBb.2 (hB1 x hx▸hx)];rfl
    ·rw [h2'] at h4
     cases hq2:HR with
     | true=>exact absurd (hRV.1 hq2) h4
     | false=>simp
   ·rintro ⟨h1,rfl,rfl⟩
    rw [Bool.and_eq_true,Bool.or_eq_true] at h1;refine ⟨hE,hR,by rw [hL] at hA;exact hA.1 h1.1,?_⟩
    rcases h1.2 with h | h
    ·exact .inl ⟨b,hBb.1 h⟩
    ·exact .inr fun hv=>by rw [hRV.2 hv] at h;cases h
  have hblw:∀ v l,BlwP t (toB q) v l↔(B&&(A || !HL))=true/\v=b/\l=L:=by
   intro v r
   constructor
   ·rintro ⟨_,h2,h3,h4⟩
    have h2':r=L:=by rw [hL];exact h2
    have h3':Eu t R v:=by rw [hR];exact h3
    have hva:=hB1 v h3'
    refine ⟨?_,hva,h2'⟩;rw [hBb.2 (hva▸h3'),Bool.true_and]
    rcases h4 with ⟨x,hx⟩ | h4
    ·rw [h2'] at hx;rw [hA.2 (hA1 x hx▸hx)];rfl
    ·rw [h2'] at h4
     cases hq2:HL with
     | true=>exact absurd (hLV.1 hq2) h4
     | false=>simp
   ·rintro ⟨h1,rfl,rfl⟩
    rw [Bool.and_eq_true,Bool.or_eq_true] at h1;refine ⟨hE,hL,by rw [hR] at hBb;exact hBb.1 h1.1,?_⟩
    rcases h1.2 with h | h
    ·exact .inl ⟨a,hA.1 h⟩
    ·exact .inr fun hv=>by rw [hLV.2 hv] at h;cases h
  have hvar:VarP t (toB q)↔HL=true\/HR=true:=by
   unfold VarP;rw [hLV,hRV,hL,hR];exact ⟨fun h=>h.2,fun h=>⟨hE,h⟩⟩
  have hAl:A=true->HL=true:=fun h=>by
   have:=hA.1 h
   obtain ⟨hne,h2⟩:=this
   cases hLc:L with
   | nil=>exact absurd hLc hne
   | cons x r=>exact hLV.2 ⟨x,by rw [hLc];simp,(h2 x (by rw [hLc];simp)).1⟩
  have hBl:B=true->HR=true:=fun h=>by
   have:=hBb.1 h
   obtain ⟨hne,h2⟩:=this
   cases hLc:R with
   | nil=>exact absurd hLc hne
   | cons x r=>exact hRV.2 ⟨x,by rw [hLc];simp,(h2 x (by rw [hLc];simp)).1⟩
  refine bndE (Pu (hasR hw)) ?_;obtain ⟨w1,e1,i1,x1,p1,n1⟩:=Us hG hw (by omega) hq (a:=a) (r:=R) (P:=A&&(B || !HR)) (fun h=>by
   have:=(habv a R).2 ⟨h,rfl,rfl⟩
   rw [Bool.and_eq_true] at h;exact ⟨(haR h.1).1,(haR h.1).2,this⟩)
  refine bndE e1 ?_;refine bndE (Pu (hasL i1)) ?_;obtain ⟨w2,e2,i2,x2,p2,n2⟩:=TZ hG i1 (by omega) hq (a:=b) (r:=L) (P:=B&&(A || !HL)) (fun h=>by
   have:=(hblw b L).2 ⟨h,rfl,rfl⟩
   rw [Bool.and_eq_true] at h;exact ⟨(hbR h.1).1,(hbR h.1).2,this⟩)
  refine bndE e2 ?_;refine bndE (Pu (hasR i2)) ?_;refine bndE (VL (hasL i2)) ?_
  have hd:∀ w',ExtW w2 w'->(∀ v r,AbvP t (toB q) v r->∃ L,w'.above[v.toNat]? = some L/\r∈L)/\(∀ v l,BlwP t (toB q) v l->∃ L,w'.below_[v.toNat]? = some L/\l∈L):=by
   intro w' hx
   constructor
   ·intro v r h
    obtain ⟨h1,rfl,rfl⟩:=(habv v r).1 h;obtain ⟨M,m1,m2⟩:=p1 h1;obtain ⟨M',m3,m4⟩:=(x2.trans hx).abv _ M m1;exact ⟨M',m3,m4 _ m2⟩
   ·intro v r h
    obtain ⟨h1,rfl,rfl⟩:=(hblw v r).1 h;obtain ⟨M,m1,m2⟩:=p2 h1;obtain ⟨M',m3,m4⟩:=hx.bel _ M m1;exact ⟨M',m3,m4 _ m2⟩
  cases hP:((A&&(B || !HR))||(B && !HL)) with
  | true =>
   have hPv:VarP t (toB q):=by
    rw [hvar];simp only [Bool.or_eq_true,Bool.and_eq_true] at hP
    rcases hP with h | h
    ·exact .inl (hAl h.1)
    ·exact .inr (hBl h.1)
   refine ⟨w2,rfl,i2,x1.trans x2,(hd w2 (.refl _)).1,(hd w2 (.refl _)).2,fun hm=>?_,fun h=>absurd hPv h,fun h=>absurd hPv h⟩
   exfalso
   rcases Bool.or_eq_true _ _▸hP with h | h
   ·exact hm.2.1 a R ((habv a R).2 ⟨h,rfl,rfl⟩)
   ·refine hm.2.2 b L ((hblw b L).2 ⟨?_,rfl,rfl⟩)
    simp only [Bool.and_eq_true,Bool.or_eq_true] at h ⊢;exact ⟨h.1,.inr h.2⟩
  | false =>
   rw [cF_]
   have hP1:(A&&(B || !HR))=false:=by
    cases h:(A&&(B || !HR)) with
    | true=>rw [h] at hP;simp at hP
    | false=>rfl
   have hP3:(B&&(A || !HL))=false:=by
    rw [hP1,Bool.false_or] at hP;exact pb3 hP1 hP
   have ew1:=n1 hP1
   have ew2:=n2 hP3
   subst ew1;subst ew2
   have hna:∀ v r,¬ AbvP t (toB q) v r:=fun v r h=>by rw [((habv v r).1 h).1] at hP1;cases hP1
   have hnb:∀ v r,¬ BlwP t (toB q) v r:=fun v r h=>by rw [((hblw v r).1 h).1] at hP3;cases hP3
   refine bndE (hasL hw) ?_;refine bndE (x:=HL||HR) (by cases HL with | true=>rfl | false=>rw [cF_,hasR hw];rfl) ?_
   cases hM:(HL||HR) with
   | true =>
    have hPv:VarP t (toB q):=hvar.2 (by simpa using hM)
    have hm:MixP t (toB q):=⟨hPv,hna,hnb⟩
    obtain ⟨h1,h2⟩:=TT i2 hq hm;exact ⟨_,rfl,h1,h2,fun v r h=>absurd h (hna v r),fun v l h=>absurd h (hnb v l),fun _=>rfl,fun h=>absurd hPv h,fun h=>absurd hPv h⟩
   | false =>
    have hv:¬ VarP t (toB q):=fun h=>by
     rcases hvar.1 h with h | h <;> rw [h] at hM <;> simp at hM
    obtain ⟨w',f1,f2,f3,f4,f5⟩:=LL hG hw hq hv;exact ⟨w',f1,f2.mono (by omega),f3,fun v r h=>absurd h (hna v r),fun v l h=>absurd h (hnb v l),fun h=>absurd h.1 hv,fun _=>f4,fun _=>f5⟩
end
end Go.Proofs.YtcoghblhdjmbfaaGreat
namespace Go.Proofs.YtcoghblhdjmbfaaGreat
open Go.V
open Classical
abbrev WT:=(List RSeq)×(List ANd)×Int×Int×Bool×Bool×(List (List (List Int)))×(List (List (List Int)))×(List (List Int))
abbrev tupW (w:Syntagmaref19World):WT:=(w.all,w.t.l,w.t.root,w.flex,w.mixed,w.fails,w.below_,w.above,w.buckets)
theorem Uy {p:Prop} (h:p) {i:Decidable p}:@decide p i=true:=by simp [h]
theorem UK {p:Prop} (h:¬ p) {i:Decidable p}:@decide p i=false:=by simp [h]
section
variable {t:ATy} {g:BSq} {c:Nat} {w:Syntagmaref19World}
structure ProcW (t:ATy) (g:BSq) (d:Nat) (w:Syntagmaref19World):Prop where
 inv:WInv t g (2*d) w
 le:d<=w.all.length
 pr:∀ (j:Nat) q,j<d->w.all[j]? = some q->DoneW t w (toB q)
theorem P7 {w w':Syntagmaref19World} (h:ExtW w w') {j:Nat} (hj:j<w.all.length):w'.all[j]? = w.all[j]? := by
 obtain ⟨s,e⟩:=h.all;rw [e,List.getElem?_append_left hj]
theorem R6 (hG:FinG t g) {d:Nat} (h:ProcW t g d w):∃ w',AV FU ((d:Int),tupW w)=some ((w'.all.length:Int),tupW w')/\ProcW t g w'.all.length w'/\ExtW w w':=by
 obtain ⟨o,e1,w',e2,e3,e4⟩:=HE (φ:=fun n (s:Nat×Syntagmaref19World)=>AV n ((s.1:Int),tupW s.2)) (fun s=>500001 - s.1) (fun s=>ProcW t g s.1 s.2/\ExtW w s.2)
  (fun o=>∃ w',o=((w'.all.length:Int),tupW w')/\ProcW t g w'.all.length w'/\ExtW w w') (by
  rintro n ⟨k,s⟩ ⟨hp,hx⟩
  have hlen:=hp.inv.len hG
  have hle:=hp.le
  dsimp only at hp hx hlen hle ⊢
  by_cases hk:k<s.all.length
  ·left
   obtain ⟨q,hq⟩:∃ q,s.all[k]? = some q:=⟨_,List.getElem?_eq_getElem hk⟩;obtain ⟨s',e,i1,i2,i3⟩:=US hG hp.inv (by omega) (hp.inv.cl q (List.mem_of_getElem? hq));refine ⟨(k+1,s'),⟨⟨i1.mono (by omega),?_,?_⟩,hx.trans i2⟩,by dsimp only;omega,?_⟩
   ·obtain ⟨r,hr⟩:=i2.all
    dsimp only
    rw [hr,List.length_append];omega
   ·intro j x hj hjx
    dsimp only at hj hjx ⊢
    rw [P7 i2 (by omega)] at hjx
    by_cases hjk:j=k
    ·subst hjk;rw [hq] at hjx;cases hjx;exact i3
    ·exact (hp.pr j x (by omega) hjx).ext i2
   ·simp only [AV,tupW]
    rw [Uy (show (k:Int)<(s.all.length:Int) by omega),cT,getI hq,oB,show Br (⟨(⟨s.t.l,s.t.root⟩:ATy),s.flex,s.all,s.buckets,s.below_,s.above,s.mixed,s.fails⟩:Syntagmaref19World) q=_ from e,oB,Ab (by constructor <;> omega)]
    rfl
  ·right
   have hkl:k=s.all.length:=by omega
   subst hkl;refine ⟨_,⟨s,rfl,hp,hx⟩,?_⟩;simp only [AV,tupW];rw [UK (show ¬ (s.all.length:Int)<(s.all.length:Int) by omega),cF_]) FU (d,w) ⟨h,.refl w⟩ (by rw [FUv];dsimp only;omega)
 exact ⟨w',by rw [<- e2];exact e1,e3,e4⟩
structure AddW (t:ATy) (g:BSq) (c:Nat) (w w':Syntagmaref19World):Prop where
 inv:WInv t g c w'
 ext:ExtW w w'
 bel:w'.below_=w.below_
 abv:w'.above=w.above
theorem AddW.trans {a b d:Syntagmaref19World} (h:AddW t g c a b) (k:AddW t g c b d):AddW t g c a d:=⟨k.inv,h.ext.trans k.ext,k.bel.trans h.bel,k.abv.trans h.abv⟩
theorem Tq (hw:WInv t g c w) {v:Nat} {LB LA:List (List Int)} (hB:w.below_[v]? = some LB) (hA:w.above[v]? = some LA) {l r:List Int} (hl:l∈LB) (hr:r∈LA):Cl t g (toB ⟨l,r⟩):=by
 obtain ⟨q,q1,q2⟩:=(hw.bel v LB hB).2 l hl;obtain ⟨p,p1,p2⟩:=(hw.abv v LA hA).2 r hr;exact .cut q1 p1 q2 p2
theorem RC (hG:FinG t g) (hw:WInv t g c w) (hc:c<=2000000) {v i:Nat} {LB LA:List (List Int)} (hB:w.below_[v]? = some LB) (hA:w.above[v]? = some LA) {l:List Int} (hl:LB[i]? = some l) :
  ∃ w',AS (v:Int) (i:Int) FU (0,tupW w)=some (tupW w')/\AddW t g c w w'/\∀ r∈LA,(⟨l,r⟩:RSeq)∈w'.all:=by
 have hLA:=(hw.abv v LA hA).1
 obtain ⟨o,e1,w',rfl,e3,e4⟩:=A2 (φ:=fun n k (s:Syntagmaref19World)=>AS (v:Int) (i:Int) n (k,tupW s)) (l:=LA) (fun k s=>AddW t g c w s/\∀ r∈LA.take k,(⟨l,r⟩:RSeq)∈s.all)
  (fun o=>∃ w',o=tupW w'/\AddW t g c w w'/\∀ r∈LA,(⟨l,r⟩:RSeq)∈w'.all)
  (by
   rintro n k r s hr hk ⟨h1,h2⟩
   left
   obtain ⟨s',e,h4,h5,h6,h7,h8⟩:=M5 hG h1.inv (Tq hw hB hA (List.mem_of_getElem? hl) (List.mem_of_getElem? hr));refine ⟨s',?_,h1.trans ⟨h4,h5,h7,h8⟩,fun y hy=>?_⟩
   ·have hA':s.above[v]? = some LA:=by rw [h1.abv];exact hA
    have hB':s.below_[v]? = some LB:=by rw [h1.bel];exact hB
    simp only [AS,tupW];rw [getI hA',oB,dT (show (k:Int)<(LA.length:Int) by omega),cT,getI hB',oB,getI hl,oB,oB,getI hr,oB,show Aw (⟨(⟨s.t.l,s.t.root⟩:ATy),s.flex,s.all,s.buckets,s.below_,s.above,s.mixed,s.fails⟩:Syntagmaref19World) (⟨l,r⟩:RSeq)=_ from e,oB,Ab (by constructor <;> omega)]
   ·rw [takeS hr] at hy
    rcases List.mem_append.1 hy with hy | hy
    ·exact h5.mem (h2 y hy)
    ·rw [List.mem_singleton] at hy;subst hy;exact h6)
  (by
   rintro n s ⟨h1,h2⟩
   have hA':s.above[v]? = some LA:=by rw [h1.abv];exact hA
   refine ⟨tupW s,?_,s,rfl,h1,by rwa [List.take_length] at h2⟩;simp only [AS,tupW];rw [getI hA',oB,dF (by omega),cF_]) (by rw [FUv];omega) w ⟨⟨hw,.refl w,rfl,rfl⟩,by simp⟩
 exact ⟨w',e1,e3,e4⟩
theorem Sb (hG:FinG t g) (hw:WInv t g c w) (hc:c<=2000000) {v:Nat} {LB LA:List (List Int)} (hB:w.below_[v]? = some LB) (hA:w.above[v]? = some LA) :
  ∃ w',AW (v:Int) FU (0,tupW w)=some (tupW w')/\AddW t g c w w'/\∀ l∈LB,∀ r∈LA,(⟨l,r⟩:RSeq)∈w'.all:=by
 have hLB:=(hw.bel v LB hB).1
 obtain ⟨o,e1,w',rfl,e3,e4⟩:=A2 (φ:=fun n k (s:Syntagmaref19World)=>AW (v:Int) n (k,tupW s)) (l:=LB) (fun k s=>AddW t g c w s/\∀ l∈LB.take k,∀ r∈LA,(⟨l,r⟩:RSeq)∈s.all)
  (fun o=>∃ w',o=tupW w'/\AddW t g c w w'/\∀ l∈LB,∀ r∈LA,(⟨l,r⟩:RSeq)∈w'.all)
  (by
   rintro n k l s hl hk ⟨h1,h2⟩
   left
   have hA':s.above[v]? = some LA:=by rw [h1.abv];exact hA
   have hB':s.below_[v]? = some LB:=by rw [h1.bel];exact hB
   obtain ⟨s',e,h4,h5⟩:=RC hG h1.inv hc hB' hA' hl;refine ⟨s',?_,h1.trans h4,fun y hy r hr=>?_⟩
   ·have e':AS (v:Int) (k:Int) FU (0,s.all,s.t.l,s.t.root,s.flex,s.mixed,s.fails,s.below_,s.above,s.buckets)=some (tupW s'):=e
    simp only [AW,tupW];rw [getI hB',oB,dT (show (k:Int)<(LB.length:Int) by omega),cT,e',oB]
    show grd _ _=_
    rw [Ab (by constructor <;> omega)]
   ·rw [takeS hl] at hy
    rcases List.mem_append.1 hy with hy | hy
    ·exact h4.ext.mem (h2 y hy r hr)
    ·rw [List.mem_singleton] at hy;subst hy;exact h5 r hr)
  (by
   rintro n s ⟨h1,h2⟩
   have hB':s.below_[v]? = some LB:=by rw [h1.bel];exact hB
   refine ⟨tupW s,?_,s,rfl,h1,by rwa [List.take_length] at h2⟩;simp only [AW,tupW];rw [getI hB',oB,dF (by omega),cF_]) (by rw [FUv];omega) w ⟨⟨hw,.refl w,rfl,rfl⟩,by simp⟩
 exact ⟨w',e1,e3,e4⟩
def Ii (w:Syntagmaref19World) (n:Nat):Prop:=∀ (v:Nat) LB LA,v<n->w.below_[v]? = some LB->w.above[v]? = some LA->∀ l∈LB,∀ r∈LA,(⟨l,r⟩:RSeq)∈w.all
theorem RN (hG:FinG t g) (hw:WInv t g c w) (hc:c<=2000000):∃ w',AM 1000 FU (0,tupW w)=some (tupW w')/\AddW t g c w w'/\Ii w' 1000:=by
 obtain ⟨o,e1,w',rfl,e3,e4⟩:=A2 (φ:=fun n k (s:Syntagmaref19World)=>AM 1000 n (k,tupW s)) (l:=List.range 1000) (fun k s=>AddW t g c w s/\Ii s k)
  (fun o=>∃ w',o=tupW w'/\AddW t g c w w'/\Ii w' 1000)
  (by
   rintro n k x s _ hk ⟨h1,h2⟩;rw [List.length_range] at hk
   left
   have hB':s.below_[k]? = some (s.below_[k]'(by rw [h1.inv.bl];exact hk)):=List.getElem?_eq_getElem _
   have hA':s.above[k]? = some (s.above[k]'(by rw [h1.inv.al];exact hk)):=List.getElem?_eq_getElem _
   obtain ⟨s',e,h4,h5⟩:=Sb hG h1.inv hc hB' hA';refine ⟨s',?_,h1.trans h4,fun v LB LA hv hB hA l hl r hr=>?_⟩
   ·have e':AW (k:Int) FU (0,s.all,s.t.l,s.t.root,s.flex,s.mixed,s.fails,s.below_,s.above,s.buckets)=some (tupW s'):=e
    simp only [AM,tupW];rw [dT (show (k:Int)<1000 by omega),cT,e',oB]
    show grd _ _=_
    rw [Ab (by constructor <;> omega)]
   ·rw [h4.bel] at hB;rw [h4.abv] at hA
    by_cases hvk:v=k
    ·subst hvk;rw [hB'] at hB;rw [hA'] at hA;cases hB;cases hA;exact h5 l hl r hr
    ·exact h4.ext.mem (h2 v LB LA (by omega) hB hA l hl r hr))
  (by
   rintro n s ⟨h1,h2⟩;rw [List.length_range] at h2;refine ⟨tupW s,?_,s,rfl,h1,h2⟩;simp only [AM,tupW];rw [List.length_range,dF (by omega),cF_]) (by rw [FUv,List.length_range];omega) w ⟨⟨hw,.refl w,rfl,rfl⟩,fun v LB LA h=>by omega⟩
 exact ⟨w',e1,e3,e4⟩
theorem RU (hG:FinG t g) (hw:WInv t g 0 w) (hg:toS g∈w.all):∃ w',AU 1000 FU (0,tupW w)=some (tupW w')/\ProcW t g w'.all.length w'/\Ii w' 1000/\toS g∈w'.all:=by
 obtain ⟨o,e1,w',rfl,e3,e4,e5⟩:=HE (φ:=fun n (s:Nat×Syntagmaref19World)=>AU 1000 n ((s.1:Int),tupW s.2)) (fun s=>500001 - s.1) (fun s=>ProcW t g s.1 s.2/\(s.1≠0->Ii s.2 1000)/\toS g∈s.2.all)
  (fun o=>∃ w',o=tupW w'/\ProcW t g w'.all.length w'/\Ii w' 1000/\toS g∈w'.all) (by
  rintro n ⟨k,s⟩ ⟨hp,hpr,hgs⟩
  have hlen:=hp.inv.len hG
  have hle:=hp.le
  dsimp only at hp hpr hgs hlen hle ⊢
  by_cases hk:k<s.all.length
  ·left
   obtain ⟨s1,f1,f2,f3⟩:=R6 hG hp
   have hlen1:=f2.inv.len hG
   obtain ⟨s2,k1,k2,k3⟩:=RN hG f2.inv (by omega);obtain ⟨r1,hr1⟩:=f3.all
   have hl1:s.all.length<=s1.all.length:=by rw [hr1,List.length_append];omega
   refine ⟨(s1.all.length,s2),⟨⟨k2.inv,?_,?_⟩,fun _=>k3,(k2.ext.mem (f3.mem hgs))⟩,by dsimp only;omega,?_⟩
   ·obtain ⟨r,hr⟩:=k2.ext.all
    dsimp only;rw [hr,List.length_append];omega
   ·intro j q hj hjq
    dsimp only at hj hjq ⊢
    rw [P7 k2.ext hj] at hjq;exact (f2.pr j q hj hjq).ext k2.ext
   ·have f1':AV FU ((k:Int),s.all,s.t.l,s.t.root,s.flex,s.mixed,s.fails,s.below_,s.above,s.buckets)=some ((s1.all.length:Int),tupW s1):=f1
    have k1':AM 1000 FU (0,s1.all,s1.t.l,s1.t.root,s1.flex,s1.mixed,s1.fails,s1.below_,s1.above,s1.buckets)=some (tupW s2):=k1
    simp only [AU,tupW];rw [Uy (show (k:Int)<(s.all.length:Int) by omega),cT,f1',oB]
    show Option.bind (AM 1000 FU (0,s1.all,s1.t.l,s1.t.root,s1.flex,s1.mixed,s1.fails,s1.below_,s1.above,s1.buckets)) _=_
    rw [k1',oB]
  ·right
   have hkl:k=s.all.length:=by omega
   subst hkl
   have hpos:s.all.length≠0:=by
    intro h;rw [List.length_eq_zero_iff] at h;rw [h] at hgs;simp at hgs
   refine ⟨_,⟨s,rfl,hp,hpr hpos,hgs⟩,?_⟩;simp only [AU,tupW];rw [UK (show ¬ (s.all.length:Int)<(s.all.length:Int) by omega),cF_]) FU (0,w) ⟨⟨hw,Nat.zero_le _,fun j q h=>by omega⟩,fun h=>absurd rfl h,hg⟩ (by rw [FUv];dsimp only;omega)
 exact ⟨w',e1,e3,e4,e5⟩
theorem QG {w:Syntagmaref19World} (hp:ProcW t g w.all.length w) (hpr:Ii w 1000) (hg:toS g∈w.all) (hV:∀ q v l,Cl t g q->BlwP t q v l->0<=v/\v<1000):∀ q,Cl t g q->toS q∈w.all/\DoneW t w q:=by
 have hd:∀ q,toS q∈w.all->DoneW t w q:=by
  intro q hq
  obtain ⟨j,hj⟩:=List.getElem?_of_mem hq;exact hp.pr j _ (List.getElem?_eq_some_iff.1 hj).1 hj
 intro q hq
 induction hq with
 | goal=>exact ⟨hg,hd _ hg⟩
 | lead h hv hs ih =>
  have:=ih.2.led hv _ hs
  exact ⟨this,hd _ this⟩
 | cut h h' hb ha ih ih' =>
  obtain ⟨L,l1,l2⟩:=ih.2.bel _ _ hb;obtain ⟨M,m1,m2⟩:=ih'.2.abv _ _ ha
  have hv:=hV _ _ _ h hb
  have:=hpr _ L M (by omega) l1 m1 _ l2 _ m2
  exact ⟨this,hd _ this⟩
end
end Go.Proofs.YtcoghblhdjmbfaaGreat
namespace Go.Proofs.YtcoghblhdjmbfaaGreat
open Go.V
open Classical
def w0S (t:ATy):Syntagmaref19World:=⟨t,1000,[],List.replicate 997 [],List.replicate 1000 [],List.replicate 1000 [],false,false⟩
section
variable {t:ATy} {g:BSq}
theorem UR (t:ATy) (g:BSq):WInv t g 0 (w0S t):=by
 refine ⟨rfl,rfl,⟨List.length_replicate ..,?_,?_,?_,?_⟩,List.length_replicate ..,List.length_replicate ..,List.nodup_nil,fun q h=>(by cases h),?_,?_,fun h=>(by cases h),fun h=>(by cases h)⟩
 ·intro l hl;rw [List.eq_of_mem_replicate hl];exact Nat.zero_le _
 ·intro l hl i hi;rw [List.eq_of_mem_replicate hl] at hi;cases hi
 ·intro i q hq;exact absurd hq (by simp [w0S])
 ·intro q hq;cases hq
 ·intro v L hL
  have:=List.eq_of_mem_replicate (List.mem_of_getElem? (show (List.replicate 1000 ([]:List (List Int)))[v]? = some L from hL))
  subst this;exact ⟨Nat.le_refl _,fun l hl=>(by cases hl)⟩
 ·intro v L hL
  have:=List.eq_of_mem_replicate (List.mem_of_getElem? (show (List.replicate 1000 ([]:List (List Int)))[v]? = some L from hL))
  subst this;exact ⟨Nat.le_refl _,fun l hl=>(by cases hl)⟩
theorem P4 (x:Int):Dh [x]=some [x]:=by rw [Hb (by simp),FN]
theorem Ug (hG:FinG t g):∀ q v l,Cl t g q->BlwP t q v l->0<=v/\v<1000:=by
 intro q v l hq hb
 obtain ⟨hne,h⟩:=hb.2.2.1
 have hin:=hG.inq q hq
 cases hc:nzL t q.right 2 with
 | nil=>exact absurd hc hne
 | cons x r =>
  have hx:=h x (by rw [hc];simp)
  have hm:x∈q.right:=(List.mem_filter.1 (show x∈nzL t q.right 2 by rw [hc];simp)).1
  have:=hG.ok.vno x (hin.2 x hm) hx.1
  rw [hx.2] at this;exact this
theorem SS {x y:Int} (hG:FinG t ⟨[x],[y]⟩):∃ w',BO t [⟨[x],[y]⟩] 1000=some w'/\((w'.mixed=false/\w'.fails=false)↔MemA t ⟨[x],[y]⟩):=by
 obtain ⟨w1,e1,i1,x1,m1,b1,a1⟩:=M5 hG (UR t ⟨[x],[y]⟩) (q:=⟨[x],[y]⟩) .goal;obtain ⟨w2,e2,i2,p2,m2⟩:=RU hG i1 (show toS ⟨[x],[y]⟩∈w1.all from m1)
 have l1:A5 [⟨[x],[y]⟩] FU (0,[],t.l,t.root,1000,false,false,List.replicate (1000:Int).toNat [],List.replicate (1000:Int).toNat [],List.replicate (997:Int).toNat [])=some (tupW w1):=by
  obtain ⟨o,f1,f2⟩:=A2 (φ:=fun n i (s:Syntagmaref19World)=>A5 [⟨[x],[y]⟩] n (i,tupW s)) (l:=[()]) (fun i s=>(i=0->s=w0S t)/\(i≠0->s=w1)) (fun o=>o=tupW w1)
   (by
    rintro n i u s hu hi ⟨h1,_⟩
    have hi0:i=0:=by simpa using hi
    subst hi0
    left
    refine ⟨w1,?_,fun h=>absurd h (by omega),fun _=>rfl⟩;rw [h1 rfl];simp only [A5,tupW];rw [dT (show ((0:Nat):Int)<(([⟨[x],[y]⟩]:List RSeq).length:Int) by simp),cT,getI (show ([⟨[x],[y]⟩]:List RSeq)[0]? = some ⟨[x],[y]⟩ from rfl),oB,P4,oB,oB,P4,oB];rw [show Aw (⟨(⟨(w0S t).t.l,(w0S t).t.root⟩:ATy),(w0S t).flex,(w0S t).all,(w0S t).buckets,(w0S t).below_,(w0S t).above,(w0S t).mixed,(w0S t).fails⟩:Syntagmaref19World) (⟨[x],[y]⟩:RSeq)=_ from e1,oB,Ab (by constructor <;> omega)])
   (by
    rintro n s ⟨_,h2⟩;refine ⟨tupW s,?_,by rw [h2 (by simp)]⟩;simp only [A5,tupW];rw [dF (by simp),cF_]) (by rw [FUv];simp) (w0S t) ⟨fun _=>rfl,fun h=>absurd rfl h⟩
  rw [f2] at f1;exact f1
 refine ⟨w2,?_,?_⟩
 ·unfold BO
  rw [Ab (by omega),Ab (by decide),Ab (by omega),Ab (by decide),Ab (by omega),Ab (by decide),l1,oB]
  show Option.bind (AU 1000 FU (0,tupW w1)) _=_
  rw [e2,oB]
 ·have hall:=QG i2 p2 m2 (Ug hG)
  constructor
  ·rintro ⟨hm,hf⟩ q hq
   have hd:=(hall q hq).2
   refine ⟨fun h=>(by rw [hd.mix h] at hm;cases hm),fun hv=>?_⟩
   cases hb:(AQ t q).1 with
   | false=>rfl
   | true=>rw [hd.fai hv hb] at hf;cases hf
  ·intro h
   constructor
   ·cases hm:w2.mixed with
    | false=>rfl
    | true=>obtain ⟨q,q1,q2⟩:=i2.inv.mix hm;exact absurd q2 (h q q1).1
   ·cases hm:w2.fails with
    | false=>rfl
    | true =>
     obtain ⟨q,q1,q2,q3⟩:=i2.inv.fai hm
     have:=(h q q1).2 q2;rw [q3] at this;cases this
end
end Go.Proofs.YtcoghblhdjmbfaaGreat
namespace Go.Proofs.YtcoghblhdjmbfaaGreat
open Go.V
open Classical
theorem G4 {α:Type}:∀ (S U:List α),S.Nodup->(∀ s∈S,s∈U)->S.length<=U.length
 | [],U,_,_=>Nat.zero_le _
 | a::S,U,hn,h=>by
  classical
  obtain ⟨h1,h2⟩:=List.nodup_cons.1 hn
  have ha:a∈U:=h a (by simp)
  have:=G4 S (U.erase a) h2 (fun s hs=>(List.mem_erase_of_ne (fun e=>h1 (by rw [<- e];exact hs))).2 (h s (by simp [hs])))
  rw [List.length_erase_of_mem ha] at this
  have:=List.length_pos_of_mem ha
  simp only [List.length_cons]
  omega
def SrtQ (q:BSq):Prop:=q.left.Pairwise (· < ·)/\q.right.Pairwise (· < ·)
theorem Td {t:ATy} {q s:BSq} (h:SrtQ q) (hs:s∈(AQ t q).2):SrtQ s:=by
 unfold AQ at hs
 split at hs
 ·cases hs
 ·split at hs
  ·rename_i l ho
   unfold openA at ho
   split at ho
   ·cases ho
    split at hs
    ·simp only [List.mem_cons,List.not_mem_nil,or_false] at hs
     subst hs;exact ⟨Dn _,h.2⟩
    ·simp only [List.mem_cons,List.not_mem_nil,or_false] at hs
     rcases hs with rfl | rfl <;> exact ⟨Dn _,h.2⟩
   ·split at ho
    ·cases ho
     split at hs
     ·simp only [List.mem_cons,List.not_mem_nil,or_false] at hs
      subst hs;exact ⟨h.1,Dn _⟩
     ·simp only [List.mem_cons,List.not_mem_nil,or_false] at hs
      rcases hs with rfl | rfl <;> exact ⟨h.1,Dn _⟩
    ·cases ho
  ·split at hs
   ·cases hs
   ·unfold Ea at hs
    split at hs
    ·cases hs
    ·unfold Bt at hs
     split at hs
     ·cases hs
     ·split at hs
      ·simp only [List.mem_cons,List.not_mem_nil,or_false] at hs
       rcases hs with rfl | rfl <;> exact ⟨Dn _,Dn _⟩
      ·split at hs
       ·cases hs
       ·obtain ⟨n,_,rfl⟩:=List.mem_map.1 hs
        exact ⟨Dn _,Dn _⟩
    ·cases hs
theorem Cl.srt {t:ATy} {g q:BSq} (hg:SrtQ g) (h:Cl t g q):SrtQ q:=by
 induction h with
 | goal=>exact hg
 | lead _ _ hs ih=>exact Td ih hs
 | cut _ _ hb ha ih ih'=>exact ⟨by rw [hb.2.1];exact ih.1.filter _,by rw [ha.2.1];exact ih'.2.filter _⟩
def subsL:List Int->List (List Int)
 | []=>[[]]
 | x::l=>subsL l++(subsL l).map (x :: ·)
theorem Gg:∀ l:List Int,(subsL l).length=2 ^ l.length
 | []=>rfl
 | x::l=>by simp only [subsL,List.length_append,List.length_map,Gg l,List.length_cons,Nat.pow_succ];omega
theorem L6:∀ l:List Int,[]∈subsL l
 | []=>by simp [subsL]
 | x::l=>List.mem_append_left _ (L6 l)
theorem Fy:∀ (gl m:List Int),gl.Pairwise (· < ·)->m.Pairwise (· < ·)->(∀ x∈m,x∈gl)->m∈subsL gl
 | _,[],_,_,_=>L6 _
 | [],y::m,_,_,h=>absurd (h y (by simp)) (by simp)
 | x::gl,y::m,hg,hm,h=>by
  rw [List.pairwise_cons] at hg hm
  by_cases e:y=x
  ·subst e
   refine List.mem_append_right _ (List.mem_map.2 ⟨m,Fy gl m hg.2 hm.2 fun z hz=>?_,rfl⟩)
   rcases List.mem_cons.1 (h z (by simp [hz])) with e | h'
   ·have:=hm.1 z hz;omega
   ·exact h'
  ·have hy:y∈gl:=by
    rcases List.mem_cons.1 (h y (by simp)) with e' | h'
    ·exact absurd e' e
    ·exact h'
   refine List.mem_append_left _ (Fy gl (y::m) hg.2 (List.pairwise_cons.2 hm) fun z hz=>?_)
   rcases List.mem_cons.1 hz with rfl | hz'
   ·exact hy
   ·rcases List.mem_cons.1 (h z hz) with e' | h'
    ·have:=hm.1 z hz';have:=hg.1 y hy;omega
    ·exact h'
def candQ (gl pl:List Int):List RSeq:=
 ((subsL gl).flatMap fun l=>(subsL gl).map fun r=>⟨l,r⟩)++((pl.flatMap fun x=>(subsL gl).map fun r=>⟨[x],r⟩)++(pl.flatMap fun x=>(subsL gl).map fun l=>⟨l,[x]⟩))
theorem HV {α β:Type} (f:α->List β) (n:Nat):∀ l:List α,(∀ x∈l,(f x).length=n)->(l.flatMap f).length=l.length*n
 | [],_=>by simp
 | x::l,h=>by
  rw [List.flatMap_cons,List.length_append,h x (by simp),HV f n l fun y hy=>h y (by simp [hy]),List.length_cons,Nat.add_mul];omega
theorem Sh (gl pl:List Int):(candQ gl pl).length=2 ^ gl.length*2 ^ gl.length+2*(pl.length*2 ^ gl.length):=by
 unfold candQ;rw [List.length_append,List.length_append,HV _ (2 ^ gl.length) _ (fun x _=>by rw [List.length_map,Gg]),HV _ (2 ^ gl.length) _ (fun x _=>by rw [List.length_map,Gg]),HV _ (2 ^ gl.length) _ (fun x _=>by rw [List.length_map,Gg]),Gg]
 omega
theorem U6 {t:ATy} {P M:Int->Prop} {gl:List Int} {x y:Int} (hG:PolG t P M (· ∈ gl)) (hO:OkT t) (hN:∀ n∈t.l,NB n) (ht:t.l.length<=1500) (hgl:gl.Pairwise (· < ·)) (hgn:gl.length<=6) (hg:Shp P M (· ∈ gl) ⟨[x],[y]⟩):FinG t ⟨[x],[y]⟩:=by
 have hs0:SrtQ ⟨[x],[y]⟩:=⟨List.pairwise_singleton _ _,List.pairwise_singleton _ _⟩
 have hlen:∀ l:List Int,l.Pairwise (· < ·)->(∀ i∈l,i∈gl)->l.length<=6:=fun l h1 h2=>Nat.le_trans (G4 l gl (h1.imp (fun h=>by omega)) h2) hgn
 have hI:∀ q,Cl t ⟨[x],[y]⟩ q->InQ t q:=fun q hq=>(hq.shp hG hg).inQ hG
 refine ⟨hO,hN,hI,fun q hq=>?_,fun l hl hq=>?_⟩
 ·have hs:=hq.srt hs0
  have hsh:=hq.shp hG hg
  have hin:=hI q hq
  have hll:q.left.length<=6/\q.right.length<=6:=by
   rcases hsh with ⟨h1,h2⟩ | ⟨z,_,h1,h2⟩ | ⟨h1,z,_,h2⟩
   ·exact ⟨hlen _ hs.1 h1,hlen _ hs.2 h2⟩
   ·exact ⟨by rw [h1];simp,hlen _ hs.2 h2⟩
   ·exact ⟨hlen _ hs.1 h1,by rw [h2];simp⟩
  refine ⟨by show q.left.length<=500;omega,by show q.right.length<=500;omega,fun i hi=>?_,fun i hi=>?_⟩
  ·obtain ⟨h0,h1⟩:=hin.1 i hi;omega
  ·obtain ⟨h0,h1⟩:=hin.2 i hi;omega
 ·have hsub:∀ q∈l,q∈candQ gl (rngI t.l.length):=by
   intro q hql
   have hc:=hq q hql
   have hs:=hc.srt hs0
   have hsh:=hc.shp hG hg
   have hin:=hI _ hc
   obtain ⟨ql,qr⟩:=q;unfold candQ
   rcases hsh with ⟨h1,h2⟩ | ⟨z,_,h1,h2⟩ | ⟨h1,z,_,h2⟩
   ·exact List.mem_append_left _ (List.mem_flatMap.2 ⟨ql,Fy _ _ hgl hs.1 h1,List.mem_map.2 ⟨qr,Fy _ _ hgl hs.2 h2,rfl⟩⟩)
   ·have h1':ql=[z]:=h1
    subst h1';refine List.mem_append_right _ (List.mem_append_left _ (List.mem_flatMap.2 ⟨z,mem_rngI.2 ?_,List.mem_map.2 ⟨qr,Fy _ _ hgl hs.2 h2,rfl⟩⟩));exact hin.1 z (by simp [toB])
   ·have h2':qr=[z]:=h2
    subst h2';refine List.mem_append_right _ (List.mem_append_right _ (List.mem_flatMap.2 ⟨z,mem_rngI.2 ?_,List.mem_map.2 ⟨ql,Fy _ _ hgl hs.1 h1,rfl⟩⟩));exact hin.2 z (by simp [toB])
  have h1:=G4 l _ hl hsub
  rw [Sh] at h1
  have hr:(rngI t.l.length).length=t.l.length:=by simp [rngI]
  rw [hr] at h1
  have hp:2 ^ gl.length<=64:=by
   have:=Nat.pow_le_pow_right (show 0<2 by omega) hgn
   simpa using this
  have h2:2 ^ gl.length*2 ^ gl.length<=64*64:=Nat.mul_le_mul hp hp
  have h3:t.l.length*2 ^ gl.length<=1500*64:=Nat.mul_le_mul ht hp
  omega
end Go.Proofs.YtcoghblhdjmbfaaGreat
namespace Go.Proofs.YtcoghblhdjmbfaaGreat
open Go.V
open Classical
theorem Re (a b:ATy) (ha:a.l.length<=4001) (hb:b.l.length<=2001) (hN:∀ n∈b.l,NB n) (hR:DX b.l):FG a b=some (Cy a b,(a.l.length:Int)):=by
 unfold FG;rw [Ab (by omega),List.nil_append];rw [Dj (φ:=fun n i s=>DM a b n (i,a.root,s)) (l:=b.l) (AR (fun k=>k+(a.l.length:Int))) (fun s=>(a.root,s)) a.l.length ?_ ?_ (by rw [FUv];omega) a.l rfl]
 ·rfl
 ·intro n i x s hx hi hs
  have hr:=K6 (hR x (List.mem_of_getElem? hx))
  have hNx:=hN x (List.mem_of_getElem? hx)
  unfold NB at hNx
  have key:C7 a x.l FU (0,[])=some (x.l.map (fun y=>⟨y.name,y.at_+(a.l.length:Int)⟩)):=by
   rw [Dj (φ:=fun n i s=>C7 a x.l n (i,s)) (l:=x.l) (fun y=>(⟨y.name,y.at_+(a.l.length:Int)⟩:AFd)) id 0 ?_ ?_ (by rw [FUv];omega) [] rfl]
   ·rfl
   ·intro n i y s hy hi hs
    obtain ⟨y0,y1⟩:=hr.2 y (List.mem_of_getElem? hy);simp only [C7];rw [dT (show (i:Int)<x.l.length by omega),cT,getI hy,oB,oB,Ab (by omega),Ab (by simp only [List.length_cons,List.length_nil];omega),Ab (by omega)]
   ·intro n s hs
    simp only [C7];rw [dF (by omega),cF_];rfl
  simp only [DM];rw [dT (show (i:Int)<b.l.length by omega),cT,getI hx,oB]
  change ((bif pB x.kind then _ else _:Option (Int×Int×Int×(List AFd))).bind _)=_
  unfold AR
  cases hp:pB x.kind with
  | true =>
   obtain ⟨⟨a0,a1⟩,b0,b1⟩:=hr.1 hp;rw [cT,Ab (by omega),Ab (by omega),oB]
   dsimp only
   rw [key,oB,Ab (by simp only [List.length_cons,List.length_nil];omega),Ab (by omega)]
   rfl
  | false =>
   rw [cF_,oB]
   dsimp only
   rw [key,oB,Ab (by simp only [List.length_cons,List.length_nil];omega),Ab (by omega)]
   rfl
 ·intro n s hs
  simp only [DM];rw [dF (by omega),cF_]
end Go.Proofs.YtcoghblhdjmbfaaGreat
namespace Go.Proofs.YtcoghblhdjmbfaaGreat
open Go.V
open Classical
theorem U7 (w:Syntagmaref19World):∃ e,Bp w=some e/\(e=0↔(w.mixed=false/\w.fails=false)):=by
 unfold Bp
 cases w.mixed with
 | true=>exact ⟨14,rfl,by simp⟩
 | false=>cases w.fails with
  | true=>exact ⟨11,rfl,by simp⟩
  | false=>exact ⟨0,rfl,by simp⟩
theorem Q9 {w u:ATy} {P M:Int->Prop} {gl:List Int} (hw:w.l.length<=1400) (hu:u.l.length<=6) (hOu:DX u.l) (hNu:∀ n∈u.l,NB n) (hr:In u u.root)
  (hG:PolG (Cy w u) P M (· ∈ gl)) (hO:OkT (Cy w u)) (hN:∀ n∈(Cy w u).l,NB n) (hln:(Cy w u).l.length<=1500) (hgl:gl.Pairwise (· < ·)) (hgn:gl.length<=6)
  (hg:Shp P M (· ∈ gl) ⟨[w.root],[u.root+(w.l.length:Int)]⟩):AC w u=some (decide (MemA (Cy w u) ⟨[w.root],[u.root+(w.l.length:Int)]⟩)):=by
 unfold AC;refine bnd (Re w u (by omega) (by omega) hNu hOu) ?_;obtain ⟨h0,h1⟩:=hr;refine (Ab (p:=InR ((w.l.length:Int)+u.root)) (by constructor <;> omega)).trans ?_;rw [Int.add_comm (w.l.length:Int) u.root];obtain ⟨w',e,h⟩:=SS (U6 hG hO hN hln hgl hgn hg);rw [show BO (⟨(Cy w u).l,(Cy w u).root⟩:ATy) [(⟨[w.root],[(u.root+(w.l.length:Int))]⟩:RSeq)] 1000=_ from e,oB];obtain ⟨x,e2,h2⟩:=U7 w';rw [show Bp (⟨(⟨w'.t.l,w'.t.root⟩:ATy),w'.flex,w'.all,w'.buckets,w'.below_,w'.above,w'.mixed,w'.fails⟩:Syntagmaref19World)=_ from e2,oB];refine congrArg some ?_;exact decide_eq_decide.2 (h2.trans h)
end Go.Proofs.YtcoghblhdjmbfaaGreat
namespace Go.Proofs.YtcoghblhdjmbfaaGreat
open Go.V
open Classical
theorem QT {gl:List Int} (h:gl.Pairwise (· < ·)) (k:Int):(gl.map (fun i=>i+k)).Pairwise (· < ·):=by
 rw [List.pairwise_map];exact h.imp (fun h=>by omega)
theorem U4 {u:ATy} {gl:List Int} (hg:GU u gl):gl.length<=u.l.length:=by
 have:=G4 gl (rngI u.l.length) (hg.srt.imp (fun h=>by omega)) (fun i hi=>mem_rngI.2 (hg.kept.inn i hi))
 simpa [rngI] using this
theorem RD {w u:ATy} (h:∀ n∈w.l,NB n) (k:∀ n∈u.l,NB n):∀ n∈(Cy w u).l,NB n:=by
 intro n hn
 unfold Cy at hn
 rcases List.mem_append.1 hn with hn | hn
 ·exact h n hn
 ·obtain ⟨m,hm,rfl⟩:=List.mem_map.1 hn
  have:=k m hm
  unfold NB AR at *
  simpa using this
theorem HG {a:AutoAuto} {u:ATy} {gl:List Int} (hM:NmA a) (hl:a.l.length<=10) (hP:PolA a.l) (h0:0<=a.start) (h1:a.start<(a.l.length:Int)) (hp:(stL a.l a.start).plus=true)
  (hu:MayO u) (hg:GU u gl) (hul:u.l.length<=6) :
  AC (typeW a) u=some (decide (∃ ρ,∀ p,SatS a.l ρ p a.start->Sat u p u.root)):=by
 have hR:=Pi hM
 have hlen:=(Mu hM (by omega) h0 h1).2
 have hG:=LU hP hR hu hg
 have e:=Q9 (w:=typeW a) (u:=u) (by omega) hul hu.ok.right hu.nb hu.root hG (Ns hR.ok hu.ok) (RD (Mu hM (by omega) h0 h1).1.nb hu.nb) (by rw [Gl];omega) (QT hg.srt _) (by rw [List.length_map];exact Nat.le_trans (U4 hg) hul)
  (.inr (.inl ⟨_,HO hR h0 h1 hp,rfl,fun i hi=>by rw [List.mem_singleton.1 hi];exact M6 hg _⟩))
 rw [e];refine congrArg some (decide_eq_decide.2 ?_);exact SR hP hR h0 h1 hp rfl hu hg
end Go.Proofs.YtcoghblhdjmbfaaGreat
namespace Go.Proofs.YtcoghblhdjmbfaaGreat
open Go.V
open Classical
theorem Bis.symm {a b:List AutoState} {R:Int->Int->Prop} (h:Bis a b R):Bis b a (fun j i=>R i j):=by
 refine ⟨fun j i hR=>?_,fun j i hR ha=>?_,fun j i hR ha=>?_,fun j i hR ha s=>?_,fun j i hR ha s=>?_⟩
 ·obtain ⟨h1,h2,h3,h4,h5,h6,h7,h8⟩:=h.flags i j hR
  exact ⟨h1.symm,h2.symm,h3.symm,h4.symm,h5.symm,h6.symm,h7.symm,h8.symm⟩
 ·have f:=h.flags i j hR
  have d:=h.dom i j hR (by rw [f.2.2.2.2.2.1];exact ha)
  exact ⟨d.1,by rw [<- (h.flags _ _ d.1).1,d.2,f.1]⟩
 ·have f:=h.flags i j hR
  have d:=h.cod i j hR (by rw [f.2.2.2.2.2.1];exact ha)
  exact ⟨d.1,by rw [<- (h.flags _ _ d.1).1,d.2,f.1]⟩
 ·have f:=h.flags i j hR
  rcases h.fld i j hR (by rw [f.2.2.2.2.2.2.1];exact ha) s with ⟨h1,h2⟩ | ⟨x,y,h1,h2,h3,h4⟩
  ·exact .inl ⟨h2,h1⟩
  ·exact .inr ⟨y,x,h2,h1,h3,by rw [<- (h.flags _ _ h3).1,h4,f.1]⟩
 ·have f:=h.flags i j hR
  rcases h.tgs i j hR (by rw [f.2.2.2.2.2.2.2];exact ha) s with ⟨h1,h2⟩ | ⟨x,y,h1,h2,h3,h4⟩
  ·exact .inl ⟨h2,h1⟩
  ·exact .inr ⟨y,x,h2,h1,h3,by rw [<- (h.flags _ _ h3).1,h4,f.1]⟩
def RngR (c:List AutoState) (i j:Int):Prop:=i=j/\0<=i/\i<(c.length:Int)
theorem Hj {c:List AutoState} {i:Int} (h0:0<=i) (h1:i<(c.length:Int)):c[i.toNat]? = some (stL c i)/\stL c i∈c:=by
 have hlt:i.toNat<c.length:=by omega
 have e:c[i.toNat]? = some (stL c i):=by unfold stL;rw [List.getElem?_eq_getElem hlt];rfl
 exact ⟨e,List.mem_of_getElem? e⟩
theorem CL {c:List AutoState} {g:AutoState->AutoState} {i:Int} (h0:0<=i) (h1:i<(c.length:Int)):stL (c.map g) i=g (stL c i):=by
 unfold stL;rw [List.getElem?_map,(Hj h0 h1).1];rfl
theorem Ki {l:List AutoEdge} {s:List UInt8} {k:Int} (h:atE l s=some k):∃ e∈l,e.to_=k:=by
 unfold atE at h
 cases hq:l.find? fun e=>decide (e.name=s) with
 | none=>rw [hq] at h;cases h
 | some e=>rw [hq] at h;exact ⟨e,List.mem_of_find?_eq_some hq,by simpa using h⟩
theorem Nn {c:List AutoState} (hP:PolA c) (f:Int->Option Int):Bis c (c.map (stW f)) (RngR c):=by
 refine ⟨?_,?_,?_,?_,?_⟩
 ·rintro i _ ⟨rfl,h0,h1⟩
  rw [CL h0 h1];exact ⟨rfl,rfl,rfl,rfl,rfl,rfl,rfl,rfl⟩
 ·rintro i _ ⟨rfl,h0,h1⟩ ha
  obtain ⟨⟨a1,a2,a3⟩,_⟩:=hP.arrow i h0 h1 ha;rw [CL h0 h1];exact ⟨⟨rfl,a1,a2⟩,a3⟩
 ·rintro i _ ⟨rfl,h0,h1⟩ ha
  obtain ⟨_,⟨a1,a2,a3⟩⟩:=hP.arrow i h0 h1 ha;rw [CL h0 h1];exact ⟨⟨rfl,a1,a2⟩,a3⟩
 ·rintro i _ ⟨rfl,h0,h1⟩ ha s
  rw [CL h0 h1]
  show relO _ (atE (stL c i).fields s) (atE (stL c i).fields s)
  cases hq:atE (stL c i).fields s with
  | none=>exact .inl ⟨rfl,rfl⟩
  | some k =>
   obtain ⟨e,he,rfl⟩:=Ki hq;obtain ⟨a1,a2,a3⟩:=hP.edge i h0 h1 e (.inl ⟨he,ha⟩);exact .inr ⟨_,_,rfl,rfl,⟨rfl,a1,a2⟩,a3⟩
 ·rintro i _ ⟨rfl,h0,h1⟩ ha s
  rw [CL h0 h1]
  show relO _ (atE (stL c i).tags s) (atE (stL c i).tags s)
  cases hq:atE (stL c i).tags s with
  | none=>exact .inl ⟨rfl,rfl⟩
  | some k =>
   obtain ⟨e,he,rfl⟩:=Ki hq;obtain ⟨a1,a2,a3⟩:=hP.edge i h0 h1 e (.inr ⟨he,ha⟩);exact .inr ⟨_,_,rfl,rfl,⟨rfl,a1,a2⟩,a3⟩
theorem stW_vars {f:Int->Option Int} {s:AutoState} {z:Int}:z∈(stW f s).vars↔∃ v∈s.vars,f v=some z:=by
 show z∈setC (s.vars.filterMap f)↔_
 rw [(KU _).2,List.mem_filterMap]
def ExR (a:List AutoState) (i:Int) (D:Pt->Prop):Prop:=∃ ρ,∀ p,SatS a ρ p i->D p
theorem QA {c:List AutoState} (hP:PolA c) {f:Int->Option Int} {ρ ρ':Pt->Int->Prop} {i:Int} (h0:0<=i) (h1:i<(c.length:Int)) (hp:(stL c i).plus=true)
  (hplus:∀ s∈c,s.plus=true->∀ v∈s.vars,∀ p,ρ p v->∃ z,f v=some z/\ρ' p z) (hminus:∀ s∈c,s.plus=false->∀ v∈s.vars,∀ p,(∀ z,f v=some z->ρ' p z)->ρ p v) :
  ∀ p,SatS c ρ p i->SatS (c.map (stW f)) ρ' p i:=by
 intro p
 refine (Mz (Nn hP f) (ρ:=ρ) (ρ':=ρ') ?_ ?_ p i i ⟨rfl,h0,h1⟩).1 hp
 ·rintro i _ p ⟨rfl,h0,h1⟩ hpl ⟨v,hv,hr⟩
  obtain ⟨z,hz,hz'⟩:=hplus _ (Hj h0 h1).2 hpl v hv p hr;exact .inl ⟨z,by rw [CL h0 h1];exact stW_vars.2 ⟨v,hv,hz⟩,hz'⟩
 ·rintro i _ p ⟨rfl,h0,h1⟩ hpl hall _ v hv
  refine hminus _ (Hj h0 h1).2 hpl v hv p fun z hz=>hall z ?_;rw [CL h0 h1];exact stW_vars.2 ⟨v,hv,hz⟩
theorem P0 {c:List AutoState} (hP:PolA c) {f:Int->Option Int} {ρ ρ':Pt->Int->Prop} {i:Int} (h0:0<=i) (h1:i<(c.length:Int)) (hp:(stL c i).plus=true)
  (hplus:∀ s∈c,s.plus=true->∀ v∈s.vars,∀ z,f v=some z->∀ p,ρ' p z->ρ p v) (hminus:∀ s∈c,s.plus=false->∀ v∈s.vars,∀ z,f v=some z->∀ p,ρ p v->ρ' p z) :
  ∀ p,SatS (c.map (stW f)) ρ' p i->SatS c ρ p i:=by
 intro p
 refine (Mz (Nn hP f).symm (ρ:=ρ') (ρ':=ρ) ?_ ?_ p i i ⟨rfl,h0,h1⟩).1 (by rw [CL h0 h1];exact hp)
 ·rintro i _ p ⟨rfl,h0,h1⟩ hpl ⟨z,hz,hr⟩
  rw [CL h0 h1] at hz hpl;obtain ⟨v,hv,hf⟩:=stW_vars.1 hz;exact .inl ⟨v,hv,hplus _ (Hj h0 h1).2 hpl v hv z hf p hr⟩
 ·rintro i _ p ⟨rfl,h0,h1⟩ hpl hall _ z hz
  rw [CL h0 h1] at hz hpl;obtain ⟨v,hv,hf⟩:=stW_vars.1 hz;exact hminus _ (Hj h0 h1).2 hpl v hv z hf p (hall v hv)
end Go.Proofs.YtcoghblhdjmbfaaGreat
namespace Go.Proofs.YtcoghblhdjmbfaaGreat
open Go.V
open Classical
def bothV (c:List AutoState) (v:Int):Prop:=(∃ s∈c,s.plus=true/\v∈s.vars)/\∃ s∈c,s.plus=false/\v∈s.vars
theorem Up {c:List AutoState} (hP:PolA c) {f:Int->Option Int} (hf:∀ v z,f v=some z↔z=v/\bothV c v) {i:Int} (h0:0<=i) (h1:i<(c.length:Int)) (hp:(stL c i).plus=true) (D:Pt->Prop) :
  ExR (c.map (stW f)) i D↔ExR c i D:=by
 constructor
 ·rintro ⟨ρ',h⟩
  refine ⟨fun p v=>(bothV c v/\ρ' p v)\/(¬ bothV c v/\∃ s∈c,s.plus=false/\v∈s.vars),fun p hs=>h p (QA hP h0 h1 hp ?_ ?_ p hs)⟩
  ·rintro s hs hpl v hv p (⟨hb,hr⟩ | ⟨hb,hm⟩)
   ·exact ⟨v,(hf v v).2 ⟨rfl,hb⟩,hr⟩
   ·exact absurd ⟨⟨s,hs,hpl,hv⟩,hm⟩ hb
  ·intro s hs hpl v hv p hz
   by_cases hb:bothV c v
   ·exact .inl ⟨hb,hz v ((hf v v).2 ⟨rfl,hb⟩)⟩
   ·exact .inr ⟨hb,s,hs,hpl,hv⟩
 ·rintro ⟨ρ,h⟩
  refine ⟨ρ,fun p hs=>h p (P0 hP h0 h1 hp ?_ ?_ p hs)⟩
  ·intro s hs hpl v hv z hz p hr
   obtain ⟨rfl,_⟩:=(hf v z).1 hz;exact hr
  ·intro s hs hpl v hv z hz p hr
   obtain ⟨rfl,_⟩:=(hf v z).1 hz;exact hr
theorem QE {c:List AutoState} (hP:PolA c) {f:Int->Option Int} (hf:∀ s∈c,∀ v∈s.vars,∃ z,f v=some z) (hi:∀ v v' z,f v=some z->f v'=some z->v=v') {i:Int} (h0:0<=i) (h1:i<(c.length:Int)) (hp:(stL c i).plus=true) (D:Pt->Prop) :
  ExR (c.map (stW f)) i D↔ExR c i D:=by
 constructor
 ·rintro ⟨ρ',h⟩
  refine ⟨fun p v=>∃ z,f v=some z/\ρ' p z,fun p hs=>h p (QA hP h0 h1 hp ?_ ?_ p hs)⟩
  ·intro s hs hpl v hv p hr;exact hr
  ·intro s hs hpl v hv p hz
   obtain ⟨z,e⟩:=hf s hs v hv;exact ⟨z,e,hz z e⟩
 ·rintro ⟨ρ,h⟩
  refine ⟨fun p z=>∃ v,f v=some z/\ρ p v,fun p hs=>h p (P0 hP h0 h1 hp ?_ ?_ p hs)⟩
  ·rintro s hs hpl v hv z hz p ⟨v',hz',hr⟩
   rw [hi v v' z hz hz'];exact hr
  ·intro s hs hpl v hv z hz p hr;exact ⟨v,hz,hr⟩
end Go.Proofs.YtcoghblhdjmbfaaGreat
namespace Go.Proofs.YtcoghblhdjmbfaaGreat
open Go.V
open Classical
theorem Jb {a:AutoAuto} {k:Int} (h0:0<=k) (h1:k<(a.l.length:Int)):stL a.l k=stA a k:=by
 have e:=(Hj h0 h1).1
 unfold stA idx;rw [if_pos h0,e];rfl
theorem Qv {l:List AutoEdge} {to:List Int} {s:List UInt8}:atE (l.map (edgeM to)) s=(atE l s).map (tm to):=by
 induction l with
 | nil=>rfl
 | cons e r ih =>
  unfold atE at ih ⊢;rw [List.map_cons,List.find?_cons,List.find?_cons]
  show Option.map _ (match decide (e.name=s) with | true=>_ | false=>_)=_
  cases decide (e.name=s) with
  | true=>rfl
  | false=>exact ih
theorem SY {a:AutoAuto} (ha:Led a) (hP:PolA a.l):Bis a.l (normP a).l (fun i j=>i∈Bv a/\j=tm (toP a) i):=by
 have hin:∀ i,i∈Bv a->0<=i/\i<(a.l.length:Int):=fun i hi=>(B8 ha).2.1 i hi
 have hst:∀ i,i∈Bv a->stL (normP a).l (tm (toP a) i)=El (toP a) (stL a.l i):=by
  intro i hi
  have h:=Uz ha hi
  rw [Jb h.1 (by rw [HD ha];exact h.2),PO ha hi,Jb (hin i hi).1 (hin i hi).2]
 have hnx:∀ i,i∈Bv a->∀ y∈nextP (stL a.l i),y∈Bv a:=by
  intro i hi y hy
  rw [Jb (hin i hi).1 (hin i hi).2] at hy;exact NY ha hi hy
 refine ⟨?_,?_,?_,?_,?_⟩
 ·rintro i _ ⟨hi,rfl⟩
  rw [hst i hi];exact ⟨rfl,rfl,rfl,rfl,rfl,rfl,rfl,rfl⟩
 ·rintro i _ ⟨hi,rfl⟩ har
  obtain ⟨⟨a1,a2,a3⟩,_⟩:=hP.arrow i (hin i hi).1 (hin i hi).2 har;refine ⟨⟨hnx i hi _ (by unfold nextP;rw [har];simp),?_⟩,a3⟩;rw [hst i hi];simp only [El,har,if_true]
 ·rintro i _ ⟨hi,rfl⟩ har
  obtain ⟨_,⟨a1,a2,a3⟩⟩:=hP.arrow i (hin i hi).1 (hin i hi).2 har;refine ⟨⟨hnx i hi _ (by unfold nextP;rw [har];simp),?_⟩,a3⟩;rw [hst i hi];simp only [El,har,if_true]
 ·rintro i _ ⟨hi,rfl⟩ har s
  rw [hst i hi]
  show relO _ (atE (stL a.l i).fields s) (atE ((stL a.l i).fields.map (edgeM (toP a))) s)
  rw [Qv]
  cases hq:atE (stL a.l i).fields s with
  | none=>exact .inl ⟨rfl,rfl⟩
  | some k =>
   obtain ⟨e,he,rfl⟩:=Ki hq;obtain ⟨a1,a2,a3⟩:=hP.edge i (hin i hi).1 (hin i hi).2 e (.inl ⟨he,har⟩);exact .inr ⟨_,_,rfl,rfl,⟨hnx i hi _ (by unfold nextP;simp only [List.mem_append,List.mem_map];exact .inl (.inr ⟨e,he,rfl⟩)),rfl⟩,a3⟩
 ·rintro i _ ⟨hi,rfl⟩ har s
  rw [hst i hi]
  show relO _ (atE (stL a.l i).tags s) (atE ((stL a.l i).tags.map (edgeM (toP a))) s)
  rw [Qv]
  cases hq:atE (stL a.l i).tags s with
  | none=>exact .inl ⟨rfl,rfl⟩
  | some k =>
   obtain ⟨e,he,rfl⟩:=Ki hq;obtain ⟨a1,a2,a3⟩:=hP.edge i (hin i hi).1 (hin i hi).2 e (.inr ⟨he,har⟩);exact .inr ⟨_,_,rfl,rfl,⟨hnx i hi _ (by unfold nextP;simp only [List.mem_append,List.mem_map];exact .inr ⟨e,he,rfl⟩),rfl⟩,a3⟩
theorem Tt {a:AutoAuto} (ha:Led a) (hP:PolA a.l) (hp:(stL a.l a.start).plus=true) (D:Pt->Prop):ExR (normP a).l 0 D↔ExR a.l a.start D:=by
 have hB:=SY ha hP
 have hs:a.start∈Bv a:=JK ha
 have h00:tm (toP a) a.start=0:=by
  obtain ⟨e,he⟩:=(B8 ha).2.2.1;exact So ha (j:=0) (by rw [he];rfl)
 have hR:a.start∈Bv a/\(0:Int)=tm (toP a) a.start:=⟨hs,h00.symm⟩
 have hf:=hB.flags _ _ hR
 have hvars:∀ i j,(i∈Bv a/\j=tm (toP a) i)->(stL (normP a).l j).vars=(stL a.l i).vars:=by
  rintro i _ ⟨hi,rfl⟩
  have h:=Uz ha hi
  have hin:=(B8 ha).2.1 i hi
  rw [Jb h.1 (by rw [HD ha];exact h.2),PO ha hi,Jb hin.1 hin.2];rfl
 constructor
 ·rintro ⟨ρ,h⟩
  refine ⟨ρ,fun p hp'=>h p ?_⟩;refine (Mz hB (ρ:=ρ) (ρ':=ρ) ?_ ?_ p a.start 0 hR).1 hp hp'
  ·rintro i j p hr hpl ⟨v,hv,hx⟩
   exact .inl ⟨v,by rw [hvars i j hr];exact hv,hx⟩
  ·intro i j p hr hpl hall _ v hv
   exact hall v (by rw [hvars i j hr];exact hv)
 ·rintro ⟨ρ,h⟩
  refine ⟨ρ,fun p hp'=>h p ?_⟩;refine (Mz hB.symm (ρ:=ρ) (ρ':=ρ) ?_ ?_ p 0 a.start hR).1 (by rw [<- hf.1];exact hp) hp'
  ·rintro j i p hr hpl ⟨v,hv,hx⟩
   exact .inl ⟨v,by rw [<- hvars i j hr];exact hv,hx⟩
  ·intro j i p hr hpl hall _ v hv
   exact hall v (by rw [<- hvars i j hr];exact hv)
end Go.Proofs.YtcoghblhdjmbfaaGreat
namespace Go.Proofs.YtcoghblhdjmbfaaGreat
open Go.V
open Classical
theorem dropF_iff {a:AutoAuto} {v z:Int}:dropF a v=some z↔z=v/\bothV a.l v:=by
 have e:bits a.l v=3↔bothV a.l v:=by
  unfold bits bothV;rw [<- occ_iff,<- occ_iff]
  by_cases h1:occ a.l true v=true <;> by_cases h2:occ a.l false v=true <;> simp [h1,h2]
 unfold dropF
 by_cases h:bits a.l v=3
 ·rw [if_pos h]
  constructor
  ·intro h';cases h';exact ⟨rfl,e.1 h⟩
  ·rintro ⟨rfl,_⟩;rfl
 ·rw [if_neg h]
  constructor
  ·intro h';cases h'
  ·rintro ⟨_,hb⟩;exact absurd (e.2 hb) h
def PosR (mm:List (Int×Int)):Prop:=∀ (i:Nat) p,mm[i]? = some p->p.2=(i:Int)
theorem NO {k z:Int} {l':List (Int×Int)}:∀ {l:List (Int×Int)},mget l k=some z->mget (l++l') k=some z
 | [],h=>by cases h
 | (a,b)::l,h=>by
  simp only [List.cons_append,mget] at h ⊢
  split
  ·rename_i e;rw [if_pos e] at h;exact h
  ·rename_i e;rw [if_neg e] at h;exact NO h
theorem N9 {k z:Int}:∀ {l:List (Int×Int)},mget l k=none->mget (l++[(k,z)]) k=some z
 | [],_=>by simp [mget]
 | (a,b)::l,h=>by
  simp only [List.cons_append,mget] at h ⊢
  split
  ·rename_i e;rw [if_pos e] at h;cases h
  ·rename_i e;rw [if_neg e] at h;exact N9 h
theorem J9 {k z:Int}:∀ {l:List (Int×Int)},mget l k=some z->(k,z)∈l
 | [],h=>by cases h
 | (a,b)::l,h=>by
  simp only [mget] at h
  split at h
  ·rename_i e;cases h;subst e;simp
  ·exact List.mem_cons_of_mem _ (J9 h)
theorem RP {mm:List (Int×Int)} {v:Int} (h:PosR mm):PosR (addF mm v)/\(∃ z,mget (addF mm v) v=some z)/\∀ w z,mget mm w=some z->mget (addF mm v) w=some z:=by
 unfold addF
 cases hq:mget mm v with
 | some z=>rw [if_pos (by rfl)];exact ⟨h,⟨z,hq⟩,fun _ _ h=>h⟩
 | none =>
  rw [if_neg (by simp)];refine ⟨fun i p hp=>?_,⟨_,N9 hq⟩,fun w z hw=>NO hw⟩
  by_cases hi:i<mm.length
  ·rw [List.getElem?_append_left hi] at hp;exact h i p hp
  ·have hi2:=(List.getElem?_eq_some_iff.1 hp).1
   have:i=mm.length:=by simp at hi2;omega
   subst this;rw [List.getElem?_append_right (Nat.le_refl _),Nat.sub_self] at hp
   cases hp;rfl
theorem Nt:∀ (vs:List Int) {mm:List (Int×Int)},PosR mm->PosR (vs.foldl addF mm)/\(∀ v∈vs,∃ z,mget (vs.foldl addF mm) v=some z)/\∀ w z,mget mm w=some z->mget (vs.foldl addF mm) w=some z
 | [],mm,h=>⟨h,by simp,fun _ _ h=>h⟩
 | v::vs,mm,h=>by
  obtain ⟨h1,⟨z,h2⟩,h3⟩:=RP (v:=v) h;obtain ⟨k1,k2,k3⟩:=Nt vs h1;refine ⟨k1,fun w hw=>?_,fun w x hx=>k3 w x (h3 w x hx)⟩
  rcases List.mem_cons.1 hw with rfl | hw
  ·exact ⟨z,k3 _ _ h2⟩
  ·exact k2 w hw
theorem M8:∀ (l:List AutoState) {mm:List (Int×Int)},PosR mm->PosR (l.foldl (fun mm s=>s.vars.foldl addF mm) mm)/\(∀ s∈l,∀ v∈s.vars,∃ z,mget (l.foldl (fun mm s=>s.vars.foldl addF mm) mm) v=some z)/\∀ w z,mget mm w=some z->mget (l.foldl (fun mm s=>s.vars.foldl addF mm) mm) w=some z
 | [],mm,h=>⟨h,by simp,fun _ _ h=>h⟩
 | s::l,mm,h=>by
  obtain ⟨h1,h2,h3⟩:=Nt s.vars h;obtain ⟨k1,k2,k3⟩:=M8 l h1;refine ⟨k1,fun t ht v hv=>?_,fun w x hx=>k3 w x (h3 w x hx)⟩
  rcases List.mem_cons.1 ht with rfl | ht
  ·obtain ⟨z,hz⟩:=h2 v hv;exact ⟨z,k3 _ _ hz⟩
  ·exact k2 t ht v hv
theorem Vb (l:List AutoState):(∀ s∈l,∀ v∈s.vars,∃ z,mget (rnP l) v=some z)/\∀ v v' z,mget (rnP l) v=some z->mget (rnP l) v'=some z->v=v':=by
 obtain ⟨h1,h2,_⟩:=M8 l (mm:=[]) (fun i p hp=>by simp at hp);refine ⟨h2,fun v v' z hv hv'=>?_⟩;obtain ⟨i,hi⟩:=List.getElem?_of_mem (J9 hv);obtain ⟨j,hj⟩:=List.getElem?_of_mem (J9 hv')
 have e1:=h1 i _ hi
 have e2:=h1 j _ hj
 dsimp only at e1 e2
 have:i=j:=by omega
 subst this;rw [hi] at hj
 cases hj;rfl
end Go.Proofs.YtcoghblhdjmbfaaGreat
namespace Go.Proofs.YtcoghblhdjmbfaaGreat
open Go.V
open Classical
theorem Ld {l:List AutoEdge} {k:Int} {isN:List UInt8->Bool} (h:GJ isN l) (hk:(k=7/\isN=nameP)\/(k=8/\isN=tagP)):EO ⟨k,0,0,edF l⟩:=by
 intro i x hx
 have hx':(edF l)[i]? = some x:=hx
 unfold edF at hx';rw [List.getElem?_map] at hx'
 cases hq:l[i]? with
 | none=>rw [hq] at hx';cases hx'
 | some e =>
  rw [hq] at hx'
  cases hx'
  obtain ⟨h1,h2⟩:=h.1 i e hq;refine ⟨?_,fun h0 y hy=>?_⟩
  ·unfold badF
   rcases hk with ⟨rfl,rfl⟩ | ⟨rfl,rfl⟩ <;> simp [h1]
  ·have hy':(edF l)[i - 1]? = some y:=hy
   unfold edF at hy';rw [List.getElem?_map] at hy'
   cases hq2:l[i - 1]? with
   | none=>rw [hq2] at hy';cases hy'
   | some e2 =>
    rw [hq2] at hy'
    cases hy'
    exact h2 h0 e2 hq2
theorem GC {a:AutoAuto} {k:Int} {p:Bool} (h:onP a k p=true):0<=k/\k<(a.l.length:Int)/\(stL a.l k).plus=p:=by
 unfold onP at h
 cases hq:idx a.l k with
 | none=>rw [hq] at h;cases h
 | some s =>
  rw [hq] at h;obtain ⟨h0,h1⟩:=Au hq
  have hlt:=(List.getElem?_eq_some_iff.1 h1).1
  refine ⟨h0,by omega,?_⟩
  have:stL a.l k=s:=by unfold stL;rw [h1];rfl
  rw [this];simpa using h
theorem JG {a:AutoAuto} {s:AutoState} (h:leadP a s) {x:Int} (hx:x∈s.fields.map (·.to_)++s.tags.map (·.to_)):onP a x s.plus=true:=by
 by_cases ha:s.arrow=true
 ·exact ((F6 a s ha).1 h).2.2 x hx
 ·have ha':s.arrow=false:=by simpa using ha
  obtain ⟨i,hi⟩:=List.getElem?_of_mem hx
  have:=h i x (by unfold nextP;rw [if_neg ha];simpa using hi)
  unfold sideP at this;rw [ha'] at this
  simpa using this
theorem IK {a:AutoAuto} (hm:mayP a=0):PolA a.l:=by
 obtain ⟨_,_,hr,_⟩:=Ha hm;refine ⟨fun i h0 h1 ha=>?_,fun i h0 h1 e he=>?_⟩
 ·have h:=(hr _ (Hj h0 h1).2).2.2.2.2
  obtain ⟨d1,d2,_⟩:=(F6 a _ ha).1 h;exact ⟨GC d1,GC d2⟩
 ·have h:=(hr _ (Hj h0 h1).2).2.2.2.2
  refine GC (JG h ?_);rw [List.mem_append,List.mem_map,List.mem_map]
  rcases he with ⟨he,_⟩ | ⟨he,_⟩
  ·exact .inl ⟨e,he,rfl⟩
  ·exact .inr ⟨e,he,rfl⟩
theorem MX {a:AutoAuto} (hab:AB a) (hm:mayP a=0) (hl:a.l.length<=30):NmA a:=by
 obtain ⟨_,_,hr,_⟩:=Ha hm;refine ⟨hl,fun s hs=>⟨(hab.2 s hs).1,fun v hv=>?_⟩,fun s hs=>⟨(hr s hs).2.2.1.2,Ld (hr s hs).2.2.1 (.inl ⟨rfl,rfl⟩)⟩,fun s hs=>⟨(hr s hs).2.2.2.1.2,Ld (hr s hs).2.2.2.1 (.inr ⟨rfl,rfl⟩)⟩,fun s hs=>⟨fun ha=>?_,fun _ e he=>?_,fun _ e he=>?_⟩⟩
 ·obtain ⟨i,hi⟩:=List.getElem?_of_mem hv
  have:=(hr s hs).2.1 i v hi
  exact ⟨this.1,this.2.1⟩
 ·obtain ⟨d1,d2,_⟩:=(F6 a s ha).1 (hr s hs).2.2.2.2
  exact ⟨⟨(GC d1).1,(GC d1).2.1⟩,(GC d2).1,(GC d2).2.1⟩
 ·have:=GC (JG (hr s hs).2.2.2.2 (x:=e.to_) (by rw [List.mem_append,List.mem_map];exact .inl ⟨e,he,rfl⟩))
  exact ⟨this.1,this.2.1⟩
 ·have:=GC (JG (hr s hs).2.2.2.2 (x:=e.to_) (by rw [List.mem_append,List.mem_map,List.mem_map];exact .inr ⟨e,he,rfl⟩))
  exact ⟨this.1,this.2.1⟩
end Go.Proofs.YtcoghblhdjmbfaaGreat
namespace Go.Proofs.YtcoghblhdjmbfaaGreat
open Go.V
open Classical
theorem RL {c:List AutoState} (hP:PolA c) (f:Int->Option Int):PolA (c.map (stW f)):=by
 have hl:(c.map (stW f)).length=c.length:=List.length_map ..
 refine ⟨fun i h0 h1 ha=>?_,fun i h0 h1 e he=>?_⟩
 ·rw [hl] at h1
  rw [CL h0 h1] at ha;obtain ⟨⟨a1,a2,a3⟩,b1,b2,b3⟩:=hP.arrow i h0 h1 ha;rw [CL h0 h1,hl];refine ⟨⟨a1,a2,?_⟩,b1,b2,?_⟩
  ·show (stL (c.map (stW f)) (stL c i).dom).plus=_
   rw [CL a1 a2];exact a3
  ·show (stL (c.map (stW f)) (stL c i).cod).plus=_
   rw [CL b1 b2];exact b3
 ·rw [hl] at h1
  rw [CL h0 h1] at he;obtain ⟨a1,a2,a3⟩:=hP.edge i h0 h1 e he;rw [CL h0 h1,hl];refine ⟨a1,a2,?_⟩;rw [CL a1 a2];exact a3
theorem Ts {a:AutoAuto} (h:NmA a) {f:Int->Option Int} (hf:∀ v z,f v=some z->(∃ s∈a.l,v∈s.vars)->0<=z/\z<=999):NmA (withP f a):=by
 have hl:(withP f a).l.length=a.l.length:=List.length_map ..
 refine ⟨by rw [hl];exact h.len,fun s hs=>?_,fun s hs=>?_,fun s hs=>?_,fun s hs=>?_⟩
 ·obtain ⟨t,ht,rfl⟩:=List.mem_map.1 hs
  refine ⟨?_,fun z hz=>?_⟩
  ·show (setC (t.vars.filterMap f)).length<=40
   have:=KN (t.vars.filterMap f)
   have:=List.length_filterMap_le f t.vars
   have:=(h.vars t ht).1
   omega
  ·obtain ⟨v,hv,e⟩:=stW_vars.1 hz
   exact hf v z e ⟨t,ht,hv⟩
 ·obtain ⟨t,ht,rfl⟩:=List.mem_map.1 hs;exact h.flds t ht
 ·obtain ⟨t,ht,rfl⟩:=List.mem_map.1 hs;exact h.tags t ht
 ·obtain ⟨t,ht,rfl⟩:=List.mem_map.1 hs
  rw [hl];exact h.kids t ht
theorem JT {a:AutoAuto} (hab:AB a) (hm:mayP a=0) (hl:a.l.length<=10) {f:Int->Option Int} (hf:∀ v z,f v=some z->(∃ s∈(normP a).l,v∈s.vars)->0<=z/\z<=999)
  {u:ATy} {gl:List Int} (hu:MayO u) (hg:GU u gl) (hul:u.l.length<=6)
  (hE:∀ D,ExR ((normP a).l.map (stW f)) 0 D↔ExR (normP a).l 0 D):AC (typeW (withP f (normP a))) u=AC (typeW a) u:=by
 have hL:=H8 hab hm
 have hmn:=OB hab hm
 have hnl:(normP a).l.length<=10:=by
  rw [HD hL]
  have:=EA _ _ (B8 hL).1 (B8 hL).2.1
  omega
 obtain ⟨s0,s1,s2⟩:=GC (Ha hm).2.2.2;obtain ⟨n0,n1,n2⟩:=GC (Ha hmn).2.2.2
 have hst:(normP a).start=0:=rfl
 rw [hst] at n0 n1 n2;rw [HG (MX hab hm (by omega)) hl (IK hm) s0 s1 s2 hu hg hul]
 have hwl:(withP f (normP a)).l.length=(normP a).l.length:=List.length_map ..
 have e:=HG (Ts (MX (I6 hL) hmn (by omega)) hf) (by rw [hwl];exact hnl) (show PolA (withP f (normP a)).l from RL (IK hmn) f) (show 0<=(withP f (normP a)).start from n0) (by rw [hwl];exact n1) (by
  show (stL ((normP a).l.map (stW f)) 0).plus=true
  rw [CL n0 n1];exact n2) hu hg hul
 rw [e];refine congrArg some (decide_eq_decide.2 ?_);exact (hE fun p=>Sat u p u.root).trans (Tt hL (IK hm) s2 _)
end Go.Proofs.YtcoghblhdjmbfaaGreat
namespace Go.Proofs.YtcoghblhdjmbfaaGreat
open Go.V
open Classical
def fewN (n:ANd):ANd:=⟨n.kind,n.a,n.b,[]++n.l.take 40⟩
def fewC (m:Nat) (l:List ANd):Nat:=if 2000<l.length then 2001 else m
def fewT (m:Nat) (t:ATy):ATy:=⟨(t.l.take (fewC m t.l)).map fewN,t.root⟩
theorem min40 (l:List AFd):sli l 0 (if 40<(l.length:Int) then 40 else (l.length:Int))=some (l.take 40):=by
 by_cases h:40<(l.length:Int)
 ·rw [if_pos h];exact FF (k:=40) (by omega)
 ·rw [if_neg h,FF (by omega),List.take_of_length_le (by omega),List.take_of_length_le (by omega)]
theorem UZ (t:ATy) (m:Nat) (M:Int) (hM:M=m) (hm:m<=2000):Gt t M=some (fewT m t):=by
 subst hM;unfold Gt fewT
 have hC:fewC m t.l=2001/\2000<t.l.length\/fewC m t.l=m/\¬ 2000<t.l.length:=by unfold fewC;split <;> simp_all
 have hL:(t.l.take (fewC m t.l)).length<=2001/\(t.l.take (fewC m t.l)).length<=t.l.length/\(t.l.take (fewC m t.l)).length<=fewC m t.l:=by rw [List.length_take];omega
 rw [Dj (φ:=fun n i s=>EG t (m:Int) n (i,s,t.root)) (l:=t.l.take (fewC m t.l)) fewN (fun s=>(s,t.root)) 0 ?_ ?_ (by rw [FUv];omega) [] rfl]
 ·rfl
 ·intro n i x s hx hi hs
  have hx2:t.l[i]? = some x:=by
   rw [List.getElem?_take,if_pos (by omega)] at hx;exact hx
  have h40:(x.l.take 40).length<=40:=by rw [List.length_take];omega
  simp only [EG];rw [dT (show (i:Int)<t.l.length by omega),Bool.true_and,show (decide ((i:Int)<(m:Int))||(decide (2000<(t.l.length:Int))&&decide ((i:Int)<=2000)))=true by
   rw [Bool.or_eq_true,Bool.and_eq_true,decide_eq_true_eq,decide_eq_true_eq,decide_eq_true_eq];omega,cT,getI hx2,oB,min40,oB,Ab (by omega),Ab (by simp only [List.length_cons,List.length_nil];omega),Ab (by omega)]
  rfl
 ·intro n s hs
  simp only [EG];rw [show (decide (((t.l.take (fewC m t.l)).length:Int)<t.l.length)&&(decide (((t.l.take (fewC m t.l)).length:Int)<(m:Int))||(decide (2000<(t.l.length:Int))&&decide (((t.l.take (fewC m t.l)).length:Int)<=2000))))=false by
   rw [List.length_take,Bool.and_eq_false_iff,Bool.or_eq_false_iff,Bool.and_eq_false_iff,decide_eq_false_iff_not,decide_eq_false_iff_not,decide_eq_false_iff_not,decide_eq_false_iff_not];omega,cF_]
theorem SE (m:Nat) (hm:m<=2000) (t:ATy):(fewT m t).l.length<=2001:=by unfold fewT fewC;simp only [List.length_map,List.length_take];split <;> omega
theorem TY (n:ANd):NB (fewN n):=by unfold fewN NB;simp;omega
theorem PU (m:Nat) (t:ATy):∀ n∈(fewT m t).l,NB n:=by
 intro n hn
 obtain ⟨k,_,rfl⟩:=List.mem_map.1 hn;exact TY k
theorem Pk (m:Nat) (t:ATy) (h:(fewT m t).l.length<=2000):(fewT m t).l.length<=m:=by
 unfold fewT fewC at h ⊢;simp only [List.length_map,List.length_take] at h ⊢
 split at h <;> split <;> omega
theorem Mx (n:ANd) (h:NB n):Dw n=some (kidsL n):=by
 unfold Dw kidsL Eh Ej;unfold NB at h;rw [oB,oB]
 change (bif pB n.kind then _ else bif wB n.kind then _ else _)=_
 cases pB n.kind
 ·cases wB n.kind
  ·rfl
  ·rw [cF_,cT,cF_,cT,Dj (φ:=fun k i s=>CS n k (i,s)) (l:=n.l) (·.at_) id 0 ?_ ?_ (by rw [FUv];omega) [] rfl]
   ·rfl
   ·intro k i x s hx hi hs
    simp only [CS];rw [dT (show (i:Int)<n.l.length by omega),cT,getI hx,oB,Ab (by simp only [List.length_cons,List.length_nil];omega),Ab (by omega)]
   ·intro k s hs
    simp only [CS];rw [dF (by omega),cF_];rfl
 ·rfl
theorem Jq (n:ANd) (h:NB n):(kidsL n).length<=40:=by
 unfold kidsL;unfold NB at h
 cases pB n.kind
 ·cases wB n.kind
  ·simp
  ·simpa using h
 ·simp
theorem Ru (n:ANd) (h:NB n):Er n=some (decide (EO n)&&decide ((n.l.length:Int)<=30)):=by
 unfold Er;unfold NB at h;rw [Hk (φ:=Cc n) (l:=n.l) false (okF n) ?_ ?_ (by rw [FUv];omega),oB]
 ·by_cases hp:EO n
  ·rw [if_pos (show ∀ i x,n.l[i]? = some x->okF n i x from hp),dT hp];rfl
  ·rw [if_neg (show ¬ ∀ i x,n.l[i]? = some x->okF n i x from hp),dF hp];rfl
 ·intro k i x hx hi
  simp only [Cc]
  have e1:((bif (decide (n.kind=7)) then ((D6 x.name).bind fun x3=>some (!x3)) else (some false)).bind fun p1 =>
   (bif p1 then (some true) else ((bif (decide (n.kind=8)) then ((Ev x.name).bind fun x4=>some (!x4)) else (some false)).bind fun p3=>some p3)))=some (badF n x):=by
   rw [Qm,R2,oB,oB,bf,oB,bf,oB,bt];rfl
  rw [dT (show (i:Int)<n.l.length by omega),cT,getI hx,oB,<- Option.bind_assoc,e1,oB];unfold okF
  cases hb:badF n x
  ·rw [cF_]
   by_cases h0:0<i
   ·have hy:n.l[i - 1]? = some n.l[i - 1]:=List.getElem?_eq_getElem (by omega)
    rw [dT (show (0:Int)<(i:Int) by omega),cT,Ab (by omega),show ((i:Int) - 1)=((i - 1:Nat):Int) by omega,getI hy,oB]
    constructor
    ·rintro ⟨_,h2⟩
     rw [h2 h0 _ hy,Bool.not_true,cF_,Ab (by omega)]
    ·intro h2
     cases hl:Op.bytesLess (n.l[i - 1]).name x.name
     ·rfl
     ·exact absurd ⟨rfl,fun _ y hy2=>by rw [hy] at hy2;cases hy2;exact hl⟩ h2
   ·rw [dF (show ¬ (0:Int)<(i:Int) by omega),cF_]
    exact ⟨fun _=>by rw [Ab (by omega)],fun h2=>absurd ⟨rfl,fun h3=>absurd h3 h0⟩ h2⟩
  ·rw [cT]
   exact ⟨fun h2=>by simp at h2,fun _=>rfl⟩
 ·intro k
  simp only [Cc];rw [dF (by omega),cF_]
theorem Pb (l:List Int) (all:Int) (h:l.length<=1000):IS l (fun y0=>CN y0 all)=some (decide (∃ k∈l,inB all k=true)):=by
 unfold IS Ny;rw [E5 (φ:=ER l (fun y0=>CN y0 all)) (l:=l) (fun i=>(i:Int)) (inB all) ?_ ?_ (by rw [FUv];omega)]
 ·rw [oB]
  cases hf:l.findIdx? (inB all) with
  | none =>
   have:¬ ∃ k∈l,inB all k=true:=by
    rintro ⟨c,hc,hne⟩
    have:=List.findIdx?_eq_none_iff.1 hf c hc
    rw [hne] at this;cases this
   rw [dF this];rfl
  | some i =>
   obtain ⟨hi,h1,_⟩:=List.findIdx?_eq_some_iff_getElem.1 hf
   have:∃ k∈l,inB all k=true:=⟨l[i],List.getElem_mem hi,h1⟩
   rw [dT this]
   show some (decide (0<=(i:Int)))=some true
   rw [dT (by omega)]
 ·intro n i x hx hi
  simp only [ER];rw [dT (show (i:Int)<l.length by omega),cT,getI hx,oB,show CN x all=some (inB all x) from rfl,oB];exact ⟨fun hq=>by rw [hq,cF_,Ab (by omega)],fun hq=>by rw [hq,cT]⟩
 ·intro n
  simp only [ER];rw [dF (by omega),cF_]
theorem Q5 (n:ANd) (all:Int) (h:NB n):Ep n all=some (BW n all):=by
 unfold Ep BW;rw [show Eh n.kind=some (pB n.kind) from rfl,show Ej n.kind=some (wB n.kind) from rfl,oB,oB,Ru n h,Mx n h,oB,oB,Pb _ _ (by have:=Jq n h;omega),oB]
 cases (decide (n.kind<1)||decide (11<n.kind))
 ·cases ((!pB n.kind)&&((!decide (n.b=0))||((!decide (n.kind=11))&&(!decide (n.a=0)))))
  ·cases (decide (n.kind=11)&&(decide (n.a<0)||decide (999<n.a)))
   ·cases ((!wB n.kind)&&decide (0<(n.l.length:Int)))
    ·cases (decide (EO n)&&decide ((n.l.length:Int)<=30)) <;> rfl
    ·rfl
   ·rfl
  ·rfl
 ·rfl
theorem PL {L:List ANd} {i:Nat} {n:ANd} (hi:L[i]? = some n) (h:latB n.kind=true->Ends L n.a.toNat/\Ends L n.b.toNat):Ends L i:=by
 cases hl:latB n.kind with
 | false=>exact ⟨1,by simp [endk,hi,hl]⟩
 | true =>
  obtain ⟨⟨k1,h1⟩,⟨k2,h2⟩⟩:=h hl;exact ⟨max k1 k2+1,by simp [endk,hi,hl,FB (Nat.le_max_left k1 k2) h1,FB (Nat.le_max_right k1 k2) h2]⟩
def ColOk (z:List Int):Prop:=∀ c∈z,c=0\/c=1\/c=2
theorem K0 {z:List Int} {i:Nat} {c d:Int} (h:z[i]? = some c):(z.set i d).count 0+(if c=0 then 1 else 0)=z.count 0+(if d=0 then 1 else 0):=by
 have hi:=(List.getElem?_eq_some_iff.1 h).1
 have h2:=(List.getElem?_eq_some_iff.1 h).2
 have hc:c=0->0<z.count 0:=fun e=>List.count_pos_iff.2 (by rw [<- e];exact List.mem_of_getElem? h)
 rw [List.count_set hi,h2]
 by_cases h0:c=0
 ·have:=hc h0
  subst h0
  simp
  split <;> omega
 ·rw [if_neg h0]
  have:(c == 0)=false:=by simp [h0]
  rw [this]
  simp
theorem Mr {z:List Int} {i:Nat} {d:Int} (h:ColOk z) (hd:d=0\/d=1\/d=2):ColOk (z.set i d):=by
 intro c hc
 rcases List.mem_or_eq_of_mem_set hc with h2 | h2
 ·exact h c h2
 ·rw [h2];exact hd
theorem O5 {L:List ANd} {k m i:Nat} (hkm:k<=m) (h:endk L m i=false):endk L k i=false:=by
 cases hq:endk L k i with
 | false=>rfl
 | true=>rw [FB hkm hq] at h;cases h
structure WalkOk (L:List ANd) (i:Nat) (z:List Int) (b:Bool) (z':List Int):Prop where
 len:z'.length=L.length
 col:ColOk z'
 wh:z'.count 0<=z.count 0
 yes:b=true->Ends L i/\(∀ j:Nat,z'[j]? = some 2->Ends L j)/\∀ j:Nat,z'[j]? = some 1↔z[j]? = some 1
 no:b=false->∀ m,endk L m i=true->(∀ j:Nat,z[j]? = some 1->endk L m j=false)->False
theorem PZ {t:ATy} (hR:InL t.l) (hN:∀ n∈t.l,NB n) (hlen:t.l.length<=2001):∀ (n:Nat) (i:Nat) (z:List Int),i<t.l.length->z.length=t.l.length->ColOk z->z.count 0<n->(∀ j:Nat,z[j]? = some 2->Ends t.l j) ->
  ∃ b z',Be t n (i:Int) z=some (b,z')/\WalkOk t.l i z b z'
 | 0,i,z,_,_,_,h,_=>by omega
 | n+1,i,z,hi,hz,hc,hw,hb=>by
  have hx:t.l[i]? = some t.l[i]:=List.getElem?_eq_getElem hi
  have hy:z[i]? = some (z[i]'(by omega)):=List.getElem?_eq_getElem (by omega)
  have hcz:=hc _ (List.mem_of_getElem? hy)
  show ∃ b z',B5 (Be t n) (i:Int) z t=some (b,z')/\_
  unfold B5;rw [getI hx,oB,show Et (t.l[i]).kind=some (latB (t.l[i]).kind) from rfl,oB,getI hy,oB,oB,oB]
  generalize hn:t.l[i]=nd at *
  generalize z[i]'(by omega)=c at *
  cases hlat:latB nd.kind with
  | false =>
   refine ⟨true,z,by rw [Bool.not_false,cT,oB,cT],hz,hc,Nat.le_refl _,fun _=>⟨PL hx fun h=>(by rw [hlat] at h;cases h),hb,fun j=>Iff.rfl⟩,fun h=>by cases h⟩
  | true =>
   rw [Bool.not_true,cF_,oB]
   by_cases h2:c=2
   ·refine ⟨true,z,by rw [dT h2,cT],hz,hc,Nat.le_refl _,fun _=>⟨hb i (by rw [hy,h2]),hb,fun j=>Iff.rfl⟩,fun h=>by cases h⟩
   rw [dF h2,cF_]
   by_cases h1:c=1
   ·refine ⟨false,z,by rw [dT h1,cT],hz,hc,Nat.le_refl _,fun h=>(by cases h),fun _ m hm hg=>?_⟩
    rw [hg i (by rw [hy,h1])] at hm;cases hm
   rw [dF h1,cF_]
   have h0:c=0:=by omega
   subst h0
   have hNd:NB nd:=by rw [<- hn];exact hN _ (List.getElem_mem hi)
   rw [oB,Mx _ hNd,oB,Int.toNat_natCast]
   have hk:∀ k∈kidsL nd,0<=k/\k<(t.l.length:Int):=hR nd (List.mem_of_getElem? hx)
   have hkl:=Jq nd hNd
   have hwz:=K0 (d:=1) hy
   simp at hwz
   have hz1:(z.set i 1).length=t.l.length:=by simpa using hz
   have gr1:∀ j:Nat,(z.set i 1)[j]? = some 1↔(j=i\/z[j]? = some 1):=by
    intro j
    rw [List.getElem?_set]
    by_cases hji:i=j
    ·subst hji;simp;omega
    ·rw [if_neg hji];exact ⟨.inr,fun h=>h.elim (fun e=>absurd e.symm hji) id⟩
   obtain ⟨o,e1,e2⟩:=A2 (φ:=fun m q s=>Bx (Be t n) (kidsL nd) m (q,s)) (l:=kidsL nd)
    (fun q s=>s.length=t.l.length/\ColOk s/\s.count 0<=(z.set i 1).count 0/\(∀ j:Nat,s[j]? = some 2->Ends t.l j)/\(∀ j:Nat,s[j]? = some 1↔(z.set i 1)[j]? = some 1)/\∀ (p:Nat) k,p<q->(kidsL nd)[p]? = some k->Ends t.l k.toNat)
    (fun o=>(∃ s,o=Out.ret (false,s)/\s.length=t.l.length/\ColOk s/\s.count 0<=(z.set i 1).count 0/\∀ m,endk t.l m i=true->(∀ j:Nat,z[j]? = some 1->endk t.l m j=false)->False) \/
     (∃ s,o=Out.go s/\s.length=t.l.length/\ColOk s/\s.count 0<=(z.set i 1).count 0/\(∀ j:Nat,s[j]? = some 2->Ends t.l j)/\(∀ j:Nat,s[j]? = some 1↔(z.set i 1)[j]? = some 1)/\∀ k∈kidsL nd,Ends t.l k.toNat))
    (by
     rintro m q k s hkq hq ⟨s1,s2,s3,s4,s5,s6⟩;obtain ⟨k0,k1⟩:=hk k (List.mem_of_getElem? hkq);obtain ⟨b,z',w1,w2⟩:=PZ hR hN hlen n k.toNat s (by omega) s1 s2 (by omega) s4;rw [Int.toNat_of_nonneg k0] at w1;simp only [Bx];rw [dT (show (q:Int)<(kidsL nd).length by omega),cT,getI hkq,oB,w1,oB]
     dsimp only
     cases b with
     | true =>
      obtain ⟨y1,y2,y3⟩:=w2.yes rfl;refine .inl ⟨z',by rw [Bool.not_true,cF_,Ab (by omega)],w2.len,w2.col,Nat.le_trans w2.wh s3,y2,fun j=>(y3 j).trans (s5 j),fun p k' hp hk'=>?_⟩
      by_cases hpq:p=q
      ·subst hpq;rw [hkq] at hk';cases hk';exact y1
      ·exact s6 p k' (by omega) hk'
     | false =>
      refine .inr ⟨_,by rw [Bool.not_false,cT],.inl ⟨z',rfl,w2.len,w2.col,Nat.le_trans w2.wh s3,fun m hm hg=>?_⟩⟩;obtain ⟨r,r1,r2,r3⟩:=H9 m hm;refine w2.no rfl r ?_ fun j hj=>?_
      ·unfold endk at r2
       rw [hx] at r2;simp only [hlat,Bool.not_true,Bool.false_or,Bool.and_eq_true] at r2
       have:=List.mem_of_getElem? hkq
       rw [IL hlat] at this;simp only [List.mem_cons,List.not_mem_nil,or_false] at this
       rcases this with rfl | rfl
       ·exact r2.1
       ·exact r2.2
      ·rcases (gr1 j).1 ((s5 j).1 hj) with rfl | hj
       ·exact r3
       ·exact O5 (by omega) (hg j hj))
    (by
     rintro m s ⟨s1,s2,s3,s4,s5,s6⟩;refine ⟨Out.go s,?_,.inr ⟨s,rfl,s1,s2,s3,s4,s5,fun k hk'=>?_⟩⟩
     ·simp only [Bx]
      rw [dF (by omega),cF_]
     ·obtain ⟨p,hp⟩:=List.getElem?_of_mem hk'
      exact s6 p k (getLt hp) hp)
    (by rw [FUv];omega) (z.set i 1) ⟨hz1,Mr hc (by omega),Nat.le_refl _,fun j hj=>(by
     rw [List.getElem?_set] at hj
     by_cases hji:i=j
     ·rw [if_pos hji] at hj;split at hj <;> simp at hj
     ·rw [if_neg hji] at hj;exact hb j hj),fun j=>Iff.rfl,fun p k hp=>by omega⟩
   rw [e1,oB]
   rcases e2 with ⟨s,rfl,s1,s2,s3,s4⟩ | ⟨s,rfl,s1,s2,s3,s4,s5,s6⟩
   ·exact ⟨false,s,rfl,s1,s2,by omega,fun h=>(by cases h),fun _=>s4⟩
   ·have hsi:s[i]? = some 1:=(s5 i).2 ((gr1 i).2 (.inl rfl))
    have hws:=K0 (d:=2) hsi
    simp at hws
    have hE:Ends t.l i:=PL hx fun _=>by
     rw [IL hlat] at s6;exact ⟨s6 _ (by simp),s6 _ (by simp)⟩
    refine ⟨true,s.set i 2,by show (idx s (i:Int)).bind _=_;rw [getI hsi,oB],by simpa using s1,Mr s2 (by omega),by omega,fun _=>⟨hE,fun j hj=>?_,fun j=>?_⟩,fun h=>by cases h⟩
    ·rw [List.getElem?_set] at hj
     by_cases hji:i=j
     ·subst hji;exact hE
     ·rw [if_neg hji] at hj;exact s4 j hj
    ·rw [List.getElem?_set]
     by_cases hji:i=j
     ·subst hji;rw [if_pos rfl,hy];split <;> simp
     ·rw [if_neg hji,s5 j,gr1 j]
      exact ⟨fun h=>h.elim (fun e=>absurd e.symm hji) id,.inr⟩
theorem Ks {t:ATy} (hR:InL t.l) (hN:∀ n∈t.l,NB n) (hlen:t.l.length<=2001):CA t=some (decide (G0 t.l)):=by
 unfold CA;rw [Ab (by omega),Ab (by omega),Int.toNat_natCast];obtain ⟨o,e1,e2⟩:=A2 (φ:=fun m q s=>BI t m (q,s)) (l:=t.l)
  (fun q s=>s.length=t.l.length/\ColOk s/\(∀ j:Nat,s[j]? = some 2->Ends t.l j)/\(∀ j:Nat,¬ s[j]? = some 1)/\∀ p,p<q->Ends t.l p)
  (fun o=>(o=Out.ret false/\¬ G0 t.l)\/∃ s,o=Out.go s/\G0 t.l)
  (by
   rintro m q nd s hnd hq ⟨s1,s2,s3,s4,s5⟩;obtain ⟨b,z',w1,w2⟩:=PZ hR hN hlen FU q s hq s1 s2 (by have:=List.count_le_length (a:=(0:Int)) (l:=s);rw [FUv];omega) s3;simp only [BI];rw [dT (show (q:Int)<t.l.length by omega),cT,w1,oB]
   dsimp only
   cases b with
   | true =>
    obtain ⟨y1,y2,y3⟩:=w2.yes rfl;refine .inl ⟨z',by rw [Bool.not_true,cF_,Ab (by omega)],w2.len,w2.col,y2,fun j hj=>s4 j ((y3 j).1 hj),fun p hp=>?_⟩
    by_cases hpq:p=q
    ·subst hpq;exact y1
    ·exact s5 p (by omega)
   | false =>
    refine .inr ⟨_,by rw [Bool.not_false,cT],.inl ⟨rfl,fun hA=>?_⟩⟩;obtain ⟨k,hk⟩:=hA q hq;exact w2.no rfl k hk fun j hj=>absurd hj (s4 j))
  (by
   rintro m s ⟨s1,s2,s3,s4,s5⟩;refine ⟨Out.go s,?_,.inr ⟨s,rfl,s5⟩⟩;simp only [BI];rw [dF (by omega),cF_])
  (by rw [FUv];omega) (List.replicate t.l.length 0) ⟨by simp,fun c hc=>(by rw [List.mem_replicate] at hc;exact .inl hc.2),fun j hj=>(by rw [List.getElem?_replicate] at hj;split at hj <;> simp at hj),fun j hj=>(by rw [List.getElem?_replicate] at hj;split at hj <;> simp at hj),fun p hp=>by omega⟩
 rw [e1,oB]
 rcases e2 with ⟨rfl,h⟩ | ⟨s,rfl,h⟩
 ·rw [dF h];rfl
 ·rw [dT h];rfl
theorem RS (t:ATy) (hlen:t.l.length<=2001) (hN:∀ n∈t.l,NB n):NS t.l (fun y0=>C9 y0 t)=some (!decide (DX t.l)):=by
 unfold NS Qc;rw [E5 (φ:=Gi t.l (fun y0=>C9 y0 t)) (l:=t.l) (fun i=>(i:Int)) (fun n => !BW n t.l.length) ?_ ?_ (by rw [FUv];omega)]
 ·rw [oB]
  cases hf:t.l.findIdx? (fun n => !BW n t.l.length) with
  | none =>
   have:DX t.l:=by
    intro n hn
    have:=List.findIdx?_eq_none_iff.1 hf n hn
    simpa using this
   rw [dT this];rfl
  | some i =>
   obtain ⟨hi,h1,_⟩:=List.findIdx?_eq_some_iff_getElem.1 hf
   have:¬ DX t.l:=fun h=>by
    rw [h _ (List.getElem_mem hi)] at h1;cases h1
   rw [dF this]
   show some (decide (0<=(i:Int)))=some true
   rw [dT (by omega)]
 ·intro n i x hx hi
  simp only [Gi];rw [dT (show (i:Int)<t.l.length by omega),cT,getI hx,oB,show C9 x t=some (!BW x t.l.length) by unfold C9;rw [Q5 _ _ (hN x (List.mem_of_getElem? hx)),oB],oB];exact ⟨fun hq=>by rw [hq,cF_,Ab (by omega)],fun hq=>by rw [hq,cT]⟩
 ·intro n
  simp only [Gi];rw [dF (by omega),cF_]
theorem Tx (t:ATy) (hlen:t.l.length<=2001) (hN:∀ n∈t.l,NB n):EF t=some (mayT t.l t.root):=by
 unfold EF mayT
 by_cases h0:t.l.length=0\/2000<t.l.length
 ·rw [if_pos h0,show (decide ((t.l.length:Int)=0)||decide (2000<(t.l.length:Int)))=true by rw [Bool.or_eq_true,decide_eq_true_eq,decide_eq_true_eq];omega,cT]
 rw [if_neg h0,dF (by omega),dF (by omega),Bool.or_false,cF_]
 by_cases hr:t.root<0\/(t.l.length:Int)<=t.root
 ·rw [if_pos hr,show (decide (t.root<0)||decide ((t.l.length:Int)<=t.root))=true by rw [Bool.or_eq_true,decide_eq_true_eq,decide_eq_true_eq];exact hr,cT]
 rw [if_neg hr,dF (by omega),dF (by omega),Bool.or_false,cF_,RS t hlen hN,oB]
 by_cases hA:DX t.l
 ·rw [dT hA,Bool.not_true,cF_,Ks (Dt hA) hN hlen,oB]
  by_cases hE:G0 t.l
  ·rw [dT hE,if_pos ⟨hA,hE⟩];rfl
  ·rw [dF hE,if_neg (fun h=>hE h.2)];rfl
 ·rw [dF hA,Bool.not_false,cT,if_neg (fun h=>hA h.1)];rfl
theorem Pf (s:List Int) (h:s.length<=1000):OH s=some s.reverse:=by
 unfold OH;rw [Ab (by omega)];obtain ⟨o,e1,e2⟩:=HE (φ:=Gz) (fun st=>(st.2.1+1 - st.1).toNat)
  (fun st=>0<=st.1 /\ -1<=st.2.1/\st.1+st.2.1=(s.length:Int) - 1/\st.1<=st.2.1+2/\st.2.2.length=s.length/\∀ k:Nat,k<s.length->st.2.2[k]? = if (k:Int)<st.1\/st.2.1<(k:Int) then s.reverse[k]? else s[k]?)
  (fun o=>o=s.reverse)
  (by
   rintro n ⟨i,j,l⟩ ⟨h0,h1,h2,h3,h4,h5⟩
   simp only at h0 h1 h2 h3 h4 h5
   by_cases hij:i<j
   ·left
    obtain ⟨a,rfl⟩:=Int.eq_ofNat_of_zero_le h0;obtain ⟨b,rfl⟩:=Int.eq_ofNat_of_zero_le (show 0<=j by omega)
    have ha:a<s.length:=by omega
    have hb:b<s.length:=by omega
    have la:l[a]? = some s[a]:=by rw [h5 a ha,if_neg (by omega),List.getElem?_eq_getElem ha]
    have lb:l[b]? = some s[b]:=by rw [h5 b hb,if_neg (by omega),List.getElem?_eq_getElem hb]
    have lb2:(l.set a s[b])[b]? = some s[b]:=by rw [List.getElem?_set_ne (by omega)];exact lb
    refine ⟨((a:Int)+1,(b:Int) - 1,(l.set a s[b]).set b s[a]),⟨by simp only;omega,by simp only;omega,by simp only;omega,by simp only;omega,by simpa using h4,fun k hk=>?_⟩,by simp only;omega,?_⟩
    ·simp only
     by_cases hkb:k=b
     ·subst hkb
      rw [List.getElem?_set_self (by simp;omega),if_pos (by omega),List.getElem?_reverse hk,List.getElem?_eq_getElem (by omega)]
      congr 2;omega
     ·rw [List.getElem?_set_ne (by omega)]
      by_cases hka:k=a
      ·subst hka
       rw [List.getElem?_set_self (by omega),if_pos (by omega),List.getElem?_reverse hk,List.getElem?_eq_getElem (by omega)]
       congr 2;omega
      ·rw [List.getElem?_set_ne (by omega),h5 k hk]
       by_cases hc:(k:Int)<a\/(b:Int)<k
       ·rw [if_pos hc,if_pos (by omega)]
       ·rw [if_neg hc,if_neg (by omega)]
    ·simp only [Gz]
     rw [dT hij,cT,getI lb,oB,getI la,oB,oB,oB,Int.toNat_natCast,Int.toNat_natCast,getI lb2,oB,Ab (by omega),Ab (by omega)]
   ·right
    refine ⟨l,?_,by simp only [Gz];rw [dF hij,cF_]⟩;refine List.ext_getElem? fun k=>?_
    by_cases hk:k<s.length
    ·rw [h5 k hk]
     split
     ·rfl
     ·rw [List.getElem?_reverse hk];congr 1;omega
    ·rw [List.getElem?_eq_none (by omega),List.getElem?_eq_none (by simp;omega)])
  FU (0,(s.length:Int) - 1,s) ⟨by simp only;omega,by simp only;omega,by simp only;omega,by simp only;omega,rfl,fun k hk=>by simp only;rw [if_neg (by omega)]⟩ (by rw [FUv];simp only;omega)
 rw [e1,e2]
def kat (L:List ANd) (i:Int):List Int:=match L[i.toNat]? with
 | some n=>kidsL n
 | none=>[]
noncomputable def dfs (K:Int->List Int):Nat->List Int->List Int->List Int
 | 0,_,out=>out
 | _+1,[],out=>out
 | n+1,x::s,out=>if x∈out then dfs K n s out else dfs K n (K x++s) (out++[x])
theorem No (f g:Nat->Nat) (i:Nat):∀ l:List Nat,l.Nodup->i∈l->(∀ j∈l,j≠i->f j=g j)->(l.map f).sum+g i=(l.map g).sum+f i
 | [],_,h,_=>by simp at h
 | j::l,hn,hi,he=>by
  rw [List.nodup_cons] at hn;simp only [List.map_cons,List.sum_cons]
  by_cases hji:j=i
  ·subst hji
   have:l.map f=l.map g:=List.map_congr_left fun k hk=>he k (by simp [hk]) (fun e=>hn.1 (e▸hk))
   rw [this];omega
  ·have:=No f g i l hn.2 (by simpa [Ne.symm hji] using hi) (fun k hk=>he k (by simp [hk]))
   have:=he j (by simp) hji
   omega
noncomputable def wt (K:Int->List Int) (len:Nat) (out:List Int):Nat:=((List.range len).map (fun (i:Nat)=>if (i:Int)∈out then 0 else (K (i:Int)).length)).sum
theorem RX {K:Int->List Int} {len:Nat} {out:List Int} {i:Nat} (hi:i<len) (ho:¬ (i:Int)∈out):wt K len (out++[(i:Int)])+(K i).length=wt K len out:=by
 have:=No (fun (j:Nat)=>if (j:Int)∈out++[(i:Int)] then 0 else (K (j:Int)).length) (fun (j:Nat)=>if (j:Int)∈out then 0 else (K (j:Int)).length) i (List.range len) List.nodup_range (List.mem_range.2 hi) (fun j _ hj=>by
  have e:((j:Int)∈out++[(i:Int)])↔(j:Int)∈out:=by simp;omega
  by_cases h:(j:Int)∈out
  ·rw [if_pos h,if_pos (e.2 h)]
  ·rw [if_neg h,if_neg (fun h2=>h (e.1 h2))])
 rw [if_neg ho,if_pos (by simp)] at this;unfold wt;omega
theorem Pc {L:List ANd} (hR:InL L):∀ i k,k∈kat L i->0<=k/\k<(L.length:Int):=by
 intro i k hk
 unfold kat at hk
 cases hq:L[i.toNat]? with
 | none=>rw [hq] at hk;simp at hk
 | some n=>rw [hq] at hk;exact hR n (List.mem_of_getElem? hq) k hk
theorem Qt {L:List ANd} (hN:∀ n∈L,NB n) (i:Int):(kat L i).length<=40:=by
 unfold kat
 cases hq:L[i.toNat]? with
 | none=>simp
 | some n=>exact Jq n (hN n (List.mem_of_getElem? hq))
theorem lastI (s:List Int) (x:Int):idx (s++[x]) (((s++[x]).length:Int) - 1)=some x:=by
 rw [show (((s++[x]).length:Int) - 1)=(s.length:Int) by simp];exact getI (by simp)
theorem initI (s:List Int) (x:Int):sli (s++[x]) 0 (((s++[x]).length:Int) - 1)=some s:=by
 rw [show (((s++[x]).length:Int) - 1)=(s.length:Int) by simp,FF (by simp)]
 simp
theorem Im {t:ATy} (hR:InL t.l) (hN:∀ n∈t.l,NB n) (hlen:t.l.length<=2001):∀ (n:Nat) (s out:List Int) (seen:List Bool),(∀ x∈s,0<=x/\x<(t.l.length:Int))->seen.length=t.l.length ->
  (∀ i:Nat,seen[i]? = some true↔((i:Int)∈out/\i<t.l.length))->out.length+s.length+wt (kat t.l) t.l.length out<=100000000->s.length+wt (kat t.l) t.l.length out<n ->
  ∃ ys,DV t n (s.reverse,seen)=some ys/\dfs (kat t.l) n s out=out++ys
 | 0,s,out,seen,_,_,_,_,h=>by omega
 | n+1,[],out,seen,_,_,_,_,_=>by
  refine ⟨[],?_,by simp [dfs]⟩;simp only [DV,List.reverse_nil,List.length_nil];rfl
 | n+1,x::s,out,seen,hs,hsl,hse,hB,hn=>by
  obtain ⟨x0,x1⟩:=hs x (by simp);obtain ⟨i,rfl⟩:=Int.eq_ofNat_of_zero_le x0
  have hi:i<t.l.length:=by omega
  have hx:t.l[i]? = some t.l[i]:=List.getElem?_eq_getElem hi
  have hv:seen[i]? = some (seen[i]'(by omega)):=List.getElem?_eq_getElem (by omega)
  have hk:kat t.l (i:Int)=kidsL t.l[i]:=by unfold kat;rw [Int.toNat_natCast,hx]
  have hkl:=Qt hN (i:Int)
  have hNi:=hN _ (List.getElem_mem hi)
  simp only [List.length_cons] at hB hn;rw [List.reverse_cons]
  have hl1:(s.reverse++[(i:Int)]).length=s.length+1:=by simp
  simp only [DV];rw [dT (show (0:Int)<((s.reverse++[(i:Int)]).length:Int) by rw [hl1];omega),cT,Ab (by rw [hl1];omega),lastI,oB,Ab (by rw [hl1];omega),initI,oB,getI hv,oB,oB]
  have hd:dfs (kat t.l) (n+1) ((i:Int)::s) out=if (i:Int)∈out then dfs (kat t.l) n s out else dfs (kat t.l) n (kat t.l i++s) (out++[(i:Int)]):=rfl
  rw [hd]
  by_cases ho:(i:Int)∈out
  ·have h1:seen[i]'(by omega)=true:=by have:=(hse i).2 ⟨ho,hi⟩;rw [hv] at this;exact Option.some.inj this
   rw [h1,cT,if_pos ho];exact Im hR hN hlen n s out seen (fun x hx=>hs x (by simp [hx])) hsl hse (by omega) (by omega)
  ·have h1:seen[i]'(by omega)=false:=by
    cases hq:seen[i]'(by omega) with
    | false=>rfl
    | true=>exact absurd ((hse i).1 (by rw [hv,hq])).1 ho
   have hw:=RX (K:=kat t.l) hi ho
   obtain ⟨ys,e1,e2⟩:=Im hR hN hlen n (kat t.l i++s) (out++[(i:Int)]) (seen.set i true) (fun y hy=>by
    rcases List.mem_append.1 hy with hy | hy
    ·exact Pc hR _ _ hy
    ·exact hs y (by simp [hy])) (by simpa using hsl) (fun j=>by
    rw [List.getElem?_set]
    by_cases hij:i=j
    ·subst hij;simp;omega
    ·rw [if_neg hij,hse j];simp;omega) (by simp only [List.length_append,List.length_cons,List.length_nil];omega) (by simp only [List.length_append];omega)
   rw [h1,cF_,if_neg ho,getI hx,oB,Mx _ hNi,oB,<- hk,Ab (by omega),Pf _ (by omega),oB,Ab (by simp only [List.length_reverse];omega),Int.toNat_natCast];refine ⟨(i:Int)::ys,?_,by rw [e2];simp⟩;rw [List.reverse_append] at e1;rw [e1];rfl
noncomputable def En (L:List ANd) (root:Int):List Int:=dfs (kat L) FU [root] []
theorem Mf (f:Nat->Nat) (c:Nat):∀ l:List Nat,(∀ j∈l,f j<=c)->(l.map f).sum<=l.length*c
 | [],_=>by simp
 | j::l,h=>by
  have h1:=Mf f c l (fun k hk=>h k (by simp [hk]))
  have h2:=h j (by simp)
  simp only [List.map_cons,List.sum_cons,List.length_cons,Nat.add_mul]
  omega
theorem Nz {L:List ANd} (hN:∀ n∈L,NB n) (out:List Int):wt (kat L) L.length out<=L.length*40:=by
 have:=Mf (fun (i:Nat)=>if (i:Int)∈out then 0 else (kat L (i:Int)).length) 40 (List.range L.length) (fun j _=>by
  split
  ·omega
  ·exact Qt hN _)
 rw [List.length_range] at this;exact this
theorem Q4 {t:ATy} (hR:InL t.l) (hN:∀ n∈t.l,NB n) (hlen:t.l.length<=2001) {root:Int} (h0:0<=root) (h1:root<(t.l.length:Int)) :
  IA t root=some (En t.l root):=by
 have hw:=Nz hN []
 obtain ⟨ys,e1,e2⟩:=Im hR hN hlen FU [root] [] (List.replicate t.l.length false) (fun x hx=>by simp at hx;subst hx;exact ⟨h0,h1⟩) (by simp) (fun i=>by rw [List.getElem?_replicate];split <;> simp) (by simp only [List.length_cons,List.length_nil];omega) (by rw [FUv];simp only [List.length_cons,List.length_nil];omega);rw [List.nil_append] at e2;unfold IA;rw [Ab (by omega),Ab (by omega),Int.toNat_natCast]
 show DV t FU ([root].reverse,_)=_
 rw [e1,En,e2]
theorem Jj {K:Int->List Int} {D:Int->Prop} (hK:∀ x,D x->∀ k∈K x,D k):∀ (n:Nat) (s out:List Int),(∀ x∈s,D x)->(∀ x∈out,D x)->out.Nodup->(∀ x∈dfs K n s out,D x)/\(dfs K n s out).Nodup
 | 0,s,out,_,ho,hn=>⟨ho,hn⟩
 | n+1,[],out,_,ho,hn=>⟨ho,hn⟩
 | n+1,x::s,out,hs,ho,hn=>by
  unfold dfs
  split
  ·exact Jj hK n s out (fun y hy=>hs y (by simp [hy])) ho hn
  ·rename_i hx
   have hDx:=hs x (by simp)
   refine Jj hK n _ _ (fun y hy=>?_) (fun y hy=>?_) ?_
   ·rcases List.mem_append.1 hy with hy | hy
    ·exact hK x hDx y hy
    ·exact hs y (by simp [hy])
   ·rcases List.mem_append.1 hy with hy | hy
    ·exact ho y hy
    ·simp at hy;subst hy;exact hDx
   ·rw [List.nodup_append]
    refine ⟨hn,by simp,fun a ha b hb e=>?_⟩
    simp at hb
    subst hb e;exact hx ha
theorem Ix {L:List ANd} (hR:InL L) {root:Int} (h0:0<=root) (h1:root<(L.length:Int)):(∀ x∈En L root,0<=x/\x<(L.length:Int))/\(En L root).Nodup/\(En L root).length<=L.length:=by
 obtain ⟨a,b⟩:=Jj (K:=kat L) (D:=fun x=>0<=x/\x<(L.length:Int)) (fun x _ k hk=>Pc hR x k hk) FU [root] [] (fun x hx=>by simp at hx;subst hx;exact ⟨h0,h1⟩) (by simp) (by simp);exact ⟨a,b,JP _ _ b a⟩
def varOf (L:List ANd) (x:Int):Option Int:=match L[x.toNat]? with
 | some n=>if n.kind=11 then some n.a else none
 | none=>none
theorem Lb (t:ATy):∀ (xs acc:List Int),(∀ x∈xs,0<=x/\x<(t.l.length:Int))->acc.length+xs.length<=1000000->B6 t xs acc=some (acc++xs.filterMap (varOf t.l))
 | [],acc,_,_=>by simp [B6]
 | x::xs,acc,hx,hl=>by
  obtain ⟨x0,x1⟩:=hx x (by simp)
  have hn:t.l[x.toNat]? = some (t.l[x.toNat]'(by omega)):=List.getElem?_eq_getElem (by omega)
  have ix:idx t.l x=some (t.l[x.toNat]'(by omega)):=by rw [<- hn];unfold idx;rw [if_pos x0]
  simp only [List.length_cons] at hl;unfold B6;rw [ix,oB,List.filterMap_cons];unfold varOf;rw [hn]
  simp only
  by_cases hk:(t.l[x.toNat]'(by omega)).kind=11
  ·rw [dT hk,cT,if_pos hk,Ab (by simp only [List.length_cons,List.length_nil];omega),Lb t xs _ (fun y hy=>hx y (by simp [hy])) (by simp only [List.length_append,List.length_cons,List.length_nil];omega)]
   simp only [List.append_assoc,List.cons_append,List.nil_append]
   rfl
  ·rw [dF hk,cF_,if_neg hk,Lb t xs _ (fun y hy=>hx y (by simp [hy])) (by omega)]
   rfl
theorem G2 (K:Int->List Int):∀ (n:Nat) (s out:List Int),∃ ys,dfs K n s out=out++ys
 | 0,s,out=>⟨[],by simp [dfs]⟩
 | n+1,[],out=>⟨[],by simp [dfs]⟩
 | n+1,x::s,out=>by
  unfold dfs
  split
  ·exact G2 K n s out
  ·obtain ⟨ys,e⟩:=G2 K n (K x++s) (out++[x])
   exact ⟨[x]++ys,by rw [e,List.append_assoc]⟩
theorem If {L:List ANd} (hR:InL L):∀ (n:Nat) (s out:List Int),(∀ x∈s,0<=x/\x<(L.length:Int))->s.length+wt (kat L) L.length out<n ->
  (∀ x∈s,x∈dfs (kat L) n s out)/\(∀ x∈dfs (kat L) n s out,x∈out\/∀ k∈kat L x,k∈dfs (kat L) n s out)
 | 0,s,out,_,h=>by omega
 | n+1,[],out,_,_=>⟨fun x hx=>by simp at hx,fun x hx => .inl (by simpa [dfs] using hx)⟩
 | n+1,x::s,out,hs,h=>by
  obtain ⟨x0,x1⟩:=hs x (by simp);simp only [List.length_cons] at h;unfold dfs
  by_cases hx:x∈out
  ·rw [if_pos hx]
   obtain ⟨i1,i2⟩:=If hR n s out (fun y hy=>hs y (by simp [hy])) (by omega);obtain ⟨ys,e⟩:=G2 (kat L) n s out;refine ⟨fun y hy=>?_,i2⟩
   rcases List.mem_cons.1 hy with rfl | hy
   ·rw [e];exact List.mem_append_left _ hx
   ·exact i1 y hy
  ·rw [if_neg hx]
   obtain ⟨q,rfl⟩:=Int.eq_ofNat_of_zero_le x0
   have hw:=RX (K:=kat L) (len:=L.length) (out:=out) (i:=q) (by omega) hx
   obtain ⟨i1,i2⟩:=If hR n (kat L (q:Int)++s) (out++[(q:Int)]) (fun y hy=>by
    rcases List.mem_append.1 hy with hy | hy
    ·exact Pc hR _ _ hy
    ·exact hs y (by simp [hy])) (by rw [List.length_append];omega)
   obtain ⟨ys,e⟩:=G2 (kat L) n (kat L (q:Int)++s) (out++[(q:Int)]);refine ⟨fun y hy=>?_,fun y hy=>?_⟩
   ·rcases List.mem_cons.1 hy with rfl | hy
    ·rw [e];simp
    ·exact i1 y (by simp [hy])
   ·rcases i2 y hy with h3 | h3
    ·rcases List.mem_append.1 h3 with h3 | h3
     ·exact .inl h3
     ·simp at h3
      subst h3;exact .inr fun k hk=>i1 k (List.mem_append_left _ hk)
    ·exact .inr h3
theorem MO {t:ATy} (hA:DX t.l) (hN:∀ n∈t.l,NB n) (hlen:t.l.length<=2001) (h0:0<=t.root) (h1:t.root<(t.l.length:Int)) :
  t.root∈En t.l t.root/\∀ x∈En t.l t.root,∀ k∈kat t.l x,k∈En t.l t.root:=by
 have hw:=Nz hN []
 obtain ⟨c1,c2⟩:=If (Dt hA) FU [t.root] [] (fun x hx=>by rw [List.mem_singleton.1 hx];exact ⟨h0,h1⟩) (by rw [FUv];simp only [List.length_cons,List.length_nil];omega);refine ⟨c1 _ (by simp),fun x hx k hk=>?_⟩
 rcases c2 x hx with h | h
 ·cases h
 ·exact h k hk
theorem UN {t:ATy} {x:Int} (h:In t x):kat t.l x=kidsL (nd t x):=by
 unfold kat;rw [Hn h]
theorem Rh {t:ATy} (hu:MayO t) (hv:∀ x∈En t.l t.root,(nd t x).kind≠11):GU t (cs (En t.l t.root)):=by
 obtain ⟨l0,l1,r0,r1,hA,_⟩:=G9 hu.may;obtain ⟨b1,b2,b3⟩:=Ix (Dt hA) r0 r1;obtain ⟨c1,c2⟩:=MO hA hu.nb (by omega) r0 r1
 have hk:∀ x∈En t.l t.root,∀ k∈kidsL (nd t x),k∈En t.l t.root:=fun x hx k hk=>c2 x hx k (by rw [UN (b1 x hx)];exact hk)
 refine ⟨⟨fun i hi=>b1 i (mem_cs.1 hi),fun i hi hp=>?_,fun i hi f hf=>?_⟩,mem_cs.2 c1,fun i hi=>hv i (mem_cs.1 hi),Dn _⟩
 ·have hq:kidsL (nd t i)=[(nd t i).a,(nd t i).b]:=by
   unfold kidsL pB
   rcases hp with h | h | h <;> rw [h] <;> rfl
  have:=hk i (mem_cs.1 hi)
  rw [hq] at this;exact ⟨mem_cs.2 (this _ (by simp)),mem_cs.2 (this _ (by simp))⟩
 ·have hR:=hA _ (FM (b1 i (mem_cs.1 hi)))
  cases hw:wB (nd t i).kind with
  | false=>rw [Io hR hw] at hf;cases hf
  | true =>
   refine mem_cs.2 (hk i (mem_cs.1 hi) _ ?_);unfold kidsL;rw [UG hw,hw,cF_,cT];exact List.mem_map.2 ⟨f,hf,rfl⟩
theorem Pd (t:ATy) (hlen:t.l.length<=2001) (hN:∀ n∈t.l,NB n):∃ b,Di t=some b/\(b=true->mayT t.l t.root=0/\∀ x∈En t.l t.root,(nd t x).kind≠11):=by
 unfold Di Fq;rw [Tx t hlen hN,oB]
 by_cases h:mayT t.l t.root=0
 ·obtain ⟨_,_,r0,r1,hA,_⟩:=G9 h
  obtain ⟨b1,b2,b3⟩:=Ix (Dt hA) r0 r1
  have hfl:((En t.l t.root).filterMap (varOf t.l)).length<=(En t.l t.root).length:=List.length_filterMap_le _ _
  rw [dT h,cT,oB,show (!decide (mayT t.l t.root=0))=false by rw [dT h];rfl,cF_,Q4 (Dt hA) hN hlen r0 r1,oB,Lb t _ _ b1 (by simp only [List.length_nil];omega),oB,List.nil_append,Ab (by omega),oB,oB];refine ⟨_,rfl,fun hz=>⟨h,fun x hx hk=>?_⟩⟩
  have hz0:=of_decide_eq_true hz
  have hm:(nd t x).a∈(En t.l t.root).filterMap (varOf t.l):=by
   refine List.mem_filterMap.2 ⟨x,hx,?_⟩;unfold varOf;rw [Hn (b1 x hx)];simp only [hk,if_true]
  have hm2:=mem_cs.2 hm
  unfold cs at hm2
  have:=List.length_pos_of_mem hm2
  omega
 ·rw [dF h,cF_]
  exact ⟨false,rfl,fun h=>by cases h⟩
end Go.Proofs.YtcoghblhdjmbfaaGreat
namespace Go.Proofs.YtcoghblhdjmbfaaGreat
open Go.V
open Classical
theorem OT (x:AutoAuto):(⟨x.l,x.start⟩:AutoAuto)=x:=by cases x;rfl
theorem Su {l:List AutoState} (hl:l.length<=10) (h:∀ s∈l,s.vars.length<=40) {v z:Int} (hz:mget (rnP l) v=some z):0<=z/\z<=999:=by
 obtain ⟨h1,_,_⟩:=M8 l (mm:=[]) (fun i p hp=>by simp at hp)
 have hlen:∀ (l:List AutoState) (n:Nat) (mm:List (Int×Int)),(∀ s∈l,s.vars.length<=40)->mm.length<=n->(l.foldl (fun mm s=>s.vars.foldl addF mm) mm).length<=n+40*l.length:=by
  have hone:∀ (vs:List Int) (n:Nat) (mm:List (Int×Int)),mm.length<=n->(vs.foldl addF mm).length<=n+vs.length:=by
   intro vs
   induction vs with
   | nil=>intro n mm h;simpa using h
   | cons v vs ih =>
    intro n mm h
    have ha:(addF mm v).length<=n+1:=by
     unfold addF
     split
     ·omega
     ·simp;omega
    have:=ih (n+1) _ ha
    rw [List.foldl_cons,List.length_cons];omega
  intro l
  induction l with
  | nil=>intro n mm _ h;simpa using h
  | cons s l ih =>
   intro n mm hs h
   have h1:=hone s.vars n mm h
   have h2:=hs s (by simp)
   have:=ih (n+40) (s.vars.foldl addF mm) (fun t ht=>hs t (by simp [ht])) (by omega)
   rw [List.foldl_cons,List.length_cons];omega
 have h3:=hlen l 0 [] h (by simp)
 obtain ⟨i,hi⟩:=List.getElem?_of_mem (J9 hz)
 have h4:=(List.getElem?_eq_some_iff.1 hi).1
 have h5:=h1 i _ hi
 have h6:(rnP l).length<=0+40*l.length:=h3
 dsimp only at h5
 omega
theorem Va {t:ATy} (h:MayO (fewT 6 t)):(fewT 6 t).l.length<=6:=Pk 6 t (G9 h.may).2.1
theorem law_VarsSame (a:AutoAuto) (t:ATy):Cg a t=some true:=by
 unfold Cg;rw [Ub,oB,Bool.not_true,cF_];obtain ⟨x,hx,ha,hlen⟩:=U2 a;rw [hx,oB,show Gt (⟨t.l,t.root⟩:ATy) 6=some (fewT 6 t) from UZ t 6 6 rfl (by omega),oB,OT]
 by_cases hm:mayP x=0
 ·have hl:=H8 ha hm
  have hn:=I6 hl
  have hmn:=OB ha hm
  have hx10:x.l.length<=10:=by
   have:=(Ha hm).2.1
   omega
  rw [Qa ha hm,Mm ha hm]
  dsimp only [oB]
  obtain ⟨b,e1,e2⟩:=Pd (fewT 6 t) (SE 6 (by omega) t) (PU 6 t);rw [show Di (⟨(fewT 6 t).l,(fewT 6 t).root⟩:ATy)=some b from e1];rw [show (!decide ((0:Int)=0))=false from rfl,Bool.or_self,cF_]
  cases b with
  | false=>rfl
  | true =>
   obtain ⟨g1,g2⟩:=e2 rfl
   have hu:MayO (fewT 6 t):=⟨g1,PU 6 t⟩
   have hg:=Rh hu g2
   have hu6:=Va hu
   have hP:=IK hmn
   obtain ⟨n0,n1,n2⟩:=GC (Ha hmn).2.2.2
   have n0:(0:Int)<=0:=n0
   have n1:(0:Int)<((normP x).l.length:Int):=n1
   have n2:(stL (normP x).l 0).plus=true:=n2
   have hnl:(normP x).l.length<=10:=by
    rw [HD hl]
    have:=EA _ _ (B8 hl).1 (B8 hl).2.1
    omega
   have hd:=OK (f:=dropF (normP x)) hn
   have hr:=OK (f:=mget (rnP (normP x).l)) hn
   have m1:=JT ha hm hx10 (f:=dropF (normP x)) (fun v z hz hv=>by
    obtain ⟨rfl,_⟩:=dropF_iff.1 hz;obtain ⟨s,hs,hv⟩:=hv;exact (MX hn hmn (by omega)).vars s hs |>.2 _ hv) hu hg hu6 (fun D=>Up hP (fun v z=>dropF_iff) n0 n1 n2 D)
   have hrn:=Vb (normP x).l
   have m2:=JT ha hm hx10 (f:=mget (rnP (normP x).l)) (fun v z hz hv=>Su hnl (fun s hs=>(hn.2 s hs).1) hz) hu hg hu6 (fun D=>QE hP hrn.1 hrn.2 n0 n1 n2 D)
   dsimp only [Bool.not_true,oB,cF_]
   simp only [OT];rw [Tn _ ha,oB,Jh _ ha,oB];obtain ⟨s0,s1,s2⟩:=GC (Ha hm).2.2.2
   have m0:=HG (MX ha hm (by omega)) hx10 (IK hm) s0 s1 s2 hu hg hu6
   rw [show AC (typeW x) (⟨(fewT 6 t).l,(fewT 6 t).root⟩:ATy)=_ from m0,oB,Tn _ hd,oB,Jh _ hd,oB,
    show AC (typeW (withP (dropF (normP x)) (normP x))) (⟨(fewT 6 t).l,(fewT 6 t).root⟩:ATy)=_ from m1.trans m0,oB,beq_self_eq_true,cT,Tn _ hr,oB,Jh _ hr,oB,
    show AC (typeW (withP (mget (rnP (normP x).l)) (normP x))) (⟨(fewT 6 t).l,(fewT 6 t).root⟩:ATy)=_ from m2.trans m0,oB,beq_self_eq_true]
   rfl
 ·rw [Uh ha hm,QR ha hm]
  dsimp only [oB]
  rw [dF hm,Bool.not_false,Bool.or_self,cT,oB,cT,dT rfl]
end Go.Proofs.YtcoghblhdjmbfaaGreat
