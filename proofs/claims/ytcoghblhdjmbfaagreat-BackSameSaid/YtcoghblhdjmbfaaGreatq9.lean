/- Part 9 of the proof: a program logic, what the functions compute, and what these answer; no condition. -/
import Derived.Test.YtcoghblhdjmbfaaGreatq8
set_option linter.unusedVariables false
set_option linter.unusedSimpArgs false
set_option maxRecDepth 100000
namespace Go.Proofs.YtcoghblhdjmbfaaGreat
open Go.V
open Classical
structure FinG (t:ATy) (g:BSq):Prop where
 ok:OkT t
 nb:∀ n∈t.l,NB n
 inq:∀ q,Cl t g q->InQ t q
 sm:∀ q,Cl t g q->SmQ (toS q)
 fin:∀ l:List RSeq,l.Nodup->(∀ q∈l,Cl t g (toB q))->l.length<=500000
structure WInv (t:ATy) (g:BSq) (c:Nat) (w:Syntagmaref19World):Prop where
 ht:w.t=t
 hf:w.flex=1000
 b:BInv w
 bl:w.below_.length=1000
 al:w.above.length=1000
 nd:w.all.Nodup
 cl:∀ q∈w.all,Cl t g (toB q)
 bel:∀ (v:Nat) L,w.below_[v]? = some L->L.length<=c/\∀ l∈L,∃ q,Cl t g q/\BlwP t q (v:Int) l
 abv:∀ (v:Nat) L,w.above[v]? = some L->L.length<=c/\∀ l∈L,∃ q,Cl t g q/\AbvP t q (v:Int) l
 mix:w.mixed=true->∃ q,Cl t g q/\MixP t q
 fai:w.fails=true->∃ q,Cl t g q/\¬ VarP t q/\(AW t q).1=true
structure ExtW (w w':Syntagmaref19World):Prop where
 all:∃ s,w'.all=w.all++s
 bel:∀ (v:Nat) L,w.below_[v]? = some L->∃ L',w'.below_[v]? = some L'/\∀ l∈L,l∈L'
 abv:∀ (v:Nat) L,w.above[v]? = some L->∃ L',w'.above[v]? = some L'/\∀ l∈L,l∈L'
 mix:w.mixed=true->w'.mixed=true
 fai:w.fails=true->w'.fails=true
theorem ExtW.refl (w:Syntagmaref19World):ExtW w w:=⟨⟨[],by simp⟩,fun v L h=>⟨L,h,fun _ h=>h⟩,fun v L h=>⟨L,h,fun _ h=>h⟩,id,id⟩
theorem ExtW.trans {a b c:Syntagmaref19World} (h:ExtW a b) (k:ExtW b c):ExtW a c:=by
 obtain ⟨s,e⟩:=h.all;obtain ⟨s',e'⟩:=k.all
 refine ⟨⟨s++s',by rw [e',e,List.append_assoc]⟩,fun v L hL=>?_,fun v L hL=>?_,fun h'=>k.mix (h.mix h'),fun h'=>k.fai (h.fai h')⟩
 ·obtain ⟨L1,h1,h2⟩:=h.bel v L hL
  obtain ⟨L2,h3,h4⟩:=k.bel v L1 h1;exact ⟨L2,h3,fun l hl=>h4 l (h2 l hl)⟩
 ·obtain ⟨L1,h1,h2⟩:=h.abv v L hL
  obtain ⟨L2,h3,h4⟩:=k.abv v L1 h1;exact ⟨L2,h3,fun l hl=>h4 l (h2 l hl)⟩
theorem ExtW.mem {w w':Syntagmaref19World} (h:ExtW w w') {q:RSeq} (hq:q∈w.all):q∈w'.all:=by
 obtain ⟨s,e⟩:=h.all;rw [e];exact List.mem_append_left _ hq
structure DoneW (t:ATy) (w:Syntagmaref19World) (q:BSq):Prop where
 abv:∀ v r,AbvP t q v r->∃ L,w.above[v.toNat]? = some L/\r∈L
 bel:∀ v l,BlwP t q v l->∃ L,w.below_[v.toNat]? = some L/\l∈L
 mix:MixP t q->w.mixed=true
 fai:¬ VarP t q->(AW t q).1=true->w.fails=true
 led:¬ VarP t q->∀ s∈(AW t q).2,toS s∈w.all
theorem DoneW.ext {t:ATy} {w w':Syntagmaref19World} {q:BSq} (h:DoneW t w q) (e:ExtW w w'):DoneW t w' q:=by
 refine ⟨fun v r ha=>?_,fun v l ha=>?_,fun hm=>e.mix (h.mix hm),fun hv hl=>e.fai (h.fai hv hl),fun hv s hs=>e.mem (h.led hv s hs)⟩
 ·obtain ⟨L,h1,h2⟩:=h.abv v r ha
  obtain ⟨L',h3,h4⟩:=e.abv _ L h1;exact ⟨L',h3,h4 _ h2⟩
 ·obtain ⟨L,h1,h2⟩:=h.bel v l ha
  obtain ⟨L',h3,h4⟩:=e.bel _ L h1;exact ⟨L',h3,h4 _ h2⟩
section
variable {t:ATy} {g:BSq} {c:Nat} {w:Syntagmaref19World}
theorem WInv.len (hG:FinG t g) (hw:WInv t g c w):w.all.length<=500000:=hG.fin _ hw.nd hw.cl
theorem Ni (hG:FinG t g) (hw:WInv t g c w) {q:RSeq} (hq:Cl t g (toB q)):∃ w',Az w q=some w'/\WInv t g c w'/\ExtW w w'/\q∈w'.all/\w'.below_=w.below_/\w'.above=w.above:=by
 rcases VE hw.b (hG.sm _ hq) (by have:=hw.len hG;omega) with ⟨h1,h2⟩ | ⟨h1,bs,h2,h3⟩
 ·exact ⟨w,h2,hw,.refl w,h1,rfl,rfl⟩
 ·refine ⟨addQ w q bs,h2,⟨hw.ht,hw.hf,h3,hw.bl,hw.al,?_,?_,hw.bel,hw.abv,hw.mix,hw.fai⟩,⟨⟨[q],rfl⟩,fun v L h=>⟨L,h,fun _ h=>h⟩,fun v L h=>⟨L,h,fun _ h=>h⟩,id,id⟩,by show q∈w.all++[q];simp,rfl,rfl⟩
  ·show (w.all++[q]).Nodup
   rw [List.nodup_append];exact ⟨hw.nd,by simp,fun a ha b hb=>by rw [List.mem_singleton] at hb;subst hb;exact fun e=>h1 (e▸ha)⟩
  ·intro x hx
   rcases List.mem_append.1 (show x∈w.all++[q] from hx) with h | h
   ·exact hw.cl x h
   ·rw [List.mem_singleton] at h;subst h;exact hq
theorem Ou (hG:FinG t g) (hw:WInv t g c w) (xs:List RSeq) (hx:∀ x∈xs,Cl t g (toB x)) (hl:xs.length<=1000000) :
  ∃ w',AO xs FU (0,w.t.l,w.t.root,w.flex,w.mixed,w.fails,w.all,w.buckets,w.below_,w.above)=some w'/\WInv t g c w'/\ExtW w w'/\∀ x∈xs,x∈w'.all:=by
 obtain ⟨o,e1,e2⟩:=BI (φ:=fun n i (s:Syntagmaref19World)=>AO xs n (i,s.t.l,s.t.root,s.flex,s.mixed,s.fails,s.all,s.buckets,s.below_,s.above)) (l:=xs)
  (fun i s=>WInv t g c s/\ExtW w s/\∀ x∈xs.take i,x∈s.all) (fun o=>WInv t g c o/\ExtW w o/\∀ x∈xs,x∈o.all)
  (by
   rintro n i x s hxi hi ⟨h1,h2,h3⟩
   left
   obtain ⟨s',e,h4,h5,h6,_⟩:=Ni hG h1 (hx x (List.mem_of_getElem? hxi));refine ⟨s',?_,h4,h2.trans h5,fun y hy=>?_⟩
   ·simp only [AO]
    rw [dT (show (i:Int)<(xs.length:Int) by omega),cT,getI hxi,oB,show Az (⟨(⟨s.t.l,s.t.root⟩:ATy),s.flex,s.all,s.buckets,s.below_,s.above,s.mixed,s.fails⟩:Syntagmaref19World) x=_ from e,oB,Ab (by constructor <;> omega)]
   ·rw [takeS hxi] at hy
    rcases List.mem_append.1 hy with hy | hy
    ·exact h5.mem (h3 y hy)
    ·rw [List.mem_singleton] at hy;subst hy;exact h6)
  (by
   rintro n s ⟨h1,h2,h3⟩;refine ⟨s,?_,h1,h2,by rwa [List.take_length] at h3⟩;simp only [AO];rw [dF (by omega),cF_]) (by rw [FUv];omega) w ⟨hw,.refl w,by simp⟩
 exact ⟨o,e1,e2⟩
theorem WInv.mono {d:Nat} (h:WInv t g c w) (hd:c<=d):WInv t g d w:=⟨h.ht,h.hf,h.b,h.bl,h.al,h.nd,h.cl,fun v L hL=>⟨Nat.le_trans (h.bel v L hL).1 hd,(h.bel v L hL).2⟩,fun v L hL=>⟨Nat.le_trans (h.abv v L hL).1 hd,(h.abv v L hL).2⟩,h.mix,h.fai⟩
def JV (w:Syntagmaref19World) (v:Nat) (L:List (List Int)):Syntagmaref19World:={ w with above:=w.above.set v L }
def JL (w:Syntagmaref19World) (v:Nat) (L:List (List Int)):Syntagmaref19World:={ w with below_:=w.below_.set v L }
theorem R3 (hG:FinG t g) (hw:WInv t g c w) {v:Nat} {L:List (List Int)} (h:w.above[v]? = some L):∀ m∈L,m.length<=500:=by
 intro m hm
 obtain ⟨q,hq,ha⟩:=(hw.abv v L h).2 m hm;rw [ha.2.1];exact Nat.le_trans (List.length_filter_le ..) (hG.sm q hq).2.1
theorem RG (hG:FinG t g) (hw:WInv t g c w) {v:Nat} {L:List (List Int)} (h:w.below_[v]? = some L):∀ m∈L,m.length<=500:=by
 intro m hm
 obtain ⟨q,hq,ha⟩:=(hw.bel v L h).2 m hm;rw [ha.2.1];exact Nat.le_trans (List.length_filter_le ..) (hG.sm q hq).1
theorem insA (hG:FinG t g) (hw:WInv t g c w) (hc:c<=2000000) {q:BSq} (hq:Cl t g q) {a:Int} {r:List Int} (h0:0<=a) (h1:a<1000) (ha:AbvP t q a r) :
  ∃ L L':List (List Int),idx w.above a=some L/\AS L r=some L'/\WInv t g (c+1) (JV w a.toNat L')/\ExtW w (JV w a.toNat L')/\r∈L'/\(JV w a.toNat L').above[a.toNat]? = some L':=by
 have hlt:a.toNat<w.above.length:=by rw [hw.al];omega
 have hL:w.above[a.toNat]? = some w.above[a.toNat]:=List.getElem?_eq_getElem hlt
 obtain ⟨hb1,hb2⟩:=hw.abv _ _ hL
 have hrs:r.length<=500:=by rw [ha.2.1];exact Nat.le_trans (List.length_filter_le ..) (hG.sm q hq).2.1
 obtain ⟨L',e,hm,hln⟩:=MS w.above[a.toNat] r (by omega) (by omega) (fun m hm=>by have:=R3 hG hw hL m hm;omega)
 have hset:(w.above.set a.toNat L')[a.toNat]? = some L':=List.getElem?_set_self hlt
 refine ⟨_,L',?_,e,?_,?_,(hm r).2 (.inr rfl),hset⟩
 ·unfold idx;rw [if_pos h0];exact hL
 ·have hw2:=hw.mono (Nat.le_succ c)
  refine ⟨hw.ht,hw.hf,⟨hw.b.len,hw.b.lens,hw.b.rng,hw.b.has,hw.b.sm⟩,hw.bl,by simp [JV,hw.al],hw.nd,hw.cl,hw2.bel,?_,hw.mix,hw.fai⟩
  intro v L hvL
  have hvL':(w.above.set a.toNat L')[v]? = some L:=hvL
  by_cases hv:a.toNat=v
  ·subst hv
   rw [hset] at hvL';cases hvL'
   refine ⟨by omega,fun l hl=>?_⟩
   rcases (hm l).1 hl with h | rfl
   ·exact hb2 l h
   ·exact ⟨q,hq,by rwa [Int.toNat_of_nonneg h0]⟩
  ·rw [List.getElem?_set_ne hv] at hvL'
   exact hw2.abv v L hvL'
 ·refine ⟨⟨[],by simp [JV]⟩,fun v L h=>⟨L,h,fun _ h=>h⟩,fun v L hvL=>?_,id,id⟩
  by_cases hv:a.toNat=v
  ·subst hv
   rw [hL] at hvL;cases hvL
   exact ⟨L',hset,fun l hl=>(hm l).2 (.inl hl)⟩
  ·exact ⟨L,by show (w.above.set a.toNat L')[v]? = some L;rw [List.getElem?_set_ne hv];exact hvL,fun _ h=>h⟩
theorem insB (hG:FinG t g) (hw:WInv t g c w) (hc:c<=2000000) {q:BSq} (hq:Cl t g q) {a:Int} {r:List Int} (h0:0<=a) (h1:a<1000) (ha:BlwP t q a r) :
  ∃ L L':List (List Int),idx w.below_ a=some L/\AS L r=some L'/\WInv t g (c+1) (JL w a.toNat L')/\ExtW w (JL w a.toNat L')/\r∈L'/\(JL w a.toNat L').below_[a.toNat]? = some L':=by
 have hlt:a.toNat<w.below_.length:=by rw [hw.bl];omega
 have hL:w.below_[a.toNat]? = some w.below_[a.toNat]:=List.getElem?_eq_getElem hlt
 obtain ⟨hb1,hb2⟩:=hw.bel _ _ hL
 have hrs:r.length<=500:=by rw [ha.2.1];exact Nat.le_trans (List.length_filter_le ..) (hG.sm q hq).1
 obtain ⟨L',e,hm,hln⟩:=MS w.below_[a.toNat] r (by omega) (by omega) (fun m hm=>by have:=RG hG hw hL m hm;omega)
 have hset:(w.below_.set a.toNat L')[a.toNat]? = some L':=List.getElem?_set_self hlt
 refine ⟨_,L',?_,e,?_,?_,(hm r).2 (.inr rfl),hset⟩
 ·unfold idx;rw [if_pos h0];exact hL
 ·have hw2:=hw.mono (Nat.le_succ c)
  refine ⟨hw.ht,hw.hf,⟨hw.b.len,hw.b.lens,hw.b.rng,hw.b.has,hw.b.sm⟩,by simp [JL,hw.bl],hw.al,hw.nd,hw.cl,?_,hw2.abv,hw.mix,hw.fai⟩
  intro v L hvL
  have hvL':(w.below_.set a.toNat L')[v]? = some L:=hvL
  by_cases hv:a.toNat=v
  ·subst hv
   rw [hset] at hvL';cases hvL'
   refine ⟨by omega,fun l hl=>?_⟩
   rcases (hm l).1 hl with h | rfl
   ·exact hb2 l h
   ·exact ⟨q,hq,by rwa [Int.toNat_of_nonneg h0]⟩
  ·rw [List.getElem?_set_ne hv] at hvL'
   exact hw2.bel v L hvL'
 ·refine ⟨⟨[],by simp [JL]⟩,fun v L hvL=>?_,fun v L h=>⟨L,h,fun _ h=>h⟩,id,id⟩
  by_cases hv:a.toNat=v
  ·subst hv
   rw [hL] at hvL;cases hvL
   exact ⟨L',hset,fun l hl=>(hm l).2 (.inl hl)⟩
  ·exact ⟨L,by show (w.below_.set a.toNat L')[v]? = some L;rw [List.getElem?_set_ne hv];exact hvL,fun _ h=>h⟩
end
end Go.Proofs.YtcoghblhdjmbfaaGreat
namespace Go.Proofs.YtcoghblhdjmbfaaGreat
open Go.V
open Classical
theorem PP {A B H:Bool} {m:Option Bool} (h:m=some H):(bif A then ((bif B then (some true) else (m.bind fun x6=>some (!x6))).bind fun p2=>some p2) else (some false):Option Bool)=some (A&&(B || !H)):=by
 subst h;cases A <;> cases B <;> rfl
section
variable {t:ATy} {g:BSq} {c:Nat} {w:Syntagmaref19World}
theorem Wg {q:RSeq} (hq:InQ t (toB q)):(∀ i∈nzL t q.l 1,In t i)/\∀ i∈nzL t q.r 2,In t i:=⟨fun i hi=>hq.1 i (List.mem_filter.1 hi).1,fun i hi=>hq.2 i (List.mem_filter.1 hi).1⟩
theorem K6 {l:List Int} {v v':Int} (h:EC t l v) (h':EC t l v'):v=v':=by
 obtain ⟨hne,h⟩:=h
 cases l with
 | nil=>exact absurd rfl hne
 | cons x r=>rw [<- (h x (by simp)).2,<- (h'.2 x (by simp)).2]
theorem Ur (hG:FinG t g) (hw:WInv t g c w) (hc:c<=2000000) {q:BSq} (hq:Cl t g q) {a:Int} {r:List Int} {P:Bool} (hP:P=true->0<=a/\a<1000/\AbvP t q a r) :
  ∃ w1,(bif P then (idx w.above a).bind fun x7=>(AS x7 r).bind fun x8=>(idx w.above a).bind fun x9=>some (w.t.l,w.t.root,w.flex,w.mixed,w.fails,w.all,w.buckets,w.below_,(w.above.set (a).toNat x8))
   else some (w.t.l,w.t.root,w.flex,w.mixed,w.fails,w.all,w.buckets,w.below_,w.above):Option ((List ANd)×Int×Int×Bool×Bool×(List RSeq)×(List (List Int))×(List (List (List Int)))×(List (List (List Int))))) =
    some (w1.t.l,w1.t.root,w1.flex,w1.mixed,w1.fails,w1.all,w1.buckets,w1.below_,w1.above)/\WInv t g (c+1) w1/\ExtW w w1/\(P=true->∃ L,w1.above[a.toNat]? = some L/\r∈L)/\(P=false->w1=w):=by
 cases P with
 | false=>exact ⟨w,rfl,hw.mono (Nat.le_succ c),.refl w,fun h=>(by cases h),fun _=>rfl⟩
 | true =>
  obtain ⟨h0,h1,ha⟩:=hP rfl;obtain ⟨L,L',e1,e2,e3,e4,e5,e6⟩:=insA hG hw hc hq h0 h1 ha;refine ⟨JV w a.toNat L',?_,e3,e4,fun _=>⟨L',e6,e5⟩,fun h=>(by cases h)⟩;rw [cT,e1,oB,e2,oB,oB];rfl
theorem UH (hG:FinG t g) (hw:WInv t g c w) (hc:c<=2000000) {q:BSq} (hq:Cl t g q) {a:Int} {r:List Int} {P:Bool} (hP:P=true->0<=a/\a<1000/\BlwP t q a r) :
  ∃ w1,(bif P then (idx w.below_ a).bind fun x11=>(AS x11 r).bind fun x12=>(idx w.below_ a).bind fun x13=>some (w.t.l,w.t.root,w.flex,w.mixed,w.fails,w.all,w.buckets,(w.below_.set (a).toNat x12),w.above)
   else some (w.t.l,w.t.root,w.flex,w.mixed,w.fails,w.all,w.buckets,w.below_,w.above):Option ((List ANd)×Int×Int×Bool×Bool×(List RSeq)×(List (List Int))×(List (List (List Int)))×(List (List (List Int))))) =
    some (w1.t.l,w1.t.root,w1.flex,w1.mixed,w1.fails,w1.all,w1.buckets,w1.below_,w1.above)/\WInv t g (c+1) w1/\ExtW w w1/\(P=true->∃ L,w1.below_[a.toNat]? = some L/\r∈L)/\(P=false->w1=w):=by
 cases P with
 | false=>exact ⟨w,rfl,hw.mono (Nat.le_succ c),.refl w,fun h=>(by cases h),fun _=>rfl⟩
 | true =>
  obtain ⟨h0,h1,ha⟩:=hP rfl;obtain ⟨L,L',e1,e2,e3,e4,e5,e6⟩:=insB hG hw hc hq h0 h1 ha;refine ⟨JL w a.toNat L',?_,e3,e4,fun _=>⟨L',e6,e5⟩,fun h=>(by cases h)⟩;rw [cT,e1,oB,e2,oB,oB];rfl
def mixW (w:Syntagmaref19World):Syntagmaref19World:={ w with mixed:=true }
def failW (w:Syntagmaref19World):Syntagmaref19World:={ w with fails:=true }
theorem U1 (hw:WInv t g c w) {q:BSq} (hq:Cl t g q) (hm:MixP t q):WInv t g c (mixW w)/\ExtW w (mixW w):=
 ⟨⟨hw.ht,hw.hf,⟨hw.b.len,hw.b.lens,hw.b.rng,hw.b.has,hw.b.sm⟩,hw.bl,hw.al,hw.nd,hw.cl,hw.bel,hw.abv,fun _=>⟨q,hq,hm⟩,hw.fai⟩,⟨[],by simp [mixW]⟩,fun v L h=>⟨L,h,fun _ h=>h⟩,fun v L h=>⟨L,h,fun _ h=>h⟩,fun _=>rfl,id⟩
theorem TZ (hw:WInv t g c w) {q:BSq} (hq:Cl t g q) (hv:¬ VarP t q) (hl:(AW t q).1=true):WInv t g c (failW w)/\ExtW w (failW w):=
 ⟨⟨hw.ht,hw.hf,⟨hw.b.len,hw.b.lens,hw.b.rng,hw.b.has,hw.b.sm⟩,hw.bl,hw.al,hw.nd,hw.cl,hw.bel,hw.abv,hw.mix,fun _=>⟨q,hq,hv,hl⟩⟩,⟨[],by simp [failW]⟩,fun v L h=>⟨L,h,fun _ h=>h⟩,fun v L h=>⟨L,h,fun _ h=>h⟩,id,fun _=>rfl⟩
theorem MV (hG:FinG t g) (hw:WInv t g c w) {q:RSeq} (hq:Cl t g (toB q)) (hv:¬ VarP t (toB q)) :
  ∃ w',((D4 (⟨w.t.l,w.t.root⟩:ATy) q).bind fun (x18,x19) =>
   (bif (!x19) then some (w.t.l,w.t.root,w.flex,w.mixed,true,w.all,w.buckets,w.below_,w.above)
    else some (w.t.l,w.t.root,w.flex,w.mixed,w.fails,w.all,w.buckets,w.below_,w.above):Option ((List ANd)×Int×Int×Bool×Bool×(List RSeq)×(List (List Int))×(List (List (List Int)))×(List (List (List Int))))).bind fun (z16,z17,z18,z19,z20,l13,l14,l15,l16) =>
   AO x18 FU (0,z16,z17,z18,z19,z20,l13,l14,l15,l16))=some w'/\WInv t g c w'/\ExtW w w'/\((AW t (toB q)).1=true->w'.fails=true)/\∀ s∈(AW t (toB q)).2,toS s∈w'.all:=by
 have hsm:=hG.sm _ hq
 have hin:=hG.inq _ hq
 have e:=Rz hG.ok hG.nb hin hsm.1 hsm.2.1
 rw [T7] at e;rw [show D4 (⟨w.t.l,w.t.root⟩:ATy) q=D4 t q by rw [<- hw.ht],e,oB]
 have hcl:∀ x∈(AW t (toB q)).2.map toS,Cl t g (toB x):=by
  intro x hx
  obtain ⟨s,hs,rfl⟩:=List.mem_map.1 hx;exact .lead hq hv hs
 have hln:((AW t (toB q)).2.map toS).length<=1000000:=by
  rw [List.length_map];exact Nat.le_trans (PS hG.nb hin) (by omega)
 cases hb:(AW t (toB q)).1 with
 | true =>
  obtain ⟨h1,h2⟩:=TZ hw hq hv hb;obtain ⟨w',e1,e2,e3,e4⟩:=Ou hG h1 _ hcl hln;exact ⟨w',e1,e2,h2.trans e3,fun _=>e3.fai rfl,fun s hs=>e4 _ (List.mem_map.2 ⟨s,hs,rfl⟩)⟩
 | false =>
  obtain ⟨w',e1,e2,e3,e4⟩:=Ou hG hw _ hcl hln;exact ⟨w',e1,e2,e3,fun h=>(by cases h),fun s hs=>e4 _ (List.mem_map.2 ⟨s,hs,rfl⟩)⟩
end
end Go.Proofs.YtcoghblhdjmbfaaGreat
namespace Go.Proofs.YtcoghblhdjmbfaaGreat
open Go.V
open Classical
theorem bndE {α β γ:Type} {m:Option α} {k:α->Option β} {k2:β->Option γ} {x:α} {P:γ->Prop} (h:m=some x) (h2:∃ r,(k x).bind k2=some r/\P r):∃ r,(m.bind k).bind k2=some r/\P r:=by rw [h];exact h2
theorem Wm {P B H:Bool} {m:Option Bool} (h:m=some H):(bif P then (some true) else ((bif B then (m.bind fun x15=>some (!x15)) else (some false)).bind fun p8=>some p8):Option Bool)=some (P||(B && !H)):=by
 subst h;cases P <;> cases B <;> rfl
theorem pb3:∀ {A B HL HR:Bool},(A&&(B || !HR))=false->(B && !HL)=false->(B&&(A || !HL))=false:=by decide
section
variable {t:ATy} {g:BSq} {c:Nat} {w:Syntagmaref19World}
theorem Vq (hG:FinG t g) (hw:WInv t g c w) (hc:c<=1500000) {q:RSeq} (hq:Cl t g (toB q)) :
  ∃ w',Bw w q=some w'/\WInv t g (c+2) w'/\ExtW w w'/\DoneW t w' (toB q):=by
 have hsm:=hG.sm _ hq
 have hin:=hG.inq _ hq
 have hl5:q.l.length<=500:=hsm.1
 have hr5:q.r.length<=500:=hsm.2.1
 have hVt:=hG.ok.vno
 unfold Bw
 have he:Bm (⟨w.t.l,w.t.root⟩:ATy) q=some (JU t q):=by
  rw [show Bm (⟨w.t.l,w.t.root⟩:ATy) q=Bm t q by rw [<- hw.ht]];exact Se hin hl5 hr5
 rw [he,oB]
 cases hB:JU t q with
 | true =>
  have hE:FE t (toB q):=early_iff.1 hB
  have hv:¬ VarP t (toB q):=fun h=>h.1 hE
  obtain ⟨w',e1,e2,e3,e4,e5⟩:=MV hG hw hq hv;refine ⟨w',e1,e2.mono (by omega),e3,fun v r h=>absurd hE h.1,fun v l h=>absurd hE h.1,fun h=>absurd h.1 hv,fun _=>e4,fun _=>e5⟩
 | false =>
  have hE:¬ FE t (toB q):=fun h=>by rw [early_iff.2 h] at hB;cases hB
  rw [Bool.not_false,cT];obtain ⟨hLin,hRin⟩:=Wg hin
  have hLl:(nzL t q.l 1).length<=500:=Nat.le_trans (List.length_filter_le ..) hl5
  have hRl:(nzL t q.r 2).length<=500:=Nat.le_trans (List.length_filter_le ..) hr5
  have wl:AH (⟨w.t.l,w.t.root⟩:ATy) q.l 1=some (nzL t q.l 1):=by
   rw [show AH (⟨w.t.l,w.t.root⟩:ATy) q.l 1=AH t q.l 1 by rw [<- hw.ht]];exact K4 hin.1 hl5 1
  have wr:AH (⟨w.t.l,w.t.root⟩:ATy) q.r 2=some (nzL t q.r 2):=by
   rw [show AH (⟨w.t.l,w.t.root⟩:ATy) q.r 2=AH t q.r 2 by rw [<- hw.ht]];exact K4 hin.2 hr5 2
  refine bndE wl ?_;refine bndE wr ?_;obtain ⟨L,hL⟩:∃ L,L=nzL t q.l 1:=⟨_,rfl⟩;obtain ⟨R,hR⟩:∃ R,R=nzL t q.r 2:=⟨_,rfl⟩;rw [<- hL,<- hR];rw [<- hL] at hLin hLl;rw [<- hR] at hRin hRl
  have hVw:VNo w.t:=by rw [hw.ht];exact hVt
  obtain ⟨a,ea,ha⟩:=Pc hVw hw.hf (l:=L) (by rw [hw.ht];exact hLin) hLl;obtain ⟨b,eb,hb⟩:=Pc hVw hw.hf (l:=R) (by rw [hw.ht];exact hRin) hRl;rw [hw.ht] at ha hb;refine bndE ea ?_;refine bndE eb ?_;obtain ⟨HL,hHL⟩:∃ HL,HL=(L.any fun i=>decide ((nd t i).kind=11)):=⟨_,rfl⟩;obtain ⟨HR,hHR⟩:∃ HR,HR=(R.any fun i=>decide ((nd t i).kind=11)):=⟨_,rfl⟩
  have hasL:∀ {w':Syntagmaref19World} {d:Nat},WInv t g d w'->AA w' L=some HL:=fun {w'} {d} h=>by
   rw [hHL,<- h.ht];exact Sp (by rw [h.ht];exact hVt) h.hf (by rw [h.ht];exact hLin) hLl
  have hasR:∀ {w':Syntagmaref19World} {d:Nat},WInv t g d w'->AA w' R=some HR:=fun {w'} {d} h=>by
   rw [hHR,<- h.ht];exact Sp (by rw [h.ht];exact hVt) h.hf (by rw [h.ht];exact hRin) hRl
  have hLV:HL=true↔hasV t L:=by rw [hHL];exact OY
  have hRV:HR=true↔hasV t R:=by rw [hHR];exact OY
  have hA:decide (0<=a)=true↔EC t L a:=by
   rw [decide_eq_true_eq]
   rcases ha with ⟨h1,_,h2⟩ | ⟨h1,h2⟩
   ·exact ⟨fun _=>h2,fun _=>h1⟩
   ·exact ⟨fun h=>by omega,fun h=>absurd h (h2 a)⟩
  have hBb:decide (0<=b)=true↔EC t R b:=by
   rw [decide_eq_true_eq]
   rcases hb with ⟨h1,_,h2⟩ | ⟨h1,h2⟩
   ·exact ⟨fun _=>h2,fun _=>h1⟩
   ·exact ⟨fun h=>by omega,fun h=>absurd h (h2 b)⟩
  have hA1:∀ v,EC t L v->v=a:=fun v hv=>by
   rcases ha with ⟨_,_,h2⟩ | ⟨_,h2⟩
   ·exact K6 hv h2
   ·exact absurd hv (h2 v)
  have hB1:∀ v,EC t R v->v=b:=fun v hv=>by
   rcases hb with ⟨_,_,h2⟩ | ⟨_,h2⟩
   ·exact K6 hv h2
   ·exact absurd hv (h2 v)
  obtain ⟨A,hAe⟩:∃ A,A=decide (0<=a):=⟨_,rfl⟩;obtain ⟨B,hBe⟩:∃ B,B=decide (0<=b):=⟨_,rfl⟩;rw [<- hAe] at hA;rw [<- hBe] at hBb;rw [<- hAe,<- hBe]
  have haR:A=true->0<=a/\a<1000:=fun h=>by
   rcases ha with ⟨h1,h2,_⟩ | ⟨_,h2⟩
   ·exact ⟨h1,h2⟩
   ·exact absurd (hA.1 h) (h2 a)
  have hbR:B=true->0<=b/\b<1000:=fun h=>by
   rcases hb with ⟨h1,h2,_⟩ | ⟨_,h2⟩
   ·exact ⟨h1,h2⟩
   ·exact absurd (hBb.1 h) (h2 b)
  have habv:∀ v r,AbvP t (toB q) v r↔(A&&(B || !HR))=true/\v=a/\r=R:=by
   intro v r
   constructor
   ·rintro ⟨_,h2,h3,h4⟩
    have h2':r=R:=by rw [hR];exact h2
    have h3':EC t L v:=by rw [hL];exact h3
    have hva:=hA1 v h3'
    refine ⟨?_,hva,h2'⟩;rw [hA.2 (hva▸h3'),Bool.true_and]
    rcases h4 with ⟨x,hx⟩ | h4
    ·rw [h2'] at hx;rw [hBb.2 (hB1 x hx▸hx)];rfl
    ·rw [h2'] at h4
     cases hq2:HR with
     | true=>exact absurd (hRV.1 hq2) h4
     | false=>simp
   ·rintro ⟨h1,rfl,rfl⟩
    rw [Bool.and_eq_true,Bool.or_eq_true] at h1;refine ⟨hE,hR,by rw [hL] at hA;exact hA.1 h1.1,?_⟩
    rcases h1.2 with h | h
    ·exact .inl ⟨b,hBb.1 h⟩
    ·exact .inr fun hv=>by rw [hRV.2 hv] at h;cases h
  have hblw:∀ v l,BlwP t (toB q) v l↔(B&&(A || !HL))=true/\v=b/\l=L:=by
   intro v r
   constructor
   ·rintro ⟨_,h2,h3,h4⟩
    have h2':r=L:=by rw [hL];exact h2
    have h3':EC t R v:=by rw [hR];exact h3
    have hva:=hB1 v h3'
    refine ⟨?_,hva,h2'⟩;rw [hBb.2 (hva▸h3'),Bool.true_and]
    rcases h4 with ⟨x,hx⟩ | h4
    ·rw [h2'] at hx;rw [hA.2 (hA1 x hx▸hx)];rfl
    ·rw [h2'] at h4
     cases hq2:HL with
     | true=>exact absurd (hLV.1 hq2) h4
     | false=>simp
   ·rintro ⟨h1,rfl,rfl⟩
    rw [Bool.and_eq_true,Bool.or_eq_true] at h1;refine ⟨hE,hL,by rw [hR] at hBb;exact hBb.1 h1.1,?_⟩
    rcases h1.2 with h | h
    ·exact .inl ⟨a,hA.1 h⟩
    ·exact .inr fun hv=>by rw [hLV.2 hv] at h;cases h
  have hvar:VarP t (toB q)↔HL=true\/HR=true:=by
   unfold VarP;rw [hLV,hRV,hL,hR];exact ⟨fun h=>h.2,fun h=>⟨hE,h⟩⟩
  have hAl:A=true->HL=true:=fun h=>by
   have:=hA.1 h
   obtain ⟨hne,h2⟩:=this
   cases hLc:L with
   | nil=>exact absurd hLc hne
   | cons x r=>exact hLV.2 ⟨x,by rw [hLc];simp,(h2 x (by rw [hLc];simp)).1⟩
  have hBl:B=true->HR=true:=fun h=>by
   have:=hBb.1 h
   obtain ⟨hne,h2⟩:=this
   cases hLc:R with
   | nil=>exact absurd hLc hne
   | cons x r=>exact hRV.2 ⟨x,by rw [hLc];simp,(h2 x (by rw [hLc];simp)).1⟩
  refine bndE (PP (hasR hw)) ?_;obtain ⟨w1,e1,i1,x1,p1,n1⟩:=Ur hG hw (by omega) hq (a:=a) (r:=R) (P:=A&&(B || !HR)) (fun h=>by
   have:=(habv a R).2 ⟨h,rfl,rfl⟩
   rw [Bool.and_eq_true] at h;exact ⟨(haR h.1).1,(haR h.1).2,this⟩)
  refine bndE e1 ?_;refine bndE (PP (hasL i1)) ?_;obtain ⟨w2,e2,i2,x2,p2,n2⟩:=UH hG i1 (by omega) hq (a:=b) (r:=L) (P:=B&&(A || !HL)) (fun h=>by
   have:=(hblw b L).2 ⟨h,rfl,rfl⟩
   rw [Bool.and_eq_true] at h;exact ⟨(hbR h.1).1,(hbR h.1).2,this⟩)
  refine bndE e2 ?_;refine bndE (PP (hasR i2)) ?_;refine bndE (Wm (hasL i2)) ?_
  have hd:∀ w',ExtW w2 w'->(∀ v r,AbvP t (toB q) v r->∃ L,w'.above[v.toNat]? = some L/\r∈L)/\(∀ v l,BlwP t (toB q) v l->∃ L,w'.below_[v.toNat]? = some L/\l∈L):=by
   intro w' hx
   constructor
   ·intro v r h
    obtain ⟨h1,rfl,rfl⟩:=(habv v r).1 h;obtain ⟨M,m1,m2⟩:=p1 h1;obtain ⟨M',m3,m4⟩:=(x2.trans hx).abv _ M m1;exact ⟨M',m3,m4 _ m2⟩
   ·intro v r h
    obtain ⟨h1,rfl,rfl⟩:=(hblw v r).1 h;obtain ⟨M,m1,m2⟩:=p2 h1;obtain ⟨M',m3,m4⟩:=hx.bel _ M m1;exact ⟨M',m3,m4 _ m2⟩
  cases hP:((A&&(B || !HR))||(B && !HL)) with
  | true =>
   have hPv:VarP t (toB q):=by
    rw [hvar];simp only [Bool.or_eq_true,Bool.and_eq_true] at hP
    rcases hP with h | h
    ·exact .inl (hAl h.1)
    ·exact .inr (hBl h.1)
   refine ⟨w2,rfl,i2,x1.trans x2,(hd w2 (.refl _)).1,(hd w2 (.refl _)).2,fun hm=>?_,fun h=>absurd hPv h,fun h=>absurd hPv h⟩
   exfalso
   rcases Bool.or_eq_true _ _▸hP with h | h
   ·exact hm.2.1 a R ((habv a R).2 ⟨h,rfl,rfl⟩)
   ·refine hm.2.2 b L ((hblw b L).2 ⟨?_,rfl,rfl⟩)
    simp only [Bool.and_eq_true,Bool.or_eq_true] at h ⊢;exact ⟨h.1,.inr h.2⟩
  | false =>
   rw [cF_]
   have hP1:(A&&(B || !HR))=false:=by
    cases h:(A&&(B || !HR)) with
    | true=>rw [h] at hP;simp at hP
    | false=>rfl
   have hP3:(B&&(A || !HL))=false:=by
    rw [hP1,Bool.false_or] at hP;exact pb3 hP1 hP
   have ew1:=n1 hP1
   have ew2:=n2 hP3
   subst ew1;subst ew2
   have hna:∀ v r,¬ AbvP t (toB q) v r:=fun v r h=>by rw [((habv v r).1 h).1] at hP1;cases hP1
   have hnb:∀ v r,¬ BlwP t (toB q) v r:=fun v r h=>by rw [((hblw v r).1 h).1] at hP3;cases hP3
   refine bndE (hasL hw) ?_;refine bndE (x:=HL||HR) (by cases HL with | true=>rfl | false=>rw [cF_,hasR hw];rfl) ?_
   cases hM:(HL||HR) with
   | true =>
    have hPv:VarP t (toB q):=hvar.2 (by simpa using hM)
    have hm:MixP t (toB q):=⟨hPv,hna,hnb⟩
    obtain ⟨h1,h2⟩:=U1 i2 hq hm;exact ⟨_,rfl,h1,h2,fun v r h=>absurd h (hna v r),fun v l h=>absurd h (hnb v l),fun _=>rfl,fun h=>absurd hPv h,fun h=>absurd hPv h⟩
   | false =>
    have hv:¬ VarP t (toB q):=fun h=>by
     rcases hvar.1 h with h | h <;> rw [h] at hM <;> simp at hM
    obtain ⟨w',f1,f2,f3,f4,f5⟩:=MV hG hw hq hv;exact ⟨w',f1,f2.mono (by omega),f3,fun v r h=>absurd h (hna v r),fun v l h=>absurd h (hnb v l),fun h=>absurd h.1 hv,fun _=>f4,fun _=>f5⟩
end
end Go.Proofs.YtcoghblhdjmbfaaGreat
namespace Go.Proofs.YtcoghblhdjmbfaaGreat
open Go.V
open Classical
abbrev WT:=(List RSeq)×(List ANd)×Int×Int×Bool×Bool×(List (List (List Int)))×(List (List (List Int)))×(List (List Int))
abbrev tupW (w:Syntagmaref19World):WT:=(w.all,w.t.l,w.t.root,w.flex,w.mixed,w.fails,w.below_,w.above,w.buckets)
theorem Vj {p:Prop} (h:p) {i:Decidable p}:@decide p i=true:=by simp [h]
theorem Vl {p:Prop} (h:¬ p) {i:Decidable p}:@decide p i=false:=by simp [h]
section
variable {t:ATy} {g:BSq} {c:Nat} {w:Syntagmaref19World}
structure ProcW (t:ATy) (g:BSq) (d:Nat) (w:Syntagmaref19World):Prop where
 inv:WInv t g (2*d) w
 le:d<=w.all.length
 pr:∀ (j:Nat) q,j<d->w.all[j]? = some q->DoneW t w (toB q)
theorem Q2 {w w':Syntagmaref19World} (h:ExtW w w') {j:Nat} (hj:j<w.all.length):w'.all[j]? = w.all[j]? := by
 obtain ⟨s,e⟩:=h.all;rw [e,List.getElem?_append_left hj]
theorem TV (hG:FinG t g) {d:Nat} (h:ProcW t g d w):∃ w',A1 FU ((d:Int),tupW w)=some ((w'.all.length:Int),tupW w')/\ProcW t g w'.all.length w'/\ExtW w w':=by
 obtain ⟨o,e1,w',e2,e3,e4⟩:=If (φ:=fun n (s:Nat×Syntagmaref19World)=>A1 n ((s.1:Int),tupW s.2)) (fun s=>500001 - s.1) (fun s=>ProcW t g s.1 s.2/\ExtW w s.2)
  (fun o=>∃ w',o=((w'.all.length:Int),tupW w')/\ProcW t g w'.all.length w'/\ExtW w w') (by
  rintro n ⟨k,s⟩ ⟨hp,hx⟩
  have hlen:=hp.inv.len hG
  have hle:=hp.le
  dsimp only at hp hx hlen hle ⊢
  by_cases hk:k<s.all.length
  ·left
   obtain ⟨q,hq⟩:∃ q,s.all[k]? = some q:=⟨_,List.getElem?_eq_getElem hk⟩;obtain ⟨s',e,i1,i2,i3⟩:=Vq hG hp.inv (by omega) (hp.inv.cl q (List.mem_of_getElem? hq));refine ⟨(k+1,s'),⟨⟨i1.mono (by omega),?_,?_⟩,hx.trans i2⟩,by dsimp only;omega,?_⟩
   ·obtain ⟨r,hr⟩:=i2.all
    dsimp only
    rw [hr,List.length_append];omega
   ·intro j x hj hjx
    dsimp only at hj hjx ⊢
    rw [Q2 i2 (by omega)] at hjx
    by_cases hjk:j=k
    ·subst hjk;rw [hq] at hjx;cases hjx;exact i3
    ·exact (hp.pr j x (by omega) hjx).ext i2
   ·simp only [A1,tupW]
    rw [Vj (show (k:Int)<(s.all.length:Int) by omega),cT,getI hq,oB,show Bw (⟨(⟨s.t.l,s.t.root⟩:ATy),s.flex,s.all,s.buckets,s.below_,s.above,s.mixed,s.fails⟩:Syntagmaref19World) q=_ from e,oB,Ab (by constructor <;> omega)]
    rfl
  ·right
   have hkl:k=s.all.length:=by omega
   subst hkl;refine ⟨_,⟨s,rfl,hp,hx⟩,?_⟩;simp only [A1,tupW];rw [Vl (show ¬ (s.all.length:Int)<(s.all.length:Int) by omega),cF_]) FU (d,w) ⟨h,.refl w⟩ (by rw [FUv];dsimp only;omega)
 exact ⟨w',by rw [<- e2];exact e1,e3,e4⟩
structure AddW (t:ATy) (g:BSq) (c:Nat) (w w':Syntagmaref19World):Prop where
 inv:WInv t g c w'
 ext:ExtW w w'
 bel:w'.below_=w.below_
 abv:w'.above=w.above
theorem AddW.trans {a b d:Syntagmaref19World} (h:AddW t g c a b) (k:AddW t g c b d):AddW t g c a d:=⟨k.inv,h.ext.trans k.ext,k.bel.trans h.bel,k.abv.trans h.abv⟩
theorem Uq (hw:WInv t g c w) {v:Nat} {LB LA:List (List Int)} (hB:w.below_[v]? = some LB) (hA:w.above[v]? = some LA) {l r:List Int} (hl:l∈LB) (hr:r∈LA):Cl t g (toB ⟨l,r⟩):=by
 obtain ⟨q,q1,q2⟩:=(hw.bel v LB hB).2 l hl;obtain ⟨p,p1,p2⟩:=(hw.abv v LA hA).2 r hr;exact .cut q1 p1 q2 p2
theorem Ti (hG:FinG t g) (hw:WInv t g c w) (hc:c<=2000000) {v i:Nat} {LB LA:List (List Int)} (hB:w.below_[v]? = some LB) (hA:w.above[v]? = some LA) {l:List Int} (hl:LB[i]? = some l) :
  ∃ w',A2 (v:Int) (i:Int) FU (0,tupW w)=some (tupW w')/\AddW t g c w w'/\∀ r∈LA,(⟨l,r⟩:RSeq)∈w'.all:=by
 have hLA:=(hw.abv v LA hA).1
 obtain ⟨o,e1,w',rfl,e3,e4⟩:=BI (φ:=fun n k (s:Syntagmaref19World)=>A2 (v:Int) (i:Int) n (k,tupW s)) (l:=LA) (fun k s=>AddW t g c w s/\∀ r∈LA.take k,(⟨l,r⟩:RSeq)∈s.all)
  (fun o=>∃ w',o=tupW w'/\AddW t g c w w'/\∀ r∈LA,(⟨l,r⟩:RSeq)∈w'.all)
  (by
   rintro n k r s hr hk ⟨h1,h2⟩
   left
   obtain ⟨s',e,h4,h5,h6,h7,h8⟩:=Ni hG h1.inv (Uq hw hB hA (List.mem_of_getElem? hl) (List.mem_of_getElem? hr));refine ⟨s',?_,h1.trans ⟨h4,h5,h7,h8⟩,fun y hy=>?_⟩
   ·have hA':s.above[v]? = some LA:=by rw [h1.abv];exact hA
    have hB':s.below_[v]? = some LB:=by rw [h1.bel];exact hB
    simp only [A2,tupW];rw [getI hA',oB,dT (show (k:Int)<(LA.length:Int) by omega),cT,getI hB',oB,getI hl,oB,oB,getI hr,oB,show Az (⟨(⟨s.t.l,s.t.root⟩:ATy),s.flex,s.all,s.buckets,s.below_,s.above,s.mixed,s.fails⟩:Syntagmaref19World) (⟨l,r⟩:RSeq)=_ from e,oB,Ab (by constructor <;> omega)]
   ·rw [takeS hr] at hy
    rcases List.mem_append.1 hy with hy | hy
    ·exact h5.mem (h2 y hy)
    ·rw [List.mem_singleton] at hy;subst hy;exact h6)
  (by
   rintro n s ⟨h1,h2⟩
   have hA':s.above[v]? = some LA:=by rw [h1.abv];exact hA
   refine ⟨tupW s,?_,s,rfl,h1,by rwa [List.take_length] at h2⟩;simp only [A2,tupW];rw [getI hA',oB,dF (by omega),cF_]) (by rw [FUv];omega) w ⟨⟨hw,.refl w,rfl,rfl⟩,by simp⟩
 exact ⟨w',e1,e3,e4⟩
theorem S9 (hG:FinG t g) (hw:WInv t g c w) (hc:c<=2000000) {v:Nat} {LB LA:List (List Int)} (hB:w.below_[v]? = some LB) (hA:w.above[v]? = some LA) :
  ∃ w',AZ (v:Int) FU (0,tupW w)=some (tupW w')/\AddW t g c w w'/\∀ l∈LB,∀ r∈LA,(⟨l,r⟩:RSeq)∈w'.all:=by
 have hLB:=(hw.bel v LB hB).1
 obtain ⟨o,e1,w',rfl,e3,e4⟩:=BI (φ:=fun n k (s:Syntagmaref19World)=>AZ (v:Int) n (k,tupW s)) (l:=LB) (fun k s=>AddW t g c w s/\∀ l∈LB.take k,∀ r∈LA,(⟨l,r⟩:RSeq)∈s.all)
  (fun o=>∃ w',o=tupW w'/\AddW t g c w w'/\∀ l∈LB,∀ r∈LA,(⟨l,r⟩:RSeq)∈w'.all)
  (by
   rintro n k l s hl hk ⟨h1,h2⟩
   left
   have hA':s.above[v]? = some LA:=by rw [h1.abv];exact hA
   have hB':s.below_[v]? = some LB:=by rw [h1.bel];exact hB
   obtain ⟨s',e,h4,h5⟩:=Ti hG h1.inv hc hB' hA' hl;refine ⟨s',?_,h1.trans h4,fun y hy r hr=>?_⟩
   ·have e':A2 (v:Int) (k:Int) FU (0,s.all,s.t.l,s.t.root,s.flex,s.mixed,s.fails,s.below_,s.above,s.buckets)=some (tupW s'):=e
    simp only [AZ,tupW];rw [getI hB',oB,dT (show (k:Int)<(LB.length:Int) by omega),cT,e',oB]
    show grd _ _=_
    rw [Ab (by constructor <;> omega)]
   ·rw [takeS hl] at hy
    rcases List.mem_append.1 hy with hy | hy
    ·exact h4.ext.mem (h2 y hy r hr)
    ·rw [List.mem_singleton] at hy;subst hy;exact h5 r hr)
  (by
   rintro n s ⟨h1,h2⟩
   have hB':s.below_[v]? = some LB:=by rw [h1.bel];exact hB
   refine ⟨tupW s,?_,s,rfl,h1,by rwa [List.take_length] at h2⟩;simp only [AZ,tupW];rw [getI hB',oB,dF (by omega),cF_]) (by rw [FUv];omega) w ⟨⟨hw,.refl w,rfl,rfl⟩,by simp⟩
 exact ⟨w',e1,e3,e4⟩
def IL (w:Syntagmaref19World) (n:Nat):Prop:=∀ (v:Nat) LB LA,v<n->w.below_[v]? = some LB->w.above[v]? = some LA->∀ l∈LB,∀ r∈LA,(⟨l,r⟩:RSeq)∈w.all
theorem Tp (hG:FinG t g) (hw:WInv t g c w) (hc:c<=2000000):∃ w',AT 1000 FU (0,tupW w)=some (tupW w')/\AddW t g c w w'/\IL w' 1000:=by
 obtain ⟨o,e1,w',rfl,e3,e4⟩:=BI (φ:=fun n k (s:Syntagmaref19World)=>AT 1000 n (k,tupW s)) (l:=List.range 1000) (fun k s=>AddW t g c w s/\IL s k)
  (fun o=>∃ w',o=tupW w'/\AddW t g c w w'/\IL w' 1000)
  (by
   rintro n k x s _ hk ⟨h1,h2⟩;rw [List.length_range] at hk
   left
   have hB':s.below_[k]? = some (s.below_[k]'(by rw [h1.inv.bl];exact hk)):=List.getElem?_eq_getElem _
   have hA':s.above[k]? = some (s.above[k]'(by rw [h1.inv.al];exact hk)):=List.getElem?_eq_getElem _
   obtain ⟨s',e,h4,h5⟩:=S9 hG h1.inv hc hB' hA';refine ⟨s',?_,h1.trans h4,fun v LB LA hv hB hA l hl r hr=>?_⟩
   ·have e':AZ (k:Int) FU (0,s.all,s.t.l,s.t.root,s.flex,s.mixed,s.fails,s.below_,s.above,s.buckets)=some (tupW s'):=e
    simp only [AT,tupW];rw [dT (show (k:Int)<1000 by omega),cT,e',oB]
    show grd _ _=_
    rw [Ab (by constructor <;> omega)]
   ·rw [h4.bel] at hB;rw [h4.abv] at hA
    by_cases hvk:v=k
    ·subst hvk;rw [hB'] at hB;rw [hA'] at hA;cases hB;cases hA;exact h5 l hl r hr
    ·exact h4.ext.mem (h2 v LB LA (by omega) hB hA l hl r hr))
  (by
   rintro n s ⟨h1,h2⟩;rw [List.length_range] at h2;refine ⟨tupW s,?_,s,rfl,h1,h2⟩;simp only [AT,tupW];rw [List.length_range,dF (by omega),cF_]) (by rw [FUv,List.length_range];omega) w ⟨⟨hw,.refl w,rfl,rfl⟩,fun v LB LA h=>by omega⟩
 exact ⟨w',e1,e3,e4⟩
theorem SZ (hG:FinG t g) (hw:WInv t g 0 w) (hg:toS g∈w.all):∃ w',A0 1000 FU (0,tupW w)=some (tupW w')/\ProcW t g w'.all.length w'/\IL w' 1000/\toS g∈w'.all:=by
 obtain ⟨o,e1,w',rfl,e3,e4,e5⟩:=If (φ:=fun n (s:Nat×Syntagmaref19World)=>A0 1000 n ((s.1:Int),tupW s.2)) (fun s=>500001 - s.1) (fun s=>ProcW t g s.1 s.2/\(s.1≠0->IL s.2 1000)/\toS g∈s.2.all)
  (fun o=>∃ w',o=tupW w'/\ProcW t g w'.all.length w'/\IL w' 1000/\toS g∈w'.all) (by
  rintro n ⟨k,s⟩ ⟨hp,hpr,hgs⟩
  have hlen:=hp.inv.len hG
  have hle:=hp.le
  dsimp only at hp hpr hgs hlen hle ⊢
  by_cases hk:k<s.all.length
  ·left
   obtain ⟨s1,f1,f2,f3⟩:=TV hG hp
   have hlen1:=f2.inv.len hG
   obtain ⟨s2,k1,k2,k3⟩:=Tp hG f2.inv (by omega);obtain ⟨r1,hr1⟩:=f3.all
   have hl1:s.all.length<=s1.all.length:=by rw [hr1,List.length_append];omega
   refine ⟨(s1.all.length,s2),⟨⟨k2.inv,?_,?_⟩,fun _=>k3,(k2.ext.mem (f3.mem hgs))⟩,by dsimp only;omega,?_⟩
   ·obtain ⟨r,hr⟩:=k2.ext.all
    dsimp only;rw [hr,List.length_append];omega
   ·intro j q hj hjq
    dsimp only at hj hjq ⊢
    rw [Q2 k2.ext hj] at hjq;exact (f2.pr j q hj hjq).ext k2.ext
   ·have f1':A1 FU ((k:Int),s.all,s.t.l,s.t.root,s.flex,s.mixed,s.fails,s.below_,s.above,s.buckets)=some ((s1.all.length:Int),tupW s1):=f1
    have k1':AT 1000 FU (0,s1.all,s1.t.l,s1.t.root,s1.flex,s1.mixed,s1.fails,s1.below_,s1.above,s1.buckets)=some (tupW s2):=k1
    simp only [A0,tupW];rw [Vj (show (k:Int)<(s.all.length:Int) by omega),cT,f1',oB]
    show Option.bind (AT 1000 FU (0,s1.all,s1.t.l,s1.t.root,s1.flex,s1.mixed,s1.fails,s1.below_,s1.above,s1.buckets)) _=_
    rw [k1',oB]
  ·right
   have hkl:k=s.all.length:=by omega
   subst hkl
   have hpos:s.all.length≠0:=by
    intro h;rw [List.length_eq_zero_iff] at h;rw [h] at hgs;simp at hgs
   refine ⟨_,⟨s,rfl,hp,hpr hpos,hgs⟩,?_⟩;simp only [A0,tupW];rw [Vl (show ¬ (s.all.length:Int)<(s.all.length:Int) by omega),cF_]) FU (0,w) ⟨⟨hw,Nat.zero_le _,fun j q h=>by omega⟩,fun h=>absurd rfl h,hg⟩ (by rw [FUv];dsimp only;omega)
 exact ⟨w',e1,e3,e4,e5⟩
theorem RW {w:Syntagmaref19World} (hp:ProcW t g w.all.length w) (hpr:IL w 1000) (hg:toS g∈w.all) (hV:∀ q v l,Cl t g q->BlwP t q v l->0<=v/\v<1000):∀ q,Cl t g q->toS q∈w.all/\DoneW t w q:=by
 have hd:∀ q,toS q∈w.all->DoneW t w q:=by
  intro q hq
  obtain ⟨j,hj⟩:=List.getElem?_of_mem hq;exact hp.pr j _ (List.getElem?_eq_some_iff.1 hj).1 hj
 intro q hq
 induction hq with
 | goal=>exact ⟨hg,hd _ hg⟩
 | lead h hv hs ih =>
  have:=ih.2.led hv _ hs
  exact ⟨this,hd _ this⟩
 | cut h h' hb ha ih ih' =>
  obtain ⟨L,l1,l2⟩:=ih.2.bel _ _ hb;obtain ⟨M,m1,m2⟩:=ih'.2.abv _ _ ha
  have hv:=hV _ _ _ h hb
  have:=hpr _ L M (by omega) l1 m1 _ l2 _ m2
  exact ⟨this,hd _ this⟩
end
end Go.Proofs.YtcoghblhdjmbfaaGreat
namespace Go.Proofs.YtcoghblhdjmbfaaGreat
open Go.V
open Classical
def w0S (t:ATy):Syntagmaref19World:=⟨t,1000,[],List.replicate 997 [],List.replicate 1000 [],List.replicate 1000 [],false,false⟩
section
variable {t:ATy} {g:BSq}
theorem Vw (t:ATy) (g:BSq):WInv t g 0 (w0S t):=by
 refine ⟨rfl,rfl,⟨List.length_replicate ..,?_,?_,?_,?_⟩,List.length_replicate ..,List.length_replicate ..,List.nodup_nil,fun q h=>(by cases h),?_,?_,fun h=>(by cases h),fun h=>(by cases h)⟩
 ·intro l hl;rw [List.eq_of_mem_replicate hl];exact Nat.zero_le _
 ·intro l hl i hi;rw [List.eq_of_mem_replicate hl] at hi;cases hi
 ·intro i q hq;exact absurd hq (by simp [w0S])
 ·intro q hq;cases hq
 ·intro v L hL
  have:=List.eq_of_mem_replicate (List.mem_of_getElem? (show (List.replicate 1000 ([]:List (List Int)))[v]? = some L from hL))
  subst this;exact ⟨Nat.le_refl _,fun l hl=>(by cases hl)⟩
 ·intro v L hL
  have:=List.eq_of_mem_replicate (List.mem_of_getElem? (show (List.replicate 1000 ([]:List (List Int)))[v]? = some L from hL))
  subst this;exact ⟨Nat.le_refl _,fun l hl=>(by cases hl)⟩
theorem Qu (x:Int):Dr [x]=some [x]:=by rw [Hv (by simp),F5]
theorem UW (hG:FinG t g):∀ q v l,Cl t g q->BlwP t q v l->0<=v/\v<1000:=by
 intro q v l hq hb
 obtain ⟨hne,h⟩:=hb.2.2.1
 have hin:=hG.inq q hq
 cases hc:nzL t q.right 2 with
 | nil=>exact absurd hc hne
 | cons x r =>
  have hx:=h x (by rw [hc];simp)
  have hm:x∈q.right:=(List.mem_filter.1 (show x∈nzL t q.right 2 by rw [hc];simp)).1
  have:=hG.ok.vno x (hin.2 x hm) hx.1
  rw [hx.2] at this;exact this
theorem Tl {x y:Int} (hG:FinG t ⟨[x],[y]⟩):∃ w',BT t [⟨[x],[y]⟩] 1000=some w'/\((w'.mixed=false/\w'.fails=false)↔MemA t ⟨[x],[y]⟩):=by
 obtain ⟨w1,e1,i1,x1,m1,b1,a1⟩:=Ni hG (Vw t ⟨[x],[y]⟩) (q:=⟨[x],[y]⟩) .goal;obtain ⟨w2,e2,i2,p2,m2⟩:=SZ hG i1 (show toS ⟨[x],[y]⟩∈w1.all from m1)
 have l1:Bd [⟨[x],[y]⟩] FU (0,[],t.l,t.root,1000,false,false,List.replicate (1000:Int).toNat [],List.replicate (1000:Int).toNat [],List.replicate (997:Int).toNat [])=some (tupW w1):=by
  obtain ⟨o,f1,f2⟩:=BI (φ:=fun n i (s:Syntagmaref19World)=>Bd [⟨[x],[y]⟩] n (i,tupW s)) (l:=[()]) (fun i s=>(i=0->s=w0S t)/\(i≠0->s=w1)) (fun o=>o=tupW w1)
   (by
    rintro n i u s hu hi ⟨h1,_⟩
    have hi0:i=0:=by simpa using hi
    subst hi0
    left
    refine ⟨w1,?_,fun h=>absurd h (by omega),fun _=>rfl⟩;rw [h1 rfl];simp only [Bd,tupW];rw [dT (show ((0:Nat):Int)<(([⟨[x],[y]⟩]:List RSeq).length:Int) by simp),cT,getI (show ([⟨[x],[y]⟩]:List RSeq)[0]? = some ⟨[x],[y]⟩ from rfl),oB,Qu,oB,oB,Qu,oB];rw [show Az (⟨(⟨(w0S t).t.l,(w0S t).t.root⟩:ATy),(w0S t).flex,(w0S t).all,(w0S t).buckets,(w0S t).below_,(w0S t).above,(w0S t).mixed,(w0S t).fails⟩:Syntagmaref19World) (⟨[x],[y]⟩:RSeq)=_ from e1,oB,Ab (by constructor <;> omega)])
   (by
    rintro n s ⟨_,h2⟩;refine ⟨tupW s,?_,by rw [h2 (by simp)]⟩;simp only [Bd,tupW];rw [dF (by simp),cF_]) (by rw [FUv];simp) (w0S t) ⟨fun _=>rfl,fun h=>absurd rfl h⟩
  rw [f2] at f1;exact f1
 refine ⟨w2,?_,?_⟩
 ·unfold BT
  rw [Ab (by omega),Ab (by decide),Ab (by omega),Ab (by decide),Ab (by omega),Ab (by decide),l1,oB]
  show Option.bind (A0 1000 FU (0,tupW w1)) _=_
  rw [e2,oB]
 ·have hall:=RW i2 p2 m2 (UW hG)
  constructor
  ·rintro ⟨hm,hf⟩ q hq
   have hd:=(hall q hq).2
   refine ⟨fun h=>(by rw [hd.mix h] at hm;cases hm),fun hv=>?_⟩
   cases hb:(AW t q).1 with
   | false=>rfl
   | true=>rw [hd.fai hv hb] at hf;cases hf
  ·intro h
   constructor
   ·cases hm:w2.mixed with
    | false=>rfl
    | true=>obtain ⟨q,q1,q2⟩:=i2.inv.mix hm;exact absurd q2 (h q q1).1
   ·cases hm:w2.fails with
    | false=>rfl
    | true =>
     obtain ⟨q,q1,q2,q3⟩:=i2.inv.fai hm
     have:=(h q q1).2 q2;rw [q3] at this;cases this
end
end Go.Proofs.YtcoghblhdjmbfaaGreat
namespace Go.Proofs.YtcoghblhdjmbfaaGreat
open Go.V
open Classical
theorem Hk {α:Type}:∀ (S U:List α),S.Nodup->(∀ s∈S,s∈U)->S.length<=U.length
 | [],U,_,_=>Nat.zero_le _
 | a::S,U,hn,h=>by
  classical
  obtain ⟨h1,h2⟩:=List.nodup_cons.1 hn
  have ha:a∈U:=h a (by simp)
  have:=Hk S (U.erase a) h2 (fun s hs=>(List.mem_erase_of_ne (fun e=>h1 (by rw [<- e];exact hs))).2 (h s (by simp [hs])))
  rw [List.length_erase_of_mem ha] at this
  have:=List.length_pos_of_mem ha
  simp only [List.length_cons]
  omega
def SrtQ (q:BSq):Prop:=q.left.Pairwise (· < ·)/\q.right.Pairwise (· < ·)
theorem Sr {t:ATy} {q s:BSq} (h:SrtQ q) (hs:s∈(AW t q).2):SrtQ s:=by
 unfold AW at hs
 split at hs
 ·cases hs
 ·split at hs
  ·rename_i l ho
   unfold openA at ho
   split at ho
   ·cases ho
    split at hs
    ·simp only [List.mem_cons,List.not_mem_nil,or_false] at hs
     subst hs;exact ⟨Dp _,h.2⟩
    ·simp only [List.mem_cons,List.not_mem_nil,or_false] at hs
     rcases hs with rfl | rfl <;> exact ⟨Dp _,h.2⟩
   ·split at ho
    ·cases ho
     split at hs
     ·simp only [List.mem_cons,List.not_mem_nil,or_false] at hs
      subst hs;exact ⟨h.1,Dp _⟩
     ·simp only [List.mem_cons,List.not_mem_nil,or_false] at hs
      rcases hs with rfl | rfl <;> exact ⟨h.1,Dp _⟩
    ·cases ho
  ·split at hs
   ·cases hs
   ·unfold D8 at hs
    split at hs
    ·cases hs
    ·unfold BD at hs
     split at hs
     ·cases hs
     ·split at hs
      ·simp only [List.mem_cons,List.not_mem_nil,or_false] at hs
       rcases hs with rfl | rfl <;> exact ⟨Dp _,Dp _⟩
      ·split at hs
       ·cases hs
       ·obtain ⟨n,_,rfl⟩:=List.mem_map.1 hs
        exact ⟨Dp _,Dp _⟩
    ·cases hs
theorem Cl.srt {t:ATy} {g q:BSq} (hg:SrtQ g) (h:Cl t g q):SrtQ q:=by
 induction h with
 | goal=>exact hg
 | lead _ _ hs ih=>exact Sr ih hs
 | cut _ _ hb ha ih ih'=>exact ⟨by rw [hb.2.1];exact ih.1.filter _,by rw [ha.2.1];exact ih'.2.filter _⟩
def subsL:List Int->List (List Int)
 | []=>[[]]
 | x::l=>subsL l++(subsL l).map (x :: ·)
theorem GI:∀ l:List Int,(subsL l).length=2 ^ l.length
 | []=>rfl
 | x::l=>by simp only [subsL,List.length_append,List.length_map,GI l,List.length_cons,Nat.pow_succ];omega
theorem MD:∀ l:List Int,[]∈subsL l
 | []=>by simp [subsL]
 | x::l=>List.mem_append_left _ (MD l)
theorem FT:∀ (gl m:List Int),gl.Pairwise (· < ·)->m.Pairwise (· < ·)->(∀ x∈m,x∈gl)->m∈subsL gl
 | _,[],_,_,_=>MD _
 | [],y::m,_,_,h=>absurd (h y (by simp)) (by simp)
 | x::gl,y::m,hg,hm,h=>by
  rw [List.pairwise_cons] at hg hm
  by_cases e:y=x
  ·subst e
   refine List.mem_append_right _ (List.mem_map.2 ⟨m,FT gl m hg.2 hm.2 fun z hz=>?_,rfl⟩)
   rcases List.mem_cons.1 (h z (by simp [hz])) with e | h'
   ·have:=hm.1 z hz;omega
   ·exact h'
  ·have hy:y∈gl:=by
    rcases List.mem_cons.1 (h y (by simp)) with e' | h'
    ·exact absurd e' e
    ·exact h'
   refine List.mem_append_left _ (FT gl (y::m) hg.2 (List.pairwise_cons.2 hm) fun z hz=>?_)
   rcases List.mem_cons.1 hz with rfl | hz'
   ·exact hy
   ·rcases List.mem_cons.1 (h z hz) with e' | h'
    ·have:=hm.1 z hz';have:=hg.1 y hy;omega
    ·exact h'
def candQ (gl pl:List Int):List RSeq:=
 ((subsL gl).flatMap fun l=>(subsL gl).map fun r=>⟨l,r⟩)++((pl.flatMap fun x=>(subsL gl).map fun r=>⟨[x],r⟩)++(pl.flatMap fun x=>(subsL gl).map fun l=>⟨l,[x]⟩))
theorem Ip {α β:Type} (f:α->List β) (n:Nat):∀ l:List α,(∀ x∈l,(f x).length=n)->(l.flatMap f).length=l.length*n
 | [],_=>by simp
 | x::l,h=>by
  rw [List.flatMap_cons,List.length_append,h x (by simp),Ip f n l fun y hy=>h y (by simp [hy]),List.length_cons,Nat.add_mul];omega
theorem Ta (gl pl:List Int):(candQ gl pl).length=2 ^ gl.length*2 ^ gl.length+2*(pl.length*2 ^ gl.length):=by
 unfold candQ;rw [List.length_append,List.length_append,Ip _ (2 ^ gl.length) _ (fun x _=>by rw [List.length_map,GI]),Ip _ (2 ^ gl.length) _ (fun x _=>by rw [List.length_map,GI]),Ip _ (2 ^ gl.length) _ (fun x _=>by rw [List.length_map,GI]),GI]
 omega
theorem Vz {t:ATy} {P M:Int->Prop} {gl:List Int} {x y:Int} (hG:PolG t P M (· ∈ gl)) (hO:OkT t) (hN:∀ n∈t.l,NB n) (ht:t.l.length<=1500) (hgl:gl.Pairwise (· < ·)) (hgn:gl.length<=6) (hg:Shp P M (· ∈ gl) ⟨[x],[y]⟩):FinG t ⟨[x],[y]⟩:=by
 have hs0:SrtQ ⟨[x],[y]⟩:=⟨List.pairwise_singleton _ _,List.pairwise_singleton _ _⟩
 have hlen:∀ l:List Int,l.Pairwise (· < ·)->(∀ i∈l,i∈gl)->l.length<=6:=fun l h1 h2=>Nat.le_trans (Hk l gl (h1.imp (fun h=>by omega)) h2) hgn
 have hI:∀ q,Cl t ⟨[x],[y]⟩ q->InQ t q:=fun q hq=>(hq.shp hG hg).inQ hG
 refine ⟨hO,hN,hI,fun q hq=>?_,fun l hl hq=>?_⟩
 ·have hs:=hq.srt hs0
  have hsh:=hq.shp hG hg
  have hin:=hI q hq
  have hll:q.left.length<=6/\q.right.length<=6:=by
   rcases hsh with ⟨h1,h2⟩ | ⟨z,_,h1,h2⟩ | ⟨h1,z,_,h2⟩
   ·exact ⟨hlen _ hs.1 h1,hlen _ hs.2 h2⟩
   ·exact ⟨by rw [h1];simp,hlen _ hs.2 h2⟩
   ·exact ⟨hlen _ hs.1 h1,by rw [h2];simp⟩
  refine ⟨by show q.left.length<=500;omega,by show q.right.length<=500;omega,fun i hi=>?_,fun i hi=>?_⟩
  ·obtain ⟨h0,h1⟩:=hin.1 i hi;omega
  ·obtain ⟨h0,h1⟩:=hin.2 i hi;omega
 ·have hsub:∀ q∈l,q∈candQ gl (rngI t.l.length):=by
   intro q hql
   have hc:=hq q hql
   have hs:=hc.srt hs0
   have hsh:=hc.shp hG hg
   have hin:=hI _ hc
   obtain ⟨ql,qr⟩:=q;unfold candQ
   rcases hsh with ⟨h1,h2⟩ | ⟨z,_,h1,h2⟩ | ⟨h1,z,_,h2⟩
   ·exact List.mem_append_left _ (List.mem_flatMap.2 ⟨ql,FT _ _ hgl hs.1 h1,List.mem_map.2 ⟨qr,FT _ _ hgl hs.2 h2,rfl⟩⟩)
   ·have h1':ql=[z]:=h1
    subst h1';refine List.mem_append_right _ (List.mem_append_left _ (List.mem_flatMap.2 ⟨z,mem_rngI.2 ?_,List.mem_map.2 ⟨qr,FT _ _ hgl hs.2 h2,rfl⟩⟩));exact hin.1 z (by simp [toB])
   ·have h2':qr=[z]:=h2
    subst h2';refine List.mem_append_right _ (List.mem_append_right _ (List.mem_flatMap.2 ⟨z,mem_rngI.2 ?_,List.mem_map.2 ⟨ql,FT _ _ hgl hs.1 h1,rfl⟩⟩));exact hin.2 z (by simp [toB])
  have h1:=Hk l _ hl hsub
  rw [Ta] at h1
  have hr:(rngI t.l.length).length=t.l.length:=by simp [rngI]
  rw [hr] at h1
  have hp:2 ^ gl.length<=64:=by
   have:=Nat.pow_le_pow_right (show 0<2 by omega) hgn
   simpa using this
  have h2:2 ^ gl.length*2 ^ gl.length<=64*64:=Nat.mul_le_mul hp hp
  have h3:t.l.length*2 ^ gl.length<=1500*64:=Nat.mul_le_mul ht hp
  omega
end Go.Proofs.YtcoghblhdjmbfaaGreat
namespace Go.Proofs.YtcoghblhdjmbfaaGreat
open Go.V
open Classical
theorem R1 (a b:ATy) (ha:a.l.length<=4001) (hb:b.l.length<=2001) (hN:∀ n∈b.l,NB n) (hR:CG b.l):Gc a b=some (CA a b,(a.l.length:Int)):=by
 unfold Gc;rw [Ab (by omega),List.nil_append];rw [Dm (φ:=fun n i s=>DM a b n (i,a.root,s)) (l:=b.l) (Ao (fun k=>k+(a.l.length:Int))) (fun s=>(a.root,s)) a.l.length ?_ ?_ (by rw [FUv];omega) a.l rfl]
 ·rfl
 ·intro n i x s hx hi hs
  have hr:=IE (hR x (List.mem_of_getElem? hx))
  have hNx:=hN x (List.mem_of_getElem? hx)
  unfold NB at hNx
  have key:Dj a x.l FU (0,[])=some (x.l.map (fun y=>⟨y.name,y.at_+(a.l.length:Int)⟩)):=by
   rw [Dm (φ:=fun n i s=>Dj a x.l n (i,s)) (l:=x.l) (fun y=>(⟨y.name,y.at_+(a.l.length:Int)⟩:AFd)) id 0 ?_ ?_ (by rw [FUv];omega) [] rfl]
   ·rfl
   ·intro n i y s hy hi hs
    obtain ⟨y0,y1⟩:=hr.2 y (List.mem_of_getElem? hy);simp only [Dj];rw [dT (show (i:Int)<x.l.length by omega),cT,getI hy,oB,oB,Ab (by omega),Ab (by simp only [List.length_cons,List.length_nil];omega),Ab (by omega)]
   ·intro n s hs
    simp only [Dj];rw [dF (by omega),cF_];rfl
  simp only [DM];rw [dT (show (i:Int)<b.l.length by omega),cT,getI hx,oB]
  change ((bif pB x.kind then _ else _:Option (Int×Int×Int×(List AFd))).bind _)=_
  unfold Ao
  cases hp:pB x.kind with
  | true =>
   obtain ⟨⟨a0,a1⟩,b0,b1⟩:=hr.1 hp;rw [cT,Ab (by omega),Ab (by omega),oB]
   dsimp only
   rw [key,oB,Ab (by simp only [List.length_cons,List.length_nil];omega),Ab (by omega)]
   rfl
  | false =>
   rw [cF_,oB]
   dsimp only
   rw [key,oB,Ab (by simp only [List.length_cons,List.length_nil];omega),Ab (by omega)]
   rfl
 ·intro n s hs
  simp only [DM];rw [dF (by omega),cF_]
end Go.Proofs.YtcoghblhdjmbfaaGreat
namespace Go.Proofs.YtcoghblhdjmbfaaGreat
open Go.V
open Classical
theorem VX (w:Syntagmaref19World):∃ e,BA w=some e/\(e=0↔(w.mixed=false/\w.fails=false)):=by
 unfold BA
 cases w.mixed with
 | true=>exact ⟨14,rfl,by simp⟩
 | false=>cases w.fails with
  | true=>exact ⟨11,rfl,by simp⟩
  | false=>exact ⟨0,rfl,by simp⟩
theorem MF {w u:ATy} {P M:Int->Prop} {gl:List Int} (hw:w.l.length<=1400) (hu:u.l.length<=6) (hOu:CG u.l) (hNu:∀ n∈u.l,NB n) (hr:In u u.root)
  (hG:PolG (CA w u) P M (· ∈ gl)) (hO:OkT (CA w u)) (hN:∀ n∈(CA w u).l,NB n) (hln:(CA w u).l.length<=1500) (hgl:gl.Pairwise (· < ·)) (hgn:gl.length<=6)
  (hg:Shp P M (· ∈ gl) ⟨[w.root],[u.root+(w.l.length:Int)]⟩):AN w u=some (decide (MemA (CA w u) ⟨[w.root],[u.root+(w.l.length:Int)]⟩)):=by
 unfold AN;refine bnd (R1 w u (by omega) (by omega) hNu hOu) ?_;obtain ⟨h0,h1⟩:=hr;refine (Ab (p:=InR ((w.l.length:Int)+u.root)) (by constructor <;> omega)).trans ?_;rw [Int.add_comm (w.l.length:Int) u.root];obtain ⟨w',e,h⟩:=Tl (Vz hG hO hN hln hgl hgn hg);rw [show BT (⟨(CA w u).l,(CA w u).root⟩:ATy) [(⟨[w.root],[(u.root+(w.l.length:Int))]⟩:RSeq)] 1000=_ from e,oB];obtain ⟨x,e2,h2⟩:=VX w';rw [show BA (⟨(⟨w'.t.l,w'.t.root⟩:ATy),w'.flex,w'.all,w'.buckets,w'.below_,w'.above,w'.mixed,w'.fails⟩:Syntagmaref19World)=_ from e2,oB];refine congrArg some ?_;exact decide_eq_decide.2 (h2.trans h)
end Go.Proofs.YtcoghblhdjmbfaaGreat
namespace Go.Proofs.YtcoghblhdjmbfaaGreat
open Go.V
open Classical
theorem Ms {gl:List Int} (h:gl.Pairwise (· < ·)) (k:Int):(gl.map (fun i=>i+k)).Pairwise (· < ·):=by
 rw [List.pairwise_map];exact h.imp (fun h=>by omega)
theorem Th {u:ATy} {gl:List Int} (hg:GU u gl):gl.length<=u.l.length:=by
 have:=Hk gl (rngI u.l.length) (hg.srt.imp (fun h=>by omega)) (fun i hi=>mem_rngI.2 (hg.kept.inn i hi))
 simpa [rngI] using this
theorem OG {w u:ATy} (h:∀ n∈w.l,NB n) (k:∀ n∈u.l,NB n):∀ n∈(CA w u).l,NB n:=by
 intro n hn
 unfold CA at hn
 rcases List.mem_append.1 hn with hn | hn
 ·exact h n hn
 ·obtain ⟨m,hm,rfl⟩:=List.mem_map.1 hn
  have:=k m hm
  unfold NB Ao at *
  simpa using this
theorem Kg {a:AutoAuto} {u:ATy} {gl:List Int} (hM:NmA a) (hl:a.l.length<=10) (hP:PolA a.l) (h0:0<=a.start) (h1:a.start<(a.l.length:Int)) (hp:(stL a.l a.start).plus=true)
  (hu:MayO u) (hg:GU u gl) (hul:u.l.length<=6) :
  AN (typeW a) u=some (decide (∃ ρ,∀ p,SatS a.l ρ p a.start->Sat u p u.root)):=by
 have hR:=P2 hM
 have hlen:=(MJ hM (by omega) h0 h1).2
 have hG:=Kc hP hR hu hg
 have e:=MF (w:=typeW a) (u:=u) (by omega) hul hu.ok.right hu.nb hu.root hG (LX hR.ok hu.ok) (OG (MJ hM (by omega) h0 h1).1.nb hu.nb) (by rw [FM];omega) (Ms hg.srt _) (by rw [List.length_map];exact Nat.le_trans (Th hg) hul)
  (.inr (.inl ⟨_,HD hR h0 h1 hp,rfl,fun i hi=>by rw [List.mem_singleton.1 hi];exact KO hg _⟩))
 rw [e];refine congrArg some (decide_eq_decide.2 ?_);exact NX hP hR h0 h1 hp rfl hu hg
end Go.Proofs.YtcoghblhdjmbfaaGreat
namespace Go.Proofs.YtcoghblhdjmbfaaGreat
open Go.V
open Classical
theorem Bis.symm {a b:List AutoState} {R:Int->Int->Prop} (h:Bis a b R):Bis b a (fun j i=>R i j):=by
 refine ⟨fun j i hR=>?_,fun j i hR ha=>?_,fun j i hR ha=>?_,fun j i hR ha s=>?_,fun j i hR ha s=>?_⟩
 ·obtain ⟨h1,h2,h3,h4,h5,h6,h7,h8⟩:=h.flags i j hR
  exact ⟨h1.symm,h2.symm,h3.symm,h4.symm,h5.symm,h6.symm,h7.symm,h8.symm⟩
 ·have f:=h.flags i j hR
  have d:=h.dom i j hR (by rw [f.2.2.2.2.2.1];exact ha)
  exact ⟨d.1,by rw [<- (h.flags _ _ d.1).1,d.2,f.1]⟩
 ·have f:=h.flags i j hR
  have d:=h.cod i j hR (by rw [f.2.2.2.2.2.1];exact ha)
  exact ⟨d.1,by rw [<- (h.flags _ _ d.1).1,d.2,f.1]⟩
 ·have f:=h.flags i j hR
  rcases h.fld i j hR (by rw [f.2.2.2.2.2.2.1];exact ha) s with ⟨h1,h2⟩ | ⟨x,y,h1,h2,h3,h4⟩
  ·exact .inl ⟨h2,h1⟩
  ·exact .inr ⟨y,x,h2,h1,h3,by rw [<- (h.flags _ _ h3).1,h4,f.1]⟩
 ·have f:=h.flags i j hR
  rcases h.tgs i j hR (by rw [f.2.2.2.2.2.2.2];exact ha) s with ⟨h1,h2⟩ | ⟨x,y,h1,h2,h3,h4⟩
  ·exact .inl ⟨h2,h1⟩
  ·exact .inr ⟨y,x,h2,h1,h3,by rw [<- (h.flags _ _ h3).1,h4,f.1]⟩
theorem JR {c:List AutoState} {i:Int} (h0:0<=i) (h1:i<(c.length:Int)):c[i.toNat]? = some (stL c i)/\stL c i∈c:=by
 have hlt:i.toNat<c.length:=by omega
 have e:c[i.toNat]? = some (stL c i):=by unfold stL;rw [List.getElem?_eq_getElem hlt];rfl
 exact ⟨e,List.mem_of_getElem? e⟩
theorem Ra {l:List AutoEdge} {s:List UInt8} {k:Int} (h:atE l s=some k):∃ e∈l,e.to_=k:=by
 unfold atE at h
 cases hq:l.find? fun e=>decide (e.name=s) with
 | none=>rw [hq] at h;cases h
 | some e=>rw [hq] at h;exact ⟨e,List.mem_of_find?_eq_some hq,by simpa using h⟩
def ExR (a:List AutoState) (i:Int) (D:Pt->Prop):Prop:=∃ ρ,∀ p,SatS a ρ p i->D p
end Go.Proofs.YtcoghblhdjmbfaaGreat
namespace Go.Proofs.YtcoghblhdjmbfaaGreat
open Go.V
open Classical
theorem Im {a:AutoAuto} {k:Int} (h0:0<=k) (h1:k<(a.l.length:Int)):stL a.l k=stA a k:=by
 have e:=(JR h0 h1).1
 unfold stA idx;rw [if_pos h0,e];rfl
theorem QF {l:List AutoEdge} {to:List Int} {s:List UInt8}:atE (l.map (edgeM to)) s=(atE l s).map (tm to):=by
 induction l with
 | nil=>rfl
 | cons e r ih =>
  unfold atE at ih ⊢;rw [List.map_cons,List.find?_cons,List.find?_cons]
  show Option.map _ (match decide (e.name=s) with | true=>_ | false=>_)=_
  cases decide (e.name=s) with
  | true=>rfl
  | false=>exact ih
theorem SC {a:AutoAuto} (ha:Led a) (hP:PolA a.l):Bis a.l (normP a).l (fun i j=>i∈AU a/\j=tm (toP a) i):=by
 have hin:∀ i,i∈AU a->0<=i/\i<(a.l.length:Int):=fun i hi=>(B4 ha).2.1 i hi
 have hst:∀ i,i∈AU a->stL (normP a).l (tm (toP a) i)=Ei (toP a) (stL a.l i):=by
  intro i hi
  have h:=TT ha hi
  rw [Im h.1 (by rw [E6 ha];exact h.2),No ha hi,Im (hin i hi).1 (hin i hi).2]
 have hnx:∀ i,i∈AU a->∀ y∈nextP (stL a.l i),y∈AU a:=by
  intro i hi y hy
  rw [Im (hin i hi).1 (hin i hi).2] at hy;exact LY ha hi hy
 refine ⟨?_,?_,?_,?_,?_⟩
 ·rintro i _ ⟨hi,rfl⟩
  rw [hst i hi];exact ⟨rfl,rfl,rfl,rfl,rfl,rfl,rfl,rfl⟩
 ·rintro i _ ⟨hi,rfl⟩ har
  obtain ⟨⟨a1,a2,a3⟩,_⟩:=hP.arrow i (hin i hi).1 (hin i hi).2 har;refine ⟨⟨hnx i hi _ (by unfold nextP;rw [har];simp),?_⟩,a3⟩;rw [hst i hi];simp only [Ei,har,if_true]
 ·rintro i _ ⟨hi,rfl⟩ har
  obtain ⟨_,⟨a1,a2,a3⟩⟩:=hP.arrow i (hin i hi).1 (hin i hi).2 har;refine ⟨⟨hnx i hi _ (by unfold nextP;rw [har];simp),?_⟩,a3⟩;rw [hst i hi];simp only [Ei,har,if_true]
 ·rintro i _ ⟨hi,rfl⟩ har s
  rw [hst i hi]
  show relO _ (atE (stL a.l i).fields s) (atE ((stL a.l i).fields.map (edgeM (toP a))) s)
  rw [QF]
  cases hq:atE (stL a.l i).fields s with
  | none=>exact .inl ⟨rfl,rfl⟩
  | some k =>
   obtain ⟨e,he,rfl⟩:=Ra hq;obtain ⟨a1,a2,a3⟩:=hP.edge i (hin i hi).1 (hin i hi).2 e (.inl ⟨he,har⟩);exact .inr ⟨_,_,rfl,rfl,⟨hnx i hi _ (by unfold nextP;simp only [List.mem_append,List.mem_map];exact .inl (.inr ⟨e,he,rfl⟩)),rfl⟩,a3⟩
 ·rintro i _ ⟨hi,rfl⟩ har s
  rw [hst i hi]
  show relO _ (atE (stL a.l i).tags s) (atE ((stL a.l i).tags.map (edgeM (toP a))) s)
  rw [QF]
  cases hq:atE (stL a.l i).tags s with
  | none=>exact .inl ⟨rfl,rfl⟩
  | some k =>
   obtain ⟨e,he,rfl⟩:=Ra hq;obtain ⟨a1,a2,a3⟩:=hP.edge i (hin i hi).1 (hin i hi).2 e (.inr ⟨he,har⟩);exact .inr ⟨_,_,rfl,rfl,⟨hnx i hi _ (by unfold nextP;simp only [List.mem_append,List.mem_map];exact .inr ⟨e,he,rfl⟩),rfl⟩,a3⟩
theorem Us {a:AutoAuto} (ha:Led a) (hP:PolA a.l) (hp:(stL a.l a.start).plus=true) (D:Pt->Prop):ExR (normP a).l 0 D↔ExR a.l a.start D:=by
 have hB:=SC ha hP
 have hs:a.start∈AU a:=Kb ha
 have h00:tm (toP a) a.start=0:=by
  obtain ⟨e,he⟩:=(B4 ha).2.2.1;exact QM ha (j:=0) (by rw [he];rfl)
 have hR:a.start∈AU a/\(0:Int)=tm (toP a) a.start:=⟨hs,h00.symm⟩
 have hf:=hB.flags _ _ hR
 have hvars:∀ i j,(i∈AU a/\j=tm (toP a) i)->(stL (normP a).l j).vars=(stL a.l i).vars:=by
  rintro i _ ⟨hi,rfl⟩
  have h:=TT ha hi
  have hin:=(B4 ha).2.1 i hi
  rw [Im h.1 (by rw [E6 ha];exact h.2),No ha hi,Im hin.1 hin.2];rfl
 constructor
 ·rintro ⟨ρ,h⟩
  refine ⟨ρ,fun p hp'=>h p ?_⟩;refine (Sg hB (ρ:=ρ) (ρ':=ρ) ?_ ?_ p a.start 0 hR).1 hp hp'
  ·rintro i j p hr hpl ⟨v,hv,hx⟩
   exact .inl ⟨v,by rw [hvars i j hr];exact hv,hx⟩
  ·intro i j p hr hpl hall _ v hv
   exact hall v (by rw [hvars i j hr];exact hv)
 ·rintro ⟨ρ,h⟩
  refine ⟨ρ,fun p hp'=>h p ?_⟩;refine (Sg hB.symm (ρ:=ρ) (ρ':=ρ) ?_ ?_ p 0 a.start hR).1 (by rw [<- hf.1];exact hp) hp'
  ·rintro j i p hr hpl ⟨v,hv,hx⟩
   exact .inl ⟨v,by rw [<- hvars i j hr];exact hv,hx⟩
  ·intro j i p hr hpl hall _ v hv
   exact hall v (by rw [<- hvars i j hr];exact hv)
end Go.Proofs.YtcoghblhdjmbfaaGreat
namespace Go.Proofs.YtcoghblhdjmbfaaGreat
open Go.V
open Classical
theorem Lj {l:List AutoEdge} {k:Int} {isN:List UInt8->Bool} (h:Hj isN l) (hk:(k=7/\isN=nameP)\/(k=8/\isN=tagP)):Ej ⟨k,0,0,edF l⟩:=by
 intro i x hx
 have hx':(edF l)[i]? = some x:=hx
 unfold edF at hx';rw [List.getElem?_map] at hx'
 cases hq:l[i]? with
 | none=>rw [hq] at hx';cases hx'
 | some e =>
  rw [hq] at hx'
  cases hx'
  obtain ⟨h1,h2⟩:=h.1 i e hq;refine ⟨?_,fun h0 y hy=>?_⟩
  ·unfold badF
   rcases hk with ⟨rfl,rfl⟩ | ⟨rfl,rfl⟩ <;> simp [h1]
  ·have hy':(edF l)[i - 1]? = some y:=hy
   unfold edF at hy';rw [List.getElem?_map] at hy'
   cases hq2:l[i - 1]? with
   | none=>rw [hq2] at hy';cases hy'
   | some e2 =>
    rw [hq2] at hy'
    cases hy'
    exact h2 h0 e2 hq2
theorem GC {a:AutoAuto} {k:Int} {p:Bool} (h:onP a k p=true):0<=k/\k<(a.l.length:Int)/\(stL a.l k).plus=p:=by
 unfold onP at h
 cases hq:idx a.l k with
 | none=>rw [hq] at h;cases h
 | some s =>
  rw [hq] at h;obtain ⟨h0,h1⟩:=Ay hq
  have hlt:=(List.getElem?_eq_some_iff.1 h1).1
  refine ⟨h0,by omega,?_⟩
  have:stL a.l k=s:=by unfold stL;rw [h1];rfl
  rw [this];simpa using h
theorem JF {a:AutoAuto} {s:AutoState} (h:leadP a s) {x:Int} (hx:x∈s.fields.map (·.to_)++s.tags.map (·.to_)):onP a x s.plus=true:=by
 by_cases ha:s.arrow=true
 ·exact ((Gt a s ha).1 h).2.2 x hx
 ·have ha':s.arrow=false:=by simpa using ha
  obtain ⟨i,hi⟩:=List.getElem?_of_mem hx
  have:=h i x (by unfold nextP;rw [if_neg ha];simpa using hi)
  unfold sideP at this;rw [ha'] at this
  simpa using this
theorem KL {a:AutoAuto} (hm:mayP a=0):PolA a.l:=by
 obtain ⟨_,_,hr,_⟩:=Gx hm;refine ⟨fun i h0 h1 ha=>?_,fun i h0 h1 e he=>?_⟩
 ·have h:=(hr _ (JR h0 h1).2).2.2.2.2
  obtain ⟨d1,d2,_⟩:=(Gt a _ ha).1 h;exact ⟨GC d1,GC d2⟩
 ·have h:=(hr _ (JR h0 h1).2).2.2.2.2
  refine GC (JF h ?_);rw [List.mem_append,List.mem_map,List.mem_map]
  rcases he with ⟨he,_⟩ | ⟨he,_⟩
  ·exact .inl ⟨e,he,rfl⟩
  ·exact .inr ⟨e,he,rfl⟩
theorem Nu {a:AutoAuto} (hab:AB a) (hm:mayP a=0) (hl:a.l.length<=30):NmA a:=by
 obtain ⟨_,_,hr,_⟩:=Gx hm;refine ⟨hl,fun s hs=>⟨(hab.2 s hs).1,fun v hv=>?_⟩,fun s hs=>⟨(hr s hs).2.2.1.2,Lj (hr s hs).2.2.1 (.inl ⟨rfl,rfl⟩)⟩,fun s hs=>⟨(hr s hs).2.2.2.1.2,Lj (hr s hs).2.2.2.1 (.inr ⟨rfl,rfl⟩)⟩,fun s hs=>⟨fun ha=>?_,fun _ e he=>?_,fun _ e he=>?_⟩⟩
 ·obtain ⟨i,hi⟩:=List.getElem?_of_mem hv
  have:=(hr s hs).2.1 i v hi
  exact ⟨this.1,this.2.1⟩
 ·obtain ⟨d1,d2,_⟩:=(Gt a s ha).1 (hr s hs).2.2.2.2
  exact ⟨⟨(GC d1).1,(GC d1).2.1⟩,(GC d2).1,(GC d2).2.1⟩
 ·have:=GC (JF (hr s hs).2.2.2.2 (x:=e.to_) (by rw [List.mem_append,List.mem_map];exact .inl ⟨e,he,rfl⟩))
  exact ⟨this.1,this.2.1⟩
 ·have:=GC (JF (hr s hs).2.2.2.2 (x:=e.to_) (by rw [List.mem_append,List.mem_map,List.mem_map];exact .inr ⟨e,he,rfl⟩))
  exact ⟨this.1,this.2.1⟩
end Go.Proofs.YtcoghblhdjmbfaaGreat
namespace Go.Proofs.YtcoghblhdjmbfaaGreat
open Go.V
open Classical
def fewN (n:ANd):ANd:=⟨n.kind,n.a,n.b,[]++n.l.take 40⟩
def fewC (m:Nat) (l:List ANd):Nat:=if 2000<l.length then 2001 else m
def fewT (m:Nat) (t:ATy):ATy:=⟨(t.l.take (fewC m t.l)).map fewN,t.root⟩
theorem min40 (l:List AFd):sli l 0 (if 40<(l.length:Int) then 40 else (l.length:Int))=some (l.take 40):=by
 by_cases h:40<(l.length:Int)
 ·rw [if_pos h];exact Gd (k:=40) (by omega)
 ·rw [if_neg h,Gd (by omega),List.take_of_length_le (by omega),List.take_of_length_le (by omega)]
theorem VC (t:ATy) (m:Nat) (M:Int) (hM:M=m) (hm:m<=2000):G3 t M=some (fewT m t):=by
 subst hM;unfold G3 fewT
 have hC:fewC m t.l=2001/\2000<t.l.length\/fewC m t.l=m/\¬ 2000<t.l.length:=by unfold fewC;split <;> simp_all
 have hL:(t.l.take (fewC m t.l)).length<=2001/\(t.l.take (fewC m t.l)).length<=t.l.length/\(t.l.take (fewC m t.l)).length<=fewC m t.l:=by rw [List.length_take];omega
 rw [Dm (φ:=fun n i s=>EI t (m:Int) n (i,s,t.root)) (l:=t.l.take (fewC m t.l)) fewN (fun s=>(s,t.root)) 0 ?_ ?_ (by rw [FUv];omega) [] rfl]
 ·rfl
 ·intro n i x s hx hi hs
  have hx2:t.l[i]? = some x:=by
   rw [List.getElem?_take,if_pos (by omega)] at hx;exact hx
  have h40:(x.l.take 40).length<=40:=by rw [List.length_take];omega
  simp only [EI];rw [dT (show (i:Int)<t.l.length by omega),Bool.true_and,show (decide ((i:Int)<(m:Int))||(decide (2000<(t.l.length:Int))&&decide ((i:Int)<=2000)))=true by
   rw [Bool.or_eq_true,Bool.and_eq_true,decide_eq_true_eq,decide_eq_true_eq,decide_eq_true_eq];omega,cT,getI hx2,oB,min40,oB,Ab (by omega),Ab (by simp only [List.length_cons,List.length_nil];omega),Ab (by omega)]
  rfl
 ·intro n s hs
  simp only [EI];rw [show (decide (((t.l.take (fewC m t.l)).length:Int)<t.l.length)&&(decide (((t.l.take (fewC m t.l)).length:Int)<(m:Int))||(decide (2000<(t.l.length:Int))&&decide (((t.l.take (fewC m t.l)).length:Int)<=2000))))=false by
   rw [List.length_take,Bool.and_eq_false_iff,Bool.or_eq_false_iff,Bool.and_eq_false_iff,decide_eq_false_iff_not,decide_eq_false_iff_not,decide_eq_false_iff_not,decide_eq_false_iff_not];omega,cF_]
theorem Tu (m:Nat) (hm:m<=2000) (t:ATy):(fewT m t).l.length<=2001:=by unfold fewT fewC;simp only [List.length_map,List.length_take];split <;> omega
theorem Uh (n:ANd):NB (fewN n):=by unfold fewN NB;simp;omega
theorem Q7 (m:Nat) (t:ATy):∀ n∈(fewT m t).l,NB n:=by
 intro n hn
 obtain ⟨k,_,rfl⟩:=List.mem_map.1 hn;exact Uh k
theorem PE (m:Nat) (t:ATy) (h:(fewT m t).l.length<=2000):(fewT m t).l.length<=m:=by
 unfold fewT fewC at h ⊢;simp only [List.length_map,List.length_take] at h ⊢
 split at h <;> split <;> omega
theorem Ng (n:ANd) (h:NB n):DE n=some (kidsL n):=by
 unfold DE kidsL C0 Ea;unfold NB at h;rw [oB,oB]
 change (bif pB n.kind then _ else bif wB n.kind then _ else _)=_
 cases pB n.kind
 ·cases wB n.kind
  ·rfl
  ·rw [cF_,cT,cF_,cT,Dm (φ:=fun k i s=>CU n k (i,s)) (l:=n.l) (·.at_) id 0 ?_ ?_ (by rw [FUv];omega) [] rfl]
   ·rfl
   ·intro k i x s hx hi hs
    simp only [CU];rw [dT (show (i:Int)<n.l.length by omega),cT,getI hx,oB,Ab (by simp only [List.length_cons,List.length_nil];omega),Ab (by omega)]
   ·intro k s hs
    simp only [CU];rw [dF (by omega),cF_];rfl
 ·rfl
theorem J5 (n:ANd) (h:NB n):(kidsL n).length<=40:=by
 unfold kidsL;unfold NB at h
 cases pB n.kind
 ·cases wB n.kind
  ·simp
  ·simpa using h
 ·simp
theorem RQ (n:ANd) (h:NB n):Ep n=some (decide (Ej n)&&decide ((n.l.length:Int)<=30)):=by
 unfold Ep;unfold NB at h;rw [Ib (φ:=Cj n) (l:=n.l) false (okF n) ?_ ?_ (by rw [FUv];omega),oB]
 ·by_cases hp:Ej n
  ·rw [if_pos (show ∀ i x,n.l[i]? = some x->okF n i x from hp),dT hp];rfl
  ·rw [if_neg (show ¬ ∀ i x,n.l[i]? = some x->okF n i x from hp),dF hp];rfl
 ·intro k i x hx hi
  simp only [Cj]
  have e1:((bif (decide (n.kind=7)) then ((DY x.name).bind fun x3=>some (!x3)) else (some false)).bind fun p1 =>
   (bif p1 then (some true) else ((bif (decide (n.kind=8)) then ((EA x.name).bind fun x4=>some (!x4)) else (some false)).bind fun p3=>some p3)))=some (badF n x):=by
   rw [QZ,SP,oB,oB,bf,oB,bf,oB,bt];rfl
  rw [dT (show (i:Int)<n.l.length by omega),cT,getI hx,oB,<- Option.bind_assoc,e1,oB];unfold okF
  cases hb:badF n x
  ·rw [cF_]
   by_cases h0:0<i
   ·have hy:n.l[i - 1]? = some n.l[i - 1]:=List.getElem?_eq_getElem (by omega)
    rw [dT (show (0:Int)<(i:Int) by omega),cT,Ab (by omega),show ((i:Int) - 1)=((i - 1:Nat):Int) by omega,getI hy,oB]
    constructor
    ·rintro ⟨_,h2⟩
     rw [h2 h0 _ hy,Bool.not_true,cF_,Ab (by omega)]
    ·intro h2
     cases hl:Op.bytesLess (n.l[i - 1]).name x.name
     ·rfl
     ·exact absurd ⟨rfl,fun _ y hy2=>by rw [hy] at hy2;cases hy2;exact hl⟩ h2
   ·rw [dF (show ¬ (0:Int)<(i:Int) by omega),cF_]
    exact ⟨fun _=>by rw [Ab (by omega)],fun h2=>absurd ⟨rfl,fun h3=>absurd h3 h0⟩ h2⟩
  ·rw [cT]
   exact ⟨fun h2=>by simp at h2,fun _=>rfl⟩
 ·intro k
  simp only [Cj];rw [dF (by omega),cF_]
theorem Px (l:List Int) (all:Int) (h:l.length<=1000):Ja l (fun y0=>CX y0 all)=some (decide (∃ k∈l,inB all k=true)):=by
 unfold Ja Pk;rw [Fc (φ:=EN l (fun y0=>CX y0 all)) (l:=l) (fun i=>(i:Int)) (inB all) ?_ ?_ (by rw [FUv];omega)]
 ·rw [oB]
  cases hf:l.findIdx? (inB all) with
  | none =>
   have:¬ ∃ k∈l,inB all k=true:=by
    rintro ⟨c,hc,hne⟩
    have:=List.findIdx?_eq_none_iff.1 hf c hc
    rw [hne] at this;cases this
   rw [dF this];rfl
  | some i =>
   obtain ⟨hi,h1,_⟩:=List.findIdx?_eq_some_iff_getElem.1 hf
   have:∃ k∈l,inB all k=true:=⟨l[i],List.getElem_mem hi,h1⟩
   rw [dT this]
   show some (decide (0<=(i:Int)))=some true
   rw [dT (by omega)]
 ·intro n i x hx hi
  simp only [EN];rw [dT (show (i:Int)<l.length by omega),cT,getI hx,oB,show CX x all=some (inB all x) from rfl,oB];exact ⟨fun hq=>by rw [hq,cF_,Ab (by omega)],fun hq=>by rw [hq,cT]⟩
 ·intro n
  simp only [EN];rw [dF (by omega),cF_]
theorem RL (n:ANd) (all:Int) (h:NB n):Eo n all=some (BC n all):=by
 unfold Eo BC;rw [show C0 n.kind=some (pB n.kind) from rfl,show Ea n.kind=some (wB n.kind) from rfl,oB,oB,RQ n h,Ng n h,oB,oB,Px _ _ (by have:=J5 n h;omega),oB]
 cases (decide (n.kind<1)||decide (11<n.kind))
 ·cases ((!pB n.kind)&&((!decide (n.b=0))||((!decide (n.kind=11))&&(!decide (n.a=0)))))
  ·cases (decide (n.kind=11)&&(decide (n.a<0)||decide (999<n.a)))
   ·cases ((!wB n.kind)&&decide (0<(n.l.length:Int)))
    ·cases (decide (Ej n)&&decide ((n.l.length:Int)<=30)) <;> rfl
    ·rfl
   ·rfl
  ·rfl
 ·rfl
theorem QO {L:List ANd} {i:Nat} {n:ANd} (hi:L[i]? = some n) (h:latB n.kind=true->Ends L n.a.toNat/\Ends L n.b.toNat):Ends L i:=by
 cases hl:latB n.kind with
 | false=>exact ⟨1,by simp [endk,hi,hl]⟩
 | true =>
  obtain ⟨⟨k1,h1⟩,⟨k2,h2⟩⟩:=h hl;exact ⟨max k1 k2+1,by simp [endk,hi,hl,FQ (Nat.le_max_left k1 k2) h1,FQ (Nat.le_max_right k1 k2) h2]⟩
def ColOk (z:List Int):Prop:=∀ c∈z,c=0\/c=1\/c=2
theorem Lt {z:List Int} {i:Nat} {c d:Int} (h:z[i]? = some c):(z.set i d).count 0+(if c=0 then 1 else 0)=z.count 0+(if d=0 then 1 else 0):=by
 have hi:=(List.getElem?_eq_some_iff.1 h).1
 have h2:=(List.getElem?_eq_some_iff.1 h).2
 have hc:c=0->0<z.count 0:=fun e=>List.count_pos_iff.2 (by rw [<- e];exact List.mem_of_getElem? h)
 rw [List.count_set hi,h2]
 by_cases h0:c=0
 ·have:=hc h0
  subst h0
  simp
  split <;> omega
 ·rw [if_neg h0]
  have:(c == 0)=false:=by simp [h0]
  rw [this]
  simp
theorem MH {z:List Int} {i:Nat} {d:Int} (h:ColOk z) (hd:d=0\/d=1\/d=2):ColOk (z.set i d):=by
 intro c hc
 rcases List.mem_or_eq_of_mem_set hc with h2 | h2
 ·exact h c h2
 ·rw [h2];exact hd
theorem Qc {L:List ANd} {k m i:Nat} (hkm:k<=m) (h:endk L m i=false):endk L k i=false:=by
 cases hq:endk L k i with
 | false=>rfl
 | true=>rw [FQ hkm hq] at h;cases h
structure WalkOk (L:List ANd) (i:Nat) (z:List Int) (b:Bool) (z':List Int):Prop where
 len:z'.length=L.length
 col:ColOk z'
 wh:z'.count 0<=z.count 0
 yes:b=true->Ends L i/\(∀ j:Nat,z'[j]? = some 2->Ends L j)/\∀ j:Nat,z'[j]? = some 1↔z[j]? = some 1
 no:b=false->∀ m,endk L m i=true->(∀ j:Nat,z[j]? = some 1->endk L m j=false)->False
theorem QC {t:ATy} (hR:InL t.l) (hN:∀ n∈t.l,NB n) (hlen:t.l.length<=2001):∀ (n:Nat) (i:Nat) (z:List Int),i<t.l.length->z.length=t.l.length->ColOk z->z.count 0<n->(∀ j:Nat,z[j]? = some 2->Ends t.l j) ->
  ∃ b z',Bl t n (i:Int) z=some (b,z')/\WalkOk t.l i z b z'
 | 0,i,z,_,_,_,h,_=>by omega
 | n+1,i,z,hi,hz,hc,hw,hb=>by
  have hx:t.l[i]? = some t.l[i]:=List.getElem?_eq_getElem hi
  have hy:z[i]? = some (z[i]'(by omega)):=List.getElem?_eq_getElem (by omega)
  have hcz:=hc _ (List.mem_of_getElem? hy)
  show ∃ b z',Cc (Bl t n) (i:Int) z t=some (b,z')/\_
  unfold Cc;rw [getI hx,oB,show Ew (t.l[i]).kind=some (latB (t.l[i]).kind) from rfl,oB,getI hy,oB,oB,oB]
  generalize hn:t.l[i]=nd at *
  generalize z[i]'(by omega)=c at *
  cases hlat:latB nd.kind with
  | false =>
   refine ⟨true,z,by rw [Bool.not_false,cT,oB,cT],hz,hc,Nat.le_refl _,fun _=>⟨QO hx fun h=>(by rw [hlat] at h;cases h),hb,fun j=>Iff.rfl⟩,fun h=>by cases h⟩
  | true =>
   rw [Bool.not_true,cF_,oB]
   by_cases h2:c=2
   ·refine ⟨true,z,by rw [dT h2,cT],hz,hc,Nat.le_refl _,fun _=>⟨hb i (by rw [hy,h2]),hb,fun j=>Iff.rfl⟩,fun h=>by cases h⟩
   rw [dF h2,cF_]
   by_cases h1:c=1
   ·refine ⟨false,z,by rw [dT h1,cT],hz,hc,Nat.le_refl _,fun h=>(by cases h),fun _ m hm hg=>?_⟩
    rw [hg i (by rw [hy,h1])] at hm;cases hm
   rw [dF h1,cF_]
   have h0:c=0:=by omega
   subst h0
   have hNd:NB nd:=by rw [<- hn];exact hN _ (List.getElem_mem hi)
   rw [oB,Ng _ hNd,oB,Int.toNat_natCast]
   have hk:∀ k∈kidsL nd,0<=k/\k<(t.l.length:Int):=hR nd (List.mem_of_getElem? hx)
   have hkl:=J5 nd hNd
   have hwz:=Lt (d:=1) hy
   simp at hwz
   have hz1:(z.set i 1).length=t.l.length:=by simpa using hz
   have gr1:∀ j:Nat,(z.set i 1)[j]? = some 1↔(j=i\/z[j]? = some 1):=by
    intro j
    rw [List.getElem?_set]
    by_cases hji:i=j
    ·subst hji;simp;omega
    ·rw [if_neg hji];exact ⟨.inr,fun h=>h.elim (fun e=>absurd e.symm hji) id⟩
   obtain ⟨o,e1,e2⟩:=BI (φ:=fun m q s=>BH (Bl t n) (kidsL nd) m (q,s)) (l:=kidsL nd)
    (fun q s=>s.length=t.l.length/\ColOk s/\s.count 0<=(z.set i 1).count 0/\(∀ j:Nat,s[j]? = some 2->Ends t.l j)/\(∀ j:Nat,s[j]? = some 1↔(z.set i 1)[j]? = some 1)/\∀ (p:Nat) k,p<q->(kidsL nd)[p]? = some k->Ends t.l k.toNat)
    (fun o=>(∃ s,o=Out.ret (false,s)/\s.length=t.l.length/\ColOk s/\s.count 0<=(z.set i 1).count 0/\∀ m,endk t.l m i=true->(∀ j:Nat,z[j]? = some 1->endk t.l m j=false)->False) \/
     (∃ s,o=Out.go s/\s.length=t.l.length/\ColOk s/\s.count 0<=(z.set i 1).count 0/\(∀ j:Nat,s[j]? = some 2->Ends t.l j)/\(∀ j:Nat,s[j]? = some 1↔(z.set i 1)[j]? = some 1)/\∀ k∈kidsL nd,Ends t.l k.toNat))
    (by
     rintro m q k s hkq hq ⟨s1,s2,s3,s4,s5,s6⟩;obtain ⟨k0,k1⟩:=hk k (List.mem_of_getElem? hkq);obtain ⟨b,z',w1,w2⟩:=QC hR hN hlen n k.toNat s (by omega) s1 s2 (by omega) s4;rw [Int.toNat_of_nonneg k0] at w1;simp only [BH];rw [dT (show (q:Int)<(kidsL nd).length by omega),cT,getI hkq,oB,w1,oB]
     dsimp only
     cases b with
     | true =>
      obtain ⟨y1,y2,y3⟩:=w2.yes rfl;refine .inl ⟨z',by rw [Bool.not_true,cF_,Ab (by omega)],w2.len,w2.col,Nat.le_trans w2.wh s3,y2,fun j=>(y3 j).trans (s5 j),fun p k' hp hk'=>?_⟩
      by_cases hpq:p=q
      ·subst hpq;rw [hkq] at hk';cases hk';exact y1
      ·exact s6 p k' (by omega) hk'
     | false =>
      refine .inr ⟨_,by rw [Bool.not_false,cT],.inl ⟨z',rfl,w2.len,w2.col,Nat.le_trans w2.wh s3,fun m hm hg=>?_⟩⟩;obtain ⟨r,r1,r2,r3⟩:=IF m hm;refine w2.no rfl r ?_ fun j hj=>?_
      ·unfold endk at r2
       rw [hx] at r2;simp only [hlat,Bool.not_true,Bool.false_or,Bool.and_eq_true] at r2
       have:=List.mem_of_getElem? hkq
       rw [F6 hlat] at this;simp only [List.mem_cons,List.not_mem_nil,or_false] at this
       rcases this with rfl | rfl
       ·exact r2.1
       ·exact r2.2
      ·rcases (gr1 j).1 ((s5 j).1 hj) with rfl | hj
       ·exact r3
       ·exact Qc (by omega) (hg j hj))
    (by
     rintro m s ⟨s1,s2,s3,s4,s5,s6⟩;refine ⟨Out.go s,?_,.inr ⟨s,rfl,s1,s2,s3,s4,s5,fun k hk'=>?_⟩⟩
     ·simp only [BH]
      rw [dF (by omega),cF_]
     ·obtain ⟨p,hp⟩:=List.getElem?_of_mem hk'
      exact s6 p k (getLt hp) hp)
    (by rw [FUv];omega) (z.set i 1) ⟨hz1,MH hc (by omega),Nat.le_refl _,fun j hj=>(by
     rw [List.getElem?_set] at hj
     by_cases hji:i=j
     ·rw [if_pos hji] at hj;split at hj <;> simp at hj
     ·rw [if_neg hji] at hj;exact hb j hj),fun j=>Iff.rfl,fun p k hp=>by omega⟩
   rw [e1,oB]
   rcases e2 with ⟨s,rfl,s1,s2,s3,s4⟩ | ⟨s,rfl,s1,s2,s3,s4,s5,s6⟩
   ·exact ⟨false,s,rfl,s1,s2,by omega,fun h=>(by cases h),fun _=>s4⟩
   ·have hsi:s[i]? = some 1:=(s5 i).2 ((gr1 i).2 (.inl rfl))
    have hws:=Lt (d:=2) hsi
    simp at hws
    have hE:Ends t.l i:=QO hx fun _=>by
     rw [F6 hlat] at s6;exact ⟨s6 _ (by simp),s6 _ (by simp)⟩
    refine ⟨true,s.set i 2,by show (idx s (i:Int)).bind _=_;rw [getI hsi,oB],by simpa using s1,MH s2 (by omega),by omega,fun _=>⟨hE,fun j hj=>?_,fun j=>?_⟩,fun h=>by cases h⟩
    ·rw [List.getElem?_set] at hj
     by_cases hji:i=j
     ·subst hji;exact hE
     ·rw [if_neg hji] at hj;exact s4 j hj
    ·rw [List.getElem?_set]
     by_cases hji:i=j
     ·subst hji;rw [if_pos rfl,hy];split <;> simp
     ·rw [if_neg hji,s5 j,gr1 j]
      exact ⟨fun h=>h.elim (fun e=>absurd e.symm hji) id,.inr⟩
theorem KZ {t:ATy} (hR:InL t.l) (hN:∀ n∈t.l,NB n) (hlen:t.l.length<=2001):CH t=some (decide (Fl t.l)):=by
 unfold CH;rw [Ab (by omega),Ab (by omega),Int.toNat_natCast];obtain ⟨o,e1,e2⟩:=BI (φ:=fun m q s=>BM t m (q,s)) (l:=t.l)
  (fun q s=>s.length=t.l.length/\ColOk s/\(∀ j:Nat,s[j]? = some 2->Ends t.l j)/\(∀ j:Nat,¬ s[j]? = some 1)/\∀ p,p<q->Ends t.l p)
  (fun o=>(o=Out.ret false/\¬ Fl t.l)\/∃ s,o=Out.go s/\Fl t.l)
  (by
   rintro m q nd s hnd hq ⟨s1,s2,s3,s4,s5⟩;obtain ⟨b,z',w1,w2⟩:=QC hR hN hlen FU q s hq s1 s2 (by have:=List.count_le_length (a:=(0:Int)) (l:=s);rw [FUv];omega) s3;simp only [BM];rw [dT (show (q:Int)<t.l.length by omega),cT,w1,oB]
   dsimp only
   cases b with
   | true =>
    obtain ⟨y1,y2,y3⟩:=w2.yes rfl;refine .inl ⟨z',by rw [Bool.not_true,cF_,Ab (by omega)],w2.len,w2.col,y2,fun j hj=>s4 j ((y3 j).1 hj),fun p hp=>?_⟩
    by_cases hpq:p=q
    ·subst hpq;exact y1
    ·exact s5 p (by omega)
   | false =>
    refine .inr ⟨_,by rw [Bool.not_false,cT],.inl ⟨rfl,fun hA=>?_⟩⟩;obtain ⟨k,hk⟩:=hA q hq;exact w2.no rfl k hk fun j hj=>absurd hj (s4 j))
  (by
   rintro m s ⟨s1,s2,s3,s4,s5⟩;refine ⟨Out.go s,?_,.inr ⟨s,rfl,s5⟩⟩;simp only [BM];rw [dF (by omega),cF_])
  (by rw [FUv];omega) (List.replicate t.l.length 0) ⟨by simp,fun c hc=>(by rw [List.mem_replicate] at hc;exact .inl hc.2),fun j hj=>(by rw [List.getElem?_replicate] at hj;split at hj <;> simp at hj),fun j hj=>(by rw [List.getElem?_replicate] at hj;split at hj <;> simp at hj),fun p hp=>by omega⟩
 rw [e1,oB]
 rcases e2 with ⟨rfl,h⟩ | ⟨s,rfl,h⟩
 ·rw [dF h];rfl
 ·rw [dT h];rfl
theorem S1 (t:ATy) (hlen:t.l.length<=2001) (hN:∀ n∈t.l,NB n):NQ t.l (fun y0=>Dd y0 t)=some (!decide (CG t.l)):=by
 unfold NQ Qz;rw [Fc (φ:=GW t.l (fun y0=>Dd y0 t)) (l:=t.l) (fun i=>(i:Int)) (fun n => !BC n t.l.length) ?_ ?_ (by rw [FUv];omega)]
 ·rw [oB]
  cases hf:t.l.findIdx? (fun n => !BC n t.l.length) with
  | none =>
   have:CG t.l:=by
    intro n hn
    have:=List.findIdx?_eq_none_iff.1 hf n hn
    simpa using this
   rw [dT this];rfl
  | some i =>
   obtain ⟨hi,h1,_⟩:=List.findIdx?_eq_some_iff_getElem.1 hf
   have:¬ CG t.l:=fun h=>by
    rw [h _ (List.getElem_mem hi)] at h1;cases h1
   rw [dF this]
   show some (decide (0<=(i:Int)))=some true
   rw [dT (by omega)]
 ·intro n i x hx hi
  simp only [GW];rw [dT (show (i:Int)<t.l.length by omega),cT,getI hx,oB,show Dd x t=some (!BC x t.l.length) by unfold Dd;rw [RL _ _ (hN x (List.mem_of_getElem? hx)),oB],oB];exact ⟨fun hq=>by rw [hq,cF_,Ab (by omega)],fun hq=>by rw [hq,cT]⟩
 ·intro n
  simp only [GW];rw [dF (by omega),cF_]
theorem QE (t:ATy) (hlen:t.l.length<=2001) (hN:∀ n∈t.l,NB n):DX t=some (mayT t.l t.root):=by
 unfold DX mayT
 by_cases h0:t.l.length=0\/2000<t.l.length
 ·rw [if_pos h0,show (decide ((t.l.length:Int)=0)||decide (2000<(t.l.length:Int)))=true by rw [Bool.or_eq_true,decide_eq_true_eq,decide_eq_true_eq];omega,cT]
 rw [if_neg h0,dF (by omega),dF (by omega),Bool.or_false,cF_]
 by_cases hr:t.root<0\/(t.l.length:Int)<=t.root
 ·rw [if_pos hr,show (decide (t.root<0)||decide ((t.l.length:Int)<=t.root))=true by rw [Bool.or_eq_true,decide_eq_true_eq,decide_eq_true_eq];exact hr,cT]
 rw [if_neg hr,dF (by omega),dF (by omega),Bool.or_false,cF_,S1 t hlen hN,oB]
 by_cases hA:CG t.l
 ·rw [dT hA,Bool.not_true,cF_,KZ (Ba hA) hN hlen,oB]
  by_cases hE:Fl t.l
  ·rw [dT hE,if_pos ⟨hA,hE⟩];rfl
  ·rw [dF hE,if_neg (fun h=>hE h.2)];rfl
 ·rw [dF hA,Bool.not_false,cT,if_neg (fun h=>hA h.1)];rfl
theorem PU (s:List Int) (h:s.length<=1000):On s=some s.reverse:=by
 unfold On;rw [Ab (by omega)];obtain ⟨o,e1,e2⟩:=If (φ:=GV) (fun st=>(st.2.1+1 - st.1).toNat)
  (fun st=>0<=st.1 /\ -1<=st.2.1/\st.1+st.2.1=(s.length:Int) - 1/\st.1<=st.2.1+2/\st.2.2.length=s.length/\∀ k:Nat,k<s.length->st.2.2[k]? = if (k:Int)<st.1\/st.2.1<(k:Int) then s.reverse[k]? else s[k]?)
  (fun o=>o=s.reverse)
  (by
   rintro n ⟨i,j,l⟩ ⟨h0,h1,h2,h3,h4,h5⟩
   simp only at h0 h1 h2 h3 h4 h5
   by_cases hij:i<j
   ·left
    obtain ⟨a,rfl⟩:=Int.eq_ofNat_of_zero_le h0;obtain ⟨b,rfl⟩:=Int.eq_ofNat_of_zero_le (show 0<=j by omega)
    have ha:a<s.length:=by omega
    have hb:b<s.length:=by omega
    have la:l[a]? = some s[a]:=by rw [h5 a ha,if_neg (by omega),List.getElem?_eq_getElem ha]
    have lb:l[b]? = some s[b]:=by rw [h5 b hb,if_neg (by omega),List.getElem?_eq_getElem hb]
    have lb2:(l.set a s[b])[b]? = some s[b]:=by rw [List.getElem?_set_ne (by omega)];exact lb
    refine ⟨((a:Int)+1,(b:Int) - 1,(l.set a s[b]).set b s[a]),⟨by simp only;omega,by simp only;omega,by simp only;omega,by simp only;omega,by simpa using h4,fun k hk=>?_⟩,by simp only;omega,?_⟩
    ·simp only
     by_cases hkb:k=b
     ·subst hkb
      rw [List.getElem?_set_self (by simp;omega),if_pos (by omega),List.getElem?_reverse hk,List.getElem?_eq_getElem (by omega)]
      congr 2;omega
     ·rw [List.getElem?_set_ne (by omega)]
      by_cases hka:k=a
      ·subst hka
       rw [List.getElem?_set_self (by omega),if_pos (by omega),List.getElem?_reverse hk,List.getElem?_eq_getElem (by omega)]
       congr 2;omega
      ·rw [List.getElem?_set_ne (by omega),h5 k hk]
       by_cases hc:(k:Int)<a\/(b:Int)<k
       ·rw [if_pos hc,if_pos (by omega)]
       ·rw [if_neg hc,if_neg (by omega)]
    ·simp only [GV]
     rw [dT hij,cT,getI lb,oB,getI la,oB,oB,oB,Int.toNat_natCast,Int.toNat_natCast,getI lb2,oB,Ab (by omega),Ab (by omega)]
   ·right
    refine ⟨l,?_,by simp only [GV];rw [dF hij,cF_]⟩;refine List.ext_getElem? fun k=>?_
    by_cases hk:k<s.length
    ·rw [h5 k hk]
     split
     ·rfl
     ·rw [List.getElem?_reverse hk];congr 1;omega
    ·rw [List.getElem?_eq_none (by omega),List.getElem?_eq_none (by simp;omega)])
  FU (0,(s.length:Int) - 1,s) ⟨by simp only;omega,by simp only;omega,by simp only;omega,by simp only;omega,rfl,fun k hk=>by simp only;rw [if_neg (by omega)]⟩ (by rw [FUv];simp only;omega)
 rw [e1,e2]
def kat (L:List ANd) (i:Int):List Int:=match L[i.toNat]? with
 | some n=>kidsL n
 | none=>[]
noncomputable def dfs (K:Int->List Int):Nat->List Int->List Int->List Int
 | 0,_,out=>out
 | _+1,[],out=>out
 | n+1,x::s,out=>if x∈out then dfs K n s out else dfs K n (K x++s) (out++[x])
theorem Pm (f g:Nat->Nat) (i:Nat):∀ l:List Nat,l.Nodup->i∈l->(∀ j∈l,j≠i->f j=g j)->(l.map f).sum+g i=(l.map g).sum+f i
 | [],_,h,_=>by simp at h
 | j::l,hn,hi,he=>by
  rw [List.nodup_cons] at hn;simp only [List.map_cons,List.sum_cons]
  by_cases hji:j=i
  ·subst hji
   have:l.map f=l.map g:=List.map_congr_left fun k hk=>he k (by simp [hk]) (fun e=>hn.1 (e▸hk))
   rw [this];omega
  ·have:=Pm f g i l hn.2 (by simpa [Ne.symm hji] using hi) (fun k hk=>he k (by simp [hk]))
   have:=he j (by simp) hji
   omega
noncomputable def wt (K:Int->List Int) (len:Nat) (out:List Int):Nat:=((List.range len).map (fun (i:Nat)=>if (i:Int)∈out then 0 else (K (i:Int)).length)).sum
theorem SF {K:Int->List Int} {len:Nat} {out:List Int} {i:Nat} (hi:i<len) (ho:¬ (i:Int)∈out):wt K len (out++[(i:Int)])+(K i).length=wt K len out:=by
 have:=Pm (fun (j:Nat)=>if (j:Int)∈out++[(i:Int)] then 0 else (K (j:Int)).length) (fun (j:Nat)=>if (j:Int)∈out then 0 else (K (j:Int)).length) i (List.range len) List.nodup_range (List.mem_range.2 hi) (fun j _ hj=>by
  have e:((j:Int)∈out++[(i:Int)])↔(j:Int)∈out:=by simp;omega
  by_cases h:(j:Int)∈out
  ·rw [if_pos h,if_pos (e.2 h)]
  ·rw [if_neg h,if_neg (fun h2=>h (e.1 h2))])
 rw [if_neg ho,if_pos (by simp)] at this;unfold wt;omega
theorem PJ {L:List ANd} (hR:InL L):∀ i k,k∈kat L i->0<=k/\k<(L.length:Int):=by
 intro i k hk
 unfold kat at hk
 cases hq:L[i.toNat]? with
 | none=>rw [hq] at hk;simp at hk
 | some n=>rw [hq] at hk;exact hR n (List.mem_of_getElem? hq) k hk
theorem Qk {L:List ANd} (hN:∀ n∈L,NB n) (i:Int):(kat L i).length<=40:=by
 unfold kat
 cases hq:L[i.toNat]? with
 | none=>simp
 | some n=>exact J5 n (hN n (List.mem_of_getElem? hq))
theorem lastI (s:List Int) (x:Int):idx (s++[x]) (((s++[x]).length:Int) - 1)=some x:=by
 rw [show (((s++[x]).length:Int) - 1)=(s.length:Int) by simp];exact getI (by simp)
theorem initI (s:List Int) (x:Int):sli (s++[x]) 0 (((s++[x]).length:Int) - 1)=some s:=by
 rw [show (((s++[x]).length:Int) - 1)=(s.length:Int) by simp,Gd (by simp)]
 simp
theorem IH {t:ATy} (hR:InL t.l) (hN:∀ n∈t.l,NB n) (hlen:t.l.length<=2001):∀ (n:Nat) (s out:List Int) (seen:List Bool),(∀ x∈s,0<=x/\x<(t.l.length:Int))->seen.length=t.l.length ->
  (∀ i:Nat,seen[i]? = some true↔((i:Int)∈out/\i<t.l.length))->out.length+s.length+wt (kat t.l) t.l.length out<=100000000->s.length+wt (kat t.l) t.l.length out<n ->
  ∃ ys,DV t n (s.reverse,seen)=some ys/\dfs (kat t.l) n s out=out++ys
 | 0,s,out,seen,_,_,_,_,h=>by omega
 | n+1,[],out,seen,_,_,_,_,_=>by
  refine ⟨[],?_,by simp [dfs]⟩;simp only [DV,List.reverse_nil,List.length_nil];rfl
 | n+1,x::s,out,seen,hs,hsl,hse,hB,hn=>by
  obtain ⟨x0,x1⟩:=hs x (by simp);obtain ⟨i,rfl⟩:=Int.eq_ofNat_of_zero_le x0
  have hi:i<t.l.length:=by omega
  have hx:t.l[i]? = some t.l[i]:=List.getElem?_eq_getElem hi
  have hv:seen[i]? = some (seen[i]'(by omega)):=List.getElem?_eq_getElem (by omega)
  have hk:kat t.l (i:Int)=kidsL t.l[i]:=by unfold kat;rw [Int.toNat_natCast,hx]
  have hkl:=Qk hN (i:Int)
  have hNi:=hN _ (List.getElem_mem hi)
  simp only [List.length_cons] at hB hn;rw [List.reverse_cons]
  have hl1:(s.reverse++[(i:Int)]).length=s.length+1:=by simp
  simp only [DV];rw [dT (show (0:Int)<((s.reverse++[(i:Int)]).length:Int) by rw [hl1];omega),cT,Ab (by rw [hl1];omega),lastI,oB,Ab (by rw [hl1];omega),initI,oB,getI hv,oB,oB]
  have hd:dfs (kat t.l) (n+1) ((i:Int)::s) out=if (i:Int)∈out then dfs (kat t.l) n s out else dfs (kat t.l) n (kat t.l i++s) (out++[(i:Int)]):=rfl
  rw [hd]
  by_cases ho:(i:Int)∈out
  ·have h1:seen[i]'(by omega)=true:=by have:=(hse i).2 ⟨ho,hi⟩;rw [hv] at this;exact Option.some.inj this
   rw [h1,cT,if_pos ho];exact IH hR hN hlen n s out seen (fun x hx=>hs x (by simp [hx])) hsl hse (by omega) (by omega)
  ·have h1:seen[i]'(by omega)=false:=by
    cases hq:seen[i]'(by omega) with
    | false=>rfl
    | true=>exact absurd ((hse i).1 (by rw [hv,hq])).1 ho
   have hw:=SF (K:=kat t.l) hi ho
   obtain ⟨ys,e1,e2⟩:=IH hR hN hlen n (kat t.l i++s) (out++[(i:Int)]) (seen.set i true) (fun y hy=>by
    rcases List.mem_append.1 hy with hy | hy
    ·exact PJ hR _ _ hy
    ·exact hs y (by simp [hy])) (by simpa using hsl) (fun j=>by
    rw [List.getElem?_set]
    by_cases hij:i=j
    ·subst hij;simp;omega
    ·rw [if_neg hij,hse j];simp;omega) (by simp only [List.length_append,List.length_cons,List.length_nil];omega) (by simp only [List.length_append];omega)
   rw [h1,cF_,if_neg ho,getI hx,oB,Ng _ hNi,oB,<- hk,Ab (by omega),PU _ (by omega),oB,Ab (by simp only [List.length_reverse];omega),Int.toNat_natCast];refine ⟨(i:Int)::ys,?_,by rw [e2];simp⟩;rw [List.reverse_append] at e1;rw [e1];rfl
noncomputable def AF (L:List ANd) (root:Int):List Int:=dfs (kat L) FU [root] []
theorem Mz (f:Nat->Nat) (c:Nat):∀ l:List Nat,(∀ j∈l,f j<=c)->(l.map f).sum<=l.length*c
 | [],_=>by simp
 | j::l,h=>by
  have h1:=Mz f c l (fun k hk=>h k (by simp [hk]))
  have h2:=h j (by simp)
  simp only [List.map_cons,List.sum_cons,List.length_cons,Nat.add_mul]
  omega
theorem Lh {L:List ANd} (hN:∀ n∈L,NB n) (out:List Int):wt (kat L) L.length out<=L.length*40:=by
 have:=Mz (fun (i:Nat)=>if (i:Int)∈out then 0 else (kat L (i:Int)).length) 40 (List.range L.length) (fun j _=>by
  split
  ·omega
  ·exact Qk hN _)
 rw [List.length_range] at this;exact this
theorem ME {t:ATy} (hR:InL t.l) (hN:∀ n∈t.l,NB n) (hlen:t.l.length<=2001) {root:Int} (h0:0<=root) (h1:root<(t.l.length:Int)) :
  Ir t root=some (AF t.l root):=by
 have hw:=Lh hN []
 obtain ⟨ys,e1,e2⟩:=IH hR hN hlen FU [root] [] (List.replicate t.l.length false) (fun x hx=>by simp at hx;subst hx;exact ⟨h0,h1⟩) (by simp) (fun i=>by rw [List.getElem?_replicate];split <;> simp) (by simp only [List.length_cons,List.length_nil];omega) (by rw [FUv];simp only [List.length_cons,List.length_nil];omega);rw [List.nil_append] at e2;unfold Ir;rw [Ab (by omega),Ab (by omega),Int.toNat_natCast]
 show DV t FU ([root].reverse,_)=_
 rw [e1,AF,e2]
theorem JP {K:Int->List Int} {D:Int->Prop} (hK:∀ x,D x->∀ k∈K x,D k):∀ (n:Nat) (s out:List Int),(∀ x∈s,D x)->(∀ x∈out,D x)->out.Nodup->(∀ x∈dfs K n s out,D x)/\(dfs K n s out).Nodup
 | 0,s,out,_,ho,hn=>⟨ho,hn⟩
 | n+1,[],out,_,ho,hn=>⟨ho,hn⟩
 | n+1,x::s,out,hs,ho,hn=>by
  unfold dfs
  split
  ·exact JP hK n s out (fun y hy=>hs y (by simp [hy])) ho hn
  ·rename_i hx
   have hDx:=hs x (by simp)
   refine JP hK n _ _ (fun y hy=>?_) (fun y hy=>?_) ?_
   ·rcases List.mem_append.1 hy with hy | hy
    ·exact hK x hDx y hy
    ·exact hs y (by simp [hy])
   ·rcases List.mem_append.1 hy with hy | hy
    ·exact ho y hy
    ·simp at hy;subst hy;exact hDx
   ·rw [List.nodup_append]
    refine ⟨hn,by simp,fun a ha b hb e=>?_⟩
    simp at hb
    subst hb e;exact hx ha
theorem C4 {L:List ANd} (hR:InL L) {root:Int} (h0:0<=root) (h1:root<(L.length:Int)):(∀ x∈AF L root,0<=x/\x<(L.length:Int))/\(AF L root).Nodup/\(AF L root).length<=L.length:=by
 obtain ⟨a,b⟩:=JP (K:=kat L) (D:=fun x=>0<=x/\x<(L.length:Int)) (fun x _ k hk=>PJ hR x k hk) FU [root] [] (fun x hx=>by simp at hx;subst hx;exact ⟨h0,h1⟩) (by simp) (by simp);exact ⟨a,b,Kj _ _ b a⟩
def varOf (L:List ANd) (x:Int):Option Int:=match L[x.toNat]? with
 | some n=>if n.kind=11 then some n.a else none
 | none=>none
theorem LN (t:ATy):∀ (xs acc:List Int),(∀ x∈xs,0<=x/\x<(t.l.length:Int))->acc.length+xs.length<=1000000->Cd t xs acc=some (acc++xs.filterMap (varOf t.l))
 | [],acc,_,_=>by simp [Cd]
 | x::xs,acc,hx,hl=>by
  obtain ⟨x0,x1⟩:=hx x (by simp)
  have hn:t.l[x.toNat]? = some (t.l[x.toNat]'(by omega)):=List.getElem?_eq_getElem (by omega)
  have ix:idx t.l x=some (t.l[x.toNat]'(by omega)):=by rw [<- hn];unfold idx;rw [if_pos x0]
  simp only [List.length_cons] at hl;unfold Cd;rw [ix,oB,List.filterMap_cons];unfold varOf;rw [hn]
  simp only
  by_cases hk:(t.l[x.toNat]'(by omega)).kind=11
  ·rw [dT hk,cT,if_pos hk,Ab (by simp only [List.length_cons,List.length_nil];omega),LN t xs _ (fun y hy=>hx y (by simp [hy])) (by simp only [List.length_append,List.length_cons,List.length_nil];omega)]
   simp only [List.append_assoc,List.cons_append,List.nil_append]
   rfl
  ·rw [dF hk,cF_,if_neg hk,LN t xs _ (fun y hy=>hx y (by simp [hy])) (by omega)]
   rfl
theorem Ge (K:Int->List Int):∀ (n:Nat) (s out:List Int),∃ ys,dfs K n s out=out++ys
 | 0,s,out=>⟨[],by simp [dfs]⟩
 | n+1,[],out=>⟨[],by simp [dfs]⟩
 | n+1,x::s,out=>by
  unfold dfs
  split
  ·exact Ge K n s out
  ·obtain ⟨ys,e⟩:=Ge K n (K x++s) (out++[x])
   exact ⟨[x]++ys,by rw [e,List.append_assoc]⟩
theorem Hq {L:List ANd} (hR:InL L):∀ (n:Nat) (s out:List Int),(∀ x∈s,0<=x/\x<(L.length:Int))->s.length+wt (kat L) L.length out<n ->
  (∀ x∈s,x∈dfs (kat L) n s out)/\(∀ x∈dfs (kat L) n s out,x∈out\/∀ k∈kat L x,k∈dfs (kat L) n s out)
 | 0,s,out,_,h=>by omega
 | n+1,[],out,_,_=>⟨fun x hx=>by simp at hx,fun x hx => .inl (by simpa [dfs] using hx)⟩
 | n+1,x::s,out,hs,h=>by
  obtain ⟨x0,x1⟩:=hs x (by simp);simp only [List.length_cons] at h;unfold dfs
  by_cases hx:x∈out
  ·rw [if_pos hx]
   obtain ⟨i1,i2⟩:=Hq hR n s out (fun y hy=>hs y (by simp [hy])) (by omega);obtain ⟨ys,e⟩:=Ge (kat L) n s out;refine ⟨fun y hy=>?_,i2⟩
   rcases List.mem_cons.1 hy with rfl | hy
   ·rw [e];exact List.mem_append_left _ hx
   ·exact i1 y hy
  ·rw [if_neg hx]
   obtain ⟨q,rfl⟩:=Int.eq_ofNat_of_zero_le x0
   have hw:=SF (K:=kat L) (len:=L.length) (out:=out) (i:=q) (by omega) hx
   obtain ⟨i1,i2⟩:=Hq hR n (kat L (q:Int)++s) (out++[(q:Int)]) (fun y hy=>by
    rcases List.mem_append.1 hy with hy | hy
    ·exact PJ hR _ _ hy
    ·exact hs y (by simp [hy])) (by rw [List.length_append];omega)
   obtain ⟨ys,e⟩:=Ge (kat L) n (kat L (q:Int)++s) (out++[(q:Int)]);refine ⟨fun y hy=>?_,fun y hy=>?_⟩
   ·rcases List.mem_cons.1 hy with rfl | hy
    ·rw [e];simp
    ·exact i1 y (by simp [hy])
   ·rcases i2 y hy with h3 | h3
    ·rcases List.mem_append.1 h3 with h3 | h3
     ·exact .inl h3
     ·simp at h3
      subst h3;exact .inr fun k hk=>i1 k (List.mem_append_left _ hk)
    ·exact .inr h3
theorem I6 {t:ATy} (hA:CG t.l) (hN:∀ n∈t.l,NB n) (hlen:t.l.length<=2001) (h0:0<=t.root) (h1:t.root<(t.l.length:Int)) :
  t.root∈AF t.l t.root/\∀ x∈AF t.l t.root,∀ k∈kat t.l x,k∈AF t.l t.root:=by
 have hw:=Lh hN []
 obtain ⟨c1,c2⟩:=Hq (Ba hA) FU [t.root] [] (fun x hx=>by rw [List.mem_singleton.1 hx];exact ⟨h0,h1⟩) (by rw [FUv];simp only [List.length_cons,List.length_nil];omega);refine ⟨c1 _ (by simp),fun x hx k hk=>?_⟩
 rcases c2 x hx with h | h
 ·cases h
 ·exact h k hk
theorem VQ {t:ATy} {x:Int} (h:In t x):kat t.l x=kidsL (nd t x):=by
 unfold kat;rw [Gv h]
theorem RN {t:ATy} (hu:MayO t) (hv:∀ x∈AF t.l t.root,(nd t x).kind≠11):GU t (cs (AF t.l t.root)):=by
 obtain ⟨l0,l1,r0,r1,hA,_⟩:=Eu hu.may;obtain ⟨b1,b2,b3⟩:=C4 (Ba hA) r0 r1;obtain ⟨c1,c2⟩:=I6 hA hu.nb (by omega) r0 r1
 have hk:∀ x∈AF t.l t.root,∀ k∈kidsL (nd t x),k∈AF t.l t.root:=fun x hx k hk=>c2 x hx k (by rw [VQ (b1 x hx)];exact hk)
 refine ⟨⟨fun i hi=>b1 i (mem_cs.1 hi),fun i hi hp=>?_,fun i hi f hf=>?_⟩,mem_cs.2 c1,fun i hi=>hv i (mem_cs.1 hi),Dp _⟩
 ·have hq:kidsL (nd t i)=[(nd t i).a,(nd t i).b]:=by
   unfold kidsL pB
   rcases hp with h | h | h <;> rw [h] <;> rfl
  have:=hk i (mem_cs.1 hi)
  rw [hq] at this;exact ⟨mem_cs.2 (this _ (by simp)),mem_cs.2 (this _ (by simp))⟩
 ·have hR:=hA _ (F9 (b1 i (mem_cs.1 hi)))
  cases hw:wB (nd t i).kind with
  | false=>rw [Hm hR hw] at hf;cases hf
  | true =>
   refine mem_cs.2 (hk i (mem_cs.1 hi) _ ?_);unfold kidsL;rw [T0 hw,hw,cF_,cT];exact List.mem_map.2 ⟨f,hf,rfl⟩
theorem P9 (t:ATy) (hlen:t.l.length<=2001) (hN:∀ n∈t.l,NB n):∃ b,Dt t=some b/\(b=true->mayT t.l t.root=0/\∀ x∈AF t.l t.root,(nd t x).kind≠11):=by
 unfold Dt FH;rw [QE t hlen hN,oB]
 by_cases h:mayT t.l t.root=0
 ·obtain ⟨_,_,r0,r1,hA,_⟩:=Eu h
  obtain ⟨b1,b2,b3⟩:=C4 (Ba hA) r0 r1
  have hfl:((AF t.l t.root).filterMap (varOf t.l)).length<=(AF t.l t.root).length:=List.length_filterMap_le _ _
  rw [dT h,cT,oB,show (!decide (mayT t.l t.root=0))=false by rw [dT h];rfl,cF_,ME (Ba hA) hN hlen r0 r1,oB,LN t _ _ b1 (by simp only [List.length_nil];omega),oB,List.nil_append,Ab (by omega),oB,oB];refine ⟨_,rfl,fun hz=>⟨h,fun x hx hk=>?_⟩⟩
  have hz0:=of_decide_eq_true hz
  have hm:(nd t x).a∈(AF t.l t.root).filterMap (varOf t.l):=by
   refine List.mem_filterMap.2 ⟨x,hx,?_⟩;unfold varOf;rw [Gv (b1 x hx)];simp only [hk,if_true]
  have hm2:=mem_cs.2 hm
  unfold cs at hm2
  have:=List.length_pos_of_mem hm2
  omega
 ·rw [dF h,cF_]
  exact ⟨false,rfl,fun h=>by cases h⟩
end Go.Proofs.YtcoghblhdjmbfaaGreat
namespace Go.Proofs.YtcoghblhdjmbfaaGreat
open Go.V
open Classical
theorem Ry (n:ANd) (p:Int->Option Int) (f:Int->Int) (h:NB n) (h1:pB n.kind=true->p n.a=some (f n.a)/\p n.b=some (f n.b)) (h2:∀ x∈n.l,p x.at_=some (f x.at_)):Et n p=some (Ao f n):=by
 unfold Et Ao;unfold NB at h;rw [show C0 n.kind=some (pB n.kind) from rfl,oB]
 have key:∀ z1 z2 z3,Ci p n.l FU (0,n.l,z1,z2,z3)=some (n.l.map (fun x=>⟨x.name,f x.at_⟩),z1,z2,z3):=by
  intro z1 z2 z3
  refine Kp (φ:=fun k i s=>Ci p n.l k (i,s,z1,z2,z3)) (l:=n.l) (fun x=>⟨x.name,f x.at_⟩) (fun s=>(s,z1,z2,z3)) ?_ ?_ (by rw [FUv];omega)
  ·intro k i x s hx hi hs hsx
   simp only [Ci];rw [dT (show (i:Int)<n.l.length by omega),cT,getI hsx,oB,h2 x (List.mem_of_getElem? hx),oB,oB,Ab (by omega),Int.toNat_natCast]
  ·intro k s hs
   simp only [Ci];rw [dF (by omega),cF_]
 cases hp:pB n.kind with
 | true =>
  obtain ⟨ha,hb⟩:=h1 hp;rw [cT,ha,oB,hb,oB,oB]
  dsimp only
  rw [Ab (by omega),key,oB];rfl
 | false =>
  rw [cF_,oB]
  dsimp only
  rw [Ab (by omega),key,oB];rfl
theorem R9 {n:ANd} {f:Int->Int} (h:NB n):NB (Ao f n):=by unfold NB Ao at *;simpa using h
theorem Rg {B:List Int} {i:Nat} {x:Int} (hn:B.Nodup) (hx:B[i]? = some x):B.idxOf x=i:=by
 have hi:=getLt hx
 have e:B[i]=x:=by rw [List.getElem?_eq_getElem hi] at hx;exact Option.some.inj hx
 rw [<- e];exact List.Nodup.idxOf_getElem hn i hi
def B9 (L:List ANd) (x:Int):ANd:=match L[x.toNat]? with
 | some n=>n
 | none=>⟨0,0,0,[]⟩
noncomputable def posOf (B:List Int) (k:Int):Int:=if k∈B then ((B.idxOf k:Nat):Int) else 0
theorem Hu {L:List ANd} {x:Int} (h0:0<=x) (h1:x<(L.length:Int)):idx L x=some (B9 L x)/\B9 L x∈L:=by
 have hn:L[x.toNat]? = some (L[x.toNat]'(by omega)):=List.getElem?_eq_getElem (by omega)
 unfold B9 idx;rw [if_pos h0,hn];exact ⟨rfl,List.getElem_mem _⟩
theorem Og:∀ (xs l:List Int) (mm:List (Int×Int)),xs.Nodup->l.length+xs.length<=1000000->∃ mm',Cy xs (l,mm)=some (l++xs,mm')/\∀ k,mget mm' k=if k∈xs then some (((l.length+xs.idxOf k:Nat)):Int) else mget mm k
 | [],l,mm,_,_=>⟨mm,by simp [Cy],fun k=>by simp⟩
 | x::xs,l,mm,hn,hl=>by
  rw [List.nodup_cons] at hn;simp only [List.length_cons] at hl;obtain ⟨mm',e1,e2⟩:=Og xs (l++[x]) (mset mm x (l.length:Int)) hn.2 (by simp only [List.length_append,List.length_cons,List.length_nil];omega);refine ⟨mm',?_,fun k=>?_⟩
  ·unfold Cy
   rw [Ab (by simp only [List.length_cons,List.length_nil];omega),e1];simp
  ·rw [e2 k,Ts]
   by_cases hk:k∈xs
   ·have hkx:¬ x=k:=fun e=>hn.1 (e▸hk)
    rw [if_pos hk,if_pos (by simp [hk]),List.idxOf_cons]
    have:(x == k)=false:=by simp [hkx]
    rw [this];simp only [List.length_append,List.length_cons,List.length_nil,cF_]
    congr 2;omega
   ·rw [if_neg hk]
    by_cases hkx:k=x
    ·subst hkx
     rw [if_pos rfl,if_pos (by simp),List.idxOf_cons]
     simp
    ·rw [if_neg hkx,if_neg (by simp [hk,hkx])]
noncomputable def normL (L:List ANd) (root:Int):List ANd:=(AF L root).map (fun x=>Ao (posOf (AF L root)) (B9 L x))
theorem Tc {t:ATy} (hA:CG t.l) (hN:∀ n∈t.l,NB n) (hlen:t.l.length<=2001) {root:Int} (h0:0<=root) (h1:root<(t.l.length:Int)):EQ t root=some ⟨normL t.l root,0⟩:=by
 obtain ⟨b1,b2,b3⟩:=C4 (Ba hA) h0 h1;unfold EQ;rw [ME (Ba hA) hN hlen h0 h1,oB]
 generalize hB:AF t.l root=B at *
 obtain ⟨mm,e1,e2⟩:=Og B [] [] b2 (by simp only [List.length_nil];omega);rw [List.nil_append] at e1;rw [e1,oB]
 dsimp only
 have hp:∀ k,DZ k mm=some (posOf B k):=by
  intro k
  unfold DZ posOf;rw [e2 k]
  by_cases hk:k∈B
  ·rw [if_pos hk,if_pos hk];simp
  ·rw [if_neg hk,if_neg hk];rfl
 rw [Dm (φ:=fun n i s=>CV t B mm n (i,s,0)) (l:=B) (fun x=>Ao (posOf B) (B9 t.l x)) (fun s=>(s,0)) 0 ?_ ?_ (by rw [FUv];omega) [] rfl]
 ·rw [oB]
  dsimp only
  unfold normL;rw [hB];rfl
 ·intro n i x s hx hi hs
  obtain ⟨x0,x1⟩:=b1 x (List.mem_of_getElem? hx);obtain ⟨ix,hm⟩:=Hu x0 x1;simp only [CV];rw [dT (show (i:Int)<B.length by omega),cT,getI hx,oB,ix,oB,Ry _ _ (posOf B) (hN _ hm) (fun _=>⟨hp _,hp _⟩) (fun y _=>hp _),oB,Ab (by simp only [List.length_cons,List.length_nil];omega),Ab (by omega)]
 ·intro n s hs
  simp only [CV];rw [dF (by omega),cF_]
theorem Ot {L:List ANd} (hR:InL L) (hN:∀ n∈L,NB n) {root:Int} (h0:0<=root) (h1:root<(L.length:Int)):(∀ n∈normL L root,NB n)/\(normL L root).length<=L.length:=by
 obtain ⟨b1,b2,b3⟩:=C4 hR h0 h1;unfold normL;refine ⟨fun n hn=>?_,by rw [List.length_map];exact b3⟩;obtain ⟨x,hx,rfl⟩:=List.mem_map.1 hn;obtain ⟨x0,x1⟩:=b1 x hx;exact R9 (hN _ (Hu x0 x1).2)
noncomputable def normT (t:ATy):ATy×Int:=if mayT t.l t.root=0 then (⟨normL t.l t.root,0⟩,0) else (⟨[],0⟩,mayT t.l t.root)
theorem UX (t:ATy) (hlen:t.l.length<=2001) (hN:∀ n∈t.l,NB n):Eb t=some (normT t):=by
 unfold Eb normT;rw [QE t hlen hN,oB]
 by_cases h:mayT t.l t.root=0
 ·obtain ⟨_,_,r0,r1,hA,_⟩:=Eu h
  rw [dT h,if_pos h,Bool.not_true,cF_,Tc hA hN hlen r0 r1,oB]
 ·rw [dF h,if_neg h];rfl
theorem Kx (f:Int->Int) (n:ANd):kidsL (Ao f n)=(kidsL n).map f:=by
 unfold kidsL Ao
 dsimp only
 cases pB n.kind
 ·cases wB n.kind
  ·rfl
  ·simp only [cF_,cT,List.map_map];rfl
 ·rfl
theorem FI (f g:Int->Int) (n:ANd):Ao f (Ao g n)=Ao (fun k=>f (g k)) n:=by
 unfold Ao
 dsimp only
 cases pB n.kind <;> simp [List.map_map,Function.comp_def]
theorem Na {n:ANd} {all:Int} {f g:Int->Int} (hr:BC n all=true) (h:∀ k∈kidsL n,f k=g k):Ao f n=Ao g n:=by
 have hw:=Hm hr
 unfold kidsL at h;unfold Ao
 cases hp:pB n.kind with
 | true =>
  rw [hp,cT] at h
  have hl:n.l=[]:=hw (by
   cases hq:wB n.kind with
   | false=>rfl
   | true=>rw [T0 hq] at hp;cases hp)
  rw [hl,cT,cT,cT,cT,h n.a (by simp),h n.b (by simp)]
  rfl
 | false =>
  rw [hp,cF_] at h;rw [cF_,cF_,cF_,cF_]
  cases hq:wB n.kind with
  | false=>rw [hw hq];rfl
  | true =>
   rw [hq,cT] at h
   congr 1
   exact List.map_congr_left fun x hx=>by rw [h x.at_ (List.mem_map.2 ⟨x,hx,rfl⟩)]
theorem Nm {n:ANd} {f:Int->Int} (h:Ej n):Ej (Ao f n):=by
 intro i x hx
 have hx2:(n.l.map (fun x=>(⟨x.name,f x.at_⟩:AFd)))[i]? = some x:=hx
 rw [List.getElem?_map] at hx2
 cases h0:n.l[i]? with
 | none=>rw [h0] at hx2;cases hx2
 | some x0 =>
  rw [h0] at hx2
  have e:=Option.some.inj hx2
  subst e;obtain ⟨h1,h2⟩:=h i x0 h0;refine ⟨h1,fun hi y hy=>?_⟩
  have hy2:(n.l.map (fun x=>(⟨x.name,f x.at_⟩:AFd)))[i - 1]? = some y:=hy
  rw [List.getElem?_map] at hy2
  cases h3:n.l[i - 1]? with
  | none=>rw [h3] at hy2;cases hy2
  | some y0 =>
   rw [h3] at hy2
   have e:=Option.some.inj hy2
   subst e;exact h2 hi y0 h3
theorem Ob {n:ANd} {all all':Int} {f:Int->Int} (h:BC n all=true) (hf:∀ k∈kidsL n,0<=f k/\f k<all'):BC (Ao f n) all'=true:=by
 unfold BC at h ⊢;simp only [Bool.and_eq_true] at h ⊢;obtain ⟨h1,h2,h3,h4,⟨h5,h6⟩,_⟩:=h;refine ⟨h1,?_,?_,?_,⟨?_,?_⟩,?_⟩
 ·show (!((!pB n.kind)&&((!decide ((Ao f n).b=0))||((!decide (n.kind=11))&&(!decide ((Ao f n).a=0))))))=true
  cases hp:pB n.kind with
  | true=>rfl
  | false =>
   rw [hp] at h2;unfold Ao
   dsimp only
   rw [hp,cF_,cF_];exact h2
 ·show (!(decide (n.kind=11)&&(decide ((Ao f n).a<0)||decide (999<(Ao f n).a))))=true
  cases hp:pB n.kind with
  | true =>
   have h11:¬ n.kind=11:=fun e=>by rw [e] at hp;exact absurd hp (by decide)
   rw [dF h11];rfl
  | false =>
   unfold Ao
   dsimp only
   rw [hp,cF_];exact h3
 ·show (!((!wB n.kind)&&decide (0<((Ao f n).l.length:Int))))=true
  unfold Ao;simp only [List.length_map];exact h4
 ·rw [decide_eq_true_eq] at h5 ⊢
  exact Nm h5
 ·unfold Ao
  simp only [List.length_map];exact h6
 ·rw [Bool.not_eq_true',decide_eq_false_iff_not]
  rintro ⟨k,hk,hb⟩;rw [Kx] at hk;obtain ⟨q,hq,rfl⟩:=List.mem_map.1 hk;obtain ⟨q0,q1⟩:=hf q hq;unfold inB at hb;rw [Bool.or_eq_true,decide_eq_true_eq,decide_eq_true_eq] at hb
  omega
theorem Ie (L:List ANd) (x:Int):kat L x=kidsL (B9 L x):=by
 unfold kat B9
 cases L[x.toNat]? <;> rfl
theorem Kt {L:List ANd} {x:Int} (h0:0<=x) (h1:x<(L.length:Int)):L[x.toNat]? = some (B9 L x):=by
 have hn:L[x.toNat]? = some (L[x.toNat]'(by omega)):=List.getElem?_eq_getElem (by omega)
 unfold B9;rw [hn]
structure EmbL (L M:List ANd) (B:List Int) (f:Int->Int):Prop where
 inn:∀ x∈B,0<=x/\x<(L.length:Int)
 closed:∀ x∈B,∀ k∈kidsL (B9 L x),k∈B
 inj:∀ x∈B,∀ y∈B,f x=f y->x=y
 out:∀ x∈B,0<=f x/\f x<(M.length:Int)
 node:∀ x∈B,B9 M (f x)=Ao f (B9 L x)
theorem MX {K K':Int->List Int} {D:Int->Prop} {f:Int->Int} (hK:∀ x,D x->K' (f x)=(K x).map f/\∀ k∈K x,D k) (hi:∀ x y,D x->D y->f x=f y->x=y) :
  ∀ (n:Nat) (s out:List Int),(∀ x∈s,D x)->(∀ x∈out,D x)->dfs K' n (s.map f) (out.map f)=(dfs K n s out).map f
 | 0,s,out,_,_=>by simp [dfs]
 | n+1,[],out,_,_=>by simp [dfs]
 | n+1,x::s,out,hs,ho=>by
  have hx:=hs x (by simp)
  rw [List.map_cons];unfold dfs
  have e:f x∈out.map f↔x∈out:=⟨fun h=>by
   obtain ⟨y,hy,he⟩:=List.mem_map.1 h;rw [<- hi y x (ho y hy) hx he];exact hy,fun h=>List.mem_map.2 ⟨x,h,rfl⟩⟩
  by_cases hm:x∈out
  ·rw [if_pos hm,if_pos (e.2 hm)]
   exact MX hK hi n s out (fun y hy=>hs y (by simp [hy])) ho
  ·rw [if_neg hm,if_neg (fun h=>hm (e.1 h)),(hK x hx).1,<- List.map_append,show out.map f++[f x]=(out++[x]).map f by simp]
   refine MX hK hi n _ _ (fun y hy=>?_) (fun y hy=>?_)
   ·rcases List.mem_append.1 hy with hy | hy
    ·exact (hK x hx).2 y hy
    ·exact hs y (by simp [hy])
   ·rcases List.mem_append.1 hy with hy | hy
    ·exact ho y hy
    ·simp at hy;subst hy;exact hx
theorem Fm {L:List ANd} (hR:InL L) (hN:∀ n∈L,NB n) (hlen:L.length<=2001) {root:Int} (h0:0<=root) (h1:root<(L.length:Int)) :
  (∀ x∈AF L root,∀ k∈kidsL (B9 L x),k∈AF L root)/\∃ ys,AF L root=root::ys:=by
 have hw:=Lh hN []
 obtain ⟨i1,i2⟩:=Hq hR FU [root] [] (fun x hx=>by simp at hx;subst hx;exact ⟨h0,h1⟩) (by rw [FUv];simp only [List.length_cons,List.length_nil];omega);refine ⟨fun x hx k hk=>?_,?_⟩
 ·rw [<- Ie] at hk
  rcases i2 x hx with h | h
  ·simp at h
  ·exact h k hk
 ·obtain ⟨m,hm⟩:∃ m,FU=m+1:=⟨18446744073709551615,by rw [FUv]⟩
  unfold AF;rw [hm];unfold dfs;rw [if_neg (by simp)];obtain ⟨ys,e⟩:=Ge (kat L) m (kat L root++[]) ([]++[root]);exact ⟨ys,by rw [e];rfl⟩
theorem Mo {f:Int->Int} {k:Int}:∀ B:List Int,(∀ x∈B,f x=f k->x=k)->(B.map f).idxOf (f k)=B.idxOf k
 | [],_=>rfl
 | x::B,h=>by
  rw [List.map_cons,List.idxOf_cons,List.idxOf_cons]
  by_cases e:x=k
  ·subst e;simp
  ·have e2:¬ f x=f k:=fun h2=>e (h x (by simp) h2)
   rw [show (f x == f k)=false by simp [e2],show (x == k)=false by simp [e],cF_,cF_,Mo B (fun y hy=>h y (by simp [hy]))]
theorem RE {L M:List ANd} {root:Int} {f:Int->Int} (E:EmbL L M (AF L root) f) (hr:root∈AF L root):AF M (f root)=(AF L root).map f:=by
 have:=MX (K:=kat L) (K':=kat M) (D:=fun x=>x∈AF L root) (f:=f) (fun x hx=>⟨by rw [Ie,Ie,E.node x hx,Kx],fun k hk=>by rw [Ie] at hk;exact E.closed x hx k hk⟩) (fun x y hx hy=>E.inj x hx y hy) FU [root] [] (fun x hx=>by simp at hx;subst hx;exact hr) (fun x hx=>by simp at hx)
 exact this
theorem TF {L M:List ANd} {root:Int} {f:Int->Int} (hA:CG L) (E:EmbL L M (AF L root) f) (hr:root∈AF L root):normL M (f root)=normL L root:=by
 unfold normL;rw [RE E hr,List.map_map];refine List.map_congr_left fun x hx=>?_;obtain ⟨x0,x1⟩:=E.inn x hx
 show Ao _ (B9 M (f x))=_
 rw [E.node x hx,FI];refine Na (hA _ (Hu x0 x1).2) fun k hk=>?_
 have hkB:=E.closed x hx k hk
 show posOf ((AF L root).map f) (f k)=posOf (AF L root) k
 unfold posOf;rw [if_pos hkB,if_pos (List.mem_map.2 ⟨k,hkB,rfl⟩),Mo _ (fun y hy e=>E.inj y hy k hkB e)]
theorem KW {L M:List ANd} {B:List Int} {f:Int->Int} (E:EmbL L M B f):∀ (k:Nat) (x:Int),x∈B->endk M k (f x).toNat=endk L k x.toNat
 | 0,_,_=>rfl
 | k+1,x,hx=>by
  obtain ⟨x0,x1⟩:=E.inn x hx;obtain ⟨y0,y1⟩:=E.out x hx;unfold endk;rw [Kt x0 x1,Kt y0 y1,E.node x hx]
  show (!latB (B9 L x).kind||(endk M k (Ao f (B9 L x)).a.toNat&&endk M k (Ao f (B9 L x)).b.toNat))=(!latB (B9 L x).kind||(endk L k (B9 L x).a.toNat&&endk L k (B9 L x).b.toNat))
  cases hl:latB (B9 L x).kind with
  | false=>rfl
  | true =>
   have hk:=F6 hl
   have hc:=E.closed x hx
   rw [hk] at hc
   have hp:pB (B9 L x).kind=true:=by
    unfold latB at hl;unfold pB
    rw [Bool.or_eq_true,decide_eq_true_eq,decide_eq_true_eq] at hl
    rcases hl with h | h <;> rw [h] <;> rfl
   have ha:(Ao f (B9 L x)).a=f (B9 L x).a:=by unfold Ao;rw [hp];rfl
   have hb:(Ao f (B9 L x)).b=f (B9 L x).b:=by unfold Ao;rw [hp];rfl
   rw [ha,hb,KW E k _ (hc _ (by simp)),KW E k _ (hc _ (by simp))]
theorem LM {B:List Int} {k:Int} (h:k∈B):0<=posOf B k/\posOf B k<(B.length:Int):=by
 unfold posOf;rw [if_pos h]
 have:=List.idxOf_lt_length_of_mem h
 omega
theorem J3 {B:List Int} {k:Int} (h:k∈B):B[(posOf B k).toNat]? = some k:=by
 unfold posOf;rw [if_pos h,Int.toNat_natCast]
 have hlt:=List.idxOf_lt_length_of_mem h
 rw [List.getElem?_eq_getElem hlt,List.getElem_idxOf hlt]
theorem RB {B:List Int} {x y:Int} (hx:x∈B) (hy:y∈B) (h:posOf B x=posOf B y):x=y:=by
 have h1:=J3 hx
 have h2:=J3 hy
 rw [h,h2] at h1;exact (Option.some.inj h1).symm
theorem Pg {L:List ANd} {root x:Int} (hx:x∈AF L root):(normL L root)[(posOf (AF L root) x).toNat]? = some (Ao (posOf (AF L root)) (B9 L x)):=by
 unfold normL;rw [List.getElem?_map,J3 hx];rfl
theorem GM (L:List ANd) (root:Int):(normL L root).length=(AF L root).length:=by unfold normL;rw [List.length_map]
theorem Rp {L:List ANd} {root:Int} (hR:InL L) (hN:∀ n∈L,NB n) (hlen:L.length<=2001) (h0:0<=root) (h1:root<(L.length:Int)) (X:List ANd) :
  EmbL L (normL L root++X) (AF L root) (posOf (AF L root)):=by
 obtain ⟨b1,b2,b3⟩:=C4 hR h0 h1;refine ⟨b1,(Fm hR hN hlen h0 h1).1,fun x hx y hy=>RB hx hy,fun x hx=>?_,fun x hx=>?_⟩
 ·have:=LM hx
  rw [List.length_append,GM];omega
 ·have h2:=Pg hx
  have h3:=getLt h2
  unfold B9;rw [List.getElem?_append_left h3,h2]
  rfl
theorem Uv {L:List ANd} {r:Int} (h1:0<L.length) (h2:L.length<=2000) (h3:0<=r) (h4:r<(L.length:Int)) (h5:CG L) (h6:Fl L):mayT L r=0:=by
 unfold mayT;rw [if_neg (by omega),if_neg (by omega),if_pos ⟨h5,h6⟩]
theorem Pb {L:List ANd} {root:Int} (hA:CG L) (hN:∀ n∈L,NB n) (hlen:L.length<=2001) (h0:0<=root) (h1:root<(L.length:Int)) (f:Int->Int) (all:Int) (hf:∀ k,0<=k->k<((normL L root).length:Int)->0<=f k/\f k<all) :
  ∀ n∈normL L root,BC (Ao f n) all=true:=by
 obtain ⟨b1,b2,b3⟩:=C4 (Ba hA) h0 h1
 intro n hn
 unfold normL at hn;obtain ⟨x,hx,rfl⟩:=List.mem_map.1 hn;obtain ⟨x0,x1⟩:=b1 x hx;rw [FI];refine Ob (hA _ (Hu x0 x1).2) fun k hk=>?_
 have hp:=LM ((Fm (Ba hA) hN hlen h0 h1).1 x hx k hk)
 rw [<- GM] at hp;exact hf _ hp.1 hp.2
theorem PY (n:ANd):Ao (fun k=>k) n=n:=by
 unfold Ao
 cases pB n.kind <;> simp
theorem Sm {L M:List ANd} {root:Int} {f:Int->Int} (hE:Fl L) (E:EmbL L M (AF L root) f) {x:Int} (hx:x∈AF L root):Ends M (f x).toNat:=by
 obtain ⟨x0,x1⟩:=E.inn x hx;obtain ⟨k,hk⟩:=hE x.toNat (by omega);exact ⟨k,by rw [KW E k x hx];exact hk⟩
theorem Tt {L:List ANd} {r:Int} (hl:mayT L r=0) (hN:∀ n∈L,NB n) (hlen:L.length<=2000):mayT (normL L r) 0=0/\normL (normL L r) 0=normL L r:=by
 obtain ⟨_,l2,l3,l4,lA,lE⟩:=Eu hl;obtain ⟨_,ys,ey⟩:=Fm (Ba lA) hN (by omega) l3 l4
 have hr:r∈AF L r:=by rw [ey];simp
 have pr:posOf (AF L r) r=0:=by unfold posOf;rw [if_pos hr,ey];simp
 have El:=Rp (Ba lA) hN (by omega) l3 l4 []
 rw [List.append_nil] at El;obtain ⟨_,n2⟩:=Ot (Ba lA) hN l3 l4
 have hl0:0<(normL L r).length:=by rw [GM,ey];simp
 refine ⟨?_,?_⟩
 ·refine Uv hl0 (by omega) (by omega) (by omega) ?_ ?_
  ·intro n hn
   have:=Pb lA hN (by omega) l3 l4 (fun k=>k) ((normL L r).length:Int) (fun k k0 k1=>⟨k0,k1⟩) n hn
   rwa [PY] at this
  ·intro i hi
   have hb:i<(AF L r).length:=by rw [<- GM];exact hi
   have hx:(AF L r)[i]? = some ((AF L r)[i]):=List.getElem?_eq_getElem hb
   have hm2:=List.mem_of_getElem? hx
   have h3:=Sm lE El hm2
   have h4:posOf (AF L r) ((AF L r)[i])=(i:Int):=by
    unfold posOf;rw [if_pos hm2,Rg (C4 (Ba lA) l3 l4).2.1 hx]
   rw [h4,Int.toNat_natCast] at h3;exact h3
 ·have:=TF lA El hr
  rwa [pr] at this
theorem OU {t:ATy} (hlen:t.l.length<=2001) (hN:∀ n∈t.l,NB n) (h:mayT t.l t.root=0):Eb t=some (⟨normL t.l t.root,0⟩,0):=by
 rw [UX t hlen hN];unfold normT;rw [if_pos h]
theorem SE {w:ATy} {k no:Int} {B:Int->Prop} (hk:k=9\/k=10) (hB:∀ x,B x->In w x->∀ y∈kidsL (nd w x),B y) {l:List ANd} {i:Int} (h:Rep w k no l i):B i->∀ n∈l,∃ x,B x/\In w x/\nd w x=n:=by
 induction h with
 | none _ _=>intro _ n hn;cases hn
 | @one i hi _ _=>intro hb n hn;rw [List.mem_singleton.1 hn];exact ⟨i,hb,hi,rfl⟩
 | @join i l m hi hkk _ _ ih1 ih2 =>
  intro hb n hn
  have hl:kidsL (nd w i)=[(nd w i).a,(nd w i).b]:=F6 (by unfold latB;rcases hk with hk | hk <;> rw [hkk,hk] <;> rfl)
  rcases List.mem_append.1 hn with hn | hn
  ·exact ih1 (hB i hb hi _ (by rw [hl];simp)) n hn
  ·exact ih2 (hB i hb hi _ (by rw [hl];simp)) n hn
theorem Mw {w:ATy} {i:Int} (h:In w i):B9 w.l i=nd w i:=by
 have:=Gv h
 unfold B9;rw [this]
section
variable {w:ATy}
theorem K7 {x:Int} (hx:x∈AF w.l w.root) (hi:In w x):In ⟨normL w.l w.root,0⟩ (posOf (AF w.l w.root) x)/\nd ⟨normL w.l w.root,0⟩ (posOf (AF w.l w.root) x)=Ao (posOf (AF w.l w.root)) (nd w x):=by
 have h:=LM hx
 have hin:In ⟨normL w.l w.root,0⟩ (posOf (AF w.l w.root) x):=⟨h.1,by show _<((normL w.l w.root).length:Int);rw [GM];exact h.2⟩
 refine ⟨hin,?_⟩
 have e1:=Gv hin
 have e2:=Pg hx
 rw [show (⟨normL w.l w.root,0⟩:ATy).l=normL w.l w.root from rfl,e2,Mw hi] at e1;exact (Option.some.inj e1).symm
theorem T3 {k no:Int} (hk:k=9\/k=10) (hB:∀ x∈AF w.l w.root,∀ y∈kidsL (nd w x),y∈AF w.l w.root) {l:List ANd} {i:Int} (h:Rep w k no l i):i∈AF w.l w.root->Rep ⟨normL w.l w.root,0⟩ k no (l.map (Ao (posOf (AF w.l w.root)))) (posOf (AF w.l w.root) i):=by
 induction h with
 | none hi h =>
  intro hb
  obtain ⟨e1,e2⟩:=K7 hb hi;exact .none e1 (by rw [e2];exact h)
 | @one i hi h9 h10 =>
  intro hb
  obtain ⟨e1,e2⟩:=K7 hb hi
  have:=Rep.one (k:=k) (no:=no) e1 (by rw [e2];exact h9) (by rw [e2];exact h10)
  rw [e2] at this;exact this
 | @join i l m hi hkk _ _ ih1 ih2 =>
  intro hb
  have hlat:latB (nd w i).kind=true:=by unfold latB;rcases hk with hk | hk <;> rw [hkk,hk] <;> rfl
  have hl:kidsL (nd w i)=[(nd w i).a,(nd w i).b]:=F6 hlat
  obtain ⟨e1,e2⟩:=K7 hb hi;obtain ⟨a1,a2⟩:=BN (f:=posOf (AF w.l w.root)) (n:=nd w i) (.inr (Dl hlat));rw [List.map_append];refine .join e1 (by rw [e2];exact hkk) ?_ ?_
  ·rw [e2,a1];exact ih1 (hB i hb _ (by rw [hl];simp))
  ·rw [e2,a2];exact ih2 (hB i hb _ (by rw [hl];simp))
theorem Rr {a:List AutoState} {at_:Int->Int} (h:RepA w a at_) (hB:∀ x∈AF w.l w.root,∀ y∈kidsL (nd w x),y∈AF w.l w.root) (hall:∀ i:Int,0<=i->i<(a.length:Int)->at_ i∈AF w.l w.root) (hO:OkT ⟨normL w.l w.root,0⟩) :
  RepA ⟨normL w.l w.root,0⟩ a (fun i=>posOf (AF w.l w.root) (at_ i)):=by
 refine ⟨hO,fun i h0 h1=>?_⟩;obtain ⟨l,h2,h3⟩:=h.rep i h0 h1;refine ⟨l.map (Ao (posOf (AF w.l w.root))),T3 (by cases (stL a i).plus <;> simp [joK]) hB h2 (hall i h0 h1),fun n=>?_⟩;rw [List.mem_map,List.mem_map]
 constructor
 ·rintro ⟨m,hm,rfl⟩
  obtain ⟨q,hq,rfl⟩:=List.mem_map.1 ((h3 m).1 hm);exact ⟨q,hq,(FI _ _ q).symm⟩
 ·rintro ⟨q,hq,rfl⟩
  exact ⟨Ao at_ q,(h3 _).2 (List.mem_map.2 ⟨q,hq,rfl⟩),FI _ _ q⟩
end
theorem Qm {nx:Int->List Int} {C:Int->Prop} (hc:∀ x,C x->∀ y∈nx x,C y):∀ (m i:Nat) (l:List Int),(∀ x∈l,C x)->∀ x∈bfs nx m i l,C x
 | 0,i,l,h=>by unfold bfs;exact h
 | m+1,i,l,h=>by
  cases hx:l[i]? with
  | none=>rw [Fv hx];exact h
  | some x =>
   rw [FY hx];refine Qm hc m (i+1) _ fun y hy=>?_
   rcases (F8 _ _).1 hy with hy | hy
   ·exact h y hy
   ·exact hc x (h x (List.mem_of_getElem? hx)) y hy
theorem T1 {a:AutoAuto} (ha:Led a) {C:Int->Prop} (h0:C 0) (hc:∀ x,C x->0<=x->x<((normP a).l.length:Int)->∀ y∈nextP (stL (normP a).l x),C y):∀ i:Int,0<=i->i<((normP a).l.length:Int)->C i:=by
 have hL:=Ow ha
 have key:∀ x∈AU (normP a),C x/\0<=x/\x<((normP a).l.length:Int):=by
  unfold AU;refine Qm (C:=fun x=>C x/\0<=x/\x<((normP a).l.length:Int)) (fun x hx y hy=>?_) _ _ _ (fun x hx=>?_)
  ·obtain ⟨h1,h2,h3⟩:=hx
   have hy2:y∈nextP (stL (normP a).l x):=by rw [Im h2 h3];exact hy
   refine ⟨hc x h1 h2 h3 y hy2,?_⟩
   have e:=(JR h2 h3).1
   exact hL.led x (stL (normP a).l x) (by unfold idx;rw [if_pos h2];exact e) y hy2
  ·rw [List.mem_singleton.1 hx]
   exact ⟨h0,hL.st⟩
 intro i hi0 hi1
 refine (key i ?_).1;rw [P3 ha,List.mem_map];rw [E6 ha] at hi1;exact ⟨i.toNat,List.mem_range.2 (by omega),by show ((i.toNat:Nat):Int)=i;omega⟩
theorem RM {a:AutoAuto} {s:AutoState} (h:EM a s) {y:Int} (hy:y∈nextP s):∃ n∈AC s,y∈kidsL n:=by
 have hb:bareP s=true:=h.1
 unfold bareP at hb;simp only [Bool.and_eq_true,Bool.or_eq_true,decide_eq_true_eq] at hb;obtain ⟨_,hf,ht⟩:=hb;unfold nextP at hy;simp only [List.mem_append,List.mem_map] at hy;unfold AC;simp only [List.mem_append,KY,List.mem_map]
 rcases hy with (hy | ⟨e,he,rfl⟩) | ⟨e,he,rfl⟩
 ·by_cases ha:s.arrow=true
  ·rw [if_pos ha] at hy
   exact ⟨⟨6,s.dom,s.cod,[]⟩,.inl (.inl (.inr ⟨ha,rfl⟩)),hy⟩
  ·rw [if_neg ha] at hy;cases hy
 ·have hr:s.rec_=true:=hf.elim id fun h=>by rw [List.eq_nil_of_length_eq_zero (show s.fields.length=0 by omega)] at he;cases he
  refine ⟨⟨7,0,0,edF s.fields⟩,.inl (.inr ⟨hr,rfl⟩),?_⟩
  have e2:kidsL ⟨7,0,0,edF s.fields⟩=(edF s.fields).map (·.at_):=rfl
  rw [e2];exact List.mem_map.2 ⟨_,List.mem_map.2 ⟨e,he,rfl⟩,rfl⟩
 ·have hr:s.tag=true:=ht.elim id fun h=>by rw [List.eq_nil_of_length_eq_zero (show s.tags.length=0 by omega)] at he;cases he
  refine ⟨⟨8,0,0,edF s.tags⟩,.inr ⟨hr,rfl⟩,?_⟩
  have e2:kidsL ⟨8,0,0,edF s.tags⟩=(edF s.tags).map (·.at_):=rfl
  rw [e2];exact List.mem_map.2 ⟨_,List.mem_map.2 ⟨e,he,rfl⟩,rfl⟩
theorem Sb {w:ATy} {a:AutoAuto} {at_:Int->Int} (ha:Led a) (hm:mayP (normP a)=0) (h:RepA w (normP a).l at_) (hr:at_ 0=w.root) (hroot:w.root∈AF w.l w.root) (hB:∀ x∈AF w.l w.root,∀ y∈kidsL (nd w x),y∈AF w.l w.root) :
  ∀ i:Int,0<=i->i<((normP a).l.length:Int)->at_ i∈AF w.l w.root:=by
 refine T1 ha (by rw [hr];exact hroot) (fun x hx h0 h1 y hy=>?_);obtain ⟨l,h2,h3⟩:=h.rep x h0 h1;obtain ⟨e,hs⟩:=JR h0 h1;obtain ⟨n,hn,hyn⟩:=RM ((Gx hm).2.2.1 _ hs) hy;obtain ⟨z,hz,_,e2⟩:=SE (B:=(· ∈ AF w.l w.root)) (by cases (stL (normP a).l x).plus <;> simp [joK]) (fun x hx _=>hB x hx) h2 hx _ ((h3 _).2 (List.mem_map.2 ⟨n,hn,rfl⟩));refine hB z hz _ ?_;rw [e2,KS];exact List.mem_map.2 ⟨y,hyn,rfl⟩
end Go.Proofs.YtcoghblhdjmbfaaGreat
namespace Go.Proofs.YtcoghblhdjmbfaaGreat
open Go.V
open Classical
theorem S7 (b:Bool) (x:NodeB AFd) (l:List (Bool×NodeB AFd)):onB ((b,x)::l)=(if b=true then [nodN x] else [])++onB l:=by cases b <;> rfl
theorem UE:onB []=[]:=rfl
theorem Hc (s:AutoState):Cb s=AC s:=by
 unfold Cb AC;simp only [thA,S7,UE,List.append_assoc,List.append_nil]
 rfl
theorem Lw {ats:List Int} {x:ANd} (h:x.kind≠9/\x.kind≠10):lkN ats x=Ao (atI ats) x:=by
 unfold lkN Ao pB;rw [dF h.1,dF h.2,Bool.or_false,Bool.or_false]
 rfl
theorem UT {w:ATy} {ats:List Int} {off k no:Int} (hk:k=9\/k=10) (h0:0<=off) (l:List ANd):∀ (A B:List ANd),(∀ x∈l,x.kind≠9/\x.kind≠10)->w.l=A++((chB off k l).2.map (lkN ats)++B)->off=(A.length:Int)->l≠[] ->
  0<=(chB off k l).1/\Rep w k no (l.map (Ao (atI ats))) (chB off k l).1:=by
 refine Gm (P:=fun l=>∀ (A B:List ANd),(∀ x∈l,x.kind≠9/\x.kind≠10)->w.l=A++((chB off k l).2.map (lkN ats)++B)->off=(A.length:Int)->l≠[] ->
  0<=(chB off k l).1/\Rep w k no (l.map (Ao (atI ats))) (chB off k l).1) (fun _ _ _ _ _ h=>absurd rfl h) (fun l x ih A B hl hw hoff _=>?_) l
 have hx:=hl x (by simp)
 rw [I2] at hw ⊢
 by_cases hn:l=[]
 ·subst hn
  have hz:CD off k (chB off k []) x=(off,[x]):=by
   unfold chB CD
   simp
  rw [hz] at hw ⊢;obtain ⟨e1,e2⟩:=F3 (w:=w) (A:=A) (B:=B) (x:=lkN ats x) (i:=off) (by rw [hw];rfl) hoff;rw [Lw hx] at e1;refine ⟨h0,?_⟩
  have hr:=Rep.one (w:=w) (k:=k) (no:=no) e2 (by rw [e1];exact hx.1) (by rw [e1];exact hx.2)
  rw [e1] at hr;exact hr
 ·have hk6:k≠6:=by omega
  generalize hz:chB off k l=z at *
  obtain ⟨at0,zs⟩:=z
  have hpos:0<=at0:=by
   by_cases hc:0<=at0
   ·exact hc
   ·have hst:CD off k (at0,zs) x=(off+zs.length,zs++[x]):=by unfold CD;simp [hc]
    rw [hst] at hw
    have:=(ih A ([lkN ats x]++B) (fun y hy=>hl y (by simp [hy])) (by rw [hw];simp) hoff hn).1
    exact this
  have hst:CD off k (at0,zs) x=(off+zs.length+1,zs++[x]++[⟨k,at0,off+zs.length,[]⟩]):=by unfold CD;simp [hpos]
  rw [hst] at hw ⊢
  have hj:lkN ats ⟨k,at0,off+zs.length,[]⟩=⟨k,at0,off+zs.length,[]⟩:=by
   unfold lkN
   simp [hk6]
  have hI:=(ih A ([lkN ats x,⟨k,at0,off+zs.length,[]⟩]++B) (fun y hy=>hl y (by simp [hy])) (by rw [hw];simp [hj]) hoff hn).2
  obtain ⟨e1,e2⟩:=F3 (w:=w) (A:=A++zs.map (lkN ats)) (B:=⟨k,at0,off+zs.length,[]⟩::B) (x:=lkN ats x) (i:=off+zs.length) (by rw [hw];simp [hj]) (by simp;omega);obtain ⟨f1,f2⟩:=F3 (w:=w) (A:=A++zs.map (lkN ats)++[lkN ats x]) (B:=B) (x:=⟨k,at0,off+zs.length,[]⟩) (i:=off+zs.length+1) (by rw [hw];simp [hj]) (by simp;omega);rw [Lw hx] at e1;refine ⟨by show 0<=off+(zs.length:Int)+1;omega,?_⟩;rw [List.map_append];refine Rep.join f2 (by rw [f1]) (by rw [f1];exact hI) ?_;rw [f1]
  have hr:=Rep.one (w:=w) (k:=k) (no:=no) e2 (by rw [e1];exact hx.1) (by rw [e1];exact hx.2)
  rw [e1] at hr;exact hr
theorem PO {w:ATy} {ats:List Int} {off:Int} {s:AutoState} (h0:0<=off) {A B:List ANd} (hw:w.l=A++((Ca off s).2.map (lkN ats)++B)) (hoff:off=(A.length:Int)) :
  Rep w (joK s.plus) (noK s.plus) ((AC s).map (Ao (atI ats))) (Ca off s).1:=by
 have hsb:Ca off s=if (chB off (joK s.plus) (AC s)).1<0 then (off,[⟨noK s.plus,0,0,[]⟩]) else chB off (joK s.plus) (AC s):=by rw [<- Hc];rfl
 rw [hsb] at hw ⊢
 have hjk:joK s.plus=9\/joK s.plus=10:=by cases s.plus <;> simp [joK]
 by_cases hn:AC s=[]
 ·rw [hn] at hw ⊢
  have hz:(chB off (joK s.plus) []).1<0:=by show (-1:Int)<0;decide
  rw [if_pos hz] at hw ⊢;obtain ⟨e1,e2⟩:=F3 (w:=w) (A:=A) (B:=B) (x:=lkN ats ⟨noK s.plus,0,0,[]⟩) (i:=off) (by rw [hw];rfl) hoff;refine Rep.none e2 ?_;rw [e1];rfl
 ·by_cases hz:(chB off (joK s.plus) (AC s)).1<0
  ·
   exfalso
   have hge:∀ l:List ANd,l≠[]->0<=(chB off (joK s.plus) l).1:=by
    intro l
    refine Gm (P:=fun l=>l≠[]->0<=(chB off (joK s.plus) l).1) (fun h=>absurd rfl h) (fun l x ih _=>?_) l;rw [I2];unfold CD
    split <;> simp <;> omega
   have:=hge _ hn
   omega
  ·rw [if_neg hz] at hw ⊢
   exact (UT hjk h0 (AC s) A B (fun x hx=>Gg hx) hw hoff hn).2
theorem Uj:∀ (l:List AutoState) (i:Nat) (s:AutoState),l[i]? = some s->∃ A B,(runB l).2=A++((Ca (A.length:Int) s).2++B)/\(runB l).1[i]? = some (Ca (A.length:Int) s).1:=by
 intro l
 refine Gm (P:=fun l=>∀ (i:Nat) (s:AutoState),l[i]? = some s->∃ A B,(runB l).2=A++((Ca (A.length:Int) s).2++B)/\(runB l).1[i]? = some (Ca (A.length:Int) s).1) (fun i s h=>by simp at h) (fun l t ih i s h=>?_) l;rw [Zq]
 by_cases hi:i<l.length
 ·rw [List.getElem?_append_left hi] at h
  obtain ⟨A,B,h1,h2⟩:=ih i s h;refine ⟨A,B++(Ca ((runB l).2.length:Int) t).2,?_,?_⟩
  ·show (runB l).2++_=_
   rw [h1];simp
  ·show ((runB l).1++_)[i]? = _
   rw [List.getElem?_append_left (by rw [GJ];exact hi)];exact h2
 ·have hie:i=l.length:=by
   have:=(List.getElem?_eq_some_iff.1 h).1
   simp at this;omega
  subst hie;rw [List.getElem?_append_right (Nat.le_refl _),Nat.sub_self] at h
  cases h
  refine ⟨(runB l).2,[],by rw [List.append_nil],?_⟩
  show ((runB l).1++_)[l.length]? = _
  rw [List.getElem?_append_right (by rw [GJ];exact Nat.le_refl _),GJ,Nat.sub_self];rfl
def NodOk (s:AutoState) (j:Int) (n:ANd):Prop:=n∈AC s\/n=⟨noK s.plus,0,0,[]⟩\/∃ x y,n=⟨joK s.plus,x,y,[]⟩/\(0<=x/\x<j)/\0<=y/\y<j
theorem Rf {s:AutoState} {off:Int} (h0:0<=off) (l:List ANd):(∀ x∈l,x∈AC s)->(chB off (joK s.plus) l).1<off+((chB off (joK s.plus) l).2.length:Int)/\∀ (r:Nat) n,(chB off (joK s.plus) l).2[r]? = some n->NodOk s (off+r) n:=by
 refine Gm (P:=fun l=>(∀ x∈l,x∈AC s)->(chB off (joK s.plus) l).1<off+((chB off (joK s.plus) l).2.length:Int)/\∀ (r:Nat) n,(chB off (joK s.plus) l).2[r]? = some n->NodOk s (off+r) n) (fun _=>⟨by unfold chB;simp;omega,fun r n h=>by unfold chB at h;simp at h⟩) (fun l x ih hl=>?_) l;obtain ⟨i1,i2⟩:=ih (fun y hy=>hl y (by simp [hy]))
 have hx:=hl x (by simp)
 rw [I2]
 generalize chB off (joK s.plus) l=z at i1 i2
 obtain ⟨at0,zs⟩:=z
 simp only at i1 i2
 have hget:∀ (r:Nat) n,(zs++[x])[r]? = some n->NodOk s (off+r) n:=by
  intro r n h
  by_cases hr:r<zs.length
  ·rw [List.getElem?_append_left hr] at h;exact i2 r n h
  ·rw [List.getElem?_append_right (by omega)] at h
   have h1:=(List.getElem?_eq_some_iff.1 h).1
   simp only [List.length_cons,List.length_nil] at h1;rw [show r - zs.length=0 by omega] at h
   cases h;exact .inl hx
 unfold CD
 split
 ·rename_i hp
  simp only at hp
  refine ⟨by show off+(zs.length:Int)+1<_;simp;omega,fun r n h=>?_⟩
  have h:(zs++[x]++[(⟨joK s.plus,at0,off+zs.length,[]⟩:ANd)])[r]? = some n:=h
  by_cases hr:r<(zs++[x]).length
  ·rw [List.getElem?_append_left hr] at h;exact hget r n h
  ·rw [List.getElem?_append_right (by omega)] at h
   have h1:=(List.getElem?_eq_some_iff.1 h).1
   simp only [List.length_cons,List.length_nil,List.length_append] at h1 hr;rw [show r - (zs++[x]).length=0 by simp;omega] at h
   cases h
   exact .inr (.inr ⟨at0,off+zs.length,rfl,⟨hp,by omega⟩,by omega,by omega⟩)
 ·refine ⟨by show off+(zs.length:Int)<_;simp;omega,fun r n h=>hget r n h⟩
theorem Nf {s:AutoState} {off:Int} (h0:0<=off):(Ca off s).1<off+((Ca off s).2.length:Int)/\0<=(Ca off s).1/\∀ (r:Nat) n,(Ca off s).2[r]? = some n->NodOk s (off+r) n:=by
 have hsb:Ca off s=if (chB off (joK s.plus) (AC s)).1<0 then (off,[⟨noK s.plus,0,0,[]⟩]) else chB off (joK s.plus) (AC s):=by rw [<- Hc];rfl
 rw [hsb]
 split
 ·refine ⟨by show off<_;simp;omega,h0,fun r n h=>?_⟩
  have h1:=(List.getElem?_eq_some_iff.1 h).1
  simp only [List.length_cons,List.length_nil] at h1
  have hr:r=0:=by omega
  subst hr
  cases h;exact .inr (.inl rfl)
 ·rename_i hz
  have h:=Rf h0 (s:=s) (AC s) (fun x hx=>hx)
  exact ⟨h.1,by omega,h.2⟩
theorem PW {s:AutoState} {off:Int} (hv:s.vars.length<=40):(Ca off s).2.length<=94:=by
 have hsb:Ca off s=if (chB off (joK s.plus) (AC s)).1<0 then (off,[⟨noK s.plus,0,0,[]⟩]) else chB off (joK s.plus) (AC s):=by rw [<- Hc];rfl
 rw [hsb]
 split
 ·simp
 ·have h:=KF off (joK s.plus) (AC s) (-1,[])
  have h2:=JZ hv
  simp only [List.length_nil] at h
  have h3:(chB off (joK s.plus) (AC s)).2.length<=0+2*(AC s).length:=h
  omega
theorem IA (l:List AutoState):(∀ k∈(runB l).1,0<=k/\k<((runB l).2.length:Int))/\∀ (j:Nat) n,(runB l).2[j]? = some n->∃ s∈l,NodOk s j n:=by
 refine Gm (P:=fun l=>(∀ k∈(runB l).1,0<=k/\k<((runB l).2.length:Int))/\∀ (j:Nat) n,(runB l).2[j]? = some n->∃ s∈l,NodOk s j n) ⟨fun k h=>by unfold runB at h;simp at h,fun j n h=>by unfold runB at h;simp at h⟩ (fun l s ih=>?_) l;obtain ⟨i1,i2⟩:=ih;obtain ⟨s1,s2,s3⟩:=Nf (s:=s) (off:=((runB l).2.length:Int)) (by omega);rw [Zq];refine ⟨fun k hk=>?_,fun j n h=>?_⟩
 ·have hk:k∈(runB l).1++[(Ca ((runB l).2.length:Int) s).1]:=hk
  show 0<=k/\k<(((runB l).2++(Ca ((runB l).2.length:Int) s).2).length:Int)
  rw [List.length_append]
  rcases List.mem_append.1 hk with hk | hk
  ·have:=i1 k hk;omega
  ·rw [List.mem_singleton.1 hk];omega
 ·have h:((runB l).2++(Ca ((runB l).2.length:Int) s).2)[j]? = some n:=h
  by_cases hj:j<(runB l).2.length
  ·rw [List.getElem?_append_left hj] at h
   obtain ⟨t,ht,hn⟩:=i2 j n h;exact ⟨t,by simp [ht],hn⟩
  ·rw [List.getElem?_append_right (by omega)] at h
   have:=s3 _ n h
   rw [show ((runB l).2.length:Int)+((j - (runB l).2.length:Nat):Int)=(j:Int) by omega] at this;exact ⟨s,by simp,this⟩
theorem ML (l:List AutoState):(∀ s∈l,s.vars.length<=40)->(runB l).2.length<=94*l.length:=by
 refine Gm (P:=fun l=>(∀ s∈l,s.vars.length<=40)->(runB l).2.length<=94*l.length) (fun _=>by unfold runB;simp) (fun l s ih h=>?_) l
 have h1:=ih (fun t ht=>h t (by simp [ht]))
 have h2:=PW (off:=((runB l).2.length:Int)) (h s (by simp))
 rw [Zq]
 show ((runB l).2++_).length<=_
 rw [List.length_append,List.length_append,List.length_cons,List.length_nil];omega
theorem Tb {ats:List Int} {i:Nat} {k:Int} (h:ats[i]? = some k):atI ats (i:Int)=k:=by
 unfold atI idx;rw [if_pos (by omega),Int.toNat_natCast,h];rfl
theorem Oc (l:List AutoState) {i:Int} (h0:0<=i) (h1:i<(l.length:Int)):0<=atI (runB l).1 i/\atI (runB l).1 i<((runB l).2.length:Int):=by
 have hlt:i.toNat<(runB l).1.length:=by rw [GJ];omega
 have e:(runB l).1[i.toNat]? = some (runB l).1[i.toNat]:=List.getElem?_eq_getElem hlt
 have e2:=Tb e
 rw [show ((i.toNat:Nat):Int)=i by omega] at e2;rw [e2];exact (IA l).1 _ (List.getElem_mem hlt)
theorem Q4 {ats:List Int} {p:Bool} {x y:Int}:lkN ats ⟨joK p,x,y,[]⟩=⟨joK p,x,y,[]⟩:=by
 cases p <;> rfl
theorem Vk {ats:List Int} {p:Bool}:lkN ats ⟨noK p,0,0,[]⟩=⟨noK p,0,0,[]⟩:=by
 cases p <;> rfl
theorem TW {p:Bool} {all:Int}:BC ⟨noK p,0,0,[]⟩ all=true:=by
 refine Fp (by cases p <;> simp [noK]) (.inr ⟨rfl,.inr rfl⟩) (fun h=>by revert h;cases p <;> simp [noK]) (.inr rfl) FX (by simp) (fun q hq=>?_)
 have e:kidsL ⟨noK p,0,0,[]⟩=[]:=by cases p <;> rfl
 rw [e] at hq;cases hq
theorem NW (x:AutoAuto):(backT x).l.length=(runB x.l).2.length:=by unfold backT;rw [List.length_map]
theorem NV (x:AutoAuto) (j:Nat) {m:ANd} (h:(backT x).l[j]? = some m):∃ n s,(runB x.l).2[j]? = some n/\s∈x.l/\NodOk s (j:Int) n/\m=lkN (runB x.l).1 n:=by
 unfold backT at h;rw [List.getElem?_map,Option.map_eq_some_iff] at h;obtain ⟨n,h1,rfl⟩:=h;obtain ⟨s,hs,h2⟩:=(IA x.l).2 j n h1;exact ⟨n,s,h1,hs,h2,rfl⟩
theorem Qf {x:AutoAuto} (h:NmA x):CG (backT x).l:=by
 intro m hm
 obtain ⟨j,hj,rfl⟩:=List.mem_iff_getElem.1 hm;obtain ⟨n,s,h1,hs,h2,e⟩:=NV x j (List.getElem?_eq_getElem hj);rw [e]
 have hjl:j<(backT x).l.length:=hj
 rcases h2 with h2 | rfl | ⟨y,z,rfl,hy,hz⟩
 ·rw [Lw (Gg h2)]
  refine Kr (HX h hs (Int.le_refl _) h2) fun k h0 h1=>?_;rw [NW];exact Oc x.l h0 h1
 ·rw [Vk];exact TW
 ·rw [Q4];exact J7 (by omega) (by omega)
theorem RX {x:AutoAuto}:Fl (backT x).l:=by
 have key:∀ (k j:Nat),j<k->j<(backT x).l.length->endk (backT x).l k j=true:=by
  intro k
  induction k with
  | zero=>intro j hj;omega
  | succ k ih =>
   intro j hj hl
   have hg:(backT x).l[j]? = some (backT x).l[j]:=List.getElem?_eq_getElem hl
   obtain ⟨n,s,h1,hs,h2,e⟩:=NV x j hg;unfold endk;rw [hg]
   simp only
   rw [e]
   rcases h2 with h2 | rfl | ⟨y,z,rfl,hy,hz⟩
   ·have hk:=Gg h2
    have:latB (lkN (runB x.l).1 n).kind=false:=by
     show latB n.kind=false
     unfold latB;rw [dF hk.1,dF hk.2];rfl
    rw [this];rfl
   ·rw [Vk];cases s.plus <;> rfl
   ·rw [Q4]
    rw [Bool.or_eq_true,Bool.and_eq_true];exact .inr ⟨ih _ (by show y.toNat<k;omega) (by show y.toNat<_;omega),ih _ (by show z.toNat<k;omega) (by show z.toNat<_;omega)⟩
 exact fun i hi=>⟨i+1,key (i+1) i (by omega) hi⟩
theorem Q1 {x:AutoAuto} (h:NmA x):OkT (backT x):=⟨Qf h,RX⟩
theorem S4 {x:AutoAuto} (h:NmA x):RepA (backT x) x.l (atI (runB x.l).1):=by
 refine ⟨Q1 h,fun i h0 h1=>?_⟩;obtain ⟨e,_⟩:=JR h0 h1;obtain ⟨A,B,e1,e2⟩:=Uj x.l i.toNat _ e
 have e3:=Tb e2
 rw [show ((i.toNat:Nat):Int)=i by omega] at e3;rw [e3];refine ⟨_,PO (w:=backT x) (ats:=(runB x.l).1) (off:=(A.length:Int)) (s:=stL x.l i) (by omega) (A:=A.map (lkN (runB x.l).1)) (B:=B.map (lkN (runB x.l).1)) ?_ (by rw [List.length_map]),fun n=>Iff.rfl⟩
 show (runB x.l).2.map _=_
 conv=>lhs;rw [e1]
 rw [List.map_append,List.map_append]
theorem N6 {n:ANd} {all:Int} (h:BC n all=true):NB n:=by
 unfold BC at h;simp only [Bool.and_eq_true,decide_eq_true_eq] at h;unfold NB
 have:=h.2.2.2.2.1.2
 omega
theorem SS {x:AutoAuto} (h:NmA x) (hl:x.l.length<=20) (h0:0<=x.start) (h1:x.start<(x.l.length:Int)):MayO (backT x)/\(backT x).l.length<=94*x.l.length:=by
 have hb:=ML x.l (fun s hs=>(h.vars s hs).1)
 have hO:=Q1 h
 have hr:=Oc x.l h0 h1
 have hlen:=NW x
 refine ⟨⟨?_,fun n hn=>N6 (hO.right n hn)⟩,by omega⟩;unfold mayT
 have e:(backT x).root=atI (runB x.l).1 x.start:=rfl
 rw [if_neg (by omega),if_neg (by rw [e];omega),if_pos ⟨hO.right,hO.ends⟩]
theorem OK {x:AutoAuto} (h:NmA x) (hl:x.l.length<=20) (h0:0<=x.start) (h1:x.start<(x.l.length:Int)):BackOk x:=by
 have hb:=ML x.l (fun s hs=>(h.vars s hs).1)
 refine ⟨by omega,fun s hs=>?_,by omega,fun n hn=>?_,h0,h1⟩
 ·have:=(h.vars s hs).1;have:=(h.flds s hs).1;have:=(h.tags s hs).1;omega
 ·obtain ⟨j,hj,rfl⟩:=List.mem_iff_getElem.1 hn
  obtain ⟨s,hs,h2⟩:=(IA x.l).2 j _ (List.getElem?_eq_getElem hj)
  generalize (runB x.l).2[j]=n at h2
  rcases h2 with h2 | rfl | ⟨y,z,rfl,hy,hz⟩
  ·have hr:=HX h hs (Int.le_refl _) h2
   have hk:=Ju hr
   have hnb:=N6 hr
   refine ⟨fun h6=>?_,by unfold NB at hnb;omega,fun f hf=>(IE hr).2 f hf⟩
   have e:kidsL n=[n.a,n.b]:=by unfold kidsL pB;rw [h6];rfl
   exact ⟨hk _ (by rw [e];simp),hk _ (by rw [e];simp)⟩
  ·exact ⟨fun h6=>(by revert h6;cases s.plus <;> simp [noK]),by simp,fun f hf=>(by cases hf)⟩
  ·exact ⟨fun h6=>(by revert h6;cases s.plus <;> simp [joK]),by simp,fun f hf=>(by cases hf)⟩
end Go.Proofs.YtcoghblhdjmbfaaGreat
namespace Go.Proofs.YtcoghblhdjmbfaaGreat
open Go.V
open Classical
theorem JD {x:AutoAuto} (ha:AB x) (hm:mayP x=0) (hl:x.l.length<=20):C1 x=some (⟨normL (backT (normP x)).l (backT (normP x)).root,0⟩,0)/\MayO (backT (normP x))/\(backT (normP x)).l.length<=94*x.l.length:=by
 have hL:=LO ha hm
 have hn:=NJ hL
 have hmn:=LP ha hm
 have hnl:(normP x).l.length<=x.l.length:=by
  rw [E6 hL];exact DO _ _ (B4 hL).1 (B4 hL).2.1
 have hM:=Nu hn hmn (by omega)
 obtain ⟨n0,n1,_⟩:=GC (Gx hmn).2.2.2;obtain ⟨b1,b2⟩:=SS hM (by omega) n0 n1
 have hB:=OK hM (by omega) n0 n1
 refine ⟨?_,b1,by omega⟩;unfold C1;rw [U2 ha hm]
 dsimp only [oB]
 rw [dT rfl,Bool.not_true,cF_,if_pos hB];exact OU (by omega) b1.nb b1.may
theorem UC {x:AutoAuto} (ha:AB x) (hm:¬ mayP x=0):C1 x=some (⟨[],0⟩,mayP x):=by
 unfold C1;rw [UM ha hm]
 dsimp only [oB]
 rw [dF hm,Bool.not_false,cT]
theorem RC {x:AutoAuto} (ha:AB x) (hm:mayP x=0) (hl:x.l.length<=20):∃ at_:Int->Int,RepA ⟨normL (backT (normP x)).l (backT (normP x)).root,0⟩ (normP x).l at_/\at_ 0=0 /\
  mayT (normL (backT (normP x)).l (backT (normP x)).root) 0=0/\(∀ n∈normL (backT (normP x)).l (backT (normP x)).root,NB n)/\(normL (backT (normP x)).l (backT (normP x)).root).length<=94*x.l.length:=by
 obtain ⟨_,hMO,hlen⟩:=JD ha hm hl
 have hL:=LO ha hm
 have hn:=NJ hL
 have hmn:=LP ha hm
 have hnl:(normP x).l.length<=x.l.length:=by
  rw [E6 hL];exact DO _ _ (B4 hL).1 (B4 hL).2.1
 have hM:=Nu hn hmn (by omega)
 have hrep:=S4 hM
 have hroot:atI (runB (normP x).l).1 0=(backT (normP x)).root:=rfl
 generalize backT (normP x)=w at *
 obtain ⟨_,_,l3,l4,lA,lE⟩:=Eu hMO.may;obtain ⟨c1,c2⟩:=I6 lA hMO.nb (by omega) l3 l4;obtain ⟨_,ys,ey⟩:=Fm (Ba lA) hMO.nb (by omega) l3 l4
 have pr:posOf (AF w.l w.root) w.root=0:=by unfold posOf;rw [if_pos c1,ey];simp
 obtain ⟨a1,a2⟩:=Tt hMO.may hMO.nb (by omega);obtain ⟨d1,d2⟩:=Ot (Ba lA) hMO.nb l3 l4
 have hk:∀ y∈AF w.l w.root,∀ z∈kidsL (nd w y),z∈AF w.l w.root:=by
  intro y hy z hz
  have hyr:=(C4 (Ba lA) l3 l4).1 y hy
  refine c2 y hy z ?_;rw [Ie,Mw hyr];exact hz
 have hO:OkT ⟨normL w.l w.root,0⟩:=⟨(Eu a1).2.2.2.2.1,(Eu a1).2.2.2.2.2⟩
 have hre:=Sb hL hmn hrep hroot c1 hk
 exact ⟨_,Rr hrep hk hre hO,by show posOf _ (atI _ 0)=0;rw [hroot,pr],a1,d1,by omega⟩
theorem Ok {x:AutoAuto} (ha:AB x) (hm:mayP x=0) (hl:x.l.length<=10) {u:ATy} {gl:List Int} (hu:MayO u) (hg:GU u gl) (hul:u.l.length<=6) :
  AN ⟨normL (backT (normP x)).l (backT (normP x)).root,0⟩ u=AN (typeW x) u:=by
 obtain ⟨at_,hR,h00,h1,h2,h3⟩:=RC ha hm (by omega)
 have hmn:=LP ha hm
 have hP:=KL hmn
 obtain ⟨n0,n1,n2⟩:=GC (Gx hmn).2.2.2
 have n0:(0:Int)<=0:=n0
 have n1:(0:Int)<((normP x).l.length:Int):=n1
 have n2:(stL (normP x).l 0).plus=true:=n2
 obtain ⟨s0,s1,s2⟩:=GC (Gx hm).2.2.2
 generalize hw:(⟨normL (backT (normP x)).l (backT (normP x)).root,0⟩:ATy)=w at hR
 have hwl:w.l=normL (backT (normP x)).l (backT (normP x)).root:=by rw [<- hw]
 have hwr:w.root=0:=by rw [<- hw]
 rw [<- hwl] at h1 h2 h3
 have hG:=Kc hP hR hu hg
 have e:=MF (w:=w) (u:=u) (by omega) hul hu.ok.right hu.nb hu.root hG (LX hR.ok hu.ok) (OG h2 hu.nb) (by rw [FM];omega) (Ms hg.srt _) (by rw [List.length_map];exact Nat.le_trans (Th hg) hul)
  (.inr (.inl ⟨w.root,by rw [hwr,<- h00];exact HD hR n0 n1 n2,rfl,fun i hi=>by rw [List.mem_singleton.1 hi];exact KO hg _⟩))
 rw [e,Kg (Nu ha hm (by omega)) hl (KL hm) s0 s1 s2 hu hg hul];refine congrArg some (decide_eq_decide.2 ?_);rw [NX hP hR n0 n1 n2 (by rw [hwr,h00]) hu hg];exact Us (LO ha hm) (KL hm) s2 fun p=>Sat u p u.root
theorem TN (x:AutoAuto):(⟨x.l,x.start⟩:AutoAuto)=x:=by cases x;rfl
theorem VZ {t:ATy} (h:MayO (fewT 6 t)):(fewT 6 t).l.length<=6:=PE 6 t (Eu h.may).2.1
def a27:AutoAuto:=⟨[⟨true,false,true,true,false,false,false,false,[],0,0,[],[]⟩],0⟩
theorem S0:AB a27:=⟨by decide,by
 intro s hs
 simp only [a27,List.mem_cons,List.not_mem_nil,or_false] at hs
 rcases hs with rfl <;> exact ⟨by decide,by decide,by decide⟩⟩
theorem Um:mayP a27=0:=by
 have h:=PB a27 S0
 have h2:E9 a27=some 0:=by rfl
 rw [h2] at h;exact (Option.some.inj h).symm
theorem TM:normP a27=a27:=by rfl
theorem SI:C1 a27=some (⟨[⟨9,1,2,[]⟩,⟨3,0,0,[]⟩,⟨4,0,0,[]⟩],0⟩,0):=by
 obtain ⟨h1,h2,h3⟩:=JD S0 Um (by decide)
 have e:backT (normP a27)=⟨[⟨3,0,0,[]⟩,⟨4,0,0,[]⟩,⟨9,0,1,[]⟩],2⟩:=by rw [TM];rfl
 rw [h1,e];rw [e] at h2
 have h4:=OU (t:=⟨[⟨3,0,0,[]⟩,⟨4,0,0,[]⟩,⟨9,0,1,[]⟩],2⟩) (by decide) h2.nb h2.may
 rw [<- h4]
 rfl
theorem Uu:Cf=some true:=by
 unfold Cf;rw [show (⟨[(⟨true,false,true,true,false,false,false,false,([]:List Int),0,0,([]:List AutoEdge),([]:List AutoEdge)⟩:AutoState)],0⟩:AutoAuto)=a27 from rfl,SI]
 rfl
theorem law_BackSame (a:AutoAuto) (t:ATy):Ck a t=some true:=by
 unfold Ck;rw [Uu,oB,Bool.not_true,cF_];obtain ⟨x,hx,ha,hlen⟩:=Vy a;rw [hx,oB,show G3 (⟨t.l,t.root⟩:ATy) 6=some (fewT 6 t) from VC t 6 6 rfl (by omega),oB,TN]
 by_cases hm:mayP x=0
 ·have hx10:x.l.length<=10:=by
   have:=(Gx hm).2.1
   omega
  rw [(JD ha hm (by omega)).1];obtain ⟨b,e1,e2⟩:=P9 (fewT 6 t) (Tu 6 (by omega) t) (Q7 6 t);rw [show Dt (⟨(fewT 6 t).l,(fewT 6 t).root⟩:ATy)=some b from e1]
  dsimp only [oB]
  rw [dT rfl,Bool.not_true,cF_,oB]
  cases b with
  | false=>rfl
  | true =>
   obtain ⟨g1,g2⟩:=e2 rfl
   have hu:MayO (fewT 6 t):=⟨g1,Q7 6 t⟩
   have hg:=RN hu g2
   have hu6:=VZ hu
   obtain ⟨s0,s1,s2⟩:=GC (Gx hm).2.2.2
   have m0:=Kg (Nu ha hm (by omega)) hx10 (KL hm) s0 s1 s2 hu hg hu6
   have m1:=(Ok ha hm hx10 hu hg hu6).trans m0
   rw [Bool.not_true,cF_,show AN (⟨normL (backT (normP x)).l (backT (normP x)).root,0⟩:ATy) (⟨(fewT 6 t).l,(fewT 6 t).root⟩:ATy)=_ from m1,oB,V8 _ ha,oB,RF _ ha,oB,
    show AN (typeW x) (⟨(fewT 6 t).l,(fewT 6 t).root⟩:ATy)=_ from m0,oB,beq_self_eq_true]
 ·rw [UC ha hm]
  dsimp only [oB]
  rw [dF hm,Bool.not_false,cT,oB,cT]
  rfl
end Go.Proofs.YtcoghblhdjmbfaaGreat
