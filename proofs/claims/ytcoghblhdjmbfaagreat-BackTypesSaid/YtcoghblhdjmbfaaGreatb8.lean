/- Part 8 of the proof: a program logic, what the functions compute, and what these answer; no condition. -/
import Derived.Test.YtcoghblhdjmbfaaGreatb7
set_option linter.unusedVariables false
set_option linter.unusedSimpArgs false
set_option maxRecDepth 100000
namespace Go.Proofs.YtcoghblhdjmbfaaGreat
open Go.V
open Classical
structure BSq where
 left:List Int
 right:List Int
def NB (n:ANd):Prop:=n.l.length<=40
def pB (k:Int):Bool:=(decide (k=6)||decide (k=9))||decide (k=10)
def wB (k:Int):Bool:=decide (k=7)||decide (k=8)
def kidsL (n:ANd):List Int:=bif pB n.kind then [n.a,n.b] else bif wB n.kind then n.l.map (·.at_) else []
def badF (n:ANd) (x:AFd):Bool:=(decide (n.kind=7) && !nameP x.name)||(decide (n.kind=8) && !tagP x.name)
def okF (n:ANd) (i:Nat) (x:AFd):Prop:=badF n x=false/\(0<i->∀ y,n.l[i - 1]? = some y->Op.bytesLess y.name x.name=true)
def D1 (n:ANd):Prop:=∀ i x,n.l[i]? = some x->okF n i x
def inB (all k:Int):Bool:=decide (k<0)||decide (all<=k)
noncomputable def AY (n:ANd) (all:Int):Bool:=
 !(decide (n.kind<1)||decide (11<n.kind))&&(!((!pB n.kind)&&((!decide (n.b=0))||((!decide (n.kind=11))&&(!decide (n.a=0)))))&&(!(decide (n.kind=11)&&(decide (n.a<0)||decide (999<n.a))) &&
  (!((!wB n.kind)&&decide (0<(n.l.length:Int)))&&((decide (D1 n)&&decide ((n.l.length:Int)<=30)) && !decide (∃ k∈kidsL n,inB all k=true)))))
def latB (k:Int):Bool:=decide (k=9)||decide (k=10)
def endk (L:List ANd):Nat->Nat->Bool
 | 0,_=>false
 | k+1,i=>match L[i]? with
  | some n => !latB n.kind||(endk L k n.a.toNat&&endk L k n.b.toNat)
  | none=>false
theorem Kf (L:List ANd):∀ (k i:Nat),endk L k i=true->endk L (k+1) i=true
 | 0,i,h=>by simp [endk] at h
 | k+1,i,h=>by
  unfold endk at h ⊢
  cases hq:L[i]? with
  | none=>rw [hq] at h;exact h
  | some n =>
   rw [hq] at h
   simp only at h ⊢
   cases hl:latB n.kind
   ·rfl
   ·rw [hl] at h
    simp only [Bool.not_true,Bool.false_or,Bool.and_eq_true] at h ⊢;exact ⟨Kf L k _ h.1,Kf L k _ h.2⟩
theorem Gf {L:List ANd} {k m i:Nat} (hkm:k<=m) (h:endk L k i=true):endk L m i=true:=by
 induction hkm with
 | refl=>exact h
 | step _ ih=>exact Kf L _ _ ih
def Ends (L:List ANd) (i:Nat):Prop:=∃ k,endk L k i=true
def EJ (L:List ANd):Prop:=∀ i,i<L.length->Ends L i
def InL (L:List ANd):Prop:=∀ n∈L,∀ k∈kidsL n,0<=k/\k<(L.length:Int)
theorem DM {n:ANd} (h:latB n.kind=true):kidsL n=[n.a,n.b]:=by
 unfold kidsL
 have:pB n.kind=true:=by
  unfold latB at h;unfold pB
  rw [Bool.or_eq_true,decide_eq_true_eq,decide_eq_true_eq] at h
  rcases h with h | h <;> rw [h] <;> rfl
 rw [this];rfl
theorem I0 {L:List ANd} {i:Nat}:∀ m,endk L m i=true->∃ k,k<m/\endk L (k+1) i=true/\endk L k i=false
 | 0,h=>by simp [endk] at h
 | m+1,h=>by
  cases hq:endk L m i with
  | false=>exact ⟨m,Nat.lt_succ_self m,h,hq⟩
  | true =>
   obtain ⟨k,h1,h2,h3⟩:=I0 m hq;exact ⟨k,by omega,h2,h3⟩
def BZ (L:List ANd):Prop:=∀ n∈L,AY n L.length=true
theorem Ip {n:ANd} {all:Int} (h:AY n all=true):∀ k∈kidsL n,0<=k/\k<all:=by
 intro k hk
 unfold AY at h;simp only [Bool.and_eq_true,Bool.not_eq_true',decide_eq_false_iff_not] at h
 have h2:=h.2.2.2.2.2
 have:inB all k=false:=by
  cases hq:inB all k with
  | false=>rfl
  | true=>exact absurd ⟨k,hk,hq⟩ h2
 unfold inB at this;rw [Bool.or_eq_false_iff,decide_eq_false_iff_not,decide_eq_false_iff_not] at this
 omega
theorem AP {L:List ANd} (h:BZ L):InL L:=fun n hn k hk=>Ip (h n hn) k hk
noncomputable def mayT (L:List ANd) (root:Int):Int:=if L.length=0\/2000<L.length then 8 else if root<0\/(L.length:Int)<=root then 4 else if BZ L/\EJ L then 0 else 4
theorem Eu {L:List ANd} {r:Int} (h:mayT L r=0):0<L.length/\L.length<=2000/\0<=r/\r<L.length/\BZ L/\EJ L:=by
 unfold mayT at h
 split at h
 ·omega
 ·split at h
  ·omega
  ·split at h
   ·rename_i h1 h2 h3;exact ⟨by omega,by omega,by omega,by omega,h3.1,h3.2⟩
   ·omega
def Aq (f:Int->Int) (n:ANd):ANd:=⟨n.kind,bif pB n.kind then f n.a else n.a,bif pB n.kind then f n.b else n.b,n.l.map (fun x=>⟨x.name,f x.at_⟩)⟩
theorem IU {n:ANd} {all:Int} (h:AY n all=true) (hw:wB n.kind=false):n.l=[]:=by
 unfold AY at h;simp only [Bool.and_eq_true,Bool.not_eq_true'] at h
 have h2:=h.2.2.2.1
 rw [hw,Bool.not_false,Bool.true_and,decide_eq_false_iff_not] at h2;exact List.length_eq_zero_iff.1 (by omega)
theorem Se {k:Int} (h:wB k=true):pB k=false:=by
 unfold wB at h;unfold pB
 rw [Bool.or_eq_true,decide_eq_true_eq,decide_eq_true_eq] at h
 rcases h with h | h <;> rw [h] <;> rfl
theorem IW {n:ANd} {all:Int} (h:AY n all=true):(pB n.kind=true->(0<=n.a/\n.a<all)/\(0<=n.b/\n.b<all))/\∀ x∈n.l,0<=x.at_/\x.at_<all:=by
 have hk:=Ip h
 unfold kidsL at hk
 constructor
 ·intro hp
  rw [hp,cT] at hk;exact ⟨hk n.a (by simp),hk n.b (by simp)⟩
 ·intro x hx
  cases hw:wB n.kind with
  | false=>rw [IU h hw] at hx;simp at hx
  | true =>
   rw [Se hw,cF_,hw,cT] at hk;exact hk x.at_ (List.mem_map.2 ⟨x,hx,rfl⟩)
noncomputable def Dj (a b:ATy):ATy:=⟨a.l++b.l.map (Aq (fun k=>k+(a.l.length:Int))),a.root⟩
def In (t:ATy) (i:Int):Prop:=0<=i/\i<(t.l.length:Int)
def nd (t:ATy) (i:Int):ANd:=(t.l[i.toNat]?).getD ⟨0,0,0,[]⟩
theorem HX {t:ATy} {i:Int} (h:In t i):t.l[i.toNat]? = some (nd t i):=by
 unfold nd
 have h1:i.toNat<t.l.length:=by have:=h.1;have:=h.2;omega
 rw [List.getElem?_eq_getElem h1];rfl
theorem Il {t:ATy} {i:Int} (h:In t i):nd t i∈t.l:=List.mem_of_getElem? (HX h)
theorem V9 {t:ATy} {i:Nat} {n:ANd} (h:t.l[i]? = some n):nd t i=n:=by unfold nd;rw [Int.toNat_natCast,h];rfl
def cs (l:List Int):List Int:=Lib.compact (List.mergeSort l fun x y=>decide (x<=y))
theorem mem_cs {l:List Int} {x:Int}:x∈cs l↔x∈l:=by
 unfold cs;rw [(Ic (JK l)).2 x,List.mem_mergeSort]
theorem Kd (l:List Int):(cs l).Pairwise (· < ·):=(Ic (JK l)).1
theorem MW {l m:List Int} (h:l.Pairwise (· < ·)) (hm:∀ x,x∈l↔x∈m):l=cs m:=Lo l (cs m) h (Kd m) (fun x=>by rw [hm x,mem_cs])
def wsum (w:Int->Nat):List Int->Nat
 | []=>0
 | x::l=>w x+wsum w l
theorem Js (w:Int->Nat):∀ l m:List Int,wsum w (l++m)=wsum w l+wsum w m
 | [],m=>by simp [wsum]
 | x::l,m=>by simp only [List.cons_append,wsum,Js w l m];omega
theorem Iv {w:Int->Nat} {l m:List Int} (h:l.Perm m):wsum w l=wsum w m:=by
 induction h with
 | nil=>rfl
 | cons x _ ih=>simp only [wsum,ih]
 | swap x y l=>simp only [wsum];omega
 | trans _ _ a b=>exact a.trans b
theorem OY (w:Int->Nat):∀ s l:List Int,s.Nodup->(∀ x∈s,x∈l)->wsum w s<=wsum w l
 | [],l,_,_=>Nat.zero_le _
 | x::s,l,hn,h=>by
  obtain ⟨h1,h2⟩:=List.nodup_cons.1 hn
  have hp:=List.perm_cons_erase (h x (by simp))
  have:=OY w s (l.erase x) h2 (fun y hy=>(List.mem_erase_of_ne (fun e=>h1 (by rw [<- e];exact hy))).2 (h y (by simp [hy])))
  rw [Iv hp];simp only [wsum];omega
theorem Ns (w:Int->Nat) (l:List Int):wsum w (cs l)<=wsum w l:=OY w (cs l) l ((Kd l).imp (fun h=>by omega)) (fun x hx=>mem_cs.1 hx)
structure OkT (t:ATy):Prop where
 right:BZ t.l
 ends:EJ t.l
theorem OkT.kind {t:ATy} (h:OkT t) {i:Int} (hi:In t i):1<=(nd t i).kind/\(nd t i).kind<=11:=by
 have:=h.right _ (Il hi)
 unfold AY at this;simp only [Bool.and_eq_true,Bool.not_eq_true',Bool.or_eq_false_iff,decide_eq_false_iff_not] at this
 have:=this.1;omega
theorem OkT.kids {t:ATy} (h:OkT t) {i:Int} (hi:In t i) {k:Int} (hk:k∈kidsL (nd t i)):In t k:=AP h.right _ (Il hi) k hk
theorem OkT.pair {t:ATy} (h:OkT t) {i:Int} (hi:In t i) (hk:(nd t i).kind=6\/(nd t i).kind=9\/(nd t i).kind=10):In t (nd t i).a/\In t (nd t i).b:=by
 have h1:kidsL (nd t i)=[(nd t i).a,(nd t i).b]:=by
  unfold kidsL pB
  rcases hk with hk | hk | hk <;> rw [hk] <;> rfl
 exact ⟨h.kids hi (by rw [h1];simp),h.kids hi (by rw [h1];simp)⟩
theorem OkT.at_ {t:ATy} (h:OkT t) {i:Int} (hi:In t i) {f:AFd} (hf:f∈(nd t i).l):In t f.at_:=(IW (h.right _ (Il hi))).2 f hf
theorem OkT.weight {t:ATy} (h:OkT t):∃ w:Int->Nat,∀ i,In t i->latB (nd t i).kind=true->w (nd t i).a+w (nd t i).b<w i:=by
 have key:∀ i:Nat,∃ r:Nat,i<t.l.length->endk t.l (r+1) i=true/\endk t.l r i=false:=by
  intro i
  by_cases hi:i<t.l.length
  ·obtain ⟨m,hm⟩:=h.ends i hi
   obtain ⟨k,_,h1,h2⟩:=I0 m hm;exact ⟨k,fun _=>⟨h1,h2⟩⟩
  ·exact ⟨0,fun h=>absurd h hi⟩
 obtain ⟨r,hr⟩:=Classical.axiomOfChoice key;refine ⟨fun i=>3 ^ r i.toNat,fun i hi hl=>?_⟩
 have hil:i.toNat<t.l.length:=by have:=hi.1;have:=hi.2;omega
 have hp:In t (nd t i).a/\In t (nd t i).b:=h.pair hi (by unfold latB at hl;simp only [Bool.or_eq_true,decide_eq_true_eq] at hl;exact .inr hl)
 obtain ⟨h1,h2⟩:=hr i.toNat hil
 have hlt:∀ k:Int,In t k->endk t.l (r i.toNat) k.toNat=true->r k.toNat<r i.toNat:=by
  intro k hk he
  have hkl:k.toNat<t.l.length:=by have:=hk.1;have:=hk.2;omega
  rcases Nat.lt_or_ge (r k.toNat) (r i.toNat) with h3 | h3
  ·exact h3
  ·have:=Gf h3 he;rw [(hr _ hkl).2] at this;cases this
 have h3:endk t.l (r i.toNat) (nd t i).a.toNat=true/\endk t.l (r i.toNat) (nd t i).b.toNat=true:=by
  unfold endk at h1;rw [HX hi] at h1;simp only [hl,Bool.not_true,Bool.false_or,Bool.and_eq_true] at h1;exact h1
 have ha:=hlt _ hp.1 h3.1
 have hb:=hlt _ hp.2 h3.2
 obtain ⟨m,hm⟩:∃ m,r i.toNat=m+1:=⟨r i.toNat - 1,by omega⟩
 have h4:3 ^ r (nd t i).a.toNat<=3 ^ m:=Nat.pow_le_pow_right (by omega) (by omega)
 have h5:3 ^ r (nd t i).b.toNat<=3 ^ m:=Nat.pow_le_pow_right (by omega) (by omega)
 have h6:3 ^ (m+1)=3*3 ^ m:=by rw [Nat.pow_succ];omega
 have h7:0<3 ^ m:=Nat.pow_pos (by omega)
 show 3 ^ r (nd t i).a.toNat+3 ^ r (nd t i).b.toNat<3 ^ r i.toNat
 rw [hm,h6];omega
def atN (n:ANd) (s:List UInt8):Option Int:=(n.l.find? fun f=>decide (f.name=s)).map (·.at_)
theorem Jt {n:ANd} {s:List UInt8} {k:Int} (h:atN n s=some k):∃ f∈n.l,f.name=s/\f.at_=k:=by
 unfold atN at h
 cases hq:n.l.find? fun f=>decide (f.name=s) with
 | none=>rw [hq] at h;cases h
 | some f=>rw [hq] at h;exact ⟨f,List.mem_of_find?_eq_some hq,by simpa using List.find?_some hq,by simpa using h⟩
theorem Sm {n:ANd} {s:List UInt8}:atN n s≠none↔s∈n.l.map (·.name):=by
 unfold atN
 constructor
 ·intro h
  cases hq:n.l.find? fun f=>decide (f.name=s) with
  | none=>rw [hq] at h;exact absurd rfl h
  | some f=>exact List.mem_map.2 ⟨f,List.mem_of_find?_eq_some hq,by simpa using List.find?_some hq⟩
 ·intro h hq
  obtain ⟨f,hf,rfl⟩:=List.mem_map.1 h;rw [Option.map_eq_none_iff,List.find?_eq_none] at hq
  simpa using hq f hf
def AR (t:ATy) (l:List Int) (s:List UInt8):List Int:=l.filterMap fun i=>atN (nd t i) s
def E9 (t:ATy):List Int->List (List UInt8)
 | []=>[]
 | i::l=>((nd t i).l.map (·.name)).filter fun s=>(i::l).all fun j=>(atN (nd t j) s).isSome
def ofK (t:ATy) (l:List Int) (k:Int):List Int:=l.filter fun i=>decide ((nd t i).kind=k)
def latA (t:ATy) (l:List Int):Option (ANd×List Int):=(l.findIdx? fun i=>latB (nd t i).kind).map fun k=>(nd t (l.getD k 0),l.take k++l.drop (k+1))
def openA (t:ATy) (q:BSq):Option (List BSq):=match latA t q.left with
 | some (n,rest)=>some (if n.kind=10 then [⟨cs (rest++[n.a,n.b]),q.right⟩] else [⟨cs (rest++[n.a]),q.right⟩,⟨cs (rest++[n.b]),q.right⟩])
 | none=>match latA t q.right with
  | some (n,rest)=>some (if n.kind=9 then [⟨q.left,cs (rest++[n.a,n.b])⟩] else [⟨q.left,cs (rest++[n.a])⟩,⟨q.left,cs (rest++[n.b])⟩])
  | none=>none
def badA (t:ATy) (l r:List Int) (s:List UInt8):Bool:=(AR t l s).isEmpty||(AR t r s).isEmpty
def allA (t:ATy) (k:Int) (l r:List Int):List (List UInt8):=if k=7 then E9 t r else if k=8 then E9 t l else []
def CM (t:ATy) (k:Int) (l r:List Int):Bool×List BSq:=
 if k≠8/\r=[] then (true,[]) else
 if k=6 then (false,[⟨cs (r.map fun i=>(nd t i).a),cs (l.map fun i=>(nd t i).a)⟩,⟨cs (l.map fun i=>(nd t i).b),cs (r.map fun i=>(nd t i).b)⟩]) else
 if (allA t k l r).any (badA t l r) then (true,[]) else (false,(allA t k l r).map fun s=>⟨cs (AR t l s),cs (AR t r s)⟩)
def E5 (t:ATy) (l:List Int):List Int:=[3,4,5,6,7,8].filter fun k=>l.any fun i=>decide ((nd t i).kind=k)
def F8 (t:ATy) (q:BSq):Bool×List BSq:=match E5 t q.left with
 | []=>(true,[])
 | [k]=>CM t k (ofK t q.left k) (ofK t q.right k)
 | _=>(false,[])
def endA (t:ATy) (q:BSq):Bool:=(q.left.any fun i=>decide ((nd t i).kind=2))||(q.right.any fun i=>decide ((nd t i).kind=1))
def If (t:ATy) (q:BSq):Bool:=q.left.any fun i=>q.right.any fun j=>decide ((nd t i).kind=11)&&decide ((nd t j).kind=11)&&decide ((nd t i).a=(nd t j).a)
def BJ (t:ATy) (q:BSq):Bool×List BSq:=
 if endA t q=true then (false,[]) else match openA t q with
 | some l=>(false,l)
 | none=>if If t q=true then (false,[]) else F8 t q
theorem Es {t:ATy} {l rest:List Int} {n:ANd} (h:latA t l=some (n,rest)):∃ i,n=nd t i/\latB n.kind=true/\l.Perm (i::rest):=by
 unfold latA at h
 cases hq:l.findIdx? fun i=>latB (nd t i).kind with
 | none=>rw [hq] at h;cases h
 | some k =>
  rw [hq] at h;simp only [Option.map_some,Option.some.injEq,Prod.mk.injEq] at h;obtain ⟨rfl,rfl⟩:=h;rw [List.findIdx?_eq_some_iff_getElem] at hq;obtain ⟨hk,h1,_⟩:=hq
  have e:l.getD k 0=l[k]:=by rw [List.getD_eq_getElem?_getD,List.getElem?_eq_getElem hk];rfl
  refine ⟨l[k],by rw [e],by rw [e];exact h1,?_⟩
  have e2:l=l.take k++l[k]::l.drop (k+1):=by rw [<- List.drop_eq_getElem_cons hk,List.take_append_drop]
  have h3:=List.perm_middle (a:=l[k]) (l₁:=l.take k) (l₂:=l.drop (k+1))
  rw [<- e2] at h3;exact h3
theorem Md {t:ATy} {l:List Int} (h:latA t l=none):∀ i∈l,latB (nd t i).kind=false:=by
 unfold latA at h;rw [Option.map_eq_none_iff,List.findIdx?_eq_none_iff] at h
 intro i hi
 simpa using h i hi
theorem mem_names {t:ATy} {l:List Int} {s:List UInt8}:s∈E9 t l↔l≠[]/\∀ i∈l,atN (nd t i) s≠none:=by
 cases l with
 | nil=>simp [E9]
 | cons i l =>
  unfold E9;rw [List.mem_filter,<- Sm,List.all_eq_true]
  constructor
  ·rintro ⟨_,h2⟩
   exact ⟨by simp,fun j hj=>by have:=h2 j hj;cases hq:atN (nd t j) s with
    | none=>rw [hq] at this;cases this
    | some _=>simp⟩
  ·rintro ⟨_,h2⟩
   exact ⟨h2 i (by simp),fun j hj=>by have:=h2 j hj;cases hq:atN (nd t j) s with
    | none=>exact absurd hq this
    | some _=>rfl⟩
theorem mem_parts {t:ATy} {l:List Int} {s:List UInt8} {k:Int}:k∈AR t l s↔∃ i∈l,atN (nd t i) s=some k:=by unfold AR;rw [List.mem_filterMap]
theorem mem_ofK {t:ATy} {l:List Int} {k i:Int}:i∈ofK t l k↔i∈l/\(nd t i).kind=k:=by unfold ofK;rw [List.mem_filter,decide_eq_true_eq]
theorem G8 {t:ATy} {l:List Int} {k:Int}:k∈E5 t l↔(3<=k/\k<=8)/\∃ i∈l,(nd t i).kind=k:=by
 unfold E5;rw [List.mem_filter,List.any_eq_true];simp only [List.mem_cons,List.not_mem_nil,or_false,decide_eq_true_eq]
 constructor
 ·rintro ⟨h1,h2⟩;exact ⟨by omega,h2⟩
 ·rintro ⟨h1,h2⟩;exact ⟨by omega,h2⟩
theorem Oy (t:ATy) (l:List Int):(E5 t l).Nodup:=by unfold E5;exact List.Nodup.sublist List.filter_sublist (by decide)
inductive Pt
 | tag (S:Int->Prop) (k:Int)
 | dom (S:Int->Prop) (q:Pt)
 | cod (S:Int->Prop) (q:Pt)
 | absent (S:Int->Prop) (s:List UInt8)
 | field (S:Int->Prop) (s:List UInt8) (q:Pt)
 | hasc (S:Int->Prop) (s:List UInt8)
 | case (S:Int->Prop) (s:List UInt8) (q:Pt)
def Pt.vars:Pt->Int->Prop
 | .tag S _=>S
 | .dom S _=>S
 | .cod S _=>S
 | .absent S _=>S
 | .field S _ _=>S
 | .hasc S _=>S
 | .case S _ _=>S
def Pt.kind:Pt->Int
 | .tag _ k=>k
 | .dom _ _=>6
 | .cod _ _=>6
 | .absent _ _=>7
 | .field _ _ _=>7
 | .hasc _ _=>8
 | .case _ _ _=>8
def Pt.size:Pt->Nat
 | .tag _ _=>0
 | .dom _ q=>q.size+1
 | .cod _ q=>q.size+1
 | .absent _ _=>0
 | .field _ _ q=>q.size+1
 | .hasc _ _=>0
 | .case _ _ q=>q.size+1
inductive La (t:ATy) (S:Int->Prop) (D:ANd->Prop):Int->Prop
 | top {i:Int}:(nd t i).kind=1->La t S D i
 | inl {i:Int}:(nd t i).kind=9->La t S D (nd t i).a->La t S D i
 | inr {i:Int}:(nd t i).kind=9->La t S D (nd t i).b->La t S D i
 | both {i:Int}:(nd t i).kind=10->La t S D (nd t i).a->La t S D (nd t i).b->La t S D i
 | var {i:Int}:(nd t i).kind=11->S (nd t i).a->La t S D i
 | head {i:Int}:3<=(nd t i).kind->(nd t i).kind<=8->D (nd t i)->La t S D i
def hdP (t:ATy):Pt->ANd->Prop
 | .tag _ k,x=>x.kind=k/\k≠8
 | .dom _ q,x=>x.kind=6/\¬ La t q.vars (hdP t q) x.a
 | .cod _ q,x=>x.kind=6/\La t q.vars (hdP t q) x.b
 | .absent _ s,x=>x.kind=7/\atN x s=none
 | .field _ s q,x=>x.kind=7/\∀ k,atN x s=some k->La t q.vars (hdP t q) k
 | .hasc _ s,x=>x.kind=8/\atN x s≠none
 | .case _ s q,x=>x.kind=8/\∃ k,atN x s=some k/\La t q.vars (hdP t q) k
def Sat (t:ATy) (p:Pt) (i:Int):Prop:=La t p.vars (hdP t p) i
theorem LR {t:ATy} {p:Pt} {x:ANd} (h:hdP t p x):x.kind=p.kind:=by
 cases p <;> exact h.1
section
variable {t:ATy} {S:Int->Prop} {D:ANd->Prop} {i:Int}
theorem VT (h:(nd t i).kind=1):La t S D i := .top h
theorem Tm (h:(nd t i).kind=2):¬ La t S D i:=by intro h2;cases h2 <;> omega
theorem Hj (h:(nd t i).kind=9):La t S D i↔La t S D (nd t i).a\/La t S D (nd t i).b:=by
 constructor
 ·intro h2
  cases h2 with
  | inl _ h3=>exact .inl h3
  | inr _ h3=>exact .inr h3
  | top h3=>omega
  | both h3 _ _=>omega
  | var h3 _=>omega
  | head h3 h4 _=>omega
 ·rintro (h2 | h2)
  ·exact .inl h h2
  ·exact .inr h h2
theorem It (h:(nd t i).kind=10):La t S D i↔La t S D (nd t i).a/\La t S D (nd t i).b:=by
 constructor
 ·intro h2
  cases h2 with
  | both _ h3 h4=>exact ⟨h3,h4⟩
  | inl h3 _=>omega
  | inr h3 _=>omega
  | top h3=>omega
  | var h3 _=>omega
  | head h3 h4 _=>omega
 ·rintro ⟨h2,h3⟩;exact .both h h2 h3
theorem So (h:(nd t i).kind=11):La t S D i↔S (nd t i).a:=by
 constructor
 ·intro h2
  cases h2 with
  | var _ h3=>exact h3
  | both h3 _ _=>omega
  | inl h3 _=>omega
  | inr h3 _=>omega
  | top h3=>omega
  | head h3 h4 _=>omega
 ·intro h2;exact .var h h2
theorem KK (h:3<=(nd t i).kind) (h':(nd t i).kind<=8):La t S D i↔D (nd t i):=by
 constructor
 ·intro h2
  cases h2 with
  | head _ _ h3=>exact h3
  | both h3 _ _=>omega
  | inl h3 _=>omega
  | inr h3 _=>omega
  | top h3=>omega
  | var h3 _=>omega
 ·intro h2;exact .head h h' h2
end
def CE (t:ATy) (p:Pt) (q:BSq):Prop:=(∀ i∈q.left,Sat t p i)/\∀ i∈q.right,¬ Sat t p i
def InQ (t:ATy) (q:BSq):Prop:=(∀ i∈q.left,In t i)/\∀ i∈q.right,In t i
structure Cb (t:ATy) (q:BSq):Prop where
 bot:∀ i∈q.left,(nd t i).kind≠2
 top:∀ i∈q.right,(nd t i).kind≠1
 latL:∀ i∈q.left,latB (nd t i).kind=false
 latR:∀ i∈q.right,latB (nd t i).kind=false
 share:∀ i∈q.left,∀ j∈q.right,(nd t i).kind=11->(nd t j).kind=11->(nd t i).a≠(nd t j).a
theorem Tj {k:Int} (h:latB k=false):k≠9/\k≠10:=by
 unfold latB at h;simp only [Bool.or_eq_false_iff,decide_eq_false_iff_not] at h;exact h
theorem FC {k:Int} (h:latB k=true):k=9\/k=10:=by
 unfold latB at h
 simpa only [Bool.or_eq_true,decide_eq_true_eq] using h
def SV (t:ATy) (q:BSq):Int->Prop:=fun v=>∃ i∈q.left,(nd t i).kind=11/\(nd t i).a=v
theorem Kv {t:ATy} {q:BSq} {p:Pt} (hO:OkT t) (hq:InQ t q) (hC:Cb t q) (hS:p.vars=SV t q)
  (hL:∀ i∈q.left,3<=(nd t i).kind->(nd t i).kind<=8->hdP t p (nd t i)) (hR:∀ i∈q.right,3<=(nd t i).kind->(nd t i).kind<=8->¬ hdP t p (nd t i)):CE t p q:=by
 constructor
 ·intro i hi
  have hk:=hO.kind (hq.1 i hi)
  have h2:=hC.bot i hi
  have h3:=Tj (hC.latL i hi)
  by_cases h1:(nd t i).kind=1
  ·exact .top h1
  ·by_cases h11:(nd t i).kind=11
   ·refine .var h11 ?_
    rw [hS];exact ⟨i,hi,h11,rfl⟩
   ·exact .head (by omega) (by omega) (hL i hi (by omega) (by omega))
 ·intro i hi hs
  have h1:=hC.top i hi
  have h3:=Tj (hC.latR i hi)
  unfold Sat at hs
  cases hs with
  | top h=>exact h1 h
  | inl h _=>exact h3.1 h
  | inr h _=>exact h3.1 h
  | both h _ _=>exact h3.2 h
  | var h h4 =>
   rw [hS] at h4;obtain ⟨j,hj,hj1,hj2⟩:=h4;exact hC.share j hj i hi hj1 h hj2
  | head h4 h5 h6=>exact hR i hi h4 h5 h6
theorem R8 {t:ATy} {l:List Int} (h:E5 t l=[]):∀ i∈l,3<=(nd t i).kind->(nd t i).kind<=8->False:=by
 intro i hi h1 h2
 have:=(G8 (t:=t) (l:=l)).2 ⟨⟨h1,h2⟩,i,hi,rfl⟩
 rw [h] at this;cases this
theorem Hi {t:ATy} {l:List Int} {k:Int} (h:E5 t l=[k]):(3<=k/\k<=8)/\(∃ i∈l,(nd t i).kind=k)/\∀ i∈l,3<=(nd t i).kind->(nd t i).kind<=8->(nd t i).kind=k:=by
 have h0:=(G8 (t:=t) (l:=l) (k:=k)).1 (by rw [h];simp)
 refine ⟨h0.1,h0.2,fun i hi h1 h2=>?_⟩
 have:=(G8 (t:=t) (l:=l)).2 ⟨⟨h1,h2⟩,i,hi,rfl⟩
 rw [h] at this;simpa using this
theorem RI {t:ATy} {l m:List Int} {a b:Int} (h:E5 t l=a::b::m):∃ i∈l,∃ j∈l,(3<=(nd t i).kind/\(nd t i).kind<=8)/\(3<=(nd t j).kind/\(nd t j).kind<=8)/\(nd t i).kind≠(nd t j).kind:=by
 have ha:=(G8 (t:=t) (l:=l) (k:=a)).1 (by rw [h];simp)
 have hb:=(G8 (t:=t) (l:=l) (k:=b)).1 (by rw [h];simp)
 have hn:=Oy t l
 rw [h] at hn
 have hab:a≠b:=fun e=>by subst e;exact (List.nodup_cons.1 hn).1 (by simp)
 obtain ⟨i,hi,rfl⟩:=ha.2;obtain ⟨j,hj,rfl⟩:=hb.2;exact ⟨i,hi,j,hj,ha.1,hb.1,hab⟩
theorem NG {t:ATy} {l r:List Int} {s:List UInt8} (h:badA t l r s=true):(∀ i∈l,atN (nd t i) s=none)\/∀ i∈r,atN (nd t i) s=none:=by
 unfold badA at h;rw [Bool.or_eq_true,List.isEmpty_iff,List.isEmpty_iff] at h
 have key:∀ l:List Int,AR t l s=[]->∀ i∈l,atN (nd t i) s=none:=by
  intro l hl i hi
  cases hq:atN (nd t i) s with
  | none=>rfl
  | some k=>have:=(mem_parts (t:=t) (l:=l)).2 ⟨i,hi,hq⟩;rw [hl] at this;cases this
 exact h.imp (key l) (key r)
theorem SZ {t:ATy} {l r:List Int} {s:List UInt8} (h:(∀ i∈l,atN (nd t i) s=none)\/∀ i∈r,atN (nd t i) s=none):badA t l r s=true:=by
 unfold badA;rw [Bool.or_eq_true,List.isEmpty_iff,List.isEmpty_iff]
 have key:∀ l:List Int,(∀ i∈l,atN (nd t i) s=none)->AR t l s=[]:=by
  intro l hl
  rw [List.eq_nil_iff_forall_not_mem]
  intro k hk
  obtain ⟨i,hi,h2⟩:=mem_parts.1 hk;rw [hl i hi] at h2;cases h2
 exact h.imp (key l) (key r)
theorem Ru {t:ATy} {q:BSq} {k:Int} (hO:OkT t) (hq:InQ t q) (hC:Cb t q) (hk:E5 t q.left=[k]) (h:(CM t k (ofK t q.left k) (ofK t q.right k)).1=true):∃ p,CE t p q:=by
 obtain ⟨h0,⟨i0,hi0,hk0⟩,h1⟩:=Hi hk;unfold CM at h
 split at h
 ·rename_i hr
  refine ⟨.tag (SV t q) k,Kv hO hq hC rfl (fun i hi h3 h8=>⟨h1 i hi h3 h8,hr.1⟩) (fun i hi h3 h8 hd=>?_)⟩
  have:=mem_ofK.2 ⟨hi,hd.1⟩
  rw [hr.2] at this;cases this
 ·rename_i hr
  split at h
  ·cases h
  ·split at h
   ·rename_i h2
    rw [List.any_eq_true] at h2;obtain ⟨s,hs,hb⟩:=h2;unfold allA at hs
    split at hs
    ·rename_i h7;subst h7
     obtain ⟨hne,hall⟩:=mem_names.1 hs
     rcases NG hb with hb | hb
     ·refine ⟨.absent (SV t q) s,Kv hO hq hC rfl (fun i hi h3 h8=>⟨h1 i hi h3 h8,hb i (mem_ofK.2 ⟨hi,h1 i hi h3 h8⟩)⟩) (fun i hi h3 h8 hd=>?_)⟩
      exact hall i (mem_ofK.2 ⟨hi,hd.1⟩) hd.2
     ·exfalso
      cases hq':ofK t q.right 7 with
      | nil=>exact hne hq'
      | cons j m=>exact hall j (by rw [hq'];simp) (hb j (by rw [hq'];simp))
    ·split at hs
     ·rename_i h8;subst h8
      obtain ⟨hne,hall⟩:=mem_names.1 hs
      rcases NG hb with hb | hb
      ·exfalso
       exact hall i0 (mem_ofK.2 ⟨hi0,hk0⟩) (hb i0 (mem_ofK.2 ⟨hi0,hk0⟩))
      ·refine ⟨.hasc (SV t q) s,Kv hO hq hC rfl (fun i hi h3 h8=>⟨h1 i hi h3 h8,hall i (mem_ofK.2 ⟨hi,h1 i hi h3 h8⟩)⟩) (fun i hi h3 h8 hd=>?_)⟩
       exact hd.2 (hb i (mem_ofK.2 ⟨hi,hd.1⟩))
     ·cases hs
   ·cases h
theorem Tz {t:ATy} {q s:BSq} {k:Int} {p:Pt} (hO:OkT t) (hq:InQ t q) (hC:Cb t q) (hk:E5 t q.left=[k]) (hs:s∈(CM t k (ofK t q.left k) (ofK t q.right k)).2) (hp:CE t p s):∃ p,CE t p q:=by
 obtain ⟨h0,⟨i0,hi0,hk0⟩,h1⟩:=Hi hk;unfold CM at hs
 split at hs
 ·cases hs
 ·rename_i hr
  split at hs
  ·rename_i h6;subst h6
   simp only [List.mem_cons,List.not_mem_nil,or_false] at hs
   rcases hs with rfl | rfl
   ·refine ⟨.dom (SV t q) p,Kv hO hq hC rfl (fun i hi h3 h8=>⟨h1 i hi h3 h8,?_⟩) (fun i hi h3 h8 hd=>?_)⟩
    ·exact hp.2 _ (mem_cs.2 (List.mem_map.2 ⟨i,mem_ofK.2 ⟨hi,h1 i hi h3 h8⟩,rfl⟩))
    ·exact hd.2 (hp.1 _ (mem_cs.2 (List.mem_map.2 ⟨i,mem_ofK.2 ⟨hi,hd.1⟩,rfl⟩)))
   ·refine ⟨.cod (SV t q) p,Kv hO hq hC rfl (fun i hi h3 h8=>⟨h1 i hi h3 h8,?_⟩) (fun i hi h3 h8 hd=>?_)⟩
    ·exact hp.1 _ (mem_cs.2 (List.mem_map.2 ⟨i,mem_ofK.2 ⟨hi,h1 i hi h3 h8⟩,rfl⟩))
    ·exact hp.2 _ (mem_cs.2 (List.mem_map.2 ⟨i,mem_ofK.2 ⟨hi,hd.1⟩,rfl⟩)) hd.2
  ·split at hs
   ·cases hs
   ·rename_i hb
    obtain ⟨n,hn,rfl⟩:=List.mem_map.1 hs;unfold allA at hn
    split at hn
    ·rename_i h7;subst h7
     obtain ⟨hne,hall⟩:=mem_names.1 hn;refine ⟨.field (SV t q) n p,Kv hO hq hC rfl (fun i hi h3 h8=>⟨h1 i hi h3 h8,fun k hk=>?_⟩) (fun i hi h3 h8 hd=>?_)⟩
     ·exact hp.1 _ (mem_cs.2 (mem_parts.2 ⟨i,mem_ofK.2 ⟨hi,h1 i hi h3 h8⟩,hk⟩))
     ·have hi2:=mem_ofK.2 ⟨hi,hd.1⟩
      cases hq2:atN (nd t i) n with
      | none=>exact hall i hi2 hq2
      | some k=>exact hp.2 _ (mem_cs.2 (mem_parts.2 ⟨i,hi2,hq2⟩)) (hd.2 k hq2)
    ·split at hn
     ·rename_i h8;subst h8
      obtain ⟨hne,hall⟩:=mem_names.1 hn;refine ⟨.case (SV t q) n p,Kv hO hq hC rfl (fun i hi h3 h8=>⟨h1 i hi h3 h8,?_⟩) (fun i hi h3 h8 hd=>?_)⟩
      ·have hi2:=mem_ofK.2 ⟨hi,h1 i hi h3 h8⟩
       cases hq2:atN (nd t i) n with
       | none=>exact absurd hq2 (hall i hi2)
       | some k=>exact ⟨k,rfl,hp.1 _ (mem_cs.2 (mem_parts.2 ⟨i,hi2,hq2⟩))⟩
      ·obtain ⟨k,hk2,hk3⟩:=hd.2
       exact hp.2 _ (mem_cs.2 (mem_parts.2 ⟨i,mem_ofK.2 ⟨hi,hd.1⟩,hk2⟩)) hk3
     ·cases hn
theorem Ms {t:ATy} {q:BSq} (h1:¬ endA t q=true) (h2:openA t q=none) (h3:¬ If t q=true):Cb t q:=by
 unfold endA at h1;unfold openA at h2;unfold If at h3;rw [Bool.or_eq_true,List.any_eq_true,List.any_eq_true] at h1;simp only [List.any_eq_true,Bool.and_eq_true,decide_eq_true_eq] at h1 h3
 have hL:latA t q.left=none:=by
  cases hq:latA t q.left with
  | none=>rfl
  | some x=>rw [hq] at h2;cases h2
 have hR:latA t q.right=none:=by
  cases hq:latA t q.right with
  | none=>rfl
  | some x=>rw [hL,hq] at h2;cases h2
 exact ⟨fun i hi h=>h1 (.inl ⟨i,hi,h⟩),fun i hi h=>h1 (.inr ⟨i,hi,h⟩),Md hL,Md hR,fun i hi j hj h4 h5 h6=>h3 ⟨i,hi,j,hj,⟨h4,h5⟩,h6⟩⟩
theorem SW {t:ATy} {q:BSq} (hO:OkT t) (hq:InQ t q) (h:(BJ t q).1=true):∃ p,CE t p q:=by
 unfold BJ at h
 split at h
 ·cases h
 ·rename_i h1
  split at h
  ·cases h
  ·rename_i h2
   split at h
   ·cases h
   ·rename_i h3
    have hC:=Ms h1 h2 h3
    unfold F8 at h
    split at h
    ·rename_i hk
     exact ⟨.tag (SV t q) 0,Kv hO hq hC rfl (fun i hi h3 h8=>(R8 hk i hi h3 h8).elim) (fun i hi h3 h8 hd=>by have:=hd.1;omega)⟩
    ·rename_i k hk
     exact Ru hO hq hC hk h
    ·cases h
theorem Uw {t:ATy} {q s:BSq} {l:List BSq} {p:Pt} (h:openA t q=some l) (hs:s∈l) (hp:CE t p s):CE t p q:=by
 unfold openA at h
 split at h
 ·rename_i n rest hl
  obtain ⟨i,rfl,hk,hpm⟩:=Es hl
  cases h
  have key:Sat t p i->(∀ j∈rest,Sat t p j)->(∀ j∈q.right,¬ Sat t p j)->CE t p q:=fun h1 h2 h3=>⟨fun j hj=>by rcases List.mem_cons.1 (hpm.mem_iff.1 hj) with rfl | h;exact h1;exact h2 j h,h3⟩
  split at hs
  ·rename_i h10
   simp only [List.mem_singleton] at hs;subst hs
   exact key ((It h10).2 ⟨hp.1 _ (mem_cs.2 (by simp)),hp.1 _ (mem_cs.2 (by simp))⟩) (fun j hj=>hp.1 _ (mem_cs.2 (by simp [hj]))) hp.2
  ·rename_i h10
   have h9:(nd t i).kind=9:=(FC hk).resolve_right h10
   simp only [List.mem_cons,List.not_mem_nil,or_false] at hs
   rcases hs with rfl | rfl
   ·exact key ((Hj h9).2 (.inl (hp.1 _ (mem_cs.2 (by simp))))) (fun j hj=>hp.1 _ (mem_cs.2 (by simp [hj]))) hp.2
   ·exact key ((Hj h9).2 (.inr (hp.1 _ (mem_cs.2 (by simp))))) (fun j hj=>hp.1 _ (mem_cs.2 (by simp [hj]))) hp.2
 ·split at h
  ·rename_i n rest hl
   obtain ⟨i,rfl,hk,hpm⟩:=Es hl
   cases h
   have key:¬ Sat t p i->(∀ j∈rest,¬ Sat t p j)->(∀ j∈q.left,Sat t p j)->CE t p q:=fun h1 h2 h3=>⟨h3,fun j hj=>by rcases List.mem_cons.1 (hpm.mem_iff.1 hj) with rfl | h;exact h1;exact h2 j h⟩
   split at hs
   ·rename_i h9
    simp only [List.mem_singleton] at hs;subst hs
    exact key (fun h=>((Hj h9).1 h).elim (hp.2 _ (mem_cs.2 (by simp))) (hp.2 _ (mem_cs.2 (by simp)))) (fun j hj=>hp.2 _ (mem_cs.2 (by simp [hj]))) hp.1
   ·rename_i h9
    have h10:(nd t i).kind=10:=(FC hk).resolve_left h9
    simp only [List.mem_cons,List.not_mem_nil,or_false] at hs
    rcases hs with rfl | rfl
    ·exact key (fun h=>hp.2 _ (mem_cs.2 (by simp)) ((It h10).1 h).1) (fun j hj=>hp.2 _ (mem_cs.2 (by simp [hj]))) hp.1
    ·exact key (fun h=>hp.2 _ (mem_cs.2 (by simp)) ((It h10).1 h).2) (fun j hj=>hp.2 _ (mem_cs.2 (by simp [hj]))) hp.1
  ·cases h
theorem U2 {t:ATy} {q s:BSq} {p:Pt} (hO:OkT t) (hq:InQ t q) (hs:s∈(BJ t q).2) (hp:CE t p s):∃ p,CE t p q:=by
 unfold BJ at hs
 split at hs
 ·cases hs
 ·rename_i h1
  split at hs
  ·rename_i l h2
   exact ⟨p,Uw h2 hs hp⟩
  ·rename_i h2
   split at hs
   ·cases hs
   ·rename_i h3
    have hC:=Ms h1 h2 h3
    unfold F8 at hs
    split at hs
    ·cases hs
    ·rename_i k hk
     exact Tz hO hq hC hk hs hp
    ·cases hs
def wq (w:Int->Nat) (q:BSq):Nat:=wsum w q.left+wsum w q.right
theorem RR {t:ATy} {q:BSq} {l:List BSq} {p:Pt} {w:Int->Nat} (hw:∀ i,In t i->latB (nd t i).kind=true->w (nd t i).a+w (nd t i).b<w i) (hq:InQ t q) (h:openA t q=some l) (hp:CE t p q):∃ s∈l,CE t p s/\wq w s<wq w q:=by
 unfold openA at h
 split at h
 ·rename_i n rest hl
  obtain ⟨i,rfl,hk,hpm⟩:=Es hl
  cases h
  have hi:i∈q.left:=hpm.mem_iff.2 (by simp)
  have hrest:∀ j∈rest,Sat t p j:=fun j hj=>hp.1 j (hpm.mem_iff.2 (by simp [hj]))
  have hwi:=hw i (hq.1 i hi) hk
  have hwl:wsum w q.left=w i+wsum w rest:=by rw [Iv hpm];rfl
  have h2:∀ m:List Int,(∀ j∈m,Sat t p j)->wsum w m<w i->CE t p ⟨cs (rest++m),q.right⟩/\wq w ⟨cs (rest++m),q.right⟩<wq w q:=by
   intro m hm hwm
   refine ⟨⟨fun j hj=>?_,hp.2⟩,?_⟩
   ·rcases List.mem_append.1 (mem_cs.1 hj) with h | h
    ·exact hrest j h
    ·exact hm j h
   ·have:=Ns w (rest++m)
    rw [Js] at this;simp only [wq]
    omega
  split
  ·rename_i h10
   have hs:=(It h10).1 (hp.1 i hi)
   have:=h2 [(nd t i).a,(nd t i).b] (fun j hj=>by simp at hj;rcases hj with rfl | rfl;exact hs.1;exact hs.2) (by simp only [wsum];omega)
   exact ⟨_,by simp,this⟩
  ·rename_i h10
   have h9:(nd t i).kind=9:=(FC hk).resolve_right h10
   rcases (Hj h9).1 (hp.1 i hi) with hs | hs
   ·have:=h2 [(nd t i).a] (fun j hj=>by simp at hj;subst hj;exact hs) (by simp only [wsum];omega)
    exact ⟨_,by simp,this⟩
   ·have:=h2 [(nd t i).b] (fun j hj=>by simp at hj;subst hj;exact hs) (by simp only [wsum];omega)
    exact ⟨⟨cs (rest++[(nd t i).b]),q.right⟩,by simp,this⟩
 ·split at h
  ·rename_i n rest hl
   obtain ⟨i,rfl,hk,hpm⟩:=Es hl
   cases h
   have hi:i∈q.right:=hpm.mem_iff.2 (by simp)
   have hrest:∀ j∈rest,¬ Sat t p j:=fun j hj=>hp.2 j (hpm.mem_iff.2 (by simp [hj]))
   have hwi:=hw i (hq.2 i hi) hk
   have hwl:wsum w q.right=w i+wsum w rest:=by rw [Iv hpm];rfl
   have h2:∀ m:List Int,(∀ j∈m,¬ Sat t p j)->wsum w m<w i->CE t p ⟨q.left,cs (rest++m)⟩/\wq w ⟨q.left,cs (rest++m)⟩<wq w q:=by
    intro m hm hwm
    refine ⟨⟨hp.1,fun j hj=>?_⟩,?_⟩
    ·rcases List.mem_append.1 (mem_cs.1 hj) with h | h
     ·exact hrest j h
     ·exact hm j h
    ·have:=Ns w (rest++m)
     rw [Js] at this;simp only [wq]
     omega
   have hs:=hp.2 i hi
   split
   ·rename_i h9
    have:=h2 [(nd t i).a,(nd t i).b] (fun j hj=>by
     simp at hj
     rcases hj with rfl | rfl
     ·exact fun h=>hs ((Hj h9).2 (.inl h))
     ·exact fun h=>hs ((Hj h9).2 (.inr h))) (by simp only [wsum];omega)
    exact ⟨_,by simp,this⟩
   ·rename_i h9
    have h10:(nd t i).kind=10:=(FC hk).resolve_left h9
    by_cases ha:Sat t p (nd t i).a
    ·have:=h2 [(nd t i).b] (fun j hj=>by simp at hj;subst hj;exact fun h=>hs ((It h10).2 ⟨ha,h⟩)) (by simp only [wsum];omega)
     exact ⟨⟨q.left,cs (rest++[(nd t i).b])⟩,by simp,this⟩
    ·have:=h2 [(nd t i).a] (fun j hj=>by simp at hj;subst hj;exact ha) (by simp only [wsum];omega)
     exact ⟨_,by simp,this⟩
  ·cases h
theorem Tf {t:ATy} {q:BSq} {p:Pt} {k:Int} (hk:E5 t q.left=[k]) (hp:CE t p q):k=p.kind/\(3<=k/\k<=8)/\(∃ i,i∈ofK t q.left k)/\(∀ i∈ofK t q.left k,hdP t p (nd t i))/\∀ i∈ofK t q.right k,¬ hdP t p (nd t i):=by
 obtain ⟨h0,⟨i0,hi0,hk0⟩,h1⟩:=Hi hk
 have hd:∀ i∈ofK t q.left k,hdP t p (nd t i):=fun i hi=>by
  obtain ⟨h2,h3⟩:=mem_ofK.1 hi;exact (KK (by omega) (by omega)).1 (hp.1 i h2)
 refine ⟨?_,h0,⟨i0,mem_ofK.2 ⟨hi0,hk0⟩⟩,hd,fun i hi hh=>?_⟩
 ·rw [<- LR (hd i0 (mem_ofK.2 ⟨hi0,hk0⟩)),hk0]
 ·obtain ⟨h2,h3⟩:=mem_ofK.1 hi
  exact hp.2 i h2 ((KK (by omega) (by omega)).2 hh)
theorem Qd {t:ATy} {p:Pt} {l r:List Int} (h0:3<=p.kind/\p.kind<=8) (hne:∃ i,i∈l) (hK:∀ i∈r,(nd t i).kind=p.kind) (hL:∀ i∈l,hdP t p (nd t i)) (hR:∀ i∈r,¬ hdP t p (nd t i)) :
  (CM t p.kind l r).1=true\/∃ s∈(CM t p.kind l r).2,∃ p',CE t p' s/\p'.size<p.size:=by
 by_cases hr:p.kind≠8/\r=[]
 ·left;unfold CM;rw [if_pos hr]
 have hnil:p.kind≠8->r≠[]:=fun h h2=>hr ⟨h,h2⟩
 cases p with
 | tag S k =>
  exfalso
  by_cases h8:k=8
  ·obtain ⟨i,hi⟩:=hne
   exact (hL i hi).2 h8
  ·cases r with
   | nil=>exact hnil h8 rfl
   | cons j m=>exact hR j (by simp) ⟨hK j (by simp),h8⟩
 | dom S p =>
  right
  refine ⟨⟨cs (r.map fun i=>(nd t i).a),cs (l.map fun i=>(nd t i).a)⟩,by unfold CM;rw [if_neg hr];simp [Pt.kind],p,⟨fun x hx=>?_,fun x hx=>?_⟩,by simp [Pt.size]⟩
  ·obtain ⟨i,hi,rfl⟩:=List.mem_map.1 (mem_cs.1 hx)
   exact Classical.byContradiction fun h=>hR i hi ⟨hK i hi,h⟩
  ·obtain ⟨i,hi,rfl⟩:=List.mem_map.1 (mem_cs.1 hx)
   exact (hL i hi).2
 | cod S p =>
  right
  refine ⟨⟨cs (l.map fun i=>(nd t i).b),cs (r.map fun i=>(nd t i).b)⟩,by unfold CM;rw [if_neg hr];simp [Pt.kind],p,⟨fun x hx=>?_,fun x hx=>?_⟩,by simp [Pt.size]⟩
  ·obtain ⟨i,hi,rfl⟩:=List.mem_map.1 (mem_cs.1 hx)
   exact (hL i hi).2
  ·obtain ⟨i,hi,rfl⟩:=List.mem_map.1 (mem_cs.1 hx)
   exact fun h=>hR i hi ⟨hK i hi,h⟩
 | absent S s =>
  left
  have hs:s∈E9 t r:=mem_names.2 ⟨hnil (by simp [Pt.kind]),fun i hi h=>hR i hi ⟨hK i hi,h⟩⟩
  unfold CM;rw [if_neg hr,if_neg (by simp [Pt.kind]),if_pos (List.any_eq_true.2 ⟨s,by simp [allA,Pt.kind,hs],SZ (.inl fun i hi=>(hL i hi).2)⟩)]
 | field S s p =>
  have hex:∀ i∈r,∃ k,atN (nd t i) s=some k/\¬ Sat t p k:=fun i hi=>Classical.byContradiction fun h=>hR i hi ⟨hK i hi,fun k hk=>Classical.byContradiction fun h2=>h ⟨k,hk,h2⟩⟩
  have hs:s∈E9 t r:=mem_names.2 ⟨hnil (by simp [Pt.kind]),fun i hi h=>by obtain ⟨k,hk,_⟩:=hex i hi;rw [h] at hk;cases hk⟩
  by_cases hb:(allA t (Pt.field S s p).kind l r).any (badA t l r)=true
  ·left;unfold CM;rw [if_neg hr,if_neg (by simp [Pt.kind]),if_pos hb]
  ·right
   refine ⟨⟨cs (AR t l s),cs (AR t r s)⟩,?_,p,⟨fun x hx=>?_,fun x hx=>?_⟩,by simp [Pt.size]⟩
   ·unfold CM;rw [if_neg hr,if_neg (by simp [Pt.kind]),if_neg hb]
    exact List.mem_map.2 ⟨s,by simp [allA,Pt.kind,hs],rfl⟩
   ·obtain ⟨i,hi,hk⟩:=mem_parts.1 (mem_cs.1 hx)
    exact (hL i hi).2 x hk
   ·obtain ⟨i,hi,hk⟩:=mem_parts.1 (mem_cs.1 hx)
    obtain ⟨k,hk2,hk3⟩:=hex i hi;rw [hk] at hk2;cases hk2
    exact hk3
 | hasc S s =>
  left
  obtain ⟨i0,hi0⟩:=hne
  have hs:s∈E9 t l:=mem_names.2 ⟨fun e=>(by rw [e] at hi0;cases hi0),fun i hi=>(hL i hi).2⟩
  have hn:∀ i∈r,atN (nd t i) s=none:=fun i hi=>by
   cases hq:atN (nd t i) s with
   | none=>rfl
   | some k=>exact absurd ⟨hK i hi,by rw [hq];simp⟩ (hR i hi)
  unfold CM;rw [if_neg hr,if_neg (by simp [Pt.kind]),if_pos (List.any_eq_true.2 ⟨s,by simp [allA,Pt.kind,hs],SZ (.inr hn)⟩)]
 | case S s p =>
  obtain ⟨i0,hi0⟩:=hne
  have hs:s∈E9 t l:=mem_names.2 ⟨fun e=>(by rw [e] at hi0;cases hi0),fun i hi h=>by obtain ⟨k,hk,_⟩:=(hL i hi).2;rw [h] at hk;cases hk⟩
  by_cases hb:(allA t (Pt.case S s p).kind l r).any (badA t l r)=true
  ·left;unfold CM;rw [if_neg hr,if_neg (by simp [Pt.kind]),if_pos hb]
  ·right
   refine ⟨⟨cs (AR t l s),cs (AR t r s)⟩,?_,p,⟨fun x hx=>?_,fun x hx=>?_⟩,by simp [Pt.size]⟩
   ·unfold CM;rw [if_neg hr,if_neg (by simp [Pt.kind]),if_neg hb]
    exact List.mem_map.2 ⟨s,by simp [allA,Pt.kind,hs],rfl⟩
   ·obtain ⟨i,hi,hk⟩:=mem_parts.1 (mem_cs.1 hx)
    obtain ⟨k,hk2,hk3⟩:=(hL i hi).2;rw [hk] at hk2;cases hk2
    exact hk3
   ·obtain ⟨i,hi,hk⟩:=mem_parts.1 (mem_cs.1 hx)
    exact fun h=>hR i hi ⟨hK i hi,x,hk,h⟩
theorem Ix {t:ATy} {q:BSq} {p:Pt} {w:Int->Nat} (hO:OkT t) (hw:∀ i,In t i->latB (nd t i).kind=true->w (nd t i).a+w (nd t i).b<w i) (hq:InQ t q) (hp:CE t p q) :
  (BJ t q).1=true\/∃ s∈(BJ t q).2,∃ p',CE t p' s/\(p'.size<p.size\/(p'.size=p.size/\wq w s<wq w q)):=by
 have h1:¬ endA t q=true:=by
  unfold endA;rw [Bool.or_eq_true,List.any_eq_true,List.any_eq_true];rintro (⟨i,hi,h⟩ | ⟨i,hi,h⟩)
  ·exact Tm (of_decide_eq_true h) (hp.1 i hi)
  ·exact hp.2 i hi (VT (of_decide_eq_true h))
 unfold BJ;rw [if_neg h1]
 cases h2:openA t q with
 | some l =>
  right
  obtain ⟨s,hs,h3,h4⟩:=RR hw hq h2 hp;exact ⟨s,hs,p,h3,.inr ⟨rfl,h4⟩⟩
 | none =>
  have h3:¬ If t q=true:=by
   unfold If;simp only [List.any_eq_true,Bool.and_eq_true,decide_eq_true_eq];rintro ⟨i,hi,j,hj,⟨h4,h5⟩,h6⟩
   have:=(So h4).1 (hp.1 i hi)
   rw [h6] at this;exact hp.2 j hj ((So h5).2 this)
  simp only [if_neg h3];unfold F8
  cases hk:E5 t q.left with
  | nil=>left;rfl
  | cons k m =>
   cases m with
   | nil =>
    obtain ⟨rfl,h5,h6,h7,h8⟩:=Tf hk hp
    rcases Qd h5 h6 (fun i hi=>(mem_ofK.1 hi).2) h7 h8 with h | ⟨s,hs,p',h9,h10⟩
    ·left;exact h
    ·right;exact ⟨s,hs,p',h9,.inl h10⟩
   | cons b m =>
    exfalso
    obtain ⟨i,hi,j,hj,h5,h6,h7⟩:=RI hk
    have e1:=LR ((KK h5.1 h5.2).1 (hp.1 i hi))
    have e2:=LR ((KK h6.1 h6.2).1 (hp.1 j hj))
    exact h7 (e1.trans e2.symm)
structure Kept (t:ATy) (A:Int->Prop):Prop where
 inn:∀ i,A i->In t i
 pair:∀ i,A i->(nd t i).kind=6\/(nd t i).kind=9\/(nd t i).kind=10->A (nd t i).a/\A (nd t i).b
 fld:∀ i,A i->∀ f∈(nd t i).l,A f.at_
theorem Kept.all {t:ATy} (hO:OkT t):Kept t (In t):=⟨fun _ h=>h,fun _ h hk=>hO.pair h hk,fun _ h _ hf=>hO.at_ h hf⟩
def InAB (A B:Int->Prop) (q:BSq):Prop:=(∀ i∈q.left,A i)/\∀ i∈q.right,B i
theorem Kept.parts {t:ATy} {A:Int->Prop} (hA:Kept t A) {l:List Int} (h:∀ i∈l,A i) (s:List UInt8):∀ i∈cs (AR t l s),A i:=fun k hk=>by
 obtain ⟨i,hi,h2⟩:=mem_parts.1 (mem_cs.1 hk);obtain ⟨f,hf,_,rfl⟩:=Jt h2;exact hA.fld i (h i hi) f hf
theorem U7 {t:ATy} {A B:Int->Prop} (hA:Kept t A) (hB:Kept t B) {q s:BSq} (hq:InAB A B q) (hs:s∈(BJ t q).2):InAB A B s\/InAB B A s:=by
 unfold BJ at hs
 split at hs
 ·cases hs
 ·split at hs
  ·rename_i l h2
   left
   unfold openA at h2
   split at h2
   ·rename_i n rest hl
    obtain ⟨i,rfl,hk,hpm⟩:=Es hl
    cases h2
    have hi:A i:=hq.1 i (hpm.mem_iff.2 (by simp))
    have hp:=hA.pair i hi (.inr (FC hk))
    have hrest:∀ j∈rest,A j:=fun j hj=>hq.1 j (hpm.mem_iff.2 (by simp [hj]))
    have h2:∀ m:List Int,(∀ j∈m,A j)->InAB A B ⟨cs (rest++m),q.right⟩:=fun m hm=>⟨fun j hj=>by
     rcases List.mem_append.1 (mem_cs.1 hj) with h | h
     ·exact hrest j h
     ·exact hm j h,hq.2⟩
    split at hs
    ·simp only [List.mem_singleton] at hs;subst hs
     exact h2 _ (fun j hj=>by simp at hj;rcases hj with rfl | rfl;exact hp.1;exact hp.2)
    ·simp only [List.mem_cons,List.not_mem_nil,or_false] at hs
     rcases hs with rfl | rfl
     ·exact h2 _ (fun j hj=>by simp at hj;subst hj;exact hp.1)
     ·exact h2 _ (fun j hj=>by simp at hj;subst hj;exact hp.2)
   ·split at h2
    ·rename_i n rest hl
     obtain ⟨i,rfl,hk,hpm⟩:=Es hl
     cases h2
     have hi:B i:=hq.2 i (hpm.mem_iff.2 (by simp))
     have hp:=hB.pair i hi (.inr (FC hk))
     have hrest:∀ j∈rest,B j:=fun j hj=>hq.2 j (hpm.mem_iff.2 (by simp [hj]))
     have h2:∀ m:List Int,(∀ j∈m,B j)->InAB A B ⟨q.left,cs (rest++m)⟩:=fun m hm=>⟨hq.1,fun j hj=>by
      rcases List.mem_append.1 (mem_cs.1 hj) with h | h
      ·exact hrest j h
      ·exact hm j h⟩
     split at hs
     ·simp only [List.mem_singleton] at hs;subst hs
      exact h2 _ (fun j hj=>by simp at hj;rcases hj with rfl | rfl;exact hp.1;exact hp.2)
     ·simp only [List.mem_cons,List.not_mem_nil,or_false] at hs
      rcases hs with rfl | rfl
      ·exact h2 _ (fun j hj=>by simp at hj;subst hj;exact hp.1)
      ·exact h2 _ (fun j hj=>by simp at hj;subst hj;exact hp.2)
    ·cases h2
  ·split at hs
   ·cases hs
   ·unfold F8 at hs
    split at hs
    ·cases hs
    ·rename_i k hk
     have hL:∀ i∈ofK t q.left k,A i:=fun i hi=>hq.1 i (mem_ofK.1 hi).1
     have hR:∀ i∈ofK t q.right k,B i:=fun i hi=>hq.2 i (mem_ofK.1 hi).1
     unfold CM at hs
     split at hs
     ·cases hs
     ·split at hs
      ·rename_i h6;subst h6
       simp only [List.mem_cons,List.not_mem_nil,or_false] at hs
       rcases hs with rfl | rfl
       ·right
        refine ⟨fun x hx=>?_,fun x hx=>?_⟩ <;> obtain ⟨i,hi,rfl⟩:=List.mem_map.1 (mem_cs.1 hx)
        ·exact (hB.pair i (hR i hi) (.inl (mem_ofK.1 hi).2)).1
        ·exact (hA.pair i (hL i hi) (.inl (mem_ofK.1 hi).2)).1
       ·left
        refine ⟨fun x hx=>?_,fun x hx=>?_⟩ <;> obtain ⟨i,hi,rfl⟩:=List.mem_map.1 (mem_cs.1 hx)
        ·exact (hA.pair i (hL i hi) (.inl (mem_ofK.1 hi).2)).2
        ·exact (hB.pair i (hR i hi) (.inl (mem_ofK.1 hi).2)).2
      ·split at hs
       ·cases hs
       ·obtain ⟨n,hn,rfl⟩:=List.mem_map.1 hs
        left
        exact ⟨hA.parts hL n,hB.parts hR n⟩
    ·cases hs
inductive Rch (t:ATy) (q:BSq):BSq->Prop
 | refl:Rch t q q
 | step {s s':BSq}:Rch t q s->s'∈(BJ t s).2->Rch t q s'
theorem Rch.head {t:ATy} {q s s':BSq} (h1:s∈(BJ t q).2) (h:Rch t s s'):Rch t q s':=by
 induction h with
 | refl=>exact .step .refl h1
 | step _ h2 ih=>exact .step ih h2
theorem Im {t:ATy} (hO:OkT t) {q s:BSq} (hq:InQ t q) (hs:s∈(BJ t q).2):InQ t s:=(U7 (Kept.all hO) (Kept.all hO) hq hs).elim id id
theorem Rch.inQ {t:ATy} (hO:OkT t) {q s:BSq} (hq:InQ t q) (h:Rch t q s):InQ t s:=by
 induction h with
 | refl=>exact hq
 | step _ h2 ih=>exact Im hO ih h2
theorem To {t:ATy} (hO:OkT t) {w:Int->Nat} (hw:∀ i,In t i->latB (nd t i).kind=true->w (nd t i).a+w (nd t i).b<w i):∀ (n m:Nat) (q:BSq) (p:Pt),p.size<=n->wq w q<=m->InQ t q->CE t p q->∃ s,Rch t q s/\(BJ t s).1=true:=by
 intro n
 induction n with
 | zero =>
  intro m
  induction m with
  | zero =>
   intro q p h1 h2 hq hp
   rcases Ix hO hw hq hp with h | ⟨s,_,p',_,h⟩
   ·exact ⟨q,.refl,h⟩
   ·omega
  | succ m ih =>
   intro q p h1 h2 hq hp
   rcases Ix hO hw hq hp with h | ⟨s,hs,p',hp',h⟩
   ·exact ⟨q,.refl,h⟩
   ·obtain ⟨s',h3,h4⟩:=ih s p' (by omega) (by omega) (Im hO hq hs) hp'
    exact ⟨s',h3.head hs,h4⟩
 | succ n ihn =>
  intro m
  induction m with
  | zero =>
   intro q p h1 h2 hq hp
   rcases Ix hO hw hq hp with h | ⟨s,hs,p',hp',h⟩
   ·exact ⟨q,.refl,h⟩
   ·obtain ⟨s',h3,h4⟩:=ihn (wq w s) s p' (by omega) (Nat.le_refl _) (Im hO hq hs) hp'
    exact ⟨s',h3.head hs,h4⟩
  | succ m ih =>
   intro q p h1 h2 hq hp
   rcases Ix hO hw hq hp with h | ⟨s,hs,p',hp',h⟩
   ·exact ⟨q,.refl,h⟩
   ·by_cases h5:p'.size<=n
    ·obtain ⟨s',h3,h4⟩:=ihn (wq w s) s p' h5 (Nat.le_refl _) (Im hO hq hs) hp'
     exact ⟨s',h3.head hs,h4⟩
    ·obtain ⟨s',h3,h4⟩:=ih s p' (by omega) (by omega) (Im hO hq hs) hp'
     exact ⟨s',h3.head hs,h4⟩
theorem SS {t:ATy} (hO:OkT t) {q s:BSq} (h:Rch t q s) (hq:InQ t q) (hs:∃ p,CE t p s):∃ p,CE t p q:=by
 induction h with
 | refl=>exact hs
 | step h1 h2 ih =>
  obtain ⟨p,hp⟩:=hs;exact ih (U2 hO (h1.inQ hO hq) h2 hp)
def Valid (t:ATy) (q:BSq):Prop:=∀ p,¬ CE t p q
theorem Rm {t:ATy} (hO:OkT t) {q:BSq} (hq:InQ t q):(∀ s,Rch t q s->(BJ t s).1=false)↔Valid t q:=by
 obtain ⟨w,hw⟩:=hO.weight
 constructor
 ·intro h p hp
  obtain ⟨s,h1,h2⟩:=To hO hw p.size (wq w q) q p (Nat.le_refl _) (Nat.le_refl _) hq hp;rw [h s h1] at h2;cases h2
 ·intro h s hs
  cases h1:(BJ t s).1 with
  | false=>rfl
  | true =>
   obtain ⟨p,hp⟩:=SS hO hs hq (SW hO (hs.inQ hO hq) h1);exact absurd hp (h p)
def rngI (n:Nat):List Int:=(List.range n).map fun k:Nat=>(k:Int)
theorem mem_rngI {n:Nat} {x:Int}:x∈rngI n↔0<=x/\x<(n:Int):=by
 unfold rngI;rw [List.mem_map]
 constructor
 ·rintro ⟨k,hk,rfl⟩
  have:=List.mem_range.1 hk
  omega
 ·rintro ⟨h1,h2⟩
  exact ⟨x.toNat,List.mem_range.2 (by omega),by omega⟩
structure Emb (s t:ATy) (f:Int->Int):Prop where
 node:∀ i,In s i->nd t (f i)=Aq f (nd s i)
theorem EW (f:Int->Int) (n:ANd):(Aq f n).kind=n.kind:=rfl
theorem BY {f:Int->Int} {n:ANd} (h:n.kind=6\/n.kind=9\/n.kind=10):(Aq f n).a=f n.a/\(Aq f n).b=f n.b:=by
 unfold Aq pB
 rcases h with h | h | h <;> rw [h] <;> exact ⟨rfl,rfl⟩
theorem Ht {f:Int->Int} {n:ANd} (h:n.kind=11):(Aq f n).a=n.a:=by
 unfold Aq pB;rw [h];rfl
theorem Ec (f:Int->Int) (n:ANd) (s:List UInt8):atN (Aq f n) s=(atN n s).map f:=by
 unfold atN Aq;rw [List.find?_map]
 show Option.map _ (Option.map _ (n.l.find? fun x=>decide (x.name=s)))=_
 rw [Option.map_map,Option.map_map];rfl
theorem I4 {s t:ATy} {f:Int->Int} {S:Int->Prop} {D D':ANd->Prop} (hO:OkT s) (h:Emb s t f) (hD:∀ i,In s i->3<=(nd s i).kind->(nd s i).kind<=8->(D' (nd t (f i))↔D (nd s i))) :
  ∀ i,In s i->(La t S D' (f i)↔La s S D i):=by
 intro i hi
 constructor
 ·intro hla
  generalize hj:f i=j at hla
  induction hla generalizing i with
  | top h1=>subst hj;rw [h.node i hi] at h1;exact .top h1
  | inl h1 _ ih =>
   subst hj;rw [h.node i hi] at h1 ih
   have h1:(nd s i).kind=9:=h1
   exact .inl h1 (ih _ (hO.pair hi (.inr (.inl h1))).1 (BY (.inr (.inl h1))).1.symm)
  | inr h1 _ ih =>
   subst hj;rw [h.node i hi] at h1 ih
   have h1:(nd s i).kind=9:=h1
   exact .inr h1 (ih _ (hO.pair hi (.inr (.inl h1))).2 (BY (.inr (.inl h1))).2.symm)
  | both h1 _ _ ih1 ih2 =>
   subst hj;rw [h.node i hi] at h1 ih1 ih2
   have h1:(nd s i).kind=10:=h1
   exact .both h1 (ih1 _ (hO.pair hi (.inr (.inr h1))).1 (BY (.inr (.inr h1))).1.symm) (ih2 _ (hO.pair hi (.inr (.inr h1))).2 (BY (.inr (.inr h1))).2.symm)
  | var h1 h2 =>
   subst hj;rw [h.node i hi] at h1 h2
   have h1:(nd s i).kind=11:=h1
   rw [Ht h1] at h2;exact .var h1 h2
  | head h1 h2 h3 =>
   subst hj
   have h4:=h.node i hi
   rw [h4] at h1 h2;exact .head h1 h2 ((hD i hi h1 h2).1 h3)
 ·intro hla
  induction hla with
  | top h1=>exact .top (by rw [h.node _ hi];exact h1)
  | @inl i h1 _ ih =>
   have h4:=h.node i hi
   refine .inl (by rw [h4];exact h1) ?_;rw [h4,(BY (.inr (.inl h1))).1];exact ih (hO.pair hi (.inr (.inl h1))).1
  | @inr i h1 _ ih =>
   have h4:=h.node i hi
   refine .inr (by rw [h4];exact h1) ?_;rw [h4,(BY (.inr (.inl h1))).2];exact ih (hO.pair hi (.inr (.inl h1))).2
  | @both i h1 _ _ ih1 ih2 =>
   have h4:=h.node i hi
   refine .both (by rw [h4];exact h1) ?_ ?_
   ·rw [h4,(BY (.inr (.inr h1))).1]
    exact ih1 (hO.pair hi (.inr (.inr h1))).1
   ·rw [h4,(BY (.inr (.inr h1))).2]
    exact ih2 (hO.pair hi (.inr (.inr h1))).2
  | @var i h1 h2 =>
   have h4:=h.node i hi
   refine .var (by rw [h4];exact h1) ?_;rw [h4,Ht h1];exact h2
  | @head i h1 h2 h3 =>
   have h4:=h.node i hi
   exact .head (by rw [h4];exact h1) (by rw [h4];exact h2) ((hD i hi h1 h2).2 h3)
theorem M8 {t:ATy} (hO:OkT t) {i k:Int} {s:List UInt8} (hi:In t i) (h:atN (nd t i) s=some k):In t k:=by
 obtain ⟨f,hf,_,rfl⟩:=Jt h;exact hO.at_ hi hf
theorem Qx {s t:ATy} {f:Int->Int} (hO:OkT s) (h:Emb s t f):∀ (p:Pt) (i:Int),In s i->(Sat t p (f i)↔Sat s p i):=by
 intro p
 induction p with
 | tag S k =>
  refine I4 hO h fun i hi h1 h2=>?_;rw [h.node i hi];exact Iff.rfl
 | dom S q ih =>
  refine I4 hO h fun i hi h1 h2=>?_;rw [h.node i hi]
  show ((nd s i).kind=6/\¬ Sat t q (Aq f (nd s i)).a)↔((nd s i).kind=6/\¬ Sat s q (nd s i).a)
  refine and_congr_right fun h6=>?_;rw [(BY (.inl h6)).1,ih _ (hO.pair hi (.inl h6)).1]
 | cod S q ih =>
  refine I4 hO h fun i hi h1 h2=>?_;rw [h.node i hi]
  show ((nd s i).kind=6/\Sat t q (Aq f (nd s i)).b)↔((nd s i).kind=6/\Sat s q (nd s i).b)
  refine and_congr_right fun h6=>?_;rw [(BY (.inl h6)).2,ih _ (hO.pair hi (.inl h6)).2]
 | absent S n =>
  refine I4 hO h fun i hi h1 h2=>?_;rw [h.node i hi]
  show ((nd s i).kind=7/\atN (Aq f (nd s i)) n=none)↔((nd s i).kind=7/\atN (nd s i) n=none)
  rw [Ec,Option.map_eq_none_iff]
 | field S n q ih =>
  refine I4 hO h fun i hi h1 h2=>?_;rw [h.node i hi]
  show ((nd s i).kind=7/\∀ k,atN (Aq f (nd s i)) n=some k->Sat t q k)↔((nd s i).kind=7/\∀ k,atN (nd s i) n=some k->Sat s q k)
  rw [Ec]
  cases hq:atN (nd s i) n with
  | none=>simp
  | some k =>
   simp only [Option.map_some,Option.some.injEq,forall_eq'];rw [ih k (M8 hO hi hq)]
 | hasc S n =>
  refine I4 hO h fun i hi h1 h2=>?_;rw [h.node i hi]
  show ((nd s i).kind=8/\atN (Aq f (nd s i)) n≠none)↔((nd s i).kind=8/\atN (nd s i) n≠none)
  rw [Ec,ne_eq,Option.map_eq_none_iff]
 | case S n q ih =>
  refine I4 hO h fun i hi h1 h2=>?_;rw [h.node i hi]
  show ((nd s i).kind=8/\∃ k,atN (Aq f (nd s i)) n=some k/\Sat t q k)↔((nd s i).kind=8/\∃ k,atN (nd s i) n=some k/\Sat s q k)
  rw [Ec]
  cases hq:atN (nd s i) n with
  | none=>simp
  | some k =>
   simp only [Option.map_some,Option.some.injEq,exists_eq_left'];rw [ih k (M8 hO hi hq)]
theorem Tt {all all':Int} (hle:all<=all') {l:List Int} (h:¬ ∃ k∈l,inB all k=true):¬ ∃ k∈l,inB all' k=true:=by
 rintro ⟨k,hk,h2⟩;refine h ⟨k,hk,?_⟩;unfold inB at h2 ⊢;simp only [Bool.or_eq_true,decide_eq_true_eq] at h2 ⊢
 omega
theorem PC {n:ANd} {all all':Int} (h:AY n all=true) (hle:all<=all'):AY n all'=true:=by
 unfold AY at h ⊢;rw [Bool.and_eq_true,Bool.and_eq_true,Bool.and_eq_true,Bool.and_eq_true,Bool.and_eq_true] at h ⊢;obtain ⟨h1,h2,h3,h4,h5,h6⟩:=h;refine ⟨h1,h2,h3,h4,h5,?_⟩;rw [Bool.not_eq_true',decide_eq_false_iff_not] at h6 ⊢;exact Tt hle h6
theorem Oz {n:ANd} {f:Int->Int} (h:D1 n):D1 (Aq f n):=by
 intro i x hx
 have hx:(n.l.map fun x=>(⟨x.name,f x.at_⟩:AFd))[i]? = some x:=hx
 rw [List.getElem?_map] at hx
 cases hq:n.l[i]? with
 | none=>rw [hq] at hx;cases hx
 | some z =>
  rw [hq] at hx;cases hx
  obtain ⟨h1,h2⟩:=h i z hq;refine ⟨h1,fun h0 y hy=>?_⟩
  have hy:(n.l.map fun x=>(⟨x.name,f x.at_⟩:AFd))[i - 1]? = some y:=hy
  rw [List.getElem?_map] at hy
  cases hq2:n.l[i - 1]? with
  | none=>rw [hq2] at hy;cases hy
  | some z2=>rw [hq2] at hy;cases hy;exact h2 h0 z2 hq2
theorem Lc {n:ANd} {f:Int->Int}:kidsL (Aq f n)=(kidsL n).map f:=by
 unfold kidsL;rw [EW]
 cases hp:pB n.kind
 ·cases wB n.kind
  ·rfl
  ·unfold Aq;simp only [cF_,cT,List.map_map];rfl
 ·unfold Aq;simp only [cT,hp,List.map_cons,List.map_nil]
theorem Kx {n:ANd} {all all':Int} {f:Int->Int} (h:AY n all=true) (hf:∀ k,0<=k->k<all->0<=f k/\f k<all'):AY (Aq f n) all'=true:=by
 have hk:=Ip h
 unfold AY at h ⊢;rw [Bool.and_eq_true,Bool.and_eq_true,Bool.and_eq_true,Bool.and_eq_true,Bool.and_eq_true] at h ⊢;obtain ⟨h1,h2,h3,h4,h5,h6⟩:=h;refine ⟨h1,?_,?_,?_,?_,?_⟩
 ·rw [EW]
  cases hp:pB n.kind with
  | true=>rfl
  | false =>
   rw [hp] at h2;unfold Aq;rw [hp];exact h2
 ·rw [EW]
  by_cases h11:n.kind=11
  ·rw [Ht h11];exact h3
  ·rw [dF h11];rfl
 ·unfold Aq;simp only [List.length_map];exact h4
 ·rw [Bool.and_eq_true,decide_eq_true_eq] at h5 ⊢
  exact ⟨Oz h5.1,by unfold Aq;simp only [List.length_map];exact h5.2⟩
 ·rw [Bool.not_eq_true',decide_eq_false_iff_not,Lc]
  rintro ⟨k,hk1,hk2⟩;obtain ⟨k0,hk0,rfl⟩:=List.mem_map.1 hk1
  have:=hk k0 hk0
  have:=hf k0 this.1 this.2
  unfold inB at hk2;simp only [Bool.or_eq_true,decide_eq_true_eq] at hk2
  omega
theorem J4 {A B:List ANd} (hA:InL A):∀ (k i:Nat),i<A.length->endk A k i=true->endk (A++B) k i=true
 | 0,_,_,h=>by cases h
 | k+1,i,hi,h=>by
  unfold endk at h ⊢;rw [List.getElem?_append_left hi]
  have hx:A[i]? = some A[i]:=List.getElem?_eq_getElem hi
  rw [hx] at h ⊢
  simp only at h ⊢
  cases hl:latB A[i].kind with
  | false=>rfl
  | true =>
   rw [hl] at h
   have hk:=DM hl
   have h1:=hA _ (List.getElem_mem hi) A[i].a (by rw [hk];simp)
   have h2:=hA _ (List.getElem_mem hi) A[i].b (by rw [hk];simp)
   simp only [Bool.not_true,Bool.false_or,Bool.and_eq_true] at h ⊢;exact ⟨J4 hA k _ (by omega) h.1,J4 hA k _ (by omega) h.2⟩
theorem I8 {A B:List ANd} (hB:InL B):∀ (k i:Nat),i<B.length->endk B k i=true->endk (A++B.map (Aq (· + (A.length:Int)))) k (i+A.length)=true
 | 0,_,_,h=>by cases h
 | k+1,i,hi,h=>by
  unfold endk at h ⊢;rw [List.getElem?_append_right (by omega),Nat.add_sub_cancel,List.getElem?_map]
  have hx:B[i]? = some B[i]:=List.getElem?_eq_getElem hi
  rw [hx] at h ⊢;simp only [Option.map_some,EW] at h ⊢
  cases hl:latB B[i].kind with
  | false=>rfl
  | true =>
   rw [hl] at h
   have hk:=DM hl
   have h1:=hB _ (List.getElem_mem hi) B[i].a (by rw [hk];simp)
   have h2:=hB _ (List.getElem_mem hi) B[i].b (by rw [hk];simp)
   have hab:=BY (f:=(· + (A.length:Int))) (n:=B[i]) (.inr (FC hl))
   simp only [Bool.not_true,Bool.false_or,Bool.and_eq_true] at h ⊢;rw [hab.1,hab.2,show (B[i].a+(A.length:Int)).toNat=B[i].a.toNat+A.length by omega,show (B[i].b+(A.length:Int)).toNat=B[i].b.toNat+A.length by omega];exact ⟨I8 hB k _ (by omega) h.1,I8 hB k _ (by omega) h.2⟩
theorem J8 (n:ANd):Aq (fun k=>k) n=n:=by
 unfold Aq;rw [Bool.cond_self,Bool.cond_self]
 have:n.l.map (fun x=>(⟨x.name,x.at_⟩:AFd))=n.l:=by
  conv=>rhs;rw [<- List.map_id n.l]
  rfl
 rw [this]
theorem S2 {a t:ATy} {X:List ANd} (h:t.l=a.l++X):Emb a t (fun k=>k):=⟨fun i hi=>by
 rw [J8]
 have hil:i.toNat<a.l.length:=by have:=hi.1;have:=hi.2;omega
 unfold nd;rw [h,List.getElem?_append_left hil]⟩
theorem RS {a b t:ATy} {X:List ANd} (h:t.l=a.l++b.l.map (Aq (fun k=>k+(a.l.length:Int)))++X):Emb b t (fun k=>k+(a.l.length:Int)):=⟨fun i hi=>by
 have hil:i.toNat<b.l.length:=by have:=hi.1;have:=hi.2;omega
 have h1:=HX hi
 have e:(i+(a.l.length:Int)).toNat=a.l.length+i.toNat:=by have:=hi.1;omega
 show (t.l[(i+(a.l.length:Int)).toNat]?).getD ⟨0,0,0,[]⟩=_
 rw [h,e,List.getElem?_append_left (by rw [List.length_append,List.length_map];omega),List.getElem?_append_right (by omega),Nat.add_sub_cancel_left,List.getElem?_map,h1]
 rfl⟩
theorem G4 (a b:ATy):(Dj a b).l.length=a.l.length+b.l.length:=by unfold Dj;rw [List.length_append,List.length_map]
theorem Sz {a b:ATy} (ha:OkT a) (hb:OkT b):OkT (Dj a b):=by
 refine ⟨fun n hn=>?_,fun i hi=>?_⟩
 ·rw [G4]
  unfold Dj at hn
  rcases List.mem_append.1 hn with hn | hn
  ·exact PC (ha.right n hn) (by omega)
  ·obtain ⟨m,hm,rfl⟩:=List.mem_map.1 hn
   exact Kx (hb.right m hm) (fun k h1 h2=>by omega)
 ·rw [G4] at hi
  by_cases h:i<a.l.length
  ·obtain ⟨k,hk⟩:=ha.ends i h
   exact ⟨k,J4 (AP ha.right) k i h hk⟩
  ·obtain ⟨k,hk⟩:=hb.ends (i - a.l.length) (by omega)
   have:=I8 (A:=a.l) (AP hb.right) k (i - a.l.length) (by omega) hk
   rw [Nat.sub_add_cancel (by omega)] at this;exact ⟨k,this⟩
structure MayO (a:ATy):Prop where
 may:mayT a.l a.root=0
 nb:∀ n∈a.l,NB n
theorem MayO.ok {a:ATy} (h:MayO a):OkT a:=⟨(Eu h.may).2.2.2.2.1,(Eu h.may).2.2.2.2.2⟩
theorem MayO.root {a:ATy} (h:MayO a):In a a.root:=⟨(Eu h.may).2.2.1,(Eu h.may).2.2.2.1⟩
theorem Rp {a b:ATy} {i:Int} (h:In a i):In (Dj a b) i:=⟨h.1,by rw [G4];have:=h.2;omega⟩
theorem RT {a b:ATy} {i:Int} (h:In b i):In (Dj a b) (i+(a.l.length:Int)):=⟨by have:=h.1;omega,by rw [G4];have:=h.2;omega⟩
theorem Oc (a b:ATy):Emb a (Dj a b) (fun k=>k):=S2 (X:=b.l.map (Aq (fun k=>k+(a.l.length:Int)))) rfl
theorem OI (a b:ATy):Emb b (Dj a b) (fun k=>k+(a.l.length:Int)):=RS (X:=[]) (by rw [List.append_nil];rfl)
theorem K8 (x:Int):cs [x]=[x]:=(MW (l:=[x]) (m:=[x]) (by simp) (fun _=>Iff.rfl)).symm
section
variable {t:ATy} {r1 r2 j m1 m2:Int} {la lb lc ra rb rc rd:List Int}
end
section
variable {t:ATy} {r1 r2 j m1 m2:Int} {la lb lc ra rb rc rd:List Int}
end
def hdR (t:ATy) (ρ:Pt->Int->Prop):Pt->ANd->Prop
 | .tag _ k,x=>x.kind=k/\k≠8
 | .dom _ q,x=>x.kind=6/\¬ La t (ρ q) (hdR t ρ q) x.a
 | .cod _ q,x=>x.kind=6/\La t (ρ q) (hdR t ρ q) x.b
 | .absent _ s,x=>x.kind=7/\atN x s=none
 | .field _ s q,x=>x.kind=7/\∀ k,atN x s=some k->La t (ρ q) (hdR t ρ q) k
 | .hasc _ s,x=>x.kind=8/\atN x s≠none
 | .case _ s q,x=>x.kind=8/\∃ k,atN x s=some k/\La t (ρ q) (hdR t ρ q) k
def SatR (t:ATy) (ρ:Pt->Int->Prop) (p:Pt) (i:Int):Prop:=La t (ρ p) (hdR t ρ p) i
theorem Tx {t:ATy}:∀ (p:Pt) (x:ANd),hdR t Pt.vars p x↔hdP t p x:=by
 intro p
 induction p with
 | tag S k=>intro x;exact Iff.rfl
 | absent S s=>intro x;exact Iff.rfl
 | hasc S s=>intro x;exact Iff.rfl
 | dom S q ih=>intro x;have e:hdR t Pt.vars q=hdP t q:=funext fun y=>propext (ih y);unfold hdR hdP;rw [e]
 | cod S q ih=>intro x;have e:hdR t Pt.vars q=hdP t q:=funext fun y=>propext (ih y);unfold hdR hdP;rw [e]
 | field S s q ih=>intro x;have e:hdR t Pt.vars q=hdP t q:=funext fun y=>propext (ih y);unfold hdR hdP;rw [e]
 | case S s q ih=>intro x;have e:hdR t Pt.vars q=hdP t q:=funext fun y=>propext (ih y);unfold hdR hdP;rw [e]
theorem Mp {t:ATy} (p:Pt) (i:Int):SatR t Pt.vars p i↔Sat t p i:=by
 have e:hdR t Pt.vars p=hdP t p:=funext fun y=>propext (Tx p y)
 unfold SatR Sat;rw [e]
section
variable {t:ATy} {P M G:Int->Prop}
end
section
variable {t:ATy} {P M G:Int->Prop} {g:BSq}
end
def edF (l:List AutoEdge):List AFd:=l.map fun e=>⟨e.name,e.to_⟩
def evK (p:Bool):Int:=bif p then 1 else 2
def noK (p:Bool):Int:=bif p then 2 else 1
def joK (p:Bool):Int:=bif p then 9 else 10
def An (s:AutoState):List ANd:=
 (if s.all then [⟨evK s.plus,0,0,[]⟩] else [])++(if s.int then [⟨3,0,0,[]⟩] else [])++(if s.bool then [⟨4,0,0,[]⟩] else [])++(if s.str then [⟨5,0,0,[]⟩] else [])++s.vars.map (fun v=>⟨11,v,0,[]⟩) ++
 (if s.arrow then [⟨6,s.dom,s.cod,[]⟩] else [])++(if s.rec_ then [⟨7,0,0,edF s.fields⟩] else [])++(if s.tag then [⟨8,0,0,edF s.tags⟩] else [])
def nodeS (S:Int->Prop) (D:ANd->Prop) (n:ANd):Prop:=n.kind=1\/(n.kind=11/\S n.a)\/(3<=n.kind/\n.kind<=8/\D n)
def someS (p:Bool) (S:Int->Prop) (D:ANd->Prop) (l:List ANd):Prop:=if p then ∃ n∈l,nodeS S D n else ∀ n∈l,nodeS S D n
def stL (a:List AutoState) (i:Int):AutoState:=(a[i.toNat]?).getD ⟨true,false,false,false,false,false,false,false,[],0,0,[],[]⟩
def stS (a:List AutoState) (S:Int->Prop) (D:ANd->Prop) (i:Int):Prop:=someS (stL a i).plus S D (An (stL a i))
def hdS (a:List AutoState) (ρ:Pt->Int->Prop):Pt->ANd->Prop
 | .tag _ k,x=>x.kind=k/\k≠8
 | .dom _ q,x=>x.kind=6/\¬ stS a (ρ q) (hdS a ρ q) x.a
 | .cod _ q,x=>x.kind=6/\stS a (ρ q) (hdS a ρ q) x.b
 | .absent _ s,x=>x.kind=7/\atN x s=none
 | .field _ s q,x=>x.kind=7/\∀ k,atN x s=some k->stS a (ρ q) (hdS a ρ q) k
 | .hasc _ s,x=>x.kind=8/\atN x s≠none
 | .case _ s q,x=>x.kind=8/\∃ k,atN x s=some k/\stS a (ρ q) (hdS a ρ q) k
def SatS (a:List AutoState) (ρ:Pt->Int->Prop) (p:Pt) (i:Int):Prop:=stS a (ρ p) (hdS a ρ p) i
inductive Rep (w:ATy) (k no:Int):List ANd->Int->Prop
 | none {i:Int}:In w i->(nd w i).kind=no->Rep w k no [] i
 | one {i:Int}:In w i->(nd w i).kind≠9->(nd w i).kind≠10->Rep w k no [nd w i] i
 | join {i:Int} {l m:List ANd}:In w i->(nd w i).kind=k->Rep w k no l (nd w i).a->Rep w k no m (nd w i).b->Rep w k no (l++m) i
theorem Qv {w:ATy} {S:Int->Prop} {D:ANd->Prop} {i:Int} (hO:OkT w) (hi:In w i) (h9:(nd w i).kind≠9) (h10:(nd w i).kind≠10):La w S D i↔nodeS S D (nd w i):=by
 have hk:=hO.kind hi
 constructor
 ·intro h
  cases h with
  | top h=>exact .inl h
  | inl h _=>exact absurd h h9
  | inr h _=>exact absurd h h9
  | both h _ _=>exact absurd h h10
  | var h h2=>exact .inr (.inl ⟨h,h2⟩)
  | head h1 h2 h3=>exact .inr (.inr ⟨h1,h2,h3⟩)
 ·rintro (h | ⟨h,h2⟩ | ⟨h1,h2,h3⟩)
  ·exact .top h
  ·exact .var h h2
  ·exact .head h1 h2 h3
theorem Vz {w:ATy} {S:Int->Prop} {D:ANd->Prop} (hO:OkT w) {p:Bool} {l:List ANd} {i:Int} (h:Rep w (joK p) (noK p) l i):La w S D i↔someS p S D l:=by
 cases p with
 | true =>
  show La w S D i↔∃ n∈l,nodeS S D n
  generalize e1:joK true=k at h
  generalize e2:noK true=no at h
  induction h with
  | none _ h=>subst e2;exact ⟨fun h2=>absurd h2 (Tm h),fun ⟨_,h2,_⟩=>(by cases h2)⟩
  | one hi h9 h10=>rw [Qv hO hi h9 h10];simp
  | join _ h _ _ ih1 ih2 =>
   subst e1;rw [Hj h,ih1,ih2];simp only [List.mem_append];exact ⟨fun h=>h.elim (fun ⟨n,a,b⟩=>⟨n,.inl a,b⟩) (fun ⟨n,a,b⟩=>⟨n,.inr a,b⟩),fun ⟨n,a,b⟩=>a.elim (fun a => .inl ⟨n,a,b⟩) (fun a => .inr ⟨n,a,b⟩)⟩
 | false =>
  show La w S D i↔∀ n∈l,nodeS S D n
  generalize e1:joK false=k at h
  generalize e2:noK false=no at h
  induction h with
  | none _ h=>subst e2;exact ⟨fun _ _ h2=>(by cases h2),fun _ => .top h⟩
  | one hi h9 h10=>rw [Qv hO hi h9 h10];simp
  | join _ h _ _ ih1 ih2 =>
   subst e1;rw [It h,ih1,ih2];simp only [List.mem_append];exact ⟨fun h n hn=>hn.elim (h.1 n) (h.2 n),fun h=>⟨fun n hn=>h n (.inl hn),fun n hn=>h n (.inr hn)⟩⟩
structure RepA (w:ATy) (a:List AutoState) (at_:Int->Int):Prop where
 ok:OkT w
 rep:∀ i:Int,0<=i->i<(a.length:Int)->∃ l,Rep w (joK (stL a i).plus) (noK (stL a i).plus) l (at_ i)/\∀ n,n∈l↔n∈(An (stL a i)).map (Aq at_)
structure PolA (a:List AutoState):Prop where
 arrow:∀ i:Int,0<=i->i<(a.length:Int)->(stL a i).arrow=true->(0<=(stL a i).dom/\(stL a i).dom<(a.length:Int)/\(stL a (stL a i).dom).plus = !(stL a i).plus)/\(0<=(stL a i).cod/\(stL a i).cod<(a.length:Int)/\(stL a (stL a i).cod).plus=(stL a i).plus)
 edge:∀ i:Int,0<=i->i<(a.length:Int)->∀ e,(e∈(stL a i).fields/\(stL a i).rec_=true)\/(e∈(stL a i).tags/\(stL a i).tag=true)->0<=e.to_/\e.to_<(a.length:Int)/\(stL a e.to_).plus=(stL a i).plus
theorem SD {p:Bool} {S S':Int->Prop} {D D':ANd->Prop} {l l':List ANd} (f:ANd->ANd) (hl:∀ n,n∈l↔n∈l'.map f) (h:∀ n∈l',(nodeS S D (f n)↔nodeS S' D' n)):someS p S D l↔someS p S' D' l':=by
 unfold someS
 cases p with
 | true =>
  simp only [if_true]
  constructor
  ·rintro ⟨n,h1,h2⟩
   obtain ⟨m,hm,rfl⟩:=List.mem_map.1 ((hl n).1 h1);exact ⟨m,hm,(h m hm).1 h2⟩
  ·rintro ⟨m,hm,h2⟩
   exact ⟨f m,(hl _).2 (List.mem_map.2 ⟨m,hm,rfl⟩),(h m hm).2 h2⟩
 | false =>
  simp only [Bool.false_eq_true,if_false]
  constructor
  ·intro h1 m hm
   exact (h m hm).1 (h1 _ ((hl _).2 (List.mem_map.2 ⟨m,hm,rfl⟩)))
  ·intro h1 n hn
   obtain ⟨m,hm,rfl⟩:=List.mem_map.1 ((hl n).1 hn);exact (h m hm).2 (h1 m hm)
theorem CP {a:List AutoState} (hp:PolA a) {i:Int} (h0:0<=i) (h1:i<(a.length:Int)) {n:ANd} (hn:n∈An (stL a i)) :
  ((n.kind=6->(stL a i).arrow=true/\n.a=(stL a i).dom/\n.b=(stL a i).cod)/\∀ f∈n.l,0<=f.at_/\f.at_<(a.length:Int)/\(stL a f.at_).plus=(stL a i).plus)/\n.kind≠9/\n.kind≠10/\(n.l≠[]->n.kind=7\/n.kind=8):=by
 have key:∀ {l:List AutoEdge},(∀ e∈l,0<=e.to_/\e.to_<(a.length:Int)/\(stL a e.to_).plus=(stL a i).plus)->∀ f∈edF l,0<=f.at_/\f.at_<(a.length:Int)/\(stL a f.at_).plus=(stL a i).plus:=fun {l} h f hf=>by
  obtain ⟨e,he,rfl⟩:=List.mem_map.1 hf;exact h e he
 have ev:evK (stL a i).plus=1\/evK (stL a i).plus=2:=by cases (stL a i).plus <;> simp [evK]
 unfold An at hn;simp only [List.mem_append,List.mem_map] at hn
 have leaf:∀ {b:Bool} {x:ANd},n∈(if b=true then [x] else [])->b=true/\n=x:=fun {b x} h=>by cases b <;> simp_all
 rcases hn with ((((((hn | hn) | hn) | hn) | hn) | hn) | hn) | hn
 ·obtain ⟨_,rfl⟩:=leaf hn
  rcases ev with e | e <;> rw [e] <;> exact ⟨⟨fun h=>(by cases h),fun f hf=>(by cases hf)⟩,(by simp),(by simp),fun h=>absurd rfl h⟩
 ·obtain ⟨_,rfl⟩:=leaf hn;exact ⟨⟨fun h=>(by cases h),fun f hf=>(by cases hf)⟩,(by simp),(by simp),fun h=>absurd rfl h⟩
 ·obtain ⟨_,rfl⟩:=leaf hn;exact ⟨⟨fun h=>(by cases h),fun f hf=>(by cases hf)⟩,(by simp),(by simp),fun h=>absurd rfl h⟩
 ·obtain ⟨_,rfl⟩:=leaf hn;exact ⟨⟨fun h=>(by cases h),fun f hf=>(by cases hf)⟩,(by simp),(by simp),fun h=>absurd rfl h⟩
 ·obtain ⟨v,_,rfl⟩:=hn;exact ⟨⟨fun h=>(by cases h),fun f hf=>(by cases hf)⟩,(by simp),(by simp),fun h=>absurd rfl h⟩
 ·obtain ⟨ha,rfl⟩:=leaf hn;exact ⟨⟨fun _=>⟨ha,rfl,rfl⟩,fun f hf=>(by cases hf)⟩,(by simp),(by simp),fun h=>absurd rfl h⟩
 ·obtain ⟨hr,rfl⟩:=leaf hn;exact ⟨⟨fun h=>(by cases h),key fun e he=>hp.edge i h0 h1 e (.inl ⟨he,hr⟩)⟩,(by simp),(by simp),fun _ => .inl rfl⟩
 ·obtain ⟨hr,rfl⟩:=leaf hn;exact ⟨⟨fun h=>(by cases h),key fun e he=>hp.edge i h0 h1 e (.inr ⟨he,hr⟩)⟩,(by simp),(by simp),fun _ => .inr rfl⟩
theorem Ou {f:Int->Int} {S:Int->Prop} {D D':ANd->Prop} {n:ANd} (h:3<=n.kind->n.kind<=8->(D (Aq f n)↔D' n)):nodeS S D (Aq f n)↔nodeS S D' n:=by
 have hk:(Aq f n).kind=n.kind:=rfl
 unfold nodeS;rw [hk];refine or_congr_right (or_congr (and_congr_right fun h11=>by rw [Ht h11]) ⟨fun ⟨a,b,c⟩=>⟨a,b,(h a b).1 c⟩,fun ⟨a,b,c⟩=>⟨a,b,(h a b).2 c⟩⟩)
theorem Qz {w:ATy} {a:List AutoState} {at_:Int->Int} (hp:PolA a) (h:RepA w a at_) {ρ:Pt->Int->Prop}:∀ (p:Pt) (i:Int),0<=i->i<(a.length:Int)->(SatR w ρ p (at_ i)↔SatS a ρ p i):=by
 have key:∀ p,(∀ i:Int,0<=i->i<(a.length:Int)->∀ n∈An (stL a i),3<=n.kind->n.kind<=8->(hdR w ρ p (Aq at_ n)↔hdS a ρ p n))->∀ i:Int,0<=i->i<(a.length:Int)->(SatR w ρ p (at_ i)↔SatS a ρ p i):=fun p hd i h0 h1=>by
  obtain ⟨l,hl,hm⟩:=h.rep i h0 h1;unfold SatR SatS stS;rw [Vz h.ok hl];exact SD (Aq at_) hm fun n hn=>Ou fun h3 h8=>hd i h0 h1 n hn h3 h8
 have hd:∀ (p:Pt) (i:Int),0<=i->i<(a.length:Int)->∀ n∈An (stL a i),3<=n.kind->n.kind<=8->(hdR w ρ p (Aq at_ n)↔hdS a ρ p n):=by
  intro p
  induction p with
  | tag S k=>intros;exact Iff.rfl
  | absent S s=>intro i h0 h1 n hn _ _;unfold hdR hdS;rw [Ec];cases atN n s <;> simp [EW]
  | hasc S s=>intro i h0 h1 n hn _ _;unfold hdR hdS;rw [Ec];cases atN n s <;> simp [EW]
  | dom S q ih =>
   intro i h0 h1 n hn _ _
   refine and_congr_right fun h6=>not_congr ?_
   have h6:n.kind=6:=h6
   obtain ⟨⟨k1,_⟩,_⟩:=CP hp h0 h1 hn;obtain ⟨e1,e2,e3⟩:=k1 h6;obtain ⟨⟨d0,d1,_⟩,_⟩:=hp.arrow i h0 h1 e1;rw [(BY (.inl h6)).1,e2];exact key q ih _ d0 d1
  | cod S q ih =>
   intro i h0 h1 n hn _ _
   refine and_congr_right fun h6=>?_
   have h6:n.kind=6:=h6
   obtain ⟨⟨k1,_⟩,_⟩:=CP hp h0 h1 hn;obtain ⟨e1,e2,e3⟩:=k1 h6;obtain ⟨_,d0,d1,_⟩:=hp.arrow i h0 h1 e1;rw [(BY (.inl h6)).2,e3];exact key q ih _ d0 d1
  | field S s q ih =>
   intro i h0 h1 n hn _ _
   obtain ⟨⟨_,k2⟩,_⟩:=CP hp h0 h1 hn;refine and_congr_right fun _=>?_;rw [Ec]
   cases hq:atN n s with
   | none=>simp
   | some k =>
    obtain ⟨f,hf,_,rfl⟩:=Jt hq;obtain ⟨d0,d1,_⟩:=k2 f hf
    have:=key q ih f.at_ d0 d1
    simp only [Option.map_some,Option.some.injEq,forall_eq'];exact this
  | case S s q ih =>
   intro i h0 h1 n hn _ _
   obtain ⟨⟨_,k2⟩,_⟩:=CP hp h0 h1 hn;refine and_congr_right fun _=>?_;rw [Ec]
   cases hq:atN n s with
   | none=>simp
   | some k =>
    obtain ⟨f,hf,_,rfl⟩:=Jt hq;obtain ⟨d0,d1,_⟩:=k2 f hf
    have:=key q ih f.at_ d0 d1
    simp only [Option.map_some,Option.some.injEq,exists_eq_left'];exact this
 exact fun p i=>key p (hd p) i
section
variable {w:ATy} {a:List AutoState} {at_:Int->Int}
end
def LL (s:AutoState) (S:Int->Prop) (D:ANd->Prop):Prop:=
 s.all=true\/(s.int=true/\D ⟨3,0,0,[]⟩)\/(s.bool=true/\D ⟨4,0,0,[]⟩)\/(s.str=true/\D ⟨5,0,0,[]⟩)\/(∃ v∈s.vars,S v)\/(s.arrow=true/\D ⟨6,s.dom,s.cod,[]⟩)\/(s.rec_=true/\D ⟨7,0,0,edF s.fields⟩)\/(s.tag=true/\D ⟨8,0,0,edF s.tags⟩)
def JY (s:AutoState) (S:Int->Prop) (D:ANd->Prop):Prop:=
 s.all=false/\(s.int=true->D ⟨3,0,0,[]⟩)/\(s.bool=true->D ⟨4,0,0,[]⟩)/\(s.str=true->D ⟨5,0,0,[]⟩)/\(∀ v∈s.vars,S v)/\(s.arrow=true->D ⟨6,s.dom,s.cod,[]⟩)/\(s.rec_=true->D ⟨7,0,0,edF s.fields⟩)/\(s.tag=true->D ⟨8,0,0,edF s.tags⟩)
theorem JZ {α:Type} {b:Bool} {x y:α}:y∈(if b=true then [x] else [])↔b=true/\y=x:=by cases b <;> simp
theorem MA {s:AutoState} {S:Int->Prop} {D:ANd->Prop} (h:s.plus=true):someS s.plus S D (An s)↔LL s S D:=by
 unfold someS An LL;rw [h];simp only [if_true,List.mem_append,JZ,List.mem_map]
 have hd:∀ {n:ANd},nodeS S D n->n.kind≠1->n.kind≠11->D n:=fun hn h1 h11=>by
  rcases hn with h | ⟨h,_⟩ | ⟨_,_,h⟩
  ·exact absurd h h1
  ·exact absurd h h11
  ·exact h
 constructor
 ·rintro ⟨n,((((((⟨hb,rfl⟩ | ⟨hb,rfl⟩) | ⟨hb,rfl⟩) | ⟨hb,rfl⟩) | ⟨v,hv,rfl⟩) | ⟨hb,rfl⟩) | ⟨hb,rfl⟩) | ⟨hb,rfl⟩,hn⟩
  ·exact .inl hb
  ·exact .inr (.inl ⟨hb,hd hn (by simp) (by simp)⟩)
  ·exact .inr (.inr (.inl ⟨hb,hd hn (by simp) (by simp)⟩))
  ·exact .inr (.inr (.inr (.inl ⟨hb,hd hn (by simp) (by simp)⟩)))
  ·rcases hn with h | ⟨_,h⟩ | ⟨_,h,_⟩
   ·exact absurd h (by simp)
   ·exact .inr (.inr (.inr (.inr (.inl ⟨v,hv,h⟩))))
   ·exact absurd h (by simp)
  ·exact .inr (.inr (.inr (.inr (.inr (.inl ⟨hb,hd hn (by simp) (by simp)⟩)))))
  ·exact .inr (.inr (.inr (.inr (.inr (.inr (.inl ⟨hb,hd hn (by simp) (by simp)⟩))))))
  ·exact .inr (.inr (.inr (.inr (.inr (.inr (.inr ⟨hb,hd hn (by simp) (by simp)⟩))))))
 ·rintro (hb | ⟨hb,h2⟩ | ⟨hb,h2⟩ | ⟨hb,h2⟩ | ⟨v,hv,h2⟩ | ⟨hb,h2⟩ | ⟨hb,h2⟩ | ⟨hb,h2⟩)
  ·exact ⟨_,.inl (.inl (.inl (.inl (.inl (.inl (.inl ⟨hb,rfl⟩)))))),.inl rfl⟩
  ·exact ⟨_,.inl (.inl (.inl (.inl (.inl (.inl (.inr ⟨hb,rfl⟩)))))),.inr (.inr ⟨by simp,by simp,h2⟩)⟩
  ·exact ⟨_,.inl (.inl (.inl (.inl (.inl (.inr ⟨hb,rfl⟩))))),.inr (.inr ⟨by simp,by simp,h2⟩)⟩
  ·exact ⟨_,.inl (.inl (.inl (.inl (.inr ⟨hb,rfl⟩)))),.inr (.inr ⟨by simp,by simp,h2⟩)⟩
  ·exact ⟨_,.inl (.inl (.inl (.inr ⟨v,hv,rfl⟩))),.inr (.inl ⟨rfl,h2⟩)⟩
  ·exact ⟨_,.inl (.inl (.inr ⟨hb,rfl⟩)),.inr (.inr ⟨by simp,by simp,h2⟩)⟩
  ·exact ⟨_,.inl (.inr ⟨hb,rfl⟩),.inr (.inr ⟨by simp,by simp,h2⟩)⟩
  ·exact ⟨_,.inr ⟨hb,rfl⟩,.inr (.inr ⟨by simp,by simp,h2⟩)⟩
theorem KX {s:AutoState} {S:Int->Prop} {D:ANd->Prop} (h:s.plus=false):someS s.plus S D (An s)↔JY s S D:=by
 unfold someS An JY;rw [h];simp only [Bool.false_eq_true,if_false,List.mem_append,JZ,List.mem_map]
 have hd:∀ {n:ANd},nodeS S D n->n.kind≠1->n.kind≠11->D n:=fun hn h1 h11=>by
  rcases hn with h | ⟨h,_⟩ | ⟨_,_,h⟩
  ·exact absurd h h1
  ·exact absurd h h11
  ·exact h
 constructor
 ·intro H
  refine ⟨?_,fun hb=>hd (H _ (.inl (.inl (.inl (.inl (.inl (.inl (.inr ⟨hb,rfl⟩)))))))) (by simp) (by simp),fun hb=>hd (H _ (.inl (.inl (.inl (.inl (.inl (.inr ⟨hb,rfl⟩))))))) (by simp) (by simp),
   fun hb=>hd (H _ (.inl (.inl (.inl (.inl (.inr ⟨hb,rfl⟩)))))) (by simp) (by simp),fun v hv=>?_,fun hb=>hd (H _ (.inl (.inl (.inr ⟨hb,rfl⟩)))) (by simp) (by simp),fun hb=>hd (H _ (.inl (.inr ⟨hb,rfl⟩))) (by simp) (by simp),fun hb=>hd (H _ (.inr ⟨hb,rfl⟩)) (by simp) (by simp)⟩
  ·cases hb:s.all with
   | false=>rfl
   | true =>
    have:=H _ (.inl (.inl (.inl (.inl (.inl (.inl (.inl ⟨hb,rfl⟩)))))))
    rcases this with h | ⟨h,_⟩ | ⟨h,_⟩
    ·cases h
    ·cases h
    ·exact absurd h (by simp [evK])
  ·have:=H _ (.inl (.inl (.inl (.inr ⟨v,hv,rfl⟩))))
   rcases this with h | ⟨_,h⟩ | ⟨_,h,_⟩
   ·exact absurd h (by simp)
   ·exact h
   ·exact absurd h (by simp)
 ·rintro ⟨h0,h3,h4,h5,h11,h6,h7,h8⟩ n (((((((⟨hb,rfl⟩ | ⟨hb,rfl⟩) | ⟨hb,rfl⟩) | ⟨hb,rfl⟩) | ⟨v,hv,rfl⟩) | ⟨hb,rfl⟩) | ⟨hb,rfl⟩) | ⟨hb,rfl⟩)
  ·rw [h0] at hb;cases hb
  ·exact .inr (.inr ⟨by simp,by simp,h3 hb⟩)
  ·exact .inr (.inr ⟨by simp,by simp,h4 hb⟩)
  ·exact .inr (.inr ⟨by simp,by simp,h5 hb⟩)
  ·exact .inr (.inl ⟨rfl,h11 v hv⟩)
  ·exact .inr (.inr ⟨by simp,by simp,h6 hb⟩)
  ·exact .inr (.inr ⟨by simp,by simp,h7 hb⟩)
  ·exact .inr (.inr ⟨by simp,by simp,h8 hb⟩)
def atE (l:List AutoEdge) (s:List UInt8):Option Int:=(l.find? fun e=>decide (e.name=s)).map (·.to_)
theorem EM {k x y:Int} {l:List AutoEdge} {s:List UInt8}:atN ⟨k,x,y,edF l⟩ s=atE l s:=by
 unfold atN atE edF;simp only [List.find?_map,Option.map_map]
 rfl
def relO (R:Int->Int->Prop) (x y:Option Int):Prop:=(x=none/\y=none)\/∃ i j,x=some i/\y=some j/\R i j
structure Bis (a b:List AutoState) (R:Int->Int->Prop):Prop where
 flags:∀ i j,R i j->(stL a i).plus=(stL b j).plus/\(stL a i).all=(stL b j).all/\(stL a i).int=(stL b j).int/\(stL a i).bool=(stL b j).bool/\(stL a i).str=(stL b j).str/\(stL a i).arrow=(stL b j).arrow/\(stL a i).rec_=(stL b j).rec_/\(stL a i).tag=(stL b j).tag
 dom:∀ i j,R i j->(stL a i).arrow=true->R (stL a i).dom (stL b j).dom/\(stL a (stL a i).dom).plus = !(stL a i).plus
 cod:∀ i j,R i j->(stL a i).arrow=true->R (stL a i).cod (stL b j).cod/\(stL a (stL a i).cod).plus=(stL a i).plus
 fld:∀ i j,R i j->(stL a i).rec_=true->∀ s,relO (fun x y=>R x y/\(stL a x).plus=(stL a i).plus) (atE (stL a i).fields s) (atE (stL b j).fields s)
 tgs:∀ i j,R i j->(stL a i).tag=true->∀ s,relO (fun x y=>R x y/\(stL a x).plus=(stL a i).plus) (atE (stL a i).tags s) (atE (stL b j).tags s)
def leafM (k:Int):Pt->Prop
 | .tag _ k'=>k=k'/\k'≠8
 | _=>False
theorem D2 {a:List AutoState} {ρ:Pt->Int->Prop} {p:Pt} {k:Int} (hk:k=3\/k=4\/k=5):hdS a ρ p ⟨k,0,0,[]⟩↔leafM k p:=by
 cases p with
 | tag S k'=>exact Iff.rfl
 | dom S q=>exact ⟨fun h=>by have:=h.1;simp at this;omega,fun h=>h.elim⟩
 | cod S q=>exact ⟨fun h=>by have:=h.1;simp at this;omega,fun h=>h.elim⟩
 | absent S s=>exact ⟨fun h=>by have:=h.1;simp at this;omega,fun h=>h.elim⟩
 | field S s q=>exact ⟨fun h=>by have:=h.1;simp at this;omega,fun h=>h.elim⟩
 | hasc S s=>exact ⟨fun h=>by have:=h.1;simp at this;omega,fun h=>h.elim⟩
 | case S s q=>exact ⟨fun h=>by have:=h.1;simp at this;omega,fun h=>h.elim⟩
def baseP (s:AutoState) (p:Pt):Prop:=(s.int=true/\leafM 3 p)\/(s.bool=true/\leafM 4 p)\/(s.str=true/\leafM 5 p)
def baseM (s:AutoState) (p:Pt):Prop:=(s.int=true->leafM 3 p)/\(s.bool=true->leafM 4 p)/\(s.str=true->leafM 5 p)
theorem TX {a b:List AutoState} {R:Int->Int->Prop} (hB:Bis a b R) {ρ ρ':Pt->Int->Prop}
    (hp:∀ i j p,R i j->(stL a i).plus=true->(∃ v∈(stL a i).vars,ρ p v)->(∃ v∈(stL b j).vars,ρ' p v)\/baseP (stL b j) p)
    (hm:∀ i j p,R i j->(stL a i).plus=false->(∀ v∈(stL b j).vars,ρ' p v)->baseM (stL b j) p->∀ v∈(stL a i).vars,ρ p v) :
    ∀ (p:Pt) (i j:Int),R i j->((stL a i).plus=true->SatS a ρ p i->SatS b ρ' p j)/\((stL a i).plus=false->SatS b ρ' p j->SatS a ρ p i):=by
  have key:∀ (p:Pt),(∀ i j:Int,R i j->(stL a i).plus=true ->
        ((stL a i).arrow=true->hdS a ρ p ⟨6,(stL a i).dom,(stL a i).cod,[]⟩->hdS b ρ' p ⟨6,(stL b j).dom,(stL b j).cod,[]⟩) /\
        ((stL a i).rec_=true->hdS a ρ p ⟨7,0,0,edF (stL a i).fields⟩->hdS b ρ' p ⟨7,0,0,edF (stL b j).fields⟩) /\
        ((stL a i).tag=true->hdS a ρ p ⟨8,0,0,edF (stL a i).tags⟩->hdS b ρ' p ⟨8,0,0,edF (stL b j).tags⟩)) ->
      (∀ i j:Int,R i j->(stL a i).plus=false ->
        ((stL a i).arrow=true->hdS b ρ' p ⟨6,(stL b j).dom,(stL b j).cod,[]⟩->hdS a ρ p ⟨6,(stL a i).dom,(stL a i).cod,[]⟩) /\
        ((stL a i).rec_=true->hdS b ρ' p ⟨7,0,0,edF (stL b j).fields⟩->hdS a ρ p ⟨7,0,0,edF (stL a i).fields⟩) /\
        ((stL a i).tag=true->hdS b ρ' p ⟨8,0,0,edF (stL b j).tags⟩->hdS a ρ p ⟨8,0,0,edF (stL a i).tags⟩)) ->
      ∀ (i j:Int),R i j->((stL a i).plus=true->SatS a ρ p i->SatS b ρ' p j)/\((stL a i).plus=false->SatS b ρ' p j->SatS a ρ p i):=by
    intro p h1 h2 i j hR
    obtain ⟨f1,f2,f3,f4,f5,f6,f7,f8⟩:=hB.flags i j hR
    constructor
    · intro hpl hs
      have hpl':(stL b j).plus=true:=by rw [<- f1,hpl]
      obtain ⟨k6,k7,k8⟩:=h1 i j hR hpl
      have hs:=(MA hpl).1 hs
      refine (MA hpl').2 ?_
      unfold LL at hs ⊢
      rw [<- f2,<- f3,<- f4,<- f5,<- f6,<- f7,<- f8]
      rcases hs with h | ⟨h,h'⟩ | ⟨h,h'⟩ | ⟨h,h'⟩ | h | ⟨h,h'⟩ | ⟨h,h'⟩ | ⟨h,h'⟩
      · exact .inl h
      · exact .inr (.inl ⟨h,(D2 (.inl rfl)).2 ((D2 (.inl rfl)).1 h')⟩)
      · exact .inr (.inr (.inl ⟨h,(D2 (.inr (.inl rfl))).2 ((D2 (.inr (.inl rfl))).1 h')⟩))
      · exact .inr (.inr (.inr (.inl ⟨h,(D2 (.inr (.inr rfl))).2 ((D2 (.inr (.inr rfl))).1 h')⟩)))
      · rcases hp i j p hR hpl h with h | ⟨h,h'⟩ | ⟨h,h'⟩ | ⟨h,h'⟩
        · exact .inr (.inr (.inr (.inr (.inl h))))
        · exact .inr (.inl ⟨by rw [f3];exact h,(D2 (.inl rfl)).2 h'⟩)
        · exact .inr (.inr (.inl ⟨by rw [f4];exact h,(D2 (.inr (.inl rfl))).2 h'⟩))
        · exact .inr (.inr (.inr (.inl ⟨by rw [f5];exact h,(D2 (.inr (.inr rfl))).2 h'⟩)))
      · exact .inr (.inr (.inr (.inr (.inr (.inl ⟨h,k6 h h'⟩)))))
      · exact .inr (.inr (.inr (.inr (.inr (.inr (.inl ⟨h,k7 h h'⟩))))))
      · exact .inr (.inr (.inr (.inr (.inr (.inr (.inr ⟨h,k8 h h'⟩))))))
    · intro hpl hs
      have hpl':(stL b j).plus=false:=by rw [<- f1,hpl]
      obtain ⟨k6,k7,k8⟩:=h2 i j hR hpl
      have hs:=(KX hpl').1 hs
      refine (KX hpl).2 ?_
      unfold JY at hs ⊢
      obtain ⟨s0,s3,s4,s5,s11,s6,s7,s8⟩:=hs
      refine ⟨by rw [f2];exact s0,fun h=>(D2 (.inl rfl)).2 ((D2 (.inl rfl)).1 (s3 (by rw [<- f3];exact h))),fun h=>(D2 (.inr (.inl rfl))).2 ((D2 (.inr (.inl rfl))).1 (s4 (by rw [<- f4];exact h))),fun h=>(D2 (.inr (.inr rfl))).2 ((D2 (.inr (.inr rfl))).1 (s5 (by rw [<- f5];exact h))),
        hm i j p hR hpl s11 ⟨fun h=>(D2 (.inl rfl)).1 (s3 h),fun h=>(D2 (.inr (.inl rfl))).1 (s4 h),fun h=>(D2 (.inr (.inr rfl))).1 (s5 h)⟩,fun h=>k6 h (s6 (by rw [<- f6];exact h)),fun h=>k7 h (s7 (by rw [<- f7];exact h)),fun h=>k8 h (s8 (by rw [<- f8];exact h))⟩
  intro p
  induction p with
  | tag S k=>exact key _ (fun i j _ _=>⟨fun _ h=>h,fun _ h=>h,fun _ h=>h⟩) (fun i j _ _=>⟨fun _ h=>h,fun _ h=>h,fun _ h=>h⟩)
  | dom S q ih =>
    refine key _ (fun i j hR hpl=>⟨fun ha h=>⟨rfl,fun hc=>h.2 ?_⟩,fun _ h=>absurd h.1 (by simp),fun _ h=>absurd h.1 (by simp)⟩) (fun i j hR hpl=>⟨fun ha h=>⟨rfl,fun hc=>h.2 ?_⟩,fun _ h=>absurd h.1 (by simp),fun _ h=>absurd h.1 (by simp)⟩)
    · obtain ⟨h1,h2⟩:=hB.dom i j hR ha
      exact (ih _ _ h1).2 (by rw [h2,hpl];rfl) hc
    · obtain ⟨h1,h2⟩:=hB.dom i j hR ha
      exact (ih _ _ h1).1 (by rw [h2,hpl];rfl) hc
  | cod S q ih =>
    refine key _ (fun i j hR hpl=>⟨fun ha h=>⟨rfl,?_⟩,fun _ h=>absurd h.1 (by simp),fun _ h=>absurd h.1 (by simp)⟩) (fun i j hR hpl=>⟨fun ha h=>⟨rfl,?_⟩,fun _ h=>absurd h.1 (by simp),fun _ h=>absurd h.1 (by simp)⟩)
    · obtain ⟨h1,h2⟩:=hB.cod i j hR ha
      exact (ih _ _ h1).1 (by rw [h2,hpl]) h.2
    · obtain ⟨h1,h2⟩:=hB.cod i j hR ha
      exact (ih _ _ h1).2 (by rw [h2,hpl]) h.2
  | absent S s =>
    refine key _ (fun i j hR hpl=>⟨fun _ h=>absurd h.1 (by simp),fun hr h=>⟨rfl,?_⟩,fun _ h=>absurd h.1 (by simp)⟩) (fun i j hR hpl=>⟨fun _ h=>absurd h.1 (by simp),fun hr h=>⟨rfl,?_⟩,fun _ h=>absurd h.1 (by simp)⟩)
    · have h:=h.2;rw [EM] at h ⊢
      rcases hB.fld i j hR hr s with ⟨_,e⟩ | ⟨x,y,e,_⟩
      · exact e
      · rw [e] at h;cases h
    · have h:=h.2;rw [EM] at h ⊢
      rcases hB.fld i j hR hr s with ⟨e,_⟩ | ⟨x,y,_,e,_⟩
      · exact e
      · rw [e] at h;cases h
  | hasc S s =>
    refine key _ (fun i j hR hpl=>⟨fun _ h=>absurd h.1 (by simp),fun _ h=>absurd h.1 (by simp),fun hr h=>⟨rfl,?_⟩⟩) (fun i j hR hpl=>⟨fun _ h=>absurd h.1 (by simp),fun _ h=>absurd h.1 (by simp),fun hr h=>⟨rfl,?_⟩⟩)
    · have h:=h.2;rw [EM] at h ⊢
      rcases hB.tgs i j hR hr s with ⟨e,_⟩ | ⟨x,y,_,e,_⟩
      · exact absurd e h
      · rw [e];simp
    · have h:=h.2;rw [EM] at h ⊢
      rcases hB.tgs i j hR hr s with ⟨_,e⟩ | ⟨x,y,e,_⟩
      · exact absurd e h
      · rw [e];simp
  | field S s q ih =>
    refine key _ (fun i j hR hpl=>⟨fun _ h=>absurd h.1 (by simp),fun hr h=>⟨rfl,fun k hk=>?_⟩,fun _ h=>absurd h.1 (by simp)⟩) (fun i j hR hpl=>⟨fun _ h=>absurd h.1 (by simp),fun hr h=>⟨rfl,fun k hk=>?_⟩,fun _ h=>absurd h.1 (by simp)⟩)
    · rw [EM] at hk
      rcases hB.fld i j hR hr s with ⟨_,e⟩ | ⟨x,y,e1,e2,e3,e4⟩
      · rw [e] at hk;cases hk
      · rw [e2] at hk;cases hk
        exact (ih _ _ e3).1 (by rw [e4,hpl]) (h.2 x (by rw [EM];exact e1))
    · rw [EM] at hk
      rcases hB.fld i j hR hr s with ⟨e,_⟩ | ⟨x,y,e1,e2,e3,e4⟩
      · rw [e] at hk;cases hk
      · rw [e1] at hk;cases hk
        exact (ih _ _ e3).2 (by rw [e4,hpl]) (h.2 y (by rw [EM];exact e2))
  | case S s q ih =>
    refine key _ (fun i j hR hpl=>⟨fun _ h=>absurd h.1 (by simp),fun _ h=>absurd h.1 (by simp),fun hr h=>⟨rfl,?_⟩⟩) (fun i j hR hpl=>⟨fun _ h=>absurd h.1 (by simp),fun _ h=>absurd h.1 (by simp),fun hr h=>⟨rfl,?_⟩⟩)
    · obtain ⟨k,hk,h⟩:=h.2
      rw [EM] at hk
      rcases hB.tgs i j hR hr s with ⟨e,_⟩ | ⟨x,y,e1,e2,e3,e4⟩
      · rw [e] at hk;cases hk
      · rw [e1] at hk;cases hk
        exact ⟨y,by rw [EM];exact e2,(ih _ _ e3).1 (by rw [e4,hpl]) h⟩
    · obtain ⟨k,hk,h⟩:=h.2
      rw [EM] at hk
      rcases hB.tgs i j hR hr s with ⟨_,e⟩ | ⟨x,y,e1,e2,e3,e4⟩
      · rw [e] at hk;cases hk
      · rw [e2] at hk;cases hk
        exact ⟨x,by rw [EM];exact e1,(ih _ _ e3).2 (by rw [e4,hpl]) h⟩
def chn (k:Int):Int->Int->List ANd->List ANd
 | _,_,[]=>[]
 | at_,off,x::r=>x::⟨k,at_,off,[]⟩::chn k (off+1) (off+2) r
def lastA:Int->Int->List ANd->Int
 | at_,_,[]=>at_
 | _,off,_::r=>lastA (off+1) (off+2) r
def blk (off:Int) (s:AutoState):List ANd:=⟨noK s.plus,0,0,[]⟩::chn (joK s.plus) off (off+1) (An s)
def hdN (off:Int) (s:AutoState):ANd:=⟨joK s.plus,lastA off (off+1) (An s),lastA off (off+1) (An s),[]⟩
def typH:Int->List AutoState->List ANd
 | _,[]=>[]
 | off,s::r=>hdN off s::typH (off+1+2*((An s).length:Int)) r
def typB:Int->List AutoState->List ANd
 | _,[]=>[]
 | off,s::r=>blk off s++typB (off+1+2*((An s).length:Int)) r
def typeW (a:AutoAuto):ATy:=⟨typH (a.l.length:Int) a.l++typB (a.l.length:Int) a.l,a.start⟩
theorem Nl (k:Int):∀ (l:List ANd) (at_ off:Int),(chn k at_ off l).length=2*l.length
 | [],_,_=>rfl
 | x::r,at_,off=>by simp only [chn,List.length_cons,Nl k r];omega
theorem Jf (off:Int) (s:AutoState):(blk off s).length=1+2*(An s).length:=by
 unfold blk;rw [List.length_cons,Nl];omega
theorem FT:∀ (l:List AutoState) (off:Int),(typH off l).length=l.length
 | [],_=>rfl
 | s::r,off=>by simp only [typH,List.length_cons,FT r]
def offA (n:Int) (l:List AutoState):Int:=l.foldl (fun o s=>o+1+2*((An s).length:Int)) n
theorem GN (n:Int) (s:AutoState) (l:List AutoState):offA n (s::l)=offA (n+1+2*((An s).length:Int)) l:=rfl
theorem Ih:∀ (l:List AutoState) (off:Int),off+((typB off l).length:Int)=offA off l
 | [],off=>by simp [typB,offA]
 | s::r,off=>by
  rw [GN,<- Ih r];simp only [typB,List.length_append,Jf]
  omega
theorem Iw:∀ (A:List AutoState) (s:AutoState) (B:List AutoState) (n:Int),typH n (A++s::B)=typH n A++hdN (offA n A) s::typH (offA n (A++[s])) B/\typB n (A++s::B)=typB n A++(blk (offA n A) s++typB (offA n (A++[s])) B)
 | [],s,B,n=>by simp [typH,typB,offA]
 | x::A,s,B,n=>by
  obtain ⟨h1,h2⟩:=Iw A s B (n+1+2*((An x).length:Int));simp only [List.cons_append,typH,typB,GN,h1,h2,List.append_assoc,and_self]
theorem DD {w:ATy} {A B:List ANd} {x:ANd} {i:Int} (h:w.l=A++x::B) (hi:i=(A.length:Int)):nd w i=x/\In w i:=by
 subst hi;refine ⟨V9 (by rw [h,List.getElem?_append_right (Nat.le_refl _),Nat.sub_self];rfl),by omega,?_⟩;rw [h,List.length_append,List.length_cons];omega
theorem QS {w:ATy} {k no:Int}:∀ (l:List ANd) (at_ off:Int) (pre:List ANd) (A B:List ANd),w.l=A++(chn k at_ off l++B)->off=(A.length:Int)->(∀ x∈l,x.kind≠9/\x.kind≠10)->Rep w k no pre at_->Rep w k no (pre++l) (lastA at_ off l)
 | [],at_,off,pre,A,B,_,_,_,h=>by rw [List.append_nil];exact h
 | x::r,at_,off,pre,A,B,hw,ho,hx,h=>by
  have h1:=DD (w:=w) (A:=A) (x:=x) (B:=⟨k,at_,off,[]⟩::(chn k (off+1) (off+2) r++B)) (i:=off) (by rw [hw];simp [chn]) ho
  have h2:=DD (w:=w) (A:=A++[x]) (x:=⟨k,at_,off,[]⟩) (B:=chn k (off+1) (off+2) r++B) (i:=off+1) (by rw [hw];simp [chn]) (by rw [List.length_append];simp;omega)
  have hk:=hx x (by simp)
  have r1:Rep w k no [x] off:=by
   have:=Rep.one (w:=w) (k:=k) (no:=no) h1.2 (by rw [h1.1];exact hk.1) (by rw [h1.1];exact hk.2)
   rw [h1.1] at this;exact this
  have r2:Rep w k no (pre++[x]) (off+1) := .join h2.2 (by rw [h2.1]) (by rw [h2.1];exact h) (by rw [h2.1];exact r1)
  have:=QS r (off+1) (off+2) (pre++[x]) (A++[x,⟨k,at_,off,[]⟩]) B (by rw [hw];simp [chn]) (by rw [List.length_append];simp;omega) (fun y hy=>hx y (by simp [hy])) r2
  simpa [lastA] using this
theorem Ef {s:AutoState} {n:ANd} (h:n∈An s):n.kind≠9/\n.kind≠10:=by
 have ev:evK s.plus=1\/evK s.plus=2:=by cases s.plus <;> simp [evK]
 unfold An at h;simp only [List.mem_append,JZ,List.mem_map] at h
 rcases h with ((((((⟨_,rfl⟩ | ⟨_,rfl⟩) | ⟨_,rfl⟩) | ⟨_,rfl⟩) | ⟨v,_,rfl⟩) | ⟨_,rfl⟩) | ⟨_,rfl⟩) | ⟨_,rfl⟩
 ·simp only;omega
 all_goals (constructor <;> simp)
theorem Mr {a:AutoAuto} {i:Int} (h0:0<=i) (h1:i<(a.l.length:Int)):∃ l,Rep (typeW a) (joK (stL a.l i).plus) (noK (stL a.l i).plus) l i/\∀ n,n∈l↔n∈(An (stL a.l i)).map (Aq (fun k=>k)):=by
 obtain ⟨j,rfl⟩:=Int.eq_ofNat_of_zero_le h0
 have hj:j<a.l.length:=by omega
 have hs:stL a.l (j:Int)=a.l[j]:=by unfold stL;rw [Int.toNat_natCast,List.getElem?_eq_getElem hj];rfl
 have hsp:a.l=a.l.take j++a.l[j]::a.l.drop (j+1):=by rw [<- List.drop_eq_getElem_cons hj,List.take_append_drop]
 obtain ⟨e1,e2⟩:=Iw (a.l.take j) a.l[j] (a.l.drop (j+1)) (a.l.length:Int);rw [<- hsp] at e1 e2;rw [hs]
 generalize a.l[j]=s at *
 have hw:(typeW a).l=typH (a.l.length:Int) a.l++typB (a.l.length:Int) a.l:=rfl
 have hlen:(typH (a.l.length:Int) a.l).length=a.l.length:=FT _ _
 have hB:=Ih (a.l.take j) (a.l.length:Int)
 generalize ho:offA (a.l.length:Int) (a.l.take j)=off at *
 have hA:((typH (a.l.length:Int) a.l++typB (a.l.length:Int) (a.l.take j)).length:Int)=off:=by rw [List.length_append,hlen];omega
 have n0:=DD (w:=typeW a) (A:=typH (a.l.length:Int) a.l++typB (a.l.length:Int) (a.l.take j)) (x:=⟨noK s.plus,0,0,[]⟩) (B:=chn (joK s.plus) off (off+1) (An s)++typB (offA (a.l.length:Int) (a.l.take j++[s])) (a.l.drop (j+1))) (i:=off) (by rw [hw,e2];simp [blk]) hA.symm
 have r0:Rep (typeW a) (joK s.plus) (noK s.plus) [] off := .none n0.2 (by rw [n0.1])
 have r1:=QS (w:=typeW a) (k:=joK s.plus) (no:=noK s.plus) (An s) off (off+1) [] (typH (a.l.length:Int) a.l++typB (a.l.length:Int) (a.l.take j)++[⟨noK s.plus,0,0,[]⟩]) (typB (offA (a.l.length:Int) (a.l.take j++[s])) (a.l.drop (j+1))) (by rw [hw,e2];simp [blk]) (by rw [List.length_append];simp only [List.length_cons,List.length_nil];omega) (fun x hx=>Ef hx) r0
 rw [List.nil_append] at r1
 have nh:=DD (w:=typeW a) (A:=typH (a.l.length:Int) (a.l.take j)) (x:=hdN off s) (B:=typH (offA (a.l.length:Int) (a.l.take j++[s])) (a.l.drop (j+1))++typB (a.l.length:Int) a.l) (i:=(j:Int)) (by rw [hw,e1];simp) (by rw [FT,List.length_take];omega)
 refine ⟨An s++An s,.join nh.2 (by rw [nh.1];rfl) (by rw [nh.1];exact r1) (by rw [nh.1];exact r1),fun n=>?_⟩;rw [List.mem_append,or_self]
 have:(An s).map (Aq fun k=>k)=An s:=by
  have h:(An s).map (Aq fun k=>k)=(An s).map id:=List.map_congr_left fun n _=>J8 n
  rw [h,List.map_id]
 rw [this]
theorem Zq {n:ANd} {all:Int} (h1:1<=n.kind/\n.kind<=11) (h2:pB n.kind=true\/(n.b=0/\(n.kind=11\/n.a=0))) (h3:n.kind=11->0<=n.a/\n.a<=999) (h4:wB n.kind=true\/n.l=[]) (h5:D1 n) (h6:n.l.length<=30) (h7:∀ k∈kidsL n,0<=k/\k<all):AY n all=true:=by
 have hkid:¬ ∃ q∈kidsL n,inB all q=true:=by
  rintro ⟨q,hq,h⟩
  have:=h7 q hq
  unfold inB at h;simp only [Bool.or_eq_true,decide_eq_true_eq] at h
  omega
 unfold AY;rw [dT h5,dF hkid,dT (show ((n.l.length:Nat):Int)<=30 by omega),dF (show ¬ n.kind<1 by omega),dF (show ¬ 11<n.kind by omega)]
 have e2:((!pB n.kind)&&((!decide (n.b=0))||((!decide (n.kind=11))&&(!decide (n.a=0)))))=false:=by
  rcases h2 with h | ⟨h,h'⟩
  ·rw [h];rfl
  ·rw [dT h]
   rcases h' with h' | h' <;> rw [dT h'] <;> simp
 have e3:(decide (n.kind=11)&&(decide (n.a<0)||decide (999<n.a)))=false:=by
  by_cases h:n.kind=11
  ·have:=h3 h
   rw [dF (show ¬ n.a<0 by omega),dF (show ¬ 999<n.a by omega)];simp
  ·rw [dF h];rfl
 have e4:((!wB n.kind)&&decide (0<(n.l.length:Int)))=false:=by
  rcases h4 with h | h
  ·rw [h];rfl
  ·rw [h];simp
 rw [e2,e3,e4];rfl
theorem Gb {k a b:Int}:D1 ⟨k,a,b,[]⟩:=fun i x hx=>by simp at hx
structure NmA (a:AutoAuto):Prop where
 len:a.l.length<=30
 vars:∀ s∈a.l,s.vars.length<=40/\∀ v∈s.vars,0<=v/\v<=999
 flds:∀ s∈a.l,s.fields.length<=30/\D1 ⟨7,0,0,edF s.fields⟩
 tags:∀ s∈a.l,s.tags.length<=30/\D1 ⟨8,0,0,edF s.tags⟩
 kids:∀ s∈a.l,(s.arrow=true->(0<=s.dom/\s.dom<(a.l.length:Int))/\0<=s.cod/\s.cod<(a.l.length:Int))/\(s.rec_=true->∀ e∈s.fields,0<=e.to_/\e.to_<(a.l.length:Int))/\(s.tag=true->∀ e∈s.tags,0<=e.to_/\e.to_<(a.l.length:Int))
theorem Fy {s:AutoState} (h:s.vars.length<=40):(An s).length<=47:=by
 unfold An
 have e:∀ {b:Bool} {x:ANd},(if b=true then [x] else []).length<=1:=fun {b x}=>by cases b <;> simp
 simp only [List.length_append,List.length_map]
 have:=@e s.all ⟨evK s.plus,0,0,[]⟩
 have:=@e s.int ⟨3,0,0,[]⟩
 have:=@e s.bool ⟨4,0,0,[]⟩
 have:=@e s.str ⟨5,0,0,[]⟩
 have:=@e s.arrow ⟨6,s.dom,s.cod,[]⟩
 have:=@e s.rec_ ⟨7,0,0,edF s.fields⟩
 have:=@e s.tag ⟨8,0,0,edF s.tags⟩
 omega
theorem HT {a:AutoAuto} (h:NmA a) {s:AutoState} (hs:s∈a.l) {all:Int} (hall:(a.l.length:Int)<=all) {n:ANd} (hn:n∈An s):AY n all=true:=by
 have ev:evK s.plus=1\/evK s.plus=2:=by cases s.plus <;> simp [evK]
 obtain ⟨k6,k7,k8⟩:=h.kids s hs
 have leaf:∀ {k:Int},(k=1\/k=2\/k=3\/k=4\/k=5)->AY ⟨k,0,0,[]⟩ all=true:=fun {k} hk=>by
  refine Zq (by simp only;omega) (.inr ⟨rfl,.inr rfl⟩) (fun h=>by simp only at h;omega) (.inr rfl) Gb (by simp) (fun q hq=>?_)
  have e:kidsL ⟨k,0,0,[]⟩=[]:=by rcases hk with rfl | rfl | rfl | rfl | rfl <;> rfl
  rw [e] at hq;cases hq
 unfold An at hn;simp only [List.mem_append,JZ,List.mem_map] at hn
 rcases hn with ((((((⟨_,rfl⟩ | ⟨_,rfl⟩) | ⟨_,rfl⟩) | ⟨_,rfl⟩) | ⟨v,hv,rfl⟩) | ⟨hb,rfl⟩) | ⟨hb,rfl⟩) | ⟨hb,rfl⟩
 ·exact leaf (by omega)
 ·exact leaf (by omega)
 ·exact leaf (by omega)
 ·exact leaf (by omega)
 ·exact Zq (by simp) (.inr ⟨rfl,.inl rfl⟩) (fun _=>(h.vars s hs).2 v hv) (.inr rfl) Gb (by simp) (fun q hq=>by cases hq)
 ·refine Zq (by simp) (.inl rfl) (fun h=>by simp at h) (.inr rfl) Gb (by simp) (fun q hq=>?_)
  have e:kidsL ⟨6,s.dom,s.cod,[]⟩=[s.dom,s.cod]:=rfl
  rw [e] at hq
  have:=k6 hb
  simp only [List.mem_cons,List.not_mem_nil,or_false] at hq
  rcases hq with rfl | rfl <;> omega
 ·obtain ⟨l1,l2⟩:=h.flds s hs
  refine Zq (by simp) (.inr ⟨rfl,.inr rfl⟩) (fun h=>by simp at h) (.inl rfl) l2 (by unfold edF;simpa using l1) (fun q hq=>?_)
  have e:kidsL ⟨7,0,0,edF s.fields⟩=(edF s.fields).map (·.at_):=rfl
  rw [e] at hq;obtain ⟨f,hf,rfl⟩:=List.mem_map.1 hq;obtain ⟨x,hx,rfl⟩:=List.mem_map.1 hf
  have:=k7 hb x hx
  simp only;omega
 ·obtain ⟨l1,l2⟩:=h.tags s hs
  refine Zq (by simp) (.inr ⟨rfl,.inr rfl⟩) (fun h=>by simp at h) (.inl rfl) l2 (by unfold edF;simpa using l1) (fun q hq=>?_)
  have e:kidsL ⟨8,0,0,edF s.tags⟩=(edF s.tags).map (·.at_):=rfl
  rw [e] at hq;obtain ⟨f,hf,rfl⟩:=List.mem_map.1 hq;obtain ⟨x,hx,rfl⟩:=List.mem_map.1 hf
  have:=k8 hb x hx
  simp only;omega
theorem Kb {p:Bool} {x y all:Int} (hx:0<=x/\x<all) (hy:0<=y/\y<all):AY ⟨joK p,x,y,[]⟩ all=true:=by
 refine Zq (by cases p <;> simp [joK]) (.inl (by cases p <;> rfl)) (fun h=>by cases p <;> simp [joK] at h) (.inr rfl) Gb (by simp) (fun q hq=>?_)
 have e:kidsL ⟨joK p,x,y,[]⟩=[x,y]:=by cases p <;> rfl
 rw [e] at hq;simp only [List.mem_cons,List.not_mem_nil,or_false] at hq
 rcases hq with rfl | rfl <;> assumption
theorem Mn {p:Bool} {all:Int}:∀ (l:List ANd) (at_ off:Int),(∀ x∈l,AY x all=true)->0<=at_->at_<off->off+2*(l.length:Int)<=all->∀ n∈chn (joK p) at_ off l,AY n all=true
 | [],_,_,_,_,_,_,n,hn=>by simp [chn] at hn
 | x::r,at_,off,hx,h0,h1,h2,n,hn=>by
  simp only [List.length_cons] at h2;simp only [chn,List.mem_cons] at hn
  rcases hn with rfl | rfl | hn
  ·exact hx _ (by simp)
  ·exact Kb (by omega) (by omega)
  ·exact Mn r (off+1) (off+2) (fun y hy=>hx y (by simp [hy])) (by omega) (by omega) (by omega) n hn
theorem Qu:∀ (l:List ANd) (at_ off:Int),at_<off->at_<=lastA at_ off l/\lastA at_ off l<off+2*(l.length:Int)
 | [],at_,off,h=>by simp only [lastA,List.length_nil];omega
 | x::r,at_,off,h=>by
  have:=Qu r (off+1) (off+2) (by omega)
  simp only [lastA,List.length_cons];omega
theorem KF:∀ (l:List AutoState) (n:Int),n<=offA n l
 | [],n=>Int.le_refl _
 | s::r,n=>by rw [GN];have:=KF r (n+1+2*((An s).length:Int));omega
theorem L9 {a:AutoAuto} (h:NmA a) {all:Int} (hall:(a.l.length:Int)<=all):∀ (l:List AutoState) (off:Int),(∀ s∈l,s∈a.l)->0<=off->offA off l<=all->(∀ n∈typH off l,AY n all=true)/\∀ n∈typB off l,AY n all=true
 | [],off,_,_,_=>⟨fun n hn=>by simp [typH] at hn,fun n hn=>by simp [typB] at hn⟩
 | s::r,off,hs,h0,h1=>by
  rw [GN] at h1
  have hle:=KF r (off+1+2*((An s).length:Int))
  obtain ⟨q1,q2⟩:=L9 h hall r (off+1+2*((An s).length:Int)) (fun x hx=>hs x (by simp [hx])) (by omega) h1
  have hl:=Qu (An s) off (off+1) (by omega)
  constructor
  ·intro n hn
   simp only [typH,List.mem_cons] at hn
   rcases hn with rfl | hn
   ·exact Kb (by omega) (by omega)
   ·exact q1 n hn
  ·intro n hn
   simp only [typB,List.mem_append,blk,List.mem_cons] at hn
   rcases hn with (rfl | hn) | hn
   ·refine Zq (by cases s.plus <;> simp [noK]) (.inr ⟨rfl,.inr rfl⟩) (fun h=>by revert h;cases s.plus <;> simp [noK]) (.inr rfl) Gb (by simp) (fun q hq=>?_)
    have e:kidsL ⟨noK s.plus,0,0,[]⟩=[]:=by cases s.plus <;> rfl
    rw [e] at hq;cases hq
   ·exact Mn _ _ _ (fun x hx=>HT h (hs s (by simp)) hall hx) (by omega) (by omega) (by omega) n hn
   ·exact q2 n hn
theorem Oh {w:ATy} {k no:Int} (hno:no≠9/\no≠10) {l:List ANd} {i:Int} (h:Rep w k no l i):∃ m,endk w.l m i.toNat=true:=by
 have one:∀ {i:Int},In w i->(nd w i).kind≠9->(nd w i).kind≠10->∃ m,endk w.l m i.toNat=true:=fun {i} hi h9 h10=>by
  refine ⟨1,?_⟩;unfold endk;rw [HX hi]
  simp only
  have:latB (nd w i).kind=false:=by unfold latB;rw [dF h9,dF h10];rfl
  rw [this];rfl
 induction h with
 | none hi h=>exact one hi (by rw [h];exact hno.1) (by rw [h];exact hno.2)
 | one hi h9 h10=>exact one hi h9 h10
 | @join i l m hi _ _ _ ih1 ih2 =>
  obtain ⟨m1,e1⟩:=ih1;obtain ⟨m2,e2⟩:=ih2;refine ⟨max m1 m2+1,?_⟩
  have e3:=Gf (Nat.le_max_left m1 m2) e1
  have e4:=Gf (Nat.le_max_right m1 m2) e2
  unfold endk;rw [HX hi]
  simp only
  rw [Bool.or_eq_true,Bool.and_eq_true];exact .inr ⟨e3,e4⟩
theorem O3 {w:ATy} {k no:Int}:∀ (l:List ANd) (at_ off:Int) (pre:List ANd) (A B:List ANd),w.l=A++(chn k at_ off l++B)->off=(A.length:Int)->(∀ x∈l,x.kind≠9/\x.kind≠10)->Rep w k no pre at_ ->
  ∀ i:Nat,A.length<=i->i<A.length+2*l.length->∃ l',Rep w k no l' (i:Int)
 | [],at_,off,pre,A,B,_,_,_,_,i,h1,h2=>by simp only [List.length_nil] at h2;omega
 | x::r,at_,off,pre,A,B,hw,ho,hx,h,i,hi1,hi2=>by
  have h1:=DD (w:=w) (A:=A) (x:=x) (B:=⟨k,at_,off,[]⟩::(chn k (off+1) (off+2) r++B)) (i:=off) (by rw [hw];simp [chn]) ho
  have h2:=DD (w:=w) (A:=A++[x]) (x:=⟨k,at_,off,[]⟩) (B:=chn k (off+1) (off+2) r++B) (i:=off+1) (by rw [hw];simp [chn]) (by rw [List.length_append];simp;omega)
  have hk:=hx x (by simp)
  have r1:Rep w k no [x] off:=by
   have:=Rep.one (w:=w) (k:=k) (no:=no) h1.2 (by rw [h1.1];exact hk.1) (by rw [h1.1];exact hk.2)
   rw [h1.1] at this;exact this
  have r2:Rep w k no (pre++[x]) (off+1) := .join h2.2 (by rw [h2.1]) (by rw [h2.1];exact h) (by rw [h2.1];exact r1)
  simp only [List.length_cons] at hi2
  by_cases e0:i=A.length
  ·rw [e0,<- ho];exact ⟨_,r1⟩
  ·by_cases e1:i=A.length+1
   ·have:((i:Nat):Int)=off+1:=by omega
    rw [this];exact ⟨_,r2⟩
   ·exact O3 r (off+1) (off+2) (pre++[x]) (A++[x,⟨k,at_,off,[]⟩]) B (by rw [hw];simp [chn]) (by rw [List.length_append];simp;omega) (fun y hy=>hx y (by simp [hy])) r2 i (by rw [List.length_append];simp only [List.length_cons,List.length_nil];omega) (by rw [List.length_append];simp only [List.length_cons,List.length_nil];omega)
theorem L7 {w:ATy}:∀ (l:List AutoState) (off:Int) (A B:List ANd),w.l=A++(typB off l++B)->off=(A.length:Int)->∀ i:Nat,A.length<=i->i<A.length+(typB off l).length->∃ p l',Rep w (joK p) (noK p) l' (i:Int)
 | [],off,A,B,_,_,i,h1,h2=>by simp [typB] at h2;omega
 | s::r,off,A,B,hw,ho,i,h1,h2=>by
  have n0:=DD (w:=w) (A:=A) (x:=⟨noK s.plus,0,0,[]⟩) (B:=chn (joK s.plus) off (off+1) (An s)++(typB (off+1+2*((An s).length:Int)) r++B)) (i:=off) (by rw [hw];simp [typB,blk]) ho
  have r0:Rep w (joK s.plus) (noK s.plus) [] off := .none n0.2 (by rw [n0.1])
  simp only [typB,List.length_append,Jf] at h2
  by_cases e0:i=A.length
  ·rw [e0,<- ho];exact ⟨_,_,r0⟩
  ·by_cases e1:i<A.length+1+2*(An s).length
   ·obtain ⟨l',h⟩:=O3 (w:=w) (k:=joK s.plus) (no:=noK s.plus) (An s) off (off+1) [] (A++[⟨noK s.plus,0,0,[]⟩]) (typB (off+1+2*((An s).length:Int)) r++B) (by rw [hw];simp [typB,blk]) (by rw [List.length_append];simp;omega) (fun x hx=>Ef hx) r0 i (by rw [List.length_append];simp only [List.length_cons,List.length_nil];omega) (by rw [List.length_append];simp only [List.length_cons,List.length_nil];omega)
    exact ⟨_,_,h⟩
   ·exact L7 r (off+1+2*((An s).length:Int)) (A++blk off s) B (by rw [hw];simp [typB]) (by rw [List.length_append,Jf];omega) i (by rw [List.length_append,Jf];omega) (by rw [List.length_append,Jf];omega)
theorem IZ:∀ (l:List AutoState) (n:Int),(∀ s∈l,s.vars.length<=40)->offA n l<=n+95*(l.length:Int)
 | [],n,_=>by simp [offA]
 | s::r,n,h=>by
  rw [GN]
  have:=IZ r (n+1+2*((An s).length:Int)) (fun x hx=>h x (by simp [hx]))
  have:=Fy (h s (by simp))
  simp only [List.length_cons];omega
theorem Mv (a:AutoAuto):((typeW a).l.length:Int)=offA (a.l.length:Int) a.l:=by
 unfold typeW;rw [List.length_append,FT,<- Ih]
 omega
theorem NV {a:AutoAuto} (h:NmA a):OkT (typeW a):=by
 have hb:=Mv a
 have hle:=KF a.l (a.l.length:Int)
 refine ⟨fun n hn=>?_,fun i hi=>?_⟩
 ·obtain ⟨h1,h2⟩:=L9 h (all:=((typeW a).l.length:Int)) (by omega) a.l (a.l.length:Int) (fun s hs=>hs) (by omega) (by omega)
  rcases List.mem_append.1 hn with hn | hn
  ·exact h1 n hn
  ·exact h2 n hn
 ·have hk:∀ p,noK p≠9/\noK p≠10:=fun p=>by cases p <;> decide
  by_cases h0:i<a.l.length
  ·obtain ⟨l,h1,_⟩:=Mr (a:=a) (i:=(i:Int)) (by omega) (by omega)
   exact Oh (hk _) h1
  ·have hlen:(typH (a.l.length:Int) a.l).length=a.l.length:=FT _ _
   obtain ⟨p,l',h1⟩:=L7 (w:=typeW a) a.l (a.l.length:Int) (typH (a.l.length:Int) a.l) [] (by unfold typeW;simp) (by rw [hlen]) i (by omega) (by unfold typeW at hi;rw [List.length_append] at hi;exact hi);exact Oh (hk _) h1
theorem RE {a:AutoAuto} (h:NmA a) (hl:a.l.length<=20) (h0:0<=a.start) (h1:a.start<(a.l.length:Int)):MayO (typeW a)/\(typeW a).l.length<=96*a.l.length:=by
 have hb:=Mv a
 have hle:=KF a.l (a.l.length:Int)
 have hbd:=IZ a.l (a.l.length:Int) (fun s hs=>(h.vars s hs).1)
 have hO:=NV h
 refine ⟨⟨?_,fun n hn=>?_⟩,by omega⟩
 ·unfold mayT
  rw [if_neg (by omega),if_neg (by show ¬ (a.start<0\/_<=a.start);omega),if_pos ⟨hO.right,hO.ends⟩]
 ·have hr:=hO.right n hn
  unfold AY at hr;simp only [Bool.and_eq_true,decide_eq_true_eq] at hr;unfold NB
  have:=hr.2.2.2.2.1.2
  omega
theorem P0 {a:AutoAuto} (h:NmA a):RepA (typeW a) a.l (fun k=>k):=⟨NV h,fun i h0 h1=>Mr h0 h1⟩
end Go.Proofs.YtcoghblhdjmbfaaGreat
namespace Go.Proofs.YtcoghblhdjmbfaaGreat
open Go.V
open Classical
theorem VV (l:List AutoEdge) (h:l.length<=40):Bi l=some (edF l):=by
 unfold Bi;refine bnd (BW (φ:=fun n i s=>Bh l n (i,s)) (l:=l) (fun e=>(⟨e.name,e.to_⟩:AFd)) id 0 ?_ ?_ (by rw [FUv];omega) [] rfl) ?_
 ·intro n i x s hx hi hs
  simp only [Bh];rw [dT (by omega),cT,getI hx,oB,oB,Ab (by simp;omega),Ab (by constructor <;> omega)]
 ·intro n s hs
  simp only [Bh];rw [dF (by omega),cF_];rfl
 ·simp [edF]
theorem Jz {b:Bool} {l:List ANd} {x:ANd} {n:Nat} (h:l.length<=n) (hn:n<=1000):∃ l',(bif b then grd ((l.length+([x]:List _).length)*48<=140737488355328) <| some (l++[x]) else some l:Option (List ANd))=some l'/\l'=l++(if b then [x] else [])/\l'.length<=n+1:=by
 cases b with
 | true=>exact ⟨l++[x],by rw [cT,Ab (by simp;omega)],by simp,by simp;omega⟩
 | false=>exact ⟨l,rfl,by simp,by omega⟩
theorem Qt {b:Bool} {l:List ANd} {k:Int} {fs:List AutoEdge} {n:Nat} (h:l.length<=n) (hn:n<=1000) (hf:fs.length<=40):∃ l',(bif b then (Bi fs).bind fun x2=>grd ((l.length+([(⟨k,0,0,x2⟩:ANd)]:List _).length)*48<=140737488355328) <| some (l++[(⟨k,0,0,x2⟩:ANd)]) else some l:Option (List ANd))=some l'/\l'=l++(if b then [⟨k,0,0,edF fs⟩] else [])/\l'.length<=n+1:=by
 cases b with
 | true=>exact ⟨l++[⟨k,0,0,edF fs⟩],by rw [cT,VV fs hf,oB,Ab (by simp;omega)],by simp,by simp;omega⟩
 | false=>exact ⟨l,rfl,by simp,by omega⟩
theorem Sn (s:AutoState) (hs:s.vars.length<=40) (l:List ANd) (hl:l.length<=1000):A5 s FU (0,l)=some (l++s.vars.map (fun v=>(⟨11,v,0,[]⟩:ANd))):=by
 refine BW (φ:=fun n i q=>A5 s n (i,q)) (l:=s.vars) (fun v=>(⟨11,v,0,[]⟩:ANd)) id l.length ?_ ?_ (by rw [FUv];omega) l rfl
 ·intro n i x q hx hi hq
  simp only [A5];rw [dT (by omega),cT,getI hx,oB,Ab (by simp;omega),Ab (by constructor <;> omega)]
 ·intro n q hq
  simp only [A5];rw [dF (by omega),cF_];rfl
theorem PE (s:AutoState) (h:SB s):BR s (evK s.plus)=some (An s):=by
 obtain ⟨h1,h2,h3⟩:=h;unfold BR;obtain ⟨l1,e1,f1,g1⟩:=Jz (b:=s.all) (l:=[]) (x:=⟨evK s.plus,0,0,[]⟩) (n:=0) (by simp) (by omega);refine bnd e1 ?_;obtain ⟨l2,e2,f2,g2⟩:=Jz (b:=s.int) (x:=⟨3,0,0,[]⟩) g1 (by omega);refine bnd e2 ?_;obtain ⟨l3,e3,f3,g3⟩:=Jz (b:=s.bool) (x:=⟨4,0,0,[]⟩) g2 (by omega);refine bnd e3 ?_;obtain ⟨l4,e4,f4,g4⟩:=Jz (b:=s.str) (x:=⟨5,0,0,[]⟩) g3 (by omega);refine bnd e4 (bnd (Sn s h1 l4 (by omega)) ?_);obtain ⟨l5,f5⟩:∃ l5,l5=l4++s.vars.map (fun v=>(⟨11,v,0,[]⟩:ANd)):=⟨_,rfl⟩
 have g5:l5.length<=50:=by rw [f5];simp;omega
 rw [<- f5];obtain ⟨l6,e6,f6,g6⟩:=Jz (b:=s.arrow) (x:=⟨6,s.dom,s.cod,[]⟩) g5 (by omega);refine bnd e6 ?_;obtain ⟨l7,e7,f7,g7⟩:=Qt (b:=s.rec_) (k:=7) g6 (by omega) h2;refine bnd e7 ?_;obtain ⟨l8,e8,f8,g8⟩:=Qt (b:=s.tag) (k:=8) g7 (by omega) h3;rw [e8,f8,f7,f6,f5,f4,f3,f2,f1];simp only [An,List.nil_append,List.append_assoc]
theorem OL {k:Int}:∀ (l:List ANd) (x:ANd) (at_ off:Int),chn k at_ off (l++[x])=chn k at_ off l++[x,⟨k,lastA at_ off l,off+2*(l.length:Int),[]⟩]/\lastA at_ off (l++[x])=off+2*(l.length:Int)+1
 | [],x,at_,off=>by simp [chn,lastA]
 | y::r,x,at_,off=>by
  obtain ⟨h1,h2⟩:=OL (k:=k) r x (off+1) (off+2);simp only [List.cons_append,chn,lastA,h1,h2,List.length_cons];rw [show off+2+2*(r.length:Int)=off+2*((r.length+1:Nat):Int) by omega];exact ⟨rfl,rfl⟩
theorem UL (k:Int) (xs:List ANd) (z at0:Int) (l:List ANd) (hx:xs.length<=1000) (hl:l.length<=1000000):Bf k xs FU (at0,0,l,z)=some (lastA at0 (l.length:Int) xs,l++chn k at0 (l.length:Int) xs,z):=by
 obtain ⟨o,e1,e2⟩:=Be (φ:=fun n i (q:Int×List ANd)=>Bf k xs n (q.1,i,q.2,z)) (l:=xs) (fun i q=>q=(lastA at0 (l.length:Int) (xs.take i),l++chn k at0 (l.length:Int) (xs.take i))) (fun o=>o=(lastA at0 (l.length:Int) xs,l++chn k at0 (l.length:Int) xs,z))
  (by
   rintro n i x q hx hi rfl
   left
   refine ⟨(lastA at0 (l.length:Int) (xs.take (i+1)),l++chn k at0 (l.length:Int) (xs.take (i+1))),?_,rfl⟩;obtain ⟨h1,h2⟩:=OL (k:=k) (xs.take i) x at0 (l.length:Int);rw [takeS hx,h1,h2]
   have hln:(chn k at0 (l.length:Int) (xs.take i)).length=2*i:=by rw [Nl,List.length_take];omega
   have htl:(xs.take i).length=i:=by rw [List.length_take];omega
   generalize hq:chn k at0 (l.length:Int) (xs.take i)=q at hln ⊢
   generalize lastA at0 (l.length:Int) (xs.take i)=at1
   have e:l++(q++[x,⟨k,at1,(l.length:Int)+2*((xs.take i).length:Int),[]⟩])=(l++q)++[x,⟨k,at1,((l++q).length:Int),[]⟩]:=by
    rw [List.append_assoc,List.length_append,hln,htl]
    congr 4
   rw [e]
   have e2:(l.length:Int)+2*((xs.take i).length:Int)+1=(((l++q)++[x,⟨k,at1,((l++q).length:Int),[]⟩]).length:Int) - 1:=by
    rw [List.length_append (bs:=[x,_]),List.length_append,hln,htl];simp;omega
   rw [e2]
   have hb:(l++q).length<=1002000:=by rw [List.length_append,hln];omega
   generalize l++q=m at hb ⊢
   simp only [Bf];rw [dT (show (i:Int)<(xs.length:Int) by omega),cT,getI hx,oB,Ab (by simp;omega),Ab (by constructor <;> (simp;omega)),Ab (by constructor <;> omega)])
  (by
   rintro n q rfl;refine ⟨_,?_,rfl⟩;simp only [Bf];rw [dF (by omega),cF_,List.take_length]) (by rw [FUv];omega) (at0,l) (by simp [chn,lastA])
 rw [e2] at e1;exact e1
theorem P7:∀ (l:List AutoState) (n:Int),(∀ s∈l,SB s)->offA n l<=n+95*(l.length:Int):=fun l n h=>IZ l n fun s hs=>(h s hs).1
theorem UH (a:AutoAuto) (h:a.l.length<=2001) (z:Int):Ba a FU (0,[],z)=some (List.replicate a.l.length ⟨0,0,0,[]⟩,z):=by
 have:=BW (φ:=fun n i q=>Ba a n (i,q,z)) (l:=a.l) (fun _=>(⟨0,0,0,[]⟩:ANd)) (fun q=>(q,z)) 0 (by
  intro n i x q hx hi hq
  simp only [Ba];rw [dT (by omega),cT,Ab (by simp;omega),Ab (by constructor <;> omega)]) (by
  intro n q hq
  simp only [Ba];rw [dF (by omega),cF_]) (by rw [FUv];omega) [] rfl
 rw [List.map_const',List.nil_append] at this;exact this
def upN (a:AutoAuto) (i:Nat):List ANd:=typH (a.l.length:Int) (a.l.take i)++(List.replicate (a.l.length - i) ⟨0,0,0,[]⟩++typB (a.l.length:Int) (a.l.take i))
theorem Vb (a:AutoAuto) (h:AB a) (z:Int):Bc a FU (0,List.replicate a.l.length ⟨0,0,0,[]⟩,z)=some ((typeW a).l,z):=by
 obtain ⟨hlen,hS⟩:=h;obtain ⟨o,e1,e2⟩:=Be (φ:=fun n i q=>Bc a n (i,q,z)) (l:=a.l) (fun i q=>q=upN a i) (fun o=>o=((typeW a).l,z))
  (by
   rintro n i s q hx hi rfl
   left
   refine ⟨upN a (i+1),?_,rfl⟩
   have hSs:SB s:=hS s (List.mem_of_getElem? hx)
   obtain ⟨h1,h2⟩:=Iw (a.l.take i) s [] (a.l.length:Int)
   have hH:(typH (a.l.length:Int) (a.l.take i)).length=i:=by rw [FT,List.length_take];omega
   have hB:(a.l.length:Int)+((typB (a.l.length:Int) (a.l.take i)).length:Int)=offA (a.l.length:Int) (a.l.take i):=Ih _ _
   have hOb:offA (a.l.length:Int) (a.l.take i)<=(a.l.length:Int)+95*((a.l.take i).length:Int):=P7 _ _ fun t ht=>hS t (List.mem_of_mem_take ht)
   have htl:(a.l.take i).length=i:=by rw [List.length_take];omega
   rw [htl] at hOb
   have hr:List.replicate (a.l.length - i) (⟨0,0,0,[]⟩:ANd)=⟨0,0,0,[]⟩::List.replicate (a.l.length - (i+1)) ⟨0,0,0,[]⟩:=by
    rw [show a.l.length - i=(a.l.length - (i+1))+1 by omega,List.replicate_succ]
   have hlu:((upN a i).length:Int)=offA (a.l.length:Int) (a.l.take i):=by
    unfold upN;rw [List.length_append,List.length_append,hH,List.length_replicate];omega
   have hnew:upN a (i+1)=((upN a i)++blk (offA (a.l.length:Int) (a.l.take i)) s).set i (hdN (offA (a.l.length:Int) (a.l.take i)) s):=by
    unfold upN;rw [takeS hx,h1,h2,hr];simp only [typH,typB,List.append_nil,List.append_assoc,List.cons_append,List.nil_append];rw [Vh hH]
   rw [hnew]
   have hub:(upN a i).length<=300000:=by omega
   have hget:idx (upN a i++blk (offA (a.l.length:Int) (a.l.take i)) s) (i:Int)=some ⟨0,0,0,[]⟩:=by
    refine getI ?_;unfold upN;rw [hr];simp only [List.append_assoc,List.cons_append];rw [List.getElem?_append_right (by omega),hH,Nat.sub_self];rfl
   rw [<- hlu] at hget ⊢
   generalize upN a i=u at hub hget hlu ⊢
   have hpl:(An s).length<=47:=Fy hSs.1
   have hlast:((u++[(⟨noK s.plus,0,0,[]⟩:ANd)]).length:Int)=(u.length:Int)+1:=by simp
   have l3:=UL (joK s.plus) (An s) z (((u++[(⟨noK s.plus,0,0,[]⟩:ANd)]).length:Int) - 1) (u++[⟨noK s.plus,0,0,[]⟩]) (by omega) (by simp;omega)
   rw [hlast,show (u.length:Int)+1 - 1=u.length by omega] at l3
   have hbk:u++blk (u.length:Int) s=(u++[⟨noK s.plus,0,0,[]⟩])++chn (joK s.plus) (u.length:Int) ((u.length:Int)+1) (An s):=by
    unfold blk;simp
   rw [hbk] at hget ⊢
   have hcond:(bif s.plus then some (9,2,1) else some (10,1,2):Option (Int×Int×Int))=some (joK s.plus,noK s.plus,evK s.plus):=by cases s.plus <;> rfl
   simp only [Bc];rw [dT (show (i:Int)<(a.l.length:Int) by omega),cT,getI hx,oB,hcond,oB]
   show grd _ _=_
   rw [Ab (by simp;omega),Ab (by rw [hlast];constructor <;> omega)];rw [show BR (⟨s.plus,s.all,s.int,s.bool,s.str,s.arrow,s.rec_,s.tag,s.vars,s.dom,s.cod,s.fields,s.tags⟩:AutoState) (evK s.plus)=some (An s) from PE s hSs,oB];rw [hlast,show (u.length:Int)+1 - 1=u.length by omega,l3,oB]
   show Option.bind (idx _ _) _=_
   rw [hget,oB,Ab (by constructor <;> omega)]
   rfl)
  (by
   rintro n q rfl;refine ⟨_,?_,rfl⟩;simp only [Bc];rw [dF (by omega),cF_];unfold upN;rw [List.take_length,Nat.sub_self,List.replicate_zero,List.nil_append];rfl) (by rw [FUv];omega) (List.replicate a.l.length ⟨0,0,0,[]⟩) (by simp [upN,typH,typB])
 rw [e2] at e1;exact e1
theorem Rr (a:AutoAuto) (h:AB a):Cp a=some (typeW a):=by
 unfold Cp;refine bnd (UH a h.1 a.start) ?_;refine bnd (Vb a h a.start) ?_
 rfl
end Go.Proofs.YtcoghblhdjmbfaaGreat
namespace Go.Proofs.YtcoghblhdjmbfaaGreat
open Go.V
open Classical
theorem Kl:∀ (m:Nat) (l:List Int),l.Nodup->(∀ x∈l,0<=x/\x<(m:Int))->l.length<=m
 | 0,l,_,h=>by
  cases l with
  | nil=>simp
  | cons a l=>have:=h a (by simp);omega
 | m+1,l,hn,h=>by
  have h1:=Kl m (l.erase (m:Int)) (hn.erase _) (fun x hx=>by
   have h2:=h x (List.mem_of_mem_erase hx)
   have h3:x≠(m:Int):=fun e=>by rw [e] at hx;exact absurd hx (by rw [hn.mem_erase_iff];simp)
   omega)
  have:=List.length_erase_le (a:=(m:Int)) (l:=l)
  have h4:l.length<=(l.erase (m:Int)).length+1:=by rw [List.length_erase];split <;> omega
  omega
section
variable {t:ATy} {S:Int->Prop} {D:ANd->Prop} {i:Int}
end
theorem getN {t:ATy} {i:Int} (h:In t i):idx t.l i=some (nd t i):=by unfold idx;rw [if_pos h.1,HX h]
theorem Ks:∀ x:List UInt8,Op.bytesLess x x=false
 | []=>rfl
 | a::x=>by
  unfold Op.bytesLess;rw [Ks x]
  have:¬ a<a:=by intro h;exact absurd (UInt8.lt_iff_toNat_lt.1 h) (Nat.lt_irrefl _)
  simp [this]
theorem Ls:∀ x y z:List UInt8,Op.bytesLess x y=true->Op.bytesLess y z=true->Op.bytesLess x z=true
 | x,y,[],_,h=>by cases y <;> cases h
 | [],_,_::_,_,_=>rfl
 | a::x,[],c::z,h,_=>by cases h
 | a::x,b::y,c::z,h1,h2=>by
  unfold Op.bytesLess at h1 h2 ⊢;simp only [Bool.or_eq_true,Bool.and_eq_true,decide_eq_true_eq,beq_iff_eq,UInt8.lt_iff_toNat_lt] at h1 h2 ⊢
  rcases h1 with h1 | ⟨rfl,h1⟩
  ·rcases h2 with h2 | ⟨rfl,h2⟩
   ·left;omega
   ·left;exact h1
  ·rcases h2 with h2 | ⟨rfl,h2⟩
   ·left;exact h2
   ·right;exact ⟨rfl,Ls x y z h1 h2⟩
theorem Sp {n:ANd} (h:D1 n):∀ (j i:Nat) (x y:AFd),i<j->n.l[i]? = some x->n.l[j]? = some y->Op.bytesLess x.name y.name=true:=by
 intro j
 induction j with
 | zero=>intro i x y h1;omega
 | succ j ih =>
  intro i x y h1 hx hy
  have hj:j<n.l.length:=by have:=(List.getElem?_eq_some_iff.1 hy).1;omega
  have h3:=(h (j+1) y hy).2 (by omega) n.l[j] (by rw [Nat.add_sub_cancel];exact List.getElem?_eq_getElem hj)
  by_cases h4:i=j
  ·subst h4
   rw [List.getElem?_eq_getElem hj] at hx;rw [<- Option.some.inj hx];exact h3
  ·exact Ls _ _ _ (ih i x _ (by omega) hx (List.getElem?_eq_getElem hj)) h3
theorem Ov {n:ANd} (h:D1 n):(n.l.map (·.name)).Nodup:=by
 unfold List.Nodup;rw [List.pairwise_iff_getElem]
 intro i j hi hj hij e
 rw [List.length_map] at hi hj
 have:=Sp h j i n.l[i] n.l[j] hij (List.getElem?_eq_getElem hi) (List.getElem?_eq_getElem hj)
 rw [List.getElem_map,List.getElem_map] at e;rw [e,Ks] at this
 cases this
theorem Pa {n:ANd} {all:Int} (h:AY n all=true):D1 n:=by
 unfold AY at h;simp only [Bool.and_eq_true,decide_eq_true_eq] at h;exact h.2.2.2.2.1.1
theorem TP {f:Int->Option Int}:∀ l:List Int,(l.filterMap f).length<=l.length/\(l.length<=(l.filterMap f).length↔∀ i∈l,f i≠none)
 | []=>by simp
 | i::l=>by
  obtain ⟨h1,h2⟩:=TP (f:=f) l;rw [List.filterMap_cons]
  cases hi:f i with
  | none=>simp only [List.length_cons,List.mem_cons,forall_eq_or_imp,hi];exact ⟨by omega,⟨fun h=>by omega,fun h=>absurd rfl h.1⟩⟩
  | some k =>
   simp only [List.length_cons,List.mem_cons,forall_eq_or_imp,hi];exact ⟨by omega,by rw [<- h2];simp⟩
theorem setl2 {l1 l3:List Int} {i:Nat} {v:Int} (hv:l1[i]? = some v) (h3:l3.length<=1000000):∃ k:Nat,Eb l1 (i:Int) l3 FU 0=some (k:Int)/\k<=l3.length/\(∀ j x,j<k->l3[j]? = some x->x<v)/\∀ x,l3[k]? = some x->¬ x<v:=by
 obtain ⟨o,e1,k,e2,e3,e4,e5⟩:=Be (φ:=fun n k (_:Unit)=>Eb l1 (i:Int) l3 n k) (l:=l3) (fun k _=>∀ j x,j<k->l3[j]? = some x->x<v) (fun o=>∃ k:Nat,o=(k:Int)/\k<=l3.length/\(∀ j x,j<k->l3[j]? = some x->x<v)/\∀ x,l3[k]? = some x->¬ x<v)
  (by
   intro n k x s hx hk hI
   simp only [Eb];rw [dT (show (k:Int)<(l3.length:Int) by omega),cT,getI hx,oB,getI hv,oB]
   by_cases hlt:x<v
   ·left
    rw [dT hlt,cT,Ab (by constructor <;> omega)];refine ⟨s,rfl,fun j y hj hy=>?_⟩
    by_cases hjk:j=k
    ·subst hjk;rw [hx] at hy;cases hy;exact hlt
    ·exact hI j y (by omega) hy
   ·right
    rw [dF hlt,cF_];exact ⟨_,rfl,k,rfl,by omega,hI,fun y hy=>by rw [hx] at hy;cases hy;exact hlt⟩)
  (by
   intro n s hI
   simp only [Eb];rw [dF (by omega),cF_];exact ⟨_,rfl,l3.length,rfl,Nat.le_refl _,hI,fun y hy=>by rw [List.getElem?_eq_none (Nat.le_refl _)] at hy;cases hy⟩) (by rw [FUv];omega) () (by intro j x hj;omega)
 exact ⟨k,by rw [e1,e2],e3,e4,e5⟩
theorem Pz {l:List Int} {k:Nat} {v:Int} (h:l.Pairwise (· < ·)) (hk:k<=l.length) (h1:∀ j x,j<k->l[j]? = some x->x<v) (h2:∀ x,l[k]? = some x->v<x):(l.take k++[v]++l.drop k).Pairwise (· < ·)/\∀ x,x∈l.take k++[v]++l.drop k↔x∈l\/x=v:=by
 have e:l=l.take k++l.drop k:=(List.take_append_drop k l).symm
 have ht:∀ x∈l.take k,x<v:=fun x hx=>by
  obtain ⟨j,hj⟩:=List.getElem?_of_mem hx
  have hj2:j<k:=by have:=(List.getElem?_eq_some_iff.1 hj).1;rw [List.length_take] at this;omega
  rw [List.getElem?_take,if_pos hj2] at hj;exact h1 j x hj2 hj
 have hp:=h
 rw [e,List.pairwise_append] at hp
 have hd:∀ x∈l.drop k,v<x:=fun x hx=>by
  by_cases hkl:k<l.length
  ·have h3:=h2 _ (List.getElem?_eq_getElem hkl)
   rw [List.drop_eq_getElem_cons hkl] at hx
   have h4:=hp.2.1
   rw [List.drop_eq_getElem_cons hkl,List.pairwise_cons] at h4
   rcases List.mem_cons.1 hx with rfl | hx
   ·exact h3
   ·have:=h4.1 x hx;omega
  ·rw [List.drop_eq_nil_of_le (by omega)] at hx;cases hx
 refine ⟨?_,fun x=>?_⟩
 ·rw [List.append_assoc,List.pairwise_append]
  refine ⟨hp.1,?_,fun x hx y hy=>?_⟩
  ·rw [List.cons_append,List.nil_append,List.pairwise_cons];exact ⟨hd,hp.2.1⟩
  ·rw [List.cons_append,List.nil_append] at hy
   rcases List.mem_cons.1 hy with rfl | hy
   ·exact ht x hx
   ·exact hp.2.2 x hx y hy
 ·have e2:x∈l↔x∈l.take k\/x∈l.drop k:=by
   constructor
   ·intro h;rw [e] at h;exact List.mem_append.1 h
   ·intro h;rw [e];exact List.mem_append.2 h
  rw [e2];simp only [List.mem_append,List.mem_singleton]
  constructor
  ·rintro ((h | h) | h)
   ·exact .inl (.inl h)
   ·exact .inr h
   ·exact .inl (.inr h)
  ·rintro ((h | h) | h)
   ·exact .inl (.inl h)
   ·exact .inr h
   ·exact .inl (.inr h)
theorem Gx {l:List Int} (hl:l.length<=100000):DN l=some (cs l):=by
 unfold DN;obtain ⟨o,e1,e2,e3,_⟩:=Be (φ:=fun n i s=>Dy l n (i,s)) (l:=l) (fun i s=>s.Pairwise (· < ·)/\(∀ x,x∈s↔x∈l.take i)/\s.length<=i) (fun o=>o.Pairwise (· < ·)/\(∀ x,x∈o↔x∈l)/\o.length<=l.length)
  (by
   rintro n i v s hv hi ⟨h1,h2,h3⟩
   left
   obtain ⟨k,e1,e2,e3,e4⟩:=setl2 hv (l3:=s) (by omega);simp only [Dy];rw [dT (show (i:Int)<(l.length:Int) by omega),cT,e1,oB]
   have hlt:(s.take k).length=k:=by rw [List.length_take];omega
   have hins:(∀ x,s[k]? = some x->v<x)->(s.take k++[v]++s.drop k).Pairwise (· < ·)/\(∀ x,x∈s.take k++[v]++s.drop k↔x∈l.take (i+1))/\(s.take k++[v]++s.drop k).length<=i+1:=fun h=>by
    obtain ⟨a,b⟩:=Pz h1 e2 e3 h;refine ⟨a,fun x=>by rw [b x,h2 x,takeS hv];simp,?_⟩;simp only [List.length_append,List.length_drop,List.length_cons,List.length_nil];omega
   by_cases hk:k<s.length
   ·have hy:s[k]? = some s[k]:=List.getElem?_eq_getElem hk
    rw [dT (show (k:Int)<(s.length:Int) by omega),cT,getI hy,oB,getI hv,oB]
    by_cases he:s[k]=v
    ·rw [dT he,cT,Ab (by constructor <;> omega)]
     refine ⟨_,rfl,h1,fun x=>?_,by omega⟩;rw [h2 x,takeS hv]
     constructor
     ·intro h;exact List.mem_append_left _ h
     ·intro h
      rcases List.mem_append.1 h with h | h
      ·exact h
      ·rw [List.mem_singleton] at h;subst h;exact (h2 _).1 (he▸List.getElem_mem hk)
    ·rw [dF he,cF_,Ia e2,oB,Ab (by omega),oB,Ab (by simp only [List.nil_append,List.length_cons,List.length_nil];omega),JM rfl e2,oB,Ab (by simp only [List.nil_append,List.length_append,List.length_drop,List.length_cons,List.length_nil];omega),Ab (by constructor <;> omega)]
     exact ⟨_,rfl,hins fun x hx=>by have:=e4 x hx;rw [hy] at hx;cases hx;omega⟩
   ·rw [dF (by omega),cF_,Ia e2,oB,Ab (by omega),getI hv,oB,Ab (by simp only [List.nil_append,List.length_cons,List.length_nil];omega),JM rfl e2,oB,Ab (by simp only [List.nil_append,List.length_append,List.length_drop,List.length_cons,List.length_nil];omega),Ab (by constructor <;> omega)]
    exact ⟨_,rfl,hins fun x hx=>by rw [List.getElem?_eq_none (by omega)] at hx;cases hx⟩)
  (by
   rintro n s ⟨h1,h2,h3⟩;simp only [Dy];rw [dF (by omega),cF_];exact ⟨s,rfl,h1,fun x=>by rw [h2 x,List.take_length],h3⟩) (by rw [FUv];omega) [] ⟨List.Pairwise.nil,by simp,by simp⟩
 rw [e1,oB,MW e2 e3]
theorem LH (l:List Int) (g:Int->Bool):decide (0<=(match l.findIdx? g with | some i=>(i:Int) | none => -1))=l.any g:=by
 cases hf:l.findIdx? g with
 | none =>
  have:l.any g=false:=by
   rw [List.any_eq_false]
   intro x hx
   have:=List.findIdx?_eq_none_iff.1 hf x hx
   simp [this]
  rw [this];rfl
 | some i =>
  obtain ⟨hi,h1,_⟩:=List.findIdx?_eq_some_iff_getElem.1 hf;rw [List.any_eq_true.2 ⟨l[i],List.getElem_mem hi,h1⟩];exact dT (by show (0:Int)<=(i:Int);omega)
theorem Lr {t:ATy} {l:List Int} (h:∀ i∈l,In t i) (hl:l.length<=1000) (k:Int):Fv t l k=some (match l.findIdx? (fun i=>decide ((nd t i).kind=k)) with | some i=>(i:Int) | none => -1):=by
 unfold Fv;rw [FA (φ:=Er t l k) (l:=l) (fun i=>(i:Int)) (fun i=>decide ((nd t i).kind=k)) ?_ ?_ (by rw [FUv];omega)]
 ·rw [oB]
  cases l.findIdx? (fun i=>decide ((nd t i).kind=k)) <;> rfl
 ·intro n i x hx hi
  simp only [Er];rw [dT (show (i:Int)<(l.length:Int) by omega),cT,getI hx,oB,getN (h x (List.mem_of_getElem? hx)),oB];exact ⟨fun hq=>by rw [hq,cF_,Ab (by constructor <;> omega)],fun hq=>by rw [hq,cT]⟩
 ·intro n
  simp only [Er];rw [dF (by omega),cF_]
theorem Rl {t:ATy} {l:List Int} (h:∀ i∈l,In t i) (hl:l.length<=1000):ER t l 9 10=some (match l.findIdx? (fun i=>latB (nd t i).kind) with | some i=>(i:Int) | none => -1):=by
 unfold ER;rw [FA (φ:=DS t l 9 10) (l:=l) (fun i=>(i:Int)) (fun i=>latB (nd t i).kind) ?_ ?_ (by rw [FUv];omega)]
 ·rw [oB]
  cases l.findIdx? (fun i=>latB (nd t i).kind) <;> rfl
 ·intro n i x hx hi
  simp only [DS];rw [dT (show (i:Int)<(l.length:Int) by omega),cT,getI hx,oB,getN (h x (List.mem_of_getElem? hx)),oB]
  change (latB (nd t x).kind=false->(bif latB (nd t x).kind then _ else _)=_)/\(latB (nd t x).kind=true->(bif latB (nd t x).kind then _ else _)=_)
  exact ⟨fun hq=>by rw [hq,cF_,Ab (by constructor <;> omega)],fun hq=>by rw [hq,cT]⟩
 ·intro n
  simp only [DS];rw [dF (by omega),cF_]
theorem TJ {l m:List Int} {i:Nat} (hi:i<l.length) (hl:l.length<=1000) (hm:m.length<=1000):Ds l (i:Int) m=some (cs (l.take i++l.drop (i+1)++m)):=by
 unfold Ds;rw [Ia (by omega),oB,Ab (by rw [List.length_take];omega),Ab (by constructor <;> omega),show ((i:Int)+1)=((i+1:Nat):Int) by omega,JM rfl (by omega),oB,Ab (by simp only [List.nil_append,List.length_take,List.length_drop];omega),Ab (by simp only [List.nil_append,List.length_append,List.length_take,List.length_drop];omega),List.nil_append,Gx (by simp only [List.length_append,List.length_take,List.length_drop];omega),oB]
theorem NA {n:ANd} (h:NB n) (s:List UInt8):Gd n s=some ((atN n s).getD (-1)):=by
 have h40:n.l.length<=40:=h
 unfold Gd;obtain ⟨o,e1,e2⟩:=Be (φ:=fun k i (_:Unit)=>Eg n s k i) (l:=n.l) (fun i _=>(n.l.take i).find? (fun f=>decide (f.name=s))=none) (fun o=>o.on (fun r=>some r) (fun _=>some (-1))=some ((atN n s).getD (-1)))
  (by
   intro k i x u hx hi hI
   simp only [Eg];rw [dT (show (i:Int)<(n.l.length:Int) by omega),cT,getI hx,oB]
   by_cases hs:x.name=s
   ·right
    rw [dT hs,cT,oB];refine ⟨_,rfl,?_⟩
    have e:n.l=n.l.take i++x::n.l.drop (i+1):=by
     have hx2:=(List.getElem?_eq_some_iff.1 hx).2
     rw [<- hx2,<- List.drop_eq_getElem_cons hi,List.take_append_drop]
    have:atN n s=some x.at_:=by
     unfold atN;rw [e,List.find?_append,hI,List.find?_cons_of_pos (by simpa using hs)];rfl
    rw [this];rfl
   ·left
    rw [dF hs,cF_,Ab (by constructor <;> omega)];refine ⟨u,rfl,?_⟩;rw [takeS hx,List.find?_append,hI,List.find?_cons_of_neg (by simpa using hs)];rfl)
  (by
   intro k u hI
   simp only [Eg];rw [dF (by omega),cF_];refine ⟨_,rfl,?_⟩;rw [List.take_length] at hI;unfold atN;rw [hI];rfl) (by rw [FUv];omega) () (by simp)
 rw [e1,oB,e2]
theorem J5 {t:ATy} (hO:OkT t) (hN:∀ n∈t.l,NB n) {l:List Int} (h:∀ i∈l,In t i) (hl:l.length<=1000) (s:List UInt8):EP t l s=some (cs (AR t l s)):=by
 unfold EP
 have hlen:∀ m:List Int,m.length<=1000->(AR t m s).length<=1000:=fun m hm=>Nat.le_trans (List.length_filterMap_le _ _) hm
 obtain ⟨o,e1,e2⟩:=Be (φ:=fun k i q=>Di t l s k (i,q)) (l:=l) (fun i q=>q=AR t (l.take i) s) (fun o=>o=AR t l s)
  (by
   rintro k i x q hx hi rfl
   left
   have hxi:=h x (List.mem_of_getElem? hx)
   have hl2:=hlen (l.take i) (by rw [List.length_take];omega)
   simp only [Di];rw [dT (show (i:Int)<(l.length:Int) by omega),cT,getI hx,oB,getN hxi,oB,NA (hN _ (Il hxi)),oB]
   have ep:AR t (l.take (i+1)) s=AR t (l.take i) s++(atN (nd t x) s).toList:=by
    rw [takeS hx];unfold AR;rw [List.filterMap_append]
    congr 1
   rw [ep]
   cases ha:atN (nd t x) s with
   | none =>
    rw [show decide (0<=(none:Option Int).getD (-1))=false from rfl,cF_,Ab (by constructor <;> omega)];exact ⟨_,rfl,by simp⟩
   | some z =>
    have hz:=(M8 hO hxi ha).1
    rw [show (some z).getD (-1)=z from rfl,dT hz,cT,Ab (by simp only [List.length_cons,List.length_nil];omega),Ab (by constructor <;> omega)];exact ⟨_,rfl,by simp⟩)
  (by
   rintro k q rfl;simp only [Di];rw [dF (by omega),cF_];exact ⟨_,rfl,by rw [List.take_length]⟩) (by rw [FUv];omega) [] (by simp [AR])
 rw [e1,oB,e2,Gx (by have:=hlen l hl;omega),oB]
theorem RH {t:ATy} (hO:OkT t) (hN:∀ n∈t.l,NB n) {l:List Int} (h:∀ i∈l,In t i) (hl:l.length<=1000) (s:List UInt8):Fm t l s=some ((AR t l s).length:Int):=by
 unfold Fm
 have hlen:∀ m:List Int,m.length<=1000->(AR t m s).length<=1000:=fun m hm=>Nat.le_trans (List.length_filterMap_le _ _) hm
 obtain ⟨o,e1,e2⟩:=Be (φ:=fun k i q=>Cu t l s k (q,i)) (l:=l) (fun i q=>q=((AR t (l.take i) s).length:Int)) (fun o=>o=((AR t l s).length:Int))
  (by
   rintro k i x q hx hi rfl
   left
   have hxi:=h x (List.mem_of_getElem? hx)
   have hl2:=hlen (l.take i) (by rw [List.length_take];omega)
   simp only [Cu];rw [dT (show (i:Int)<(l.length:Int) by omega),cT,getI hx,oB,getN hxi,oB,NA (hN _ (Il hxi)),oB]
   have ep:AR t (l.take (i+1)) s=AR t (l.take i) s++(atN (nd t x) s).toList:=by
    rw [takeS hx];unfold AR;rw [List.filterMap_append]
    congr 1
   rw [ep]
   cases ha:atN (nd t x) s with
   | none =>
    rw [show decide (0<=(none:Option Int).getD (-1))=false from rfl,cF_,Ab (by constructor <;> omega)];exact ⟨_,rfl,by simp⟩
   | some z =>
    have hz:=(M8 hO hxi ha).1
    rw [show (some z).getD (-1)=z from rfl,dT hz,cT,Ab (by constructor <;> omega),Ab (by constructor <;> omega)];exact ⟨_,rfl,by simp⟩)
  (by
   rintro k q rfl;simp only [Cu];rw [dF (by omega),cF_];exact ⟨_,rfl,by rw [List.take_length]⟩) (by rw [FUv];omega) 0 (by simp [AR])
 rw [e1,oB,e2]
theorem Sf {t:ATy} {l:List Int} (h:∀ i∈l,In t i) (hl:l.length<=1000) (k:Int):IB t l k=some (ofK t l k):=by
 unfold IB
 have hlen:∀ m:List Int,m.length<=1000->(ofK t m k).length<=1000:=fun m hm=>Nat.le_trans (List.length_filter_le _ _) hm
 obtain ⟨o,e1,e2⟩:=Be (φ:=fun n i q=>EO t l k n (i,q)) (l:=l) (fun i q=>q=ofK t (l.take i) k) (fun o=>o=ofK t l k)
  (by
   rintro n i x q hx hi rfl
   left
   have hxi:=h x (List.mem_of_getElem? hx)
   have hl2:=hlen (l.take i) (by rw [List.length_take];omega)
   simp only [EO];rw [dT (show (i:Int)<(l.length:Int) by omega),cT,getI hx,oB,getN hxi,oB]
   have ep:ofK t (l.take (i+1)) k=ofK t (l.take i) k++(if (nd t x).kind=k then [x] else []):=by
    rw [takeS hx];unfold ofK;rw [List.filter_append]
    congr 1
    by_cases hk:(nd t x).kind=k
    ·simp [hk]
    ·simp [hk]
   rw [ep]
   by_cases hk:(nd t x).kind=k
   ·rw [dT hk,cT,oB,Ab (by simp only [List.length_cons,List.length_nil];omega),Ab (by constructor <;> omega),if_pos hk]
    exact ⟨_,rfl,rfl⟩
   ·rw [dF hk,cF_,Ab (by constructor <;> omega),if_neg hk,List.append_nil]
    exact ⟨_,rfl,rfl⟩)
  (by
   rintro n q rfl;simp only [EO];rw [dF (by omega),cF_];exact ⟨_,rfl,by rw [List.take_length]⟩) (by rw [FUv];omega) [] (by simp [ofK])
 rw [e1,oB,e2]
theorem all_parts {t:ATy} {l:List Int} {s:List UInt8}:(AR t l s).length=l.length↔(l.all fun j=>(atN (nd t j) s).isSome)=true:=by
 obtain ⟨h1,h2⟩:=TP (f:=fun i=>atN (nd t i) s) l;unfold AR;rw [List.all_eq_true]
 constructor
 ·intro h j hj
  have:=h2.1 (by omega) j hj
  cases hq:atN (nd t j) s with
  | none=>exact absurd hq this
  | some _=>rfl
 ·intro h
  have:=h2.2 fun j hj=>by have:=h j hj;cases hq:atN (nd t j) s with
   | none=>rw [hq] at this;cases this
   | some _=>simp
  omega
theorem MC {t:ATy} (hO:OkT t) (hN:∀ n∈t.l,NB n) {l:List Int} (h:∀ i∈l,In t i) (hl:l.length<=1000) (hne:l≠[]):D9 t l=some (E9 t l):=by
 obtain ⟨a,m,rfl⟩:=List.exists_cons_of_ne_nil hne
 have ha:=h a (by simp)
 have h40:(nd t a).l.length<=40:=hN _ (Il ha)
 have hnd:=Ov (Pa (hO.right _ (Il ha)))
 unfold D9
 have i0:idx (a::m) 0=some a:=rfl
 obtain ⟨o,e1,e2⟩:=Be (φ:=fun n i q=>Dg t (a::m) n (i,q)) (l:=(nd t a).l) (fun i q=>q=(((nd t a).l.take i).map (·.name)).filter fun s=>(a::m).all fun j=>(atN (nd t j) s).isSome) (fun o=>o=E9 t (a::m))
  (by
   rintro n i x q hx hi rfl
   left
   have hql:((((nd t a).l.take i).map (·.name)).filter fun s=>(a::m).all fun j=>(atN (nd t j) s).isSome).length<=40:=Nat.le_trans (List.length_filter_le _ _) (by rw [List.length_map,List.length_take];omega)
   have hnot:x.name∉(((nd t a).l.take i).map (·.name)).filter fun s=>(a::m).all fun j=>(atN (nd t j) s).isSome:=by
    intro hm
    have hm2:=(List.mem_filter.1 hm).1
    have e:(nd t a).l.map (·.name)=((nd t a).l.take i).map (·.name)++x.name::((nd t a).l.drop (i+1)).map (·.name):=by
     have hx2:=(List.getElem?_eq_some_iff.1 hx).2
     rw [<- hx2,<- List.map_cons,<- List.drop_eq_getElem_cons hi,<- List.map_append,List.take_append_drop]
    rw [e,List.nodup_append] at hnd;exact hnd.2.2 _ hm2 _ (List.mem_cons_self) rfl
   simp only [Dg];rw [i0,oB,getN ha,oB,dT (show (i:Int)<((nd t a).l.length:Int) by omega),cT,oB,getN ha,oB,getI hx,oB,J5 hO hN h hl,oB,RH hO hN h hl,oB,Mm _ _ (by omega),dF hnot]
   have hlast:(((nd t a).l.take (i+1)).map (·.name)).filter (fun s=>(a::m).all fun j=>(atN (nd t j) s).isSome)=(((nd t a).l.take i).map (·.name)).filter (fun s=>(a::m).all fun j=>(atN (nd t j) s).isSome)++(if ((a::m).all fun j=>(atN (nd t j) x.name).isSome)=true then [x.name] else []):=by
    rw [takeS hx,List.map_append,List.filter_append]
    congr 1
    by_cases hk:((a::m).all fun j=>(atN (nd t j) x.name).isSome)=true
    ·rw [if_pos hk,List.map_cons,List.map_nil,List.filter_cons_of_pos (by exact hk)];rfl
    ·rw [if_neg hk,List.map_cons,List.map_nil,List.filter_cons_of_neg (by exact hk)];rfl
   by_cases hall:((a::m).all fun j=>(atN (nd t j) x.name).isSome)=true
   ·have hlen:=all_parts.2 hall
    have hpos:0<(cs (AR t (a::m) x.name)).length:=by
     have hp:0<(AR t (a::m) x.name).length:=by rw [hlen];simp
     obtain ⟨y,hy⟩:=List.exists_mem_of_length_pos hp;exact List.length_pos_of_mem (mem_cs.2 hy)
    rw [dT (show (0:Int)<((cs (AR t (a::m) x.name)).length:Int) by omega),cT,oB,dT (by omega),cT,oB,Bool.not_false,oB,cT,Ab (by simp only [List.length_cons,List.length_nil];omega),Ab (by constructor <;> omega)];exact ⟨_,rfl,by rw [hlast,if_pos hall]⟩
   ·have hlen:¬ (AR t (a::m) x.name).length=(a::m).length:=fun e=>hall (all_parts.1 e)
    have e0:((bif decide (0<((cs (AR t (a::m) x.name)).length:Int)) then some (decide (((AR t (a::m) x.name).length:Int)=((a::m).length:Int))) else some false):Option Bool)=some false:=by
     rw [dF (show ¬ ((AR t (a::m) x.name).length:Int)=((a::m).length:Int) by omega)]
     cases decide (0<((cs (AR t (a::m) x.name)).length:Int)) <;> rfl
    rw [e0,oB,cF_,oB,cF_,Ab (by constructor <;> omega)];exact ⟨_,rfl,by rw [hlast,if_neg hall,List.append_nil]⟩)
  (by
   rintro n q rfl;simp only [Dg];rw [i0,oB,getN ha,oB,dF (by omega),cF_];exact ⟨_,rfl,by rw [List.take_length];rfl⟩) (by rw [FUv];omega) [] (by simp)
 rw [e1,oB,e2]
def toS (q:BSq):RSeq:=⟨q.left,q.right⟩
theorem Ve {t:ATy} {l r:List Int} (hL:∀ i∈l,In t i) (hR:∀ i∈r,In t i) (hl:l.length<=1000) (hr:r.length<=1000) :
  (Dn t l FU (0,[],[],[],[])).bind (fun (l2,l3,l4,l5)=>(Db t r FU (0,l2,l3,l4,l5)).bind fun (l10,l11,l12,l13)=>some (l10,l11,l12,l13))=some (r.map (fun i=>(nd t i).b),l.map (fun i=>(nd t i).b),l.map (fun i=>(nd t i).a),r.map (fun i=>(nd t i).a)):=by
 obtain ⟨o,e1,e2⟩:=Be (φ:=fun n i s=>Dn t l n (i,s)) (l:=l) (fun i s=>s=([],(l.take i).map (fun i=>(nd t i).b),(l.take i).map (fun i=>(nd t i).a),[])) (fun o=>o=([],l.map (fun i=>(nd t i).b),l.map (fun i=>(nd t i).a),[]))
  (by
   rintro n i x s hx hi rfl
   left
   have hxm:=List.mem_of_getElem? hx
   have hti:(l.take i).length<=1000:=by rw [List.length_take];omega
   simp only [Dn];rw [dT (show (i:Int)<(l.length:Int) by omega),cT,getI hx,oB,getN (hL x hxm),oB,Ab (by simp only [List.length_map,List.length_cons,List.length_nil];omega),oB,getN (hL x hxm),oB,Ab (by simp only [List.length_map,List.length_cons,List.length_nil];omega),Ab (by constructor <;> omega)];refine ⟨_,rfl,?_⟩;rw [takeS hx];simp)
  (by
   rintro n s rfl;simp only [Dn];rw [dF (by omega),cF_];exact ⟨_,rfl,by simp⟩) (by rw [FUv];omega) ([],[],[],[]) (by simp)
 rw [e1,oB,e2];obtain ⟨o,e3,e4⟩:=Be (φ:=fun n i s=>Db t r n (i,s)) (l:=r) (fun i s=>s=((r.take i).map (fun i=>(nd t i).b),l.map (fun i=>(nd t i).b),l.map (fun i=>(nd t i).a),(r.take i).map (fun i=>(nd t i).a))) (fun o=>o=(r.map (fun i=>(nd t i).b),l.map (fun i=>(nd t i).b),l.map (fun i=>(nd t i).a),r.map (fun i=>(nd t i).a)))
  (by
   rintro n i x s hx hi rfl
   left
   have hxm:=List.mem_of_getElem? hx
   have hti:(r.take i).length<=1000:=by rw [List.length_take];omega
   simp only [Db];rw [dT (show (i:Int)<(r.length:Int) by omega),cT,getI hx,oB,getN (hR x hxm),oB,Ab (by simp only [List.length_map,List.length_cons,List.length_nil];omega),oB,getN (hR x hxm),oB,Ab (by simp only [List.length_map,List.length_cons,List.length_nil];omega),Ab (by constructor <;> omega)];refine ⟨_,rfl,?_⟩;rw [takeS hx];simp)
  (by
   rintro n s rfl;simp only [Db];rw [dF (by omega),cF_];exact ⟨_,rfl,by simp⟩) (by rw [FUv];omega) ([],l.map (fun i=>(nd t i).b),l.map (fun i=>(nd t i).a),[]) (by simp)
 simp only
 rw [e3,oB,e4]
theorem Up {R S T:Type} (u:S) (f:R->Option T) (g:S->Option T):(Out.go u:Out R S).on f g=g u:=rfl
theorem HO {α:Type} (l:List α):decide ((l.length:Int)=0)=l.isEmpty:=by
 cases l with
 | nil=>rfl
 | cons a l=>exact dF (by simp only [List.length_cons];omega)
theorem Oe (l:List Int):(cs l).isEmpty=l.isEmpty:=by
 cases h:l with
 | nil =>
  have:cs []=[]:=by rw [List.eq_nil_iff_forall_not_mem];intro x hx;exact absurd (mem_cs.1 hx) (by simp)
  rw [this]
 | cons a m =>
  have:a∈cs (a::m):=mem_cs.2 (by simp)
  cases hq:cs (a::m) with
  | nil=>rw [hq] at this;cases this
  | cons _ _=>rfl
theorem Rt {t:ATy} (hO:OkT t) (hN:∀ n∈t.l,NB n) {l r:List Int} (hL:∀ i∈l,In t i) (hR:∀ i∈r,In t i) (hl:l.length<=1000) (hr:r.length<=1000) (all:List (List UInt8)) (ha:all.length<=1000) :
  (Dc t l r all FU (0,[])).bind (fun oo=>oo.on (fun r2=>some r2) (fun l18=>some (l18,true)))=some (if all.any (badA t l r)=true then ([],false) else (all.map fun s=>⟨cs (AR t l s),cs (AR t r s)⟩,true)):=by
 obtain ⟨o,e1,e2⟩:=Be (φ:=fun n i s=>Dc t l r all n (i,s)) (l:=all) (fun i s=>s=(all.take i).map (fun s=>(⟨cs (AR t l s),cs (AR t r s)⟩:RSeq))/\(all.take i).any (badA t l r)=false) (fun oo=>oo.on (fun r2=>some r2) (fun l18=>some (l18,true))=some (if all.any (badA t l r)=true then ([],false) else (all.map fun s=>⟨cs (AR t l s),cs (AR t r s)⟩,true)))
  (by
   rintro n i x s hx hi ⟨rfl,hb⟩
   have hti:(all.take i).length<=1000:=by rw [List.length_take];omega
   simp only [Dc];rw [dT (show (i:Int)<(all.length:Int) by omega),cT,getI hx,oB,J5 hO hN hL hl,oB,oB,J5 hO hN hR hr,oB,HO,HO,Oe,Oe]
   change (∃ s',(bif badA t l r x then _ else _)=_/\_)\/(∃ o,(bif badA t l r x then _ else _)=_/\_)
   cases hbx:badA t l r x with
   | true =>
    right
    rw [cT];refine ⟨_,rfl,?_⟩;rw [if_pos (List.any_eq_true.2 ⟨x,List.mem_of_getElem? hx,hbx⟩)];rfl
   | false =>
    left
    rw [cF_,Ab (by simp only [List.length_map,List.length_cons,List.length_nil];omega),Ab (by constructor <;> omega)];refine ⟨_,rfl,by rw [takeS hx];simp,?_⟩;rw [takeS hx,List.any_append,hb];simp [hbx])
  (by
   rintro n s ⟨rfl,hb⟩;simp only [Dc];rw [dF (by omega),cF_];rw [List.take_length] at hb ⊢;exact ⟨_,rfl,by rw [hb];rfl⟩) (by rw [FUv];omega) [] ⟨by simp,by simp⟩
 rw [e1,oB,e2]
theorem GC {t:ATy} (hN:∀ n∈t.l,NB n) {l:List Int} (h:∀ i∈l,In t i):(E9 t l).length<=1000:=by
 cases l with
 | nil=>simp [E9]
 | cons a m =>
  have h40:(nd t a).l.length<=40:=hN _ (Il (h a (by simp)))
  unfold E9;exact Nat.le_trans (List.length_filter_le _ _) (by rw [List.length_map];omega)
theorem Rs {t:ATy} (hO:OkT t) (hN:∀ n∈t.l,NB n) {l r:List Int} {k:Int} (hL:∀ i∈l,In t i) (hR:∀ i∈r,In t i) (hl:l.length<=1000) (hr:r.length<=1000) (hlne:l≠[]) :
  Gp t k l r=some ((CM t k l r).2.map toS,!(CM t k l r).1):=by
 unfold Gp CM;rw [HO]
 by_cases h0:k≠8/\r=[]
 ·rw [if_pos h0,dF h0.1,h0.2];rfl
 ·rw [if_neg h0]
  have e0:((!decide (k=8))&&r.isEmpty)=false:=by
   by_cases h8:k=8
   ·rw [dT h8];rfl
   ·rw [dF h8]
    cases r with
    | nil=>exact absurd ⟨h8,rfl⟩ h0
    | cons _ _=>rfl
  rw [e0,cF_]
  by_cases h6:k=6
  ·rw [dT h6,cT,if_pos h6]
   have e1:=Ve hL hR hl hr
   rw [Option.bind_eq_some_iff] at e1;obtain ⟨⟨l2,l3,l4,l5⟩,e2,e3⟩:=e1;rw [Option.bind_eq_some_iff] at e3;obtain ⟨⟨l10,l11,l12,l13⟩,e4,e5⟩:=e3;simp only [Option.some.injEq,Prod.mk.injEq] at e5;obtain ⟨rfl,rfl,rfl,rfl⟩:=e5;rw [e2,oB]
   simp only
   rw [e4,oB]
   simp only
   rw [Gx (by simp;omega),oB,Gx (by simp;omega),oB,Gx (by simp;omega),oB,Gx (by simp;omega),oB]
   rfl
  ·rw [dF h6,cF_,if_neg h6]
   have hrne:k=7->r≠[]:=fun h7 e=>h0 ⟨by omega,e⟩
   have eall:((bif (decide (k=7)) then (D9 t r).bind fun x13=>some x13 else some []:Option (List (List UInt8))).bind fun all1=>(bif (decide (k=8)) then (D9 t l).bind fun x14=>some x14 else some all1:Option (List (List UInt8))))=some (allA t k l r):=by
    unfold allA
    by_cases h7:k=7
    ·rw [dT h7,cT,if_pos h7,MC hO hN hR hr (hrne h7),oB,oB,dF (by omega),cF_]
    ·rw [dF h7,cF_,if_neg h7,oB]
     by_cases h8:k=8
     ·rw [dT h8,cT,if_pos h8,MC hO hN hL hl hlne,oB]
     ·rw [dF h8,cF_,if_neg h8]
   have hsm:(allA t k l r).length<=1000:=by
    unfold allA
    split
    ·exact GC hN hR
    ·split
     ·exact GC hN hL
     ·simp
   rw [<- Option.bind_assoc,eall,oB,Rt hO hN hL hR hl hr _ hsm]
   by_cases hb:(allA t k l r).any (badA t l r)=true
   ·rw [if_pos hb,if_pos hb];rfl
   ·rw [if_neg hb,if_neg hb];simp [toS,Function.comp_def]
theorem T9 {t:ATy} {q:BSq} (hq:InQ t q) (h1:q.left.length<=500) (h2:q.right.length<=500):Dm t (toS q) FU 0=some (if If t q=true then .ret ([],true) else .go ()):=by
 have hl2:∀ (i:Nat) x,q.left[i]? = some x->Dp t (toS q) (i:Int) FU 0=some (if (q.right.any fun j=>decide ((nd t x).kind=11)&&decide ((nd t j).kind=11)&&decide ((nd t x).a=(nd t j).a))=true then .ret ([],true) else .go ()):=by
  intro i x hx
  rw [Hc (φ:=Dp t (toS q) (i:Int)) (l:=q.right) ([],true) (fun _ j=>(decide ((nd t x).kind=11)&&decide ((nd t j).kind=11)&&decide ((nd t x).a=(nd t j).a))=true) ?_ ?_ (by rw [FUv];omega)]
  ·congr 1
   have e:(∃ (k:Nat) (j:Int),q.right[k]? = some j/\(decide ((nd t x).kind=11)&&decide ((nd t j).kind=11)&&decide ((nd t x).a=(nd t j).a))=true)↔(q.right.any fun j=>decide ((nd t x).kind=11)&&decide ((nd t j).kind=11)&&decide ((nd t x).a=(nd t j).a))=true:=by
    rw [List.any_eq_true]
    constructor
    ·rintro ⟨k,j,hk,h⟩;exact ⟨j,List.mem_of_getElem? hk,h⟩
    ·rintro ⟨j,hj,h⟩;obtain ⟨k,hk⟩:=List.getElem?_of_mem hj;exact ⟨k,j,hk,h⟩
   by_cases hc:(q.right.any fun j=>decide ((nd t x).kind=11)&&decide ((nd t j).kind=11)&&decide ((nd t x).a=(nd t j).a))=true
   ·rw [if_pos (e.2 hc),if_pos hc]
   ·rw [if_neg (fun h=>hc (e.1 h)),if_neg hc]
  ·intro n k j hj hk
   simp only [Dp]
   have e1:idx (toS q).l (i:Int)=some x:=getI hx
   have e2:idx (toS q).r (k:Int)=some j:=getI hj
   rw [dT (show (k:Int)<((toS q).r.length:Int) by show (k:Int)<(q.right.length:Int);omega),cT,e1,oB,getN (hq.1 x (List.mem_of_getElem? hx)),oB,e2,oB,getN (hq.2 j (List.mem_of_getElem? hj)),oB]
   constructor
   ·intro hc;rw [show (decide ((nd t x).kind=11)&&decide ((nd t j).kind=11)&&decide ((nd t x).a=(nd t j).a))=false by simpa using hc,cF_,Ab (by constructor <;> omega)]
   ·intro hc;rw [hc,cT]
  ·intro n
   simp only [Dp];rw [dF (by show ¬ (q.right.length:Int)<(q.right.length:Int);omega),cF_]
 rw [Hc (φ:=Dm t (toS q)) (l:=q.left) ([],true) (fun _ x=>(q.right.any fun j=>decide ((nd t x).kind=11)&&decide ((nd t j).kind=11)&&decide ((nd t x).a=(nd t j).a))=true) ?_ ?_ (by rw [FUv];omega)]
 ·congr 1
  unfold If
  have e:(∃ (k:Nat) (x:Int),q.left[k]? = some x/\(q.right.any fun j=>decide ((nd t x).kind=11)&&decide ((nd t j).kind=11)&&decide ((nd t x).a=(nd t j).a))=true)↔(q.left.any fun x=>q.right.any fun j=>decide ((nd t x).kind=11)&&decide ((nd t j).kind=11)&&decide ((nd t x).a=(nd t j).a))=true:=by
   rw [List.any_eq_true]
   constructor
   ·rintro ⟨k,j,hk,h⟩;exact ⟨j,List.mem_of_getElem? hk,h⟩
   ·rintro ⟨j,hj,h⟩;obtain ⟨k,hk⟩:=List.getElem?_of_mem hj;exact ⟨k,j,hk,h⟩
  by_cases hc:(q.left.any fun x=>q.right.any fun j=>decide ((nd t x).kind=11)&&decide ((nd t j).kind=11)&&decide ((nd t x).a=(nd t j).a))=true
  ·rw [if_pos (e.2 hc),if_pos hc]
  ·rw [if_neg (fun h=>hc (e.1 h)),if_neg hc]
 ·intro n i x hx hi
  simp only [Dm];rw [dT (show (i:Int)<((toS q).l.length:Int) by show (i:Int)<(q.left.length:Int);omega),cT,hl2 i x hx,oB]
  constructor
  ·intro hc;rw [if_neg hc]
   rw [Up,Ab (by constructor <;> omega)]
  ·intro hc;rw [if_pos hc];rfl
 ·intro n
  simp only [Dm];rw [dF (by show ¬ (q.left.length:Int)<(q.left.length:Int);omega),cF_]
theorem Va {t:ATy} {q:BSq} (hq:InQ t q) (h1:q.left.length<=500) (n:Nat) (i:Int) (hi:3<=i/\i<=8) (l:List Int) (hl:l.length<=100) :
  BU t (toS q) (n+1) (i,l)=BU t (toS q) n (i+1,l++(if (q.left.any fun j=>decide ((nd t j).kind=i))=true then [i] else [])):=by
 simp only [BU];rw [dT hi.2,cT,show (toS q).l=q.left from rfl,Lr hq.1 (by omega),oB,LH]
 by_cases hc:(q.left.any fun j=>decide ((nd t j).kind=i))=true
 ·rw [hc,cT,Ab (by simp only [List.length_cons,List.length_nil];omega),Ab (by constructor <;> omega),if_pos rfl]
 ·have hc2:(q.left.any fun j=>decide ((nd t j).kind=i))=false:=by simpa using hc
  rw [hc2,cF_,Ab (by constructor <;> omega),if_neg (by simp),List.append_nil]
theorem RP (p:Int->Bool) (a:Int) (l:List Int):List.filter p (a::l)=(if p a=true then [a] else [])++List.filter p l:=by
 by_cases h:p a=true
 ·rw [List.filter_cons_of_pos h,if_pos h];rfl
 ·rw [List.filter_cons_of_neg h,if_neg h];rfl
def ints (i:Int):Nat->List Int
 | 0=>[]
 | m+1=>i::ints (i+1) m
theorem SL {t:ATy} {q:BSq} (hq:InQ t q) (h1:q.left.length<=500):∀ (m n:Nat) (i:Int) (l:List Int),3<=i->i+m=9->l.length+m<=100 ->
  BU t (toS q) (n+m+1) (i,l)=some (l++(ints i m).filter fun k=>q.left.any fun j=>decide ((nd t j).kind=k))
 | 0,n,i,l,h3,h9,hl=>by
  simp only [BU];rw [dF (by omega),cF_]
  simp [ints]
 | m+1,n,i,l,h3,h9,hl=>by
  rw [show n+(m+1)+1=(n+m+1)+1 from rfl,Va hq h1 _ i (by omega) l (by omega)]
  have hle:(if (q.left.any fun j=>decide ((nd t j).kind=i))=true then [i] else []:List Int).length<=1:=by split <;> simp
  rw [SL hq h1 m n (i+1) _ (by omega) (by omega) (by rw [List.length_append];omega)];rw [show ints i (m+1)=i::ints (i+1) m from rfl,RP,List.append_assoc]
theorem RB {t:ATy} {q:BSq} (hq:InQ t q) (h1:q.left.length<=500):BU t (toS q) FU (3,[])=some (E5 t q.left):=by
 have:=SL hq h1 6 18446744073709551609 3 [] (by omega) (by omega) (by simp)
 rw [show FU=18446744073709551609+6+1 from rfl,this,List.nil_append]
 rfl
theorem QM {t:ATy} {l:List Int} (h:∀ i∈l,In t i) (hl:l.length<=500) {α:Type} (K:ANd->(List Int->Option (List Int))->Option α) (Z:Option α) (hK:∀ n f g,(∀ m:List Int,m.length<=2->f m=g m)->K n f=K n g) :
  (ER t l 9 10).bind (fun x3=>bif (decide (0<=x3)) then (idx l x3).bind fun x4=>(idx t.l x4).bind fun x5=>K x5 (fun m=>Ds l x3 m) else Z)=(match latA t l with | some (n,rest)=>K n (fun m=>some (cs (rest++m))) | none=>Z):=by
 rw [Rl h (by omega),oB];unfold latA
 cases hf:l.findIdx? (fun i=>latB (nd t i).kind) with
 | none=>rfl
 | some i =>
  obtain ⟨hi,h1,_⟩:=List.findIdx?_eq_some_iff_getElem.1 hf
  have hx:l[i]? = some l[i]:=List.getElem?_eq_getElem hi
  have e:l.getD i 0=l[i]:=by rw [List.getD_eq_getElem?_getD,hx];rfl
  simp only [Option.map_some];rw [dT (by omega),cT,getI hx,oB,getN (h _ (List.getElem_mem hi)),oB,e];exact hK _ _ _ fun m hm=>TJ hi (by omega) (by omega)
theorem R4 {t:ATy} {q:BSq} (hO:OkT t) (hN:∀ n∈t.l,NB n) (hq:InQ t q) (h1:q.left.length<=500) (h2:q.right.length<=500):FB t (toS q)=some ((BJ t q).2.map toS,!(BJ t q).1):=by
 unfold FB;rw [show (toS q).l=q.left from rfl,show (toS q).r=q.right from rfl,Lr hq.1 (by omega),oB,LH,Lr hq.2 (by omega),oB,LH]
 have he:(bif (q.left.any fun i=>decide ((nd t i).kind=2)) then (some true) else (some (q.right.any fun i=>decide ((nd t i).kind=1)):Option Bool))=some (endA t q):=by
  unfold endA
  cases q.left.any fun i=>decide ((nd t i).kind=2) <;> rfl
 rw [he,oB];unfold BJ
 cases h3:endA t q with
 | true=>rw [cT,if_pos rfl];rfl
 | false =>
  rw [cF_,if_neg (by simp)]
  have eL:=QM hq.1 h1 (fun x5 f=>bif (decide (x5.kind=10)) then (f [x5.a,x5.b]).bind fun x6=>some ([(⟨x6,q.right⟩:RSeq)],true) else (f [x5.a]).bind fun x7=>(f [x5.b]).bind fun x8=>some ([(⟨x7,q.right⟩:RSeq),(⟨x8,q.right⟩:RSeq)],true))
  have eR:=QM hq.2 h2 (fun x5 f=>bif (decide (x5.kind=9)) then (f [x5.a,x5.b]).bind fun x6=>some ([(⟨q.left,x6⟩:RSeq)],true) else (f [x5.a]).bind fun x7=>(f [x5.b]).bind fun x8=>some ([(⟨q.left,x7⟩:RSeq),(⟨q.left,x8⟩:RSeq)],true))
  refine (eL _ (fun n f g hfg=>by rw [hfg _ (by simp),hfg _ (by simp),hfg _ (by simp)])).trans ?_;unfold openA
  cases hl:latA t q.left with
  | some x =>
   obtain ⟨n,rest⟩:=x
   simp only
   by_cases h10:n.kind=10
   ·rw [dT h10,cT,oB,if_pos h10];rfl
   ·rw [dF h10,cF_,oB,oB,if_neg h10];rfl
  | none =>
   simp only
   refine (eR _ (fun n f g hfg=>by rw [hfg _ (by simp),hfg _ (by simp),hfg _ (by simp)])).trans ?_
   cases hr:latA t q.right with
   | some x =>
    obtain ⟨n,rest⟩:=x
    simp only
    by_cases h9:n.kind=9
    ·rw [dT h9,cT,oB,if_pos h9];rfl
    ·rw [dF h9,cF_,oB,oB,if_neg h9];rfl
   | none =>
    simp only
    rw [T9 hq h1 h2,oB]
    cases h5:If t q with
    | true=>rw [if_pos rfl,if_pos rfl];rfl
    | false =>
     rw [if_neg (by simp),if_neg (by simp)]
     show (BU t (toS q) FU (3,[]):Option (List Int)).bind _=_
     rw [RB hq h1,oB];unfold F8
     cases hk:E5 t q.left with
     | nil=>rfl
     | cons k m =>
      cases m with
      | nil =>
       obtain ⟨_,⟨i0,hi0,hk0⟩,_⟩:=Hi hk
       have hlne:ofK t q.left k≠[]:=fun e=>by have:=mem_ofK.2 ⟨hi0,hk0⟩;rw [e] at this;cases this
       have hL:∀ i∈ofK t q.left k,In t i:=fun i hi=>hq.1 i (mem_ofK.1 hi).1
       have hR:∀ i∈ofK t q.right k,In t i:=fun i hi=>hq.2 i (mem_ofK.1 hi).1
       have hll:(ofK t q.left k).length<=500:=Nat.le_trans (List.length_filter_le _ _) h1
       have hrl:(ofK t q.right k).length<=500:=Nat.le_trans (List.length_filter_le _ _) h2
       simp only [List.length_cons,List.length_nil];rw [dF (by omega),cF_,dF (by omega),cF_,show idx [k] 0=some k from rfl,oB,oB,Sf hq.1 (by omega),oB,oB,Sf hq.2 (by omega),oB,Rs hO hN hL hR (by omega) (by omega) hlne,oB]
      | cons b m =>
       simp only [List.length_cons];rw [dF (by omega),cF_,dT (by omega),cT];rfl
theorem T1 (a b:RSeq) (h1:a.l.length<=3000) (h2:a.r.length<=3000):GZ a b=some (decide (a=b)):=by
 obtain ⟨al,ar⟩:=a;obtain ⟨bl,br⟩:=b;unfold GZ
 simp only
 rw [Ku _ _ h1,oB]
 by_cases hl:al=bl
 ·rw [dT hl,cT,Ku _ _ h2,oB,oB]
  congr 1
  exact decide_eq_decide.2 ⟨fun h=>by have h:ar=br:=h;rw [hl,h],fun h=>(RSeq.mk.inj h).2⟩
 ·rw [dF hl,cF_,oB]
  congr 1
  exact (dF fun h=>hl (RSeq.mk.inj h).1).symm
theorem Sk {t:ATy} (hN:∀ n∈t.l,NB n) {k:Int} {l r:List Int} (hL:∀ i∈l,In t i) (hR:∀ i∈r,In t i):(allA t k l r).length<=1000:=by
 unfold allA
 split
 ·exact GC hN hR
 ·split
  ·exact GC hN hL
  ·simp
theorem Po {t:ATy} (hN:∀ n∈t.l,NB n) {q:BSq} (hq:InQ t q):(BJ t q).2.length<=1000:=by
 unfold BJ
 split
 ·simp
 ·split
  ·rename_i l h
   unfold openA at h
   split at h
   ·cases h;split <;> simp
   ·split at h
    ·cases h;split <;> simp
    ·cases h
  ·split
   ·simp
   ·unfold F8
    split
    ·simp
    ·unfold CM
     split
     ·simp
     ·split
      ·simp
      ·split
       ·simp
       ·rw [List.length_map]
        exact Sk hN (fun i hi=>hq.1 i (mem_ofK.1 hi).1) (fun i hi=>hq.2 i (mem_ofK.1 hi).1)
    ·simp
end Go.Proofs.YtcoghblhdjmbfaaGreat
namespace Go.Proofs.YtcoghblhdjmbfaaGreat
open Go.V
open Classical
theorem Hr {α:Type}:∀ (S U:List α),S.Nodup->(∀ s∈S,s∈U)->S.length<=U.length
 | [],U,_,_=>Nat.zero_le _
 | a::S,U,hn,h=>by
  classical
  obtain ⟨h1,h2⟩:=List.nodup_cons.1 hn
  have ha:a∈U:=h a (by simp)
  have:=Hr S (U.erase a) h2 (fun s hs=>(List.mem_erase_of_ne (fun e=>h1 (by rw [<- e];exact hs))).2 (h s (by simp [hs])))
  rw [List.length_erase_of_mem ha] at this
  have:=List.length_pos_of_mem ha
  simp only [List.length_cons]
  omega
end Go.Proofs.YtcoghblhdjmbfaaGreat
namespace Go.Proofs.YtcoghblhdjmbfaaGreat
open Go.V
open Classical
theorem Ry (a b:ATy) (ha:a.l.length<=4001) (hb:b.l.length<=2001) (hN:∀ n∈b.l,NB n) (hR:BZ b.l):Gj a b=some (Dj a b,(a.l.length:Int)):=by
 unfold Gj;rw [Ab (by omega),List.nil_append];rw [BW (φ:=fun n i s=>DU a b n (i,s,a.root)) (l:=b.l) (Aq (fun k=>k+(a.l.length:Int))) (fun s=>(s,a.root)) a.l.length ?_ ?_ (by rw [FUv];omega) a.l rfl]
 ·rfl
 ·intro n i x s hx hi hs
  have hr:=IW (hR x (List.mem_of_getElem? hx))
  have hNx:=hN x (List.mem_of_getElem? hx)
  unfold NB at hNx
  have key:Dh a x.l FU (0,[])=some (x.l.map (fun y=>⟨y.name,y.at_+(a.l.length:Int)⟩)):=by
   rw [BW (φ:=fun n i s=>Dh a x.l n (i,s)) (l:=x.l) (fun y=>(⟨y.name,y.at_+(a.l.length:Int)⟩:AFd)) id 0 ?_ ?_ (by rw [FUv];omega) [] rfl]
   ·rfl
   ·intro n i y s hy hi hs
    obtain ⟨y0,y1⟩:=hr.2 y (List.mem_of_getElem? hy);simp only [Dh];rw [dT (show (i:Int)<x.l.length by omega),cT,getI hy,oB,oB,Ab (by omega),Ab (by simp only [List.length_cons,List.length_nil];omega),Ab (by omega)]
   ·intro n s hs
    simp only [Dh];rw [dF (by omega),cF_];rfl
  simp only [DU];rw [dT (show (i:Int)<b.l.length by omega),cT,getI hx,oB]
  change ((bif pB x.kind then _ else _:Option (Int×Int×Int×(List AFd))).bind _)=_
  unfold Aq
  cases hp:pB x.kind with
  | true =>
   obtain ⟨⟨a0,a1⟩,b0,b1⟩:=hr.1 hp;rw [cT,Ab (by omega),Ab (by omega),oB]
   dsimp only
   rw [key,oB,Ab (by simp only [List.length_cons,List.length_nil];omega),Ab (by omega)]
   rfl
  | false =>
   rw [cF_,oB]
   dsimp only
   rw [key,oB,Ab (by simp only [List.length_cons,List.length_nil];omega),Ab (by omega)]
   rfl
 ·intro n s hs
  simp only [DU];rw [dF (by omega),cF_]
end Go.Proofs.YtcoghblhdjmbfaaGreat
namespace Go.Proofs.YtcoghblhdjmbfaaGreat
open Go.V
open Classical
theorem S6 {w u:ATy} (h:∀ n∈w.l,NB n) (k:∀ n∈u.l,NB n):∀ n∈(Dj w u).l,NB n:=by
 intro n hn
 unfold Dj at hn
 rcases List.mem_append.1 hn with hn | hn
 ·exact h n hn
 ·obtain ⟨m,hm,rfl⟩:=List.mem_map.1 hn
  have:=k m hm
  unfold NB Aq at *
  simpa using this
end Go.Proofs.YtcoghblhdjmbfaaGreat
namespace Go.Proofs.YtcoghblhdjmbfaaGreat
open Go.V
open Classical
theorem Bis.symm {a b:List AutoState} {R:Int->Int->Prop} (h:Bis a b R):Bis b a (fun j i=>R i j):=by
 refine ⟨fun j i hR=>?_,fun j i hR ha=>?_,fun j i hR ha=>?_,fun j i hR ha s=>?_,fun j i hR ha s=>?_⟩
 ·obtain ⟨h1,h2,h3,h4,h5,h6,h7,h8⟩:=h.flags i j hR
  exact ⟨h1.symm,h2.symm,h3.symm,h4.symm,h5.symm,h6.symm,h7.symm,h8.symm⟩
 ·have f:=h.flags i j hR
  have d:=h.dom i j hR (by rw [f.2.2.2.2.2.1];exact ha)
  exact ⟨d.1,by rw [<- (h.flags _ _ d.1).1,d.2,f.1]⟩
 ·have f:=h.flags i j hR
  have d:=h.cod i j hR (by rw [f.2.2.2.2.2.1];exact ha)
  exact ⟨d.1,by rw [<- (h.flags _ _ d.1).1,d.2,f.1]⟩
 ·have f:=h.flags i j hR
  rcases h.fld i j hR (by rw [f.2.2.2.2.2.2.1];exact ha) s with ⟨h1,h2⟩ | ⟨x,y,h1,h2,h3,h4⟩
  ·exact .inl ⟨h2,h1⟩
  ·exact .inr ⟨y,x,h2,h1,h3,by rw [<- (h.flags _ _ h3).1,h4,f.1]⟩
 ·have f:=h.flags i j hR
  rcases h.tgs i j hR (by rw [f.2.2.2.2.2.2.2];exact ha) s with ⟨h1,h2⟩ | ⟨x,y,h1,h2,h3,h4⟩
  ·exact .inl ⟨h2,h1⟩
  ·exact .inr ⟨y,x,h2,h1,h3,by rw [<- (h.flags _ _ h3).1,h4,f.1]⟩
theorem J0 {c:List AutoState} {i:Int} (h0:0<=i) (h1:i<(c.length:Int)):c[i.toNat]? = some (stL c i)/\stL c i∈c:=by
 have hlt:i.toNat<c.length:=by omega
 have e:c[i.toNat]? = some (stL c i):=by unfold stL;rw [List.getElem?_eq_getElem hlt];rfl
 exact ⟨e,List.mem_of_getElem? e⟩
theorem QO {l:List AutoEdge} {s:List UInt8} {k:Int} (h:atE l s=some k):∃ e∈l,e.to_=k:=by
 unfold atE at h
 cases hq:l.find? fun e=>decide (e.name=s) with
 | none=>rw [hq] at h;cases h
 | some e=>rw [hq] at h;exact ⟨e,List.mem_of_find?_eq_some hq,by simpa using h⟩
end Go.Proofs.YtcoghblhdjmbfaaGreat
namespace Go.Proofs.YtcoghblhdjmbfaaGreat
open Go.V
open Classical
theorem IA {a:AutoAuto} {k:Int} (h0:0<=k) (h1:k<(a.l.length:Int)):stL a.l k=stA a k:=by
 have e:=(J0 h0 h1).1
 unfold stA idx;rw [if_pos h0,e];rfl
theorem Q8 {l:List AutoEdge} {to:List Int} {s:List UInt8}:atE (l.map (edgeM to)) s=(atE l s).map (tm to):=by
 induction l with
 | nil=>rfl
 | cons e r ih =>
  unfold atE at ih ⊢;rw [List.map_cons,List.find?_cons,List.find?_cons]
  show Option.map _ (match decide (e.name=s) with | true=>_ | false=>_)=_
  cases decide (e.name=s) with
  | true=>rfl
  | false=>exact ih
theorem SU {a:AutoAuto} (ha:Led a) (hP:PolA a.l):Bis a.l (normP a).l (fun i j=>i∈AJ a/\j=tm (toP a) i):=by
 have hin:∀ i,i∈AJ a->0<=i/\i<(a.l.length:Int):=fun i hi=>(Bj ha).2.1 i hi
 have hst:∀ i,i∈AJ a->stL (normP a).l (tm (toP a) i)=DH (toP a) (stL a.l i):=by
  intro i hi
  have h:=St ha hi
  rw [IA h.1 (by rw [D7 ha];exact h.2),MP ha hi,IA (hin i hi).1 (hin i hi).2]
 have hnx:∀ i,i∈AJ a->∀ y∈nextP (stL a.l i),y∈AJ a:=by
  intro i hi y hy
  rw [IA (hin i hi).1 (hin i hi).2] at hy;exact Lu ha hi hy
 refine ⟨?_,?_,?_,?_,?_⟩
 ·rintro i _ ⟨hi,rfl⟩
  rw [hst i hi];exact ⟨rfl,rfl,rfl,rfl,rfl,rfl,rfl,rfl⟩
 ·rintro i _ ⟨hi,rfl⟩ har
  obtain ⟨⟨a1,a2,a3⟩,_⟩:=hP.arrow i (hin i hi).1 (hin i hi).2 har;refine ⟨⟨hnx i hi _ (by unfold nextP;rw [har];simp),?_⟩,a3⟩;rw [hst i hi];simp only [DH,har,if_true]
 ·rintro i _ ⟨hi,rfl⟩ har
  obtain ⟨_,⟨a1,a2,a3⟩⟩:=hP.arrow i (hin i hi).1 (hin i hi).2 har;refine ⟨⟨hnx i hi _ (by unfold nextP;rw [har];simp),?_⟩,a3⟩;rw [hst i hi];simp only [DH,har,if_true]
 ·rintro i _ ⟨hi,rfl⟩ har s
  rw [hst i hi]
  show relO _ (atE (stL a.l i).fields s) (atE ((stL a.l i).fields.map (edgeM (toP a))) s)
  rw [Q8]
  cases hq:atE (stL a.l i).fields s with
  | none=>exact .inl ⟨rfl,rfl⟩
  | some k =>
   obtain ⟨e,he,rfl⟩:=QO hq;obtain ⟨a1,a2,a3⟩:=hP.edge i (hin i hi).1 (hin i hi).2 e (.inl ⟨he,har⟩);exact .inr ⟨_,_,rfl,rfl,⟨hnx i hi _ (by unfold nextP;simp only [List.mem_append,List.mem_map];exact .inl (.inr ⟨e,he,rfl⟩)),rfl⟩,a3⟩
 ·rintro i _ ⟨hi,rfl⟩ har s
  rw [hst i hi]
  show relO _ (atE (stL a.l i).tags s) (atE ((stL a.l i).tags.map (edgeM (toP a))) s)
  rw [Q8]
  cases hq:atE (stL a.l i).tags s with
  | none=>exact .inl ⟨rfl,rfl⟩
  | some k =>
   obtain ⟨e,he,rfl⟩:=QO hq;obtain ⟨a1,a2,a3⟩:=hP.edge i (hin i hi).1 (hin i hi).2 e (.inr ⟨he,har⟩);exact .inr ⟨_,_,rfl,rfl,⟨hnx i hi _ (by unfold nextP;simp only [List.mem_append,List.mem_map];exact .inr ⟨e,he,rfl⟩),rfl⟩,a3⟩
end Go.Proofs.YtcoghblhdjmbfaaGreat
namespace Go.Proofs.YtcoghblhdjmbfaaGreat
open Go.V
open Classical
theorem LJ {l:List AutoEdge} {k:Int} {isN:List UInt8->Bool} (h:Gg isN l) (hk:(k=7/\isN=nameP)\/(k=8/\isN=tagP)):D1 ⟨k,0,0,edF l⟩:=by
 intro i x hx
 have hx':(edF l)[i]? = some x:=hx
 unfold edF at hx';rw [List.getElem?_map] at hx'
 cases hq:l[i]? with
 | none=>rw [hq] at hx';cases hx'
 | some e =>
  rw [hq] at hx'
  cases hx'
  obtain ⟨h1,h2⟩:=h.1 i e hq;refine ⟨?_,fun h0 y hy=>?_⟩
  ·unfold badF
   rcases hk with ⟨rfl,rfl⟩ | ⟨rfl,rfl⟩ <;> simp [h1]
  ·have hy':(edF l)[i - 1]? = some y:=hy
   unfold edF at hy';rw [List.getElem?_map] at hy'
   cases hq2:l[i - 1]? with
   | none=>rw [hq2] at hy';cases hy'
   | some e2 =>
    rw [hq2] at hy'
    cases hy'
    exact h2 h0 e2 hq2
theorem GS {a:AutoAuto} {k:Int} {p:Bool} (h:onP a k p=true):0<=k/\k<(a.l.length:Int)/\(stL a.l k).plus=p:=by
 unfold onP at h
 cases hq:idx a.l k with
 | none=>rw [hq] at h;cases h
 | some s =>
  rw [hq] at h;obtain ⟨h0,h1⟩:=Av hq
  have hlt:=(List.getElem?_eq_some_iff.1 h1).1
  refine ⟨h0,by omega,?_⟩
  have:stL a.l k=s:=by unfold stL;rw [h1];rfl
  rw [this];simpa using h
theorem J3 {a:AutoAuto} {s:AutoState} (h:leadP a s) {x:Int} (hx:x∈s.fields.map (·.to_)++s.tags.map (·.to_)):onP a x s.plus=true:=by
 by_cases ha:s.arrow=true
 ·exact ((GG a s ha).1 h).2.2 x hx
 ·have ha':s.arrow=false:=by simpa using ha
  obtain ⟨i,hi⟩:=List.getElem?_of_mem hx
  have:=h i x (by unfold nextP;rw [if_neg ha];simpa using hi)
  unfold sideP at this;rw [ha'] at this
  simpa using this
theorem Nm {a:AutoAuto} (hm:mayP a=0):PolA a.l:=by
 obtain ⟨_,_,hr,_⟩:=GH hm;refine ⟨fun i h0 h1 ha=>?_,fun i h0 h1 e he=>?_⟩
 ·have h:=(hr _ (J0 h0 h1).2).2.2.2.2
  obtain ⟨d1,d2,_⟩:=(GG a _ ha).1 h;exact ⟨GS d1,GS d2⟩
 ·have h:=(hr _ (J0 h0 h1).2).2.2.2.2
  refine GS (J3 h ?_);rw [List.mem_append,List.mem_map,List.mem_map]
  rcases he with ⟨he,_⟩ | ⟨he,_⟩
  ·exact .inl ⟨e,he,rfl⟩
  ·exact .inr ⟨e,he,rfl⟩
theorem Ni {a:AutoAuto} (hab:AB a) (hm:mayP a=0) (hl:a.l.length<=30):NmA a:=by
 obtain ⟨_,_,hr,_⟩:=GH hm;refine ⟨hl,fun s hs=>⟨(hab.2 s hs).1,fun v hv=>?_⟩,fun s hs=>⟨(hr s hs).2.2.1.2,LJ (hr s hs).2.2.1 (.inl ⟨rfl,rfl⟩)⟩,fun s hs=>⟨(hr s hs).2.2.2.1.2,LJ (hr s hs).2.2.2.1 (.inr ⟨rfl,rfl⟩)⟩,fun s hs=>⟨fun ha=>?_,fun _ e he=>?_,fun _ e he=>?_⟩⟩
 ·obtain ⟨i,hi⟩:=List.getElem?_of_mem hv
  have:=(hr s hs).2.1 i v hi
  exact ⟨this.1,this.2.1⟩
 ·obtain ⟨d1,d2,_⟩:=(GG a s ha).1 (hr s hs).2.2.2.2
  exact ⟨⟨(GS d1).1,(GS d1).2.1⟩,(GS d2).1,(GS d2).2.1⟩
 ·have:=GS (J3 (hr s hs).2.2.2.2 (x:=e.to_) (by rw [List.mem_append,List.mem_map];exact .inl ⟨e,he,rfl⟩))
  exact ⟨this.1,this.2.1⟩
 ·have:=GS (J3 (hr s hs).2.2.2.2 (x:=e.to_) (by rw [List.mem_append,List.mem_map,List.mem_map];exact .inr ⟨e,he,rfl⟩))
  exact ⟨this.1,this.2.1⟩
end Go.Proofs.YtcoghblhdjmbfaaGreat
namespace Go.Proofs.YtcoghblhdjmbfaaGreat
open Go.V
open Classical
theorem KI (n:ANd) (h:NB n):DI n=some (kidsL n):=by
 unfold DI kidsL C4 Ek;unfold NB at h;rw [oB,oB]
 change (bif pB n.kind then _ else bif wB n.kind then _ else _)=_
 cases pB n.kind
 ·cases wB n.kind
  ·rfl
  ·rw [cF_,cT,cF_,cT,BW (φ:=fun k i s=>CV n k (i,s)) (l:=n.l) (·.at_) id 0 ?_ ?_ (by rw [FUv];omega) [] rfl]
   ·rfl
   ·intro k i x s hx hi hs
    simp only [CV];rw [dT (show (i:Int)<n.l.length by omega),cT,getI hx,oB,Ab (by simp only [List.length_cons,List.length_nil];omega),Ab (by omega)]
   ·intro k s hs
    simp only [CV];rw [dF (by omega),cF_];rfl
 ·rfl
theorem Je (n:ANd) (h:NB n):EY n=some (kidsL n):=by
 unfold EY kidsL;unfold NB at h
 change (bif pB n.kind then _ else bif wB n.kind then _ else _)=_
 cases pB n.kind
 ·cases wB n.kind
  ·rfl
  ·rw [cF_,cT,cF_,cT,BW (φ:=fun k i s=>Ep n k (i,s)) (l:=n.l) (·.at_) id 0 ?_ ?_ (by rw [FUv];omega) [] rfl]
   ·rfl
   ·intro k i x s hx hi hs
    simp only [Ep];rw [dT (show (i:Int)<n.l.length by omega),cT,getI hx,oB,Ab (by simp only [List.length_cons,List.length_nil];omega),Ab (by omega)]
   ·intro k s hs
    simp only [Ep];rw [dF (by omega),cF_];rfl
 ·rfl
theorem GR (n:ANd) (h:NB n):(kidsL n).length<=40:=by
 unfold kidsL;unfold NB at h
 cases pB n.kind
 ·cases wB n.kind
  ·simp
  ·simpa using h
 ·simp
theorem R7 (n:ANd) (h:NB n):ED n=some (decide (D1 n)&&decide ((n.l.length:Int)<=30)):=by
 unfold ED;unfold NB at h;rw [Du (φ:=Cm n) (l:=n.l) false (okF n) ?_ ?_ (by rw [FUv];omega),oB]
 ·by_cases hp:D1 n
  ·rw [if_pos (show ∀ i x,n.l[i]? = some x->okF n i x from hp),dT hp];rfl
  ·rw [if_neg (show ¬ ∀ i x,n.l[i]? = some x->okF n i x from hp),dF hp];rfl
 ·intro k i x hx hi
  simp only [Cm]
  have e1:((bif (decide (n.kind=7)) then ((D5 x.name).bind fun x3=>some (!x3)) else (some false)).bind fun p1 =>
   (bif p1 then (some true) else ((bif (decide (n.kind=8)) then ((EQ x.name).bind fun x4=>some (!x4)) else (some false)).bind fun p3=>some p3)))=some (badF n x):=by
   rw [Q4,SC,oB,oB,bf,oB,bf,oB,bt];rfl
  rw [dT (show (i:Int)<n.l.length by omega),cT,getI hx,oB,<- Option.bind_assoc,e1,oB];unfold okF
  cases hb:badF n x
  ·rw [cF_]
   by_cases h0:0<i
   ·have hy:n.l[i - 1]? = some n.l[i - 1]:=List.getElem?_eq_getElem (by omega)
    rw [dT (show (0:Int)<(i:Int) by omega),cT,Ab (by omega),show ((i:Int) - 1)=((i - 1:Nat):Int) by omega,getI hy,oB]
    constructor
    ·rintro ⟨_,h2⟩
     rw [h2 h0 _ hy,Bool.not_true,cF_,Ab (by omega)]
    ·intro h2
     cases hl:Op.bytesLess (n.l[i - 1]).name x.name
     ·rfl
     ·exact absurd ⟨rfl,fun _ y hy2=>by rw [hy] at hy2;cases hy2;exact hl⟩ h2
   ·rw [dF (show ¬ (0:Int)<(i:Int) by omega),cF_]
    exact ⟨fun _=>by rw [Ab (by omega)],fun h2=>absurd ⟨rfl,fun h3=>absurd h3 h0⟩ h2⟩
  ·rw [cT]
   exact ⟨fun h2=>by simp at h2,fun _=>rfl⟩
 ·intro k
  simp only [Cm];rw [dF (by omega),cF_]
theorem Rq (n:ANd) (h:NB n):Dl n FU 0=some (if D1 n then .go () else .ret false):=by
 unfold NB at h;rw [Du (φ:=Dl n) (l:=n.l) false (okF n) ?_ ?_ (by rw [FUv];omega)]
 ·rfl
 ·intro k i x hx hi
  simp only [Dl]
  have e1:((bif (decide (n.kind=7)) then ((ES x.name).bind fun x3=>some (!x3)) else (some false)).bind fun p1 =>
   (bif p1 then (some true) else ((bif (decide (n.kind=8)) then ((FI x.name).bind fun x4=>some (!x4)) else (some false)).bind fun p3=>some p3)))=some (badF n x):=by
   rw [NN,QN,oB,oB,bf,oB,bf,oB,bt];rfl
  rw [dT (show (i:Int)<n.l.length by omega),cT,getI hx,oB,<- Option.bind_assoc,e1,oB];unfold okF
  cases hb:badF n x
  ·rw [cF_]
   by_cases h0:0<i
   ·have hy:n.l[i - 1]? = some n.l[i - 1]:=List.getElem?_eq_getElem (by omega)
    rw [dT (show (0:Int)<(i:Int) by omega),cT,Ab (by omega),show ((i:Int) - 1)=((i - 1:Nat):Int) by omega,getI hy,oB,oB,oB]
    constructor
    ·rintro ⟨_,h2⟩
     rw [h2 h0 _ hy,Bool.not_true,cF_,Ab (by omega)]
    ·intro h2
     cases hl:Op.bytesLess (n.l[i - 1]).name x.name
     ·rfl
     ·exact absurd ⟨rfl,fun _ y hy2=>by rw [hy] at hy2;cases hy2;exact hl⟩ h2
   ·rw [dF (show ¬ (0:Int)<(i:Int) by omega),cF_,oB,oB,cF_]
    exact ⟨fun _=>by rw [Ab (by omega)],fun h2=>absurd ⟨rfl,fun h3=>absurd h3 h0⟩ h2⟩
  ·rw [cT,oB,cT]
   exact ⟨fun h2=>by simp at h2,fun _=>rfl⟩
 ·intro k
  simp only [Dl];rw [dF (by omega),cF_]
theorem PO (l:List Int) (all:Int) (h:l.length<=1000):JN l (fun y0=>CW y0 all)=some (decide (∃ k∈l,inB all k=true)):=by
 unfold JN Ol;rw [FA (φ:=E4 l (fun y0=>CW y0 all)) (l:=l) (fun i=>(i:Int)) (inB all) ?_ ?_ (by rw [FUv];omega)]
 ·rw [oB]
  cases hf:l.findIdx? (inB all) with
  | none =>
   have:¬ ∃ k∈l,inB all k=true:=by
    rintro ⟨c,hc,hne⟩
    have:=List.findIdx?_eq_none_iff.1 hf c hc
    rw [hne] at this;cases this
   rw [dF this];rfl
  | some i =>
   obtain ⟨hi,h1,_⟩:=List.findIdx?_eq_some_iff_getElem.1 hf
   have:∃ k∈l,inB all k=true:=⟨l[i],List.getElem_mem hi,h1⟩
   rw [dT this]
   show some (decide (0<=(i:Int)))=some true
   rw [dT (by omega)]
 ·intro n i x hx hi
  simp only [E4];rw [dT (show (i:Int)<l.length by omega),cT,getI hx,oB,show CW x all=some (inB all x) from rfl,oB];exact ⟨fun hq=>by rw [hq,cF_,Ab (by omega)],fun hq=>by rw [hq,cT]⟩
 ·intro n
  simp only [E4];rw [dF (by omega),cF_]
theorem OK (l:List Int) (all:Int) (h:l.length<=1000):Dd all l FU 0=some (if (∃ k∈l,inB all k=true) then .ret false else .go ()):=by
 rw [Hc (φ:=Dd all l) (l:=l) false (fun _ k=>inB all k=true) ?_ ?_ (by rw [FUv];omega)]
 ·have e:(∃ (i:Nat) (x:Int),l[i]? = some x/\inB all x=true)↔∃ k∈l,inB all k=true:=by
   constructor
   ·rintro ⟨i,x,h1,h2⟩;exact ⟨x,List.mem_of_getElem? h1,h2⟩
   ·rintro ⟨k,h1,h2⟩;obtain ⟨i,hi⟩:=List.getElem?_of_mem h1;exact ⟨i,k,hi,h2⟩
  by_cases h2:∃ k∈l,inB all k=true
  ·rw [if_pos (e.2 h2),if_pos h2]
  ·rw [if_neg (fun h3=>h2 (e.1 h3)),if_neg h2]
 ·intro n i x hx hi
  simp only [Dd];rw [dT (show (i:Int)<l.length by omega),cT,getI hx,oB,oB,bt,oB]
  change (¬ inB all x=true->(bif inB all x then _ else _)=_)/\(inB all x=true->(bif inB all x then _ else _)=_)
  cases inB all x
  ·exact ⟨fun _=>by rw [cF_,Ab (by omega)],fun h=>by cases h⟩
  ·exact ⟨fun h=>absurd rfl h,fun _=>by rw [cT]⟩
 ·intro n
  simp only [Dd];rw [dF (by omega),cF_]
theorem R6 (n:ANd) (all:Int) (h:NB n):EF n all=some (AY n all):=by
 unfold EF AY;rw [show C4 n.kind=some (pB n.kind) from rfl,show Ek n.kind=some (wB n.kind) from rfl,oB,oB,R7 n h,KI n h,oB,oB,PO _ _ (by have:=GR n h;omega),oB]
 cases (decide (n.kind<1)||decide (11<n.kind))
 ·cases ((!pB n.kind)&&((!decide (n.b=0))||((!decide (n.kind=11))&&(!decide (n.a=0)))))
  ·cases (decide (n.kind=11)&&(decide (n.a<0)||decide (999<n.a)))
   ·cases ((!wB n.kind)&&decide (0<(n.l.length:Int)))
    ·cases (decide (D1 n)&&decide ((n.l.length:Int)<=30)) <;> rfl
    ·rfl
   ·rfl
  ·rfl
 ·rfl
theorem Qj (n:ANd) (all:Int) (h:NB n):Gl n all=some (AY n all):=by
 unfold Gl AY;rw [Rq n h,Je n h,oB,oB,OK _ _ (by have:=GR n h;omega),oB]
 change (bif ((((((decide (n.kind<1))||(decide (11<n.kind)))||(((!pB n.kind)&&(!decide (n.kind=11)))&&(!decide (n.a=0))))||((!pB n.kind)&&(!decide (n.b=0))))||((!wB n.kind)&&(decide (0<(n.l.length:Int)))))||(decide (30<(n.l.length:Int)))) then _ else _)=_
 rw [show decide (30<(n.l.length:Int)) = !decide ((n.l.length:Int)<=30) by rw [<- decide_not];exact decide_eq_decide.2 (by omega)]
 by_cases hn:D1 n
 ·rw [if_pos hn,dT hn]
  by_cases hk:∃ k∈kidsL n,inB all k=true
  ·rw [if_pos hk,dT hk]
   cases decide (n.kind<1) <;> cases decide (11<n.kind) <;> cases pB n.kind <;> cases wB n.kind <;> cases decide (n.kind=11) <;> cases decide (n.a=0) <;> cases decide (n.b=0) <;> cases decide (0<(n.l.length:Int)) <;> cases decide ((n.l.length:Int)<=30) <;> cases decide (n.a<0) <;> cases decide (999<n.a) <;> rfl
  ·rw [if_neg hk,dF hk]
   cases decide (n.kind<1) <;> cases decide (11<n.kind) <;> cases pB n.kind <;> cases wB n.kind <;> cases decide (n.kind=11) <;> cases decide (n.a=0) <;> cases decide (n.b=0) <;> cases decide (0<(n.l.length:Int)) <;> cases decide ((n.l.length:Int)<=30) <;> cases decide (n.a<0) <;> cases decide (999<n.a) <;> rfl
 ·rw [if_neg hn,dF hn]
  cases decide (n.kind<1) <;> cases decide (11<n.kind) <;> cases pB n.kind <;> cases wB n.kind <;> cases decide (n.kind=11) <;> cases decide (n.a=0) <;> cases decide (n.b=0) <;> cases decide (0<(n.l.length:Int)) <;> cases decide ((n.l.length:Int)<=30) <;> cases decide (n.a<0) <;> cases decide (999<n.a) <;> rfl
theorem M9 {L:List ANd} {i:Nat} {n:ANd} (hi:L[i]? = some n) (h:latB n.kind=true->Ends L n.a.toNat/\Ends L n.b.toNat):Ends L i:=by
 cases hl:latB n.kind with
 | false=>exact ⟨1,by simp [endk,hi,hl]⟩
 | true =>
  obtain ⟨⟨k1,h1⟩,⟨k2,h2⟩⟩:=h hl;exact ⟨max k1 k2+1,by simp [endk,hi,hl,Gf (Nat.le_max_left k1 k2) h1,Gf (Nat.le_max_right k1 k2) h2]⟩
def cnd (L:List ANd) (l:List Bool) (i:Nat):Bool:=match L[i]? with
 | some n => !latB n.kind||(l.getD n.a.toNat false&&l.getD n.b.toNat false)
 | none=>false
theorem count_set {l:List Bool} {i:Nat} (h:l[i]? = some false):(l.set i true).count true=l.count true+1:=by
 have hi:=(List.getElem?_eq_some_iff.1 h).1
 have h2:=(List.getElem?_eq_some_iff.1 h).2
 rw [List.count_set hi,h2]
 simp
theorem VU {L:List ANd} {l:List Bool} {i:Nat} {n:ANd} (hR:InL L) (hl:l.length=L.length) (hi:L[i]? = some n) {β:Type} (K:Bool->Option β) :
  ((bif ((!decide (n.kind=9))&&(!decide (n.kind=10))) then (some true) else ((idx l n.a).bind fun x4=>(bif x4 then ((idx l n.b).bind fun x5=>some x5) else (some false)).bind fun p2=>some p2)).bind K)=K (cnd L l i):=by
 have e:((!decide (n.kind=9))&&(!decide (n.kind=10))) = !latB n.kind:=by unfold latB;rw [Bool.not_or]
 rw [e];unfold cnd;rw [hi]
 simp only
 cases hb:latB n.kind with
 | false=>simp
 | true =>
  have hk:=hR n (List.mem_of_getElem? hi)
  rw [DM hb] at hk;obtain ⟨a0,a1⟩:=hk n.a (by simp);obtain ⟨b0,b1⟩:=hk n.b (by simp)
  have ha:l[n.a.toNat]? = some (l[n.a.toNat]'(by omega)):=List.getElem?_eq_getElem (by omega)
  have hb2:l[n.b.toNat]? = some (l[n.b.toNat]'(by omega)):=List.getElem?_eq_getElem (by omega)
  have ia:idx l n.a=some (l[n.a.toNat]'(by omega)):=by rw [<- ha];unfold idx;rw [if_pos a0]
  have ib:idx l n.b=some (l[n.b.toNat]'(by omega)):=by rw [<- hb2];unfold idx;rw [if_pos b0]
  rw [Bool.not_true,cF_,ia,oB,ib,oB,List.getD_eq_getElem?_getD,List.getD_eq_getElem?_getD,ha,hb2]
  cases l[n.a.toNat]'(by omega) <;> simp
theorem pass {t:ATy} (hR:InL t.l) (hlen:t.l.length<=2001) (l0:List Bool) (h0:l0.length=t.l.length) (hs:∀ i:Nat,l0[i]? = some true->Ends t.l i) :
  ∃ m l,Dx t FU (false,0,l0)=some (m,l)/\l.length=t.l.length/\(∀ i:Nat,l[i]? = some true->Ends t.l i)/\(m=false->l=l0/\∀ j,j<t.l.length->cnd t.l l0 j=true->l0[j]? = some true)/\(m=true->l0.count true<l.count true):=by
 obtain ⟨o,h1,h2⟩:=Be (φ:=fun n i (s:Bool×List Bool)=>Dx t n (s.1,i,s.2)) (l:=t.l)
  (fun i s=>s.2.length=t.l.length/\(∀ i:Nat,s.2[i]? = some true->Ends t.l i)/\l0.count true<=s.2.count true/\(s.1=false->s.2=l0/\∀ j,j<i->cnd t.l l0 j=true->l0[j]? = some true)/\(s.1=true->l0.count true<s.2.count true))
  (fun o:Bool×List Bool=>o.2.length=t.l.length/\(∀ i:Nat,o.2[i]? = some true->Ends t.l i)/\(o.1=false->o.2=l0/\∀ j,j<t.l.length->cnd t.l l0 j=true->l0[j]? = some true)/\(o.1=true->l0.count true<o.2.count true))
  (by
   rintro n i x ⟨m,l⟩ hx hi ⟨i1,i2,i3,i4,i5⟩
   simp only at i1 i2 i3 i4 i5
   left
   simp only [Dx];rw [dT (show (i:Int)<t.l.length by omega),cT,getI hx,oB,VU hR i1 hx]
   have hy:l[i]? = some (l[i]'(by omega)):=List.getElem?_eq_getElem (by omega)
   cases hc:cnd t.l l i with
   | false =>
    refine ⟨(m,l),by rw [cF_,oB,cF_,Ab (by omega)],i1,i2,i3,fun hm=>⟨(i4 hm).1,fun j hj hcj=>?_⟩,i5⟩
    by_cases hji:j=i
    ·subst hji;rw [<- (i4 hm).1,hc] at hcj;cases hcj
    ·exact (i4 hm).2 j (by omega) hcj
   | true =>
    rw [cT,getI hy,oB,oB]
    cases hv:l[i]'(by omega) with
    | true =>
     refine ⟨(m,l),by rw [Bool.not_true,cF_,Ab (by omega)],i1,i2,i3,fun hm=>⟨(i4 hm).1,fun j hj hcj=>?_⟩,i5⟩
     by_cases hji:j=i
     ·subst hji;rw [<- (i4 hm).1,hy,hv]
     ·exact (i4 hm).2 j (by omega) hcj
    | false =>
     rw [hv] at hy
     have hct:=count_set hy
     refine ⟨(true,l.set i true),by rw [Bool.not_false,cT,oB,Ab (by omega),Int.toNat_natCast],by simpa using i1,fun j hj=>?_,by simp only;omega,fun h=>(by cases h),fun _=>by simp only;omega⟩
     simp only at hj
     rw [List.getElem?_set] at hj
     by_cases hji:i=j
     ·subst hji
      refine M9 hx fun hlat=>?_
      have hk:=hR x (List.mem_of_getElem? hx)
      rw [DM hlat] at hk;unfold cnd at hc;rw [hx] at hc;simp only [hlat,Bool.not_true,Bool.false_or,Bool.and_eq_true] at hc;rw [List.getD_eq_getElem?_getD,List.getD_eq_getElem?_getD] at hc
      constructor
      ·refine i2 _ ?_
       cases hq:l[x.a.toNat]? with
       | none=>rw [hq] at hc;simp at hc
       | some v=>rw [hq] at hc;simp at hc;rw [hc.1]
      ·refine i2 _ ?_
       cases hq:l[x.b.toNat]? with
       | none=>rw [hq] at hc;simp at hc
       | some v=>rw [hq] at hc;simp at hc;rw [hc.2]
     ·rw [if_neg hji] at hj;exact i2 j hj)
  (by
   rintro n ⟨m,l⟩ ⟨i1,i2,i3,i4,i5⟩;refine ⟨(m,l),?_,i1,i2,i4,i5⟩;simp only [Dx];rw [dF (by omega),cF_]) (by rw [FUv];omega) (false,l0) ⟨h0,hs,Nat.le_refl _,fun _=>⟨rfl,fun j hj=>by omega⟩,fun h=>by cases h⟩
 obtain ⟨a,b,c,d⟩:=h2;exact ⟨o.1,o.2,h1,a,b,c,d⟩
theorem H9 {L:List ANd} {l:List Bool} (hl:l.length=L.length) (hR:InL L) (hc:∀ j,j<L.length->cnd L l j=true->l[j]? = some true):∀ (k i:Nat),i<L.length->endk L k i=true->l[i]? = some true
 | 0,i,_,h=>by simp [endk] at h
 | k+1,i,hi,h=>by
  refine hc i hi ?_;unfold endk at h;unfold cnd
  have hx:L[i]? = some L[i]:=List.getElem?_eq_getElem hi
  rw [hx] at h ⊢
  simp only at h ⊢
  cases hlat:latB (L[i]).kind with
  | false=>rfl
  | true =>
   have hk:=hR L[i] (List.getElem_mem hi)
   rw [DM hlat] at hk;obtain ⟨a0,a1⟩:=hk (L[i]).a (by simp);obtain ⟨b0,b1⟩:=hk (L[i]).b (by simp);rw [hlat] at h;simp only [Bool.not_true,Bool.false_or,Bool.and_eq_true] at h ⊢
   have e1:=H9 hl hR hc k _ (by omega) h.1
   have e2:=H9 hl hR hc k _ (by omega) h.2
   rw [List.getD_eq_getElem?_getD,List.getD_eq_getElem?_getD,e1,e2];exact ⟨rfl,rfl⟩
theorem VY {t:ATy} (hR:InL t.l) (hlen:t.l.length<=2001) :
  ∃ l,D3 t FU (true,List.replicate t.l.length false)=some l/\l.length=t.l.length/\∀ i,i<t.l.length->(l[i]? = some true↔Ends t.l i):=by
 obtain ⟨l,h1,h2,h3,h4⟩:=Ny (φ:=D3 t) (fun s=>2*(t.l.length - s.2.count true)+(if s.1=true then 1 else 0))
  (fun s=>s.2.length=t.l.length/\(∀ i:Nat,s.2[i]? = some true->Ends t.l i)/\(s.1=false->∀ j,j<t.l.length->cnd t.l s.2 j=true->s.2[j]? = some true))
  (fun l=>l.length=t.l.length/\(∀ i:Nat,l[i]? = some true->Ends t.l i)/\∀ j,j<t.l.length->cnd t.l l j=true->l[j]? = some true)
  (by
   rintro n ⟨m,l⟩ ⟨i1,i2,i3⟩
   simp only at i1 i2 i3
   cases m with
   | false=>exact .inr ⟨l,⟨i1,i2,i3 rfl⟩,by simp only [D3];rfl⟩
   | true =>
    obtain ⟨m,l',e1,e2,e3,e4,e5⟩:=pass hR hlen l i1 i2;refine .inl ⟨(m,l'),⟨e2,e3,fun hm=>?_⟩,?_,?_⟩
    ·simp only at hm ⊢
     obtain ⟨rfl,h⟩:=e4 hm;exact h
    ·have hc1:l'.count true<=t.l.length:=by rw [<- e2];exact List.count_le_length
     cases m with
     | false=>obtain ⟨rfl,_⟩:=e4 rfl;simp
     | true=>have:=e5 rfl;simp;omega
    ·simp only [D3]
     rw [cT,e1,oB])
  FU (true,List.replicate t.l.length false) ⟨by simp,fun i hi=>by rw [List.getElem?_replicate] at hi;split at hi <;> simp at hi,fun h=>by cases h⟩ (by rw [FUv];simp only [List.count_replicate];simp;omega)
 exact ⟨l,h1,h2,fun i hi=>⟨h3 i,fun ⟨k,hk⟩=>H9 h2 hR h4 k i hi hk⟩⟩
theorem PT (l:List Bool) (h:l.length<=2001):D8 l FU 0=some (if (∀ b∈l,b=true) then .go () else .ret 4):=by
 rw [Du (φ:=D8 l) (l:=l) 4 (fun _ b=>b=true) ?_ ?_ (by rw [FUv];omega)]
 ·have e:(∀ (i:Nat) (x:Bool),l[i]? = some x->x=true)↔∀ b∈l,b=true:=⟨fun h b hb=>by obtain ⟨i,hi⟩:=List.getElem?_of_mem hb;exact h i b hi,fun h i x hx=>h x (List.mem_of_getElem? hx)⟩
  by_cases h2:∀ b∈l,b=true
  ·rw [if_pos (e.2 h2),if_pos h2]
  ·rw [if_neg (fun h3=>h2 (e.1 h3)),if_neg h2]
 ·intro n i x hx hi
  simp only [D8];rw [dT (show (i:Int)<l.length by omega),cT,getI hx,oB]
  cases x
  ·exact ⟨fun h=>(by cases h),fun _=>by rw [Bool.not_false,cT]⟩
  ·exact ⟨fun _=>by rw [Bool.not_true,cF_,Ab (by omega)],fun h=>absurd rfl h⟩
 ·intro n
  simp only [D8];rw [dF (by omega),cF_]
def ColOk (z:List Int):Prop:=∀ c∈z,c=0\/c=1\/c=2
theorem Lh {z:List Int} {i:Nat} {c d:Int} (h:z[i]? = some c):(z.set i d).count 0+(if c=0 then 1 else 0)=z.count 0+(if d=0 then 1 else 0):=by
 have hi:=(List.getElem?_eq_some_iff.1 h).1
 have h2:=(List.getElem?_eq_some_iff.1 h).2
 have hc:c=0->0<z.count 0:=fun e=>List.count_pos_iff.2 (by rw [<- e];exact List.mem_of_getElem? h)
 rw [List.count_set hi,h2]
 by_cases h0:c=0
 ·have:=hc h0
  subst h0
  simp
  split <;> omega
 ·rw [if_neg h0]
  have:(c == 0)=false:=by simp [h0]
  rw [this]
  simp
theorem Mo {z:List Int} {i:Nat} {d:Int} (h:ColOk z) (hd:d=0\/d=1\/d=2):ColOk (z.set i d):=by
 intro c hc
 rcases List.mem_or_eq_of_mem_set hc with h2 | h2
 ·exact h c h2
 ·rw [h2];exact hd
theorem Qi {L:List ANd} {k m i:Nat} (hkm:k<=m) (h:endk L m i=false):endk L k i=false:=by
 cases hq:endk L k i with
 | false=>rfl
 | true=>rw [Gf hkm hq] at h;cases h
structure WalkOk (L:List ANd) (i:Nat) (z:List Int) (b:Bool) (z':List Int):Prop where
 len:z'.length=L.length
 col:ColOk z'
 wh:z'.count 0<=z.count 0
 yes:b=true->Ends L i/\(∀ j:Nat,z'[j]? = some 2->Ends L j)/\∀ j:Nat,z'[j]? = some 1↔z[j]? = some 1
 no:b=false->∀ m,endk L m i=true->(∀ j:Nat,z[j]? = some 1->endk L m j=false)->False
theorem Qq {t:ATy} (hR:InL t.l) (hN:∀ n∈t.l,NB n) (hlen:t.l.length<=2001):∀ (n:Nat) (i:Nat) (z:List Int),i<t.l.length->z.length=t.l.length->ColOk z->z.count 0<n->(∀ j:Nat,z[j]? = some 2->Ends t.l j) ->
  ∃ b z',A9 t n (i:Int) z=some (b,z')/\WalkOk t.l i z b z'
 | 0,i,z,_,_,_,h,_=>by omega
 | n+1,i,z,hi,hz,hc,hw,hb=>by
  have hx:t.l[i]? = some t.l[i]:=List.getElem?_eq_getElem hi
  have hy:z[i]? = some (z[i]'(by omega)):=List.getElem?_eq_getElem (by omega)
  have hcz:=hc _ (List.mem_of_getElem? hy)
  show ∃ b z',B6 (A9 t n) (i:Int) z t=some (b,z')/\_
  unfold B6;rw [getI hx,oB,show EI (t.l[i]).kind=some (latB (t.l[i]).kind) from rfl,oB,getI hy,oB,oB,oB]
  generalize hn:t.l[i]=nd at *
  generalize z[i]'(by omega)=c at *
  cases hlat:latB nd.kind with
  | false =>
   refine ⟨true,z,by rw [Bool.not_false,cT,oB,cT],hz,hc,Nat.le_refl _,fun _=>⟨M9 hx fun h=>(by rw [hlat] at h;cases h),hb,fun j=>Iff.rfl⟩,fun h=>by cases h⟩
  | true =>
   rw [Bool.not_true,cF_,oB]
   by_cases h2:c=2
   ·refine ⟨true,z,by rw [dT h2,cT],hz,hc,Nat.le_refl _,fun _=>⟨hb i (by rw [hy,h2]),hb,fun j=>Iff.rfl⟩,fun h=>by cases h⟩
   rw [dF h2,cF_]
   by_cases h1:c=1
   ·refine ⟨false,z,by rw [dT h1,cT],hz,hc,Nat.le_refl _,fun h=>(by cases h),fun _ m hm hg=>?_⟩
    rw [hg i (by rw [hy,h1])] at hm;cases hm
   rw [dF h1,cF_]
   have h0:c=0:=by omega
   subst h0
   have hNd:NB nd:=by rw [<- hn];exact hN _ (List.getElem_mem hi)
   rw [oB,KI _ hNd,oB,Int.toNat_natCast]
   have hk:∀ k∈kidsL nd,0<=k/\k<(t.l.length:Int):=hR nd (List.mem_of_getElem? hx)
   have hkl:=GR nd hNd
   have hwz:=Lh (d:=1) hy
   simp at hwz
   have hz1:(z.set i 1).length=t.l.length:=by simpa using hz
   have gr1:∀ j:Nat,(z.set i 1)[j]? = some 1↔(j=i\/z[j]? = some 1):=by
    intro j
    rw [List.getElem?_set]
    by_cases hji:i=j
    ·subst hji;simp;omega
    ·rw [if_neg hji];exact ⟨.inr,fun h=>h.elim (fun e=>absurd e.symm hji) id⟩
   obtain ⟨o,e1,e2⟩:=Be (φ:=fun m q s=>Br (A9 t n) (kidsL nd) m (q,s)) (l:=kidsL nd)
    (fun q s=>s.length=t.l.length/\ColOk s/\s.count 0<=(z.set i 1).count 0/\(∀ j:Nat,s[j]? = some 2->Ends t.l j)/\(∀ j:Nat,s[j]? = some 1↔(z.set i 1)[j]? = some 1)/\∀ (p:Nat) k,p<q->(kidsL nd)[p]? = some k->Ends t.l k.toNat)
    (fun o=>(∃ s,o=Out.ret (false,s)/\s.length=t.l.length/\ColOk s/\s.count 0<=(z.set i 1).count 0/\∀ m,endk t.l m i=true->(∀ j:Nat,z[j]? = some 1->endk t.l m j=false)->False) \/
     (∃ s,o=Out.go s/\s.length=t.l.length/\ColOk s/\s.count 0<=(z.set i 1).count 0/\(∀ j:Nat,s[j]? = some 2->Ends t.l j)/\(∀ j:Nat,s[j]? = some 1↔(z.set i 1)[j]? = some 1)/\∀ k∈kidsL nd,Ends t.l k.toNat))
    (by
     rintro m q k s hkq hq ⟨s1,s2,s3,s4,s5,s6⟩;obtain ⟨k0,k1⟩:=hk k (List.mem_of_getElem? hkq);obtain ⟨b,z',w1,w2⟩:=Qq hR hN hlen n k.toNat s (by omega) s1 s2 (by omega) s4;rw [Int.toNat_of_nonneg k0] at w1;simp only [Br];rw [dT (show (q:Int)<(kidsL nd).length by omega),cT,getI hkq,oB,w1,oB]
     dsimp only
     cases b with
     | true =>
      obtain ⟨y1,y2,y3⟩:=w2.yes rfl;refine .inl ⟨z',by rw [Bool.not_true,cF_,Ab (by omega)],w2.len,w2.col,Nat.le_trans w2.wh s3,y2,fun j=>(y3 j).trans (s5 j),fun p k' hp hk'=>?_⟩
      by_cases hpq:p=q
      ·subst hpq;rw [hkq] at hk';cases hk';exact y1
      ·exact s6 p k' (by omega) hk'
     | false =>
      refine .inr ⟨_,by rw [Bool.not_false,cT],.inl ⟨z',rfl,w2.len,w2.col,Nat.le_trans w2.wh s3,fun m hm hg=>?_⟩⟩;obtain ⟨r,r1,r2,r3⟩:=I0 m hm;refine w2.no rfl r ?_ fun j hj=>?_
      ·unfold endk at r2
       rw [hx] at r2;simp only [hlat,Bool.not_true,Bool.false_or,Bool.and_eq_true] at r2
       have:=List.mem_of_getElem? hkq
       rw [DM hlat] at this;simp only [List.mem_cons,List.not_mem_nil,or_false] at this
       rcases this with rfl | rfl
       ·exact r2.1
       ·exact r2.2
      ·rcases (gr1 j).1 ((s5 j).1 hj) with rfl | hj
       ·exact r3
       ·exact Qi (by omega) (hg j hj))
    (by
     rintro m s ⟨s1,s2,s3,s4,s5,s6⟩;refine ⟨Out.go s,?_,.inr ⟨s,rfl,s1,s2,s3,s4,s5,fun k hk'=>?_⟩⟩
     ·simp only [Br]
      rw [dF (by omega),cF_]
     ·obtain ⟨p,hp⟩:=List.getElem?_of_mem hk'
      exact s6 p k (getLt hp) hp)
    (by rw [FUv];omega) (z.set i 1) ⟨hz1,Mo hc (by omega),Nat.le_refl _,fun j hj=>(by
     rw [List.getElem?_set] at hj
     by_cases hji:i=j
     ·rw [if_pos hji] at hj;split at hj <;> simp at hj
     ·rw [if_neg hji] at hj;exact hb j hj),fun j=>Iff.rfl,fun p k hp=>by omega⟩
   rw [e1,oB]
   rcases e2 with ⟨s,rfl,s1,s2,s3,s4⟩ | ⟨s,rfl,s1,s2,s3,s4,s5,s6⟩
   ·exact ⟨false,s,rfl,s1,s2,by omega,fun h=>(by cases h),fun _=>s4⟩
   ·have hsi:s[i]? = some 1:=(s5 i).2 ((gr1 i).2 (.inl rfl))
    have hws:=Lh (d:=2) hsi
    simp at hws
    have hE:Ends t.l i:=M9 hx fun _=>by
     rw [DM hlat] at s6;exact ⟨s6 _ (by simp),s6 _ (by simp)⟩
    refine ⟨true,s.set i 2,by show (idx s (i:Int)).bind _=_;rw [getI hsi,oB],by simpa using s1,Mo s2 (by omega),by omega,fun _=>⟨hE,fun j hj=>?_,fun j=>?_⟩,fun h=>by cases h⟩
    ·rw [List.getElem?_set] at hj
     by_cases hji:i=j
     ·subst hji;exact hE
     ·rw [if_neg hji] at hj;exact s4 j hj
    ·rw [List.getElem?_set]
     by_cases hji:i=j
     ·subst hji;rw [if_pos rfl,hy];split <;> simp
     ·rw [if_neg hji,s5 j,gr1 j]
      exact ⟨fun h=>h.elim (fun e=>absurd e.symm hji) id,.inr⟩
theorem Lk {t:ATy} (hR:InL t.l) (hN:∀ n∈t.l,NB n) (hlen:t.l.length<=2001):Cz t=some (decide (EJ t.l)):=by
 unfold Cz;rw [Ab (by omega),Ab (by omega),Int.toNat_natCast];obtain ⟨o,e1,e2⟩:=Be (φ:=fun m q s=>BE t m (q,s)) (l:=t.l)
  (fun q s=>s.length=t.l.length/\ColOk s/\(∀ j:Nat,s[j]? = some 2->Ends t.l j)/\(∀ j:Nat,¬ s[j]? = some 1)/\∀ p,p<q->Ends t.l p)
  (fun o=>(o=Out.ret false/\¬ EJ t.l)\/∃ s,o=Out.go s/\EJ t.l)
  (by
   rintro m q nd s hnd hq ⟨s1,s2,s3,s4,s5⟩;obtain ⟨b,z',w1,w2⟩:=Qq hR hN hlen FU q s hq s1 s2 (by have:=List.count_le_length (a:=(0:Int)) (l:=s);rw [FUv];omega) s3;simp only [BE];rw [dT (show (q:Int)<t.l.length by omega),cT,w1,oB]
   dsimp only
   cases b with
   | true =>
    obtain ⟨y1,y2,y3⟩:=w2.yes rfl;refine .inl ⟨z',by rw [Bool.not_true,cF_,Ab (by omega)],w2.len,w2.col,y2,fun j hj=>s4 j ((y3 j).1 hj),fun p hp=>?_⟩
    by_cases hpq:p=q
    ·subst hpq;exact y1
    ·exact s5 p (by omega)
   | false =>
    refine .inr ⟨_,by rw [Bool.not_false,cT],.inl ⟨rfl,fun hA=>?_⟩⟩;obtain ⟨k,hk⟩:=hA q hq;exact w2.no rfl k hk fun j hj=>absurd hj (s4 j))
  (by
   rintro m s ⟨s1,s2,s3,s4,s5⟩;refine ⟨Out.go s,?_,.inr ⟨s,rfl,s5⟩⟩;simp only [BE];rw [dF (by omega),cF_])
  (by rw [FUv];omega) (List.replicate t.l.length 0) ⟨by simp,fun c hc=>(by rw [List.mem_replicate] at hc;exact .inl hc.2),fun j hj=>(by rw [List.getElem?_replicate] at hj;split at hj <;> simp at hj),fun j hj=>(by rw [List.getElem?_replicate] at hj;split at hj <;> simp at hj),fun p hp=>by omega⟩
 rw [e1,oB]
 rcases e2 with ⟨rfl,h⟩ | ⟨s,rfl,h⟩
 ·rw [dF h];rfl
 ·rw [dT h];rfl
theorem Su (t:ATy) (hlen:t.l.length<=2001) (hN:∀ n∈t.l,NB n):OM t.l (fun y0=>C9 y0 t)=some (!decide (BZ t.l)):=by
 unfold OM QE;rw [FA (φ:=G9 t.l (fun y0=>C9 y0 t)) (l:=t.l) (fun i=>(i:Int)) (fun n => !AY n t.l.length) ?_ ?_ (by rw [FUv];omega)]
 ·rw [oB]
  cases hf:t.l.findIdx? (fun n => !AY n t.l.length) with
  | none =>
   have:BZ t.l:=by
    intro n hn
    have:=List.findIdx?_eq_none_iff.1 hf n hn
    simpa using this
   rw [dT this];rfl
  | some i =>
   obtain ⟨hi,h1,_⟩:=List.findIdx?_eq_some_iff_getElem.1 hf
   have:¬ BZ t.l:=fun h=>by
    rw [h _ (List.getElem_mem hi)] at h1;cases h1
   rw [dF this]
   show some (decide (0<=(i:Int)))=some true
   rw [dT (by omega)]
 ·intro n i x hx hi
  simp only [G9];rw [dT (show (i:Int)<t.l.length by omega),cT,getI hx,oB,show C9 x t=some (!AY x t.l.length) by unfold C9;rw [R6 _ _ (hN x (List.mem_of_getElem? hx)),oB],oB];exact ⟨fun hq=>by rw [hq,cF_,Ab (by omega)],fun hq=>by rw [hq,cT]⟩
 ·intro n
  simp only [G9];rw [dF (by omega),cF_]
theorem RX (t:ATy) (hlen:t.l.length<=2001) (hN:∀ n∈t.l,NB n):Ed t FU 0=some (if BZ t.l then .go () else .ret 4):=by
 rw [Du (φ:=Ed t) (l:=t.l) 4 (fun _ n=>AY n t.l.length=true) ?_ ?_ (by rw [FUv];omega)]
 ·have e:(∀ (i:Nat) (x:ANd),t.l[i]? = some x->AY x t.l.length=true)↔BZ t.l:=⟨fun h b hb=>by obtain ⟨i,hi⟩:=List.getElem?_of_mem hb;exact h i b hi,fun h i x hx=>h x (List.mem_of_getElem? hx)⟩
  by_cases h2:BZ t.l
  ·rw [if_pos (e.2 h2),if_pos h2]
  ·rw [if_neg (fun h3=>h2 (e.1 h3)),if_neg h2]
 ·intro n i x hx hi
  simp only [Ed];rw [dT (show (i:Int)<t.l.length by omega),cT,getI hx,oB,Qj _ _ (hN x (List.mem_of_getElem? hx)),oB]
  cases AY x t.l.length
  ·exact ⟨fun h=>(by cases h),fun _=>by rw [Bool.not_false,cT]⟩
  ·exact ⟨fun _=>by rw [Bool.not_true,cF_,Ab (by omega)],fun h=>absurd rfl h⟩
 ·intro n
  simp only [Ed];rw [dF (by omega),cF_]
theorem UU (t:ATy) (hlen:t.l.length<=2001) (hN:∀ n∈t.l,NB n):FM t=some (mayT t.l t.root):=by
 unfold FM mayT
 by_cases h0:t.l.length=0\/2000<t.l.length
 ·rw [if_pos h0,show (decide ((t.l.length:Int)=0)||decide (2000<(t.l.length:Int)))=true by rw [Bool.or_eq_true,decide_eq_true_eq,decide_eq_true_eq];omega,cT]
 rw [if_neg h0,dF (by omega),dF (by omega),Bool.or_false,cF_]
 by_cases hr:t.root<0\/(t.l.length:Int)<=t.root
 ·rw [if_pos hr,show (decide (t.root<0)||decide ((t.l.length:Int)<=t.root))=true by rw [Bool.or_eq_true,decide_eq_true_eq,decide_eq_true_eq];exact hr,cT]
 rw [if_neg hr,dF (by omega),dF (by omega),Bool.or_false,cF_,Su t hlen hN,oB]
 by_cases hA:BZ t.l
 ·rw [dT hA,Bool.not_true,cF_,Lk (AP hA) hN hlen,oB]
  by_cases hE:EJ t.l
  ·rw [dT hE,if_pos ⟨hA,hE⟩];rfl
  ·rw [dF hE,if_neg (fun h=>hE h.2)];rfl
 ·rw [dF hA,Bool.not_false,cT,if_neg (fun h=>hA h.1)];rfl
theorem TY (t:ATy) (hlen:t.l.length<=2001) (hN:∀ n∈t.l,NB n):HK t=some (mayT t.l t.root):=by
 unfold HK mayT
 by_cases h0:t.l.length=0\/2000<t.l.length
 ·rw [if_pos h0,show (decide ((t.l.length:Int)<1)||decide (2000<(t.l.length:Int)))=true by rw [Bool.or_eq_true,decide_eq_true_eq,decide_eq_true_eq];omega,cT]
 rw [if_neg h0,dF (by omega),dF (by omega),Bool.or_false,cF_]
 by_cases hr:t.root<0\/(t.l.length:Int)<=t.root
 ·rw [if_pos hr,show (decide (t.root<0)||decide ((t.l.length:Int)<=t.root))=true by rw [Bool.or_eq_true,decide_eq_true_eq,decide_eq_true_eq];exact hr,cT]
 rw [if_neg hr,dF (by omega),dF (by omega),Bool.or_false,cF_,RX t hlen hN,oB]
 by_cases hA:BZ t.l
 ·rw [if_pos hA]
  show grd _ _=_
  rw [Ab (by omega),Ab (by omega),Int.toNat_natCast];obtain ⟨l,l1,l2,l3⟩:=VY (AP hA) hlen;rw [l1,oB,PT l (by omega),oB]
  have e:(∀ b∈l,b=true)↔EJ t.l:=by
   constructor
   ·intro h i hi
    have hx:l[i]? = some (l[i]'(by omega)):=List.getElem?_eq_getElem (by omega)
    rw [h _ (List.getElem_mem (by omega))] at hx;exact (l3 i hi).1 hx
   ·intro h b hb
    obtain ⟨i,hi⟩:=List.getElem?_of_mem hb
    have hlt:=getLt hi
    have:=(l3 i (by omega)).2 (h i (by omega))
    rw [hi] at this;exact Option.some.inj this
  by_cases hE:EJ t.l
  ·rw [if_pos (e.2 hE),if_pos ⟨hA,hE⟩];rfl
  ·rw [if_neg (fun h=>hE (e.1 h)),if_neg (fun h=>hE h.2)];rfl
 ·rw [if_neg hA,if_neg (fun h=>hA h.1)];rfl
theorem K9 (s:List Int) (h:s.length<=1000):NK s=some s.reverse:=by
 unfold NK;rw [Ab (by omega)];obtain ⟨o,e1,e2⟩:=Ny (φ:=GP) (fun st=>(st.2.1+1 - st.1).toNat)
  (fun st=>0<=st.1 /\ -1<=st.2.1/\st.1+st.2.1=(s.length:Int) - 1/\st.1<=st.2.1+2/\st.2.2.length=s.length/\∀ k:Nat,k<s.length->st.2.2[k]? = if (k:Int)<st.1\/st.2.1<(k:Int) then s.reverse[k]? else s[k]?)
  (fun o=>o=s.reverse)
  (by
   rintro n ⟨i,j,l⟩ ⟨h0,h1,h2,h3,h4,h5⟩
   simp only at h0 h1 h2 h3 h4 h5
   by_cases hij:i<j
   ·left
    obtain ⟨a,rfl⟩:=Int.eq_ofNat_of_zero_le h0;obtain ⟨b,rfl⟩:=Int.eq_ofNat_of_zero_le (show 0<=j by omega)
    have ha:a<s.length:=by omega
    have hb:b<s.length:=by omega
    have la:l[a]? = some s[a]:=by rw [h5 a ha,if_neg (by omega),List.getElem?_eq_getElem ha]
    have lb:l[b]? = some s[b]:=by rw [h5 b hb,if_neg (by omega),List.getElem?_eq_getElem hb]
    have lb2:(l.set a s[b])[b]? = some s[b]:=by rw [List.getElem?_set_ne (by omega)];exact lb
    refine ⟨((a:Int)+1,(b:Int) - 1,(l.set a s[b]).set b s[a]),⟨by simp only;omega,by simp only;omega,by simp only;omega,by simp only;omega,by simpa using h4,fun k hk=>?_⟩,by simp only;omega,?_⟩
    ·simp only
     by_cases hkb:k=b
     ·subst hkb
      rw [List.getElem?_set_self (by simp;omega),if_pos (by omega),List.getElem?_reverse hk,List.getElem?_eq_getElem (by omega)]
      congr 2;omega
     ·rw [List.getElem?_set_ne (by omega)]
      by_cases hka:k=a
      ·subst hka
       rw [List.getElem?_set_self (by omega),if_pos (by omega),List.getElem?_reverse hk,List.getElem?_eq_getElem (by omega)]
       congr 2;omega
      ·rw [List.getElem?_set_ne (by omega),h5 k hk]
       by_cases hc:(k:Int)<a\/(b:Int)<k
       ·rw [if_pos hc,if_pos (by omega)]
       ·rw [if_neg hc,if_neg (by omega)]
    ·simp only [GP]
     rw [dT hij,cT,getI lb,oB,getI la,oB,oB,oB,Int.toNat_natCast,Int.toNat_natCast,getI lb2,oB,Ab (by omega),Ab (by omega)]
   ·right
    refine ⟨l,?_,by simp only [GP];rw [dF hij,cF_]⟩;refine List.ext_getElem? fun k=>?_
    by_cases hk:k<s.length
    ·rw [h5 k hk]
     split
     ·rfl
     ·rw [List.getElem?_reverse hk];congr 1;omega
    ·rw [List.getElem?_eq_none (by omega),List.getElem?_eq_none (by simp;omega)])
  FU (0,(s.length:Int) - 1,s) ⟨by simp only;omega,by simp only;omega,by simp only;omega,by simp only;omega,rfl,fun k hk=>by simp only;rw [if_neg (by omega)]⟩ (by rw [FUv];simp only;omega)
 rw [e1,e2]
def kat (L:List ANd) (i:Int):List Int:=match L[i.toNat]? with
 | some n=>kidsL n
 | none=>[]
noncomputable def dfs (K:Int->List Int):Nat->List Int->List Int->List Int
 | 0,_,out=>out
 | _+1,[],out=>out
 | n+1,x::s,out=>if x∈out then dfs K n s out else dfs K n (K x++s) (out++[x])
theorem Og (f g:Nat->Nat) (i:Nat):∀ l:List Nat,l.Nodup->i∈l->(∀ j∈l,j≠i->f j=g j)->(l.map f).sum+g i=(l.map g).sum+f i
 | [],_,h,_=>by simp at h
 | j::l,hn,hi,he=>by
  rw [List.nodup_cons] at hn;simp only [List.map_cons,List.sum_cons]
  by_cases hji:j=i
  ·subst hji
   have:l.map f=l.map g:=List.map_congr_left fun k hk=>he k (by simp [hk]) (fun e=>hn.1 (e▸hk))
   rw [this];omega
  ·have:=Og f g i l hn.2 (by simpa [Ne.symm hji] using hi) (fun k hk=>he k (by simp [hk]))
   have:=he j (by simp) hji
   omega
noncomputable def wt (K:Int->List Int) (len:Nat) (out:List Int):Nat:=((List.range len).map (fun (i:Nat)=>if (i:Int)∈out then 0 else (K (i:Int)).length)).sum
theorem Pv {K:Int->List Int} {len:Nat} {out:List Int} {i:Nat} (hi:i<len) (ho:¬ (i:Int)∈out):wt K len (out++[(i:Int)])+(K i).length=wt K len out:=by
 have:=Og (fun (j:Nat)=>if (j:Int)∈out++[(i:Int)] then 0 else (K (j:Int)).length) (fun (j:Nat)=>if (j:Int)∈out then 0 else (K (j:Int)).length) i (List.range len) List.nodup_range (List.mem_range.2 hi) (fun j _ hj=>by
  have e:((j:Int)∈out++[(i:Int)])↔(j:Int)∈out:=by simp;omega
  by_cases h:(j:Int)∈out
  ·rw [if_pos h,if_pos (e.2 h)]
  ·rw [if_neg h,if_neg (fun h2=>h (e.1 h2))])
 rw [if_neg ho,if_pos (by simp)] at this;unfold wt;omega
theorem MN {L:List ANd} (hR:InL L):∀ i k,k∈kat L i->0<=k/\k<(L.length:Int):=by
 intro i k hk
 unfold kat at hk
 cases hq:L[i.toNat]? with
 | none=>rw [hq] at hk;simp at hk
 | some n=>rw [hq] at hk;exact hR n (List.mem_of_getElem? hq) k hk
theorem MM {L:List ANd} (hN:∀ n∈L,NB n) (i:Int):(kat L i).length<=40:=by
 unfold kat
 cases hq:L[i.toNat]? with
 | none=>simp
 | some n=>exact GR n (hN n (List.mem_of_getElem? hq))
theorem lastI (s:List Int) (x:Int):idx (s++[x]) (((s++[x]).length:Int) - 1)=some x:=by
 rw [show (((s++[x]).length:Int) - 1)=(s.length:Int) by simp];exact getI (by simp)
theorem initI (s:List Int) (x:Int):sli (s++[x]) 0 (((s++[x]).length:Int) - 1)=some s:=by
 rw [show (((s++[x]).length:Int) - 1)=(s.length:Int) by simp,Ia (by simp)]
 simp
theorem I9 {t:ATy} (hR:InL t.l) (hN:∀ n∈t.l,NB n) (hlen:t.l.length<=2001):∀ (n:Nat) (s out:List Int) (seen:List Bool),(∀ x∈s,0<=x/\x<(t.l.length:Int))->seen.length=t.l.length ->
  (∀ i:Nat,seen[i]? = some true↔((i:Int)∈out/\i<t.l.length))->out.length+s.length+wt (kat t.l) t.l.length out<=100000000->s.length+wt (kat t.l) t.l.length out<n ->
  ∃ ys,Cw t n (s.reverse,seen)=some ys/\dfs (kat t.l) n s out=out++ys
 | 0,s,out,seen,_,_,_,_,h=>by omega
 | n+1,[],out,seen,_,_,_,_,_=>by
  refine ⟨[],?_,by simp [dfs]⟩;simp only [Cw,List.reverse_nil,List.length_nil];rfl
 | n+1,x::s,out,seen,hs,hsl,hse,hB,hn=>by
  obtain ⟨x0,x1⟩:=hs x (by simp);obtain ⟨i,rfl⟩:=Int.eq_ofNat_of_zero_le x0
  have hi:i<t.l.length:=by omega
  have hx:t.l[i]? = some t.l[i]:=List.getElem?_eq_getElem hi
  have hv:seen[i]? = some (seen[i]'(by omega)):=List.getElem?_eq_getElem (by omega)
  have hk:kat t.l (i:Int)=kidsL t.l[i]:=by unfold kat;rw [Int.toNat_natCast,hx]
  have hkl:=MM hN (i:Int)
  have hNi:=hN _ (List.getElem_mem hi)
  simp only [List.length_cons] at hB hn;rw [List.reverse_cons]
  have hl1:(s.reverse++[(i:Int)]).length=s.length+1:=by simp
  simp only [Cw];rw [dT (show (0:Int)<((s.reverse++[(i:Int)]).length:Int) by rw [hl1];omega),cT,Ab (by rw [hl1];omega),lastI,oB,Ab (by rw [hl1];omega),initI,oB,getI hv,oB,oB]
  have hd:dfs (kat t.l) (n+1) ((i:Int)::s) out=if (i:Int)∈out then dfs (kat t.l) n s out else dfs (kat t.l) n (kat t.l i++s) (out++[(i:Int)]):=rfl
  rw [hd]
  by_cases ho:(i:Int)∈out
  ·have h1:seen[i]'(by omega)=true:=by have:=(hse i).2 ⟨ho,hi⟩;rw [hv] at this;exact Option.some.inj this
   rw [h1,cT,if_pos ho];exact I9 hR hN hlen n s out seen (fun x hx=>hs x (by simp [hx])) hsl hse (by omega) (by omega)
  ·have h1:seen[i]'(by omega)=false:=by
    cases hq:seen[i]'(by omega) with
    | false=>rfl
    | true=>exact absurd ((hse i).1 (by rw [hv,hq])).1 ho
   have hw:=Pv (K:=kat t.l) hi ho
   obtain ⟨ys,e1,e2⟩:=I9 hR hN hlen n (kat t.l i++s) (out++[(i:Int)]) (seen.set i true) (fun y hy=>by
    rcases List.mem_append.1 hy with hy | hy
    ·exact MN hR _ _ hy
    ·exact hs y (by simp [hy])) (by simpa using hsl) (fun j=>by
    rw [List.getElem?_set]
    by_cases hij:i=j
    ·subst hij;simp;omega
    ·rw [if_neg hij,hse j];simp;omega) (by simp only [List.length_append,List.length_cons,List.length_nil];omega) (by simp only [List.length_append];omega)
   rw [h1,cF_,if_neg ho,getI hx,oB,KI _ hNi,oB,<- hk,Ab (by omega),K9 _ (by omega),oB,Ab (by simp only [List.length_reverse];omega),Int.toNat_natCast];refine ⟨(i:Int)::ys,?_,by rw [e2];simp⟩;rw [List.reverse_append] at e1;rw [e1];rfl
noncomputable def Ax (L:List ANd) (root:Int):List Int:=dfs (kat L) FU [root] []
theorem My (f:Nat->Nat) (c:Nat):∀ l:List Nat,(∀ j∈l,f j<=c)->(l.map f).sum<=l.length*c
 | [],_=>by simp
 | j::l,h=>by
  have h1:=My f c l (fun k hk=>h k (by simp [hk]))
  have h2:=h j (by simp)
  simp only [List.map_cons,List.sum_cons,List.length_cons,Nat.add_mul]
  omega
theorem Jc {L:List ANd} (hN:∀ n∈L,NB n) (out:List Int):wt (kat L) L.length out<=L.length*40:=by
 have:=My (fun (i:Nat)=>if (i:Int)∈out then 0 else (kat L (i:Int)).length) 40 (List.range L.length) (fun j _=>by
  split
  ·omega
  ·exact MM hN _)
 rw [List.length_range] at this;exact this
theorem Rj {t:ATy} (hR:InL t.l) (hN:∀ n∈t.l,NB n) (hlen:t.l.length<=2001) {root:Int} (h0:0<=root) (h1:root<(t.l.length:Int)) :
  Hu t root=some (Ax t.l root):=by
 have hw:=Jc hN []
 obtain ⟨ys,e1,e2⟩:=I9 hR hN hlen FU [root] [] (List.replicate t.l.length false) (fun x hx=>by simp at hx;subst hx;exact ⟨h0,h1⟩) (by simp) (fun i=>by rw [List.getElem?_replicate];split <;> simp) (by simp only [List.length_cons,List.length_nil];omega) (by rw [FUv];simp only [List.length_cons,List.length_nil];omega);rw [List.nil_append] at e2;unfold Hu;rw [Ab (by omega),Ab (by omega),Int.toNat_natCast]
 show Cw t FU ([root].reverse,_)=_
 rw [e1,Ax,e2]
theorem JQ {K:Int->List Int} {D:Int->Prop} (hK:∀ x,D x->∀ k∈K x,D k):∀ (n:Nat) (s out:List Int),(∀ x∈s,D x)->(∀ x∈out,D x)->out.Nodup->(∀ x∈dfs K n s out,D x)/\(dfs K n s out).Nodup
 | 0,s,out,_,ho,hn=>⟨ho,hn⟩
 | n+1,[],out,_,ho,hn=>⟨ho,hn⟩
 | n+1,x::s,out,hs,ho,hn=>by
  unfold dfs
  split
  ·exact JQ hK n s out (fun y hy=>hs y (by simp [hy])) ho hn
  ·rename_i hx
   have hDx:=hs x (by simp)
   refine JQ hK n _ _ (fun y hy=>?_) (fun y hy=>?_) ?_
   ·rcases List.mem_append.1 hy with hy | hy
    ·exact hK x hDx y hy
    ·exact hs y (by simp [hy])
   ·rcases List.mem_append.1 hy with hy | hy
    ·exact ho y hy
    ·simp at hy;subst hy;exact hDx
   ·rw [List.nodup_append]
    refine ⟨hn,by simp,fun a ha b hb e=>?_⟩
    simp at hb
    subst hb e;exact hx ha
theorem CF {L:List ANd} (hR:InL L) {root:Int} (h0:0<=root) (h1:root<(L.length:Int)):(∀ x∈Ax L root,0<=x/\x<(L.length:Int))/\(Ax L root).Nodup/\(Ax L root).length<=L.length:=by
 obtain ⟨a,b⟩:=JQ (K:=kat L) (D:=fun x=>0<=x/\x<(L.length:Int)) (fun x _ k hk=>MN hR x k hk) FU [root] [] (fun x hx=>by simp at hx;subst hx;exact ⟨h0,h1⟩) (by simp) (by simp);exact ⟨a,b,Kl _ _ b a⟩
theorem Gs (K:Int->List Int):∀ (n:Nat) (s out:List Int),∃ ys,dfs K n s out=out++ys
 | 0,s,out=>⟨[],by simp [dfs]⟩
 | n+1,[],out=>⟨[],by simp [dfs]⟩
 | n+1,x::s,out=>by
  unfold dfs
  split
  ·exact Gs K n s out
  ·obtain ⟨ys,e⟩:=Gs K n (K x++s) (out++[x])
   exact ⟨[x]++ys,by rw [e,List.append_assoc]⟩
theorem Hv {L:List ANd} (hR:InL L):∀ (n:Nat) (s out:List Int),(∀ x∈s,0<=x/\x<(L.length:Int))->s.length+wt (kat L) L.length out<n ->
  (∀ x∈s,x∈dfs (kat L) n s out)/\(∀ x∈dfs (kat L) n s out,x∈out\/∀ k∈kat L x,k∈dfs (kat L) n s out)
 | 0,s,out,_,h=>by omega
 | n+1,[],out,_,_=>⟨fun x hx=>by simp at hx,fun x hx => .inl (by simpa [dfs] using hx)⟩
 | n+1,x::s,out,hs,h=>by
  obtain ⟨x0,x1⟩:=hs x (by simp);simp only [List.length_cons] at h;unfold dfs
  by_cases hx:x∈out
  ·rw [if_pos hx]
   obtain ⟨i1,i2⟩:=Hv hR n s out (fun y hy=>hs y (by simp [hy])) (by omega);obtain ⟨ys,e⟩:=Gs (kat L) n s out;refine ⟨fun y hy=>?_,i2⟩
   rcases List.mem_cons.1 hy with rfl | hy
   ·rw [e];exact List.mem_append_left _ hx
   ·exact i1 y hy
  ·rw [if_neg hx]
   obtain ⟨q,rfl⟩:=Int.eq_ofNat_of_zero_le x0
   have hw:=Pv (K:=kat L) (len:=L.length) (out:=out) (i:=q) (by omega) hx
   obtain ⟨i1,i2⟩:=Hv hR n (kat L (q:Int)++s) (out++[(q:Int)]) (fun y hy=>by
    rcases List.mem_append.1 hy with hy | hy
    ·exact MN hR _ _ hy
    ·exact hs y (by simp [hy])) (by rw [List.length_append];omega)
   obtain ⟨ys,e⟩:=Gs (kat L) n (kat L (q:Int)++s) (out++[(q:Int)]);refine ⟨fun y hy=>?_,fun y hy=>?_⟩
   ·rcases List.mem_cons.1 hy with rfl | hy
    ·rw [e];simp
    ·exact i1 y (by simp [hy])
   ·rcases i2 y hy with h3 | h3
    ·rcases List.mem_append.1 h3 with h3 | h3
     ·exact .inl h3
     ·simp at h3
      subst h3;exact .inr fun k hk=>i1 k (List.mem_append_left _ hk)
    ·exact .inr h3
theorem JA {t:ATy} (hA:BZ t.l) (hN:∀ n∈t.l,NB n) (hlen:t.l.length<=2001) (h0:0<=t.root) (h1:t.root<(t.l.length:Int)) :
  t.root∈Ax t.l t.root/\∀ x∈Ax t.l t.root,∀ k∈kat t.l x,k∈Ax t.l t.root:=by
 have hw:=Jc hN []
 obtain ⟨c1,c2⟩:=Hv (AP hA) FU [t.root] [] (fun x hx=>by rw [List.mem_singleton.1 hx];exact ⟨h0,h1⟩) (by rw [FUv];simp only [List.length_cons,List.length_nil];omega);refine ⟨c1 _ (by simp),fun x hx k hk=>?_⟩
 rcases c2 x hx with h | h
 ·cases h
 ·exact h k hk
end Go.Proofs.YtcoghblhdjmbfaaGreat
