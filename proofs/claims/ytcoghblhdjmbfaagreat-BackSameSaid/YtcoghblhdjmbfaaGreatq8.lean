/- Part 8 of the proof: a program logic, what the functions compute, and what these answer; no condition. -/
import Derived.Test.YtcoghblhdjmbfaaGreatq7
set_option linter.unusedVariables false
set_option linter.unusedSimpArgs false
set_option maxRecDepth 100000
namespace Go.Proofs.YtcoghblhdjmbfaaGreat
open Go.V
open Classical
structure BSq where
 left:List Int
 right:List Int
def NB (n:ANd):Prop:=n.l.length<=40
def pB (k:Int):Bool:=(decide (k=6)||decide (k=9))||decide (k=10)
def wB (k:Int):Bool:=decide (k=7)||decide (k=8)
def kidsL (n:ANd):List Int:=bif pB n.kind then [n.a,n.b] else bif wB n.kind then n.l.map (·.at_) else []
def badF (n:ANd) (x:AFd):Bool:=(decide (n.kind=7) && !nameP x.name)||(decide (n.kind=8) && !tagP x.name)
def okF (n:ANd) (i:Nat) (x:AFd):Prop:=badF n x=false/\(0<i->∀ y,n.l[i - 1]? = some y->Op.bytesLess y.name x.name=true)
def Ej (n:ANd):Prop:=∀ i x,n.l[i]? = some x->okF n i x
def inB (all k:Int):Bool:=decide (k<0)||decide (all<=k)
noncomputable def BC (n:ANd) (all:Int):Bool:=
 !(decide (n.kind<1)||decide (11<n.kind))&&(!((!pB n.kind)&&((!decide (n.b=0))||((!decide (n.kind=11))&&(!decide (n.a=0)))))&&(!(decide (n.kind=11)&&(decide (n.a<0)||decide (999<n.a))) &&
  (!((!wB n.kind)&&decide (0<(n.l.length:Int)))&&((decide (Ej n)&&decide ((n.l.length:Int)<=30)) && !decide (∃ k∈kidsL n,inB all k=true)))))
def latB (k:Int):Bool:=decide (k=9)||decide (k=10)
def endk (L:List ANd):Nat->Nat->Bool
 | 0,_=>false
 | k+1,i=>match L[i]? with
  | some n => !latB n.kind||(endk L k n.a.toNat&&endk L k n.b.toNat)
  | none=>false
theorem J0 (L:List ANd):∀ (k i:Nat),endk L k i=true->endk L (k+1) i=true
 | 0,i,h=>by simp [endk] at h
 | k+1,i,h=>by
  unfold endk at h ⊢
  cases hq:L[i]? with
  | none=>rw [hq] at h;exact h
  | some n =>
   rw [hq] at h
   simp only at h ⊢
   cases hl:latB n.kind
   ·rfl
   ·rw [hl] at h
    simp only [Bool.not_true,Bool.false_or,Bool.and_eq_true] at h ⊢;exact ⟨J0 L k _ h.1,J0 L k _ h.2⟩
theorem FQ {L:List ANd} {k m i:Nat} (hkm:k<=m) (h:endk L k i=true):endk L m i=true:=by
 induction hkm with
 | refl=>exact h
 | step _ ih=>exact J0 L _ _ ih
def Ends (L:List ANd) (i:Nat):Prop:=∃ k,endk L k i=true
def Fl (L:List ANd):Prop:=∀ i,i<L.length->Ends L i
def InL (L:List ANd):Prop:=∀ n∈L,∀ k∈kidsL n,0<=k/\k<(L.length:Int)
theorem F6 {n:ANd} (h:latB n.kind=true):kidsL n=[n.a,n.b]:=by
 unfold kidsL
 have:pB n.kind=true:=by
  unfold latB at h;unfold pB
  rw [Bool.or_eq_true,decide_eq_true_eq,decide_eq_true_eq] at h
  rcases h with h | h <;> rw [h] <;> rfl
 rw [this];rfl
theorem IF {L:List ANd} {i:Nat}:∀ m,endk L m i=true->∃ k,k<m/\endk L (k+1) i=true/\endk L k i=false
 | 0,h=>by simp [endk] at h
 | m+1,h=>by
  cases hq:endk L m i with
  | false=>exact ⟨m,Nat.lt_succ_self m,h,hq⟩
  | true =>
   obtain ⟨k,h1,h2,h3⟩:=IF m hq;exact ⟨k,by omega,h2,h3⟩
def CG (L:List ANd):Prop:=∀ n∈L,BC n L.length=true
theorem Ju {n:ANd} {all:Int} (h:BC n all=true):∀ k∈kidsL n,0<=k/\k<all:=by
 intro k hk
 unfold BC at h;simp only [Bool.and_eq_true,Bool.not_eq_true',decide_eq_false_iff_not] at h
 have h2:=h.2.2.2.2.2
 have:inB all k=false:=by
  cases hq:inB all k with
  | false=>rfl
  | true=>exact absurd ⟨k,hk,hq⟩ h2
 unfold inB at this;rw [Bool.or_eq_false_iff,decide_eq_false_iff_not,decide_eq_false_iff_not] at this
 omega
theorem Ba {L:List ANd} (h:CG L):InL L:=fun n hn k hk=>Ju (h n hn) k hk
noncomputable def mayT (L:List ANd) (root:Int):Int:=if L.length=0\/2000<L.length then 8 else if root<0\/(L.length:Int)<=root then 4 else if CG L/\Fl L then 0 else 4
theorem Eu {L:List ANd} {r:Int} (h:mayT L r=0):0<L.length/\L.length<=2000/\0<=r/\r<L.length/\CG L/\Fl L:=by
 unfold mayT at h
 split at h
 ·omega
 ·split at h
  ·omega
  ·split at h
   ·rename_i h1 h2 h3;exact ⟨by omega,by omega,by omega,by omega,h3.1,h3.2⟩
   ·omega
def Ao (f:Int->Int) (n:ANd):ANd:=⟨n.kind,bif pB n.kind then f n.a else n.a,bif pB n.kind then f n.b else n.b,n.l.map (fun x=>⟨x.name,f x.at_⟩)⟩
theorem Hm {n:ANd} {all:Int} (h:BC n all=true) (hw:wB n.kind=false):n.l=[]:=by
 unfold BC at h;simp only [Bool.and_eq_true,Bool.not_eq_true'] at h
 have h2:=h.2.2.2.1
 rw [hw,Bool.not_false,Bool.true_and,decide_eq_false_iff_not] at h2;exact List.length_eq_zero_iff.1 (by omega)
theorem T0 {k:Int} (h:wB k=true):pB k=false:=by
 unfold wB at h;unfold pB
 rw [Bool.or_eq_true,decide_eq_true_eq,decide_eq_true_eq] at h
 rcases h with h | h <;> rw [h] <;> rfl
theorem IE {n:ANd} {all:Int} (h:BC n all=true):(pB n.kind=true->(0<=n.a/\n.a<all)/\(0<=n.b/\n.b<all))/\∀ x∈n.l,0<=x.at_/\x.at_<all:=by
 have hk:=Ju h
 unfold kidsL at hk
 constructor
 ·intro hp
  rw [hp,cT] at hk;exact ⟨hk n.a (by simp),hk n.b (by simp)⟩
 ·intro x hx
  cases hw:wB n.kind with
  | false=>rw [Hm h hw] at hx;simp at hx
  | true =>
   rw [T0 hw,cF_,hw,cT] at hk;exact hk x.at_ (List.mem_map.2 ⟨x,hx,rfl⟩)
noncomputable def CA (a b:ATy):ATy:=⟨a.l++b.l.map (Ao (fun k=>k+(a.l.length:Int))),a.root⟩
def In (t:ATy) (i:Int):Prop:=0<=i/\i<(t.l.length:Int)
def nd (t:ATy) (i:Int):ANd:=(t.l[i.toNat]?).getD ⟨0,0,0,[]⟩
theorem Gv {t:ATy} {i:Int} (h:In t i):t.l[i.toNat]? = some (nd t i):=by
 unfold nd
 have h1:i.toNat<t.l.length:=by have:=h.1;have:=h.2;omega
 rw [List.getElem?_eq_getElem h1];rfl
theorem F9 {t:ATy} {i:Int} (h:In t i):nd t i∈t.l:=List.mem_of_getElem? (Gv h)
theorem Wh {t:ATy} {i:Nat} {n:ANd} (h:t.l[i]? = some n):nd t i=n:=by unfold nd;rw [Int.toNat_natCast,h];rfl
def cs (l:List Int):List Int:=Lib.compact (List.mergeSort l fun x y=>decide (x<=y))
theorem mem_cs {l:List Int} {x:Int}:x∈cs l↔x∈l:=by
 unfold cs;rw [(H5 (IX l)).2 x,List.mem_mergeSort]
theorem Dp (l:List Int):(cs l).Pairwise (· < ·):=(H5 (IX l)).1
theorem Rd {l m:List Int} (h:l.Pairwise (· < ·)) (hm:∀ x,x∈l↔x∈m):l=cs m:=Lg l (cs m) h (Dp m) (fun x=>by rw [hm x,mem_cs])
def wsum (w:Int->Nat):List Int->Nat
 | []=>0
 | x::l=>w x+wsum w l
theorem HK (w:Int->Nat):∀ l m:List Int,wsum w (l++m)=wsum w l+wsum w m
 | [],m=>by simp [wsum]
 | x::l,m=>by simp only [List.cons_append,wsum,HK w l m];omega
theorem G0 {w:Int->Nat} {l m:List Int} (h:l.Perm m):wsum w l=wsum w m:=by
 induction h with
 | nil=>rfl
 | cons x _ ih=>simp only [wsum,ih]
 | swap x y l=>simp only [wsum];omega
 | trans _ _ a b=>exact a.trans b
theorem Od (w:Int->Nat):∀ s l:List Int,s.Nodup->(∀ x∈s,x∈l)->wsum w s<=wsum w l
 | [],l,_,_=>Nat.zero_le _
 | x::s,l,hn,h=>by
  obtain ⟨h1,h2⟩:=List.nodup_cons.1 hn
  have hp:=List.perm_cons_erase (h x (by simp))
  have:=Od w s (l.erase x) h2 (fun y hy=>(List.mem_erase_of_ne (fun e=>h1 (by rw [<- e];exact hy))).2 (h y (by simp [hy])))
  rw [G0 hp];simp only [wsum];omega
theorem KD (w:Int->Nat) (l:List Int):wsum w (cs l)<=wsum w l:=Od w (cs l) l ((Dp l).imp (fun h=>by omega)) (fun x hx=>mem_cs.1 hx)
structure OkT (t:ATy):Prop where
 right:CG t.l
 ends:Fl t.l
theorem OkT.kind {t:ATy} (h:OkT t) {i:Int} (hi:In t i):1<=(nd t i).kind/\(nd t i).kind<=11:=by
 have:=h.right _ (F9 hi)
 unfold BC at this;simp only [Bool.and_eq_true,Bool.not_eq_true',Bool.or_eq_false_iff,decide_eq_false_iff_not] at this
 have:=this.1;omega
theorem OkT.kids {t:ATy} (h:OkT t) {i:Int} (hi:In t i) {k:Int} (hk:k∈kidsL (nd t i)):In t k:=Ba h.right _ (F9 hi) k hk
theorem OkT.pair {t:ATy} (h:OkT t) {i:Int} (hi:In t i) (hk:(nd t i).kind=6\/(nd t i).kind=9\/(nd t i).kind=10):In t (nd t i).a/\In t (nd t i).b:=by
 have h1:kidsL (nd t i)=[(nd t i).a,(nd t i).b]:=by
  unfold kidsL pB
  rcases hk with hk | hk | hk <;> rw [hk] <;> rfl
 exact ⟨h.kids hi (by rw [h1];simp),h.kids hi (by rw [h1];simp)⟩
theorem OkT.at_ {t:ATy} (h:OkT t) {i:Int} (hi:In t i) {f:AFd} (hf:f∈(nd t i).l):In t f.at_:=(IE (h.right _ (F9 hi))).2 f hf
theorem OkT.weight {t:ATy} (h:OkT t):∃ w:Int->Nat,∀ i,In t i->latB (nd t i).kind=true->w (nd t i).a+w (nd t i).b<w i:=by
 have key:∀ i:Nat,∃ r:Nat,i<t.l.length->endk t.l (r+1) i=true/\endk t.l r i=false:=by
  intro i
  by_cases hi:i<t.l.length
  ·obtain ⟨m,hm⟩:=h.ends i hi
   obtain ⟨k,_,h1,h2⟩:=IF m hm;exact ⟨k,fun _=>⟨h1,h2⟩⟩
  ·exact ⟨0,fun h=>absurd h hi⟩
 obtain ⟨r,hr⟩:=Classical.axiomOfChoice key;refine ⟨fun i=>3 ^ r i.toNat,fun i hi hl=>?_⟩
 have hil:i.toNat<t.l.length:=by have:=hi.1;have:=hi.2;omega
 have hp:In t (nd t i).a/\In t (nd t i).b:=h.pair hi (by unfold latB at hl;simp only [Bool.or_eq_true,decide_eq_true_eq] at hl;exact .inr hl)
 obtain ⟨h1,h2⟩:=hr i.toNat hil
 have hlt:∀ k:Int,In t k->endk t.l (r i.toNat) k.toNat=true->r k.toNat<r i.toNat:=by
  intro k hk he
  have hkl:k.toNat<t.l.length:=by have:=hk.1;have:=hk.2;omega
  rcases Nat.lt_or_ge (r k.toNat) (r i.toNat) with h3 | h3
  ·exact h3
  ·have:=FQ h3 he;rw [(hr _ hkl).2] at this;cases this
 have h3:endk t.l (r i.toNat) (nd t i).a.toNat=true/\endk t.l (r i.toNat) (nd t i).b.toNat=true:=by
  unfold endk at h1;rw [Gv hi] at h1;simp only [hl,Bool.not_true,Bool.false_or,Bool.and_eq_true] at h1;exact h1
 have ha:=hlt _ hp.1 h3.1
 have hb:=hlt _ hp.2 h3.2
 obtain ⟨m,hm⟩:∃ m,r i.toNat=m+1:=⟨r i.toNat - 1,by omega⟩
 have h4:3 ^ r (nd t i).a.toNat<=3 ^ m:=Nat.pow_le_pow_right (by omega) (by omega)
 have h5:3 ^ r (nd t i).b.toNat<=3 ^ m:=Nat.pow_le_pow_right (by omega) (by omega)
 have h6:3 ^ (m+1)=3*3 ^ m:=by rw [Nat.pow_succ];omega
 have h7:0<3 ^ m:=Nat.pow_pos (by omega)
 show 3 ^ r (nd t i).a.toNat+3 ^ r (nd t i).b.toNat<3 ^ r i.toNat
 rw [hm,h6];omega
def atN (n:ANd) (s:List UInt8):Option Int:=(n.l.find? fun f=>decide (f.name=s)).map (·.at_)
theorem Ha {n:ANd} {s:List UInt8} {k:Int} (h:atN n s=some k):∃ f∈n.l,f.name=s/\f.at_=k:=by
 unfold atN at h
 cases hq:n.l.find? fun f=>decide (f.name=s) with
 | none=>rw [hq] at h;cases h
 | some f=>rw [hq] at h;exact ⟨f,List.mem_of_find?_eq_some hq,by simpa using List.find?_some hq,by simpa using h⟩
theorem TJ {n:ANd} {s:List UInt8}:atN n s≠none↔s∈n.l.map (·.name):=by
 unfold atN
 constructor
 ·intro h
  cases hq:n.l.find? fun f=>decide (f.name=s) with
  | none=>rw [hq] at h;exact absurd rfl h
  | some f=>exact List.mem_map.2 ⟨f,List.mem_of_find?_eq_some hq,by simpa using List.find?_some hq⟩
 ·intro h hq
  obtain ⟨f,hf,rfl⟩:=List.mem_map.1 h;rw [Option.map_eq_none_iff,List.find?_eq_none] at hq
  simpa using hq f hf
def AP (t:ATy) (l:List Int) (s:List UInt8):List Int:=l.filterMap fun i=>atN (nd t i) s
def DP (t:ATy):List Int->List (List UInt8)
 | []=>[]
 | i::l=>((nd t i).l.map (·.name)).filter fun s=>(i::l).all fun j=>(atN (nd t j) s).isSome
def ofK (t:ATy) (l:List Int) (k:Int):List Int:=l.filter fun i=>decide ((nd t i).kind=k)
def latA (t:ATy) (l:List Int):Option (ANd×List Int):=(l.findIdx? fun i=>latB (nd t i).kind).map fun k=>(nd t (l.getD k 0),l.take k++l.drop (k+1))
def openA (t:ATy) (q:BSq):Option (List BSq):=match latA t q.left with
 | some (n,rest)=>some (if n.kind=10 then [⟨cs (rest++[n.a,n.b]),q.right⟩] else [⟨cs (rest++[n.a]),q.right⟩,⟨cs (rest++[n.b]),q.right⟩])
 | none=>match latA t q.right with
  | some (n,rest)=>some (if n.kind=9 then [⟨q.left,cs (rest++[n.a,n.b])⟩] else [⟨q.left,cs (rest++[n.a])⟩,⟨q.left,cs (rest++[n.b])⟩])
  | none=>none
def badA (t:ATy) (l r:List Int) (s:List UInt8):Bool:=(AP t l s).isEmpty||(AP t r s).isEmpty
def allA (t:ATy) (k:Int) (l r:List Int):List (List UInt8):=if k=7 then DP t r else if k=8 then DP t l else []
def BD (t:ATy) (k:Int) (l r:List Int):Bool×List BSq:=
 if k≠8/\r=[] then (true,[]) else
 if k=6 then (false,[⟨cs (r.map fun i=>(nd t i).a),cs (l.map fun i=>(nd t i).a)⟩,⟨cs (l.map fun i=>(nd t i).b),cs (r.map fun i=>(nd t i).b)⟩]) else
 if (allA t k l r).any (badA t l r) then (true,[]) else (false,(allA t k l r).map fun s=>⟨cs (AP t l s),cs (AP t r s)⟩)
def DD (t:ATy) (l:List Int):List Int:=[3,4,5,6,7,8].filter fun k=>l.any fun i=>decide ((nd t i).kind=k)
def D8 (t:ATy) (q:BSq):Bool×List BSq:=match DD t q.left with
 | []=>(true,[])
 | [k]=>BD t k (ofK t q.left k) (ofK t q.right k)
 | _=>(false,[])
def endA (t:ATy) (q:BSq):Bool:=(q.left.any fun i=>decide ((nd t i).kind=2))||(q.right.any fun i=>decide ((nd t i).kind=1))
def FC (t:ATy) (q:BSq):Bool:=q.left.any fun i=>q.right.any fun j=>decide ((nd t i).kind=11)&&decide ((nd t j).kind=11)&&decide ((nd t i).a=(nd t j).a)
def AW (t:ATy) (q:BSq):Bool×List BSq:=
 if endA t q=true then (false,[]) else match openA t q with
 | some l=>(false,l)
 | none=>if FC t q=true then (false,[]) else D8 t q
theorem Ch {t:ATy} {l rest:List Int} {n:ANd} (h:latA t l=some (n,rest)):∃ i,n=nd t i/\latB n.kind=true/\l.Perm (i::rest):=by
 unfold latA at h
 cases hq:l.findIdx? fun i=>latB (nd t i).kind with
 | none=>rw [hq] at h;cases h
 | some k =>
  rw [hq] at h;simp only [Option.map_some,Option.some.injEq,Prod.mk.injEq] at h;obtain ⟨rfl,rfl⟩:=h;rw [List.findIdx?_eq_some_iff_getElem] at hq;obtain ⟨hk,h1,_⟩:=hq
  have e:l.getD k 0=l[k]:=by rw [List.getD_eq_getElem?_getD,List.getElem?_eq_getElem hk];rfl
  refine ⟨l[k],by rw [e],by rw [e];exact h1,?_⟩
  have e2:l=l.take k++l[k]::l.drop (k+1):=by rw [<- List.drop_eq_getElem_cons hk,List.take_append_drop]
  have h3:=List.perm_middle (a:=l[k]) (l₁:=l.take k) (l₂:=l.drop (k+1))
  rw [<- e2] at h3;exact h3
theorem JI {t:ATy} {l:List Int} (h:latA t l=none):∀ i∈l,latB (nd t i).kind=false:=by
 unfold latA at h;rw [Option.map_eq_none_iff,List.findIdx?_eq_none_iff] at h
 intro i hi
 simpa using h i hi
theorem mem_names {t:ATy} {l:List Int} {s:List UInt8}:s∈DP t l↔l≠[]/\∀ i∈l,atN (nd t i) s≠none:=by
 cases l with
 | nil=>simp [DP]
 | cons i l =>
  unfold DP;rw [List.mem_filter,<- TJ,List.all_eq_true]
  constructor
  ·rintro ⟨_,h2⟩
   exact ⟨by simp,fun j hj=>by have:=h2 j hj;cases hq:atN (nd t j) s with
    | none=>rw [hq] at this;cases this
    | some _=>simp⟩
  ·rintro ⟨_,h2⟩
   exact ⟨h2 i (by simp),fun j hj=>by have:=h2 j hj;cases hq:atN (nd t j) s with
    | none=>exact absurd hq this
    | some _=>rfl⟩
theorem mem_parts {t:ATy} {l:List Int} {s:List UInt8} {k:Int}:k∈AP t l s↔∃ i∈l,atN (nd t i) s=some k:=by unfold AP;rw [List.mem_filterMap]
theorem mem_ofK {t:ATy} {l:List Int} {k i:Int}:i∈ofK t l k↔i∈l/\(nd t i).kind=k:=by unfold ofK;rw [List.mem_filter,decide_eq_true_eq]
theorem FW {t:ATy} {l:List Int} {k:Int}:k∈DD t l↔(3<=k/\k<=8)/\∃ i∈l,(nd t i).kind=k:=by
 unfold DD;rw [List.mem_filter,List.any_eq_true];simp only [List.mem_cons,List.not_mem_nil,or_false,decide_eq_true_eq]
 constructor
 ·rintro ⟨h1,h2⟩;exact ⟨by omega,h2⟩
 ·rintro ⟨h1,h2⟩;exact ⟨by omega,h2⟩
theorem O0 (t:ATy) (l:List Int):(DD t l).Nodup:=by unfold DD;exact List.Nodup.sublist List.filter_sublist (by decide)
inductive Pt
 | tag (S:Int->Prop) (k:Int)
 | dom (S:Int->Prop) (q:Pt)
 | cod (S:Int->Prop) (q:Pt)
 | absent (S:Int->Prop) (s:List UInt8)
 | field (S:Int->Prop) (s:List UInt8) (q:Pt)
 | hasc (S:Int->Prop) (s:List UInt8)
 | case (S:Int->Prop) (s:List UInt8) (q:Pt)
def Pt.vars:Pt->Int->Prop
 | .tag S _=>S
 | .dom S _=>S
 | .cod S _=>S
 | .absent S _=>S
 | .field S _ _=>S
 | .hasc S _=>S
 | .case S _ _=>S
def Pt.kind:Pt->Int
 | .tag _ k=>k
 | .dom _ _=>6
 | .cod _ _=>6
 | .absent _ _=>7
 | .field _ _ _=>7
 | .hasc _ _=>8
 | .case _ _ _=>8
def Pt.size:Pt->Nat
 | .tag _ _=>0
 | .dom _ q=>q.size+1
 | .cod _ q=>q.size+1
 | .absent _ _=>0
 | .field _ _ q=>q.size+1
 | .hasc _ _=>0
 | .case _ _ q=>q.size+1
inductive La (t:ATy) (S:Int->Prop) (D:ANd->Prop):Int->Prop
 | top {i:Int}:(nd t i).kind=1->La t S D i
 | inl {i:Int}:(nd t i).kind=9->La t S D (nd t i).a->La t S D i
 | inr {i:Int}:(nd t i).kind=9->La t S D (nd t i).b->La t S D i
 | both {i:Int}:(nd t i).kind=10->La t S D (nd t i).a->La t S D (nd t i).b->La t S D i
 | var {i:Int}:(nd t i).kind=11->S (nd t i).a->La t S D i
 | head {i:Int}:3<=(nd t i).kind->(nd t i).kind<=8->D (nd t i)->La t S D i
def hdP (t:ATy):Pt->ANd->Prop
 | .tag _ k,x=>x.kind=k/\k≠8
 | .dom _ q,x=>x.kind=6/\¬ La t q.vars (hdP t q) x.a
 | .cod _ q,x=>x.kind=6/\La t q.vars (hdP t q) x.b
 | .absent _ s,x=>x.kind=7/\atN x s=none
 | .field _ s q,x=>x.kind=7/\∀ k,atN x s=some k->La t q.vars (hdP t q) k
 | .hasc _ s,x=>x.kind=8/\atN x s≠none
 | .case _ s q,x=>x.kind=8/\∃ k,atN x s=some k/\La t q.vars (hdP t q) k
def Sat (t:ATy) (p:Pt) (i:Int):Prop:=La t p.vars (hdP t p) i
theorem LJ {t:ATy} {p:Pt} {x:ANd} (h:hdP t p x):x.kind=p.kind:=by
 cases p <;> exact h.1
section
variable {t:ATy} {S:Int->Prop} {D:ANd->Prop} {i:Int}
theorem SW (h:(nd t i).kind=1):La t S D i := .top h
theorem K3 (h:(nd t i).kind=2):¬ La t S D i:=by intro h2;cases h2 <;> omega
theorem Ec (h:(nd t i).kind=9):La t S D i↔La t S D (nd t i).a\/La t S D (nd t i).b:=by
 constructor
 ·intro h2
  cases h2 with
  | inl _ h3=>exact .inl h3
  | inr _ h3=>exact .inr h3
  | top h3=>omega
  | both h3 _ _=>omega
  | var h3 _=>omega
  | head h3 h4 _=>omega
 ·rintro (h2 | h2)
  ·exact .inl h h2
  ·exact .inr h h2
theorem E4 (h:(nd t i).kind=10):La t S D i↔La t S D (nd t i).a/\La t S D (nd t i).b:=by
 constructor
 ·intro h2
  cases h2 with
  | both _ h3 h4=>exact ⟨h3,h4⟩
  | inl h3 _=>omega
  | inr h3 _=>omega
  | top h3=>omega
  | var h3 _=>omega
  | head h3 h4 _=>omega
 ·rintro ⟨h2,h3⟩;exact .both h h2 h3
theorem H8 (h:(nd t i).kind=11):La t S D i↔S (nd t i).a:=by
 constructor
 ·intro h2
  cases h2 with
  | var _ h3=>exact h3
  | both h3 _ _=>omega
  | inl h3 _=>omega
  | inr h3 _=>omega
  | top h3=>omega
  | head h3 h4 _=>omega
 ·intro h2;exact .var h h2
theorem Gp (h:3<=(nd t i).kind) (h':(nd t i).kind<=8):La t S D i↔D (nd t i):=by
 constructor
 ·intro h2
  cases h2 with
  | head _ _ h3=>exact h3
  | both h3 _ _=>omega
  | inl h3 _=>omega
  | inr h3 _=>omega
  | top h3=>omega
  | var h3 _=>omega
 ·intro h2;exact .head h h' h2
end
def CE (t:ATy) (p:Pt) (q:BSq):Prop:=(∀ i∈q.left,Sat t p i)/\∀ i∈q.right,¬ Sat t p i
def InQ (t:ATy) (q:BSq):Prop:=(∀ i∈q.left,In t i)/\∀ i∈q.right,In t i
structure BG (t:ATy) (q:BSq):Prop where
 bot:∀ i∈q.left,(nd t i).kind≠2
 top:∀ i∈q.right,(nd t i).kind≠1
 latL:∀ i∈q.left,latB (nd t i).kind=false
 latR:∀ i∈q.right,latB (nd t i).kind=false
 share:∀ i∈q.left,∀ j∈q.right,(nd t i).kind=11->(nd t j).kind=11->(nd t i).a≠(nd t j).a
theorem ND {k:Int} (h:latB k=false):k≠9/\k≠10:=by
 unfold latB at h;simp only [Bool.or_eq_false_iff,decide_eq_false_iff_not] at h;exact h
theorem Dl {k:Int} (h:latB k=true):k=9\/k=10:=by
 unfold latB at h
 simpa only [Bool.or_eq_true,decide_eq_true_eq] using h
def SV (t:ATy) (q:BSq):Int->Prop:=fun v=>∃ i∈q.left,(nd t i).kind=11/\(nd t i).a=v
theorem Kl {t:ATy} {q:BSq} {p:Pt} (hO:OkT t) (hq:InQ t q) (hC:BG t q) (hS:p.vars=SV t q)
  (hL:∀ i∈q.left,3<=(nd t i).kind->(nd t i).kind<=8->hdP t p (nd t i)) (hR:∀ i∈q.right,3<=(nd t i).kind->(nd t i).kind<=8->¬ hdP t p (nd t i)):CE t p q:=by
 constructor
 ·intro i hi
  have hk:=hO.kind (hq.1 i hi)
  have h2:=hC.bot i hi
  have h3:=ND (hC.latL i hi)
  by_cases h1:(nd t i).kind=1
  ·exact .top h1
  ·by_cases h11:(nd t i).kind=11
   ·refine .var h11 ?_
    rw [hS];exact ⟨i,hi,h11,rfl⟩
   ·exact .head (by omega) (by omega) (hL i hi (by omega) (by omega))
 ·intro i hi hs
  have h1:=hC.top i hi
  have h3:=ND (hC.latR i hi)
  unfold Sat at hs
  cases hs with
  | top h=>exact h1 h
  | inl h _=>exact h3.1 h
  | inr h _=>exact h3.1 h
  | both h _ _=>exact h3.2 h
  | var h h4 =>
   rw [hS] at h4;obtain ⟨j,hj,hj1,hj2⟩:=h4;exact hC.share j hj i hi hj1 h hj2
  | head h4 h5 h6=>exact hR i hi h4 h5 h6
theorem MW {t:ATy} {l:List Int} (h:DD t l=[]):∀ i∈l,3<=(nd t i).kind->(nd t i).kind<=8->False:=by
 intro i hi h1 h2
 have:=(FW (t:=t) (l:=l)).2 ⟨⟨h1,h2⟩,i,hi,rfl⟩
 rw [h] at this;cases this
theorem Fe {t:ATy} {l:List Int} {k:Int} (h:DD t l=[k]):(3<=k/\k<=8)/\(∃ i∈l,(nd t i).kind=k)/\∀ i∈l,3<=(nd t i).kind->(nd t i).kind<=8->(nd t i).kind=k:=by
 have h0:=(FW (t:=t) (l:=l) (k:=k)).1 (by rw [h];simp)
 refine ⟨h0.1,h0.2,fun i hi h1 h2=>?_⟩
 have:=(FW (t:=t) (l:=l)).2 ⟨⟨h1,h2⟩,i,hi,rfl⟩
 rw [h] at this;simpa using this
theorem Mq {t:ATy} {l m:List Int} {a b:Int} (h:DD t l=a::b::m):∃ i∈l,∃ j∈l,(3<=(nd t i).kind/\(nd t i).kind<=8)/\(3<=(nd t j).kind/\(nd t j).kind<=8)/\(nd t i).kind≠(nd t j).kind:=by
 have ha:=(FW (t:=t) (l:=l) (k:=a)).1 (by rw [h];simp)
 have hb:=(FW (t:=t) (l:=l) (k:=b)).1 (by rw [h];simp)
 have hn:=O0 t l
 rw [h] at hn
 have hab:a≠b:=fun e=>by subst e;exact (List.nodup_cons.1 hn).1 (by simp)
 obtain ⟨i,hi,rfl⟩:=ha.2;obtain ⟨j,hj,rfl⟩:=hb.2;exact ⟨i,hi,j,hj,ha.1,hb.1,hab⟩
theorem Jn {t:ATy} {l r:List Int} {s:List UInt8} (h:badA t l r s=true):(∀ i∈l,atN (nd t i) s=none)\/∀ i∈r,atN (nd t i) s=none:=by
 unfold badA at h;rw [Bool.or_eq_true,List.isEmpty_iff,List.isEmpty_iff] at h
 have key:∀ l:List Int,AP t l s=[]->∀ i∈l,atN (nd t i) s=none:=by
  intro l hl i hi
  cases hq:atN (nd t i) s with
  | none=>rfl
  | some k=>have:=(mem_parts (t:=t) (l:=l)).2 ⟨i,hi,hq⟩;rw [hl] at this;cases this
 exact h.imp (key l) (key r)
theorem Nq {t:ATy} {l r:List Int} {s:List UInt8} (h:(∀ i∈l,atN (nd t i) s=none)\/∀ i∈r,atN (nd t i) s=none):badA t l r s=true:=by
 unfold badA;rw [Bool.or_eq_true,List.isEmpty_iff,List.isEmpty_iff]
 have key:∀ l:List Int,(∀ i∈l,atN (nd t i) s=none)->AP t l s=[]:=by
  intro l hl
  rw [List.eq_nil_iff_forall_not_mem]
  intro k hk
  obtain ⟨i,hi,h2⟩:=mem_parts.1 hk;rw [hl i hi] at h2;cases h2
 exact h.imp (key l) (key r)
theorem RO {t:ATy} {q:BSq} {k:Int} (hO:OkT t) (hq:InQ t q) (hC:BG t q) (hk:DD t q.left=[k]) (h:(BD t k (ofK t q.left k) (ofK t q.right k)).1=true):∃ p,CE t p q:=by
 obtain ⟨h0,⟨i0,hi0,hk0⟩,h1⟩:=Fe hk;unfold BD at h
 split at h
 ·rename_i hr
  refine ⟨.tag (SV t q) k,Kl hO hq hC rfl (fun i hi h3 h8=>⟨h1 i hi h3 h8,hr.1⟩) (fun i hi h3 h8 hd=>?_)⟩
  have:=mem_ofK.2 ⟨hi,hd.1⟩
  rw [hr.2] at this;cases this
 ·rename_i hr
  split at h
  ·cases h
  ·split at h
   ·rename_i h2
    rw [List.any_eq_true] at h2;obtain ⟨s,hs,hb⟩:=h2;unfold allA at hs
    split at hs
    ·rename_i h7;subst h7
     obtain ⟨hne,hall⟩:=mem_names.1 hs
     rcases Jn hb with hb | hb
     ·refine ⟨.absent (SV t q) s,Kl hO hq hC rfl (fun i hi h3 h8=>⟨h1 i hi h3 h8,hb i (mem_ofK.2 ⟨hi,h1 i hi h3 h8⟩)⟩) (fun i hi h3 h8 hd=>?_)⟩
      exact hall i (mem_ofK.2 ⟨hi,hd.1⟩) hd.2
     ·exfalso
      cases hq':ofK t q.right 7 with
      | nil=>exact hne hq'
      | cons j m=>exact hall j (by rw [hq'];simp) (hb j (by rw [hq'];simp))
    ·split at hs
     ·rename_i h8;subst h8
      obtain ⟨hne,hall⟩:=mem_names.1 hs
      rcases Jn hb with hb | hb
      ·exfalso
       exact hall i0 (mem_ofK.2 ⟨hi0,hk0⟩) (hb i0 (mem_ofK.2 ⟨hi0,hk0⟩))
      ·refine ⟨.hasc (SV t q) s,Kl hO hq hC rfl (fun i hi h3 h8=>⟨h1 i hi h3 h8,hall i (mem_ofK.2 ⟨hi,h1 i hi h3 h8⟩)⟩) (fun i hi h3 h8 hd=>?_)⟩
       exact hd.2 (hb i (mem_ofK.2 ⟨hi,hd.1⟩))
     ·cases hs
   ·cases h
theorem To {t:ATy} {q s:BSq} {k:Int} {p:Pt} (hO:OkT t) (hq:InQ t q) (hC:BG t q) (hk:DD t q.left=[k]) (hs:s∈(BD t k (ofK t q.left k) (ofK t q.right k)).2) (hp:CE t p s):∃ p,CE t p q:=by
 obtain ⟨h0,⟨i0,hi0,hk0⟩,h1⟩:=Fe hk;unfold BD at hs
 split at hs
 ·cases hs
 ·rename_i hr
  split at hs
  ·rename_i h6;subst h6
   simp only [List.mem_cons,List.not_mem_nil,or_false] at hs
   rcases hs with rfl | rfl
   ·refine ⟨.dom (SV t q) p,Kl hO hq hC rfl (fun i hi h3 h8=>⟨h1 i hi h3 h8,?_⟩) (fun i hi h3 h8 hd=>?_)⟩
    ·exact hp.2 _ (mem_cs.2 (List.mem_map.2 ⟨i,mem_ofK.2 ⟨hi,h1 i hi h3 h8⟩,rfl⟩))
    ·exact hd.2 (hp.1 _ (mem_cs.2 (List.mem_map.2 ⟨i,mem_ofK.2 ⟨hi,hd.1⟩,rfl⟩)))
   ·refine ⟨.cod (SV t q) p,Kl hO hq hC rfl (fun i hi h3 h8=>⟨h1 i hi h3 h8,?_⟩) (fun i hi h3 h8 hd=>?_)⟩
    ·exact hp.1 _ (mem_cs.2 (List.mem_map.2 ⟨i,mem_ofK.2 ⟨hi,h1 i hi h3 h8⟩,rfl⟩))
    ·exact hp.2 _ (mem_cs.2 (List.mem_map.2 ⟨i,mem_ofK.2 ⟨hi,hd.1⟩,rfl⟩)) hd.2
  ·split at hs
   ·cases hs
   ·rename_i hb
    obtain ⟨n,hn,rfl⟩:=List.mem_map.1 hs;unfold allA at hn
    split at hn
    ·rename_i h7;subst h7
     obtain ⟨hne,hall⟩:=mem_names.1 hn;refine ⟨.field (SV t q) n p,Kl hO hq hC rfl (fun i hi h3 h8=>⟨h1 i hi h3 h8,fun k hk=>?_⟩) (fun i hi h3 h8 hd=>?_)⟩
     ·exact hp.1 _ (mem_cs.2 (mem_parts.2 ⟨i,mem_ofK.2 ⟨hi,h1 i hi h3 h8⟩,hk⟩))
     ·have hi2:=mem_ofK.2 ⟨hi,hd.1⟩
      cases hq2:atN (nd t i) n with
      | none=>exact hall i hi2 hq2
      | some k=>exact hp.2 _ (mem_cs.2 (mem_parts.2 ⟨i,hi2,hq2⟩)) (hd.2 k hq2)
    ·split at hn
     ·rename_i h8;subst h8
      obtain ⟨hne,hall⟩:=mem_names.1 hn;refine ⟨.case (SV t q) n p,Kl hO hq hC rfl (fun i hi h3 h8=>⟨h1 i hi h3 h8,?_⟩) (fun i hi h3 h8 hd=>?_)⟩
      ·have hi2:=mem_ofK.2 ⟨hi,h1 i hi h3 h8⟩
       cases hq2:atN (nd t i) n with
       | none=>exact absurd hq2 (hall i hi2)
       | some k=>exact ⟨k,rfl,hp.1 _ (mem_cs.2 (mem_parts.2 ⟨i,hi2,hq2⟩))⟩
      ·obtain ⟨k,hk2,hk3⟩:=hd.2
       exact hp.2 _ (mem_cs.2 (mem_parts.2 ⟨i,mem_ofK.2 ⟨hi,hd.1⟩,hk2⟩)) hk3
     ·cases hn
theorem Is {t:ATy} {q:BSq} (h1:¬ endA t q=true) (h2:openA t q=none) (h3:¬ FC t q=true):BG t q:=by
 unfold endA at h1;unfold openA at h2;unfold FC at h3;rw [Bool.or_eq_true,List.any_eq_true,List.any_eq_true] at h1;simp only [List.any_eq_true,Bool.and_eq_true,decide_eq_true_eq] at h1 h3
 have hL:latA t q.left=none:=by
  cases hq:latA t q.left with
  | none=>rfl
  | some x=>rw [hq] at h2;cases h2
 have hR:latA t q.right=none:=by
  cases hq:latA t q.right with
  | none=>rfl
  | some x=>rw [hL,hq] at h2;cases h2
 exact ⟨fun i hi h=>h1 (.inl ⟨i,hi,h⟩),fun i hi h=>h1 (.inr ⟨i,hi,h⟩),JI hL,JI hR,fun i hi j hj h4 h5 h6=>h3 ⟨i,hi,j,hj,⟨h4,h5⟩,h6⟩⟩
theorem Td {t:ATy} {q:BSq} (hO:OkT t) (hq:InQ t q) (h:(AW t q).1=true):∃ p,CE t p q:=by
 unfold AW at h
 split at h
 ·cases h
 ·rename_i h1
  split at h
  ·cases h
  ·rename_i h2
   split at h
   ·cases h
   ·rename_i h3
    have hC:=Is h1 h2 h3
    unfold D8 at h
    split at h
    ·rename_i hk
     exact ⟨.tag (SV t q) 0,Kl hO hq hC rfl (fun i hi h3 h8=>(MW hk i hi h3 h8).elim) (fun i hi h3 h8 hd=>by have:=hd.1;omega)⟩
    ·rename_i k hk
     exact RO hO hq hC hk h
    ·cases h
theorem Uz {t:ATy} {q s:BSq} {l:List BSq} {p:Pt} (h:openA t q=some l) (hs:s∈l) (hp:CE t p s):CE t p q:=by
 unfold openA at h
 split at h
 ·rename_i n rest hl
  obtain ⟨i,rfl,hk,hpm⟩:=Ch hl
  cases h
  have key:Sat t p i->(∀ j∈rest,Sat t p j)->(∀ j∈q.right,¬ Sat t p j)->CE t p q:=fun h1 h2 h3=>⟨fun j hj=>by rcases List.mem_cons.1 (hpm.mem_iff.1 hj) with rfl | h;exact h1;exact h2 j h,h3⟩
  split at hs
  ·rename_i h10
   simp only [List.mem_singleton] at hs;subst hs
   exact key ((E4 h10).2 ⟨hp.1 _ (mem_cs.2 (by simp)),hp.1 _ (mem_cs.2 (by simp))⟩) (fun j hj=>hp.1 _ (mem_cs.2 (by simp [hj]))) hp.2
  ·rename_i h10
   have h9:(nd t i).kind=9:=(Dl hk).resolve_right h10
   simp only [List.mem_cons,List.not_mem_nil,or_false] at hs
   rcases hs with rfl | rfl
   ·exact key ((Ec h9).2 (.inl (hp.1 _ (mem_cs.2 (by simp))))) (fun j hj=>hp.1 _ (mem_cs.2 (by simp [hj]))) hp.2
   ·exact key ((Ec h9).2 (.inr (hp.1 _ (mem_cs.2 (by simp))))) (fun j hj=>hp.1 _ (mem_cs.2 (by simp [hj]))) hp.2
 ·split at h
  ·rename_i n rest hl
   obtain ⟨i,rfl,hk,hpm⟩:=Ch hl
   cases h
   have key:¬ Sat t p i->(∀ j∈rest,¬ Sat t p j)->(∀ j∈q.left,Sat t p j)->CE t p q:=fun h1 h2 h3=>⟨h3,fun j hj=>by rcases List.mem_cons.1 (hpm.mem_iff.1 hj) with rfl | h;exact h1;exact h2 j h⟩
   split at hs
   ·rename_i h9
    simp only [List.mem_singleton] at hs;subst hs
    exact key (fun h=>((Ec h9).1 h).elim (hp.2 _ (mem_cs.2 (by simp))) (hp.2 _ (mem_cs.2 (by simp)))) (fun j hj=>hp.2 _ (mem_cs.2 (by simp [hj]))) hp.1
   ·rename_i h9
    have h10:(nd t i).kind=10:=(Dl hk).resolve_left h9
    simp only [List.mem_cons,List.not_mem_nil,or_false] at hs
    rcases hs with rfl | rfl
    ·exact key (fun h=>hp.2 _ (mem_cs.2 (by simp)) ((E4 h10).1 h).1) (fun j hj=>hp.2 _ (mem_cs.2 (by simp [hj]))) hp.1
    ·exact key (fun h=>hp.2 _ (mem_cs.2 (by simp)) ((E4 h10).1 h).2) (fun j hj=>hp.2 _ (mem_cs.2 (by simp [hj]))) hp.1
  ·cases h
theorem UV {t:ATy} {q s:BSq} {p:Pt} (hO:OkT t) (hq:InQ t q) (hs:s∈(AW t q).2) (hp:CE t p s):∃ p,CE t p q:=by
 unfold AW at hs
 split at hs
 ·cases hs
 ·rename_i h1
  split at hs
  ·rename_i l h2
   exact ⟨p,Uz h2 hs hp⟩
  ·rename_i h2
   split at hs
   ·cases hs
   ·rename_i h3
    have hC:=Is h1 h2 h3
    unfold D8 at hs
    split at hs
    ·cases hs
    ·rename_i k hk
     exact To hO hq hC hk hs hp
    ·cases hs
def wq (w:Int->Nat) (q:BSq):Nat:=wsum w q.left+wsum w q.right
theorem R6 {t:ATy} {q:BSq} {l:List BSq} {p:Pt} {w:Int->Nat} (hw:∀ i,In t i->latB (nd t i).kind=true->w (nd t i).a+w (nd t i).b<w i) (hq:InQ t q) (h:openA t q=some l) (hp:CE t p q):∃ s∈l,CE t p s/\wq w s<wq w q:=by
 unfold openA at h
 split at h
 ·rename_i n rest hl
  obtain ⟨i,rfl,hk,hpm⟩:=Ch hl
  cases h
  have hi:i∈q.left:=hpm.mem_iff.2 (by simp)
  have hrest:∀ j∈rest,Sat t p j:=fun j hj=>hp.1 j (hpm.mem_iff.2 (by simp [hj]))
  have hwi:=hw i (hq.1 i hi) hk
  have hwl:wsum w q.left=w i+wsum w rest:=by rw [G0 hpm];rfl
  have h2:∀ m:List Int,(∀ j∈m,Sat t p j)->wsum w m<w i->CE t p ⟨cs (rest++m),q.right⟩/\wq w ⟨cs (rest++m),q.right⟩<wq w q:=by
   intro m hm hwm
   refine ⟨⟨fun j hj=>?_,hp.2⟩,?_⟩
   ·rcases List.mem_append.1 (mem_cs.1 hj) with h | h
    ·exact hrest j h
    ·exact hm j h
   ·have:=KD w (rest++m)
    rw [HK] at this;simp only [wq]
    omega
  split
  ·rename_i h10
   have hs:=(E4 h10).1 (hp.1 i hi)
   have:=h2 [(nd t i).a,(nd t i).b] (fun j hj=>by simp at hj;rcases hj with rfl | rfl;exact hs.1;exact hs.2) (by simp only [wsum];omega)
   exact ⟨_,by simp,this⟩
  ·rename_i h10
   have h9:(nd t i).kind=9:=(Dl hk).resolve_right h10
   rcases (Ec h9).1 (hp.1 i hi) with hs | hs
   ·have:=h2 [(nd t i).a] (fun j hj=>by simp at hj;subst hj;exact hs) (by simp only [wsum];omega)
    exact ⟨_,by simp,this⟩
   ·have:=h2 [(nd t i).b] (fun j hj=>by simp at hj;subst hj;exact hs) (by simp only [wsum];omega)
    exact ⟨⟨cs (rest++[(nd t i).b]),q.right⟩,by simp,this⟩
 ·split at h
  ·rename_i n rest hl
   obtain ⟨i,rfl,hk,hpm⟩:=Ch hl
   cases h
   have hi:i∈q.right:=hpm.mem_iff.2 (by simp)
   have hrest:∀ j∈rest,¬ Sat t p j:=fun j hj=>hp.2 j (hpm.mem_iff.2 (by simp [hj]))
   have hwi:=hw i (hq.2 i hi) hk
   have hwl:wsum w q.right=w i+wsum w rest:=by rw [G0 hpm];rfl
   have h2:∀ m:List Int,(∀ j∈m,¬ Sat t p j)->wsum w m<w i->CE t p ⟨q.left,cs (rest++m)⟩/\wq w ⟨q.left,cs (rest++m)⟩<wq w q:=by
    intro m hm hwm
    refine ⟨⟨hp.1,fun j hj=>?_⟩,?_⟩
    ·rcases List.mem_append.1 (mem_cs.1 hj) with h | h
     ·exact hrest j h
     ·exact hm j h
    ·have:=KD w (rest++m)
     rw [HK] at this;simp only [wq]
     omega
   have hs:=hp.2 i hi
   split
   ·rename_i h9
    have:=h2 [(nd t i).a,(nd t i).b] (fun j hj=>by
     simp at hj
     rcases hj with rfl | rfl
     ·exact fun h=>hs ((Ec h9).2 (.inl h))
     ·exact fun h=>hs ((Ec h9).2 (.inr h))) (by simp only [wsum];omega)
    exact ⟨_,by simp,this⟩
   ·rename_i h9
    have h10:(nd t i).kind=10:=(Dl hk).resolve_left h9
    by_cases ha:Sat t p (nd t i).a
    ·have:=h2 [(nd t i).b] (fun j hj=>by simp at hj;subst hj;exact fun h=>hs ((E4 h10).2 ⟨ha,h⟩)) (by simp only [wsum];omega)
     exact ⟨⟨q.left,cs (rest++[(nd t i).b])⟩,by simp,this⟩
    ·have:=h2 [(nd t i).a] (fun j hj=>by simp at hj;subst hj;exact ha) (by simp only [wsum];omega)
     exact ⟨_,by simp,this⟩
  ·cases h
theorem SO {t:ATy} {q:BSq} {p:Pt} {k:Int} (hk:DD t q.left=[k]) (hp:CE t p q):k=p.kind/\(3<=k/\k<=8)/\(∃ i,i∈ofK t q.left k)/\(∀ i∈ofK t q.left k,hdP t p (nd t i))/\∀ i∈ofK t q.right k,¬ hdP t p (nd t i):=by
 obtain ⟨h0,⟨i0,hi0,hk0⟩,h1⟩:=Fe hk
 have hd:∀ i∈ofK t q.left k,hdP t p (nd t i):=fun i hi=>by
  obtain ⟨h2,h3⟩:=mem_ofK.1 hi;exact (Gp (by omega) (by omega)).1 (hp.1 i h2)
 refine ⟨?_,h0,⟨i0,mem_ofK.2 ⟨hi0,hk0⟩⟩,hd,fun i hi hh=>?_⟩
 ·rw [<- LJ (hd i0 (mem_ofK.2 ⟨hi0,hk0⟩)),hk0]
 ·obtain ⟨h2,h3⟩:=mem_ofK.1 hi
  exact hp.2 i h2 ((Gp (by omega) (by omega)).2 hh)
theorem PT {t:ATy} {p:Pt} {l r:List Int} (h0:3<=p.kind/\p.kind<=8) (hne:∃ i,i∈l) (hK:∀ i∈r,(nd t i).kind=p.kind) (hL:∀ i∈l,hdP t p (nd t i)) (hR:∀ i∈r,¬ hdP t p (nd t i)) :
  (BD t p.kind l r).1=true\/∃ s∈(BD t p.kind l r).2,∃ p',CE t p' s/\p'.size<p.size:=by
 by_cases hr:p.kind≠8/\r=[]
 ·left;unfold BD;rw [if_pos hr]
 have hnil:p.kind≠8->r≠[]:=fun h h2=>hr ⟨h,h2⟩
 cases p with
 | tag S k =>
  exfalso
  by_cases h8:k=8
  ·obtain ⟨i,hi⟩:=hne
   exact (hL i hi).2 h8
  ·cases r with
   | nil=>exact hnil h8 rfl
   | cons j m=>exact hR j (by simp) ⟨hK j (by simp),h8⟩
 | dom S p =>
  right
  refine ⟨⟨cs (r.map fun i=>(nd t i).a),cs (l.map fun i=>(nd t i).a)⟩,by unfold BD;rw [if_neg hr];simp [Pt.kind],p,⟨fun x hx=>?_,fun x hx=>?_⟩,by simp [Pt.size]⟩
  ·obtain ⟨i,hi,rfl⟩:=List.mem_map.1 (mem_cs.1 hx)
   exact Classical.byContradiction fun h=>hR i hi ⟨hK i hi,h⟩
  ·obtain ⟨i,hi,rfl⟩:=List.mem_map.1 (mem_cs.1 hx)
   exact (hL i hi).2
 | cod S p =>
  right
  refine ⟨⟨cs (l.map fun i=>(nd t i).b),cs (r.map fun i=>(nd t i).b)⟩,by unfold BD;rw [if_neg hr];simp [Pt.kind],p,⟨fun x hx=>?_,fun x hx=>?_⟩,by simp [Pt.size]⟩
  ·obtain ⟨i,hi,rfl⟩:=List.mem_map.1 (mem_cs.1 hx)
   exact (hL i hi).2
  ·obtain ⟨i,hi,rfl⟩:=List.mem_map.1 (mem_cs.1 hx)
   exact fun h=>hR i hi ⟨hK i hi,h⟩
 | absent S s =>
  left
  have hs:s∈DP t r:=mem_names.2 ⟨hnil (by simp [Pt.kind]),fun i hi h=>hR i hi ⟨hK i hi,h⟩⟩
  unfold BD;rw [if_neg hr,if_neg (by simp [Pt.kind]),if_pos (List.any_eq_true.2 ⟨s,by simp [allA,Pt.kind,hs],Nq (.inl fun i hi=>(hL i hi).2)⟩)]
 | field S s p =>
  have hex:∀ i∈r,∃ k,atN (nd t i) s=some k/\¬ Sat t p k:=fun i hi=>Classical.byContradiction fun h=>hR i hi ⟨hK i hi,fun k hk=>Classical.byContradiction fun h2=>h ⟨k,hk,h2⟩⟩
  have hs:s∈DP t r:=mem_names.2 ⟨hnil (by simp [Pt.kind]),fun i hi h=>by obtain ⟨k,hk,_⟩:=hex i hi;rw [h] at hk;cases hk⟩
  by_cases hb:(allA t (Pt.field S s p).kind l r).any (badA t l r)=true
  ·left;unfold BD;rw [if_neg hr,if_neg (by simp [Pt.kind]),if_pos hb]
  ·right
   refine ⟨⟨cs (AP t l s),cs (AP t r s)⟩,?_,p,⟨fun x hx=>?_,fun x hx=>?_⟩,by simp [Pt.size]⟩
   ·unfold BD;rw [if_neg hr,if_neg (by simp [Pt.kind]),if_neg hb]
    exact List.mem_map.2 ⟨s,by simp [allA,Pt.kind,hs],rfl⟩
   ·obtain ⟨i,hi,hk⟩:=mem_parts.1 (mem_cs.1 hx)
    exact (hL i hi).2 x hk
   ·obtain ⟨i,hi,hk⟩:=mem_parts.1 (mem_cs.1 hx)
    obtain ⟨k,hk2,hk3⟩:=hex i hi;rw [hk] at hk2;cases hk2
    exact hk3
 | hasc S s =>
  left
  obtain ⟨i0,hi0⟩:=hne
  have hs:s∈DP t l:=mem_names.2 ⟨fun e=>(by rw [e] at hi0;cases hi0),fun i hi=>(hL i hi).2⟩
  have hn:∀ i∈r,atN (nd t i) s=none:=fun i hi=>by
   cases hq:atN (nd t i) s with
   | none=>rfl
   | some k=>exact absurd ⟨hK i hi,by rw [hq];simp⟩ (hR i hi)
  unfold BD;rw [if_neg hr,if_neg (by simp [Pt.kind]),if_pos (List.any_eq_true.2 ⟨s,by simp [allA,Pt.kind,hs],Nq (.inr hn)⟩)]
 | case S s p =>
  obtain ⟨i0,hi0⟩:=hne
  have hs:s∈DP t l:=mem_names.2 ⟨fun e=>(by rw [e] at hi0;cases hi0),fun i hi h=>by obtain ⟨k,hk,_⟩:=(hL i hi).2;rw [h] at hk;cases hk⟩
  by_cases hb:(allA t (Pt.case S s p).kind l r).any (badA t l r)=true
  ·left;unfold BD;rw [if_neg hr,if_neg (by simp [Pt.kind]),if_pos hb]
  ·right
   refine ⟨⟨cs (AP t l s),cs (AP t r s)⟩,?_,p,⟨fun x hx=>?_,fun x hx=>?_⟩,by simp [Pt.size]⟩
   ·unfold BD;rw [if_neg hr,if_neg (by simp [Pt.kind]),if_neg hb]
    exact List.mem_map.2 ⟨s,by simp [allA,Pt.kind,hs],rfl⟩
   ·obtain ⟨i,hi,hk⟩:=mem_parts.1 (mem_cs.1 hx)
    obtain ⟨k,hk2,hk3⟩:=(hL i hi).2;rw [hk] at hk2;cases hk2
    exact hk3
   ·obtain ⟨i,hi,hk⟩:=mem_parts.1 (mem_cs.1 hx)
    exact fun h=>hR i hi ⟨hK i hi,x,hk,h⟩
theorem Ik {t:ATy} {q:BSq} {p:Pt} {w:Int->Nat} (hO:OkT t) (hw:∀ i,In t i->latB (nd t i).kind=true->w (nd t i).a+w (nd t i).b<w i) (hq:InQ t q) (hp:CE t p q) :
  (AW t q).1=true\/∃ s∈(AW t q).2,∃ p',CE t p' s/\(p'.size<p.size\/(p'.size=p.size/\wq w s<wq w q)):=by
 have h1:¬ endA t q=true:=by
  unfold endA;rw [Bool.or_eq_true,List.any_eq_true,List.any_eq_true];rintro (⟨i,hi,h⟩ | ⟨i,hi,h⟩)
  ·exact K3 (of_decide_eq_true h) (hp.1 i hi)
  ·exact hp.2 i hi (SW (of_decide_eq_true h))
 unfold AW;rw [if_neg h1]
 cases h2:openA t q with
 | some l =>
  right
  obtain ⟨s,hs,h3,h4⟩:=R6 hw hq h2 hp;exact ⟨s,hs,p,h3,.inr ⟨rfl,h4⟩⟩
 | none =>
  have h3:¬ FC t q=true:=by
   unfold FC;simp only [List.any_eq_true,Bool.and_eq_true,decide_eq_true_eq];rintro ⟨i,hi,j,hj,⟨h4,h5⟩,h6⟩
   have:=(H8 h4).1 (hp.1 i hi)
   rw [h6] at this;exact hp.2 j hj ((H8 h5).2 this)
  simp only [if_neg h3];unfold D8
  cases hk:DD t q.left with
  | nil=>left;rfl
  | cons k m =>
   cases m with
   | nil =>
    obtain ⟨rfl,h5,h6,h7,h8⟩:=SO hk hp
    rcases PT h5 h6 (fun i hi=>(mem_ofK.1 hi).2) h7 h8 with h | ⟨s,hs,p',h9,h10⟩
    ·left;exact h
    ·right;exact ⟨s,hs,p',h9,.inl h10⟩
   | cons b m =>
    exfalso
    obtain ⟨i,hi,j,hj,h5,h6,h7⟩:=Mq hk
    have e1:=LJ ((Gp h5.1 h5.2).1 (hp.1 i hi))
    have e2:=LJ ((Gp h6.1 h6.2).1 (hp.1 j hj))
    exact h7 (e1.trans e2.symm)
structure Kept (t:ATy) (A:Int->Prop):Prop where
 inn:∀ i,A i->In t i
 pair:∀ i,A i->(nd t i).kind=6\/(nd t i).kind=9\/(nd t i).kind=10->A (nd t i).a/\A (nd t i).b
 fld:∀ i,A i->∀ f∈(nd t i).l,A f.at_
theorem Kept.all {t:ATy} (hO:OkT t):Kept t (In t):=⟨fun _ h=>h,fun _ h hk=>hO.pair h hk,fun _ h _ hf=>hO.at_ h hf⟩
def InAB (A B:Int->Prop) (q:BSq):Prop:=(∀ i∈q.left,A i)/\∀ i∈q.right,B i
theorem Kept.parts {t:ATy} {A:Int->Prop} (hA:Kept t A) {l:List Int} (h:∀ i∈l,A i) (s:List UInt8):∀ i∈cs (AP t l s),A i:=fun k hk=>by
 obtain ⟨i,hi,h2⟩:=mem_parts.1 (mem_cs.1 hk);obtain ⟨f,hf,_,rfl⟩:=Ha h2;exact hA.fld i (h i hi) f hf
theorem NC {t:ATy} {A B:Int->Prop} (hA:Kept t A) (hB:Kept t B) {q s:BSq} (hq:InAB A B q) (hs:s∈(AW t q).2):InAB A B s\/InAB B A s:=by
 unfold AW at hs
 split at hs
 ·cases hs
 ·split at hs
  ·rename_i l h2
   left
   unfold openA at h2
   split at h2
   ·rename_i n rest hl
    obtain ⟨i,rfl,hk,hpm⟩:=Ch hl
    cases h2
    have hi:A i:=hq.1 i (hpm.mem_iff.2 (by simp))
    have hp:=hA.pair i hi (.inr (Dl hk))
    have hrest:∀ j∈rest,A j:=fun j hj=>hq.1 j (hpm.mem_iff.2 (by simp [hj]))
    have h2:∀ m:List Int,(∀ j∈m,A j)->InAB A B ⟨cs (rest++m),q.right⟩:=fun m hm=>⟨fun j hj=>by
     rcases List.mem_append.1 (mem_cs.1 hj) with h | h
     ·exact hrest j h
     ·exact hm j h,hq.2⟩
    split at hs
    ·simp only [List.mem_singleton] at hs;subst hs
     exact h2 _ (fun j hj=>by simp at hj;rcases hj with rfl | rfl;exact hp.1;exact hp.2)
    ·simp only [List.mem_cons,List.not_mem_nil,or_false] at hs
     rcases hs with rfl | rfl
     ·exact h2 _ (fun j hj=>by simp at hj;subst hj;exact hp.1)
     ·exact h2 _ (fun j hj=>by simp at hj;subst hj;exact hp.2)
   ·split at h2
    ·rename_i n rest hl
     obtain ⟨i,rfl,hk,hpm⟩:=Ch hl
     cases h2
     have hi:B i:=hq.2 i (hpm.mem_iff.2 (by simp))
     have hp:=hB.pair i hi (.inr (Dl hk))
     have hrest:∀ j∈rest,B j:=fun j hj=>hq.2 j (hpm.mem_iff.2 (by simp [hj]))
     have h2:∀ m:List Int,(∀ j∈m,B j)->InAB A B ⟨q.left,cs (rest++m)⟩:=fun m hm=>⟨hq.1,fun j hj=>by
      rcases List.mem_append.1 (mem_cs.1 hj) with h | h
      ·exact hrest j h
      ·exact hm j h⟩
     split at hs
     ·simp only [List.mem_singleton] at hs;subst hs
      exact h2 _ (fun j hj=>by simp at hj;rcases hj with rfl | rfl;exact hp.1;exact hp.2)
     ·simp only [List.mem_cons,List.not_mem_nil,or_false] at hs
      rcases hs with rfl | rfl
      ·exact h2 _ (fun j hj=>by simp at hj;subst hj;exact hp.1)
      ·exact h2 _ (fun j hj=>by simp at hj;subst hj;exact hp.2)
    ·cases h2
  ·split at hs
   ·cases hs
   ·unfold D8 at hs
    split at hs
    ·cases hs
    ·rename_i k hk
     have hL:∀ i∈ofK t q.left k,A i:=fun i hi=>hq.1 i (mem_ofK.1 hi).1
     have hR:∀ i∈ofK t q.right k,B i:=fun i hi=>hq.2 i (mem_ofK.1 hi).1
     unfold BD at hs
     split at hs
     ·cases hs
     ·split at hs
      ·rename_i h6;subst h6
       simp only [List.mem_cons,List.not_mem_nil,or_false] at hs
       rcases hs with rfl | rfl
       ·right
        refine ⟨fun x hx=>?_,fun x hx=>?_⟩ <;> obtain ⟨i,hi,rfl⟩:=List.mem_map.1 (mem_cs.1 hx)
        ·exact (hB.pair i (hR i hi) (.inl (mem_ofK.1 hi).2)).1
        ·exact (hA.pair i (hL i hi) (.inl (mem_ofK.1 hi).2)).1
       ·left
        refine ⟨fun x hx=>?_,fun x hx=>?_⟩ <;> obtain ⟨i,hi,rfl⟩:=List.mem_map.1 (mem_cs.1 hx)
        ·exact (hA.pair i (hL i hi) (.inl (mem_ofK.1 hi).2)).2
        ·exact (hB.pair i (hR i hi) (.inl (mem_ofK.1 hi).2)).2
      ·split at hs
       ·cases hs
       ·obtain ⟨n,hn,rfl⟩:=List.mem_map.1 hs
        left
        exact ⟨hA.parts hL n,hB.parts hR n⟩
    ·cases hs
inductive Rch (t:ATy) (q:BSq):BSq->Prop
 | refl:Rch t q q
 | step {s s':BSq}:Rch t q s->s'∈(AW t s).2->Rch t q s'
theorem Rch.head {t:ATy} {q s s':BSq} (h1:s∈(AW t q).2) (h:Rch t s s'):Rch t q s':=by
 induction h with
 | refl=>exact .step .refl h1
 | step _ h2 ih=>exact .step ih h2
theorem Ig {t:ATy} (hO:OkT t) {q s:BSq} (hq:InQ t q) (hs:s∈(AW t q).2):InQ t s:=(NC (Kept.all hO) (Kept.all hO) hq hs).elim id id
theorem Rch.inQ {t:ATy} (hO:OkT t) {q s:BSq} (hq:InQ t q) (h:Rch t q s):InQ t s:=by
 induction h with
 | refl=>exact hq
 | step _ h2 ih=>exact Ig hO ih h2
theorem Tn {t:ATy} (hO:OkT t) {w:Int->Nat} (hw:∀ i,In t i->latB (nd t i).kind=true->w (nd t i).a+w (nd t i).b<w i):∀ (n m:Nat) (q:BSq) (p:Pt),p.size<=n->wq w q<=m->InQ t q->CE t p q->∃ s,Rch t q s/\(AW t s).1=true:=by
 intro n
 induction n with
 | zero =>
  intro m
  induction m with
  | zero =>
   intro q p h1 h2 hq hp
   rcases Ik hO hw hq hp with h | ⟨s,_,p',_,h⟩
   ·exact ⟨q,.refl,h⟩
   ·omega
  | succ m ih =>
   intro q p h1 h2 hq hp
   rcases Ik hO hw hq hp with h | ⟨s,hs,p',hp',h⟩
   ·exact ⟨q,.refl,h⟩
   ·obtain ⟨s',h3,h4⟩:=ih s p' (by omega) (by omega) (Ig hO hq hs) hp'
    exact ⟨s',h3.head hs,h4⟩
 | succ n ihn =>
  intro m
  induction m with
  | zero =>
   intro q p h1 h2 hq hp
   rcases Ik hO hw hq hp with h | ⟨s,hs,p',hp',h⟩
   ·exact ⟨q,.refl,h⟩
   ·obtain ⟨s',h3,h4⟩:=ihn (wq w s) s p' (by omega) (Nat.le_refl _) (Ig hO hq hs) hp'
    exact ⟨s',h3.head hs,h4⟩
  | succ m ih =>
   intro q p h1 h2 hq hp
   rcases Ik hO hw hq hp with h | ⟨s,hs,p',hp',h⟩
   ·exact ⟨q,.refl,h⟩
   ·by_cases h5:p'.size<=n
    ·obtain ⟨s',h3,h4⟩:=ihn (wq w s) s p' h5 (Nat.le_refl _) (Ig hO hq hs) hp'
     exact ⟨s',h3.head hs,h4⟩
    ·obtain ⟨s',h3,h4⟩:=ih s p' (by omega) (by omega) (Ig hO hq hs) hp'
     exact ⟨s',h3.head hs,h4⟩
theorem TH {t:ATy} (hO:OkT t) {q s:BSq} (h:Rch t q s) (hq:InQ t q) (hs:∃ p,CE t p s):∃ p,CE t p q:=by
 induction h with
 | refl=>exact hs
 | step h1 h2 ih =>
  obtain ⟨p,hp⟩:=hs;exact ih (UV hO (h1.inQ hO hq) h2 hp)
def Valid (t:ATy) (q:BSq):Prop:=∀ p,¬ CE t p q
theorem RT {t:ATy} (hO:OkT t) {q:BSq} (hq:InQ t q):(∀ s,Rch t q s->(AW t s).1=false)↔Valid t q:=by
 obtain ⟨w,hw⟩:=hO.weight
 constructor
 ·intro h p hp
  obtain ⟨s,h1,h2⟩:=Tn hO hw p.size (wq w q) q p (Nat.le_refl _) (Nat.le_refl _) hq hp;rw [h s h1] at h2;cases h2
 ·intro h s hs
  cases h1:(AW t s).1 with
  | false=>rfl
  | true =>
   obtain ⟨p,hp⟩:=TH hO hs hq (Td hO (hs.inQ hO hq) h1);exact absurd hp (h p)
def rngI (n:Nat):List Int:=(List.range n).map fun k:Nat=>(k:Int)
theorem mem_rngI {n:Nat} {x:Int}:x∈rngI n↔0<=x/\x<(n:Int):=by
 unfold rngI;rw [List.mem_map]
 constructor
 ·rintro ⟨k,hk,rfl⟩
  have:=List.mem_range.1 hk
  omega
 ·rintro ⟨h1,h2⟩
  exact ⟨x.toNat,List.mem_range.2 (by omega),by omega⟩
structure Emb (s t:ATy) (f:Int->Int):Prop where
 node:∀ i,In s i->nd t (f i)=Ao f (nd s i)
theorem EH (f:Int->Int) (n:ANd):(Ao f n).kind=n.kind:=rfl
theorem BN {f:Int->Int} {n:ANd} (h:n.kind=6\/n.kind=9\/n.kind=10):(Ao f n).a=f n.a/\(Ao f n).b=f n.b:=by
 unfold Ao pB
 rcases h with h | h | h <;> rw [h] <;> exact ⟨rfl,rfl⟩
theorem Hp {f:Int->Int} {n:ANd} (h:n.kind=11):(Ao f n).a=n.a:=by
 unfold Ao pB;rw [h];rfl
theorem Cw (f:Int->Int) (n:ANd) (s:List UInt8):atN (Ao f n) s=(atN n s).map f:=by
 unfold atN Ao;rw [List.find?_map]
 show Option.map _ (Option.map _ (n.l.find? fun x=>decide (x.name=s)))=_
 rw [Option.map_map,Option.map_map];rfl
theorem EP {s t:ATy} {f:Int->Int} {S:Int->Prop} {D D':ANd->Prop} (hO:OkT s) (h:Emb s t f) (hD:∀ i,In s i->3<=(nd s i).kind->(nd s i).kind<=8->(D' (nd t (f i))↔D (nd s i))) :
  ∀ i,In s i->(La t S D' (f i)↔La s S D i):=by
 intro i hi
 constructor
 ·intro hla
  generalize hj:f i=j at hla
  induction hla generalizing i with
  | top h1=>subst hj;rw [h.node i hi] at h1;exact .top h1
  | inl h1 _ ih =>
   subst hj;rw [h.node i hi] at h1 ih
   have h1:(nd s i).kind=9:=h1
   exact .inl h1 (ih _ (hO.pair hi (.inr (.inl h1))).1 (BN (.inr (.inl h1))).1.symm)
  | inr h1 _ ih =>
   subst hj;rw [h.node i hi] at h1 ih
   have h1:(nd s i).kind=9:=h1
   exact .inr h1 (ih _ (hO.pair hi (.inr (.inl h1))).2 (BN (.inr (.inl h1))).2.symm)
  | both h1 _ _ ih1 ih2 =>
   subst hj;rw [h.node i hi] at h1 ih1 ih2
   have h1:(nd s i).kind=10:=h1
   exact .both h1 (ih1 _ (hO.pair hi (.inr (.inr h1))).1 (BN (.inr (.inr h1))).1.symm) (ih2 _ (hO.pair hi (.inr (.inr h1))).2 (BN (.inr (.inr h1))).2.symm)
  | var h1 h2 =>
   subst hj;rw [h.node i hi] at h1 h2
   have h1:(nd s i).kind=11:=h1
   rw [Hp h1] at h2;exact .var h1 h2
  | head h1 h2 h3 =>
   subst hj
   have h4:=h.node i hi
   rw [h4] at h1 h2;exact .head h1 h2 ((hD i hi h1 h2).1 h3)
 ·intro hla
  induction hla with
  | top h1=>exact .top (by rw [h.node _ hi];exact h1)
  | @inl i h1 _ ih =>
   have h4:=h.node i hi
   refine .inl (by rw [h4];exact h1) ?_;rw [h4,(BN (.inr (.inl h1))).1];exact ih (hO.pair hi (.inr (.inl h1))).1
  | @inr i h1 _ ih =>
   have h4:=h.node i hi
   refine .inr (by rw [h4];exact h1) ?_;rw [h4,(BN (.inr (.inl h1))).2];exact ih (hO.pair hi (.inr (.inl h1))).2
  | @both i h1 _ _ ih1 ih2 =>
   have h4:=h.node i hi
   refine .both (by rw [h4];exact h1) ?_ ?_
   ·rw [h4,(BN (.inr (.inr h1))).1]
    exact ih1 (hO.pair hi (.inr (.inr h1))).1
   ·rw [h4,(BN (.inr (.inr h1))).2]
    exact ih2 (hO.pair hi (.inr (.inr h1))).2
  | @var i h1 h2 =>
   have h4:=h.node i hi
   refine .var (by rw [h4];exact h1) ?_;rw [h4,Hp h1];exact h2
  | @head i h1 h2 h3 =>
   have h4:=h.node i hi
   exact .head (by rw [h4];exact h1) (by rw [h4];exact h2) ((hD i hi h1 h2).2 h3)
theorem Ka {t:ATy} (hO:OkT t) {i k:Int} {s:List UInt8} (hi:In t i) (h:atN (nd t i) s=some k):In t k:=by
 obtain ⟨f,hf,_,rfl⟩:=Ha h;exact hO.at_ hi hf
theorem Ux {s t:ATy} {f:Int->Int} (hO:OkT s) (h:Emb s t f):∀ (p:Pt) (i:Int),In s i->(Sat t p (f i)↔Sat s p i):=by
 intro p
 induction p with
 | tag S k =>
  refine EP hO h fun i hi h1 h2=>?_;rw [h.node i hi];exact Iff.rfl
 | dom S q ih =>
  refine EP hO h fun i hi h1 h2=>?_;rw [h.node i hi]
  show ((nd s i).kind=6/\¬ Sat t q (Ao f (nd s i)).a)↔((nd s i).kind=6/\¬ Sat s q (nd s i).a)
  refine and_congr_right fun h6=>?_;rw [(BN (.inl h6)).1,ih _ (hO.pair hi (.inl h6)).1]
 | cod S q ih =>
  refine EP hO h fun i hi h1 h2=>?_;rw [h.node i hi]
  show ((nd s i).kind=6/\Sat t q (Ao f (nd s i)).b)↔((nd s i).kind=6/\Sat s q (nd s i).b)
  refine and_congr_right fun h6=>?_;rw [(BN (.inl h6)).2,ih _ (hO.pair hi (.inl h6)).2]
 | absent S n =>
  refine EP hO h fun i hi h1 h2=>?_;rw [h.node i hi]
  show ((nd s i).kind=7/\atN (Ao f (nd s i)) n=none)↔((nd s i).kind=7/\atN (nd s i) n=none)
  rw [Cw,Option.map_eq_none_iff]
 | field S n q ih =>
  refine EP hO h fun i hi h1 h2=>?_;rw [h.node i hi]
  show ((nd s i).kind=7/\∀ k,atN (Ao f (nd s i)) n=some k->Sat t q k)↔((nd s i).kind=7/\∀ k,atN (nd s i) n=some k->Sat s q k)
  rw [Cw]
  cases hq:atN (nd s i) n with
  | none=>simp
  | some k =>
   simp only [Option.map_some,Option.some.injEq,forall_eq'];rw [ih k (Ka hO hi hq)]
 | hasc S n =>
  refine EP hO h fun i hi h1 h2=>?_;rw [h.node i hi]
  show ((nd s i).kind=8/\atN (Ao f (nd s i)) n≠none)↔((nd s i).kind=8/\atN (nd s i) n≠none)
  rw [Cw,ne_eq,Option.map_eq_none_iff]
 | case S n q ih =>
  refine EP hO h fun i hi h1 h2=>?_;rw [h.node i hi]
  show ((nd s i).kind=8/\∃ k,atN (Ao f (nd s i)) n=some k/\Sat t q k)↔((nd s i).kind=8/\∃ k,atN (nd s i) n=some k/\Sat s q k)
  rw [Cw]
  cases hq:atN (nd s i) n with
  | none=>simp
  | some k =>
   simp only [Option.map_some,Option.some.injEq,exists_eq_left'];rw [ih k (Ka hO hi hq)]
theorem SJ {all all':Int} (hle:all<=all') {l:List Int} (h:¬ ∃ k∈l,inB all k=true):¬ ∃ k∈l,inB all' k=true:=by
 rintro ⟨k,hk,h2⟩;refine h ⟨k,hk,?_⟩;unfold inB at h2 ⊢;simp only [Bool.or_eq_true,decide_eq_true_eq] at h2 ⊢
 omega
theorem PN {n:ANd} {all all':Int} (h:BC n all=true) (hle:all<=all'):BC n all'=true:=by
 unfold BC at h ⊢;rw [Bool.and_eq_true,Bool.and_eq_true,Bool.and_eq_true,Bool.and_eq_true,Bool.and_eq_true] at h ⊢;obtain ⟨h1,h2,h3,h4,h5,h6⟩:=h;refine ⟨h1,h2,h3,h4,h5,?_⟩;rw [Bool.not_eq_true',decide_eq_false_iff_not] at h6 ⊢;exact SJ hle h6
theorem O6 {n:ANd} {f:Int->Int} (h:Ej n):Ej (Ao f n):=by
 intro i x hx
 have hx:(n.l.map fun x=>(⟨x.name,f x.at_⟩:AFd))[i]? = some x:=hx
 rw [List.getElem?_map] at hx
 cases hq:n.l[i]? with
 | none=>rw [hq] at hx;cases hx
 | some z =>
  rw [hq] at hx;cases hx
  obtain ⟨h1,h2⟩:=h i z hq;refine ⟨h1,fun h0 y hy=>?_⟩
  have hy:(n.l.map fun x=>(⟨x.name,f x.at_⟩:AFd))[i - 1]? = some y:=hy
  rw [List.getElem?_map] at hy
  cases hq2:n.l[i - 1]? with
  | none=>rw [hq2] at hy;cases hy
  | some z2=>rw [hq2] at hy;cases hy;exact h2 h0 z2 hq2
theorem KS {n:ANd} {f:Int->Int}:kidsL (Ao f n)=(kidsL n).map f:=by
 unfold kidsL;rw [EH]
 cases hp:pB n.kind
 ·cases wB n.kind
  ·rfl
  ·unfold Ao;simp only [cF_,cT,List.map_map];rfl
 ·unfold Ao;simp only [cT,hp,List.map_cons,List.map_nil]
theorem Kr {n:ANd} {all all':Int} {f:Int->Int} (h:BC n all=true) (hf:∀ k,0<=k->k<all->0<=f k/\f k<all'):BC (Ao f n) all'=true:=by
 have hk:=Ju h
 unfold BC at h ⊢;rw [Bool.and_eq_true,Bool.and_eq_true,Bool.and_eq_true,Bool.and_eq_true,Bool.and_eq_true] at h ⊢;obtain ⟨h1,h2,h3,h4,h5,h6⟩:=h;refine ⟨h1,?_,?_,?_,?_,?_⟩
 ·rw [EH]
  cases hp:pB n.kind with
  | true=>rfl
  | false =>
   rw [hp] at h2;unfold Ao;rw [hp];exact h2
 ·rw [EH]
  by_cases h11:n.kind=11
  ·rw [Hp h11];exact h3
  ·rw [dF h11];rfl
 ·unfold Ao;simp only [List.length_map];exact h4
 ·rw [Bool.and_eq_true,decide_eq_true_eq] at h5 ⊢
  exact ⟨O6 h5.1,by unfold Ao;simp only [List.length_map];exact h5.2⟩
 ·rw [Bool.not_eq_true',decide_eq_false_iff_not,KS]
  rintro ⟨k,hk1,hk2⟩;obtain ⟨k0,hk0,rfl⟩:=List.mem_map.1 hk1
  have:=hk k0 hk0
  have:=hf k0 this.1 this.2
  unfold inB at hk2;simp only [Bool.or_eq_true,decide_eq_true_eq] at hk2
  omega
theorem JB {A B:List ANd} (hA:InL A):∀ (k i:Nat),i<A.length->endk A k i=true->endk (A++B) k i=true
 | 0,_,_,h=>by cases h
 | k+1,i,hi,h=>by
  unfold endk at h ⊢;rw [List.getElem?_append_left hi]
  have hx:A[i]? = some A[i]:=List.getElem?_eq_getElem hi
  rw [hx] at h ⊢
  simp only at h ⊢
  cases hl:latB A[i].kind with
  | false=>rfl
  | true =>
   rw [hl] at h
   have hk:=F6 hl
   have h1:=hA _ (List.getElem_mem hi) A[i].a (by rw [hk];simp)
   have h2:=hA _ (List.getElem_mem hi) A[i].b (by rw [hk];simp)
   simp only [Bool.not_true,Bool.false_or,Bool.and_eq_true] at h ⊢;exact ⟨JB hA k _ (by omega) h.1,JB hA k _ (by omega) h.2⟩
theorem IC {A B:List ANd} (hB:InL B):∀ (k i:Nat),i<B.length->endk B k i=true->endk (A++B.map (Ao (· + (A.length:Int)))) k (i+A.length)=true
 | 0,_,_,h=>by cases h
 | k+1,i,hi,h=>by
  unfold endk at h ⊢;rw [List.getElem?_append_right (by omega),Nat.add_sub_cancel,List.getElem?_map]
  have hx:B[i]? = some B[i]:=List.getElem?_eq_getElem hi
  rw [hx] at h ⊢;simp only [Option.map_some,EH] at h ⊢
  cases hl:latB B[i].kind with
  | false=>rfl
  | true =>
   rw [hl] at h
   have hk:=F6 hl
   have h1:=hB _ (List.getElem_mem hi) B[i].a (by rw [hk];simp)
   have h2:=hB _ (List.getElem_mem hi) B[i].b (by rw [hk];simp)
   have hab:=BN (f:=(· + (A.length:Int))) (n:=B[i]) (.inr (Dl hl))
   simp only [Bool.not_true,Bool.false_or,Bool.and_eq_true] at h ⊢;rw [hab.1,hab.2,show (B[i].a+(A.length:Int)).toNat=B[i].a.toNat+A.length by omega,show (B[i].b+(A.length:Int)).toNat=B[i].b.toNat+A.length by omega];exact ⟨IC hB k _ (by omega) h.1,IC hB k _ (by omega) h.2⟩
theorem JM (n:ANd):Ao (fun k=>k) n=n:=by
 unfold Ao;rw [Bool.cond_self,Bool.cond_self]
 have:n.l.map (fun x=>(⟨x.name,x.at_⟩:AFd))=n.l:=by
  conv=>rhs;rw [<- List.map_id n.l]
  rfl
 rw [this]
theorem Sk {a t:ATy} {X:List ANd} (h:t.l=a.l++X):Emb a t (fun k=>k):=⟨fun i hi=>by
 rw [JM]
 have hil:i.toNat<a.l.length:=by have:=hi.1;have:=hi.2;omega
 unfold nd;rw [h,List.getElem?_append_left hil]⟩
theorem R8 {a b t:ATy} {X:List ANd} (h:t.l=a.l++b.l.map (Ao (fun k=>k+(a.l.length:Int)))++X):Emb b t (fun k=>k+(a.l.length:Int)):=⟨fun i hi=>by
 have hil:i.toNat<b.l.length:=by have:=hi.1;have:=hi.2;omega
 have h1:=Gv hi
 have e:(i+(a.l.length:Int)).toNat=a.l.length+i.toNat:=by have:=hi.1;omega
 show (t.l[(i+(a.l.length:Int)).toNat]?).getD ⟨0,0,0,[]⟩=_
 rw [h,e,List.getElem?_append_left (by rw [List.length_append,List.length_map];omega),List.getElem?_append_right (by omega),Nat.add_sub_cancel_left,List.getElem?_map,h1]
 rfl⟩
theorem FM (a b:ATy):(CA a b).l.length=a.l.length+b.l.length:=by unfold CA;rw [List.length_append,List.length_map]
theorem LX {a b:ATy} (ha:OkT a) (hb:OkT b):OkT (CA a b):=by
 refine ⟨fun n hn=>?_,fun i hi=>?_⟩
 ·rw [FM]
  unfold CA at hn
  rcases List.mem_append.1 hn with hn | hn
  ·exact PN (ha.right n hn) (by omega)
  ·obtain ⟨m,hm,rfl⟩:=List.mem_map.1 hn
   exact Kr (hb.right m hm) (fun k h1 h2=>by omega)
 ·rw [FM] at hi
  by_cases h:i<a.l.length
  ·obtain ⟨k,hk⟩:=ha.ends i h
   exact ⟨k,JB (Ba ha.right) k i h hk⟩
  ·obtain ⟨k,hk⟩:=hb.ends (i - a.l.length) (by omega)
   have:=IC (A:=a.l) (Ba hb.right) k (i - a.l.length) (by omega) hk
   rw [Nat.sub_add_cancel (by omega)] at this;exact ⟨k,this⟩
structure MayO (a:ATy):Prop where
 may:mayT a.l a.root=0
 nb:∀ n∈a.l,NB n
theorem MayO.ok {a:ATy} (h:MayO a):OkT a:=⟨(Eu h.may).2.2.2.2.1,(Eu h.may).2.2.2.2.2⟩
theorem MayO.root {a:ATy} (h:MayO a):In a a.root:=⟨(Eu h.may).2.2.1,(Eu h.may).2.2.2.1⟩
theorem Mp {a b:ATy} {i:Int} (h:In a i):In (CA a b) i:=⟨h.1,by rw [FM];have:=h.2;omega⟩
theorem Ri {a b:ATy} {i:Int} (h:In b i):In (CA a b) (i+(a.l.length:Int)):=⟨by have:=h.1;omega,by rw [FM];have:=h.2;omega⟩
theorem OZ (a b:ATy):Emb a (CA a b) (fun k=>k):=Sk (X:=b.l.map (Ao (fun k=>k+(a.l.length:Int)))) rfl
theorem I8 (a b:ATy):Emb b (CA a b) (fun k=>k+(a.l.length:Int)):=R8 (X:=[]) (by rw [List.append_nil];rfl)
theorem F5 (x:Int):cs [x]=[x]:=(Rd (l:=[x]) (m:=[x]) (by simp) (fun _=>Iff.rfl)).symm
section
variable {t:ATy} {r1 r2 j m1 m2:Int} {la lb lc ra rb rc rd:List Int}
end
section
variable {t:ATy} {r1 r2 j m1 m2:Int} {la lb lc ra rb rc rd:List Int}
end
def hdR (t:ATy) (ρ:Pt->Int->Prop):Pt->ANd->Prop
 | .tag _ k,x=>x.kind=k/\k≠8
 | .dom _ q,x=>x.kind=6/\¬ La t (ρ q) (hdR t ρ q) x.a
 | .cod _ q,x=>x.kind=6/\La t (ρ q) (hdR t ρ q) x.b
 | .absent _ s,x=>x.kind=7/\atN x s=none
 | .field _ s q,x=>x.kind=7/\∀ k,atN x s=some k->La t (ρ q) (hdR t ρ q) k
 | .hasc _ s,x=>x.kind=8/\atN x s≠none
 | .case _ s q,x=>x.kind=8/\∃ k,atN x s=some k/\La t (ρ q) (hdR t ρ q) k
def SatR (t:ATy) (ρ:Pt->Int->Prop) (p:Pt) (i:Int):Prop:=La t (ρ p) (hdR t ρ p) i
theorem KR {t:ATy} {ρ:Pt->Int->Prop} {p:Pt} {x:ANd} (h:hdR t ρ p x):x.kind=p.kind:=by
 cases p <;> exact h.1
theorem Sl {t:ATy}:∀ (p:Pt) (x:ANd),hdR t Pt.vars p x↔hdP t p x:=by
 intro p
 induction p with
 | tag S k=>intro x;exact Iff.rfl
 | absent S s=>intro x;exact Iff.rfl
 | hasc S s=>intro x;exact Iff.rfl
 | dom S q ih=>intro x;have e:hdR t Pt.vars q=hdP t q:=funext fun y=>propext (ih y);unfold hdR hdP;rw [e]
 | cod S q ih=>intro x;have e:hdR t Pt.vars q=hdP t q:=funext fun y=>propext (ih y);unfold hdR hdP;rw [e]
 | field S s q ih=>intro x;have e:hdR t Pt.vars q=hdP t q:=funext fun y=>propext (ih y);unfold hdR hdP;rw [e]
 | case S s q ih=>intro x;have e:hdR t Pt.vars q=hdP t q:=funext fun y=>propext (ih y);unfold hdR hdP;rw [e]
theorem JX {t:ATy} (p:Pt) (i:Int):SatR t Pt.vars p i↔Sat t p i:=by
 have e:hdR t Pt.vars p=hdP t p:=funext fun y=>propext (Sl p y)
 unfold SatR Sat;rw [e]
def CER (t:ATy) (ρ:Pt->Int->Prop) (p:Pt) (q:BSq):Prop:=(∀ i∈q.left,SatR t ρ p i)/\∀ i∈q.right,¬ SatR t ρ p i
theorem TQ {t:ATy} {ρ:Pt->Int->Prop} {q s:BSq} {l:List BSq} {p:Pt} (h:openA t q=some l) (hs:s∈l) (hp:CER t ρ p s):CER t ρ p q:=by
 unfold openA at h
 split at h
 ·rename_i n rest hl
  obtain ⟨i,rfl,hk,hpm⟩:=Ch hl
  cases h
  have key:SatR t ρ p i->(∀ j∈rest,SatR t ρ p j)->(∀ j∈q.right,¬ SatR t ρ p j)->CER t ρ p q:=fun h1 h2 h3=>⟨fun j hj=>by rcases List.mem_cons.1 (hpm.mem_iff.1 hj) with rfl | h;exact h1;exact h2 j h,h3⟩
  split at hs
  ·rename_i h10
   simp only [List.mem_singleton] at hs;subst hs
   exact key ((E4 h10).2 ⟨hp.1 _ (mem_cs.2 (by simp)),hp.1 _ (mem_cs.2 (by simp))⟩) (fun j hj=>hp.1 _ (mem_cs.2 (by simp [hj]))) hp.2
  ·rename_i h10
   have h9:(nd t i).kind=9:=(Dl hk).resolve_right h10
   simp only [List.mem_cons,List.not_mem_nil,or_false] at hs
   rcases hs with rfl | rfl
   ·exact key ((Ec h9).2 (.inl (hp.1 _ (mem_cs.2 (by simp))))) (fun j hj=>hp.1 _ (mem_cs.2 (by simp [hj]))) hp.2
   ·exact key ((Ec h9).2 (.inr (hp.1 _ (mem_cs.2 (by simp))))) (fun j hj=>hp.1 _ (mem_cs.2 (by simp [hj]))) hp.2
 ·split at h
  ·rename_i n rest hl
   obtain ⟨i,rfl,hk,hpm⟩:=Ch hl
   cases h
   have key:¬ SatR t ρ p i->(∀ j∈rest,¬ SatR t ρ p j)->(∀ j∈q.left,SatR t ρ p j)->CER t ρ p q:=fun h1 h2 h3=>⟨h3,fun j hj=>by rcases List.mem_cons.1 (hpm.mem_iff.1 hj) with rfl | h;exact h1;exact h2 j h⟩
   split at hs
   ·rename_i h9
    simp only [List.mem_singleton] at hs;subst hs
    exact key (fun h=>((Ec h9).1 h).elim (hp.2 _ (mem_cs.2 (by simp))) (hp.2 _ (mem_cs.2 (by simp)))) (fun j hj=>hp.2 _ (mem_cs.2 (by simp [hj]))) hp.1
   ·rename_i h9
    have h10:(nd t i).kind=10:=(Dl hk).resolve_left h9
    simp only [List.mem_cons,List.not_mem_nil,or_false] at hs
    rcases hs with rfl | rfl
    ·exact key (fun h=>hp.2 _ (mem_cs.2 (by simp)) ((E4 h10).1 h).1) (fun j hj=>hp.2 _ (mem_cs.2 (by simp [hj]))) hp.1
    ·exact key (fun h=>hp.2 _ (mem_cs.2 (by simp)) ((E4 h10).1 h).2) (fun j hj=>hp.2 _ (mem_cs.2 (by simp [hj]))) hp.1
  ·cases h
theorem Qd {t:ATy} {ρ:Pt->Int->Prop} {q:BSq} {l:List BSq} {p:Pt} {w:Int->Nat} (hw:∀ i,In t i->latB (nd t i).kind=true->w (nd t i).a+w (nd t i).b<w i) (hq:InQ t q) (h:openA t q=some l) (hp:CER t ρ p q):∃ s∈l,CER t ρ p s/\wq w s<wq w q:=by
 unfold openA at h
 split at h
 ·rename_i n rest hl
  obtain ⟨i,rfl,hk,hpm⟩:=Ch hl
  cases h
  have hi:i∈q.left:=hpm.mem_iff.2 (by simp)
  have hrest:∀ j∈rest,SatR t ρ p j:=fun j hj=>hp.1 j (hpm.mem_iff.2 (by simp [hj]))
  have hwi:=hw i (hq.1 i hi) hk
  have hwl:wsum w q.left=w i+wsum w rest:=by rw [G0 hpm];rfl
  have h2:∀ m:List Int,(∀ j∈m,SatR t ρ p j)->wsum w m<w i->CER t ρ p ⟨cs (rest++m),q.right⟩/\wq w ⟨cs (rest++m),q.right⟩<wq w q:=by
   intro m hm hwm
   refine ⟨⟨fun j hj=>?_,hp.2⟩,?_⟩
   ·rcases List.mem_append.1 (mem_cs.1 hj) with h | h
    ·exact hrest j h
    ·exact hm j h
   ·have:=KD w (rest++m)
    rw [HK] at this;simp only [wq]
    omega
  split
  ·rename_i h10
   have hs:=(E4 h10).1 (hp.1 i hi)
   have:=h2 [(nd t i).a,(nd t i).b] (fun j hj=>by simp at hj;rcases hj with rfl | rfl;exact hs.1;exact hs.2) (by simp only [wsum];omega)
   exact ⟨_,by simp,this⟩
  ·rename_i h10
   have h9:(nd t i).kind=9:=(Dl hk).resolve_right h10
   rcases (Ec h9).1 (hp.1 i hi) with hs | hs
   ·have:=h2 [(nd t i).a] (fun j hj=>by simp at hj;subst hj;exact hs) (by simp only [wsum];omega)
    exact ⟨_,by simp,this⟩
   ·have:=h2 [(nd t i).b] (fun j hj=>by simp at hj;subst hj;exact hs) (by simp only [wsum];omega)
    exact ⟨⟨cs (rest++[(nd t i).b]),q.right⟩,by simp,this⟩
 ·split at h
  ·rename_i n rest hl
   obtain ⟨i,rfl,hk,hpm⟩:=Ch hl
   cases h
   have hi:i∈q.right:=hpm.mem_iff.2 (by simp)
   have hrest:∀ j∈rest,¬ SatR t ρ p j:=fun j hj=>hp.2 j (hpm.mem_iff.2 (by simp [hj]))
   have hwi:=hw i (hq.2 i hi) hk
   have hwl:wsum w q.right=w i+wsum w rest:=by rw [G0 hpm];rfl
   have h2:∀ m:List Int,(∀ j∈m,¬ SatR t ρ p j)->wsum w m<w i->CER t ρ p ⟨q.left,cs (rest++m)⟩/\wq w ⟨q.left,cs (rest++m)⟩<wq w q:=by
    intro m hm hwm
    refine ⟨⟨hp.1,fun j hj=>?_⟩,?_⟩
    ·rcases List.mem_append.1 (mem_cs.1 hj) with h | h
     ·exact hrest j h
     ·exact hm j h
    ·have:=KD w (rest++m)
     rw [HK] at this;simp only [wq]
     omega
   have hs:=hp.2 i hi
   split
   ·rename_i h9
    have:=h2 [(nd t i).a,(nd t i).b] (fun j hj=>by
     simp at hj
     rcases hj with rfl | rfl
     ·exact fun h=>hs ((Ec h9).2 (.inl h))
     ·exact fun h=>hs ((Ec h9).2 (.inr h))) (by simp only [wsum];omega)
    exact ⟨_,by simp,this⟩
   ·rename_i h9
    have h10:(nd t i).kind=10:=(Dl hk).resolve_left h9
    by_cases ha:SatR t ρ p (nd t i).a
    ·have:=h2 [(nd t i).b] (fun j hj=>by simp at hj;subst hj;exact fun h=>hs ((E4 h10).2 ⟨ha,h⟩)) (by simp only [wsum];omega)
     exact ⟨⟨q.left,cs (rest++[(nd t i).b])⟩,by simp,this⟩
    ·have:=h2 [(nd t i).a] (fun j hj=>by simp at hj;subst hj;exact ha) (by simp only [wsum];omega)
     exact ⟨_,by simp,this⟩
  ·cases h
theorem Rl {t:ATy} {ρ:Pt->Int->Prop} {q:BSq} {p:Pt} {k:Int} (hk:DD t q.left=[k]) (hp:CER t ρ p q):k=p.kind/\(3<=k/\k<=8)/\(∃ i,i∈ofK t q.left k)/\(∀ i∈ofK t q.left k,hdR t ρ p (nd t i))/\∀ i∈ofK t q.right k,¬ hdR t ρ p (nd t i):=by
 obtain ⟨h0,⟨i0,hi0,hk0⟩,h1⟩:=Fe hk
 have hd:∀ i∈ofK t q.left k,hdR t ρ p (nd t i):=fun i hi=>by
  obtain ⟨h2,h3⟩:=mem_ofK.1 hi;exact (Gp (by omega) (by omega)).1 (hp.1 i h2)
 refine ⟨?_,h0,⟨i0,mem_ofK.2 ⟨hi0,hk0⟩⟩,hd,fun i hi hh=>?_⟩
 ·rw [<- KR (hd i0 (mem_ofK.2 ⟨hi0,hk0⟩)),hk0]
 ·obtain ⟨h2,h3⟩:=mem_ofK.1 hi
  exact hp.2 i h2 ((Gp (by omega) (by omega)).2 hh)
theorem OA {t:ATy} {ρ:Pt->Int->Prop} {p:Pt} {l r:List Int} (h0:3<=p.kind/\p.kind<=8) (hne:∃ i,i∈l) (hK:∀ i∈r,(nd t i).kind=p.kind) (hL:∀ i∈l,hdR t ρ p (nd t i)) (hR:∀ i∈r,¬ hdR t ρ p (nd t i)) :
  (BD t p.kind l r).1=true\/∃ s∈(BD t p.kind l r).2,∃ p',CER t ρ p' s/\p'.size<p.size:=by
 by_cases hr:p.kind≠8/\r=[]
 ·left;unfold BD;rw [if_pos hr]
 have hnil:p.kind≠8->r≠[]:=fun h h2=>hr ⟨h,h2⟩
 cases p with
 | tag S k =>
  exfalso
  by_cases h8:k=8
  ·obtain ⟨i,hi⟩:=hne
   exact (hL i hi).2 h8
  ·cases r with
   | nil=>exact hnil h8 rfl
   | cons j m=>exact hR j (by simp) ⟨hK j (by simp),h8⟩
 | dom S p =>
  right
  refine ⟨⟨cs (r.map fun i=>(nd t i).a),cs (l.map fun i=>(nd t i).a)⟩,by unfold BD;rw [if_neg hr];simp [Pt.kind],p,⟨fun x hx=>?_,fun x hx=>?_⟩,by simp [Pt.size]⟩
  ·obtain ⟨i,hi,rfl⟩:=List.mem_map.1 (mem_cs.1 hx)
   exact Classical.byContradiction fun h=>hR i hi ⟨hK i hi,h⟩
  ·obtain ⟨i,hi,rfl⟩:=List.mem_map.1 (mem_cs.1 hx)
   exact (hL i hi).2
 | cod S p =>
  right
  refine ⟨⟨cs (l.map fun i=>(nd t i).b),cs (r.map fun i=>(nd t i).b)⟩,by unfold BD;rw [if_neg hr];simp [Pt.kind],p,⟨fun x hx=>?_,fun x hx=>?_⟩,by simp [Pt.size]⟩
  ·obtain ⟨i,hi,rfl⟩:=List.mem_map.1 (mem_cs.1 hx)
   exact (hL i hi).2
  ·obtain ⟨i,hi,rfl⟩:=List.mem_map.1 (mem_cs.1 hx)
   exact fun h=>hR i hi ⟨hK i hi,h⟩
 | absent S s =>
  left
  have hs:s∈DP t r:=mem_names.2 ⟨hnil (by simp [Pt.kind]),fun i hi h=>hR i hi ⟨hK i hi,h⟩⟩
  unfold BD;rw [if_neg hr,if_neg (by simp [Pt.kind]),if_pos (List.any_eq_true.2 ⟨s,by simp [allA,Pt.kind,hs],Nq (.inl fun i hi=>(hL i hi).2)⟩)]
 | field S s p =>
  have hex:∀ i∈r,∃ k,atN (nd t i) s=some k/\¬ SatR t ρ p k:=fun i hi=>Classical.byContradiction fun h=>hR i hi ⟨hK i hi,fun k hk=>Classical.byContradiction fun h2=>h ⟨k,hk,h2⟩⟩
  have hs:s∈DP t r:=mem_names.2 ⟨hnil (by simp [Pt.kind]),fun i hi h=>by obtain ⟨k,hk,_⟩:=hex i hi;rw [h] at hk;cases hk⟩
  by_cases hb:(allA t (Pt.field S s p).kind l r).any (badA t l r)=true
  ·left;unfold BD;rw [if_neg hr,if_neg (by simp [Pt.kind]),if_pos hb]
  ·right
   refine ⟨⟨cs (AP t l s),cs (AP t r s)⟩,?_,p,⟨fun x hx=>?_,fun x hx=>?_⟩,by simp [Pt.size]⟩
   ·unfold BD;rw [if_neg hr,if_neg (by simp [Pt.kind]),if_neg hb]
    exact List.mem_map.2 ⟨s,by simp [allA,Pt.kind,hs],rfl⟩
   ·obtain ⟨i,hi,hk⟩:=mem_parts.1 (mem_cs.1 hx)
    exact (hL i hi).2 x hk
   ·obtain ⟨i,hi,hk⟩:=mem_parts.1 (mem_cs.1 hx)
    obtain ⟨k,hk2,hk3⟩:=hex i hi;rw [hk] at hk2;cases hk2
    exact hk3
 | hasc S s =>
  left
  obtain ⟨i0,hi0⟩:=hne
  have hs:s∈DP t l:=mem_names.2 ⟨fun e=>(by rw [e] at hi0;cases hi0),fun i hi=>(hL i hi).2⟩
  have hn:∀ i∈r,atN (nd t i) s=none:=fun i hi=>by
   cases hq:atN (nd t i) s with
   | none=>rfl
   | some k=>exact absurd ⟨hK i hi,by rw [hq];simp⟩ (hR i hi)
  unfold BD;rw [if_neg hr,if_neg (by simp [Pt.kind]),if_pos (List.any_eq_true.2 ⟨s,by simp [allA,Pt.kind,hs],Nq (.inr hn)⟩)]
 | case S s p =>
  obtain ⟨i0,hi0⟩:=hne
  have hs:s∈DP t l:=mem_names.2 ⟨fun e=>(by rw [e] at hi0;cases hi0),fun i hi h=>by obtain ⟨k,hk,_⟩:=(hL i hi).2;rw [h] at hk;cases hk⟩
  by_cases hb:(allA t (Pt.case S s p).kind l r).any (badA t l r)=true
  ·left;unfold BD;rw [if_neg hr,if_neg (by simp [Pt.kind]),if_pos hb]
  ·right
   refine ⟨⟨cs (AP t l s),cs (AP t r s)⟩,?_,p,⟨fun x hx=>?_,fun x hx=>?_⟩,by simp [Pt.size]⟩
   ·unfold BD;rw [if_neg hr,if_neg (by simp [Pt.kind]),if_neg hb]
    exact List.mem_map.2 ⟨s,by simp [allA,Pt.kind,hs],rfl⟩
   ·obtain ⟨i,hi,hk⟩:=mem_parts.1 (mem_cs.1 hx)
    obtain ⟨k,hk2,hk3⟩:=(hL i hi).2;rw [hk] at hk2;cases hk2
    exact hk3
   ·obtain ⟨i,hi,hk⟩:=mem_parts.1 (mem_cs.1 hx)
    exact fun h=>hR i hi ⟨hK i hi,x,hk,h⟩
theorem P1 {t:ATy} {ρ:Pt->Int->Prop} {q:BSq} {p:Pt} {w:Int->Nat} (hO:OkT t) (hw:∀ i,In t i->latB (nd t i).kind=true->w (nd t i).a+w (nd t i).b<w i) (hq:InQ t q) (hp:CER t ρ p q) :
  (AW t q).1=true\/∃ s∈(AW t q).2,∃ p',CER t ρ p' s/\(p'.size<p.size\/(p'.size=p.size/\wq w s<wq w q)):=by
 have h1:¬ endA t q=true:=by
  unfold endA;rw [Bool.or_eq_true,List.any_eq_true,List.any_eq_true];rintro (⟨i,hi,h⟩ | ⟨i,hi,h⟩)
  ·exact K3 (of_decide_eq_true h) (hp.1 i hi)
  ·exact hp.2 i hi (SW (of_decide_eq_true h))
 unfold AW;rw [if_neg h1]
 cases h2:openA t q with
 | some l =>
  right
  obtain ⟨s,hs,h3,h4⟩:=Qd hw hq h2 hp;exact ⟨s,hs,p,h3,.inr ⟨rfl,h4⟩⟩
 | none =>
  have h3:¬ FC t q=true:=by
   unfold FC;simp only [List.any_eq_true,Bool.and_eq_true,decide_eq_true_eq];rintro ⟨i,hi,j,hj,⟨h4,h5⟩,h6⟩
   have:=(H8 h4).1 (hp.1 i hi)
   rw [h6] at this;exact hp.2 j hj ((H8 h5).2 this)
  simp only [if_neg h3];unfold D8
  cases hk:DD t q.left with
  | nil=>left;rfl
  | cons k m =>
   cases m with
   | nil =>
    obtain ⟨rfl,h5,h6,h7,h8⟩:=Rl hk hp
    rcases OA h5 h6 (fun i hi=>(mem_ofK.1 hi).2) h7 h8 with h | ⟨s,hs,p',h9,h10⟩
    ·left;exact h
    ·right;exact ⟨s,hs,p',h9,.inl h10⟩
   | cons b m =>
    exfalso
    obtain ⟨i,hi,j,hj,h5,h6,h7⟩:=Mq hk
    have e1:=KR ((Gp h5.1 h5.2).1 (hp.1 i hi))
    have e2:=KR ((Gp h6.1 h6.2).1 (hp.1 j hj))
    exact h7 (e1.trans e2.symm)
def NoV (t:ATy) (q:BSq):Prop:=(∀ i∈q.left,(nd t i).kind≠11)/\∀ i∈q.right,(nd t i).kind≠11
theorem HW {t:ATy} {ρ:Pt->Int->Prop} {q:BSq} {p:Pt} (hO:OkT t) (hq:InQ t q) (hC:BG t q) (hV:NoV t q)
  (hL:∀ i∈q.left,3<=(nd t i).kind->(nd t i).kind<=8->hdR t ρ p (nd t i)) (hR:∀ i∈q.right,3<=(nd t i).kind->(nd t i).kind<=8->¬ hdR t ρ p (nd t i)):CER t ρ p q:=by
 constructor
 ·intro i hi
  have hk:=hO.kind (hq.1 i hi)
  have h2:=hC.bot i hi
  have h3:=ND (hC.latL i hi)
  have h11:=hV.1 i hi
  by_cases h1:(nd t i).kind=1
  ·exact .top h1
  ·exact .head (by omega) (by omega) (hL i hi (by omega) (by omega))
 ·intro i hi hs
  have h1:=hC.top i hi
  have h3:=ND (hC.latR i hi)
  have h11:=hV.2 i hi
  unfold SatR at hs
  cases hs with
  | top h=>exact h1 h
  | inl h _=>exact h3.1 h
  | inr h _=>exact h3.1 h
  | both h _ _=>exact h3.2 h
  | var h h4=>exact h11 h
  | head h4 h5 h6=>exact hR i hi h4 h5 h6
theorem Pq {t:ATy} {ρ:Pt->Int->Prop} {q:BSq} {k:Int} (hO:OkT t) (hq:InQ t q) (hV:NoV t q) (hC:BG t q) (hk:DD t q.left=[k]) (h:(BD t k (ofK t q.left k) (ofK t q.right k)).1=true):∃ p,CER t ρ p q:=by
 obtain ⟨h0,⟨i0,hi0,hk0⟩,h1⟩:=Fe hk;unfold BD at h
 split at h
 ·rename_i hr
  refine ⟨.tag (fun _=>False) k,HW hO hq hC hV (fun i hi h3 h8=>⟨h1 i hi h3 h8,hr.1⟩) (fun i hi h3 h8 hd=>?_)⟩
  have:=mem_ofK.2 ⟨hi,hd.1⟩
  rw [hr.2] at this;cases this
 ·rename_i hr
  split at h
  ·cases h
  ·split at h
   ·rename_i h2
    rw [List.any_eq_true] at h2;obtain ⟨s,hs,hb⟩:=h2;unfold allA at hs
    split at hs
    ·rename_i h7;subst h7
     obtain ⟨hne,hall⟩:=mem_names.1 hs
     rcases Jn hb with hb | hb
     ·refine ⟨.absent (fun _=>False) s,HW hO hq hC hV (fun i hi h3 h8=>⟨h1 i hi h3 h8,hb i (mem_ofK.2 ⟨hi,h1 i hi h3 h8⟩)⟩) (fun i hi h3 h8 hd=>?_)⟩
      exact hall i (mem_ofK.2 ⟨hi,hd.1⟩) hd.2
     ·exfalso
      cases hq':ofK t q.right 7 with
      | nil=>exact hne hq'
      | cons j m=>exact hall j (by rw [hq'];simp) (hb j (by rw [hq'];simp))
    ·split at hs
     ·rename_i h8;subst h8
      obtain ⟨hne,hall⟩:=mem_names.1 hs
      rcases Jn hb with hb | hb
      ·exfalso
       exact hall i0 (mem_ofK.2 ⟨hi0,hk0⟩) (hb i0 (mem_ofK.2 ⟨hi0,hk0⟩))
      ·refine ⟨.hasc (fun _=>False) s,HW hO hq hC hV (fun i hi h3 h8=>⟨h1 i hi h3 h8,hall i (mem_ofK.2 ⟨hi,h1 i hi h3 h8⟩)⟩) (fun i hi h3 h8 hd=>?_)⟩
       exact hd.2 (hb i (mem_ofK.2 ⟨hi,hd.1⟩))
     ·cases hs
   ·cases h
theorem Ro {t:ATy} {ρ:Pt->Int->Prop} {q s:BSq} {k:Int} {p:Pt} (hO:OkT t) (hq:InQ t q) (hV:NoV t q) (hC:BG t q) (hk:DD t q.left=[k]) (hs:s∈(BD t k (ofK t q.left k) (ofK t q.right k)).2) (hp:CER t ρ p s):∃ p,CER t ρ p q:=by
 obtain ⟨h0,⟨i0,hi0,hk0⟩,h1⟩:=Fe hk;unfold BD at hs
 split at hs
 ·cases hs
 ·rename_i hr
  split at hs
  ·rename_i h6;subst h6
   simp only [List.mem_cons,List.not_mem_nil,or_false] at hs
   rcases hs with rfl | rfl
   ·refine ⟨.dom (fun _=>False) p,HW hO hq hC hV (fun i hi h3 h8=>⟨h1 i hi h3 h8,?_⟩) (fun i hi h3 h8 hd=>?_)⟩
    ·exact hp.2 _ (mem_cs.2 (List.mem_map.2 ⟨i,mem_ofK.2 ⟨hi,h1 i hi h3 h8⟩,rfl⟩))
    ·exact hd.2 (hp.1 _ (mem_cs.2 (List.mem_map.2 ⟨i,mem_ofK.2 ⟨hi,hd.1⟩,rfl⟩)))
   ·refine ⟨.cod (fun _=>False) p,HW hO hq hC hV (fun i hi h3 h8=>⟨h1 i hi h3 h8,?_⟩) (fun i hi h3 h8 hd=>?_)⟩
    ·exact hp.1 _ (mem_cs.2 (List.mem_map.2 ⟨i,mem_ofK.2 ⟨hi,h1 i hi h3 h8⟩,rfl⟩))
    ·exact hp.2 _ (mem_cs.2 (List.mem_map.2 ⟨i,mem_ofK.2 ⟨hi,hd.1⟩,rfl⟩)) hd.2
  ·split at hs
   ·cases hs
   ·rename_i hb
    obtain ⟨n,hn,rfl⟩:=List.mem_map.1 hs;unfold allA at hn
    split at hn
    ·rename_i h7;subst h7
     obtain ⟨hne,hall⟩:=mem_names.1 hn;refine ⟨.field (fun _=>False) n p,HW hO hq hC hV (fun i hi h3 h8=>⟨h1 i hi h3 h8,fun k hk=>?_⟩) (fun i hi h3 h8 hd=>?_)⟩
     ·exact hp.1 _ (mem_cs.2 (mem_parts.2 ⟨i,mem_ofK.2 ⟨hi,h1 i hi h3 h8⟩,hk⟩))
     ·have hi2:=mem_ofK.2 ⟨hi,hd.1⟩
      cases hq2:atN (nd t i) n with
      | none=>exact hall i hi2 hq2
      | some k=>exact hp.2 _ (mem_cs.2 (mem_parts.2 ⟨i,hi2,hq2⟩)) (hd.2 k hq2)
    ·split at hn
     ·rename_i h8;subst h8
      obtain ⟨hne,hall⟩:=mem_names.1 hn;refine ⟨.case (fun _=>False) n p,HW hO hq hC hV (fun i hi h3 h8=>⟨h1 i hi h3 h8,?_⟩) (fun i hi h3 h8 hd=>?_)⟩
      ·have hi2:=mem_ofK.2 ⟨hi,h1 i hi h3 h8⟩
       cases hq2:atN (nd t i) n with
       | none=>exact absurd hq2 (hall i hi2)
       | some k=>exact ⟨k,rfl,hp.1 _ (mem_cs.2 (mem_parts.2 ⟨i,hi2,hq2⟩))⟩
      ·obtain ⟨k,hk2,hk3⟩:=hd.2
       exact hp.2 _ (mem_cs.2 (mem_parts.2 ⟨i,mem_ofK.2 ⟨hi,hd.1⟩,hk2⟩)) hk3
     ·cases hn
theorem RJ {t:ATy} {ρ:Pt->Int->Prop} {q:BSq} (hO:OkT t) (hq:InQ t q) (hV:openA t q=none->NoV t q) (h:(AW t q).1=true):∃ p,CER t ρ p q:=by
 unfold AW at h
 split at h
 ·cases h
 ·rename_i h1
  split at h
  ·cases h
  ·rename_i h2
   split at h
   ·cases h
   ·rename_i h3
    have hC:=Is h1 h2 h3
    unfold D8 at h
    split at h
    ·rename_i hk
     exact ⟨.tag (fun _=>False) 0,HW hO hq hC (hV h2) (fun i hi h3 h8=>(MW hk i hi h3 h8).elim) (fun i hi h3 h8 hd=>by have:=hd.1;omega)⟩
    ·rename_i k hk
     exact Pq hO hq (hV h2) hC hk h
    ·cases h
theorem Sj {t:ATy} {ρ:Pt->Int->Prop} {q s:BSq} {p:Pt} (hO:OkT t) (hq:InQ t q) (hV:openA t q=none->NoV t q) (hs:s∈(AW t q).2) (hp:CER t ρ p s):∃ p,CER t ρ p q:=by
 unfold AW at hs
 split at hs
 ·cases hs
 ·rename_i h1
  split at hs
  ·rename_i l h2
   exact ⟨p,TQ h2 hs hp⟩
  ·rename_i h2
   split at hs
   ·cases hs
   ·rename_i h3
    have hC:=Is h1 h2 h3
    unfold D8 at hs
    split at hs
    ·cases hs
    ·rename_i k hk
     exact Ro hO hq (hV h2) hC hk hs hp
    ·cases hs
def nzL (t:ATy) (l:List Int) (k:Int):List Int:=l.filter fun i => !decide ((nd t i).kind=k)
def hasV (t:ATy) (l:List Int):Prop:=∃ i∈l,(nd t i).kind=11
def EC (t:ATy) (l:List Int) (v:Int):Prop:=l≠[]/\∀ i∈l,(nd t i).kind=11/\(nd t i).a=v
def FE (t:ATy) (q:BSq):Prop:=endA t q=true\/openA t q≠none\/FC t q=true
def AbvP (t:ATy) (q:BSq) (v:Int) (r:List Int):Prop:=¬ FE t q/\r=nzL t q.right 2/\EC t (nzL t q.left 1) v/\((∃ w,EC t r w)\/¬ hasV t r)
def BlwP (t:ATy) (q:BSq) (v:Int) (l:List Int):Prop:=¬ FE t q/\l=nzL t q.left 1/\EC t (nzL t q.right 2) v/\((∃ w,EC t l w)\/¬ hasV t l)
def VarP (t:ATy) (q:BSq):Prop:=¬ FE t q/\(hasV t (nzL t q.left 1)\/hasV t (nzL t q.right 2))
def MixP (t:ATy) (q:BSq):Prop:=VarP t q/\(∀ v r,¬ AbvP t q v r)/\∀ v l,¬ BlwP t q v l
inductive Cl (t:ATy) (g:BSq):BSq->Prop
 | goal:Cl t g g
 | lead {q s:BSq}:Cl t g q->¬ VarP t q->s∈(AW t q).2->Cl t g s
 | cut {q q':BSq} {v:Int} {l r:List Int}:Cl t g q->Cl t g q'->BlwP t q v l->AbvP t q' v r->Cl t g ⟨l,r⟩
def GoodP (t:ATy) (q:BSq):Prop:=¬ MixP t q/\(¬ VarP t q->(AW t q).1=false)
def MemA (t:ATy) (g:BSq):Prop:=∀ q,Cl t g q->GoodP t q
structure PolG (t:ATy) (P M G:Int->Prop):Prop where
 gk:Kept t G
 gv:∀ i,G i->(nd t i).kind≠11
 pin:∀ i,P i->In t i
 pk:∀ i,P i->(nd t i).kind≠10
 pj:∀ i,P i->(nd t i).kind=9->P (nd t i).a/\P (nd t i).b
 pa:∀ i,P i->(nd t i).kind=6->M (nd t i).a/\P (nd t i).b
 pf:∀ i,P i->∀ f∈(nd t i).l,P f.at_
 min:∀ i,M i->In t i
 mn:∀ i,M i->(nd t i).kind≠9
 mj:∀ i,M i->(nd t i).kind=10->M (nd t i).a/\M (nd t i).b
 ma:∀ i,M i->(nd t i).kind=6->P (nd t i).a/\M (nd t i).b
 mf:∀ i,M i->∀ f∈(nd t i).l,M f.at_
def Shp (P M G:Int->Prop) (q:BSq):Prop:=
 InAB G G q\/(∃ x,P x/\q.left=[x]/\∀ i∈q.right,G i)\/((∀ i∈q.left,G i)/\∃ x,M x/\q.right=[x])
section
variable {t:ATy} {P M G:Int->Prop}
theorem Shp.inQ (hG:PolG t P M G) {q:BSq} (h:Shp P M G q):InQ t q:=by
 rcases h with ⟨h1,h2⟩ | ⟨x,hx,h1,h2⟩ | ⟨h1,x,hx,h2⟩
 ·exact ⟨fun i hi=>hG.gk.inn i (h1 i hi),fun i hi=>hG.gk.inn i (h2 i hi)⟩
 ·exact ⟨fun i hi=>by rw [h1,List.mem_singleton] at hi;subst hi;exact hG.pin _ hx,fun i hi=>hG.gk.inn i (h2 i hi)⟩
 ·exact ⟨fun i hi=>hG.gk.inn i (h1 i hi),fun i hi=>by rw [h2,List.mem_singleton] at hi;subst hi;exact hG.min _ hx⟩
theorem OT {l rest:List Int} {i x:Int} (h:l.Perm (i::rest)) (hl:l=[x]):i=x/\rest=[]:=by
 subst hl
 have:=List.perm_singleton.1 h.symm
 cases this;exact ⟨rfl,rfl⟩
theorem M5 {x k:Int} (hk:(nd t x).kind=k):ofK t [x] k=[x]:=by unfold ofK;simp [hk]
theorem MU {x:Int} {n:List UInt8} (h:AP t [x] n≠[]):∃ f∈(nd t x).l,AP t [x] n=[f.at_]:=by
 cases hq:atN (nd t x) n with
 | none=>exact absurd (by unfold AP;simp [hq]) h
 | some k =>
  obtain ⟨f,hf,_,rfl⟩:=Ha hq;exact ⟨f,hf,by unfold AP;simp [hq]⟩
theorem TE {l:List Int} {x k:Int} {m:List Int} (hl:l=[x]) (h:DD t l=k::m):(nd t x).kind=k:=by
 subst hl
 have:=(FW (t:=t) (l:=[x]) (k:=k)).1 (by rw [h];simp)
 obtain ⟨_,i,hi,h2⟩:=this;rw [List.mem_singleton] at hi;subst hi;exact h2
theorem Sy {l r:List Int} {n:List UInt8} (h:badA t l r n=false):AP t l n≠[]/\AP t r n≠[]:=by
 unfold badA at h;rw [Bool.or_eq_false_iff] at h
 constructor
 ·intro e;rw [e] at h;cases h.1
 ·intro e;rw [e] at h;cases h.2
theorem S6 (hG:PolG t P M G) {q s:BSq} (h:Shp P M G q) (hs:s∈(AW t q).2):Shp P M G s:=by
 rcases h with h | ⟨x,hx,h1,h2⟩ | ⟨h1,x,hx,h2⟩
 ·exact .inl ((NC hG.gk hG.gk h hs).elim id id)
 ·unfold AW at hs
  split at hs
  ·cases hs
  ·split at hs
   ·rename_i l ho
    unfold openA at ho
    split at ho
    ·rename_i n rest hl
     obtain ⟨i,rfl,hk,hpm⟩:=Ch hl;obtain ⟨rfl,rfl⟩:=OT hpm h1
     have h9:(nd t i).kind=9:=(Dl hk).resolve_right (hG.pk i hx)
     cases ho
     rw [if_neg (by omega)] at hs
     have hj:=hG.pj i hx h9
     simp only [List.mem_cons,List.not_mem_nil,or_false] at hs
     rcases hs with rfl | rfl
     ·exact .inr (.inl ⟨_,hj.1,by simp [F5],h2⟩)
     ·exact .inr (.inl ⟨_,hj.2,by simp [F5],h2⟩)
    ·split at ho
     ·rename_i n rest hl
      obtain ⟨i,rfl,hk,hpm⟩:=Ch hl
      have hi:G i:=h2 i (hpm.mem_iff.2 (by simp))
      have hp:=hG.gk.pair i hi (.inr (Dl hk))
      have hrest:∀ j∈rest,G j:=fun j hj=>h2 j (hpm.mem_iff.2 (by simp [hj]))
      have key:∀ m:List Int,(∀ j∈m,G j)->∀ j∈cs (rest++m),G j:=fun m hm j hj=>by
       rcases List.mem_append.1 (mem_cs.1 hj) with h | h
       ·exact hrest j h
       ·exact hm j h
      cases ho
      split at hs
      ·simp only [List.mem_singleton] at hs;subst hs
       exact .inr (.inl ⟨x,hx,h1,key _ (fun j hj=>by simp at hj;rcases hj with rfl | rfl;exact hp.1;exact hp.2)⟩)
      ·simp only [List.mem_cons,List.not_mem_nil,or_false] at hs
       rcases hs with rfl | rfl
       ·exact .inr (.inl ⟨x,hx,h1,key _ (fun j hj=>by simp at hj;subst hj;exact hp.1)⟩)
       ·exact .inr (.inl ⟨x,hx,h1,key _ (fun j hj=>by simp at hj;subst hj;exact hp.2)⟩)
     ·cases ho
   ·split at hs
    ·cases hs
    ·unfold D8 at hs
     split at hs
     ·cases hs
     ·rename_i k hk
      have hxk:=TE h1 hk
      rw [h1,M5 hxk] at hs
      have hR:∀ i∈ofK t q.right k,G i:=fun i hi=>h2 i (mem_ofK.1 hi).1
      unfold BD at hs
      split at hs
      ·cases hs
      ·split at hs
       ·rename_i h6;subst h6
        have hpa:=hG.pa x hx hxk
        simp only [List.mem_cons,List.not_mem_nil,or_false] at hs
        rcases hs with rfl | rfl
        ·refine .inr (.inr ⟨fun i hi=>?_,_,hpa.1,by simp [F5]⟩)
         obtain ⟨j,hj,rfl⟩:=List.mem_map.1 (mem_cs.1 hi);exact (hG.gk.pair j (hR j hj) (.inl (mem_ofK.1 hj).2)).1
        ·refine .inr (.inl ⟨_,hpa.2,by simp [F5],fun i hi=>?_⟩)
         obtain ⟨j,hj,rfl⟩:=List.mem_map.1 (mem_cs.1 hi);exact (hG.gk.pair j (hR j hj) (.inl (mem_ofK.1 hj).2)).2
       ·split at hs
        ·cases hs
        ·rename_i hb
         obtain ⟨n,hn,rfl⟩:=List.mem_map.1 hs
         have hbn:badA t [x] (ofK t q.right k) n=false:=by
          cases hq:badA t [x] (ofK t q.right k) n with
          | false=>rfl
          | true=>exact absurd (List.any_eq_true.2 ⟨n,hn,hq⟩) hb
         obtain ⟨f,hf,e⟩:=MU (Sy hbn).1;exact .inr (.inl ⟨_,hG.pf x hx f hf,by rw [e,F5],hG.gk.parts hR n⟩)
     ·cases hs
 ·unfold AW at hs
  split at hs
  ·cases hs
  ·split at hs
   ·rename_i l ho
    unfold openA at ho
    split at ho
    ·rename_i n rest hl
     obtain ⟨i,rfl,hk,hpm⟩:=Ch hl
     have hi:G i:=h1 i (hpm.mem_iff.2 (by simp))
     have hp:=hG.gk.pair i hi (.inr (Dl hk))
     have hrest:∀ j∈rest,G j:=fun j hj=>h1 j (hpm.mem_iff.2 (by simp [hj]))
     have key:∀ m:List Int,(∀ j∈m,G j)->∀ j∈cs (rest++m),G j:=fun m hm j hj=>by
      rcases List.mem_append.1 (mem_cs.1 hj) with h | h
      ·exact hrest j h
      ·exact hm j h
     cases ho
     split at hs
     ·simp only [List.mem_singleton] at hs;subst hs
      exact .inr (.inr ⟨key _ (fun j hj=>by simp at hj;rcases hj with rfl | rfl;exact hp.1;exact hp.2),x,hx,h2⟩)
     ·simp only [List.mem_cons,List.not_mem_nil,or_false] at hs
      rcases hs with rfl | rfl
      ·exact .inr (.inr ⟨key _ (fun j hj=>by simp at hj;subst hj;exact hp.1),x,hx,h2⟩)
      ·exact .inr (.inr ⟨key _ (fun j hj=>by simp at hj;subst hj;exact hp.2),x,hx,h2⟩)
    ·split at ho
     ·rename_i n rest hl
      obtain ⟨i,rfl,hk,hpm⟩:=Ch hl;obtain ⟨rfl,rfl⟩:=OT hpm h2
      have h10:(nd t i).kind=10:=(Dl hk).resolve_left (hG.mn i hx)
      cases ho
      rw [if_neg (by omega)] at hs
      have hj:=hG.mj i hx h10
      simp only [List.mem_cons,List.not_mem_nil,or_false] at hs
      rcases hs with rfl | rfl
      ·exact .inr (.inr ⟨h1,_,hj.1,by simp [F5]⟩)
      ·exact .inr (.inr ⟨h1,_,hj.2,by simp [F5]⟩)
     ·cases ho
   ·split at hs
    ·cases hs
    ·unfold D8 at hs
     split at hs
     ·cases hs
     ·rename_i k hk
      have hL:∀ i∈ofK t q.left k,G i:=fun i hi=>h1 i (mem_ofK.1 hi).1
      unfold BD at hs
      split at hs
      ·cases hs
      ·rename_i hr
       split at hs
       ·rename_i h6;subst h6
        have hxk:(nd t x).kind=6:=Classical.byContradiction fun h=>hr ⟨by omega,by rw [h2];unfold ofK;simp [h]⟩
        have hma:=hG.ma x hx hxk
        rw [h2,M5 hxk] at hs;simp only [List.mem_cons,List.not_mem_nil,or_false] at hs
        rcases hs with rfl | rfl
        ·refine .inr (.inl ⟨_,hma.1,by simp [F5],fun i hi=>?_⟩)
         obtain ⟨j,hj,rfl⟩:=List.mem_map.1 (mem_cs.1 hi);exact (hG.gk.pair j (hL j hj) (.inl (mem_ofK.1 hj).2)).1
        ·refine .inr (.inr ⟨fun i hi=>?_,_,hma.2,by simp [F5]⟩)
         obtain ⟨j,hj,rfl⟩:=List.mem_map.1 (mem_cs.1 hi);exact (hG.gk.pair j (hL j hj) (.inl (mem_ofK.1 hj).2)).2
       ·split at hs
        ·cases hs
        ·rename_i hb
         obtain ⟨n,hn,rfl⟩:=List.mem_map.1 hs
         have hbn:badA t (ofK t q.left k) (ofK t q.right k) n=false:=by
          cases hq:badA t (ofK t q.left k) (ofK t q.right k) n with
          | false=>rfl
          | true=>exact absurd (List.any_eq_true.2 ⟨n,hn,hq⟩) hb
         have hne:=(Sy hbn).2
         have hxk:(nd t x).kind=k:=Classical.byContradiction fun h=>hne (by rw [h2];unfold ofK AP;simp [h])
         rw [h2,M5 hxk] at hne ⊢;obtain ⟨f,hf,e⟩:=MU hne;exact .inr (.inr ⟨hG.gk.parts hL n,_,hG.mf x hx f hf,by rw [e,F5]⟩)
     ·cases hs
end
section
variable {t:ATy} {P M G:Int->Prop} {g:BSq}
theorem mem_nz {l:List Int} {k i:Int}:i∈nzL t l k↔i∈l/\(nd t i).kind≠k:=by
 unfold nzL;rw [List.mem_filter];simp
theorem QH (hG:PolG t P M G) {q q':BSq} {v:Int} {l r:List Int} (hq:Shp P M G q) (hq':Shp P M G q') (hb:BlwP t q v l) (ha:AbvP t q' v r):InAB G G ⟨l,r⟩:=by
 obtain ⟨_,rfl,hal,_⟩:=hb;obtain ⟨_,rfl,hal',_⟩:=ha
 have e1:∀ {l:List Int} {k w:Int},EC t (nzL t l k) w->∃ i∈l,(nd t i).kind=11:=fun {l k w} h=>by
  obtain ⟨h1,h2⟩:=h
  cases hq:nzL t l k with
  | nil=>exact absurd hq h1
  | cons i m=>exact ⟨i,(mem_nz.1 (by rw [hq];simp)).1,(h2 i (by rw [hq];simp)).1⟩
 constructor
 ·intro i hi
  have hi:=(mem_nz.1 hi).1
  obtain ⟨j,hj,hk⟩:=e1 hal
  rcases hq with ⟨h1,h2⟩ | ⟨x,hx,h1,h2⟩ | ⟨h1,x,hx,h2⟩
  ·exact h1 i hi
  ·exact absurd hk (hG.gv j (h2 j hj))
  ·exact h1 i hi
 ·intro i hi
  have hi:=(mem_nz.1 hi).1
  obtain ⟨j,hj,hk⟩:=e1 hal'
  rcases hq' with ⟨h1,h2⟩ | ⟨x,hx,h1,h2⟩ | ⟨h1,x,hx,h2⟩
  ·exact h2 i hi
  ·exact h2 i hi
  ·exact absurd hk (hG.gv j (h1 j hj))
theorem Cl.shp (hG:PolG t P M G) (hg:Shp P M G g) {q:BSq} (h:Cl t g q):Shp P M G q:=by
 induction h with
 | goal=>exact hg
 | lead _ _ hs ih=>exact S6 hG ih hs
 | cut _ _ hb ha ih ih'=>exact .inl (QH hG ih ih' hb ha)
theorem Q3 (hG:PolG t P M G) {q:BSq} (h:Shp P M G q) (hv:VarP t q) :
  (∃ x,q.left=[x]/\(nd t x).kind=11/\(∀ i∈q.right,G i)/\AbvP t q (nd t x).a (nzL t q.right 2))\/(∃ x,q.right=[x]/\(nd t x).kind=11/\(∀ i∈q.left,G i)/\BlwP t q (nd t x).a (nzL t q.left 1)):=by
 obtain ⟨he,hv⟩:=hv
 have nG:∀ {l:List Int} {k:Int},(∀ i∈l,G i)->¬ hasV t (nzL t l k):=fun hl ⟨i,hi,hk⟩=>hG.gv i (hl i (mem_nz.1 hi).1) hk
 have one:∀ {x k:Int},(nd t x).kind=11->k≠11->nzL t [x] k=[x]:=fun {x k} hx hk=>by unfold nzL;simp [hx];omega
 rcases h with ⟨h1,h2⟩ | ⟨x,hx,h1,h2⟩ | ⟨h1,x,hx,h2⟩
 ·exact (hv.elim (nG h1) (nG h2)).elim
 ·left
  have hk:(nd t x).kind=11:=by
   rcases hv with ⟨i,hi,hk⟩ | hv
   ·have:=(mem_nz.1 hi).1
    rw [h1,List.mem_singleton] at this;subst this;exact hk
   ·exact (nG h2 hv).elim
  exact ⟨x,h1,hk,h2,he,rfl,⟨by rw [h1,one hk (by omega)];simp,fun i hi=>by rw [h1,one hk (by omega),List.mem_singleton] at hi;subst hi;exact ⟨hk,rfl⟩⟩,.inr (nG h2)⟩
 ·right
  have hk:(nd t x).kind=11:=by
   rcases hv with hv | ⟨i,hi,hk⟩
   ·exact (nG h1 hv).elim
   ·have:=(mem_nz.1 hi).1
    rw [h2,List.mem_singleton] at this;subst this;exact hk
  exact ⟨x,h2,hk,h1,he,rfl,⟨by rw [h2,one hk (by omega)];simp,fun i hi=>by rw [h2,one hk (by omega),List.mem_singleton] at hi;subst hi;exact ⟨hk,rfl⟩⟩,.inr (nG h1)⟩
theorem VT (hG:PolG t P M G) {q:BSq} (h:Shp P M G q):¬ MixP t q:=fun ⟨hv,h1,h2⟩=>by
 rcases Q3 hG h hv with ⟨x,_,_,_,h3⟩ | ⟨x,_,_,_,h3⟩
 ·exact h1 _ _ h3
 ·exact h2 _ _ h3
theorem Mf (hG:PolG t P M G) {S S':Int->Prop} {D D':ANd->Prop} (hD:∀ i,G i->3<=(nd t i).kind->(nd t i).kind<=8->(D (nd t i)↔D' (nd t i))):∀ i,G i->(La t S D i->La t S' D' i):=by
 intro i hi h
 induction h with
 | top h=>exact .top h
 | inl h _ ih=>exact .inl h (ih (hG.gk.pair _ hi (.inr (.inl h))).1)
 | inr h _ ih=>exact .inr h (ih (hG.gk.pair _ hi (.inr (.inl h))).2)
 | both h _ _ ih1 ih2=>exact .both h (ih1 (hG.gk.pair _ hi (.inr (.inr h))).1) (ih2 (hG.gk.pair _ hi (.inr (.inr h))).2)
 | var h _=>exact absurd h (hG.gv _ hi)
 | head h1 h2 h3=>exact .head h1 h2 ((hD _ hi h1 h2).1 h3)
theorem IQ (hG:PolG t P M G) {ρ ρ':Pt->Int->Prop}:∀ (p:Pt) (i:Int),G i->(SatR t ρ p i↔SatR t ρ' p i):=by
 have key:∀ (p:Pt),(∀ x i,G i->x=nd t i->3<=(nd t i).kind->(hdR t ρ p x↔hdR t ρ' p x))->∀ i,G i->(SatR t ρ p i↔SatR t ρ' p i):=fun p h i hi =>
  ⟨Mf hG (fun i hi h3 _=>h _ i hi rfl h3) i hi,Mf hG (fun i hi h3 _=>(h _ i hi rfl h3).symm) i hi⟩
 have hd:∀ (p:Pt) x i,G i->x=nd t i->3<=(nd t i).kind->(hdR t ρ p x↔hdR t ρ' p x):=by
  intro p
  induction p with
  | tag S k=>intros;exact Iff.rfl
  | absent S s=>intros;exact Iff.rfl
  | hasc S s=>intros;exact Iff.rfl
  | dom S q ih =>
   rintro x i hi rfl _;exact and_congr_right fun h6=>not_congr (key q ih _ (hG.gk.pair i hi (.inl h6)).1)
  | cod S q ih =>
   rintro x i hi rfl _;exact and_congr_right fun h6=>key q ih _ (hG.gk.pair i hi (.inl h6)).2
  | field S s q ih =>
   rintro x i hi rfl _;refine and_congr_right fun h7=>forall_congr' fun k=>imp_congr_right fun hk=>?_;obtain ⟨f,hf,_,rfl⟩:=Ha hk;exact key q ih _ (hG.gk.fld i hi f hf)
  | case S s q ih =>
   rintro x i hi rfl _;refine and_congr_right fun h8=>exists_congr fun k=>and_congr_right fun hk=>?_;obtain ⟨f,hf,_,rfl⟩:=Ha hk;exact key q ih _ (hG.gk.fld i hi f hf)
 exact fun p i hi=>key p (hd p) i hi
def rhoC (t:ATy) (g:BSq) (p:Pt) (v:Int):Prop:=∃ q l,Cl t g q/\BlwP t q v l/\∀ i∈l,Sat t p i
theorem RZ (hG:PolG t P M G) {q s:BSq} (h:Cl t g q) (hq:InAB G G q) (hr:Rch t q s):Cl t g s/\InAB G G s:=by
 induction hr with
 | refl=>exact ⟨h,hq⟩
 | step _ h2 ih =>
  refine ⟨.lead ih.1 (fun hv=>?_) h2,(NC hG.gk hG.gk ih.2 h2).elim id id⟩
  rcases hv.2 with ⟨i,hi,hk⟩ | ⟨i,hi,hk⟩
  ·exact hG.gv i (ih.2.1 i (mem_nz.1 hi).1) hk
  ·exact hG.gv i (ih.2.2 i (mem_nz.1 hi).1) hk
theorem Me (hG:PolG t P M G) {q:BSq} (hq:InAB G G q):¬ VarP t q:=fun hv=>by
 rcases hv.2 with ⟨i,hi,hk⟩ | ⟨i,hi,hk⟩
 ·exact hG.gv i (hq.1 i (mem_nz.1 hi).1) hk
 ·exact hG.gv i (hq.2 i (mem_nz.1 hi).1) hk
theorem NG (hO:OkT t) (hG:PolG t P M G) (hm:MemA t g) {q:BSq} (h:Cl t g q) (hq:InAB G G q):Valid t q:=
 (RT hO ⟨fun i hi=>hG.gk.inn i (hq.1 i hi),fun i hi=>hG.gk.inn i (hq.2 i hi)⟩).1 fun s hs=>by
  obtain ⟨h1,h2⟩:=RZ hG h hq hs;exact (hm s h1).2 (Me hG h2)
theorem Jb (hO:OkT t) (hG:PolG t P M G) (hg:Shp P M G g) (hm:MemA t g) {w:Int->Nat} (hw:∀ i,In t i->latB (nd t i).kind=true->w (nd t i).a+w (nd t i).b<w i) {q:BSq} {p:Pt} (hq:Cl t g q) (hp:CER t (rhoC t g) p q)
  (ih:∀ s p',(p'.size<p.size\/(p'.size=p.size/\wq w s<wq w q))->Cl t g s->¬ CER t (rhoC t g) p' s):False:=by
 have hs:=hq.shp hG hg
 by_cases hv:VarP t q
 ·rcases Q3 hG hs hv with ⟨x,h1,hx,hR,ha⟩ | ⟨x,h1,hx,hL,hb⟩
  ·have hx2:SatR t (rhoC t g) p x:=hp.1 x (by rw [h1];simp)
   obtain ⟨q',l,hq',hb',hl⟩:=(H8 hx).1 hx2
   have hgr:=QH hG (hq'.shp hG hg) hs hb' ha
   refine NG hO hG hm (.cut hq' hq hb' ha) hgr p ⟨hl,fun i hi hsat=>hp.2 i (mem_nz.1 hi).1 ?_⟩;exact (IQ hG p i (hR i (mem_nz.1 hi).1)).2 ((JX p i).2 hsat)
  ·refine hp.2 x (by rw [h1];simp) ((H8 hx).2 ⟨q,_,hq,hb,fun i hi=>?_⟩)
   have hi:=(mem_nz.1 hi).1
   exact (JX p i).1 ((IQ hG p i (hL i hi)).1 (hp.1 i hi))
 ·rcases P1 hO hw (hs.inQ hG) hp with h | ⟨s,h1,p',h2,h3⟩
  ·have:=(hm q hq).2 hv
   rw [h] at this;cases this
  ·exact ih s p' h3 (.lead hq hv h1) h2
theorem RS (hO:OkT t) (hG:PolG t P M G) (hg:Shp P M G g) (hm:MemA t g):∀ q,Cl t g q->∀ p,¬ CER t (rhoC t g) p q:=by
 obtain ⟨w,hw⟩:=hO.weight
 have key:∀ (n m:Nat) (q:BSq) (p:Pt),p.size<=n->wq w q<=m->Cl t g q->¬ CER t (rhoC t g) p q:=by
  intro n
  induction n with
  | zero =>
   intro m
   induction m with
   | zero=>intro q p h1 h2 hq hp;exact Jb hO hG hg hm hw hq hp fun s p' h _=>by omega
   | succ m ih=>intro q p h1 h2 hq hp;exact Jb hO hG hg hm hw hq hp fun s p' h hs=>ih s p' (by omega) (by omega) hs
  | succ n ihn =>
   intro m
   induction m with
   | zero=>intro q p h1 h2 hq hp;exact Jb hO hG hg hm hw hq hp fun s p' h hs=>ihn (wq w s) s p' (by omega) (Nat.le_refl _) hs
   | succ m ih =>
    intro q p h1 h2 hq hp
    refine Jb hO hG hg hm hw hq hp fun s p' h hs=>?_
    by_cases h5:p'.size<=n
    ·exact ihn (wq w s) s p' h5 (Nat.le_refl _) hs
    ·exact ih s p' (by omega) (by omega) hs
 exact fun q hq p=>key _ _ q p (Nat.le_refl _) (Nat.le_refl _) hq
theorem Ty {q s:BSq} (h:FE t q) (hs:s∈(AW t q).2):openA t q≠none:=by
 rcases h with h | h | h
 ·unfold AW at hs
  rw [if_pos h] at hs;cases hs
 ·exact h
 ·intro ho
  unfold AW at hs
  split at hs
  ·cases hs
  ·rw [ho] at hs
   simp only [if_pos h] at hs
   cases hs
theorem SK {q:BSq} (h:FE t q):(AW t q).1=false:=by
 unfold AW
 by_cases h1:endA t q=true
 ·rw [if_pos h1]
 ·rw [if_neg h1]
  rcases h with h | h | h
  ·exact absurd h h1
  ·cases ho:openA t q with
   | none=>exact absurd ho h
   | some l=>rfl
  ·cases ho:openA t q with
   | some l=>rfl
   | none=>simp only [if_pos h]
theorem NO {q:BSq} (he:¬ FE t q) (hv:¬ VarP t q):NoV t q:=by
 refine ⟨fun i hi hk=>hv ⟨he,.inl ⟨i,mem_nz.2 ⟨hi,by omega⟩,hk⟩⟩,fun i hi hk=>hv ⟨he,.inr ⟨i,mem_nz.2 ⟨hi,by omega⟩,hk⟩⟩⟩
theorem RV (hO:OkT t) (hG:PolG t P M G) (hg:Shp P M G g) {ρ:Pt->Int->Prop} (hv:∀ p,¬ CER t ρ p g) {q:BSq} (hq:Cl t g q):∀ p,¬ CER t ρ p q:=by
 induction hq with
 | goal=>exact hv
 | @lead q s hq hnv hs ih =>
  intro p hp
  have hQ:=(hq.shp hG hg).inQ hG
  have hV:openA t q=none->NoV t q:=fun ho=>by
   by_cases he:FE t q
   ·exact absurd ho (Ty he hs)
   ·exact NO he hnv
  obtain ⟨p',hp'⟩:=Sj hO hQ hV hs hp;exact ih p' hp'
 | @cut q q' v l r hq hq' hb ha ih ih' =>
  intro p hp
  obtain ⟨_,rfl,⟨hne,hal⟩,_⟩:=hb;obtain ⟨_,rfl,⟨hne',hal'⟩,_⟩:=ha
  by_cases hρ:ρ p v
  ·refine ih' p ⟨fun i hi=>?_,fun i hi hs=>?_⟩
   ·by_cases h1:(nd t i).kind=1
    ·exact .top h1
    ·obtain ⟨h2,h3⟩:=hal' i (mem_nz.2 ⟨hi,h1⟩)
     exact (H8 h2).2 (by rw [h3];exact hρ)
   ·by_cases h1:(nd t i).kind=2
    ·exact K3 h1 hs
    ·exact hp.2 i (mem_nz.2 ⟨hi,h1⟩) hs
  ·refine ih p ⟨fun i hi=>?_,fun i hi hs=>?_⟩
   ·by_cases h1:(nd t i).kind=1
    ·exact .top h1
    ·exact hp.1 i (mem_nz.2 ⟨hi,h1⟩)
   ·by_cases h1:(nd t i).kind=2
    ·exact K3 h1 hs
    ·obtain ⟨h2,h3⟩:=hal i (mem_nz.2 ⟨hi,h1⟩)
     exact hρ (by have:=(H8 h2).1 hs;rw [h3] at this;exact this)
theorem Rv (hO:OkT t) (hG:PolG t P M G) (hg:Shp P M G g) {ρ:Pt->Int->Prop} (hv:∀ p,¬ CER t ρ p g):MemA t g:=fun q hq=>by
 have hs:=hq.shp hG hg
 refine ⟨VT hG hs,fun hnv=>?_⟩
 by_cases he:FE t q
 ·exact SK he
 ·cases h1:(AW t q).1 with
  | false=>rfl
  | true =>
   obtain ⟨p,hp⟩:=RJ (ρ:=ρ) hO (hs.inQ hG) (fun _=>NO he hnv) h1;exact absurd hp (RV hO hG hg hv hq p)
theorem mem_iff (hO:OkT t) (hG:PolG t P M G) (hg:Shp P M G g):MemA t g↔∃ ρ,∀ p,¬ CER t ρ p g:=
 ⟨fun h=>⟨rhoC t g,RS hO hG hg h g .goal⟩,fun ⟨_,h⟩=>Rv hO hG hg h⟩
end
def edF (l:List AutoEdge):List AFd:=l.map fun e=>⟨e.name,e.to_⟩
def evK (p:Bool):Int:=bif p then 1 else 2
def noK (p:Bool):Int:=bif p then 2 else 1
def joK (p:Bool):Int:=bif p then 9 else 10
def AC (s:AutoState):List ANd:=
 (if s.all then [⟨evK s.plus,0,0,[]⟩] else [])++(if s.int then [⟨3,0,0,[]⟩] else [])++(if s.bool then [⟨4,0,0,[]⟩] else [])++(if s.str then [⟨5,0,0,[]⟩] else [])++s.vars.map (fun v=>⟨11,v,0,[]⟩) ++
 (if s.arrow then [⟨6,s.dom,s.cod,[]⟩] else [])++(if s.rec_ then [⟨7,0,0,edF s.fields⟩] else [])++(if s.tag then [⟨8,0,0,edF s.tags⟩] else [])
def nodeS (S:Int->Prop) (D:ANd->Prop) (n:ANd):Prop:=n.kind=1\/(n.kind=11/\S n.a)\/(3<=n.kind/\n.kind<=8/\D n)
def someS (p:Bool) (S:Int->Prop) (D:ANd->Prop) (l:List ANd):Prop:=if p then ∃ n∈l,nodeS S D n else ∀ n∈l,nodeS S D n
def stL (a:List AutoState) (i:Int):AutoState:=(a[i.toNat]?).getD ⟨true,false,false,false,false,false,false,false,[],0,0,[],[]⟩
def stS (a:List AutoState) (S:Int->Prop) (D:ANd->Prop) (i:Int):Prop:=someS (stL a i).plus S D (AC (stL a i))
def hdS (a:List AutoState) (ρ:Pt->Int->Prop):Pt->ANd->Prop
 | .tag _ k,x=>x.kind=k/\k≠8
 | .dom _ q,x=>x.kind=6/\¬ stS a (ρ q) (hdS a ρ q) x.a
 | .cod _ q,x=>x.kind=6/\stS a (ρ q) (hdS a ρ q) x.b
 | .absent _ s,x=>x.kind=7/\atN x s=none
 | .field _ s q,x=>x.kind=7/\∀ k,atN x s=some k->stS a (ρ q) (hdS a ρ q) k
 | .hasc _ s,x=>x.kind=8/\atN x s≠none
 | .case _ s q,x=>x.kind=8/\∃ k,atN x s=some k/\stS a (ρ q) (hdS a ρ q) k
def SatS (a:List AutoState) (ρ:Pt->Int->Prop) (p:Pt) (i:Int):Prop:=stS a (ρ p) (hdS a ρ p) i
inductive Rep (w:ATy) (k no:Int):List ANd->Int->Prop
 | none {i:Int}:In w i->(nd w i).kind=no->Rep w k no [] i
 | one {i:Int}:In w i->(nd w i).kind≠9->(nd w i).kind≠10->Rep w k no [nd w i] i
 | join {i:Int} {l m:List ANd}:In w i->(nd w i).kind=k->Rep w k no l (nd w i).a->Rep w k no m (nd w i).b->Rep w k no (l++m) i
theorem Rep.inn {w:ATy} {k no:Int} {l:List ANd} {i:Int} (h:Rep w k no l i):In w i:=by cases h <;> assumption
theorem QQ {w:ATy} {S:Int->Prop} {D:ANd->Prop} {i:Int} (hO:OkT w) (hi:In w i) (h9:(nd w i).kind≠9) (h10:(nd w i).kind≠10):La w S D i↔nodeS S D (nd w i):=by
 have hk:=hO.kind hi
 constructor
 ·intro h
  cases h with
  | top h=>exact .inl h
  | inl h _=>exact absurd h h9
  | inr h _=>exact absurd h h9
  | both h _ _=>exact absurd h h10
  | var h h2=>exact .inr (.inl ⟨h,h2⟩)
  | head h1 h2 h3=>exact .inr (.inr ⟨h1,h2,h3⟩)
 ·rintro (h | ⟨h,h2⟩ | ⟨h1,h2,h3⟩)
  ·exact .top h
  ·exact .var h h2
  ·exact .head h1 h2 h3
theorem VL {w:ATy} {S:Int->Prop} {D:ANd->Prop} (hO:OkT w) {p:Bool} {l:List ANd} {i:Int} (h:Rep w (joK p) (noK p) l i):La w S D i↔someS p S D l:=by
 cases p with
 | true =>
  show La w S D i↔∃ n∈l,nodeS S D n
  generalize e1:joK true=k at h
  generalize e2:noK true=no at h
  induction h with
  | none _ h=>subst e2;exact ⟨fun h2=>absurd h2 (K3 h),fun ⟨_,h2,_⟩=>(by cases h2)⟩
  | one hi h9 h10=>rw [QQ hO hi h9 h10];simp
  | join _ h _ _ ih1 ih2 =>
   subst e1;rw [Ec h,ih1,ih2];simp only [List.mem_append];exact ⟨fun h=>h.elim (fun ⟨n,a,b⟩=>⟨n,.inl a,b⟩) (fun ⟨n,a,b⟩=>⟨n,.inr a,b⟩),fun ⟨n,a,b⟩=>a.elim (fun a => .inl ⟨n,a,b⟩) (fun a => .inr ⟨n,a,b⟩)⟩
 | false =>
  show La w S D i↔∀ n∈l,nodeS S D n
  generalize e1:joK false=k at h
  generalize e2:noK false=no at h
  induction h with
  | none _ h=>subst e2;exact ⟨fun _ _ h2=>(by cases h2),fun _ => .top h⟩
  | one hi h9 h10=>rw [QQ hO hi h9 h10];simp
  | join _ h _ _ ih1 ih2 =>
   subst e1;rw [E4 h,ih1,ih2];simp only [List.mem_append];exact ⟨fun h n hn=>hn.elim (h.1 n) (h.2 n),fun h=>⟨fun n hn=>h n (.inl hn),fun n hn=>h n (.inr hn)⟩⟩
structure RepA (w:ATy) (a:List AutoState) (at_:Int->Int):Prop where
 ok:OkT w
 rep:∀ i:Int,0<=i->i<(a.length:Int)->∃ l,Rep w (joK (stL a i).plus) (noK (stL a i).plus) l (at_ i)/\∀ n,n∈l↔n∈(AC (stL a i)).map (Ao at_)
structure PolA (a:List AutoState):Prop where
 arrow:∀ i:Int,0<=i->i<(a.length:Int)->(stL a i).arrow=true->(0<=(stL a i).dom/\(stL a i).dom<(a.length:Int)/\(stL a (stL a i).dom).plus = !(stL a i).plus)/\(0<=(stL a i).cod/\(stL a i).cod<(a.length:Int)/\(stL a (stL a i).cod).plus=(stL a i).plus)
 edge:∀ i:Int,0<=i->i<(a.length:Int)->∀ e,(e∈(stL a i).fields/\(stL a i).rec_=true)\/(e∈(stL a i).tags/\(stL a i).tag=true)->0<=e.to_/\e.to_<(a.length:Int)/\(stL a e.to_).plus=(stL a i).plus
theorem Sw {p:Bool} {S S':Int->Prop} {D D':ANd->Prop} {l l':List ANd} (f:ANd->ANd) (hl:∀ n,n∈l↔n∈l'.map f) (h:∀ n∈l',(nodeS S D (f n)↔nodeS S' D' n)):someS p S D l↔someS p S' D' l':=by
 unfold someS
 cases p with
 | true =>
  simp only [if_true]
  constructor
  ·rintro ⟨n,h1,h2⟩
   obtain ⟨m,hm,rfl⟩:=List.mem_map.1 ((hl n).1 h1);exact ⟨m,hm,(h m hm).1 h2⟩
  ·rintro ⟨m,hm,h2⟩
   exact ⟨f m,(hl _).2 (List.mem_map.2 ⟨m,hm,rfl⟩),(h m hm).2 h2⟩
 | false =>
  simp only [Bool.false_eq_true,if_false]
  constructor
  ·intro h1 m hm
   exact (h m hm).1 (h1 _ ((hl _).2 (List.mem_map.2 ⟨m,hm,rfl⟩)))
  ·intro h1 n hn
   obtain ⟨m,hm,rfl⟩:=List.mem_map.1 ((hl n).1 hn);exact (h m hm).2 (h1 m hm)
theorem Dq {a:List AutoState} (hp:PolA a) {i:Int} (h0:0<=i) (h1:i<(a.length:Int)) {n:ANd} (hn:n∈AC (stL a i)) :
  ((n.kind=6->(stL a i).arrow=true/\n.a=(stL a i).dom/\n.b=(stL a i).cod)/\∀ f∈n.l,0<=f.at_/\f.at_<(a.length:Int)/\(stL a f.at_).plus=(stL a i).plus)/\n.kind≠9/\n.kind≠10/\(n.l≠[]->n.kind=7\/n.kind=8):=by
 have key:∀ {l:List AutoEdge},(∀ e∈l,0<=e.to_/\e.to_<(a.length:Int)/\(stL a e.to_).plus=(stL a i).plus)->∀ f∈edF l,0<=f.at_/\f.at_<(a.length:Int)/\(stL a f.at_).plus=(stL a i).plus:=fun {l} h f hf=>by
  obtain ⟨e,he,rfl⟩:=List.mem_map.1 hf;exact h e he
 have ev:evK (stL a i).plus=1\/evK (stL a i).plus=2:=by cases (stL a i).plus <;> simp [evK]
 unfold AC at hn;simp only [List.mem_append,List.mem_map] at hn
 have leaf:∀ {b:Bool} {x:ANd},n∈(if b=true then [x] else [])->b=true/\n=x:=fun {b x} h=>by cases b <;> simp_all
 rcases hn with ((((((hn | hn) | hn) | hn) | hn) | hn) | hn) | hn
 ·obtain ⟨_,rfl⟩:=leaf hn
  rcases ev with e | e <;> rw [e] <;> exact ⟨⟨fun h=>(by cases h),fun f hf=>(by cases hf)⟩,(by simp),(by simp),fun h=>absurd rfl h⟩
 ·obtain ⟨_,rfl⟩:=leaf hn;exact ⟨⟨fun h=>(by cases h),fun f hf=>(by cases hf)⟩,(by simp),(by simp),fun h=>absurd rfl h⟩
 ·obtain ⟨_,rfl⟩:=leaf hn;exact ⟨⟨fun h=>(by cases h),fun f hf=>(by cases hf)⟩,(by simp),(by simp),fun h=>absurd rfl h⟩
 ·obtain ⟨_,rfl⟩:=leaf hn;exact ⟨⟨fun h=>(by cases h),fun f hf=>(by cases hf)⟩,(by simp),(by simp),fun h=>absurd rfl h⟩
 ·obtain ⟨v,_,rfl⟩:=hn;exact ⟨⟨fun h=>(by cases h),fun f hf=>(by cases hf)⟩,(by simp),(by simp),fun h=>absurd rfl h⟩
 ·obtain ⟨ha,rfl⟩:=leaf hn;exact ⟨⟨fun _=>⟨ha,rfl,rfl⟩,fun f hf=>(by cases hf)⟩,(by simp),(by simp),fun h=>absurd rfl h⟩
 ·obtain ⟨hr,rfl⟩:=leaf hn;exact ⟨⟨fun h=>(by cases h),key fun e he=>hp.edge i h0 h1 e (.inl ⟨he,hr⟩)⟩,(by simp),(by simp),fun _ => .inl rfl⟩
 ·obtain ⟨hr,rfl⟩:=leaf hn;exact ⟨⟨fun h=>(by cases h),key fun e he=>hp.edge i h0 h1 e (.inr ⟨he,hr⟩)⟩,(by simp),(by simp),fun _ => .inr rfl⟩
theorem Oj {f:Int->Int} {S:Int->Prop} {D D':ANd->Prop} {n:ANd} (h:3<=n.kind->n.kind<=8->(D (Ao f n)↔D' n)):nodeS S D (Ao f n)↔nodeS S D' n:=by
 have hk:(Ao f n).kind=n.kind:=rfl
 unfold nodeS;rw [hk];refine or_congr_right (or_congr (and_congr_right fun h11=>by rw [Hp h11]) ⟨fun ⟨a,b,c⟩=>⟨a,b,(h a b).1 c⟩,fun ⟨a,b,c⟩=>⟨a,b,(h a b).2 c⟩⟩)
theorem Ug {w:ATy} {a:List AutoState} {at_:Int->Int} (hp:PolA a) (h:RepA w a at_) {ρ:Pt->Int->Prop}:∀ (p:Pt) (i:Int),0<=i->i<(a.length:Int)->(SatR w ρ p (at_ i)↔SatS a ρ p i):=by
 have key:∀ p,(∀ i:Int,0<=i->i<(a.length:Int)->∀ n∈AC (stL a i),3<=n.kind->n.kind<=8->(hdR w ρ p (Ao at_ n)↔hdS a ρ p n))->∀ i:Int,0<=i->i<(a.length:Int)->(SatR w ρ p (at_ i)↔SatS a ρ p i):=fun p hd i h0 h1=>by
  obtain ⟨l,hl,hm⟩:=h.rep i h0 h1;unfold SatR SatS stS;rw [VL h.ok hl];exact Sw (Ao at_) hm fun n hn=>Oj fun h3 h8=>hd i h0 h1 n hn h3 h8
 have hd:∀ (p:Pt) (i:Int),0<=i->i<(a.length:Int)->∀ n∈AC (stL a i),3<=n.kind->n.kind<=8->(hdR w ρ p (Ao at_ n)↔hdS a ρ p n):=by
  intro p
  induction p with
  | tag S k=>intros;exact Iff.rfl
  | absent S s=>intro i h0 h1 n hn _ _;unfold hdR hdS;rw [Cw];cases atN n s <;> simp [EH]
  | hasc S s=>intro i h0 h1 n hn _ _;unfold hdR hdS;rw [Cw];cases atN n s <;> simp [EH]
  | dom S q ih =>
   intro i h0 h1 n hn _ _
   refine and_congr_right fun h6=>not_congr ?_
   have h6:n.kind=6:=h6
   obtain ⟨⟨k1,_⟩,_⟩:=Dq hp h0 h1 hn;obtain ⟨e1,e2,e3⟩:=k1 h6;obtain ⟨⟨d0,d1,_⟩,_⟩:=hp.arrow i h0 h1 e1;rw [(BN (.inl h6)).1,e2];exact key q ih _ d0 d1
  | cod S q ih =>
   intro i h0 h1 n hn _ _
   refine and_congr_right fun h6=>?_
   have h6:n.kind=6:=h6
   obtain ⟨⟨k1,_⟩,_⟩:=Dq hp h0 h1 hn;obtain ⟨e1,e2,e3⟩:=k1 h6;obtain ⟨_,d0,d1,_⟩:=hp.arrow i h0 h1 e1;rw [(BN (.inl h6)).2,e3];exact key q ih _ d0 d1
  | field S s q ih =>
   intro i h0 h1 n hn _ _
   obtain ⟨⟨_,k2⟩,_⟩:=Dq hp h0 h1 hn;refine and_congr_right fun _=>?_;rw [Cw]
   cases hq:atN n s with
   | none=>simp
   | some k =>
    obtain ⟨f,hf,_,rfl⟩:=Ha hq;obtain ⟨d0,d1,_⟩:=k2 f hf
    have:=key q ih f.at_ d0 d1
    simp only [Option.map_some,Option.some.injEq,forall_eq'];exact this
  | case S s q ih =>
   intro i h0 h1 n hn _ _
   obtain ⟨⟨_,k2⟩,_⟩:=Dq hp h0 h1 hn;refine and_congr_right fun _=>?_;rw [Cw]
   cases hq:atN n s with
   | none=>simp
   | some k =>
    obtain ⟨f,hf,_,rfl⟩:=Ha hq;obtain ⟨d0,d1,_⟩:=k2 f hf
    have:=key q ih f.at_ d0 d1
    simp only [Option.map_some,Option.some.injEq,exists_eq_left'];exact this
 exact fun p i=>key p (hd p) i
theorem Tx {s t:ATy} {f:Int->Int} {ρ:Pt->Int->Prop} (hO:OkT s) (h:Emb s t f):∀ (p:Pt) (i:Int),In s i->(SatR t ρ p (f i)↔SatR s ρ p i):=by
 intro p
 induction p with
 | tag S k =>
  refine EP hO h fun i hi h1 h2=>?_;rw [h.node i hi];exact Iff.rfl
 | dom S q ih =>
  refine EP hO h fun i hi h1 h2=>?_;rw [h.node i hi]
  show ((nd s i).kind=6/\¬ SatR t ρ q (Ao f (nd s i)).a)↔((nd s i).kind=6/\¬ SatR s ρ q (nd s i).a)
  refine and_congr_right fun h6=>?_;rw [(BN (.inl h6)).1,ih _ (hO.pair hi (.inl h6)).1]
 | cod S q ih =>
  refine EP hO h fun i hi h1 h2=>?_;rw [h.node i hi]
  show ((nd s i).kind=6/\SatR t ρ q (Ao f (nd s i)).b)↔((nd s i).kind=6/\SatR s ρ q (nd s i).b)
  refine and_congr_right fun h6=>?_;rw [(BN (.inl h6)).2,ih _ (hO.pair hi (.inl h6)).2]
 | absent S n =>
  refine EP hO h fun i hi h1 h2=>?_;rw [h.node i hi]
  show ((nd s i).kind=7/\atN (Ao f (nd s i)) n=none)↔((nd s i).kind=7/\atN (nd s i) n=none)
  rw [Cw,Option.map_eq_none_iff]
 | field S n q ih =>
  refine EP hO h fun i hi h1 h2=>?_;rw [h.node i hi]
  show ((nd s i).kind=7/\∀ k,atN (Ao f (nd s i)) n=some k->SatR t ρ q k)↔((nd s i).kind=7/\∀ k,atN (nd s i) n=some k->SatR s ρ q k)
  rw [Cw]
  cases hq:atN (nd s i) n with
  | none=>simp
  | some k =>
   simp only [Option.map_some,Option.some.injEq,forall_eq'];rw [ih k (Ka hO hi hq)]
 | hasc S n =>
  refine EP hO h fun i hi h1 h2=>?_;rw [h.node i hi]
  show ((nd s i).kind=8/\atN (Ao f (nd s i)) n≠none)↔((nd s i).kind=8/\atN (nd s i) n≠none)
  rw [Cw,ne_eq,Option.map_eq_none_iff]
 | case S n q ih =>
  refine EP hO h fun i hi h1 h2=>?_;rw [h.node i hi]
  show ((nd s i).kind=8/\∃ k,atN (Ao f (nd s i)) n=some k/\SatR t ρ q k)↔((nd s i).kind=8/\∃ k,atN (nd s i) n=some k/\SatR s ρ q k)
  rw [Cw]
  cases hq:atN (nd s i) n with
  | none=>simp
  | some k =>
   simp only [Option.map_some,Option.some.injEq,exists_eq_left'];rw [ih k (Ka hO hi hq)]
def sidW (w:ATy) (a:List AutoState) (at_:Int->Int) (p:Bool) (x:Int):Prop:=
 ∃ l,Rep w (joK p) (noK p) l x/\∀ n∈l,∃ j:Int,0<=j/\j<(a.length:Int)/\(stL a j).plus=p/\n∈(AC (stL a j)).map (Ao at_)
section
variable {w:ATy} {a:List AutoState} {at_:Int->Int}
theorem HD (h:RepA w a at_) {j:Int} (h0:0<=j) (h1:j<(a.length:Int)) {p:Bool} (hp:(stL a j).plus=p):sidW w a at_ p (at_ j):=by
 obtain ⟨l,h2,h3⟩:=h.rep j h0 h1;subst hp;exact ⟨l,h2,fun n hn=>⟨j,h0,h1,rfl,(h3 n).1 hn⟩⟩
theorem Jl {p:Bool} {x:Int} (h:sidW w a at_ p x):In w x:=by obtain ⟨l,h1,_⟩:=h;exact h1.inn
theorem N5 {p:Bool} {l:List ANd} {x:Int} (h:Rep w (joK p) (noK p) l x):(nd w x).kind≠joK (!p):=by
 cases h with
 | none _ h=>rw [h];cases p <;> decide
 | one _ h9 h10=>cases p;exact h9;exact h10
 | join _ h _ _=>rw [h];cases p <;> decide
theorem Mg {p:Bool} {x:Int} (h:sidW w a at_ p x) (hk:(nd w x).kind=joK p):sidW w a at_ p (nd w x).a/\sidW w a at_ p (nd w x).b:=by
 obtain ⟨l,h1,h2⟩:=h
 cases h1 with
 | none _ h=>rw [h] at hk;cases p <;> cases hk
 | one _ h9 h10=>cases p;exact absurd hk h10;exact absurd hk h9
 | join _ _ h3 h4=>exact ⟨⟨_,h3,fun n hn=>h2 n (List.mem_append_left _ hn)⟩,⟨_,h4,fun n hn=>h2 n (List.mem_append_right _ hn)⟩⟩
theorem Ls (hA:PolA a) (h:RepA w a at_) {p:Bool} {x:Int} (hx:sidW w a at_ p x) (hk:(nd w x).kind=6):sidW w a at_ (!p) (nd w x).a/\sidW w a at_ p (nd w x).b:=by
 obtain ⟨l,h1,h2⟩:=hx
 cases h1 with
 | none _ h=>rw [h] at hk;cases p <;> cases hk
 | one _ h9 h10 =>
  obtain ⟨j,h0,h3,h4,h5⟩:=h2 (nd w x) (List.mem_cons_self ..);obtain ⟨n,hn,e⟩:=List.mem_map.1 h5
  have hnk:n.kind=6:=by rw [<- e] at hk;exact hk
  obtain ⟨⟨k1,_⟩,_⟩:=Dq hA h0 h3 hn;obtain ⟨e1,e2,e3⟩:=k1 hnk;obtain ⟨⟨d0,d1,d2⟩,c0,c1,c2⟩:=hA.arrow j h0 h3 e1;rw [<- e,(BN (.inl hnk)).1,(BN (.inl hnk)).2,e2,e3];exact ⟨HD h d0 d1 (by rw [d2,h4]),HD h c0 c1 (by rw [c2,h4])⟩
 | join _ h _ _=>rw [h] at hk;cases p <;> cases hk
theorem OQ (hA:PolA a) (h:RepA w a at_) {p:Bool} {x:Int} (hx:sidW w a at_ p x) {f:AFd} (hf:f∈(nd w x).l):sidW w a at_ p f.at_:=by
 have hin:=Jl hx
 obtain ⟨l,h1,h2⟩:=hx
 have noW:∀ {k:Int},(nd w x).kind=k->wB k=false->False:=fun {k} hk hw=>by
  have:=Hm (h.ok.right _ (F9 hin)) (by rw [hk];exact hw)
  rw [this] at hf;cases hf
 cases h1 with
 | none _ h=>exact (noW h (by cases p <;> rfl)).elim
 | one _ h9 h10 =>
  obtain ⟨j,h0,h3,h4,h5⟩:=h2 (nd w x) (List.mem_cons_self ..);obtain ⟨n,hn,e⟩:=List.mem_map.1 h5;rw [<- e] at hf;obtain ⟨g,hg,rfl⟩:=List.mem_map.1 hf;obtain ⟨⟨_,k2⟩,_⟩:=Dq hA h0 h3 hn;obtain ⟨d0,d1,d2⟩:=k2 g hg;exact HD h d0 d1 (by rw [d2,h4])
 | join _ h _ _=>exact (noW h (by cases p <;> rfl)).elim
theorem SH {u:ATy} {i:Int} (h:In w i):nd (CA w u) i=nd w i:=by
 have:=(OZ w u).node i h
 rw [this,JM]
structure GU (u:ATy) (gl:List Int):Prop where
 kept:Kept u (· ∈ gl)
 root:u.root∈gl
 nov:∀ i∈gl,(nd u i).kind≠11
 srt:gl.Pairwise (· < ·)
theorem VG {u:ATy} {gl:List Int} (hg:GU u gl) (w:ATy):Kept (CA w u) (· ∈ gl.map (fun k=>k+(w.l.length:Int))):=by
 refine ⟨?_,?_,?_⟩
 ·intro x hx
  obtain ⟨i,hi,rfl⟩:=List.mem_map.1 hx;exact Ri (hg.kept.inn i hi)
 ·intro x hx hk
  obtain ⟨i,hi,rfl⟩:=List.mem_map.1 hx;rw [(I8 w u).node i (hg.kept.inn i hi)] at hk ⊢;obtain ⟨e1,e2⟩:=BN (f:=fun k=>k+(w.l.length:Int)) (n:=nd u i) hk;rw [e1,e2];obtain ⟨h1,h2⟩:=hg.kept.pair i hi hk;exact ⟨List.mem_map.2 ⟨_,h1,rfl⟩,List.mem_map.2 ⟨_,h2,rfl⟩⟩
 ·intro x hx g hgm
  obtain ⟨i,hi,rfl⟩:=List.mem_map.1 hx;rw [(I8 w u).node i (hg.kept.inn i hi)] at hgm;obtain ⟨g0,hg0,rfl⟩:=List.mem_map.1 hgm;exact List.mem_map.2 ⟨_,hg.kept.fld i hi _ hg0,rfl⟩
theorem KO {u:ATy} {gl:List Int} (hg:GU u gl) (f:Int->Int):f u.root∈gl.map f:=List.mem_map.2 ⟨_,hg.root,rfl⟩
theorem Kc {u:ATy} {gl:List Int} (hA:PolA a) (h:RepA w a at_) (hu:MayO u) (hg:GU u gl):PolG (CA w u) (sidW w a at_ true) (sidW w a at_ false) (· ∈ gl.map (fun k=>k+(w.l.length:Int))):=by
 have e:∀ {p:Bool} {x:Int},sidW w a at_ p x->nd (CA w u) x=nd w x:=fun hx=>SH (Jl hx)
 refine ⟨VG hg w,fun i hi=>?_,fun i hi=>Mp (Jl hi),fun i hi=>?_,fun i hi hk=>?_,fun i hi hk=>?_,fun i hi f hf=>?_,fun i hi=>Mp (Jl hi),fun i hi=>?_,fun i hi hk=>?_,fun i hi hk=>?_,fun i hi f hf=>?_⟩
 ·obtain ⟨j,hj,rfl⟩:=List.mem_map.1 hi
  rw [(I8 w u).node j (hg.kept.inn j hj)];exact hg.nov j hj
 ·rw [e hi];obtain ⟨l,h1,_⟩:=hi;exact N5 h1
 ·rw [e hi] at hk ⊢;exact Mg hi hk
 ·rw [e hi] at hk ⊢;exact Ls hA h hi hk
 ·rw [e hi] at hf;exact OQ hA h hi hf
 ·rw [e hi];obtain ⟨l,h1,_⟩:=hi;exact N5 h1
 ·rw [e hi] at hk ⊢;exact Mg hi hk
 ·rw [e hi] at hk ⊢;exact Ls hA h hi hk
 ·rw [e hi] at hf;exact OQ hA h hi hf
theorem NX {u:ATy} {gl:List Int} (hA:PolA a) (h:RepA w a at_) {start:Int} (h0:0<=start) (h1:start<(a.length:Int)) (hp:(stL a start).plus=true) (hr:w.root=at_ start) (hu:MayO u) (hg:GU u gl) :
  MemA (CA w u) ⟨[w.root],[u.root+(w.l.length:Int)]⟩↔∃ ρ,∀ p,SatS a ρ p start->Sat u p u.root:=by
 have hO:=LX h.ok hu.ok
 have hin:In w w.root:=by rw [hr];exact Jl (HD h h0 h1 hp)
 have hG:=Kc hA h hu hg
 rw [mem_iff hO hG (.inr (.inl ⟨w.root,by rw [hr];exact HD h h0 h1 hp,rfl,fun i hi=>by rw [List.mem_singleton.1 hi];exact KO hg _⟩))];refine exists_congr fun ρ=>forall_congr' fun p=>?_
 have e1:SatR (CA w u) ρ p w.root↔SatS a ρ p start:=by
  have:=Tx (ρ:=ρ) h.ok (OZ w u) p w.root hin
  rw [this,hr,Ug hA h p start h0 h1]
 have e2:SatR (CA w u) ρ p (u.root+(w.l.length:Int))↔Sat u p u.root:=by
  rw [IQ hG (ρ':=Pt.vars) p _ (KO hg _),JX];exact Ux hu.ok (I8 w u) p u.root hu.root
 constructor
 ·intro hn hs
  refine Classical.byContradiction fun hc=>hn ⟨fun i hi=>?_,fun i hi=>?_⟩
  ·rw [List.mem_singleton.1 hi];exact e1.2 hs
  ·rw [List.mem_singleton.1 hi];exact fun h=>hc (e2.1 h)
 ·intro hs hc
  exact hc.2 _ (by simp) (e2.2 (hs (e1.1 (hc.1 _ (by simp)))))
end
def LW (s:AutoState) (S:Int->Prop) (D:ANd->Prop):Prop:=
 s.all=true\/(s.int=true/\D ⟨3,0,0,[]⟩)\/(s.bool=true/\D ⟨4,0,0,[]⟩)\/(s.str=true/\D ⟨5,0,0,[]⟩)\/(∃ v∈s.vars,S v)\/(s.arrow=true/\D ⟨6,s.dom,s.cod,[]⟩)\/(s.rec_=true/\D ⟨7,0,0,edF s.fields⟩)\/(s.tag=true/\D ⟨8,0,0,edF s.tags⟩)
def JO (s:AutoState) (S:Int->Prop) (D:ANd->Prop):Prop:=
 s.all=false/\(s.int=true->D ⟨3,0,0,[]⟩)/\(s.bool=true->D ⟨4,0,0,[]⟩)/\(s.str=true->D ⟨5,0,0,[]⟩)/\(∀ v∈s.vars,S v)/\(s.arrow=true->D ⟨6,s.dom,s.cod,[]⟩)/\(s.rec_=true->D ⟨7,0,0,edF s.fields⟩)/\(s.tag=true->D ⟨8,0,0,edF s.tags⟩)
theorem KY {α:Type} {b:Bool} {x y:α}:y∈(if b=true then [x] else [])↔b=true/\y=x:=by cases b <;> simp
theorem Mx {s:AutoState} {S:Int->Prop} {D:ANd->Prop} (h:s.plus=true):someS s.plus S D (AC s)↔LW s S D:=by
 unfold someS AC LW;rw [h];simp only [if_true,List.mem_append,KY,List.mem_map]
 have hd:∀ {n:ANd},nodeS S D n->n.kind≠1->n.kind≠11->D n:=fun hn h1 h11=>by
  rcases hn with h | ⟨h,_⟩ | ⟨_,_,h⟩
  ·exact absurd h h1
  ·exact absurd h h11
  ·exact h
 constructor
 ·rintro ⟨n,((((((⟨hb,rfl⟩ | ⟨hb,rfl⟩) | ⟨hb,rfl⟩) | ⟨hb,rfl⟩) | ⟨v,hv,rfl⟩) | ⟨hb,rfl⟩) | ⟨hb,rfl⟩) | ⟨hb,rfl⟩,hn⟩
  ·exact .inl hb
  ·exact .inr (.inl ⟨hb,hd hn (by simp) (by simp)⟩)
  ·exact .inr (.inr (.inl ⟨hb,hd hn (by simp) (by simp)⟩))
  ·exact .inr (.inr (.inr (.inl ⟨hb,hd hn (by simp) (by simp)⟩)))
  ·rcases hn with h | ⟨_,h⟩ | ⟨_,h,_⟩
   ·exact absurd h (by simp)
   ·exact .inr (.inr (.inr (.inr (.inl ⟨v,hv,h⟩))))
   ·exact absurd h (by simp)
  ·exact .inr (.inr (.inr (.inr (.inr (.inl ⟨hb,hd hn (by simp) (by simp)⟩)))))
  ·exact .inr (.inr (.inr (.inr (.inr (.inr (.inl ⟨hb,hd hn (by simp) (by simp)⟩))))))
  ·exact .inr (.inr (.inr (.inr (.inr (.inr (.inr ⟨hb,hd hn (by simp) (by simp)⟩))))))
 ·rintro (hb | ⟨hb,h2⟩ | ⟨hb,h2⟩ | ⟨hb,h2⟩ | ⟨v,hv,h2⟩ | ⟨hb,h2⟩ | ⟨hb,h2⟩ | ⟨hb,h2⟩)
  ·exact ⟨_,.inl (.inl (.inl (.inl (.inl (.inl (.inl ⟨hb,rfl⟩)))))),.inl rfl⟩
  ·exact ⟨_,.inl (.inl (.inl (.inl (.inl (.inl (.inr ⟨hb,rfl⟩)))))),.inr (.inr ⟨by simp,by simp,h2⟩)⟩
  ·exact ⟨_,.inl (.inl (.inl (.inl (.inl (.inr ⟨hb,rfl⟩))))),.inr (.inr ⟨by simp,by simp,h2⟩)⟩
  ·exact ⟨_,.inl (.inl (.inl (.inl (.inr ⟨hb,rfl⟩)))),.inr (.inr ⟨by simp,by simp,h2⟩)⟩
  ·exact ⟨_,.inl (.inl (.inl (.inr ⟨v,hv,rfl⟩))),.inr (.inl ⟨rfl,h2⟩)⟩
  ·exact ⟨_,.inl (.inl (.inr ⟨hb,rfl⟩)),.inr (.inr ⟨by simp,by simp,h2⟩)⟩
  ·exact ⟨_,.inl (.inr ⟨hb,rfl⟩),.inr (.inr ⟨by simp,by simp,h2⟩)⟩
  ·exact ⟨_,.inr ⟨hb,rfl⟩,.inr (.inr ⟨by simp,by simp,h2⟩)⟩
theorem LG {s:AutoState} {S:Int->Prop} {D:ANd->Prop} (h:s.plus=false):someS s.plus S D (AC s)↔JO s S D:=by
 unfold someS AC JO;rw [h];simp only [Bool.false_eq_true,if_false,List.mem_append,KY,List.mem_map]
 have hd:∀ {n:ANd},nodeS S D n->n.kind≠1->n.kind≠11->D n:=fun hn h1 h11=>by
  rcases hn with h | ⟨h,_⟩ | ⟨_,_,h⟩
  ·exact absurd h h1
  ·exact absurd h h11
  ·exact h
 constructor
 ·intro H
  refine ⟨?_,fun hb=>hd (H _ (.inl (.inl (.inl (.inl (.inl (.inl (.inr ⟨hb,rfl⟩)))))))) (by simp) (by simp),fun hb=>hd (H _ (.inl (.inl (.inl (.inl (.inl (.inr ⟨hb,rfl⟩))))))) (by simp) (by simp),
   fun hb=>hd (H _ (.inl (.inl (.inl (.inl (.inr ⟨hb,rfl⟩)))))) (by simp) (by simp),fun v hv=>?_,fun hb=>hd (H _ (.inl (.inl (.inr ⟨hb,rfl⟩)))) (by simp) (by simp),fun hb=>hd (H _ (.inl (.inr ⟨hb,rfl⟩))) (by simp) (by simp),fun hb=>hd (H _ (.inr ⟨hb,rfl⟩)) (by simp) (by simp)⟩
  ·cases hb:s.all with
   | false=>rfl
   | true =>
    have:=H _ (.inl (.inl (.inl (.inl (.inl (.inl (.inl ⟨hb,rfl⟩)))))))
    rcases this with h | ⟨h,_⟩ | ⟨h,_⟩
    ·cases h
    ·cases h
    ·exact absurd h (by simp [evK])
  ·have:=H _ (.inl (.inl (.inl (.inr ⟨v,hv,rfl⟩))))
   rcases this with h | ⟨_,h⟩ | ⟨_,h,_⟩
   ·exact absurd h (by simp)
   ·exact h
   ·exact absurd h (by simp)
 ·rintro ⟨h0,h3,h4,h5,h11,h6,h7,h8⟩ n (((((((⟨hb,rfl⟩ | ⟨hb,rfl⟩) | ⟨hb,rfl⟩) | ⟨hb,rfl⟩) | ⟨v,hv,rfl⟩) | ⟨hb,rfl⟩) | ⟨hb,rfl⟩) | ⟨hb,rfl⟩)
  ·rw [h0] at hb;cases hb
  ·exact .inr (.inr ⟨by simp,by simp,h3 hb⟩)
  ·exact .inr (.inr ⟨by simp,by simp,h4 hb⟩)
  ·exact .inr (.inr ⟨by simp,by simp,h5 hb⟩)
  ·exact .inr (.inl ⟨rfl,h11 v hv⟩)
  ·exact .inr (.inr ⟨by simp,by simp,h6 hb⟩)
  ·exact .inr (.inr ⟨by simp,by simp,h7 hb⟩)
  ·exact .inr (.inr ⟨by simp,by simp,h8 hb⟩)
def atE (l:List AutoEdge) (s:List UInt8):Option Int:=(l.find? fun e=>decide (e.name=s)).map (·.to_)
theorem Ev {k x y:Int} {l:List AutoEdge} {s:List UInt8}:atN ⟨k,x,y,edF l⟩ s=atE l s:=by
 unfold atN atE edF;simp only [List.find?_map,Option.map_map]
 rfl
def relO (R:Int->Int->Prop) (x y:Option Int):Prop:=(x=none/\y=none)\/∃ i j,x=some i/\y=some j/\R i j
structure Bis (a b:List AutoState) (R:Int->Int->Prop):Prop where
 flags:∀ i j,R i j->(stL a i).plus=(stL b j).plus/\(stL a i).all=(stL b j).all/\(stL a i).int=(stL b j).int/\(stL a i).bool=(stL b j).bool/\(stL a i).str=(stL b j).str/\(stL a i).arrow=(stL b j).arrow/\(stL a i).rec_=(stL b j).rec_/\(stL a i).tag=(stL b j).tag
 dom:∀ i j,R i j->(stL a i).arrow=true->R (stL a i).dom (stL b j).dom/\(stL a (stL a i).dom).plus = !(stL a i).plus
 cod:∀ i j,R i j->(stL a i).arrow=true->R (stL a i).cod (stL b j).cod/\(stL a (stL a i).cod).plus=(stL a i).plus
 fld:∀ i j,R i j->(stL a i).rec_=true->∀ s,relO (fun x y=>R x y/\(stL a x).plus=(stL a i).plus) (atE (stL a i).fields s) (atE (stL b j).fields s)
 tgs:∀ i j,R i j->(stL a i).tag=true->∀ s,relO (fun x y=>R x y/\(stL a x).plus=(stL a i).plus) (atE (stL a i).tags s) (atE (stL b j).tags s)
def leafM (k:Int):Pt->Prop
 | .tag _ k'=>k=k'/\k'≠8
 | _=>False
theorem DQ {a:List AutoState} {ρ:Pt->Int->Prop} {p:Pt} {k:Int} (hk:k=3\/k=4\/k=5):hdS a ρ p ⟨k,0,0,[]⟩↔leafM k p:=by
 cases p with
 | tag S k'=>exact Iff.rfl
 | dom S q=>exact ⟨fun h=>by have:=h.1;simp at this;omega,fun h=>h.elim⟩
 | cod S q=>exact ⟨fun h=>by have:=h.1;simp at this;omega,fun h=>h.elim⟩
 | absent S s=>exact ⟨fun h=>by have:=h.1;simp at this;omega,fun h=>h.elim⟩
 | field S s q=>exact ⟨fun h=>by have:=h.1;simp at this;omega,fun h=>h.elim⟩
 | hasc S s=>exact ⟨fun h=>by have:=h.1;simp at this;omega,fun h=>h.elim⟩
 | case S s q=>exact ⟨fun h=>by have:=h.1;simp at this;omega,fun h=>h.elim⟩
def baseP (s:AutoState) (p:Pt):Prop:=(s.int=true/\leafM 3 p)\/(s.bool=true/\leafM 4 p)\/(s.str=true/\leafM 5 p)
def baseM (s:AutoState) (p:Pt):Prop:=(s.int=true->leafM 3 p)/\(s.bool=true->leafM 4 p)/\(s.str=true->leafM 5 p)
theorem Sg {a b:List AutoState} {R:Int->Int->Prop} (hB:Bis a b R) {ρ ρ':Pt->Int->Prop}
    (hp:∀ i j p,R i j->(stL a i).plus=true->(∃ v∈(stL a i).vars,ρ p v)->(∃ v∈(stL b j).vars,ρ' p v)\/baseP (stL b j) p)
    (hm:∀ i j p,R i j->(stL a i).plus=false->(∀ v∈(stL b j).vars,ρ' p v)->baseM (stL b j) p->∀ v∈(stL a i).vars,ρ p v) :
    ∀ (p:Pt) (i j:Int),R i j->((stL a i).plus=true->SatS a ρ p i->SatS b ρ' p j)/\((stL a i).plus=false->SatS b ρ' p j->SatS a ρ p i):=by
  have key:∀ (p:Pt),(∀ i j:Int,R i j->(stL a i).plus=true ->
        ((stL a i).arrow=true->hdS a ρ p ⟨6,(stL a i).dom,(stL a i).cod,[]⟩->hdS b ρ' p ⟨6,(stL b j).dom,(stL b j).cod,[]⟩) /\
        ((stL a i).rec_=true->hdS a ρ p ⟨7,0,0,edF (stL a i).fields⟩->hdS b ρ' p ⟨7,0,0,edF (stL b j).fields⟩) /\
        ((stL a i).tag=true->hdS a ρ p ⟨8,0,0,edF (stL a i).tags⟩->hdS b ρ' p ⟨8,0,0,edF (stL b j).tags⟩)) ->
      (∀ i j:Int,R i j->(stL a i).plus=false ->
        ((stL a i).arrow=true->hdS b ρ' p ⟨6,(stL b j).dom,(stL b j).cod,[]⟩->hdS a ρ p ⟨6,(stL a i).dom,(stL a i).cod,[]⟩) /\
        ((stL a i).rec_=true->hdS b ρ' p ⟨7,0,0,edF (stL b j).fields⟩->hdS a ρ p ⟨7,0,0,edF (stL a i).fields⟩) /\
        ((stL a i).tag=true->hdS b ρ' p ⟨8,0,0,edF (stL b j).tags⟩->hdS a ρ p ⟨8,0,0,edF (stL a i).tags⟩)) ->
      ∀ (i j:Int),R i j->((stL a i).plus=true->SatS a ρ p i->SatS b ρ' p j)/\((stL a i).plus=false->SatS b ρ' p j->SatS a ρ p i):=by
    intro p h1 h2 i j hR
    obtain ⟨f1,f2,f3,f4,f5,f6,f7,f8⟩:=hB.flags i j hR
    constructor
    · intro hpl hs
      have hpl':(stL b j).plus=true:=by rw [<- f1,hpl]
      obtain ⟨k6,k7,k8⟩:=h1 i j hR hpl
      have hs:=(Mx hpl).1 hs
      refine (Mx hpl').2 ?_
      unfold LW at hs ⊢
      rw [<- f2,<- f3,<- f4,<- f5,<- f6,<- f7,<- f8]
      rcases hs with h | ⟨h,h'⟩ | ⟨h,h'⟩ | ⟨h,h'⟩ | h | ⟨h,h'⟩ | ⟨h,h'⟩ | ⟨h,h'⟩
      · exact .inl h
      · exact .inr (.inl ⟨h,(DQ (.inl rfl)).2 ((DQ (.inl rfl)).1 h')⟩)
      · exact .inr (.inr (.inl ⟨h,(DQ (.inr (.inl rfl))).2 ((DQ (.inr (.inl rfl))).1 h')⟩))
      · exact .inr (.inr (.inr (.inl ⟨h,(DQ (.inr (.inr rfl))).2 ((DQ (.inr (.inr rfl))).1 h')⟩)))
      · rcases hp i j p hR hpl h with h | ⟨h,h'⟩ | ⟨h,h'⟩ | ⟨h,h'⟩
        · exact .inr (.inr (.inr (.inr (.inl h))))
        · exact .inr (.inl ⟨by rw [f3];exact h,(DQ (.inl rfl)).2 h'⟩)
        · exact .inr (.inr (.inl ⟨by rw [f4];exact h,(DQ (.inr (.inl rfl))).2 h'⟩))
        · exact .inr (.inr (.inr (.inl ⟨by rw [f5];exact h,(DQ (.inr (.inr rfl))).2 h'⟩)))
      · exact .inr (.inr (.inr (.inr (.inr (.inl ⟨h,k6 h h'⟩)))))
      · exact .inr (.inr (.inr (.inr (.inr (.inr (.inl ⟨h,k7 h h'⟩))))))
      · exact .inr (.inr (.inr (.inr (.inr (.inr (.inr ⟨h,k8 h h'⟩))))))
    · intro hpl hs
      have hpl':(stL b j).plus=false:=by rw [<- f1,hpl]
      obtain ⟨k6,k7,k8⟩:=h2 i j hR hpl
      have hs:=(LG hpl').1 hs
      refine (LG hpl).2 ?_
      unfold JO at hs ⊢
      obtain ⟨s0,s3,s4,s5,s11,s6,s7,s8⟩:=hs
      refine ⟨by rw [f2];exact s0,fun h=>(DQ (.inl rfl)).2 ((DQ (.inl rfl)).1 (s3 (by rw [<- f3];exact h))),fun h=>(DQ (.inr (.inl rfl))).2 ((DQ (.inr (.inl rfl))).1 (s4 (by rw [<- f4];exact h))),fun h=>(DQ (.inr (.inr rfl))).2 ((DQ (.inr (.inr rfl))).1 (s5 (by rw [<- f5];exact h))),
        hm i j p hR hpl s11 ⟨fun h=>(DQ (.inl rfl)).1 (s3 h),fun h=>(DQ (.inr (.inl rfl))).1 (s4 h),fun h=>(DQ (.inr (.inr rfl))).1 (s5 h)⟩,fun h=>k6 h (s6 (by rw [<- f6];exact h)),fun h=>k7 h (s7 (by rw [<- f7];exact h)),fun h=>k8 h (s8 (by rw [<- f8];exact h))⟩
  intro p
  induction p with
  | tag S k=>exact key _ (fun i j _ _=>⟨fun _ h=>h,fun _ h=>h,fun _ h=>h⟩) (fun i j _ _=>⟨fun _ h=>h,fun _ h=>h,fun _ h=>h⟩)
  | dom S q ih =>
    refine key _ (fun i j hR hpl=>⟨fun ha h=>⟨rfl,fun hc=>h.2 ?_⟩,fun _ h=>absurd h.1 (by simp),fun _ h=>absurd h.1 (by simp)⟩) (fun i j hR hpl=>⟨fun ha h=>⟨rfl,fun hc=>h.2 ?_⟩,fun _ h=>absurd h.1 (by simp),fun _ h=>absurd h.1 (by simp)⟩)
    · obtain ⟨h1,h2⟩:=hB.dom i j hR ha
      exact (ih _ _ h1).2 (by rw [h2,hpl];rfl) hc
    · obtain ⟨h1,h2⟩:=hB.dom i j hR ha
      exact (ih _ _ h1).1 (by rw [h2,hpl];rfl) hc
  | cod S q ih =>
    refine key _ (fun i j hR hpl=>⟨fun ha h=>⟨rfl,?_⟩,fun _ h=>absurd h.1 (by simp),fun _ h=>absurd h.1 (by simp)⟩) (fun i j hR hpl=>⟨fun ha h=>⟨rfl,?_⟩,fun _ h=>absurd h.1 (by simp),fun _ h=>absurd h.1 (by simp)⟩)
    · obtain ⟨h1,h2⟩:=hB.cod i j hR ha
      exact (ih _ _ h1).1 (by rw [h2,hpl]) h.2
    · obtain ⟨h1,h2⟩:=hB.cod i j hR ha
      exact (ih _ _ h1).2 (by rw [h2,hpl]) h.2
  | absent S s =>
    refine key _ (fun i j hR hpl=>⟨fun _ h=>absurd h.1 (by simp),fun hr h=>⟨rfl,?_⟩,fun _ h=>absurd h.1 (by simp)⟩) (fun i j hR hpl=>⟨fun _ h=>absurd h.1 (by simp),fun hr h=>⟨rfl,?_⟩,fun _ h=>absurd h.1 (by simp)⟩)
    · have h:=h.2;rw [Ev] at h ⊢
      rcases hB.fld i j hR hr s with ⟨_,e⟩ | ⟨x,y,e,_⟩
      · exact e
      · rw [e] at h;cases h
    · have h:=h.2;rw [Ev] at h ⊢
      rcases hB.fld i j hR hr s with ⟨e,_⟩ | ⟨x,y,_,e,_⟩
      · exact e
      · rw [e] at h;cases h
  | hasc S s =>
    refine key _ (fun i j hR hpl=>⟨fun _ h=>absurd h.1 (by simp),fun _ h=>absurd h.1 (by simp),fun hr h=>⟨rfl,?_⟩⟩) (fun i j hR hpl=>⟨fun _ h=>absurd h.1 (by simp),fun _ h=>absurd h.1 (by simp),fun hr h=>⟨rfl,?_⟩⟩)
    · have h:=h.2;rw [Ev] at h ⊢
      rcases hB.tgs i j hR hr s with ⟨e,_⟩ | ⟨x,y,_,e,_⟩
      · exact absurd e h
      · rw [e];simp
    · have h:=h.2;rw [Ev] at h ⊢
      rcases hB.tgs i j hR hr s with ⟨_,e⟩ | ⟨x,y,e,_⟩
      · exact absurd e h
      · rw [e];simp
  | field S s q ih =>
    refine key _ (fun i j hR hpl=>⟨fun _ h=>absurd h.1 (by simp),fun hr h=>⟨rfl,fun k hk=>?_⟩,fun _ h=>absurd h.1 (by simp)⟩) (fun i j hR hpl=>⟨fun _ h=>absurd h.1 (by simp),fun hr h=>⟨rfl,fun k hk=>?_⟩,fun _ h=>absurd h.1 (by simp)⟩)
    · rw [Ev] at hk
      rcases hB.fld i j hR hr s with ⟨_,e⟩ | ⟨x,y,e1,e2,e3,e4⟩
      · rw [e] at hk;cases hk
      · rw [e2] at hk;cases hk
        exact (ih _ _ e3).1 (by rw [e4,hpl]) (h.2 x (by rw [Ev];exact e1))
    · rw [Ev] at hk
      rcases hB.fld i j hR hr s with ⟨e,_⟩ | ⟨x,y,e1,e2,e3,e4⟩
      · rw [e] at hk;cases hk
      · rw [e1] at hk;cases hk
        exact (ih _ _ e3).2 (by rw [e4,hpl]) (h.2 y (by rw [Ev];exact e2))
  | case S s q ih =>
    refine key _ (fun i j hR hpl=>⟨fun _ h=>absurd h.1 (by simp),fun _ h=>absurd h.1 (by simp),fun hr h=>⟨rfl,?_⟩⟩) (fun i j hR hpl=>⟨fun _ h=>absurd h.1 (by simp),fun _ h=>absurd h.1 (by simp),fun hr h=>⟨rfl,?_⟩⟩)
    · obtain ⟨k,hk,h⟩:=h.2
      rw [Ev] at hk
      rcases hB.tgs i j hR hr s with ⟨e,_⟩ | ⟨x,y,e1,e2,e3,e4⟩
      · rw [e] at hk;cases hk
      · rw [e1] at hk;cases hk
        exact ⟨y,by rw [Ev];exact e2,(ih _ _ e3).1 (by rw [e4,hpl]) h⟩
    · obtain ⟨k,hk,h⟩:=h.2
      rw [Ev] at hk
      rcases hB.tgs i j hR hr s with ⟨_,e⟩ | ⟨x,y,e1,e2,e3,e4⟩
      · rw [e] at hk;cases hk
      · rw [e2] at hk;cases hk
        exact ⟨x,by rw [Ev];exact e1,(ih _ _ e3).2 (by rw [e4,hpl]) h⟩
def chn (k:Int):Int->Int->List ANd->List ANd
 | _,_,[]=>[]
 | at_,off,x::r=>x::⟨k,at_,off,[]⟩::chn k (off+1) (off+2) r
def lastA:Int->Int->List ANd->Int
 | at_,_,[]=>at_
 | _,off,_::r=>lastA (off+1) (off+2) r
def blk (off:Int) (s:AutoState):List ANd:=⟨noK s.plus,0,0,[]⟩::chn (joK s.plus) off (off+1) (AC s)
def hdN (off:Int) (s:AutoState):ANd:=⟨joK s.plus,lastA off (off+1) (AC s),lastA off (off+1) (AC s),[]⟩
def typH:Int->List AutoState->List ANd
 | _,[]=>[]
 | off,s::r=>hdN off s::typH (off+1+2*((AC s).length:Int)) r
def typB:Int->List AutoState->List ANd
 | _,[]=>[]
 | off,s::r=>blk off s++typB (off+1+2*((AC s).length:Int)) r
def typeW (a:AutoAuto):ATy:=⟨typH (a.l.length:Int) a.l++typB (a.l.length:Int) a.l,a.start⟩
theorem M2 (k:Int):∀ (l:List ANd) (at_ off:Int),(chn k at_ off l).length=2*l.length
 | [],_,_=>rfl
 | x::r,at_,off=>by simp only [chn,List.length_cons,M2 k r];omega
theorem I1 (off:Int) (s:AutoState):(blk off s).length=1+2*(AC s).length:=by
 unfold blk;rw [List.length_cons,M2];omega
theorem G1:∀ (l:List AutoState) (off:Int),(typH off l).length=l.length
 | [],_=>rfl
 | s::r,off=>by simp only [typH,List.length_cons,G1 r]
def offA (n:Int) (l:List AutoState):Int:=l.foldl (fun o s=>o+1+2*((AC s).length:Int)) n
theorem GH (n:Int) (s:AutoState) (l:List AutoState):offA n (s::l)=offA (n+1+2*((AC s).length:Int)) l:=rfl
theorem I4:∀ (l:List AutoState) (off:Int),off+((typB off l).length:Int)=offA off l
 | [],off=>by simp [typB,offA]
 | s::r,off=>by
  rw [GH,<- I4 r];simp only [typB,List.length_append,I1]
  omega
theorem JW:∀ (A:List AutoState) (s:AutoState) (B:List AutoState) (n:Int),typH n (A++s::B)=typH n A++hdN (offA n A) s::typH (offA n (A++[s])) B/\typB n (A++s::B)=typB n A++(blk (offA n A) s++typB (offA n (A++[s])) B)
 | [],s,B,n=>by simp [typH,typB,offA]
 | x::A,s,B,n=>by
  obtain ⟨h1,h2⟩:=JW A s B (n+1+2*((AC x).length:Int));simp only [List.cons_append,typH,typB,GH,h1,h2,List.append_assoc,and_self]
theorem F3 {w:ATy} {A B:List ANd} {x:ANd} {i:Int} (h:w.l=A++x::B) (hi:i=(A.length:Int)):nd w i=x/\In w i:=by
 subst hi;refine ⟨Wh (by rw [h,List.getElem?_append_right (Nat.le_refl _),Nat.sub_self];rfl),by omega,?_⟩;rw [h,List.length_append,List.length_cons];omega
theorem QA {w:ATy} {k no:Int}:∀ (l:List ANd) (at_ off:Int) (pre:List ANd) (A B:List ANd),w.l=A++(chn k at_ off l++B)->off=(A.length:Int)->(∀ x∈l,x.kind≠9/\x.kind≠10)->Rep w k no pre at_->Rep w k no (pre++l) (lastA at_ off l)
 | [],at_,off,pre,A,B,_,_,_,h=>by rw [List.append_nil];exact h
 | x::r,at_,off,pre,A,B,hw,ho,hx,h=>by
  have h1:=F3 (w:=w) (A:=A) (x:=x) (B:=⟨k,at_,off,[]⟩::(chn k (off+1) (off+2) r++B)) (i:=off) (by rw [hw];simp [chn]) ho
  have h2:=F3 (w:=w) (A:=A++[x]) (x:=⟨k,at_,off,[]⟩) (B:=chn k (off+1) (off+2) r++B) (i:=off+1) (by rw [hw];simp [chn]) (by rw [List.length_append];simp;omega)
  have hk:=hx x (by simp)
  have r1:Rep w k no [x] off:=by
   have:=Rep.one (w:=w) (k:=k) (no:=no) h1.2 (by rw [h1.1];exact hk.1) (by rw [h1.1];exact hk.2)
   rw [h1.1] at this;exact this
  have r2:Rep w k no (pre++[x]) (off+1) := .join h2.2 (by rw [h2.1]) (by rw [h2.1];exact h) (by rw [h2.1];exact r1)
  have:=QA r (off+1) (off+2) (pre++[x]) (A++[x,⟨k,at_,off,[]⟩]) B (by rw [hw];simp [chn]) (by rw [List.length_append];simp;omega) (fun y hy=>hx y (by simp [hy])) r2
  simpa [lastA] using this
theorem Gg {s:AutoState} {n:ANd} (h:n∈AC s):n.kind≠9/\n.kind≠10:=by
 have ev:evK s.plus=1\/evK s.plus=2:=by cases s.plus <;> simp [evK]
 unfold AC at h;simp only [List.mem_append,KY,List.mem_map] at h
 rcases h with ((((((⟨_,rfl⟩ | ⟨_,rfl⟩) | ⟨_,rfl⟩) | ⟨_,rfl⟩) | ⟨v,_,rfl⟩) | ⟨_,rfl⟩) | ⟨_,rfl⟩) | ⟨_,rfl⟩
 ·simp only;omega
 all_goals (constructor <;> simp)
theorem Mi {a:AutoAuto} {i:Int} (h0:0<=i) (h1:i<(a.l.length:Int)):∃ l,Rep (typeW a) (joK (stL a.l i).plus) (noK (stL a.l i).plus) l i/\∀ n,n∈l↔n∈(AC (stL a.l i)).map (Ao (fun k=>k)):=by
 obtain ⟨j,rfl⟩:=Int.eq_ofNat_of_zero_le h0
 have hj:j<a.l.length:=by omega
 have hs:stL a.l (j:Int)=a.l[j]:=by unfold stL;rw [Int.toNat_natCast,List.getElem?_eq_getElem hj];rfl
 have hsp:a.l=a.l.take j++a.l[j]::a.l.drop (j+1):=by rw [<- List.drop_eq_getElem_cons hj,List.take_append_drop]
 obtain ⟨e1,e2⟩:=JW (a.l.take j) a.l[j] (a.l.drop (j+1)) (a.l.length:Int);rw [<- hsp] at e1 e2;rw [hs]
 generalize a.l[j]=s at *
 have hw:(typeW a).l=typH (a.l.length:Int) a.l++typB (a.l.length:Int) a.l:=rfl
 have hlen:(typH (a.l.length:Int) a.l).length=a.l.length:=G1 _ _
 have hB:=I4 (a.l.take j) (a.l.length:Int)
 generalize ho:offA (a.l.length:Int) (a.l.take j)=off at *
 have hA:((typH (a.l.length:Int) a.l++typB (a.l.length:Int) (a.l.take j)).length:Int)=off:=by rw [List.length_append,hlen];omega
 have n0:=F3 (w:=typeW a) (A:=typH (a.l.length:Int) a.l++typB (a.l.length:Int) (a.l.take j)) (x:=⟨noK s.plus,0,0,[]⟩) (B:=chn (joK s.plus) off (off+1) (AC s)++typB (offA (a.l.length:Int) (a.l.take j++[s])) (a.l.drop (j+1))) (i:=off) (by rw [hw,e2];simp [blk]) hA.symm
 have r0:Rep (typeW a) (joK s.plus) (noK s.plus) [] off := .none n0.2 (by rw [n0.1])
 have r1:=QA (w:=typeW a) (k:=joK s.plus) (no:=noK s.plus) (AC s) off (off+1) [] (typH (a.l.length:Int) a.l++typB (a.l.length:Int) (a.l.take j)++[⟨noK s.plus,0,0,[]⟩]) (typB (offA (a.l.length:Int) (a.l.take j++[s])) (a.l.drop (j+1))) (by rw [hw,e2];simp [blk]) (by rw [List.length_append];simp only [List.length_cons,List.length_nil];omega) (fun x hx=>Gg hx) r0
 rw [List.nil_append] at r1
 have nh:=F3 (w:=typeW a) (A:=typH (a.l.length:Int) (a.l.take j)) (x:=hdN off s) (B:=typH (offA (a.l.length:Int) (a.l.take j++[s])) (a.l.drop (j+1))++typB (a.l.length:Int) a.l) (i:=(j:Int)) (by rw [hw,e1];simp) (by rw [G1,List.length_take];omega)
 refine ⟨AC s++AC s,.join nh.2 (by rw [nh.1];rfl) (by rw [nh.1];exact r1) (by rw [nh.1];exact r1),fun n=>?_⟩;rw [List.mem_append,or_self]
 have:(AC s).map (Ao fun k=>k)=AC s:=by
  have h:(AC s).map (Ao fun k=>k)=(AC s).map id:=List.map_congr_left fun n _=>JM n
  rw [h,List.map_id]
 rw [this]
theorem Fp {n:ANd} {all:Int} (h1:1<=n.kind/\n.kind<=11) (h2:pB n.kind=true\/(n.b=0/\(n.kind=11\/n.a=0))) (h3:n.kind=11->0<=n.a/\n.a<=999) (h4:wB n.kind=true\/n.l=[]) (h5:Ej n) (h6:n.l.length<=30) (h7:∀ k∈kidsL n,0<=k/\k<all):BC n all=true:=by
 have hkid:¬ ∃ q∈kidsL n,inB all q=true:=by
  rintro ⟨q,hq,h⟩
  have:=h7 q hq
  unfold inB at h;simp only [Bool.or_eq_true,decide_eq_true_eq] at h
  omega
 unfold BC;rw [dT h5,dF hkid,dT (show ((n.l.length:Nat):Int)<=30 by omega),dF (show ¬ n.kind<1 by omega),dF (show ¬ 11<n.kind by omega)]
 have e2:((!pB n.kind)&&((!decide (n.b=0))||((!decide (n.kind=11))&&(!decide (n.a=0)))))=false:=by
  rcases h2 with h | ⟨h,h'⟩
  ·rw [h];rfl
  ·rw [dT h]
   rcases h' with h' | h' <;> rw [dT h'] <;> simp
 have e3:(decide (n.kind=11)&&(decide (n.a<0)||decide (999<n.a)))=false:=by
  by_cases h:n.kind=11
  ·have:=h3 h
   rw [dF (show ¬ n.a<0 by omega),dF (show ¬ 999<n.a by omega)];simp
  ·rw [dF h];rfl
 have e4:((!wB n.kind)&&decide (0<(n.l.length:Int)))=false:=by
  rcases h4 with h | h
  ·rw [h];rfl
  ·rw [h];simp
 rw [e2,e3,e4];rfl
theorem FX {k a b:Int}:Ej ⟨k,a,b,[]⟩:=fun i x hx=>by simp at hx
structure NmA (a:AutoAuto):Prop where
 len:a.l.length<=30
 vars:∀ s∈a.l,s.vars.length<=40/\∀ v∈s.vars,0<=v/\v<=999
 flds:∀ s∈a.l,s.fields.length<=30/\Ej ⟨7,0,0,edF s.fields⟩
 tags:∀ s∈a.l,s.tags.length<=30/\Ej ⟨8,0,0,edF s.tags⟩
 kids:∀ s∈a.l,(s.arrow=true->(0<=s.dom/\s.dom<(a.l.length:Int))/\0<=s.cod/\s.cod<(a.l.length:Int))/\(s.rec_=true->∀ e∈s.fields,0<=e.to_/\e.to_<(a.l.length:Int))/\(s.tag=true->∀ e∈s.tags,0<=e.to_/\e.to_<(a.l.length:Int))
theorem JZ {s:AutoState} (h:s.vars.length<=40):(AC s).length<=47:=by
 unfold AC
 have e:∀ {b:Bool} {x:ANd},(if b=true then [x] else []).length<=1:=fun {b x}=>by cases b <;> simp
 simp only [List.length_append,List.length_map]
 have:=@e s.all ⟨evK s.plus,0,0,[]⟩
 have:=@e s.int ⟨3,0,0,[]⟩
 have:=@e s.bool ⟨4,0,0,[]⟩
 have:=@e s.str ⟨5,0,0,[]⟩
 have:=@e s.arrow ⟨6,s.dom,s.cod,[]⟩
 have:=@e s.rec_ ⟨7,0,0,edF s.fields⟩
 have:=@e s.tag ⟨8,0,0,edF s.tags⟩
 omega
theorem HX {a:AutoAuto} (h:NmA a) {s:AutoState} (hs:s∈a.l) {all:Int} (hall:(a.l.length:Int)<=all) {n:ANd} (hn:n∈AC s):BC n all=true:=by
 have ev:evK s.plus=1\/evK s.plus=2:=by cases s.plus <;> simp [evK]
 obtain ⟨k6,k7,k8⟩:=h.kids s hs
 have leaf:∀ {k:Int},(k=1\/k=2\/k=3\/k=4\/k=5)->BC ⟨k,0,0,[]⟩ all=true:=fun {k} hk=>by
  refine Fp (by simp only;omega) (.inr ⟨rfl,.inr rfl⟩) (fun h=>by simp only at h;omega) (.inr rfl) FX (by simp) (fun q hq=>?_)
  have e:kidsL ⟨k,0,0,[]⟩=[]:=by rcases hk with rfl | rfl | rfl | rfl | rfl <;> rfl
  rw [e] at hq;cases hq
 unfold AC at hn;simp only [List.mem_append,KY,List.mem_map] at hn
 rcases hn with ((((((⟨_,rfl⟩ | ⟨_,rfl⟩) | ⟨_,rfl⟩) | ⟨_,rfl⟩) | ⟨v,hv,rfl⟩) | ⟨hb,rfl⟩) | ⟨hb,rfl⟩) | ⟨hb,rfl⟩
 ·exact leaf (by omega)
 ·exact leaf (by omega)
 ·exact leaf (by omega)
 ·exact leaf (by omega)
 ·exact Fp (by simp) (.inr ⟨rfl,.inl rfl⟩) (fun _=>(h.vars s hs).2 v hv) (.inr rfl) FX (by simp) (fun q hq=>by cases hq)
 ·refine Fp (by simp) (.inl rfl) (fun h=>by simp at h) (.inr rfl) FX (by simp) (fun q hq=>?_)
  have e:kidsL ⟨6,s.dom,s.cod,[]⟩=[s.dom,s.cod]:=rfl
  rw [e] at hq
  have:=k6 hb
  simp only [List.mem_cons,List.not_mem_nil,or_false] at hq
  rcases hq with rfl | rfl <;> omega
 ·obtain ⟨l1,l2⟩:=h.flds s hs
  refine Fp (by simp) (.inr ⟨rfl,.inr rfl⟩) (fun h=>by simp at h) (.inl rfl) l2 (by unfold edF;simpa using l1) (fun q hq=>?_)
  have e:kidsL ⟨7,0,0,edF s.fields⟩=(edF s.fields).map (·.at_):=rfl
  rw [e] at hq;obtain ⟨f,hf,rfl⟩:=List.mem_map.1 hq;obtain ⟨x,hx,rfl⟩:=List.mem_map.1 hf
  have:=k7 hb x hx
  simp only;omega
 ·obtain ⟨l1,l2⟩:=h.tags s hs
  refine Fp (by simp) (.inr ⟨rfl,.inr rfl⟩) (fun h=>by simp at h) (.inl rfl) l2 (by unfold edF;simpa using l1) (fun q hq=>?_)
  have e:kidsL ⟨8,0,0,edF s.tags⟩=(edF s.tags).map (·.at_):=rfl
  rw [e] at hq;obtain ⟨f,hf,rfl⟩:=List.mem_map.1 hq;obtain ⟨x,hx,rfl⟩:=List.mem_map.1 hf
  have:=k8 hb x hx
  simp only;omega
theorem J7 {p:Bool} {x y all:Int} (hx:0<=x/\x<all) (hy:0<=y/\y<all):BC ⟨joK p,x,y,[]⟩ all=true:=by
 refine Fp (by cases p <;> simp [joK]) (.inl (by cases p <;> rfl)) (fun h=>by cases p <;> simp [joK] at h) (.inr rfl) FX (by simp) (fun q hq=>?_)
 have e:kidsL ⟨joK p,x,y,[]⟩=[x,y]:=by cases p <;> rfl
 rw [e] at hq;simp only [List.mem_cons,List.not_mem_nil,or_false] at hq
 rcases hq with rfl | rfl <;> assumption
theorem Mj {p:Bool} {all:Int}:∀ (l:List ANd) (at_ off:Int),(∀ x∈l,BC x all=true)->0<=at_->at_<off->off+2*(l.length:Int)<=all->∀ n∈chn (joK p) at_ off l,BC n all=true
 | [],_,_,_,_,_,_,n,hn=>by simp [chn] at hn
 | x::r,at_,off,hx,h0,h1,h2,n,hn=>by
  simp only [List.length_cons] at h2;simp only [chn,List.mem_cons] at hn
  rcases hn with rfl | rfl | hn
  ·exact hx _ (by simp)
  ·exact J7 (by omega) (by omega)
  ·exact Mj r (off+1) (off+2) (fun y hy=>hx y (by simp [hy])) (by omega) (by omega) (by omega) n hn
theorem QW:∀ (l:List ANd) (at_ off:Int),at_<off->at_<=lastA at_ off l/\lastA at_ off l<off+2*(l.length:Int)
 | [],at_,off,h=>by simp only [lastA,List.length_nil];omega
 | x::r,at_,off,h=>by
  have:=QW r (off+1) (off+2) (by omega)
  simp only [lastA,List.length_cons];omega
theorem KJ:∀ (l:List AutoState) (n:Int),n<=offA n l
 | [],n=>Int.le_refl _
 | s::r,n=>by rw [GH];have:=KJ r (n+1+2*((AC s).length:Int));omega
theorem Mv {a:AutoAuto} (h:NmA a) {all:Int} (hall:(a.l.length:Int)<=all):∀ (l:List AutoState) (off:Int),(∀ s∈l,s∈a.l)->0<=off->offA off l<=all->(∀ n∈typH off l,BC n all=true)/\∀ n∈typB off l,BC n all=true
 | [],off,_,_,_=>⟨fun n hn=>by simp [typH] at hn,fun n hn=>by simp [typB] at hn⟩
 | s::r,off,hs,h0,h1=>by
  rw [GH] at h1
  have hle:=KJ r (off+1+2*((AC s).length:Int))
  obtain ⟨q1,q2⟩:=Mv h hall r (off+1+2*((AC s).length:Int)) (fun x hx=>hs x (by simp [hx])) (by omega) h1
  have hl:=QW (AC s) off (off+1) (by omega)
  constructor
  ·intro n hn
   simp only [typH,List.mem_cons] at hn
   rcases hn with rfl | hn
   ·exact J7 (by omega) (by omega)
   ·exact q1 n hn
  ·intro n hn
   simp only [typB,List.mem_append,blk,List.mem_cons] at hn
   rcases hn with (rfl | hn) | hn
   ·refine Fp (by cases s.plus <;> simp [noK]) (.inr ⟨rfl,.inr rfl⟩) (fun h=>by revert h;cases s.plus <;> simp [noK]) (.inr rfl) FX (by simp) (fun q hq=>?_)
    have e:kidsL ⟨noK s.plus,0,0,[]⟩=[]:=by cases s.plus <;> rfl
    rw [e] at hq;cases hq
   ·exact Mj _ _ _ (fun x hx=>HX h (hs s (by simp)) hall hx) (by omega) (by omega) (by omega) n hn
   ·exact q2 n hn
theorem OC {w:ATy} {k no:Int} (hno:no≠9/\no≠10) {l:List ANd} {i:Int} (h:Rep w k no l i):∃ m,endk w.l m i.toNat=true:=by
 have one:∀ {i:Int},In w i->(nd w i).kind≠9->(nd w i).kind≠10->∃ m,endk w.l m i.toNat=true:=fun {i} hi h9 h10=>by
  refine ⟨1,?_⟩;unfold endk;rw [Gv hi]
  simp only
  have:latB (nd w i).kind=false:=by unfold latB;rw [dF h9,dF h10];rfl
  rw [this];rfl
 induction h with
 | none hi h=>exact one hi (by rw [h];exact hno.1) (by rw [h];exact hno.2)
 | one hi h9 h10=>exact one hi h9 h10
 | @join i l m hi _ _ _ ih1 ih2 =>
  obtain ⟨m1,e1⟩:=ih1;obtain ⟨m2,e2⟩:=ih2;refine ⟨max m1 m2+1,?_⟩
  have e3:=FQ (Nat.le_max_left m1 m2) e1
  have e4:=FQ (Nat.le_max_right m1 m2) e2
  unfold endk;rw [Gv hi]
  simp only
  rw [Bool.or_eq_true,Bool.and_eq_true];exact .inr ⟨e3,e4⟩
theorem N7 {w:ATy} {k no:Int}:∀ (l:List ANd) (at_ off:Int) (pre:List ANd) (A B:List ANd),w.l=A++(chn k at_ off l++B)->off=(A.length:Int)->(∀ x∈l,x.kind≠9/\x.kind≠10)->Rep w k no pre at_ ->
  ∀ i:Nat,A.length<=i->i<A.length+2*l.length->∃ l',Rep w k no l' (i:Int)
 | [],at_,off,pre,A,B,_,_,_,_,i,h1,h2=>by simp only [List.length_nil] at h2;omega
 | x::r,at_,off,pre,A,B,hw,ho,hx,h,i,hi1,hi2=>by
  have h1:=F3 (w:=w) (A:=A) (x:=x) (B:=⟨k,at_,off,[]⟩::(chn k (off+1) (off+2) r++B)) (i:=off) (by rw [hw];simp [chn]) ho
  have h2:=F3 (w:=w) (A:=A++[x]) (x:=⟨k,at_,off,[]⟩) (B:=chn k (off+1) (off+2) r++B) (i:=off+1) (by rw [hw];simp [chn]) (by rw [List.length_append];simp;omega)
  have hk:=hx x (by simp)
  have r1:Rep w k no [x] off:=by
   have:=Rep.one (w:=w) (k:=k) (no:=no) h1.2 (by rw [h1.1];exact hk.1) (by rw [h1.1];exact hk.2)
   rw [h1.1] at this;exact this
  have r2:Rep w k no (pre++[x]) (off+1) := .join h2.2 (by rw [h2.1]) (by rw [h2.1];exact h) (by rw [h2.1];exact r1)
  simp only [List.length_cons] at hi2
  by_cases e0:i=A.length
  ·rw [e0,<- ho];exact ⟨_,r1⟩
  ·by_cases e1:i=A.length+1
   ·have:((i:Nat):Int)=off+1:=by omega
    rw [this];exact ⟨_,r2⟩
   ·exact N7 r (off+1) (off+2) (pre++[x]) (A++[x,⟨k,at_,off,[]⟩]) B (by rw [hw];simp [chn]) (by rw [List.length_append];simp;omega) (fun y hy=>hx y (by simp [hy])) r2 i (by rw [List.length_append];simp only [List.length_cons,List.length_nil];omega) (by rw [List.length_append];simp only [List.length_cons,List.length_nil];omega)
theorem MP {w:ATy}:∀ (l:List AutoState) (off:Int) (A B:List ANd),w.l=A++(typB off l++B)->off=(A.length:Int)->∀ i:Nat,A.length<=i->i<A.length+(typB off l).length->∃ p l',Rep w (joK p) (noK p) l' (i:Int)
 | [],off,A,B,_,_,i,h1,h2=>by simp [typB] at h2;omega
 | s::r,off,A,B,hw,ho,i,h1,h2=>by
  have n0:=F3 (w:=w) (A:=A) (x:=⟨noK s.plus,0,0,[]⟩) (B:=chn (joK s.plus) off (off+1) (AC s)++(typB (off+1+2*((AC s).length:Int)) r++B)) (i:=off) (by rw [hw];simp [typB,blk]) ho
  have r0:Rep w (joK s.plus) (noK s.plus) [] off := .none n0.2 (by rw [n0.1])
  simp only [typB,List.length_append,I1] at h2
  by_cases e0:i=A.length
  ·rw [e0,<- ho];exact ⟨_,_,r0⟩
  ·by_cases e1:i<A.length+1+2*(AC s).length
   ·obtain ⟨l',h⟩:=N7 (w:=w) (k:=joK s.plus) (no:=noK s.plus) (AC s) off (off+1) [] (A++[⟨noK s.plus,0,0,[]⟩]) (typB (off+1+2*((AC s).length:Int)) r++B) (by rw [hw];simp [typB,blk]) (by rw [List.length_append];simp;omega) (fun x hx=>Gg hx) r0 i (by rw [List.length_append];simp only [List.length_cons,List.length_nil];omega) (by rw [List.length_append];simp only [List.length_cons,List.length_nil];omega)
    exact ⟨_,_,h⟩
   ·exact MP r (off+1+2*((AC s).length:Int)) (A++blk off s) B (by rw [hw];simp [typB]) (by rw [List.length_append,I1];omega) i (by rw [List.length_append,I1];omega) (by rw [List.length_append,I1];omega)
theorem IN:∀ (l:List AutoState) (n:Int),(∀ s∈l,s.vars.length<=40)->offA n l<=n+95*(l.length:Int)
 | [],n,_=>by simp [offA]
 | s::r,n,h=>by
  rw [GH]
  have:=IN r (n+1+2*((AC s).length:Int)) (fun x hx=>h x (by simp [hx]))
  have:=JZ (h s (by simp))
  simp only [List.length_cons];omega
theorem MG (a:AutoAuto):((typeW a).l.length:Int)=offA (a.l.length:Int) a.l:=by
 unfold typeW;rw [List.length_append,G1,<- I4]
 omega
theorem N1 {a:AutoAuto} (h:NmA a):OkT (typeW a):=by
 have hb:=MG a
 have hle:=KJ a.l (a.l.length:Int)
 refine ⟨fun n hn=>?_,fun i hi=>?_⟩
 ·obtain ⟨h1,h2⟩:=Mv h (all:=((typeW a).l.length:Int)) (by omega) a.l (a.l.length:Int) (fun s hs=>hs) (by omega) (by omega)
  rcases List.mem_append.1 hn with hn | hn
  ·exact h1 n hn
  ·exact h2 n hn
 ·have hk:∀ p,noK p≠9/\noK p≠10:=fun p=>by cases p <;> decide
  by_cases h0:i<a.l.length
  ·obtain ⟨l,h1,_⟩:=Mi (a:=a) (i:=(i:Int)) (by omega) (by omega)
   exact OC (hk _) h1
  ·have hlen:(typH (a.l.length:Int) a.l).length=a.l.length:=G1 _ _
   obtain ⟨p,l',h1⟩:=MP (w:=typeW a) a.l (a.l.length:Int) (typH (a.l.length:Int) a.l) [] (by unfold typeW;simp) (by rw [hlen]) i (by omega) (by unfold typeW at hi;rw [List.length_append] at hi;exact hi);exact OC (hk _) h1
theorem MJ {a:AutoAuto} (h:NmA a) (hl:a.l.length<=20) (h0:0<=a.start) (h1:a.start<(a.l.length:Int)):MayO (typeW a)/\(typeW a).l.length<=96*a.l.length:=by
 have hb:=MG a
 have hle:=KJ a.l (a.l.length:Int)
 have hbd:=IN a.l (a.l.length:Int) (fun s hs=>(h.vars s hs).1)
 have hO:=N1 h
 refine ⟨⟨?_,fun n hn=>?_⟩,by omega⟩
 ·unfold mayT
  rw [if_neg (by omega),if_neg (by show ¬ (a.start<0\/_<=a.start);omega),if_pos ⟨hO.right,hO.ends⟩]
 ·have hr:=hO.right n hn
  unfold BC at hr;simp only [Bool.and_eq_true,decide_eq_true_eq] at hr;unfold NB
  have:=hr.2.2.2.2.1.2
  omega
theorem P2 {a:AutoAuto} (h:NmA a):RepA (typeW a) a.l (fun k=>k):=⟨N1 h,fun i h0 h1=>Mi h0 h1⟩
end Go.Proofs.YtcoghblhdjmbfaaGreat
namespace Go.Proofs.YtcoghblhdjmbfaaGreat
open Go.V
open Classical
theorem VU (l:List AutoEdge) (h:l.length<=40):BE l=some (edF l):=by
 unfold BE;refine bnd (Dm (φ:=fun n i s=>Bz l n (i,s)) (l:=l) (fun e=>(⟨e.name,e.to_⟩:AFd)) id 0 ?_ ?_ (by rw [FUv];omega) [] rfl) ?_
 ·intro n i x s hx hi hs
  simp only [Bz];rw [dT (by omega),cT,getI hx,oB,oB,Ab (by simp;omega),Ab (by constructor <;> omega)]
 ·intro n s hs
  simp only [Bz];rw [dF (by omega),cF_];rfl
 ·simp [edF]
theorem IY {b:Bool} {l:List ANd} {x:ANd} {n:Nat} (h:l.length<=n) (hn:n<=1000):∃ l',(bif b then grd ((l.length+([x]:List _).length)*48<=140737488355328) <| some (l++[x]) else some l:Option (List ANd))=some l'/\l'=l++(if b then [x] else [])/\l'.length<=n+1:=by
 cases b with
 | true=>exact ⟨l++[x],by rw [cT,Ab (by simp;omega)],by simp,by simp;omega⟩
 | false=>exact ⟨l,rfl,by simp,by omega⟩
theorem QX {b:Bool} {l:List ANd} {k:Int} {fs:List AutoEdge} {n:Nat} (h:l.length<=n) (hn:n<=1000) (hf:fs.length<=40):∃ l',(bif b then (BE fs).bind fun x2=>grd ((l.length+([(⟨k,0,0,x2⟩:ANd)]:List _).length)*48<=140737488355328) <| some (l++[(⟨k,0,0,x2⟩:ANd)]) else some l:Option (List ANd))=some l'/\l'=l++(if b then [⟨k,0,0,edF fs⟩] else [])/\l'.length<=n+1:=by
 cases b with
 | true=>exact ⟨l++[⟨k,0,0,edF fs⟩],by rw [cT,VU fs hf,oB,Ab (by simp;omega)],by simp,by simp;omega⟩
 | false=>exact ⟨l,rfl,by simp,by omega⟩
theorem TS (s:AutoState) (hs:s.vars.length<=40) (l:List ANd) (hl:l.length<=1000):Bh s FU (0,l)=some (l++s.vars.map (fun v=>(⟨11,v,0,[]⟩:ANd))):=by
 refine Dm (φ:=fun n i q=>Bh s n (i,q)) (l:=s.vars) (fun v=>(⟨11,v,0,[]⟩:ANd)) id l.length ?_ ?_ (by rw [FUv];omega) l rfl
 ·intro n i x q hx hi hq
  simp only [Bh];rw [dT (by omega),cT,getI hx,oB,Ab (by simp;omega),Ab (by constructor <;> omega)]
 ·intro n q hq
  simp only [Bh];rw [dF (by omega),cF_];rfl
theorem P5 (s:AutoState) (h:SB s):BR s (evK s.plus)=some (AC s):=by
 obtain ⟨h1,h2,h3⟩:=h;unfold BR;obtain ⟨l1,e1,f1,g1⟩:=IY (b:=s.all) (l:=[]) (x:=⟨evK s.plus,0,0,[]⟩) (n:=0) (by simp) (by omega);refine bnd e1 ?_;obtain ⟨l2,e2,f2,g2⟩:=IY (b:=s.int) (x:=⟨3,0,0,[]⟩) g1 (by omega);refine bnd e2 ?_;obtain ⟨l3,e3,f3,g3⟩:=IY (b:=s.bool) (x:=⟨4,0,0,[]⟩) g2 (by omega);refine bnd e3 ?_;obtain ⟨l4,e4,f4,g4⟩:=IY (b:=s.str) (x:=⟨5,0,0,[]⟩) g3 (by omega);refine bnd e4 (bnd (TS s h1 l4 (by omega)) ?_);obtain ⟨l5,f5⟩:∃ l5,l5=l4++s.vars.map (fun v=>(⟨11,v,0,[]⟩:ANd)):=⟨_,rfl⟩
 have g5:l5.length<=50:=by rw [f5];simp;omega
 rw [<- f5];obtain ⟨l6,e6,f6,g6⟩:=IY (b:=s.arrow) (x:=⟨6,s.dom,s.cod,[]⟩) g5 (by omega);refine bnd e6 ?_;obtain ⟨l7,e7,f7,g7⟩:=QX (b:=s.rec_) (k:=7) g6 (by omega) h2;refine bnd e7 ?_;obtain ⟨l8,e8,f8,g8⟩:=QX (b:=s.tag) (k:=8) g7 (by omega) h3;rw [e8,f8,f7,f6,f5,f4,f3,f2,f1];simp only [AC,List.nil_append,List.append_assoc]
theorem Oh {k:Int}:∀ (l:List ANd) (x:ANd) (at_ off:Int),chn k at_ off (l++[x])=chn k at_ off l++[x,⟨k,lastA at_ off l,off+2*(l.length:Int),[]⟩]/\lastA at_ off (l++[x])=off+2*(l.length:Int)+1
 | [],x,at_,off=>by simp [chn,lastA]
 | y::r,x,at_,off=>by
  obtain ⟨h1,h2⟩:=Oh (k:=k) r x (off+1) (off+2);simp only [List.cons_append,chn,lastA,h1,h2,List.length_cons];rw [show off+2+2*(r.length:Int)=off+2*((r.length+1:Nat):Int) by omega];exact ⟨rfl,rfl⟩
theorem T9 (k:Int) (xs:List ANd) (z at0:Int) (l:List ANd) (hx:xs.length<=1000) (hl:l.length<=1000000):Bt k xs FU (at0,0,l,z)=some (lastA at0 (l.length:Int) xs,l++chn k at0 (l.length:Int) xs,z):=by
 obtain ⟨o,e1,e2⟩:=BI (φ:=fun n i (q:Int×List ANd)=>Bt k xs n (q.1,i,q.2,z)) (l:=xs) (fun i q=>q=(lastA at0 (l.length:Int) (xs.take i),l++chn k at0 (l.length:Int) (xs.take i))) (fun o=>o=(lastA at0 (l.length:Int) xs,l++chn k at0 (l.length:Int) xs,z))
  (by
   rintro n i x q hx hi rfl
   left
   refine ⟨(lastA at0 (l.length:Int) (xs.take (i+1)),l++chn k at0 (l.length:Int) (xs.take (i+1))),?_,rfl⟩;obtain ⟨h1,h2⟩:=Oh (k:=k) (xs.take i) x at0 (l.length:Int);rw [takeS hx,h1,h2]
   have hln:(chn k at0 (l.length:Int) (xs.take i)).length=2*i:=by rw [M2,List.length_take];omega
   have htl:(xs.take i).length=i:=by rw [List.length_take];omega
   generalize hq:chn k at0 (l.length:Int) (xs.take i)=q at hln ⊢
   generalize lastA at0 (l.length:Int) (xs.take i)=at1
   have e:l++(q++[x,⟨k,at1,(l.length:Int)+2*((xs.take i).length:Int),[]⟩])=(l++q)++[x,⟨k,at1,((l++q).length:Int),[]⟩]:=by
    rw [List.append_assoc,List.length_append,hln,htl]
    congr 4
   rw [e]
   have e2:(l.length:Int)+2*((xs.take i).length:Int)+1=(((l++q)++[x,⟨k,at1,((l++q).length:Int),[]⟩]).length:Int) - 1:=by
    rw [List.length_append (bs:=[x,_]),List.length_append,hln,htl];simp;omega
   rw [e2]
   have hb:(l++q).length<=1002000:=by rw [List.length_append,hln];omega
   generalize l++q=m at hb ⊢
   simp only [Bt];rw [dT (show (i:Int)<(xs.length:Int) by omega),cT,getI hx,oB,Ab (by simp;omega),Ab (by constructor <;> (simp;omega)),Ab (by constructor <;> omega)])
  (by
   rintro n q rfl;refine ⟨_,?_,rfl⟩;simp only [Bt];rw [dF (by omega),cF_,List.take_length]) (by rw [FUv];omega) (at0,l) (by simp [chn,lastA])
 rw [e2] at e1;exact e1
theorem Ps:∀ (l:List AutoState) (n:Int),(∀ s∈l,SB s)->offA n l<=n+95*(l.length:Int):=fun l n h=>IN l n fun s hs=>(h s hs).1
theorem UY (a:AutoAuto) (h:a.l.length<=2001) (z:Int):Br a FU (0,[],z)=some (List.replicate a.l.length ⟨0,0,0,[]⟩,z):=by
 have:=Dm (φ:=fun n i q=>Br a n (i,q,z)) (l:=a.l) (fun _=>(⟨0,0,0,[]⟩:ANd)) (fun q=>(q,z)) 0 (by
  intro n i x q hx hi hq
  simp only [Br];rw [dT (by omega),cT,Ab (by simp;omega),Ab (by constructor <;> omega)]) (by
  intro n q hq
  simp only [Br];rw [dF (by omega),cF_]) (by rw [FUv];omega) [] rfl
 rw [List.map_const',List.nil_append] at this;exact this
def upN (a:AutoAuto) (i:Nat):List ANd:=typH (a.l.length:Int) (a.l.take i)++(List.replicate (a.l.length - i) ⟨0,0,0,[]⟩++typB (a.l.length:Int) (a.l.take i))
theorem UN (a:AutoAuto) (h:AB a) (z:Int):Bp a FU (0,List.replicate a.l.length ⟨0,0,0,[]⟩,z)=some ((typeW a).l,z):=by
 obtain ⟨hlen,hS⟩:=h;obtain ⟨o,e1,e2⟩:=BI (φ:=fun n i q=>Bp a n (i,q,z)) (l:=a.l) (fun i q=>q=upN a i) (fun o=>o=((typeW a).l,z))
  (by
   rintro n i s q hx hi rfl
   left
   refine ⟨upN a (i+1),?_,rfl⟩
   have hSs:SB s:=hS s (List.mem_of_getElem? hx)
   obtain ⟨h1,h2⟩:=JW (a.l.take i) s [] (a.l.length:Int)
   have hH:(typH (a.l.length:Int) (a.l.take i)).length=i:=by rw [G1,List.length_take];omega
   have hB:(a.l.length:Int)+((typB (a.l.length:Int) (a.l.take i)).length:Int)=offA (a.l.length:Int) (a.l.take i):=I4 _ _
   have hOb:offA (a.l.length:Int) (a.l.take i)<=(a.l.length:Int)+95*((a.l.take i).length:Int):=Ps _ _ fun t ht=>hS t (List.mem_of_mem_take ht)
   have htl:(a.l.take i).length=i:=by rw [List.length_take];omega
   rw [htl] at hOb
   have hr:List.replicate (a.l.length - i) (⟨0,0,0,[]⟩:ANd)=⟨0,0,0,[]⟩::List.replicate (a.l.length - (i+1)) ⟨0,0,0,[]⟩:=by
    rw [show a.l.length - i=(a.l.length - (i+1))+1 by omega,List.replicate_succ]
   have hlu:((upN a i).length:Int)=offA (a.l.length:Int) (a.l.take i):=by
    unfold upN;rw [List.length_append,List.length_append,hH,List.length_replicate];omega
   have hnew:upN a (i+1)=((upN a i)++blk (offA (a.l.length:Int) (a.l.take i)) s).set i (hdN (offA (a.l.length:Int) (a.l.take i)) s):=by
    unfold upN;rw [takeS hx,h1,h2,hr];simp only [typH,typB,List.append_nil,List.append_assoc,List.cons_append,List.nil_append];rw [UR hH]
   rw [hnew]
   have hub:(upN a i).length<=300000:=by omega
   have hget:idx (upN a i++blk (offA (a.l.length:Int) (a.l.take i)) s) (i:Int)=some ⟨0,0,0,[]⟩:=by
    refine getI ?_;unfold upN;rw [hr];simp only [List.append_assoc,List.cons_append];rw [List.getElem?_append_right (by omega),hH,Nat.sub_self];rfl
   rw [<- hlu] at hget ⊢
   generalize upN a i=u at hub hget hlu ⊢
   have hpl:(AC s).length<=47:=JZ hSs.1
   have hlast:((u++[(⟨noK s.plus,0,0,[]⟩:ANd)]).length:Int)=(u.length:Int)+1:=by simp
   have l3:=T9 (joK s.plus) (AC s) z (((u++[(⟨noK s.plus,0,0,[]⟩:ANd)]).length:Int) - 1) (u++[⟨noK s.plus,0,0,[]⟩]) (by omega) (by simp;omega)
   rw [hlast,show (u.length:Int)+1 - 1=u.length by omega] at l3
   have hbk:u++blk (u.length:Int) s=(u++[⟨noK s.plus,0,0,[]⟩])++chn (joK s.plus) (u.length:Int) ((u.length:Int)+1) (AC s):=by
    unfold blk;simp
   rw [hbk] at hget ⊢
   have hcond:(bif s.plus then some (9,2,1) else some (10,1,2):Option (Int×Int×Int))=some (joK s.plus,noK s.plus,evK s.plus):=by cases s.plus <;> rfl
   simp only [Bp];rw [dT (show (i:Int)<(a.l.length:Int) by omega),cT,getI hx,oB,hcond,oB]
   show grd _ _=_
   rw [Ab (by simp;omega),Ab (by rw [hlast];constructor <;> omega)];rw [show BR (⟨s.plus,s.all,s.int,s.bool,s.str,s.arrow,s.rec_,s.tag,s.vars,s.dom,s.cod,s.fields,s.tags⟩:AutoState) (evK s.plus)=some (AC s) from P5 s hSs,oB];rw [hlast,show (u.length:Int)+1 - 1=u.length by omega,l3,oB]
   show Option.bind (idx _ _) _=_
   rw [hget,oB,Ab (by constructor <;> omega)]
   rfl)
  (by
   rintro n q rfl;refine ⟨_,?_,rfl⟩;simp only [Bp];rw [dF (by omega),cF_];unfold upN;rw [List.take_length,Nat.sub_self,List.replicate_zero,List.nil_append];rfl) (by rw [FUv];omega) (List.replicate a.l.length ⟨0,0,0,[]⟩) (by simp [upN,typH,typB])
 rw [e2] at e1;exact e1
theorem RF (a:AutoAuto) (h:AB a):Ct a=some (typeW a):=by
 unfold Ct;refine bnd (UY a h.1 a.start) ?_;refine bnd (UN a h a.start) ?_
 rfl
end Go.Proofs.YtcoghblhdjmbfaaGreat
namespace Go.Proofs.YtcoghblhdjmbfaaGreat
open Go.V
open Classical
theorem Kj:∀ (m:Nat) (l:List Int),l.Nodup->(∀ x∈l,0<=x/\x<(m:Int))->l.length<=m
 | 0,l,_,h=>by
  cases l with
  | nil=>simp
  | cons a l=>have:=h a (by simp);omega
 | m+1,l,hn,h=>by
  have h1:=Kj m (l.erase (m:Int)) (hn.erase _) (fun x hx=>by
   have h2:=h x (List.mem_of_mem_erase hx)
   have h3:x≠(m:Int):=fun e=>by rw [e] at hx;exact absurd hx (by rw [hn.mem_erase_iff];simp)
   omega)
  have:=List.length_erase_le (a:=(m:Int)) (l:=l)
  have h4:l.length<=(l.erase (m:Int)).length+1:=by rw [List.length_erase];split <;> omega
  omega
section
variable {t:ATy} {S:Int->Prop} {D:ANd->Prop} {i:Int}
end
theorem getN {t:ATy} {i:Int} (h:In t i):idx t.l i=some (nd t i):=by unfold idx;rw [if_pos h.1,Gv h]
theorem Kq:∀ x:List UInt8,Op.bytesLess x x=false
 | []=>rfl
 | a::x=>by
  unfold Op.bytesLess;rw [Kq x]
  have:¬ a<a:=by intro h;exact absurd (UInt8.lt_iff_toNat_lt.1 h) (Nat.lt_irrefl _)
  simp [this]
theorem K5:∀ x y z:List UInt8,Op.bytesLess x y=true->Op.bytesLess y z=true->Op.bytesLess x z=true
 | x,y,[],_,h=>by cases y <;> cases h
 | [],_,_::_,_,_=>rfl
 | a::x,[],c::z,h,_=>by cases h
 | a::x,b::y,c::z,h1,h2=>by
  unfold Op.bytesLess at h1 h2 ⊢;simp only [Bool.or_eq_true,Bool.and_eq_true,decide_eq_true_eq,beq_iff_eq,UInt8.lt_iff_toNat_lt] at h1 h2 ⊢
  rcases h1 with h1 | ⟨rfl,h1⟩
  ·rcases h2 with h2 | ⟨rfl,h2⟩
   ·left;omega
   ·left;exact h1
  ·rcases h2 with h2 | ⟨rfl,h2⟩
   ·left;exact h2
   ·right;exact ⟨rfl,K5 x y z h1 h2⟩
theorem Sq {n:ANd} (h:Ej n):∀ (j i:Nat) (x y:AFd),i<j->n.l[i]? = some x->n.l[j]? = some y->Op.bytesLess x.name y.name=true:=by
 intro j
 induction j with
 | zero=>intro i x y h1;omega
 | succ j ih =>
  intro i x y h1 hx hy
  have hj:j<n.l.length:=by have:=(List.getElem?_eq_some_iff.1 hy).1;omega
  have h3:=(h (j+1) y hy).2 (by omega) n.l[j] (by rw [Nat.add_sub_cancel];exact List.getElem?_eq_getElem hj)
  by_cases h4:i=j
  ·subst h4
   rw [List.getElem?_eq_getElem hj] at hx;rw [<- Option.some.inj hx];exact h3
  ·exact K5 _ _ _ (ih i x _ (by omega) hx (List.getElem?_eq_getElem hj)) h3
theorem O9 {n:ANd} (h:Ej n):(n.l.map (·.name)).Nodup:=by
 unfold List.Nodup;rw [List.pairwise_iff_getElem]
 intro i j hi hj hij e
 rw [List.length_map] at hi hj
 have:=Sq h j i n.l[i] n.l[j] hij (List.getElem?_eq_getElem hi) (List.getElem?_eq_getElem hj)
 rw [List.getElem_map,List.getElem_map] at e;rw [e,Kq] at this
 cases this
theorem Pf {n:ANd} {all:Int} (h:BC n all=true):Ej n:=by
 unfold BC at h;simp only [Bool.and_eq_true,decide_eq_true_eq] at h;exact h.2.2.2.2.1.1
theorem Tk {f:Int->Option Int}:∀ l:List Int,(l.filterMap f).length<=l.length/\(l.length<=(l.filterMap f).length↔∀ i∈l,f i≠none)
 | []=>by simp
 | i::l=>by
  obtain ⟨h1,h2⟩:=Tk (f:=f) l;rw [List.filterMap_cons]
  cases hi:f i with
  | none=>simp only [List.length_cons,List.mem_cons,forall_eq_or_imp,hi];exact ⟨by omega,⟨fun h=>by omega,fun h=>absurd rfl h.1⟩⟩
  | some k =>
   simp only [List.length_cons,List.mem_cons,forall_eq_or_imp,hi];exact ⟨by omega,by rw [<- h2];simp⟩
theorem setl2 {l1 l3:List Int} {i:Nat} {v:Int} (hv:l1[i]? = some v) (h3:l3.length<=1000000):∃ k:Nat,D2 l1 (i:Int) l3 FU 0=some (k:Int)/\k<=l3.length/\(∀ j x,j<k->l3[j]? = some x->x<v)/\∀ x,l3[k]? = some x->¬ x<v:=by
 obtain ⟨o,e1,k,e2,e3,e4,e5⟩:=BI (φ:=fun n k (_:Unit)=>D2 l1 (i:Int) l3 n k) (l:=l3) (fun k _=>∀ j x,j<k->l3[j]? = some x->x<v) (fun o=>∃ k:Nat,o=(k:Int)/\k<=l3.length/\(∀ j x,j<k->l3[j]? = some x->x<v)/\∀ x,l3[k]? = some x->¬ x<v)
  (by
   intro n k x s hx hk hI
   simp only [D2];rw [dT (show (k:Int)<(l3.length:Int) by omega),cT,getI hx,oB,getI hv,oB]
   by_cases hlt:x<v
   ·left
    rw [dT hlt,cT,Ab (by constructor <;> omega)];refine ⟨s,rfl,fun j y hj hy=>?_⟩
    by_cases hjk:j=k
    ·subst hjk;rw [hx] at hy;cases hy;exact hlt
    ·exact hI j y (by omega) hy
   ·right
    rw [dF hlt,cF_];exact ⟨_,rfl,k,rfl,by omega,hI,fun y hy=>by rw [hx] at hy;cases hy;exact hlt⟩)
  (by
   intro n s hI
   simp only [D2];rw [dF (by omega),cF_];exact ⟨_,rfl,l3.length,rfl,Nat.le_refl _,hI,fun y hy=>by rw [List.getElem?_eq_none (Nat.le_refl _)] at hy;cases hy⟩) (by rw [FUv];omega) () (by intro j x hj;omega)
 exact ⟨k,by rw [e1,e2],e3,e4,e5⟩
theorem PK {l:List Int} {k:Nat} {v:Int} (h:l.Pairwise (· < ·)) (hk:k<=l.length) (h1:∀ j x,j<k->l[j]? = some x->x<v) (h2:∀ x,l[k]? = some x->v<x):(l.take k++[v]++l.drop k).Pairwise (· < ·)/\∀ x,x∈l.take k++[v]++l.drop k↔x∈l\/x=v:=by
 have e:l=l.take k++l.drop k:=(List.take_append_drop k l).symm
 have ht:∀ x∈l.take k,x<v:=fun x hx=>by
  obtain ⟨j,hj⟩:=List.getElem?_of_mem hx
  have hj2:j<k:=by have:=(List.getElem?_eq_some_iff.1 hj).1;rw [List.length_take] at this;omega
  rw [List.getElem?_take,if_pos hj2] at hj;exact h1 j x hj2 hj
 have hp:=h
 rw [e,List.pairwise_append] at hp
 have hd:∀ x∈l.drop k,v<x:=fun x hx=>by
  by_cases hkl:k<l.length
  ·have h3:=h2 _ (List.getElem?_eq_getElem hkl)
   rw [List.drop_eq_getElem_cons hkl] at hx
   have h4:=hp.2.1
   rw [List.drop_eq_getElem_cons hkl,List.pairwise_cons] at h4
   rcases List.mem_cons.1 hx with rfl | hx
   ·exact h3
   ·have:=h4.1 x hx;omega
  ·rw [List.drop_eq_nil_of_le (by omega)] at hx;cases hx
 refine ⟨?_,fun x=>?_⟩
 ·rw [List.append_assoc,List.pairwise_append]
  refine ⟨hp.1,?_,fun x hx y hy=>?_⟩
  ·rw [List.cons_append,List.nil_append,List.pairwise_cons];exact ⟨hd,hp.2.1⟩
  ·rw [List.cons_append,List.nil_append] at hy
   rcases List.mem_cons.1 hy with rfl | hy
   ·exact ht x hx
   ·exact hp.2.2 x hx y hy
 ·have e2:x∈l↔x∈l.take k\/x∈l.drop k:=by
   constructor
   ·intro h;rw [e] at h;exact List.mem_append.1 h
   ·intro h;rw [e];exact List.mem_append.2 h
  rw [e2];simp only [List.mem_append,List.mem_singleton]
  constructor
  ·rintro ((h | h) | h)
   ·exact .inl (.inl h)
   ·exact .inr h
   ·exact .inl (.inr h)
  ·rintro ((h | h) | h)
   ·exact .inl (.inl h)
   ·exact .inr h
   ·exact .inl (.inr h)
theorem Hv {l:List Int} (hl:l.length<=100000):Dr l=some (cs l):=by
 unfold Dr;obtain ⟨o,e1,e2,e3,_⟩:=BI (φ:=fun n i s=>Dv l n (i,s)) (l:=l) (fun i s=>s.Pairwise (· < ·)/\(∀ x,x∈s↔x∈l.take i)/\s.length<=i) (fun o=>o.Pairwise (· < ·)/\(∀ x,x∈o↔x∈l)/\o.length<=l.length)
  (by
   rintro n i v s hv hi ⟨h1,h2,h3⟩
   left
   obtain ⟨k,e1,e2,e3,e4⟩:=setl2 hv (l3:=s) (by omega);simp only [Dv];rw [dT (show (i:Int)<(l.length:Int) by omega),cT,e1,oB]
   have hlt:(s.take k).length=k:=by rw [List.length_take];omega
   have hins:(∀ x,s[k]? = some x->v<x)->(s.take k++[v]++s.drop k).Pairwise (· < ·)/\(∀ x,x∈s.take k++[v]++s.drop k↔x∈l.take (i+1))/\(s.take k++[v]++s.drop k).length<=i+1:=fun h=>by
    obtain ⟨a,b⟩:=PK h1 e2 e3 h;refine ⟨a,fun x=>by rw [b x,h2 x,takeS hv];simp,?_⟩;simp only [List.length_append,List.length_drop,List.length_cons,List.length_nil];omega
   by_cases hk:k<s.length
   ·have hy:s[k]? = some s[k]:=List.getElem?_eq_getElem hk
    rw [dT (show (k:Int)<(s.length:Int) by omega),cT,getI hy,oB,getI hv,oB]
    by_cases he:s[k]=v
    ·rw [dT he,cT,Ab (by constructor <;> omega)]
     refine ⟨_,rfl,h1,fun x=>?_,by omega⟩;rw [h2 x,takeS hv]
     constructor
     ·intro h;exact List.mem_append_left _ h
     ·intro h
      rcases List.mem_append.1 h with h | h
      ·exact h
      ·rw [List.mem_singleton] at h;subst h;exact (h2 _).1 (he▸List.getElem_mem hk)
    ·rw [dF he,cF_,Gd e2,oB,Ab (by omega),oB,Ab (by simp only [List.nil_append,List.length_cons,List.length_nil];omega),Jk rfl e2,oB,Ab (by simp only [List.nil_append,List.length_append,List.length_drop,List.length_cons,List.length_nil];omega),Ab (by constructor <;> omega)]
     exact ⟨_,rfl,hins fun x hx=>by have:=e4 x hx;rw [hy] at hx;cases hx;omega⟩
   ·rw [dF (by omega),cF_,Gd e2,oB,Ab (by omega),getI hv,oB,Ab (by simp only [List.nil_append,List.length_cons,List.length_nil];omega),Jk rfl e2,oB,Ab (by simp only [List.nil_append,List.length_append,List.length_drop,List.length_cons,List.length_nil];omega),Ab (by constructor <;> omega)]
    exact ⟨_,rfl,hins fun x hx=>by rw [List.getElem?_eq_none (by omega)] at hx;cases hx⟩)
  (by
   rintro n s ⟨h1,h2,h3⟩;simp only [Dv];rw [dF (by omega),cF_];exact ⟨s,rfl,h1,fun x=>by rw [h2 x,List.take_length],h3⟩) (by rw [FUv];omega) [] ⟨List.Pairwise.nil,by simp,by simp⟩
 rw [e1,oB,Rd e2 e3]
theorem Lb (l:List Int) (g:Int->Bool):decide (0<=(match l.findIdx? g with | some i=>(i:Int) | none => -1))=l.any g:=by
 cases hf:l.findIdx? g with
 | none =>
  have:l.any g=false:=by
   rw [List.any_eq_false]
   intro x hx
   have:=List.findIdx?_eq_none_iff.1 hf x hx
   simp [this]
  rw [this];rfl
 | some i =>
  obtain ⟨hi,h1,_⟩:=List.findIdx?_eq_some_iff_getElem.1 hf;rw [List.any_eq_true.2 ⟨l[i],List.getElem_mem hi,h1⟩];exact dT (by show (0:Int)<=(i:Int);omega)
theorem Ly {t:ATy} {l:List Int} (h:∀ i∈l,In t i) (hl:l.length<=1000) (k:Int):Fb t l k=some (match l.findIdx? (fun i=>decide ((nd t i).kind=k)) with | some i=>(i:Int) | none => -1):=by
 unfold Fb;rw [Fc (φ:=D9 t l k) (l:=l) (fun i=>(i:Int)) (fun i=>decide ((nd t i).kind=k)) ?_ ?_ (by rw [FUv];omega)]
 ·rw [oB]
  cases l.findIdx? (fun i=>decide ((nd t i).kind=k)) <;> rfl
 ·intro n i x hx hi
  simp only [D9];rw [dT (show (i:Int)<(l.length:Int) by omega),cT,getI hx,oB,getN (h x (List.mem_of_getElem? hx)),oB];exact ⟨fun hq=>by rw [hq,cF_,Ab (by constructor <;> omega)],fun hq=>by rw [hq,cT]⟩
 ·intro n
  simp only [D9];rw [dF (by omega),cF_]
theorem Rx {t:ATy} {l:List Int} (h:∀ i∈l,In t i) (hl:l.length<=1000):ED t l 9 10=some (match l.findIdx? (fun i=>latB (nd t i).kind) with | some i=>(i:Int) | none => -1):=by
 unfold ED;rw [Fc (φ:=DK t l 9 10) (l:=l) (fun i=>(i:Int)) (fun i=>latB (nd t i).kind) ?_ ?_ (by rw [FUv];omega)]
 ·rw [oB]
  cases l.findIdx? (fun i=>latB (nd t i).kind) <;> rfl
 ·intro n i x hx hi
  simp only [DK];rw [dT (show (i:Int)<(l.length:Int) by omega),cT,getI hx,oB,getN (h x (List.mem_of_getElem? hx)),oB]
  change (latB (nd t x).kind=false->(bif latB (nd t x).kind then _ else _)=_)/\(latB (nd t x).kind=true->(bif latB (nd t x).kind then _ else _)=_)
  exact ⟨fun hq=>by rw [hq,cF_,Ab (by constructor <;> omega)],fun hq=>by rw [hq,cT]⟩
 ·intro n
  simp only [DK];rw [dF (by omega),cF_]
theorem Sh {l m:List Int} {i:Nat} (hi:i<l.length) (hl:l.length<=1000) (hm:m.length<=1000):Dn l (i:Int) m=some (cs (l.take i++l.drop (i+1)++m)):=by
 unfold Dn;rw [Gd (by omega),oB,Ab (by rw [List.length_take];omega),Ab (by constructor <;> omega),show ((i:Int)+1)=((i+1:Nat):Int) by omega,Jk rfl (by omega),oB,Ab (by simp only [List.nil_append,List.length_take,List.length_drop];omega),Ab (by simp only [List.nil_append,List.length_append,List.length_take,List.length_drop];omega),List.nil_append,Hv (by simp only [List.length_append,List.length_take,List.length_drop];omega),oB]
theorem NS {n:ANd} (h:NB n) (s:List UInt8):FP n s=some ((atN n s).getD (-1)):=by
 have h40:n.l.length<=40:=h
 unfold FP;obtain ⟨o,e1,e2⟩:=BI (φ:=fun k i (_:Unit)=>D7 n s k i) (l:=n.l) (fun i _=>(n.l.take i).find? (fun f=>decide (f.name=s))=none) (fun o=>o.on (fun r=>some r) (fun _=>some (-1))=some ((atN n s).getD (-1)))
  (by
   intro k i x u hx hi hI
   simp only [D7];rw [dT (show (i:Int)<(n.l.length:Int) by omega),cT,getI hx,oB]
   by_cases hs:x.name=s
   ·right
    rw [dT hs,cT,oB];refine ⟨_,rfl,?_⟩
    have e:n.l=n.l.take i++x::n.l.drop (i+1):=by
     have hx2:=(List.getElem?_eq_some_iff.1 hx).2
     rw [<- hx2,<- List.drop_eq_getElem_cons hi,List.take_append_drop]
    have:atN n s=some x.at_:=by
     unfold atN;rw [e,List.find?_append,hI,List.find?_cons_of_pos (by simpa using hs)];rfl
    rw [this];rfl
   ·left
    rw [dF hs,cF_,Ab (by constructor <;> omega)];refine ⟨u,rfl,?_⟩;rw [takeS hx,List.find?_append,hI,List.find?_cons_of_neg (by simpa using hs)];rfl)
  (by
   intro k u hI
   simp only [D7];rw [dF (by omega),cF_];refine ⟨_,rfl,?_⟩;rw [List.take_length] at hI;unfold atN;rw [hI];rfl) (by rw [FUv];omega) () (by simp)
 rw [e1,oB,e2]
theorem Kd {t:ATy} (hO:OkT t) (hN:∀ n∈t.l,NB n) {l:List Int} (h:∀ i∈l,In t i) (hl:l.length<=1000) (s:List UInt8):Ez t l s=some (cs (AP t l s)):=by
 unfold Ez
 have hlen:∀ m:List Int,m.length<=1000->(AP t m s).length<=1000:=fun m hm=>Nat.le_trans (List.length_filterMap_le _ _) hm
 obtain ⟨o,e1,e2⟩:=BI (φ:=fun k i q=>Db t l s k (i,q)) (l:=l) (fun i q=>q=AP t (l.take i) s) (fun o=>o=AP t l s)
  (by
   rintro k i x q hx hi rfl
   left
   have hxi:=h x (List.mem_of_getElem? hx)
   have hl2:=hlen (l.take i) (by rw [List.length_take];omega)
   simp only [Db];rw [dT (show (i:Int)<(l.length:Int) by omega),cT,getI hx,oB,getN hxi,oB,NS (hN _ (F9 hxi)),oB]
   have ep:AP t (l.take (i+1)) s=AP t (l.take i) s++(atN (nd t x) s).toList:=by
    rw [takeS hx];unfold AP;rw [List.filterMap_append]
    congr 1
   rw [ep]
   cases ha:atN (nd t x) s with
   | none =>
    rw [show decide (0<=(none:Option Int).getD (-1))=false from rfl,cF_,Ab (by constructor <;> omega)];exact ⟨_,rfl,by simp⟩
   | some z =>
    have hz:=(Ka hO hxi ha).1
    rw [show (some z).getD (-1)=z from rfl,dT hz,cT,Ab (by simp only [List.length_cons,List.length_nil];omega),Ab (by constructor <;> omega)];exact ⟨_,rfl,by simp⟩)
  (by
   rintro k q rfl;simp only [Db];rw [dF (by omega),cF_];exact ⟨_,rfl,by rw [List.take_length]⟩) (by rw [FUv];omega) [] (by simp [AP])
 rw [e1,oB,e2,Hv (by have:=hlen l hl;omega),oB]
theorem Rj {t:ATy} (hO:OkT t) (hN:∀ n∈t.l,NB n) {l:List Int} (h:∀ i∈l,In t i) (hl:l.length<=1000) (s:List UInt8):EV t l s=some ((AP t l s).length:Int):=by
 unfold EV
 have hlen:∀ m:List Int,m.length<=1000->(AP t m s).length<=1000:=fun m hm=>Nat.le_trans (List.length_filterMap_le _ _) hm
 obtain ⟨o,e1,e2⟩:=BI (φ:=fun k i q=>CB t l s k (q,i)) (l:=l) (fun i q=>q=((AP t (l.take i) s).length:Int)) (fun o=>o=((AP t l s).length:Int))
  (by
   rintro k i x q hx hi rfl
   left
   have hxi:=h x (List.mem_of_getElem? hx)
   have hl2:=hlen (l.take i) (by rw [List.length_take];omega)
   simp only [CB];rw [dT (show (i:Int)<(l.length:Int) by omega),cT,getI hx,oB,getN hxi,oB,NS (hN _ (F9 hxi)),oB]
   have ep:AP t (l.take (i+1)) s=AP t (l.take i) s++(atN (nd t x) s).toList:=by
    rw [takeS hx];unfold AP;rw [List.filterMap_append]
    congr 1
   rw [ep]
   cases ha:atN (nd t x) s with
   | none =>
    rw [show decide (0<=(none:Option Int).getD (-1))=false from rfl,cF_,Ab (by constructor <;> omega)];exact ⟨_,rfl,by simp⟩
   | some z =>
    have hz:=(Ka hO hxi ha).1
    rw [show (some z).getD (-1)=z from rfl,dT hz,cT,Ab (by constructor <;> omega),Ab (by constructor <;> omega)];exact ⟨_,rfl,by simp⟩)
  (by
   rintro k q rfl;simp only [CB];rw [dF (by omega),cF_];exact ⟨_,rfl,by rw [List.take_length]⟩) (by rw [FUv];omega) 0 (by simp [AP])
 rw [e1,oB,e2]
theorem SD {t:ATy} {l:List Int} (h:∀ i∈l,In t i) (hl:l.length<=1000) (k:Int):It t l k=some (ofK t l k):=by
 unfold It
 have hlen:∀ m:List Int,m.length<=1000->(ofK t m k).length<=1000:=fun m hm=>Nat.le_trans (List.length_filter_le _ _) hm
 obtain ⟨o,e1,e2⟩:=BI (φ:=fun n i q=>Ey t l k n (i,q)) (l:=l) (fun i q=>q=ofK t (l.take i) k) (fun o=>o=ofK t l k)
  (by
   rintro n i x q hx hi rfl
   left
   have hxi:=h x (List.mem_of_getElem? hx)
   have hl2:=hlen (l.take i) (by rw [List.length_take];omega)
   simp only [Ey];rw [dT (show (i:Int)<(l.length:Int) by omega),cT,getI hx,oB,getN hxi,oB]
   have ep:ofK t (l.take (i+1)) k=ofK t (l.take i) k++(if (nd t x).kind=k then [x] else []):=by
    rw [takeS hx];unfold ofK;rw [List.filter_append]
    congr 1
    by_cases hk:(nd t x).kind=k
    ·simp [hk]
    ·simp [hk]
   rw [ep]
   by_cases hk:(nd t x).kind=k
   ·rw [dT hk,cT,oB,Ab (by simp only [List.length_cons,List.length_nil];omega),Ab (by constructor <;> omega),if_pos hk]
    exact ⟨_,rfl,rfl⟩
   ·rw [dF hk,cF_,Ab (by constructor <;> omega),if_neg hk,List.append_nil]
    exact ⟨_,rfl,rfl⟩)
  (by
   rintro n q rfl;simp only [Ey];rw [dF (by omega),cF_];exact ⟨_,rfl,by rw [List.take_length]⟩) (by rw [FUv];omega) [] (by simp [ofK])
 rw [e1,oB,e2]
theorem all_parts {t:ATy} {l:List Int} {s:List UInt8}:(AP t l s).length=l.length↔(l.all fun j=>(atN (nd t j) s).isSome)=true:=by
 obtain ⟨h1,h2⟩:=Tk (f:=fun i=>atN (nd t i) s) l;unfold AP;rw [List.all_eq_true]
 constructor
 ·intro h j hj
  have:=h2.1 (by omega) j hj
  cases hq:atN (nd t j) s with
  | none=>exact absurd hq this
  | some _=>rfl
 ·intro h
  have:=h2.2 fun j hj=>by have:=h j hj;cases hq:atN (nd t j) s with
   | none=>rw [hq] at this;cases this
   | some _=>simp
  omega
theorem MO {t:ATy} (hO:OkT t) (hN:∀ n∈t.l,NB n) {l:List Int} (h:∀ i∈l,In t i) (hl:l.length<=1000) (hne:l≠[]):D3 t l=some (DP t l):=by
 obtain ⟨a,m,rfl⟩:=List.exists_cons_of_ne_nil hne
 have ha:=h a (by simp)
 have h40:(nd t a).l.length<=40:=hN _ (F9 ha)
 have hnd:=O9 (Pf (hO.right _ (F9 ha)))
 unfold D3
 have i0:idx (a::m) 0=some a:=rfl
 obtain ⟨o,e1,e2⟩:=BI (φ:=fun n i q=>Df t (a::m) n (i,q)) (l:=(nd t a).l) (fun i q=>q=(((nd t a).l.take i).map (·.name)).filter fun s=>(a::m).all fun j=>(atN (nd t j) s).isSome) (fun o=>o=DP t (a::m))
  (by
   rintro n i x q hx hi rfl
   left
   have hql:((((nd t a).l.take i).map (·.name)).filter fun s=>(a::m).all fun j=>(atN (nd t j) s).isSome).length<=40:=Nat.le_trans (List.length_filter_le _ _) (by rw [List.length_map,List.length_take];omega)
   have hnot:x.name∉(((nd t a).l.take i).map (·.name)).filter fun s=>(a::m).all fun j=>(atN (nd t j) s).isSome:=by
    intro hm
    have hm2:=(List.mem_filter.1 hm).1
    have e:(nd t a).l.map (·.name)=((nd t a).l.take i).map (·.name)++x.name::((nd t a).l.drop (i+1)).map (·.name):=by
     have hx2:=(List.getElem?_eq_some_iff.1 hx).2
     rw [<- hx2,<- List.map_cons,<- List.drop_eq_getElem_cons hi,<- List.map_append,List.take_append_drop]
    rw [e,List.nodup_append] at hnd;exact hnd.2.2 _ hm2 _ (List.mem_cons_self) rfl
   simp only [Df];rw [i0,oB,getN ha,oB,dT (show (i:Int)<((nd t a).l.length:Int) by omega),cT,oB,getN ha,oB,getI hx,oB,Kd hO hN h hl,oB,Rj hO hN h hl,oB,RH _ _ (by omega),dF hnot]
   have hlast:(((nd t a).l.take (i+1)).map (·.name)).filter (fun s=>(a::m).all fun j=>(atN (nd t j) s).isSome)=(((nd t a).l.take i).map (·.name)).filter (fun s=>(a::m).all fun j=>(atN (nd t j) s).isSome)++(if ((a::m).all fun j=>(atN (nd t j) x.name).isSome)=true then [x.name] else []):=by
    rw [takeS hx,List.map_append,List.filter_append]
    congr 1
    by_cases hk:((a::m).all fun j=>(atN (nd t j) x.name).isSome)=true
    ·rw [if_pos hk,List.map_cons,List.map_nil,List.filter_cons_of_pos (by exact hk)];rfl
    ·rw [if_neg hk,List.map_cons,List.map_nil,List.filter_cons_of_neg (by exact hk)];rfl
   by_cases hall:((a::m).all fun j=>(atN (nd t j) x.name).isSome)=true
   ·have hlen:=all_parts.2 hall
    have hpos:0<(cs (AP t (a::m) x.name)).length:=by
     have hp:0<(AP t (a::m) x.name).length:=by rw [hlen];simp
     obtain ⟨y,hy⟩:=List.exists_mem_of_length_pos hp;exact List.length_pos_of_mem (mem_cs.2 hy)
    rw [dT (show (0:Int)<((cs (AP t (a::m) x.name)).length:Int) by omega),cT,oB,dT (by omega),cT,oB,Bool.not_false,oB,cT,Ab (by simp only [List.length_cons,List.length_nil];omega),Ab (by constructor <;> omega)];exact ⟨_,rfl,by rw [hlast,if_pos hall]⟩
   ·have hlen:¬ (AP t (a::m) x.name).length=(a::m).length:=fun e=>hall (all_parts.1 e)
    have e0:((bif decide (0<((cs (AP t (a::m) x.name)).length:Int)) then some (decide (((AP t (a::m) x.name).length:Int)=((a::m).length:Int))) else some false):Option Bool)=some false:=by
     rw [dF (show ¬ ((AP t (a::m) x.name).length:Int)=((a::m).length:Int) by omega)]
     cases decide (0<((cs (AP t (a::m) x.name)).length:Int)) <;> rfl
    rw [e0,oB,cF_,oB,cF_,Ab (by constructor <;> omega)];exact ⟨_,rfl,by rw [hlast,if_neg hall,List.append_nil]⟩)
  (by
   rintro n q rfl;simp only [Df];rw [i0,oB,getN ha,oB,dF (by omega),cF_];exact ⟨_,rfl,by rw [List.take_length];rfl⟩) (by rw [FUv];omega) [] (by simp)
 rw [e1,oB,e2]
def toS (q:BSq):RSeq:=⟨q.left,q.right⟩
theorem U3 {t:ATy} {l r:List Int} (hL:∀ i∈l,In t i) (hR:∀ i∈r,In t i) (hl:l.length<=1000) (hr:r.length<=1000) :
  (De t l FU (0,[],[],[],[])).bind (fun (l2,l3,l4,l5)=>(C9 t r FU (0,l2,l3,l4,l5)).bind fun (l10,l11,l12,l13)=>some (l10,l11,l12,l13))=some (r.map (fun i=>(nd t i).b),l.map (fun i=>(nd t i).b),l.map (fun i=>(nd t i).a),r.map (fun i=>(nd t i).a)):=by
 obtain ⟨o,e1,e2⟩:=BI (φ:=fun n i s=>De t l n (i,s)) (l:=l) (fun i s=>s=([],(l.take i).map (fun i=>(nd t i).b),(l.take i).map (fun i=>(nd t i).a),[])) (fun o=>o=([],l.map (fun i=>(nd t i).b),l.map (fun i=>(nd t i).a),[]))
  (by
   rintro n i x s hx hi rfl
   left
   have hxm:=List.mem_of_getElem? hx
   have hti:(l.take i).length<=1000:=by rw [List.length_take];omega
   simp only [De];rw [dT (show (i:Int)<(l.length:Int) by omega),cT,getI hx,oB,getN (hL x hxm),oB,Ab (by simp only [List.length_map,List.length_cons,List.length_nil];omega),oB,getN (hL x hxm),oB,Ab (by simp only [List.length_map,List.length_cons,List.length_nil];omega),Ab (by constructor <;> omega)];refine ⟨_,rfl,?_⟩;rw [takeS hx];simp)
  (by
   rintro n s rfl;simp only [De];rw [dF (by omega),cF_];exact ⟨_,rfl,by simp⟩) (by rw [FUv];omega) ([],[],[],[]) (by simp)
 rw [e1,oB,e2];obtain ⟨o,e3,e4⟩:=BI (φ:=fun n i s=>C9 t r n (i,s)) (l:=r) (fun i s=>s=((r.take i).map (fun i=>(nd t i).b),l.map (fun i=>(nd t i).b),l.map (fun i=>(nd t i).a),(r.take i).map (fun i=>(nd t i).a))) (fun o=>o=(r.map (fun i=>(nd t i).b),l.map (fun i=>(nd t i).b),l.map (fun i=>(nd t i).a),r.map (fun i=>(nd t i).a)))
  (by
   rintro n i x s hx hi rfl
   left
   have hxm:=List.mem_of_getElem? hx
   have hti:(r.take i).length<=1000:=by rw [List.length_take];omega
   simp only [C9];rw [dT (show (i:Int)<(r.length:Int) by omega),cT,getI hx,oB,getN (hR x hxm),oB,Ab (by simp only [List.length_map,List.length_cons,List.length_nil];omega),oB,getN (hR x hxm),oB,Ab (by simp only [List.length_map,List.length_cons,List.length_nil];omega),Ab (by constructor <;> omega)];refine ⟨_,rfl,?_⟩;rw [takeS hx];simp)
  (by
   rintro n s rfl;simp only [C9];rw [dF (by omega),cF_];exact ⟨_,rfl,by simp⟩) (by rw [FUv];omega) ([],l.map (fun i=>(nd t i).b),l.map (fun i=>(nd t i).a),[]) (by simp)
 simp only
 rw [e3,oB,e4]
theorem KK {R S T:Type} (u:S) (f:R->Option T) (g:S->Option T):(Out.go u:Out R S).on f g=g u:=rfl
theorem HU {α:Type} (l:List α):decide ((l.length:Int)=0)=l.isEmpty:=by
 cases l with
 | nil=>rfl
 | cons a l=>exact dF (by simp only [List.length_cons];omega)
theorem Ov (l:List Int):(cs l).isEmpty=l.isEmpty:=by
 cases h:l with
 | nil =>
  have:cs []=[]:=by rw [List.eq_nil_iff_forall_not_mem];intro x hx;exact absurd (mem_cs.1 hx) (by simp)
  rw [this]
 | cons a m =>
  have:a∈cs (a::m):=mem_cs.2 (by simp)
  cases hq:cs (a::m) with
  | nil=>rw [hq] at this;cases this
  | cons _ _=>rfl
theorem R7 {t:ATy} (hO:OkT t) (hN:∀ n∈t.l,NB n) {l r:List Int} (hL:∀ i∈l,In t i) (hR:∀ i∈r,In t i) (hl:l.length<=1000) (hr:r.length<=1000) (all:List (List UInt8)) (ha:all.length<=1000) :
  (Dc t l r all FU (0,[])).bind (fun oo=>oo.on (fun r2=>some r2) (fun l18=>some (l18,true)))=some (if all.any (badA t l r)=true then ([],false) else (all.map fun s=>⟨cs (AP t l s),cs (AP t r s)⟩,true)):=by
 obtain ⟨o,e1,e2⟩:=BI (φ:=fun n i s=>Dc t l r all n (i,s)) (l:=all) (fun i s=>s=(all.take i).map (fun s=>(⟨cs (AP t l s),cs (AP t r s)⟩:RSeq))/\(all.take i).any (badA t l r)=false) (fun oo=>oo.on (fun r2=>some r2) (fun l18=>some (l18,true))=some (if all.any (badA t l r)=true then ([],false) else (all.map fun s=>⟨cs (AP t l s),cs (AP t r s)⟩,true)))
  (by
   rintro n i x s hx hi ⟨rfl,hb⟩
   have hti:(all.take i).length<=1000:=by rw [List.length_take];omega
   simp only [Dc];rw [dT (show (i:Int)<(all.length:Int) by omega),cT,getI hx,oB,Kd hO hN hL hl,oB,oB,Kd hO hN hR hr,oB,HU,HU,Ov,Ov]
   change (∃ s',(bif badA t l r x then _ else _)=_/\_)\/(∃ o,(bif badA t l r x then _ else _)=_/\_)
   cases hbx:badA t l r x with
   | true =>
    right
    rw [cT];refine ⟨_,rfl,?_⟩;rw [if_pos (List.any_eq_true.2 ⟨x,List.mem_of_getElem? hx,hbx⟩)];rfl
   | false =>
    left
    rw [cF_,Ab (by simp only [List.length_map,List.length_cons,List.length_nil];omega),Ab (by constructor <;> omega)];refine ⟨_,rfl,by rw [takeS hx];simp,?_⟩;rw [takeS hx,List.any_append,hb];simp [hbx])
  (by
   rintro n s ⟨rfl,hb⟩;simp only [Dc];rw [dF (by omega),cF_];rw [List.take_length] at hb ⊢;exact ⟨_,rfl,by rw [hb];rfl⟩) (by rw [FUv];omega) [] ⟨by simp,by simp⟩
 rw [e1,oB,e2]
theorem Gs {t:ATy} (hN:∀ n∈t.l,NB n) {l:List Int} (h:∀ i∈l,In t i):(DP t l).length<=1000:=by
 cases l with
 | nil=>simp [DP]
 | cons a m =>
  have h40:(nd t a).l.length<=40:=hN _ (F9 (h a (by simp)))
  unfold DP;exact Nat.le_trans (List.length_filter_le _ _) (by rw [List.length_map];omega)
theorem Sa {t:ATy} (hO:OkT t) (hN:∀ n∈t.l,NB n) {l r:List Int} {k:Int} (hL:∀ i∈l,In t i) (hR:∀ i∈r,In t i) (hl:l.length<=1000) (hr:r.length<=1000) (hlne:l≠[]) :
  Ga t k l r=some ((BD t k l r).2.map toS,!(BD t k l r).1):=by
 unfold Ga BD;rw [HU]
 by_cases h0:k≠8/\r=[]
 ·rw [if_pos h0,dF h0.1,h0.2];rfl
 ·rw [if_neg h0]
  have e0:((!decide (k=8))&&r.isEmpty)=false:=by
   by_cases h8:k=8
   ·rw [dT h8];rfl
   ·rw [dF h8]
    cases r with
    | nil=>exact absurd ⟨h8,rfl⟩ h0
    | cons _ _=>rfl
  rw [e0,cF_]
  by_cases h6:k=6
  ·rw [dT h6,cT,if_pos h6]
   have e1:=U3 hL hR hl hr
   rw [Option.bind_eq_some_iff] at e1;obtain ⟨⟨l2,l3,l4,l5⟩,e2,e3⟩:=e1;rw [Option.bind_eq_some_iff] at e3;obtain ⟨⟨l10,l11,l12,l13⟩,e4,e5⟩:=e3;simp only [Option.some.injEq,Prod.mk.injEq] at e5;obtain ⟨rfl,rfl,rfl,rfl⟩:=e5;rw [e2,oB]
   simp only
   rw [e4,oB]
   simp only
   rw [Hv (by simp;omega),oB,Hv (by simp;omega),oB,Hv (by simp;omega),oB,Hv (by simp;omega),oB]
   rfl
  ·rw [dF h6,cF_,if_neg h6]
   have hrne:k=7->r≠[]:=fun h7 e=>h0 ⟨by omega,e⟩
   have eall:((bif (decide (k=7)) then (D3 t r).bind fun x13=>some x13 else some []:Option (List (List UInt8))).bind fun all1=>(bif (decide (k=8)) then (D3 t l).bind fun x14=>some x14 else some all1:Option (List (List UInt8))))=some (allA t k l r):=by
    unfold allA
    by_cases h7:k=7
    ·rw [dT h7,cT,if_pos h7,MO hO hN hR hr (hrne h7),oB,oB,dF (by omega),cF_]
    ·rw [dF h7,cF_,if_neg h7,oB]
     by_cases h8:k=8
     ·rw [dT h8,cT,if_pos h8,MO hO hN hL hl hlne,oB]
     ·rw [dF h8,cF_,if_neg h8]
   have hsm:(allA t k l r).length<=1000:=by
    unfold allA
    split
    ·exact Gs hN hR
    ·split
     ·exact Gs hN hL
     ·simp
   rw [<- Option.bind_assoc,eall,oB,R7 hO hN hL hR hl hr _ hsm]
   by_cases hb:(allA t k l r).any (badA t l r)=true
   ·rw [if_pos hb,if_pos hb];rfl
   ·rw [if_neg hb,if_neg hb];simp [toS,Function.comp_def]
theorem TG {t:ATy} {q:BSq} (hq:InQ t q) (h1:q.left.length<=500) (h2:q.right.length<=500):Dg t (toS q) FU 0=some (if FC t q=true then .ret ([],true) else .go ()):=by
 have hl2:∀ (i:Nat) x,q.left[i]? = some x->Da t (toS q) (i:Int) FU 0=some (if (q.right.any fun j=>decide ((nd t x).kind=11)&&decide ((nd t j).kind=11)&&decide ((nd t x).a=(nd t j).a))=true then .ret ([],true) else .go ()):=by
  intro i x hx
  rw [Jq (φ:=Da t (toS q) (i:Int)) (l:=q.right) ([],true) (fun _ j=>(decide ((nd t x).kind=11)&&decide ((nd t j).kind=11)&&decide ((nd t x).a=(nd t j).a))=true) ?_ ?_ (by rw [FUv];omega)]
  ·congr 1
   have e:(∃ (k:Nat) (j:Int),q.right[k]? = some j/\(decide ((nd t x).kind=11)&&decide ((nd t j).kind=11)&&decide ((nd t x).a=(nd t j).a))=true)↔(q.right.any fun j=>decide ((nd t x).kind=11)&&decide ((nd t j).kind=11)&&decide ((nd t x).a=(nd t j).a))=true:=by
    rw [List.any_eq_true]
    constructor
    ·rintro ⟨k,j,hk,h⟩;exact ⟨j,List.mem_of_getElem? hk,h⟩
    ·rintro ⟨j,hj,h⟩;obtain ⟨k,hk⟩:=List.getElem?_of_mem hj;exact ⟨k,j,hk,h⟩
   by_cases hc:(q.right.any fun j=>decide ((nd t x).kind=11)&&decide ((nd t j).kind=11)&&decide ((nd t x).a=(nd t j).a))=true
   ·rw [if_pos (e.2 hc),if_pos hc]
   ·rw [if_neg (fun h=>hc (e.1 h)),if_neg hc]
  ·intro n k j hj hk
   simp only [Da]
   have e1:idx (toS q).l (i:Int)=some x:=getI hx
   have e2:idx (toS q).r (k:Int)=some j:=getI hj
   rw [dT (show (k:Int)<((toS q).r.length:Int) by show (k:Int)<(q.right.length:Int);omega),cT,e1,oB,getN (hq.1 x (List.mem_of_getElem? hx)),oB,e2,oB,getN (hq.2 j (List.mem_of_getElem? hj)),oB]
   constructor
   ·intro hc;rw [show (decide ((nd t x).kind=11)&&decide ((nd t j).kind=11)&&decide ((nd t x).a=(nd t j).a))=false by simpa using hc,cF_,Ab (by constructor <;> omega)]
   ·intro hc;rw [hc,cT]
  ·intro n
   simp only [Da];rw [dF (by show ¬ (q.right.length:Int)<(q.right.length:Int);omega),cF_]
 rw [Jq (φ:=Dg t (toS q)) (l:=q.left) ([],true) (fun _ x=>(q.right.any fun j=>decide ((nd t x).kind=11)&&decide ((nd t j).kind=11)&&decide ((nd t x).a=(nd t j).a))=true) ?_ ?_ (by rw [FUv];omega)]
 ·congr 1
  unfold FC
  have e:(∃ (k:Nat) (x:Int),q.left[k]? = some x/\(q.right.any fun j=>decide ((nd t x).kind=11)&&decide ((nd t j).kind=11)&&decide ((nd t x).a=(nd t j).a))=true)↔(q.left.any fun x=>q.right.any fun j=>decide ((nd t x).kind=11)&&decide ((nd t j).kind=11)&&decide ((nd t x).a=(nd t j).a))=true:=by
   rw [List.any_eq_true]
   constructor
   ·rintro ⟨k,j,hk,h⟩;exact ⟨j,List.mem_of_getElem? hk,h⟩
   ·rintro ⟨j,hj,h⟩;obtain ⟨k,hk⟩:=List.getElem?_of_mem hj;exact ⟨k,j,hk,h⟩
  by_cases hc:(q.left.any fun x=>q.right.any fun j=>decide ((nd t x).kind=11)&&decide ((nd t j).kind=11)&&decide ((nd t x).a=(nd t j).a))=true
  ·rw [if_pos (e.2 hc),if_pos hc]
  ·rw [if_neg (fun h=>hc (e.1 h)),if_neg hc]
 ·intro n i x hx hi
  simp only [Dg];rw [dT (show (i:Int)<((toS q).l.length:Int) by show (i:Int)<(q.left.length:Int);omega),cT,hl2 i x hx,oB]
  constructor
  ·intro hc;rw [if_neg hc]
   rw [KK,Ab (by constructor <;> omega)]
  ·intro hc;rw [if_pos hc];rfl
 ·intro n
  simp only [Dg];rw [dF (by show ¬ (q.left.length:Int)<(q.left.length:Int);omega),cF_]
theorem Uy {t:ATy} {q:BSq} (hq:InQ t q) (h1:q.left.length<=500) (n:Nat) (i:Int) (hi:3<=i/\i<=8) (l:List Int) (hl:l.length<=100) :
  BW t (toS q) (n+1) (i,l)=BW t (toS q) n (i+1,l++(if (q.left.any fun j=>decide ((nd t j).kind=i))=true then [i] else [])):=by
 simp only [BW];rw [dT hi.2,cT,show (toS q).l=q.left from rfl,Ly hq.1 (by omega),oB,Lb]
 by_cases hc:(q.left.any fun j=>decide ((nd t j).kind=i))=true
 ·rw [hc,cT,Ab (by simp only [List.length_cons,List.length_nil];omega),Ab (by constructor <;> omega),if_pos rfl]
 ·have hc2:(q.left.any fun j=>decide ((nd t j).kind=i))=false:=by simpa using hc
  rw [hc2,cF_,Ab (by constructor <;> omega),if_neg (by simp),List.append_nil]
theorem R5 (p:Int->Bool) (a:Int) (l:List Int):List.filter p (a::l)=(if p a=true then [a] else [])++List.filter p l:=by
 by_cases h:p a=true
 ·rw [List.filter_cons_of_pos h,if_pos h];rfl
 ·rw [List.filter_cons_of_neg h,if_neg h];rfl
def ints (i:Int):Nat->List Int
 | 0=>[]
 | m+1=>i::ints (i+1) m
theorem Te {t:ATy} {q:BSq} (hq:InQ t q) (h1:q.left.length<=500):∀ (m n:Nat) (i:Int) (l:List Int),3<=i->i+m=9->l.length+m<=100 ->
  BW t (toS q) (n+m+1) (i,l)=some (l++(ints i m).filter fun k=>q.left.any fun j=>decide ((nd t j).kind=k))
 | 0,n,i,l,h3,h9,hl=>by
  simp only [BW];rw [dF (by omega),cF_]
  simp [ints]
 | m+1,n,i,l,h3,h9,hl=>by
  rw [show n+(m+1)+1=(n+m+1)+1 from rfl,Uy hq h1 _ i (by omega) l (by omega)]
  have hle:(if (q.left.any fun j=>decide ((nd t j).kind=i))=true then [i] else []:List Int).length<=1:=by split <;> simp
  rw [Te hq h1 m n (i+1) _ (by omega) (by omega) (by rw [List.length_append];omega)];rw [show ints i (m+1)=i::ints (i+1) m from rfl,R5,List.append_assoc]
theorem Rs {t:ATy} {q:BSq} (hq:InQ t q) (h1:q.left.length<=500):BW t (toS q) FU (3,[])=some (DD t q.left):=by
 have:=Te hq h1 6 18446744073709551609 3 [] (by omega) (by omega) (by simp)
 rw [show FU=18446744073709551609+6+1 from rfl,this,List.nil_append]
 rfl
theorem Rb {t:ATy} {l:List Int} (h:∀ i∈l,In t i) (hl:l.length<=500) {α:Type} (K:ANd->(List Int->Option (List Int))->Option α) (Z:Option α) (hK:∀ n f g,(∀ m:List Int,m.length<=2->f m=g m)->K n f=K n g) :
  (ED t l 9 10).bind (fun x3=>bif (decide (0<=x3)) then (idx l x3).bind fun x4=>(idx t.l x4).bind fun x5=>K x5 (fun m=>Dn l x3 m) else Z)=(match latA t l with | some (n,rest)=>K n (fun m=>some (cs (rest++m))) | none=>Z):=by
 rw [Rx h (by omega),oB];unfold latA
 cases hf:l.findIdx? (fun i=>latB (nd t i).kind) with
 | none=>rfl
 | some i =>
  obtain ⟨hi,h1,_⟩:=List.findIdx?_eq_some_iff_getElem.1 hf
  have hx:l[i]? = some l[i]:=List.getElem?_eq_getElem hi
  have e:l.getD i 0=l[i]:=by rw [List.getD_eq_getElem?_getD,hx];rfl
  simp only [Option.map_some];rw [dT (by omega),cT,getI hx,oB,getN (h _ (List.getElem_mem hi)),oB,e];exact hK _ _ _ fun m hm=>Sh hi (by omega) (by omega)
theorem Rz {t:ATy} {q:BSq} (hO:OkT t) (hN:∀ n∈t.l,NB n) (hq:InQ t q) (h1:q.left.length<=500) (h2:q.right.length<=500):D4 t (toS q)=some ((AW t q).2.map toS,!(AW t q).1):=by
 unfold D4;rw [show (toS q).l=q.left from rfl,show (toS q).r=q.right from rfl,Ly hq.1 (by omega),oB,Lb,Ly hq.2 (by omega),oB,Lb]
 have he:(bif (q.left.any fun i=>decide ((nd t i).kind=2)) then (some true) else (some (q.right.any fun i=>decide ((nd t i).kind=1)):Option Bool))=some (endA t q):=by
  unfold endA
  cases q.left.any fun i=>decide ((nd t i).kind=2) <;> rfl
 rw [he,oB];unfold AW
 cases h3:endA t q with
 | true=>rw [cT,if_pos rfl];rfl
 | false =>
  rw [cF_,if_neg (by simp)]
  have eL:=Rb hq.1 h1 (fun x5 f=>bif (decide (x5.kind=10)) then (f [x5.a,x5.b]).bind fun x6=>some ([(⟨x6,q.right⟩:RSeq)],true) else (f [x5.a]).bind fun x7=>(f [x5.b]).bind fun x8=>some ([(⟨x7,q.right⟩:RSeq),(⟨x8,q.right⟩:RSeq)],true))
  have eR:=Rb hq.2 h2 (fun x5 f=>bif (decide (x5.kind=9)) then (f [x5.a,x5.b]).bind fun x6=>some ([(⟨q.left,x6⟩:RSeq)],true) else (f [x5.a]).bind fun x7=>(f [x5.b]).bind fun x8=>some ([(⟨q.left,x7⟩:RSeq),(⟨q.left,x8⟩:RSeq)],true))
  refine (eL _ (fun n f g hfg=>by rw [hfg _ (by simp),hfg _ (by simp),hfg _ (by simp)])).trans ?_;unfold openA
  cases hl:latA t q.left with
  | some x =>
   obtain ⟨n,rest⟩:=x
   simp only
   by_cases h10:n.kind=10
   ·rw [dT h10,cT,oB,if_pos h10];rfl
   ·rw [dF h10,cF_,oB,oB,if_neg h10];rfl
  | none =>
   simp only
   refine (eR _ (fun n f g hfg=>by rw [hfg _ (by simp),hfg _ (by simp),hfg _ (by simp)])).trans ?_
   cases hr:latA t q.right with
   | some x =>
    obtain ⟨n,rest⟩:=x
    simp only
    by_cases h9:n.kind=9
    ·rw [dT h9,cT,oB,if_pos h9];rfl
    ·rw [dF h9,cF_,oB,oB,if_neg h9];rfl
   | none =>
    simp only
    rw [TG hq h1 h2,oB]
    cases h5:FC t q with
    | true=>rw [if_pos rfl,if_pos rfl];rfl
    | false =>
     rw [if_neg (by simp),if_neg (by simp)]
     show (BW t (toS q) FU (3,[]):Option (List Int)).bind _=_
     rw [Rs hq h1,oB];unfold D8
     cases hk:DD t q.left with
     | nil=>rfl
     | cons k m =>
      cases m with
      | nil =>
       obtain ⟨_,⟨i0,hi0,hk0⟩,_⟩:=Fe hk
       have hlne:ofK t q.left k≠[]:=fun e=>by have:=mem_ofK.2 ⟨hi0,hk0⟩;rw [e] at this;cases this
       have hL:∀ i∈ofK t q.left k,In t i:=fun i hi=>hq.1 i (mem_ofK.1 hi).1
       have hR:∀ i∈ofK t q.right k,In t i:=fun i hi=>hq.2 i (mem_ofK.1 hi).1
       have hll:(ofK t q.left k).length<=500:=Nat.le_trans (List.length_filter_le _ _) h1
       have hrl:(ofK t q.right k).length<=500:=Nat.le_trans (List.length_filter_le _ _) h2
       simp only [List.length_cons,List.length_nil];rw [dF (by omega),cF_,dF (by omega),cF_,show idx [k] 0=some k from rfl,oB,oB,SD hq.1 (by omega),oB,oB,SD hq.2 (by omega),oB,Sa hO hN hL hR (by omega) (by omega) hlne,oB]
      | cons b m =>
       simp only [List.length_cons];rw [dF (by omega),cF_,dT (by omega),cT];rfl
theorem T4 (a b:RSeq) (h1:a.l.length<=3000) (h2:a.r.length<=3000):G4 a b=some (decide (a=b)):=by
 obtain ⟨al,ar⟩:=a;obtain ⟨bl,br⟩:=b;unfold G4
 simp only
 rw [Ia _ _ h1,oB]
 by_cases hl:al=bl
 ·rw [dT hl,cT,Ia _ _ h2,oB,oB]
  congr 1
  exact decide_eq_decide.2 ⟨fun h=>by have h:ar=br:=h;rw [hl,h],fun h=>(RSeq.mk.inj h).2⟩
 ·rw [dF hl,cF_,oB]
  congr 1
  exact (dF fun h=>hl (RSeq.mk.inj h).1).symm
theorem S3 {t:ATy} (hN:∀ n∈t.l,NB n) {k:Int} {l r:List Int} (hL:∀ i∈l,In t i) (hR:∀ i∈r,In t i):(allA t k l r).length<=1000:=by
 unfold allA
 split
 ·exact Gs hN hR
 ·split
  ·exact Gs hN hL
  ·simp
theorem PS {t:ATy} (hN:∀ n∈t.l,NB n) {q:BSq} (hq:InQ t q):(AW t q).2.length<=1000:=by
 unfold AW
 split
 ·simp
 ·split
  ·rename_i l h
   unfold openA at h
   split at h
   ·cases h;split <;> simp
   ·split at h
    ·cases h;split <;> simp
    ·cases h
  ·split
   ·simp
   ·unfold D8
    split
    ·simp
    ·unfold BD
     split
     ·simp
     ·split
      ·simp
      ·split
       ·simp
       ·rw [List.length_map]
        exact S3 hN (fun i hi=>hq.1 i (mem_ofK.1 hi).1) (fun i hi=>hq.2 i (mem_ofK.1 hi).1)
    ·simp
end Go.Proofs.YtcoghblhdjmbfaaGreat
namespace Go.Proofs.YtcoghblhdjmbfaaGreat
open Go.V
open Classical
def toB (q:RSeq):BSq:=⟨q.l,q.r⟩
theorem T7 (q:RSeq):toS (toB q)=q:=rfl
theorem FN {α R:Type} {l:List α} {φ:Nat->Int->Option (Out R Unit)} (r:R) (q:α->Bool)
  (step:∀ n (i:Nat) x,l[i]? = some x->i<l.length->(q x=false->φ (n+1) (i:Int)=φ n ((i:Int)+1))/\(q x=true->φ (n+1) (i:Int)=some (.ret r)))
  (stop:∀ n,φ (n+1) (l.length:Int)=some (.go ())) (hl:l.length<FU):φ FU 0=some (if l.any q=true then .ret r else .go ()):=by
 rw [Jq (φ:=φ) (l:=l) r (fun _ x=>q x=true) (fun n i x hx hi=>⟨fun h=>(step n i x hx hi).1 (by simpa using h),(step n i x hx hi).2⟩) stop hl]
 congr 1
 have e:(∃ (k:Nat) (x:α),l[k]? = some x/\q x=true)↔l.any q=true:=by
  rw [List.any_eq_true]
  constructor
  ·rintro ⟨k,j,hk,h⟩;exact ⟨j,List.mem_of_getElem? hk,h⟩
  ·rintro ⟨j,hj,h⟩;obtain ⟨k,hk⟩:=List.getElem?_of_mem hj;exact ⟨k,j,hk,h⟩
 by_cases hc:l.any q=true
 ·rw [if_pos (e.2 hc),if_pos hc]
 ·rw [if_neg (fun h=>hc (e.1 h)),if_neg hc]
def shB (t:ATy) (x:ANd) (j:Int):Bool:=decide (x.kind=11)&&decide ((nd t j).kind=11)&&decide (x.a=(nd t j).a)
def leB (t:ATy) (r:List Int) (i:Int):Bool:=(decide ((nd t i).kind=2)||decide ((nd t i).kind=9)||decide ((nd t i).kind=10))||r.any (shB t (nd t i))
def reB (t:ATy) (i:Int):Bool:=decide ((nd t i).kind=1)||decide ((nd t i).kind=9)||decide ((nd t i).kind=10)
def JU (t:ATy) (q:RSeq):Bool:=q.l.any (leB t q.r)||q.r.any (reB t)
theorem Su {t:ATy} {q:RSeq} (hq:InQ t (toB q)) (h2:q.r.length<=500) (x:ANd):Bb t q x FU 0=some (if q.r.any (shB t x)=true then .ret true else .go ()):=by
 refine FN (φ:=Bb t q x) (l:=q.r) true (shB t x) ?_ ?_ (by rw [FUv];omega)
 ·intro n k j hj hk
  simp only [Bb];rw [dT (by omega),cT,getI hj,oB,getN (hq.2 j (List.mem_of_getElem? hj)),oB]
  constructor
  ·intro hc;unfold shB at hc;rw [hc,cF_,Ab (by constructor <;> omega)]
  ·intro hc;unfold shB at hc;rw [hc,cT]
 ·intro n
  simp only [Bb];rw [dF (by omega),cF_]
theorem Sn {t:ATy} {q:RSeq} (hq:InQ t (toB q)) (h1:q.l.length<=500) (h2:q.r.length<=500):Bc t q FU 0=some (if q.l.any (leB t q.r)=true then .ret true else .go ()):=by
 refine FN (φ:=Bc t q) (l:=q.l) true (leB t q.r) ?_ ?_ (by rw [FUv];omega)
 ·intro n k j hj hk
  simp only [Bc];rw [dT (by omega),cT,getI hj,oB,getN (hq.1 j (List.mem_of_getElem? hj)),oB,Su hq h2,oB];unfold leB
  cases (decide ((nd t j).kind=2)||decide ((nd t j).kind=9)||decide ((nd t j).kind=10)) with
  | true=>exact ⟨fun h=>(by cases h),fun _=>rfl⟩
  | false =>
   cases q.r.any (shB t (nd t j)) with
   | true=>exact ⟨fun h=>(by cases h),fun _=>rfl⟩
   | false =>
    refine ⟨fun _=>?_,fun h=>(by cases h)⟩;rw [cF_,if_neg (by decide),KK,Ab (by constructor <;> omega)]
 ·intro n
  simp only [Bc];rw [dF (by omega),cF_]
theorem So {t:ATy} {q:RSeq} (hq:InQ t (toB q)) (h2:q.r.length<=500):Bi t q FU 0=some (if q.r.any (reB t)=true then .ret true else .go ()):=by
 refine FN (φ:=Bi t q) (l:=q.r) true (reB t) ?_ ?_ (by rw [FUv];omega)
 ·intro n k j hj hk
  simp only [Bi];rw [dT (by omega),cT,getI hj,oB,getN (hq.2 j (List.mem_of_getElem? hj)),oB]
  constructor
  ·intro hc;unfold reB at hc;rw [hc,cF_,Ab (by constructor <;> omega)]
  ·intro hc;unfold reB at hc;rw [hc,cT]
 ·intro n
  simp only [Bi];rw [dF (by omega),cF_]
theorem Se {t:ATy} {q:RSeq} (hq:InQ t (toB q)) (h1:q.l.length<=500) (h2:q.r.length<=500):Bm t q=some (JU t q):=by
 unfold Bm JU;rw [Sn hq h1 h2,oB,So hq h2]
 cases q.l.any (leB t q.r) with
 | true=>rfl
 | false=>cases q.r.any (reB t) <;> rfl
theorem QY {t:ATy} {l:List Int}:latA t l≠none↔∃ i∈l,latB (nd t i).kind=true:=by
 constructor
 ·intro h
  cases hq:latA t l with
  | none=>exact absurd hq h
  | some p =>
   obtain ⟨n,rest⟩:=p;obtain ⟨i,rfl,h1,h2⟩:=Ch hq;exact ⟨i,h2.mem_iff.2 (by simp),h1⟩
 ·rintro ⟨i,hi,h⟩ e
  rw [JI e i hi] at h;cases h
theorem T5 {t:ATy} {q:BSq}:openA t q≠none↔(∃ i∈q.left,latB (nd t i).kind=true)\/∃ i∈q.right,latB (nd t i).kind=true:=by
 rw [<- QY,<- QY];unfold openA
 cases latA t q.left with
 | some p=>obtain ⟨n,r⟩:=p;simp
 | none =>
  cases latA t q.right with
  | some p=>obtain ⟨n,r⟩:=p;simp
  | none=>simp
theorem early_iff {t:ATy} {q:RSeq}:JU t q=true↔FE t (toB q):=by
 unfold FE;rw [T5]
 have hlat:∀ k:Int,latB k=true↔k=9\/k=10:=fun k=>by unfold latB;simp
 simp only [hlat];unfold JU endA FC leB reB shB toB;simp only [Bool.or_eq_true,List.any_eq_true,decide_eq_true_eq,Bool.and_eq_true]
 constructor
 ·rintro (⟨i,hi,(((h | h) | h) | ⟨j,hj,h⟩)⟩ | ⟨i,hi,((h | h) | h)⟩)
  ·exact .inl (.inl ⟨i,hi,h⟩)
  ·exact .inr (.inl (.inl ⟨i,hi,.inl h⟩))
  ·exact .inr (.inl (.inl ⟨i,hi,.inr h⟩))
  ·exact .inr (.inr ⟨i,hi,j,hj,h⟩)
  ·exact .inl (.inr ⟨i,hi,h⟩)
  ·exact .inr (.inl (.inr ⟨i,hi,.inl h⟩))
  ·exact .inr (.inl (.inr ⟨i,hi,.inr h⟩))
 ·rintro ((⟨i,hi,h⟩ | ⟨i,hi,h⟩) | ((⟨i,hi,h | h⟩ | ⟨i,hi,h | h⟩) | ⟨i,hi,j,hj,h⟩))
  ·exact .inl ⟨i,hi,.inl (.inl (.inl h))⟩
  ·exact .inr ⟨i,hi,.inl (.inl h)⟩
  ·exact .inl ⟨i,hi,.inl (.inl (.inr h))⟩
  ·exact .inl ⟨i,hi,.inl (.inr h)⟩
  ·exact .inr ⟨i,hi,.inl (.inr h)⟩
  ·exact .inr ⟨i,hi,.inr h⟩
  ·exact .inl ⟨i,hi,.inr ⟨j,hj,h⟩⟩
theorem K4 {t:ATy} {l:List Int} (h:∀ i∈l,In t i) (hl:l.length<=500) (k:Int):AH t l k=some (nzL t l k):=by
 unfold AH;obtain ⟨o,e1,e2⟩:=BI (φ:=fun n i q=>A4 t l k n (i,q)) (l:=l) (fun i q=>q=nzL t (l.take i) k) (fun o=>o=nzL t l k)
  (by
   rintro n i x q hx hi rfl
   left
   refine ⟨_,?_,rfl⟩
   have hln:(nzL t (l.take i) k).length<=500:=Nat.le_trans (List.length_filter_le ..) (by rw [List.length_take];omega)
   rw [takeS hx];unfold nzL at hln ⊢;rw [List.filter_append]
   generalize List.filter (fun i => !decide ((nd t i).kind=k)) (l.take i)=q at hln ⊢
   simp only [A4];rw [dT (show (i:Int)<(l.length:Int) by omega),cT,getI hx,oB,getN (h x (List.mem_of_getElem? hx)),oB]
   cases hc : !decide ((nd t x).kind=k) with
   | true=>rw [cT,oB,Ab (by simp;omega),Ab (by constructor <;> omega)];simp [hc]
   | false=>rw [cF_,Ab (by constructor <;> omega)];simp [hc])
  (by
   rintro n q rfl;refine ⟨_,?_,rfl⟩;simp only [A4];rw [dF (by omega),cF_,List.take_length]) (by rw [FUv];omega) [] (by simp [nzL])
 rw [e1,e2];rfl
def VNo (t:ATy):Prop:=∀ i,In t i->(nd t i).kind=11->0<=(nd t i).a/\(nd t i).a<1000
theorem OkT.vno {t:ATy} (h:OkT t):VNo t:=fun i hi hk=>by
 have:=h.right _ (F9 hi)
 unfold BC at this;rw [hk] at this
 simp at this
 omega
section
variable {w:Syntagmaref19World}
theorem NT (hV:VNo w.t) (hf:w.flex=1000) {i:Int} (hi:In w.t i):AQ w i=some (decide ((nd w.t i).kind=11)):=by
 unfold AQ;rw [getN hi,oB]
 by_cases hk:(nd w.t i).kind=11
 ·rw [dT hk,cT,oB,hf,dT (hV i hi hk).2]
 ·rw [dF hk,cF_]
theorem Sp (hV:VNo w.t) (hf:w.flex=1000) {l:List Int} (h:∀ i∈l,In w.t i) (hl:l.length<=500):AA w l=some (l.any fun i=>decide ((nd w.t i).kind=11)):=by
 unfold AA;rw [FN (φ:=A8 w l) (l:=l) true (fun i=>decide ((nd w.t i).kind=11)) ?_ ?_ (by rw [FUv];omega)]
 ·cases l.any fun i=>decide ((nd w.t i).kind=11) <;> rfl
 ·intro n k j hj hk
  simp only [A8];rw [dT (show (k:Int)<(l.length:Int) by omega),cT,getI hj,oB,show AQ (⟨(⟨w.t.l,w.t.root⟩:ATy),w.flex,w.all,w.buckets,w.below_,w.above,w.mixed,w.fails⟩:Syntagmaref19World) j=_ from NT hV hf (h j (List.mem_of_getElem? hj)),oB]
  constructor
  ·intro hc;rw [hc,cF_,Ab (by constructor <;> omega)]
  ·intro hc;rw [hc,cT]
 ·intro n
  simp only [A8];rw [dF (by omega),cF_]
theorem OY {t:ATy} {l:List Int}:(l.any fun i=>decide ((nd t i).kind=11))=true↔hasV t l:=by
 unfold hasV;rw [List.any_eq_true];simp only [decide_eq_true_eq]
def aloN (t:ATy) (v:Int) (i:Int):Bool := !(decide ((nd t i).kind=11)) || !(decide ((nd t i).a=v))
theorem Pc (hV:VNo w.t) (hf:w.flex=1000) {l:List Int} (h:∀ i∈l,In w.t i) (hl:l.length<=500):∃ a,Bj w l=some a/\((0<=a/\a<1000/\EC w.t l a)\/(a = -1/\∀ v,¬ EC w.t l v)):=by
 unfold Bj
 cases l with
 | nil=>exact ⟨-1,rfl,.inr ⟨rfl,fun v h=>h.1 rfl⟩⟩
 | cons x r =>
  rw [dF (show ¬ ((x::r).length:Int)=0 by simp;omega),cF_]
  have hx0:idx (x::r) 0=some x:=rfl
  have hIx:In w.t x:=h x (by simp)
  rw [FN (φ:=A3 w (x::r)) (l:=x::r) (-1) (aloN w.t (nd w.t x).a) ?_ ?_ (by rw [FUv];omega)]
  ·cases hc:(x::r).any (aloN w.t (nd w.t x).a) with
   | true =>
    refine ⟨-1,rfl,.inr ⟨rfl,fun v hv=>?_⟩⟩;obtain ⟨i,hi,hb⟩:=List.any_eq_true.1 hc
    have h1:=hv.2 i hi
    have h2:=hv.2 x (by simp)
    unfold aloN at hb;simp only [Bool.or_eq_true,Bool.not_eq_true',decide_eq_false_iff_not] at hb
    rcases hb with hb | hb
    ·exact hb h1.1
    ·exact hb (by rw [h1.2,h2.2])
   | false =>
    have hall:∀ i∈x::r,(nd w.t i).kind=11/\(nd w.t i).a=(nd w.t x).a:=by
     intro i hi
     have:=List.any_eq_false.1 hc i hi
     unfold aloN at this
     simpa using this
    have hx:=hall x (by simp)
    refine ⟨(nd w.t x).a,?_,.inl ⟨(hV x hIx hx.1).1,(hV x hIx hx.1).2,by simp,hall⟩⟩;rw [if_neg (by decide),oB,KK,hx0,oB,getN hIx];rfl
  ·intro n k j hj hk
   simp only [A3];rw [dT (by omega),cT,getI hj,oB,show AQ (⟨(⟨w.t.l,w.t.root⟩:ATy),w.flex,w.all,w.buckets,w.below_,w.above,w.mixed,w.fails⟩:Syntagmaref19World) j=_ from NT hV hf (h j (List.mem_of_getElem? hj)),oB];unfold aloN
   cases hk11:decide ((nd w.t j).kind=11) with
   | false=>exact ⟨fun h=>(by simp at h),fun _=>rfl⟩
   | true =>
    rw [Bool.not_true,cF_,oB,getN (h j (List.mem_of_getElem? hj)),oB,hx0,oB,getN hIx,oB]
    cases hka:decide ((nd w.t j).a=(nd w.t x).a) with
    | false=>exact ⟨fun h=>(by simp at h),fun _=>rfl⟩
    | true=>exact ⟨fun _=>by rw [Bool.not_true,cF_,Ab (by constructor <;> omega)],fun h=>(by simp at h)⟩
  ·intro n
   simp only [A3];rw [dF (by omega),cF_]
end
theorem Rm (a b:List Int) (ha:a.length<=1000000):∃ r,Cr a b=some r:=by
 unfold Cr;obtain ⟨o,e1,_⟩:=If (φ:=B5 a b) (fun i=>a.length - i.toNat) (fun i=>0<=i/\i<=(a.length:Int)) (fun _=>True) (by
  rintro n i ⟨h0,h1⟩;simp only [B5]
  by_cases hc:i<(a.length:Int)/\i<(b.length:Int)
  ·rw [show (decide (i<(a.length:Int))&&decide (i<(b.length:Int)))=true by simp [hc],cT]
   obtain ⟨k,rfl⟩:∃ k:Nat,i=k:=⟨i.toNat,by omega⟩
   have hxa:a[k]? = some a[k]:=List.getElem?_eq_getElem (by omega)
   have hxb:b[k]? = some b[k]:=List.getElem?_eq_getElem (by omega)
   rw [getI hxa,oB,getI hxb,oB]
   cases hd:decide (a[k]=b[k]) with
   | false=>exact .inr ⟨_,trivial,rfl⟩
   | true =>
    refine .inl ⟨(k:Int)+1,⟨by omega,by omega⟩,by omega,?_⟩;rw [Bool.not_true,cF_,Ab (by constructor <;> omega)]
  ·rw [show (decide (i<(a.length:Int))&&decide (i<(b.length:Int)))=false by simp;omega,cF_]
   exact .inr ⟨_,trivial,rfl⟩) FU 0 ⟨by omega,by omega⟩ (by rw [FUv];omega)
 rw [e1]
 cases o with
 | ret r=>exact ⟨r,rfl⟩
 | go u=>exact ⟨_,rfl⟩
theorem MS (l:List (List Int)) (s:List Int) (hl:l.length<=3000000) (hs:s.length<=3000) (hm:∀ m∈l,m.length<=3000):∃ l',AS l s=some l'/\(∀ m,m∈l'↔m∈l\/m=s)/\l'.length<=l.length+1:=by
 unfold AS;obtain ⟨o,e1,k,rfl,hk⟩:=If (φ:=BO l s) (fun i=>l.length - i.toNat) (fun i=>0<=i/\i<=(l.length:Int)) (fun o=>∃ k:Nat,o=(k:Int)/\k<=l.length) (by
  rintro n i ⟨h0,h1⟩;obtain ⟨k,rfl⟩:∃ k:Nat,i=k:=⟨i.toNat,by omega⟩;simp only [BO]
  by_cases hc:k<l.length
  ·have hx:l[k]? = some l[k]:=List.getElem?_eq_getElem hc
   obtain ⟨r,hr⟩:=Rm l[k] s (by have:=hm _ (List.getElem_mem hc);omega);rw [dT (show (k:Int)<(l.length:Int) by omega),cT,getI hx,oB,hr,oB,oB]
   cases r with
   | true =>
    refine .inl ⟨(k:Int)+1,⟨by omega,by omega⟩,by omega,?_⟩;rw [cT,Ab (by constructor <;> omega)]
   | false=>exact .inr ⟨_,⟨k,rfl,by omega⟩,rfl⟩
  ·rw [dF (show ¬ (k:Int)<(l.length:Int) by omega),cF_,oB,cF_]
   exact .inr ⟨_,⟨k,rfl,by omega⟩,rfl⟩) FU 0 ⟨by omega,by omega⟩ (by rw [FUv];omega)
 rw [e1,oB]
 have hput:∃ l',((sli l 0 (k:Int)).bind fun l2=>grd ((0+l2.length)*24<=140737488355328) <| grd ((([]++l2).length+([s]:List _).length)*24<=140737488355328) <| (sli l (k:Int) (l.length:Int)).bind fun l3=>grd (((([]++l2)++[s]).length+l3.length)*24<=140737488355328) <| some ((([]++l2)++[s])++l3))=some l'/\(∀ m,m∈l'↔m∈l\/m=s)/\l'.length<=l.length+1:=by
  have s1:sli l 0 (k:Int)=some (l.take k):=by unfold sli;rw [if_pos (by omega)];simp
  have s2:sli l (k:Int) (l.length:Int)=some (l.drop k):=by unfold sli;rw [if_pos (by omega)];simp
  have ht:(l.take k).length=k:=by rw [List.length_take];omega
  have hd:(l.drop k).length=l.length - k:=by rw [List.length_drop]
  rw [s1,oB,Ab (by omega),Ab (by simp;omega),s2,oB,Ab (by simp;omega)];refine ⟨_,rfl,fun m=>?_,?_⟩
  ·conv=>rhs;rw [<- List.take_append_drop k l]
   simp only [List.nil_append,List.mem_append,List.mem_singleton]
   constructor
   ·rintro ((h | h) | h)
    ·exact .inl (.inl h)
    ·exact .inr h
    ·exact .inl (.inr h)
   ·rintro ((h | h) | h)
    ·exact .inl (.inl h)
    ·exact .inr h
    ·exact .inl (.inr h)
  ·simp;omega
 by_cases hc:k<l.length
 ·have hx:l[k]? = some l[k]:=List.getElem?_eq_getElem hc
  rw [dT (show (k:Int)<(l.length:Int) by omega),cT,getI hx,oB,Ia _ _ (by have:=hm _ (List.getElem_mem hc);omega),oB,oB]
  by_cases he:l[k]=s
  ·rw [dT he,cT]
   refine ⟨l,rfl,fun m=>⟨.inl,?_⟩,by omega⟩;rintro (h | rfl)
   ·exact h
   ·rw [<- he];exact List.getElem_mem hc
  ·rw [dF he,cF_];exact hput
 ·rw [dF (show ¬ (k:Int)<(l.length:Int) by omega),cF_,oB,cF_]
  exact hput
end Go.Proofs.YtcoghblhdjmbfaaGreat
namespace Go.Proofs.YtcoghblhdjmbfaaGreat
open Go.V
open Classical
def SmQ (q:RSeq):Prop:=q.l.length<=500/\q.r.length<=500/\(∀ i∈q.l,0<=i/\i<=100000)/\∀ i∈q.r,0<=i/\i<=100000
theorem RD (q:RSeq) (h:SmQ q):∃ b:Nat,BB q=some (b:Int)/\b<997:=by
 obtain ⟨h1,h2,h3,h4⟩:=h;unfold BB;rw [Ab (by constructor <;> omega),Ab (by constructor <;> omega),Ab (by constructor <;> omega)];obtain ⟨n1,e1,p1⟩:=BI (φ:=fun n i s=>Bx q n (s,i)) (l:=q.l) (fun i s=>0<=s/\s<=10000+3100000*(i:Int)) (fun o=>0<=o/\o<=10000+3100000*500)
  (by
   rintro n i x s hx hi ⟨hs0,hs1⟩
   left
   obtain ⟨hx0,hx1⟩:=h3 x (List.mem_of_getElem? hx);refine ⟨s+31*x,?_,by omega,by omega⟩;simp only [Bx];rw [dT (show (i:Int)<(q.l.length:Int) by omega),cT,getI hx,oB,Ab (by constructor <;> omega),Ab (by constructor <;> omega),Ab (by constructor <;> omega)])
  (by
   rintro n s ⟨hs0,hs1⟩;refine ⟨s,?_,by omega,by omega⟩;simp only [Bx];rw [dF (by omega),cF_]) (by rw [FUv];omega) (7*(q.l.length:Int)+11*(q.r.length:Int)) ⟨by omega,by omega⟩
 obtain ⟨n2,e2,p2⟩:=BI (φ:=fun n i s=>Bv q n (s,i)) (l:=q.r) (fun i s=>0<=s/\s<=10000+3100000*500+1700000*(i:Int)) (fun o=>0<=o)
  (by
   rintro n i x s hx hi ⟨hs0,hs1⟩
   left
   obtain ⟨hx0,hx1⟩:=h4 x (List.mem_of_getElem? hx);refine ⟨s+17*x,?_,by omega,by omega⟩;simp only [Bv];rw [dT (show (i:Int)<(q.r.length:Int) by omega),cT,getI hx,oB,Ab (by constructor <;> omega),Ab (by constructor <;> omega),Ab (by constructor <;> omega)])
  (by
   rintro n s ⟨hs0,hs1⟩;refine ⟨s,?_,by omega⟩;simp only [Bv];rw [dF (by omega),cF_]) (by rw [FUv];omega) n1 ⟨by omega,by omega⟩
 rw [e1,oB,e2,oB];refine ⟨(Int.tmod n2 997).toNat,?_,?_⟩
 ·congr 1
  have:=Int.tmod_nonneg 997 p2
  omega
 ·have:=Int.tmod_lt_of_pos n2 (show (0:Int)<997 by omega)
  omega
structure BInv (w:Syntagmaref19World):Prop where
 len:w.buckets.length=997
 lens:∀ l∈w.buckets,l.length<=w.all.length
 rng:∀ l∈w.buckets,∀ i∈l,0<=i/\i<(w.all.length:Int)
 has:∀ (i:Nat) q,w.all[i]? = some q->∃ b:Nat,BB q=some (b:Int)/\∃ l,w.buckets[b]? = some l/\(i:Int)∈l
 sm:∀ q∈w.all,SmQ q
def addQ (w:Syntagmaref19World) (q:RSeq) (bs:List (List Int)):Syntagmaref19World:={ w with all:=w.all++[q],buckets:=bs }
theorem VE {w:Syntagmaref19World} {q:RSeq} (hw:BInv w) (hq:SmQ q) (hl:w.all.length<=1000000) :
  (q∈w.all/\Az w q=some w)\/(q∉w.all/\∃ bs,Az w q=some (addQ w q bs)/\BInv (addQ w q bs)):=by
 obtain ⟨b,eb,hb⟩:=RD q hq;obtain ⟨l,hbl⟩:∃ l,w.buckets[b]? = some l:=⟨_,List.getElem?_eq_getElem (by rw [hw.len];exact hb)⟩
 have hlm:l∈w.buckets:=List.mem_of_getElem? hbl
 have hll:=hw.lens l hlm
 have loop:=FN (φ:=A9 w q (b:Int)) (l:=l) w (fun i=>decide (w.all[i.toNat]? = some q))
  (by
   intro n k i hi hk
   obtain ⟨h0,h1⟩:=hw.rng l hlm i (List.mem_of_getElem? hi);obtain ⟨j,rfl⟩:∃ j:Nat,i=j:=⟨i.toNat,by omega⟩;obtain ⟨x,hx⟩:∃ x,w.all[j]? = some x:=⟨_,List.getElem?_eq_getElem (by omega)⟩
   have hsx:=hw.sm x (List.mem_of_getElem? hx)
   simp only [A9];rw [getI hbl,oB,dT (show (k:Int)<(l.length:Int) by omega),cT,oB,getI hi,oB,getI hx,oB,T4 x q (by have:=hsx.1;omega) (by have:=hsx.2.1;omega),oB,Int.toNat_natCast,hx]
   constructor
   ·intro hc
    have:x≠q:=by simpa using hc
    rw [dF this,cF_,Ab (by constructor <;> omega)]
   ·intro hc
    have:x=q:=by simpa using hc
    rw [dT this,cT])
  (by
   intro n
   simp only [A9];rw [getI hbl,oB,dF (by omega),cF_]) (by rw [FUv];omega)
 unfold Az;rw [eb,oB,loop,oB]
 cases hc:l.any (fun i=>decide (w.all[i.toNat]? = some q)) with
 | true =>
  left
  obtain ⟨i,hi,he⟩:=List.any_eq_true.1 hc;exact ⟨List.mem_of_getElem? (by simpa using he),rfl⟩
 | false =>
  right
  have hno:q∉w.all:=by
   intro hm
   obtain ⟨i,hi⟩:=List.getElem?_of_mem hm;obtain ⟨b',eb',l',hl',him⟩:=hw.has i q hi;rw [eb] at eb'
   have:b=b':=by have:=Option.some.inj eb';omega
   subst this;rw [hbl] at hl'
   cases hl'
   have:=List.any_eq_false.1 hc _ him
   simp [hi] at this
  refine ⟨hno,w.buckets.set b (l++[(w.all.length:Int)]),?_,?_⟩
  ·rw [if_neg (by decide),KK,getI hbl,oB,Ab (by simp;omega),oB,Ab (by simp;omega)];rfl
  ·refine ⟨by simp [addQ,hw.len],?_,?_,?_,?_⟩
   ·intro m hm
    show m.length<=(w.all++[q]).length
    rcases List.mem_or_eq_of_mem_set hm with h | rfl
    ·have:=hw.lens m h;simp;omega
    ·simp;omega
   ·intro m hm i hi
    show 0<=i/\i<((w.all++[q]).length:Int)
    rcases List.mem_or_eq_of_mem_set hm with h | rfl
    ·have:=hw.rng m h i hi;simp;omega
    ·rcases List.mem_append.1 hi with h | h
     ·have:=hw.rng l hlm i h;simp;omega
     ·rw [List.mem_singleton] at h;subst h;simp;omega
   ·intro i x hx
    show ∃ b':Nat,BB x=some (b':Int)/\∃ l',(w.buckets.set b (l++[(w.all.length:Int)]))[b']? = some l'/\(i:Int)∈l'
    have hx':(w.all++[q])[i]? = some x:=hx
    by_cases hi:i<w.all.length
    ·rw [List.getElem?_append_left hi] at hx'
     obtain ⟨b',e',l',hl',him⟩:=hw.has i x hx'
     by_cases hbb:b=b'
     ·subst hbb
      rw [hbl] at hl';cases hl'
      exact ⟨b,e',_,by rw [List.getElem?_set_self (by rw [hw.len];exact hb)],List.mem_append_left _ him⟩
     ·exact ⟨b',e',l',by rw [List.getElem?_set_ne hbb];exact hl',him⟩
    ·have hi2:i<(w.all++[q]).length:=(List.getElem?_eq_some_iff.1 hx').1
     have:i=w.all.length:=by simp at hi2;omega
     subst this;rw [List.getElem?_append_right (Nat.le_refl _),Nat.sub_self] at hx'
     cases hx'
     exact ⟨b,eb,_,by rw [List.getElem?_set_self (by rw [hw.len];exact hb)],by simp⟩
   ·intro x hx
    rcases List.mem_append.1 (show x∈w.all++[q] from hx) with h | h
    ·exact hw.sm x h
    ·rw [List.mem_singleton] at h;subst h;exact hq
end Go.Proofs.YtcoghblhdjmbfaaGreat
