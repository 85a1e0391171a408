/- Part 3 of the proof: a program logic, what the functions compute, and what these answer; no condition. -/
import Derived.Test.YtcoghblhdjmbfaaGreatp2
import Derived.Sort.OwnSortedInts
import Derived.Lib.SlicesCompact
import Derived.Conc.LoneSelectN
import Derived.Conc.LoneSelect
import Derived.Laws.IdiomRangeMap
import Derived.Below
import Derived.Lib.ItoaNum
import Derived.Lib.Join
set_option linter.unusedVariables false
set_option linter.unusedSimpArgs false
namespace Go.V
open Go.Sort
theorem Qu {H:PH} {l:List Int} {us:List Value} (e:ListEnc H D.i64 1 l us):us=l.map (Value.int .i64):=by
 apply List.ext_getElem?
 intro j
 rw [List.getElem?_map]
 cases hq:l[j]? with
 | none =>
  have hj:l.length<=j:=List.getElem?_eq_none_iff.1 hq
  rw [List.getElem?_eq_none (by rw [e.1];omega)];rfl
 | some x =>
  obtain ⟨ws,h1,h2,h3⟩:=e.2 j x hq;simp only [Enc] at h1;subst h1
  have:=h3 0 _ rfl
  rw [Nat.mul_one,Nat.add_zero] at this;rw [this];rfl
theorem Tj {H:PH} (l:List Int):ListEnc H D.i64 1 l (l.map (Value.int .i64)):=by
 refine ⟨by simp,fun i x hi=>⟨[.int .i64 x],by simp [Enc],rfl,fun k u hk=>?_⟩⟩
 have hk0:k=0:=by have:=(List.getElem?_eq_some_iff.1 hk).1;simp at this;omega
 subst hk0;simp only [List.getElem?_cons_zero,Option.some.injEq] at hk;subst hk;rw [Nat.mul_one,Nat.add_zero,List.getElem?_map,hi];rfl
theorem Qy {H:PH} {fr:List Asrt} {w:World} {b m cap n:Nat} {T:TypeId} {l r:List Int} {d:Array Int} {os:Array Obj} (hok:HeapOk H (arr (some ⟨b,0,none⟩) m cap T 1 D.i64 l::fr) w) {vs:List Value} (hb:w.heap[b]? = some (.cells vs.toArray T (0,0))) (hl:vs.length=cap*1)
  (hd:d.size=l.length) (hr:d.toList.take r.length=r) (hrl:r.length<=l.length) :
  HeapOk H (arr (some ⟨b,0,none⟩) r.length cap T 1 D.i64 r::fr) (grow (putRow (Value.int .i64) (Sort.ahead w n) b 0 d) os)/\SameOut w (grow (putRow (Value.int .i64) (Sort.ahead w n) b 0 d) os):=by
 obtain ⟨r0,r1,r2,r3⟩:=hok.ok _ (List.mem_cons_self ..)
 have hn:∀ o,H b o=none:=by
  rcases r3 with ⟨h,_⟩ | ⟨b',_,_,h,_,_,_,_,h2⟩
  ·cases h
  ·cases h;exact h2
 have hg:w.grownBy (grow (putRow (Value.int .i64) (Sort.ahead w n) b 0 d) os) (some b):=grownBy_sortedI d
 have hh:=heap_sortedI (w:=w) (g:=b) (n:=n) (os:=os) (cur:=vs.toArray) (e:=T) (fr:=(0,0)) d hb
 obtain ⟨g1,g2,g3,g4,g5⟩:=hg;refine ⟨hok.upd rfl g4 (fun b' hb' hne=>g5 b' hb' (fun e=>hne (by simp at e;simp [arr,e]))) (fun _ _ _ _=>rfl) (PH.le_refl H) (fun b' o v hor hv=>?_) ⟨rfl,by omega,r2,.inr ⟨b,(putCells (Value.int .i64) 0 d vs.toArray).toList,r.map (Value.int .i64),rfl,by simpa using hh,by simp [putCells,hl],Tj r,?_,hn⟩⟩,⟨g1,g3,g2,g4⟩⟩
 ·rcases hor with h | h
  ·simp only [arr,List.mem_singleton] at h
   subst h;rw [hn] at hv;cases hv
  ·rw [hok.none_new _ _ h] at hv;cases hv
 ·rw [Nat.mul_one]
  apply List.ext_getElem?
  intro j
  by_cases hj:j<r.length
  ·have h1:r[j]? = d[j]? := by rw [<- hr,List.getElem?_take_of_lt hj,Array.getElem?_toList]
   have hjd:j<d.size:=by omega
   rw [List.getElem?_take_of_lt hj,Array.getElem?_toList,List.getElem?_map,h1]
   have hjv:j<vs.length:=by omega
   simp [putCells,hjd,hjv]
  ·rw [List.getElem?_take_eq_none (by omega),List.getElem?_eq_none (by simp;omega)]
section
variable {P:Program} {f:FuncId} {T:TypeId}
theorem Ho (hS:∀ (blk off cap:Nat) (zs:List Int) (w:World),Holds (Value.int .i64) w blk off zs.toArray->blk<w.heap.size->zs.length<4611686018427387904 ->
      Calls P f #[.slice (some ⟨blk,off,none⟩) zs.length cap] w fun e w'=>e = .returned (.tuple #[])/\∃ n os,w'=grow (putRow (Value.int .i64) (Sort.ahead w n) blk off (zs.mergeSort fun x y=>decide (x<=y)).toArray) os)
    (h0:∀ (p:Option Addr) (cap:Nat) (w:World),Calls P f #[.slice p 0 cap] w fun e w'=>e = .returned (.tuple #[])/\w'=w)
    {a:Option Addr} {m cap:Nat} {l:List Int} (hl:l.length<4611686018427387904) :
    Fn P f [.v (.slice a m cap)] [arr a m cap T 1 D.i64 l] (fun d ms'=>d = .tup []/\ms'=[arr a m cap T 1 D.i64 (l.mergeSort fun x y=>decide (x<=y))]):=by
  intro H fr w vs hok hargs
  simp only [ConcL] at hargs
  obtain ⟨u,r,rfl,hu,rfl⟩:=hargs
  have hu':=conc_v.1 (show Conc H (.v (.slice a m cap)) u from hu)
  subst hu'
  obtain ⟨r0,r1,r2,r3⟩:=hok.ok _ (List.mem_cons_self ..)
  subst r0
  have ht:Conc H (.tup []) (.tuple #[]):=⟨[.tuple #[]],by simp [Enc,ConcL],rfl⟩
  rcases r3 with ⟨rfl,rfl,rfl⟩ | ⟨b,ws,us,rfl,hb,hwl,he,htk,hn⟩
  · refine (h0 none 0 w).mono ?_
    rintro e w' ⟨rfl,rfl⟩
    exact ⟨_,_,_,H,rfl,⟨rfl,rfl⟩,PH.le_refl H,by simpa using hok,ht,SameOut.refl w'⟩
  · have hus:=Qu he
    have hH:Holds (Value.int .i64) w b 0 l.toArray:=holds_of_blockI (cur:=ws.toArray) hb (by rw [<- hus,<- htk,Nat.mul_one])
    have hlt:b<w.heap.size:=(Array.getElem?_eq_some_iff.1 hb).1
    refine (hS b 0 cap l w hH hlt hl).mono ?_
    rintro e w' ⟨rfl,n,os,rfl⟩
    have hp:=Qy (n:=n) (os:=os) (r:=l.mergeSort fun x y=>decide (x<=y)) (d:=(l.mergeSort fun x y=>decide (x<=y)).toArray) hok hb hwl (by simp) (List.take_of_length_le (by simp)) (by simp)
    simp only [List.length_mergeSort] at hp
    exact ⟨_,_,_,H,rfl,⟨rfl,rfl⟩,PH.le_refl H,hp.1,ht,hp.2⟩
theorem Le (zs:List Int):(Lib.compact zs).length<=zs.length:=by
 unfold Lib.compact Lib.compactUpTo;rw [List.length_map];exact Nat.le_trans (List.length_filter_le _ _) (by simp)
theorem Hs (hS:∀ (blk off cap:Nat) (zs:List Int) (w:World),Holds (Value.int .i64) w blk off zs.toArray->zs.length<=9223372036854775807->zs.length<=cap ->
      Calls P f #[.slice (some ⟨blk,off,none⟩) zs.length cap] w fun e w'=>e = .returned (.slice (some ⟨blk,off,none⟩) (Lib.compact zs).length cap)/\∃ q,w'=putRow (Value.int .i64) (Sort.ahead w q) blk off (Lib.compact zs++List.replicate (zs.length - (Lib.compact zs).length) 0).toArray)
    (h0:∀ (p:Option Addr) (cap:Nat) (w:World),Calls P f #[.slice p 0 cap] w fun e w'=>e = .returned (.slice p 0 cap)/\w'=w)
    {a:Option Addr} {m cap:Nat} {l:List Int} :
    Fn P f [.v (.slice a m cap)] [arr a m cap T 1 D.i64 l] (fun d ms'=>∃ m',d = .v (.slice a m' cap)/\ms'=[arr a m' cap T 1 D.i64 (Lib.compact l)]):=by
  intro H fr w vs hok hargs
  simp only [ConcL] at hargs
  obtain ⟨u,r,rfl,hu,rfl⟩:=hargs
  have hu':=conc_v.1 (show Conc H (.v (.slice a m cap)) u from hu)
  subst hu'
  obtain ⟨r0,r1,r2,r3⟩:=hok.ok _ (List.mem_cons_self ..)
  subst r0
  rcases r3 with ⟨rfl,rfl,rfl⟩ | ⟨b,ws,us,rfl,hb,hwl,he,htk,hn⟩
  · refine (h0 none 0 w).mono ?_
    rintro e w' ⟨rfl,rfl⟩
    exact ⟨_,_,_,H,rfl,⟨0,rfl,rfl⟩,PH.le_refl H,(show HeapOk H (arr none 0 0 T 1 D.i64 []::fr) w' from hok),conc_v.2 rfl,SameOut.refl w'⟩
  · have hus:=Qu he
    have hH:Holds (Value.int .i64) w b 0 l.toArray:=holds_of_blockI (cur:=ws.toArray) hb (by rw [<- hus,<- htk,Nat.mul_one])
    refine (hS b 0 cap l w hH (by simp only [maxLen] at r2;omega) r1).mono ?_
    rintro e w' ⟨rfl,n,rfl⟩
    have hc:=Le l
    have hp:=Qy (n:=n) (os := #[]) (r:=Lib.compact l) (d:=(Lib.compact l++List.replicate (l.length - (Lib.compact l).length) 0).toArray) hok hb hwl (by simp;omega) (by simp) hc
    rw [grow_empty] at hp
    exact ⟨_,_,_,H,rfl,⟨_,rfl,rfl⟩,PH.le_refl H,hp.1,conc_v.2 rfl,hp.2⟩
end
end Go.V
namespace Go.V
open Go.Conc (solo rcase scase)
def chn (c cap:Nat) {α:Type} (f:α->D) (l:List α):Asrt where
 blocks:=[c]
 ok:=fun H h=>∃ (s r:Nat) (vs:List Value),h c=some (.chan cap vs.toArray false s r false)/\ConcL H (l.map f) vs
 stable:=fun H H' h h' e hle ⟨s,r,vs,h1,h2⟩=>⟨s,r,vs,by rw [(e c (by simp)).2];exact h1,ConcL.mono hle _ vs h2⟩
section
variable {P:Program} {L:Env} {ms:List Asrt} {dst:Option Nat} {ty:TypeId} {pos:String} {after:Array Edge} {g:Option (Nat×Bool)} {d:D} {x y:Operand} {t e:TypeId} {α:Type} {f:α->D} {c cap:Nat} {l:List α}
def SelT (P:Program) (o:Oper) (L:Env) (ms:List Asrt) (R:D->List Asrt->Prop):Prop:=
 ∀ (ro:Option Nat) (H:PH) (fr:List Asrt) (a:Act) (w:World),HeapOk H (ms++fr) w->EnvOk H L a.tmps ->
  ∃ v d ms' w' H',R d ms'/\PH.le H H'/\HeapOk H' (ms'++fr) w'/\Conc H' d v/\SameOut w w' /\
   ∀ (b:Frame) (ops:Array Oper) (rest:List Nat) (k:List Item) (cs:List Frame),b.roundOf=ro->ops[0]? = some o ->
    step P (lone (b.atR a (.inRegion ops (0::rest)::k)) cs w) = .next (lone (b.atR (a.put o.dst v) (.inRegion ops rest::k)) cs w')
theorem K2 {H:PH} {ds:List D} {us:List Value} (h:ConcL H ds us):Conc H (.tup ds) (.tuple us.toArray):=⟨[.tuple us.toArray],by simp only [Enc];exact ⟨us,rfl,h⟩,by simp [D.val]⟩
theorem E2 {H:PH} {d:D} {ds:List D} {u:Value} {us:List Value} (h:Conc H d u) (hs:ConcL H ds us):ConcL H (d::ds) (u::us):=by
 simp only [ConcL];exact ⟨u,us,rfl,h,hs⟩
theorem Jf {H:PH}:ConcL H [] []:=by simp [ConcL]
theorem SelT.mono {o:Oper} {R R':D->List Asrt->Prop} (h:SelT P o L ms R) (hr:∀ d ms',R d ms'->R' d ms'):SelT P o L ms R':=by
 intro ro H fr a w hok henv
 obtain ⟨v,d,ms',w',H',hR,rest⟩:=h ro H fr a w hok henv;exact ⟨v,d,ms',w',H',hr _ _ hR,rest⟩
end
end Go.V
namespace Go.V
section
variable {α β:Type} {fk:α->Value} {fv:β->D} {H:PH}
theorem MapOk.get:∀ {l:List (α×β)} {es:List MapEntry} {j:Nat} {e:MapEntry},MapOk fk fv H l es->es[j]? = some e->∃ p,l[j]? = some p/\e.key=fk p.1/\Conc H (fv p.2) e.val
 | [],[],j,e,_,h=>by simp at h
 | [],_::_,_,_,h,_=>h.elim
 | _::_,[],_,_,h,_=>h.elim
 | (a,b)::l,x::es,0,e,⟨h1,h2,h3⟩,h=>by
  simp at h;subst h;exact ⟨(a,b),by simp,h1,h2⟩
 | (a,b)::l,x::es,j+1,e,⟨h1,h2,h3⟩,h=>by
  obtain ⟨p,q1,q2⟩:=MapOk.get h3 (by simpa using h);exact ⟨p,by simpa using q1,q2⟩
theorem MapOk.erase:∀ {l:List (α×β)} {es:List MapEntry} (j:Nat),MapOk fk fv H l es->MapOk fk fv H (l.eraseIdx j) (es.eraseIdx j)
 | [],[],j,h=>by simp [MapOk]
 | [],_::_,_,h=>h.elim
 | _::_,[],_,h=>h.elim
 | (a,b)::l,x::es,0,⟨h1,h2,h3⟩=>by simpa using h3
 | (a,b)::l,x::es,j+1,⟨h1,h2,h3⟩=>by
  simp only [List.eraseIdx_cons_succ];exact ⟨h1,h2,MapOk.erase j h3⟩
theorem MapOk.nil:∀ {l:List (α×β)},MapOk fk fv H l []->l=[]
 | [],_=>rfl
 | _::_,h=>h.elim
end
theorem IB (e:MapEntry):∀ (l:List MapEntry) (j:Nat),(l.map (·.born)).Nodup->l[j]? = some e->l.filter (fun x => !(x.born == e.born))=l.eraseIdx j
 | [],j,_,h=>by simp at h
 | x::l,0,hn,h=>by
  simp at h;subst h
  rw [List.map_cons,List.nodup_cons] at hn;rw [List.filter_cons_of_neg (by simp),List.eraseIdx_cons_zero];refine List.filter_eq_self.2 fun y hy=>?_
  have:¬ y.born=x.born:=fun e=>hn.1 (e▸List.mem_map.2 ⟨y,hy,rfl⟩)
  simpa using this
 | x::l,j+1,hn,h=>by
  rw [List.map_cons,List.nodup_cons] at hn
  have hx:¬ x.born=e.born:=fun q=>hn.1 (q▸List.mem_map.2 ⟨e,List.mem_of_getElem? (by simpa using h),rfl⟩)
  rw [List.filter_cons_of_pos (by simpa using hx),List.eraseIdx_cons_succ,IB e l j hn.2 (by simpa using h)]
theorem QV (es:List MapEntry) (seen:Array Nat) (e:MapEntry) {j:Nat} (hn:(es.map (·.born)).Nodup) (hj:(es.filter fun x => !seen.contains x.born)[j]? = some e) :
  (es.filter fun x => !(seen.push e.born).contains x.born)=(es.filter fun x => !seen.contains x.born).eraseIdx j:=by
 rw [<- IB e _ j (by
  have:=List.Sublist.map (fun x:MapEntry=>x.born) (List.filter_sublist (p:=fun x => !seen.contains x.born) (l:=es))
  exact hn.sublist this) hj,List.filter_filter]
 congr 1
 funext x
 simp only [Array.contains_push,Bool.not_or];rw [Bool.and_comm]
theorem O7 {es:List MapEntry} {e:MapEntry} (hn:(es.map (·.born)).Nodup) (he:e∈es):es.find? (fun x=>x.born == e.born)=some e:=find_born e es hn he
theorem MW {P:Program} {w:World} {ty:TypeId} {r bm since c0 clock:Nat} {seen:Array Nat} {es:Array MapEntry} (hr:w.heap[r]? = some (.mapIter (some bm) since seen c0)) (hb:w.heap[bm]? = some (.map es clock)) (hold:∀ x∈es.toList,x.born<since) (hsc:since<=c0) :
  (es.toList.filter (fun e => !seen.contains e.born)=[]/\(Instr.next (.pointer (some ⟨r,0,none⟩)) false ty).run P w = .ok (.tuple #[.bool false]) w) \/
  ∃ (j:Nat) (e:MapEntry) (n:Nat),(es.toList.filter (fun e => !seen.contains e.born))[j]? = some e/\(Instr.next (.pointer (some ⟨r,0,none⟩)) false ty).run P w = .ok (.tuple #[.bool true,e.key,e.val]) { w with drawn:=n,heap:=w.heap.setIfInBounds r (.mapIter (some bm) since (seen.push e.born) clock) }:=by
 simp only [Instr.next,getObj,Sem.run_bind,Sem.run,hr,hb,Result.andThen,next_test_false seen es since c0 hold hsc,Bool.false_eq_true,if_false]
 have hfl:(Array.filter (fun e => !seen.contains e.born) es).toList=es.toList.filter (fun e => !seen.contains e.born):=by simp
 have hmem:∀ x∈(Array.filter (fun e => !seen.contains e.born) es).toList,x.born<since:=fun x hx=>hold x (by rw [hfl] at hx;exact (List.mem_filter.1 hx).1)
 rw [<- hfl]
 generalize Array.filter (fun e => !seen.contains e.born) es=Q at hmem ⊢
 have e1:Q.filter (fun x=>decide (x.born<since))=Q:=Array.filter_eq_self.2 (fun x hx=>by simpa using hmem x (by simpa using hx))
 have e2:Q.filter (fun x=>decide (x.born ≥ since)) = #[]:=by
  rw [Array.filter_eq_empty_iff]
  intro x hx
  have:=hmem x (by simpa using hx)
  simp;omega
 simp only [e1,e2,Array.append_empty]
 by_cases h0:Q.size=0
 ·have:Q = #[]:=Array.eq_empty_of_size_eq_zero h0
  subst this;exact .inl ⟨rfl,by simp [choose,Sem.run,Question.forced]⟩
 ·have hne:Q.isEmpty=false:=by simp [Array.isEmpty,h0]
  simp only [hne,Bool.false_eq_true,if_false,Array.empty_append,Array.size_map];obtain ⟨j,n,hj,hrun⟩:∃ (j n:Nat),j<Q.size/\(choose (Question.mapNext Q.size)).run P w = .ok j { w with drawn:=n }:=by
   by_cases hf:Q.size<=1
   ·exact ⟨0,w.drawn,by omega,by simp [choose,Sem.run,Question.forced,hf]⟩
   ·exact ⟨_,w.drawn+1,Nat.mod_lt _ (by omega),by
     simp only [choose,Sem.run,Question.forced,decide_eq_true_eq,hf,if_false,Question.cut]
     rfl⟩
  refine .inr ⟨j,Q[j],n,by simp [hj],?_⟩
  have hlt:r<w.heap.size:=(Array.getElem?_eq_some_iff.1 hr).1
  have hset:∀ (o':Obj),(setObj r o').run P ({ w with drawn:=n }:World) = .ok () ({ w with drawn:=n,heap:=w.heap.setIfInBounds r o' }:World):=fun o'=>by
   have hr2:({ w with drawn:=n }:World).heap[r]? = some (.mapIter (some bm) since seen c0):=hr
   simp only [setObj,Sem.run,hr2]
  simp only [hrun,Array.getElem?_map,Array.getElem?_eq_getElem hj,Option.map_some,Sem.run_bind,hset,Result.andThen]
  rfl
def mpi {α β:Type} (b r:Nat) (fk:α->Value) (fv:β->D) (l rest:List (α×β)) (last:Option (α×β)):Asrt where
 blocks:=[b,r]
 ok:=fun H h=>(∃ es clock since seen c0,h b=some (.map es clock)/\MapOk fk fv H l es.toList/\StOk es.toList clock/\h r=some (.mapIter (some b) since seen c0)/\(since<=c0/\since<=clock)/\(∀ e∈es.toList,e.born<since) /\
  MapOk fk fv H rest (es.toList.filter fun e => !seen.contains e.born)/\∀ p,last=some p->c0=clock/\∃ e∈es.toList,seen.back? = some e.born/\e.key=fk p.1/\Conc H (fv p.2) e.val)/\(∀ o,H b o=none)/\∀ o,H r o=none
 stable:=by
  rintro H H' h h' e hle ⟨⟨es,clock,since,seen,c0,h1,h2,h3,h4,h5,h6,h7,h8⟩,h9,h10⟩
  have eb:=e b (by simp)
  have er:=e r (by simp)
  refine ⟨⟨es,clock,since,seen,c0,by rw [eb.2];exact h1,h2.mono hle,h3,by rw [er.2];exact h4,h5,h6,h7.mono hle,fun p hp=>?_⟩,fun o=>by rw [eb.1];exact h9 o,fun o=>by rw [er.1];exact h10 o⟩;obtain ⟨q1,e,q2,q3,q4,q5⟩:=h8 p hp;exact ⟨q1,e,q2,q3,q4,q5.mono hle⟩
section
variable {P:Program} {L:Env} {ms:List Asrt} {dst:Option Nat} {ty:TypeId} {pos:String} {after:Array Edge} {g:Option (Nat×Bool)} {d:D} {x y:Operand} {t:TypeId} {α β:Type} {fk:α->Value} {fv:β->D} {b r:Nat} {l rest:List (α×β)} {last:Option (α×β)}
theorem HeapOk.join {H:PH} {A B C:Asrt} {as:List Asrt} {w:World} (h:HeapOk H (A::B::as) w) (hb:C.blocks.Perm (A.blocks++B.blocks)) (hok:A.ok H (fun b=>w.heap[b]?)->B.ok H (fun b=>w.heap[b]?)->C.ok H (fun b=>w.heap[b]?)):HeapOk H (C::as) w:=by
 refine ⟨h.sub,?_,?_,?_⟩
 ·have:=h.nodup
  simp only [List.flatMap_cons] at this ⊢;rw [<- List.append_assoc] at this;exact (List.Perm.nodup_iff (hb.append_right _)).2 this
 ·intro D hD b hbD
  rcases List.mem_cons.1 hD with rfl | hD
  ·rcases List.mem_append.1 (hb.mem_iff.1 hbD) with h1 | h1
   ·exact h.lt A (by simp) b h1
   ·exact h.lt B (by simp) b h1
  ·exact h.lt D (by simp [hD]) b hbD
 ·intro D hD
  rcases List.mem_cons.1 hD with rfl | hD
  ·exact hok (h.ok A (by simp)) (h.ok B (by simp))
  ·exact h.ok D (by simp [hD])
theorem HeapOk.less {H:PH} {A B:Asrt} {as:List Asrt} {w:World} (h:HeapOk H (A::as) w) (hb:B.blocks.Sublist A.blocks) (hok:A.ok H (fun b=>w.heap[b]?)->B.ok H (fun b=>w.heap[b]?)):HeapOk H (B::as) w:=by
 refine ⟨h.sub,?_,?_,?_⟩
 ·have:=h.nodup
  simp only [List.flatMap_cons] at this ⊢;exact this.sublist (hb.append_right _)
 ·intro D hD b hbD
  rcases List.mem_cons.1 hD with rfl | hD
  ·exact h.lt A (by simp) b (hb.subset hbD)
  ·exact h.lt D (by simp [hD]) b hbD
 ·intro D hD
  rcases List.mem_cons.1 hD with rfl | hD
  ·exact hok (h.ok A (by simp))
  ·exact h.ok D (by simp [hD])
theorem JQ {kt et:TypeId} (k:Nat) (hu:P.underlying t=some (.map kt et)) (hx:Env.ev L x=some (.v (.map (some b)))) (hm:ms[k]? = some (mp b fk fv l)) :
  OpT P ⟨dst,.range t x,ty,pos,after,g⟩ L ms (fun d' ms'=>∃ r,d' = .v (.pointer (some ⟨r,0,none⟩))/\ms'=ms.set k (mpi b r fk fv l l none)):=by
 refine .val (by simp) fun H fr a w hok henv=>?_
 have hok1:=hok.perm (CG hm)
 obtain ⟨⟨es,clock,h1,h2,h3⟩,h4⟩:=hok1.ok _ (List.mem_cons_self ..)
 have h1':w.heap[b]? = some (.map es clock):=h1
 refine ⟨.pointer (some ⟨w.heap.size,0,none⟩),_,_,w.alloc (.mapIter (some b) clock #[] clock),H,?_,⟨w.heap.size,rfl,rfl⟩,PH.le_refl H,?_,conc_v.2 rfl,BG _ _⟩
 ·simp only [execOp,BA henv hx,Sem.run_bind,run_range_map w t kt et b es clock hu h1',Result.andThen_ok,Sem.run_pure]
 ·let it:Asrt:=⟨[w.heap.size],fun H h=>h w.heap.size=some (.mapIter (some b) clock #[] clock)/\∀ o,H w.heap.size o=none,fun H H' h h' e _ o=>⟨by rw [(e w.heap.size (by simp)).2];exact o.1,fun q=>by rw [(e w.heap.size (by simp)).1];exact o.2 q⟩⟩
  have h5:=hok1.own (A:=it) (o := .mapIter (some b) clock #[] clock) rfl ⟨AN _ _,fun o=>hok.none_new _ _ (Nat.le_refl _)⟩
  refine HeapOk.perm (BC hm) (h5.join (C:=mpi b w.heap.size fk fv l l none) (by simp only [mpi,mp,it];exact List.Perm.swap _ _ _) ?_);rintro ⟨q1,q2⟩ ⟨⟨es',clock',p1,p2,p3⟩,p4⟩
  have hb2:(w.alloc (.mapIter (some b) clock #[] clock)).heap[b]? = some (.map es clock):=by
   rw [Go.V.heap_alloc_old w _ _ (hok1.lt _ (List.mem_cons_self ..) b (by simp [mp]))];exact h1'
  have hee:some (Obj.map es' clock')=some (Obj.map es clock):=p1.symm.trans hb2
  simp only [Option.some.injEq,Obj.map.injEq] at hee;obtain ⟨rfl,rfl⟩:=hee;refine ⟨⟨es',clock',clock',#[],clock',hb2,p2,p3,q1,⟨Nat.le_refl _,Nat.le_refl _⟩,p3.2,?_,fun p hp=>by cases hp⟩,p4,q2⟩
  have hf:(es'.toList.filter fun e => !(#[]:Array Nat).contains e.born)=es'.toList:=List.filter_eq_self.2 (fun _ _=>by simp)
  rw [hf];exact p2
theorem KE (k:Nat) (hx:Env.ev L x=some (.v (.pointer (some ⟨r,0,none⟩)))) (hm:ms[k]? = some (mpi b r fk fv l rest last)) :
  OpT P ⟨dst,.next x false,ty,pos,after,g⟩ L ms (fun d' ms'=>(rest=[]/\d' = .tup [.bool false]/\ms'=ms)\/∃ i p,rest[i]? = some p/\d' = .tup [.bool true,.v (fk p.1),fv p.2]/\ms'=ms.set k (mpi b r fk fv l (rest.eraseIdx i) (some p))):=by
 refine .val (by simp) fun H fr a w hok henv=>?_
 have hok1:=hok.perm (CG hm)
 obtain ⟨⟨es,clock,since,seen,c0,h1,h2,h3,h4,h5,h6,h7,h8⟩,h9,h10⟩:=hok1.ok _ (List.mem_cons_self ..)
 have hlt:r<w.heap.size:=(Array.getElem?_eq_some_iff.1 h4).1
 rcases MW (P:=P) (ty:=ty) h4 h1 h6 h5.1 with ⟨q1,q2⟩ | ⟨j,e,n,q1,q2⟩
 ·rw [q1] at h7
  refine ⟨.tuple #[.bool false],_,_,w,H,by simp only [execOp,BA henv hx,Sem.run_bind,q2,Result.andThen_ok,Sem.run_pure],.inl ⟨h7.nil,rfl,rfl⟩,PH.le_refl H,hok,K2 (E2 (conc_v.2 rfl) Jf),SameOut.refl w⟩
 ·obtain ⟨p,p1,p2,p3⟩:=h7.get q1
  have hbr:b≠r:=by
   have:=hok1.nodup
   simp only [List.flatMap_cons,mpi,List.cons_append,List.nil_append,List.nodup_cons,List.mem_cons] at this;exact fun e=>this.1 (.inl e)
  have he:e∈es.toList:=(List.mem_filter.1 (List.mem_of_getElem? q1)).1
  refine ⟨.tuple #[.bool true,e.key,e.val],_,_,{ w with drawn:=n,heap:=w.heap.setIfInBounds r (.mapIter (some b) since (seen.push e.born) clock) },H,by simp only [execOp,BA henv hx,Sem.run_bind,q2,Result.andThen_ok,Sem.run_pure],.inr ⟨j,p,p1,rfl,rfl⟩,PH.le_refl H,?_,K2 (E2 (conc_v.2 rfl) (E2 (conc_v.2 p2) (E2 p3 Jf))),⟨rfl,rfl,rfl,by simp⟩⟩;refine HeapOk.perm (BC hm) ?_;refine hok1.upd rfl (by simp) ?_ (fun _ _ _ _=>rfl) (PH.le_refl H) ?_ ?_
  ·intro b' _ hn
   have:r≠b':=fun e=>hn (by simp [mpi,e])
   show (w.heap.setIfInBounds r _)[b']? = _
   rw [Array.getElem?_setIfInBounds_ne this]
  ·intro b' o v hb' hv
   rcases hb' with hb' | hb'
   ·simp only [mpi,List.mem_cons,List.not_mem_nil,or_false] at hb'
    rcases hb' with rfl | rfl
    ·rw [h9] at hv;cases hv
    ·rw [h10] at hv;cases hv
   ·rw [hok1.none_new _ _ hb'] at hv;cases hv
  ·refine ⟨⟨es,clock,since,seen.push e.born,clock,?_,h2,h3,?_,⟨h5.2,h5.2⟩,h6,?_,fun q hq=>?_⟩,h9,h10⟩
   ·show (w.heap.setIfInBounds r _)[b]? = _
    rw [Array.getElem?_setIfInBounds_ne (Ne.symm hbr)];exact h1
   ·show (w.heap.setIfInBounds r _)[r]? = _
    simp [hlt]
   ·rw [QV es.toList seen e h3.1 q1];exact h7.erase j
   ·cases hq
    exact ⟨rfl,e,he,by simp,p2,p3⟩
theorem JO {p:α×β} (k:Nat) (hx:Env.ev L x=some (.v (.pointer (some ⟨r,0,none⟩)))) (hm:ms[k]? = some (mpi b r fk fv l rest (some p))) :
  OpP P ⟨dst,.entry x,ty,pos,after,g⟩ L ms (.tup [.v (fk p.1),fv p.2]):=by
 refine .pure (by simp) fun H fr a w hok henv=>?_;obtain ⟨⟨es,clock,since,seen,c0,h1,h2,h3,h4,h5,h6,h7,h8⟩,h9,h10⟩:=hok.ok _ (List.mem_of_getElem? (getElem?_app (r:=fr) hm));obtain ⟨rfl,e,q2,q3,q4,q5⟩:=h8 p rfl
 have h1':w.heap[b]? = some (.map es c0):=h1
 have h4':w.heap[r]? = some (.mapIter (some b) since seen c0):=h4
 have hf:es.find? (fun x=>x.born == e.born)=some e:=by rw [<- Array.find?_toList];exact O7 h3.1 q2
 refine ⟨.tuple #[e.key,e.val],?_,K2 (E2 (conc_v.2 q4) (E2 q5 Jf))⟩;simp only [execOp,BA henv hx,Instr.entry,getObj,Sem.run_bind,Sem.run,h4',h1',Result.andThen,q3,bne_self_eq_false,Bool.false_eq_true,if_false,hf]
 rfl
theorem HJ (k:Nat) (hm:ms[k]? = some (mpi b r fk fv l rest last)) {ms':List Asrt} (hms:ms.set k (mp b fk fv l)=ms'):Refines L ms L ms':=by
 subst hms
 intro Γ act w mm
 obtain ⟨H,marks,hle,hok,henv,hdf⟩:=mm.ex
 have hok1:=hok.perm (CG hm)
 refine ⟨⟨H,marks,hle,HeapOk.perm (BC hm) (hok1.less (by simp [mp,mpi]) ?_),henv,hdf⟩,mm.size,mm.same⟩;rintro ⟨⟨es,clock,since,seen,c0,h1,h2,h3,h4,h5,h6,h7,h8⟩,h9,h10⟩;exact ⟨⟨es,clock,h1,h2,h3⟩,h9⟩
theorem QP {kt et:TypeId} (k:Nat) (hu:∀ w,(underlying t).run P w = .ok (.map kt et) w) (hx:Env.ev L x=some (.v (.map (some b)))) (hm:ms[k]? = some (mp b fk fv l)) :
  OpP P ⟨dst,.call ⟨.builtin .len,#[x],#[t]⟩,ty,pos,after,g⟩ L ms (.v (.int .i64 l.length)):=by
 refine .pure (by simp) fun H fr a w hok henv=>?_;obtain ⟨⟨es,clock,h1,h2,h3⟩,_⟩:=hok.ok _ (List.mem_of_getElem? (getElem?_app (r:=fr) hm))
 have h1':w.heap[b]? = some (.map es clock):=h1
 have hl:∀ {l:List (α×β)} {es:List MapEntry},MapOk fk fv H l es->es.length=l.length:=by
  intro l
  induction l with
  | nil=>intro es h;cases es with
   | nil=>rfl
   | cons=>exact h.elim
  | cons p l ih=>intro es h;cases es with
   | nil=>exact h.elim
   | cons e es=>obtain ⟨_,_,h⟩:=h;simp [ih h]
 have:=hl h2
 refine ⟨.int .i64 l.length,?_,conc_v.2 rfl⟩;simp only [Array.length_toList] at this
 simp [execOp,resolve,invoke,builtin,Builtin.len_,BA henv hx,hu,getObj,h1',Sem.run,goInt,this]
end
theorem Oh {ι A B:Type} {Q:ι->Prop} {a:Option A} {f:ι->A->Option B} {r:B} (i0:ι) (h0:Q i0) (h:∀ i,Q i->a.bind (f i)=some r):∃ x,a=some x/\∀ i,Q i->f i x=some r:=by
 cases a with
 | none=>exact absurd (h i0 h0) (by simp)
 | some x=>exact ⟨x,rfl,fun i hi=>h i hi⟩
def Ords {α:Type} (ord:List α->List α):Prop:=∀ l,(ord l).Perm l
theorem IX {α:Type}:Ords (id:List α->List α):=fun _=>List.Perm.refl _
open Classical in
noncomputable def AllO {α R:Type} (f:(List α->List α)->Option R):Option R:=if h:∃ r,∀ ord,Ords ord->f ord=some r then some h.choose else none
theorem Q8 {α R:Type} {f:(List α->List α)->Option R} {r:R} (h:AllO f=some r):∀ ord,Ords ord->f ord=some r:=by
 unfold AllO at h
 split at h
 ·rename_i hx
  have e:=Option.some.inj h
  intro ord ho
  rw [hx.choose_spec ord ho,e]
 ·cases h
theorem PE {α R:Type} {f:(List α->List α)->Option R} {r:R} (h:∀ ord,Ords ord->f ord=some r):AllO f=some r:=by
 unfold AllO
 have hx:∃ r,∀ ord,Ords ord->f ord=some r:=⟨r,h⟩
 rw [dif_pos hx]
 have:=hx.choose_spec id IX
 rw [h id IX] at this;exact congrArg some (Option.some.inj this).symm
open Classical in
theorem Vj {α R:Type} {ll:List α} {φ:List α->Option R} {r:R} (h:∀ ord:List α->List α,Ords ord->φ (ord ll)=some r):∀ q,q.Perm ll->φ q=some r:=fun q hq=>by
 have:=h (fun l=>if l=ll then q else l) (fun l=>by
  by_cases e:l=ll
  ·subst e;simp only [if_true];exact hq
  ·simp only [e,if_false];exact List.Perm.refl _)
 rwa [if_pos rfl] at this
theorem Rl {α:Type} {rest:List α} {i:Nat} {p:α} (h:rest[i]? = some p) {q:List α} (hq:q.Perm (rest.eraseIdx i)):(p::q).Perm rest:=
 (hq.cons p).trans (Fb rest i p h).symm
section
variable {Γ:Ctx} {P:Program} {L:Env} {ms:List Asrt} {K:KT}
theorem Py {c:Code} {X S Hid O:Type} {φ:List X->S->Option O} {l0:List X} {st0:S} {o:O} (L1:Env) (F:List (Nat×Asrt)) (mod:S->Hid->Env) (own:List (Nat×Asrt)->List X->Option X->S->Hid->List Asrt) (last0:Option X) (hid0:Hid) (hm:∀ q,q.Perm l0->φ q st0=some o)
  (hs:SubEnv L1 L) (hF:FixOk ms F) (r0:SubEnv (mod st0 hid0) L) (o0:own F l0 last0 st0 hid0=ms)
  (round:∀ rest last st hid,(∀ q,q.Perm rest->φ q st=some o)->G Γ P c (mod st hid++L1) (own F rest last st hid) (KT.then (fun L' ms'=>∃ rest' last' st' hid',rest'.length<rest.length/\(∀ q,q.Perm rest'->φ q st'=some o)/\SubEnv (mod st' hid') L'/\SubEnv L1 L'/\∃ junk,ms'=junk++own F rest' last' st' hid') K)):G Γ P (.loop c) L ms K:=by
 refine IP L1 (fun (s:List X×Option X×S×Hid)=>∀ q,q.Perm s.1->φ q s.2.2.1=some o) (fun s=>mod s.2.2.1 s.2.2.2) (fun s=>own F s.1 s.2.1 s.2.2.1 s.2.2.2) (fun s=>s.1.length) (l0,last0,st0,hid0) hm hs r0 o0 ?_;rintro ⟨rest,last,st,hid⟩ hI;refine HC (round rest last st hid hI) ?_
 intro e L' ms' k
 cases e with
 | normal =>
  obtain ⟨rest',last',st',hid',h0,h1,h2,h3,h4⟩:=k;exact ⟨(rest',last',st',hid'),h1,h0,h2,h3,h4⟩
 | _=>exact k
theorem K7 {α:Type} {l:List α} {i:Nat} {p:α} (h:l[i]? = some p):(l.eraseIdx i).length<l.length:=by
 have hi:=(List.getElem?_eq_some_iff.1 h).1
 rw [List.length_eraseIdx]
 split <;> omega
end
def orI (x y:Int):Int:=IntKind.i64.wrap ((BitVec.ofInt IntKind.i64.bits x ||| BitVec.ofInt IntKind.i64.bits y).toNat:Int)
theorem VO {P:Program} {L:Env} {ms:List Asrt} {dst:Option Nat} {ty:TypeId} {pos:String} {after:Array Edge} {g:Option (Nat×Bool)} {x y:Operand} {t t':TypeId} {m n:Int} (hx:Env.ev L x=some (.v (.int .i64 m))) (hy:Env.ev L y=some (.v (.int .i64 n))) :
  OpP P ⟨dst,.binOp .or t x y t',ty,pos,after,g⟩ L ms (.v (.int .i64 (orI m n))):=
 .pure (by simp) fun H fr a w _ henv=>⟨.int .i64 (orI m n),by simp [execOp,BA henv hx,BA henv hy,eqGuard,binOp,Op.intBits,Sem.run,orI],conc_v.2 rfl⟩
end Go.V
namespace Go.V
def IterM (P:Program) (gf:FuncId) (caps:List D) (M:Asrt) {σ:Type} (s0:σ) (nx:σ->List D->σ->Prop) (fi:σ->Prop):Prop:=
 ∀ (y:D),(y.storable=true/\y.isAgg=false)->∀ (J:σ->List Asrt->Prop) (Jx:List Asrt->Prop),
  (∀ s ds s' ms,nx s ds s'->J s ms->FV P y ds ms (fun r ms'=>(r = .bool true/\J s' ms')\/(r = .bool false/\Jx ms'))) ->
  ∀ ms,J s0 ms->Fn P gf (y::caps) (M::ms) (fun _ ms'=>∃ ms2,ms'=M::ms2/\((∃ s,fi s/\J s ms2)\/Jx ms2))
section
variable {Γ:Ctx} {P:Program} {L:Env} {ms:List Asrt} {K:KT}
theorem MQ {g:Operand} {ps:List Nat} {assign body:Code} {gf:FuncId} {caps:List D} {σ:Type} (M:Asrt) (s0:σ) (nx:σ->List D->σ->Prop) (fi:σ->Prop) (J:σ->List Asrt->Prop)
  (hg:Env.ev L g=some (.clo (.func gf) [] caps)) (hc:∀ args w,(callFunc gf args).run P w = .ok (.enter gf args) w) (hit:IterM P gf caps M s0 nx fi) (h0:J s0 ms)
  (hlen:∀ s ds s',nx s ds s'->ds.length=ps.length) (hps:ps.all (fun p=>Nat.blt p Γ.N)=true)
  (round:∀ (Γ':Ctx) (s:σ) (ds:List D) (s':σ) (ms':List Asrt),Γ'.N=Γ.N->nx s ds s'->J s ms' ->
   G Γ' P assign (F8 ps ds L) ms' (KT.then (fun L' ms''=>∀ Γ'':Ctx,Γ''.N=Γ.N->G Γ'' P body L' ms'' (fun e _ ms3=>match e with | .normal=>J s' ms3 | .ret=>K .ret L (M::ms3) | .exit id=>K (.exit id) L (M::ms3) | _=>False)) (fun _ _ _=>False)))
  (hdone:∀ s ms',fi s->J s ms'->K .normal L (M::ms')):G Γ P (.rangeFunc g ps.toArray assign body) L (M::ms) K:=by
 intro a w m
 obtain ⟨H,marks,hle,hok,henv,hdf⟩:=m.ex;refine wpIn_rangeFunc ?_
 intro fn hfn
 have hgv:=henv.ev hg
 rw [Bl (by rfl)] at hgv;simp only [Enc] at hgv;obtain ⟨us,ws,hvv,hus,hws⟩:=hgv;simp only [ConcL] at hus;subst hus;simp only [List.cons.injEq,and_true] at hvv;obtain ⟨l,marksN,W1,D,hent,hok1,hs1⟩:=Md (P:=P) (H:=H) (a:=a) Γ.round (fun l hl=>by
  obtain ⟨A,hA,h⟩:=Γ.hround l hl;exact h H _ (hok.ok A (by simp [hA]))) hok fn ps.toArray assign body
 refine ⟨l,marksN.map markD,W1,{ target := .fn (.func gf) ws.toArray,args := #[.func (.yield l) #[] #[]] },W1,gf,#[.func (.yield l) #[] #[]]++ws.toArray,W1,hent,?_,fun _ _=>trivial,?_,by simp,?_⟩
 ·simp only [resolve,hvv]
  simp [Deferred.ofValue,Sem.run,Act.eval]
 ·simp [invoke,Sem.run,hc]
 ·obtain ⟨rec,hrec⟩:∃ rec:LoopState->Option Code->Loop,rec=fun st pe=>{ state:=st,pending:=pe,fn:=fn,tmps:=a.tmps,params:=ps.toArray,assign:=assign,body:=body,defers:=D }:=⟨_,rfl⟩
  have hrec0:({ state := .ready,pending:=none,fn:=fn,tmps:=a.tmps,params:=ps.toArray,assign:=assign,body:=body,defers:=D }:Loop)=rec .ready none:=by rw [hrec]
  rw [hrec0] at hok1
  let fA:=fact (fun H'=>EnvOk H' L a.tmps/\PH.le H H') (fun A B hl h=>⟨h.1.mono hl,PH.le_trans h.2 hl⟩)
  have key:=hit (.v (.func (.yield l) #[] #[])) ⟨rfl,rfl⟩ (fun s ms'=>∃ ms,J s ms/\ms'=recX l (rec .ready none)::fA::ms)
   (fun ms'=>∃ ms c,(match c with | .ret=>K .ret L (M::ms) | .exit id=>K (.exit id) L (M::ms) | _=>False)/\ms'=recX l (rec .done (some c))::fA::ms) ?_
   (recX l (rec .ready none)::fA::ms) ⟨ms,h0,rfl⟩
  ·have hokF:HeapOk H ((M::recX l (rec .ready none)::fA::ms)++(marksN.map markA++(marks.map markA++Γ.fr))) W1:=by
    have hp:(recX l (rec .ready none)::(marksN.map markA++((M::ms)++(marks.map markA++Γ.fr)))).Perm ((M::recX l (rec .ready none)::ms)++(marksN.map markA++(marks.map markA++Γ.fr))):=by
     have h1:(marksN.map markA++((M::ms)++(marks.map markA++Γ.fr))).Perm ((M::ms)++(marksN.map markA++(marks.map markA++Γ.fr))):=by
      rw [<- List.append_assoc (marksN.map markA),<- List.append_assoc (M::ms)];exact (List.perm_append_comm).append_right _
     exact (h1.cons _).trans (List.Perm.swap _ _ _)
    have h2:=hok1.perm hp
    refine ⟨h2.sub,?_,?_,?_⟩
    ·have:=h2.nodup
     simp only [List.cons_append,List.flatMap_cons] at this ⊢
     simpa [fA,fact] using this
    ·intro A hA b hb
     simp only [List.cons_append,List.mem_cons] at hA
     rcases hA with rfl | rfl | rfl | hA
     ·exact h2.lt A (by simp) b hb
     ·exact h2.lt (recX l (rec .ready none)) (by simp) b hb
     ·simp [fA,fact] at hb
     ·exact h2.lt A (by simp at hA ⊢;grind) b hb
    ·intro A hA
     simp only [List.cons_append,List.mem_cons] at hA
     rcases hA with rfl | rfl | rfl | hA
     ·exact h2.ok A (by simp)
     ·exact h2.ok (recX l (rec .ready none)) (by simp)
     ·exact ⟨henv,PH.le_refl H⟩
     ·exact h2.ok A (by simp at hA ⊢;grind)
   have hcall:=key H _ W1 (.func (.yield l) #[] #[]::ws) hokF (by simp only [ConcL];exact ⟨_,_,rfl,⟨_,by simp only [Enc],rfl⟩,hws⟩)
   rw [show (Value.func (.yield l) #[] #[]::ws).toArray = #[Value.func (.yield l) #[] #[]]++ws.toArray by simp] at hcall;refine CallsIn.mono (NH hcall Γ.round) ?_;rintro e w3 ⟨v,d,ms',H',rfl,hR,hle',hok',_,hs3⟩
   have fin:∀ (st:LoopState) (pe:Option Code) (ms2:List Asrt),st ≠ .busy->ms'=M::recX l (rec st pe)::fA::ms2 ->
     ∃ w4,(Instr.endLoop l).run P w3 = .ok pe w4/\Models Γ L (M::ms2) { a with defers:=marksN.map markD++a.defers } w4:=by
    rintro st pe ms2 hst rfl
    have hl:w3.heap[l]? = some (.loop (rec st pe)):=hok'.ok (recX l (rec st pe)) (by simp)
    have hE:=run_endLoop (P:=P) hl (by rw [hrec];exact hst)
    have hp:(rec st pe).pending=pe:=by rw [hrec]
    have hE':(Instr.endLoop l).run P w3 = .ok pe (w3.putObj l (.loop { rec st pe with state := .exhausted })):=by
     rw [hE];congr 1
    refine ⟨_,hE',?_⟩;obtain ⟨f1,f2⟩:EnvOk H' L a.tmps/\PH.le H H':=hok'.ok fA (by simp)
    have hokS:=hok'.perm (List.Perm.swap _ _ _:(M::recX l (rec st pe)::(fA::ms2++(marksN.map markA++(marks.map markA++Γ.fr)))).Perm (recX l (rec st pe)::M::(fA::ms2++(marksN.map markA++(marks.map markA++Γ.fr)))))
    have h4:=hokS.put (A':=recX l { rec st pe with state := .exhausted }) (o' := .loop { rec st pe with state := .exhausted }) rfl rfl hl rfl (by
     simp only [recX];exact World.putObj_heap_same (Array.getElem?_eq_some_iff.1 hl).1)
    have h5:HeapOk H' ((M::ms2)++(marksN.map markA++(marks.map markA++Γ.fr))) (w3.putObj l (.loop { rec st pe with state := .exhausted })):=by
     have h6:=h4.perm (List.Perm.cons _ (List.Perm.swap _ _ _):(recX l { rec st pe with state := .exhausted }::M::fA::(ms2++(marksN.map markA++(marks.map markA++Γ.fr)))).Perm (recX l { rec st pe with state := .exhausted }::fA::M::(ms2++(marksN.map markA++(marks.map markA++Γ.fr)))))
     have:HeapOk H' ([recX l { rec st pe with state := .exhausted },fA]++((M::ms2)++(marksN.map markA++(marks.map markA++Γ.fr)))) (w3.putObj l (.loop { rec st pe with state := .exhausted })):=by simpa using h6
     exact this.drop
    refine ⟨⟨H',marksN++marks,PH.le_trans hle f2,?_,f1,?_⟩,m.size,((m.same.trans hs1).trans hs3).trans (EE _ _ _)⟩
    ·rw [List.map_append,List.append_assoc];exact h5
    ·simp [hdf]
   obtain ⟨msr,rfl,hR⟩:=hR
   rcases hR with ⟨s,hfi,ms2,hJ,e2⟩ | ⟨ms2,c,hK,e2⟩
   ·obtain ⟨w4,h1,h2⟩:=fin .ready none ms2 (by simp) (by rw [e2])
    exact ⟨none,w4,h1,L,M::ms2,hdone s ms2 hfi hJ,h2⟩
   ·obtain ⟨w4,h1,h2⟩:=fin .done (some c) ms2 (by simp) (by rw [e2])
    refine ⟨some c,w4,h1,?_⟩
    cases c with
    | ret=>exact wpIn_ret ⟨L,M::ms2,hK,h2⟩
    | exit id=>exact wpIn_exit ⟨L,M::ms2,hK,h2⟩
    | _=>exact hK.elim
  ·
   rintro s ds s' ms' hx ⟨ms2,hJ,rfl⟩
   intro H2 fr2 W v vs hok2 hv hvs
   have hl:W.heap[l]? = some (.loop (rec .ready none)):=hok2.ok (recX l (rec .ready none)) (by simp)
   obtain ⟨f1,f2⟩:EnvOk H2 L a.tmps/\PH.le H H2:=hok2.ok fA (by simp)
   have hdl:ds.length=ps.length:=hlen s ds s' hx
   have hvl:vs.length=ps.length:=by rw [ConcL.length ds vs hvs,hdl]
   refine ⟨_,_,_,conc_v.1 hv,.inr ⟨l,fn,(ps.zip vs).foldl (fun t (p:Nat×Value)=>t.setIfInBounds p.1 p.2) a.tmps,assign,body,rfl,?_,?_⟩⟩
   ·have hy:=run_yield (P:=P) (args:=vs.toArray) hl (by rw [hrec];simp [hvl])
    rw [hrec] at hy;rw [show (#[]:Array Value)++vs.toArray=vs.toArray by simp];rw [hy]
    congr 2
    rw [<- Array.foldl_toList]
    simp
   ·have hN1:∀ p∈ps,p<a.tmps.size:=fun p hp=>by
     rw [m.size];exact nB (List.all_eq_true.1 hps p hp)
    let Γ1:Ctx:=⟨H2,recX l (rec .ready none)::fA::fr2,Γ.N,some l,W,fun l' e=>by
     cases e;exact ⟨recX l (rec .ready none),by simp,fun H h o=>⟨_,o⟩⟩⟩
    have hM1:Models Γ1 (F8 ps ds L) ms2 { tmps:=(ps.zip vs).foldl (fun t (p:Nat×Value)=>t.setIfInBounds p.1 p.2) a.tmps,defers:=[] } W:=by
     refine ⟨⟨H2,[],PH.le_refl _,hok2.perm ?_,Ng ps ds vs L _ hN1 hdl.symm hvs f1,rfl⟩,by simp only [Jr];exact m.size,SameOut.refl _⟩;simp only [List.map_nil,List.nil_append,Γ1,List.cons_append];exact (Lh _ _ _ _)
    refine roundIn_of_wpIn (F:=FR none) trivial ?_;refine wpIn_mono (round Γ1 s ds s' ms2 rfl hx hJ _ W hM1) ?_;rintro e a1 w1 ⟨L',ms'',k',m'⟩
    cases e with
    | normal =>
     obtain ⟨H3,marks',hle3,hok3,henv3,hdf3⟩:=m'.ex
     have hl1:w1.heap[l]? = some (.loop (rec .ready none)):=hok3.ok (recX l (rec .ready none)) (by simp [Γ1])
     have hst:(rec .ready none).state = .ready:=by rw [hrec]
     refine ⟨_,run_beginRound hl1 hst,?_⟩;obtain ⟨w2,hw2⟩:∃ w2,w1.putObj l (.loop { rec .ready none with state := .busy })=w2:=⟨_,rfl⟩
     have hb2:w2.heap[l]? = some (.loop { rec .ready none with state := .busy }):=by
      rw [<- hw2];exact World.putObj_heap_same (Array.getElem?_eq_some_iff.1 hl1).1
     let Γ2:Ctx:=⟨H3,recX l { rec .ready none with state := .busy }::fA::fr2,Γ.N,some l,w2,fun l' e=>by
      cases e;exact ⟨recX l { rec .ready none with state := .busy },by simp,fun H h o=>⟨_,o⟩⟩⟩
     have hok4:HeapOk H3 (ms''++(marks'.map markA++Γ2.fr)) w2:=by
      have h1:=hok3.perm (FE ms'' (marks'.map markA) (recX l (rec .ready none)) (fA::fr2))
      have h2:=h1.put (A':=recX l { rec .ready none with state := .busy }) (o' := .loop { rec .ready none with state := .busy }) rfl rfl hl1 rfl (by
       simp only [recX];rw [hw2];exact hb2)
      rw [hw2] at h2;exact h2.perm (FE ms'' (marks'.map markA) _ (fA::fr2)).symm
     have hs2:SameOut w1 w2:=by rw [<- hw2];exact EE _ _ _
     rw [hw2];refine wpIn_mono (k' Γ2 rfl a1 w2 ⟨⟨H3,marks',PH.le_refl _,hok4,henv3,hdf3⟩,m'.size,SameOut.refl _⟩) ?_;rintro e a3 w3 ⟨L3,ms3,k3,m3⟩;obtain ⟨H4,marks4,hle4,hok5,henv4,hdf4⟩:=m3.ex
     have fin:∀ (jump:Option Code),∃ w4,(Instr.endRound l jump).run P w3 = .ok (.bool jump.isNone) w4/\HeapOk H4 ((recX l (rec (if jump.isNone then .ready else .done) jump)::fA::ms3)++fr2) w4/\SameOut w3 w4:=by
      intro jump
      have hl3:w3.heap[l]? = some (.loop { rec .ready none with state := .busy }):=hok5.ok (recX l { rec .ready none with state := .busy }) (by simp [Γ2])
      have hr:({ ({ rec .ready none with state := .busy }:Loop) with state:=if jump.isNone then .ready else .done,pending:=jump }:Loop)=rec (if jump.isNone then .ready else .done) jump:=by rw [hrec]
      have hE:=run_endRound (P:=P) jump hl3
      rw [hr] at hE;refine ⟨_,hE,?_,EE _ _ _⟩
      have h1:=hok5.perm (FE ms3 (marks4.map markA) _ (fA::fr2))
      have h2:=h1.put (A':=recX l (rec (if jump.isNone then .ready else .done) jump)) (o' := .loop (rec (if jump.isNone then .ready else .done) jump)) rfl rfl hl3 rfl (by
       simp only [recX];exact World.putObj_heap_same (Array.getElem?_eq_some_iff.1 hl3).1)
      have h3:=h2.perm (NW _ ms3 (marks4.map markA) fA fr2)
      exact h3.drop
     have le4:PH.le H2 H4:=PH.le_trans hle3 hle4
     have hs3:SameOut W w3:=(m'.same.trans hs2).trans m3.same
     cases e with
     | normal =>
      obtain ⟨w4,h1,h2,h3⟩:=fin none;exact ⟨_,w4,h1,_,_,_,H4,rfl,.inl ⟨rfl,ms3,k3,rfl⟩,le4,h2,conc_v.2 rfl,hs3.trans h3⟩
     | ret =>
      obtain ⟨w4,h1,h2,h3⟩:=fin (some .ret);exact ⟨_,w4,h1,_,_,_,H4,rfl,.inr ⟨rfl,ms3,.ret,k3,rfl⟩,le4,h2,conc_v.2 rfl,hs3.trans h3⟩
     | exit id =>
      obtain ⟨w4,h1,h2,h3⟩:=fin (some (.exit id));exact ⟨_,w4,h1,_,_,_,H4,rfl,.inr ⟨rfl,ms3,.exit id,k3,rfl⟩,le4,h2,conc_v.2 rfl,hs3.trans h3⟩
     | goto t=>exact k3.elim
     | panic ch=>exact k3.elim
     | outgrown=>exact k3.elim
    | exit id=>exact k'.elim
    | goto t=>exact k'.elim
    | ret=>exact k'.elim
    | panic ch=>exact k'.elim
    | outgrown=>exact k'.elim
end
section
variable {P:Program} {L:Env} {dst:Option Nat} {ty:TypeId} {pos:String} {after:Array Edge} {g:Option (Nat×Bool)} {x:Operand}
theorem Sg {args:List Operand} {ats:Array TypeId} {ds:List D} {y:D} {M:Asrt} {tl:List Asrt} {R:D->List Asrt->Prop} (hx:Env.ev L x=some y) (hev:evL L args=some ds) (hf:FV P y ds tl R) :
  OpT P ⟨dst,.call ⟨.value x,args.toArray,ats⟩,ty,pos,after,g⟩ L (M::tl) (fun d ms'=>∃ tl',R d tl'/\ms'=M::tl'):=by
 have:=Kd (P:=P) (L:=L) (ms:=M::tl) (dst:=dst) (ty:=ty) (pos:=pos) (after:=after) (g:=g) (ats:=ats) (ms₁:=tl) (rest:=[M]) hx hev (List.perm_append_comm (l₁:=[M])) hf
 intro ro H fr a w hok henv next Q hn
 refine this ro H fr a w hok henv next Q ?_;rintro v d ms' w' H' ⟨tl',hR,rfl⟩ hle hok' hc' hs;exact hn v d _ w' H' ⟨tl',hR,rfl⟩ hle (hok'.perm ((List.perm_append_comm (l₁:=tl') (l₂:=[M])).append_right fr)) hc' hs
end
theorem MP {L:Env} {ms ms':List Asrt} (h:ms.Perm ms'):Refines L ms L ms':=by
 intro Γ act w mm
 obtain ⟨H,marks,hle,hok,henv,hdf⟩:=mm.ex;exact ⟨⟨H,marks,hle,hok.perm (h.append_right _),henv,hdf⟩,mm.size,mm.same⟩
theorem OpT.conv {P:Program} {o:Oper} {L:Env} {ms ms':List Asrt} {R:D->List Asrt->Prop} (r:Refines L ms L ms') (h:OpT P o L ms' R):OpT P o L ms R:=by
 intro ro H fr a w hok henv next Q hn
 have m:=r ⟨H,fr,a.tmps.size,none,w,fun _ e=>by cases e⟩ { a with defers:=[] } w ⟨⟨H,[],PH.le_refl H,by simpa using hok,henv,rfl⟩,rfl,SameOut.refl w⟩
 obtain ⟨H',marks,hle,hok',henv',hd⟩:=m.ex
 have hmk:marks=[]:=by simpa using hd.symm
 subst hmk;refine h ro H' fr a w (by simpa using hok') henv' next Q fun v d ms1 w' H2 hR hl hok2 hc hs=>?_;exact hn v d ms1 w' H2 hR (PH.le_trans hle hl) hok2 hc hs
theorem OpT.thaw {P:Program} {o:Oper} {L:Env} {ms ms':List Asrt} {R:D->List Asrt->Prop} {a:Option Addr} {m cap:Nat} {T:TypeId} {sz:Nat} {α:Type} {f:α->D} {l:List α} (k:Nat) (hk:ms[k]? = some (arr a m cap T sz f l)) (hms:ms.set k (row a cap T sz f l)=ms') (h:l.length=m->OpT P o L ms' R):OpT P o L ms R:=by
 intro ro H fr act w hok henv
 exact OpT.conv (G8 k hk hms) (h (hok.ok _ (List.mem_append_left _ (List.mem_of_getElem? hk))).1) ro H fr act w hok henv
theorem Nb {α:Type} {l:List α} {i:Int} {x v:α} (h:idx l i=some x):(l.set i.toNat v)[i.toNat]? = some v:=by
 have:=(Au h).2
 rw [List.getElem?_set_self (List.getElem?_eq_some_iff.1 this).1]
def keyNx {α β:Type} (fk:α->Value) (s:List (α×β)×List α) (ds:List D) (s':List (α×β)×List α):Prop:=∃ i p,s.1[i]? = some p/\ds=[.v (fk p.1)]/\s'=(s.1.eraseIdx i,s.2++[p.1])
def keyFi {α β:Type} (s:List (α×β)×List α):Prop:=s.1=[]
theorem QL {α β:Type} {l rest:List (α×β)} {done:List α} {i:Nat} {p:α×β} (h:(done++rest.map (·.1)).Perm (l.map (·.1))) (hi:rest[i]? = some p):((done++[p.1])++(rest.eraseIdx i).map (·.1)).Perm (l.map (·.1)):=by
 refine List.Perm.trans ?_ h;rw [List.append_assoc];refine List.Perm.append_left done ?_;exact ((Fb rest i p hi).map (·.1)).symm
theorem Rg {a b:List Int} (h:a.Perm b):(a.mergeSort fun x y=>decide (x<=y))=(b.mergeSort fun x y=>decide (x<=y)):=by
 have tr:∀ (a b c:Int),decide (a<=b)=true->decide (b<=c)=true->decide (a<=c)=true:=fun a b c h1 h2=>by simp at *;omega
 have to:∀ (a b:Int),(decide (a<=b)||decide (b<=a))=true:=fun a b=>by simp;omega
 have h1:=List.pairwise_mergeSort (le:=fun x y:Int=>decide (x<=y)) tr to a
 have h2:=List.pairwise_mergeSort (le:=fun x y:Int=>decide (x<=y)) tr to b
 refine List.Perm.eq_of_pairwise (le:=fun x y:Int=>decide (x<=y)=true) (fun a b _ _ h1 h2=>by simp at h1 h2;omega) h1 h2 ?_;exact ((List.mergeSort_perm a _).trans h).trans (List.mergeSort_perm b _).symm
end Go.V
