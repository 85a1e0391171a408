/- Part 3 of the proof: a program logic, what the functions compute, and what these answer; no condition. -/
import Derived.Test.YtkfnogdccpcmhaaGreatDoorp2
import Derived.Laws.IdiomRangeMap
set_option linter.unusedVariables false
set_option linter.unusedSimpArgs false
namespace Go.V
section
variable {α β:Type} {fk:α->Value} {fv:β->D} {H:PH}
theorem MapOk.get:∀ {l:List (α×β)} {es:List MapEntry} {j:Nat} {e:MapEntry},MapOk fk fv H l es->es[j]? = some e->∃ p,l[j]? = some p/\e.key=fk p.1/\Conc H (fv p.2) e.val
 | [],[],j,e,_,h=>by simp at h
 | [],_::_,_,_,h,_=>h.elim
 | _::_,[],_,_,h,_=>h.elim
 | (a,b)::l,x::es,0,e,⟨h1,h2,h3⟩,h=>by
  simp at h;subst h;exact ⟨(a,b),by simp,h1,h2⟩
 | (a,b)::l,x::es,j+1,e,⟨h1,h2,h3⟩,h=>by
  obtain ⟨p,q1,q2⟩:=MapOk.get h3 (by simpa using h);exact ⟨p,by simpa using q1,q2⟩
theorem MapOk.erase:∀ {l:List (α×β)} {es:List MapEntry} (j:Nat),MapOk fk fv H l es->MapOk fk fv H (l.eraseIdx j) (es.eraseIdx j)
 | [],[],j,h=>by simp [MapOk]
 | [],_::_,_,h=>h.elim
 | _::_,[],_,h=>h.elim
 | (a,b)::l,x::es,0,⟨h1,h2,h3⟩=>by simpa using h3
 | (a,b)::l,x::es,j+1,⟨h1,h2,h3⟩=>by
  simp only [List.eraseIdx_cons_succ];exact ⟨h1,h2,MapOk.erase j h3⟩
theorem MapOk.nil:∀ {l:List (α×β)},MapOk fk fv H l []->l=[]
 | [],_=>rfl
 | _::_,h=>h.elim
end
theorem Jm (e:MapEntry):∀ (l:List MapEntry) (j:Nat),(l.map (·.born)).Nodup->l[j]? = some e->l.filter (fun x => !(x.born == e.born))=l.eraseIdx j
 | [],j,_,h=>by simp at h
 | x::l,0,hn,h=>by
  simp at h;subst h
  rw [List.map_cons,List.nodup_cons] at hn;rw [List.filter_cons_of_neg (by simp),List.eraseIdx_cons_zero];refine List.filter_eq_self.2 fun y hy=>?_
  have:¬ y.born=x.born:=fun e=>hn.1 (e▸List.mem_map.2 ⟨y,hy,rfl⟩)
  simpa using this
 | x::l,j+1,hn,h=>by
  rw [List.map_cons,List.nodup_cons] at hn
  have hx:¬ x.born=e.born:=fun q=>hn.1 (q▸List.mem_map.2 ⟨e,List.mem_of_getElem? (by simpa using h),rfl⟩)
  rw [List.filter_cons_of_pos (by simpa using hx),List.eraseIdx_cons_succ,Jm e l j hn.2 (by simpa using h)]
theorem Qu (es:List MapEntry) (seen:Array Nat) (e:MapEntry) {j:Nat} (hn:(es.map (·.born)).Nodup) (hj:(es.filter fun x => !seen.contains x.born)[j]? = some e) :
  (es.filter fun x => !(seen.push e.born).contains x.born)=(es.filter fun x => !seen.contains x.born).eraseIdx j:=by
 rw [<- Jm e _ j (by
  have:=List.Sublist.map (fun x:MapEntry=>x.born) (List.filter_sublist (p:=fun x => !seen.contains x.born) (l:=es))
  exact hn.sublist this) hj,List.filter_filter]
 congr 1
 funext x
 simp only [Array.contains_push,Bool.not_or];rw [Bool.and_comm]
theorem O5 {es:List MapEntry} {e:MapEntry} (hn:(es.map (·.born)).Nodup) (he:e∈es):es.find? (fun x=>x.born == e.born)=some e:=find_born e es hn he
theorem Ng {P:Program} {w:World} {ty:TypeId} {r bm since c0 clock:Nat} {seen:Array Nat} {es:Array MapEntry} (hr:w.heap[r]? = some (.mapIter (some bm) since seen c0)) (hb:w.heap[bm]? = some (.map es clock)) (hold:∀ x∈es.toList,x.born<since) (hsc:since<=c0) :
  (es.toList.filter (fun e => !seen.contains e.born)=[]/\(Instr.next (.pointer (some ⟨r,0,none⟩)) false ty).run P w = .ok (.tuple #[.bool false]) w) \/
  ∃ (j:Nat) (e:MapEntry) (n:Nat),(es.toList.filter (fun e => !seen.contains e.born))[j]? = some e/\(Instr.next (.pointer (some ⟨r,0,none⟩)) false ty).run P w = .ok (.tuple #[.bool true,e.key,e.val]) { w with drawn:=n,heap:=w.heap.setIfInBounds r (.mapIter (some bm) since (seen.push e.born) clock) }:=by
 simp only [Instr.next,getObj,Sem.run_bind,Sem.run,hr,hb,Result.andThen,next_test_false seen es since c0 hold hsc,Bool.false_eq_true,if_false]
 have hfl:(Array.filter (fun e => !seen.contains e.born) es).toList=es.toList.filter (fun e => !seen.contains e.born):=by simp
 have hmem:∀ x∈(Array.filter (fun e => !seen.contains e.born) es).toList,x.born<since:=fun x hx=>hold x (by rw [hfl] at hx;exact (List.mem_filter.1 hx).1)
 rw [<- hfl]
 generalize Array.filter (fun e => !seen.contains e.born) es=Q at hmem ⊢
 have e1:Q.filter (fun x=>decide (x.born<since))=Q:=Array.filter_eq_self.2 (fun x hx=>by simpa using hmem x (by simpa using hx))
 have e2:Q.filter (fun x=>decide (x.born ≥ since)) = #[]:=by
  rw [Array.filter_eq_empty_iff]
  intro x hx
  have:=hmem x (by simpa using hx)
  simp;omega
 simp only [e1,e2,Array.append_empty]
 by_cases h0:Q.size=0
 ·have:Q = #[]:=Array.eq_empty_of_size_eq_zero h0
  subst this;exact .inl ⟨rfl,by simp [choose,Sem.run,Question.forced]⟩
 ·have hne:Q.isEmpty=false:=by simp [Array.isEmpty,h0]
  simp only [hne,Bool.false_eq_true,if_false,Array.empty_append,Array.size_map];obtain ⟨j,n,hj,hrun⟩:∃ (j n:Nat),j<Q.size/\(choose (Question.mapNext Q.size)).run P w = .ok j { w with drawn:=n }:=by
   by_cases hf:Q.size<=1
   ·exact ⟨0,w.drawn,by omega,by simp [choose,Sem.run,Question.forced,hf]⟩
   ·exact ⟨_,w.drawn+1,Nat.mod_lt _ (by omega),by
     simp only [choose,Sem.run,Question.forced,decide_eq_true_eq,hf,if_false,Question.cut]
     rfl⟩
  refine .inr ⟨j,Q[j],n,by simp [hj],?_⟩
  have hlt:r<w.heap.size:=(Array.getElem?_eq_some_iff.1 hr).1
  have hset:∀ (o':Obj),(setObj r o').run P ({ w with drawn:=n }:World) = .ok () ({ w with drawn:=n,heap:=w.heap.setIfInBounds r o' }:World):=fun o'=>by
   have hr2:({ w with drawn:=n }:World).heap[r]? = some (.mapIter (some bm) since seen c0):=hr
   simp only [setObj,Sem.run,hr2]
  simp only [hrun,Array.getElem?_map,Array.getElem?_eq_getElem hj,Option.map_some,Sem.run_bind,hset,Result.andThen]
  rfl
def mpi {α β:Type} (b r:Nat) (fk:α->Value) (fv:β->D) (l rest:List (α×β)) (last:Option (α×β)):Asrt where
 blocks:=[b,r]
 ok:=fun H h=>(∃ es clock since seen c0,h b=some (.map es clock)/\MapOk fk fv H l es.toList/\StOk es.toList clock/\h r=some (.mapIter (some b) since seen c0)/\(since<=c0/\since<=clock)/\(∀ e∈es.toList,e.born<since) /\
  MapOk fk fv H rest (es.toList.filter fun e => !seen.contains e.born)/\∀ p,last=some p->c0=clock/\∃ e∈es.toList,seen.back? = some e.born/\e.key=fk p.1/\Conc H (fv p.2) e.val)/\(∀ o,H b o=none)/\∀ o,H r o=none
 stable:=by
  rintro H H' h h' e hle ⟨⟨es,clock,since,seen,c0,h1,h2,h3,h4,h5,h6,h7,h8⟩,h9,h10⟩
  have eb:=e b (by simp)
  have er:=e r (by simp)
  refine ⟨⟨es,clock,since,seen,c0,by rw [eb.2];exact h1,h2.mono hle,h3,by rw [er.2];exact h4,h5,h6,h7.mono hle,fun p hp=>?_⟩,fun o=>by rw [eb.1];exact h9 o,fun o=>by rw [er.1];exact h10 o⟩;obtain ⟨q1,e,q2,q3,q4,q5⟩:=h8 p hp;exact ⟨q1,e,q2,q3,q4,q5.mono hle⟩
section
variable {P:Program} {L:Env} {ms:List Asrt} {dst:Option Nat} {ty:TypeId} {pos:String} {after:Array Edge} {g:Option (Nat×Bool)} {d:D} {x y:Operand} {t:TypeId} {α β:Type} {fk:α->Value} {fv:β->D} {b r:Nat} {l rest:List (α×β)} {last:Option (α×β)}
theorem HeapOk.join {H:PH} {A B C:Asrt} {as:List Asrt} {w:World} (h:HeapOk H (A::B::as) w) (hb:C.blocks.Perm (A.blocks++B.blocks)) (hok:A.ok H (fun b=>w.heap[b]?)->B.ok H (fun b=>w.heap[b]?)->C.ok H (fun b=>w.heap[b]?)):HeapOk H (C::as) w:=by
 refine ⟨h.sub,?_,?_,?_⟩
 ·have:=h.nodup
  simp only [List.flatMap_cons] at this ⊢;rw [<- List.append_assoc] at this;exact (List.Perm.nodup_iff (hb.append_right _)).2 this
 ·intro D hD b hbD
  rcases List.mem_cons.1 hD with rfl | hD
  ·rcases List.mem_append.1 (hb.mem_iff.1 hbD) with h1 | h1
   ·exact h.lt A (by simp) b h1
   ·exact h.lt B (by simp) b h1
  ·exact h.lt D (by simp [hD]) b hbD
 ·intro D hD
  rcases List.mem_cons.1 hD with rfl | hD
  ·exact hok (h.ok A (by simp)) (h.ok B (by simp))
  ·exact h.ok D (by simp [hD])
theorem HeapOk.less {H:PH} {A B:Asrt} {as:List Asrt} {w:World} (h:HeapOk H (A::as) w) (hb:B.blocks.Sublist A.blocks) (hok:A.ok H (fun b=>w.heap[b]?)->B.ok H (fun b=>w.heap[b]?)):HeapOk H (B::as) w:=by
 refine ⟨h.sub,?_,?_,?_⟩
 ·have:=h.nodup
  simp only [List.flatMap_cons] at this ⊢;exact this.sublist (hb.append_right _)
 ·intro D hD b hbD
  rcases List.mem_cons.1 hD with rfl | hD
  ·exact h.lt A (by simp) b (hb.subset hbD)
  ·exact h.lt D (by simp [hD]) b hbD
 ·intro D hD
  rcases List.mem_cons.1 hD with rfl | hD
  ·exact hok (h.ok A (by simp))
  ·exact h.ok D (by simp [hD])
theorem Kj {kt et:TypeId} (k:Nat) (hu:P.underlying t=some (.map kt et)) (hx:Env.ev L x=some (.v (.map (some b)))) (hm:ms[k]? = some (mp b fk fv l)) :
  OpT P ⟨dst,.range t x,ty,pos,after,g⟩ L ms (fun d' ms'=>∃ r,d' = .v (.pointer (some ⟨r,0,none⟩))/\ms'=ms.set k (mpi b r fk fv l l none)):=by
 refine .val (by simp) fun H fr a w hok henv=>?_
 have hok1:=hok.perm (BW hm)
 obtain ⟨⟨es,clock,h1,h2,h3⟩,h4⟩:=hok1.ok _ (List.mem_cons_self ..)
 have h1':w.heap[b]? = some (.map es clock):=h1
 refine ⟨.pointer (some ⟨w.heap.size,0,none⟩),_,_,w.alloc (.mapIter (some b) clock #[] clock),H,?_,⟨w.heap.size,rfl,rfl⟩,PH.le_refl H,?_,conc_v.2 rfl,Bd _ _⟩
 ·simp only [execOp,Be henv hx,Sem.run_bind,run_range_map w t kt et b es clock hu h1',Result.andThen_ok,Sem.run_pure]
 ·let it:Asrt:=⟨[w.heap.size],fun H h=>h w.heap.size=some (.mapIter (some b) clock #[] clock)/\∀ o,H w.heap.size o=none,fun H H' h h' e _ o=>⟨by rw [(e w.heap.size (by simp)).2];exact o.1,fun q=>by rw [(e w.heap.size (by simp)).1];exact o.2 q⟩⟩
  have h5:=hok1.own (A:=it) (o := .mapIter (some b) clock #[] clock) rfl ⟨AK _ _,fun o=>hok.none_new _ _ (Nat.le_refl _)⟩
  refine HeapOk.perm (A4 hm) (h5.join (C:=mpi b w.heap.size fk fv l l none) (by simp only [mpi,mp,it];exact List.Perm.swap _ _ _) ?_);rintro ⟨q1,q2⟩ ⟨⟨es',clock',p1,p2,p3⟩,p4⟩
  have hb2:(w.alloc (.mapIter (some b) clock #[] clock)).heap[b]? = some (.map es clock):=by
   rw [Go.V.heap_alloc_old w _ _ (hok1.lt _ (List.mem_cons_self ..) b (by simp [mp]))];exact h1'
  have hee:some (Obj.map es' clock')=some (Obj.map es clock):=p1.symm.trans hb2
  simp only [Option.some.injEq,Obj.map.injEq] at hee;obtain ⟨rfl,rfl⟩:=hee;refine ⟨⟨es',clock',clock',#[],clock',hb2,p2,p3,q1,⟨Nat.le_refl _,Nat.le_refl _⟩,p3.2,?_,fun p hp=>by cases hp⟩,p4,q2⟩
  have hf:(es'.toList.filter fun e => !(#[]:Array Nat).contains e.born)=es'.toList:=List.filter_eq_self.2 (fun _ _=>by simp)
  rw [hf];exact p2
theorem LY (k:Nat) (hx:Env.ev L x=some (.v (.pointer (some ⟨r,0,none⟩)))) (hm:ms[k]? = some (mpi b r fk fv l rest last)) :
  OpT P ⟨dst,.next x false,ty,pos,after,g⟩ L ms (fun d' ms'=>(rest=[]/\d' = .tup [.bool false]/\ms'=ms)\/∃ i p,rest[i]? = some p/\d' = .tup [.bool true,.v (fk p.1),fv p.2]/\ms'=ms.set k (mpi b r fk fv l (rest.eraseIdx i) (some p))):=by
 refine .val (by simp) fun H fr a w hok henv=>?_
 have hok1:=hok.perm (BW hm)
 obtain ⟨⟨es,clock,since,seen,c0,h1,h2,h3,h4,h5,h6,h7,h8⟩,h9,h10⟩:=hok1.ok _ (List.mem_cons_self ..)
 have hlt:r<w.heap.size:=(Array.getElem?_eq_some_iff.1 h4).1
 rcases Ng (P:=P) (ty:=ty) h4 h1 h6 h5.1 with ⟨q1,q2⟩ | ⟨j,e,n,q1,q2⟩
 ·rw [q1] at h7
  refine ⟨.tuple #[.bool false],_,_,w,H,by simp only [execOp,Be henv hx,Sem.run_bind,q2,Result.andThen_ok,Sem.run_pure],.inl ⟨h7.nil,rfl,rfl⟩,PH.le_refl H,hok,LN (E7 (conc_v.2 rfl) JV),SameOut.refl w⟩
 ·obtain ⟨p,p1,p2,p3⟩:=h7.get q1
  have hbr:b≠r:=by
   have:=hok1.nodup
   simp only [List.flatMap_cons,mpi,List.cons_append,List.nil_append,List.nodup_cons,List.mem_cons] at this;exact fun e=>this.1 (.inl e)
  have he:e∈es.toList:=(List.mem_filter.1 (List.mem_of_getElem? q1)).1
  refine ⟨.tuple #[.bool true,e.key,e.val],_,_,{ w with drawn:=n,heap:=w.heap.setIfInBounds r (.mapIter (some b) since (seen.push e.born) clock) },H,by simp only [execOp,Be henv hx,Sem.run_bind,q2,Result.andThen_ok,Sem.run_pure],.inr ⟨j,p,p1,rfl,rfl⟩,PH.le_refl H,?_,LN (E7 (conc_v.2 rfl) (E7 (conc_v.2 p2) (E7 p3 JV))),⟨rfl,rfl,rfl,by simp⟩⟩;refine HeapOk.perm (A4 hm) ?_;refine hok1.upd rfl (by simp) ?_ (fun _ _ _ _=>rfl) (PH.le_refl H) ?_ ?_
  ·intro b' _ hn
   have:r≠b':=fun e=>hn (by simp [mpi,e])
   show (w.heap.setIfInBounds r _)[b']? = _
   rw [Array.getElem?_setIfInBounds_ne this]
  ·intro b' o v hb' hv
   rcases hb' with hb' | hb'
   ·simp only [mpi,List.mem_cons,List.not_mem_nil,or_false] at hb'
    rcases hb' with rfl | rfl
    ·rw [h9] at hv;cases hv
    ·rw [h10] at hv;cases hv
   ·rw [hok1.none_new _ _ hb'] at hv;cases hv
  ·refine ⟨⟨es,clock,since,seen.push e.born,clock,?_,h2,h3,?_,⟨h5.2,h5.2⟩,h6,?_,fun q hq=>?_⟩,h9,h10⟩
   ·show (w.heap.setIfInBounds r _)[b]? = _
    rw [Array.getElem?_setIfInBounds_ne (Ne.symm hbr)];exact h1
   ·show (w.heap.setIfInBounds r _)[r]? = _
    simp [hlt]
   ·rw [Qu es.toList seen e h3.1 q1];exact h7.erase j
   ·cases hq
    exact ⟨rfl,e,he,by simp,p2,p3⟩
theorem Kz {p:α×β} (k:Nat) (hx:Env.ev L x=some (.v (.pointer (some ⟨r,0,none⟩)))) (hm:ms[k]? = some (mpi b r fk fv l rest (some p))) :
  OpP P ⟨dst,.entry x,ty,pos,after,g⟩ L ms (.tup [.v (fk p.1),fv p.2]):=by
 refine .pure (by simp) fun H fr a w hok henv=>?_;obtain ⟨⟨es,clock,since,seen,c0,h1,h2,h3,h4,h5,h6,h7,h8⟩,h9,h10⟩:=hok.ok _ (List.mem_of_getElem? (getElem?_app (r:=fr) hm));obtain ⟨rfl,e,q2,q3,q4,q5⟩:=h8 p rfl
 have h1':w.heap[b]? = some (.map es c0):=h1
 have h4':w.heap[r]? = some (.mapIter (some b) since seen c0):=h4
 have hf:es.find? (fun x=>x.born == e.born)=some e:=by rw [<- Array.find?_toList];exact O5 h3.1 q2
 refine ⟨.tuple #[e.key,e.val],?_,LN (E7 (conc_v.2 q4) (E7 q5 JV))⟩;simp only [execOp,Be henv hx,Instr.entry,getObj,Sem.run_bind,Sem.run,h4',h1',Result.andThen,q3,bne_self_eq_false,Bool.false_eq_true,if_false,hf]
 rfl
theorem Gn (k:Nat) (hm:ms[k]? = some (mpi b r fk fv l rest last)) {ms':List Asrt} (hms:ms.set k (mp b fk fv l)=ms'):Refines L ms L ms':=by
 subst hms
 intro Γ act w mm
 obtain ⟨H,marks,hle,hok,henv,hdf⟩:=mm.ex
 have hok1:=hok.perm (BW hm)
 refine ⟨⟨H,marks,hle,HeapOk.perm (A4 hm) (hok1.less (by simp [mp,mpi]) ?_),henv,hdf⟩,mm.size,mm.same⟩;rintro ⟨⟨es,clock,since,seen,c0,h1,h2,h3,h4,h5,h6,h7,h8⟩,h9,h10⟩;exact ⟨⟨es,clock,h1,h2,h3⟩,h9⟩
end
section
variable {Γ:Ctx} {P:Program} {L:Env} {ms:List Asrt} {K:KT}
theorem JM {α:Type} {l:List α} {i:Nat} {p:α} (h:l[i]? = some p):(l.eraseIdx i).length<l.length:=by
 have hi:=(List.getElem?_eq_some_iff.1 h).1
 rw [List.length_eraseIdx]
 split <;> omega
end
end Go.V
namespace Go.V
section
variable {Γ:Ctx} {P:Program} {L:Env} {ms:List Asrt} {K:KT}
end
section
variable {P:Program} {L:Env} {dst:Option Nat} {ty:TypeId} {pos:String} {after:Array Edge} {g:Option (Nat×Bool)} {x:Operand}
end
theorem Nj {L:Env} {ms ms':List Asrt} (h:ms.Perm ms'):Refines L ms L ms':=by
 intro Γ act w mm
 obtain ⟨H,marks,hle,hok,henv,hdf⟩:=mm.ex;exact ⟨⟨H,marks,hle,hok.perm (h.append_right _),henv,hdf⟩,mm.size,mm.same⟩
theorem IH {α:Type} {l:List α} {i:Int} {x v:α} (h:idx l i=some x):(l.set i.toNat v)[i.toNat]? = some v:=by
 have:=(Am h).2
 rw [List.getElem?_set_self (List.getElem?_eq_some_iff.1 this).1]
end Go.V
namespace Go.V
section
variable {P:Program} {ms:List Asrt}
end
section
variable {P:Program} {L:Env} {ms:List Asrt} {dst:Option Nat} {ty:TypeId} {pos:String} {after:Array Edge} {g:Option (Nat×Bool)} {d:D}
theorem A3 {x:Operand} {a:Option Addr} {m cap n j:Nat} {T:TypeId} {sz:Nat} {α:Type} {f:α->D} {l:List α} {z:α} (k:Nat) (hx:Env.ev L x=some (.v (.pointer (apt a n)))) (hk:ms[k]? = some (arr a m cap T sz f l)) (hz:l[j]? = some z) :
  OpP P ⟨dst,.nilCheck x,ty,pos,after,g⟩ L ms (.v (.pointer (apt a n))):=
 .pure (by simp) fun H fr w0 w hok henv=>by
  have hk':(ms++fr)[k]? = some (arr a m cap T sz f l):=by
   rw [List.getElem?_append_left (List.getElem?_eq_some_iff.1 hk).1];exact hk
  obtain ⟨b,vs,us,ws,ha,_⟩:=FI hok hk' hz;refine ⟨.pointer (apt a n),?_,conc_v.2 rfl⟩;subst ha
  simp [execOp,Be henv hx,apt,Sem.run]
end
end Go.V
