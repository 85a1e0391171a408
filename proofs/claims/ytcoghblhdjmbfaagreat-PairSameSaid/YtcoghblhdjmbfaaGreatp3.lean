/- Part 3 of the proof: a program logic, what the functions compute, and what these answer; no condition. -/
import Derived.Test.YtcoghblhdjmbfaaGreatp2
import Derived.Laws.IdiomRangeMap
set_option linter.unusedVariables false
set_option linter.unusedSimpArgs false
namespace Go.V
section
variable {α β:Type} {fk:α->Value} {fv:β->D} {H:PH}
theorem MapOk.get:∀ {l:List (α×β)} {es:List MapEntry} {j:Nat} {e:MapEntry},MapOk fk fv H l es->es[j]? = some e->∃ p,l[j]? = some p/\e.key=fk p.1/\Conc H (fv p.2) e.val
 | [],[],j,e,_,h=>by simp at h
 | [],_::_,_,_,h,_=>h.elim
 | _::_,[],_,_,h,_=>h.elim
 | (a,b)::l,x::es,0,e,⟨h1,h2,h3⟩,h=>by
  simp at h;subst h;exact ⟨(a,b),by simp,h1,h2⟩
 | (a,b)::l,x::es,j+1,e,⟨h1,h2,h3⟩,h=>by
  obtain ⟨p,q1,q2⟩:=MapOk.get h3 (by simpa using h);exact ⟨p,by simpa using q1,q2⟩
theorem MapOk.erase:∀ {l:List (α×β)} {es:List MapEntry} (j:Nat),MapOk fk fv H l es->MapOk fk fv H (l.eraseIdx j) (es.eraseIdx j)
 | [],[],j,h=>by simp [MapOk]
 | [],_::_,_,h=>h.elim
 | _::_,[],_,h=>h.elim
 | (a,b)::l,x::es,0,⟨h1,h2,h3⟩=>by simpa using h3
 | (a,b)::l,x::es,j+1,⟨h1,h2,h3⟩=>by
  simp only [List.eraseIdx_cons_succ];exact ⟨h1,h2,MapOk.erase j h3⟩
theorem MapOk.nil:∀ {l:List (α×β)},MapOk fk fv H l []->l=[]
 | [],_=>rfl
 | _::_,h=>h.elim
end
theorem JC (e:MapEntry):∀ (l:List MapEntry) (j:Nat),(l.map (·.born)).Nodup->l[j]? = some e->l.filter (fun x => !(x.born == e.born))=l.eraseIdx j
 | [],j,_,h=>by simp at h
 | x::l,0,hn,h=>by
  simp at h;subst h
  rw [List.map_cons,List.nodup_cons] at hn;rw [List.filter_cons_of_neg (by simp),List.eraseIdx_cons_zero];refine List.filter_eq_self.2 fun y hy=>?_
  have:¬ y.born=x.born:=fun e=>hn.1 (e▸List.mem_map.2 ⟨y,hy,rfl⟩)
  simpa using this
 | x::l,j+1,hn,h=>by
  rw [List.map_cons,List.nodup_cons] at hn
  have hx:¬ x.born=e.born:=fun q=>hn.1 (q▸List.mem_map.2 ⟨e,List.mem_of_getElem? (by simpa using h),rfl⟩)
  rw [List.filter_cons_of_pos (by simpa using hx),List.eraseIdx_cons_succ,JC e l j hn.2 (by simpa using h)]
theorem SU (es:List MapEntry) (seen:Array Nat) (e:MapEntry) {j:Nat} (hn:(es.map (·.born)).Nodup) (hj:(es.filter fun x => !seen.contains x.born)[j]? = some e) :
  (es.filter fun x => !(seen.push e.born).contains x.born)=(es.filter fun x => !seen.contains x.born).eraseIdx j:=by
 rw [<- JC e _ j (by
  have:=List.Sublist.map (fun x:MapEntry=>x.born) (List.filter_sublist (p:=fun x => !seen.contains x.born) (l:=es))
  exact hn.sublist this) hj,List.filter_filter]
 congr 1
 funext x
 simp only [Array.contains_push,Bool.not_or];rw [Bool.and_comm]
theorem Qj {es:List MapEntry} {e:MapEntry} (hn:(es.map (·.born)).Nodup) (he:e∈es):es.find? (fun x=>x.born == e.born)=some e:=find_born e es hn he
theorem Ok {P:Program} {w:World} {ty:TypeId} {r bm since c0 clock:Nat} {seen:Array Nat} {es:Array MapEntry} (hr:w.heap[r]? = some (.mapIter (some bm) since seen c0)) (hb:w.heap[bm]? = some (.map es clock)) (hold:∀ x∈es.toList,x.born<since) (hsc:since<=c0) :
  (es.toList.filter (fun e => !seen.contains e.born)=[]/\(Instr.next (.pointer (some ⟨r,0,none⟩)) false ty).run P w = .ok (.tuple #[.bool false]) w) \/
  ∃ (j:Nat) (e:MapEntry) (n:Nat),(es.toList.filter (fun e => !seen.contains e.born))[j]? = some e/\(Instr.next (.pointer (some ⟨r,0,none⟩)) false ty).run P w = .ok (.tuple #[.bool true,e.key,e.val]) { w with drawn:=n,heap:=w.heap.setIfInBounds r (.mapIter (some bm) since (seen.push e.born) clock) }:=by
 simp only [Instr.next,getObj,Sem.run_bind,Sem.run,hr,hb,Result.andThen,next_test_false seen es since c0 hold hsc,Bool.false_eq_true,if_false]
 have hfl:(Array.filter (fun e => !seen.contains e.born) es).toList=es.toList.filter (fun e => !seen.contains e.born):=by simp
 have hmem:∀ x∈(Array.filter (fun e => !seen.contains e.born) es).toList,x.born<since:=fun x hx=>hold x (by rw [hfl] at hx;exact (List.mem_filter.1 hx).1)
 rw [<- hfl]
 generalize Array.filter (fun e => !seen.contains e.born) es=Q at hmem ⊢
 have e1:Q.filter (fun x=>decide (x.born<since))=Q:=Array.filter_eq_self.2 (fun x hx=>by simpa using hmem x (by simpa using hx))
 have e2:Q.filter (fun x=>decide (x.born ≥ since)) = #[]:=by
  rw [Array.filter_eq_empty_iff]
  intro x hx
  have:=hmem x (by simpa using hx)
  simp;omega
 simp only [e1,e2,Array.append_empty]
 by_cases h0:Q.size=0
 ·have:Q = #[]:=Array.eq_empty_of_size_eq_zero h0
  subst this;exact .inl ⟨rfl,by simp [choose,Sem.run,Question.forced]⟩
 ·have hne:Q.isEmpty=false:=by simp [Array.isEmpty,h0]
  simp only [hne,Bool.false_eq_true,if_false,Array.empty_append,Array.size_map];obtain ⟨j,n,hj,hrun⟩:∃ (j n:Nat),j<Q.size/\(choose (Question.mapNext Q.size)).run P w = .ok j { w with drawn:=n }:=by
   by_cases hf:Q.size<=1
   ·exact ⟨0,w.drawn,by omega,by simp [choose,Sem.run,Question.forced,hf]⟩
   ·exact ⟨_,w.drawn+1,Nat.mod_lt _ (by omega),by
     simp only [choose,Sem.run,Question.forced,decide_eq_true_eq,hf,if_false,Question.cut]
     rfl⟩
  refine .inr ⟨j,Q[j],n,by simp [hj],?_⟩
  have hlt:r<w.heap.size:=(Array.getElem?_eq_some_iff.1 hr).1
  have hset:∀ (o':Obj),(setObj r o').run P ({ w with drawn:=n }:World) = .ok () ({ w with drawn:=n,heap:=w.heap.setIfInBounds r o' }:World):=fun o'=>by
   have hr2:({ w with drawn:=n }:World).heap[r]? = some (.mapIter (some bm) since seen c0):=hr
   simp only [setObj,Sem.run,hr2]
  simp only [hrun,Array.getElem?_map,Array.getElem?_eq_getElem hj,Option.map_some,Sem.run_bind,hset,Result.andThen]
  rfl
def mpi {α β:Type} (b r:Nat) (fk:α->Value) (fv:β->D) (l rest:List (α×β)) (last:Option (α×β)):Asrt where
 blocks:=[b,r]
 ok:=fun H h=>(∃ es clock since seen c0,h b=some (.map es clock)/\MapOk fk fv H l es.toList/\StOk es.toList clock/\h r=some (.mapIter (some b) since seen c0)/\(since<=c0/\since<=clock)/\(∀ e∈es.toList,e.born<since) /\
  MapOk fk fv H rest (es.toList.filter fun e => !seen.contains e.born)/\∀ p,last=some p->c0=clock/\∃ e∈es.toList,seen.back? = some e.born/\e.key=fk p.1/\Conc H (fv p.2) e.val)/\(∀ o,H b o=none)/\∀ o,H r o=none
 stable:=by
  rintro H H' h h' e hle ⟨⟨es,clock,since,seen,c0,h1,h2,h3,h4,h5,h6,h7,h8⟩,h9,h10⟩
  have eb:=e b (by simp)
  have er:=e r (by simp)
  refine ⟨⟨es,clock,since,seen,c0,by rw [eb.2];exact h1,h2.mono hle,h3,by rw [er.2];exact h4,h5,h6,h7.mono hle,fun p hp=>?_⟩,fun o=>by rw [eb.1];exact h9 o,fun o=>by rw [er.1];exact h10 o⟩;obtain ⟨q1,e,q2,q3,q4,q5⟩:=h8 p hp;exact ⟨q1,e,q2,q3,q4,q5.mono hle⟩
section
variable {P:Program} {L:Env} {ms:List Asrt} {dst:Option Nat} {ty:TypeId} {pos:String} {after:Array Edge} {g:Option (Nat×Bool)} {d:D} {x y:Operand} {t:TypeId} {α β:Type} {fk:α->Value} {fv:β->D} {b r:Nat} {l rest:List (α×β)} {last:Option (α×β)}
theorem HeapOk.join {H:PH} {A B C:Asrt} {as:List Asrt} {w:World} (h:HeapOk H (A::B::as) w) (hb:C.blocks.Perm (A.blocks++B.blocks)) (hok:A.ok H (fun b=>w.heap[b]?)->B.ok H (fun b=>w.heap[b]?)->C.ok H (fun b=>w.heap[b]?)):HeapOk H (C::as) w:=by
 refine ⟨h.sub,?_,?_,?_⟩
 ·have:=h.nodup
  simp only [List.flatMap_cons] at this ⊢;rw [<- List.append_assoc] at this;exact (List.Perm.nodup_iff (hb.append_right _)).2 this
 ·intro D hD b hbD
  rcases List.mem_cons.1 hD with rfl | hD
  ·rcases List.mem_append.1 (hb.mem_iff.1 hbD) with h1 | h1
   ·exact h.lt A (by simp) b h1
   ·exact h.lt B (by simp) b h1
  ·exact h.lt D (by simp [hD]) b hbD
 ·intro D hD
  rcases List.mem_cons.1 hD with rfl | hD
  ·exact hok (h.ok A (by simp)) (h.ok B (by simp))
  ·exact h.ok D (by simp [hD])
theorem HeapOk.less {H:PH} {A B:Asrt} {as:List Asrt} {w:World} (h:HeapOk H (A::as) w) (hb:B.blocks.Sublist A.blocks) (hok:A.ok H (fun b=>w.heap[b]?)->B.ok H (fun b=>w.heap[b]?)):HeapOk H (B::as) w:=by
 refine ⟨h.sub,?_,?_,?_⟩
 ·have:=h.nodup
  simp only [List.flatMap_cons] at this ⊢;exact this.sublist (hb.append_right _)
 ·intro D hD b hbD
  rcases List.mem_cons.1 hD with rfl | hD
  ·exact h.lt A (by simp) b (hb.subset hbD)
  ·exact h.lt D (by simp [hD]) b hbD
 ·intro D hD
  rcases List.mem_cons.1 hD with rfl | hD
  ·exact hok (h.ok A (by simp))
  ·exact h.ok D (by simp [hD])
theorem OQ {kt et:TypeId} (k:Nat) (hu:P.underlying t=some (.map kt et)) (hx:Env.ev L x=some (.v (.map (some b)))) (hm:ms[k]? = some (mp b fk fv l)) :
  OpT P ⟨dst,.range t x,ty,pos,after,g⟩ L ms (fun d' ms'=>∃ r,d' = .v (.pointer (some ⟨r,0,none⟩))/\ms'=ms.set k (mpi b r fk fv l l none)):=by
 refine .val (by simp) fun H fr a w hok henv=>?_
 have hok1:=hok.perm (CZ hm)
 obtain ⟨⟨es,clock,h1,h2,h3⟩,h4⟩:=hok1.ok _ (List.mem_cons_self ..)
 have h1':w.heap[b]? = some (.map es clock):=h1
 refine ⟨.pointer (some ⟨w.heap.size,0,none⟩),_,_,w.alloc (.mapIter (some b) clock #[] clock),H,?_,⟨w.heap.size,rfl,rfl⟩,PH.le_refl H,?_,conc_v.2 rfl,BO _ _⟩
 ·simp only [execOp,BF henv hx,Sem.run_bind,run_range_map w t kt et b es clock hu h1',Result.andThen_ok,Sem.run_pure]
 ·let it:Asrt:=⟨[w.heap.size],fun H h=>h w.heap.size=some (.mapIter (some b) clock #[] clock)/\∀ o,H w.heap.size o=none,fun H H' h h' e _ o=>⟨by rw [(e w.heap.size (by simp)).2];exact o.1,fun q=>by rw [(e w.heap.size (by simp)).1];exact o.2 q⟩⟩
  have h5:=hok1.own (A:=it) (o := .mapIter (some b) clock #[] clock) rfl ⟨AU _ _,fun o=>hok.none_new _ _ (Nat.le_refl _)⟩
  refine HeapOk.perm (BN hm) (h5.join (C:=mpi b w.heap.size fk fv l l none) (by simp only [mpi,mp,it];exact List.Perm.swap _ _ _) ?_);rintro ⟨q1,q2⟩ ⟨⟨es',clock',p1,p2,p3⟩,p4⟩
  have hb2:(w.alloc (.mapIter (some b) clock #[] clock)).heap[b]? = some (.map es clock):=by
   rw [Go.V.heap_alloc_old w _ _ (hok1.lt _ (List.mem_cons_self ..) b (by simp [mp]))];exact h1'
  have hee:some (Obj.map es' clock')=some (Obj.map es clock):=p1.symm.trans hb2
  simp only [Option.some.injEq,Obj.map.injEq] at hee;obtain ⟨rfl,rfl⟩:=hee;refine ⟨⟨es',clock',clock',#[],clock',hb2,p2,p3,q1,⟨Nat.le_refl _,Nat.le_refl _⟩,p3.2,?_,fun p hp=>by cases hp⟩,p4,q2⟩
  have hf:(es'.toList.filter fun e => !(#[]:Array Nat).contains e.born)=es'.toList:=List.filter_eq_self.2 (fun _ _=>by simp)
  rw [hf];exact p2
theorem QL (k:Nat) (hx:Env.ev L x=some (.v (.pointer (some ⟨r,0,none⟩)))) (hm:ms[k]? = some (mpi b r fk fv l rest last)) :
  OpT P ⟨dst,.next x false,ty,pos,after,g⟩ L ms (fun d' ms'=>(rest=[]/\d' = .tup [.bool false]/\ms'=ms)\/∃ i p,rest[i]? = some p/\d' = .tup [.bool true,.v (fk p.1),fv p.2]/\ms'=ms.set k (mpi b r fk fv l (rest.eraseIdx i) (some p))):=by
 refine .val (by simp) fun H fr a w hok henv=>?_
 have hok1:=hok.perm (CZ hm)
 obtain ⟨⟨es,clock,since,seen,c0,h1,h2,h3,h4,h5,h6,h7,h8⟩,h9,h10⟩:=hok1.ok _ (List.mem_cons_self ..)
 have hlt:r<w.heap.size:=(Array.getElem?_eq_some_iff.1 h4).1
 rcases Ok (P:=P) (ty:=ty) h4 h1 h6 h5.1 with ⟨q1,q2⟩ | ⟨j,e,n,q1,q2⟩
 ·rw [q1] at h7
  refine ⟨.tuple #[.bool false],_,_,w,H,by simp only [execOp,BF henv hx,Sem.run_bind,q2,Result.andThen_ok,Sem.run_pure],.inl ⟨h7.nil,rfl,rfl⟩,PH.le_refl H,hok,Mi (FP (conc_v.2 rfl) KQ),SameOut.refl w⟩
 ·obtain ⟨p,p1,p2,p3⟩:=h7.get q1
  have hbr:b≠r:=by
   have:=hok1.nodup
   simp only [List.flatMap_cons,mpi,List.cons_append,List.nil_append,List.nodup_cons,List.mem_cons] at this;exact fun e=>this.1 (.inl e)
  have he:e∈es.toList:=(List.mem_filter.1 (List.mem_of_getElem? q1)).1
  refine ⟨.tuple #[.bool true,e.key,e.val],_,_,{ w with drawn:=n,heap:=w.heap.setIfInBounds r (.mapIter (some b) since (seen.push e.born) clock) },H,by simp only [execOp,BF henv hx,Sem.run_bind,q2,Result.andThen_ok,Sem.run_pure],.inr ⟨j,p,p1,rfl,rfl⟩,PH.le_refl H,?_,Mi (FP (conc_v.2 rfl) (FP (conc_v.2 p2) (FP p3 KQ))),⟨rfl,rfl,rfl,by simp⟩⟩;refine HeapOk.perm (BN hm) ?_;refine hok1.upd rfl (by simp) ?_ (fun _ _ _ _=>rfl) (PH.le_refl H) ?_ ?_
  ·intro b' _ hn
   have:r≠b':=fun e=>hn (by simp [mpi,e])
   show (w.heap.setIfInBounds r _)[b']? = _
   rw [Array.getElem?_setIfInBounds_ne this]
  ·intro b' o v hb' hv
   rcases hb' with hb' | hb'
   ·simp only [mpi,List.mem_cons,List.not_mem_nil,or_false] at hb'
    rcases hb' with rfl | rfl
    ·rw [h9] at hv;cases hv
    ·rw [h10] at hv;cases hv
   ·rw [hok1.none_new _ _ hb'] at hv;cases hv
  ·refine ⟨⟨es,clock,since,seen.push e.born,clock,?_,h2,h3,?_,⟨h5.2,h5.2⟩,h6,?_,fun q hq=>?_⟩,h9,h10⟩
   ·show (w.heap.setIfInBounds r _)[b]? = _
    rw [Array.getElem?_setIfInBounds_ne (Ne.symm hbr)];exact h1
   ·show (w.heap.setIfInBounds r _)[r]? = _
    simp [hlt]
   ·rw [SU es.toList seen e h3.1 q1];exact h7.erase j
   ·cases hq
    exact ⟨rfl,e,he,by simp,p2,p3⟩
theorem Pn {p:α×β} (k:Nat) (hx:Env.ev L x=some (.v (.pointer (some ⟨r,0,none⟩)))) (hm:ms[k]? = some (mpi b r fk fv l rest (some p))) :
  OpP P ⟨dst,.entry x,ty,pos,after,g⟩ L ms (.tup [.v (fk p.1),fv p.2]):=by
 refine .pure (by simp) fun H fr a w hok henv=>?_;obtain ⟨⟨es,clock,since,seen,c0,h1,h2,h3,h4,h5,h6,h7,h8⟩,h9,h10⟩:=hok.ok _ (List.mem_of_getElem? (getElem?_app (r:=fr) hm));obtain ⟨rfl,e,q2,q3,q4,q5⟩:=h8 p rfl
 have h1':w.heap[b]? = some (.map es c0):=h1
 have h4':w.heap[r]? = some (.mapIter (some b) since seen c0):=h4
 have hf:es.find? (fun x=>x.born == e.born)=some e:=by rw [<- Array.find?_toList];exact Qj h3.1 q2
 refine ⟨.tuple #[e.key,e.val],?_,Mi (FP (conc_v.2 q4) (FP q5 KQ))⟩;simp only [execOp,BF henv hx,Instr.entry,getObj,Sem.run_bind,Sem.run,h4',h1',Result.andThen,q3,bne_self_eq_false,Bool.false_eq_true,if_false,hf]
 rfl
theorem Lc (k:Nat) (hm:ms[k]? = some (mpi b r fk fv l rest last)) {ms':List Asrt} (hms:ms.set k (mp b fk fv l)=ms'):Refines L ms L ms':=by
 subst hms
 intro Γ act w mm
 obtain ⟨H,marks,hle,hok,henv,hdf⟩:=mm.ex
 have hok1:=hok.perm (CZ hm)
 refine ⟨⟨H,marks,hle,HeapOk.perm (BN hm) (hok1.less (by simp [mp,mpi]) ?_),henv,hdf⟩,mm.size,mm.same⟩;rintro ⟨⟨es,clock,since,seen,c0,h1,h2,h3,h4,h5,h6,h7,h8⟩,h9,h10⟩;exact ⟨⟨es,clock,h1,h2,h3⟩,h9⟩
end
section
variable {Γ:Ctx} {P:Program} {L:Env} {ms:List Asrt} {K:KT}
theorem Ub {α:Type} {l:List α} {i:Nat} {p:α} (h:l[i]? = some p):(l.eraseIdx i).length<l.length:=by
 have hi:=(List.getElem?_eq_some_iff.1 h).1
 rw [List.length_eraseIdx]
 split <;> omega
end
def orI (x y:Int):Int:=IntKind.i64.wrap ((BitVec.ofInt IntKind.i64.bits x ||| BitVec.ofInt IntKind.i64.bits y).toNat:Int)
theorem XG {P:Program} {L:Env} {ms:List Asrt} {dst:Option Nat} {ty:TypeId} {pos:String} {after:Array Edge} {g:Option (Nat×Bool)} {x y:Operand} {t t':TypeId} {m n:Int} (hx:Env.ev L x=some (.v (.int .i64 m))) (hy:Env.ev L y=some (.v (.int .i64 n))) :
  OpP P ⟨dst,.binOp .or t x y t',ty,pos,after,g⟩ L ms (.v (.int .i64 (orI m n))):=
 .pure (by simp) fun H fr a w _ henv=>⟨.int .i64 (orI m n),by simp [execOp,BF henv hx,BF henv hy,eqGuard,binOp,Op.intBits,Sem.run,orI],conc_v.2 rfl⟩
end Go.V
namespace Go.V
def IterM (P:Program) (gf:FuncId) (caps:List D) (M:Asrt) {σ:Type} (s0:σ) (nx:σ->List D->σ->Prop) (fi:σ->Prop):Prop:=
 ∀ (y:D),(y.storable=true/\y.isAgg=false)->∀ (J:σ->List Asrt->Prop) (Jx:List Asrt->Prop),
  (∀ s ds s' ms,nx s ds s'->J s ms->FV P y ds ms (fun r ms'=>(r = .bool true/\J s' ms')\/(r = .bool false/\Jx ms'))) ->
  ∀ ms,J s0 ms->Fn P gf (y::caps) (M::ms) (fun _ ms'=>∃ ms2,ms'=M::ms2/\((∃ s,fi s/\J s ms2)\/Jx ms2))
section
variable {Γ:Ctx} {P:Program} {L:Env} {ms:List Asrt} {K:KT}
theorem Ol {g:Operand} {ps:List Nat} {assign body:Code} {gf:FuncId} {caps:List D} {σ:Type} (M:Asrt) (s0:σ) (nx:σ->List D->σ->Prop) (fi:σ->Prop) (J:σ->List Asrt->Prop)
  (hg:Env.ev L g=some (.clo (.func gf) [] caps)) (hc:∀ args w,(callFunc gf args).run P w = .ok (.enter gf args) w) (hit:IterM P gf caps M s0 nx fi) (h0:J s0 ms)
  (hlen:∀ s ds s',nx s ds s'->ds.length=ps.length) (hps:ps.all (fun p=>Nat.blt p Γ.N)=true)
  (round:∀ (Γ':Ctx) (s:σ) (ds:List D) (s':σ) (ms':List Asrt),Γ'.N=Γ.N->nx s ds s'->J s ms' ->
   G Γ' P assign (Hd ps ds L) ms' (KT.then (fun L' ms''=>∀ Γ'':Ctx,Γ''.N=Γ.N->G Γ'' P body L' ms'' (fun e _ ms3=>match e with | .normal=>J s' ms3 | .ret=>K .ret L (M::ms3) | .exit id=>K (.exit id) L (M::ms3) | _=>False)) (fun _ _ _=>False)))
  (hdone:∀ s ms',fi s->J s ms'->K .normal L (M::ms')):G Γ P (.rangeFunc g ps.toArray assign body) L (M::ms) K:=by
 intro a w m
 obtain ⟨H,marks,hle,hok,henv,hdf⟩:=m.ex;refine wpIn_rangeFunc ?_
 intro fn hfn
 have hgv:=henv.ev hg
 rw [Ba (by rfl)] at hgv;simp only [Enc] at hgv;obtain ⟨us,ws,hvv,hus,hws⟩:=hgv;simp only [ConcL] at hus;subst hus;simp only [List.cons.injEq,and_true] at hvv;obtain ⟨l,marksN,W1,D,hent,hok1,hs1⟩:=M1 (P:=P) (H:=H) (a:=a) Γ.round (fun l hl=>by
  obtain ⟨A,hA,h⟩:=Γ.hround l hl;exact h H _ (hok.ok A (by simp [hA]))) hok fn ps.toArray assign body
 refine ⟨l,marksN.map markD,W1,{ target := .fn (.func gf) ws.toArray,args := #[.func (.yield l) #[] #[]] },W1,gf,#[.func (.yield l) #[] #[]]++ws.toArray,W1,hent,?_,fun _ _=>trivial,?_,by simp,?_⟩
 ·simp only [resolve,hvv]
  simp [Deferred.ofValue,Sem.run,Act.eval]
 ·simp [invoke,Sem.run,hc]
 ·obtain ⟨rec,hrec⟩:∃ rec:LoopState->Option Code->Loop,rec=fun st pe=>{ state:=st,pending:=pe,fn:=fn,tmps:=a.tmps,params:=ps.toArray,assign:=assign,body:=body,defers:=D }:=⟨_,rfl⟩
  have hrec0:({ state := .ready,pending:=none,fn:=fn,tmps:=a.tmps,params:=ps.toArray,assign:=assign,body:=body,defers:=D }:Loop)=rec .ready none:=by rw [hrec]
  rw [hrec0] at hok1
  let fA:=fact (fun H'=>EnvOk H' L a.tmps/\PH.le H H') (fun A B hl h=>⟨h.1.mono hl,PH.le_trans h.2 hl⟩)
  have key:=hit (.v (.func (.yield l) #[] #[])) ⟨rfl,rfl⟩ (fun s ms'=>∃ ms,J s ms/\ms'=recX l (rec .ready none)::fA::ms)
   (fun ms'=>∃ ms c,(match c with | .ret=>K .ret L (M::ms) | .exit id=>K (.exit id) L (M::ms) | _=>False)/\ms'=recX l (rec .done (some c))::fA::ms) ?_
   (recX l (rec .ready none)::fA::ms) ⟨ms,h0,rfl⟩
  ·have hokF:HeapOk H ((M::recX l (rec .ready none)::fA::ms)++(marksN.map markA++(marks.map markA++Γ.fr))) W1:=by
    have hp:(recX l (rec .ready none)::(marksN.map markA++((M::ms)++(marks.map markA++Γ.fr)))).Perm ((M::recX l (rec .ready none)::ms)++(marksN.map markA++(marks.map markA++Γ.fr))):=by
     have h1:(marksN.map markA++((M::ms)++(marks.map markA++Γ.fr))).Perm ((M::ms)++(marksN.map markA++(marks.map markA++Γ.fr))):=by
      rw [<- List.append_assoc (marksN.map markA),<- List.append_assoc (M::ms)];exact (List.perm_append_comm).append_right _
     exact (h1.cons _).trans (List.Perm.swap _ _ _)
    have h2:=hok1.perm hp
    refine ⟨h2.sub,?_,?_,?_⟩
    ·have:=h2.nodup
     simp only [List.cons_append,List.flatMap_cons] at this ⊢
     simpa [fA,fact] using this
    ·intro A hA b hb
     simp only [List.cons_append,List.mem_cons] at hA
     rcases hA with rfl | rfl | rfl | hA
     ·exact h2.lt A (by simp) b hb
     ·exact h2.lt (recX l (rec .ready none)) (by simp) b hb
     ·simp [fA,fact] at hb
     ·exact h2.lt A (by simp at hA ⊢;grind) b hb
    ·intro A hA
     simp only [List.cons_append,List.mem_cons] at hA
     rcases hA with rfl | rfl | rfl | hA
     ·exact h2.ok A (by simp)
     ·exact h2.ok (recX l (rec .ready none)) (by simp)
     ·exact ⟨henv,PH.le_refl H⟩
     ·exact h2.ok A (by simp at hA ⊢;grind)
   have hcall:=key H _ W1 (.func (.yield l) #[] #[]::ws) hokF (by simp only [ConcL];exact ⟨_,_,rfl,⟨_,by simp only [Enc],rfl⟩,hws⟩)
   rw [show (Value.func (.yield l) #[] #[]::ws).toArray = #[Value.func (.yield l) #[] #[]]++ws.toArray by simp] at hcall;refine CallsIn.mono (OP hcall Γ.round) ?_;rintro e w3 ⟨v,d,ms',H',rfl,hR,hle',hok',_,hs3⟩
   have fin:∀ (st:LoopState) (pe:Option Code) (ms2:List Asrt),st ≠ .busy->ms'=M::recX l (rec st pe)::fA::ms2 ->
     ∃ w4,(Instr.endLoop l).run P w3 = .ok pe w4/\Models Γ L (M::ms2) { a with defers:=marksN.map markD++a.defers } w4:=by
    rintro st pe ms2 hst rfl
    have hl:w3.heap[l]? = some (.loop (rec st pe)):=hok'.ok (recX l (rec st pe)) (by simp)
    have hE:=run_endLoop (P:=P) hl (by rw [hrec];exact hst)
    have hp:(rec st pe).pending=pe:=by rw [hrec]
    have hE':(Instr.endLoop l).run P w3 = .ok pe (w3.putObj l (.loop { rec st pe with state := .exhausted })):=by
     rw [hE];congr 1
    refine ⟨_,hE',?_⟩;obtain ⟨f1,f2⟩:EnvOk H' L a.tmps/\PH.le H H':=hok'.ok fA (by simp)
    have hokS:=hok'.perm (List.Perm.swap _ _ _:(M::recX l (rec st pe)::(fA::ms2++(marksN.map markA++(marks.map markA++Γ.fr)))).Perm (recX l (rec st pe)::M::(fA::ms2++(marksN.map markA++(marks.map markA++Γ.fr)))))
    have h4:=hokS.put (A':=recX l { rec st pe with state := .exhausted }) (o' := .loop { rec st pe with state := .exhausted }) rfl rfl hl rfl (by
     simp only [recX];exact World.putObj_heap_same (Array.getElem?_eq_some_iff.1 hl).1)
    have h5:HeapOk H' ((M::ms2)++(marksN.map markA++(marks.map markA++Γ.fr))) (w3.putObj l (.loop { rec st pe with state := .exhausted })):=by
     have h6:=h4.perm (List.Perm.cons _ (List.Perm.swap _ _ _):(recX l { rec st pe with state := .exhausted }::M::fA::(ms2++(marksN.map markA++(marks.map markA++Γ.fr)))).Perm (recX l { rec st pe with state := .exhausted }::fA::M::(ms2++(marksN.map markA++(marks.map markA++Γ.fr)))))
     have:HeapOk H' ([recX l { rec st pe with state := .exhausted },fA]++((M::ms2)++(marksN.map markA++(marks.map markA++Γ.fr)))) (w3.putObj l (.loop { rec st pe with state := .exhausted })):=by simpa using h6
     exact this.drop
    refine ⟨⟨H',marksN++marks,PH.le_trans hle f2,?_,f1,?_⟩,m.size,((m.same.trans hs1).trans hs3).trans (Fh _ _ _)⟩
    ·rw [List.map_append,List.append_assoc];exact h5
    ·simp [hdf]
   obtain ⟨msr,rfl,hR⟩:=hR
   rcases hR with ⟨s,hfi,ms2,hJ,e2⟩ | ⟨ms2,c,hK,e2⟩
   ·obtain ⟨w4,h1,h2⟩:=fin .ready none ms2 (by simp) (by rw [e2])
    exact ⟨none,w4,h1,L,M::ms2,hdone s ms2 hfi hJ,h2⟩
   ·obtain ⟨w4,h1,h2⟩:=fin .done (some c) ms2 (by simp) (by rw [e2])
    refine ⟨some c,w4,h1,?_⟩
    cases c with
    | ret=>exact wpIn_ret ⟨L,M::ms2,hK,h2⟩
    | exit id=>exact wpIn_exit ⟨L,M::ms2,hK,h2⟩
    | _=>exact hK.elim
  ·
   rintro s ds s' ms' hx ⟨ms2,hJ,rfl⟩
   intro H2 fr2 W v vs hok2 hv hvs
   have hl:W.heap[l]? = some (.loop (rec .ready none)):=hok2.ok (recX l (rec .ready none)) (by simp)
   obtain ⟨f1,f2⟩:EnvOk H2 L a.tmps/\PH.le H H2:=hok2.ok fA (by simp)
   have hdl:ds.length=ps.length:=hlen s ds s' hx
   have hvl:vs.length=ps.length:=by rw [ConcL.length ds vs hvs,hdl]
   refine ⟨_,_,_,conc_v.1 hv,.inr ⟨l,fn,(ps.zip vs).foldl (fun t (p:Nat×Value)=>t.setIfInBounds p.1 p.2) a.tmps,assign,body,rfl,?_,?_⟩⟩
   ·have hy:=run_yield (P:=P) (args:=vs.toArray) hl (by rw [hrec];simp [hvl])
    rw [hrec] at hy;rw [show (#[]:Array Value)++vs.toArray=vs.toArray by simp];rw [hy]
    congr 2
    rw [<- Array.foldl_toList]
    simp
   ·have hN1:∀ p∈ps,p<a.tmps.size:=fun p hp=>by
     rw [m.size];exact nB (List.all_eq_true.1 hps p hp)
    let Γ1:Ctx:=⟨H2,recX l (rec .ready none)::fA::fr2,Γ.N,some l,W,fun l' e=>by
     cases e;exact ⟨recX l (rec .ready none),by simp,fun H h o=>⟨_,o⟩⟩⟩
    have hM1:Models Γ1 (Hd ps ds L) ms2 { tmps:=(ps.zip vs).foldl (fun t (p:Nat×Value)=>t.setIfInBounds p.1 p.2) a.tmps,defers:=[] } W:=by
     refine ⟨⟨H2,[],PH.le_refl _,hok2.perm ?_,NX ps ds vs L _ hN1 hdl.symm hvs f1,rfl⟩,by simp only [KM];exact m.size,SameOut.refl _⟩;simp only [List.map_nil,List.nil_append,Γ1,List.cons_append];exact (My _ _ _ _)
    refine roundIn_of_wpIn (F:=FR none) trivial ?_;refine wpIn_mono (round Γ1 s ds s' ms2 rfl hx hJ _ W hM1) ?_;rintro e a1 w1 ⟨L',ms'',k',m'⟩
    cases e with
    | normal =>
     obtain ⟨H3,marks',hle3,hok3,henv3,hdf3⟩:=m'.ex
     have hl1:w1.heap[l]? = some (.loop (rec .ready none)):=hok3.ok (recX l (rec .ready none)) (by simp [Γ1])
     have hst:(rec .ready none).state = .ready:=by rw [hrec]
     refine ⟨_,run_beginRound hl1 hst,?_⟩;obtain ⟨w2,hw2⟩:∃ w2,w1.putObj l (.loop { rec .ready none with state := .busy })=w2:=⟨_,rfl⟩
     have hb2:w2.heap[l]? = some (.loop { rec .ready none with state := .busy }):=by
      rw [<- hw2];exact World.putObj_heap_same (Array.getElem?_eq_some_iff.1 hl1).1
     let Γ2:Ctx:=⟨H3,recX l { rec .ready none with state := .busy }::fA::fr2,Γ.N,some l,w2,fun l' e=>by
      cases e;exact ⟨recX l { rec .ready none with state := .busy },by simp,fun H h o=>⟨_,o⟩⟩⟩
     have hok4:HeapOk H3 (ms''++(marks'.map markA++Γ2.fr)) w2:=by
      have h1:=hok3.perm (GG ms'' (marks'.map markA) (recX l (rec .ready none)) (fA::fr2))
      have h2:=h1.put (A':=recX l { rec .ready none with state := .busy }) (o' := .loop { rec .ready none with state := .busy }) rfl rfl hl1 rfl (by
       simp only [recX];rw [hw2];exact hb2)
      rw [hw2] at h2;exact h2.perm (GG ms'' (marks'.map markA) _ (fA::fr2)).symm
     have hs2:SameOut w1 w2:=by rw [<- hw2];exact Fh _ _ _
     rw [hw2];refine wpIn_mono (k' Γ2 rfl a1 w2 ⟨⟨H3,marks',PH.le_refl _,hok4,henv3,hdf3⟩,m'.size,SameOut.refl _⟩) ?_;rintro e a3 w3 ⟨L3,ms3,k3,m3⟩;obtain ⟨H4,marks4,hle4,hok5,henv4,hdf4⟩:=m3.ex
     have fin:∀ (jump:Option Code),∃ w4,(Instr.endRound l jump).run P w3 = .ok (.bool jump.isNone) w4/\HeapOk H4 ((recX l (rec (if jump.isNone then .ready else .done) jump)::fA::ms3)++fr2) w4/\SameOut w3 w4:=by
      intro jump
      have hl3:w3.heap[l]? = some (.loop { rec .ready none with state := .busy }):=hok5.ok (recX l { rec .ready none with state := .busy }) (by simp [Γ2])
      have hr:({ ({ rec .ready none with state := .busy }:Loop) with state:=if jump.isNone then .ready else .done,pending:=jump }:Loop)=rec (if jump.isNone then .ready else .done) jump:=by rw [hrec]
      have hE:=run_endRound (P:=P) jump hl3
      rw [hr] at hE;refine ⟨_,hE,?_,Fh _ _ _⟩
      have h1:=hok5.perm (GG ms3 (marks4.map markA) _ (fA::fr2))
      have h2:=h1.put (A':=recX l (rec (if jump.isNone then .ready else .done) jump)) (o' := .loop (rec (if jump.isNone then .ready else .done) jump)) rfl rfl hl3 rfl (by
       simp only [recX];exact World.putObj_heap_same (Array.getElem?_eq_some_iff.1 hl3).1)
      have h3:=h2.perm (OY _ ms3 (marks4.map markA) fA fr2)
      exact h3.drop
     have le4:PH.le H2 H4:=PH.le_trans hle3 hle4
     have hs3:SameOut W w3:=(m'.same.trans hs2).trans m3.same
     cases e with
     | normal =>
      obtain ⟨w4,h1,h2,h3⟩:=fin none;exact ⟨_,w4,h1,_,_,_,H4,rfl,.inl ⟨rfl,ms3,k3,rfl⟩,le4,h2,conc_v.2 rfl,hs3.trans h3⟩
     | ret =>
      obtain ⟨w4,h1,h2,h3⟩:=fin (some .ret);exact ⟨_,w4,h1,_,_,_,H4,rfl,.inr ⟨rfl,ms3,.ret,k3,rfl⟩,le4,h2,conc_v.2 rfl,hs3.trans h3⟩
     | exit id =>
      obtain ⟨w4,h1,h2,h3⟩:=fin (some (.exit id));exact ⟨_,w4,h1,_,_,_,H4,rfl,.inr ⟨rfl,ms3,.exit id,k3,rfl⟩,le4,h2,conc_v.2 rfl,hs3.trans h3⟩
     | goto t=>exact k3.elim
     | panic ch=>exact k3.elim
     | outgrown=>exact k3.elim
    | exit id=>exact k'.elim
    | goto t=>exact k'.elim
    | ret=>exact k'.elim
    | panic ch=>exact k'.elim
    | outgrown=>exact k'.elim
end
section
variable {P:Program} {L:Env} {dst:Option Nat} {ty:TypeId} {pos:String} {after:Array Edge} {g:Option (Nat×Bool)} {x:Operand}
theorem UY {args:List Operand} {ats:Array TypeId} {ds:List D} {y:D} {M:Asrt} {tl:List Asrt} {R:D->List Asrt->Prop} (hx:Env.ev L x=some y) (hev:evL L args=some ds) (hf:FV P y ds tl R) :
  OpT P ⟨dst,.call ⟨.value x,args.toArray,ats⟩,ty,pos,after,g⟩ L (M::tl) (fun d ms'=>∃ tl',R d tl'/\ms'=M::tl'):=by
 have:=LF (P:=P) (L:=L) (ms:=M::tl) (dst:=dst) (ty:=ty) (pos:=pos) (after:=after) (g:=g) (ats:=ats) (ms₁:=tl) (rest:=[M]) hx hev (List.perm_append_comm (l₁:=[M])) hf
 intro ro H fr a w hok henv next Q hn
 refine this ro H fr a w hok henv next Q ?_;rintro v d ms' w' H' ⟨tl',hR,rfl⟩ hle hok' hc' hs;exact hn v d _ w' H' ⟨tl',hR,rfl⟩ hle (hok'.perm ((List.perm_append_comm (l₁:=tl') (l₂:=[M])).append_right fr)) hc' hs
end
theorem NQ {L:Env} {ms ms':List Asrt} (h:ms.Perm ms'):Refines L ms L ms':=by
 intro Γ act w mm
 obtain ⟨H,marks,hle,hok,henv,hdf⟩:=mm.ex;exact ⟨⟨H,marks,hle,hok.perm (h.append_right _),henv,hdf⟩,mm.size,mm.same⟩
theorem OpT.conv {P:Program} {o:Oper} {L:Env} {ms ms':List Asrt} {R:D->List Asrt->Prop} (r:Refines L ms L ms') (h:OpT P o L ms' R):OpT P o L ms R:=by
 intro ro H fr a w hok henv next Q hn
 have m:=r ⟨H,fr,a.tmps.size,none,w,fun _ e=>by cases e⟩ { a with defers:=[] } w ⟨⟨H,[],PH.le_refl H,by simpa using hok,henv,rfl⟩,rfl,SameOut.refl w⟩
 obtain ⟨H',marks,hle,hok',henv',hd⟩:=m.ex
 have hmk:marks=[]:=by simpa using hd.symm
 subst hmk;refine h ro H' fr a w (by simpa using hok') henv' next Q fun v d ms1 w' H2 hR hl hok2 hc hs=>?_;exact hn v d ms1 w' H2 hR (PH.le_trans hle hl) hok2 hc hs
theorem OpT.thaw {P:Program} {o:Oper} {L:Env} {ms ms':List Asrt} {R:D->List Asrt->Prop} {a:Option Addr} {m cap:Nat} {T:TypeId} {sz:Nat} {α:Type} {f:α->D} {l:List α} (k:Nat) (hk:ms[k]? = some (arr a m cap T sz f l)) (hms:ms.set k (row a cap T sz f l)=ms') (h:l.length=m->OpT P o L ms' R):OpT P o L ms R:=by
 intro ro H fr act w hok henv
 exact OpT.conv (Ii k hk hms) (h (hok.ok _ (List.mem_append_left _ (List.mem_of_getElem? hk))).1) ro H fr act w hok henv
theorem Ln {α:Type} {l:List α} {i:Int} {x v:α} (h:idx l i=some x):(l.set i.toNat v)[i.toNat]? = some v:=by
 have:=(Ar h).2
 rw [List.getElem?_set_self (List.getElem?_eq_some_iff.1 this).1]
def keyNx {α β:Type} (fk:α->Value) (s:List (α×β)×List α) (ds:List D) (s':List (α×β)×List α):Prop:=∃ i p,s.1[i]? = some p/\ds=[.v (fk p.1)]/\s'=(s.1.eraseIdx i,s.2++[p.1])
def keyFi {α β:Type} (s:List (α×β)×List α):Prop:=s.1=[]
theorem R9 {α β:Type} {l rest:List (α×β)} {done:List α} {i:Nat} {p:α×β} (h:(done++rest.map (·.1)).Perm (l.map (·.1))) (hi:rest[i]? = some p):((done++[p.1])++(rest.eraseIdx i).map (·.1)).Perm (l.map (·.1)):=by
 refine List.Perm.trans ?_ h;rw [List.append_assoc];refine List.Perm.append_left done ?_;exact ((Gl rest i p hi).map (·.1)).symm
theorem Sy {a b:List Int} (h:a.Perm b):(a.mergeSort fun x y=>decide (x<=y))=(b.mergeSort fun x y=>decide (x<=y)):=by
 have tr:∀ (a b c:Int),decide (a<=b)=true->decide (b<=c)=true->decide (a<=c)=true:=fun a b c h1 h2=>by simp at *;omega
 have to:∀ (a b:Int),(decide (a<=b)||decide (b<=a))=true:=fun a b=>by simp;omega
 have h1:=List.pairwise_mergeSort (le:=fun x y:Int=>decide (x<=y)) tr to a
 have h2:=List.pairwise_mergeSort (le:=fun x y:Int=>decide (x<=y)) tr to b
 refine List.Perm.eq_of_pairwise (le:=fun x y:Int=>decide (x<=y)=true) (fun a b _ _ h1 h2=>by simp at h1 h2;omega) h1 h2 ?_;exact ((List.mergeSort_perm a _).trans h).trans (List.mergeSort_perm b _).symm
end Go.V
namespace Go.V
def topH (w:World):PH:=fun b o=>w.cell? ⟨b,o,none⟩
def Sees (ms:List Asrt) (d d':D):Prop:=d'.isAgg=d.isAgg/\∀ H fr w vs,HeapOk H (ms++fr) w->Enc H d vs->Enc (topH w) d' vs
def SeesL (ms:List Asrt):List D->List D->Prop
 | [],[]=>True
 | d::ds,d'::ds'=>Sees ms d d'/\SeesL ms ds ds'
 | _,_=>False
def Still (d:D):Prop:=∀ H H' v,Conc H d v->Conc H' d v
section
variable {P:Program} {ms:List Asrt}
theorem N8 {H:PH} {as:List Asrt} {w:World} (h:HeapOk H as w):PH.le H (topH w):=fun b o v e=>h.sub b o v e
theorem Wa {d d':D} (h:d'.isAgg=d.isAgg) {vs:List Value} {u:Value} (e:d.val vs u):d'.val vs u:=by
 cases d <;> cases d' <;> simp_all [D.val,D.isAgg]
theorem Sees.conc {d d':D} (h:Sees ms d d') {H:PH} {fr:List Asrt} {w:World} {v:Value} (hok:HeapOk H (ms++fr) w) (c:Conc H d v):Conc (topH w) d' v:=by
 obtain ⟨vs,e,hv⟩:=c;exact ⟨vs,h.2 H fr w vs hok e,Wa h.1 hv⟩
theorem SeesL.conc {H:PH} {fr:List Asrt} {w:World} (hok:HeapOk H (ms++fr) w):∀ {ds ds':List D} {us:List Value},SeesL ms ds ds'->ConcL H ds us->ConcL (topH w) ds' us
 | [],[],us,_,c=>by simpa [ConcL] using c
 | d::ds,d'::ds',us,h,c=>by
  simp only [ConcL] at c ⊢;obtain ⟨u,r,hv,hc,h3⟩:=c;exact ⟨u,r,hv,h.1.conc hok hc,SeesL.conc hok h.2 h3⟩
 | [],_::_,_,h,_=>h.elim
 | _::_,[],_,h,_=>h.elim
theorem SeesL.enc {H:PH} {fr:List Asrt} {w:World} (hok:HeapOk H (ms++fr) w):∀ {ds ds':List D} {us:List Value},SeesL ms ds ds'->EncL H ds us->EncL (topH w) ds' us
 | [],[],us,_,c=>by simpa [EncL] using c
 | d::ds,d'::ds',us,h,c=>by
  simp only [EncL] at c ⊢;obtain ⟨a,r,hv,hc,h3⟩:=c;exact ⟨a,r,hv,h.1.2 _ _ _ _ hok hc,SeesL.enc hok h.2 h3⟩
 | [],_::_,_,h,_=>h.elim
 | _::_,[],_,h,_=>h.elim
theorem B2:SeesL ms [] []:=trivial
theorem Bh {d d':D} {ds ds':List D} (h:Sees ms d d') (t:SeesL ms ds ds'):SeesL ms (d::ds) (d'::ds'):=⟨h,t⟩
theorem BT {d:D}:Sees ms d d:=⟨rfl,fun H fr w vs hok e=>Enc.mono (N8 hok) d vs e⟩
theorem F2 {ds ds':List D} (h:SeesL ms ds ds'):Sees ms (.agg ds) (.agg ds'):=⟨rfl,fun H fr w vs hok e=>by
 simp only [Enc] at e ⊢;exact h.enc hok e⟩
theorem Uq {fn:Go.Fn} {fs fs' cs cs':List D} (h:SeesL ms fs fs') (h2:SeesL ms cs cs'):Sees ms (.clo fn fs cs) (.clo fn fs' cs'):=⟨rfl,fun H fr w vs hok e=>by
 simp only [Enc] at e ⊢;obtain ⟨us,ws,hv,c1,c2⟩:=e;exact ⟨us,ws,hv,h.conc hok c1,h2.conc hok c2⟩⟩
theorem UN {a:Option Addr} {cap n:Nat} {T:TypeId} {sz:Nat} {α:Type} {f:α->D} {l:List α} (k:Nat) (hk:ms[k]? = some (row a cap T sz f l)) (hn:n=l.length):Sees ms (.v (.slice a n cap)) (.list sz f l):=⟨rfl,fun H fr w vs hok e=>by
 subst hn;simp only [Enc] at e;subst e
 have hm:row a cap T sz f l∈ms++fr:=List.mem_append_left _ (List.mem_of_getElem? hk)
 exact (Ba (by rfl)).1 ((JX hok hm).mono (N8 hok))⟩
theorem EU {a:Option Addr} {m cap:Nat} {T:TypeId} {sz:Nat} {α:Type} {f:α->D} {l:List α} (k:Nat) (hk:ms[k]? = some (arr a m cap T sz f l)):Sees ms (.v (.slice a m cap)) (.list sz f l):=⟨rfl,fun H fr w vs hok e=>by
 simp only [Enc] at e;subst e
 have hm:arr a m cap T sz f l∈ms++fr:=List.mem_append_left _ (List.mem_of_getElem? hk)
 obtain ⟨h0,h1,h2,h3⟩:=hok.ok _ hm;simp only [Enc];refine ⟨a,cap,by rw [h0],h1,h2,?_⟩
 rcases h3 with ⟨_,h3,_⟩ | ⟨b,vs,us,ha,hb,hl,he,ht,hn⟩
 ·exact .inl h3
 ·refine .inr ⟨b,0,ha,fun i x hx=>?_⟩
  obtain ⟨ws,e1,e2,e3⟩:=he.2 i x hx;refine ⟨ws,Enc.mono (N8 hok) _ _ e1,e2,fun k u hk=>?_⟩
  have h4:=e3 k u hk
  rw [<- ht,List.getElem?_take] at h4
  split at h4
  ·show World.cell? w ⟨b,0+i*sz+k,none⟩=some u
   simp [World.cell?,hb,h4]
  ·cases h4⟩
theorem TE {b:Nat} {T:TypeId} {cs cs':List D} (k:Nat) (hk:ms[k]? = some (box b T cs)) (h:SeesL ms cs cs'):Sees ms (.v (.pointer (some ⟨b,0,none⟩))) (.ref (.agg cs')):=⟨rfl,fun H fr w vs hok e=>by
 simp only [Enc] at e;subst e;obtain ⟨vs,hb,he,hn⟩:=hok.ok _ (List.mem_append_left _ (List.mem_of_getElem? hk));simp only [Enc];refine ⟨b,0,vs,rfl,h.enc hok he,fun q u hq=>?_⟩
 show World.cell? w ⟨b,0+q,none⟩=some u
 simp [World.cell?,hb,hq]⟩
theorem FW {x:Value}:Still (.v x):=fun H H' v h=>conc_v.2 (conc_v.1 h)
def StillL:List D->Prop
 | []=>True
 | d::ds=>Still d/\StillL ds
theorem Sh:StillL []:=trivial
theorem Ot {d:D} {ds:List D} (h:Still d) (t:StillL ds):StillL (d::ds):=⟨h,t⟩
theorem StillL.conc {H H':PH}:∀ {ds:List D} {us:List Value},StillL ds->ConcL H ds us->ConcL H' ds us
 | [],us,_,c=>by simpa [ConcL] using c
 | d::ds,us,h,c=>by
  simp only [ConcL] at c ⊢;obtain ⟨u,r,hv,hc,h3⟩:=c;exact ⟨u,r,hv,h.1 _ _ _ hc,StillL.conc h.2 h3⟩
theorem SG {ds:List D} (h:StillL ds):Still (.tup ds):=by
 intro H H' v c
 rw [Ba (by rfl)] at c ⊢;simp only [Enc] at c ⊢;obtain ⟨us,hv,c⟩:=c;exact ⟨us,hv,h.conc c⟩
def ghost (bs:List Nat) (w:World):Asrt where
 blocks:=bs
 ok:=fun _ h=>∀ b∈bs,h b=w.heap[b]?
 stable:=fun H H' h h' e hle k b hb=>by rw [(e b hb).2];exact k b hb
theorem PW {H:PH} {as:List Asrt} {w:World} (h:HeapOk H as w):HeapOk (topH w) ([]++[ghost (as.flatMap (·.blocks)) w]) w:=by
 refine ⟨fun _ _ _ e=>e,by simpa [ghost] using h.nodup,fun A hA b hb=>?_,fun A hA=>?_⟩
 ·simp at hA;subst hA
  obtain ⟨A,hA,hb⟩:=List.mem_flatMap.1 (show b∈as.flatMap (·.blocks) from hb);exact h.lt A hA b hb
 ·simp at hA;subst hA
  exact fun b hb=>rfl
theorem Fn.lend {f:FuncId} {ds ds':List D} {d:D} (hf:Fn0 P f ds' d) (he:SeesL ms ds ds') (hd:Still d):Fn P f ds ms (fun d' ms'=>d'=d/\ms'=ms):=by
 intro H fr w vs hok hargs
 refine (hf (topH w) _ w vs (PW hok) (he.conc hok hargs)).mono ?_;rintro e w' ⟨v,d',ms',H',rfl,rfl,hle,hok',hc,hs⟩;refine ⟨v,d',ms,H,rfl,⟨rfl,rfl⟩,PH.le_refl H,?_,hd _ _ _ hc,hs⟩
 have hg:∀ b∈(ms++fr).flatMap (·.blocks),w'.heap[b]? = w.heap[b]? := hok'.drop.ok (ghost ((ms++fr).flatMap fun A:Asrt=>A.blocks) w) (List.mem_singleton_self _)
 refine ⟨fun b o u h=>hok'.sub b o u (hle b o u (hok.sub b o u h)),hok.nodup,fun A hA b hb=>Nat.lt_of_lt_of_le (hok.lt A hA b hb) hs.size,fun A hA=>?_⟩;exact A.stable H H _ _ (fun b hb=>⟨fun _=>rfl,hg b (List.mem_flatMap.2 ⟨A,hA,hb⟩)⟩) (PH.le_refl H) (hok.ok A hA)
theorem Fn.lend_row {f:FuncId} {ds ds':List D} {T:TypeId} {sz:Nat} {α:Type} {g:α->D} {l:List α} (hf:Fn P f ds' [] (fun d ms'=>∃ a cap,d = .v (.slice a l.length cap)/\ms'=[row a cap T sz g l])) (he:SeesL ms ds ds')
  (hg:∀ x H H' ws,Enc H (g x) ws->Enc H' (g x) ws):Fn P f ds ms (fun d ms'=>∃ a cap,d = .v (.slice a l.length cap)/\ms'=row a cap T sz g l::ms):=by
 intro H fr w vs hok hargs
 refine (hf (topH w) _ w vs (PW hok) (he.conc hok hargs)).mono ?_;rintro e w' ⟨v,d',ms',H',rfl,⟨a,cap,rfl,rfl⟩,hle,hok',hc,hs⟩
 have hgh:∀ b∈(ms++fr).flatMap (·.blocks),w'.heap[b]? = w.heap[b]? := hok'.drop.ok (ghost ((ms++fr).flatMap fun A:Asrt=>A.blocks) w) (List.mem_singleton_self _)
 have hle2:PH.le H H':=PH.le_trans (N8 hok) hle
 have hnd:(row a cap T sz g l).blocks++(ms++fr).flatMap (·.blocks) |>.Nodup:=by
  have:=hok'.nodup
  simpa [ghost] using this
 obtain ⟨r1,r2,r3⟩:=hok'.ok (row a cap T sz g l) (by simp)
 let H2:PH:=fun b o=>if b∈(row a cap T sz g l).blocks then H' b o else H b o
 have hH2:PH.le H H2:=by
  intro b o u hu
  show (if b∈(row a cap T sz g l).blocks then H' b o else H b o)=some u
  split
  ·exact hle2 b o u hu
  ·exact hu
 have hH2':∀ b o u,H2 b o=some u->H' b o=some u:=by
  intro b o u hu
  have hu:(if b∈(row a cap T sz g l).blocks then H' b o else H b o)=some u:=hu
  split at hu
  ·exact hu
  ·exact hle2 b o u hu
 refine ⟨_,_,_,H2,rfl,⟨a,cap,rfl,rfl⟩,hH2,⟨fun b o u h=>hok'.sub b o u (hH2' b o u h),?_,?_,?_⟩,conc_v.2 (conc_v.1 hc),hs⟩
 ·simpa using hnd
 ·intro A hA b hb
  rcases List.mem_cons.1 hA with rfl | hA
  ·exact hok'.lt _ (by simp) b hb
  ·exact Nat.lt_of_lt_of_le (hok.lt A hA b hb) hs.size
 ·intro A hA
  rcases List.mem_cons.1 hA with rfl | hA
  ·refine ⟨r1,r2,?_⟩
   rcases r3 with r3 | ⟨b,ws,us,ha,hb,hl,hE,ht,hp,hn⟩
   ·exact .inl r3
   ·have hin:b∈(row a cap T sz g l).blocks:=by subst ha;simp [row]
    have h2:∀ o,H2 b o=H' b o:=fun o=>if_pos hin
    refine .inr ⟨b,ws,us,ha,hb,hl,⟨hE.1,fun i x hx=>?_⟩,ht,fun k u hk=>by rw [h2];exact hp k u hk,fun o ho=>by rw [h2];exact hn o ho⟩;obtain ⟨zs,e1,e2,e3⟩:=hE.2 i x hx;exact ⟨zs,hg x _ _ _ e1,e2,e3⟩
  ·refine A.stable H H2 _ _ (fun b hb=>⟨fun o=>?_,hgh b (List.mem_flatMap.2 ⟨A,hA,hb⟩)⟩) hH2 (hok.ok A hA)
   have:b∉(row a cap T sz g l).blocks:=fun hin=>(List.nodup_append.1 hnd).2.2 b hin b (List.mem_flatMap.2 ⟨A,hA,hb⟩) rfl
   exact if_neg this
end
section
variable {P:Program} {L:Env} {ms:List Asrt} {dst:Option Nat} {ty:TypeId} {pos:String} {after:Array Edge} {g:Option (Nat×Bool)} {d:D}
theorem Iy {f:FuncId} {args:List Operand} {ats:Array TypeId} {ds ds':List D} (hc:∀ args w,(callFunc f args).run P w = .ok (.enter f args) w) (hev:evL L args=some ds) (hf:Fn0 P f ds' d) (he:SeesL ms ds ds') (hd:Still d) :
  OpP P ⟨dst,.call ⟨.value (.func f),args.toArray,ats⟩,ty,pos,after,g⟩ L ms d:=by
 have:=DO (P:=P) (L:=L) (ms:=ms) (dst:=dst) (ty:=ty) (pos:=pos) (after:=after) (g:=g) (ats:=ats) (ms₁:=ms) (rest:=[]) hc hev (by simp) (Fn.lend hf he hd)
 intro ro H fr a w hok henv next Q hn
 refine this ro H fr a w hok henv next Q ?_;rintro v d' ms' w' H' ⟨ms₁',⟨rfl,rfl⟩,rfl⟩ hle hok' hc' hs;exact hn v d' _ w' H' ⟨rfl,by simp⟩ hle hok' hc' hs
theorem MN {f:FuncId} {args:List Operand} {ats:Array TypeId} {ds ds':List D} {T:TypeId} {sz:Nat} {α:Type} {h:α->D} {l:List α} (hc:∀ args w,(callFunc f args).run P w = .ok (.enter f args) w) (hev:evL L args=some ds)
  (hf:Fn P f ds' [] (fun d ms'=>∃ a cap,d = .v (.slice a l.length cap)/\ms'=[row a cap T sz h l])) (he:SeesL ms ds ds') (hg:∀ x H H' ws,Enc H (h x) ws->Enc H' (h x) ws) :
  OpT P ⟨dst,.call ⟨.value (.func f),args.toArray,ats⟩,ty,pos,after,g⟩ L ms (fun d ms'=>∃ a cap,d = .v (.slice a l.length cap)/\ms'=row a cap T sz h l::ms):=by
 have:=DO (P:=P) (L:=L) (ms:=ms) (dst:=dst) (ty:=ty) (pos:=pos) (after:=after) (g:=g) (ats:=ats) (ms₁:=ms) (rest:=[]) hc hev (by simp) (Fn.lend_row hf he hg)
 intro ro H fr a w hok henv next Q hn
 refine this ro H fr a w hok henv next Q ?_;rintro v d' ms' w' H' ⟨ms₁',⟨a',cap,rfl,rfl⟩,rfl⟩ hle hok' hc' hs;exact hn v _ _ w' H' ⟨a',cap,rfl,by simp⟩ hle hok' hc' hs
theorem GA {x:Operand} {a:Option Addr} {m cap n j:Nat} {T:TypeId} {sz:Nat} {α:Type} {f:α->D} {l:List α} {z:α} (k:Nat) (hx:Env.ev L x=some (.v (.pointer (apt a n)))) (hk:ms[k]? = some (arr a m cap T sz f l)) (hz:l[j]? = some z) :
  OpP P ⟨dst,.nilCheck x,ty,pos,after,g⟩ L ms (.v (.pointer (apt a n))):=
 .pure (by simp) fun H fr w0 w hok henv=>by
  have hk':(ms++fr)[k]? = some (arr a m cap T sz f l):=by
   rw [List.getElem?_append_left (List.getElem?_eq_some_iff.1 hk).1];exact hk
  obtain ⟨b,vs,us,ws,ha,_⟩:=Gv hok hk' hz;refine ⟨.pointer (apt a n),?_,conc_v.2 rfl⟩;subst ha
  simp [execOp,BF henv hx,apt,Sem.run]
theorem WC {n:Int} (h:0<=n/\n<9223372036854775808):IntKind.u64.wrap n=n:=IntWalk.u64_in n ⟨h.1,by have:=h.2;omega⟩
theorem WU {x y:Operand} {t t':TypeId} {m:Int} (hx:Env.ev L x=some (.v (.int .u64 m))) (hy:Env.ev L y=some (.v (.int .u64 1))) :
  OpP P ⟨dst,.binOp .shr t x y t',ty,pos,after,g⟩ L ms (.v (.int .u64 (m / 2))):=
 .pure (by simp) fun H fr a w _ henv=>⟨.int .u64 (m / 2),by simp [execOp,BF henv hx,BF henv hy,eqGuard,binOp,Op.shift,Sem.run,IntKind.bits,Int.fdiv_eq_ediv_of_nonneg],conc_v.2 rfl⟩
theorem NG (x:Int) (H H':PH) (ws:List Value) (h:Enc H (D.i64 x) ws):Enc H' (D.i64 x) ws:=by simpa [Enc] using h
end
end Go.V
