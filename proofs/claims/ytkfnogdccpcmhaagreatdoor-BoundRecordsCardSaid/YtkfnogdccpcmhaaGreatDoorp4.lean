/- Part 4 of the proof: a program logic, what the functions compute, and what these answer; no condition. -/
import Derived.Test.YtkfnogdccpcmhaaGreatDoorp3
import Derived.Shelf.SlicesE.DeleteFunc
import Derived.Below
import Derived.Lib.ItoaNum
import Derived.Lib.Join
set_option linter.unusedVariables false
set_option linter.unusedSimpArgs false
namespace Go.V
theorem HeapOk.below {H:PH} {ls:List Asrt} {w w':World} (h:HeapOk H ls w) (hb:Go.RowKit.Below w.heap.size w w'):HeapOk H ls w':=by
 refine ⟨fun b o v hv=>?_,h.nodup,fun A hA b hbA=>Nat.lt_of_lt_of_le (h.lt A hA b hbA) hb.size,fun A hA=>?_⟩
 ·have h1:=h.sub b o v hv
  have hlt:b<w.heap.size:=by
   rcases Nat.lt_or_ge b w.heap.size with h2 | h2
   ·exact h2
   ·simp [World.cell?,Array.getElem?_eq_none h2] at h1
  rw [<- h1];exact World.cell?_of_block (w:=w) (hb.block b hlt)
 ·exact A.stable H H _ _ (fun b hbA=>⟨fun _=>rfl,hb.block b (h.lt A hA b hbA)⟩) (PH.le_refl H) (h.ok A hA)
theorem Ke {P:Program} {f:FuncId} {ds:List D} {x:Value} (h:∀ H (w:World) vs,(∀ b o v,H b o=some v->w.cell? ⟨b,o,none⟩=some v)->ConcL H ds vs->Calls P f vs.toArray w (fun e w'=>e = .returned x/\Go.RowKit.Below w.heap.size w w')):Fn0 P f ds (.v x):=by
 intro H fr w vs hok hargs
 refine (h H w vs hok.sub hargs).mono ?_;rintro e w' ⟨rfl,hb⟩;exact ⟨x,_,[],H,rfl,rfl,PH.le_refl H,hok.below hb,conc_v.2 rfl,⟨hb.os,hb.output,hb.tape,hb.size⟩⟩
theorem SJ {P:Program} {f:FuncId} (hS:∀ (i:Nat),i<100->∀ (w:World),Calls P f #[.int .i64 i] w fun e w'=>e = .returned (.string ⟨(Lib.decDigits i).toArray⟩)/\w'=w) {n:Int} (h:0<=n/\n<100) :
  Fn0 P f [.i64 n] (.str (Lib.decDigits n.toNat)):=by
 refine Ke fun H w vs hsub hargs=>?_;simp only [ConcL] at hargs;obtain ⟨u,r,rfl,hu,rfl⟩:=hargs
 have hu':=conc_v.1 (show Conc H (.i64 n) u from hu)
 subst hu'
 have e:(n.toNat:Int)=n:=Int.toNat_of_nonneg h.1
 have:=hS n.toNat (by omega) w
 rw [e] at this;refine this.mono ?_;rintro e w' ⟨rfl,rfl⟩;exact ⟨rfl,Go.RowKit.Below.refl _ _⟩
theorem S3 {P:Program} {f:FuncId} (hS:∀ (bk o c:Nat) (xs:List ByteArray) (sep:ByteArray) (w:World),(∀ (j:Nat) x,xs[j]? = some x->w.cell? ⟨bk,o+j,none⟩=some (.string x))->bk<w.heap.size->xs.length<=140737488355328->xs.length<=c ->
      (Lib.join (xs.map (·.data.toList)) sep.data.toList).length<=140737488355328 ->
      Calls P f #[.slice (some ⟨bk,o,none⟩) xs.length c,.string sep] w fun e w'=>e = .returned (.string ⟨(Lib.join (xs.map (·.data.toList)) sep.data.toList).toArray⟩)/\Go.RowKit.Below w.heap.size w w')
    (h0:∀ (a:Option Addr) (c:Nat) (sep:ByteArray) (w:World),Calls P f #[.slice a 0 c,.string sep] w fun e w'=>e = .returned (.string ⟨#[]⟩)/\w'=w)
    {l:List (List UInt8)} {s:List UInt8} (hl:l.length<=140737488355328) (hj:(Lib.join l s).length<=140737488355328) :
    Fn0 P f [.list 1 D.str l,.str s] (.str (Lib.join l s)):=by
  refine Ke fun H w vs hsub hargs=>?_
  simp only [ConcL] at hargs
  obtain ⟨u,r,rfl,hu,u2,r2,rfl,hu2,rfl⟩:=hargs
  obtain ⟨a,cap,rfl,h1,h2,h3⟩:=Eq (show Conc H (.list 1 D.str l) u from hu)
  have hu2':=conc_v.1 (show Conc H (.str s) u2 from hu2)
  subst hu2'
  rcases h3 with rfl | ⟨b,off,rfl,hx⟩
  · refine (h0 a cap _ w).mono ?_
    rintro e w' ⟨rfl,rfl⟩
    exact ⟨rfl,Go.RowKit.Below.refl _ _⟩
  · by_cases hne:l=[]
    · subst hne
      refine (h0 _ cap _ w).mono ?_
      rintro e w' ⟨rfl,rfl⟩
      exact ⟨rfl,Go.RowKit.Below.refl _ _⟩
    have hcell:∀ (j:Nat) x,(l.map fun s=>(⟨s.toArray⟩:ByteArray))[j]? = some x->w.cell? ⟨b,off+j,none⟩=some (.string x):=by
      intro j x hj
      rw [List.getElem?_map] at hj
      cases hq:l[j]? with
      | none=>rw [hq] at hj;cases hj
      | some y =>
        rw [hq] at hj
        simp only [Option.map_some,Option.some.injEq] at hj
        subst hj
        obtain ⟨us,e1,e2,e3⟩:=hx j y hq
        simp only [D.str,Enc] at e1
        subst e1
        have:=hsub _ _ _ (e3 0 _ rfl)
        rwa [Nat.mul_one,Nat.add_zero] at this
    have hb:b<w.heap.size:=by
      obtain ⟨y,hy⟩:∃ y,l[0]? = some y:=by
        cases l with
        | nil=>exact absurd rfl hne
        | cons y l=>exact ⟨y,rfl⟩
      have h1:=hcell 0 ⟨y.toArray⟩ (by rw [List.getElem?_map,hy];rfl)
      rcases Nat.lt_or_ge b w.heap.size with h2 | h2
      · exact h2
      · simp [World.cell?,Array.getElem?_eq_none h2] at h1
    have e1:((l.map fun s=>(⟨s.toArray⟩:ByteArray)).map (·.data.toList))=l:=by
      rw [List.map_map]
      exact (List.map_congr_left (fun x _=>by simp)).trans (List.map_id l)
    have:=hS b off cap (l.map fun s=>(⟨s.toArray⟩:ByteArray)) ⟨s.toArray⟩ w hcell hb (by simpa using hl) (by simpa using h1) (by rw [e1];exact hj)
    rw [e1,List.length_map] at this
    exact this
def boxf (b:Nat) (t:TypeId) (k:Nat) (cs:List D):Asrt where
 blocks:=[b]
 ok:=fun H h=>∃ vs,h b=some (.cells vs.toArray t (0,0))/\EncL H cs vs/\(∀ q u,q<k->vs[q]? = some u->H b q=some u)/\∀ o,k<=o->H b o=none
 stable:=fun H H' h h' e hle ⟨vs,h1,h2,h3,h4⟩=>by
  have:=e b (by simp)
  exact ⟨vs,by rw [this.2];exact h1,EncL.mono hle cs vs h2,fun q u hq hu=>hle _ _ _ (h3 q u hq hu),fun o ho=>by rw [this.1];exact h4 o ho⟩
section
variable {Γ:Ctx} {P:Program} {L:Env} {ms:List Asrt} {K:KT} {dst:Option Nat} {ty:TypeId} {pos:String} {after:Array Edge} {g:Option (Nat×Bool)} {d d':D} {x y:Operand} {t t':TypeId}
theorem Nd {b:Nat} {T:TypeId} {cs:List D} (k n:Nat) (hk:ms[k]? = some (box b T cs)) {ms':List Asrt} (hms:ms.set k (boxf b T n cs)=ms'):Refines L ms L ms':=by
 subst hms
 intro Γ act w mm
 obtain ⟨H,marks,hle,hok,henv,hdf⟩:=mm.ex
 have hok1:=hok.perm (BW hk)
 obtain ⟨vs,hb,he,hn⟩:=hok1.ok _ (List.mem_cons_self ..)
 let H':PH:=fun b' o=>if b'=b/\o<n then vs[o]? else H b' o
 have hle':PH.le H H':=by
  intro b' o v hv
  show (if b'=b/\o<n then vs[o]? else H b' o)=some v
  by_cases hb':b'=b
  ·subst hb';rw [hn] at hv;cases hv
  ·rw [if_neg (fun e=>hb' e.1)];exact hv
 have hlt:b<w.heap.size:=hok1.lt _ (List.mem_cons_self ..) b (by simp [box])
 have hup:HeapOk H' (boxf b T n cs::(ms.eraseIdx k++(marks.map markA++Γ.fr))) w:=by
  refine hok1.upd (A':=boxf b T n cs) rfl (Nat.le_refl _) (fun _ _ _=>rfl) (fun b' o _ hb'=>?_) hle' (fun b' o v hb' hv=>?_) ⟨vs,hb,EncL.mono hle' cs vs he,fun q u hq hu=>?_,fun o ho=>?_⟩
  ·exact if_neg (fun e=>hb' (by simp [box,e.1]))
  ·have hv:(if b'=b/\o<n then vs[o]? else H b' o)=some v:=hv
   by_cases hbb:b'=b/\o<n
   ·rw [if_pos hbb] at hv
    have hb3:w.heap[b']? = some (.cells vs.toArray T (0,0)):=by rw [hbb.1];exact hb
    simp [World.cell?,hb3,hv]
   ·rw [if_neg hbb] at hv;exact hok1.sub b' o v hv
  ·show (if b=b/\q<n then vs[q]? else H b q)=some u
   rw [if_pos ⟨rfl,hq⟩];exact hu
  ·show (if b=b/\o<n then vs[o]? else H b o)=none
   rw [if_neg (by omega)];exact hn o
 exact ⟨⟨H',marks,PH.le_trans hle hle',HeapOk.perm (A4 hk) hup,henv.mono hle',hdf⟩,mm.size,mm.same⟩
theorem peekF {i b n:Nat} {T:TypeId} {cs:List D} (k:Nat) (hf:Env.find L i=some (.v (.pointer (some ⟨b,0,none⟩)))) (hk:ms[k]? = some (boxf b T n cs)) (hfl:flat cs=true) (hd:d = .agg (cs.take n)):RefE ms L ((i,.ref d)::L):=by
 subst hd
 intro t d' ht
 simp only [Env.find] at ht
 cases hb:Nat.beq i t with
 | true =>
  rw [hb] at ht
  have:=Nat.eq_of_beq_eq_true hb
  subst this;simp only [Option.some.injEq] at ht;subst ht;refine ⟨_,hf,(fun b e=>(by cases e)),fun H fr w u hok c=>?_⟩;rw [conc_v.1 c];obtain ⟨vs,h1,h2,h3,h4⟩:=hok.ok _ (List.mem_append_left _ (List.mem_of_getElem? hk));rw [AT (by rfl)];simp only [Enc];refine ⟨b,0,vs.take n,rfl,GK _ _ hfl h2 n,fun q v hq=>?_⟩;rw [List.getElem?_take] at hq
  split at hq
  ·rename_i hlt;rw [Nat.zero_add];exact h3 q v hlt hq
  ·cases hq
 | false=>rw [hb] at ht;exact ⟨d',ht,fun _ _=>rfl,fun _ _ _ _ _ c=>c⟩
theorem Dg {b off n:Nat} {T:TypeId} {cs:List D} (k:Nat) (ha:∀ w,(isAgg t).run P w = .ok false w) (hx:Env.ev L x=some (.v (.pointer (some ⟨b,off,none⟩)))) (hk:ms[k]? = some (boxf b T n cs)) (hf:flat cs=true) (hd:cs[off]? = some d) :
  OpP P ⟨dst,.load t x,ty,pos,after,g⟩ L ms d:=by
 refine .pure (by simp) fun H fr a w hok henv=>?_;obtain ⟨vs,h1,h2,_⟩:=hok.ok _ (List.mem_append_left fr (List.mem_of_getElem? hk))
 have h1:w.heap[b]? = some (.cells vs.toArray T (0,0)):=h1
 obtain ⟨h3,h4⟩:=EncL.get cs vs h2 hf;obtain ⟨u,h5,h6⟩:=h4 off d hd
 have hc:w.cell? ⟨b,off,none⟩=some u:=by simp [World.cell?,h1,h5]
 exact ⟨u,by simp [execOp,Instr.loadAt,Instr.sureAddr,Be henv hx,loadVar,ha,load,Sem.run,hc],(AT (H7 cs off d hf hd)).2 h6⟩
theorem JD {b off sz n:Nat} {T:TypeId} {cs:List D} (k:Nat) (hn:n<=off) (hs:∀ w,(sizeOf t).run P w = .ok sz w) (hx:Env.ev L x=some (.v (.pointer (some ⟨b,off,none⟩)))) (hk:ms[k]? = some (boxf b T n cs)) (hf:flat cs=true)
  (hy:Env.ev L y=some d) (hd:flat d.cs=true) (hst:d.storable=true) (hst2:Cz d.cs=true) (hsz:d.cs.length=sz) (hl:off+sz<=cs.length) :
  OpT P ⟨dst,.store t x y,ty,pos,after,g⟩ L ms (fun _ ms'=>ms'=ms.set k (boxf b T n (putCs off d.cs cs))):=by
 refine .skip (by simp) fun H fr a w hok henv=>?_
 have hok1:=hok.perm (BW hk)
 obtain ⟨vs,h1,h2,h3,h3'⟩:=hok1.ok _ (List.mem_cons_self ..)
 have h1:w.heap[b]? = some (.cells vs.toArray T (0,0)):=h1
 obtain ⟨h4,h5⟩:=EncL.get cs vs h2 hf
 have hv:=JH (henv.ev hy) hst
 have hvl:=(EncL.get _ _ hv hd).1
 have hone:=EM _ _ hd hst2 hv
 have hrun:=run_storeCells_at (P:=P) b off T (a.eval y).cells.toList 0 vs.toArray w h1 (by simp only [List.size_toArray];omega) hone
 refine ⟨_,w.setRow b (vs.take off++((a.eval y).cells.toList++vs.drop (off+(a.eval y).cells.toList.length))).toArray,H,?_,rfl,PH.le_refl H,?_,⟨rfl,rfl,rfl,by simp [World.setRow]⟩⟩
 ·have hcs:(a.eval y).cells.size=sz:=by rw [<- Array.length_toList,hvl,hsz]
  have e2:(vs.take (off+0)++(a.eval y).cells.toList++vs.drop (off+0+(a.eval y).cells.toList.length))=vs.take off++((a.eval y).cells.toList++vs.drop (off+(a.eval y).cells.toList.length)):=by simp
  simp only [] at hrun;rw [e2] at hrun;simp only [execOp,Instr.storeAt,Instr.sureAddr,Be henv hx,storeVar,Sem.run_bind,Sem.run_pure,Result.andThen_ok,hs,hcs,ne_eq,not_true_eq_false,if_false,hrun]
 ·refine HeapOk.perm (A4 hk) ?_
  have hlt:b<w.heap.size:=hok1.lt _ (List.mem_cons_self ..) b (by simp [boxf])
  have hnew:∀ (us:List Value),(w.setRow b us.toArray).heap[b]? = some (.cells us.toArray T (0,0)):=fun us=>by
   simp [World.setRow,Array.getElem?_modify,h1]
  have hpre:∀ q,q<n->(vs.take off++((a.eval y).cells.toList++vs.drop (off+(a.eval y).cells.toList.length)))[q]? = vs[q]? := fun q hq=>by
   rw [List.getElem?_append_left (by rw [List.length_take];omega),List.getElem?_take_of_lt (by omega)]
  refine hok1.upd (A':=boxf b T n (putCs off d.cs cs)) rfl (by simp [World.setRow]) ?_ (fun _ _ _ _=>rfl) (PH.le_refl H) ?_ ⟨_,hnew _,?_,fun q u hq hu=>?_,h3'⟩
  ·intro b' _ hn'
   have:b≠b':=fun e=>hn' (by simp [boxf,e])
   simp [World.setRow,Array.getElem?_modify,this]
  ·intro b' o v hb hv'
   rcases hb with hb | hb
   ·simp only [boxf,List.mem_singleton] at hb
    subst hb
    by_cases ho:o<n
    ·have hc:=hok1.sub b' o v hv'
     simp only [World.cell?,h1] at hc;simp only [World.cell?,hnew,List.getElem?_toArray,hpre o ho]
     simpa using hc
    ·rw [h3' o (by omega)] at hv';cases hv'
   ·rw [hok1.none_new _ _ hb] at hv';cases hv'
  ·unfold putCs
   rw [hvl];exact CD _ _ _ _ (GK _ _ hf h2 _) (CD _ _ _ _ hv (IG _ _ hf h2 _))
  ·rw [hpre q hq] at hu;exact h3 q u hq hu
theorem FA {α β:Type} [DecidableEq α] {kt et:TypeId} {fk:α->Value} {fv:β->D} {b r:Nat} {l rest:List (α×β)} {last:Option (α×β)} {key:α} {z0:β} {zv:Value} (k:Nat) (hu:∀ w,(underlying t).run P w = .ok (.map kt et) w) (hk:KeyOk P kt fk) (hz:∀ w,(zeroValue et).run P w = .ok zv w) (hzc:∀ H,Conc H (fv z0) zv)
  (hx:Env.ev L x=some (.v (.map (some b)))) (hm:ms[k]? = some (mpi b r fk fv l rest last)) (hy:Env.ev L y=some (.v (fk key))):OpP P ⟨dst,.lookup t x y false,ty,pos,after,g⟩ L ms (fv ((mget l key).getD z0)):=by
 refine .pure (by simp) fun H fr a w hok henv=>?_;obtain ⟨⟨es,clock,since,seen,c0,h1,h2,_⟩,_⟩:=hok.ok _ (List.mem_of_getElem? (getElem?_app (r:=fr) hm))
 have hf:=HJ (w:=w) hk key h2
 have h1':w.heap[b]? = some (.map es clock):=h1
 cases hg:mget l key with
 | none =>
  rw [hg] at hf
  simp only at hf
  refine ⟨zv,?_,hzc H⟩
  simp [execOp,Instr.lookup,Be henv hx,Be henv hy,hu,getObj,h1',Sem.run_bind,hk.ck,hf.1,hz,Sem.run]
 | some b' =>
  rw [hg] at hf
  simp only at hf
  obtain ⟨j,e,q1,_,_,q4,_⟩:=hf;refine ⟨e.val,?_,q4⟩
  simp [execOp,Instr.lookup,Be henv hx,Be henv hy,hu,getObj,h1',Sem.run_bind,hk.ck,q1,hz,Sem.run]
end
end Go.V
namespace Go.V
open Go.Sort Go.Proofs
theorem PA {P:Program} {f:FuncId} {T:TypeId} (hS:∀ (blk off cap i j:Nat) (zs:List Int) (w:World),Holds (Value.int .i64) w blk off zs.toArray->zs.length<=cap->cap<=9223372036854775807->i<=j->j<=zs.length ->
      Calls P f #[.slice (some ⟨blk,off,none⟩) zs.length cap,.int .i64 i,.int .i64 j] w fun e w'=>e = .returned (.slice (some ⟨blk,off,none⟩) (zs.length - (j - i)) cap)/\∃ q,w'=putRow (Value.int .i64) (Sort.ahead w q) blk off (zs.take i++zs.drop j++List.replicate (j - i) 0).toArray)
    {a:Option Addr} {m cap:Nat} {l:List Int} {i j:Int} (h0:0<=i) (hij:i<=j) (hj:j<=l.length) (hne:l≠[]) :
    Fn P f [.v (.slice a m cap),.i64 i,.i64 j] [arr a m cap T 1 D.i64 l] (fun d ms'=>∃ m',d = .v (.slice a m' cap)/\ms'=[arr a m' cap T 1 D.i64 (l.take i.toNat++l.drop j.toNat)]):=by
  intro H fr w vs hok hargs
  simp only [ConcL] at hargs
  obtain ⟨u,r,rfl,hu,u2,r2,rfl,hu2,u3,r3,rfl,hu3,rfl⟩:=hargs
  have hu':=conc_v.1 (show Conc H (.v (.slice a m cap)) u from hu)
  subst hu'
  have hu2':=conc_v.1 (show Conc H (.i64 i) u2 from hu2)
  subst hu2'
  have hu3':=conc_v.1 (show Conc H (.i64 j) u3 from hu3)
  subst hu3'
  obtain ⟨r0,r1,r2,r3⟩:=hok.ok _ (List.mem_cons_self ..)
  subst r0
  rcases r3 with ⟨_,h,_⟩ | ⟨b,ws,us,rfl,hb,hwl,he,htk,hn⟩
  · exact absurd h hne
  · have hus:=KH he
    have hH:Holds (Value.int .i64) w b 0 l.toArray:=holds_of_blockI (cur:=ws.toArray) hb (by rw [<- hus,<- htk,Nat.mul_one])
    have ei:(i.toNat:Int)=i:=Int.toNat_of_nonneg h0
    have ej:(j.toNat:Int)=j:=Int.toNat_of_nonneg (by omega)
    have:=hS b 0 cap i.toNat j.toNat l w hH r1 (by simp only [maxLen] at r2;omega) (by omega) (by omega)
    rw [ei,ej] at this
    refine this.mono ?_
    rintro e w' ⟨rfl,n,rfl⟩
    have hlen:(l.take i.toNat++l.drop j.toNat).length=l.length - (j.toNat - i.toNat):=by
      rw [List.length_append,List.length_take,List.length_drop];omega
    have hp:=KO (n:=n) (os := #[]) (r:=l.take i.toNat++l.drop j.toNat) (d:=(l.take i.toNat++l.drop j.toNat++List.replicate (j.toNat - i.toNat) 0).toArray) hok hb hwl (by simp;omega) (show List.take _ (_++_)=_ from List.take_left) (by omega)
    rw [grow_empty,hlen] at hp
    exact ⟨_,_,_,H,rfl,⟨_,rfl,rfl⟩,PH.le_refl H,hp.1,conc_v.2 rfl,hp.2⟩
def encF (n:Nat) (x:Fin n):Value := .int .i64 (x.val:Int)
theorem Lg {n:Nat} [Inhabited (Fin n)] (w:World) (b:Nat) (d:Array (Fin n)):putRow (encF n) w b 0 d=putRow (Value.int .i64) w b 0 (d.map fun x=>(x.val:Int)):=by
 unfold putRow
 congr 1
 funext c
 unfold putCells
 congr 1
 funext k x
 simp only [Array.size_map]
 split
 ·rename_i h
  have hk:k - 0<d.size:=by omega
  rw [getElem!_pos d (k - 0) hk,getElem!_pos (d.map fun x=>(x.val:Int)) (k - 0) (by simpa using hk)]
  simp [encF]
 ·rfl
theorem fins {n:Nat}:∀ l:List Int,(∀ x∈l,0<=x/\x<n)->∃ d:List (Fin n),d.map (fun x=>(x.val:Int))=l
 | [],_=>⟨[],rfl⟩
 | x::l,hl=>by
  obtain ⟨d,hd⟩:=fins l (fun y hy=>hl y (by simp [hy]))
  have hx:=hl x (by simp)
  exact ⟨⟨x.toNat,by omega⟩::d,by simp [hd,Int.toNat_of_nonneg hx.1]⟩
theorem Mc {P:Program} {f g:Nat} {T:TypeId} {n:Nat} [Inhabited (Fin n)] {caps:List D} {q:Int->Bool}
  (hS:∀ (lb:Array Value) (p:Fin n->Bool) (blk off cap:Nat) (d:Array (Fin n)) (w:World),PredAt P g lb (encF n) p w->PredOver P g lb (encF n) p blk off d.size w->Holds (encF n) w blk off d->d.size<=9223372036854775807->d.size<=cap ->
   Calls P f #[.slice (some ⟨blk,off,none⟩) d.size cap,.func (.func g) #[] lb] w fun e w'=>e = .returned (.slice (some ⟨blk,off,none⟩) (d.toList.filter fun x => !p x).length cap)/\∃ k,w'=putRow (encF n) (Sort.ahead w k) blk off ((d.toList.filter fun x => !p x)++List.replicate (d.size - (d.toList.filter fun x => !p x).length) default).toArray)
  (h0:∀ (a:Option Addr) (cap:Nat) (fv:Value) (w:World),Calls P f #[.slice a 0 cap,fv] w fun e w'=>e = .returned (.slice a 0 cap)/\w'=w)
  (hc:∀ (x:Fin n) (H:PH) (lb:List Value) (W:World),(∀ b o v,H b o=some v->W.cell? ⟨b,o,none⟩=some v)->ConcL H caps lb->FnGives P g lb.toArray #[encF n x] (.bool (q x.val)) W)
  {a:Option Addr} {m cap:Nat} {l:List Int} (hl:∀ x∈l,0<=x/\x<n) :
  Fn P f [.v (.slice a m cap),.clo (.func g) [] caps] [arr a m cap T 1 D.i64 l] (fun d ms'=>∃ m',d = .v (.slice a m' cap)/\ms'=[arr a m' cap T 1 D.i64 (l.filter fun x => !q x)]):=by
 intro H fr w vs hok hargs
 simp only [ConcL] at hargs;obtain ⟨u,r,rfl,hu,u2,r2,rfl,hu2,rfl⟩:=hargs
 have hu':=conc_v.1 (show Conc H (.v (.slice a m cap)) u from hu)
 subst hu'
 have hu2:=(AT (by rfl)).1 (show Conc H (.clo (.func g) [] caps) u2 from hu2)
 simp only [Enc,ConcL] at hu2;obtain ⟨us0,lb,hv,hus0,hlb⟩:=hu2;subst hus0
 have hv:u2 = .func (.func g) #[] lb.toArray:=by simpa using hv
 subst hv;obtain ⟨r0,r1,r2,r3⟩:=hok.ok (arr a m cap T 1 D.i64 l) (by simp);subst r0
 rcases r3 with ⟨rfl,rfl,rfl⟩ | ⟨b,ws,us,rfl,hb,hwl,he,htk,hn⟩
 ·refine (h0 none 0 _ w).mono ?_
  rintro e w' ⟨rfl,rfl⟩;exact ⟨_,_,_,H,rfl,⟨0,rfl,rfl⟩,PH.le_refl H,(show HeapOk H ([arr none 0 0 T 1 D.i64 []]++fr) w' from hok),conc_v.2 rfl,SameOut.refl w'⟩
 ·have hus:=KH he
  obtain ⟨d,hd⟩:=fins l hl
  have hlen:d.length=l.length:=by rw [<- hd];simp
  have hsub:∀ (W:World),(∀ k,k<w.heap.size->k≠b->W.heap[k]? = w.heap[k]?)->∀ b' o v,H b' o=some v->W.cell? ⟨b',o,none⟩=some v:=by
   intro W hW b' o v hv
   have hne:b'≠b:=fun e=>by subst e;rw [hn] at hv;cases hv
   have hc1:=hok.sub _ _ _ hv
   have hlt:b'<w.heap.size:=by
    rcases Nat.lt_or_ge b' w.heap.size with h2 | h2
    ·exact h2
    ·simp [World.cell?,Array.getElem?_eq_none h2] at hc1
   rw [<- hc1];exact World.cell?_of_block (w:=w) (hW b' hlt hne)
  have hH:Holds (encF n) w b 0 d.toArray:=by
   have h1:Holds (Value.int .i64) w b 0 l.toArray:=holds_of_blockI (cur:=ws.toArray) hb (by rw [<- hus,<- htk,Nat.mul_one])
   intro j hj
   have hj':j<l.toArray.size:=by simpa [<- hlen] using hj
   obtain ⟨h2,h3⟩:=h1 j hj';refine ⟨?_,h3⟩;rw [h2,getElem!_pos _ j hj',getElem!_pos _ j hj];simp only [List.getElem_toArray,encF]
   congr 2
   simp [<- hd]
  have hpa:PredAt P g lb.toArray (encF n) (fun x=>q x.val) w:=by
   intro W x hB
   exact hc x H lb W (hsub W fun k hk _=>hB.block k hk) hlb
  have hpo:PredOver P g lb.toArray (encF n) (fun x=>q x.val) b 0 d.toArray.size w:=by
   intro k os dk x hdk
   refine hc x H lb _ (hsub _ fun j hj hne=>?_) hlb
   have hg:w.grownBy (grow (putRow (Value.int .i64) (Sort.ahead w k) b 0 (dk.map fun x=>(x.val:Int))) os) (some b):=grownBy_sortedI _
   obtain ⟨g1,g2,g3,g4,g5⟩:=hg
   have:=g5 j hj (fun e=>hne (by simp at e;exact e))
   rw [<- Lg] at this;exact this
  have hsz:d.toArray.size=l.length:=by simp [hlen]
  have hcall:=hS lb.toArray (fun x=>q x.val) b 0 cap d.toArray w hpa hpo hH (by rw [hsz];simp only [maxLen] at r2;omega) (by rw [hsz];exact r1)
  rw [hsz] at hcall
  have hfl:(d.filter fun (x:Fin n) => !q x.val).map (fun x=>(x.val:Int))=l.filter fun x => !q x:=by
   rw [<- hd,List.filter_map];rfl
  have hfl2:(d.filter fun (x:Fin n) => !q x.val).length=(l.filter fun x => !q x).length:=by rw [<- hfl,List.length_map]
  refine hcall.mono ?_;rintro e w' ⟨rfl,k,rfl⟩
  have hle:=List.length_filter_le (fun x => !q x) l
  rw [Lg]
  have hp:=KO (n:=k) (os := #[]) (r:=l.filter fun x => !q x) (d:=(((d.filter fun (x:Fin n) => !q x.val)++List.replicate (l.length - (d.filter fun (x:Fin n) => !q x.val).length) (default:Fin n)).toArray).map fun (x:Fin n)=>(x.val:Int)) hok hb hwl (by
    rw [Array.size_map,List.size_toArray,List.length_append,List.length_replicate,hfl2];omega) (by
    have e1:((((d.filter fun (x:Fin n) => !q x.val)++List.replicate (l.length - (d.filter fun (x:Fin n) => !q x.val).length) (default:Fin n)).toArray).map fun (x:Fin n)=>(x.val:Int)).toList=(l.filter fun x => !q x)++(List.replicate (l.length - (d.filter fun (x:Fin n) => !q x.val).length) (default:Fin n)).map fun (x:Fin n)=>(x.val:Int):=by
     rw [<- hfl];simp
    rw [e1];exact List.take_left) hle
  rw [grow_empty] at hp;refine ⟨_,_,_,H,rfl,⟨(l.filter fun x => !q x).length,?_,rfl⟩,PH.le_refl H,hp.1,conc_v.2 rfl,hp.2⟩;simp only [hfl2]
theorem DW (ms:List Asrt):ms.Perm (ms++[]):=by simp
end Go.V
namespace Go.V
section
variable {Γ:Ctx} {P:Program} {L:Env} {ms:List Asrt} {K:KT} {l:List Oper}
def GDC2 (Γ:Ctx) (P:Program) (ops:List Oper) (K:KT) (cut:Nat) (FD:List Asrt->Prop) (L:Env):List Nat->Env->List Asrt->Prop
 | [],E,ms=>K .normal (E++L) ms
 | e::es,E,ms=>∀ o,ops[e]? = some o->dstOk o Γ.N/\GStep P ops o (E++L) ms (fun d ms'=>(cut<=es.length->FD ms')/\GDC2 Γ P ops K cut FD L es (extE o d E) ms') ((cut<=es.length->FD ms)/\GDC2 Γ P ops K cut FD L es (extE o (.v undef) E) ms)
theorem OW {ef free fd:List Nat} {cut:Nat} {FD:List Asrt->Prop} (hlt:∀ i,fd.contains i=true->∀ e,ef[ef.length - cut]? = some e->∀ S,Bc l S->S e=true->S i=true) (hcut:0<cut/\cut<=ef.length) (hf:FlowOk l l.length) (hch:ChainOk l ef free) (ds:List D) (hlen:ds.length=l.length)
    (hstep:∀ (i:Nat) o d,i∉ef->l[i]? = some o->ds[i]? = some d->dstOk o Γ.N/\Step P l o (envL (fun j=>decide (j<i) && !(ef.contains j)) l ds 0 L) (if free.contains i && !(fd.contains i) then [] else ms) d)
    (hfd:∀ msx,FD msx->∀ (i:Nat) o d,fd.contains i=true->l[i]? = some o->ds[i]? = some d->Step P l o (envL (fun j=>decide (j<i) && !(ef.contains j)) l ds 0 L) msx d) (hfd0:FD ms)
    (h2:GDC2 Γ P l K cut FD (envL (fun j => !(ef.contains j)) l ds 0 L) ef [] ms) :
    ∀ (fuel:Nat) (listed:Array Bool) (t:Nat) (a:Act) (w:World),listed.size=l.length->Bc l (fun j=>listed.getD j false)->(∀ i,l.length<=i->listed.getD i false=false) ->
      ((List.range l.length).filter (fun i => !listed.getD i false)).length<=fuel ->
      (∃ m E msx,m<=ef.length/\(∀ q e,ef[q]? = some e->(listed.getD e false=true↔q<m))/\GDC2 Γ P l K cut FD (envL (fun j => !(ef.contains j)) l ds 0 L) (ef.drop m) E msx/\(∀ t d,Env.find E t=some d->∃ e o,e∈ef/\listed.getD e false=true/\l[e]? = some o/\o.dst=some t)/\(m=0->msx=ms)/\(cut+m<=ef.length->FD msx) /\
        Models Γ (E++envL (fun j=>listed.getD j false && !(ef.contains j)) l ds 0 L) msx a w) ->
      wpOpsIn (FR Γ.round) 0 P l.toArray (Post Γ K) (Region.linearise.go .any l.toArray fuel t listed []) a w:=by
  refine Ie hf (Nat.le_refl _) (fun S a w=>∃ m E msx,m<=ef.length/\(∀ q e,ef[q]? = some e->(S e=true↔q<m))/\GDC2 Γ P l K cut FD (envL (fun j => !(ef.contains j)) l ds 0 L) (ef.drop m) E msx/\(∀ t d,Env.find E t=some d->∃ e o,e∈ef/\S e=true/\l[e]? = some o/\o.dst=some t)/\(m=0->msx=ms)/\(cut+m<=ef.length->FD msx) /\
        Models Γ (E++envL (fun j=>S j && !(ef.contains j)) l ds 0 L) msx a w) ?_ ?_
  rotate_left
  · rintro a w ⟨m,E,msx,hml,hm,h2,hE,_,_,mm⟩
    have hdr:ef.drop m=[]:=by
      rw [List.drop_eq_nil_iff]
      rcases Nat.lt_or_ge m ef.length with h | h
      · have:=(hm m ef[m] (by simp [h])).1 (by simp [hch.lt ef[m] (by simp)])
        omega
      · exact h
    rw [hdr] at h2
    simp only [GDC2] at h2
    have hee:envL (fun j=>decide (j<l.length) && !(ef.contains j)) l ds 0 L=envL (fun q => !(ef.contains q)) l ds 0 L:=by
      have:∀ (l':List Oper) (ds:List D) (k0:Nat) (L:Env),k0+l'.length<=l.length->envL (fun j=>decide (j<l.length) && !(ef.contains j)) l' ds k0 L=envL (fun q => !(ef.contains q)) l' ds k0 L:=by
        intro l'
        induction l' with
        | nil=>intro ds k0 L _;simp [envL]
        | cons o r ih =>
          intro ds k0 L hk
          cases ds with
          | nil=>simp [envL]
          | cons d ds =>
            simp only [List.length_cons] at hk
            have:decide (k0<l.length)=true:=by simp;omega
            simp only [envL,this,Bool.true_and]
            exact ih ds (k0+1) _ (by omega)
      exact this l ds 0 L (by omega)
    rw [hee] at mm
    rw [List.drop_length]
    exact ⟨_,_,h2,mm⟩
  · rintro S i o a w hc hik ho hunl hcs ⟨m,E,msx,hmle,hm,h2',hE,hm0,hFD,mm⟩ next hn
    obtain ⟨H,marks,hle,hok,henv,hdf⟩:=mm.ex
    by_cases hie:i∈ef
    ·
      obtain ⟨q,hq⟩:=List.getElem?_of_mem hie
      have hqm:q=m:=by
        have h3:¬ q<m:=fun h=>by have:=(hm q i hq).2 h;rw [hunl] at this;cases this
        rcases Nat.lt_or_ge m q with h | h
        · have hml:m<ef.length:=Nat.lt_trans h (List.getElem?_eq_some_iff.1 hq).1
          obtain ⟨h4,h5⟩:=hch.chain m q ef[m] i h (by simp [hml]) hq
          have h6:=h5 _ hcs (by simp)
          have hne:¬ ef[m]=i:=by omega
          simp only [hne,decide_false,Bool.or_false] at h6
          have:=(hm m ef[m] (by simp [hml])).1 h6
          omega
        · omega
      subst hqm
      have hdrop:ef.drop q=i::ef.drop (q+1):=by
        obtain ⟨hlt,he⟩:=List.getElem?_eq_some_iff.1 hq
        rw [<- he];exact (List.getElem_cons_drop ..).symm
      rw [hdrop] at h2'
      simp only [GDC2] at h2'
      obtain ⟨hdk,hgs⟩:=h2' o ho
      obtain ⟨o2,ho2,hdst,hlate⟩:=hch.op i hie
      obtain rfl:o2=o:=by rw [ho] at ho2;exact (Option.some.inj ho2).symm
      have hag:∀ s d',s∈Ah l o2->Env.find (E++envL (fun j => !(ef.contains j)) l ds 0 L) s=some d'->Env.find (E++envL (fun j=>S j && !(ef.contains j)) l ds 0 L) s=some d':=by
        intro s d' h3 h4
        rw [Az] at h4 ⊢
        cases hq2:Env.find E s with
        | some d2=>rw [hq2] at h4;exact h4
        | none =>
          rw [hq2] at h4
          simp only at h4 ⊢
          rw [<- h4]
          refine AW l ds 0 L L (fun j o' hj hd'=>?_) rfl
          simp only [Nat.zero_add]
          cases hfj:ef.contains j with
          | true=>simp
          | false =>
            simp only [Bool.not_false,Bool.and_true]
            have hjf:j∉ef:=fun h=>by rw [List.contains_iff_mem.2 h] at hfj;cases hfj
            have hji:j≠i:=fun e=>hjf (e▸hie)
            have hn':=hf.names i o2 j o' s ho hj (fun e=>hji e.symm) hd' (.inl h3)
            rcases Nat.lt_or_gt_of_ne hji with hlt | hgt
            · have h5:=(hn' _ hcs).1 hlt (by simp)
              simpa [hji] using h5
            · exact absurd h3 (hlate j o' s hgt hjf hj hd')
      have hsub:EnvOk H (Env.only (Ah l o2) (E++envL (fun j => !(ef.contains j)) l ds 0 L)) a.tmps:=by
        intro s d' hfnd
        obtain ⟨h3,h4⟩:=DY hfnd
        exact henv s d' (hag s d' h3 h4)
      have fin:∀ v d ms' w' H',(cut+(q+1)<=ef.length->FD ms')->GDC2 Γ P l K cut FD (envL (fun j => !(ef.contains j)) l ds 0 L) (ef.drop (q+1)) (extE o2 d E) ms'->PH.le H H'->HeapOk H' (ms'++(marks.map markA++Γ.fr)) w'->Conc H' d v->SameOut w w'->next (a.put o2.dst v) w':=by
        intro v d ms' w' H' hFD' hr2 hl hok' hcv hso
        refine hn _ _ ⟨q+1,extE o2 d E,ms',(List.getElem?_eq_some_iff.1 hq).1,fun q' e' he'=>?_,hr2,fun t d2 ht=>?_,fun h=>by omega,hFD',?_⟩
        · by_cases hqq:q'=q
          · subst hqq
            have:e'=i:=by rw [hq] at he';exact (Option.some.inj he').symm
            simp [this]
          · have hne:e'≠i:=by
              intro e
              subst e
              rcases Nat.lt_or_gt_of_ne hqq with h | h
              · have:=(hch.chain q' q e' e' h he' hq).1;omega
              · have:=(hch.chain q q' e' e' h hq he').1;omega
            simp only [hne,decide_false,Bool.or_false]
            rw [hm q' e' he']
            omega
        · unfold extE at ht
          cases hd:o2.dst with
          | none =>
            rw [hd] at ht
            obtain ⟨e,o3,a1,a2,a3,a4⟩:=hE t d2 ht
            exact ⟨e,o3,a1,by simp [a2],a3,a4⟩
          | some t0 =>
            rw [hd] at ht
            simp only [Env.find] at ht
            cases hb:Nat.beq t0 t with
            | true=>exact ⟨i,o2,hie,by simp,ho,by rw [hd,Nat.eq_of_beq_eq_true hb]⟩
            | false =>
              rw [hb] at ht
              obtain ⟨e,o3,a1,a2,a3,a4⟩:=hE t d2 ht
              exact ⟨e,o3,a1,by simp [a2],a3,a4⟩
        · have hpe:envL (fun j=>(S j||decide (j=i)) && !(ef.contains j)) l ds 0 L=envL (fun j=>S j && !(ef.contains j)) l ds 0 L:=by
            congr 1
            funext j
            by_cases hji:j=i
            · subst hji;rw [List.contains_iff_mem.2 hie];simp
            · simp [hji]
          rw [hpe]
          refine ⟨⟨H',marks,PH.le_trans hle hl,hok',?_,by cases o2.dst <;> simpa [Act.put] using hdf⟩,by cases o2.dst <;> simp [Act.put,mm.size],mm.same.trans hso⟩
          unfold extE
          cases hd:o2.dst with
          | none=>exact henv.mono hl
          | some t0 =>
            have hlt:t0<Γ.N:=by simp only [dstOk,hd] at hdk;exact nB hdk
            exact (henv.mono hl).put (by rw [mm.size];exact hlt) hcv
      unfold GStep at hgs
      cases hg:o2.guard with
      | none =>
        rw [hg] at hgs
        simp only at hgs
        obtain ⟨R,hop,hrest⟩:=hgs
        simp only [Region.wanted,hg,if_true]
        refine hop Γ.round H (marks.map markA++Γ.fr) a w hok hsub next _ ?_
        intro v d ms' w' H' hR hl hok' hcv hso
        exact fin v d ms' w' H' (fun hc=>(hrest d ms' hR).1 (by rw [List.length_drop];omega)) (hrest d ms' hR).2 hl hok' hcv hso
      | some qq =>
        obtain ⟨j,want⟩:=qq
        rw [hg] at hgs
        simp only at hgs
        obtain ⟨s,u,h1,h2,h3⟩:=hgs
        have hfnd:=hag s _ (by simp [Ah,hg,h1]) h2
        rcases h3 with ⟨b,hu,h3⟩ | ⟨hu,h4⟩
        · subst hu
          have hy:=Cq (ops:=l.toArray) mm (j:=j) (t:=s) (b:=b) (by simpa using h1) hfnd
          simp only [Region.wanted,hg,hy]
          rcases h3 with ⟨h3,R,hop,hrest⟩ | ⟨h3,h4⟩
          · have hbq:(some b == some want)=true:=by rw [h3];simp
            rw [if_pos hbq]
            refine hop Γ.round H (marks.map markA++Γ.fr) a w hok hsub next _ ?_
            intro v d ms' w' H' hR hl hok' hcv hso
            exact fin v d ms' w' H' (fun hc=>(hrest d ms' hR).1 (by rw [List.length_drop];omega)) (hrest d ms' hR).2 hl hok' hcv hso
          · have hbq:(some b == some want)=false:=by rw [h3];cases want <;> rfl
            rw [if_neg (by rw [hbq];simp)]
            exact ⟨fun _ _=>trivial,fin undef (.v undef) msx w H (fun hc=>h4.1 (by rw [List.length_drop];omega)) h4.2 (PH.le_refl H) hok (conc_v.2 rfl) (SameOut.refl w)⟩
        · subst hu
          have hy:=BX (ops:=l.toArray) mm (j:=j) (t:=s) (by simpa using h1) hfnd
          simp only [Region.wanted,hg,hy]
          rw [if_neg (by cases want <;> simp)]
          exact ⟨fun _ _=>trivial,fin undef (.v undef) msx w H (fun hc=>h4.1 (by rw [List.length_drop];omega)) h4.2 (PH.le_refl H) hok (conc_v.2 rfl) (SameOut.refl w)⟩
    ·
      obtain ⟨d,hd⟩:∃ d,ds[i]? = some d:=⟨ds[i]'(by omega),by simp⟩
      obtain ⟨hdst,hst⟩:=hstep i o d hie ho hd
      have hnoE:∀ s,s∈Ah l o->Env.find E s=none:=by
        intro s hs
        cases hq:Env.find E s with
        | none=>rfl
        | some d2 =>
          obtain ⟨e,o3,a1,a2,a3,a4⟩:=hE s d2 hq
          obtain ⟨o4,b1,b3,_⟩:=hch.op e a1
          have:o4=o3:=by rw [a3] at b1;exact (Option.some.inj b1).symm
          subst this
          rcases (b3 s a4).2 i o ho hie with h5 | h5
          · exact absurd hs h5
          · have:=h5 S hc a2;rw [hunl] at this;cases this
      have agree:∀ s,s∈Ah l o->Env.find (E++envL (fun j=>S j && !(ef.contains j)) l ds 0 L) s=Env.find (envL (fun j=>decide (j<i) && !(ef.contains j)) l ds 0 L) s:=by
        intro s hsl
        rw [Az,hnoE s hsl]
        refine AW l ds 0 L L (fun j o' hj hd'=>?_) rfl
        simp only [Nat.zero_add]
        cases hfj:ef.contains j with
        | true=>simp
        | false =>
          simp only [Bool.not_false,Bool.and_true]
          by_cases hji:j=i
          · subst hji;rw [hunl];simp
          · have hn':=hf.names i o j o' s ho hj (fun e=>hji e.symm) hd' (.inl hsl)
            by_cases hlt:j<i
            · have h1:=(hn' _ hcs).1 hlt (by simp)
              simp only [hji,decide_false,Bool.or_false] at h1
              rw [h1];simp [hlt]
            · cases hb:S j with
              | true=>have h1:=(hn' _ hc).2 (by omega) hb;rw [hunl] at h1;cases h1
              | false=>simp [hlt]
      have hsub:EnvOk H (Env.only (Ah l o) (envL (fun j=>decide (j<i) && !(ef.contains j)) l ds 0 L)) a.tmps:=by
        intro s d' hfnd
        obtain ⟨h1,h2⟩:=DY hfnd
        exact henv s d' (by rw [agree s h1];exact h2)
      have hcf:=AU hie
      have nxt:∀ (v:Value) (w':World) (H':PH),PH.le H H'->HeapOk H' (msx++(marks.map markA++Γ.fr)) w'->Conc H' d v->SameOut w w'->next (a.put o.dst v) w':=by
        intro v w' H' hl hok' hcv hso
        refine hn _ _ ⟨m,E,msx,hmle,fun q e he=>?_,h2',fun t d2 ht=>?_,hm0,hFD,?_⟩
        · have hne:e≠i:=fun h=>hie (h▸List.mem_of_getElem? he)
          simp only [hne,decide_false,Bool.or_false]
          exact hm q e he
        · obtain ⟨e,o3,a1,a2,a3,a4⟩:=hE t d2 ht
          exact ⟨e,o3,a1,by simp [a2],a3,a4⟩
        · refine ⟨⟨H',marks,PH.le_trans hle hl,hok',?_,by cases o.dst <;> simpa [Act.put] using hdf⟩,by cases o.dst <;> simp [Act.put,mm.size],mm.same.trans hso⟩
          intro s d' hfnd
          by_cases hds:o.dst=some s
          · have hno:Env.find E s=none:=by
              cases hq:Env.find E s with
              | none=>rfl
              | some d2 =>
                obtain ⟨e,o3,a1,_,a3,a4⟩:=hE s d2 hq
                obtain ⟨o4,b1,b3,_⟩:=hch.op e a1
                have:o4=o3:=by rw [a3] at b1;exact (Option.some.inj b1).symm
                subst this
                exact absurd hds ((b3 s a4).1 i o ho (fun h=>hie (h▸a1)))
            rw [Az,hno] at hfnd
            have hat:=Hc (S:=fun j=>((S j||decide (j=i)) && !(ef.contains j))) l ds 0 i L o ho hd hds (by simp [hie]) (fun j o' hj hlo hd'=>by
              simp only [Nat.zero_add]
              have hn':=hf.names i o j o' s ho hlo (by omega) hd' (.inr hds)
              cases hb:S j with
              | true=>have h1:=(hn' _ hc).2 hj hb;rw [hunl] at h1;cases h1
              | false => have:¬ j=i:=by omega
                         simp [this])
            rw [hat] at hfnd
            simp only [Option.some.injEq] at hfnd
            subst hfnd
            have hsz:s<a.tmps.size:=by
              have:=hdst
              simp only [dstOk,hds] at this
              have:=nB this
              rw [mm.size];exact this
            simp only [hds,Act.put]
            simpa [Array.getD,hsz] using hcv
          · have hcg:Env.find (E++envL (fun j=>(S j||decide (j=i)) && !(ef.contains j)) l ds 0 L) s=Env.find (E++envL (fun j=>S j && !(ef.contains j)) l ds 0 L) s:=by
              rw [Az,Az]
              rw [AW l ds 0 L L (fun j o' hj hd'=>?_) rfl]
              simp only [Nat.zero_add]
              have:¬ j=i:=fun e=>by subst e;rw [ho] at hj;simp only [Option.some.injEq] at hj;subst hj;exact hds hd'
              simp [this]
            rw [hcg] at hfnd
            have h1:=(henv s d' hfnd).mono hl
            have h2:(a.put o.dst v).tmps.getD s undef=a.tmps.getD s undef:=by
              cases hod:o.dst with
              | none=>rfl
              | some q =>
                have hq:q≠s:=fun e=>hds (by rw [hod,e])
                simp [Act.put,Array.getD_eq_getD_getElem?,Array.getElem?_setIfInBounds,hq]
            rw [h2]
            exact h1
      obtain ⟨msi,rest,hp,hst⟩:∃ msi rest,msx.Perm (msi++rest)/\Step P l o (envL (fun j=>decide (j<i) && !(ef.contains j)) l ds 0 L) msi d:=by
        cases hfi:fd.contains i with
        | true =>
          refine ⟨msx,[],by simp,hfd msx (hFD ?_) i o d hfi ho hd⟩
          rcases Nat.lt_or_ge ef.length (cut+m) with h | h
          · have hp:ef.length - cut<ef.length:=by omega
            have hS1:S ef[ef.length - cut]=true:=(hm (ef.length - cut) _ (by simp [hp])).2 (by omega)
            have:=hlt i hfi _ (by simp [hp]) S hc hS1
            rw [hunl] at this;cases this
          · exact h
        | false =>
          rw [hfi] at hst
          simp only [Bool.not_false,Bool.and_true] at hst
          cases hfr:free.contains i with
          | true=>rw [hfr] at hst;exact ⟨[],msx,List.Perm.refl _,hst⟩
          | false =>
            rw [hfr] at hst
            have hm00:m=0:=by
              rcases Nat.eq_zero_or_pos m with h | h
              · exact h
              · have h0:0<ef.length:=by omega
                have hS0:S ef[0]=true:=(hm 0 ef[0] (by simp [h0])).2 h
                have hif:i∉free:=fun hh=>by rw [List.contains_iff_mem.2 hh] at hfr;cases hfr
                have:=hch.dep i hik hie hif ef[0] (by simp) S hc hS0
                rw [hunl] at this;cases this
            exact ⟨ms,[],by rw [hm0 hm00];simp,hst⟩
      have hokp:HeapOk H (msi++(rest++(marks.map markA++Γ.fr))) w:=hok.perm (by
        have:=hp.append_right (marks.map markA++Γ.fr)
        simpa [List.append_assoc] using this)
      have back:∀ {H':PH} {w':World},HeapOk H' (msi++(rest++(marks.map markA++Γ.fr))) w'->HeapOk H' (msx++(marks.map markA++Γ.fr)) w':=fun h=>h.perm (by
        have:=hp.symm.append_right (marks.map markA++Γ.fr)
        simpa [List.append_assoc] using this)
      unfold Step at hst
      cases hg:o.guard with
      | none =>
        rw [hg] at hst
        simp only at hst
        simp only [Region.wanted,hg,if_true]
        refine hst Γ.round H (rest++(marks.map markA++Γ.fr)) a w hokp hsub _ _ ?_
        rintro v d2 ms' w' H' ⟨rfl,rfl⟩ hl hok' hcv hso
        exact nxt v w' H' hl (back hok') hcv hso
      | some q =>
        obtain ⟨j,want⟩:=q
        rw [hg] at hst
        simp only at hst
        obtain ⟨s,u,h1,h2,h3⟩:=hst
        have hss:s∈Ah l o:=by simp [Ah,hg,h1]
        have hfnd:Env.find (E++envL (fun j=>S j && !(ef.contains j)) l ds 0 L) s=some (.v u):=by rw [agree s hss];exact h2
        rcases h3 with ⟨b,hu,h3⟩ | ⟨hu,h4⟩
        · subst hu
          have hy:=Cq (ops:=l.toArray) mm (j:=j) (t:=s) (b:=b) (by simpa using h1) hfnd
          simp only [Region.wanted,hg,hy]
          rcases h3 with ⟨h3,h4⟩ | ⟨h3,h4⟩
          · have hbq:(some b == some want)=true:=by rw [h3];simp
            rw [if_pos hbq]
            refine h4 Γ.round H (rest++(marks.map markA++Γ.fr)) a w hokp hsub _ _ ?_
            rintro v d2 ms' w' H' ⟨rfl,rfl⟩ hl hok' hcv hso
            exact nxt v w' H' hl (back hok') hcv hso
          · have hbq:(some b == some want)=false:=by rw [h3];cases want <;> rfl
            rw [if_neg (by rw [hbq];simp)]
            exact ⟨fun _ _=>trivial,nxt undef w H (PH.le_refl H) hok (by rw [h4];exact conc_v.2 rfl) (SameOut.refl w)⟩
        · subst hu
          have hy:=BX (ops:=l.toArray) mm (j:=j) (t:=s) (by simpa using h1) hfnd
          simp only [Region.wanted,hg,hy]
          rw [if_neg (by cases want <;> simp)]
          exact ⟨fun _ _=>trivial,nxt undef w H (PH.le_refl H) hok (by rw [h4];exact conc_v.2 rfl) (SameOut.refl w)⟩
end
section
variable {Γ:Ctx} {P:Program} {L:Env} {ms:List Asrt} {K:KT} {l:List Oper}
def GDC (Γ:Ctx) (P:Program) (ops:List Oper) (ms:List Asrt) (K:KT) (cut:Nat) (ef free fd:List Nat):Nat->List Oper->Env->(List Asrt->Prop)->Prop
 | _,[],L,acc=>GDC2 Γ P ops K cut acc L ef [] ms
 | i,o::r,L,acc=>if ef.contains i=true then GDC Γ P ops ms K cut ef free fd (i+1) r L acc
  else ∃ d,dstOk o Γ.N/\Step P ops o L (if free.contains i && !(fd.contains i) then [] else ms) d/\GDC Γ P ops ms K cut ef free fd (i+1) r (ext o d L) (if fd.contains i then fun msx=>acc msx/\Step P ops o L msx d else acc)
theorem Lp {ops:List Oper} {cut:Nat} {ef free fd:List Nat}:∀ (r:List Oper) (i:Nat) (L:Env) (acc:List Asrt->Prop),acc ms->GDC Γ P ops ms K cut ef free fd i r L acc ->
    ∃ (ds:List D) (FD:List Asrt->Prop),ds.length=r.length /\
      (∀ j o d,r[j]? = some o->ds[j]? = some d->ef.contains (i+j)=false->dstOk o Γ.N/\Step P ops o (envL (fun q=>decide (q<i+j) && !(ef.contains q)) r ds i L) (if free.contains (i+j) && !(fd.contains (i+j)) then [] else ms) d) /\
      (∀ msx,FD msx->acc msx/\∀ j o d,r[j]? = some o->ds[j]? = some d->ef.contains (i+j)=false->fd.contains (i+j)=true->Step P ops o (envL (fun q=>decide (q<i+j) && !(ef.contains q)) r ds i L) msx d)/\FD ms /\
      GDC2 Γ P ops K cut FD (envL (fun q => !(ef.contains q)) r ds i L) ef [] ms
  | [],i,L,acc,h0,h=>⟨[],acc,rfl,fun j o d hj=>by simp at hj,fun msx hm=>⟨hm,fun j o d hj=>by simp at hj⟩,h0,(show GDC2 Γ P ops K cut acc L ef [] ms from h)⟩
  | o::r,i,L,acc,h0,h=>by
    have hsh:∀ j,i+(j+1)=i+1+j:=fun j=>by omega
    unfold GDC at h
    cases hc:ef.contains i with
    | true =>
      rw [if_pos hc] at h
      obtain ⟨ds,FD,e1,e2,e4,e5,e3⟩:=Lp r (i+1) L acc h0 h
      have hS:∀ m,(decide (i<m) && !(ef.contains i))=false:=fun m=>by rw [hc];simp
      refine ⟨.v undef::ds,FD,by simp [e1],fun j o' d' hj hdj hcj=>?_,fun msx hm=>⟨(e4 msx hm).1,fun j o' d' hj hdj hcj hfj=>?_⟩,e5,?_⟩
      · cases j with
        | zero=>rw [Nat.add_zero] at hcj;rw [hc] at hcj;cases hcj
        | succ j =>
          simp only [List.getElem?_cons_succ] at hj hdj
          rw [hsh] at hcj ⊢
          simp only [envL,hS,Bool.false_eq_true,if_false]
          exact e2 j o' d' hj hdj hcj
      · cases j with
        | zero=>rw [Nat.add_zero] at hcj;rw [hc] at hcj;cases hcj
        | succ j =>
          simp only [List.getElem?_cons_succ] at hj hdj
          rw [hsh] at hcj hfj ⊢
          simp only [envL,hS,Bool.false_eq_true,if_false]
          exact (e4 msx hm).2 j o' d' hj hdj hcj hfj
      · simp only [envL]
        rw [if_neg (by rw [hc];simp)]
        exact e3
    | false =>
      rw [if_neg (by rw [hc];simp)] at h
      obtain ⟨d,hdk,hst,hrest⟩:=h
      have h0':(if fd.contains i then fun msx=>acc msx/\Step P ops o L msx d else acc) ms:=by
        cases hf:fd.contains i with
        | true=>rw [hf] at hst;simp only [Bool.not_true,Bool.and_false,Bool.false_eq_true,if_false] at hst;exact ⟨h0,hst⟩
        | false=>exact h0
      obtain ⟨ds,FD,e1,e2,e4,e5,e3⟩:=Lp r (i+1) (ext o d L) _ h0' hrest
      have hS:∀ j,(decide (i<i+1+j) && !(ef.contains i))=true:=fun j=>by rw [hc];simp;omega
      have hL0:envL (fun q=>decide (q<i+0) && !(ef.contains q)) (o::r) (d::ds) i L=L:=by
        rw [Nat.add_zero,Cd _ _ _ _ (fun q hq=>by have:¬ q<i:=by omega
                                                  simp [this])]
      refine ⟨d::ds,FD,by simp [e1],fun j o' d' hj hdj hcj=>?_,fun msx hm=>?_,e5,?_⟩
      · cases j with
        | zero =>
          simp only [List.getElem?_cons_zero,Option.some.injEq] at hj hdj
          subst hj hdj
          exact ⟨hdk,by rw [hL0];exact hst⟩
        | succ j =>
          simp only [List.getElem?_cons_succ] at hj hdj
          rw [hsh] at hcj ⊢
          simp only [envL,hS,if_true]
          exact e2 j o' d' hj hdj hcj
      · obtain ⟨hacc,hrest2⟩:=e4 msx hm
        have hacc':acc msx:=by
          cases hf:fd.contains i with
          | true=>rw [hf] at hacc;exact hacc.1
          | false=>rw [hf] at hacc;exact hacc
        refine ⟨hacc',fun j o' d' hj hdj hcj hfj=>?_⟩
        cases j with
        | zero =>
          simp only [List.getElem?_cons_zero,Option.some.injEq] at hj hdj
          subst hj hdj
          rw [hL0]
          rw [Nat.add_zero] at hfj
          rw [hfj] at hacc
          exact hacc.2
        | succ j =>
          simp only [List.getElem?_cons_succ] at hj hdj
          rw [hsh] at hcj hfj ⊢
          simp only [envL,hS,if_true]
          exact hrest2 j o' d' hj hdj hcj hfj
      · simp only [envL]
        rw [if_pos (by rw [hc];rfl)]
        exact e3
theorem EZ {id:Nat} (cut:Nat) (ef free fd:List Nat) (hcut:(Nat.blt 0 cut&&Nat.ble cut ef.length)=true) (hlt:(fd.all fun i=>((masks l []).getD (ef.getD (ef.length - cut) 0) 0).testBit i)=true) (hm:P.follows .mixedOrders=true) (hf:flowB l l.length=true) (hch:Np l ef free=true) (hfe:fd.all (fun i => !(ef.contains i))=true) (h:GDC Γ P l ms K cut ef free fd 0 l L (fun _=>True)):G Γ P (.region id l.toArray true) L ms K:=by
 intro a w m
 refine wpIn_region_draw fun t=>?_;simp only [Region.schedule,hm,Bool.true_or,if_true]
 have hfo:=IM hf
 obtain ⟨ds,FD,e1,e2,e4,e5,e3⟩:=Lp _ _ _ _ trivial h;simp only [Nat.zero_add] at e2 e4
 have hM:Jc l (masks l []):=GQ l l [] (fun j=>by simp) (fun j m hj=>by simp at hj)
 refine OW (cut:=cut) (fun i hi e he S hS hSe=>by
  have h6:=List.all_eq_true.1 hlt i (List.contains_iff_mem.1 hi)
  rw [List.getD_eq_getElem?_getD (l:=ef),he,Option.getD_some] at h6
  cases hacc:(masks l [])[e]? with
  | none=>rw [List.getD_eq_getElem?_getD,hacc] at h6;simp at h6
  | some m=>rw [List.getD_eq_getElem?_getD,hacc] at h6;exact hM e m hacc i h6 S hS hSe) (by rw [Bool.and_eq_true] at hcut;exact ⟨nB hcut.1,nB hcut.2⟩) (L:=L) (ms:=ms) (fd:=fd) hfo (NQ hch) ds e1 ?_ (fun msx hm i o d hfi ho hd=>(e4 msx hm).2 i o d ho hd (by
  have:=List.all_eq_true.1 hfe i (List.contains_iff_mem.1 hfi)
  simpa using this) hfi) e5 e3 l.toArray.size (Array.replicate l.toArray.size false) t a { w with drawn:=w.drawn+1 } (by simp) ?_ ?_ ?_ ?_
 ·intro i o d hie ho hd
  exact e2 i o d ho hd (AU hie)
 ·intro j o hj hS
  simp [Array.getD] at hS
 ·intro i _;simp [Array.getD]
 ·have:=List.length_filter_le (fun i => !(Array.replicate l.toArray.size false).getD i false) (List.range l.length)
  simpa using this
 ·have hz:∀ j,(Array.replicate l.toArray.size false).getD j false=false:=fun j=>by simp [Array.getD]
  refine ⟨0,[],ms,Nat.zero_le _,fun q e he=>by rw [hz];simp,by simpa using e3,fun t d ht=>by simp [Env.find] at ht,fun _=>rfl,fun _=>e5,?_⟩;rw [List.nil_append,Cd _ _ _ _ (fun q _=>by rw [hz];rfl)];obtain ⟨H,marks,hle,hok,henv,hdf⟩:=m.ex;exact ⟨⟨H,marks,hle,hok.drew _,henv,hdf⟩,m.size,⟨m.same.os,m.same.output,m.same.tape,m.same.size⟩⟩
theorem Cs {ops r:List Oper} {cut:Nat} {ef free fd:List Nat} {acc:List Asrt->Prop} {n:Nat} {o:Oper} (hc:ef.contains n=true) (k:GDC Γ P ops ms K cut ef free fd (n+1) r L acc):GDC Γ P ops ms K cut ef free fd n (o::r) L acc:=by
 unfold GDC;rw [if_pos hc];exact k
theorem CL {ops r:List Oper} {cut:Nat} {ef free fd:List Nat} {acc:List Asrt->Prop} {n:Nat} {o:Oper} {d:D} {i:Nat} {msi:List Asrt} (hc:ef.contains n=false) (hnf:fd.contains n=false) (hms:(if free.contains n then [] else ms)=msi) (hg:o.guard=none) (hd:o.dst=some i) (hi:Nat.blt i Γ.N=true) (h:OpP P o (Env.only (Ah ops o) L) msi d) (k:GDC Γ P ops ms K cut ef free fd (n+1) r ((i,d)::L) acc):GDC Γ P ops ms K cut ef free fd n (o::r) L acc:=by
 unfold GDC;rw [if_neg (by rw [hc];simp),hnf];simp only [Bool.not_false,Bool.and_true,Bool.false_eq_true,if_false];rw [hms];refine ⟨d,by simp only [dstOk,hd];exact hi,by simp only [Step,hg];exact h,?_⟩;simp only [ext,hd];exact k
theorem Jl {ops r:List Oper} {cut:Nat} {ef free fd:List Nat} {acc:List Asrt->Prop} {n:Nat} {o:Oper} {d:D} {i:Nat} (hc:ef.contains n=false) (hnf:fd.contains n=true) (hg:o.guard=none) (hd:o.dst=some i) (hi:Nat.blt i Γ.N=true) (h:OpP P o (Env.only (Ah ops o) L) ms d) (k:GDC Γ P ops ms K cut ef free fd (n+1) r ((i,d)::L) (fun msx=>acc msx/\OpP P o (Env.only (Ah ops o) L) msx d)):GDC Γ P ops ms K cut ef free fd n (o::r) L acc:=by
 unfold GDC;rw [if_neg (by rw [hc];simp),hnf];simp only [Bool.not_true,Bool.and_false,Bool.false_eq_true,if_false,if_true]
 have hs:∀ m,Step P ops o L m d=OpP P o (Env.only (Ah ops o) L) m d:=fun m=>by simp only [Step,hg]
 refine ⟨d,by simp only [dstOk,hd];exact hi,by rw [hs];exact h,?_⟩;simp only [hs];simp only [ext,hd];exact k
theorem Hj {ops:List Oper} {cut:Nat} {ef free fd:List Nat} {acc:List Asrt->Prop} {n:Nat} (h:GDC2 Γ P ops K cut acc L ef [] ms):GDC Γ P ops ms K cut ef free fd n [] L acc:=h
theorem Ct {ops:List Oper} {cut:Nat} {FD:List Asrt->Prop} {E:Env} {msx:List Asrt} {e i:Nat} {es:List Nat} {o:Oper} {R:D->List Asrt->Prop} (ho:ops[e]? = some o) (hg:o.guard=none) (hd:o.dst=some i) (hi:Nat.blt i Γ.N=true) (h:OpT P o (Env.only (Ah ops o) (E++L)) msx R) (k:∀ d ms',R d ms'->(cut<=es.length->FD ms')/\GDC2 Γ P ops K cut FD L es ((i,d)::E) ms'):GDC2 Γ P ops K cut FD L (e::es) E msx:=by
 intro o' ho'
 have:o'=o:=by rw [ho] at ho';exact (Option.some.inj ho').symm
 subst this;refine ⟨by simp only [dstOk,hd];exact hi,?_⟩;unfold GStep;rw [hg];refine ⟨R,h,fun d ms' hR=>?_⟩
 have:=k d ms' hR
 simpa [extE,hd] using this
theorem HS {ops:List Oper} {cut:Nat} {FD:List Asrt->Prop} {E:Env} {msx:List Asrt} {e:Nat} {es:List Nat} {o:Oper} {R:D->List Asrt->Prop} (ho:ops[e]? = some o) (hg:o.guard=none) (hd:o.dst=none) (h:OpT P o (Env.only (Ah ops o) (E++L)) msx R) (k:∀ d ms',R d ms'->(cut<=es.length->FD ms')/\GDC2 Γ P ops K cut FD L es E ms'):GDC2 Γ P ops K cut FD L (e::es) E msx:=by
 intro o' ho'
 have:o'=o:=by rw [ho] at ho';exact (Option.some.inj ho').symm
 subst this;refine ⟨by simp only [dstOk,hd],?_⟩;unfold GStep;rw [hg];refine ⟨R,h,fun d ms' hR=>?_⟩
 have:=k d ms' hR
 simpa [extE,hd] using this
theorem Ge {ops:List Oper} {cut:Nat} {FD:List Asrt->Prop} {E:Env} {msx:List Asrt} (h:K .normal (E++L) msx):GDC2 Γ P ops K cut FD L [] E msx:=h
end
section
end
section
variable {P:Program} {L:Env} {ms:List Asrt} {dst:Option Nat} {ty:TypeId} {pos:String} {after:Array Edge} {g:Option (Nat×Bool)} {d:D}
theorem QA {f:FuncId} {args:List Operand} {ats:Array TypeId} {ds:List D} {tl:List Asrt} (own:List Asrt) (hms:ms=own++tl) (hc:∀ args w,(callFunc f args).run P w = .ok (.enter f args) w) (hev:evL L args=some ds) (hf:FnT P f ds tl d) :
  OpP P ⟨dst,.call ⟨.value (.func f),args.toArray,ats⟩,ty,pos,after,g⟩ L ms d:=by
 subst hms
 have:=B7 (P:=P) (L:=L) (ms:=own++tl) (dst:=dst) (ty:=ty) (pos:=pos) (after:=after) (g:=g) (ats:=ats) (ms₁:=tl) (rest:=own) hc hev List.perm_append_comm hf
 intro ro H fr a w hok henv next Q hn
 refine this ro H fr a w hok henv next Q ?_;rintro v d' ms' w' H' ⟨ms₁',⟨rfl,rfl⟩,rfl⟩ hle hok' hc' hs;exact hn v d' _ w' H' ⟨rfl,rfl⟩ hle (hok'.perm (List.perm_append_comm.append_right fr)) hc' hs
end
end Go.V
set_option linter.unusedSectionVars false
namespace Go.V
def bigA (p:Prop) (l:List Asrt):Asrt where
 blocks:=l.flatMap (·.blocks)
 ok:=fun H h=>p/\∀ A∈l,A.ok H h
 stable:=fun H H' h h' e hle ⟨h1,h2⟩=>⟨h1,fun A hA=>A.stable H H' h h' (fun b hb=>e b (List.mem_flatMap.2 ⟨A,hA,hb⟩)) hle (h2 A hA)⟩
theorem bigA_iff {p:Prop} {l ms:List Asrt} {H:PH} {w:World}:HeapOk H (bigA p l::ms) w↔p/\HeapOk H (l++ms) w:=by
 constructor
 ·intro h
  have h0:=h.ok _ (List.mem_cons_self ..)
  refine ⟨h0.1,h.sub,by have:=h.nodup;simpa [bigA] using this,fun A hA b hb=>?_,fun A hA=>?_⟩
  ·rcases List.mem_append.1 hA with hA | hA
   ·exact h.lt _ (List.mem_cons_self ..) b (List.mem_flatMap.2 ⟨A,hA,hb⟩)
   ·exact h.lt A (List.mem_cons_of_mem _ hA) b hb
  ·rcases List.mem_append.1 hA with hA | hA
   ·exact h0.2 A hA
   ·exact h.ok A (List.mem_cons_of_mem _ hA)
 ·rintro ⟨hp,h⟩
  refine ⟨h.sub,by have:=h.nodup;simpa [bigA] using this,fun A hA b hb=>?_,fun A hA=>?_⟩
  ·rcases List.mem_cons.1 hA with rfl | hA
   ·obtain ⟨A,hA,hb⟩:=List.mem_flatMap.1 hb
    exact h.lt A (List.mem_append_left _ hA) b hb
   ·exact h.lt A (List.mem_append_right _ hA) b hb
  ·rcases List.mem_cons.1 hA with rfl | hA
   ·exact ⟨hp,fun A hA=>h.ok A (List.mem_append_left _ hA)⟩
   ·exact h.ok A (List.mem_append_right _ hA)
def rawD (p:Option Addr×Nat×Nat):D := .v (.slice p.1 p.2.1 p.2.2)
section
variable {α β:Type} [DecidableEq α]
def mdel {γ:Type}:List (α×γ)->α->List (α×γ)
 | [],_=>[]
 | (a,b)::l,k=>if k=a then l else (a,b)::mdel l k
theorem MT {γ:Type} {k:α}:∀ {l:List (α×γ)},mget l k=none->mdel l k=l
 | [],_=>rfl
 | (a,b)::l,h=>by
  simp only [mget] at h
  split at h
  ·cases h
  ·rename_i hne;simp only [mdel,hne,if_false,MT h]
theorem MM {γ:Type} {k:α} {v:γ}:∀ {l:List (α×γ)},mget l k=some v->l.Perm ((k,v)::mdel l k)
 | [],h=>by cases h
 | (a,b)::l,h=>by
  simp only [mget] at h
  split at h
  ·rename_i he;subst he;cases h;simp only [mdel,if_true];exact List.Perm.refl _
  ·rename_i hne
   simp only [mdel,hne,if_false];exact ((MM h).cons _).trans (List.Perm.swap _ _ _)
theorem OB {γ:Type} {k:α} {v:γ}:∀ {l:List (α×γ)},(mset l k v).Perm ((k,v)::mdel l k)
 | []=>List.Perm.refl _
 | (a,b)::l=>by
  by_cases h:k=a
  ·simp only [mset,mdel,h,if_true];exact List.Perm.refl _
  ·simp only [mset,mdel,h,if_false]
   exact ((OB (l:=l)).cons _).trans (List.Perm.swap _ _ _)
theorem LF {γ δ:Type} (g:γ->δ) (k:α):∀ l:List (α×γ),mget (l.map fun e=>(e.1,g e.2)) k=(mget l k).map g
 | []=>rfl
 | (a,b)::l=>by
  simp only [List.map_cons,mget]
  split
  ·rfl
  ·exact LF g k l
theorem LQ {γ δ:Type} (g:γ->δ) (k:α) (v:γ):∀ l:List (α×γ),(mset l k v).map (fun e=>(e.1,g e.2))=mset (l.map fun e=>(e.1,g e.2)) k (g v)
 | []=>rfl
 | (a,b)::l=>by
  by_cases h:k=a
  ·simp only [List.map_cons,mset,h,if_true]
  ·simp only [List.map_cons,mset,h,if_false,LQ g k v l]
def rowsQ (T:TypeId) (sz:Nat) (f:β->D) (q:List (α×(List β×Option Addr×Nat))):List Asrt:=q.map fun e=>row e.2.2.1 e.2.2.2 T sz f e.2.1
def rawQ (v:List β×Option Addr×Nat):Option Addr×Nat×Nat:=(v.2.1,v.1.length,v.2.2)
def mpr (b:Nat) (fk:α->Value) (T:TypeId) (sz:Nat) (f:β->D) (l:List (α×List β)) (q:List (α×(List β×Option Addr×Nat))):Asrt:=
 bigA (l=q.map fun e=>(e.1,e.2.1)) (mp b fk rawD (q.map fun e=>(e.1,rawQ e.2))::rowsQ T sz f q)
def mprx (b:Nat) (fk:α->Value) (T:TypeId) (sz:Nat) (f:β->D) (l:List (α×List β)) (q:List (α×(List β×Option Addr×Nat))) (key:α):Asrt:=
 bigA (l=q.map fun e=>(e.1,e.2.1)) (mp b fk rawD (q.map fun e=>(e.1,rawQ e.2))::rowsQ T sz f (mdel q key))
theorem KP {T:TypeId} {sz:Nat} {f:β->D} {p q:List (α×(List β×Option Addr×Nat))} (h:p.Perm q):(rowsQ T sz f p).Perm (rowsQ T sz f q):=h.map _
theorem HeapOk.newrow {H:PH} {ms:List Asrt} {w:World} {T:TypeId} {sz:Nat} {f:β->D} (h:HeapOk H ms w):HeapOk H (row none 0 T sz f ([]:List β)::ms) w:=by
 refine ⟨h.sub,by simpa [row] using h.nodup,fun A hA b hb=>?_,fun A hA=>?_⟩
 ·rcases List.mem_cons.1 hA with rfl | hA
  ·simp [row] at hb
  ·exact h.lt A hA b hb
 ·rcases List.mem_cons.1 hA with rfl | hA
  ·exact ⟨Nat.le_refl _,Nat.zero_le _,.inl ⟨rfl,rfl,rfl⟩⟩
  ·exact h.ok A hA
variable {P:Program} {L:Env} {ms:List Asrt} {dst:Option Nat} {ty:TypeId} {pos:String} {after:Array Edge} {g:Option (Nat×Bool)} {x y z:Operand} {t:TypeId}
variable {b:Nat} {fk:α->Value} {T:TypeId} {sz:Nat} {f:β->D} {l:List (α×List β)} {q:List (α×(List β×Option Addr×Nat))} {key:α}
theorem Ny (k:Nat) (hm:ms[k]? = some (mp b fk rawD ([]:List (α×(Option Addr×Nat×Nat))))) {ms':List Asrt} (hms:ms.set k (mpr b fk T sz f [] [])=ms'):Refines L ms L ms':=by
 subst hms
 intro Γ act w mm
 obtain ⟨H,marks,hle,hok,henv,hdf⟩:=mm.ex
 have hok1:=hok.perm (BW hm)
 exact ⟨⟨H,marks,hle,HeapOk.perm (A4 hm) (bigA_iff.2 ⟨rfl,by simpa [rowsQ] using hok1⟩),henv,hdf⟩,mm.size,mm.same⟩
theorem Nl {kt et:TypeId} (k:Nat) (hu:∀ w,(underlying t).run P w = .ok (.map kt et) w) (hk:KeyOk P kt fk) (hz:∀ w,(zeroValue et).run P w = .ok (.slice none 0 0) w)
  (hx:Env.ev L x=some (.v (.map (some b)))) (hm:ms[k]? = some (mpr b fk T sz f l q)) (hy:Env.ev L y=some (.v (fk key))) :
  OpT P ⟨dst,.lookup t x y false,ty,pos,after,g⟩ L ms (fun d ms'=>∃ a cap,d = .v (.slice a ((mget l key).getD []).length cap)/\ms'=row a cap T sz f ((mget l key).getD [])::ms.set k (mprx b fk T sz f l q key)):=by
 intro ro H fr act w hok henv next Q hn
 have hok1:=hok.perm (BW hm)
 obtain ⟨hl,hok2⟩:=bigA_iff.1 hok1
 have base:=Fq (P:=P) (L:=L) (ms:=mp b fk rawD (q.map fun e=>(e.1,rawQ e.2))::(rowsQ T sz f q++ms.eraseIdx k)) (dst:=dst) (ty:=ty) (pos:=pos) (after:=after) (g:=g) (z0:=((none,0,0):Option Addr×Nat×Nat)) 0 hu hk hz (fun _=>conc_v.2 rfl) hx rfl hy
 refine base ro H fr act w (by simpa [List.append_assoc] using hok2) henv next Q ?_;rintro v d' ms' w' H' ⟨rfl,rfl⟩ hle hok' hc hs
 have hok3:HeapOk H' (mp b fk rawD (q.map fun e=>(e.1,rawQ e.2))::(rowsQ T sz f q++(ms.eraseIdx k++fr))) w':=by simpa [List.append_assoc] using hok'
 rw [LF] at hc
 have hgl:mget l key=(mget q key).map (·.1):=by rw [hl];exact LF (fun v:List β×Option Addr×Nat=>v.1) key q
 cases hq:mget q key with
 | none =>
  rw [hq] at hc hgl;rw [hgl] at hn;refine hn v _ _ w' H' ⟨none,0,rfl,rfl⟩ hle ?_ hc hs
  show HeapOk H' (row none 0 T sz f ([]:List β)::(ms.set k (mprx b fk T sz f l q key)++fr)) w'
  refine HeapOk.newrow (HeapOk.perm (A4 hm) (bigA_iff.2 ⟨hl,?_⟩));rw [MT hq]
  simpa [List.append_assoc] using hok3
 | some p =>
  obtain ⟨xs,a,cap⟩:=p;rw [hq] at hc hgl;rw [hgl] at hn;refine hn v _ _ w' H' ⟨a,cap,rfl,rfl⟩ hle ?_ hc hs
  show HeapOk H' (row a cap T sz f xs::(ms.set k (mprx b fk T sz f l q key)++fr)) w'
  have h4:HeapOk H' (mprx b fk T sz f l q key::(row a cap T sz f xs::(ms.eraseIdx k++fr))) w':=by
   refine bigA_iff.2 ⟨hl,hok3.perm ?_⟩;refine List.Perm.cons _ ?_
   have h5:(rowsQ T sz f q).Perm (row a cap T sz f xs::rowsQ T sz f (mdel q key)):=KP (MM hq)
   refine (h5.append_right _).trans ?_;exact List.perm_middle.symm
  refine h4.perm ((List.Perm.swap _ _ _).trans (List.Perm.cons _ (A4 hm)))
theorem KF {kt et:TypeId} {a:Option Addr} {n cap:Nat} {xs:List β} {rest:List Asrt} (hu:∀ w,(underlying t).run P w = .ok (.map kt et) w) (hk:KeyOk P kt fk)
  (hp:ms.Perm ([mprx b fk T sz f l q key,row a cap T sz f xs]++rest)) (hx:Env.ev L x=some (.v (.map (some b)))) (hy:Env.ev L y=some (.v (fk key))) (hv:Env.ev L z=some (.v (.slice a n cap))) (hn:n=xs.length) :
  OpT P ⟨dst,.mapUpdate t x y z,ty,pos,after,g⟩ L ms (fun _ ms'=>∃ q',ms'=mpr b fk T sz f (mset l key xs) q'::rest):=by
 subst hn
 intro ro H fr act w hok henv next Q hnx
 have hok1:HeapOk H (mprx b fk T sz f l q key::(row a cap T sz f xs::(rest++fr))) w:=hok.perm (by simpa using hp.append_right fr)
 obtain ⟨hl,hok2⟩:=bigA_iff.1 hok1
 have base:=Gt (P:=P) (L:=L) (ms:=mp b fk rawD (q.map fun e=>(e.1,rawQ e.2))::(rowsQ T sz f (mdel q key)++(row a cap T sz f xs::rest))) (dst:=dst) (ty:=ty) (pos:=pos) (after:=after) (g:=g) (z:=z) (v:=rawQ (xs,a,cap)) 0 hu hk hx rfl hy hv
 refine base ro H fr act w (by simpa [List.append_assoc] using hok2) henv next Q ?_;rintro v d' ms' w' H' rfl hle hok' hc hs;refine hnx v d' _ w' H' ⟨mset q key (xs,a,cap),rfl⟩ hle ?_ hc hs
 show HeapOk H' (mpr b fk T sz f (mset l key xs) (mset q key (xs,a,cap))::(rest++fr)) w'
 refine bigA_iff.2 ⟨?_,?_⟩
 ·rw [hl];exact (LQ (fun v:List β×Option Addr×Nat=>v.1) key (xs,a,cap) q).symm
 ·rw [LQ rawQ key (xs,a,cap) q]
  have hok3:HeapOk H' (mp b fk rawD (mset (q.map fun e=>(e.1,rawQ e.2)) key (rawQ (xs,a,cap)))::(rowsQ T sz f (mdel q key)++(row a cap T sz f xs::(rest++fr)))) w':=by simpa [List.append_assoc] using hok'
  refine hok3.perm (List.Perm.cons _ ?_)
  have h5:(rowsQ T sz f (mset q key (xs,a,cap))).Perm (row a cap T sz f xs::rowsQ T sz f (mdel q key)):=KP OB
  refine List.perm_middle.trans ?_;exact (h5.append_right _).symm
theorem J9 {kt et:TypeId} {a:Option Addr} {n cap:Nat} {xs:List β} (pre post:List Asrt) (hu:∀ w,(underlying t).run P w = .ok (.map kt et) w) (hk:KeyOk P kt fk)
  (hp:ms.Perm ([mprx b fk T sz f l q key,row a cap T sz f xs]++(pre++post))) (hx:Env.ev L x=some (.v (.map (some b)))) (hy:Env.ev L y=some (.v (fk key))) (hv:Env.ev L z=some (.v (.slice a n cap))) (hn:n=xs.length) {ms'':List (α×(List β×Option Addr×Nat))->List Asrt} (hr:(fun q'=>pre++mpr b fk T sz f (mset l key xs) q'::post)=ms'') :
  OpT P ⟨dst,.mapUpdate t x y z,ty,pos,after,g⟩ L ms (fun _ ms'=>∃ q',ms'=ms'' q'):=by
 subst hr
 intro ro H fr act w hok henv next Q hnx
 refine KF (rest:=pre++post) hu hk hp hx hy hv hn ro H fr act w hok henv next Q ?_;rintro v d ms' w' H' ⟨q',rfl⟩ hle hok' hc hs;refine hnx v d _ w' H' ⟨q',rfl⟩ hle (hok'.perm ?_) hc hs;exact (List.perm_middle.symm).append_right fr
theorem Lz {H:PH}:∀ (q:List (α×(List β×Option Addr×Nat))) (es:List MapEntry),MapOk fk rawD H (q.map fun e=>(e.1,rawQ e.2)) es->(∀ e∈q,Conc H (.list sz f e.2.1) (.slice e.2.2.1 e.2.1.length e.2.2.2))->MapOk fk (D.list sz f) H (q.map fun e=>(e.1,e.2.1)) es
 | [],[],_,_=>trivial
 | [],_::_,h,_=>h.elim
 | _::_,[],h,_=>h.elim
 | e::q,m::es,⟨h1,h2,h3⟩,h=>by
  refine ⟨h1,?_,Lz q es h3 (fun e' he=>h e' (by simp [he]))⟩;rw [conc_v.1 h2];exact h e (by simp)
theorem Of (k:Nat) (hm:ms[k]? = some (mpr b fk T sz f l q)) {ms':List Asrt} (hms:ms.set k (mp b fk (D.list sz f) l)=ms'):Refines L ms L ms':=by
 subst hms
 intro Γ act w mm
 obtain ⟨H,marks,hle,hok,henv,hdf⟩:=mm.ex
 have hok1:=hok.perm (BW hm)
 obtain ⟨hl,hok2⟩:=bigA_iff.1 hok1
 have hc:∀ e∈q,Conc H (.list sz f e.2.1) (.slice e.2.2.1 e.2.1.length e.2.2.2):=fun e he=>LV (T:=T) hok2 (List.mem_append_left _ (List.mem_cons_of_mem _ (List.mem_map.2 ⟨e,he,rfl⟩)))
 obtain ⟨⟨es,clock,h1,h2,h3⟩,h4⟩:=hok2.ok _ (List.mem_append_left _ (List.mem_cons_self ..));refine ⟨⟨H,marks,hle,HeapOk.perm (A4 hm) ?_,henv,hdf⟩,mm.size,mm.same⟩
 have hok3:HeapOk H (rowsQ T sz f q++(mp b fk rawD (q.map fun e=>(e.1,rawQ e.2))::(ms.eraseIdx k++(marks.map markA++Γ.fr)))) w:=hok2.perm (by
  rw [List.cons_append];exact List.perm_middle.symm)
 refine (hok3.drop).less (by simp [mp]) ?_;rintro _;rw [hl];exact ⟨⟨es,clock,h1,Lz q _ h2 hc,h3⟩,h4⟩
end
end Go.V
namespace Go.V
def treeB (l:List Oper) (ef:List Nat):Bool:=
 let M:=masks l []
 (ef.all fun e=>Nat.blt e l.length) &&
 (ef.all fun e=>match l[e]? with
  | some o=>(l.zipIdx.all fun (o',j)=>(match o.dst with
    | some t=>(Nat.beq e j || !(o'.dst == some t))&&(ef.contains j || !((Ah l o').contains t)||(M.getD e 0).testBit j)
    | none=>true) &&
    (Nat.ble j e||ef.contains j||(match o'.dst with | some t => !((Ah l o).contains t) | none=>true)))
  | none=>false)
def depB (l:List Oper) (e e':Nat):Bool := !(Nat.beq e e')&&((masks l []).getD e 0).testBit e'
structure TreeOk (l:List Oper) (ef:List Nat) (dep:Nat->Nat->Bool):Prop where
 lt:∀ e∈ef,e<l.length
 dep:∀ e e',dep e e'=true->e'≠e/\∀ S,Bc l S->S e=true->S e'=true
 op:∀ e∈ef,∃ o,l[e]? = some o/\(∀ t,o.dst=some t->(∀ j o',l[j]? = some o'->j≠e->o'.dst≠some t)/\∀ j o',l[j]? = some o'->j∉ef->t∉Ah l o'\/∀ S,Bc l S->S e=true->S j=true)/\∀ j o' t,e<j->j∉ef->l[j]? = some o'->o'.dst=some t->t∉Ah l o
theorem Tx {l:List Oper} {ef:List Nat} (h:treeB l ef=true):TreeOk l ef (depB l):=by
 have hM:Jc l (masks l []):=GQ l l [] (fun j=>by simp) (fun j m hj=>by simp at hj)
 have use:∀ i j S,Bc l S->((masks l []).getD i 0).testBit j=true->S i=true->S j=true:=by
  intro i j S hS hb hi
  cases hacc:(masks l [])[i]? with
  | none=>rw [List.getD_eq_getElem?_getD,hacc] at hb;simp at hb
  | some m=>rw [List.getD_eq_getElem?_getD,hacc] at hb;exact hM i m hacc j hb S hS hi
 unfold treeB at h;simp only [Bool.and_eq_true,List.all_eq_true] at h;obtain ⟨h1,h3⟩:=h;refine ⟨fun e he=>nB (h1 e he),fun e e' hd=>?_,fun e he=>?_⟩
 ·unfold depB at hd
  rw [Bool.and_eq_true,Bool.not_eq_true'] at hd;exact ⟨fun e0=>(by subst e0;rw [Nat.beq_refl] at hd;cases hd.1),fun S hS hSe=>use e e' S hS hd.2 hSe⟩
 ·have:=h3 e he
  split at this
  ·rename_i o ho
   simp only [List.all_eq_true] at this
   have hall:=this
   simp only [Bool.and_eq_true] at hall;refine ⟨o,ho,fun t ht=>⟨fun j o' hj hne=>?_,fun j o' hj hje=>?_⟩,fun j o' t hlt hje hj ht=>?_⟩
   ·have:=(hall (o',j) (List.mem_zipIdx_iff_getElem?.2 (by simpa using hj))).1
    rw [ht] at this;simp only [Bool.and_eq_true,Bool.or_eq_true,Bool.not_eq_true'] at this
    rcases this.1 with h5 | h5
    ·exact absurd (Nat.eq_of_beq_eq_true h5).symm hne
    ·intro e;rw [e] at h5;simp at h5
   ·have:=(hall (o',j) (List.mem_zipIdx_iff_getElem?.2 (by simpa using hj))).1
    rw [ht] at this;simp only [Bool.and_eq_true,Bool.or_eq_true,Bool.not_eq_true',AU hje,Bool.false_eq_true,false_or] at this
    rcases this.2 with h5 | h5
    ·refine .inl fun hm=>?_
     rw [List.contains_iff_mem.2 hm] at h5;cases h5
    ·exact .inr fun S hS hSe=>use e j S hS h5 hSe
   ·have:=(hall (o',j) (List.mem_zipIdx_iff_getElem?.2 (by simpa using hj))).2
    rw [ht] at this
    have hnb:Nat.ble j e=false:=by
     cases hb:Nat.ble j e with
     | true=>have:=nB hb;omega
     | false=>rfl
    simp only [Bool.or_eq_true,hnb,AU hje,Bool.false_eq_true,false_or,Bool.not_eq_true'] at this
    intro hm
    rw [List.contains_iff_mem.2 hm] at this;cases this
  ·cases this
section
variable {Γ:Ctx} {P:Program} {L:Env} {ms:List Asrt} {K:KT} {l:List Oper}
def GDT (Γ:Ctx) (P:Program) (ops:List Oper) (K:KT) (L:Env) (dep:Nat->Nat->Bool):Nat->List Nat->Env->List Asrt->Prop
 | 0,_,_,_=>False
 | n+1,R,E,ms=>(R=[]->K .normal (E++L) ms)/\∀ e∈R,(R.all fun e' => !(dep e e'))=true->∀ o,ops[e]? = some o->dstOk o Γ.N/\GStep P ops o (E++L) ms (fun d ms'=>GDT Γ P ops K L dep n (R.erase e) (extE o d E) ms') (GDT Γ P ops K L dep n (R.erase e) (extE o (.v undef) E) ms)
theorem QY {ef:List Nat} {dep:Nat->Nat->Bool} (hf:FlowOk l l.length) (hch:TreeOk l ef dep) (hnd:ef.Nodup) (ds:List D) (hlen:ds.length=l.length)
    (hstep:∀ (i:Nat) o d,i∉ef->l[i]? = some o->ds[i]? = some d->dstOk o Γ.N/\Step P l o (envL (fun j=>decide (j<i) && !(ef.contains j)) l ds 0 L) [] d)
    (h2:GDT Γ P l K (envL (fun j => !(ef.contains j)) l ds 0 L) dep (ef.length+1) ef [] ms) :
    ∀ (fuel:Nat) (listed:Array Bool) (t:Nat) (a:Act) (w:World),listed.size=l.length->Bc l (fun j=>listed.getD j false)->(∀ i,l.length<=i->listed.getD i false=false) ->
      ((List.range l.length).filter (fun i => !listed.getD i false)).length<=fuel ->
      (∃ R E msx,R.Nodup/\(∀ e∈R,e∈ef)/\(∀ e∈ef,(listed.getD e false=true↔e∉R))/\GDT Γ P l K (envL (fun j => !(ef.contains j)) l ds 0 L) dep (R.length+1) R E msx/\(∀ t d,Env.find E t=some d->∃ e o,e∈ef/\listed.getD e false=true/\l[e]? = some o/\o.dst=some t) /\
        Models Γ (E++envL (fun j=>listed.getD j false && !(ef.contains j)) l ds 0 L) msx a w) ->
      wpOpsIn (FR Γ.round) 0 P l.toArray (Post Γ K) (Region.linearise.go .any l.toArray fuel t listed []) a w:=by
  refine Ie hf (Nat.le_refl _) (fun S a w=>∃ R E msx,R.Nodup/\(∀ e∈R,e∈ef)/\(∀ e∈ef,(S e=true↔e∉R))/\GDT Γ P l K (envL (fun j => !(ef.contains j)) l ds 0 L) dep (R.length+1) R E msx/\(∀ t d,Env.find E t=some d->∃ e o,e∈ef/\S e=true/\l[e]? = some o/\o.dst=some t) /\
        Models Γ (E++envL (fun j=>S j && !(ef.contains j)) l ds 0 L) msx a w) ?_ ?_
  rotate_left
  · rintro a w ⟨R,E,msx,hRn,hRe,hm,h2,hE,mm⟩
    have hR0:R=[]:=by
      cases R with
      | nil=>rfl
      | cons e R =>
        have he:=hRe e (by simp)
        have h3:=(hm e he).1 (by simp [hch.lt e he])
        exact absurd (by simp) h3
    subst hR0
    replace h2:=h2.1 rfl
    have hee:envL (fun j=>decide (j<l.length) && !(ef.contains j)) l ds 0 L=envL (fun q => !(ef.contains q)) l ds 0 L:=by
      have:∀ (l':List Oper) (ds:List D) (k0:Nat) (L:Env),k0+l'.length<=l.length->envL (fun j=>decide (j<l.length) && !(ef.contains j)) l' ds k0 L=envL (fun q => !(ef.contains q)) l' ds k0 L:=by
        intro l'
        induction l' with
        | nil=>intro ds k0 L _;simp [envL]
        | cons o r ih =>
          intro ds k0 L hk
          cases ds with
          | nil=>simp [envL]
          | cons d ds =>
            simp only [List.length_cons] at hk
            have:decide (k0<l.length)=true:=by simp;omega
            simp only [envL,this,Bool.true_and]
            exact ih ds (k0+1) _ (by omega)
      exact this l ds 0 L (by omega)
    rw [hee] at mm
    rw [List.drop_length]
    exact ⟨_,_,h2,mm⟩
  · rintro S i o a w hc hik ho hunl hcs ⟨R,E,msx,hRn,hRe,hm,h2',hE,mm⟩ next hn
    obtain ⟨H,marks,hle,hok,henv,hdf⟩:=mm.ex
    by_cases hie:i∈ef
    ·
      have hiR:i∈R:=Classical.byContradiction fun h=>by have:=(hm i hie).2 h;rw [hunl] at this;cases this
      have hen:(R.all fun e' => !(dep i e'))=true:=by
        rw [List.all_eq_true]
        intro e' he'
        cases hd:dep i e' with
        | false=>rfl
        | true =>
          obtain ⟨hne,hcl⟩:=hch.dep i e' hd
          have h6:=hcl _ hcs (by simp)
          simp only [hne,decide_false,Bool.or_false] at h6
          exact absurd he' ((hm e' (hRe e' he')).1 h6)
      have hlen:(R.erase i).length+1=R.length:=by
        have:=List.length_erase_of_mem hiR
        have:=List.length_pos_of_mem hiR
        omega
      have h2':=h2'.2 i hiR hen
      obtain ⟨hdk,hgs⟩:=h2' o ho
      obtain ⟨o2,ho2,hdst,hlate⟩:=hch.op i hie
      obtain rfl:o2=o:=by rw [ho] at ho2;exact (Option.some.inj ho2).symm
      have hag:∀ s d',s∈Ah l o2->Env.find (E++envL (fun j => !(ef.contains j)) l ds 0 L) s=some d'->Env.find (E++envL (fun j=>S j && !(ef.contains j)) l ds 0 L) s=some d':=by
        intro s d' h3 h4
        rw [Az] at h4 ⊢
        cases hq2:Env.find E s with
        | some d2=>rw [hq2] at h4;exact h4
        | none =>
          rw [hq2] at h4
          simp only at h4 ⊢
          rw [<- h4]
          refine AW l ds 0 L L (fun j o' hj hd'=>?_) rfl
          simp only [Nat.zero_add]
          cases hfj:ef.contains j with
          | true=>simp
          | false =>
            simp only [Bool.not_false,Bool.and_true]
            have hjf:j∉ef:=fun h=>by rw [List.contains_iff_mem.2 h] at hfj;cases hfj
            have hji:j≠i:=fun e=>hjf (e▸hie)
            have hn':=hf.names i o2 j o' s ho hj (fun e=>hji e.symm) hd' (.inl h3)
            rcases Nat.lt_or_gt_of_ne hji with hlt | hgt
            · have h5:=(hn' _ hcs).1 hlt (by simp)
              simpa [hji] using h5
            · exact absurd h3 (hlate j o' s hgt hjf hj hd')
      have hsub:EnvOk H (Env.only (Ah l o2) (E++envL (fun j => !(ef.contains j)) l ds 0 L)) a.tmps:=by
        intro s d' hfnd
        obtain ⟨h3,h4⟩:=DY hfnd
        exact henv s d' (hag s d' h3 h4)
      have fin:∀ v d ms' w' H',GDT Γ P l K (envL (fun j => !(ef.contains j)) l ds 0 L) dep R.length (R.erase i) (extE o2 d E) ms'->PH.le H H'->HeapOk H' (ms'++(marks.map markA++Γ.fr)) w'->Conc H' d v->SameOut w w'->next (a.put o2.dst v) w':=by
        intro v d ms' w' H' hr2 hl hok' hcv hso
        refine hn _ _ ⟨R.erase i,extE o2 d E,ms',hRn.erase i,fun e he=>hRe e (List.mem_of_mem_erase he),fun e' he'=>?_,by rw [hlen];exact hr2,fun t d2 ht=>?_,?_⟩
        · by_cases hei:e'=i
          · subst hei
            simp [hRn.mem_erase_iff]
          · rw [hRn.mem_erase_iff]
            simp only [hei,decide_false,Bool.or_false]
            rw [hm e' he']
            simp [hei]
        · unfold extE at ht
          cases hd:o2.dst with
          | none =>
            rw [hd] at ht
            obtain ⟨e,o3,a1,a2,a3,a4⟩:=hE t d2 ht
            exact ⟨e,o3,a1,by simp [a2],a3,a4⟩
          | some t0 =>
            rw [hd] at ht
            simp only [Env.find] at ht
            cases hb:Nat.beq t0 t with
            | true=>exact ⟨i,o2,hie,by simp,ho,by rw [hd,Nat.eq_of_beq_eq_true hb]⟩
            | false =>
              rw [hb] at ht
              obtain ⟨e,o3,a1,a2,a3,a4⟩:=hE t d2 ht
              exact ⟨e,o3,a1,by simp [a2],a3,a4⟩
        · have hpe:envL (fun j=>(S j||decide (j=i)) && !(ef.contains j)) l ds 0 L=envL (fun j=>S j && !(ef.contains j)) l ds 0 L:=by
            congr 1
            funext j
            by_cases hji:j=i
            · subst hji;rw [List.contains_iff_mem.2 hie];simp
            · simp [hji]
          rw [hpe]
          refine ⟨⟨H',marks,PH.le_trans hle hl,hok',?_,by cases o2.dst <;> simpa [Act.put] using hdf⟩,by cases o2.dst <;> simp [Act.put,mm.size],mm.same.trans hso⟩
          unfold extE
          cases hd:o2.dst with
          | none=>exact henv.mono hl
          | some t0 =>
            have hlt:t0<Γ.N:=by simp only [dstOk,hd] at hdk;exact nB hdk
            exact (henv.mono hl).put (by rw [mm.size];exact hlt) hcv
      unfold GStep at hgs
      cases hg:o2.guard with
      | none =>
        rw [hg] at hgs
        simp only at hgs
        obtain ⟨R,hop,hrest⟩:=hgs
        simp only [Region.wanted,hg,if_true]
        refine hop Γ.round H (marks.map markA++Γ.fr) a w hok hsub next _ ?_
        intro v d ms' w' H' hR hl hok' hcv hso
        exact fin v d ms' w' H' (hrest d ms' hR) hl hok' hcv hso
      | some qq =>
        obtain ⟨j,want⟩:=qq
        rw [hg] at hgs
        simp only at hgs
        obtain ⟨s,u,h1,h2,h3⟩:=hgs
        have hfnd:=hag s _ (by simp [Ah,hg,h1]) h2
        rcases h3 with ⟨b,hu,h3⟩ | ⟨hu,h4⟩
        · subst hu
          have hy:=Cq (ops:=l.toArray) mm (j:=j) (t:=s) (b:=b) (by simpa using h1) hfnd
          simp only [Region.wanted,hg,hy]
          rcases h3 with ⟨h3,R,hop,hrest⟩ | ⟨h3,h4⟩
          · have hbq:(some b == some want)=true:=by rw [h3];simp
            rw [if_pos hbq]
            refine hop Γ.round H (marks.map markA++Γ.fr) a w hok hsub next _ ?_
            intro v d ms' w' H' hR hl hok' hcv hso
            exact fin v d ms' w' H' (hrest d ms' hR) hl hok' hcv hso
          · have hbq:(some b == some want)=false:=by rw [h3];cases want <;> rfl
            rw [if_neg (by rw [hbq];simp)]
            exact ⟨fun _ _=>trivial,fin undef (.v undef) msx w H h4 (PH.le_refl H) hok (conc_v.2 rfl) (SameOut.refl w)⟩
        · subst hu
          have hy:=BX (ops:=l.toArray) mm (j:=j) (t:=s) (by simpa using h1) hfnd
          simp only [Region.wanted,hg,hy]
          rw [if_neg (by cases want <;> simp)]
          exact ⟨fun _ _=>trivial,fin undef (.v undef) msx w H h4 (PH.le_refl H) hok (conc_v.2 rfl) (SameOut.refl w)⟩
    ·
      obtain ⟨d,hd⟩:∃ d,ds[i]? = some d:=⟨ds[i]'(by omega),by simp⟩
      obtain ⟨hdst,hst⟩:=hstep i o d hie ho hd
      have hnoE:∀ s,s∈Ah l o->Env.find E s=none:=by
        intro s hs
        cases hq:Env.find E s with
        | none=>rfl
        | some d2 =>
          obtain ⟨e,o3,a1,a2,a3,a4⟩:=hE s d2 hq
          obtain ⟨o4,b1,b3,_⟩:=hch.op e a1
          have:o4=o3:=by rw [a3] at b1;exact (Option.some.inj b1).symm
          subst this
          rcases (b3 s a4).2 i o ho hie with h5 | h5
          · exact absurd hs h5
          · have:=h5 S hc a2;rw [hunl] at this;cases this
      have agree:∀ s,s∈Ah l o->Env.find (E++envL (fun j=>S j && !(ef.contains j)) l ds 0 L) s=Env.find (envL (fun j=>decide (j<i) && !(ef.contains j)) l ds 0 L) s:=by
        intro s hsl
        rw [Az,hnoE s hsl]
        refine AW l ds 0 L L (fun j o' hj hd'=>?_) rfl
        simp only [Nat.zero_add]
        cases hfj:ef.contains j with
        | true=>simp
        | false =>
          simp only [Bool.not_false,Bool.and_true]
          by_cases hji:j=i
          · subst hji;rw [hunl];simp
          · have hn':=hf.names i o j o' s ho hj (fun e=>hji e.symm) hd' (.inl hsl)
            by_cases hlt:j<i
            · have h1:=(hn' _ hcs).1 hlt (by simp)
              simp only [hji,decide_false,Bool.or_false] at h1
              rw [h1];simp [hlt]
            · cases hb:S j with
              | true=>have h1:=(hn' _ hc).2 (by omega) hb;rw [hunl] at h1;cases h1
              | false=>simp [hlt]
      have hsub:EnvOk H (Env.only (Ah l o) (envL (fun j=>decide (j<i) && !(ef.contains j)) l ds 0 L)) a.tmps:=by
        intro s d' hfnd
        obtain ⟨h1,h2⟩:=DY hfnd
        exact henv s d' (by rw [agree s h1];exact h2)
      have hcf:=AU hie
      have nxt:∀ (v:Value) (w':World) (H':PH),PH.le H H'->HeapOk H' (msx++(marks.map markA++Γ.fr)) w'->Conc H' d v->SameOut w w'->next (a.put o.dst v) w':=by
        intro v w' H' hl hok' hcv hso
        refine hn _ _ ⟨R,E,msx,hRn,hRe,fun e he=>?_,h2',fun t d2 ht=>?_,?_⟩
        · have hne:e≠i:=fun h=>hie (h▸he)
          simp only [hne,decide_false,Bool.or_false]
          exact hm e he
        · obtain ⟨e,o3,a1,a2,a3,a4⟩:=hE t d2 ht
          exact ⟨e,o3,a1,by simp [a2],a3,a4⟩
        · refine ⟨⟨H',marks,PH.le_trans hle hl,hok',?_,by cases o.dst <;> simpa [Act.put] using hdf⟩,by cases o.dst <;> simp [Act.put,mm.size],mm.same.trans hso⟩
          intro s d' hfnd
          by_cases hds:o.dst=some s
          · have hno:Env.find E s=none:=by
              cases hq:Env.find E s with
              | none=>rfl
              | some d2 =>
                obtain ⟨e,o3,a1,_,a3,a4⟩:=hE s d2 hq
                obtain ⟨o4,b1,b3,_⟩:=hch.op e a1
                have:o4=o3:=by rw [a3] at b1;exact (Option.some.inj b1).symm
                subst this
                exact absurd hds ((b3 s a4).1 i o ho (fun h=>hie (h▸a1)))
            rw [Az,hno] at hfnd
            have hat:=Hc (S:=fun j=>((S j||decide (j=i)) && !(ef.contains j))) l ds 0 i L o ho hd hds (by simp [hie]) (fun j o' hj hlo hd'=>by
              simp only [Nat.zero_add]
              have hn':=hf.names i o j o' s ho hlo (by omega) hd' (.inr hds)
              cases hb:S j with
              | true=>have h1:=(hn' _ hc).2 hj hb;rw [hunl] at h1;cases h1
              | false => have:¬ j=i:=by omega
                         simp [this])
            rw [hat] at hfnd
            simp only [Option.some.injEq] at hfnd
            subst hfnd
            have hsz:s<a.tmps.size:=by
              have:=hdst
              simp only [dstOk,hds] at this
              have:=nB this
              rw [mm.size];exact this
            simp only [hds,Act.put]
            simpa [Array.getD,hsz] using hcv
          · have hcg:Env.find (E++envL (fun j=>(S j||decide (j=i)) && !(ef.contains j)) l ds 0 L) s=Env.find (E++envL (fun j=>S j && !(ef.contains j)) l ds 0 L) s:=by
              rw [Az,Az]
              rw [AW l ds 0 L L (fun j o' hj hd'=>?_) rfl]
              simp only [Nat.zero_add]
              have:¬ j=i:=fun e=>by subst e;rw [ho] at hj;simp only [Option.some.injEq] at hj;subst hj;exact hds hd'
              simp [this]
            rw [hcg] at hfnd
            have h1:=(henv s d' hfnd).mono hl
            have h2:(a.put o.dst v).tmps.getD s undef=a.tmps.getD s undef:=by
              cases hod:o.dst with
              | none=>rfl
              | some q =>
                have hq:q≠s:=fun e=>hds (by rw [hod,e])
                simp [Act.put,Array.getD_eq_getD_getElem?,Array.getElem?_setIfInBounds,hq]
            rw [h2]
            exact h1
      obtain ⟨msi,rest,hp,hst⟩:∃ msi rest,msx.Perm (msi++rest)/\Step P l o (envL (fun j=>decide (j<i) && !(ef.contains j)) l ds 0 L) msi d:=⟨[],msx,List.Perm.refl _,hst⟩
      have hokp:HeapOk H (msi++(rest++(marks.map markA++Γ.fr))) w:=hok.perm (by
        have:=hp.append_right (marks.map markA++Γ.fr)
        simpa [List.append_assoc] using this)
      have back:∀ {H':PH} {w':World},HeapOk H' (msi++(rest++(marks.map markA++Γ.fr))) w'->HeapOk H' (msx++(marks.map markA++Γ.fr)) w':=fun h=>h.perm (by
        have:=hp.symm.append_right (marks.map markA++Γ.fr)
        simpa [List.append_assoc] using this)
      unfold Step at hst
      cases hg:o.guard with
      | none =>
        rw [hg] at hst
        simp only at hst
        simp only [Region.wanted,hg,if_true]
        refine hst Γ.round H (rest++(marks.map markA++Γ.fr)) a w hokp hsub _ _ ?_
        rintro v d2 ms' w' H' ⟨rfl,rfl⟩ hl hok' hcv hso
        exact nxt v w' H' hl (back hok') hcv hso
      | some q =>
        obtain ⟨j,want⟩:=q
        rw [hg] at hst
        simp only at hst
        obtain ⟨s,u,h1,h2,h3⟩:=hst
        have hss:s∈Ah l o:=by simp [Ah,hg,h1]
        have hfnd:Env.find (E++envL (fun j=>S j && !(ef.contains j)) l ds 0 L) s=some (.v u):=by rw [agree s hss];exact h2
        rcases h3 with ⟨b,hu,h3⟩ | ⟨hu,h4⟩
        · subst hu
          have hy:=Cq (ops:=l.toArray) mm (j:=j) (t:=s) (b:=b) (by simpa using h1) hfnd
          simp only [Region.wanted,hg,hy]
          rcases h3 with ⟨h3,h4⟩ | ⟨h3,h4⟩
          · have hbq:(some b == some want)=true:=by rw [h3];simp
            rw [if_pos hbq]
            refine h4 Γ.round H (rest++(marks.map markA++Γ.fr)) a w hokp hsub _ _ ?_
            rintro v d2 ms' w' H' ⟨rfl,rfl⟩ hl hok' hcv hso
            exact nxt v w' H' hl (back hok') hcv hso
          · have hbq:(some b == some want)=false:=by rw [h3];cases want <;> rfl
            rw [if_neg (by rw [hbq];simp)]
            exact ⟨fun _ _=>trivial,nxt undef w H (PH.le_refl H) hok (by rw [h4];exact conc_v.2 rfl) (SameOut.refl w)⟩
        · subst hu
          have hy:=BX (ops:=l.toArray) mm (j:=j) (t:=s) (by simpa using h1) hfnd
          simp only [Region.wanted,hg,hy]
          rw [if_neg (by cases want <;> simp)]
          exact ⟨fun _ _=>trivial,nxt undef w H (PH.le_refl H) hok (by rw [h4];exact conc_v.2 rfl) (SameOut.refl w)⟩
def GDU (Γ:Ctx) (P:Program) (ops:List Oper) (ms:List Asrt) (K:KT) (ef:List Nat) (dep:Nat->Nat->Bool):Nat->List Oper->Env->Prop
 | _,[],L=>GDT Γ P ops K L dep (ef.length+1) ef [] ms
 | i,o::r,L=>if ef.contains i=true then GDU Γ P ops ms K ef dep (i+1) r L
  else ∃ d,dstOk o Γ.N/\Step P ops o L [] d/\GDU Γ P ops ms K ef dep (i+1) r (ext o d L)
theorem KX {ops:List Oper} {ef:List Nat} {dep:Nat->Nat->Bool}:∀ (r:List Oper) (i:Nat) (L:Env),GDU Γ P ops ms K ef dep i r L ->
    ∃ ds:List D,ds.length=r.length /\
      (∀ j o d,r[j]? = some o->ds[j]? = some d->ef.contains (i+j)=false->dstOk o Γ.N/\Step P ops o (envL (fun q=>decide (q<i+j) && !(ef.contains q)) r ds i L) [] d) /\
      GDT Γ P ops K (envL (fun q => !(ef.contains q)) r ds i L) dep (ef.length+1) ef [] ms
  | [],i,L,h=>⟨[],rfl,fun j o d hj=>by simp at hj,(show GDT Γ P ops K L dep (ef.length+1) ef [] ms from h)⟩
  | o::r,i,L,h=>by
    have hsh:∀ j,i+(j+1)=i+1+j:=fun j=>by omega
    unfold GDU at h
    cases hc:ef.contains i with
    | true =>
      rw [if_pos hc] at h
      obtain ⟨ds,e1,e2,e3⟩:=KX r (i+1) L h
      have hS:∀ m,(decide (i<m) && !(ef.contains i))=false:=fun m=>by rw [hc];simp
      refine ⟨.v undef::ds,by simp [e1],fun j o' d' hj hdj hcj=>?_,?_⟩
      · cases j with
        | zero=>rw [Nat.add_zero] at hcj;rw [hc] at hcj;cases hcj
        | succ j =>
          simp only [List.getElem?_cons_succ] at hj hdj
          rw [hsh] at hcj ⊢
          simp only [envL,hS,Bool.false_eq_true,if_false]
          exact e2 j o' d' hj hdj hcj
      · simp only [envL]
        rw [if_neg (by rw [hc];simp)]
        exact e3
    | false =>
      rw [if_neg (by rw [hc];simp)] at h
      obtain ⟨d,hdk,hst,hrest⟩:=h
      obtain ⟨ds,e1,e2,e3⟩:=KX r (i+1) (ext o d L) hrest
      have hS:∀ j,(decide (i<i+1+j) && !(ef.contains i))=true:=fun j=>by rw [hc];simp;omega
      have hL0:envL (fun q=>decide (q<i+0) && !(ef.contains q)) (o::r) (d::ds) i L=L:=by
        rw [Nat.add_zero,Cd _ _ _ _ (fun q hq=>by have:¬ q<i:=by omega
                                                  simp [this])]
      refine ⟨d::ds,by simp [e1],fun j o' d' hj hdj hcj=>?_,?_⟩
      · cases j with
        | zero =>
          simp only [List.getElem?_cons_zero,Option.some.injEq] at hj hdj
          subst hj hdj
          exact ⟨hdk,by rw [hL0];exact hst⟩
        | succ j =>
          simp only [List.getElem?_cons_succ] at hj hdj
          rw [hsh] at hcj ⊢
          simp only [envL,hS,if_true]
          exact e2 j o' d' hj hdj hcj
      · simp only [envL]
        rw [if_pos (by rw [hc];rfl)]
        exact e3
theorem R3 {id:Nat} (ef:List Nat) (hm:P.follows .mixedOrders=true) (hf:flowB l l.length=true) (hch:treeB l ef=true) (hnd:ef.Nodup) (dep:Nat->Nat->Bool) (hdep:depB l=dep) (h:GDU Γ P l ms K ef dep 0 l L):G Γ P (.region id l.toArray true) L ms K:=by
 subst hdep
 intro a w m
 refine wpIn_region_draw fun t=>?_;simp only [Region.schedule,hm,Bool.true_or,if_true]
 have hfo:=IM hf
 obtain ⟨ds,e1,e2,e3⟩:=KX _ _ _ h;simp only [Nat.zero_add] at e2;refine QY (L:=L) (ms:=ms) hfo (Tx hch) hnd ds e1 ?_ e3 l.toArray.size (Array.replicate l.toArray.size false) t a { w with drawn:=w.drawn+1 } (by simp) ?_ ?_ ?_ ?_
 ·intro i o d hie ho hd
  exact e2 i o d ho hd (AU hie)
 ·intro j o hj hS
  simp [Array.getD] at hS
 ·intro i _;simp [Array.getD]
 ·have:=List.length_filter_le (fun i => !(Array.replicate l.toArray.size false).getD i false) (List.range l.length)
  simpa using this
 ·have hz:∀ j,(Array.replicate l.toArray.size false).getD j false=false:=fun j=>by simp [Array.getD]
  refine ⟨ef,[],ms,hnd,fun e he=>he,fun e he=>by rw [hz];simp [he],e3,fun t d ht=>by simp [Env.find] at ht,?_⟩;rw [List.nil_append,Cd _ _ _ _ (fun q _=>by rw [hz];rfl)];obtain ⟨H,marks,hle,hok,henv,hdf⟩:=m.ex;exact ⟨⟨H,marks,hle,hok.drew _,henv,hdf⟩,m.size,⟨m.same.os,m.same.output,m.same.tape,m.same.size⟩⟩
theorem Kl {ops r:List Oper} {ef:List Nat} {dep:Nat->Nat->Bool} {n:Nat} {o:Oper} (hc:ef.contains n=true) (k:GDU Γ P ops ms K ef dep (n+1) r L):GDU Γ P ops ms K ef dep n (o::r) L:=by
 unfold GDU;rw [if_pos hc];exact k
theorem P6 {ops r:List Oper} {ef:List Nat} {dep:Nat->Nat->Bool} {n:Nat} {o:Oper} {d:D} {i:Nat} (hc:ef.contains n=false) (hg:o.guard=none) (hd:o.dst=some i) (hi:Nat.blt i Γ.N=true) (h:OpP P o (Env.only (Ah ops o) L) [] d) (k:GDU Γ P ops ms K ef dep (n+1) r ((i,d)::L)):GDU Γ P ops ms K ef dep n (o::r) L:=by
 unfold GDU;rw [if_neg (by rw [hc];simp)];refine ⟨d,by simp only [dstOk,hd];exact hi,by simp only [Step,hg];exact h,?_⟩;simp only [ext,hd];exact k
theorem S2 {ops:List Oper} {ef:List Nat} {dep:Nat->Nat->Bool} {n:Nat} (h:GDT Γ P ops K L dep (ef.length+1) ef [] ms):GDU Γ P ops ms K ef dep n [] L:=h
def GDS (Γ:Ctx) (P:Program) (ops:List Oper) (K:KT) (L:Env) (dep:Nat->Nat->Bool) (n:Nat) (R:List Nat) (e:Nat) (E:Env) (ms:List Asrt):Prop:=
 ∀ o,ops[e]? = some o->dstOk o Γ.N/\GStep P ops o (E++L) ms (fun d ms'=>GDT Γ P ops K L dep n (R.erase e) (extE o d E) ms') (GDT Γ P ops K L dep n (R.erase e) (extE o (.v undef) E) ms)
def enT (dep:Nat->Nat->Bool) (R:List Nat):List Nat:=R.filter fun e=>R.all fun e' => !(dep e e')
section
variable {ops:List Oper} {dep:Nat->Nat->Bool} {n:Nat} {R:List Nat} {E:Env} {msx:List Asrt}
theorem PE (hR:R≠[]) (h:∀ e∈enT dep R,GDS Γ P ops K L dep n R e E msx):GDT Γ P ops K L dep (n+1) R E msx:=by
 refine ⟨fun h0=>absurd h0 hR,fun e he hen=>h e ?_⟩;unfold enT;exact List.mem_filter.2 ⟨he,hen⟩
theorem Tj (h:K .normal (E++L) msx):GDT Γ P ops K L dep (n+1) [] E msx:=⟨fun _=>h,fun e he=>by cases he⟩
theorem SL {e:Nat} (hen:enT dep R=[e]) (h:GDS Γ P ops K L dep n R e E msx):GDT Γ P ops K L dep (n+1) R E msx:=by
 refine PE (fun h0=>by subst h0;cases hen) fun e' he=>?_;rw [hen,List.mem_singleton] at he;subst he;exact h
theorem SZ {e e':Nat} (hen:enT dep R=[e,e']) (h:GDS Γ P ops K L dep n R e E msx) (h':GDS Γ P ops K L dep n R e' E msx):GDT Γ P ops K L dep (n+1) R E msx:=by
 refine PE (fun h0=>by subst h0;cases hen) fun e2 he=>?_;rw [hen] at he;simp only [List.mem_cons,List.not_mem_nil,or_false] at he
 rcases he with rfl | rfl
 ·exact h
 ·exact h'
theorem NJ {e i:Nat} {R':List Nat} {o:Oper} {Q:D->List Asrt->Prop} (ho:ops[e]? = some o) (hg:o.guard=none) (hd:o.dst=some i) (hi:Nat.blt i Γ.N=true) (hR:R.erase e=R') (h:OpT P o (Env.only (Ah ops o) (E++L)) msx Q) (k:∀ d ms',Q d ms'->GDT Γ P ops K L dep n R' ((i,d)::E) ms'):GDS Γ P ops K L dep n R e E msx:=by
 intro o' ho'
 have:o'=o:=by rw [ho] at ho';exact (Option.some.inj ho').symm
 subst this;refine ⟨by simp only [dstOk,hd];exact hi,?_⟩;unfold GStep;rw [hg];refine ⟨Q,h,fun d ms' hQ=>?_⟩
 have:=k d ms' hQ
 rw [hR]
 simpa [extE,hd] using this
end
theorem Ri {c:Code} {σ:Type _} (mod:σ->Env) (own:σ->List Asrt) (h:G Γ P c L ms (KT.then (fun L' ms'=>∃ s,(∀ t d,Env.find (mod s++L) t=some d->Env.find L' t=some d)/\ms'.Perm (own s)) K)) (k:∀ s,K .normal (mod s++L) (own s)):G Γ P c L ms K:=by
 intro a w m
 refine wpIn_mono (h a w m) ?_;rintro e a' w' ⟨L',ms',k',m'⟩
 cases e with
 | normal =>
  obtain ⟨s,h1,h2⟩:=k';exact ⟨_,_,k s,Fv (Hv m' h1) h2⟩
 | _=>exact ⟨L',ms',k',m'⟩
theorem BY {ops:List Oper} {dep:Nat->Nat->Bool} {n:Nat} {E:Env} {msx:List Asrt} {σ:Type _} {env:σ->Env} {own:σ->List Asrt} (s:σ) (h1:∀ t d,Env.find (env s) t=some d->Env.find (E++L) t=some d) (h2:msx.Perm (own s)) :
  GDT Γ P ops (KT.then (fun L' ms'=>∃ s,(∀ t d,Env.find (env s) t=some d->Env.find L' t=some d)/\ms'.Perm (own s)) K) L dep (n+1) [] E msx:=Tj ⟨s,h1,h2⟩
theorem K6:∀ {E:Env} {t:Nat} {d:D},Env.find E t=some d->∃ p∈E,p.1=t
 | [],t,d,h=>by simp [Env.find] at h
 | (k,d0)::E,t,d,h=>by
  simp only [Env.find] at h
  cases hb:Nat.beq k t with
  | true=>exact ⟨(k,d0),by simp,Nat.eq_of_beq_eq_true hb⟩
  | false =>
   rw [hb] at h;obtain ⟨p,hp,e⟩:=K6 h;exact ⟨p,by simp [hp],e⟩
theorem SO {M0 N0 B:Env} (h1:∀ p∈M0,Env.find (N0++B) p.1=Env.find (M0++B) p.1) (h2:∀ q∈N0,(Env.find M0 q.1).isSome=true\/Env.find B q.1=none):∀ t d,Env.find (M0++B) t=some d->Env.find (N0++B) t=some d:=by
 intro t d h
 cases hm:Env.find M0 t with
 | some d1 =>
  obtain ⟨p,hp,rfl⟩:=K6 hm;rw [h1 p hp];exact h
 | none =>
  rw [Az,hm] at h
  simp only at h
  rw [Az]
  cases hn:Env.find N0 t with
  | none=>exact h
  | some d1 =>
   obtain ⟨q,hq,rfl⟩:=K6 hn
   rcases h2 q hq with h3 | h3
   ·rw [hm] at h3;cases h3
   ·rw [h3] at h;cases h
end
end Go.V
namespace Go.V
def holeF {α:Type} (f:α->D) (d:D):Option α->D
 | some x=>f x
 | none=>d
section
variable {L:Env} {ms:List Asrt}
theorem EU {α:Type} {l:List α} {i:Int} {z:α} (h:idx l i=some z):((l.map some).set i.toNat none)[i.toNat]? = some none:=by
 obtain ⟨_,h1⟩:=Am h
 have:=(List.getElem?_eq_some_iff.1 h1).1
 rw [List.getElem?_set_self (by simpa using this)]
theorem RY {α:Type} {l:List α} {i:Int} {z:α} (h:idx l i=some z):(l.map some)[i.toNat]? = some (some z):=by
 obtain ⟨_,h1⟩:=Am h;rw [List.getElem?_map,h1];rfl
theorem G0 {α:Type} {l:List α} {i:Int} {x v v':α} (h:idx l i=some x):((l.set i.toNat v).set i.toNat v')[i.toNat]? = some v':=by
 have:=(List.getElem?_eq_some_iff.1 (Am h).2).1
 rw [List.getElem?_set_self (by simpa using this)]
theorem Nf {α:Type} {f:α->D} {l:List α} {a:Option Addr} {m cap sz:Nat} {T:TypeId} (d:D) (k:Nat) (hk:ms[k]? = some (arr a m cap T sz f l)) {ms':List Asrt} (hms:ms.set k (arr a m cap T sz (holeF f d) (l.map some))=ms'):Refines L ms L ms':=by
 subst hms
 intro Γ act w mm
 obtain ⟨H,marks,hle,hok,henv,hdf⟩:=mm.ex
 have hok1:=hok.perm (BW hk)
 obtain ⟨h0,h1,h2,h3⟩:=hok1.ok _ (List.mem_cons_self ..)
 have hup:HeapOk H (arr a m cap T sz (holeF f d) (l.map some)::(ms.eraseIdx k++(marks.map markA++Γ.fr))) w:=by
  refine hok1.upd rfl (Nat.le_refl _) (fun _ _ _=>rfl) (fun _ _ _ _=>rfl) (PH.le_refl H) (fun b o v _ hv=>hok1.sub b o v hv) ⟨by simpa using h0,by simpa using h1,h2,?_⟩
  rcases h3 with ⟨ha,hl,hc⟩ | ⟨b,vs,us,ha,hb,hl,he,ht,hn⟩
  ·exact .inl ⟨ha,by simp [hl],hc⟩
  ·refine .inr ⟨b,vs,us,ha,hb,hl,⟨by simpa using he.1,fun i x hx=>?_⟩,by simpa using ht,hn⟩
   rw [List.getElem?_map,Option.map_eq_some_iff] at hx;obtain ⟨y,hy,rfl⟩:=hx;exact he.2 i y hy
 exact ⟨⟨H,marks,hle,hup.perm (A4 hk),henv,hdf⟩,mm.size,mm.same⟩
theorem LS {α:Type} {f:α->D} {l:List α} {a a2:Option Addr} {m cap sz cap2 n2 i:Nat} {T T2:TypeId} {cs:List D} {sz2:Nat} {β:Type} {f2:β->D} {l2:List β} {z':α} (k k2 q:Nat) (hk:ms[k]? = some (arr a m cap T sz (holeF f (.agg cs)) ((l.map some).set i none))) (hk2:ms[k2]? = some (row a2 cap2 T2 sz2 f2 l2)) (hq:cs[q]? = some (.v (.slice a2 n2 cap2))) (hn:l2.length=n2) (hz:f z' = .agg (cs.set q (.list sz2 f2 l2)))
  {ms':List Asrt} (hms:ms.set k (arr a m cap T sz f (l.set i z'))=ms'):Refines L ms L ms':=by
 subst hms hn
 intro Γ act w mm
 obtain ⟨H,marks,hle,hok,henv,hdf⟩:=mm.ex
 have he2:=NE (T:=T2) hok (List.mem_append_left _ (List.mem_of_getElem? hk2))
 have hok1:=hok.perm (BW hk)
 obtain ⟨h0,h1,h2,h3⟩:=hok1.ok _ (List.mem_cons_self ..)
 have hup:HeapOk H (arr a m cap T sz f (l.set i z')::(ms.eraseIdx k++(marks.map markA++Γ.fr))) w:=by
  refine hok1.upd rfl (Nat.le_refl _) (fun _ _ _=>rfl) (fun _ _ _ _=>rfl) (PH.le_refl H) (fun b o v _ hv=>hok1.sub b o v hv) ⟨by simpa using h0,by simpa using h1,h2,?_⟩
  rcases h3 with ⟨ha,hl,hc⟩ | ⟨b,vs,us,ha,hb,hl,he,ht,hn⟩
  ·refine .inl ⟨ha,?_,hc⟩
   have:l.length=0:=by simpa using congrArg List.length hl
   have:l=[]:=List.length_eq_zero_iff.1 this
   simp [this]
  ·refine .inr ⟨b,vs,us,ha,hb,hl,⟨by simpa using he.1,fun j x hx=>?_⟩,by simpa using ht,hn⟩
   rw [List.getElem?_set] at hx
   split at hx
   ·rename_i hij
    subst hij
    split at hx
    ·rename_i hlt
     cases hx
     obtain ⟨ws,e1,e2,e3⟩:=he.2 i none (by rw [List.getElem?_set_self (by simpa using hlt)]);refine ⟨ws,?_,e2,e3⟩;rw [hz]
     have e1':EncL H cs ws:=by simpa [Enc,holeF] using e1
     have:=JG cs ws q _ _ e1' hq he2
     simpa [Enc] using this
    ·cases hx
   ·rename_i hij
    exact he.2 j (some x) (by rw [List.getElem?_set_ne hij,List.getElem?_map,hx];rfl)
 exact ⟨⟨H,marks,hle,hup.perm (A4 hk),henv,hdf⟩,mm.size,mm.same⟩
end
end Go.V
namespace Go.V
section
variable {Γ:Ctx} {P:Program} {L:Env} {K:KT} {ops:List Oper} {dep:Nat->Nat->Bool} {n:Nat} {R:List Nat} {E:Env} {msx:List Asrt}
theorem Qz {e e' e'':Nat} (hen:enT dep R=[e,e',e'']) (h:GDS Γ P ops K L dep n R e E msx) (h':GDS Γ P ops K L dep n R e' E msx) (h'':GDS Γ P ops K L dep n R e'' E msx):GDT Γ P ops K L dep (n+1) R E msx:=by
 refine PE (fun h0=>by subst h0;cases hen) fun e2 he=>?_;rw [hen] at he;simp only [List.mem_cons,List.not_mem_nil,or_false] at he
 rcases he with rfl | rfl | rfl
 ·exact h
 ·exact h'
 ·exact h''
theorem Un {e:Nat} {R':List Nat} {o:Oper} {Q:D->List Asrt->Prop} (ho:ops[e]? = some o) (hg:o.guard=none) (hd:o.dst=none) (hR:R.erase e=R') (h:OpT P o (Env.only (Ah ops o) (E++L)) msx Q) (k:∀ d ms',Q d ms'->GDT Γ P ops K L dep n R' E ms'):GDS Γ P ops K L dep n R e E msx:=by
 intro o' ho'
 have:o'=o:=by rw [ho] at ho';exact (Option.some.inj ho').symm
 subst this;refine ⟨by simp [dstOk,hd],?_⟩;unfold GStep;rw [hg];refine ⟨Q,h,fun d ms' hQ=>?_⟩
 have:=k d ms' hQ
 rw [hR]
 simpa [extE,hd] using this
end
end Go.V
