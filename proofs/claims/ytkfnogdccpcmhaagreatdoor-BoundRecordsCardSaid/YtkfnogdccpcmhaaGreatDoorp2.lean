/- Part 2 of the proof: a program logic, what the functions compute, and what these answer; no condition. -/
import Derived.Test.YtkfnogdccpcmhaaGreatDoorp1
import Derived.Laws.Cover3
import Derived.Laws.RangeString
import Derived.Lib.Bytealg
import Derived.Sort.OwnSortedInts
import Derived.Lib.SlicesCompact
import Derived.Conc.LoneSelectN
import Derived.Conc.LoneSelect
set_option linter.unusedVariables false
set_option linter.unusedSimpArgs false
namespace Go.V
section
variable {P:Program} {L L':Env} {ms:List Asrt} {dst:Option Nat} {ty:TypeId} {pos:String} {after:Array Edge} {g:Option (Nat×Bool)} {d d':D} {x y:Operand} {t t':TypeId}
theorem Mi (z:Array Value) (sz n:Nat) (hz:z.size=sz) (h0:0<sz) (i:Nat) (hi:i<n) (j:Nat) (hj:j<sz):(madeCells z (n*sz)).toList[i*sz+j]? = z.toList[j]? := by
 have hin:i*sz+j<n*sz:=by
  calc i*sz+j<i*sz+sz:=by omega
   _=(i+1)*sz:=by rw [Nat.add_mul];omega
   _<=n*sz:=Nat.mul_le_mul_right _ hi
 subst hz
 have hm:(i*z.size+j) % z.size=j:=by rw [Nat.mul_comm,Nat.mul_add_mod];exact Nat.mod_eq_of_lt hj
 simp [madeCells,Array.toList_range,List.getElem?_map,List.getElem?_range,hin,hm,hj]
theorem Fh {e:TypeId} {sz:Nat} {z:Value} {i:TypeInfo} {α:Type} {f:α->D} {z0:α} {n:Int} {ik:IntKind} (ht:P.underlying t=some (.slice e)) (hi:P.info? e=some i) (hz:i.zero=some z) (hsz:i.size=sz) (hzs:z.cells.size=sz) (h0:0<sz)
  (hx:Env.ev L x=some (.v (.int ik n))) (hm:Iq (f z0).cs z.cells.toList=true) (hn:0<=n) (hb:n.toNat*i.bytes<=140737488355328) (hb0:0<i.bytes) :
  OpT P ⟨dst,.makeSlice t x x,ty,pos,after,g⟩ L ms (fun d ms'=>∃ a m cap,d = .v (.slice a m cap)/\ms'=arr a m cap e sz f (List.replicate n.toNat z0)::ms):=by
 refine .val (by simp) fun H fr act w hok henv=>?_;subst hsz
 have hnb:n.toNat<=n.toNat*i.bytes:=Nat.le_mul_of_pos_right _ hb0
 have hbI:(i.bytes:Int)*n<=281474976710656:=by
  have:(i.bytes:Int)*n=((n.toNat*i.bytes:Nat):Int):=by rw [Int.natCast_mul,Int.toNat_of_nonneg hn,Int.mul_comm]
  rw [this];omega
 have hr:=run_make (P:=P) w t e i z ht hi hz ik ik n n hn (Int.le_refl _) hbI (by omega)
 have hown:=hok.own (o := .cells (madeCells z.cells (n.toNat*i.size)) e) (A:=arr (some ⟨w.heap.size,0,none⟩) n.toNat n.toNat e i.size f (List.replicate n.toNat z0)) rfl ?_
 ·refine ⟨.slice (some ⟨w.heap.size,0,none⟩) n.toNat n.toNat,.v (.slice (some ⟨w.heap.size,0,none⟩) n.toNat n.toNat),_,_,H,by simp [execOp,Be henv hx,hr,Sem.run],⟨_,_,_,rfl,rfl⟩,PH.le_refl H,hown,conc_v.2 (by simp),Bd _ _⟩
 ·have hsz:=size_madeCells z.cells (n.toNat*i.size)
  refine ⟨by simp,by simp,by simp only [maxLen];omega,.inr ⟨w.heap.size,(madeCells z.cells (n.toNat*i.size)).toList,(madeCells z.cells (n.toNat*i.size)).toList,rfl,?_,?_,⟨?_,?_⟩,?_,fun o=>hok.none_new _ _ (Nat.le_refl _)⟩⟩
  ·show (w.alloc _).heap[w.heap.size]? = _
   rw [AK]
  ·rw [Array.length_toList,hsz]
  ·rw [Array.length_toList,hsz];simp
  ·intro q x hq
   rw [List.getElem?_replicate] at hq
   split at hq
   ·rename_i hqn
    simp only [Option.some.injEq] at hq;subst hq;refine ⟨z.cells.toList,Pe (Hu _ _ hm).1,by rw [Array.length_toList,hzs],fun j u hj=>?_⟩;rw [Mi z.cells i.size n.toNat hzs h0 q hqn j (by rw [<- hzs,<- Array.length_toList];exact (List.getElem?_eq_some_iff.1 hj).1)];exact hj
   ·cases hq
  ·rw [List.length_replicate,List.take_of_length_le (by rw [Array.length_toList,hsz];exact Nat.le_refl _)]
theorem JO {a:Option Addr} {m cap:Nat} {T:TypeId} {sz:Nat} {α:Type} {f:α->D} {l:List α} (k:Nat) (hk:ms[k]? = some (arr a m cap T sz f l)) {ms':List Asrt} (hms:ms.set k (row a cap T sz f l)=ms'):Refines L ms L ms':=by
 subst hms
 intro Γ act w mm
 obtain ⟨H,marks,hle,hok,henv,hdf⟩:=mm.ex
 have hok1:=hok.perm (BW hk)
 obtain ⟨h0,h1,h2,h3⟩:=hok1.ok _ (List.mem_cons_self ..)
 rcases h3 with ⟨ha,hl,hc⟩ | ⟨b,vs,us,ha,hb,hvl,he,ht,hn⟩
 ·have hup:HeapOk H (row a cap T sz f l::(ms.eraseIdx k++(marks.map markA++Γ.fr))) w:=
   hok1.upd rfl (Nat.le_refl _) (fun _ _ _=>rfl) (fun _ _ _ _=>rfl) (PH.le_refl H) (fun b o v _ hv=>hok1.sub b o v hv) ⟨h1,h2,.inl ⟨ha,hl,hc⟩⟩
  exact ⟨⟨H,marks,hle,hup.perm (A4 hk),henv,hdf⟩,mm.size,mm.same⟩
 ·subst ha
  let H':PH:=fun b' o=>if b'=b then us[o]? else H b' o
  have hle':PH.le H H':=by
   intro b' o v hv
   show (if b'=b then us[o]? else H b' o)=some v
   by_cases hb':b'=b
   ·subst hb';rw [hn] at hv;cases hv
   ·rw [if_neg hb'];exact hv
  have huv:∀ (o:Nat) u,us[o]? = some u->vs[o]? = some u:=fun o u h=>by
   rw [<- ht,List.getElem?_take] at h
   split at h
   ·exact h
   ·cases h
  have hup:HeapOk H' (row (some ⟨b,0,none⟩) cap T sz f l::(ms.eraseIdx k++(marks.map markA++Γ.fr))) w:=by
   refine hok1.upd rfl (Nat.le_refl _) (fun _ _ _=>rfl) ?_ hle' ?_ ⟨h1,h2,.inr ⟨b,vs,us,rfl,hb,hvl,he.mono hle',ht,?_,?_⟩⟩
   ·intro b' o _ hnb
    have:b'≠b:=fun e=>hnb (by simp [arr,e])
    show (if b'=b then us[o]? else H b' o)=H b' o
    rw [if_neg this]
   ·intro b' o v _ hv
    have hv:(if b'=b then us[o]? else H b' o)=some v:=hv
    by_cases hbb:b'=b
    ·subst hbb
     rw [if_pos rfl] at hv
     simp [World.cell?,hb,huv _ _ hv]
    ·rw [if_neg hbb] at hv;exact hok1.sub b' o v hv
   ·intro j u hj
    show (if b=b then us[j]? else H b j)=some u
    rw [if_pos rfl];exact hj
   ·intro o ho
    show (if b=b then us[o]? else H b o)=none
    rw [if_pos rfl,List.getElem?_eq_none (by rw [he.1];exact ho)]
  exact ⟨⟨H',marks,PH.le_trans hle hle',hup.perm (A4 hk),henv.mono hle',hdf⟩,mm.size,mm.same⟩
theorem PQ {Γ:Ctx} {a:Option Addr} {m cap:Nat} {T:TypeId} {sz:Nat} {α:Type} {f:α->D} {l:List α} {act:Act} {w:World} (k:Nat) (hk:ms[k]? = some (arr a m cap T sz f l)) (mm:Models Γ L ms act w):l.length=m:=by
 obtain ⟨H,marks,hle,hok,henv,hdf⟩:=mm.ex;exact (hok.ok _ (List.mem_append_left _ (List.mem_of_getElem? hk))).1
theorem Gu {Γ:Ctx} {K:KT} {ops:Array Oper} {r:List Oper} {a:Option Addr} {m cap:Nat} {T:TypeId} {sz:Nat} {α:Type} {f:α->D} {l:List α} (k:Nat) (hk:ms[k]? = some (arr a m cap T sz f l)) {ms':List Asrt} (hms:ms.set k (row a cap T sz f l)=ms') (h:l.length=m->GO Γ P ops r L ms' K):GO Γ P ops r L ms K:=
 fun act w mm=>h (PQ k hk mm) act w (JO k hk hms Γ act w mm)
theorem IW {Γ:Ctx} {K:KT} {c:Code} {a:Option Addr} {m cap:Nat} {T:TypeId} {sz:Nat} {α:Type} {f:α->D} {l:List α} (k:Nat) (hk:ms[k]? = some (arr a m cap T sz f l)) {ms':List Asrt} (hms:ms.set k (row a cap T sz f l)=ms') (h:l.length=m->G Γ P c L ms' K):G Γ P c L ms K:=
 fun act w mm=>h (PQ k hk mm) act w (JO k hk hms Γ act w mm)
theorem G9 {a:Option Addr} {e:TypeId} {sz:Nat} {α:Type} {f:α->D} {zs:List α} {i:TypeInfo} {z:Value} {n cap:Nat} (k:Nat) (ht:P.underlying t=some (.slice e)) (hi:P.info? e=some i) (hz:i.zero=some z) (hsz:i.size=sz) (hzs:z.cells.size=sz)
  (hx:Env.ev L x=some (.v (.slice a n cap))) (hn:n=0) (hcap:cap=0) (hk:ms[k]? = some (row a cap e sz f ([]:List α))) (hy:Env.ev L y=some (.list sz f zs))
  (hb:zs.length*i.bytes<=140737488355328) (h63:zs.length<=maxLen) :
  OpT P ⟨dst,.call ⟨.builtin .append,#[x,y],#[t,t]⟩,ty,pos,after,g⟩ L ms (fun d' ms'=>∃ a' cap',d' = .v (.slice a' zs.length cap')/\ms'=ms.set k (arr a' zs.length cap' e sz f zs)):=by
 subst hn hcap hsz;refine .val (by simp) fun H fr act w hok henv=>?_
 have hok1:=hok.perm (BW hk)
 obtain ⟨r1,r2,r3⟩:=hok1.ok _ (List.mem_cons_self ..);obtain ⟨ya,yc,hyv,y1,y2,y3⟩:=Eq (henv.ev hy)
 have hrun:∀ {v:Value} {w':World},(Builtin.append_ #[t,t] ty #[.slice a 0 0,.slice ya zs.length yc]).run P w = .ok v w' ->
   (execOp act.eval ⟨dst,.call ⟨.builtin .append,#[x,y],#[t,t]⟩,ty,pos,after,g⟩).run P w = .ok (.value v) w':=by
  intro v w' h
  simp [execOp,resolve,invoke,builtin,Be henv hx,hyv,Sem.run,h]
 have h63':zs.length<=9223372036854775807:=by simpa [maxLen] using h63
 by_cases hz0:zs=[]
 ·subst hz0
  have hr:(Builtin.append_ #[t,t] ty #[.slice a 0 0,.slice ya 0 yc]).run P w = .ok (.slice a 0 0) w:=by
   have hf:(Builtin.firstCells i.size 0 (.slice ya 0 yc)).run P w = .ok #[] w:=by
    cases ya with
    | none=>simp [Builtin.firstCells,Sem.run]
    | some q=>simp [Builtin.firstCells,loadCells,loadCellsFrom,Sem.run]
   cases a with
   | none=>simp [Builtin.append_,run_underlying ht,sizeOf,typeInfo,hi,Builtin.lenOf,hf,Sem.run]
   | some q=>simp [Builtin.append_,run_underlying ht,sizeOf,typeInfo,hi,Builtin.lenOf,hf,storeCells,Sem.run]
  refine ⟨.slice a 0 0,_,_,w,H,hrun hr,⟨a,0,rfl,rfl⟩,PH.le_refl H,?_,conc_v.2 (by simp),SameOut.refl w⟩;refine HeapOk.perm (A4 hk) ?_;refine hok1.upd (A':=arr a 0 0 e i.size f ([]:List α)) rfl (Nat.le_refl _) (fun _ _ _=>rfl) (fun _ _ _ _=>rfl) (PH.le_refl H) (fun b o v _ hv=>hok1.sub b o v hv) ⟨rfl,r1,r2,?_⟩
  rcases r3 with r3 | ⟨b,vs,us,h1,h2,h3,h4,h5,h6,h7⟩
  ·exact .inl r3
  ·exact .inr ⟨b,vs,us,h1,h2,h3,h4,h5,fun o=>h7 o (by simp)⟩
 ·rcases y3 with y3 | ⟨yb,yo,hya,hyel⟩
  ·exact absurd y3 hz0
  ·subst hya
   obtain ⟨us,ue,uh⟩:=I7 hyel
   have hpos:0<zs.length:=List.length_pos_iff.2 hz0
   have hnews:∀ j v,us[j]? = some v->w.cell? ((⟨yb,yo,none⟩:Addr).add j)=some v:=fun j v hj=>by rw [Bj];exact hok.sub _ _ _ (uh j v hj)
   have hr:(Builtin.append_ #[t,t] ty #[.slice a 0 0,.slice (some ⟨yb,yo,none⟩) zs.length yc]).run P w =
     .ok (.slice (some ⟨w.heap.size,0,none⟩) zs.length (grownCap w zs.length 0 e)) (w.drew.alloc (.cells (us.toArray++Builtin.zeroCells z.cells (grownCap w zs.length 0 e - zs.length)) e)):=by
    rcases r3 with ⟨ha,_,_⟩ | ⟨b,vs,us',ha,hbk,hvl,ole,htake,hH,hnone⟩
    ·subst ha
     exact run_append_nil (P:=P) w t ty e i z ht hi hz ⟨yb,yo,none⟩ zs.length yc us ue.1 hnews hpos (by omega) (by omega)
    ·subst ha
     have hus':us'=[]:=List.length_eq_zero_iff.1 (by rw [ole.1];simp)
     subst hus'
     have hvs:vs=[]:=List.length_eq_zero_iff.1 (by rw [hvl];simp)
     subst hvs
     have:=run_append_grow (P:=P) w t ty e i z ht hi hz ⟨b,0,none⟩ 0 0 [] (by simp) (fun j v hj=>by simp at hj) ⟨yb,yo,none⟩ zs.length yc us ue.1 hnews (by omega) (by omega) (by rw [Nat.zero_add,nextslicecap_zero hpos];omega)
     simpa using this
   have hge:zs.length<=grownCap w zs.length 0 e:=grownCap_ge w zs.length 0 e
   have hcm:grownCap w zs.length 0 e<=maxLen:=grownCap_le_maxLen w zs.length 0 e (by simp only [maxLen];omega)
   let cells:List Value:=us++(Builtin.zeroCells z.cells (grownCap w zs.length 0 e - zs.length)).toList
   have hcells:(us.toArray++Builtin.zeroCells z.cells (grownCap w zs.length 0 e - zs.length))=cells.toArray:=by apply Array.ext';simp [cells]
   rw [hcells] at hr
   have hd:HeapOk H (ms.eraseIdx k++fr) w.drew:=(hok1.tail).drew _
   have hown:=hd.own (o := .cells cells.toArray e) (A:=arr (some ⟨w.heap.size,0,none⟩) zs.length (grownCap w zs.length 0 e) e i.size f zs) rfl ?_
   ·refine ⟨_,_,_,_,H,hrun hr,⟨_,_,rfl,rfl⟩,PH.le_refl H,hown.perm (A4 hk),conc_v.2 rfl,?_⟩
    exact ⟨rfl,rfl,rfl,by have:=BH w.drew (.cells cells.toArray e);rw [this];show w.heap.size<=w.heap.size+1;omega⟩
   ·refine ⟨rfl,hge,hcm,.inr ⟨w.heap.size,cells,us,rfl,AK w.drew _,?_,ue,?_,fun o=>hok.none_new _ _ (Nat.le_refl _)⟩⟩
    ·have hzl:(Builtin.zeroCells z.cells (grownCap w zs.length 0 e - zs.length)).toList.length=(grownCap w zs.length 0 e - zs.length)*z.cells.size:=by rw [Array.length_toList,size_zeroCells]
     simp only [cells];rw [List.length_append,ue.1,hzl,hzs,<- Nat.add_mul]
     congr 1
     omega
    ·simp only [cells]
     rw [<- ue.1];exact List.take_left
theorem JG {H:PH}:∀ (cs:List D) (vs:List Value) (q:Nat) (d d':D),EncL H cs vs->cs[q]? = some d->(∀ us,Enc H d us->Enc H d' us)->EncL H (cs.set q d') vs
 | [],vs,q,d,d',e,hq,h=>by simp at hq
 | c::cs,vs,0,d,d',e,hq,h=>by
  simp only [List.getElem?_cons_zero,Option.some.injEq] at hq;subst hq;simp only [EncL,List.set_cons_zero] at e ⊢;obtain ⟨a,r,h1,h2,h3⟩:=e;exact ⟨a,r,h1,h a h2,h3⟩
 | c::cs,vs,q+1,d,d',e,hq,h=>by
  simp only [List.getElem?_cons_succ] at hq;simp only [EncL,List.set_cons_succ] at e ⊢;obtain ⟨a,r,h1,h2,h3⟩:=e;exact ⟨a,r,h1,h2,JG cs r q d d' h3 hq h⟩
theorem NE {H:PH} {as:List Asrt} {w:World} {a:Option Addr} {cap:Nat} {T:TypeId} {sz:Nat} {α:Type} {f:α->D} {l:List α} (hok:HeapOk H as w) (hm:row a cap T sz f l∈as):∀ us,Enc H (.v (.slice a l.length cap)) us->Enc H (.list sz f l) us:=by
 intro us h
 simp only [Enc] at h;subst h;exact (AT (by rfl)).1 (LV hok hm)
theorem Cl {i q:Nat} {cs cs':List D} {a:Option Addr} {cap n:Nat} {T:TypeId} {sz:Nat} {α:Type} {f:α->D} {xs:List α} (k:Nat) (hf:Env.find L i=some (.agg cs)) (hq:cs[q]? = some (.v (.slice a n cap))) (hk:ms[k]? = some (row a cap T sz f xs)) (hn:xs.length=n) (hcs:cs.set q (.list sz f xs)=cs'):RefE ms L ((i,.agg cs')::L):=by
 subst hn hcs
 intro t d' ht
 simp only [Env.find] at ht
 cases hb:Nat.beq i t with
 | true =>
  rw [hb] at ht
  have:=Nat.eq_of_beq_eq_true hb
  subst this;simp only [Option.some.injEq] at ht;subst ht;refine ⟨_,hf,(fun b e=>(by cases e)),fun H fr w u hok c=>?_⟩;obtain ⟨vs,e1,e2⟩:=conc_agg.1 c;exact conc_agg.2 ⟨vs,e1,JG cs vs q _ _ e2 hq (NE (T:=T) hok (List.mem_append_left _ (List.mem_of_getElem? hk)))⟩
 | false=>rw [hb] at ht;exact ⟨d',ht,fun _ _=>rfl,fun _ _ _ _ _ c=>c⟩
theorem SF {sz:Nat} {α:Type} {f:α->D}:∀ (H:PH) (us:List Value),Enc H (.v (.slice none 0 0)) us->Enc H (.list sz f ([]:List α)) us:=by
 intro H us h
 simp only [Enc] at h ⊢;subst h;exact ⟨none,0,by simp,by simp,by simp [maxLen],by simp⟩
theorem Es {A:Asrt} (k j:Nat) (hk:ms[k]? = some A) (hj:Nat.blt j ms.length=true) (hne:Nat.beq k j=false) {ms':List Asrt} (hms:(ms.set j A).eraseIdx k=ms'):Refines L ms L ms':=by
 subst hms
 have hj:=nB hj
 have hne:k≠j:=fun e=>by rw [e] at hne;simp at hne
 intro Γ act w m
 obtain ⟨H,marks,hle,hok,henv,hdf⟩:=m.ex
 have hjj:ms[j]? = some ms[j]:=by simp
 have p1:ms.Perm (ms[j]::ms.eraseIdx j):=Hh ms j _ hjj
 have p2:(A::ms.eraseIdx j).Perm (ms.set j A):=Jv ms j _ A hjj
 have hk2:(ms.set j A)[k]? = some A:=by rw [List.getElem?_set_ne (fun e=>hne e.symm)];exact hk
 have p3:(ms.set j A).Perm (A::(ms.set j A).eraseIdx k):=Hh _ k A hk2
 have p4:(ms.eraseIdx j).Perm ((ms.set j A).eraseIdx k):=(p2.trans p3).cons_inv
 have hok2:HeapOk H ((ms[j]::(ms.set j A).eraseIdx k)++(marks.map markA++Γ.fr)) w:=hok.perm ((p1.trans (p4.cons _)).append_right _)
 exact ⟨⟨H,marks,hle,hok2.tail,henv,hdf⟩,m.size,m.same⟩
theorem ID {a:Option Addr} {n cap:Nat} {e:TypeId} (hu:∀ w,(underlying t).run P w = .ok (.slice e) w) (hx:Env.ev L x=some (.v (.slice a n cap))):OpP P ⟨dst,.call ⟨.builtin .len,#[x],#[t]⟩,ty,pos,after,g⟩ L ms (.i64 n):=
 .pure (by simp) fun H fr act w _ henv=>⟨.int .i64 n,by simp [execOp,resolve,invoke,builtin,Builtin.len_,Be henv hx,hu,Sem.run,goInt],conc_v.2 rfl⟩
theorem IK {a:Option Addr} {n cap:Nat} {e:TypeId} (hu:∀ w,(underlying t).run P w = .ok (.slice e) w) (hx:Env.ev L x=some (.v (.slice a n cap))):OpP P ⟨dst,.call ⟨.builtin .cap,#[x],#[t]⟩,ty,pos,after,g⟩ L ms (.i64 cap):=
 .pure (by simp) fun H fr act w _ henv=>⟨.int .i64 cap,by simp [execOp,resolve,invoke,builtin,Builtin.cap_,Be henv hx,hu,Sem.run,goInt],conc_v.2 rfl⟩
theorem GV {args:List Operand} {ats:Array TypeId} {ds:List D} {fv:D} (hx:Env.ev L x=some fv) (hev:evL L args=some ds) (hf:FV P fv ds [] (fun d' _=>d'=d)) :
  OpP P ⟨dst,.call ⟨.value x,args.toArray,ats⟩,ty,pos,after,g⟩ L ms d:=by
 have hf':FV P fv ds [] (fun d' ms'=>d'=d/\ms'=[]):=by
  intro H fr w v vs hok hv hargs
  have:=hf H fr w v vs hok hv hargs
  obtain ⟨fn,first,caps,e,h1⟩:=this;refine ⟨fn,first,caps,e,?_⟩
  rcases h1 with ⟨f,e1,e2,e3⟩ | ⟨l,g',tmps,as,b,e1,e2,e3⟩
  ·refine .inl ⟨f,e1,e2,e3.mono ?_⟩
   rintro e w' ⟨v,d',ms',H',he,hd,hle,hok',hc,hs⟩;exact ⟨v,d',[],H',he,⟨hd,rfl⟩,hle,by simpa using hok'.drop,hc,hs⟩
  ·refine .inr ⟨l,g',tmps,as,b,e1,e2,RoundIn.mono e3 ?_⟩
   rintro e w' ⟨v,d',ms',H',he,hd,hle,hok',hc,hs⟩;exact ⟨v,d',[],H',he,⟨hd,rfl⟩,hle,by simpa using hok'.drop,hc,hs⟩
 have:=KI (P:=P) (L:=L) (ms:=ms) (dst:=dst) (ty:=ty) (pos:=pos) (after:=after) (g:=g) (ats:=ats) (ms₁:=[]) (rest:=ms) hx hev (List.Perm.refl ms) hf'
 intro ro H fr a w hok henv next Q hn
 refine this ro H fr a w hok henv next Q ?_;rintro v d' ms' w' H' ⟨ms₁',⟨rfl,rfl⟩,rfl⟩ hle hok' hc' hs;exact hn v d' _ w' H' ⟨rfl,rfl⟩ hle hok' hc' hs
def OY (P:Program) (fv:D) {α β:Type} (e:α->D) (r:β->D) (p:α->Option β):Prop:=∀ x y,p x=some y->FV P fv [e x] [] (fun d _=>d=r y)
end
end Go.V
namespace Go.V
section
variable {P:Program} {L:Env} {ms:List Asrt} {dst:Option Nat} {ty:TypeId} {pos:String} {after:Array Edge} {g:Option (Nat×Bool)} {d d':D} {x y:Operand} {t t':TypeId}
theorem Gx {α:Type} {sz:Nat} {f:α->D} {l:List α} {e:TypeId} (hu:P.underlying t=some (.slice e)) (hx:Env.ev L x=some (.list sz f l)) (hy:Env.ev L y=some (.v (.slice none 0 0))) :
  OpT P ⟨dst,.binOp .eql t x y t',ty,pos,after,g⟩ L ms (fun d ms'=>∃ b,d = .bool b/\ms'=ms/\(b=true->l=[])):=by
 refine .val (by simp) fun H fr act w hok henv=>?_;obtain ⟨a,cap,hv,h1,h2,h3⟩:=Eq (henv.ev hx);refine ⟨.bool a.isNone,_,ms,w,H,?_,⟨a.isNone,rfl,rfl,fun h=>?_⟩,PH.le_refl H,hok,conc_v.2 rfl,SameOut.refl w⟩
 ·simp [execOp,hv,Be henv hy,eqGuard,binOp,Sem.run,run_equal_slice_nil w t e a _ _ hu]
 ·rcases h3 with h3 | ⟨b,off,ha,_⟩
  ·exact h3
  ·rw [ha] at h;cases h
theorem Cm {T:TypeId} {sz:Nat} {α:Type} {f:α->D}:Refines L ms L (arr none 0 0 T sz f ([]:List α)::ms):=by
 intro Γ a w m
 obtain ⟨H,marks,hle,hok,henv,hdf⟩:=m.ex;refine ⟨⟨H,marks,hle,?_,henv,hdf⟩,m.size,m.same⟩;refine ⟨hok.sub,by simpa [arr] using hok.nodup,fun A hA b hb=>?_,fun A hA=>?_⟩
 ·rcases List.mem_cons.1 hA with rfl | hA
  ·simp [arr] at hb
  ·exact hok.lt A hA b hb
 ·rcases List.mem_cons.1 hA with rfl | hA
  ·exact ⟨rfl,by simp,by simp [maxLen],.inl ⟨rfl,rfl,rfl⟩⟩
  ·exact hok.ok A hA
theorem LI {e tn:TypeId} {sz:Nat} {α:Type} {f:α->D} {i:TypeInfo} {z:Value} {kn ik:IntKind} {n:Nat} (ht:P.underlying t=some (.slice e)) (htn:P.underlying tn=some (.int kn)) (hi:P.info? e=some i) (hz:i.zero=some z) (hsz:i.size=sz) (hzs:z.cells.size=sz) (h0:0<sz)
  (hx:Env.ev L x=some (.v (.slice none 0 0))) (hy:Env.ev L y=some (.v (.int ik n))) (hn:0<n) (hb:n*i.bytes<=140737488355328) (hb0:0<i.bytes) :
  OpT P ⟨dst,.call ⟨.builtin .append,#[x,y],#[t,tn]⟩,ty,pos,after,g⟩ L ms (fun d' ms'=>∃ a cap,n<=cap/\d' = .v (.slice a n cap)/\ms'=row a cap e sz f ([]:List α)::ms):=by
 subst hsz;refine .val (by simp) fun H fr act w hok henv=>?_
 have hnb:n<=n*i.bytes:=Nat.le_mul_of_pos_right _ hb0
 have hr:=Lib.run_append_nil_zeros (P:=P) w t tn ty e i z ik kn ht htn hi hz n hn h0 (by omega) (by omega)
 have hge:n<=grownCap w n 0 e:=grownCap_ge w n 0 e
 have hcm:grownCap w n 0 e<=maxLen:=grownCap_le_maxLen w n 0 e (by simp only [maxLen];omega)
 let cells:List Value:=(Builtin.zeroCells z.cells n++Builtin.zeroCells z.cells (grownCap w n 0 e - n)).toList
 have hcells:(Builtin.zeroCells z.cells n++Builtin.zeroCells z.cells (grownCap w n 0 e - n))=cells.toArray:=by simp [cells]
 rw [hcells] at hr
 have hd:HeapOk H (ms++fr) w.drew:=hok.drew _
 have hown:=hd.own (o := .cells cells.toArray e) (A:=row (some ⟨w.heap.size,0,none⟩) (grownCap w n 0 e) e i.size f ([]:List α)) rfl ?_
 ·refine ⟨_,_,_,_,H,?_,⟨some ⟨w.heap.size,0,none⟩,grownCap w n 0 e,hge,rfl,rfl⟩,PH.le_refl H,hown,conc_v.2 rfl,?_⟩
  ·simp [execOp,resolve,invoke,builtin,Be henv hx,Be henv hy,Sem.run,hr]
  ·exact ⟨rfl,rfl,rfl,by have:=BH w.drew (.cells cells.toArray e);rw [this];show w.heap.size<=w.heap.size+1;omega⟩
 ·refine ⟨by simp,hcm,.inr ⟨w.heap.size,cells,[],rfl,AK w.drew _,?_,⟨by simp,fun q x hq=>by simp at hq⟩,by simp,fun q u hq=>by simp at hq,fun o _=>hok.none_new _ _ (Nat.le_refl _)⟩⟩
  have h1:(Builtin.zeroCells z.cells n).size=n*z.cells.size:=size_zeroCells _ _
  have h2:(Builtin.zeroCells z.cells (grownCap w n 0 e - n)).size=(grownCap w n 0 e - n)*z.cells.size:=size_zeroCells _ _
  simp only [cells,Array.length_toList,Array.size_append,h1,h2,hzs];rw [<- Nat.add_mul]
  congr 1
  omega
theorem GC {e tn:TypeId} {sz:Nat} {α:Type} {f:α->D} {i:TypeInfo} {z:Value} {kn ik:IntKind} {n:Int} (ht:P.underlying t=some (.slice e)) (htn:P.underlying tn=some (.int kn)) (hi:P.info? e=some i) (hz:i.zero=some z) (hsz:i.size=sz) (hzs:z.cells.size=sz) (h0:Nat.ble 1 sz=true)
  (hx:Env.ev L x=some (.v (.slice none 0 0))) (hy:Env.ev L y=some (.v (.int ik n))) (hn:0<n) (hb:n.toNat*i.bytes<=140737488355328) (hb0:Nat.ble 1 i.bytes=true) :
  OpT P ⟨dst,.call ⟨.builtin .append,#[x,y],#[t,tn]⟩,ty,pos,after,g⟩ L ms (fun d' ms'=>∃ a cap,n.toNat<=cap/\d' = .v (.slice a n.toNat cap)/\ms'=row a cap e sz f ([]:List α)::ms):=
 LI ht htn hi hz hsz hzs (nB h0) hx (ik:=ik) (by rw [hy,Int.toNat_of_nonneg (Int.le_of_lt hn)]) (by omega) hb (nB hb0)
theorem Gr {sz:Nat} {a:Option Addr} {n cap h:Nat} {e:TypeId} {ik:IntKind} {hi:Operand} (hu:∀ w,(underlying t).run P w = .ok (.slice e) w) (hs:∀ w,(sizeOf e).run P w = .ok sz w) (hx:Env.ev L x=some (.v (.slice a n cap))) (hh:Env.ev L hi=some (.v (.int ik (h:Int)))) (h1:h<=cap) (h3:n<=cap) :
  OpP P ⟨dst,.slice t x none (some hi) none,ty,pos,after,g⟩ L ms (.v (.slice a h cap)):=by
 refine .pure (by simp) fun H fr act w _ henv=>?_
 have hb:=IV (P:=P) (isS:=true) (w:=w) (len:=n) (cap:=cap) (l:=0) (h:=h) (lo:=none) (hi:=some (.int ik (h:Int))) rfl ⟨ik,rfl⟩ (Nat.zero_le _) h1 h3
 refine ⟨.slice a h cap,?_,conc_v.2 rfl⟩
 by_cases hc:cap=0
 ·subst hc;simp [execOp,Instr.sliceAt,Instr.slice,Be henv hx,Be henv hh,hu,Sem.run,hb,hs]
 ·have hz:a.map (·.add 0)=a:=by
   cases a with
   | none=>rfl
   | some q=>simp [Addr.add]
  have hc':¬ (0=cap):=fun e=>hc e.symm
  cases a with
  | none=>simp [execOp,Instr.sliceAt,Instr.slice,Be henv hx,Be henv hh,hu,Sem.run,hb,hs,hc]
  | some q =>
   have hq:q.add 0=q:=by simpa using hz
   simp [execOp,Instr.sliceAt,Instr.slice,Be henv hx,Be henv hh,hu,Sem.run,hb,hs,hc,hq]
end
end Go.V
namespace Go.V
section
variable {Γ:Ctx} {P:Program} {L:Env} {ms:List Asrt} {K:KT} {l:List Oper} {k:Nat}
theorem Ie (hf:FlowOk l k) (hkl:k<=l.length) (Inv:(Nat->Bool)->Act->World->Prop)
  (hnext:∀ (S:Nat->Bool) (i:Nat) (o:Oper) (a:Act) (w:World),Bc l S->i<k->l[i]? = some o->S i=false->Bc l (fun j=>S j||decide (j=i))->Inv S a w->∀ (next:Act->World->Prop),(∀ a' w',Inv (fun j=>S j||decide (j=i)) a' w'->next a' w') ->
   if Region.wanted o (yielded l.toArray a.tmps)=true then o.wpIn (FR Γ.round) 0 P a w next (Post Γ K) else (∀ f,o.about P w a.eval=some f->(FR Γ.round).fn f)/\next (a.put o.dst undef) w)
  (htail:∀ a w,Inv (fun j=>decide (j<k)) a w->wpListIn (FR Γ.round) 0 P l.toArray (Post Γ K) (l.drop k) a w) :
  ∀ (fuel:Nat) (listed:Array Bool) (t:Nat) (a:Act) (w:World),listed.size=l.length->Bc l (fun j=>listed.getD j false)->(∀ i,k<=i->listed.getD i false=false) ->
   ((List.range l.length).filter (fun i => !listed.getD i false)).length<=fuel->Inv (fun j=>listed.getD j false) a w ->
   wpOpsIn (FR Γ.round) 0 P l.toArray (Post Γ K) (Region.linearise.go .any l.toArray fuel t listed []) a w:=by
 intro fuel
 induction fuel with
 | zero =>
  intro listed t a w hs hc hk hfu m
  have hnone:∀ i,i<l.length->listed.getD i false=true:=by
   intro i hi
   cases hb:listed.getD i false with
   | true=>rfl
   | false =>
    have:i∈(List.range l.length).filter (fun i => !listed.getD i false):=by simp only [List.mem_filter,List.mem_range];exact ⟨hi,by simp only [hb,Bool.not_false]⟩
    have:=List.length_pos_of_mem this
    omega
  have hkn:k=l.length:=by
   rcases Nat.lt_or_ge k l.length with h | h
   ·have h1:=hnone k h;have h2:=hk k (Nat.le_refl _);rw [h1] at h2;cases h2
   ·omega
  have he:(fun j=>listed.getD j false)=(fun j=>decide (j<k)):=by
   funext j
   by_cases hj:j<k
   ·rw [hnone j (by omega)];simp [hj]
   ·rw [hk j (by omega)];simp [hj]
  have hdrop:l.drop k=[]:=by rw [hkn];simp
  rw [hdrop] at htail
  have:=htail a w (he▸m)
  simp only [wpListIn] at this
  simpa [Region.linearise.go,wpOpsIn] using this
 | succ fuel ih =>
  intro listed t a w hs hc hk hfu m
  by_cases hall:∀ i,i<k->listed.getD i false=true
  ·
   have hl:∀ j,listed.getD j false=decide (j<k):=by
    intro j
    by_cases h:j<k
    ·rw [hall j h];simp [h]
    ·rw [hk j (by omega)];simp [h]
   have hcount:l.length - k<=fuel+1:=by
    have h2:((List.range l.length).filter (fun i => !listed.getD i false)).length=l.length - k:=by
     have e:(List.range l.length)=List.range k++(List.range (l.length - k)).map (k + ·):=by
      rw [<- List.range_add];congr 1;omega
     rw [e,List.filter_append]
     have e1:(List.range k).filter (fun i => !listed.getD i false)=[]:=by
      rw [List.filter_eq_nil_iff];intro i hi;rw [hl i];simp at hi;simp [hi]
     have e2:((List.range (l.length - k)).map (k + ·)).filter (fun i => !listed.getD i false)=(List.range (l.length - k)).map (k + ·):=by
      rw [List.filter_eq_self];intro i hi;simp at hi;obtain ⟨j,_,rfl⟩:=hi;rw [hl];simp
     rw [e1,e2];simp
    omega
   rw [RF hf k (fuel+1) t listed (Nat.le_refl _) hkl hcount hs hl]
   have hw:=wpOpsIn_eq_wpListIn (F:=FR Γ.round) (n:=0) (P:=P) (ops:=l.toArray) (Q:=Post Γ K) (l.drop k) k (fun j=>by simp)
   rw [List.length_drop] at hw;rw [hw]
   have he:(fun j=>listed.getD j false)=(fun j=>decide (j<k)):=funext hl
   exact htail a w (he▸m)
  ·
   simp only [Region.linearise.go]
   change wpOpsIn (FR Γ.round) 0 P l.toArray (Post Γ K) (match (Region.ready .any l.toArray listed)[t % (Region.ready .any l.toArray listed).length]? with
    | some i=>Region.linearise.go .any l.toArray fuel (t / (Region.ready .any l.toArray listed).length) (listed.setIfInBounds i true) [i]
    | none=>[].reverse) a w
   obtain ⟨i0,hi0⟩:∃ i,i<k/\listed.getD i false=false:=by
    refine Classical.byContradiction fun hno=>hall fun i hi=>?_
    cases hb:listed.getD i false with
    | true=>rfl
    | false=>exact absurd ⟨i,hi,hb⟩ hno
   have hne:Region.ready .any l.toArray listed≠[]:=by
    have key:∀ n i,i<=n->i<l.length->listed.getD i false=false->Region.ready .any l.toArray listed≠[]:=by
     intro n
     induction n with
     | zero =>
      intro i hin hil hb hnil
      have:i∈Region.ready .any l.toArray listed:=by
       simp only [Region.ready,List.mem_filter,List.mem_range,List.size_toArray];refine ⟨hil,?_⟩
       have hgt:listed.getD i true=false:=by simp [Array.getD,hs,hil] at hb ⊢;exact hb
       simp only [hgt,Bool.not_false,Bool.true_and]
       have ho:l.toArray[i]? = some l[i]:=by simp [hil]
       rw [ho];simp only [Option.map_some,Option.getD_some,Array.all_eq_true']
       intro e he
       by_cases hbd:Region.binds .any e=true
       ·have:=hf.edge i l[i] (by simp [hil]) e he hbd;omega
       ·simp [hbd]
      rw [hnil] at this;cases this
     | succ n ihn =>
      intro i hin hil hb hnil
      by_cases hex:∃ j,j<i/\listed.getD j false=false
      ·obtain ⟨j,hj,hjb⟩:=hex
       exact ihn j (by omega) (by omega) hjb hnil
      ·have:i∈Region.ready .any l.toArray listed:=by
        simp only [Region.ready,List.mem_filter,List.mem_range,List.size_toArray];refine ⟨hil,?_⟩
        have hgt:listed.getD i true=false:=by simp [Array.getD,hs,hil] at hb ⊢;exact hb
        simp only [hgt,Bool.not_false,Bool.true_and]
        have ho:l.toArray[i]? = some l[i]:=by simp [hil]
        rw [ho];simp only [Option.map_some,Option.getD_some,Array.all_eq_true']
        intro e he
        by_cases hbd:Region.binds .any e=true
        ·have hlt:=hf.edge i l[i] (by simp [hil]) e he hbd
         cases hbe:listed.getD e.on false with
         | true=>simp
         | false=>exact absurd ⟨e.on,hlt,hbe⟩ hex
        ·simp [hbd]
       rw [hnil] at this;cases this
    exact key i0 i0 (Nat.le_refl _) (by omega) hi0.2
   cases hsel:(Region.ready .any l.toArray listed)[t % (Region.ready .any l.toArray listed).length]? with
   | none =>
    exfalso
    have hpos:0<(Region.ready .any l.toArray listed).length:=List.length_pos_iff.2 hne
    have:=Nat.mod_lt t hpos
    rw [List.getElem?_eq_none_iff] at hsel
    omega
   | some i =>
    simp only [];rw [linearise_go_acc,List.reverse_singleton,List.singleton_append]
    have hmem:i∈Region.ready .any l.toArray listed:=List.mem_of_getElem? hsel
    obtain ⟨hi1,hi2,hi3⟩:=MB (ops:=l.toArray) (listed:=listed) hmem;simp only [List.size_toArray] at hi1
    have hunl:listed.getD i false=false:=by simp [Array.getD,hs,hi1] at hi2 ⊢;exact hi2
    obtain ⟨o,ho⟩:∃ o,l[i]? = some o:=⟨l[i],by simp [hi1]⟩
    have hcs:=LA (l:=l) hs hi1 hc (fun o' ho'=>hi3 o' (by simpa using ho'))
    have hik:i<k:=by
     rcases Nat.lt_or_ge i k with h | h
     ·exact h
     ·have h1:=hf.tail i o ho h i0 (by omega) _ hcs (by rw [CJ _ _ _ (by omega)];simp)
      rw [CJ _ _ _ (by omega)] at h1
      have hne':¬ i0=i:=by omega
      rw [hi0.2] at h1
      simp [hne'] at h1
    have hcnt:((List.range l.length).filter (fun j => !(listed.setIfInBounds i true).getD j false)).length<=fuel:=by
     have hlt:((List.range l.length).filter (fun j => !(listed.setIfInBounds i true).getD j false)).length<((List.range l.length).filter (fun j => !listed.getD j false)).length:=by
      have hp:∀ j,(!(listed.setIfInBounds i true).getD j false)=(decide (j≠i) && !listed.getD j false):=by
       intro j
       rw [CJ _ _ _ (by omega)]
       by_cases h:j=i <;> simp [h]
      have e1:(List.range l.length).filter (fun j => !(listed.setIfInBounds i true).getD j false)=((List.range l.length).filter (fun j => !listed.getD j false)).filter (fun j=>decide (j≠i)):=by
       rw [List.filter_filter];exact List.filter_congr fun j _=>hp j
      rw [e1]
      have hmem':i∈(List.range l.length).filter (fun j => !listed.getD j false):=by
       simp only [List.mem_filter,List.mem_range];exact ⟨hi1,by rw [hunl];rfl⟩
      have:=List.length_filter_lt_length_iff_exists (l:=(List.range l.length).filter (fun j => !listed.getD j false)) (p:=fun j=>decide (j≠i))
      exact this.2 ⟨i,hmem',by simp⟩
     omega
    have hS:(fun j=>(listed.setIfInBounds i true).getD j false)=fun j=>(listed.getD j false||decide (j=i)):=funext fun j=>CJ _ _ _ (by omega)
    have ho':l.toArray[i]? = some o:=by simpa using ho
    simp only [wpOpsIn,ho'];refine hnext (fun j=>listed.getD j false) i o a w hc hik ho hunl (hS▸hcs) m _ ?_
    intro a' w' hI
    refine ih (listed.setIfInBounds i true) _ _ _ (by simp [hs]) hcs (fun j hj=>?_) hcnt (by rw [hS];exact hI);rw [CJ _ _ _ (by omega),hk j hj]
    have:¬ j=i:=by omega
    simp [this]
end
end Go.V
namespace Go.V
def dstN (l:List Oper) (i:Nat):Nat:=((l[i]?).bind (·.dst)).getD 0
def fenv (l:List Oper) (fr:List Nat) (S:Nat->Bool) (ρ:Nat->D×Asrt):Env:=(fr.filter S).map fun i=>(dstN l i,(ρ i).1)
def fown (fr:List Nat) (S:Nat->Bool) (ρ:Nat->D×Asrt):List Asrt:=(fr.filter S).map fun i=>(ρ i).2
def M3 (l:List Oper) (k:Nat) (fr:List Nat):Bool:=decide fr.Nodup&&fr.all fun i=>Nat.blt i k&&(match l[i]? with
 | some o=>o.guard.isNone&&(match o.dst with
  | some t=>(l.zipIdx.all fun (o',j)=>(Nat.beq i j || !(o'.dst == some t))&&(!(Nat.blt j k) || !((Ah l o').contains t)))
  | none=>false)
 | none=>false)
theorem OP {l:List Oper} {k:Nat} {fr:List Nat} (h:M3 l k fr=true):fr.Nodup/\∀ i∈fr,i<k/\∃ o,l[i]? = some o/\o.guard=none/\o.dst=some (dstN l i)/\(∀ j o',l[j]? = some o'->j≠i->o'.dst≠some (dstN l i))/\∀ j o',j<k->l[j]? = some o'->dstN l i∉Ah l o':=by
 simp only [M3,Bool.and_eq_true,decide_eq_true_eq,List.all_eq_true] at h;refine ⟨h.1,fun i hi=>?_⟩;obtain ⟨h1,h2⟩:=h.2 i hi;refine ⟨nB h1,?_⟩
 split at h2
 ·rename_i o ho
  simp only [Bool.and_eq_true,Option.isNone_iff_eq_none] at h2;obtain ⟨h3,h4⟩:=h2
  split at h4
  ·rename_i t ht
   have hd:dstN l i=t:=by simp [dstN,ho,ht]
   simp only [List.all_eq_true,Bool.and_eq_true,Bool.or_eq_true,Bool.not_eq_true'] at h4;refine ⟨o,ho,h3,by rw [hd];exact ht,fun j o' hj hne=>?_,fun j o' hjk hj=>?_⟩
   ·have:=(h4 (o',j) (List.mem_zipIdx_iff_getElem?.2 (by simpa using hj))).1
    rcases this with h5 | h5
    ·exact absurd (Nat.eq_of_beq_eq_true h5).symm hne
    ·rw [hd];intro e;rw [e] at h5;simp at h5
   ·have:=(h4 (o',j) (List.mem_zipIdx_iff_getElem?.2 (by simpa using hj))).2
    rcases this with h5 | h5
    ·have:Nat.blt j k=true:=Nat.ble_eq_true_of_le hjk
     rw [this] at h5;cases h5
    ·rw [hd];intro hm
     rw [List.contains_iff_mem.2 hm] at h5;cases h5
  ·cases h4
 ·cases h2
theorem Az (A B:Env) (t:Nat):Env.find (A++B) t=(match Env.find A t with | some d=>some d | none=>Env.find B t):=by
 induction A with
 | nil=>rfl
 | cons x A ih =>
  obtain ⟨i,d⟩:=x;simp only [List.cons_append,Env.find]
  cases hb:Nat.beq i t with
  | true=>rfl
  | false=>exact ih
theorem B0 {α:Type} (gI:α->Nat) (gD:α->D) (t:Nat):∀ xs:List α,(∀ d,Env.find (xs.map fun i=>(gI i,gD i)) t=some d->∃ i∈xs,gI i=t/\d=gD i)/\(Env.find (xs.map fun i=>(gI i,gD i)) t=none->∀ i∈xs,gI i≠t)
 | []=>⟨fun d h=>by simp [Env.find] at h,fun _ i hi=>by simp at hi⟩
 | x::xs=>by
  obtain ⟨h1,h2⟩:=B0 gI gD t xs;refine ⟨fun d h=>?_,fun h i hi=>?_⟩
  ·simp only [List.map_cons,Env.find] at h
   cases hb:Nat.beq (gI x) t with
   | true=>rw [hb] at h;simp only [Option.some.injEq] at h;exact ⟨x,by simp,Nat.eq_of_beq_eq_true hb,h.symm⟩
   | false=>rw [hb] at h;obtain ⟨i,a,b,c⟩:=h1 d h;exact ⟨i,by simp [a],b,c⟩
  ·simp only [List.map_cons,Env.find] at h
   cases hb:Nat.beq (gI x) t with
   | true=>rw [hb] at h;cases h
   | false =>
    rw [hb] at h
    rcases List.mem_cons.1 hi with rfl | hi
    ·intro e;rw [e] at hb;simp at hb
    ·exact h2 h i hi
theorem Ly {fr:List Nat} {S:Nat->Bool} {i:Nat} (hn:fr.Nodup) (hi:i∈fr) (hS:S i=false):(fr.filter fun j=>S j||decide (j=i)).Perm (i::fr.filter S):=by
 induction fr with
 | nil=>cases hi
 | cons x fr ih =>
  have hn':=List.nodup_cons.1 hn
  by_cases hx:x=i
  ·subst hx
   have:(fr.filter fun j=>S j||decide (j=x))=fr.filter S:=List.filter_congr fun j hj=>by
    have:j≠x:=fun e=>hn'.1 (e▸hj)
    simp [this]
   simp only [List.filter_cons,decide_true,Bool.or_true,if_true,hS,Bool.false_eq_true,if_false,this];exact List.Perm.refl _
  ·have hm:i∈fr:=by
    rcases List.mem_cons.1 hi with h | h
    ·exact absurd h.symm hx
    ·exact h
   have ih':=ih hn'.2 hm
   simp only [List.filter_cons,hx,decide_false,Bool.or_false]
   cases hSx:S x with
   | true=>simp only [if_true];exact (ih'.cons x).trans (List.Perm.swap ..)
   | false=>simpa using ih'
section
variable {Γ:Ctx} {P:Program} {L:Env} {ms:List Asrt} {K:KT} {l:List Oper} {k:Nat}
theorem Pc {fr:List Nat} (hf:FlowOk l k) (hfr:M3 l k fr=true) (ds:List D) (hlen:ds.length=k) (hkl:k<=l.length) (R:Nat->D->Asrt->Prop)
    (hstep:∀ (i:Nat) o d,i<k->i∉fr->l[i]? = some o->ds[i]? = some d->dstOk o Γ.N/\Step P l o (envL (fun j=>decide (j<i) && !(fr.contains j)) l ds 0 L) ms d)
    (hfresh:∀ (i:Nat) o,i∈fr->l[i]? = some o->dstOk o Γ.N/\OpT P o (Env.only (Ah l o) (envL (fun j=>decide (j<i) && !(fr.contains j)) l ds 0 L)) [] (fun d ms'=>∃ A,R i d A/\ms'=[A]))
    (htail:∀ ρ:Nat->D×Asrt,(∀ i∈fr,R i (ρ i).1 (ρ i).2)->GO Γ P l.toArray (l.drop k) (fenv l fr (fun j=>decide (j<k)) ρ++envL (fun j=>decide (j<k) && !(fr.contains j)) l ds 0 L) (fown fr (fun j=>decide (j<k)) ρ++ms) K) :
    ∀ (fuel:Nat) (listed:Array Bool) (t:Nat) (a:Act) (w:World),listed.size=l.length->Bc l (fun j=>listed.getD j false)->(∀ i,k<=i->listed.getD i false=false) ->
      ((List.range l.length).filter (fun i => !listed.getD i false)).length<=fuel ->
      (∃ ρ:Nat->D×Asrt,(∀ i∈fr,listed.getD i false=true->R i (ρ i).1 (ρ i).2)/\Models Γ (fenv l fr (fun j=>listed.getD j false) ρ++envL (fun j=>listed.getD j false && !(fr.contains j)) l ds 0 L) (fown fr (fun j=>listed.getD j false) ρ++ms) a w) ->
      wpOpsIn (FR Γ.round) 0 P l.toArray (Post Γ K) (Region.linearise.go .any l.toArray fuel t listed []) a w:=by
  obtain ⟨hnd,hfo⟩:=OP hfr
  refine Ie hf hkl (fun S a w=>∃ ρ:Nat->D×Asrt,(∀ i∈fr,S i=true->R i (ρ i).1 (ρ i).2)/\Models Γ (fenv l fr S ρ++envL (fun j=>S j && !(fr.contains j)) l ds 0 L) (fown fr S ρ++ms) a w) ?_ ?_
  rotate_left
  · rintro a w ⟨ρ,hρ,m⟩
    exact htail ρ (fun i hi=>hρ i hi (by simp [(hfo i hi).1])) a w m
  · rintro S i o a w hc hik ho hunl hcs ⟨ρ,hρ,m⟩ next hn
    obtain ⟨H,marks,hle,hok,henv,hdf⟩:=m.ex
    have agree:∀ s,s∈Ah l o->Env.find (fenv l fr S ρ++envL (fun j=>S j && !(fr.contains j)) l ds 0 L) s=Env.find (envL (fun j=>decide (j<i) && !(fr.contains j)) l ds 0 L) s:=by
      intro s hsl
      rw [Az]
      have hno:Env.find (fenv l fr S ρ) s=none:=by
        cases hq:Env.find (fenv l fr S ρ) s with
        | none=>rfl
        | some d =>
          obtain ⟨j,hj,e1,_⟩:=(B0 (dstN l) (fun i=>(ρ i).1) s (fr.filter S)).1 d hq
          have hj':=(List.mem_filter.1 hj).1
          obtain ⟨_,_,_,_,_,_,hrd⟩:=hfo j hj'
          exact absurd (e1▸hsl) (hrd i o hik ho)
      rw [hno]
      refine AW l ds 0 L L (fun j o' hj hd'=>?_) rfl
      simp only [Nat.zero_add]
      cases hfj:fr.contains j with
      | true=>simp
      | false =>
        simp only [Bool.not_false,Bool.and_true]
        by_cases hji:j=i
        · subst hji;rw [hunl];simp
        · have hn':=hf.names i o j o' s ho hj (fun e=>hji e.symm) hd' (.inl hsl)
          by_cases hlt:j<i
          · have h1:=(hn' _ hcs).1 hlt (by simp)
            simp only [hji,decide_false,Bool.or_false] at h1
            rw [h1];simp [hlt]
          · cases hb:S j with
            | true=>have h1:=(hn' _ hc).2 (by omega) hb;rw [hunl] at h1;cases h1
            | false=>simp [hlt]
    have hsub:EnvOk H (Env.only (Ah l o) (envL (fun j=>decide (j<i) && !(fr.contains j)) l ds 0 L)) a.tmps:=by
      intro s d' hfnd
      obtain ⟨h1,h2⟩:=DY hfnd
      exact henv s d' (by rw [agree s h1];exact h2)
    by_cases hif:i∈fr
    ·
      obtain ⟨_,o2,ho2,hg,hd,hdst,hrd⟩:=hfo i hif
      obtain rfl:o2=o:=by rw [ho] at ho2;exact (Option.some.inj ho2).symm
      obtain ⟨hdk,hop⟩:=hfresh i o2 hif ho
      have hlt:dstN l i<Γ.N:=by simp only [dstOk,hd] at hdk;exact nB hdk
      simp only [Region.wanted,hg,if_true]
      refine hop Γ.round H (fown fr S ρ++ms++(marks.map markA++Γ.fr)) a w (by simpa using hok) hsub next _ ?_
      rintro v d ms' w' H' ⟨A,hR,rfl⟩ hl hok' hcv hso
      let ρ':Nat->D×Asrt:=fun j=>if j=i then (d,A) else ρ j
      have hin:∀ j,j≠i->ρ' j=ρ j:=fun j hj=>by simp [ρ',hj]
      have hii:ρ' i=(d,A):=by simp [ρ']
      have hpf:=Ly (S:=S) hnd hif hunl
      have hmapd:(fr.filter S).map (fun j=>(ρ' j).2)=fown fr S ρ:=by
        unfold fown
        refine List.map_congr_left fun j hj=>?_
        have:j≠i:=fun e=>by subst e;have:=(List.mem_filter.1 hj).2;rw [hunl] at this;cases this
        rw [hin j this]
      have hpo:(fown fr (fun j=>S j||decide (j=i)) ρ').Perm (A::fown fr S ρ):=by
        have:=hpf.map (fun j=>(ρ' j).2)
        simp only [List.map_cons,hmapd,hii] at this
        exact this
      refine hn _ _ ⟨ρ',fun j hj hSj=>?_,?_⟩
      · by_cases hji:j=i
        · subst hji;rw [hii];exact hR
        · rw [hin j hji];exact hρ j hj (by simpa [hji] using hSj)
      · refine ⟨⟨H',marks,PH.le_trans hle hl,?_,?_,by simpa [hd,Act.put] using hdf⟩,by simp [hd,Act.put,m.size],m.same.trans hso⟩
        · refine hok'.perm ?_
          have h1:([A]++(fown fr S ρ++ms++(marks.map markA++Γ.fr)))=(A::fown fr S ρ)++(ms++(marks.map markA++Γ.fr)):=by simp
          rw [h1,List.append_assoc]
          exact hpo.symm.append_right _
        · intro t d' hfnd
          rw [hd]
          have hsz:dstN l i<a.tmps.size:=by rw [m.size];exact hlt
          rw [Az] at hfnd
          cases hq:Env.find (fenv l fr (fun j=>S j||decide (j=i)) ρ') t with
          | some d2 =>
            rw [hq] at hfnd
            simp only [Option.some.injEq] at hfnd
            subst hfnd
            obtain ⟨j,hj,e1,e2⟩:=(B0 (dstN l) (fun i=>(ρ' i).1) t _).1 d2 hq
            obtain ⟨hj1,hj2⟩:=List.mem_filter.1 hj
            by_cases hji:j=i
            · subst hji
              rw [hii] at e2
              subst e1 e2
              simpa [Act.put,Array.getD,hsz] using hcv
            · have hne:dstN l i≠t:=by
                intro e
                obtain ⟨_,oj,hoj,_,hdj,_,_⟩:=hfo j hj1
                exact hdst j oj hoj hji (by rw [hdj,e1,e])
              have hSj:S j=true:=by simpa [hji] using hj2
              have hold:Env.find (fenv l fr S ρ++envL (fun j=>S j && !(fr.contains j)) l ds 0 L) t=some d2:=by
                rw [Az]
                cases hq2:Env.find (fenv l fr S ρ) t with
                | none=>exact absurd e1 ((B0 (dstN l) (fun i=>(ρ i).1) t (fr.filter S)).2 hq2 j (List.mem_filter.2 ⟨hj1,hSj⟩))
                | some d3 =>
                  obtain ⟨j2,hj2',e3,e4⟩:=(B0 (dstN l) (fun i=>(ρ i).1) t (fr.filter S)).1 d3 hq2
                  have hj2m:=(List.mem_filter.1 hj2').1
                  have:j2=j:=by
                    refine Classical.byContradiction fun hne2=>?_
                    obtain ⟨_,oj,hoj,_,hdj,hds,_⟩:=hfo j hj1
                    obtain ⟨_,oj2,hoj2,_,hdj2,_,_⟩:=hfo j2 hj2m
                    exact hds j2 oj2 hoj2 hne2 (by rw [hdj2,e3,e1])
                  subst this
                  rw [hin j2 hji] at e2
                  simp only [e4,e2]
              have h1:=(henv t d2 hold).mono hl
              have h2:(a.put (some (dstN l i)) v).tmps.getD t undef=a.tmps.getD t undef:=by
                simp [Act.put,Array.getD_eq_getD_getElem?,Array.getElem?_setIfInBounds,hne]
              rw [h2];exact h1
          | none =>
            rw [hq] at hfnd
            have hno:=(B0 (dstN l) (fun i=>(ρ' i).1) t (fr.filter fun j=>S j||decide (j=i))).2 hq
            have hne:dstN l i≠t:=hno i (List.mem_filter.2 ⟨hif,by simp⟩)
            have hold:Env.find (fenv l fr S ρ++envL (fun j=>S j && !(fr.contains j)) l ds 0 L) t=some d':=by
              rw [Az]
              cases hq2:Env.find (fenv l fr S ρ) t with
              | some d3 =>
                obtain ⟨j2,hj2',e3,e4⟩:=(B0 (dstN l) (fun i=>(ρ i).1) t (fr.filter S)).1 d3 hq2
                obtain ⟨hj3,hj4⟩:=List.mem_filter.1 hj2'
                exact absurd e3 (hno j2 (List.mem_filter.2 ⟨hj3,by simp [hj4]⟩))
              | none =>
                rw [<- hfnd]
                refine AW l ds 0 L L (fun j o' hj hd'=>?_) rfl
                simp only [Nat.zero_add]
                by_cases hji:j=i
                · subst hji;rw [List.contains_iff_mem.2 hif];simp
                · simp [hji]
            have h1:=(henv t d' hold).mono hl
            have h2:(a.put (some (dstN l i)) v).tmps.getD t undef=a.tmps.getD t undef:=by
              simp [Act.put,Array.getD_eq_getD_getElem?,Array.getElem?_setIfInBounds,hne]
            rw [h2];exact h1
    ·
      obtain ⟨d,hd⟩:∃ d,ds[i]? = some d:=⟨ds[i]'(by omega),by simp⟩
      obtain ⟨hdst,hst⟩:=hstep i o d hik hif ho hd
      have hcf:fr.contains i=false:=by
        cases hb:fr.contains i with
        | true=>exact absurd (List.contains_iff_mem.1 hb) hif
        | false=>rfl
      have hfS:fr.filter (fun j=>S j||decide (j=i))=fr.filter S:=List.filter_congr fun j hj=>by
        have:j≠i:=fun e=>hif (e▸hj)
        simp [this]
      have e1:fenv l fr (fun j=>S j||decide (j=i)) ρ=fenv l fr S ρ:=by unfold fenv;rw [hfS]
      have e2:fown fr (fun j=>S j||decide (j=i)) ρ=fown fr S ρ:=by unfold fown;rw [hfS]
      have nxt:∀ (v:Value) (w':World) (H':PH),PH.le H H'->HeapOk H' (fown fr S ρ++ms++(marks.map markA++Γ.fr)) w'->Conc H' d v->SameOut w w'->next (a.put o.dst v) w':=by
        intro v w' H' hl hok' hcv hso
        refine hn _ _ ⟨ρ,fun j hj hSj=>hρ j hj ?_,?_⟩
        · have:j≠i:=fun e=>hif (e▸hj)
          simpa [this] using hSj
        · rw [e1,e2]
          refine ⟨⟨H',marks,PH.le_trans hle hl,hok',?_,by cases o.dst <;> simpa [Act.put] using hdf⟩,by cases o.dst <;> simp [Act.put,m.size],m.same.trans hso⟩
          intro s d' hfnd
          by_cases hds:o.dst=some s
          · have hno:Env.find (fenv l fr S ρ) s=none:=by
              cases hq:Env.find (fenv l fr S ρ) s with
              | none=>rfl
              | some d3 =>
                obtain ⟨j,hj,e3,_⟩:=(B0 (dstN l) (fun i=>(ρ i).1) s (fr.filter S)).1 d3 hq
                have hj':=(List.mem_filter.1 hj).1
                obtain ⟨_,oj,_,_,_,hdj,_⟩:=hfo j hj'
                exact absurd (by rw [hds,e3]) (hdj i o ho (fun e=>hif (e▸hj')))
            rw [Az,hno] at hfnd
            have hat:=Hc (S:=fun j=>((S j||decide (j=i)) && !(fr.contains j))) l ds 0 i L o ho hd hds (by simp [hif]) (fun j o' hj hlo hd'=>by
              simp only [Nat.zero_add]
              have hn':=hf.names i o j o' s ho hlo (by omega) hd' (.inr hds)
              cases hb:S j with
              | true=>have h1:=(hn' _ hc).2 hj hb;rw [hunl] at h1;cases h1
              | false => have:¬ j=i:=by omega
                         simp [this])
            rw [hat] at hfnd
            simp only [Option.some.injEq] at hfnd
            subst hfnd
            have hsz:s<a.tmps.size:=by
              have:=hdst
              simp only [dstOk,hds] at this
              have:=nB this
              rw [m.size];exact this
            simp only [hds,Act.put]
            simpa [Array.getD,hsz] using hcv
          · have hcg:Env.find (fenv l fr S ρ++envL (fun j=>(S j||decide (j=i)) && !(fr.contains j)) l ds 0 L) s=Env.find (fenv l fr S ρ++envL (fun j=>S j && !(fr.contains j)) l ds 0 L) s:=by
              rw [Az,Az]
              rw [AW l ds 0 L L (fun j o' hj hd'=>?_) rfl]
              simp only [Nat.zero_add]
              have:¬ j=i:=fun e=>by subst e;rw [ho] at hj;simp only [Option.some.injEq] at hj;subst hj;exact hds hd'
              simp [this]
            rw [hcg] at hfnd
            have h1:=(henv s d' hfnd).mono hl
            have h2:(a.put o.dst v).tmps.getD s undef=a.tmps.getD s undef:=by
              cases hod:o.dst with
              | none=>rfl
              | some q =>
                have hq:q≠s:=fun e=>hds (by rw [hod,e])
                simp [Act.put,Array.getD_eq_getD_getElem?,Array.getElem?_setIfInBounds,hq]
            rw [h2]
            exact h1
      have hokp:HeapOk H (ms++(fown fr S ρ++(marks.map markA++Γ.fr))) w:=hok.perm (by
        have:=(List.perm_append_comm (l₁:=fown fr S ρ) (l₂:=ms)).append_right (marks.map markA++Γ.fr)
        simpa [List.append_assoc] using this)
      have back:∀ {H':PH} {w':World},HeapOk H' (ms++(fown fr S ρ++(marks.map markA++Γ.fr))) w'->HeapOk H' (fown fr S ρ++ms++(marks.map markA++Γ.fr)) w':=fun h=>h.perm (by
        have:=(List.perm_append_comm (l₁:=ms) (l₂:=fown fr S ρ)).append_right (marks.map markA++Γ.fr)
        simpa [List.append_assoc] using this)
      unfold Step at hst
      cases hg:o.guard with
      | none =>
        rw [hg] at hst
        simp only at hst
        simp only [Region.wanted,hg,if_true]
        refine hst Γ.round H (fown fr S ρ++(marks.map markA++Γ.fr)) a w hokp hsub _ _ ?_
        rintro v d2 ms' w' H' ⟨rfl,rfl⟩ hl hok' hcv hso
        exact nxt v w' H' hl (back hok') hcv hso
      | some q =>
        obtain ⟨j,want⟩:=q
        rw [hg] at hst
        simp only at hst
        obtain ⟨s,u,h1,h2,h3⟩:=hst
        have hss:s∈Ah l o:=by simp [Ah,hg,h1]
        have hfnd:Env.find (fenv l fr S ρ++envL (fun j=>S j && !(fr.contains j)) l ds 0 L) s=some (.v u):=by rw [agree s hss];exact h2
        rcases h3 with ⟨b,hu,h3⟩ | ⟨hu,h4⟩
        · subst hu
          have hy:=Cq (ops:=l.toArray) m (j:=j) (t:=s) (b:=b) (by simpa using h1) hfnd
          simp only [Region.wanted,hg,hy]
          rcases h3 with ⟨h3,h4⟩ | ⟨h3,h4⟩
          · have hbq:(some b == some want)=true:=by rw [h3];simp
            rw [if_pos hbq]
            refine h4 Γ.round H (fown fr S ρ++(marks.map markA++Γ.fr)) a w hokp hsub _ _ ?_
            rintro v d2 ms' w' H' ⟨rfl,rfl⟩ hl hok' hcv hso
            exact nxt v w' H' hl (back hok') hcv hso
          · have hbq:(some b == some want)=false:=by rw [h3];cases want <;> rfl
            rw [if_neg (by rw [hbq];simp)]
            exact ⟨fun _ _=>trivial,nxt undef w H (PH.le_refl H) hok (by rw [h4];exact conc_v.2 rfl) (SameOut.refl w)⟩
        · subst hu
          have hy:=BX (ops:=l.toArray) m (j:=j) (t:=s) (by simpa using h1) hfnd
          simp only [Region.wanted,hg,hy]
          rw [if_neg (by cases want <;> simp)]
          exact ⟨fun _ _=>trivial,nxt undef w H (PH.le_refl H) hok (by rw [h4];exact conc_v.2 rfl) (SameOut.refl w)⟩
end
end Go.V
namespace Go.V
def pend:List (Nat×(D->Asrt->Prop))->(Env->List Asrt->Prop)->Prop
 | [],k=>k [] []
 | (t,R)::r,k=>∀ d A,R d A->pend r (fun E As=>k ((t,d)::E) (A::As))
theorem IN:∀ {acc:List (Nat×(D->Asrt->Prop))} {k k':Env->List Asrt->Prop},(∀ E As,k E As->k' E As)->pend acc k->pend acc k'
 | [],k,k',h,p=>h _ _ p
 | (t,R)::r,k,k',h,p=>fun d A hR=>IN (fun E As x=>h _ _ x) (p d A hR)
theorem Kr:∀ {acc b:List (Nat×(D->Asrt->Prop))} {k:Env->List Asrt->Prop},pend (acc++b) k->pend acc (fun E As=>pend b (fun E' As'=>k (E++E') (As++As')))
 | [],b,k,p=>p
 | (t,R)::r,b,k,p=>fun d A hR=>Kr (acc:=r) (p d A hR)
section
variable {Γ:Ctx} {P:Program} {L:Env} {ms:List Asrt} {K:KT} {l:List Oper} {k:Nat}
def GDF (Γ:Ctx) (P:Program) (ops tail:List Oper) (ms:List Asrt) (K:KT) (fr:List Nat):Nat->List Oper->Env->List (Nat×(D->Asrt->Prop))->Prop
 | _,[],L,acc=>pend acc (fun E As=>GO Γ P ops.toArray tail (E++L) (As++ms) K)
 | i,o::r,L,acc=>if fr.contains i=true then ∃ t R,o.dst=some t/\Nat.blt t Γ.N=true/\OpT P o (Env.only (Ah ops o) L) [] (fun d ms'=>∃ A,R d A/\ms'=[A])/\GDF Γ P ops tail ms K fr (i+1) r L (acc++[(t,R)])
  else ∃ d,dstOk o Γ.N/\Step P ops o L ms d/\GDF Γ P ops tail ms K fr (i+1) r (ext o d L) acc
theorem Cd {S:Nat->Bool}:∀ (l:List Oper) (ds:List D) (k0:Nat) (L:Env),(∀ q,k0<=q->S q=false)->envL S l ds k0 L=L
 | [],_,_,_,_=>by simp [envL]
 | _::_,[],_,_,_=>by simp [envL]
 | o::r,d::ds,k0,L,h=>by
  simp only [envL,h k0 (Nat.le_refl _),Bool.false_eq_true,if_false];exact Cd r ds (k0+1) L fun q hq=>h q (by omega)
def fl (r:List Oper) (fr:List Nat) (i:Nat) (ρ:Nat->D×Asrt):Env:=match r with
 | []=>[]
 | o::r=>if fr.contains i=true then (o.dst.getD 0,(ρ i).1)::fl r fr (i+1) ρ else fl r fr (i+1) ρ
def fo (r:List Oper) (fr:List Nat) (i:Nat) (ρ:Nat->D×Asrt):List Asrt:=match r with
 | []=>[]
 | _::r=>if fr.contains i=true then (ρ i).2::fo r fr (i+1) ρ else fo r fr (i+1) ρ
theorem LT {ops tail:List Oper} {fr:List Nat}:∀ (r:List Oper) (i:Nat) (L:Env) (acc:List (Nat×(D->Asrt->Prop))),GDF Γ P ops tail ms K fr i r L acc ->
    ∃ (ds:List D) (R:Nat->D->Asrt->Prop),ds.length=r.length /\
      (∀ j o d,r[j]? = some o->ds[j]? = some d->fr.contains (i+j)=false->dstOk o Γ.N/\Step P ops o (envL (fun q=>decide (q<i+j) && !(fr.contains q)) r ds i L) ms d) /\
      (∀ j o,r[j]? = some o->fr.contains (i+j)=true->dstOk o Γ.N/\OpT P o (Env.only (Ah ops o) (envL (fun q=>decide (q<i+j) && !(fr.contains q)) r ds i L)) [] (fun d ms'=>∃ A,R (i+j) d A/\ms'=[A])) /\
      pend acc (fun E As=>∀ ρ:Nat->D×Asrt,(∀ j,j<r.length->fr.contains (i+j)=true->R (i+j) (ρ (i+j)).1 (ρ (i+j)).2)->GO Γ P ops.toArray tail (E++(fl r fr i ρ++envL (fun q => !(fr.contains q)) r ds i L)) (As++(fo r fr i ρ++ms)) K)
  | [],i,L,acc,h=>⟨[],fun _ _ _=>True,rfl,fun j o d hj=>by simp at hj,fun j o hj=>by simp at hj,IN (fun E As x ρ _=>by simpa [fl,fo,envL] using x) h⟩
  | o::r,i,L,acc,h=>by
    unfold GDF at h
    cases hc:fr.contains i with
    | true =>
      rw [if_pos hc] at h
      obtain ⟨t,R0,hd,hlt,hop,hrest⟩:=h
      obtain ⟨ds,R,e1,e2,e3,e4⟩:=LT r (i+1) L _ hrest
      have hsh:∀ j,i+(j+1)=i+1+j:=fun j=>by omega
      have hS:∀ m,(decide (i<m) && !(fr.contains i))=false:=fun m=>by rw [hc];simp
      have hdk:dstOk o Γ.N:=by simp only [dstOk,hd];exact hlt
      refine ⟨.v undef::ds,fun q=>if q=i then R0 else R q,by simp [e1],fun j o' d' hj hdj hcj=>?_,fun j o' hj hcj=>?_,?_⟩
      · cases j with
        | zero=>rw [Nat.add_zero] at hcj;rw [hc] at hcj;cases hcj
        | succ j =>
          simp only [List.getElem?_cons_succ] at hj hdj
          rw [hsh] at hcj ⊢
          simp only [envL,hS,Bool.false_eq_true,if_false]
          exact e2 j o' d' hj hdj hcj
      · cases j with
        | zero =>
          simp only [List.getElem?_cons_zero,Option.some.injEq] at hj
          subst hj
          refine ⟨hdk,?_⟩
          simp only [Nat.add_zero,if_true]
          rw [Cd _ _ _ _ (fun q hq=>by have:¬ q<i:=by omega
                                       simp [this])]
          exact hop
        | succ j =>
          simp only [List.getElem?_cons_succ] at hj
          rw [hsh] at hcj ⊢
          have hne:¬ (i+1+j=i):=by omega
          simp only [envL,hS,Bool.false_eq_true,if_false,hne]
          exact e3 j o' hj hcj
      · have h4:=Kr e4
        refine IN (fun E As x ρ hρ=>?_) h4
        simp only [pend] at x
        have hR0:=hρ 0 (by simp) (by simpa using hc)
        simp only [Nat.add_zero,if_true] at hR0
        have:=x (ρ i).1 (ρ i).2 hR0 ρ (fun j hj hcj=>by
          have h5:=hρ (j+1) (by simp;omega) (by rw [hsh];exact hcj)
          have hne:¬ (i+(j+1)=i):=by omega
          dsimp only at h5
          rw [if_neg hne,hsh] at h5
          exact h5)
        have hdd:o.dst.getD 0=t:=by rw [hd];rfl
        have q1:fl (o::r) fr i ρ=(t,(ρ i).1)::fl r fr (i+1) ρ:=by rw [fl,if_pos hc,hdd]
        have q2:fo (o::r) fr i ρ=(ρ i).2::fo r fr (i+1) ρ:=by rw [fo,if_pos hc]
        have q3:envL (fun q => !(fr.contains q)) (o::r) (.v undef::ds) i L=envL (fun q => !(fr.contains q)) r ds (i+1) L:=by
          simp only [envL]
          rw [if_neg (by rw [hc];simp)]
        rw [q1,q2,q3]
        simpa [List.append_assoc] using this
    | false =>
      rw [if_neg (by rw [hc];simp)] at h
      obtain ⟨d,hdk,hst,hrest⟩:=h
      obtain ⟨ds,R,e1,e2,e3,e4⟩:=LT r (i+1) (ext o d L) _ hrest
      have hsh:∀ j,i+(j+1)=i+1+j:=fun j=>by omega
      have hS:∀ j,(decide (i<i+1+j) && !(fr.contains i))=true:=fun j=>by rw [hc];simp;omega
      refine ⟨d::ds,R,by simp [e1],fun j o' d' hj hdj hcj=>?_,fun j o' hj hcj=>?_,?_⟩
      · cases j with
        | zero =>
          simp only [List.getElem?_cons_zero,Option.some.injEq] at hj hdj
          subst hj hdj
          refine ⟨hdk,?_⟩
          rw [Nat.add_zero,Cd _ _ _ _ (fun q hq=>by have:¬ q<i:=by omega
                                                    simp [this])]
          exact hst
        | succ j =>
          simp only [List.getElem?_cons_succ] at hj hdj
          rw [hsh] at hcj ⊢
          simp only [envL,hS,if_true]
          exact e2 j o' d' hj hdj hcj
      · cases j with
        | zero=>rw [Nat.add_zero] at hcj;rw [hc] at hcj;cases hcj
        | succ j =>
          simp only [List.getElem?_cons_succ] at hj
          rw [hsh] at hcj ⊢
          simp only [envL,hS,if_true]
          exact e3 j o' hj hcj
      · refine IN (fun E As x ρ hρ=>?_) e4
        have:=x ρ (fun j hj hcj=>by
          have h5:=hρ (j+1) (by simp;omega) (by rw [hsh];exact hcj)
          rwa [hsh] at h5)
        have q1:fl (o::r) fr i ρ=fl r fr (i+1) ρ:=by rw [fl,if_neg (by rw [hc];simp)]
        have q2:fo (o::r) fr i ρ=fo r fr (i+1) ρ:=by rw [fo,if_neg (by rw [hc];simp)]
        have q3:envL (fun q => !(fr.contains q)) (o::r) (d::ds) i L=envL (fun q => !(fr.contains q)) r ds (i+1) (ext o d L):=by
          simp only [envL]
          rw [if_pos (by rw [hc];rfl)]
        rw [q1,q2,q3]
        exact this
theorem TL (ρ:Nat->D×Asrt) (fr:List Nat) (l:List Oper):∀ (n i:Nat),i+n<=l.length->fl ((l.drop i).take n) fr i ρ=((List.range' i n).filter (fun j=>fr.contains j)).map (fun j=>(dstN l j,(ρ j).1))/\fo ((l.drop i).take n) fr i ρ=((List.range' i n).filter (fun j=>fr.contains j)).map (fun j=>(ρ j).2)
 | 0,i,_=>by simp [fl,fo]
 | n+1,i,h=>by
  have hi:i<l.length:=by omega
  have hd:l.drop i=l[i]::l.drop (i+1):=(List.getElem_cons_drop ..).symm
  obtain ⟨h1,h2⟩:=TL ρ fr l n (i+1) (by omega);rw [hd,List.take_succ_cons,List.range'_succ]
  have hdn:dstN l i=l[i].dst.getD 0:=by simp [dstN,hi]
  simp only [fl,fo,List.filter_cons,h1,h2]
  cases hc:fr.contains i with
  | true=>simp [hdn]
  | false=>simp
theorem KS {id:Nat} (k:Nat) (fr:List Nat) (hm:P.follows .mixedOrders=true) (hf:flowB l k=true) (hfr:M3 l k fr=true) (hkl:Nat.ble k l.length=true) (hfs:(List.range' 0 k).filter (fun j=>fr.contains j)=fr) (h:GDF Γ P l (l.drop k) ms K fr 0 (l.take k) L []):G Γ P (.region id l.toArray true) L ms K:=by
 have hkl:=nB hkl
 intro a w m
 refine wpIn_region_draw fun t=>?_;simp only [Region.schedule,hm,Bool.true_or,if_true]
 have hfo:=IM hf
 obtain ⟨ds,R,e1,e2,e3,e4⟩:=LT _ _ _ _ h
 have hlen:ds.length=k:=by rw [e1];simp;omega
 simp only [Nat.zero_add] at e2 e3 e4
 have hget:∀ i o,i<k->l[i]? = some o->(l.take k)[i]? = some o:=fun i o hi ho=>by rw [List.getElem?_take,if_pos hi];exact ho
 have hmem:∀ i,i∈fr->i<k:=fun i hi=>by
  obtain ⟨_,h2⟩:=OP hfr;exact (h2 i hi).1
 have envT:∀ (S:Nat->Bool),envL S (l.take k) ds 0 L=envL S l ds 0 L:=by
  have:∀ (l:List Oper) (ds:List D) (k0:Nat) (L:Env) (S:Nat->Bool),envL S (l.take ds.length) ds k0 L=envL S l ds k0 L:=by
   intro l
   induction l with
   | nil=>intro ds k0 L S;simp
   | cons o r ih =>
    intro ds k0 L S
    cases ds with
    | nil=>simp [envL]
    | cons d ds=>simp only [List.length_cons,List.take_succ_cons,envL];exact ih ds _ _ S
  intro S
  have:=this l ds 0 L S
  rwa [hlen] at this
 refine Pc (L:=L) (ms:=ms) (fr:=fr) hfo hfr ds hlen hkl R ?_ ?_ ?_ l.toArray.size (Array.replicate l.toArray.size false) t a { w with drawn:=w.drawn+1 } (by simp) ?_ ?_ ?_ ?_
 ·intro i o d hi hif ho hd
  have hc:fr.contains i=false:=by
   cases hb:fr.contains i with
   | true=>exact absurd (List.contains_iff_mem.1 hb) hif
   | false=>rfl
  have:=e2 i o d (hget i o hi ho) hd hc
  rw [envT] at this;exact this
 ·intro i o hif ho
  have:=e3 i o (hget i o (hmem i hif) ho) (List.contains_iff_mem.2 hif)
  rw [envT] at this;exact this
 ·intro ρ hρ
  have h4:∀ ρ:Nat->D×Asrt,_:=e4
  have h5:=h4 ρ (fun j hj hc=>hρ j (List.contains_iff_mem.1 hc))
  simp only [List.nil_append] at h5;obtain ⟨h6,h7⟩:=TL ρ fr l k 0 (by omega);simp only [List.drop_zero] at h6 h7;rw [h6,h7,hfs,envT] at h5
  have hfk:fr.filter (fun j=>decide (j<k))=fr:=by
   rw [List.filter_eq_self];intro i hi;simp [hmem i hi]
  unfold fenv fown;rw [hfk]
  have hee:envL (fun j=>decide (j<k) && !(fr.contains j)) l ds 0 L=envL (fun q => !(fr.contains q)) l ds 0 L:=by
   have:∀ (l:List Oper) (ds:List D) (k0:Nat) (L:Env),k0+ds.length<=k->envL (fun j=>decide (j<k) && !(fr.contains j)) l ds k0 L=envL (fun q => !(fr.contains q)) l ds k0 L:=by
    intro l
    induction l with
    | nil=>intro ds k0 L _;simp [envL]
    | cons o r ih =>
     intro ds k0 L hk
     cases ds with
     | nil=>simp [envL]
     | cons d ds =>
      simp only [List.length_cons] at hk
      have:decide (k0<k)=true:=by simp;omega
      simp only [envL,this,Bool.true_and];exact ih ds (k0+1) _ (by omega)
   exact this l ds 0 L (by omega)
  rw [hee];exact h5
 ·intro j o hj hS
  simp [Array.getD] at hS
 ·intro i _;simp [Array.getD]
 ·have:=List.length_filter_le (fun i => !(Array.replicate l.toArray.size false).getD i false) (List.range l.length)
  simpa using this
 ·have hz:∀ j,(Array.replicate l.toArray.size false).getD j false=false:=fun j=>by simp [Array.getD]
  have hfe:fr.filter (fun j=>(Array.replicate l.toArray.size false).getD j false)=[]:=by
   rw [List.filter_eq_nil_iff];intro i _;rw [hz];simp
  refine ⟨fun _=>(.v undef,markA 0),(fun i _ hi=>by rw [hz] at hi;cases hi),?_⟩;unfold fenv fown;rw [hfe,Cd _ _ _ _ (fun q _=>by rw [hz];rfl)];obtain ⟨H,marks,hle,hok,henv,hdf⟩:=m.ex;exact ⟨⟨H,marks,hle,hok.drew _,henv,hdf⟩,m.size,⟨m.same.os,m.same.output,m.same.tape,m.same.size⟩⟩
theorem Nk {ops tail:List Oper} {fr:List Nat} {i:Nat} {acc:List (Nat×(D->Asrt->Prop))} (h:pend acc (fun E As=>GO Γ P ops.toArray tail (E++L) (As++ms) K)):GDF Γ P ops tail ms K fr i [] L acc:=h
theorem Cr {ops tail r:List Oper} {fr:List Nat} {n:Nat} {acc:List (Nat×(D->Asrt->Prop))} {o:Oper} {d:D} {i:Nat} (hc:fr.contains n=false) (hg:o.guard=none) (hd:o.dst=some i) (hi:Nat.blt i Γ.N=true) (h:OpP P o (Env.only (Ah ops o) L) ms d) (k:GDF Γ P ops tail ms K fr (n+1) r ((i,d)::L) acc):GDF Γ P ops tail ms K fr n (o::r) L acc:=by
 unfold GDF;rw [if_neg (by rw [hc];simp)];refine ⟨d,by simp only [dstOk,hd];exact hi,by simp only [Step,hg];exact h,?_⟩;simp only [ext,hd];exact k
theorem Kb {ops tail r:List Oper} {fr:List Nat} {n:Nat} {acc:List (Nat×(D->Asrt->Prop))} {o:Oper} {t:Nat} {R:D->Asrt->Prop} (hc:fr.contains n=true) (hd:o.dst=some t) (hi:Nat.blt t Γ.N=true) (h:OpT P o (Env.only (Ah ops o) L) [] (fun d ms'=>∃ A,R d A/\ms'=[A]))
  (k:GDF Γ P ops tail ms K fr (n+1) r L (acc++[(t,R)])):GDF Γ P ops tail ms K fr n (o::r) L acc:=by
 unfold GDF;rw [if_pos hc];exact ⟨t,R,hd,hi,h,k⟩
theorem OpT.mono {o:Oper} {R R':D->List Asrt->Prop} (h:OpT P o L ms R) (k:∀ d ms',R d ms'->R' d ms'):OpT P o L ms R':=
 fun ro H fr a w hok henv next Q hn=>h ro H fr a w hok henv next Q fun v d ms' w' H' hR hle hok' hc hs=>hn v d ms' w' H' (k _ _ hR) hle hok' hc hs
end
end Go.V
namespace Go.V
def Np (l:List Oper) (ef free:List Nat):Bool:=
 let M:=masks l []
 (ef.zipIdx.all fun (e,q)=>Nat.blt e l.length&&(ef.zipIdx.all fun (e',q') => !(Nat.blt q q')||(Nat.blt e e'&&(M.getD e' 0).testBit e))) &&
 (l.zipIdx.all fun (_,i)=>ef.contains i||free.contains i||ef.all fun e=>(M.getD e 0).testBit i) &&
 (ef.all fun e=>match l[e]? with
  | some o=>(l.zipIdx.all fun (o',j)=>(match o.dst with
    | some t=>(Nat.beq e j || !(o'.dst == some t))&&(ef.contains j || !((Ah l o').contains t)||(M.getD e 0).testBit j)
    | none=>true) &&
    (Nat.ble j e||ef.contains j||(match o'.dst with | some t => !((Ah l o).contains t) | none=>true)))
  | none=>false)
structure ChainOk (l:List Oper) (ef free:List Nat):Prop where
 lt:∀ e∈ef,e<l.length
 chain:∀ (q q' e e':Nat),q<q'->ef[q]? = some e->ef[q']? = some e'->e<e'/\∀ S,Bc l S->S e'=true->S e=true
 dep:∀ i<l.length,i∉ef->i∉free->∀ e∈ef,∀ S,Bc l S->S e=true->S i=true
 op:∀ e∈ef,∃ o,l[e]? = some o/\(∀ t,o.dst=some t->(∀ j o',l[j]? = some o'->j≠e->o'.dst≠some t)/\∀ j o',l[j]? = some o'->j∉ef->t∉Ah l o'\/∀ S,Bc l S->S e=true->S j=true)/\∀ j o' t,e<j->j∉ef->l[j]? = some o'->o'.dst=some t->t∉Ah l o
theorem AU {l:List Nat} {i:Nat} (h:i∉l):l.contains i=false:=by
 cases hb:l.contains i with
 | true=>exact absurd (List.contains_iff_mem.1 hb) h
 | false=>rfl
theorem NQ {l:List Oper} {ef free:List Nat} (h:Np l ef free=true):ChainOk l ef free:=by
 have hM:Jc l (masks l []):=GQ l l [] (fun j=>by simp) (fun j m hj=>by simp at hj)
 have use:∀ i j S,Bc l S->((masks l []).getD i 0).testBit j=true->S i=true->S j=true:=by
  intro i j S hS hb hi
  cases hacc:(masks l [])[i]? with
  | none=>rw [List.getD_eq_getElem?_getD,hacc] at hb;simp at hb
  | some m=>rw [List.getD_eq_getElem?_getD,hacc] at hb;exact hM i m hacc j hb S hS hi
 unfold Np at h;simp only [Bool.and_eq_true,List.all_eq_true] at h;obtain ⟨⟨h1,h2⟩,h3⟩:=h;refine ⟨fun e he=>?_,fun q q' e e' hq he he'=>?_,fun i hi hie hif e he S hS hSe=>?_,fun e he=>?_⟩
 ·obtain ⟨q,hq⟩:=List.getElem?_of_mem he
  exact nB (h1 (e,q) (List.mem_zipIdx_iff_getElem?.2 (by simpa using hq))).1
 ·have:=(h1 (e,q) (List.mem_zipIdx_iff_getElem?.2 (by simpa using he))).2 (e',q') (List.mem_zipIdx_iff_getElem?.2 (by simpa using he'))
  simp only [Bool.or_eq_true,Bool.not_eq_true',Bool.and_eq_true] at this
  rcases this with h4 | ⟨h4,h5⟩
  ·have:Nat.blt q q'=true:=Nat.ble_eq_true_of_le hq
   rw [this] at h4;cases h4
  ·exact ⟨nB h4,fun S hS hSe=>use e' e S hS h5 hSe⟩
 ·have:=h2 (l[i],i) (List.mem_zipIdx_iff_getElem?.2 (by simp [hi]))
  simp only [Bool.or_eq_true,List.all_eq_true,AU hie,AU hif,Bool.false_eq_true,false_or] at this;exact use e i S hS (this e he) hSe
 ·have:=h3 e he
  split at this
  ·rename_i o ho
   simp only [List.all_eq_true] at this
   have hall:=this
   simp only [Bool.and_eq_true] at hall;refine ⟨o,ho,fun t ht=>⟨fun j o' hj hne=>?_,fun j o' hj hje=>?_⟩,fun j o' t hlt hje hj ht=>?_⟩
   ·have:=(hall (o',j) (List.mem_zipIdx_iff_getElem?.2 (by simpa using hj))).1
    rw [ht] at this;simp only [Bool.and_eq_true,Bool.or_eq_true,Bool.not_eq_true'] at this
    rcases this.1 with h5 | h5
    ·exact absurd (Nat.eq_of_beq_eq_true h5).symm hne
    ·intro e;rw [e] at h5;simp at h5
   ·have:=(hall (o',j) (List.mem_zipIdx_iff_getElem?.2 (by simpa using hj))).1
    rw [ht] at this;simp only [Bool.and_eq_true,Bool.or_eq_true,Bool.not_eq_true',AU hje,Bool.false_eq_true,false_or] at this
    rcases this.2 with h5 | h5
    ·refine .inl fun hm=>?_
     rw [List.contains_iff_mem.2 hm] at h5;cases h5
    ·exact .inr fun S hS hSe=>use e j S hS h5 hSe
   ·have:=(hall (o',j) (List.mem_zipIdx_iff_getElem?.2 (by simpa using hj))).2
    rw [ht] at this
    have hnb:Nat.ble j e=false:=by
     cases hb:Nat.ble j e with
     | true=>have:=nB hb;omega
     | false=>rfl
    simp only [Bool.or_eq_true,hnb,AU hje,Bool.false_eq_true,false_or,Bool.not_eq_true'] at this
    intro hm
    rw [List.contains_iff_mem.2 hm] at this;cases this
  ·cases this
def extE (o:Oper) (d:D) (E:Env):Env:=match o.dst with
 | some t=>(t,d)::E
 | none=>E
section
variable {Γ:Ctx} {P:Program} {L:Env} {ms:List Asrt} {K:KT} {l:List Oper}
def GStep (P:Program) (l:List Oper) (o:Oper) (E:Env) (ms:List Asrt) (nx:D->List Asrt->Prop) (sk:Prop):Prop:=match o.guard with
 | none=>∃ R,OpT P o (Env.only (Ah l o) E) ms R/\∀ d ms',R d ms'->nx d ms'
 | some (j,want)=>∃ s u,(l[j]?).bind (·.dst)=some s/\Env.find E s=some (.v u)/\((∃ b,u = .bool b/\((b=want/\∃ R,OpT P o (Env.only (Ah l o) E) ms R/\∀ d ms',R d ms'->nx d ms')\/(b = !want/\sk)))\/(u=undef/\sk))
def GDE2 (Γ:Ctx) (P:Program) (ops:List Oper) (K:KT) (FD:List Asrt->Prop) (L:Env):List Nat->Env->List Asrt->Prop
 | [],E,ms=>K .normal (E++L) ms
 | e::es,E,ms=>∀ o,ops[e]? = some o->dstOk o Γ.N/\GStep P ops o (E++L) ms (fun d ms'=>FD ms'/\GDE2 Γ P ops K FD L es (extE o d E) ms') (GDE2 Γ P ops K FD L es (extE o (.v undef) E) ms)
theorem O3 {ef free fd:List Nat} {FD:List Asrt->Prop} (hf:FlowOk l l.length) (hch:ChainOk l ef free) (ds:List D) (hlen:ds.length=l.length)
    (hstep:∀ (i:Nat) o d,i∉ef->l[i]? = some o->ds[i]? = some d->dstOk o Γ.N/\Step P l o (envL (fun j=>decide (j<i) && !(ef.contains j)) l ds 0 L) (if free.contains i && !(fd.contains i) then [] else ms) d)
    (hfd:∀ msx,FD msx->∀ (i:Nat) o d,fd.contains i=true->l[i]? = some o->ds[i]? = some d->Step P l o (envL (fun j=>decide (j<i) && !(ef.contains j)) l ds 0 L) msx d) (hfd0:FD ms)
    (h2:GDE2 Γ P l K FD (envL (fun j => !(ef.contains j)) l ds 0 L) ef [] ms) :
    ∀ (fuel:Nat) (listed:Array Bool) (t:Nat) (a:Act) (w:World),listed.size=l.length->Bc l (fun j=>listed.getD j false)->(∀ i,l.length<=i->listed.getD i false=false) ->
      ((List.range l.length).filter (fun i => !listed.getD i false)).length<=fuel ->
      (∃ m E msx,m<=ef.length/\(∀ q e,ef[q]? = some e->(listed.getD e false=true↔q<m))/\GDE2 Γ P l K FD (envL (fun j => !(ef.contains j)) l ds 0 L) (ef.drop m) E msx/\(∀ t d,Env.find E t=some d->∃ e o,e∈ef/\listed.getD e false=true/\l[e]? = some o/\o.dst=some t)/\(m=0->msx=ms)/\FD msx /\
        Models Γ (E++envL (fun j=>listed.getD j false && !(ef.contains j)) l ds 0 L) msx a w) ->
      wpOpsIn (FR Γ.round) 0 P l.toArray (Post Γ K) (Region.linearise.go .any l.toArray fuel t listed []) a w:=by
  refine Ie hf (Nat.le_refl _) (fun S a w=>∃ m E msx,m<=ef.length/\(∀ q e,ef[q]? = some e->(S e=true↔q<m))/\GDE2 Γ P l K FD (envL (fun j => !(ef.contains j)) l ds 0 L) (ef.drop m) E msx/\(∀ t d,Env.find E t=some d->∃ e o,e∈ef/\S e=true/\l[e]? = some o/\o.dst=some t)/\(m=0->msx=ms)/\FD msx /\
        Models Γ (E++envL (fun j=>S j && !(ef.contains j)) l ds 0 L) msx a w) ?_ ?_
  rotate_left
  · rintro a w ⟨m,E,msx,hml,hm,h2,hE,_,_,mm⟩
    have hdr:ef.drop m=[]:=by
      rw [List.drop_eq_nil_iff]
      rcases Nat.lt_or_ge m ef.length with h | h
      · have:=(hm m ef[m] (by simp [h])).1 (by simp [hch.lt ef[m] (by simp)])
        omega
      · exact h
    rw [hdr] at h2
    simp only [GDE2] at h2
    have hee:envL (fun j=>decide (j<l.length) && !(ef.contains j)) l ds 0 L=envL (fun q => !(ef.contains q)) l ds 0 L:=by
      have:∀ (l':List Oper) (ds:List D) (k0:Nat) (L:Env),k0+l'.length<=l.length->envL (fun j=>decide (j<l.length) && !(ef.contains j)) l' ds k0 L=envL (fun q => !(ef.contains q)) l' ds k0 L:=by
        intro l'
        induction l' with
        | nil=>intro ds k0 L _;simp [envL]
        | cons o r ih =>
          intro ds k0 L hk
          cases ds with
          | nil=>simp [envL]
          | cons d ds =>
            simp only [List.length_cons] at hk
            have:decide (k0<l.length)=true:=by simp;omega
            simp only [envL,this,Bool.true_and]
            exact ih ds (k0+1) _ (by omega)
      exact this l ds 0 L (by omega)
    rw [hee] at mm
    rw [List.drop_length]
    exact ⟨_,_,h2,mm⟩
  · rintro S i o a w hc hik ho hunl hcs ⟨m,E,msx,hmle,hm,h2',hE,hm0,hFD,mm⟩ next hn
    obtain ⟨H,marks,hle,hok,henv,hdf⟩:=mm.ex
    by_cases hie:i∈ef
    ·
      obtain ⟨q,hq⟩:=List.getElem?_of_mem hie
      have hqm:q=m:=by
        have h3:¬ q<m:=fun h=>by have:=(hm q i hq).2 h;rw [hunl] at this;cases this
        rcases Nat.lt_or_ge m q with h | h
        · have hml:m<ef.length:=Nat.lt_trans h (List.getElem?_eq_some_iff.1 hq).1
          obtain ⟨h4,h5⟩:=hch.chain m q ef[m] i h (by simp [hml]) hq
          have h6:=h5 _ hcs (by simp)
          have hne:¬ ef[m]=i:=by omega
          simp only [hne,decide_false,Bool.or_false] at h6
          have:=(hm m ef[m] (by simp [hml])).1 h6
          omega
        · omega
      subst hqm
      have hdrop:ef.drop q=i::ef.drop (q+1):=by
        obtain ⟨hlt,he⟩:=List.getElem?_eq_some_iff.1 hq
        rw [<- he];exact (List.getElem_cons_drop ..).symm
      rw [hdrop] at h2'
      simp only [GDE2] at h2'
      obtain ⟨hdk,hgs⟩:=h2' o ho
      obtain ⟨o2,ho2,hdst,hlate⟩:=hch.op i hie
      obtain rfl:o2=o:=by rw [ho] at ho2;exact (Option.some.inj ho2).symm
      have hag:∀ s d',s∈Ah l o2->Env.find (E++envL (fun j => !(ef.contains j)) l ds 0 L) s=some d'->Env.find (E++envL (fun j=>S j && !(ef.contains j)) l ds 0 L) s=some d':=by
        intro s d' h3 h4
        rw [Az] at h4 ⊢
        cases hq2:Env.find E s with
        | some d2=>rw [hq2] at h4;exact h4
        | none =>
          rw [hq2] at h4
          simp only at h4 ⊢
          rw [<- h4]
          refine AW l ds 0 L L (fun j o' hj hd'=>?_) rfl
          simp only [Nat.zero_add]
          cases hfj:ef.contains j with
          | true=>simp
          | false =>
            simp only [Bool.not_false,Bool.and_true]
            have hjf:j∉ef:=fun h=>by rw [List.contains_iff_mem.2 h] at hfj;cases hfj
            have hji:j≠i:=fun e=>hjf (e▸hie)
            have hn':=hf.names i o2 j o' s ho hj (fun e=>hji e.symm) hd' (.inl h3)
            rcases Nat.lt_or_gt_of_ne hji with hlt | hgt
            · have h5:=(hn' _ hcs).1 hlt (by simp)
              simpa [hji] using h5
            · exact absurd h3 (hlate j o' s hgt hjf hj hd')
      have hsub:EnvOk H (Env.only (Ah l o2) (E++envL (fun j => !(ef.contains j)) l ds 0 L)) a.tmps:=by
        intro s d' hfnd
        obtain ⟨h3,h4⟩:=DY hfnd
        exact henv s d' (hag s d' h3 h4)
      have fin:∀ v d ms' w' H',FD ms'->GDE2 Γ P l K FD (envL (fun j => !(ef.contains j)) l ds 0 L) (ef.drop (q+1)) (extE o2 d E) ms'->PH.le H H'->HeapOk H' (ms'++(marks.map markA++Γ.fr)) w'->Conc H' d v->SameOut w w'->next (a.put o2.dst v) w':=by
        intro v d ms' w' H' hFD' hr2 hl hok' hcv hso
        refine hn _ _ ⟨q+1,extE o2 d E,ms',(List.getElem?_eq_some_iff.1 hq).1,fun q' e' he'=>?_,hr2,fun t d2 ht=>?_,fun h=>by omega,hFD',?_⟩
        · by_cases hqq:q'=q
          · subst hqq
            have:e'=i:=by rw [hq] at he';exact (Option.some.inj he').symm
            simp [this]
          · have hne:e'≠i:=by
              intro e
              subst e
              rcases Nat.lt_or_gt_of_ne hqq with h | h
              · have:=(hch.chain q' q e' e' h he' hq).1;omega
              · have:=(hch.chain q q' e' e' h hq he').1;omega
            simp only [hne,decide_false,Bool.or_false]
            rw [hm q' e' he']
            omega
        · unfold extE at ht
          cases hd:o2.dst with
          | none =>
            rw [hd] at ht
            obtain ⟨e,o3,a1,a2,a3,a4⟩:=hE t d2 ht
            exact ⟨e,o3,a1,by simp [a2],a3,a4⟩
          | some t0 =>
            rw [hd] at ht
            simp only [Env.find] at ht
            cases hb:Nat.beq t0 t with
            | true=>exact ⟨i,o2,hie,by simp,ho,by rw [hd,Nat.eq_of_beq_eq_true hb]⟩
            | false =>
              rw [hb] at ht
              obtain ⟨e,o3,a1,a2,a3,a4⟩:=hE t d2 ht
              exact ⟨e,o3,a1,by simp [a2],a3,a4⟩
        · have hpe:envL (fun j=>(S j||decide (j=i)) && !(ef.contains j)) l ds 0 L=envL (fun j=>S j && !(ef.contains j)) l ds 0 L:=by
            congr 1
            funext j
            by_cases hji:j=i
            · subst hji;rw [List.contains_iff_mem.2 hie];simp
            · simp [hji]
          rw [hpe]
          refine ⟨⟨H',marks,PH.le_trans hle hl,hok',?_,by cases o2.dst <;> simpa [Act.put] using hdf⟩,by cases o2.dst <;> simp [Act.put,mm.size],mm.same.trans hso⟩
          unfold extE
          cases hd:o2.dst with
          | none=>exact henv.mono hl
          | some t0 =>
            have hlt:t0<Γ.N:=by simp only [dstOk,hd] at hdk;exact nB hdk
            exact (henv.mono hl).put (by rw [mm.size];exact hlt) hcv
      unfold GStep at hgs
      cases hg:o2.guard with
      | none =>
        rw [hg] at hgs
        simp only at hgs
        obtain ⟨R,hop,hrest⟩:=hgs
        simp only [Region.wanted,hg,if_true]
        refine hop Γ.round H (marks.map markA++Γ.fr) a w hok hsub next _ ?_
        intro v d ms' w' H' hR hl hok' hcv hso
        exact fin v d ms' w' H' (hrest d ms' hR).1 (hrest d ms' hR).2 hl hok' hcv hso
      | some qq =>
        obtain ⟨j,want⟩:=qq
        rw [hg] at hgs
        simp only at hgs
        obtain ⟨s,u,h1,h2,h3⟩:=hgs
        have hfnd:=hag s _ (by simp [Ah,hg,h1]) h2
        rcases h3 with ⟨b,hu,h3⟩ | ⟨hu,h4⟩
        · subst hu
          have hy:=Cq (ops:=l.toArray) mm (j:=j) (t:=s) (b:=b) (by simpa using h1) hfnd
          simp only [Region.wanted,hg,hy]
          rcases h3 with ⟨h3,R,hop,hrest⟩ | ⟨h3,h4⟩
          · have hbq:(some b == some want)=true:=by rw [h3];simp
            rw [if_pos hbq]
            refine hop Γ.round H (marks.map markA++Γ.fr) a w hok hsub next _ ?_
            intro v d ms' w' H' hR hl hok' hcv hso
            exact fin v d ms' w' H' (hrest d ms' hR).1 (hrest d ms' hR).2 hl hok' hcv hso
          · have hbq:(some b == some want)=false:=by rw [h3];cases want <;> rfl
            rw [if_neg (by rw [hbq];simp)]
            exact ⟨fun _ _=>trivial,fin undef (.v undef) msx w H hFD h4 (PH.le_refl H) hok (conc_v.2 rfl) (SameOut.refl w)⟩
        · subst hu
          have hy:=BX (ops:=l.toArray) mm (j:=j) (t:=s) (by simpa using h1) hfnd
          simp only [Region.wanted,hg,hy]
          rw [if_neg (by cases want <;> simp)]
          exact ⟨fun _ _=>trivial,fin undef (.v undef) msx w H hFD h4 (PH.le_refl H) hok (conc_v.2 rfl) (SameOut.refl w)⟩
    ·
      obtain ⟨d,hd⟩:∃ d,ds[i]? = some d:=⟨ds[i]'(by omega),by simp⟩
      obtain ⟨hdst,hst⟩:=hstep i o d hie ho hd
      have hnoE:∀ s,s∈Ah l o->Env.find E s=none:=by
        intro s hs
        cases hq:Env.find E s with
        | none=>rfl
        | some d2 =>
          obtain ⟨e,o3,a1,a2,a3,a4⟩:=hE s d2 hq
          obtain ⟨o4,b1,b3,_⟩:=hch.op e a1
          have:o4=o3:=by rw [a3] at b1;exact (Option.some.inj b1).symm
          subst this
          rcases (b3 s a4).2 i o ho hie with h5 | h5
          · exact absurd hs h5
          · have:=h5 S hc a2;rw [hunl] at this;cases this
      have agree:∀ s,s∈Ah l o->Env.find (E++envL (fun j=>S j && !(ef.contains j)) l ds 0 L) s=Env.find (envL (fun j=>decide (j<i) && !(ef.contains j)) l ds 0 L) s:=by
        intro s hsl
        rw [Az,hnoE s hsl]
        refine AW l ds 0 L L (fun j o' hj hd'=>?_) rfl
        simp only [Nat.zero_add]
        cases hfj:ef.contains j with
        | true=>simp
        | false =>
          simp only [Bool.not_false,Bool.and_true]
          by_cases hji:j=i
          · subst hji;rw [hunl];simp
          · have hn':=hf.names i o j o' s ho hj (fun e=>hji e.symm) hd' (.inl hsl)
            by_cases hlt:j<i
            · have h1:=(hn' _ hcs).1 hlt (by simp)
              simp only [hji,decide_false,Bool.or_false] at h1
              rw [h1];simp [hlt]
            · cases hb:S j with
              | true=>have h1:=(hn' _ hc).2 (by omega) hb;rw [hunl] at h1;cases h1
              | false=>simp [hlt]
      have hsub:EnvOk H (Env.only (Ah l o) (envL (fun j=>decide (j<i) && !(ef.contains j)) l ds 0 L)) a.tmps:=by
        intro s d' hfnd
        obtain ⟨h1,h2⟩:=DY hfnd
        exact henv s d' (by rw [agree s h1];exact h2)
      have hcf:=AU hie
      have nxt:∀ (v:Value) (w':World) (H':PH),PH.le H H'->HeapOk H' (msx++(marks.map markA++Γ.fr)) w'->Conc H' d v->SameOut w w'->next (a.put o.dst v) w':=by
        intro v w' H' hl hok' hcv hso
        refine hn _ _ ⟨m,E,msx,hmle,fun q e he=>?_,h2',fun t d2 ht=>?_,hm0,hFD,?_⟩
        · have hne:e≠i:=fun h=>hie (h▸List.mem_of_getElem? he)
          simp only [hne,decide_false,Bool.or_false]
          exact hm q e he
        · obtain ⟨e,o3,a1,a2,a3,a4⟩:=hE t d2 ht
          exact ⟨e,o3,a1,by simp [a2],a3,a4⟩
        · refine ⟨⟨H',marks,PH.le_trans hle hl,hok',?_,by cases o.dst <;> simpa [Act.put] using hdf⟩,by cases o.dst <;> simp [Act.put,mm.size],mm.same.trans hso⟩
          intro s d' hfnd
          by_cases hds:o.dst=some s
          · have hno:Env.find E s=none:=by
              cases hq:Env.find E s with
              | none=>rfl
              | some d2 =>
                obtain ⟨e,o3,a1,_,a3,a4⟩:=hE s d2 hq
                obtain ⟨o4,b1,b3,_⟩:=hch.op e a1
                have:o4=o3:=by rw [a3] at b1;exact (Option.some.inj b1).symm
                subst this
                exact absurd hds ((b3 s a4).1 i o ho (fun h=>hie (h▸a1)))
            rw [Az,hno] at hfnd
            have hat:=Hc (S:=fun j=>((S j||decide (j=i)) && !(ef.contains j))) l ds 0 i L o ho hd hds (by simp [hie]) (fun j o' hj hlo hd'=>by
              simp only [Nat.zero_add]
              have hn':=hf.names i o j o' s ho hlo (by omega) hd' (.inr hds)
              cases hb:S j with
              | true=>have h1:=(hn' _ hc).2 hj hb;rw [hunl] at h1;cases h1
              | false => have:¬ j=i:=by omega
                         simp [this])
            rw [hat] at hfnd
            simp only [Option.some.injEq] at hfnd
            subst hfnd
            have hsz:s<a.tmps.size:=by
              have:=hdst
              simp only [dstOk,hds] at this
              have:=nB this
              rw [mm.size];exact this
            simp only [hds,Act.put]
            simpa [Array.getD,hsz] using hcv
          · have hcg:Env.find (E++envL (fun j=>(S j||decide (j=i)) && !(ef.contains j)) l ds 0 L) s=Env.find (E++envL (fun j=>S j && !(ef.contains j)) l ds 0 L) s:=by
              rw [Az,Az]
              rw [AW l ds 0 L L (fun j o' hj hd'=>?_) rfl]
              simp only [Nat.zero_add]
              have:¬ j=i:=fun e=>by subst e;rw [ho] at hj;simp only [Option.some.injEq] at hj;subst hj;exact hds hd'
              simp [this]
            rw [hcg] at hfnd
            have h1:=(henv s d' hfnd).mono hl
            have h2:(a.put o.dst v).tmps.getD s undef=a.tmps.getD s undef:=by
              cases hod:o.dst with
              | none=>rfl
              | some q =>
                have hq:q≠s:=fun e=>hds (by rw [hod,e])
                simp [Act.put,Array.getD_eq_getD_getElem?,Array.getElem?_setIfInBounds,hq]
            rw [h2]
            exact h1
      obtain ⟨msi,rest,hp,hst⟩:∃ msi rest,msx.Perm (msi++rest)/\Step P l o (envL (fun j=>decide (j<i) && !(ef.contains j)) l ds 0 L) msi d:=by
        cases hfi:fd.contains i with
        | true=>exact ⟨msx,[],by simp,hfd msx hFD i o d hfi ho hd⟩
        | false =>
          rw [hfi] at hst
          simp only [Bool.not_false,Bool.and_true] at hst
          cases hfr:free.contains i with
          | true=>rw [hfr] at hst;exact ⟨[],msx,List.Perm.refl _,hst⟩
          | false =>
            rw [hfr] at hst
            have hm00:m=0:=by
              rcases Nat.eq_zero_or_pos m with h | h
              · exact h
              · have h0:0<ef.length:=by omega
                have hS0:S ef[0]=true:=(hm 0 ef[0] (by simp [h0])).2 h
                have hif:i∉free:=fun hh=>by rw [List.contains_iff_mem.2 hh] at hfr;cases hfr
                have:=hch.dep i hik hie hif ef[0] (by simp) S hc hS0
                rw [hunl] at this;cases this
            exact ⟨ms,[],by rw [hm0 hm00];simp,hst⟩
      have hokp:HeapOk H (msi++(rest++(marks.map markA++Γ.fr))) w:=hok.perm (by
        have:=hp.append_right (marks.map markA++Γ.fr)
        simpa [List.append_assoc] using this)
      have back:∀ {H':PH} {w':World},HeapOk H' (msi++(rest++(marks.map markA++Γ.fr))) w'->HeapOk H' (msx++(marks.map markA++Γ.fr)) w':=fun h=>h.perm (by
        have:=hp.symm.append_right (marks.map markA++Γ.fr)
        simpa [List.append_assoc] using this)
      unfold Step at hst
      cases hg:o.guard with
      | none =>
        rw [hg] at hst
        simp only at hst
        simp only [Region.wanted,hg,if_true]
        refine hst Γ.round H (rest++(marks.map markA++Γ.fr)) a w hokp hsub _ _ ?_
        rintro v d2 ms' w' H' ⟨rfl,rfl⟩ hl hok' hcv hso
        exact nxt v w' H' hl (back hok') hcv hso
      | some q =>
        obtain ⟨j,want⟩:=q
        rw [hg] at hst
        simp only at hst
        obtain ⟨s,u,h1,h2,h3⟩:=hst
        have hss:s∈Ah l o:=by simp [Ah,hg,h1]
        have hfnd:Env.find (E++envL (fun j=>S j && !(ef.contains j)) l ds 0 L) s=some (.v u):=by rw [agree s hss];exact h2
        rcases h3 with ⟨b,hu,h3⟩ | ⟨hu,h4⟩
        · subst hu
          have hy:=Cq (ops:=l.toArray) mm (j:=j) (t:=s) (b:=b) (by simpa using h1) hfnd
          simp only [Region.wanted,hg,hy]
          rcases h3 with ⟨h3,h4⟩ | ⟨h3,h4⟩
          · have hbq:(some b == some want)=true:=by rw [h3];simp
            rw [if_pos hbq]
            refine h4 Γ.round H (rest++(marks.map markA++Γ.fr)) a w hokp hsub _ _ ?_
            rintro v d2 ms' w' H' ⟨rfl,rfl⟩ hl hok' hcv hso
            exact nxt v w' H' hl (back hok') hcv hso
          · have hbq:(some b == some want)=false:=by rw [h3];cases want <;> rfl
            rw [if_neg (by rw [hbq];simp)]
            exact ⟨fun _ _=>trivial,nxt undef w H (PH.le_refl H) hok (by rw [h4];exact conc_v.2 rfl) (SameOut.refl w)⟩
        · subst hu
          have hy:=BX (ops:=l.toArray) mm (j:=j) (t:=s) (by simpa using h1) hfnd
          simp only [Region.wanted,hg,hy]
          rw [if_neg (by cases want <;> simp)]
          exact ⟨fun _ _=>trivial,nxt undef w H (PH.le_refl H) hok (by rw [h4];exact conc_v.2 rfl) (SameOut.refl w)⟩
end
section
variable {Γ:Ctx} {P:Program} {L:Env} {ms:List Asrt} {K:KT} {l:List Oper}
def GDE (Γ:Ctx) (P:Program) (ops:List Oper) (ms:List Asrt) (K:KT) (ef free fd:List Nat):Nat->List Oper->Env->(List Asrt->Prop)->Prop
 | _,[],L,acc=>GDE2 Γ P ops K acc L ef [] ms
 | i,o::r,L,acc=>if ef.contains i=true then GDE Γ P ops ms K ef free fd (i+1) r L acc
  else ∃ d,dstOk o Γ.N/\Step P ops o L (if free.contains i && !(fd.contains i) then [] else ms) d/\GDE Γ P ops ms K ef free fd (i+1) r (ext o d L) (if fd.contains i then fun msx=>acc msx/\Step P ops o L msx d else acc)
theorem Ld {ops:List Oper} {ef free fd:List Nat}:∀ (r:List Oper) (i:Nat) (L:Env) (acc:List Asrt->Prop),acc ms->GDE Γ P ops ms K ef free fd i r L acc ->
    ∃ (ds:List D) (FD:List Asrt->Prop),ds.length=r.length /\
      (∀ j o d,r[j]? = some o->ds[j]? = some d->ef.contains (i+j)=false->dstOk o Γ.N/\Step P ops o (envL (fun q=>decide (q<i+j) && !(ef.contains q)) r ds i L) (if free.contains (i+j) && !(fd.contains (i+j)) then [] else ms) d) /\
      (∀ msx,FD msx->acc msx/\∀ j o d,r[j]? = some o->ds[j]? = some d->ef.contains (i+j)=false->fd.contains (i+j)=true->Step P ops o (envL (fun q=>decide (q<i+j) && !(ef.contains q)) r ds i L) msx d)/\FD ms /\
      GDE2 Γ P ops K FD (envL (fun q => !(ef.contains q)) r ds i L) ef [] ms
  | [],i,L,acc,h0,h=>⟨[],acc,rfl,fun j o d hj=>by simp at hj,fun msx hm=>⟨hm,fun j o d hj=>by simp at hj⟩,h0,(show GDE2 Γ P ops K acc L ef [] ms from h)⟩
  | o::r,i,L,acc,h0,h=>by
    have hsh:∀ j,i+(j+1)=i+1+j:=fun j=>by omega
    unfold GDE at h
    cases hc:ef.contains i with
    | true =>
      rw [if_pos hc] at h
      obtain ⟨ds,FD,e1,e2,e4,e5,e3⟩:=Ld r (i+1) L acc h0 h
      have hS:∀ m,(decide (i<m) && !(ef.contains i))=false:=fun m=>by rw [hc];simp
      refine ⟨.v undef::ds,FD,by simp [e1],fun j o' d' hj hdj hcj=>?_,fun msx hm=>⟨(e4 msx hm).1,fun j o' d' hj hdj hcj hfj=>?_⟩,e5,?_⟩
      · cases j with
        | zero=>rw [Nat.add_zero] at hcj;rw [hc] at hcj;cases hcj
        | succ j =>
          simp only [List.getElem?_cons_succ] at hj hdj
          rw [hsh] at hcj ⊢
          simp only [envL,hS,Bool.false_eq_true,if_false]
          exact e2 j o' d' hj hdj hcj
      · cases j with
        | zero=>rw [Nat.add_zero] at hcj;rw [hc] at hcj;cases hcj
        | succ j =>
          simp only [List.getElem?_cons_succ] at hj hdj
          rw [hsh] at hcj hfj ⊢
          simp only [envL,hS,Bool.false_eq_true,if_false]
          exact (e4 msx hm).2 j o' d' hj hdj hcj hfj
      · simp only [envL]
        rw [if_neg (by rw [hc];simp)]
        exact e3
    | false =>
      rw [if_neg (by rw [hc];simp)] at h
      obtain ⟨d,hdk,hst,hrest⟩:=h
      have h0':(if fd.contains i then fun msx=>acc msx/\Step P ops o L msx d else acc) ms:=by
        cases hf:fd.contains i with
        | true=>rw [hf] at hst;simp only [Bool.not_true,Bool.and_false,Bool.false_eq_true,if_false] at hst;exact ⟨h0,hst⟩
        | false=>exact h0
      obtain ⟨ds,FD,e1,e2,e4,e5,e3⟩:=Ld r (i+1) (ext o d L) _ h0' hrest
      have hS:∀ j,(decide (i<i+1+j) && !(ef.contains i))=true:=fun j=>by rw [hc];simp;omega
      have hL0:envL (fun q=>decide (q<i+0) && !(ef.contains q)) (o::r) (d::ds) i L=L:=by
        rw [Nat.add_zero,Cd _ _ _ _ (fun q hq=>by have:¬ q<i:=by omega
                                                  simp [this])]
      refine ⟨d::ds,FD,by simp [e1],fun j o' d' hj hdj hcj=>?_,fun msx hm=>?_,e5,?_⟩
      · cases j with
        | zero =>
          simp only [List.getElem?_cons_zero,Option.some.injEq] at hj hdj
          subst hj hdj
          exact ⟨hdk,by rw [hL0];exact hst⟩
        | succ j =>
          simp only [List.getElem?_cons_succ] at hj hdj
          rw [hsh] at hcj ⊢
          simp only [envL,hS,if_true]
          exact e2 j o' d' hj hdj hcj
      · obtain ⟨hacc,hrest2⟩:=e4 msx hm
        have hacc':acc msx:=by
          cases hf:fd.contains i with
          | true=>rw [hf] at hacc;exact hacc.1
          | false=>rw [hf] at hacc;exact hacc
        refine ⟨hacc',fun j o' d' hj hdj hcj hfj=>?_⟩
        cases j with
        | zero =>
          simp only [List.getElem?_cons_zero,Option.some.injEq] at hj hdj
          subst hj hdj
          rw [hL0]
          rw [Nat.add_zero] at hfj
          rw [hfj] at hacc
          exact hacc.2
        | succ j =>
          simp only [List.getElem?_cons_succ] at hj hdj
          rw [hsh] at hcj hfj ⊢
          simp only [envL,hS,if_true]
          exact hrest2 j o' d' hj hdj hcj hfj
      · simp only [envL]
        rw [if_pos (by rw [hc];rfl)]
        exact e3
theorem DS {id:Nat} (ef free fd:List Nat) (hm:P.follows .mixedOrders=true) (hf:flowB l l.length=true) (hch:Np l ef free=true) (hfe:fd.all (fun i => !(ef.contains i))=true) (h:GDE Γ P l ms K ef free fd 0 l L (fun _=>True)):G Γ P (.region id l.toArray true) L ms K:=by
 intro a w m
 refine wpIn_region_draw fun t=>?_;simp only [Region.schedule,hm,Bool.true_or,if_true]
 have hfo:=IM hf
 obtain ⟨ds,FD,e1,e2,e4,e5,e3⟩:=Ld _ _ _ _ trivial h;simp only [Nat.zero_add] at e2 e4;refine O3 (L:=L) (ms:=ms) (fd:=fd) hfo (NQ hch) ds e1 ?_ (fun msx hm i o d hfi ho hd=>(e4 msx hm).2 i o d ho hd (by
  have:=List.all_eq_true.1 hfe i (List.contains_iff_mem.1 hfi)
  simpa using this) hfi) e5 e3 l.toArray.size (Array.replicate l.toArray.size false) t a { w with drawn:=w.drawn+1 } (by simp) ?_ ?_ ?_ ?_
 ·intro i o d hie ho hd
  exact e2 i o d ho hd (AU hie)
 ·intro j o hj hS
  simp [Array.getD] at hS
 ·intro i _;simp [Array.getD]
 ·have:=List.length_filter_le (fun i => !(Array.replicate l.toArray.size false).getD i false) (List.range l.length)
  simpa using this
 ·have hz:∀ j,(Array.replicate l.toArray.size false).getD j false=false:=fun j=>by simp [Array.getD]
  refine ⟨0,[],ms,Nat.zero_le _,fun q e he=>by rw [hz];simp,by simpa using e3,fun t d ht=>by simp [Env.find] at ht,fun _=>rfl,e5,?_⟩;rw [List.nil_append,Cd _ _ _ _ (fun q _=>by rw [hz];rfl)];obtain ⟨H,marks,hle,hok,henv,hdf⟩:=m.ex;exact ⟨⟨H,marks,hle,hok.drew _,henv,hdf⟩,m.size,⟨m.same.os,m.same.output,m.same.tape,m.same.size⟩⟩
theorem DU {ops r:List Oper} {ef free fd:List Nat} {acc:List Asrt->Prop} {n:Nat} {o:Oper} (hc:ef.contains n=true) (k:GDE Γ P ops ms K ef free fd (n+1) r L acc):GDE Γ P ops ms K ef free fd n (o::r) L acc:=by
 unfold GDE;rw [if_pos hc];exact k
theorem Au {ops r:List Oper} {ef free fd:List Nat} {acc:List Asrt->Prop} {n:Nat} {o:Oper} {d:D} {i:Nat} {msi:List Asrt} (hc:ef.contains n=false) (hnf:fd.contains n=false) (hms:(if free.contains n then [] else ms)=msi) (hg:o.guard=none) (hd:o.dst=some i) (hi:Nat.blt i Γ.N=true) (h:OpP P o (Env.only (Ah ops o) L) msi d) (k:GDE Γ P ops ms K ef free fd (n+1) r ((i,d)::L) acc):GDE Γ P ops ms K ef free fd n (o::r) L acc:=by
 unfold GDE;rw [if_neg (by rw [hc];simp),hnf];simp only [Bool.not_false,Bool.and_true,Bool.false_eq_true,if_false];rw [hms];refine ⟨d,by simp only [dstOk,hd];exact hi,by simp only [Step,hg];exact h,?_⟩;simp only [ext,hd];exact k
theorem MF {ops r:List Oper} {ef free fd:List Nat} {acc:List Asrt->Prop} {n:Nat} {o:Oper} {d:D} {i:Nat} (hc:ef.contains n=false) (hnf:fd.contains n=true) (hg:o.guard=none) (hd:o.dst=some i) (hi:Nat.blt i Γ.N=true) (h:OpP P o (Env.only (Ah ops o) L) ms d) (k:GDE Γ P ops ms K ef free fd (n+1) r ((i,d)::L) (fun msx=>acc msx/\OpP P o (Env.only (Ah ops o) L) msx d)):GDE Γ P ops ms K ef free fd n (o::r) L acc:=by
 unfold GDE;rw [if_neg (by rw [hc];simp),hnf];simp only [Bool.not_true,Bool.and_false,Bool.false_eq_true,if_false,if_true]
 have hs:∀ m,Step P ops o L m d=OpP P o (Env.only (Ah ops o) L) m d:=fun m=>by simp only [Step,hg]
 refine ⟨d,by simp only [dstOk,hd];exact hi,by rw [hs];exact h,?_⟩;simp only [hs];simp only [ext,hd];exact k
theorem EQ {ops:List Oper} {ef free fd:List Nat} {acc:List Asrt->Prop} {n:Nat} (h:GDE2 Γ P ops K acc L ef [] ms):GDE Γ P ops ms K ef free fd n [] L acc:=h
theorem GB {ops:List Oper} {FD:List Asrt->Prop} {E:Env} {msx:List Asrt} {e i:Nat} {es:List Nat} {o:Oper} {R:D->List Asrt->Prop} (ho:ops[e]? = some o) (hg:o.guard=none) (hd:o.dst=some i) (hi:Nat.blt i Γ.N=true) (h:OpT P o (Env.only (Ah ops o) (E++L)) msx R) (k:∀ d ms',R d ms'->FD ms'/\GDE2 Γ P ops K FD L es ((i,d)::E) ms'):GDE2 Γ P ops K FD L (e::es) E msx:=by
 intro o' ho'
 have:o'=o:=by rw [ho] at ho';exact (Option.some.inj ho').symm
 subst this;refine ⟨by simp only [dstOk,hd];exact hi,?_⟩;unfold GStep;rw [hg];refine ⟨R,h,fun d ms' hR=>?_⟩
 have:=k d ms' hR
 simpa [extE,hd] using this
theorem Cv {ops:List Oper} {FD:List Asrt->Prop} {E:Env} {msx:List Asrt} {e:Nat} {es:List Nat} {o:Oper} {R:D->List Asrt->Prop} (ho:ops[e]? = some o) (hg:o.guard=none) (hd:o.dst=none) (h:OpT P o (Env.only (Ah ops o) (E++L)) msx R) (k:∀ d ms',R d ms'->FD ms'/\GDE2 Γ P ops K FD L es E ms'):GDE2 Γ P ops K FD L (e::es) E msx:=by
 intro o' ho'
 have:o'=o:=by rw [ho] at ho';exact (Option.some.inj ho').symm
 subst this;refine ⟨by simp only [dstOk,hd],?_⟩;unfold GStep;rw [hg];refine ⟨R,h,fun d ms' hR=>?_⟩
 have:=k d ms' hR
 simpa [extE,hd] using this
theorem BL {ops:List Oper} {FD:List Asrt->Prop} {E:Env} {msx:List Asrt} (h:K .normal (E++L) msx):GDE2 Γ P ops K FD L [] E msx:=h
end
section
variable {P:Program} {L:Env} {ms:List Asrt} {dst:Option Nat} {ty:TypeId} {pos:String} {after:Array Edge} {g:Option (Nat×Bool)} {x:Operand} {t:TypeId}
theorem BP {a:Option Addr} {m cap:Nat} {e T sz:Nat} {α:Type} {f:α->D} {l:List α} (k:Nat) (hu:∀ w,(underlying t).run P w = .ok (.slice e) w) (hx:Env.ev L x=some (.v (.slice a m cap))) (hk:ms[k]? = some (arr a m cap T sz f l)):OpP P ⟨dst,.call ⟨.builtin .len,#[x],#[t]⟩,ty,pos,after,g⟩ L ms (.i64 l.length):=by
 refine .pure (by simp) fun H fr act w hok henv=>⟨.int .i64 m,by simp [execOp,resolve,invoke,builtin,Builtin.len_,Be henv hx,hu,Sem.run,goInt],conc_v.2 ?_⟩
 have:=(hok.ok _ (List.mem_of_getElem? (getElem?_app (r:=fr) hk))).1
 rw [this]
end
end Go.V
namespace Go.V
theorem Ag {Γ:Ctx} {P:Program} {L:Env} {ms ms':List Asrt} {K:KT} {ops:Array Oper} {r:List Oper} (h:ms=ms') (k:GO Γ P ops r L ms' K):GO Γ P ops r L ms K:=by subst h;exact k
end Go.V
namespace Go.V
section
variable {Γ:Ctx} {P:Program} {L:Env} {ms:List Asrt} {K:KT}
theorem R9 {c:Code} {S Hid O:Type} {φ:Nat->S->Option O} {n0:Nat} {st0:S} {o0':O} (oo:Hid->O) (L1:Env) (F:List (Nat×Asrt)) (mod:S->Hid->Env) (own:List (Nat×Asrt)->S->Hid->List Asrt) (hid0:Hid) (hm:φ n0 st0=some o0') (ho:oo hid0=o0') (hz:∀ st,φ 0 st=none)
  (hs:SubEnv L1 L) (hF:FixOk ms F) (r0:SubEnv (mod st0 hid0) L) (o0:own F st0 hid0=ms)
  (round:∀ n st hid,φ (n+1) st=some (oo hid)->G Γ P c (mod st hid++L1) (own F st hid) (KT.then (fun L' ms'=>∃ st' hid',φ n st'=some (oo hid')/\SubEnv (mod st' hid') L'/\SubEnv L1 L'/\∃ junk,ms'=junk++own F st' hid') K)):G Γ P (.loop c) L ms K:=by
 subst ho;refine GP L1 (fun (s:Nat×S×Hid)=>φ s.1 s.2.1=some (oo s.2.2)) (fun s=>mod s.2.1 s.2.2) (fun s=>own F s.2.1 s.2.2) (fun s=>s.1) (n0,st0,hid0) hm hs r0 o0 ?_;rintro ⟨n,st,hid⟩ hI
 cases n with
 | zero=>exact absurd (hI.symm.trans (hz st)) (by simp)
 | succ n =>
  refine Jg (round n st hid hI) ?_
  intro e L' ms' k
  cases e with
  | normal =>
   obtain ⟨st',hid',h1,h2,h3,h4⟩:=k;exact ⟨(n,st',hid'),h1,Nat.lt_succ_self n,h2,h3,h4⟩
  | _=>exact k
theorem RK {α:Type} {x:α} {ys xs:List α} {k:Nat} (h:some (x::ys)=some (xs.drop k)):xs[k]? = some x/\k+1<=xs.length/\xs.drop (k+1)=ys:=by
 have h:=(Option.some.inj h).symm
 have hl:k<xs.length:=by
  have:=congrArg List.length h
  simp at this;omega
 exact ⟨by have:=congrArg (·[0]?) h;simpa using this,hl,by have:=congrArg (·.drop 1) h;simpa [Nat.add_comm] using this⟩
theorem Ra {α:Type} {xs:List α} {k:Nat} {J:Nat->List Asrt->Prop} {tl:List Asrt} (h:some ([]:List α)=some (xs.drop k)) (hk:k<=xs.length) (hJ:J k tl) {β:Type _} (e:α->β):J (xs.map e).length tl:=by
 have h:=(Option.some.inj h).symm
 have:xs.length<=k:=by simpa using h
 have:k=xs.length:=by omega
 subst this;rw [List.length_map];exact hJ
theorem T8 {α:Type _} {β:Type _} {e:α->β} {xs:List α} {k:Nat} {x:α} (h:xs[k]? = some x):(xs.map e)[k]? = some (e x):=by rw [List.getElem?_map,h];rfl
end
section
variable {P:Program} {L:Env} {dst:Option Nat} {ty:TypeId} {pos:String} {after:Array Edge} {g:Option (Nat×Bool)} {x:Operand}
theorem SG {args:List Operand} {ats:Array TypeId} {ds:List D} {y:D} (own tl:List Asrt) {J:Nat->List Asrt->Prop} {Jx:List Asrt->Prop} {k:Nat} (hx:Env.ev L x=some y) (hev:evL L args=some ds)
  (hf:FV P y ds tl (fun r ms'=>(r = .bool true/\J (k+1) ms')\/(r = .bool false/\Jx ms'))) :
  OpT P ⟨dst,.call ⟨.value x,args.toArray,ats⟩,ty,pos,after,g⟩ L (own++tl) (fun d ms'=>∃ b tl',d = .bool b/\ms'=own++tl'/\(b=true->J (k+1) tl')/\(b=false->Jx tl')):=by
 have:=KI (P:=P) (L:=L) (ms:=own++tl) (dst:=dst) (ty:=ty) (pos:=pos) (after:=after) (g:=g) (ats:=ats) (ms₁:=tl) (rest:=own) hx hev List.perm_append_comm hf
 intro ro H fr a w hok henv next Q hn
 refine this ro H fr a w hok henv next Q ?_;rintro v d ms' w' H' ⟨ms₁',hR,rfl⟩ hle hok' hc' hs
 have hp:HeapOk H' ((own++ms₁')++fr) w':=hok'.perm ((List.perm_append_comm).append_right fr)
 rcases hR with ⟨rfl,h⟩ | ⟨rfl,h⟩
 ·exact hn v _ _ w' H' ⟨true,ms₁',rfl,rfl,fun _=>h,fun e=>by cases e⟩ hle hp hc' hs
 ·exact hn v _ _ w' H' ⟨false,ms₁',rfl,rfl,(fun e=>by cases e),fun _=>h⟩ hle hp hc' hs
end
section
variable {Γ:Ctx} {P:Program} {L:Env} {ms:List Asrt} {K:KT}
theorem Mm {g:Operand} {ps:List Nat} {assign body:Code} {gf:FuncId} {caps:List D} {X S Hid O:Type} {φ:List X->S->Option O} {xs:List X} {st0:S} {o:O} (e:X->List D) (F:List (Nat×Asrt)) (own:List (Nat×Asrt)->S->Hid->List Asrt) (hid0:Hid) (hm:φ xs st0=some o)
  (hF:FixOk ms F) (o0:own F st0 hid0=ms) (hg:Env.ev L g=some (.clo (.func gf) [] caps)) (hc:∀ args w,(callFunc gf args).run P w = .ok (.enter gf args) w) (hit:Iter P gf caps (xs.map e))
  (hlen:∀ x,(e x).length=ps.length) (hps:ps.all (fun p=>Nat.blt p Γ.N)=true)
  (round:∀ (H0:PH) (fr:List Asrt) (ro:Option Nat) (w0:World) hr (x:X) (r:List X) (st:S) (hid:Hid),φ (x::r) st=some o ->
   G ⟨H0,fr,Γ.N,ro,w0,hr⟩ P assign (Ip ps (e x) L) (own F st hid) (KT.then (fun L' ms''=>∀ (H0:PH) (fr:List Asrt) (ro:Option Nat) (w0:World) hr,G ⟨H0,fr,Γ.N,ro,w0,hr⟩ P body L' ms'' (fun e _ ms3=>match e with | .normal=>(∃ st' hid',φ r st'=some o/\∃ junk,ms3=junk++own F st' hid') | .ret=>K .ret L ms3 | .exit id=>K (.exit id) L ms3 | _=>False)) (fun _ _ _=>False)))
  (hdone:∀ st hid,φ [] st=some o->K .normal L (own F st hid)):G Γ P (.rangeFunc g ps.toArray assign body) L ms K:=by
 refine TE (xs.map e) (fun k ms'=>k<=xs.length/\∃ st hid,φ (xs.drop k) st=some o/\ms'=own F st hid) hg hc hit ⟨Nat.zero_le _,st0,hid0,by simpa using hm,o0.symm⟩ (by intro ds hds;obtain ⟨x,_,rfl⟩:=List.mem_map.1 hds;exact hlen x) hps ?_ ?_
 ·rintro H0 fr ro w0 hr k ds ms' hx ⟨hk,st,hid,h1,h2⟩
  subst h2;rw [List.getElem?_map] at hx;obtain ⟨x,hx1,rfl⟩:=Option.map_eq_some_iff.1 hx;obtain ⟨hlt,hx2⟩:=List.getElem?_eq_some_iff.1 hx1
  have hd:xs.drop k=x::xs.drop (k+1):=by rw [<- hx2];exact (List.getElem_cons_drop ..).symm
  rw [hd] at h1;refine Jg (round H0 fr ro w0 hr x _ st hid h1) ?_
  intro e' L' ms'' k'
  cases e' with
  | normal =>
   intro H0' fr' ro' w0' hr'
   refine Jg (k' H0' fr' ro' w0' hr') ?_
   intro e2 L3 ms3 k3
   cases e2 with
   | normal =>
    obtain ⟨st',hid',a,junk,rfl⟩:=k3;exact ⟨junk,_,rfl,hlt,st',hid',a,rfl⟩
   | _=>exact k3
  | _=>exact k'
 ·rintro ms' ⟨_,st,hid,h1,h2⟩
  subst h2;exact hdone st hid (by simpa using h1)
end
end Go.V
namespace Go.V
section
variable {α β S O R:Type}
theorem N3 {φ:Nat->S->Option O} (μ:S->Nat) (I:S->Prop) (Post:O->Prop)
  (step:∀ n s,I s->(∃ s',I s'/\μ s'<μ s/\φ (n+1) s=φ n s')\/(∃ o,Post o/\φ (n+1) s=some o)):∀ n s,I s->μ s<n->∃ o,φ n s=some o/\Post o:=by
 intro n
 induction n with
 | zero=>intro s _ h;omega
 | succ n ih =>
  intro s hI hn
  rcases step n s hI with ⟨s',h1,h2,h3⟩ | ⟨o,h1,h2⟩
  ·obtain ⟨o,h4,h5⟩:=ih s' h1 (by omega)
   exact ⟨o,h3.trans h4,h5⟩
  ·exact ⟨o,h2,h1⟩
open Classical in
theorem FN {l:List α} {φ:Nat->Int->Option (Out R Unit)} (r:R) (q:Nat->α->Prop)
  (step:∀ n (i:Nat) x,l[i]? = some x->i<l.length->(q i x->φ (n+1) (i:Int)=φ n ((i:Int)+1))/\(¬ q i x->φ (n+1) (i:Int)=some (.ret r)))
  (stop:∀ n,φ (n+1) (l.length:Int)=some (.go ())) (hl:l.length<FU) :
  φ FU 0=some (if (∀ i x,l[i]? = some x->q i x) then .go () else .ret r):=by
 have key:∀ n (i:Nat),i<=l.length->l.length - i<n->φ n (i:Int)=some (if (∀ j x,i<=j->l[j]? = some x->q j x) then .go () else .ret r):=by
  intro n
  induction n with
  | zero=>intro i _ h;omega
  | succ n ih =>
   intro i hi hn
   by_cases h:i=l.length
   ·subst h
    rw [stop,if_pos]
    intro j x hj hx
    have:=(List.getElem?_eq_some_iff.1 hx).1
    omega
   ·have hi':i<l.length:=by omega
    have hx:l[i]? = some l[i]:=List.getElem?_eq_getElem hi'
    obtain ⟨h1,h2⟩:=step n i l[i] hx hi'
    by_cases hq:q i l[i]
    ·rw [h1 hq]
     have:=ih (i+1) (by omega) (by omega)
     rw [show ((i:Int)+1)=((i+1:Nat):Int) by simp,this]
     congr 2
     apply propext
     constructor
     ·intro h3 j x hj hx2
      by_cases hji:j=i
      ·subst hji
       rw [hx] at hx2;exact Option.some.inj hx2▸hq
      ·exact h3 j x (by omega) hx2
     ·intro h3 j x hj hx2
      exact h3 j x (by omega) hx2
    ·rw [h2 hq,if_neg]
     intro h3
     exact hq (h3 i _ (Nat.le_refl _) hx)
 have:=key FU 0 (by omega) (by omega)
 rw [show ((0:Nat):Int)=0 from rfl] at this;rw [this]
 congr 2
 apply propext
 exact ⟨fun h j x hx=>h j x (Nat.zero_le _) hx,fun h j x _ hx=>h j x hx⟩
open Classical in
theorem HZ {l:List α} {φ:Nat->Int->Option (Out R Unit)} (r:R) (q:Nat->α->Prop)
  (step:∀ n (i:Nat) x,l[i]? = some x->i<l.length->(¬ q i x->φ (n+1) (i:Int)=φ n ((i:Int)+1))/\(q i x->φ (n+1) (i:Int)=some (.ret r)))
  (stop:∀ n,φ (n+1) (l.length:Int)=some (.go ())) (hl:l.length<FU) :
  φ FU 0=some (if (∃ i x,l[i]? = some x/\q i x) then .ret r else .go ()):=by
 have:=FN (φ:=φ) r (fun i x=>¬ q i x) (fun n i x hx hi=>⟨(step n i x hx hi).1,fun h=>(step n i x hx hi).2 (Classical.not_not.1 h)⟩) stop hl
 rw [this]
 by_cases h:∃ i x,l[i]? = some x/\q i x
 ·rw [if_pos h,if_neg]
  obtain ⟨i,x,h1,h2⟩:=h;exact fun h3=>h3 i x h1 h2
 ·rw [if_neg h,if_pos]
  intro i x h1 h2
  exact h ⟨i,x,h1,h2⟩
theorem FJ {l:List α} {φ:Nat->Int->Option (Out R Unit)} (r:Nat->R) (q:α->Bool)
  (step:∀ n (i:Nat) x,l[i]? = some x->i<l.length->(q x=false->φ (n+1) (i:Int)=φ n ((i:Int)+1))/\(q x=true->φ (n+1) (i:Int)=some (.ret (r i))))
  (stop:∀ n,φ (n+1) (l.length:Int)=some (.go ())) (hl:l.length<FU) :
  φ FU 0=some (match l.findIdx? q with | some i => .ret (r i) | none => .go ()):=by
 have key:∀ n (i:Nat) t,l.drop i=t->i<=l.length->l.length - i<n->φ n (i:Int)=some (match t.findIdx? q with | some k => .ret (r (i+k)) | none => .go ()):=by
  intro n
  induction n with
  | zero=>intro i t _ _ h;omega
  | succ n ih =>
   intro i t ht hi hn
   rcases t with _ | ⟨x,t⟩
   ·have:=GU ht hi
    simp only [List.length_nil] at this;rw [show i=l.length by omega,stop]
    rfl
   ·have hL:=GU ht hi
    simp only [List.length_cons] at hL
    have hx:l[i]? = some x:=by
     have:=congrArg (·[0]?) ht
     simpa [List.getElem?_drop] using this
    obtain ⟨h1,h2⟩:=step n i x hx (by omega)
    cases hq:q x with
    | true=>rw [h2 hq,List.findIdx?_cons,hq];rfl
    | false =>
     rw [h1 hq,List.findIdx?_cons,hq]
     have:=ih (i+1) t (O2 ht) (by omega) (by omega)
     rw [show ((i:Int)+1)=((i+1:Nat):Int) by simp,this]
     cases t.findIdx? q with
     | none=>rfl
     | some k=>simp [Nat.add_comm,Nat.add_left_comm]
 have:=key FU 0 l rfl (by omega) (by omega)
 rw [show ((0:Nat):Int)=0 from rfl] at this;rw [this]
 cases l.findIdx? q <;> simp
theorem JX {l:List α} {φ:Nat->Int->S->Option O} (I:Nat->S->Prop) (g:Nat->S->α->S) (fin:S->O)
  (step:∀ n (i:Nat) x s,l[i]? = some x->i<l.length->I i s->φ (n+1) (i:Int) s=φ n ((i:Int)+1) (g i s x)/\I (i+1) (g i s x))
  (stop:∀ n s,I l.length s->φ (n+1) (l.length:Int) s=some (fin s)) (hl:l.length<FU) (F:Nat->List α->S->S) (F0:∀ i s,F i [] s=s) (F1:∀ i x t s,F i (x::t) s=F (i+1) t (g i s x)) :
  ∀ s,I 0 s->φ FU 0 s=some (fin (F 0 l s))/\I l.length (F 0 l s):=by
 have key:∀ n (i:Nat) t s,l.drop i=t->i<=l.length->l.length - i<n->I i s->φ n (i:Int) s=some (fin (F i t s))/\I l.length (F i t s):=by
  intro n
  induction n with
  | zero=>intro i t s _ _ h;omega
  | succ n ih =>
   intro i t s ht hi hn hI
   rcases t with _ | ⟨x,t⟩
   ·have:=GU ht hi
    simp only [List.length_nil] at this;rw [F0]
    have hi:i=l.length:=by omega
    subst hi;exact ⟨stop n s hI,hI⟩
   ·have hL:=GU ht hi
    simp only [List.length_cons] at hL
    have hx:l[i]? = some x:=by
     have:=congrArg (·[0]?) ht
     simpa [List.getElem?_drop] using this
    obtain ⟨h1,h2⟩:=step n i x s hx (by omega) hI;rw [h1,F1];exact ih (i+1) t _ (O2 ht) (by omega) (by omega) h2
 intro s hI
 exact key FU 0 l s rfl (by omega) (by omega) hI
theorem CI {l:List α} {φ:Nat->Int->List β->Option O} (f:α->β) (fin:List β->O) (c:Nat)
  (step:∀ n (i:Nat) x s,l[i]? = some x->i<l.length->s.length=c+i->φ (n+1) (i:Int) s=φ n ((i:Int)+1) (s++[f x]))
  (stop:∀ n s,s.length=c+l.length->φ (n+1) (l.length:Int) s=some (fin s)) (hl:l.length<FU) (s:List β) (hs:s.length=c) :
  φ FU 0 s=some (fin (s++l.map f)):=by
 have:=JX (φ:=φ) (l:=l) (fun i s=>s.length=c+i) (fun _ s x=>s++[f x]) fin (fun n i x s hx hi hI=>⟨step n i x s hx hi hI,by simp;omega⟩) stop hl (fun _ t s=>s++t.map f) (by simp) (by simp) s (by omega)
 exact this.1
theorem getI {l:List α} {i:Nat} {x:α} (h:l[i]? = some x):idx l (i:Int)=some x:=by rw [SM,h]
theorem getLt {l:List α} {i:Nat} {x:α} (h:l[i]? = some x):i<l.length:=(List.getElem?_eq_some_iff.1 h).1
theorem LE {l:List α} {φ:Nat->Int->Option O} (q:α->Bool) (fin:Nat->O)
  (step:∀ n (i:Nat) x,l[i]? = some x->i<l.length->(q x=true->φ (n+1) (i:Int)=φ n ((i:Int)+1))/\(q x=false->φ (n+1) (i:Int)=some (fin i)))
  (stop:∀ n,φ (n+1) (l.length:Int)=some (fin l.length)):∀ n (i:Nat),i<=l.length->l.length - i<n->φ n (i:Int)=some (fin (i+((l.drop i).takeWhile q).length)):=by
 have key:∀ n (i:Nat) t,l.drop i=t->i<=l.length->l.length - i<n->φ n (i:Int)=some (fin (i+(t.takeWhile q).length)):=by
  intro n
  induction n with
  | zero=>intro i t _ _ h;omega
  | succ n ih =>
   intro i t ht hi hn
   rcases t with _ | ⟨x,t⟩
   ·have:=GU ht hi
    simp only [List.length_nil] at this;rw [show i=l.length by omega,stop]
    rfl
   ·have hL:=GU ht hi
    simp only [List.length_cons] at hL
    have hx:l[i]? = some x:=by
     have:=congrArg (·[0]?) ht
     simpa [List.getElem?_drop] using this
    obtain ⟨h1,h2⟩:=step n i x hx (by omega)
    cases hq:q x with
    | false=>rw [h2 hq,List.takeWhile_cons,hq];rfl
    | true =>
     have:=ih (i+1) t (O2 ht) (by omega) (by omega)
     rw [h1 hq,List.takeWhile_cons,hq,show ((i:Int)+1)=((i+1:Nat):Int) by simp,this]
     congr 2
     simp only [if_true,List.length_cons]
     omega
 intro n i hi hn
 exact key n i _ rfl hi hn
end
end Go.V
namespace Go.V
section
variable {nx:Int->List Int} {N:Nat}
end
theorem QF {α:Type} {l:List α} {i:Nat} {x:α} (h:l[i]? = some x):l.take (i+1)=l.take i++[x]:=by
 obtain ⟨hi,hx⟩:=List.getElem?_eq_some_iff.1 h;rw [List.take_add_one,h];rfl
section
variable {α β S O R:Type}
theorem AR {l:List α} {φ:Nat->Int->S->Option O} (I:Nat->S->Prop) (Post:O->Prop)
  (step:∀ n (i:Nat) x s,l[i]? = some x->i<l.length->I i s->(∃ s',φ (n+1) (i:Int) s=φ n ((i:Int)+1) s'/\I (i+1) s')\/(∃ o,φ (n+1) (i:Int) s=some o/\Post o))
  (stop:∀ n s,I l.length s->∃ o,φ (n+1) (l.length:Int) s=some o/\Post o) (hl:l.length<FU):∀ s,I 0 s->∃ o,φ FU 0 s=some o/\Post o:=by
 have key:∀ n (i:Nat) s,i<=l.length->l.length - i<n->I i s->∃ o,φ n (i:Int) s=some o/\Post o:=by
  intro n
  induction n with
  | zero=>intro i s _ h;omega
  | succ n ih =>
   intro i s hi hn hI
   by_cases h:i=l.length
   ·subst h;exact stop n s hI
   ·have hi':i<l.length:=by omega
    rcases step n i l[i] s (List.getElem?_eq_getElem hi') hi' hI with ⟨s',h1,h2⟩ | ⟨o,h1,h2⟩
    ·obtain ⟨o,h3,h4⟩:=ih (i+1) s' (by omega) (by omega) h2
     exact ⟨o,by rw [h1];exact h3,h4⟩
    ·exact ⟨o,h1,h2⟩
 intro s hI
 exact key FU 0 s (by omega) (by omega) hI
open Classical in
theorem Mu {l m:List α} {φ:Nat->Int->Option (Out R Unit)} (r:R) (hlm:l.length=m.length)
  (step:∀ n (i:Nat) x y,l[i]? = some x->m[i]? = some y->i<l.length->(x=y->φ (n+1) (i:Int)=φ n ((i:Int)+1))/\(¬ x=y->φ (n+1) (i:Int)=some (.ret r)))
  (stop:∀ n,φ (n+1) (l.length:Int)=some (.go ())) (hl:l.length<FU) :
  φ FU 0=some (if l=m then .go () else .ret r):=by
 have e:=FN (φ:=φ) (l:=l) r (fun i x=>m[i]? = some x) (by
  intro n i x hx hi
  have hy:m[i]? = some m[i]:=List.getElem?_eq_getElem (by omega)
  obtain ⟨h1,h2⟩:=step n i x _ hx hy hi
  constructor
  ·intro h;rw [hy] at h;exact h1 (Option.some.inj h).symm
  ·intro h;exact h2 (fun h3=>h (by rw [hy,h3]))) stop hl
 rw [e]
 by_cases h:l=m
 ·subst h
  rw [if_pos rfl,if_pos (fun i x h=>h)]
 ·rw [if_neg h,if_neg]
  intro h4
  refine h (List.ext_getElem? fun i=>?_)
  by_cases hi:i<l.length
  ·rw [h4 i l[i] (List.getElem?_eq_getElem hi),List.getElem?_eq_getElem hi]
  ·rw [List.getElem?_eq_none (by omega),List.getElem?_eq_none (by omega)]
theorem NL {l:List α} {φ:Nat->Int->List α->Option O} (f:α->α) (fin:List α->O)
  (step:∀ n (i:Nat) x s,l[i]? = some x->i<l.length->s.length=l.length->s[i]? = some x->φ (n+1) (i:Int) s=φ n ((i:Int)+1) (s.set i (f x)))
  (stop:∀ n s,s.length=l.length->φ (n+1) (l.length:Int) s=some (fin s)) (hl:l.length<FU):φ FU 0 l=some (fin (l.map f)):=by
 obtain ⟨o,h1,h2⟩:=AR (φ:=φ) (l:=l) (fun i s=>s=(l.take i).map f++l.drop i) (fun o=>o=fin (l.map f)) (by
  intro n i x s hx hi hI
  have hlen:s.length=l.length:=by rw [hI];simp;omega
  have hsi:s[i]? = some x:=by
   rw [hI,List.getElem?_append_right (by simp;omega)];simp only [List.length_map,List.length_take];rw [Nat.min_eq_left (by omega),Nat.sub_self,List.getElem?_drop]
   simpa using hx
  refine .inl ⟨_,step n i x s hx hi hlen hsi,?_⟩;rw [hI,QF hx,List.map_append,List.append_assoc]
  have hd:l.drop i=x::l.drop (i+1):=by
   obtain ⟨hi2,hx2⟩:=List.getElem?_eq_some_iff.1 hx;rw [List.drop_eq_getElem_cons hi2,hx2]
  rw [hd,List.set_append_right _ _ (by simp;omega)];simp only [List.length_map,List.length_take];rw [Nat.min_eq_left (by omega),Nat.sub_self]
  rfl) (by
  intro n s hI
  refine ⟨_,stop n s ?_,?_⟩
  ·rw [hI];simp
  ·rw [hI];simp) hl l (by simp)
 rw [h1,h2]
end
end Go.V
namespace Go.V
section
variable {P:Program} {L:Env} {ms:List Asrt} {dst:Option Nat} {ty:TypeId} {pos:String} {after:Array Edge} {g:Option (Nat×Bool)} {d d':D} {x y:Operand} {t t':TypeId}
end
section
variable {P:Program} {L:Env} {ms:List Asrt} {o:Oper}
theorem OpT.own {msA msB:List Asrt} (h:OpT P o L ms (fun _ ms'=>ms'=msA)) (hc:∀ (H:PH) (fr:List Asrt) (w:World),HeapOk H (msA++fr) w->HeapOk H (msB++fr) w):OpT P o L ms (fun _ ms'=>ms'=msB):=by
 intro ro H fr a w hok henv next Q hn
 refine h ro H fr a w hok henv next Q ?_;rintro v d ms' w' H' rfl hle hok' hc' hs;exact hn v d _ w' H' rfl hle (hc H' fr w' hok') hc' hs
end
section
variable {L:Env} {ms:List Asrt}
theorem Dw {b:Nat} {T T2:TypeId} {cs cs':List D} {a:Option Addr} {cap n:Nat} {sz:Nat} {α:Type} {f:α->D} {xs:List α} (k q k2:Nat) (hk:ms[k]? = some (box b T cs)) (hq:cs[q]? = some (.v (.slice a n cap))) (hk2:ms[k2]? = some (row a cap T2 sz f xs)) (hn:xs.length=n) {ms':List Asrt} (hcs:cs.set q (.list sz f xs)=cs') (hms:ms.set k (box b T cs')=ms'):Refines L ms L ms':=by
 subst hms hcs hn
 intro Γ act w m
 obtain ⟨H,marks,hle,hok,henv,hdf⟩:=m.ex
 have he:=NE (T:=T2) hok (List.mem_append_left _ (List.mem_of_getElem? hk2))
 have hok1:=hok.perm (BW hk)
 obtain ⟨vs,h1,h2,h3⟩:=hok1.ok _ (List.mem_cons_self ..)
 have hup:HeapOk H (box b T (cs.set q (.list sz f xs))::(ms.eraseIdx k++(marks.map markA++Γ.fr))) w:=
  hok1.upd rfl (Nat.le_refl _) (fun _ _ _=>rfl) (fun _ _ _ _=>rfl) (PH.le_refl H) (fun b o v _ hv=>hok1.sub b o v hv) ⟨vs,h1,JG cs vs q _ _ h2 hq he,h3⟩
 exact ⟨⟨H,marks,hle,hup.perm (A4 hk),henv,hdf⟩,m.size,m.same⟩
end
end Go.V
namespace Go.V
section
variable {α β:Type} [DecidableEq α]
def mget:List (α×β)->α->Option β
 | [],_=>none
 | (a,b)::l,k=>if k=a then some b else mget l k
def mset:List (α×β)->α->β->List (α×β)
 | [],k,v=>[(k,v)]
 | (a,b)::l,k,v=>if k=a then (k,v)::l else (a,b)::mset l k v
theorem Jt (l:List (α×β)) (k k':α) (v:β):mget (mset l k v) k'=if k'=k then some v else mget l k':=by
 induction l with
 | nil=>simp [mset,mget]
 | cons p l ih =>
  obtain ⟨a,b⟩:=p
  by_cases h:k=a
  ·subst h
   simp only [mset,if_true,mget]
   by_cases h2:k'=k <;> simp [h2]
  ·simp only [mset,h,if_false,mget,ih]
   by_cases h2:k'=a
   ·subst h2
    have:¬ k'=k:=fun e=>h e.symm
    simp [this]
   ·simp [h2]
end
def MapOk {α β:Type} (fk:α->Value) (fv:β->D) (H:PH):List (α×β)->List MapEntry->Prop
 | [],[]=>True
 | (a,b)::l,e::es=>e.key=fk a/\Conc H (fv b) e.val/\MapOk fk fv H l es
 | _,_=>False
theorem MapOk.mono {α β:Type} {fk:α->Value} {fv:β->D} {H H':PH} (h:PH.le H H'):∀ (l:List (α×β)) (es:List MapEntry),MapOk fk fv H l es->MapOk fk fv H' l es
 | [],[],_=>trivial
 | (a,b)::l,e::es,⟨h1,h2,h3⟩=>⟨h1,h2.mono h,MapOk.mono h l es h3⟩
 | [],_::_,x=>x.elim
 | _::_,[],x=>x.elim
def StOk (es:List MapEntry) (clock:Nat):Prop:=(es.map (·.born)).Nodup/\∀ e∈es,e.born<clock
def mp {α β:Type} (b:Nat) (fk:α->Value) (fv:β->D) (l:List (α×β)):Asrt where
 blocks:=[b]
 ok:=fun H h=>(∃ es clock,h b=some (.map es clock)/\MapOk fk fv H l es.toList/\StOk es.toList clock)/\∀ o,H b o=none
 stable:=by
  rintro H H' h h' e hle ⟨⟨es,clock,h1,h2,hst⟩,h3⟩
  have:=e b (by simp)
  exact ⟨⟨es,clock,by rw [this.2];exact h1,h2.mono hle,hst⟩,fun o=>by rw [this.1];exact h3 o⟩
structure KeyOk (P:Program) (t:TypeId) {α:Type} [DecidableEq α] (fk:α->Value):Prop where
 desc:∃ ds,P.underlying t=some ds/\∀ a b,Instr.sameNow ds (fk a) (fk b)=some (decide (a=b))
 ck:∀ e w a,(Instr.checkKey e 10000 t (fk a)).run P w = .ok () w
 sb:∀ a,Instr.sameBits 10000 (fk a) (fk a)=true
theorem QL {P:Program} {t:TypeId} {k:IntKind} (h:P.underlying t=some (.int k)):KeyOk P t (fun n:Int => .int k n) where
 desc:=⟨_,h,fun a b=>by
  simp only [Instr.sameNow,if_true]
  congr 1⟩
 ck:=fun e w a=>by
  rw [show (10000:Nat)=9999+1 from rfl,Instr.checkKey]
  simp [run_underlying h,Sem.run]
 sb:=fun a=>by rw [show (10000:Nat)=9999+1 from rfl,Instr.sameBits];simp
theorem MV (a b:List UInt8):((⟨a.toArray⟩:ByteArray) == ⟨b.toArray⟩)=decide (a=b):=by
 by_cases h:a=b
 ·subst h
  rw [dT rfl]
  show (a.toArray == a.toArray)=true
  simp
 ·rw [dF h]
  show (a.toArray == b.toArray)=false
  simpa using h
theorem Qr {P:Program} {t:TypeId} (h:P.underlying t=some .string):KeyOk P t (fun s:List UInt8 => .string ⟨s.toArray⟩) where
 desc:=⟨_,h,fun a b=>by
  simp only [Instr.sameNow]
  congr 1
  exact MV a b⟩
 ck:=fun e w a=>by
  rw [show (10000:Nat)=9999+1 from rfl,Instr.checkKey]
  simp [run_underlying h,Sem.run]
 sb:=fun a=>by
  rw [show (10000:Nat)=9999+1 from rfl,Instr.sameBits];rw [MV,dT rfl]
section
variable {α β:Type} [DecidableEq α] {fk:α->Value} {fv:β->D} {H:PH}
theorem Oj {ds:TypeDesc} (hd:∀ a b,Instr.sameNow ds (fk a) (fk b)=some (decide (a=b))) (k:α):∀ (l:List (α×β)) (es:List MapEntry) (i:Nat),MapOk fk fv H l es ->
  match mget l k with
  | none=>Instr.findNow ds (fk k) es i=some none/\∀ v e,e.key=fk k->Conc H (fv v) e.val->MapOk fk fv H (mset l k v) (es++[e])
  | some b=>∃ j e,Instr.findNow ds (fk k) es i=some (some (i+j,e.val))/\es[j]? = some e/\e.key=fk k/\Conc H (fv b) e.val/\∀ v u,Conc H (fv v) u->MapOk fk fv H (mset l k v) (es.modify j fun e=>{ e with key:=fk k,val:=u })
 | [],[],i,_=>by
  simp only [mget,Instr.findNow,true_and]
  intro v e h1 h2
  exact ⟨h1,h2,trivial⟩
 | [],_::_,i,h=>h.elim
 | (a,b)::l,[],i,h=>h.elim
 | (a,b)::l,e::es,i,⟨h1,h2,h3⟩=>by
  simp only [mget]
  by_cases hk:k=a
  ·subst hk
   simp only [if_true];refine ⟨0,e,?_,rfl,h1,h2,fun v u hu=>?_⟩
   ·simp only [Instr.findNow,h1,hd,decide_true,Nat.add_zero]
   ·simp only [mset,if_true,List.modify_zero_cons]
    exact ⟨rfl,hu,h3⟩
  ·simp only [hk,if_false]
   have ih:=Oj hd k l es (i+1) h3
   have hf:Instr.findNow ds (fk k) (e::es) i=Instr.findNow ds (fk k) es (i+1):=by
    simp only [Instr.findNow,h1,hd,hk,decide_false]
   cases hm:mget l k with
   | none =>
    rw [hm] at ih
    simp only at ih ⊢
    refine ⟨by rw [hf];exact ih.1,fun v e' q1 q2=>?_⟩;simp only [mset,hk,if_false,List.cons_append];exact ⟨h1,h2,ih.2 v e' q1 q2⟩
   | some b' =>
    rw [hm] at ih
    simp only at ih ⊢
    obtain ⟨j,e',q1,q2,q3,q4,q5⟩:=ih;refine ⟨j+1,e',by rw [hf,q1,show i+1+j=i+(j+1) by omega],by simpa using q2,q3,q4,fun v u hu=>?_⟩;simp only [mset,hk,if_false,List.modify_succ_cons];exact ⟨h1,h2,q5 v u hu⟩
end
section
variable {P:Program} {L:Env} {ms:List Asrt} {dst:Option Nat} {ty:TypeId} {pos:String} {after:Array Edge} {g:Option (Nat×Bool)} {d d':D} {x y z:Operand} {t t':TypeId} {α β:Type}
theorem Iv {fk:α->Value} {fv:β->D}:OpT P ⟨dst,.makeMap t none,ty,pos,after,g⟩ L ms (fun d ms'=>∃ b,d = .v (.map (some b))/\ms'=mp b fk fv ([]:List (α×β))::ms):=by
 refine .val (by simp) fun H fr a w hok henv=>?_;refine ⟨.map (some w.heap.size),_,_,w.alloc (.map #[] 0),H,?_,⟨w.heap.size,rfl,rfl⟩,PH.le_refl H,?_,conc_v.2 rfl,Bd _ _⟩
 ·simp [execOp,Instr.makeMap,newObj,Sem.run]
 ·exact hok.own (A:=mp w.heap.size fk fv []) rfl ⟨⟨#[],0,AK _ _,trivial,by simp [StOk]⟩,fun o=>hok.none_new _ _ (Nat.le_refl _)⟩
variable [DecidableEq α]
theorem HJ {kt:TypeId} {fk:α->Value} {fv:β->D} {H:PH} {l:List (α×β)} {es:Array MapEntry} {w:World} (hk:KeyOk P kt fk) (k:α) (hm:MapOk fk fv H l es.toList) :
  match mget l k with
  | none=>(Instr.findKey kt (fk k) es.toList).run P w = .ok none w/\∀ v e,e.key=fk k->Conc H (fv v) e.val->MapOk fk fv H (mset l k v) (es.toList++[e])
  | some b=>∃ j e,(Instr.findKey kt (fk k) es.toList).run P w = .ok (some (j,e.val)) w/\es[j]? = some e/\e.key=fk k/\Conc H (fv b) e.val/\∀ v u,Conc H (fv v) u->MapOk fk fv H (mset l k v) (es.toList.modify j fun e=>{ e with key:=fk k,val:=u }):=by
 obtain ⟨ds,h1,h2⟩:=hk.desc
 have:=Oj (H:=H) h2 k l es.toList 0 hm
 cases hg:mget l k with
 | none =>
  rw [hg] at this
  simp only at this ⊢
  refine ⟨?_,this.2⟩;simp only [Instr.findKey,Sem.run_bind,run_underlying h1,Result.andThen_ok,this.1,Sem.run_pure]
 | some b =>
  rw [hg] at this
  simp only at this ⊢
  obtain ⟨j,e,q1,q2,q3⟩:=this;refine ⟨j,e,?_,by simpa using q2,q3⟩;rw [Nat.zero_add] at q1;simp only [Instr.findKey,Sem.run_bind,run_underlying h1,Result.andThen_ok,q1,Sem.run_pure]
theorem Fq {kt et:TypeId} {fk:α->Value} {fv:β->D} {b:Nat} {l:List (α×β)} {key:α} {z0:β} {zv:Value} (k:Nat) (hu:∀ w,(underlying t).run P w = .ok (.map kt et) w) (hk:KeyOk P kt fk) (hz:∀ w,(zeroValue et).run P w = .ok zv w) (hzc:∀ H,Conc H (fv z0) zv)
  (hx:Env.ev L x=some (.v (.map (some b)))) (hm:ms[k]? = some (mp b fk fv l)) (hy:Env.ev L y=some (.v (fk key))):OpP P ⟨dst,.lookup t x y false,ty,pos,after,g⟩ L ms (fv ((mget l key).getD z0)):=by
 refine .pure (by simp) fun H fr a w hok henv=>?_;obtain ⟨⟨es,clock,h1,h2,_⟩,_⟩:=hok.ok _ (List.mem_of_getElem? (getElem?_app (r:=fr) hm))
 have hf:=HJ (w:=w) hk key h2
 have h1':w.heap[b]? = some (.map es clock):=h1
 cases hg:mget l key with
 | none =>
  rw [hg] at hf
  simp only at hf
  refine ⟨zv,?_,hzc H⟩
  simp [execOp,Instr.lookup,Be henv hx,Be henv hy,hu,getObj,h1',Sem.run_bind,hk.ck,hf.1,hz,Sem.run]
 | some b' =>
  rw [hg] at hf
  simp only at hf
  obtain ⟨j,e,q1,_,_,q4,_⟩:=hf;refine ⟨e.val,?_,q4⟩
  simp [execOp,Instr.lookup,Be henv hx,Be henv hy,hu,getObj,h1',Sem.run_bind,hk.ck,q1,hz,Sem.run]
theorem Gt {kt et:TypeId} {fk:α->Value} {fv:β->D} {b:Nat} {l:List (α×β)} {key:α} {v:β} (k:Nat) (hu:∀ w,(underlying t).run P w = .ok (.map kt et) w) (hk:KeyOk P kt fk)
  (hx:Env.ev L x=some (.v (.map (some b)))) (hm:ms[k]? = some (mp b fk fv l)) (hy:Env.ev L y=some (.v (fk key))) (hv:Env.ev L z=some (fv v)):OpT P ⟨dst,.mapUpdate t x y z,ty,pos,after,g⟩ L ms (fun _ ms'=>ms'=ms.set k (mp b fk fv (mset l key v))):=by
 refine .skip (by simp) fun H fr a w hok henv=>?_
 have hok1:=hok.perm (BW hm)
 obtain ⟨⟨es,clock,h1,h2,hst⟩,hn⟩:=hok1.ok _ (List.mem_cons_self ..)
 have hf:=HJ (w:=w) hk key h2
 have h1':w.heap[b]? = some (.map es clock):=h1
 have hlt:b<w.heap.size:=hok1.lt _ (List.mem_cons_self ..) b (by simp [mp])
 have hcv:=henv.ev hv
 have upd:∀ (es':Array MapEntry) (clock':Nat),MapOk fk fv H (mset l key v) es'.toList->StOk es'.toList clock'->HeapOk H (ms.set k (mp b fk fv (mset l key v))++fr) { w with heap:=w.heap.setIfInBounds b (.map es' clock') }:=by
  intro es' clock' hmo hso
  refine HeapOk.perm (A4 hm) ?_;refine hok1.upd rfl (by simp) ?_ (fun _ _ _ _=>rfl) (PH.le_refl H) ?_ ?_
  ·intro b' _ hn'
   have:b≠b':=fun e=>hn' (by simp [mp,e])
   simp [Array.getElem?_setIfInBounds_ne this]
  ·intro b' o u hb' hv'
   rcases hb' with hb' | hb'
   ·simp [mp] at hb';subst hb';rw [hn] at hv';cases hv'
   ·rw [hok1.none_new _ _ hb'] at hv';cases hv'
  ·exact ⟨⟨es',clock',by simp [hlt],hmo,hso⟩,hn⟩
 cases hg:mget l key with
 | none =>
  rw [hg] at hf
  simp only at hf
  refine ⟨_,{ w with heap:=w.heap.setIfInBounds b (.map (es.push { key:=fk key,val:=a.eval z,born:=clock }) (clock+1)) },H,?_,rfl,PH.le_refl H,upd _ _ ?_ ?_,⟨rfl,rfl,rfl,by simp⟩⟩
  ·simp [execOp,Instr.mapUpdate,Be henv hx,Be henv hy,hu,getObj,setObj,h1',Sem.run_bind,hk.ck,hf.1,Sem.run]
  ·rw [Array.toList_push];exact hf.2 v _ rfl hcv
  ·rw [Array.toList_push]
   refine ⟨?_,fun e he=>?_⟩
   ·rw [List.map_append,List.nodup_append]
    refine ⟨hst.1,by simp,fun x hx y hy e=>?_⟩;obtain ⟨e0,h0,rfl⟩:=List.mem_map.1 hx
    simp at hy
    have:=hst.2 e0 h0
    omega
   ·rcases List.mem_append.1 he with he | he
    ·have:=hst.2 e he;omega
    ·simp at he;subst he;simp
 | some b' =>
  rw [hg] at hf
  simp only at hf
  obtain ⟨j,e,q1,q2,q3,_,q5⟩:=hf;refine ⟨_,{ w with heap:=w.heap.setIfInBounds b (.map (es.modify j fun e=>{ e with key:=fk key,val:=a.eval z }) clock) },H,?_,rfl,PH.le_refl H,upd _ _ ?_ ?_,⟨rfl,rfl,rfl,by simp⟩⟩
  ·simp [execOp,Instr.mapUpdate,Be henv hx,Be henv hy,hu,getObj,setObj,h1',Sem.run_bind,hk.ck,q1,q2,q3,Instr.keyThatStays,hk.sb,Sem.run]
  ·rw [Array.toList_modify];exact q5 v _ hcv
  ·rw [Array.toList_modify]
   have hb:∀ (l:List MapEntry) (j:Nat),(l.modify j fun e=>{ e with key:=fk key,val:=a.eval z }).map (·.born)=l.map (·.born):=by
    intro l
    induction l with
    | nil=>intro j;cases j <;> rfl
    | cons e l ih =>
     intro j
     cases j with
     | zero=>rfl
     | succ j=>simp only [List.modify_succ_cons,List.map_cons,ih]
   refine ⟨by rw [hb];exact hst.1,fun e he=>?_⟩
   have hm:e.born∈((es.toList.modify j fun e=>{ e with key:=fk key,val:=a.eval z }).map (·.born)):=List.mem_map.2 ⟨e,he,rfl⟩
   rw [hb] at hm;obtain ⟨e0,h0,h1⟩:=List.mem_map.1 hm
   have:=hst.2 e0 h0
   omega
end
end Go.V
namespace Go.V
def em:Asrt where
 blocks:=[]
 ok:=fun _ _=>True
 stable:=fun _ _ _ _ _ _ _=>trivial
theorem HeapOk.em_in {H:PH} {as:List Asrt} {w:World} (h:HeapOk H as w):HeapOk H (em::as) w:=
 ⟨h.sub,h.nodup,fun A hA b hb=>by
  rcases List.mem_cons.1 hA with rfl | hA
  ·simp [em] at hb
  ·exact h.lt A hA b hb,fun A hA=>by
  rcases List.mem_cons.1 hA with rfl | hA
  ·trivial
  ·exact h.ok A hA⟩
theorem HeapOk.em_out {H:PH} {as:List Asrt} {w:World} (h:HeapOk H (em::as) w):HeapOk H as w:=HeapOk.drop (as:=[em]) h
theorem SQ {H:PH} {ms fr:List Asrt} {w:World} {k:Nat} {A:Asrt} (hk:ms[k]? = some A) (h:HeapOk H (ms++fr) w):HeapOk H (A::(ms.set k em++fr)) w:=by
 have h1:=(h.perm (BW hk)).em_in
 have h2:HeapOk H (A::(em::(ms.eraseIdx k++fr))) w:=h1.perm (List.Perm.swap ..)
 exact h2.perm (List.Perm.cons _ (A4 hk))
theorem TY {H:PH} {ms fr:List Asrt} {w:World} {k:Nat} {A:Asrt} (hk:ms[k]? = some em) (h:HeapOk H (A::(ms++fr)) w):HeapOk H (ms.set k A++fr) w:=by
 have h1:HeapOk H (A::(em::(ms.eraseIdx k++fr))) w:=h.perm (List.Perm.cons _ (BW hk))
 have h2:HeapOk H (A::(ms.eraseIdx k++fr)) w:=(h1.perm (List.Perm.swap ..)).em_out
 exact h2.perm (A4 hk)
def putL (ms:List Asrt):List Nat->List Asrt->List Asrt
 | k::ks,A::As=>putL (ms.set k A) ks As
 | _,_=>ms
def ems (ks:List Nat):List Asrt:=ks.map fun _=>em
theorem NY {k:Nat}:∀ (ks:List Nat) (As ms:List Asrt),k∉ks->(putL ms ks As)[k]? = ms[k]?
 | [],_,_,_=>by simp [putL]
 | _::_,[],_,_=>by simp [putL]
 | j::ks,A::As,ms,h=>by
  simp only [List.mem_cons,not_or] at h;rw [putL,NY ks As _ h.2,List.getElem?_set_ne (fun e=>h.1 e.symm)]
theorem Oi {k:Nat} {B:Asrt}:∀ (ks:List Nat) (As ms:List Asrt),k∉ks->(putL ms ks As).set k B=putL (ms.set k B) ks As
 | [],_,_,_=>by simp [putL]
 | _::_,[],_,_=>by simp [putL]
 | j::ks,A::As,ms,h=>by
  simp only [List.mem_cons,not_or] at h;rw [putL,Oi ks As _ h.2,putL];rw [List.set_comm _ _ (fun e=>h.1 e.symm)]
theorem LW {H:PH} {w:World}:∀ (ks:List Nat) (As ms fr:List Asrt),ks.Nodup->As.length=ks.length->(∀ i:Nat,i<ks.length->∃ k A,ks[i]? = some k/\As[i]? = some A/\ms[k]? = some A)->HeapOk H (ms++fr) w->HeapOk H (As++(putL ms ks (ems ks)++fr)) w
 | [],[],ms,fr,_,_,_,h=>by simpa [putL] using h
 | [],_::_,_,_,_,hl,_,_=>by simp at hl
 | k::ks,[],_,_,_,hl,_,_=>by simp at hl
 | k::ks,A::As,ms,fr,hn,hl,hg,h=>by
  rw [List.nodup_cons] at hn;obtain ⟨k',A',e1,e2,e3⟩:=hg 0 (by simp);simp only [List.getElem?_cons_zero,Option.some.injEq] at e1 e2;subst e1 e2
  have h1:=SQ e3 h
  have h2:HeapOk H (ms.set k em++(A::fr)) w:=h1.perm (List.perm_middle.symm)
  have h3:=LW ks As (ms.set k em) (A::fr) hn.2 (by simpa using hl) (fun i hi=>by
   obtain ⟨k',A',e1,e2,e4⟩:=hg (i+1) (by simpa using hi);simp only [List.getElem?_cons_succ] at e1 e2;refine ⟨k',A',e1,e2,?_⟩
   have hne:k≠k':=fun e=>hn.1 (by rw [e];exact List.mem_of_getElem? e1)
   rw [List.getElem?_set_ne hne];exact e4) h2
  have e5:putL ms (k::ks) (ems (k::ks))=putL (ms.set k em) ks (ems ks):=rfl
  rw [e5];refine h3.perm ?_
  have p1:(putL (ms.set k em) ks (ems ks)++(A::fr)).Perm (A::(putL (ms.set k em) ks (ems ks)++fr)):=List.perm_middle
  have p2:=(p1.append_left As).trans (List.perm_middle (a:=A) (l₁:=As))
  simpa using p2
theorem Nz {H:PH} {w:World}:∀ (ks:List Nat) (As ms fr:List Asrt),ks.Nodup->As.length=ks.length->(∀ k∈ks,k<ms.length)->HeapOk H (As++(putL ms ks (ems ks)++fr)) w->HeapOk H (putL ms ks As++fr) w
 | [],[],ms,fr,_,_,_,h=>by simpa [putL] using h
 | [],_::_,_,_,_,hl,_,_=>by simp at hl
 | k::ks,[],_,_,_,hl,_,_=>by simp at hl
 | k::ks,A::As,ms,fr,hn,hl,hb,h=>by
  rw [List.nodup_cons] at hn
  have e5:putL ms (k::ks) (ems (k::ks))=putL (ms.set k em) ks (ems ks):=rfl
  rw [e5] at h
  have h1:HeapOk H (As++(putL (ms.set k em) ks (ems ks)++(A::fr))) w:=by
   refine h.perm ?_
   have p1:(putL (ms.set k em) ks (ems ks)++(A::fr)).Perm (A::(putL (ms.set k em) ks (ems ks)++fr)):=List.perm_middle
   have p2:=(p1.append_left As).trans (List.perm_middle (a:=A) (l₁:=As))
   simpa using p2.symm
  have h2:=Nz ks As (ms.set k em) (A::fr) hn.2 (by simpa using hl) (fun k' hk'=>by simpa using hb k' (by simp [hk'])) h1
  have h3:HeapOk H (A::(putL (ms.set k em) ks As++fr)) w:=h2.perm List.perm_middle
  have hk:(putL (ms.set k em) ks As)[k]? = some em:=by
   rw [NY ks As _ hn.1,List.getElem?_set_self (hb k (by simp))]
  have h4:=TY hk h3
  rw [Oi ks As _ hn.1] at h4
  simpa [putL] using h4
def ownB:List Nat->List Nat->Nat->Bool
 | [],_,_=>true
 | k::ks,seen,n=>Nat.blt k n && !(seen.contains k)&&ownB ks (k::seen) n
theorem Nv:∀ (ks seen:List Nat) (n:Nat),ownB ks seen n=true->ks.Nodup/\(∀ k∈ks,k<n)/\∀ k∈ks,k∉seen
 | [],_,_,_=>⟨List.nodup_nil,by simp,by simp⟩
 | k::ks,seen,n,h=>by
  simp only [ownB,Bool.and_eq_true,Bool.not_eq_true'] at h;obtain ⟨⟨h1,h2⟩,h3⟩:=h;obtain ⟨a,b,c⟩:=Nv ks (k::seen) n h3;refine ⟨List.nodup_cons.2 ⟨fun hm=>c k hm (by simp),a⟩,fun j hj=>?_,fun j hj=>?_⟩
  ·rcases List.mem_cons.1 hj with rfl | hj
   ·exact nB h1
   ·exact b j hj
  ·rcases List.mem_cons.1 hj with rfl | hj
   ·intro hm
    rw [List.contains_iff_mem.2 hm] at h2;cases h2
   ·exact fun hm=>c j hj (by simp [hm])
def getL (ms:List Asrt):List Nat->List Asrt->Prop
 | [],[]=>True
 | k::ks,A::As=>ms[k]? = some A/\getL ms ks As
 | _,_=>False
theorem KN {ms:List Asrt}:∀ (ks:List Nat) (As:List Asrt),getL ms ks As->As.length=ks.length/\∀ i:Nat,i<ks.length->∃ k A,ks[i]? = some k/\As[i]? = some A/\ms[k]? = some A
 | [],[],_=>⟨rfl,fun i hi=>by simp at hi⟩
 | k::ks,A::As,⟨h1,h2⟩=>by
  obtain ⟨a,b⟩:=KN ks As h2;refine ⟨by simp [a],fun i hi=>?_⟩
  cases i with
  | zero=>exact ⟨k,A,rfl,rfl,h1⟩
  | succ i=>exact b i (by simpa using hi)
 | [],_::_,h=>h.elim
 | _::_,[],h=>h.elim
section
variable {P:Program} {L:Env} {ms:List Asrt} {dst:Option Nat} {ty:TypeId} {pos:String} {after:Array Edge} {g:Option (Nat×Bool)} {d d':D} {x y z:Operand} {t t':TypeId} {R:D->List Asrt->Prop}
theorem C1 {f:FuncId} {args:List Operand} {ats:Array TypeId} {ds:List D} {As:List Asrt} (ks:List Nat) (hc:∀ args w,(callFunc f args).run P w = .ok (.enter f args) w) (hev:evL L args=some ds) (hb:ownB ks [] ms.length=true) (hg:getL ms ks As) (hf:Fn P f ds As R) (hl:∀ d ms',R d ms'->ms'.length=ks.length) :
  OpT P ⟨dst,.call ⟨.value (.func f),args.toArray,ats⟩,ty,pos,after,g⟩ L ms (fun d ms'=>∃ ms₁,R d ms₁/\ms'=putL ms ks ms₁):=by
 obtain ⟨b1,b2,_⟩:=Nv ks [] _ hb;obtain ⟨g1,g2⟩:=KN ks As hg
 intro ro H fr a w hok henv next Q hn
 have hok':=LW ks As ms fr b1 g1 g2 hok
 have:=B7 (P:=P) (L:=L) (ms:=As++putL ms ks (ems ks)) (dst:=dst) (ty:=ty) (pos:=pos) (after:=after) (g:=g) (ats:=ats) (ms₁:=As) (rest:=putL ms ks (ems ks)) hc hev (List.Perm.refl _) hf
 refine this ro H fr a w (by rw [List.append_assoc];exact hok') henv next Q ?_;rintro v d ms' w' H' ⟨ms₁,hR,rfl⟩ hle hok2 hc2 hs;rw [List.append_assoc] at hok2;exact hn v d _ w' H' ⟨ms₁,hR,rfl⟩ hle (Nz ks ms₁ ms fr b1 (hl d ms₁ hR) b2 hok2) hc2 hs
theorem Kw {args:List Operand} {ats:Array TypeId} {ds:List D} {fv:D} {As:List Asrt} (ks:List Nat) (hx:Env.ev L x=some fv) (hev:evL L args=some ds) (hb:ownB ks [] ms.length=true) (hg:getL ms ks As) (hf:FV P fv ds As R) (hl:∀ d ms',R d ms'->ms'.length=ks.length) :
  OpT P ⟨dst,.call ⟨.value x,args.toArray,ats⟩,ty,pos,after,g⟩ L ms (fun d ms'=>∃ ms₁,R d ms₁/\ms'=putL ms ks ms₁):=by
 obtain ⟨b1,b2,_⟩:=Nv ks [] _ hb;obtain ⟨g1,g2⟩:=KN ks As hg
 intro ro H fr a w hok henv next Q hn
 have hok':=LW ks As ms fr b1 g1 g2 hok
 have:=KI (P:=P) (L:=L) (ms:=As++putL ms ks (ems ks)) (dst:=dst) (ty:=ty) (pos:=pos) (after:=after) (g:=g) (ats:=ats) (ms₁:=As) (rest:=putL ms ks (ems ks)) hx hev (List.Perm.refl _) hf
 refine this ro H fr a w (by rw [List.append_assoc];exact hok') henv next Q ?_;rintro v d ms' w' H' ⟨ms₁,hR,rfl⟩ hle hok2 hc2 hs;rw [List.append_assoc] at hok2;exact hn v d _ w' H' ⟨ms₁,hR,rfl⟩ hle (Nz ks ms₁ ms fr b1 (hl d ms₁ hR) b2 hok2) hc2 hs
end
theorem permA {ms As rest:List Asrt} {A:Asrt} (k:Nat) (h:ms[k]? = some A) (p:(ms.eraseIdx k).Perm (rest++As)):ms.Perm (rest++(A::As)):=
 (Hh ms k A h).trans ((List.Perm.cons A p).trans List.perm_middle.symm)
theorem permN {ms:List Asrt}:ms.Perm (ms++[]):=by simp
end Go.V
namespace Go.V
section
variable {P:Program} {L:Env} {ms:List Asrt} {dst:Option Nat} {ty:TypeId} {pos:String} {after:Array Edge} {g:Option (Nat×Bool)} {d d':D} {x y:Operand} {t t':TypeId}
theorem Ca {a:Option Addr} {cap n:Nat} {e:TypeId} {sz:Nat} {α:Type} {f:α->D} {xs zs:List α} {i:TypeInfo} {z:Value} (k:Nat) (ht:P.underlying t=some (.slice e)) (hi:P.info? e=some i) (hz:i.zero=some z) (hsz:i.size=sz) (hzs:z.cells.size=sz)
  (hx:Env.ev L x=some (.v (.slice a n cap))) (hk:ms[k]? = some (arr a n cap e sz f xs)) (hy:Env.ev L y=some (.list sz f zs)) (hfl:∀ x,flat (f x).cs=true) (hst:∀ x,Cz (f x).cs=true)
  (hb:(xs.length+zs.length)*i.bytes<=140737488355328) (h63:xs.length+zs.length<=maxLen) :
  OpT P ⟨dst,.call ⟨.builtin .append,#[x,y],#[t,t]⟩,ty,pos,after,g⟩ L ms (fun d' ms'=>∃ a' m' cap',d' = .v (.slice a' m' cap')/\ms'=ms.set k (arr a' m' cap' e sz f (xs++zs))):=by
 subst hsz;refine .val (by simp) fun H fr act w hok henv=>?_
 have hok1:=hok.perm (BW hk)
 obtain ⟨r0,r1,r2,r3⟩:=hok1.ok _ (List.mem_cons_self ..);subst r0;obtain ⟨ya,yc,hyv,y1,y2,y3⟩:=Eq (henv.ev hy)
 have hrun:∀ {v:Value} {w':World},(Builtin.append_ #[t,t] ty #[.slice a xs.length cap,.slice ya zs.length yc]).run P w = .ok v w' ->
   (execOp act.eval ⟨dst,.call ⟨.builtin .append,#[x,y],#[t,t]⟩,ty,pos,after,g⟩).run P w = .ok (.value v) w':=by
  intro v w' h
  simp [execOp,resolve,invoke,builtin,Be henv hx,hyv,Sem.run,h]
 have h63':xs.length+zs.length<=9223372036854775807:=by simpa [maxLen] using h63
 by_cases hz0:zs=[]
 ·
  subst hz0
  have hr:(Builtin.append_ #[t,t] ty #[.slice a xs.length cap,.slice ya 0 yc]).run P w = .ok (.slice a xs.length cap) w:=by
   have hf:(Builtin.firstCells i.size 0 (.slice ya 0 yc)).run P w = .ok #[] w:=by
    cases ya with
    | none=>simp [Builtin.firstCells,Sem.run]
    | some q=>simp [Builtin.firstCells,loadCells,loadCellsFrom,Sem.run]
   cases a with
   | none=>simp [Builtin.append_,run_underlying ht,sizeOf,typeInfo,hi,Builtin.lenOf,r1,hf,Sem.run]
   | some q=>simp [Builtin.append_,run_underlying ht,sizeOf,typeInfo,hi,Builtin.lenOf,r1,hf,storeCells,Sem.run]
  refine ⟨.slice a xs.length cap,.v (.slice a xs.length cap),ms.set k (arr a xs.length cap e i.size f (xs++([]:List α))),w,H,hrun hr,⟨a,_,cap,rfl,rfl⟩,PH.le_refl H,?_,conc_v.2 rfl,SameOut.refl w⟩;simp only [List.append_nil]
  have:ms.set k (arr a xs.length cap e i.size f xs)=ms:=by
   apply List.ext_getElem?
   intro j
   by_cases hj:k=j
   ·subst hj
    have hlt:=(List.getElem?_eq_some_iff.1 hk).1
    rw [List.getElem?_set_self hlt,hk]
   ·rw [List.getElem?_set_ne hj]
  rw [this];exact hok
 ·rcases y3 with y3 | ⟨yb,yo,hya,hyel⟩
  ·exact absurd y3 hz0
  ·subst hya
   obtain ⟨us,ue,uh⟩:=I7 hyel
   have hpos:0<zs.length:=List.length_pos_iff.2 hz0
   have hnews:∀ j v,us[j]? = some v->w.cell? ((⟨yb,yo,none⟩:Addr).add j)=some v:=fun j v hj=>by rw [Bj];exact hok.sub _ _ _ (uh j v hj)
   have hone:=Kx ue hfl hst
   have grown:∀ (old:Nat) (olds:List Value),ListEnc H f i.size xs olds->(Builtin.append_ #[t,t] ty #[.slice a xs.length cap,.slice (some ⟨yb,yo,none⟩) zs.length yc]).run P w =
     .ok (.slice (some ⟨w.heap.size,0,none⟩) (xs.length+zs.length) (grownCap w (xs.length+zs.length) old e)) (w.drew.alloc (.cells (olds.toArray++us.toArray++Builtin.zeroCells z.cells (grownCap w (xs.length+zs.length) old e - (xs.length+zs.length))) e)) ->
     ∃ v d ms' w' H',(execOp act.eval ⟨dst,.call ⟨.builtin .append,#[x,y],#[t,t]⟩,ty,pos,after,g⟩).run P w = .ok (.value v) w'/\(∃ a' m' cap',d = .v (.slice a' m' cap')/\ms'=ms.set k (arr a' m' cap' e i.size f (xs++zs))) /\
      PH.le H H'/\HeapOk H' (ms'++fr) w'/\Conc H' d v/\SameOut w w':=by
    intro old olds ole hr
    have hge:=grownCap_ge w (xs.length+zs.length) old e
    have hcm:grownCap w (xs.length+zs.length) old e<=maxLen:=grownCap_le_maxLen w (xs.length+zs.length) old e h63
    have hsplit:(olds.toArray++us.toArray++Builtin.zeroCells z.cells (grownCap w (xs.length+zs.length) old e - (xs.length+zs.length)))=((olds++us)++(Builtin.zeroCells z.cells (grownCap w (xs.length+zs.length) old e - (xs.length+zs.length))).toList).toArray:=by
     apply Array.ext';simp
    rw [hsplit] at hr
    have hd:HeapOk H (ms.eraseIdx k++fr) w.drew:=(hok1.tail).drew _
    have hlen:(olds++us).length=(xs++zs).length*i.size:=by rw [List.length_append,ole.1,ue.1,List.length_append,Nat.add_mul]
    have hown:=hd.own (o := .cells ((olds++us)++(Builtin.zeroCells z.cells (grownCap w (xs.length+zs.length) old e - (xs.length+zs.length))).toList).toArray e (0,0))
     (A:=arr (some ⟨w.heap.size,0,none⟩) (xs.length+zs.length) (grownCap w (xs.length+zs.length) old e) e i.size f (xs++zs)) rfl ?_
    ·refine ⟨_,_,_,_,H,hrun hr,⟨_,_,_,rfl,rfl⟩,PH.le_refl H,hown.perm (A4 hk),conc_v.2 rfl,?_⟩
     exact ⟨rfl,rfl,rfl,by have:=BH w.drew (.cells ((olds++us)++(Builtin.zeroCells z.cells (grownCap w (xs.length+zs.length) old e - (xs.length+zs.length))).toList).toArray e);rw [this];show w.heap.size<=w.heap.size+1;omega⟩
    ·refine ⟨by simp,by simpa using hge,hcm,.inr ⟨w.heap.size,_,olds++us,rfl,AK w.drew _,?_,ole.append ue,?_,?_⟩⟩
     ·have hzl:(Builtin.zeroCells z.cells (grownCap w (xs.length+zs.length) old e - (xs.length+zs.length))).toList.length=(grownCap w (xs.length+zs.length) old e - (xs.length+zs.length))*z.cells.size:=by rw [Array.length_toList,size_zeroCells]
      rw [List.length_append,hlen,hzl,hzs,<- Nat.add_mul]
      congr 1
      simp only [List.length_append]
      omega
     ·rw [<- hlen];exact List.take_left
     ·intro o
      exact hd.none_new _ _ (Nat.le_refl _)
   rcases r3 with ⟨ha,hxs,hcap⟩ | ⟨b,vs,os,ha,hbk,hvl,ole,htake,hnone⟩
   ·subst ha hxs hcap
    have hr:=run_append_nil (P:=P) w t ty e i z ht hi hz ⟨yb,yo,none⟩ zs.length yc us ue.1 hnews hpos (by simp at h63';omega) (by simp at hb;omega)
    refine grown 0 [] ⟨by simp,fun i x hx=>by simp at hx⟩ ?_
    simpa using hr
   ·subst ha
    by_cases hroom:xs.length+zs.length<=cap
    ·
     have hfit:xs.length*i.size+us.length<=vs.toArray.size:=by
      simp only [List.size_toArray,hvl,ue.1,<- Nat.add_mul];exact Nat.mul_le_mul_right _ hroom
     have hr:=run_append_room (P:=P) w t ty e i ht hi b xs.length cap vs.toArray hbk ⟨yb,yo,none⟩ zs.length yc us ue.1 hnews hone hroom hfit
     have hosl:os.length=xs.length*i.size:=ole.1
     have hlt:b<w.heap.size:=hok1.lt _ (by simp:arr (some ⟨b,0,none⟩) xs.length cap e i.size f xs∈_) b (by simp [arr])
     have hnew:(vs.toArray.toList.take (xs.length*i.size)++us++vs.toArray.toList.drop (xs.length*i.size+us.length))=(os++us)++vs.drop (xs.length*i.size+us.length):=by
      simp only [htake]
     rw [hnew] at hr
     have hupd:HeapOk H (arr (some ⟨b,0,none⟩) (xs.length+zs.length) cap e i.size f (xs++zs)::(ms.eraseIdx k++fr)) (w.setRow b ((os++us)++vs.drop (xs.length*i.size+us.length)).toArray):=by
      have hbnew:(w.setRow b ((os++us)++vs.drop (xs.length*i.size+us.length)).toArray).heap[b]? = some (.cells ((os++us)++vs.drop (xs.length*i.size+us.length)).toArray e (0,0)):=by
       simp [World.setRow,Array.getElem?_modify,hbk]
      refine hok1.upd rfl (by simp [World.setRow]) ?_ (fun _ _ _ _=>rfl) (PH.le_refl H) ?_ ?_
      ·intro b' _ hn
       have:b≠b':=fun e=>hn (by simp [arr,e])
       simp [World.setRow,Array.getElem?_modify,this]
      ·intro b' o v hb' hv
       rcases hb' with hb' | hb'
       ·simp [arr] at hb';subst hb';rw [hnone] at hv;cases hv
       ·rw [hok.none_new _ _ hb'] at hv;cases hv
      ·refine ⟨by simp,by simpa using hroom,r2,.inr ⟨b,_,os++us,rfl,hbnew,?_,ole.append ue,?_,hnone⟩⟩
       ·simp only [List.length_append,List.length_drop,hosl,hvl,ue.1]
        have:(xs.length+zs.length)*i.size<=cap*i.size:=Nat.mul_le_mul_right _ hroom
        rw [Nat.add_mul] at this
        omega
       ·have:(os++us).length=(xs++zs).length*i.size:=by rw [List.length_append,hosl,ue.1,List.length_append,Nat.add_mul]
        rw [<- this];exact List.take_left
     refine ⟨_,_,_,_,H,hrun hr,⟨_,_,_,rfl,rfl⟩,PH.le_refl H,hupd.perm (A4 hk),conc_v.2 rfl,⟨rfl,rfl,rfl,by simp [World.setRow]⟩⟩
    ·have holds:∀ j v,os[j]? = some v->w.cell? ((⟨b,0,none⟩:Addr).add j)=some v:=fun j v hj=>by
      rw [Bj,Nat.zero_add]
      have hjl:=(List.getElem?_eq_some_iff.1 hj).1
      rw [ole.1] at hjl
      have h2:vs[j]? = some v:=by rw [<- htake,List.getElem?_take,if_pos hjl] at hj;exact hj
      simp [World.cell?,hbk,h2]
     have hr:=run_append_grow (P:=P) w t ty e i z ht hi hz ⟨b,0,none⟩ xs.length cap os ole.1 holds ⟨yb,yo,none⟩ zs.length yc us ue.1 hnews (by omega) (by omega) (growslice_fits (by omega) hb)
     exact grown cap os ole hr
end
end Go.V
namespace Go.V
abbrev kI64 (n:Int):Value := .int .i64 n
abbrev kStr (s:List UInt8):Value := .string ⟨s.toArray⟩
theorem ND {P:Program} {t:TypeId} (h:P.underlying t=some (.int .i64)):KeyOk P t kI64:=QL h
theorem Fw {P:Program} {t:TypeId} (h:P.underlying t=some .string):KeyOk P t kStr:=Qr h
section
variable {Γ:Ctx} {P:Program} {L:Env} {ms:List Asrt} {K:KT} {l:List Oper}
end
theorem DG {ms:List Asrt}:getL ms [] []:=trivial
theorem C3 {ms As:List Asrt} {A:Asrt} {k:Nat} {ks:List Nat} (h:ms[k]? = some A) (t:getL ms ks As):getL ms (k::ks) (A::As):=⟨h,t⟩
end Go.V
namespace Go.V
open Go.ChangeShapes Go.WideShapes Go.ChangeAt Go.RowKit
def OpensW (P:Program) (t:TypeId) (Q:D->Prop):Prop:=
 ∀ (H:Type) (enc:TypeId×Value->H) (w:World) (sp:Nat->Bool) (held:Bool) (fuel:Nat) (cs:List Value) (x:DataW H×List MemPlace),DataW.trod enc P w 0 sp held fuel t cs=some x->(∀ n∈x.1.weights P t,n<=140737488351232)->∃ d,Q d/\Enc (Hof w) d cs
section
variable {P:Program} {t e:TypeId} {Q Q':D->Prop}
theorem OpensW.imp (h:OpensW P t Q) (k:∀ d,Q d->Q' d):OpensW P t Q':=fun H enc w sp held fuel cs x hx hw=>let ⟨d,a,b⟩:=h H enc w sp held fuel cs x hx hw;⟨d,k d a,b⟩
end
end Go.V
namespace Go.V
section
variable {Γ:Ctx} {P:Program} {L:Env} {ms:List Asrt} {K:KT} {ops:Array Oper} {l:List Oper} {dst:Option Nat} {ty:TypeId} {pos:String} {after:Array Edge} {g:Option (Nat×Bool)} {d d':D} {x y:Operand} {t t':TypeId}
theorem Rg (a:Addr):a.add 0=a:=by
 unfold Addr.add;split <;> simp_all
end
end Go.V
namespace Go.V
section
variable {Γ:Ctx} {P:Program} {L:Env} {ms:List Asrt} {K:KT} {l:List Oper}
theorem Hv {L1 L2:Env} {a:Act} {w:World} (mm:Models Γ L1 ms a w) (h:∀ t d,Env.find L2 t=some d->Env.find L1 t=some d):Models Γ L2 ms a w:=by
 obtain ⟨H,marks,hle,hok,henv,hdf⟩:=mm.ex;exact ⟨⟨H,marks,hle,hok,fun s d hs=>henv s d (h s d hs),hdf⟩,mm.size,mm.same⟩
theorem Fv {ms':List Asrt} {a:Act} {w:World} (mm:Models Γ L ms a w) (h:ms.Perm ms'):Models Γ L ms' a w:=by
 obtain ⟨H,marks,hle,hok,henv,hdf⟩:=mm.ex;exact ⟨⟨H,marks,hle,hok.perm (h.append_right _),henv,hdf⟩,mm.size,mm.same⟩
theorem Lb {a:Act} {w w':World} {ms':List Asrt} {o:Oper} {d:D} {v:Value} {H H':PH} {marks:List Nat} (mm:Models Γ L ms a w) (hle:PH.le Γ.H0 H) (henv:EnvOk H L a.tmps) (hdf:a.defers=marks.map markD) (hdk:dstOk o Γ.N) (hl:PH.le H H') (hok:HeapOk H' (ms'++(marks.map markA++Γ.fr)) w') (hcv:Conc H' d v) (hso:SameOut w w') :
  Models Γ (extE o d L) ms' (a.put o.dst v) w':=by
 refine ⟨⟨H',marks,PH.le_trans hle hl,hok,?_,by cases o.dst <;> simpa [Act.put] using hdf⟩,by cases o.dst <;> simp [Act.put,mm.size],mm.same.trans hso⟩;unfold extE
 cases hd:o.dst with
 | none=>exact henv.mono hl
 | some t0 =>
  have hlt:t0<Γ.N:=by simp only [dstOk,hd] at hdk;exact nB hdk
  exact (henv.mono hl).put (by rw [mm.size];exact hlt) hcv
theorem Hb {o:Oper} {a:Act} {w:World} {Ef Eg:Env} {msx rest:List Asrt} {nx:D->List Asrt->Prop} {sk:Prop} (mm:Models Γ Ef (msx++rest) a w) (hdk:dstOk o Γ.N) (hag:∀ s d',s∈Ah l o->Env.find Eg s=some d'->Env.find Ef s=some d') (hgs:GStep P l o Eg msx nx sk) {next:Act->World->Prop}
  (hn1:∀ d ms',nx d ms'->∀ a' w',Models Γ (extE o d Ef) (ms'++rest) a' w'->next a' w') (hn2:sk->∀ a' w',Models Γ (extE o (.v undef) Ef) (msx++rest) a' w'->next a' w') :
  if Region.wanted o (yielded l.toArray a.tmps)=true then o.wpIn (FR Γ.round) 0 P a w next (Post Γ K) else (∀ f,o.about P w a.eval=some f->(FR Γ.round).fn f)/\next (a.put o.dst undef) w:=by
 obtain ⟨H,marks,hle,hok,henv,hdf⟩:=mm.ex
 have hsub:EnvOk H (Env.only (Ah l o) Eg) a.tmps:=by
  intro s d' hfnd
  obtain ⟨h3,h4⟩:=DY hfnd;exact henv s d' (hag s d' h3 h4)
 have run:∀ R,OpT P o (Env.only (Ah l o) Eg) msx R->(∀ d ms',R d ms'->nx d ms')->o.wpIn (FR Γ.round) 0 P a w next (Post Γ K):=by
  intro R hop hrest
  refine hop Γ.round H (rest++(marks.map markA++Γ.fr)) a w (by rw [<- List.append_assoc];exact hok) hsub next _ ?_
  intro v d ms' w' H' hR hl hok' hcv hso
  exact hn1 d ms' (hrest d ms' hR) _ _ (Lb mm hle henv hdf hdk hl (by rw [List.append_assoc];exact hok') hcv hso)
 have skip:sk->next (a.put o.dst undef) w:=fun h=>hn2 h _ _ (Lb mm hle henv hdf hdk (PH.le_refl H) hok (conc_v.2 rfl) (SameOut.refl w))
 unfold GStep at hgs
 cases hg:o.guard with
 | none =>
  rw [hg] at hgs
  simp only at hgs
  obtain ⟨R,hop,hrest⟩:=hgs;simp only [Region.wanted,hg,if_true];exact run R hop hrest
 | some qq =>
  obtain ⟨j,want⟩:=qq;rw [hg] at hgs
  simp only at hgs
  obtain ⟨s,u,h1,h2,h3⟩:=hgs
  have hfnd:=hag s _ (by simp [Ah,hg,h1]) h2
  rcases h3 with ⟨b,hu,h3⟩ | ⟨hu,h4⟩
  ·subst hu
   have hy:=Cq (ops:=l.toArray) mm (j:=j) (t:=s) (b:=b) (by simpa using h1) hfnd
   simp only [Region.wanted,hg,hy]
   rcases h3 with ⟨h3,R,hop,hrest⟩ | ⟨h3,h4⟩
   ·have hbq:(some b == some want)=true:=by rw [h3];simp
    rw [if_pos hbq];exact run R hop hrest
   ·have hbq:(some b == some want)=false:=by rw [h3];cases want <;> rfl
    rw [if_neg (by rw [hbq];simp)];exact ⟨fun _ _=>trivial,skip h4⟩
  ·subst hu
   have hy:=BX (ops:=l.toArray) mm (j:=j) (t:=s) (by simpa using h1) hfnd
   simp only [Region.wanted,hg,hy];rw [if_neg (by cases want <;> simp)];exact ⟨fun _ _=>trivial,skip h4⟩
theorem KU (hf:FlowOk l l.length) (X:Nat->Bool) {ds:List D} {S:Nat->Bool} {i:Nat} {o:Oper} {d:D} {a:Act} {w:World} {E':Env} {msx msi rest:List Asrt} (hc:Bc l S) (ho:l[i]? = some o) (hunl:S i=false) (hcs:Bc l (fun j=>S j||decide (j=i))) (hX:X i=false)
    (hE:∀ s,s∈Ah l o\/o.dst=some s->Env.find E' s=none) (mm:Models Γ (E'++envL (fun j=>S j && !X j) l ds 0 L) msx a w) (hd:ds[i]? = some d) (hdst:dstOk o Γ.N) (hp:msx.Perm (msi++rest)) (hst:Step P l o (envL (fun j=>decide (j<i) && !X j) l ds 0 L) msi d) {next:Act->World->Prop}
    (hn:∀ a' w',Models Γ (E'++envL (fun j=>(S j||decide (j=i)) && !X j) l ds 0 L) msx a' w'->next a' w') :
    if Region.wanted o (yielded l.toArray a.tmps)=true then o.wpIn (FR Γ.round) 0 P a w next (Post Γ K) else (∀ f,o.about P w a.eval=some f->(FR Γ.round).fn f)/\next (a.put o.dst undef) w:=by
  have agree:∀ s,s∈Ah l o->Env.find (E'++envL (fun j=>S j && !X j) l ds 0 L) s=Env.find (envL (fun j=>decide (j<i) && !X j) l ds 0 L) s:=by
    intro s hsl
    rw [Az,hE s (.inl hsl)]
    refine AW l ds 0 L L (fun j o' hj hd'=>?_) rfl
    simp only [Nat.zero_add]
    cases hfj:X j with
    | true=>simp
    | false =>
      simp only [Bool.not_false,Bool.and_true]
      by_cases hji:j=i
      · subst hji;rw [hunl];simp
      · have hn':=hf.names i o j o' s ho hj (fun e=>hji e.symm) hd' (.inl hsl)
        by_cases hlt:j<i
        · have h1:=(hn' _ hcs).1 hlt (by simp)
          simp only [hji,decide_false,Bool.or_false] at h1
          rw [h1];simp [hlt]
        · cases hb:S j with
          | true=>have h1:=(hn' _ hc).2 (by omega) hb;rw [hunl] at h1;cases h1
          | false=>simp [hlt]
  have env':∀ t d',Env.find (E'++envL (fun j=>(S j||decide (j=i)) && !X j) l ds 0 L) t=some d'->Env.find (extE o d (E'++envL (fun j=>S j && !X j) l ds 0 L)) t=some d':=by
    intro t d' hfnd
    unfold extE
    have hcg:o.dst≠some t->Env.find (E'++envL (fun j=>(S j||decide (j=i)) && !X j) l ds 0 L) t=Env.find (E'++envL (fun j=>S j && !X j) l ds 0 L) t:=by
      intro hds
      rw [Az,Az]
      rw [AW l ds 0 L L (fun j o' hj hd'=>?_) rfl]
      simp only [Nat.zero_add]
      have:¬ j=i:=fun e=>by subst e;rw [ho] at hj;simp only [Option.some.injEq] at hj;subst hj;exact hds hd'
      simp [this]
    cases hod:o.dst with
    | none=>rw [hcg (by rw [hod];simp)] at hfnd;exact hfnd
    | some q =>
      simp only [Env.find]
      cases hb:Nat.beq q t with
      | false =>
        rw [hcg (by rw [hod];intro e;rw [Option.some.inj e] at hb;simp at hb)] at hfnd
        exact hfnd
      | true =>
        have hqt:=Nat.eq_of_beq_eq_true hb
        subst hqt
        rw [Az,hE q (.inr hod)] at hfnd
        have hat:=Hc (S:=fun j=>((S j||decide (j=i)) && !X j)) l ds 0 i L o ho hd hod (by simp [hX]) (fun j o' hj hlo hd'=>by
          simp only [Nat.zero_add]
          have hn':=hf.names i o j o' q ho hlo (by omega) hd' (.inr hod)
          cases hbj:S j with
          | true=>have h1:=(hn' _ hc).2 hj hbj;rw [hunl] at h1;cases h1
          | false => have:¬ j=i:=by omega
                     simp [this])
        rw [hat] at hfnd
        exact hfnd
  have fin:∀ d0 a' w',d0=d->Models Γ (extE o d0 (E'++envL (fun j=>S j && !X j) l ds 0 L)) msx a' w'->next a' w':=by
    rintro d0 a' w' rfl m'
    exact hn a' w' (Hv m' env')
  have mm2:Models Γ (E'++envL (fun j=>S j && !X j) l ds 0 L) (msi++rest) a w:=Fv mm hp
  have back:∀ {Lx:Env} {a' w'},Models Γ Lx (msi++rest) a' w'->Models Γ Lx msx a' w':=fun m'=>Fv m' hp.symm
  refine Hb (K:=K) (Eg:=envL (fun j=>decide (j<i) && !X j) l ds 0 L) (nx:=fun d0 ms'=>d0=d/\ms'=msi) (sk:=d = .v undef) mm2 hdst (fun s d' hs hfd=>by rw [agree s hs];exact hfd) ?_ (fun d0 ms' hnx a' w' m'=>?_) (fun hsk a' w' m'=>?_)
  · unfold Step at hst
    unfold GStep
    cases hg:o.guard with
    | none=>rw [hg] at hst;exact ⟨_,hst,fun _ _ h=>h⟩
    | some q =>
      obtain ⟨j,want⟩:=q
      rw [hg] at hst
      simp only at hst ⊢
      obtain ⟨s,u,h1,h2,h3⟩:=hst
      refine ⟨s,u,h1,h2,?_⟩
      rcases h3 with ⟨b,hu,h3⟩ | ⟨hu,h4⟩
      · refine .inl ⟨b,hu,?_⟩
        rcases h3 with ⟨h3,h4⟩ | ⟨h3,h4⟩
        · exact .inl ⟨h3,_,h4,fun _ _ h=>h⟩
        · exact .inr ⟨h3,h4⟩
      · exact .inr ⟨hu,h4⟩
  · obtain ⟨rfl,rfl⟩:=hnx
    exact fin d0 a' w' rfl (back m')
  · exact fin (.v undef) a' w' hsk.symm (back m')
end
end Go.V
namespace Go.V
def Nb (l:List Oper) (A B free fr:List Nat):Bool:=
 let M:=masks l []
 let ef:=A++B
 (ef.zipIdx.all fun (e,q)=>Nat.blt e l.length&&(ef.zipIdx.all fun (e',q') => !(Nat.blt q q')||(Nat.blt e e'&&(M.getD e' 0).testBit e))) &&
 (l.zipIdx.all fun (_,i)=>ef.contains i||free.contains i||fr.contains i||ef.all fun e=>(M.getD e 0).testBit i) &&
 (ef.all fun e=>match l[e]? with
  | some o=>(l.zipIdx.all fun (o',j)=>(match o.dst with
    | some t=>(Nat.beq e j || !(o'.dst == some t))&&(ef.contains j || !((Ah l o').contains t))
    | none=>true) &&
    (Nat.ble j e||ef.contains j||(match o'.dst with | some t => !((Ah l o).contains t) | none=>true)))
  | none=>false) &&
 decide fr.Nodup&&(fr.all fun i => !(ef.contains i)&&(B.all fun e=>(M.getD e 0).testBit i)&&match l[i]? with
  | some o=>o.guard.isNone&&(match o.dst with
   | some t=>l.zipIdx.all fun (o',j)=>(Nat.beq i j || !(o'.dst == some t))&&(B.contains j || !((Ah l o').contains t))
   | none=>false)
  | none=>false)
structure ChainF (l:List Oper) (A B free fr:List Nat):Prop where
 lt:∀ e∈A++B,e<l.length
 chain:∀ (q q' e e':Nat),q<q'->(A++B)[q]? = some e->(A++B)[q']? = some e'->e<e'/\∀ S,Bc l S->S e'=true->S e=true
 dep:∀ i<l.length,i∉A++B->i∉free->i∉fr->∀ e∈A++B,∀ S,Bc l S->S e=true->S i=true
 op:∀ e∈A++B,∃ o,l[e]? = some o/\(∀ t,o.dst=some t->(∀ j o',l[j]? = some o'->j≠e->o'.dst≠some t)/\∀ j o',l[j]? = some o'->j∉A++B->t∉Ah l o')/\∀ j o' t,e<j->j∉A++B->l[j]? = some o'->o'.dst=some t->t∉Ah l o
 nd:fr.Nodup
 fre:∀ i∈fr,i∉A++B/\(∀ e∈B,∀ S,Bc l S->S e=true->S i=true)/\∃ o,l[i]? = some o/\o.guard=none/\o.dst=some (dstN l i)/\(∀ j o',l[j]? = some o'->j≠i->o'.dst≠some (dstN l i))/\∀ j o',l[j]? = some o'->j∉B->dstN l i∉Ah l o'
theorem My {l:List Oper} {A B free fr:List Nat} (h:Nb l A B free fr=true):ChainF l A B free fr:=by
 have hM:Jc l (masks l []):=GQ l l [] (fun j=>by simp) (fun j m hj=>by simp at hj)
 have use:∀ i j S,Bc l S->((masks l []).getD i 0).testBit j=true->S i=true->S j=true:=by
  intro i j S hS hb hi
  cases hacc:(masks l [])[i]? with
  | none=>rw [List.getD_eq_getElem?_getD,hacc] at hb;simp at hb
  | some m=>rw [List.getD_eq_getElem?_getD,hacc] at hb;exact hM i m hacc j hb S hS hi
 unfold Nb at h;simp only [Bool.and_eq_true,List.all_eq_true,decide_eq_true_eq] at h;obtain ⟨⟨⟨⟨h1,h2⟩,h3⟩,h4⟩,h5⟩:=h;refine ⟨fun e he=>?_,fun q q' e e' hq he he'=>?_,fun i hi hie hif hir e he S hS hSe=>?_,fun e he=>?_,h4,fun i hi=>?_⟩
 ·obtain ⟨q,hq⟩:=List.getElem?_of_mem he
  exact nB (h1 (e,q) (List.mem_zipIdx_iff_getElem?.2 (by simpa using hq))).1
 ·have:=(h1 (e,q) (List.mem_zipIdx_iff_getElem?.2 (by simpa using he))).2 (e',q') (List.mem_zipIdx_iff_getElem?.2 (by simpa using he'))
  simp only [Bool.or_eq_true,Bool.not_eq_true',Bool.and_eq_true] at this
  rcases this with h4 | ⟨h4,h5⟩
  ·have:Nat.blt q q'=true:=Nat.ble_eq_true_of_le hq
   rw [this] at h4;cases h4
  ·exact ⟨nB h4,fun S hS hSe=>use e' e S hS h5 hSe⟩
 ·have:=h2 (l[i],i) (List.mem_zipIdx_iff_getElem?.2 (by simp [hi]))
  simp only [Bool.or_eq_true,List.all_eq_true,AU hie,AU hif,AU hir,Bool.false_eq_true,false_or] at this;exact use e i S hS (this e he) hSe
 ·have:=h3 e he
  split at this
  ·rename_i o ho
   simp only [List.all_eq_true] at this
   have hall:=this
   simp only [Bool.and_eq_true] at hall;refine ⟨o,ho,fun t ht=>⟨fun j o' hj hne=>?_,fun j o' hj hje=>?_⟩,fun j o' t hlt hje hj ht=>?_⟩
   ·have:=(hall (o',j) (List.mem_zipIdx_iff_getElem?.2 (by simpa using hj))).1
    rw [ht] at this;simp only [Bool.and_eq_true,Bool.or_eq_true,Bool.not_eq_true'] at this
    rcases this.1 with h5 | h5
    ·exact absurd (Nat.eq_of_beq_eq_true h5).symm hne
    ·intro e;rw [e] at h5;simp at h5
   ·have:=(hall (o',j) (List.mem_zipIdx_iff_getElem?.2 (by simpa using hj))).1
    rw [ht] at this;simp only [Bool.and_eq_true,Bool.or_eq_true,Bool.not_eq_true',AU hje,Bool.false_eq_true,false_or] at this
    intro hm
    have h5:=this.2
    rw [List.contains_iff_mem.2 hm] at h5;cases h5
   ·have:=(hall (o',j) (List.mem_zipIdx_iff_getElem?.2 (by simpa using hj))).2
    rw [ht] at this
    have hnb:Nat.ble j e=false:=by
     cases hb:Nat.ble j e with
     | true=>have:=nB hb;omega
     | false=>rfl
    simp only [Bool.or_eq_true,hnb,AU hje,Bool.false_eq_true,false_or,Bool.not_eq_true'] at this
    intro hm
    rw [List.contains_iff_mem.2 hm] at this;cases this
  ·cases this
 ·obtain ⟨⟨h6,h7⟩,h8⟩:=h5 i hi
  refine ⟨fun hm=>?_,fun e he S hS hSe=>use e i S hS (h7 e he) hSe,?_⟩
  ·simp only [Bool.not_eq_true'] at h6
   rw [List.contains_iff_mem.2 hm] at h6;cases h6
  ·split at h8
   ·rename_i o ho
    simp only [Bool.and_eq_true,Option.isNone_iff_eq_none] at h8;obtain ⟨h9,h10⟩:=h8
    split at h10
    ·rename_i t ht
     have hd:dstN l i=t:=by simp [dstN,ho,ht]
     simp only [List.all_eq_true,Bool.and_eq_true,Bool.or_eq_true,Bool.not_eq_true'] at h10;refine ⟨o,ho,h9,by rw [hd];exact ht,fun j o' hj hne=>?_,fun j o' hj hjB=>?_⟩
     ·rcases (h10 (o',j) (List.mem_zipIdx_iff_getElem?.2 (by simpa using hj))).1 with h5 | h5
      ·exact absurd (Nat.eq_of_beq_eq_true h5).symm hne
      ·rw [hd];intro e;rw [e] at h5;simp at h5
     ·rcases (h10 (o',j) (List.mem_zipIdx_iff_getElem?.2 (by simpa using hj))).2 with h5 | h5
      ·exact absurd (List.contains_iff_mem.1 h5) hjB
      ·rw [hd];intro hm
       rw [List.contains_iff_mem.2 hm] at h5;cases h5
    ·cases h10
   ·cases h8
section
variable {Γ:Ctx} {P:Program} {L:Env} {ms:List Asrt} {K:KT} {l:List Oper}
def allT:Nat->Bool:=fun _=>true
def GF (Γ:Ctx) (P:Program) (ops:List Oper) (K:KT) (FD:List Asrt->Prop) (L:Env) (R:Nat->D->Asrt->Prop) (fr B:List Nat):List Nat->Env->List Asrt->Prop
 | [],E,ms=>∀ ρ:Nat->D×Asrt,(∀ i∈fr,R i (ρ i).1 (ρ i).2)->FD (fown fr allT ρ++ms)/\GDE2 Γ P ops K FD L B (fenv ops fr allT ρ++E) (fown fr allT ρ++ms)
 | e::es,E,ms=>∀ o,ops[e]? = some o->dstOk o Γ.N/\GStep P ops o (E++L) ms (fun d ms'=>FD ms'/\GF Γ P ops K FD L R fr B es (extE o d E) ms') (GF Γ P ops K FD L R fr B es (extE o (.v undef) E) ms)
theorem R6 {fr:List Nat} {S:Nat->Bool} {ρ:Nat->D×Asrt} (h:∀ i∈fr,S i=true):fenv l fr S ρ=fenv l fr allT ρ/\fown fr S ρ=fown fr allT ρ:=by
 have:fr.filter S=fr.filter allT:=List.filter_congr fun i hi=>by rw [h i hi];rfl
 unfold fenv fown;rw [this];exact ⟨rfl,rfl⟩
theorem Is {fr:List Nat} {S:Nat->Bool} {ρ:Nat->D×Asrt} {t:Nat} (h:∀ i∈fr,dstN l i≠t):Env.find (fenv l fr S ρ) t=none:=by
 cases hq:Env.find (fenv l fr S ρ) t with
 | none=>rfl
 | some d =>
  obtain ⟨j,hj,e1,_⟩:=(B0 (dstN l) (fun i=>(ρ i).1) t (fr.filter S)).1 d hq;exact absurd e1 (h j (List.mem_filter.1 hj).1)
theorem Lw (o:Oper) (d:D) (E Z:Env):extE o d (E++Z)=extE o d E++Z:=by
 unfold extE;cases o.dst <;> rfl
theorem Ol {A B free fr fd:List Nat} {FD:List Asrt->Prop} (hf:FlowOk l l.length) (hch:ChainF l A B free fr) (ds:List D) (hlen:ds.length=l.length) (R:Nat->D->Asrt->Prop)
  (hstep:∀ (i:Nat) o d,i∉A++B->i∉fr->l[i]? = some o->ds[i]? = some d->dstOk o Γ.N/\Step P l o (envL (fun j=>decide (j<i) && !((A++B).contains j||fr.contains j)) l ds 0 L) (if free.contains i && !(fd.contains i) then [] else ms) d)
  (hfd:∀ msx,FD msx->∀ (i:Nat) o d,fd.contains i=true->l[i]? = some o->ds[i]? = some d->Step P l o (envL (fun j=>decide (j<i) && !((A++B).contains j||fr.contains j)) l ds 0 L) msx d) (hfd0:FD ms)
  (hfresh:∀ (i:Nat) o,i∈fr->l[i]? = some o->dstOk o Γ.N/\OpT P o (Env.only (Ah l o) (envL (fun j=>decide (j<i) && !((A++B).contains j||fr.contains j)) l ds 0 L)) [] (fun d ms'=>∃ As,R i d As/\ms'=[As]))
  (h2:GF Γ P l K FD (envL (fun j => !((A++B).contains j||fr.contains j)) l ds 0 L) R fr B A [] ms) :
  ∀ (fuel:Nat) (listed:Array Bool) (t:Nat) (a:Act) (w:World),listed.size=l.length->Bc l (fun j=>listed.getD j false)->(∀ i,l.length<=i->listed.getD i false=false) ->
   ((List.range l.length).filter (fun i => !listed.getD i false)).length<=fuel->(∀ j,listed.getD j false=false)->Models Γ L ms a w ->
   wpOpsIn (FR Γ.round) 0 P l.toArray (Post Γ K) (Region.linearise.go .any l.toArray fuel t listed []) a w:=by
 let X:Nat->Bool:=fun j=>(A++B).contains j||fr.contains j
 have hXf:∀ i,i∉A++B->i∉fr->X i=false:=fun i h1 h2=>by simp only [X,AU h1,AU h2,Bool.or_self]
 have hXA:∀ i,i∈A++B->X i=true:=fun i h1=>by simp only [X,List.contains_iff_mem.2 h1,Bool.true_or]
 have hXr:∀ i,i∈fr->X i=true:=fun i h1=>by simp only [X,List.contains_iff_mem.2 h1,Bool.or_true]
 have hAB:∀ e,e∈A->e∈A++B:=fun e h=>List.mem_append_left _ h
 have hBB:∀ e,e∈B->e∈A++B:=fun e h=>List.mem_append_right _ h
 let In1:(Nat->Bool)->Act->World->Prop:=fun S a w=>∃ (m:Nat) (E:Env) (msx:List Asrt) (ρ:Nat->D×Asrt),m<=A.length/\(∀ q e,A[q]? = some e->(S e=true↔q<m))/\(∀ e∈B,S e=false)/\GF Γ P l K FD (envL (fun j => !X j) l ds 0 L) R fr B (A.drop m) E msx /\
  (∀ t d,Env.find E t=some d->∃ e o,e∈A++B/\S e=true/\l[e]? = some o/\o.dst=some t)/\(m=0->msx=ms)/\FD msx/\(∀ i∈fr,S i=true->R i (ρ i).1 (ρ i).2) /\
  Models Γ ((E++fenv l fr S ρ)++envL (fun j=>S j && !X j) l ds 0 L) (msx++fown fr S ρ) a w
 let In2:Nat->(Nat->Bool)->Act->World->Prop:=fun k S a w=>∃ (m:Nat) (E:Env) (msx:List Asrt),k<=m/\m<=B.length/\(∀ e∈A,S e=true)/\(∀ i∈fr,S i=true)/\(∀ q e,B[q]? = some e->(S e=true↔q<m))/\GDE2 Γ P l K FD (envL (fun j => !X j) l ds 0 L) (B.drop m) E msx /\
  (∀ t d,Env.find E t=some d->∃ e o,(e∈A++B\/e∈fr)/\S e=true/\l[e]? = some o/\o.dst=some t)/\FD msx /\
  Models Γ (E++envL (fun j=>S j && !X j) l ds 0 L) msx a w
 have absorb:∀ S a w,In1 S a w->(∀ e∈A,S e=true)->(∀ i∈fr,S i=true)->In2 0 S a w:=by
  rintro S a w ⟨m,E,msx,ρ,hml,hm,hB0,hg,hE,hm0,hFD,hρ,mm⟩ hA1 hr1
  have hmA:m=A.length:=by
   rcases Nat.lt_or_ge m A.length with h | h
   ·have:=(hm m A[m] (by simp [h])).1 (hA1 _ (by simp));omega
   ·omega
  subst hmA;rw [List.drop_length] at hg;simp only [GF] at hg;obtain ⟨g1,g2⟩:=hg ρ (fun i hi=>hρ i hi (hr1 i hi));obtain ⟨e1,e2⟩:=R6 (l:=l) (ρ:=ρ) hr1;rw [e1,e2] at mm;refine ⟨0,fenv l fr allT ρ++E,fown fr allT ρ++msx,Nat.le_refl _,Nat.zero_le _,hA1,hr1,fun q e he=>by rw [hB0 e (List.mem_of_getElem? he)];simp,by simpa using g2,fun t d ht=>?_,g1,?_⟩
  ·rw [Az] at ht
   cases hq:Env.find (fenv l fr allT ρ) t with
   | none =>
    rw [hq] at ht;obtain ⟨e,o,a1,a2,a3,a4⟩:=hE t d ht;exact ⟨e,o,.inl a1,a2,a3,a4⟩
   | some d2 =>
    obtain ⟨j,hj,f1,_⟩:=(B0 (dstN l) (fun i=>(ρ i).1) t (fr.filter allT)).1 d2 hq
    have hjf:=(List.mem_filter.1 hj).1
    obtain ⟨_,_,o,ho,_,hd,_⟩:=hch.fre j hjf;exact ⟨j,o,.inr hjf,hr1 j hjf,ho,by rw [hd,f1]⟩
  ·refine Fv (Hv mm fun t d ht=>?_) List.perm_append_comm
   rw [List.append_assoc,Az] at ht ⊢
   cases hqe:Env.find E t with
   | none =>
    simp only
    rw [Az]
    cases hq:Env.find (fenv l fr allT ρ) t with
    | some d2=>rw [hq] at ht;exact ht
    | none=>rw [hq] at ht;simp only at ht;rw [Az,hqe] at ht;exact ht
   | some d3 =>
    simp only
    obtain ⟨e,o,a1,a2,a3,a4⟩:=hE t d3 hqe
    have hno:Env.find (fenv l fr allT ρ) t=none:=Is fun i hi e1=>by
     obtain ⟨b1,_,_,_,_,_,hdd,_⟩:=hch.fre i hi;exact hdd e o a3 (fun h=>b1 (h▸a1)) (by rw [a4,e1])
    rw [hno] at ht
    simp only at ht
    rw [Az,hqe] at ht;exact ht
 refine fun fuel listed t a w hs hc hk hfu h0 m0=>Ie hf (Nat.le_refl _) (fun S a w=>In1 S a w\/In2 1 S a w) ?_ ?_ fuel listed t a w hs hc hk hfu (.inl ?_)
 rotate_left
 ·
  intro a w hin
  have hall:In2 0 (fun j=>decide (j<l.length)) a w:=by
   rcases hin with h | h
   ·refine absorb _ a w h (fun e he=>by simp [hch.lt e (hAB e he)]) (fun i hi=>?_)
    obtain ⟨_,_,o,ho,_⟩:=hch.fre i hi
    simp [(List.getElem?_eq_some_iff.1 ho).1]
   ·obtain ⟨m,E,msx,_,hh⟩:=h
    exact ⟨m,E,msx,Nat.zero_le _,hh⟩
  obtain ⟨m,E,msx,_,hml,hA1,hr1,hm,hg,hE,hFD,mm⟩:=hall
  have hdr:B.drop m=[]:=by
   rw [List.drop_eq_nil_iff]
   rcases Nat.lt_or_ge m B.length with h | h
   ·have:=(hm m B[m] (by simp [h])).1 (by simp [hch.lt B[m] (hBB _ (by simp))])
    omega
   ·exact h
  rw [hdr] at hg;simp only [GDE2] at hg
  have hee:envL (fun j=>decide (j<l.length) && !X j) l ds 0 L=envL (fun q => !X q) l ds 0 L:=by
   have:∀ (l':List Oper) (ds:List D) (k0:Nat) (L:Env),k0+l'.length<=l.length->envL (fun j=>decide (j<l.length) && !X j) l' ds k0 L=envL (fun q => !X q) l' ds k0 L:=by
    intro l'
    induction l' with
    | nil=>intro ds k0 L _;simp [envL]
    | cons o r ih =>
     intro ds k0 L hk
     cases ds with
     | nil=>simp [envL]
     | cons d ds =>
      simp only [List.length_cons] at hk
      have:decide (k0<l.length)=true:=by simp;omega
      simp only [envL,this,Bool.true_and];exact ih ds (k0+1) _ (by omega)
   exact this l ds 0 L (by omega)
  rw [hee] at mm;rw [List.drop_length];exact ⟨_,_,hg,mm⟩
 ·
  have hz:∀ j,listed.getD j false=false:=h0
  refine ⟨0,[],ms,fun _=>(.v undef,em),Nat.zero_le _,fun q e he=>(by have:=hz e;simp [this]),fun e he=>hz e,(by rw [List.drop_zero];exact h2),fun t d ht=>by simp [Env.find] at ht,fun _=>rfl,hfd0,fun i hi h=>(by have:=hz i;simp only [this] at h;cases h),?_⟩
  have e1:fenv l fr (fun j=>listed.getD j false) (fun _=>(.v undef,em))=[]/\fown fr (fun j=>listed.getD j false) (fun _=>(D.v undef,em))=[]:=by
   have:fr.filter (fun j=>listed.getD j false)=[]:=List.filter_eq_nil_iff.2 fun i hi=>(by have:=hz i;simp [this])
   unfold fenv fown;rw [this];exact ⟨rfl,rfl⟩
  rw [e1.1,e1.2,List.append_nil,List.append_nil,List.nil_append,Cd _ _ _ _ (fun q _=>(by have:=hz q;simp [this]))];exact m0
 rintro S i o a w hc hik ho hunl hcs hin next hn
 by_cases hiB:i∈B
 ·
  have hin2:In2 0 S a w:=by
   rcases hin with h | h
   ·refine absorb S a w h (fun e he=>?_) (fun j hj=>?_)
    ·obtain ⟨q,hq⟩:=List.getElem?_of_mem he
     obtain ⟨q',hq'⟩:=List.getElem?_of_mem hiB
     have h1:(A++B)[q]? = some e:=by rw [List.getElem?_append_left (List.getElem?_eq_some_iff.1 hq).1];exact hq
     have h2:(A++B)[A.length+q']? = some i:=by rw [List.getElem?_append_right (by omega),show A.length+q' - A.length=q' by omega];exact hq'
     obtain ⟨h3,h4⟩:=hch.chain q (A.length+q') e i (by have:=(List.getElem?_eq_some_iff.1 hq).1;omega) h1 h2
     have h5:=h4 _ hcs (by simp)
     have hne:¬ e=i:=by omega
     simpa [hne] using h5
    ·obtain ⟨b1,b2,_⟩:=hch.fre j hj
     have h5:=b2 i hiB _ hcs (by simp)
     have hne:¬ j=i:=fun e=>b1 (e▸hBB i hiB)
     simpa [hne] using h5
   ·obtain ⟨m,E,msx,_,hh⟩:=h
    exact ⟨m,E,msx,Nat.zero_le _,hh⟩
  obtain ⟨m,E,msx,_,hml,hA1,hr1,hm,hg,hE,hFD,mm⟩:=hin2;obtain ⟨q,hq⟩:=List.getElem?_of_mem hiB
  have hqm:q=m:=by
   have h3:¬ q<m:=fun h=>by have:=(hm q i hq).2 h;rw [hunl] at this;cases this
   rcases Nat.lt_or_ge m q with h | h
   ·have hml2:m<B.length:=Nat.lt_trans h (List.getElem?_eq_some_iff.1 hq).1
    have c1:(A++B)[A.length+m]? = some B[m]:=by rw [List.getElem?_append_right (by omega),show A.length+m - A.length=m by omega];simp [hml2]
    have c2:(A++B)[A.length+q]? = some i:=by rw [List.getElem?_append_right (by omega),show A.length+q - A.length=q by omega];exact hq
    obtain ⟨h4,h5⟩:=hch.chain (A.length+m) (A.length+q) B[m] i (by omega) c1 c2
    have h6:=h5 _ hcs (by simp)
    have hne:¬ B[m]=i:=by omega
    simp only [hne,decide_false,Bool.or_false] at h6
    have:=(hm m B[m] (by simp [hml2])).1 h6
    omega
   ·omega
  subst hqm
  have hdrop:B.drop q=i::B.drop (q+1):=by
   obtain ⟨hlt,he⟩:=List.getElem?_eq_some_iff.1 hq;rw [<- he];exact (List.getElem_cons_drop ..).symm
  rw [hdrop] at hg;simp only [GDE2] at hg;obtain ⟨hdk,hgs⟩:=hg o ho;obtain ⟨o2,ho2,hdst,hlate⟩:=hch.op i (hBB i hiB);obtain rfl:o2=o:=by rw [ho] at ho2;exact (Option.some.inj ho2).symm
  have hXi:=hXA i (hBB i hiB)
  have hag:∀ s d',s∈Ah l o2->Env.find (E++envL (fun j => !X j) l ds 0 L) s=some d'->Env.find (E++envL (fun j=>S j && !X j) l ds 0 L) s=some d':=by
   intro s d' h3 h4
   rw [Az] at h4 ⊢
   cases hq2:Env.find E s with
   | some d2=>rw [hq2] at h4;exact h4
   | none =>
    rw [hq2] at h4
    simp only at h4 ⊢
    rw [<- h4];refine AW l ds 0 L L (fun j o' hj hd'=>?_) rfl;simp only [Nat.zero_add]
    cases hfj:X j with
    | true=>simp
    | false =>
     simp only [Bool.not_false,Bool.and_true]
     have hjf:j∉A++B:=fun h=>by rw [hXA j h] at hfj;cases hfj
     have hji:j≠i:=fun e=>hjf (e▸hBB i hiB)
     have hn':=hf.names i o2 j o' s ho hj (fun e=>hji e.symm) hd' (.inl h3)
     rcases Nat.lt_or_gt_of_ne hji with hlt | hgt
     ·have h5:=(hn' _ hcs).1 hlt (by simp)
      simpa [hji] using h5
     ·exact absurd h3 (hlate j o' s hgt hjf hj hd')
  have hpe:envL (fun j=>(S j||decide (j=i)) && !X j) l ds 0 L=envL (fun j=>S j && !X j) l ds 0 L:=by
   congr 1
   funext j
   by_cases hji:j=i
   ·subst hji;rw [hXi];simp
   ·simp [hji]
  have fin:∀ d ms' a' w',FD ms'->GDE2 Γ P l K FD (envL (fun j => !X j) l ds 0 L) (B.drop (q+1)) (extE o2 d E) ms'->Models Γ (extE o2 d (E++envL (fun j=>S j && !X j) l ds 0 L)) ms' a' w'->next a' w':=by
   intro d ms' a' w' hF hr2 m'
   refine hn a' w' (.inr ⟨q+1,extE o2 d E,ms',by omega,(List.getElem?_eq_some_iff.1 hq).1,fun e he=>by simp [hA1 e he],fun j hj=>by simp [hr1 j hj],fun q' e' he'=>?_,hr2,fun t d2 ht=>?_,hF,?_⟩)
   ·by_cases hqq:q'=q
    ·subst hqq
     have:e'=i:=by rw [hq] at he';exact (Option.some.inj he').symm
     simp [this]
    ·have hne:e'≠i:=by
      intro e
      subst e
      have c1:(A++B)[A.length+q']? = some e':=by rw [List.getElem?_append_right (by omega),show A.length+q' - A.length=q' by omega];exact he'
      have c2:(A++B)[A.length+q]? = some e':=by rw [List.getElem?_append_right (by omega),show A.length+q - A.length=q by omega];exact hq
      rcases Nat.lt_or_gt_of_ne hqq with h | h
      ·have:=(hch.chain (A.length+q') (A.length+q) e' e' (by omega) c1 c2).1;omega
      ·have:=(hch.chain (A.length+q) (A.length+q') e' e' (by omega) c2 c1).1;omega
     simp only [hne,decide_false,Bool.or_false];rw [hm q' e' he']
     omega
   ·unfold extE at ht
    cases hd:o2.dst with
    | none =>
     rw [hd] at ht;obtain ⟨e,o3,a1,a2,a3,a4⟩:=hE t d2 ht;exact ⟨e,o3,a1,by simp [a2],a3,a4⟩
    | some t0 =>
     rw [hd] at ht;simp only [Env.find] at ht
     cases hb:Nat.beq t0 t with
     | true=>exact ⟨i,o2,.inl (hBB i hiB),by simp,ho,by rw [hd,Nat.eq_of_beq_eq_true hb]⟩
     | false =>
      rw [hb] at ht;obtain ⟨e,o3,a1,a2,a3,a4⟩:=hE t d2 ht;exact ⟨e,o3,a1,by simp [a2],a3,a4⟩
   ·rw [hpe,<- Lw];exact m'
  exact Hb (rest:=[]) (by rw [List.append_nil];exact mm) hdk hag hgs (fun d ms' hnx a' w' m'=>fin d ms' a' w' hnx.1 hnx.2 (by rw [List.append_nil] at m';exact m')) (fun hsk a' w' m'=>fin _ msx a' w' hFD hsk (by rw [List.append_nil] at m';exact m'))
 by_cases hiA:i∈A
 ·
  have hin1:In1 S a w:=by
   rcases hin with h | ⟨m,E,msx,_,hml,hA1,_⟩
   ·exact h
   ·have:=hA1 i hiA;rw [hunl] at this;cases this
  obtain ⟨m,E,msx,ρ,hml,hm,hB0,hg,hE,hm0,hFD,hρ,mm⟩:=hin1;obtain ⟨q,hq⟩:=List.getElem?_of_mem hiA
  have cA:∀ (q:Nat) e,A[q]? = some e->(A++B)[q]? = some e:=fun q e h=>by rw [List.getElem?_append_left (List.getElem?_eq_some_iff.1 h).1];exact h
  have hqm:q=m:=by
   have h3:¬ q<m:=fun h=>by have:=(hm q i hq).2 h;rw [hunl] at this;cases this
   rcases Nat.lt_or_ge m q with h | h
   ·have hml2:m<A.length:=Nat.lt_trans h (List.getElem?_eq_some_iff.1 hq).1
    obtain ⟨h4,h5⟩:=hch.chain m q A[m] i h (cA m _ (by simp [hml2])) (cA q i hq)
    have h6:=h5 _ hcs (by simp)
    have hne:¬ A[m]=i:=by omega
    simp only [hne,decide_false,Bool.or_false] at h6
    have:=(hm m A[m] (by simp [hml2])).1 h6
    omega
   ·omega
  subst hqm
  have hdrop:A.drop q=i::A.drop (q+1):=by
   obtain ⟨hlt,he⟩:=List.getElem?_eq_some_iff.1 hq;rw [<- he];exact (List.getElem_cons_drop ..).symm
  rw [hdrop] at hg;simp only [GF] at hg;obtain ⟨hdk,hgs⟩:=hg o ho;obtain ⟨o2,ho2,hdst,hlate⟩:=hch.op i (hAB i hiA);obtain rfl:o2=o:=by rw [ho] at ho2;exact (Option.some.inj ho2).symm
  have hXi:=hXA i (hAB i hiA)
  have hag:∀ s d',s∈Ah l o2->Env.find (E++envL (fun j => !X j) l ds 0 L) s=some d'->Env.find ((E++fenv l fr S ρ)++envL (fun j=>S j && !X j) l ds 0 L) s=some d':=by
   intro s d' h3 h4
   have hno:Env.find (fenv l fr S ρ) s=none:=Is fun j hj e1=>by
    obtain ⟨_,_,_,_,_,_,_,hrd⟩:=hch.fre j hj;exact hrd i o2 ho hiB (e1▸h3)
   rw [List.append_assoc,Az] at ⊢;rw [Az] at h4
   cases hq2:Env.find E s with
   | some d2=>rw [hq2] at h4;exact h4
   | none =>
    rw [hq2] at h4
    simp only at h4 ⊢
    rw [Az,hno]
    simp only
    rw [<- h4];refine AW l ds 0 L L (fun j o' hj hd'=>?_) rfl;simp only [Nat.zero_add]
    cases hfj:X j with
    | true=>simp
    | false =>
     simp only [Bool.not_false,Bool.and_true]
     have hjf:j∉A++B:=fun h=>by rw [hXA j h] at hfj;cases hfj
     have hji:j≠i:=fun e=>hjf (e▸hAB i hiA)
     have hn':=hf.names i o2 j o' s ho hj (fun e=>hji e.symm) hd' (.inl h3)
     rcases Nat.lt_or_gt_of_ne hji with hlt | hgt
     ·have h5:=(hn' _ hcs).1 hlt (by simp)
      simpa [hji] using h5
     ·exact absurd h3 (hlate j o' s hgt hjf hj hd')
  have hir:i∉fr:=fun h=>(hch.fre i h).1 (hAB i hiA)
  have hpe:envL (fun j=>(S j||decide (j=i)) && !X j) l ds 0 L=envL (fun j=>S j && !X j) l ds 0 L:=by
   congr 1
   funext j
   by_cases hji:j=i
   ·subst hji;rw [hXi];simp
   ·simp [hji]
  have hfl:fr.filter (fun j=>S j||decide (j=i))=fr.filter S:=List.filter_congr fun j hj=>by
   have:¬ j=i:=fun e=>hir (e▸hj)
   simp [this]
  have hfe:fenv l fr (fun j=>S j||decide (j=i)) ρ=fenv l fr S ρ:=by unfold fenv;rw [hfl]
  have hfo:fown fr (fun j=>S j||decide (j=i)) ρ=fown fr S ρ:=by unfold fown;rw [hfl]
  have fin:∀ d ms' a' w',FD ms'->GF Γ P l K FD (envL (fun j => !X j) l ds 0 L) R fr B (A.drop (q+1)) (extE o2 d E) ms'->Models Γ (extE o2 d ((E++fenv l fr S ρ)++envL (fun j=>S j && !X j) l ds 0 L)) (ms'++fown fr S ρ) a' w'->next a' w':=by
   intro d ms' a' w' hF hr2 m'
   refine hn a' w' (.inl ⟨q+1,extE o2 d E,ms',ρ,(List.getElem?_eq_some_iff.1 hq).1,fun q' e' he'=>?_,fun e he=>?_,hr2,fun t d2 ht=>?_,fun h=>by omega,hF,fun j hj hSj=>?_,?_⟩)
   ·by_cases hqq:q'=q
    ·subst hqq
     have:e'=i:=by rw [hq] at he';exact (Option.some.inj he').symm
     simp [this]
    ·have hne:e'≠i:=by
      intro e
      subst e
      rcases Nat.lt_or_gt_of_ne hqq with h | h
      ·have:=(hch.chain q' q e' e' h (cA _ _ he') (cA _ _ hq)).1;omega
      ·have:=(hch.chain q q' e' e' h (cA _ _ hq) (cA _ _ he')).1;omega
     simp only [hne,decide_false,Bool.or_false];rw [hm q' e' he']
     omega
   ·have:¬ e=i:=fun h=>hiB (h▸he)
    simp [this,hB0 e he]
   ·unfold extE at ht
    cases hd:o2.dst with
    | none =>
     rw [hd] at ht;obtain ⟨e,o3,a1,a2,a3,a4⟩:=hE t d2 ht;exact ⟨e,o3,a1,by simp [a2],a3,a4⟩
    | some t0 =>
     rw [hd] at ht;simp only [Env.find] at ht
     cases hb:Nat.beq t0 t with
     | true=>exact ⟨i,o2,hAB i hiA,by simp,ho,by rw [hd,Nat.eq_of_beq_eq_true hb]⟩
     | false =>
      rw [hb] at ht;obtain ⟨e,o3,a1,a2,a3,a4⟩:=hE t d2 ht;exact ⟨e,o3,a1,by simp [a2],a3,a4⟩
   ·have:¬ j=i:=fun h=>hir (h▸hj)
    exact hρ j hj (by simpa [this] using hSj)
   ·rw [hpe,hfe,hfo,<- Lw,<- Lw];exact m'
  exact Hb mm hdk hag hgs (fun d ms' hnx a' w' m'=>fin d ms' a' w' hnx.1 hnx.2 m') (fun hsk a' w' m'=>fin _ msx a' w' hFD hsk m')
 have hiAB:i∉A++B:=fun h=>by
  rcases List.mem_append.1 h with h | h
  ·exact hiA h
  ·exact hiB h
 by_cases hir:i∈fr
 ·
  have hin1:In1 S a w:=by
   rcases hin with h | ⟨m,E,msx,_,hml,hA1,hr1,_⟩
   ·exact h
   ·have:=hr1 i hir;rw [hunl] at this;cases this
  obtain ⟨m,E,msx,ρ,hml,hm,hB0,hg,hE,hm0,hFD,hρ,mm⟩:=hin1;obtain ⟨_,_,o2,ho2,hgd,hd,hdst,hrd⟩:=hch.fre i hir;obtain rfl:o2=o:=by rw [ho] at ho2;exact (Option.some.inj ho2).symm
  obtain ⟨hdk,hop⟩:=hfresh i o2 hir ho
  have hEs:∀ s,s∈Ah l o2->Env.find E s=none:=by
   intro s hs
   cases hq:Env.find E s with
   | none=>rfl
   | some d2 =>
    obtain ⟨e,o3,a1,_,a3,a4⟩:=hE s d2 hq;obtain ⟨o4,b1,b3,_⟩:=hch.op e a1
    have:o4=o3:=by rw [a3] at b1;exact (Option.some.inj b1).symm
    subst this;exact absurd hs ((b3 s a4).2 i o2 ho hiAB)
  have hag:∀ s d',s∈Ah l o2->Env.find (envL (fun j=>decide (j<i) && !X j) l ds 0 L) s=some d'->Env.find ((E++fenv l fr S ρ)++envL (fun j=>S j && !X j) l ds 0 L) s=some d':=by
   intro s d' hs h4
   have hno:Env.find (fenv l fr S ρ) s=none:=Is fun j hj e1=>by
    obtain ⟨_,_,_,_,_,_,_,hrd2⟩:=hch.fre j hj;exact hrd2 i o2 ho hiB (e1▸hs)
   rw [List.append_assoc,Az,hEs s hs]
   simp only
   rw [Az,hno]
   simp only
   rw [<- h4];refine AW l ds 0 L L (fun j o' hj hd'=>?_) rfl;simp only [Nat.zero_add]
   cases hfj:X j with
   | true=>simp
   | false =>
    simp only [Bool.not_false,Bool.and_true]
    by_cases hji:j=i
    ·subst hji;rw [hunl];simp
    ·have hn':=hf.names i o2 j o' s ho hj (fun e=>hji e.symm) hd' (.inl hs)
     by_cases hlt:j<i
     ·have h1:=(hn' _ hcs).1 hlt (by simp)
      simp only [hji,decide_false,Bool.or_false] at h1;rw [h1];simp [hlt]
     ·cases hb:S j with
      | true=>have h1:=(hn' _ hc).2 (by omega) hb;rw [hunl] at h1;cases h1
      | false=>simp [hlt]
  refine Hb (K:=K) (Eg:=envL (fun j=>decide (j<i) && !X j) l ds 0 L) (msx:=[]) (rest:=msx++fown fr S ρ) (nx:=fun d ms'=>∃ As,R i d As/\ms'=[As]) (sk:=False) (by simpa using mm) hdk hag ?_ (fun d ms' hnx a' w' m'=>?_) (fun h=>h.elim)
  ·unfold GStep;rw [hgd];exact ⟨_,hop,fun _ _ h=>h⟩
  ·obtain ⟨As,hR,rfl⟩:=hnx
   let ρ':Nat->D×Asrt:=fun j=>if j=i then (d,As) else ρ j
   have hin:∀ j,j≠i->ρ' j=ρ j:=fun j hj=>by simp [ρ',hj]
   have hii:ρ' i=(d,As):=by simp [ρ']
   have hpf:=Ly (S:=S) hch.nd hir hunl
   have hmapd:(fr.filter S).map (fun j=>(ρ' j).2)=fown fr S ρ:=by
    unfold fown;refine List.map_congr_left fun j hj=>?_
    have:j≠i:=fun e=>by subst e;have:=(List.mem_filter.1 hj).2;rw [hunl] at this;cases this
    rw [hin j this]
   have hpo:(fown fr (fun j=>S j||decide (j=i)) ρ').Perm (As::fown fr S ρ):=by
    have:=hpf.map (fun j=>(ρ' j).2)
    simp only [List.map_cons,hmapd,hii] at this;exact this
   have hpe:envL (fun j=>(S j||decide (j=i)) && !X j) l ds 0 L=envL (fun j=>S j && !X j) l ds 0 L:=by
    congr 1
    funext j
    by_cases hji:j=i
    ·subst hji;rw [hXr _ hir];simp
    ·simp [hji]
   refine hn a' w' (.inl ⟨m,E,msx,ρ',hml,fun q e he=>?_,fun e he=>?_,hg,fun t d2 ht=>?_,hm0,hFD,fun j hj hSj=>?_,?_⟩)
   ·have:¬ e=i:=fun h=>hiA (h▸List.mem_of_getElem? he)
    simp only [this,decide_false,Bool.or_false];exact hm q e he
   ·have:¬ e=i:=fun h=>hiB (h▸he)
    simp [this,hB0 e he]
   ·obtain ⟨e,o3,a1,a2,a3,a4⟩:=hE t d2 ht
    exact ⟨e,o3,a1,by simp [a2],a3,a4⟩
   ·by_cases hji:j=i
    ·subst hji;rw [hii];exact hR
    ·rw [hin j hji];exact hρ j hj (by simpa [hji] using hSj)
   ·rw [hpe]
    refine Fv (Hv m' fun t d' hfnd=>?_) ?_
    ·unfold extE
     rw [hd];simp only [Env.find];rw [List.append_assoc,Az] at hfnd
     cases hb:Nat.beq (dstN l i) t with
     | true =>
      have hit:=Nat.eq_of_beq_eq_true hb
      subst hit
      have hEn:Env.find E (dstN l i)=none:=by
       cases hq:Env.find E (dstN l i) with
       | none=>rfl
       | some d2 =>
        obtain ⟨e,o3,a1,_,a3,a4⟩:=hE _ d2 hq;exact absurd a4 (hdst e o3 a3 (fun h=>hiAB (h▸a1)))
      rw [hEn] at hfnd
      simp only at hfnd ⊢
      rw [Az] at hfnd
      cases hq:Env.find (fenv l fr (fun j=>S j||decide (j=i)) ρ') (dstN l i) with
      | some d2 =>
       rw [hq] at hfnd;simp only [Option.some.injEq] at hfnd;subst hfnd;obtain ⟨j,hj,e1,e2⟩:=(B0 (dstN l) (fun i=>(ρ' i).1) (dstN l i) _).1 d2 hq;obtain ⟨hj1,_⟩:=List.mem_filter.1 hj
       have hji:j=i:=by
        refine Classical.byContradiction fun hne=>?_;obtain ⟨_,_,oj,hoj,_,hdj,_,_⟩:=hch.fre j hj1;exact hdst j oj hoj hne (by rw [hdj,e1])
       subst hji;rw [e2,hii]
      | none =>
       have:=(B0 (dstN l) (fun i=>(ρ' i).1) (dstN l i) (fr.filter fun j=>S j||decide (j=i))).2 hq i (List.mem_filter.2 ⟨hir,by simp⟩)
       exact absurd rfl this
     | false =>
      simp only
      have hne:dstN l i≠t:=fun e=>by rw [e] at hb;simp at hb
      rw [List.append_assoc,Az]
      cases hqe:Env.find E t with
      | some d2=>rw [hqe] at hfnd;exact hfnd
      | none =>
       rw [hqe] at hfnd
       simp only at hfnd ⊢
       rw [Az] at hfnd ⊢
       have key:Env.find (fenv l fr (fun j=>S j||decide (j=i)) ρ') t=Env.find (fenv l fr S ρ) t:=by
        cases hq:Env.find (fenv l fr S ρ) t with
        | some d2 =>
         obtain ⟨j,hj,e1,e2⟩:=(B0 (dstN l) (fun i=>(ρ i).1) t _).1 d2 hq;obtain ⟨hj1,hj2⟩:=List.mem_filter.1 hj
         have hji:j≠i:=fun e=>hne (by rw [<- e];exact e1)
         cases hq2:Env.find (fenv l fr (fun j=>S j||decide (j=i)) ρ') t with
         | none=>exact absurd e1 ((B0 (dstN l) (fun i=>(ρ' i).1) t (fr.filter fun j=>S j||decide (j=i))).2 hq2 j (List.mem_filter.2 ⟨hj1,by simp [hj2]⟩))
         | some d3 =>
          obtain ⟨j2,hj2',e3,e4⟩:=(B0 (dstN l) (fun i=>(ρ' i).1) t _).1 d3 hq2;obtain ⟨hj3,_⟩:=List.mem_filter.1 hj2'
          have hjj:j2=j:=by
           refine Classical.byContradiction fun hne2=>?_;obtain ⟨_,_,oj,hoj,_,hdj,hdst2,_⟩:=hch.fre j hj1;obtain ⟨_,_,oj2,hoj2,_,hdj2,_,_⟩:=hch.fre j2 hj3;exact hdst2 j2 oj2 hoj2 hne2 (by rw [hdj2,e3,e1])
          subst hjj;rw [e4,e2,hin j2 hji]
        | none =>
         cases hq2:Env.find (fenv l fr (fun j=>S j||decide (j=i)) ρ') t with
         | none=>rfl
         | some d3 =>
          obtain ⟨j2,hj2',e3,e4⟩:=(B0 (dstN l) (fun i=>(ρ' i).1) t _).1 d3 hq2;obtain ⟨hj3,hj4⟩:=List.mem_filter.1 hj2'
          have hji:j2≠i:=fun e=>hne (by rw [<- e];exact e3)
          exact absurd e3 ((B0 (dstN l) (fun i=>(ρ i).1) t (fr.filter S)).2 hq j2 (List.mem_filter.2 ⟨hj3,by simpa [hji] using hj4⟩))
       rw [key] at hfnd;exact hfnd
    ·have h1:([As]++(msx++fown fr S ρ)).Perm (msx++(As::fown fr S ρ)):=by
      rw [List.singleton_append];exact List.perm_middle.symm
     exact h1.trans (hpo.symm.append_left _)
 ·
  obtain ⟨d,hd⟩:∃ d,ds[i]? = some d:=⟨ds[i]'(by omega),by simp⟩;obtain ⟨hdst,hst⟩:=hstep i o d hiAB hir ho hd
  have hXi:=hXf i hiAB hir
  have hnoF:∀ S ρ s,s∈Ah l o\/o.dst=some s->Env.find (fenv l fr S ρ) s=none:=by
   intro S ρ s hs
   refine Is fun j hj e1=>?_;obtain ⟨_,_,_,_,_,_,hdst2,hrd2⟩:=hch.fre j hj
   rcases hs with hs | hs
   ·exact hrd2 i o ho hiB (e1▸hs)
   ·exact hdst2 i o ho (fun e=>hir (e▸hj)) (by rw [hs,e1])
  have hnoE:∀ {E:Env},(∀ t d,Env.find E t=some d->∃ e o,(e∈A++B\/e∈fr)/\S e=true/\l[e]? = some o/\o.dst=some t)->∀ s,s∈Ah l o\/o.dst=some s->Env.find E s=none:=by
   intro E hE s hs
   cases hq:Env.find E s with
   | none=>rfl
   | some d2 =>
    obtain ⟨e,o3,a1,_,a3,a4⟩:=hE s d2 hq
    rcases a1 with a1 | a1
    ·obtain ⟨o4,b1,b3,_⟩:=hch.op e a1
     have:o4=o3:=by rw [a3] at b1;exact (Option.some.inj b1).symm
     subst this
     rcases hs with hs | hs
     ·exact absurd hs ((b3 s a4).2 i o ho hiAB)
     ·exact absurd hs ((b3 s a4).1 i o ho (fun h=>hiAB (h▸a1)))
    ·obtain ⟨_,_,o4,b1,_,b4,hdst2,hrd2⟩:=hch.fre e a1
     have:o4=o3:=by rw [a3] at b1;exact (Option.some.inj b1).symm
     subst this
     have hes:dstN l e=s:=by rw [a4] at b4;exact (Option.some.inj b4).symm
     rcases hs with hs | hs
     ·exact absurd (hes▸hs) (hrd2 i o ho hiB)
     ·exact absurd hs (by rw [<- hes];exact hdst2 i o ho (fun e2=>hir (e2▸a1)))
  have hdepA:∀ e,e∈A++B->S e=true->free.contains i=true:=by
   intro e he hSe
   cases hfr:free.contains i with
   | true=>rfl
   | false =>
    have hif:i∉free:=fun hh=>by rw [List.contains_iff_mem.2 hh] at hfr;cases hfr
    have:=hch.dep i hik hiAB hif hir e he S hc hSe
    rw [hunl] at this;cases this
  rcases hin with ⟨m,E,msx,ρ,hml,hm,hB0,hg,hE,hm0,hFD,hρ,mm⟩ | ⟨m,E,msx,hm1,hml,hA1,hr1,hm,hg,hE,hFD,mm⟩
  ·obtain ⟨msi,rest,hp,hst'⟩:∃ msi rest,msx.Perm (msi++rest)/\Step P l o (envL (fun j=>decide (j<i) && !X j) l ds 0 L) msi d:=by
    cases hfi:fd.contains i with
    | true=>exact ⟨msx,[],by simp,hfd msx hFD i o d hfi ho hd⟩
    | false =>
     rw [hfi] at hst;simp only [Bool.not_false,Bool.and_true] at hst
     cases hfr:free.contains i with
     | true=>rw [hfr] at hst;exact ⟨[],msx,List.Perm.refl _,hst⟩
     | false =>
      rw [hfr] at hst
      have hm00:m=0:=by
       rcases Nat.eq_zero_or_pos m with h | h
       ·exact h
       ·have h0:0<A.length:=by omega
        have hS0:S A[0]=true:=(hm 0 A[0] (by simp [h0])).2 h
        have:=hdepA A[0] (hAB _ (by simp)) hS0
        rw [hfr] at this;cases this
      exact ⟨ms,[],by rw [hm0 hm00];simp,hst⟩
   have hne2:∀ s,s∈Ah l o\/o.dst=some s->Env.find (E++fenv l fr S ρ) s=none:=by
    intro s hs
    rw [Az,hnoE (E:=E) (fun t d ht=>by obtain ⟨e,o3,a1,a2⟩:=hE t d ht;exact ⟨e,o3,.inl a1,a2⟩) s hs];exact hnoF S ρ s hs
   refine KU hf X hc ho hunl hcs hXi hne2 mm hd hdst (rest:=rest++fown fr S ρ) (by rw [<- List.append_assoc];exact hp.append_right _) hst' (fun a' w' m'=>hn a' w' (.inl ⟨m,E,msx,ρ,hml,fun q e he=>?_,fun e he=>?_,hg,fun t d2 ht=>?_,hm0,hFD,fun j hj hSj=>?_,?_⟩))
   ·have:¬ e=i:=fun h=>hiA (h▸List.mem_of_getElem? he)
    simp only [this,decide_false,Bool.or_false];exact hm q e he
   ·have:¬ e=i:=fun h=>hiB (h▸he)
    simp [this,hB0 e he]
   ·obtain ⟨e,o3,a1,a2,a3,a4⟩:=hE t d2 ht
    exact ⟨e,o3,a1,by simp [a2],a3,a4⟩
   ·have:¬ j=i:=fun h=>hir (h▸hj)
    exact hρ j hj (by simpa [this] using hSj)
   ·have hfl:fr.filter (fun j=>S j||decide (j=i))=fr.filter S:=List.filter_congr fun j hj=>by
     have:¬ j=i:=fun e=>hir (e▸hj)
     simp [this]
    have hfe:fenv l fr (fun j=>S j||decide (j=i)) ρ=fenv l fr S ρ:=by unfold fenv;rw [hfl]
    have hfo:fown fr (fun j=>S j||decide (j=i)) ρ=fown fr S ρ:=by unfold fown;rw [hfl]
    rw [hfe,hfo];exact m'
  ·
   obtain ⟨msi,rest,hp,hst'⟩:∃ msi rest,msx.Perm (msi++rest)/\Step P l o (envL (fun j=>decide (j<i) && !X j) l ds 0 L) msi d:=by
    cases hfi:fd.contains i with
    | true=>exact ⟨msx,[],by simp,hfd msx hFD i o d hfi ho hd⟩
    | false =>
     rw [hfi] at hst;simp only [Bool.not_false,Bool.and_true] at hst
     cases hfr:free.contains i with
     | true=>rw [hfr] at hst;exact ⟨[],msx,List.Perm.refl _,hst⟩
     | false =>
      have h0:0<B.length:=by omega
      have hS0:S B[0]=true:=(hm 0 B[0] (by simp [h0])).2 (by omega)
      have:=hdepA B[0] (hBB _ (by simp)) hS0
      rw [hfr] at this;cases this
   refine KU hf X hc ho hunl hcs hXi (hnoE hE) mm hd hdst hp hst' (fun a' w' m'=>hn a' w' (.inr ⟨m,E,msx,hm1,hml,fun e he=>by simp [hA1 e he],fun j hj=>by simp [hr1 j hj],fun q e he=>?_,hg,fun t d2 ht=>?_,hFD,m'⟩))
   ·have:¬ e=i:=fun h=>hiB (h▸List.mem_of_getElem? he)
    simp only [this,decide_false,Bool.or_false];exact hm q e he
   ·obtain ⟨e,o3,a1,a2,a3,a4⟩:=hE t d2 ht
    exact ⟨e,o3,a1,by simp [a2],a3,a4⟩
end
end Go.V
namespace Go.V
section
variable {Γ:Ctx} {P:Program} {L:Env} {ms:List Asrt} {K:KT} {l:List Oper}
def orR (i:Nat) (R0:D->Asrt->Prop) (R:Nat->D->Asrt->Prop):Nat->D->Asrt->Prop:=fun q=>cond (Nat.beq q i) R0 (R q)
def GDX (Γ:Ctx) (P:Program) (ops:List Oper) (ms:List Asrt) (K:KT) (A B free fr fd:List Nat):Nat->List Oper->Env->(List Asrt->Prop)->(Nat->D->Asrt->Prop)->Prop
 | _,[],L,acc,R=>GF Γ P ops K acc L R fr B A [] ms
 | i,o::r,L,acc,R=>if (A++B).contains i=true then GDX Γ P ops ms K A B free fr fd (i+1) r L acc R
  else if fr.contains i=true then ∃ R0,dstOk o Γ.N/\OpT P o (Env.only (Ah ops o) L) [] (fun d ms'=>∃ As,R0 d As/\ms'=[As])/\GDX Γ P ops ms K A B free fr fd (i+1) r L acc (orR i R0 R)
  else ∃ d,dstOk o Γ.N/\Step P ops o L (if free.contains i && !(fd.contains i) then [] else ms) d/\GDX Γ P ops ms K A B free fr fd (i+1) r (ext o d L) (if fd.contains i then fun msx=>acc msx/\Step P ops o L msx d else acc) R
theorem JS {ops:List Oper} {A B free fr fd:List Nat}:∀ (r:List Oper) (i:Nat) (L:Env) (acc:List Asrt->Prop) (R:Nat->D->Asrt->Prop),acc ms->GDX Γ P ops ms K A B free fr fd i r L acc R ->
  ∃ (ds:List D) (FD:List Asrt->Prop) (R':Nat->D->Asrt->Prop),ds.length=r.length/\(∀ q,q<i->R' q=R q) /\
   (∀ j o d,r[j]? = some o->ds[j]? = some d->(A++B).contains (i+j)=false->fr.contains (i+j)=false->dstOk o Γ.N/\Step P ops o (envL (fun q=>decide (q<i+j) && !((A++B).contains q||fr.contains q)) r ds i L) (if free.contains (i+j) && !(fd.contains (i+j)) then [] else ms) d) /\
   (∀ msx,FD msx->acc msx/\∀ j o d,r[j]? = some o->ds[j]? = some d->(A++B).contains (i+j)=false->fr.contains (i+j)=false->fd.contains (i+j)=true->Step P ops o (envL (fun q=>decide (q<i+j) && !((A++B).contains q||fr.contains q)) r ds i L) msx d) /\
   (∀ j o,r[j]? = some o->(A++B).contains (i+j)=false->fr.contains (i+j)=true->dstOk o Γ.N/\OpT P o (Env.only (Ah ops o) (envL (fun q=>decide (q<i+j) && !((A++B).contains q||fr.contains q)) r ds i L)) [] (fun d ms'=>∃ As,R' (i+j) d As/\ms'=[As]))/\FD ms /\
   GF Γ P ops K FD (envL (fun q => !((A++B).contains q||fr.contains q)) r ds i L) R' fr B A [] ms
 | [],i,L,acc,R,h0,h=>⟨[],acc,R,rfl,fun _ _=>rfl,fun j o d hj=>by simp at hj,fun msx hm=>⟨hm,fun j o d hj=>by simp at hj⟩,fun j o hj=>by simp at hj,h0,(show GF Γ P ops K acc L R fr B A [] ms from h)⟩
 | o::r,i,L,acc,R,h0,h=>by
  have hsh:∀ j,i+(j+1)=i+1+j:=fun j=>by omega
  unfold GDX at h
  cases hc:(A++B).contains i with
  | true =>
   rw [if_pos hc] at h;obtain ⟨ds,FD,R',e1,e0,e2,e4,e6,e5,e3⟩:=JS r (i+1) L acc R h0 h
   have hS:∀ m,(decide (i<m) && !((A++B).contains i||fr.contains i))=false:=fun m=>by rw [hc];simp
   refine ⟨.v undef::ds,FD,R',by simp [e1],fun q hq=>e0 q (by omega),fun j o' d' hj hdj hcj hrj=>?_,fun msx hm=>⟨(e4 msx hm).1,fun j o' d' hj hdj hcj hrj hfj=>?_⟩,fun j o' hj hcj hrj=>?_,e5,?_⟩
   ·cases j with
    | zero=>rw [Nat.add_zero] at hcj;rw [hc] at hcj;cases hcj
    | succ j =>
     simp only [List.getElem?_cons_succ] at hj hdj;rw [hsh] at hcj hrj ⊢;simp only [envL,hS,Bool.false_eq_true,if_false];exact e2 j o' d' hj hdj hcj hrj
   ·cases j with
    | zero=>rw [Nat.add_zero] at hcj;rw [hc] at hcj;cases hcj
    | succ j =>
     simp only [List.getElem?_cons_succ] at hj hdj;rw [hsh] at hcj hrj hfj ⊢;simp only [envL,hS,Bool.false_eq_true,if_false];exact (e4 msx hm).2 j o' d' hj hdj hcj hrj hfj
   ·cases j with
    | zero=>rw [Nat.add_zero] at hcj;rw [hc] at hcj;cases hcj
    | succ j =>
     simp only [List.getElem?_cons_succ] at hj;rw [hsh] at hcj hrj ⊢;simp only [envL,hS,Bool.false_eq_true,if_false];exact e6 j o' hj hcj hrj
   ·simp only [envL]
    rw [if_neg (by rw [hc];simp)];exact e3
  | false =>
   rw [if_neg (by rw [hc];simp)] at h
   cases hr:fr.contains i with
   | true =>
    rw [if_pos hr] at h;obtain ⟨R0,hdk,hop,hrest⟩:=h;obtain ⟨ds,FD,R',e1,e0,e2,e4,e6,e5,e3⟩:=JS r (i+1) L acc _ h0 hrest
    have hS:∀ m,(decide (i<m) && !((A++B).contains i||fr.contains i))=false:=fun m=>by rw [hr];simp
    have hR0:R' i=R0:=by rw [e0 i (by omega)];simp [orR]
    refine ⟨.v undef::ds,FD,R',by simp [e1],fun q hq=>?_,fun j o' d' hj hdj hcj hrj=>?_,fun msx hm=>⟨(e4 msx hm).1,fun j o' d' hj hdj hcj hrj hfj=>?_⟩,fun j o' hj hcj hrj=>?_,e5,?_⟩
    ·rw [e0 q (by omega)]
     have:Nat.beq q i=false:=by
      cases hb:Nat.beq q i with
      | true=>have:=Nat.eq_of_beq_eq_true hb;omega
      | false=>rfl
     simp [orR,this]
    ·cases j with
     | zero=>rw [Nat.add_zero] at hrj;rw [hr] at hrj;cases hrj
     | succ j =>
      simp only [List.getElem?_cons_succ] at hj hdj;rw [hsh] at hcj hrj ⊢;simp only [envL,hS,Bool.false_eq_true,if_false];exact e2 j o' d' hj hdj hcj hrj
    ·cases j with
     | zero=>rw [Nat.add_zero] at hrj;rw [hr] at hrj;cases hrj
     | succ j =>
      simp only [List.getElem?_cons_succ] at hj hdj;rw [hsh] at hcj hrj hfj ⊢;simp only [envL,hS,Bool.false_eq_true,if_false];exact (e4 msx hm).2 j o' d' hj hdj hcj hrj hfj
    ·cases j with
     | zero =>
      simp only [List.getElem?_cons_zero,Option.some.injEq] at hj;subst hj;rw [Nat.add_zero,hR0,Cd _ _ _ _ (fun q hq=>(by have h9:¬ q<i:=(by omega);simp [h9]))];exact ⟨hdk,hop⟩
     | succ j =>
      simp only [List.getElem?_cons_succ] at hj;rw [hsh] at hcj hrj ⊢;simp only [envL,hS,Bool.false_eq_true,if_false];exact e6 j o' hj hcj hrj
    ·simp only [envL]
     rw [if_neg (by rw [hr];simp)];exact e3
   | false =>
    rw [if_neg (by rw [hr];simp)] at h;obtain ⟨d,hdk,hst,hrest⟩:=h
    have h0':(if fd.contains i then fun msx=>acc msx/\Step P ops o L msx d else acc) ms:=by
     cases hf:fd.contains i with
     | true=>rw [hf] at hst;simp only [Bool.not_true,Bool.and_false,Bool.false_eq_true,if_false] at hst;exact ⟨h0,hst⟩
     | false=>exact h0
    obtain ⟨ds,FD,R',e1,e0,e2,e4,e6,e5,e3⟩:=JS r (i+1) (ext o d L) _ R h0' hrest
    have hS:∀ j,(decide (i<i+1+j) && !((A++B).contains i||fr.contains i))=true:=fun j=>by rw [hc,hr];simp;omega
    have hL0:envL (fun q=>decide (q<i+0) && !((A++B).contains q||fr.contains q)) (o::r) (d::ds) i L=L:=by
     rw [Nat.add_zero,Cd _ _ _ _ (fun q hq=>(by have h9:¬ q<i:=(by omega);simp [h9]))]
    refine ⟨d::ds,FD,R',by simp [e1],fun q hq=>e0 q (by omega),fun j o' d' hj hdj hcj hrj=>?_,fun msx hm=>?_,fun j o' hj hcj hrj=>?_,e5,?_⟩
    ·cases j with
     | zero =>
      simp only [List.getElem?_cons_zero,Option.some.injEq] at hj hdj;subst hj hdj;exact ⟨hdk,by rw [hL0];exact hst⟩
     | succ j =>
      simp only [List.getElem?_cons_succ] at hj hdj;rw [hsh] at hcj hrj ⊢;simp only [envL,hS,if_true];exact e2 j o' d' hj hdj hcj hrj
    ·obtain ⟨hacc,hrest2⟩:=e4 msx hm
     have hacc':acc msx:=by
      cases hf:fd.contains i with
      | true=>rw [hf] at hacc;exact hacc.1
      | false=>rw [hf] at hacc;exact hacc
     refine ⟨hacc',fun j o' d' hj hdj hcj hrj hfj=>?_⟩
     cases j with
     | zero =>
      simp only [List.getElem?_cons_zero,Option.some.injEq] at hj hdj;subst hj hdj;rw [hL0];rw [Nat.add_zero] at hfj;rw [hfj] at hacc;exact hacc.2
     | succ j =>
      simp only [List.getElem?_cons_succ] at hj hdj;rw [hsh] at hcj hrj hfj ⊢;simp only [envL,hS,if_true];exact hrest2 j o' d' hj hdj hcj hrj hfj
    ·cases j with
     | zero=>rw [Nat.add_zero] at hrj;rw [hr] at hrj;cases hrj
     | succ j =>
      simp only [List.getElem?_cons_succ] at hj;rw [hsh] at hcj hrj ⊢;simp only [envL,hS,if_true];exact e6 j o' hj hcj hrj
    ·simp only [envL]
     rw [if_pos (by rw [hc,hr];rfl)];exact e3
theorem F7 {id:Nat} (A B free fr fd:List Nat) (hm:P.follows .mixedOrders=true) (hf:flowB l l.length=true) (hch:Nb l A B free fr=true) (hfe:fd.all (fun i => !((A++B).contains i) && !(fr.contains i))=true) (h:GDX Γ P l ms K A B free fr fd 0 l L (fun _=>True) (fun _ _ _=>True)):G Γ P (.region id l.toArray true) L ms K:=by
 intro a w m
 refine wpIn_region_draw fun t=>?_;simp only [Region.schedule,hm,Bool.true_or,if_true]
 have hfo:=IM hf
 obtain ⟨ds,FD,R,e1,e0,e2,e4,e6,e5,e3⟩:=JS _ _ _ _ _ trivial h;simp only [Nat.zero_add] at e2 e4 e6
 have hz:∀ j,(Array.replicate l.toArray.size false).getD j false=false:=fun j=>by simp [Array.getD]
 refine Ol (L:=L) (ms:=ms) (fd:=fd) hfo (My hch) ds e1 R ?_ (fun msx hm i o d hfi ho hd=>?_) e5 ?_ e3 l.toArray.size (Array.replicate l.toArray.size false) t a { w with drawn:=w.drawn+1 } (by simp) ?_ ?_ ?_ hz ?_
 ·intro i o d hie hir ho hd
  exact e2 i o d ho hd (AU hie) (AU hir)
 ·have:=List.all_eq_true.1 hfe i (List.contains_iff_mem.1 hfi)
  simp only [Bool.and_eq_true,Bool.not_eq_true'] at this;exact (e4 msx hm).2 i o d ho hd this.1 this.2 hfi
 ·intro i o hir ho
  exact e6 i o ho (AU ((My hch).fre i hir).1) (List.contains_iff_mem.2 hir)
 ·intro j o hj hS
  simp [Array.getD] at hS
 ·intro i _;simp [Array.getD]
 ·have:=List.length_filter_le (fun i => !(Array.replicate l.toArray.size false).getD i false) (List.range l.length)
  simpa using this
 ·obtain ⟨H,marks,hle,hok,henv,hdf⟩:=m.ex
  exact ⟨⟨H,marks,hle,hok.drew _,henv,hdf⟩,m.size,⟨m.same.os,m.same.output,m.same.tape,m.same.size⟩⟩
@[reducible] def pendF (R:Nat->D->Asrt->Prop):List (Nat×Nat)->(Env->List Asrt->Prop)->Prop
 | [],k=>k [] []
 | (i,t)::r,k=>∀ d As,R i d As->pendF R r (fun E Z=>k ((t,d)::E) (As::Z))
theorem MG {R:Nat->D->Asrt->Prop}:∀ {fs:List (Nat×Nat)} {k:Env->List Asrt->Prop},pendF R fs k->∀ ρ:Nat->D×Asrt,(∀ p∈fs,R p.1 (ρ p.1).1 (ρ p.1).2)->k (fs.map fun p=>(p.2,(ρ p.1).1)) (fs.map fun p=>(ρ p.1).2)
 | [],k,h,ρ,_=>h
 | (i,t)::r,k,h,ρ,hρ=>MG (fs:=r) (h (ρ i).1 (ρ i).2 (hρ (i,t) (by simp))) ρ fun j hj=>hρ j (by simp [hj])
theorem I0 {ops:List Oper} {FD:List Asrt->Prop} {R:Nat->D->Asrt->Prop} {fr B:List Nat} {E:Env} {msx:List Asrt} (fs:List (Nat×Nat)) (hfs:fr.map (fun i=>(i,dstN ops i))=fs) (h:pendF R fs (fun E' As=>FD (As++msx)/\GDE2 Γ P ops K FD L B (E'++E) (As++msx))):GF Γ P ops K FD L R fr B [] E msx:=by
 intro ρ hρ
 have hft:fr.filter allT=fr:=List.filter_eq_self.2 fun i _=>rfl
 subst hfs
 have:=MG h ρ (fun p hp=>by
  obtain ⟨i,hi,rfl⟩:=List.mem_map.1 hp;exact hρ i hi)
 rw [List.map_map,List.map_map] at this;unfold fenv fown;rw [hft];exact this
theorem Bb {ops r:List Oper} {A B free fr fd:List Nat} {R:Nat->D->Asrt->Prop} {acc:List Asrt->Prop} {n:Nat} {o:Oper} {d:D} {i:Nat} {msi:List Asrt} (hc:((A++B).contains n||fr.contains n)=false) (hnf:fd.contains n=false) (hms:(if free.contains n then [] else ms)=msi) (hg:o.guard=none) (hd:o.dst=some i) (hi:Nat.blt i Γ.N=true) (h:OpP P o (Env.only (Ah ops o) L) msi d) (k:GDX Γ P ops ms K A B free fr fd (n+1) r ((i,d)::L) acc R):GDX Γ P ops ms K A B free fr fd n (o::r) L acc R:=by
 obtain ⟨hc1,hc2⟩:=Bool.or_eq_false_iff.1 hc;unfold GDX;rw [if_neg (by rw [hc1];simp),if_neg (by rw [hc2];simp),hnf];simp only [Bool.not_false,Bool.and_true,Bool.false_eq_true,if_false];rw [hms];refine ⟨d,by simp only [dstOk,hd];exact hi,by simp only [Step,hg];exact h,?_⟩;simp only [ext,hd];exact k
theorem Er {ops r:List Oper} {A B free fr fd:List Nat} {R:Nat->D->Asrt->Prop} {acc:List Asrt->Prop} {n:Nat} {o:Oper} (hc:(A++B).contains n=true) (k:GDX Γ P ops ms K A B free fr fd (n+1) r L acc R):GDX Γ P ops ms K A B free fr fd n (o::r) L acc R:=by
 unfold GDX;rw [if_pos hc];exact k
theorem D4 {ops r:List Oper} {A B free fr fd:List Nat} {R:Nat->D->Asrt->Prop} {R0:D->Asrt->Prop} {acc:List Asrt->Prop} {n t:Nat} {o:Oper} (hc:(A++B).contains n=false) (hr:fr.contains n=true) (hd:o.dst=some t) (hi:Nat.blt t Γ.N=true) (h:OpT P o (Env.only (Ah ops o) L) [] (fun d ms'=>∃ As,R0 d As/\ms'=[As]))
  (k:GDX Γ P ops ms K A B free fr fd (n+1) r L acc (orR n R0 R)):GDX Γ P ops ms K A B free fr fd n (o::r) L acc R:=by
 unfold GDX;rw [if_neg (by rw [hc];simp),if_pos hr];exact ⟨R0,by simp only [dstOk,hd];exact hi,h,k⟩
theorem Hy {ops:List Oper} {A B free fr fd:List Nat} {R:Nat->D->Asrt->Prop} {acc:List Asrt->Prop} {n:Nat} (h:GF Γ P ops K acc L R fr B A [] ms):GDX Γ P ops ms K A B free fr fd n [] L acc R:=h
theorem KC {ops:List Oper} {FD:List Asrt->Prop} {E:Env} {msx:List Asrt} {e i:Nat} {es:List Nat} {o:Oper} {R:D->List Asrt->Prop} {RR:Nat->D->Asrt->Prop} {fr B:List Nat} (ho:ops[e]? = some o) (hg:o.guard=none) (hd:o.dst=some i) (hi:Nat.blt i Γ.N=true) (h:OpT P o (Env.only (Ah ops o) (E++L)) msx R) (k:∀ d ms',R d ms'->FD ms'/\GF Γ P ops K FD L RR fr B es ((i,d)::E) ms'):GF Γ P ops K FD L RR fr B (e::es) E msx:=by
 intro o' ho'
 have:o'=o:=by rw [ho] at ho';exact (Option.some.inj ho').symm
 subst this;refine ⟨by simp only [dstOk,hd];exact hi,?_⟩;unfold GStep;rw [hg];refine ⟨R,h,fun d ms' hR=>?_⟩
 have:=k d ms' hR
 simpa [extE,hd] using this
end
end Go.V
namespace Go.V
section
variable {P:Program} {L:Env} {ms:List Asrt} {dst:Option Nat} {ty:TypeId} {pos:String} {after:Array Edge} {g:Option (Nat×Bool)} {x y:Operand} {t:TypeId}
theorem E8 {e:TypeId} {sz:Nat} {z:Value} {xs:List Operand} {α:Type} {f:α->D} {l:List α} (hu:∀ w,(underlying t).run P w = .ok (.slice e) w) (hs:∀ w,(sizeOf e).run P w = .ok sz w) (hz:∀ w,(zeroValue e).run P w = .ok z w) (hzs:z.cells.size=sz) (hsz:Nat.blt 0 sz=true)
  (hev:evL L xs=some (l.map f)) (hst:∀ x,(f x).storable=true/\(f x).cs.length=sz/\flat (f x).cs=true) (hlen:Nat.ble (xs.length*sz) 16777216=true) (hll:l.length<=maxLen) :
  OpT P ⟨dst,.buildSlice t xs.length (enumO 0 xs).toArray,ty,pos,after,g⟩ L ms (fun d' ms'=>∃ a m cap,d' = .v (.slice a m cap)/\ms'=arr a m cap e sz f l::ms):=by
 refine .val (by simp) fun H fr a w hok henv=>?_
 have hlen:=nB hlen
 obtain ⟨us,h1,h2⟩:=Gc (dst:=dst) (ty:=ty) (pos:=pos) (after:=after) (g:=g) (w:=w) hu hs hz hzs hsz henv hev hst hlen
 have hp:=hok.own (o := .cells us.toArray e) (A:=arr (some ⟨w.heap.size,0,none⟩) l.length l.length e sz f l) rfl ?_
 ·exact ⟨_,_,_,_,H,h1,⟨_,_,_,rfl,rfl⟩,PH.le_refl H,hp,conc_v.2 rfl,Bd _ _⟩
 ·exact ⟨rfl,Nat.le_refl _,hll,.inr ⟨w.heap.size,us,us,rfl,AK _ _,h2.1,h2,by rw [<- h2.1];exact List.take_length,fun o=>hok.none_new _ _ (Nat.le_refl _)⟩⟩
theorem GA {hi:Operand} {ik:IntKind} {n:Int} {a:Option Addr} {m cap sz:Nat} {e:TypeId} {α:Type} {f:α->D} {l r:List α} (k:Nat) (hu:∀ w,(underlying t).run P w = .ok (.slice e) w) (hs:∀ w,(sizeOf e).run P w = .ok sz w) (hx:Env.ev L x=some (.v (.slice a m cap))) (hk:ms[k]? = some (arr a m cap e sz f l))
  (hhi:Env.ev L hi=some (.v (.int ik n))) (h:sli l 0 n=some r) :
  OpT P ⟨dst,.slice t x none (some hi) none,ty,pos,after,g⟩ L ms (fun d' ms'=>∃ a' m' cap',d' = .v (.slice a' m' cap')/\ms'=ms.set k (arr a' m' cap' e sz f r)):=by
 obtain ⟨_,h0,h1,hr⟩:=N4 h;simp only [Int.toNat_zero,List.drop_zero] at hr;subst hr;refine .val (by simp) fun H fr act w hok henv=>?_
 have hok1:=hok.perm (BW hk)
 obtain ⟨r0,r1,r2,r3⟩:=hok1.ok _ (List.mem_cons_self ..);subst r0
 have hml:n.toNat<=l.length:=by omega
 have hb:=IV (P:=P) (isS:=true) (w:=w) (len:=l.length) (cap:=cap) (l:=0) (h:=n.toNat) (lo:=none) (hi:=some (.int ik n)) rfl ⟨ik,by rw [Int.toNat_of_nonneg h0]⟩ (Nat.zero_le _) (by omega) (by omega)
 have hrl:(l.take n.toNat).length=n.toNat:=by simp;omega
 have key:(if cap=0 then a else a.map (·.add (0*sz)))=a:=by
  split
  ·rfl
  ·cases a with
   | none=>rfl
   | some q=>simp [Rg]
 refine ⟨.slice (if cap=0 then a else a.map (·.add (0*sz))) (n.toNat - 0) (cap - 0),.v (.slice a n.toNat cap),ms.set k (arr a n.toNat cap e sz f (l.take n.toNat)),w,H,?_,⟨_,_,_,rfl,rfl⟩,PH.le_refl H,?_,conc_v.2 (by rw [key];simp),SameOut.refl w⟩
 ·simp [execOp,Instr.sliceAt,Instr.slice,Be henv hx,Be henv hhi,hu,Sem.run,hb,hs]
 ·refine HeapOk.perm (A4 hk) ?_
  refine hok1.upd (A':=arr a n.toNat cap e sz f (l.take n.toNat)) rfl (Nat.le_refl _) (fun _ _ _=>rfl) (fun _ _ _ _=>rfl) (PH.le_refl H) (fun b o v _ hv=>hok1.sub b o v hv) ⟨hrl,by rw [hrl];omega,r2,?_⟩
  rcases r3 with ⟨h1,h2,h3⟩ | ⟨b,vs,us,ha,hbk,hl,he,ht,hn⟩
  ·exact .inl ⟨h1,by rw [h2];simp,h3⟩
  ·refine .inr ⟨b,vs,us.take (n.toNat*sz),ha,hbk,hl,⟨?_,fun i z hz=>?_⟩,?_,hn⟩
   ·have h5:=he.1
    have:n.toNat*sz<=l.length*sz:=Nat.mul_le_mul_right _ hml
    rw [List.length_take,hrl,h5];omega
   ·rw [List.getElem?_take] at hz
    split at hz
    ·rename_i hin
     obtain ⟨ws,c1,c2,c3⟩:=he.2 i z hz;refine ⟨ws,c1,c2,fun q u hq=>?_⟩
     have hql:=(List.getElem?_eq_some_iff.1 hq).1
     have:i*sz+sz<=n.toNat*sz:=by
      calc i*sz+sz=(i+1)*sz:=by rw [Nat.add_mul];omega
       _<=n.toNat*sz:=Nat.mul_le_mul_right _ hin
     rw [List.getElem?_take,if_pos (by omega)];exact c3 q u hq
    ·cases hz
   ·rw [hrl,<- ht,List.take_take]
    congr 1
    have:n.toNat*sz<=l.length*sz:=Nat.mul_le_mul_right _ hml
    omega
theorem G8 {α:Type} {l:List α} {i:Int} {x:α} (h:idx l i=some x):∃ x,idx l i=some x:=⟨x,h⟩
theorem Dt {α:Type} {l:List α} {i:Int} {n:Nat} {v:α} (h:∃ x,idx l i=some x):∃ x,idx (l.set n v) i=some x:=by
 obtain ⟨x,h⟩:=h;obtain ⟨h0,h1⟩:=Am h
 have hlt:=(List.getElem?_eq_some_iff.1 h1).1
 exact ⟨(l.set n v)[i.toNat]'(by simpa using hlt),by unfold idx;rw [if_pos h0];simp [hlt]⟩
theorem E3 {α:Type} {sz:Nat} {f:α->D} {l:List α} {e:TypeId} {ik:IntKind} {a:Option Addr} {m cap:Nat} {n:Int} (k:Nat) (hu:∀ w,(underlying t).run P w = .ok (.slice e) w) (hs:∀ w,(sizeOf e).run P w = .ok sz w) (hx:Env.ev L x=some (.v (.slice a m cap))) (hk:ms[k]? = some (arr a m cap e sz f l))
  (hy:Env.ev L y=some (.v (.int ik n))) (h:∃ z,idx l n=some z):OpP P ⟨dst,.indexAddr t x y,ty,pos,after,g⟩ L ms (.v (.pointer (apt a (n.toNat*sz)))):=by
 obtain ⟨z,h⟩:=h;exact Ap k hu hs hx hk hy h
end
end Go.V
namespace Go.V
def FnT (P:Program) (f:FuncId) (args:List D) (tl:List Asrt) (d:D):Prop:=Fn P f args tl (fun d' ms'=>d'=d/\ms'=tl)
def Nc (P:Program) (fv:D) {α β:Type} (e:α->D) (r:β->D) (tl:List Asrt) (p:α->Option β):Prop:=∀ x y,p x=some y->FV P fv [e x] tl (fun d ms'=>d=r y/\ms'=tl)
section
variable {P:Program} {L:Env} {ms:List Asrt} {dst:Option Nat} {ty:TypeId} {pos:String} {after:Array Edge} {g:Option (Nat×Bool)} {d d':D} {x y z:Operand} {t t':TypeId} {R:D->List Asrt->Prop}
theorem K7 {fv d:D} {ds:List D} (hf:FV P fv ds [] (fun d' _=>d'=d)):FV P fv ds [] (fun d' ms'=>d'=d/\ms'=[]):=by
 intro H fr w v vs hok hv hargs
 obtain ⟨fn,first,caps,e,h1⟩:=hf H fr w v vs hok hv hargs;refine ⟨fn,first,caps,e,?_⟩
 rcases h1 with ⟨f,e1,e2,e3⟩ | ⟨l,g',tmps,as,b,e1,e2,e3⟩
 ·refine .inl ⟨f,e1,e2,e3.mono ?_⟩
  rintro e w' ⟨v,d',ms',H',he,hd,hle,hok',hc,hs⟩;exact ⟨v,d',[],H',he,⟨hd,rfl⟩,hle,by simpa using hok'.drop,hc,hs⟩
 ·refine .inr ⟨l,g',tmps,as,b,e1,e2,RoundIn.mono e3 ?_⟩
  rintro e w' ⟨v,d',ms',H',he,hd,hle,hok',hc,hs⟩;exact ⟨v,d',[],H',he,⟨hd,rfl⟩,hle,by simpa using hok'.drop,hc,hs⟩
theorem Zq {args:List Operand} {ats:Array TypeId} {ds:List D} {fv:D} {tl:List Asrt} (own:List Asrt) (hms:ms=own++tl) (hx:Env.ev L x=some fv) (hev:evL L args=some ds) (hf:FV P fv ds tl (fun d' ms'=>d'=d/\ms'=tl)) :
  OpP P ⟨dst,.call ⟨.value x,args.toArray,ats⟩,ty,pos,after,g⟩ L ms d:=by
 subst hms
 have:=KI (P:=P) (L:=L) (ms:=own++tl) (dst:=dst) (ty:=ty) (pos:=pos) (after:=after) (g:=g) (ats:=ats) (ms₁:=tl) (rest:=own) hx hev List.perm_append_comm hf
 intro ro H fr a w hok henv next Q hn
 refine this ro H fr a w hok henv next Q ?_;rintro v d' ms' w' H' ⟨ms₁',⟨rfl,rfl⟩,rfl⟩ hle hok' hc' hs;exact hn v d' _ w' H' ⟨rfl,rfl⟩ hle (hok'.perm (List.perm_append_comm.append_right fr)) hc' hs
theorem MY:∀ (ks:List Nat) (As:List Asrt) {ms:List Asrt},getL ms ks As->putL ms ks As=ms
 | [],[],_,_=>rfl
 | k::ks,A::As,ms,⟨h1,h2⟩=>by
  have e:ms.set k A=ms:=by
   apply List.ext_getElem?
   intro j
   rw [List.getElem?_set]
   split
   ·rename_i hj
    subst hj
    split
    ·rw [h1]
    ·rename_i hlt;rw [List.getElem?_eq_none (by omega)]
   ·rfl
  show putL (ms.set k A) ks As=ms
  rw [e];exact MY ks As h2
 | [],_::_,_,h=>h.elim
 | _::_,[],_,h=>h.elim
theorem Gd {f:FuncId} {args:List Operand} {ats:Array TypeId} {ds:List D} {As:List Asrt} (ks:List Nat) (hc:∀ args w,(callFunc f args).run P w = .ok (.enter f args) w) (hev:evL L args=some ds) (hb:ownB ks [] ms.length=true) (hg:getL ms ks As) (hf:FnT P f ds As d) :
  OpP P ⟨dst,.call ⟨.value (.func f),args.toArray,ats⟩,ty,pos,after,g⟩ L ms d:=by
 obtain ⟨g1,_⟩:=KN ks As hg
 have:=C1 (P:=P) (L:=L) (ms:=ms) (dst:=dst) (ty:=ty) (pos:=pos) (after:=after) (g:=g) (ats:=ats) ks hc hev hb hg hf (by rintro d ms' ⟨_,rfl⟩;exact g1)
 intro ro H fr a w hok henv next Q hn
 refine this ro H fr a w hok henv next Q ?_;rintro v d' ms' w' H' ⟨ms₁,⟨rfl,rfl⟩,rfl⟩ hle hok' hc' hs;rw [MY ks ms₁ hg] at hok';exact hn v d' _ w' H' ⟨rfl,rfl⟩ hle hok' hc' hs
end
section
variable {P:Program} {L:Env} {ms:List Asrt}
theorem DN {b:Nat} {T:TypeId} {cs:List D} {d:D} (k i:Nat) (hk:ms[k]? = some (box b T cs)) (hi:Env.find L i=some (.v (.pointer (some ⟨b,0,none⟩)))) (hd:(match d with | .agg cs=>cs | d=>[d])=cs) {ms':List Asrt} (hms:ms.eraseIdx k=ms'):Refines L ms ((i,.ref d)::L) ms':=by
 subst hms
 intro Γ act w mm
 obtain ⟨H,marks,hle,hok,henv,hdf⟩:=mm.ex
 have hok1:=hok.perm (BW hk)
 obtain ⟨vs,hb,he,hn⟩:=hok1.ok _ (List.mem_cons_self ..)
 let H':PH:=fun b' o=>if b'=b then vs[o]? else H b' o
 have hle':PH.le H H':=by
  intro b' o v hv
  show (if b'=b then vs[o]? else H b' o)=some v
  by_cases hb':b'=b
  ·subst hb';rw [hn] at hv;cases hv
  ·rw [if_neg hb'];exact hv
 have hnd:=hok1.nodup
 simp only [List.flatMap_cons] at hnd
 have hdisj:=(List.nodup_append.1 hnd).2.2
 have hup:HeapOk H' (ms.eraseIdx k++(marks.map markA++Γ.fr)) w:=by
  refine ⟨fun b' o v hv=>?_,hok1.tail.nodup,hok1.tail.lt,fun A hA=>?_⟩
  ·have hv:(if b'=b then vs[o]? else H b' o)=some v:=hv
   by_cases hbb:b'=b
   ·subst hbb
    rw [if_pos rfl] at hv
    simp [World.cell?,hb,hv]
   ·rw [if_neg hbb] at hv;exact hok1.sub b' o v hv
  ·refine A.stable H H' (fun b=>w.heap[b]?) (fun b=>w.heap[b]?) (fun b' hb'=>⟨fun o=>?_,rfl⟩) hle' (hok1.tail.ok A hA)
   have hne:b'≠b:=fun e=>hdisj b (by simp [box]) b' (List.mem_flatMap.2 ⟨A,hA,hb'⟩) e.symm
   show (if b'=b then vs[o]? else H b' o)=H b' o
   rw [if_neg hne]
 refine ⟨⟨H',marks,PH.le_trans hle hle',hup,?_,hdf⟩,mm.size,mm.same⟩
 intro s d' hs
 simp only [Env.find] at hs
 cases hq:Nat.beq i s with
 | false=>rw [hq] at hs;exact (henv.mono hle') s d' hs
 | true =>
  rw [hq] at hs;simp only [Option.some.injEq] at hs;subst hs
  have his:=Nat.eq_of_beq_eq_true hq
  subst his
  have hv:=conc_v.1 (henv i _ hi)
  rw [hv,AT (by rfl)];simp only [Enc];refine ⟨b,0,vs,rfl,?_,fun q u hq=>?_⟩
  ·have he':=EncL.mono hle' cs vs he
   subst hd
   cases d with
   | agg cs=>simpa [Enc] using he'
   | _ =>
    simp only [EncL] at he';obtain ⟨a,r,rfl,h1,rfl⟩:=he'
    simpa using h1
  ·show (if b=b then vs[0+q]? else H b (0+q))=some u
   rw [if_pos rfl,Nat.zero_add];exact hq
end
end Go.V
namespace Go.V
open Go.Sort
theorem KH {H:PH} {l:List Int} {us:List Value} (e:ListEnc H D.i64 1 l us):us=l.map (Value.int .i64):=by
 apply List.ext_getElem?
 intro j
 rw [List.getElem?_map]
 cases hq:l[j]? with
 | none =>
  have hj:l.length<=j:=List.getElem?_eq_none_iff.1 hq
  rw [List.getElem?_eq_none (by rw [e.1];omega)];rfl
 | some x =>
  obtain ⟨ws,h1,h2,h3⟩:=e.2 j x hq;simp only [Enc] at h1;subst h1
  have:=h3 0 _ rfl
  rw [Nat.mul_one,Nat.add_zero] at this;rw [this];rfl
theorem Ry {H:PH} (l:List Int):ListEnc H D.i64 1 l (l.map (Value.int .i64)):=by
 refine ⟨by simp,fun i x hi=>⟨[.int .i64 x],by simp [Enc],rfl,fun k u hk=>?_⟩⟩
 have hk0:k=0:=by have:=(List.getElem?_eq_some_iff.1 hk).1;simp at this;omega
 subst hk0;simp only [List.getElem?_cons_zero,Option.some.injEq] at hk;subst hk;rw [Nat.mul_one,Nat.add_zero,List.getElem?_map,hi];rfl
theorem KO {H:PH} {fr:List Asrt} {w:World} {b m cap n:Nat} {T:TypeId} {l r:List Int} {d:Array Int} {os:Array Obj} (hok:HeapOk H (arr (some ⟨b,0,none⟩) m cap T 1 D.i64 l::fr) w) {vs:List Value} (hb:w.heap[b]? = some (.cells vs.toArray T (0,0))) (hl:vs.length=cap*1)
  (hd:d.size=l.length) (hr:d.toList.take r.length=r) (hrl:r.length<=l.length) :
  HeapOk H (arr (some ⟨b,0,none⟩) r.length cap T 1 D.i64 r::fr) (grow (putRow (Value.int .i64) (Sort.ahead w n) b 0 d) os)/\SameOut w (grow (putRow (Value.int .i64) (Sort.ahead w n) b 0 d) os):=by
 obtain ⟨r0,r1,r2,r3⟩:=hok.ok _ (List.mem_cons_self ..)
 have hn:∀ o,H b o=none:=by
  rcases r3 with ⟨h,_⟩ | ⟨b',_,_,h,_,_,_,_,h2⟩
  ·cases h
  ·cases h;exact h2
 have hg:w.grownBy (grow (putRow (Value.int .i64) (Sort.ahead w n) b 0 d) os) (some b):=grownBy_sortedI d
 have hh:=heap_sortedI (w:=w) (g:=b) (n:=n) (os:=os) (cur:=vs.toArray) (e:=T) (fr:=(0,0)) d hb
 obtain ⟨g1,g2,g3,g4,g5⟩:=hg;refine ⟨hok.upd rfl g4 (fun b' hb' hne=>g5 b' hb' (fun e=>hne (by simp at e;simp [arr,e]))) (fun _ _ _ _=>rfl) (PH.le_refl H) (fun b' o v hor hv=>?_) ⟨rfl,by omega,r2,.inr ⟨b,(putCells (Value.int .i64) 0 d vs.toArray).toList,r.map (Value.int .i64),rfl,by simpa using hh,by simp [putCells,hl],Ry r,?_,hn⟩⟩,⟨g1,g3,g2,g4⟩⟩
 ·rcases hor with h | h
  ·simp only [arr,List.mem_singleton] at h
   subst h;rw [hn] at hv;cases hv
  ·rw [hok.none_new _ _ h] at hv;cases hv
 ·rw [Nat.mul_one]
  apply List.ext_getElem?
  intro j
  by_cases hj:j<r.length
  ·have h1:r[j]? = d[j]? := by rw [<- hr,List.getElem?_take_of_lt hj,Array.getElem?_toList]
   have hjd:j<d.size:=by omega
   rw [List.getElem?_take_of_lt hj,Array.getElem?_toList,List.getElem?_map,h1]
   have hjv:j<vs.length:=by omega
   simp [putCells,hjd,hjv]
  ·rw [List.getElem?_take_eq_none (by omega),List.getElem?_eq_none (by simp;omega)]
section
variable {P:Program} {f:FuncId} {T:TypeId}
theorem Or (hS:∀ (blk off cap:Nat) (zs:List Int) (w:World),Holds (Value.int .i64) w blk off zs.toArray->blk<w.heap.size->zs.length<4611686018427387904 ->
      Calls P f #[.slice (some ⟨blk,off,none⟩) zs.length cap] w fun e w'=>e = .returned (.tuple #[])/\∃ n os,w'=grow (putRow (Value.int .i64) (Sort.ahead w n) blk off (zs.mergeSort fun x y=>decide (x<=y)).toArray) os)
    (h0:∀ (p:Option Addr) (cap:Nat) (w:World),Calls P f #[.slice p 0 cap] w fun e w'=>e = .returned (.tuple #[])/\w'=w)
    {a:Option Addr} {m cap:Nat} {l:List Int} (hl:l.length<4611686018427387904) :
    Fn P f [.v (.slice a m cap)] [arr a m cap T 1 D.i64 l] (fun d ms'=>d = .tup []/\ms'=[arr a m cap T 1 D.i64 (l.mergeSort fun x y=>decide (x<=y))]):=by
  intro H fr w vs hok hargs
  simp only [ConcL] at hargs
  obtain ⟨u,r,rfl,hu,rfl⟩:=hargs
  have hu':=conc_v.1 (show Conc H (.v (.slice a m cap)) u from hu)
  subst hu'
  obtain ⟨r0,r1,r2,r3⟩:=hok.ok _ (List.mem_cons_self ..)
  subst r0
  have ht:Conc H (.tup []) (.tuple #[]):=⟨[.tuple #[]],by simp [Enc,ConcL],rfl⟩
  rcases r3 with ⟨rfl,rfl,rfl⟩ | ⟨b,ws,us,rfl,hb,hwl,he,htk,hn⟩
  · refine (h0 none 0 w).mono ?_
    rintro e w' ⟨rfl,rfl⟩
    exact ⟨_,_,_,H,rfl,⟨rfl,rfl⟩,PH.le_refl H,by simpa using hok,ht,SameOut.refl w'⟩
  · have hus:=KH he
    have hH:Holds (Value.int .i64) w b 0 l.toArray:=holds_of_blockI (cur:=ws.toArray) hb (by rw [<- hus,<- htk,Nat.mul_one])
    have hlt:b<w.heap.size:=(Array.getElem?_eq_some_iff.1 hb).1
    refine (hS b 0 cap l w hH hlt hl).mono ?_
    rintro e w' ⟨rfl,n,os,rfl⟩
    have hp:=KO (n:=n) (os:=os) (r:=l.mergeSort fun x y=>decide (x<=y)) (d:=(l.mergeSort fun x y=>decide (x<=y)).toArray) hok hb hwl (by simp) (List.take_of_length_le (by simp)) (by simp)
    simp only [List.length_mergeSort] at hp
    exact ⟨_,_,_,H,rfl,⟨rfl,rfl⟩,PH.le_refl H,hp.1,ht,hp.2⟩
theorem PD (zs:List Int):(Lib.compact zs).length<=zs.length:=by
 unfold Lib.compact Lib.compactUpTo;rw [List.length_map];exact Nat.le_trans (List.length_filter_le _ _) (by simp)
theorem KY (hS:∀ (blk off cap:Nat) (zs:List Int) (w:World),Holds (Value.int .i64) w blk off zs.toArray->zs.length<=9223372036854775807->zs.length<=cap ->
      Calls P f #[.slice (some ⟨blk,off,none⟩) zs.length cap] w fun e w'=>e = .returned (.slice (some ⟨blk,off,none⟩) (Lib.compact zs).length cap)/\∃ q,w'=putRow (Value.int .i64) (Sort.ahead w q) blk off (Lib.compact zs++List.replicate (zs.length - (Lib.compact zs).length) 0).toArray)
    (h0:∀ (p:Option Addr) (cap:Nat) (w:World),Calls P f #[.slice p 0 cap] w fun e w'=>e = .returned (.slice p 0 cap)/\w'=w)
    {a:Option Addr} {m cap:Nat} {l:List Int} :
    Fn P f [.v (.slice a m cap)] [arr a m cap T 1 D.i64 l] (fun d ms'=>∃ m',d = .v (.slice a m' cap)/\ms'=[arr a m' cap T 1 D.i64 (Lib.compact l)]):=by
  intro H fr w vs hok hargs
  simp only [ConcL] at hargs
  obtain ⟨u,r,rfl,hu,rfl⟩:=hargs
  have hu':=conc_v.1 (show Conc H (.v (.slice a m cap)) u from hu)
  subst hu'
  obtain ⟨r0,r1,r2,r3⟩:=hok.ok _ (List.mem_cons_self ..)
  subst r0
  rcases r3 with ⟨rfl,rfl,rfl⟩ | ⟨b,ws,us,rfl,hb,hwl,he,htk,hn⟩
  · refine (h0 none 0 w).mono ?_
    rintro e w' ⟨rfl,rfl⟩
    exact ⟨_,_,_,H,rfl,⟨0,rfl,rfl⟩,PH.le_refl H,(show HeapOk H (arr none 0 0 T 1 D.i64 []::fr) w' from hok),conc_v.2 rfl,SameOut.refl w'⟩
  · have hus:=KH he
    have hH:Holds (Value.int .i64) w b 0 l.toArray:=holds_of_blockI (cur:=ws.toArray) hb (by rw [<- hus,<- htk,Nat.mul_one])
    refine (hS b 0 cap l w hH (by simp only [maxLen] at r2;omega) r1).mono ?_
    rintro e w' ⟨rfl,n,rfl⟩
    have hc:=PD l
    have hp:=KO (n:=n) (os := #[]) (r:=Lib.compact l) (d:=(Lib.compact l++List.replicate (l.length - (Lib.compact l).length) 0).toArray) hok hb hwl (by simp;omega) (by simp) hc
    rw [grow_empty] at hp
    exact ⟨_,_,_,H,rfl,⟨_,rfl,rfl⟩,PH.le_refl H,hp.1,conc_v.2 rfl,hp.2⟩
end
end Go.V
namespace Go.V
open Go.Conc (solo rcase scase)
section
variable {P:Program} {L:Env} {ms:List Asrt} {dst:Option Nat} {ty:TypeId} {pos:String} {after:Array Edge} {g:Option (Nat×Bool)} {d:D} {x y:Operand} {t e:TypeId} {α:Type} {f:α->D} {c cap:Nat} {l:List α}
def SelT (P:Program) (o:Oper) (L:Env) (ms:List Asrt) (R:D->List Asrt->Prop):Prop:=
 ∀ (ro:Option Nat) (H:PH) (fr:List Asrt) (a:Act) (w:World),HeapOk H (ms++fr) w->EnvOk H L a.tmps ->
  ∃ v d ms' w' H',R d ms'/\PH.le H H'/\HeapOk H' (ms'++fr) w'/\Conc H' d v/\SameOut w w' /\
   ∀ (b:Frame) (ops:Array Oper) (rest:List Nat) (k:List Item) (cs:List Frame),b.roundOf=ro->ops[0]? = some o ->
    step P (lone (b.atR a (.inRegion ops (0::rest)::k)) cs w) = .next (lone (b.atR (a.put o.dst v) (.inRegion ops rest::k)) cs w')
theorem LN {H:PH} {ds:List D} {us:List Value} (h:ConcL H ds us):Conc H (.tup ds) (.tuple us.toArray):=⟨[.tuple us.toArray],by simp only [Enc];exact ⟨us,rfl,h⟩,by simp [D.val]⟩
theorem E7 {H:PH} {d:D} {ds:List D} {u:Value} {us:List Value} (h:Conc H d u) (hs:ConcL H ds us):ConcL H (d::ds) (u::us):=by
 simp only [ConcL];exact ⟨u,us,rfl,h,hs⟩
theorem JV {H:PH}:ConcL H [] []:=by simp [ConcL]
theorem SelT.mono {o:Oper} {R R':D->List Asrt->Prop} (h:SelT P o L ms R) (hr:∀ d ms',R d ms'->R' d ms'):SelT P o L ms R':=by
 intro ro H fr a w hok henv
 obtain ⟨v,d,ms',w',H',hR,rest⟩:=h ro H fr a w hok henv;exact ⟨v,d,ms',w',H',hr _ _ hR,rest⟩
end
end Go.V
