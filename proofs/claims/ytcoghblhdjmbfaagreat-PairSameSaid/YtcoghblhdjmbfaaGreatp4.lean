/- Part 4 of the proof: a program logic, what the functions compute, and what these answer; no condition. -/
import Derived.Test.YtcoghblhdjmbfaaGreatp3
import Derived.Shelf.SlicesE.DeleteFunc
import Derived.Below
import Derived.Lib.ItoaNum
import Derived.Lib.Join
set_option linter.unusedVariables false
set_option linter.unusedSimpArgs false
namespace Go.V
open Go.Sort Go.Proofs
theorem QX {P:Program} {t kt et:TypeId} {α:Type} [DecidableEq α] {fk:α->Value} {H:PH} {mb clock:Nat} {es:Array MapEntry} {l:List (α×Bool)} {w:World} (key:α) (hu:∀ w,(underlying t).run P w = .ok (.map kt et) w) (hk:KeyOk P kt fk) (hz:∀ w,(zeroValue et).run P w = .ok (.bool false) w)
  (h1:w.heap[mb]? = some (.map es clock)) (h2:MapOk fk D.bool H l es.toList):(Instr.lookup t (.map (some mb)) (fk key) false).run P w = .ok (.bool ((mget l key).getD false)) w:=by
 have hf:=It (w:=w) hk key h2
 cases hg:mget l key with
 | none =>
  rw [hg] at hf
  simp only at hf
  simp [Instr.lookup,hu,getObj,h1,Sem.run_bind,hk.ck,hf.1,hz,Sem.run]
 | some b' =>
  rw [hg] at hf
  simp only at hf
  obtain ⟨j,e,q1,_,_,q4,_⟩:=hf
  have hv:=conc_v.1 q4
  simp [Instr.lookup,hu,getObj,h1,Sem.run_bind,hk.ck,q1,hz,Sem.run,hv]
theorem SK {P:Program} {f g:Nat} {T:TypeId} (eg:∀ args w,(callFunc g args).run P w = .ok (.enter g args) w)
  (hS:∀ (lb:Array Value) (p:Int->Bool) (blk off cap:Nat) (d:Array Int) (w:World),PredAt P g lb (Value.int .i64) p w->PredOver P g lb (Value.int .i64) p blk off d.size w->Holds (Value.int .i64) w blk off d->d.size<=9223372036854775807->d.size<=cap ->
   Calls P f #[.slice (some ⟨blk,off,none⟩) d.size cap,.func (.func g) #[] lb] w fun e w'=>e = .returned (.slice (some ⟨blk,off,none⟩) (d.toList.filter fun x => !p x).length cap)/\∃ q,w'=putRow (Value.int .i64) (Sort.ahead w q) blk off ((d.toList.filter fun x => !p x)++List.replicate (d.size - (d.toList.filter fun x => !p x).length) 0).toArray)
  (h0:∀ (a:Option Addr) (cap:Nat) (fv:Value) (w:World),Calls P f #[.slice a 0 cap,fv] w fun e w'=>e = .returned (.slice a 0 cap)/\w'=w)
  (hc:∀ (x:Int) (pb po mb clock:Nat) (es:Array MapEntry) (H:PH) (mm:List (Int×Bool)) (W:World),W.cell? ⟨pb,po,none⟩=some (.map (some mb))->W.heap[mb]? = some (.map es clock)->MapOk kI64 D.bool H mm es.toList->FnGives P g #[.pointer (some ⟨pb,po,none⟩)] #[.int .i64 x] (.bool ((mget mm x).getD false)) W)
  {a:Option Addr} {m cap mb:Nat} {l:List Int} {mm:List (Int×Bool)} :
  Fn P f [.v (.slice a m cap),.clo (.func g) [] [.ref (.v (.map (some mb)))]] [arr a m cap T 1 D.i64 l,mp mb kI64 D.bool mm] (fun d ms'=>∃ m',d = .v (.slice a m' cap)/\ms'=[arr a m' cap T 1 D.i64 (l.filter fun x => !(mget mm x).getD false),mp mb kI64 D.bool mm]):=by
 intro H fr w vs hok hargs
 simp only [ConcL] at hargs;obtain ⟨u,r,rfl,hu,u2,r2,rfl,hu2,rfl⟩:=hargs
 have hu':=conc_v.1 (show Conc H (.v (.slice a m cap)) u from hu)
 subst hu'
 have hu2:=(Ba (by rfl)).1 (show Conc H (.clo (.func g) [] [.ref (.v (.map (some mb)))]) u2 from hu2)
 simp only [Enc,ConcL] at hu2;obtain ⟨us,ws,hv,hus,pv,r3,hws,hpv,hr3⟩:=hu2;subst hus hws hr3
 have hpv:=(Ba (by rfl)).1 (show Conc H (.ref (.v (.map (some mb)))) pv from hpv)
 simp only [Enc] at hpv;obtain ⟨pb,po,cs,hpv,hcs,hcell⟩:=hpv;subst hcs
 have hpv:pv = .pointer (some ⟨pb,po,none⟩):=by simpa using hpv
 subst hpv
 have hv:u2 = .func (.func g) #[] #[.pointer (some ⟨pb,po,none⟩)]:=by simpa using hv
 subst hv
 have hHc:H pb po=some (.map (some mb)):=by have:=hcell 0 _ rfl;rwa [Nat.add_zero] at this
 have hwc:=hok.sub _ _ _ hHc
 obtain ⟨r0,r1,r2,r3⟩:=hok.ok (arr a m cap T 1 D.i64 l) (by simp);obtain ⟨⟨es,clock,hmb,hmo,_⟩,hmn⟩:=hok.ok (mp mb kI64 D.bool mm) (by simp)
 have hmb:w.heap[mb]? = some (.map es clock):=hmb
 have hmlt:mb<w.heap.size:=hok.lt (mp mb kI64 D.bool mm) (by simp) mb (by simp [mp])
 subst r0
 rcases r3 with ⟨rfl,rfl,rfl⟩ | ⟨b,ws,us,rfl,hb,hwl,he,htk,hn⟩
 ·refine (h0 none 0 _ w).mono ?_
  rintro e w' ⟨rfl,rfl⟩;exact ⟨_,_,_,H,rfl,⟨0,rfl,rfl⟩,PH.le_refl H,(show HeapOk H ([arr none 0 0 T 1 D.i64 [],mp mb kI64 D.bool mm]++fr) w' from hok),conc_v.2 rfl,SameOut.refl w'⟩
 ·have hus:=OG he
  have hH:Holds (Value.int .i64) w b 0 l.toArray:=holds_of_blockI (cur:=ws.toArray) hb (by rw [<- hus,<- htk,Nat.mul_one])
  have hpb:pb≠b:=by intro e;subst e;rw [hn] at hHc;cases hHc
  have hmne:mb≠b:=by
   intro e
   subst e
   have hb':w.heap[mb]? = some (.cells ws.toArray T (0,0)):=hb
   rw [hb'] at hmb
   cases hmb
  have hpl:pb<w.heap.size:=by
   rcases Nat.lt_or_ge pb w.heap.size with h | h
   ·exact h
   ·simp [World.cell?,Array.getElem?_eq_none h] at hwc
  have hb2:b<w.heap.size:=(Array.getElem?_eq_some_iff.1 hb).1
  have hpa:PredAt P g #[.pointer (some ⟨pb,po,none⟩)] (Value.int .i64) (fun x=>(mget mm x).getD false) w:=by
   intro W x hB
   exact hc x pb po mb clock es H mm W (by rw [hB.cell hpl];exact hwc) (by rw [hB.block mb hmlt];exact hmb) hmo
  have hpo:PredOver P g #[.pointer (some ⟨pb,po,none⟩)] (Value.int .i64) (fun x=>(mget mm x).getD false) b 0 l.toArray.size w:=by
   intro n os dk x hdk
   have hg:w.grownBy (grow (putRow (Value.int .i64) (Sort.ahead w n) b 0 dk) os) (some b):=grownBy_sortedI dk
   obtain ⟨g1,g2,g3,g4,g5⟩:=hg
   have hold:∀ k,k<w.heap.size->k≠b->(sortWorld (Value.int .i64) w b 0 n dk os).heap[k]? = w.heap[k]? := fun k hk hne=>g5 k hk (fun e=>hne (by simp at e;exact e))
   refine hc x pb po mb clock es H mm _ ?_ (by rw [hold mb hmlt hmne];exact hmb) hmo
   have h1:=hold pb hpl hpb
   rw [<- hwc];exact World.cell?_of_block (w:=w) h1
  have hsz:l.toArray.size=l.length:=by simp
  have hcall:=hS #[.pointer (some ⟨pb,po,none⟩)] (fun x=>(mget mm x).getD false) b 0 cap l.toArray w hpa hpo hH (by rw [hsz];simp only [maxLen] at r2;omega) (by rw [hsz];exact r1)
  rw [hsz] at hcall;refine hcall.mono ?_;rintro e w' ⟨rfl,n,rfl⟩
  have hfl:=List.length_filter_le (fun x => !(mget mm x).getD false) l
  have hp:=Oz (n:=n) (os := #[]) (r:=l.filter fun x => !(mget mm x).getD false) (d:=((l.filter fun x => !(mget mm x).getD false)++List.replicate (l.length - (l.filter fun x => !(mget mm x).getD false).length) 0).toArray) hok hb hwl (by simp;omega) (by simp) hfl
  rw [grow_empty] at hp;exact ⟨_,_,_,H,rfl,⟨_,rfl,rfl⟩,PH.le_refl H,hp.1,conc_v.2 rfl,hp.2⟩
end Go.V
namespace Go.V
section
variable {Γ:Ctx} {P:Program} {L:Env} {ms:List Asrt} {K:KT} {l:List Oper}
def GDC2 (Γ:Ctx) (P:Program) (ops:List Oper) (K:KT) (cut:Nat) (FD:List Asrt->Prop) (L:Env):List Nat->Env->List Asrt->Prop
 | [],E,ms=>K .normal (E++L) ms
 | e::es,E,ms=>∀ o,ops[e]? = some o->dstOk o Γ.N/\GStep P ops o (E++L) ms (fun d ms'=>(cut<=es.length->FD ms')/\GDC2 Γ P ops K cut FD L es (extE o d E) ms') ((cut<=es.length->FD ms)/\GDC2 Γ P ops K cut FD L es (extE o (.v undef) E) ms)
theorem OZ {ef free fd:List Nat} {cut:Nat} {FD:List Asrt->Prop} (hlt:∀ i,fd.contains i=true->∀ e,ef[ef.length - cut]? = some e->∀ S,BR l S->S e=true->S i=true) (hcut:0<cut/\cut<=ef.length) (hf:FlowOk l l.length) (hch:ChainOk l ef free) (ds:List D) (hlen:ds.length=l.length)
    (hstep:∀ (i:Nat) o d,i∉ef->l[i]? = some o->ds[i]? = some d->dstOk o Γ.N/\Step P l o (envL (fun j=>decide (j<i) && !(ef.contains j)) l ds 0 L) (if free.contains i && !(fd.contains i) then [] else ms) d)
    (hfd:∀ msx,FD msx->∀ (i:Nat) o d,fd.contains i=true->l[i]? = some o->ds[i]? = some d->Step P l o (envL (fun j=>decide (j<i) && !(ef.contains j)) l ds 0 L) msx d) (hfd0:FD ms)
    (h2:GDC2 Γ P l K cut FD (envL (fun j => !(ef.contains j)) l ds 0 L) ef [] ms) :
    ∀ (fuel:Nat) (listed:Array Bool) (t:Nat) (a:Act) (w:World),listed.size=l.length->BR l (fun j=>listed.getD j false)->(∀ i,l.length<=i->listed.getD i false=false) ->
      ((List.range l.length).filter (fun i => !listed.getD i false)).length<=fuel ->
      (∃ m E msx,m<=ef.length/\(∀ q e,ef[q]? = some e->(listed.getD e false=true↔q<m))/\GDC2 Γ P l K cut FD (envL (fun j => !(ef.contains j)) l ds 0 L) (ef.drop m) E msx/\(∀ t d,Env.find E t=some d->∃ e o,e∈ef/\listed.getD e false=true/\l[e]? = some o/\o.dst=some t)/\(m=0->msx=ms)/\(cut+m<=ef.length->FD msx) /\
        Models Γ (E++envL (fun j=>listed.getD j false && !(ef.contains j)) l ds 0 L) msx a w) ->
      wpOpsIn (FR Γ.round) 0 P l.toArray (Post Γ K) (Region.linearise.go .any l.toArray fuel t listed []) a w:=by
  refine JS hf (Nat.le_refl _) (fun S a w=>∃ m E msx,m<=ef.length/\(∀ q e,ef[q]? = some e->(S e=true↔q<m))/\GDC2 Γ P l K cut FD (envL (fun j => !(ef.contains j)) l ds 0 L) (ef.drop m) E msx/\(∀ t d,Env.find E t=some d->∃ e o,e∈ef/\S e=true/\l[e]? = some o/\o.dst=some t)/\(m=0->msx=ms)/\(cut+m<=ef.length->FD msx) /\
        Models Γ (E++envL (fun j=>S j && !(ef.contains j)) l ds 0 L) msx a w) ?_ ?_
  rotate_left
  · rintro a w ⟨m,E,msx,hml,hm,h2,hE,_,_,mm⟩
    have hdr:ef.drop m=[]:=by
      rw [List.drop_eq_nil_iff]
      rcases Nat.lt_or_ge m ef.length with h | h
      · have:=(hm m ef[m] (by simp [h])).1 (by simp [hch.lt ef[m] (by simp)])
        omega
      · exact h
    rw [hdr] at h2
    simp only [GDC2] at h2
    have hee:envL (fun j=>decide (j<l.length) && !(ef.contains j)) l ds 0 L=envL (fun q => !(ef.contains q)) l ds 0 L:=by
      have:∀ (l':List Oper) (ds:List D) (k0:Nat) (L:Env),k0+l'.length<=l.length->envL (fun j=>decide (j<l.length) && !(ef.contains j)) l' ds k0 L=envL (fun q => !(ef.contains q)) l' ds k0 L:=by
        intro l'
        induction l' with
        | nil=>intro ds k0 L _;simp [envL]
        | cons o r ih =>
          intro ds k0 L hk
          cases ds with
          | nil=>simp [envL]
          | cons d ds =>
            simp only [List.length_cons] at hk
            have:decide (k0<l.length)=true:=by simp;omega
            simp only [envL,this,Bool.true_and]
            exact ih ds (k0+1) _ (by omega)
      exact this l ds 0 L (by omega)
    rw [hee] at mm
    rw [List.drop_length]
    exact ⟨_,_,h2,mm⟩
  · rintro S i o a w hc hik ho hunl hcs ⟨m,E,msx,hmle,hm,h2',hE,hm0,hFD,mm⟩ next hn
    obtain ⟨H,marks,hle,hok,henv,hdf⟩:=mm.ex
    by_cases hie:i∈ef
    ·
      obtain ⟨q,hq⟩:=List.getElem?_of_mem hie
      have hqm:q=m:=by
        have h3:¬ q<m:=fun h=>by have:=(hm q i hq).2 h;rw [hunl] at this;cases this
        rcases Nat.lt_or_ge m q with h | h
        · have hml:m<ef.length:=Nat.lt_trans h (List.getElem?_eq_some_iff.1 hq).1
          obtain ⟨h4,h5⟩:=hch.chain m q ef[m] i h (by simp [hml]) hq
          have h6:=h5 _ hcs (by simp)
          have hne:¬ ef[m]=i:=by omega
          simp only [hne,decide_false,Bool.or_false] at h6
          have:=(hm m ef[m] (by simp [hml])).1 h6
          omega
        · omega
      subst hqm
      have hdrop:ef.drop q=i::ef.drop (q+1):=by
        obtain ⟨hlt,he⟩:=List.getElem?_eq_some_iff.1 hq
        rw [<- he];exact (List.getElem_cons_drop ..).symm
      rw [hdrop] at h2'
      simp only [GDC2] at h2'
      obtain ⟨hdk,hgs⟩:=h2' o ho
      obtain ⟨o2,ho2,hdst,hlate⟩:=hch.op i hie
      obtain rfl:o2=o:=by rw [ho] at ho2;exact (Option.some.inj ho2).symm
      have hag:∀ s d',s∈Ak l o2->Env.find (E++envL (fun j => !(ef.contains j)) l ds 0 L) s=some d'->Env.find (E++envL (fun j=>S j && !(ef.contains j)) l ds 0 L) s=some d':=by
        intro s d' h3 h4
        rw [AK] at h4 ⊢
        cases hq2:Env.find E s with
        | some d2=>rw [hq2] at h4;exact h4
        | none =>
          rw [hq2] at h4
          simp only at h4 ⊢
          rw [<- h4]
          refine BH l ds 0 L L (fun j o' hj hd'=>?_) rfl
          simp only [Nat.zero_add]
          cases hfj:ef.contains j with
          | true=>simp
          | false =>
            simp only [Bool.not_false,Bool.and_true]
            have hjf:j∉ef:=fun h=>by rw [List.contains_iff_mem.2 h] at hfj;cases hfj
            have hji:j≠i:=fun e=>hjf (e▸hie)
            have hn':=hf.names i o2 j o' s ho hj (fun e=>hji e.symm) hd' (.inl h3)
            rcases Nat.lt_or_gt_of_ne hji with hlt | hgt
            · have h5:=(hn' _ hcs).1 hlt (by simp)
              simpa [hji] using h5
            · exact absurd h3 (hlate j o' s hgt hjf hj hd')
      have hsub:EnvOk H (Env.only (Ak l o2) (E++envL (fun j => !(ef.contains j)) l ds 0 L)) a.tmps:=by
        intro s d' hfnd
        obtain ⟨h3,h4⟩:=Fp hfnd
        exact henv s d' (hag s d' h3 h4)
      have fin:∀ v d ms' w' H',(cut+(q+1)<=ef.length->FD ms')->GDC2 Γ P l K cut FD (envL (fun j => !(ef.contains j)) l ds 0 L) (ef.drop (q+1)) (extE o2 d E) ms'->PH.le H H'->HeapOk H' (ms'++(marks.map markA++Γ.fr)) w'->Conc H' d v->SameOut w w'->next (a.put o2.dst v) w':=by
        intro v d ms' w' H' hFD' hr2 hl hok' hcv hso
        refine hn _ _ ⟨q+1,extE o2 d E,ms',(List.getElem?_eq_some_iff.1 hq).1,fun q' e' he'=>?_,hr2,fun t d2 ht=>?_,fun h=>by omega,hFD',?_⟩
        · by_cases hqq:q'=q
          · subst hqq
            have:e'=i:=by rw [hq] at he';exact (Option.some.inj he').symm
            simp [this]
          · have hne:e'≠i:=by
              intro e
              subst e
              rcases Nat.lt_or_gt_of_ne hqq with h | h
              · have:=(hch.chain q' q e' e' h he' hq).1;omega
              · have:=(hch.chain q q' e' e' h hq he').1;omega
            simp only [hne,decide_false,Bool.or_false]
            rw [hm q' e' he']
            omega
        · unfold extE at ht
          cases hd:o2.dst with
          | none =>
            rw [hd] at ht
            obtain ⟨e,o3,a1,a2,a3,a4⟩:=hE t d2 ht
            exact ⟨e,o3,a1,by simp [a2],a3,a4⟩
          | some t0 =>
            rw [hd] at ht
            simp only [Env.find] at ht
            cases hb:Nat.beq t0 t with
            | true=>exact ⟨i,o2,hie,by simp,ho,by rw [hd,Nat.eq_of_beq_eq_true hb]⟩
            | false =>
              rw [hb] at ht
              obtain ⟨e,o3,a1,a2,a3,a4⟩:=hE t d2 ht
              exact ⟨e,o3,a1,by simp [a2],a3,a4⟩
        · have hpe:envL (fun j=>(S j||decide (j=i)) && !(ef.contains j)) l ds 0 L=envL (fun j=>S j && !(ef.contains j)) l ds 0 L:=by
            congr 1
            funext j
            by_cases hji:j=i
            · subst hji;rw [List.contains_iff_mem.2 hie];simp
            · simp [hji]
          rw [hpe]
          refine ⟨⟨H',marks,PH.le_trans hle hl,hok',?_,by cases o2.dst <;> simpa [Act.put] using hdf⟩,by cases o2.dst <;> simp [Act.put,mm.size],mm.same.trans hso⟩
          unfold extE
          cases hd:o2.dst with
          | none=>exact henv.mono hl
          | some t0 =>
            have hlt:t0<Γ.N:=by simp only [dstOk,hd] at hdk;exact nB hdk
            exact (henv.mono hl).put (by rw [mm.size];exact hlt) hcv
      unfold GStep at hgs
      cases hg:o2.guard with
      | none =>
        rw [hg] at hgs
        simp only at hgs
        obtain ⟨R,hop,hrest⟩:=hgs
        simp only [Region.wanted,hg,if_true]
        refine hop Γ.round H (marks.map markA++Γ.fr) a w hok hsub next _ ?_
        intro v d ms' w' H' hR hl hok' hcv hso
        exact fin v d ms' w' H' (fun hc=>(hrest d ms' hR).1 (by rw [List.length_drop];omega)) (hrest d ms' hR).2 hl hok' hcv hso
      | some qq =>
        obtain ⟨j,want⟩:=qq
        rw [hg] at hgs
        simp only at hgs
        obtain ⟨s,u,h1,h2,h3⟩:=hgs
        have hfnd:=hag s _ (by simp [Ak,hg,h1]) h2
        rcases h3 with ⟨b,hu,h3⟩ | ⟨hu,h4⟩
        · subst hu
          have hy:=D4 (ops:=l.toArray) mm (j:=j) (t:=s) (b:=b) (by simpa using h1) hfnd
          simp only [Region.wanted,hg,hy]
          rcases h3 with ⟨h3,R,hop,hrest⟩ | ⟨h3,h4⟩
          · have hbq:(some b == some want)=true:=by rw [h3];simp
            rw [if_pos hbq]
            refine hop Γ.round H (marks.map markA++Γ.fr) a w hok hsub next _ ?_
            intro v d ms' w' H' hR hl hok' hcv hso
            exact fin v d ms' w' H' (fun hc=>(hrest d ms' hR).1 (by rw [List.length_drop];omega)) (hrest d ms' hR).2 hl hok' hcv hso
          · have hbq:(some b == some want)=false:=by rw [h3];cases want <;> rfl
            rw [if_neg (by rw [hbq];simp)]
            exact ⟨fun _ _=>trivial,fin undef (.v undef) msx w H (fun hc=>h4.1 (by rw [List.length_drop];omega)) h4.2 (PH.le_refl H) hok (conc_v.2 rfl) (SameOut.refl w)⟩
        · subst hu
          have hy:=Dw (ops:=l.toArray) mm (j:=j) (t:=s) (by simpa using h1) hfnd
          simp only [Region.wanted,hg,hy]
          rw [if_neg (by cases want <;> simp)]
          exact ⟨fun _ _=>trivial,fin undef (.v undef) msx w H (fun hc=>h4.1 (by rw [List.length_drop];omega)) h4.2 (PH.le_refl H) hok (conc_v.2 rfl) (SameOut.refl w)⟩
    ·
      obtain ⟨d,hd⟩:∃ d,ds[i]? = some d:=⟨ds[i]'(by omega),by simp⟩
      obtain ⟨hdst,hst⟩:=hstep i o d hie ho hd
      have hnoE:∀ s,s∈Ak l o->Env.find E s=none:=by
        intro s hs
        cases hq:Env.find E s with
        | none=>rfl
        | some d2 =>
          obtain ⟨e,o3,a1,a2,a3,a4⟩:=hE s d2 hq
          obtain ⟨o4,b1,b3,_⟩:=hch.op e a1
          have:o4=o3:=by rw [a3] at b1;exact (Option.some.inj b1).symm
          subst this
          rcases (b3 s a4).2 i o ho hie with h5 | h5
          · exact absurd hs h5
          · have:=h5 S hc a2;rw [hunl] at this;cases this
      have agree:∀ s,s∈Ak l o->Env.find (E++envL (fun j=>S j && !(ef.contains j)) l ds 0 L) s=Env.find (envL (fun j=>decide (j<i) && !(ef.contains j)) l ds 0 L) s:=by
        intro s hsl
        rw [AK,hnoE s hsl]
        refine BH l ds 0 L L (fun j o' hj hd'=>?_) rfl
        simp only [Nat.zero_add]
        cases hfj:ef.contains j with
        | true=>simp
        | false =>
          simp only [Bool.not_false,Bool.and_true]
          by_cases hji:j=i
          · subst hji;rw [hunl];simp
          · have hn':=hf.names i o j o' s ho hj (fun e=>hji e.symm) hd' (.inl hsl)
            by_cases hlt:j<i
            · have h1:=(hn' _ hcs).1 hlt (by simp)
              simp only [hji,decide_false,Bool.or_false] at h1
              rw [h1];simp [hlt]
            · cases hb:S j with
              | true=>have h1:=(hn' _ hc).2 (by omega) hb;rw [hunl] at h1;cases h1
              | false=>simp [hlt]
      have hsub:EnvOk H (Env.only (Ak l o) (envL (fun j=>decide (j<i) && !(ef.contains j)) l ds 0 L)) a.tmps:=by
        intro s d' hfnd
        obtain ⟨h1,h2⟩:=Fp hfnd
        exact henv s d' (by rw [agree s h1];exact h2)
      have hcf:=BJ hie
      have nxt:∀ (v:Value) (w':World) (H':PH),PH.le H H'->HeapOk H' (msx++(marks.map markA++Γ.fr)) w'->Conc H' d v->SameOut w w'->next (a.put o.dst v) w':=by
        intro v w' H' hl hok' hcv hso
        refine hn _ _ ⟨m,E,msx,hmle,fun q e he=>?_,h2',fun t d2 ht=>?_,hm0,hFD,?_⟩
        · have hne:e≠i:=fun h=>hie (h▸List.mem_of_getElem? he)
          simp only [hne,decide_false,Bool.or_false]
          exact hm q e he
        · obtain ⟨e,o3,a1,a2,a3,a4⟩:=hE t d2 ht
          exact ⟨e,o3,a1,by simp [a2],a3,a4⟩
        · refine ⟨⟨H',marks,PH.le_trans hle hl,hok',?_,by cases o.dst <;> simpa [Act.put] using hdf⟩,by cases o.dst <;> simp [Act.put,mm.size],mm.same.trans hso⟩
          intro s d' hfnd
          by_cases hds:o.dst=some s
          · have hno:Env.find E s=none:=by
              cases hq:Env.find E s with
              | none=>rfl
              | some d2 =>
                obtain ⟨e,o3,a1,_,a3,a4⟩:=hE s d2 hq
                obtain ⟨o4,b1,b3,_⟩:=hch.op e a1
                have:o4=o3:=by rw [a3] at b1;exact (Option.some.inj b1).symm
                subst this
                exact absurd hds ((b3 s a4).1 i o ho (fun h=>hie (h▸a1)))
            rw [AK,hno] at hfnd
            have hat:=I0 (S:=fun j=>((S j||decide (j=i)) && !(ef.contains j))) l ds 0 i L o ho hd hds (by simp [hie]) (fun j o' hj hlo hd'=>by
              simp only [Nat.zero_add]
              have hn':=hf.names i o j o' s ho hlo (by omega) hd' (.inr hds)
              cases hb:S j with
              | true=>have h1:=(hn' _ hc).2 hj hb;rw [hunl] at h1;cases h1
              | false => have:¬ j=i:=by omega
                         simp [this])
            rw [hat] at hfnd
            simp only [Option.some.injEq] at hfnd
            subst hfnd
            have hsz:s<a.tmps.size:=by
              have:=hdst
              simp only [dstOk,hds] at this
              have:=nB this
              rw [mm.size];exact this
            simp only [hds,Act.put]
            simpa [Array.getD,hsz] using hcv
          · have hcg:Env.find (E++envL (fun j=>(S j||decide (j=i)) && !(ef.contains j)) l ds 0 L) s=Env.find (E++envL (fun j=>S j && !(ef.contains j)) l ds 0 L) s:=by
              rw [AK,AK]
              rw [BH l ds 0 L L (fun j o' hj hd'=>?_) rfl]
              simp only [Nat.zero_add]
              have:¬ j=i:=fun e=>by subst e;rw [ho] at hj;simp only [Option.some.injEq] at hj;subst hj;exact hds hd'
              simp [this]
            rw [hcg] at hfnd
            have h1:=(henv s d' hfnd).mono hl
            have h2:(a.put o.dst v).tmps.getD s undef=a.tmps.getD s undef:=by
              cases hod:o.dst with
              | none=>rfl
              | some q =>
                have hq:q≠s:=fun e=>hds (by rw [hod,e])
                simp [Act.put,Array.getD_eq_getD_getElem?,Array.getElem?_setIfInBounds,hq]
            rw [h2]
            exact h1
      obtain ⟨msi,rest,hp,hst⟩:∃ msi rest,msx.Perm (msi++rest)/\Step P l o (envL (fun j=>decide (j<i) && !(ef.contains j)) l ds 0 L) msi d:=by
        cases hfi:fd.contains i with
        | true =>
          refine ⟨msx,[],by simp,hfd msx (hFD ?_) i o d hfi ho hd⟩
          rcases Nat.lt_or_ge ef.length (cut+m) with h | h
          · have hp:ef.length - cut<ef.length:=by omega
            have hS1:S ef[ef.length - cut]=true:=(hm (ef.length - cut) _ (by simp [hp])).2 (by omega)
            have:=hlt i hfi _ (by simp [hp]) S hc hS1
            rw [hunl] at this;cases this
          · exact h
        | false =>
          rw [hfi] at hst
          simp only [Bool.not_false,Bool.and_true] at hst
          cases hfr:free.contains i with
          | true=>rw [hfr] at hst;exact ⟨[],msx,List.Perm.refl _,hst⟩
          | false =>
            rw [hfr] at hst
            have hm00:m=0:=by
              rcases Nat.eq_zero_or_pos m with h | h
              · exact h
              · have h0:0<ef.length:=by omega
                have hS0:S ef[0]=true:=(hm 0 ef[0] (by simp [h0])).2 h
                have hif:i∉free:=fun hh=>by rw [List.contains_iff_mem.2 hh] at hfr;cases hfr
                have:=hch.dep i hik hie hif ef[0] (by simp) S hc hS0
                rw [hunl] at this;cases this
            exact ⟨ms,[],by rw [hm0 hm00];simp,hst⟩
      have hokp:HeapOk H (msi++(rest++(marks.map markA++Γ.fr))) w:=hok.perm (by
        have:=hp.append_right (marks.map markA++Γ.fr)
        simpa [List.append_assoc] using this)
      have back:∀ {H':PH} {w':World},HeapOk H' (msi++(rest++(marks.map markA++Γ.fr))) w'->HeapOk H' (msx++(marks.map markA++Γ.fr)) w':=fun h=>h.perm (by
        have:=hp.symm.append_right (marks.map markA++Γ.fr)
        simpa [List.append_assoc] using this)
      unfold Step at hst
      cases hg:o.guard with
      | none =>
        rw [hg] at hst
        simp only at hst
        simp only [Region.wanted,hg,if_true]
        refine hst Γ.round H (rest++(marks.map markA++Γ.fr)) a w hokp hsub _ _ ?_
        rintro v d2 ms' w' H' ⟨rfl,rfl⟩ hl hok' hcv hso
        exact nxt v w' H' hl (back hok') hcv hso
      | some q =>
        obtain ⟨j,want⟩:=q
        rw [hg] at hst
        simp only at hst
        obtain ⟨s,u,h1,h2,h3⟩:=hst
        have hss:s∈Ak l o:=by simp [Ak,hg,h1]
        have hfnd:Env.find (E++envL (fun j=>S j && !(ef.contains j)) l ds 0 L) s=some (.v u):=by rw [agree s hss];exact h2
        rcases h3 with ⟨b,hu,h3⟩ | ⟨hu,h4⟩
        · subst hu
          have hy:=D4 (ops:=l.toArray) mm (j:=j) (t:=s) (b:=b) (by simpa using h1) hfnd
          simp only [Region.wanted,hg,hy]
          rcases h3 with ⟨h3,h4⟩ | ⟨h3,h4⟩
          · have hbq:(some b == some want)=true:=by rw [h3];simp
            rw [if_pos hbq]
            refine h4 Γ.round H (rest++(marks.map markA++Γ.fr)) a w hokp hsub _ _ ?_
            rintro v d2 ms' w' H' ⟨rfl,rfl⟩ hl hok' hcv hso
            exact nxt v w' H' hl (back hok') hcv hso
          · have hbq:(some b == some want)=false:=by rw [h3];cases want <;> rfl
            rw [if_neg (by rw [hbq];simp)]
            exact ⟨fun _ _=>trivial,nxt undef w H (PH.le_refl H) hok (by rw [h4];exact conc_v.2 rfl) (SameOut.refl w)⟩
        · subst hu
          have hy:=Dw (ops:=l.toArray) mm (j:=j) (t:=s) (by simpa using h1) hfnd
          simp only [Region.wanted,hg,hy]
          rw [if_neg (by cases want <;> simp)]
          exact ⟨fun _ _=>trivial,nxt undef w H (PH.le_refl H) hok (by rw [h4];exact conc_v.2 rfl) (SameOut.refl w)⟩
end
section
variable {Γ:Ctx} {P:Program} {L:Env} {ms:List Asrt} {K:KT} {l:List Oper}
def GDC (Γ:Ctx) (P:Program) (ops:List Oper) (ms:List Asrt) (K:KT) (cut:Nat) (ef free fd:List Nat):Nat->List Oper->Env->(List Asrt->Prop)->Prop
 | _,[],L,acc=>GDC2 Γ P ops K cut acc L ef [] ms
 | i,o::r,L,acc=>if ef.contains i=true then GDC Γ P ops ms K cut ef free fd (i+1) r L acc
  else ∃ d,dstOk o Γ.N/\Step P ops o L (if free.contains i && !(fd.contains i) then [] else ms) d/\GDC Γ P ops ms K cut ef free fd (i+1) r (ext o d L) (if fd.contains i then fun msx=>acc msx/\Step P ops o L msx d else acc)
theorem Mx {ops:List Oper} {cut:Nat} {ef free fd:List Nat}:∀ (r:List Oper) (i:Nat) (L:Env) (acc:List Asrt->Prop),acc ms->GDC Γ P ops ms K cut ef free fd i r L acc ->
    ∃ (ds:List D) (FD:List Asrt->Prop),ds.length=r.length /\
      (∀ j o d,r[j]? = some o->ds[j]? = some d->ef.contains (i+j)=false->dstOk o Γ.N/\Step P ops o (envL (fun q=>decide (q<i+j) && !(ef.contains q)) r ds i L) (if free.contains (i+j) && !(fd.contains (i+j)) then [] else ms) d) /\
      (∀ msx,FD msx->acc msx/\∀ j o d,r[j]? = some o->ds[j]? = some d->ef.contains (i+j)=false->fd.contains (i+j)=true->Step P ops o (envL (fun q=>decide (q<i+j) && !(ef.contains q)) r ds i L) msx d)/\FD ms /\
      GDC2 Γ P ops K cut FD (envL (fun q => !(ef.contains q)) r ds i L) ef [] ms
  | [],i,L,acc,h0,h=>⟨[],acc,rfl,fun j o d hj=>by simp at hj,fun msx hm=>⟨hm,fun j o d hj=>by simp at hj⟩,h0,(show GDC2 Γ P ops K cut acc L ef [] ms from h)⟩
  | o::r,i,L,acc,h0,h=>by
    have hsh:∀ j,i+(j+1)=i+1+j:=fun j=>by omega
    unfold GDC at h
    cases hc:ef.contains i with
    | true =>
      rw [if_pos hc] at h
      obtain ⟨ds,FD,e1,e2,e4,e5,e3⟩:=Mx r (i+1) L acc h0 h
      have hS:∀ m,(decide (i<m) && !(ef.contains i))=false:=fun m=>by rw [hc];simp
      refine ⟨.v undef::ds,FD,by simp [e1],fun j o' d' hj hdj hcj=>?_,fun msx hm=>⟨(e4 msx hm).1,fun j o' d' hj hdj hcj hfj=>?_⟩,e5,?_⟩
      · cases j with
        | zero=>rw [Nat.add_zero] at hcj;rw [hc] at hcj;cases hcj
        | succ j =>
          simp only [List.getElem?_cons_succ] at hj hdj
          rw [hsh] at hcj ⊢
          simp only [envL,hS,Bool.false_eq_true,if_false]
          exact e2 j o' d' hj hdj hcj
      · cases j with
        | zero=>rw [Nat.add_zero] at hcj;rw [hc] at hcj;cases hcj
        | succ j =>
          simp only [List.getElem?_cons_succ] at hj hdj
          rw [hsh] at hcj hfj ⊢
          simp only [envL,hS,Bool.false_eq_true,if_false]
          exact (e4 msx hm).2 j o' d' hj hdj hcj hfj
      · simp only [envL]
        rw [if_neg (by rw [hc];simp)]
        exact e3
    | false =>
      rw [if_neg (by rw [hc];simp)] at h
      obtain ⟨d,hdk,hst,hrest⟩:=h
      have h0':(if fd.contains i then fun msx=>acc msx/\Step P ops o L msx d else acc) ms:=by
        cases hf:fd.contains i with
        | true=>rw [hf] at hst;simp only [Bool.not_true,Bool.and_false,Bool.false_eq_true,if_false] at hst;exact ⟨h0,hst⟩
        | false=>exact h0
      obtain ⟨ds,FD,e1,e2,e4,e5,e3⟩:=Mx r (i+1) (ext o d L) _ h0' hrest
      have hS:∀ j,(decide (i<i+1+j) && !(ef.contains i))=true:=fun j=>by rw [hc];simp;omega
      have hL0:envL (fun q=>decide (q<i+0) && !(ef.contains q)) (o::r) (d::ds) i L=L:=by
        rw [Nat.add_zero,DP _ _ _ _ (fun q hq=>by have:¬ q<i:=by omega
                                                  simp [this])]
      refine ⟨d::ds,FD,by simp [e1],fun j o' d' hj hdj hcj=>?_,fun msx hm=>?_,e5,?_⟩
      · cases j with
        | zero =>
          simp only [List.getElem?_cons_zero,Option.some.injEq] at hj hdj
          subst hj hdj
          exact ⟨hdk,by rw [hL0];exact hst⟩
        | succ j =>
          simp only [List.getElem?_cons_succ] at hj hdj
          rw [hsh] at hcj ⊢
          simp only [envL,hS,if_true]
          exact e2 j o' d' hj hdj hcj
      · obtain ⟨hacc,hrest2⟩:=e4 msx hm
        have hacc':acc msx:=by
          cases hf:fd.contains i with
          | true=>rw [hf] at hacc;exact hacc.1
          | false=>rw [hf] at hacc;exact hacc
        refine ⟨hacc',fun j o' d' hj hdj hcj hfj=>?_⟩
        cases j with
        | zero =>
          simp only [List.getElem?_cons_zero,Option.some.injEq] at hj hdj
          subst hj hdj
          rw [hL0]
          rw [Nat.add_zero] at hfj
          rw [hfj] at hacc
          exact hacc.2
        | succ j =>
          simp only [List.getElem?_cons_succ] at hj hdj
          rw [hsh] at hcj hfj ⊢
          simp only [envL,hS,if_true]
          exact hrest2 j o' d' hj hdj hcj hfj
      · simp only [envL]
        rw [if_pos (by rw [hc];rfl)]
        exact e3
theorem IZ {id:Nat} (cut:Nat) (ef free fd:List Nat) (hcut:(Nat.blt 0 cut&&Nat.ble cut ef.length)=true) (hlt:(fd.all fun i=>((masks l []).getD (ef.getD (ef.length - cut) 0) 0).testBit i)=true) (hm:P.follows .mixedOrders=true) (hf:flowB l l.length=true) (hch:NU l ef free=true) (hfe:fd.all (fun i => !(ef.contains i))=true) (h:GDC Γ P l ms K cut ef free fd 0 l L (fun _=>True)):G Γ P (.region id l.toArray true) L ms K:=by
 intro a w m
 refine wpIn_region_draw fun t=>?_;simp only [Region.schedule,hm,Bool.true_or,if_true]
 have hfo:=JQ hf
 obtain ⟨ds,FD,e1,e2,e4,e5,e3⟩:=Mx _ _ _ _ trivial h;simp only [Nat.zero_add] at e2 e4
 have hM:Kt l (masks l []):=IN l l [] (fun j=>by simp) (fun j m hj=>by simp at hj)
 refine OZ (cut:=cut) (fun i hi e he S hS hSe=>by
  have h6:=List.all_eq_true.1 hlt i (List.contains_iff_mem.1 hi)
  rw [List.getD_eq_getElem?_getD (l:=ef),he,Option.getD_some] at h6
  cases hacc:(masks l [])[e]? with
  | none=>rw [List.getD_eq_getElem?_getD,hacc] at h6;simp at h6
  | some m=>rw [List.getD_eq_getElem?_getD,hacc] at h6;exact hM e m hacc i h6 S hS hSe) (by rw [Bool.and_eq_true] at hcut;exact ⟨nB hcut.1,nB hcut.2⟩) (L:=L) (ms:=ms) (fd:=fd) hfo (Qd hch) ds e1 ?_ (fun msx hm i o d hfi ho hd=>(e4 msx hm).2 i o d ho hd (by
  have:=List.all_eq_true.1 hfe i (List.contains_iff_mem.1 hfi)
  simpa using this) hfi) e5 e3 l.toArray.size (Array.replicate l.toArray.size false) t a { w with drawn:=w.drawn+1 } (by simp) ?_ ?_ ?_ ?_
 ·intro i o d hie ho hd
  exact e2 i o d ho hd (BJ hie)
 ·intro j o hj hS
  simp [Array.getD] at hS
 ·intro i _;simp [Array.getD]
 ·have:=List.length_filter_le (fun i => !(Array.replicate l.toArray.size false).getD i false) (List.range l.length)
  simpa using this
 ·have hz:∀ j,(Array.replicate l.toArray.size false).getD j false=false:=fun j=>by simp [Array.getD]
  refine ⟨0,[],ms,Nat.zero_le _,fun q e he=>by rw [hz];simp,by simpa using e3,fun t d ht=>by simp [Env.find] at ht,fun _=>rfl,fun _=>e5,?_⟩;rw [List.nil_append,DP _ _ _ _ (fun q _=>by rw [hz];rfl)];obtain ⟨H,marks,hle,hok,henv,hdf⟩:=m.ex;exact ⟨⟨H,marks,hle,hok.drew _,henv,hdf⟩,m.size,⟨m.same.os,m.same.output,m.same.tape,m.same.size⟩⟩
theorem FJ {ops r:List Oper} {cut:Nat} {ef free fd:List Nat} {acc:List Asrt->Prop} {n:Nat} {o:Oper} (hc:ef.contains n=true) (k:GDC Γ P ops ms K cut ef free fd (n+1) r L acc):GDC Γ P ops ms K cut ef free fd n (o::r) L acc:=by
 unfold GDC;rw [if_pos hc];exact k
theorem F8 {ops r:List Oper} {cut:Nat} {ef free fd:List Nat} {acc:List Asrt->Prop} {n:Nat} {o:Oper} {d:D} {i:Nat} {msi:List Asrt} (hc:ef.contains n=false) (hnf:fd.contains n=false) (hms:(if free.contains n then [] else ms)=msi) (hg:o.guard=none) (hd:o.dst=some i) (hi:Nat.blt i Γ.N=true) (h:OpP P o (Env.only (Ak ops o) L) msi d) (k:GDC Γ P ops ms K cut ef free fd (n+1) r ((i,d)::L) acc):GDC Γ P ops ms K cut ef free fd n (o::r) L acc:=by
 unfold GDC;rw [if_neg (by rw [hc];simp),hnf];simp only [Bool.not_false,Bool.and_true,Bool.false_eq_true,if_false];rw [hms];refine ⟨d,by simp only [dstOk,hd];exact hi,by simp only [Step,hg];exact h,?_⟩;simp only [ext,hd];exact k
theorem Nx {ops r:List Oper} {cut:Nat} {ef free fd:List Nat} {acc:List Asrt->Prop} {n:Nat} {o:Oper} {d:D} {i:Nat} (hc:ef.contains n=false) (hnf:fd.contains n=true) (hg:o.guard=none) (hd:o.dst=some i) (hi:Nat.blt i Γ.N=true) (h:OpP P o (Env.only (Ak ops o) L) ms d) (k:GDC Γ P ops ms K cut ef free fd (n+1) r ((i,d)::L) (fun msx=>acc msx/\OpP P o (Env.only (Ak ops o) L) msx d)):GDC Γ P ops ms K cut ef free fd n (o::r) L acc:=by
 unfold GDC;rw [if_neg (by rw [hc];simp),hnf];simp only [Bool.not_true,Bool.and_false,Bool.false_eq_true,if_false,if_true]
 have hs:∀ m,Step P ops o L m d=OpP P o (Env.only (Ak ops o) L) m d:=fun m=>by simp only [Step,hg]
 refine ⟨d,by simp only [dstOk,hd];exact hi,by rw [hs];exact h,?_⟩;simp only [hs];simp only [ext,hd];exact k
theorem Ly {ops:List Oper} {cut:Nat} {ef free fd:List Nat} {acc:List Asrt->Prop} {n:Nat} (h:GDC2 Γ P ops K cut acc L ef [] ms):GDC Γ P ops ms K cut ef free fd n [] L acc:=h
theorem Fx {ops:List Oper} {cut:Nat} {FD:List Asrt->Prop} {E:Env} {msx:List Asrt} {e i:Nat} {es:List Nat} {o:Oper} {R:D->List Asrt->Prop} (ho:ops[e]? = some o) (hg:o.guard=none) (hd:o.dst=some i) (hi:Nat.blt i Γ.N=true) (h:OpT P o (Env.only (Ak ops o) (E++L)) msx R) (k:∀ d ms',R d ms'->(cut<=es.length->FD ms')/\GDC2 Γ P ops K cut FD L es ((i,d)::E) ms'):GDC2 Γ P ops K cut FD L (e::es) E msx:=by
 intro o' ho'
 have:o'=o:=by rw [ho] at ho';exact (Option.some.inj ho').symm
 subst this;refine ⟨by simp only [dstOk,hd];exact hi,?_⟩;unfold GStep;rw [hg];refine ⟨R,h,fun d ms' hR=>?_⟩
 have:=k d ms' hR
 simpa [extE,hd] using this
theorem Oi {ops:List Oper} {cut:Nat} {FD:List Asrt->Prop} {E:Env} {msx:List Asrt} {e:Nat} {es:List Nat} {o:Oper} {R:D->List Asrt->Prop} (ho:ops[e]? = some o) (hg:o.guard=none) (hd:o.dst=none) (h:OpT P o (Env.only (Ak ops o) (E++L)) msx R) (k:∀ d ms',R d ms'->(cut<=es.length->FD ms')/\GDC2 Γ P ops K cut FD L es E ms'):GDC2 Γ P ops K cut FD L (e::es) E msx:=by
 intro o' ho'
 have:o'=o:=by rw [ho] at ho';exact (Option.some.inj ho').symm
 subst this;refine ⟨by simp only [dstOk,hd],?_⟩;unfold GStep;rw [hg];refine ⟨R,h,fun d ms' hR=>?_⟩
 have:=k d ms' hR
 simpa [extE,hd] using this
theorem Kd {ops:List Oper} {cut:Nat} {FD:List Asrt->Prop} {E:Env} {msx:List Asrt} (h:K .normal (E++L) msx):GDC2 Γ P ops K cut FD L [] E msx:=h
end
section
end
section
variable {P:Program} {L:Env} {ms:List Asrt} {dst:Option Nat} {ty:TypeId} {pos:String} {after:Array Edge} {g:Option (Nat×Bool)} {d:D}
end
end Go.V
set_option linter.unusedSectionVars false
namespace Go.V
def bigA (p:Prop) (l:List Asrt):Asrt where
 blocks:=l.flatMap (·.blocks)
 ok:=fun H h=>p/\∀ A∈l,A.ok H h
 stable:=fun H H' h h' e hle ⟨h1,h2⟩=>⟨h1,fun A hA=>A.stable H H' h h' (fun b hb=>e b (List.mem_flatMap.2 ⟨A,hA,hb⟩)) hle (h2 A hA)⟩
theorem bigA_iff {p:Prop} {l ms:List Asrt} {H:PH} {w:World}:HeapOk H (bigA p l::ms) w↔p/\HeapOk H (l++ms) w:=by
 constructor
 ·intro h
  have h0:=h.ok _ (List.mem_cons_self ..)
  refine ⟨h0.1,h.sub,by have:=h.nodup;simpa [bigA] using this,fun A hA b hb=>?_,fun A hA=>?_⟩
  ·rcases List.mem_append.1 hA with hA | hA
   ·exact h.lt _ (List.mem_cons_self ..) b (List.mem_flatMap.2 ⟨A,hA,hb⟩)
   ·exact h.lt A (List.mem_cons_of_mem _ hA) b hb
  ·rcases List.mem_append.1 hA with hA | hA
   ·exact h0.2 A hA
   ·exact h.ok A (List.mem_cons_of_mem _ hA)
 ·rintro ⟨hp,h⟩
  refine ⟨h.sub,by have:=h.nodup;simpa [bigA] using this,fun A hA b hb=>?_,fun A hA=>?_⟩
  ·rcases List.mem_cons.1 hA with rfl | hA
   ·obtain ⟨A,hA,hb⟩:=List.mem_flatMap.1 hb
    exact h.lt A (List.mem_append_left _ hA) b hb
   ·exact h.lt A (List.mem_append_right _ hA) b hb
  ·rcases List.mem_cons.1 hA with rfl | hA
   ·exact ⟨hp,fun A hA=>h.ok A (List.mem_append_left _ hA)⟩
   ·exact h.ok A (List.mem_append_right _ hA)
def rawD (p:Option Addr×Nat×Nat):D := .v (.slice p.1 p.2.1 p.2.2)
section
variable {α β:Type} [DecidableEq α]
def rawQ (v:List β×Option Addr×Nat):Option Addr×Nat×Nat:=(v.2.1,v.1.length,v.2.2)
theorem HeapOk.newrow {H:PH} {ms:List Asrt} {w:World} {T:TypeId} {sz:Nat} {f:β->D} (h:HeapOk H ms w):HeapOk H (row none 0 T sz f ([]:List β)::ms) w:=by
 refine ⟨h.sub,by simpa [row] using h.nodup,fun A hA b hb=>?_,fun A hA=>?_⟩
 ·rcases List.mem_cons.1 hA with rfl | hA
  ·simp [row] at hb
  ·exact h.lt A hA b hb
 ·rcases List.mem_cons.1 hA with rfl | hA
  ·exact ⟨Nat.le_refl _,Nat.zero_le _,.inl ⟨rfl,rfl,rfl⟩⟩
  ·exact h.ok A hA
variable {P:Program} {L:Env} {ms:List Asrt} {dst:Option Nat} {ty:TypeId} {pos:String} {after:Array Edge} {g:Option (Nat×Bool)} {x y z:Operand} {t:TypeId}
variable {b:Nat} {fk:α->Value} {T:TypeId} {sz:Nat} {f:β->D} {l:List (α×List β)} {q:List (α×(List β×Option Addr×Nat))} {key:α}
end
end Go.V
namespace Go.V
section
variable {β:Type}
def bat (q:List (List β×Option Addr×Nat)) (n:Int):List β×Option Addr×Nat:=(q[n.toNat]?).getD ([],none,0)
def rowsB (T:TypeId) (sz:Nat) (f:β->D) (q:List (List β×Option Addr×Nat)):List Asrt:=q.map fun v=>row v.2.1 v.2.2 T sz f v.1
def bks (a:Option Addr) (m cap:Nat) (T e:TypeId) (sz:Nat) (f:β->D) (ll:List (List β)) (q:List (List β×Option Addr×Nat)):Asrt:=
 bigA (ll=q.map (·.1)) (arr a m cap T 1 rawD (q.map rawQ)::rowsB e sz f q)
def bksx (a:Option Addr) (m cap:Nat) (T e:TypeId) (sz:Nat) (f:β->D) (ll:List (List β)) (q:List (List β×Option Addr×Nat)) (n:Int):Asrt:=
 bigA (ll=q.map (·.1)) (arr a m cap T 1 rawD (q.map rawQ)::rowsB e sz f (q.eraseIdx n.toNat))
theorem I4 {ll:List (List β)} {q:List (List β×Option Addr×Nat)} {n:Int} {z:List β} (hl:ll=q.map (·.1)) (h:idx ll n=some z):0<=n/\q[n.toNat]? = some (bat q n)/\(bat q n).1=z/\idx (q.map rawQ) n=some (rawQ (bat q n)):=by
 obtain ⟨h0,hz⟩:=Ar h;subst hl;rw [List.getElem?_map] at hz
 cases hq:q[n.toNat]? with
 | none=>rw [hq] at hz;cases hz
 | some v =>
  rw [hq] at hz
  have hb:bat q n=v:=by simp [bat,hq]
  rw [hb];refine ⟨h0,rfl,by simpa using hz,?_⟩
  have hn:¬ n<0:=by omega
  simp [idx,hn,List.getElem?_map,hq]
theorem JU {α:Type} {l:List α} {n:Int} {w v:α} (h:idx l n=some w):idx (l.set n.toNat v) n=some v:=by
 obtain ⟨h0,h1⟩:=Ar h
 have hlt:=(List.getElem?_eq_some_iff.1 h1).1
 unfold idx;rw [if_pos h0];simp [hlt]
theorem LO {T:TypeId} {sz:Nat} {f:β->D} {q:List (List β×Option Addr×Nat)} {i:Nat} {v:List β×Option Addr×Nat} (h:q[i]? = some v):(rowsB T sz f q).Perm (row v.2.1 v.2.2 T sz f v.1::rowsB T sz f (q.eraseIdx i)):=by
 have:=(Gl q i v h).map (fun v=>row v.2.1 v.2.2 T sz f v.1)
 exact this
variable {P:Program} {L:Env} {ms:List Asrt} {dst:Option Nat} {ty:TypeId} {pos:String} {after:Array Edge} {g:Option (Nat×Bool)} {x y z:Operand} {t:TypeId}
variable {a:Option Addr} {m cap:Nat} {T e:TypeId} {sz:Nat} {f:β->D} {ll:List (List β)} {q:List (List β×Option Addr×Nat)}
theorem OpP.unpack {p:Prop} {l:List Asrt} {o:Oper} {d:D} (k:Nat) (hk:ms[k]? = some (bigA p l)) (h:p->OpP P o L (l++ms.eraseIdx k) d):OpP P o L ms d:=by
 intro ro H fr act w hok henv next Q hn
 obtain ⟨hp,hok2⟩:=bigA_iff.1 (hok.perm (CZ hk));refine h hp ro H fr act w (by simpa [List.append_assoc] using hok2) henv next Q ?_;rintro v d' ms' w' H' ⟨rfl,rfl⟩ hle hok' hc hs;refine hn v _ ms w' H' ⟨rfl,rfl⟩ hle ?_ hc hs
 have h3:=bigA_iff.2 ⟨hp,by simpa [List.append_assoc] using hok'⟩
 have h4:=h3.perm (BN (ms:=ms) (k:=k) (A':=bigA p l) (fr:=fr) hk)
 have h5:ms.set k (bigA p l)=ms:=by
  obtain ⟨hlt,he⟩:=List.getElem?_eq_some_iff.1 hk;rw [<- he];exact List.set_getElem_self hlt
 rwa [h5] at h4
theorem Ee {n:Int} {ik:IntKind} {w0:List β} (k:Nat) (hu:∀ w,(underlying t).run P w = .ok (.slice T) w) (hs:∀ w,(sizeOf T).run P w = .ok 1 w) (hx:Env.ev L x=some (.v (.slice a m cap))) (hk:ms[k]? = some (bks a m cap T e sz f ll q))
  (hy:Env.ev L y=some (.v (.int ik n))) (h:idx ll n=some w0):OpP P ⟨dst,.indexAddr t x y,ty,pos,after,g⟩ L ms (.v (.pointer (apt a n.toNat))):=by
 refine OpP.unpack k hk fun hl=>?_
 have:=Aj (P:=P) (L:=L) (dst:=dst) (ty:=ty) (pos:=pos) (after:=after) (g:=g) (t:=t) (ms:=(arr a m cap T 1 rawD (q.map rawQ)::rowsB e sz f q)++ms.eraseIdx k) 0 hu hs hx rfl hy (I4 hl h).2.2.2
 simpa using this
theorem HD {n:Int} {ik:IntKind} {w0:List β} {n0:Int} (k:Nat) (hu:∀ w,(underlying t).run P w = .ok (.slice T) w) (hs:∀ w,(sizeOf T).run P w = .ok 1 w) (hx:Env.ev L x=some (.v (.slice a m cap))) (hk:ms[k]? = some (bksx a m cap T e sz f ll q n0))
  (hy:Env.ev L y=some (.v (.int ik n))) (h:idx ll n=some w0):OpP P ⟨dst,.indexAddr t x y,ty,pos,after,g⟩ L ms (.v (.pointer (apt a n.toNat))):=by
 refine OpP.unpack k hk fun hl=>?_
 have:=Aj (P:=P) (L:=L) (dst:=dst) (ty:=ty) (pos:=pos) (after:=after) (g:=g) (t:=t) (ms:=(arr a m cap T 1 rawD (q.map rawQ)::rowsB e sz f (q.eraseIdx n0.toNat))++ms.eraseIdx k) 0 hu hs hx rfl hy (I4 hl h).2.2.2
 simpa using this
theorem Js {n:Int} {w0:List β} (k:Nat) (ha:∀ w,(isAgg t).run P w = .ok false w) (hx:Env.ev L x=some (.v (.pointer (apt a n.toNat)))) (hk:ms[k]? = some (bks a m cap T e sz f ll q)) (h:idx ll n=some w0) :
  OpP P ⟨dst,.load t x,ty,pos,after,g⟩ L ms (.v (.slice (bat q n).2.1 w0.length (bat q n).2.2)):=by
 refine OpP.unpack k hk fun hl=>?_;obtain ⟨h0,h1,h2,h3⟩:=I4 hl h
 have:=BI (P:=P) (L:=L) (dst:=dst) (ty:=ty) (pos:=pos) (after:=after) (g:=g) (t:=t) (off:=0) (o:=n.toNat) (i:=n.toNat) (d:=rawD (rawQ (bat q n))) (ms:=(arr a m cap T 1 rawD (q.map rawQ)::rowsB e sz f q)++ms.eraseIdx k) 0 ha hx rfl (Ar h3).2 (by simp) rfl rfl
 simpa [rawD,rawQ,h2] using this
theorem peekB {i:Nat} {n:Int} {w0:List β} (k:Nat) (hf:Env.find L i=some (.v (.slice (bat q n).2.1 w0.length (bat q n).2.2))) (hk:ms[k]? = some (bks a m cap T e sz f ll q)) (h:idx ll n=some w0):RefE ms L ((i,.list sz f w0)::L):=by
 intro t d' ht
 simp only [Env.find] at ht
 cases hb:Nat.beq i t with
 | true =>
  rw [hb] at ht
  have:=Nat.eq_of_beq_eq_true hb
  subst this;simp only [Option.some.injEq] at ht;subst ht;refine ⟨_,hf,(fun b e=>(by cases e)),fun H fr w u hok c=>?_⟩;rw [conc_v.1 c];obtain ⟨hl,hok2⟩:=bigA_iff.1 (hok.perm (CZ hk));obtain ⟨h0,h1,h2,h3⟩:=I4 hl h;subst h2;exact JX (T:=e) hok2 (List.mem_append_left _ (List.mem_cons_of_mem _ (List.mem_map.2 ⟨_,List.mem_of_getElem? h1,rfl⟩)))
 | false=>rw [hb] at ht;exact ⟨d',ht,fun _ _=>rfl,fun _ _ _ _ _ c=>c⟩
theorem Ph {n:Int} {w0:List β} (k:Nat) (ha:∀ w,(isAgg t).run P w = .ok false w) (hx:Env.ev L x=some (.v (.pointer (apt a n.toNat)))) (hk:ms[k]? = some (bks a m cap T e sz f ll q)) (h:idx ll n=some w0) :
  OpT P ⟨dst,.load t x,ty,pos,after,g⟩ L ms (fun d ms'=>∃ a0 c0,d = .v (.slice a0 w0.length c0)/\ms'=row a0 c0 e sz f w0::ms.set k (bksx a m cap T e sz f ll q n)):=by
 intro ro H fr act w hok henv next Q hn
 refine Js k ha hx hk h ro H fr act w hok henv next Q ?_;rintro v d' ms' w' H' ⟨rfl,hm⟩ hle hok' hc hs;rw [hm] at hok';refine hn v _ _ w' H' ⟨_,_,rfl,rfl⟩ hle ?_ hc hs;obtain ⟨hl,hok2⟩:=bigA_iff.1 (hok'.perm (CZ hk));obtain ⟨h0,h1,h2,h3⟩:=I4 hl h;subst h2
 have h4:HeapOk H' (bksx a m cap T e sz f ll q n::(row (bat q n).2.1 (bat q n).2.2 e sz f (bat q n).1::(ms.eraseIdx k++fr))) w':=by
  refine bigA_iff.2 ⟨hl,hok2.perm ?_⟩;refine List.Perm.cons _ ?_;exact ((LO h1).append_right _).trans List.perm_middle.symm
 exact h4.perm ((List.Perm.swap _ _ _).trans (List.Perm.cons _ (BN hk)))
theorem Ps {n:Int} {w0 xs:List β} {a0:Option Addr} {n0 c0:Nat} (pre post:List Asrt) (hs:∀ w,(sizeOf t).run P w = .ok 1 w) (hp:ms.Perm ([bksx a m cap T e sz f ll q n,row a0 c0 e sz f xs]++(pre++post))) (hx:Env.ev L x=some (.v (.pointer (apt a n.toNat)))) (h:idx ll n=some w0)
  (hy:Env.ev L y=some (.v (.slice a0 n0 c0))) (hn:n0=xs.length) {ms'':List (List β×Option Addr×Nat)->List Asrt} (hr:(fun q'=>pre++bks a m cap T e sz f (ll.set n.toNat xs) q'::post)=ms'') :
  OpT P ⟨dst,.store t x y,ty,pos,after,g⟩ L ms (fun _ ms'=>∃ q',ms'=ms'' q'):=by
 subst hr hn
 intro ro H fr act w hok henv next Q hnx
 have hok1:HeapOk H (bksx a m cap T e sz f ll q n::(row a0 c0 e sz f xs::((pre++post)++fr))) w:=hok.perm (by simpa using hp.append_right fr)
 obtain ⟨hl,hok2⟩:=bigA_iff.1 hok1;obtain ⟨h0,h1,h2,h3⟩:=I4 hl h
 have base:=Bs (P:=P) (L:=L) (dst:=dst) (ty:=ty) (pos:=pos) (after:=after) (g:=g) (t:=t) (x:=x) (y:=y) (off:=0) (i:=n.toNat) (o:=n.toNat) (s:=1) (d := .v (.slice a0 xs.length c0)) (z':=rawQ (xs,a0,c0)) (ms:=arr a m cap T 1 rawD (q.map rawQ)::(rowsB e sz f (q.eraseIdx n.toNat)++(row a0 c0 e sz f xs::(pre++post)))) 0 hs hx rfl (Ar h3).2 (by simp) hy rfl rfl rfl rfl (Nat.le_refl _) rfl rfl
 refine base ro H fr act w (by simpa [List.append_assoc] using hok2) henv next Q ?_;rintro v d' ms' w' H' rfl hle hok' hc hs';refine hnx v d' _ w' H' ⟨q.set n.toNat (xs,a0,c0),rfl⟩ hle ?_ hc hs'
 have hlt:n.toNat<q.length:=(List.getElem?_eq_some_iff.1 h1).1
 have h5:HeapOk H' (bks a m cap T e sz f (ll.set n.toNat xs) (q.set n.toNat (xs,a0,c0))::((pre++post)++fr)) w':=by
  refine bigA_iff.2 ⟨by rw [hl,List.map_set],?_⟩
  have hok3:HeapOk H' (arr a m cap T 1 rawD ((q.map rawQ).set n.toNat (rawQ (xs,a0,c0)))::(rowsB e sz f (q.eraseIdx n.toNat)++(row a0 c0 e sz f xs::((pre++post)++fr)))) w':=by simpa [List.append_assoc] using hok'
  rw [List.map_set];refine hok3.perm (List.Perm.cons _ ?_)
  have h6:(rowsB e sz f (q.set n.toNat (xs,a0,c0))).Perm (row a0 c0 e sz f xs::rowsB e sz f (q.eraseIdx n.toNat)):=by
   have:=LO (T:=e) (sz:=sz) (f:=f) (q:=q.set n.toNat (xs,a0,c0)) (i:=n.toNat) (v:=(xs,a0,c0)) (by simp [hlt])
   rwa [List.eraseIdx_set_eq] at this
  refine List.perm_middle.trans ?_;exact (h6.append_right _).symm
 refine h5.perm ?_
 have:(bks a m cap T e sz f (ll.set n.toNat xs) (q.set n.toNat (xs,a0,c0))::(pre++post++fr)).Perm ((pre++bks a m cap T e sz f (ll.set n.toNat xs) (q.set n.toNat (xs,a0,c0))::post)++fr):=by
  rw [<- List.cons_append];exact List.perm_middle.symm.append_right fr
 exact this
theorem Ny {H:PH} {w:World} {T:TypeId} {sz:Nat} {f:β->D}:∀ (n:Nat) {ms:List Asrt},HeapOk H ms w->HeapOk H (rowsB T sz f (List.replicate n (([]:List β),(none:Option Addr),0))++ms) w
 | 0,_,h=>h
 | n+1,_,h=>by
  rw [List.replicate_succ];exact HeapOk.newrow (Ny n h)
theorem B5 {fn:FuncId} {args:List Operand} {ats:Array TypeId} {ds:List D} {As:List Asrt} {d:D} (ks:List Nat) (hc:∀ args w,(callFunc fn args).run P w = .ok (.enter fn args) w) (hev:evL L args=some ds) (hb:ownB ks [] ms.length=true) (hg:getL ms ks As) (hf:Fn P fn ds As (fun d' ms'=>d'=d/\ms'=As)) :
  OpP P ⟨dst,.call ⟨.value (.func fn),args.toArray,ats⟩,ty,pos,after,g⟩ L ms d:=by
 have h:=Cr (L:=L) (dst:=dst) (ty:=ty) (pos:=pos) (after:=after) (g:=g) (ats:=ats) ks hc hev hb hg hf (by rintro _ _ ⟨_,h2⟩;rw [h2];exact (Lz ks As hg).1)
 intro ro H fr act w hok henv next Q hn
 refine h ro H fr act w hok henv next Q ?_;rintro v d' ms' w' H' ⟨ms₁,⟨rfl,e2⟩,e3⟩ hle hok' hc' hs;rw [e3,e2,Nd ks As hg] at hok';exact hn v _ _ w' H' ⟨rfl,rfl⟩ hle hok' hc' hs
theorem Lk {E:TypeId} {zv:Value} {i:TypeInfo} {n:Int} {ik:IntKind} (ht:P.underlying t=some (.slice E)) (hi:P.info? E=some i) (hz:i.zero=some zv) (hsz:i.size=1) (hzs:zv.cells.size=1)
  (hx:Env.ev L x=some (.v (.int ik n))) (hm:H6 [D.v (.slice none 0 0)] zv.cells.toList=true) (hn:0<=n) (hb:n.toNat*i.bytes<=140737488355328) (hb0:0<i.bytes) :
  OpT P ⟨dst,.makeSlice t x x,ty,pos,after,g⟩ L ms (fun d ms'=>∃ a m cap q,d = .v (.slice a m cap)/\ms'=bks a m cap E e sz f (List.replicate n.toNat ([]:List β)) q::ms):=by
 intro ro H fr act w hok henv next Q hnx
 refine DY (f:=rawD) (z0:=((none,0,0):Option Addr×Nat×Nat)) ht hi hz hsz hzs (by decide) hx hm hn hb hb0 ro H fr act w hok henv next Q ?_;rintro v d ms' w' H' ⟨a,m,cap,rfl,rfl⟩ hle hok' hc hs;refine hnx v _ _ w' H' ⟨a,m,cap,List.replicate n.toNat ([],none,0),rfl,rfl⟩ hle ?_ hc hs;refine bigA_iff.2 ⟨by simp,?_⟩
 have h1:=Ny (T:=e) (sz:=sz) (f:=f) n.toNat hok'
 refine h1.perm ?_;rw [List.map_replicate];exact List.perm_middle
end
end Go.V
