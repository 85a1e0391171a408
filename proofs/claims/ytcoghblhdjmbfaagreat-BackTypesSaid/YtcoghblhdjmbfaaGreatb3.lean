/- Part 3 of the proof: a program logic, what the functions compute, and what these answer; no condition. -/
import Derived.Test.YtcoghblhdjmbfaaGreatb2
import Derived.Shelf.SlicesE.DeleteFunc
set_option linter.unusedVariables false
set_option linter.unusedSimpArgs false
namespace Go.V
section
variable {Γ:Ctx} {P:Program} {L:Env} {ms:List Asrt} {K:KT} {l:List Oper}
def GDC2 (Γ:Ctx) (P:Program) (ops:List Oper) (K:KT) (cut:Nat) (FD:List Asrt->Prop) (L:Env):List Nat->Env->List Asrt->Prop
 | [],E,ms=>K .normal (E++L) ms
 | e::es,E,ms=>∀ o,ops[e]? = some o->dstOk o Γ.N/\GStep P ops o (E++L) ms (fun d ms'=>(cut<=es.length->FD ms')/\GDC2 Γ P ops K cut FD L es (extE o d E) ms') ((cut<=es.length->FD ms)/\GDC2 Γ P ops K cut FD L es (extE o (.v undef) E) ms)
theorem NE {ef free fd:List Nat} {cut:Nat} {FD:List Asrt->Prop} (hlt:∀ i,fd.contains i=true->∀ e,ef[ef.length - cut]? = some e->∀ S,Cb l S->S e=true->S i=true) (hcut:0<cut/\cut<=ef.length) (hf:FlowOk l l.length) (hch:ChainOk l ef free) (ds:List D) (hlen:ds.length=l.length)
    (hstep:∀ (i:Nat) o d,i∉ef->l[i]? = some o->ds[i]? = some d->dstOk o Γ.N/\Step P l o (envL (fun j=>decide (j<i) && !(ef.contains j)) l ds 0 L) (if free.contains i && !(fd.contains i) then [] else ms) d)
    (hfd:∀ msx,FD msx->∀ (i:Nat) o d,fd.contains i=true->l[i]? = some o->ds[i]? = some d->Step P l o (envL (fun j=>decide (j<i) && !(ef.contains j)) l ds 0 L) msx d) (hfd0:FD ms)
    (h2:GDC2 Γ P l K cut FD (envL (fun j => !(ef.contains j)) l ds 0 L) ef [] ms) :
    ∀ (fuel:Nat) (listed:Array Bool) (t:Nat) (a:Act) (w:World),listed.size=l.length->Cb l (fun j=>listed.getD j false)->(∀ i,l.length<=i->listed.getD i false=false) ->
      ((List.range l.length).filter (fun i => !listed.getD i false)).length<=fuel ->
      (∃ m E msx,m<=ef.length/\(∀ q e,ef[q]? = some e->(listed.getD e false=true↔q<m))/\GDC2 Γ P l K cut FD (envL (fun j => !(ef.contains j)) l ds 0 L) (ef.drop m) E msx/\(∀ t d,Env.find E t=some d->∃ e o,e∈ef/\listed.getD e false=true/\l[e]? = some o/\o.dst=some t)/\(m=0->msx=ms)/\(cut+m<=ef.length->FD msx) /\
        Models Γ (E++envL (fun j=>listed.getD j false && !(ef.contains j)) l ds 0 L) msx a w) ->
      wpOpsIn (FR Γ.round) 0 P l.toArray (Post Γ K) (Region.linearise.go .any l.toArray fuel t listed []) a w:=by
  refine JJ hf (Nat.le_refl _) (fun S a w=>∃ m E msx,m<=ef.length/\(∀ q e,ef[q]? = some e->(S e=true↔q<m))/\GDC2 Γ P l K cut FD (envL (fun j => !(ef.contains j)) l ds 0 L) (ef.drop m) E msx/\(∀ t d,Env.find E t=some d->∃ e o,e∈ef/\S e=true/\l[e]? = some o/\o.dst=some t)/\(m=0->msx=ms)/\(cut+m<=ef.length->FD msx) /\
        Models Γ (E++envL (fun j=>S j && !(ef.contains j)) l ds 0 L) msx a w) ?_ ?_
  rotate_left
  · rintro a w ⟨m,E,msx,hml,hm,h2,hE,_,_,mm⟩
    have hdr:ef.drop m=[]:=by
      rw [List.drop_eq_nil_iff]
      rcases Nat.lt_or_ge m ef.length with h | h
      · have:=(hm m ef[m] (by simp [h])).1 (by simp [hch.lt ef[m] (by simp)])
        omega
      · exact h
    rw [hdr] at h2
    simp only [GDC2] at h2
    have hee:envL (fun j=>decide (j<l.length) && !(ef.contains j)) l ds 0 L=envL (fun q => !(ef.contains q)) l ds 0 L:=by
      have:∀ (l':List Oper) (ds:List D) (k0:Nat) (L:Env),k0+l'.length<=l.length->envL (fun j=>decide (j<l.length) && !(ef.contains j)) l' ds k0 L=envL (fun q => !(ef.contains q)) l' ds k0 L:=by
        intro l'
        induction l' with
        | nil=>intro ds k0 L _;simp [envL]
        | cons o r ih =>
          intro ds k0 L hk
          cases ds with
          | nil=>simp [envL]
          | cons d ds =>
            simp only [List.length_cons] at hk
            have:decide (k0<l.length)=true:=by simp;omega
            simp only [envL,this,Bool.true_and]
            exact ih ds (k0+1) _ (by omega)
      exact this l ds 0 L (by omega)
    rw [hee] at mm
    rw [List.drop_length]
    exact ⟨_,_,h2,mm⟩
  · rintro S i o a w hc hik ho hunl hcs ⟨m,E,msx,hmle,hm,h2',hE,hm0,hFD,mm⟩ next hn
    obtain ⟨H,marks,hle,hok,henv,hdf⟩:=mm.ex
    by_cases hie:i∈ef
    ·
      obtain ⟨q,hq⟩:=List.getElem?_of_mem hie
      have hqm:q=m:=by
        have h3:¬ q<m:=fun h=>by have:=(hm q i hq).2 h;rw [hunl] at this;cases this
        rcases Nat.lt_or_ge m q with h | h
        · have hml:m<ef.length:=Nat.lt_trans h (List.getElem?_eq_some_iff.1 hq).1
          obtain ⟨h4,h5⟩:=hch.chain m q ef[m] i h (by simp [hml]) hq
          have h6:=h5 _ hcs (by simp)
          have hne:¬ ef[m]=i:=by omega
          simp only [hne,decide_false,Bool.or_false] at h6
          have:=(hm m ef[m] (by simp [hml])).1 h6
          omega
        · omega
      subst hqm
      have hdrop:ef.drop q=i::ef.drop (q+1):=by
        obtain ⟨hlt,he⟩:=List.getElem?_eq_some_iff.1 hq
        rw [<- he];exact (List.getElem_cons_drop ..).symm
      rw [hdrop] at h2'
      simp only [GDC2] at h2'
      obtain ⟨hdk,hgs⟩:=h2' o ho
      obtain ⟨o2,ho2,hdst,hlate⟩:=hch.op i hie
      obtain rfl:o2=o:=by rw [ho] at ho2;exact (Option.some.inj ho2).symm
      have hag:∀ s d',s∈At l o2->Env.find (E++envL (fun j => !(ef.contains j)) l ds 0 L) s=some d'->Env.find (E++envL (fun j=>S j && !(ef.contains j)) l ds 0 L) s=some d':=by
        intro s d' h3 h4
        rw [Bw] at h4 ⊢
        cases hq2:Env.find E s with
        | some d2=>rw [hq2] at h4;exact h4
        | none =>
          rw [hq2] at h4
          simp only at h4 ⊢
          rw [<- h4]
          refine BI l ds 0 L L (fun j o' hj hd'=>?_) rfl
          simp only [Nat.zero_add]
          cases hfj:ef.contains j with
          | true=>simp
          | false =>
            simp only [Bool.not_false,Bool.and_true]
            have hjf:j∉ef:=fun h=>by rw [List.contains_iff_mem.2 h] at hfj;cases hfj
            have hji:j≠i:=fun e=>hjf (e▸hie)
            have hn':=hf.names i o2 j o' s ho hj (fun e=>hji e.symm) hd' (.inl h3)
            rcases Nat.lt_or_gt_of_ne hji with hlt | hgt
            · have h5:=(hn' _ hcs).1 hlt (by simp)
              simpa [hji] using h5
            · exact absurd h3 (hlate j o' s hgt hjf hj hd')
      have hsub:EnvOk H (Env.only (At l o2) (E++envL (fun j => !(ef.contains j)) l ds 0 L)) a.tmps:=by
        intro s d' hfnd
        obtain ⟨h3,h4⟩:=EE hfnd
        exact henv s d' (hag s d' h3 h4)
      have fin:∀ v d ms' w' H',(cut+(q+1)<=ef.length->FD ms')->GDC2 Γ P l K cut FD (envL (fun j => !(ef.contains j)) l ds 0 L) (ef.drop (q+1)) (extE o2 d E) ms'->PH.le H H'->HeapOk H' (ms'++(marks.map markA++Γ.fr)) w'->Conc H' d v->SameOut w w'->next (a.put o2.dst v) w':=by
        intro v d ms' w' H' hFD' hr2 hl hok' hcv hso
        refine hn _ _ ⟨q+1,extE o2 d E,ms',(List.getElem?_eq_some_iff.1 hq).1,fun q' e' he'=>?_,hr2,fun t d2 ht=>?_,fun h=>by omega,hFD',?_⟩
        · by_cases hqq:q'=q
          · subst hqq
            have:e'=i:=by rw [hq] at he';exact (Option.some.inj he').symm
            simp [this]
          · have hne:e'≠i:=by
              intro e
              subst e
              rcases Nat.lt_or_gt_of_ne hqq with h | h
              · have:=(hch.chain q' q e' e' h he' hq).1;omega
              · have:=(hch.chain q q' e' e' h hq he').1;omega
            simp only [hne,decide_false,Bool.or_false]
            rw [hm q' e' he']
            omega
        · unfold extE at ht
          cases hd:o2.dst with
          | none =>
            rw [hd] at ht
            obtain ⟨e,o3,a1,a2,a3,a4⟩:=hE t d2 ht
            exact ⟨e,o3,a1,by simp [a2],a3,a4⟩
          | some t0 =>
            rw [hd] at ht
            simp only [Env.find] at ht
            cases hb:Nat.beq t0 t with
            | true=>exact ⟨i,o2,hie,by simp,ho,by rw [hd,Nat.eq_of_beq_eq_true hb]⟩
            | false =>
              rw [hb] at ht
              obtain ⟨e,o3,a1,a2,a3,a4⟩:=hE t d2 ht
              exact ⟨e,o3,a1,by simp [a2],a3,a4⟩
        · have hpe:envL (fun j=>(S j||decide (j=i)) && !(ef.contains j)) l ds 0 L=envL (fun j=>S j && !(ef.contains j)) l ds 0 L:=by
            congr 1
            funext j
            by_cases hji:j=i
            · subst hji;rw [List.contains_iff_mem.2 hie];simp
            · simp [hji]
          rw [hpe]
          refine ⟨⟨H',marks,PH.le_trans hle hl,hok',?_,by cases o2.dst <;> simpa [Act.put] using hdf⟩,by cases o2.dst <;> simp [Act.put,mm.size],mm.same.trans hso⟩
          unfold extE
          cases hd:o2.dst with
          | none=>exact henv.mono hl
          | some t0 =>
            have hlt:t0<Γ.N:=by simp only [dstOk,hd] at hdk;exact nB hdk
            exact (henv.mono hl).put (by rw [mm.size];exact hlt) hcv
      unfold GStep at hgs
      cases hg:o2.guard with
      | none =>
        rw [hg] at hgs
        simp only at hgs
        obtain ⟨R,hop,hrest⟩:=hgs
        simp only [Region.wanted,hg,if_true]
        refine hop Γ.round H (marks.map markA++Γ.fr) a w hok hsub next _ ?_
        intro v d ms' w' H' hR hl hok' hcv hso
        exact fin v d ms' w' H' (fun hc=>(hrest d ms' hR).1 (by rw [List.length_drop];omega)) (hrest d ms' hR).2 hl hok' hcv hso
      | some qq =>
        obtain ⟨j,want⟩:=qq
        rw [hg] at hgs
        simp only at hgs
        obtain ⟨s,u,h1,h2,h3⟩:=hgs
        have hfnd:=hag s _ (by simp [At,hg,h1]) h2
        rcases h3 with ⟨b,hu,h3⟩ | ⟨hu,h4⟩
        · subst hu
          have hy:=Do (ops:=l.toArray) mm (j:=j) (t:=s) (b:=b) (by simpa using h1) hfnd
          simp only [Region.wanted,hg,hy]
          rcases h3 with ⟨h3,R,hop,hrest⟩ | ⟨h3,h4⟩
          · have hbq:(some b == some want)=true:=by rw [h3];simp
            rw [if_pos hbq]
            refine hop Γ.round H (marks.map markA++Γ.fr) a w hok hsub next _ ?_
            intro v d ms' w' H' hR hl hok' hcv hso
            exact fin v d ms' w' H' (fun hc=>(hrest d ms' hR).1 (by rw [List.length_drop];omega)) (hrest d ms' hR).2 hl hok' hcv hso
          · have hbq:(some b == some want)=false:=by rw [h3];cases want <;> rfl
            rw [if_neg (by rw [hbq];simp)]
            exact ⟨fun _ _=>trivial,fin undef (.v undef) msx w H (fun hc=>h4.1 (by rw [List.length_drop];omega)) h4.2 (PH.le_refl H) hok (conc_v.2 rfl) (SameOut.refl w)⟩
        · subst hu
          have hy:=CG (ops:=l.toArray) mm (j:=j) (t:=s) (by simpa using h1) hfnd
          simp only [Region.wanted,hg,hy]
          rw [if_neg (by cases want <;> simp)]
          exact ⟨fun _ _=>trivial,fin undef (.v undef) msx w H (fun hc=>h4.1 (by rw [List.length_drop];omega)) h4.2 (PH.le_refl H) hok (conc_v.2 rfl) (SameOut.refl w)⟩
    ·
      obtain ⟨d,hd⟩:∃ d,ds[i]? = some d:=⟨ds[i]'(by omega),by simp⟩
      obtain ⟨hdst,hst⟩:=hstep i o d hie ho hd
      have hnoE:∀ s,s∈At l o->Env.find E s=none:=by
        intro s hs
        cases hq:Env.find E s with
        | none=>rfl
        | some d2 =>
          obtain ⟨e,o3,a1,a2,a3,a4⟩:=hE s d2 hq
          obtain ⟨o4,b1,b3,_⟩:=hch.op e a1
          have:o4=o3:=by rw [a3] at b1;exact (Option.some.inj b1).symm
          subst this
          rcases (b3 s a4).2 i o ho hie with h5 | h5
          · exact absurd hs h5
          · have:=h5 S hc a2;rw [hunl] at this;cases this
      have agree:∀ s,s∈At l o->Env.find (E++envL (fun j=>S j && !(ef.contains j)) l ds 0 L) s=Env.find (envL (fun j=>decide (j<i) && !(ef.contains j)) l ds 0 L) s:=by
        intro s hsl
        rw [Bw,hnoE s hsl]
        refine BI l ds 0 L L (fun j o' hj hd'=>?_) rfl
        simp only [Nat.zero_add]
        cases hfj:ef.contains j with
        | true=>simp
        | false =>
          simp only [Bool.not_false,Bool.and_true]
          by_cases hji:j=i
          · subst hji;rw [hunl];simp
          · have hn':=hf.names i o j o' s ho hj (fun e=>hji e.symm) hd' (.inl hsl)
            by_cases hlt:j<i
            · have h1:=(hn' _ hcs).1 hlt (by simp)
              simp only [hji,decide_false,Bool.or_false] at h1
              rw [h1];simp [hlt]
            · cases hb:S j with
              | true=>have h1:=(hn' _ hc).2 (by omega) hb;rw [hunl] at h1;cases h1
              | false=>simp [hlt]
      have hsub:EnvOk H (Env.only (At l o) (envL (fun j=>decide (j<i) && !(ef.contains j)) l ds 0 L)) a.tmps:=by
        intro s d' hfnd
        obtain ⟨h1,h2⟩:=EE hfnd
        exact henv s d' (by rw [agree s h1];exact h2)
      have hcf:=Cv hie
      have nxt:∀ (v:Value) (w':World) (H':PH),PH.le H H'->HeapOk H' (msx++(marks.map markA++Γ.fr)) w'->Conc H' d v->SameOut w w'->next (a.put o.dst v) w':=by
        intro v w' H' hl hok' hcv hso
        refine hn _ _ ⟨m,E,msx,hmle,fun q e he=>?_,h2',fun t d2 ht=>?_,hm0,hFD,?_⟩
        · have hne:e≠i:=fun h=>hie (h▸List.mem_of_getElem? he)
          simp only [hne,decide_false,Bool.or_false]
          exact hm q e he
        · obtain ⟨e,o3,a1,a2,a3,a4⟩:=hE t d2 ht
          exact ⟨e,o3,a1,by simp [a2],a3,a4⟩
        · refine ⟨⟨H',marks,PH.le_trans hle hl,hok',?_,by cases o.dst <;> simpa [Act.put] using hdf⟩,by cases o.dst <;> simp [Act.put,mm.size],mm.same.trans hso⟩
          intro s d' hfnd
          by_cases hds:o.dst=some s
          · have hno:Env.find E s=none:=by
              cases hq:Env.find E s with
              | none=>rfl
              | some d2 =>
                obtain ⟨e,o3,a1,_,a3,a4⟩:=hE s d2 hq
                obtain ⟨o4,b1,b3,_⟩:=hch.op e a1
                have:o4=o3:=by rw [a3] at b1;exact (Option.some.inj b1).symm
                subst this
                exact absurd hds ((b3 s a4).1 i o ho (fun h=>hie (h▸a1)))
            rw [Bw,hno] at hfnd
            have hat:=ID (S:=fun j=>((S j||decide (j=i)) && !(ef.contains j))) l ds 0 i L o ho hd hds (by simp [hie]) (fun j o' hj hlo hd'=>by
              simp only [Nat.zero_add]
              have hn':=hf.names i o j o' s ho hlo (by omega) hd' (.inr hds)
              cases hb:S j with
              | true=>have h1:=(hn' _ hc).2 hj hb;rw [hunl] at h1;cases h1
              | false => have:¬ j=i:=by omega
                         simp [this])
            rw [hat] at hfnd
            simp only [Option.some.injEq] at hfnd
            subst hfnd
            have hsz:s<a.tmps.size:=by
              have:=hdst
              simp only [dstOk,hds] at this
              have:=nB this
              rw [mm.size];exact this
            simp only [hds,Act.put]
            simpa [Array.getD,hsz] using hcv
          · have hcg:Env.find (E++envL (fun j=>(S j||decide (j=i)) && !(ef.contains j)) l ds 0 L) s=Env.find (E++envL (fun j=>S j && !(ef.contains j)) l ds 0 L) s:=by
              rw [Bw,Bw]
              rw [BI l ds 0 L L (fun j o' hj hd'=>?_) rfl]
              simp only [Nat.zero_add]
              have:¬ j=i:=fun e=>by subst e;rw [ho] at hj;simp only [Option.some.injEq] at hj;subst hj;exact hds hd'
              simp [this]
            rw [hcg] at hfnd
            have h1:=(henv s d' hfnd).mono hl
            have h2:(a.put o.dst v).tmps.getD s undef=a.tmps.getD s undef:=by
              cases hod:o.dst with
              | none=>rfl
              | some q =>
                have hq:q≠s:=fun e=>hds (by rw [hod,e])
                simp [Act.put,Array.getD_eq_getD_getElem?,Array.getElem?_setIfInBounds,hq]
            rw [h2]
            exact h1
      obtain ⟨msi,rest,hp,hst⟩:∃ msi rest,msx.Perm (msi++rest)/\Step P l o (envL (fun j=>decide (j<i) && !(ef.contains j)) l ds 0 L) msi d:=by
        cases hfi:fd.contains i with
        | true =>
          refine ⟨msx,[],by simp,hfd msx (hFD ?_) i o d hfi ho hd⟩
          rcases Nat.lt_or_ge ef.length (cut+m) with h | h
          · have hp:ef.length - cut<ef.length:=by omega
            have hS1:S ef[ef.length - cut]=true:=(hm (ef.length - cut) _ (by simp [hp])).2 (by omega)
            have:=hlt i hfi _ (by simp [hp]) S hc hS1
            rw [hunl] at this;cases this
          · exact h
        | false =>
          rw [hfi] at hst
          simp only [Bool.not_false,Bool.and_true] at hst
          cases hfr:free.contains i with
          | true=>rw [hfr] at hst;exact ⟨[],msx,List.Perm.refl _,hst⟩
          | false =>
            rw [hfr] at hst
            have hm00:m=0:=by
              rcases Nat.eq_zero_or_pos m with h | h
              · exact h
              · have h0:0<ef.length:=by omega
                have hS0:S ef[0]=true:=(hm 0 ef[0] (by simp [h0])).2 h
                have hif:i∉free:=fun hh=>by rw [List.contains_iff_mem.2 hh] at hfr;cases hfr
                have:=hch.dep i hik hie hif ef[0] (by simp) S hc hS0
                rw [hunl] at this;cases this
            exact ⟨ms,[],by rw [hm0 hm00];simp,hst⟩
      have hokp:HeapOk H (msi++(rest++(marks.map markA++Γ.fr))) w:=hok.perm (by
        have:=hp.append_right (marks.map markA++Γ.fr)
        simpa [List.append_assoc] using this)
      have back:∀ {H':PH} {w':World},HeapOk H' (msi++(rest++(marks.map markA++Γ.fr))) w'->HeapOk H' (msx++(marks.map markA++Γ.fr)) w':=fun h=>h.perm (by
        have:=hp.symm.append_right (marks.map markA++Γ.fr)
        simpa [List.append_assoc] using this)
      unfold Step at hst
      cases hg:o.guard with
      | none =>
        rw [hg] at hst
        simp only at hst
        simp only [Region.wanted,hg,if_true]
        refine hst Γ.round H (rest++(marks.map markA++Γ.fr)) a w hokp hsub _ _ ?_
        rintro v d2 ms' w' H' ⟨rfl,rfl⟩ hl hok' hcv hso
        exact nxt v w' H' hl (back hok') hcv hso
      | some q =>
        obtain ⟨j,want⟩:=q
        rw [hg] at hst
        simp only at hst
        obtain ⟨s,u,h1,h2,h3⟩:=hst
        have hss:s∈At l o:=by simp [At,hg,h1]
        have hfnd:Env.find (E++envL (fun j=>S j && !(ef.contains j)) l ds 0 L) s=some (.v u):=by rw [agree s hss];exact h2
        rcases h3 with ⟨b,hu,h3⟩ | ⟨hu,h4⟩
        · subst hu
          have hy:=Do (ops:=l.toArray) mm (j:=j) (t:=s) (b:=b) (by simpa using h1) hfnd
          simp only [Region.wanted,hg,hy]
          rcases h3 with ⟨h3,h4⟩ | ⟨h3,h4⟩
          · have hbq:(some b == some want)=true:=by rw [h3];simp
            rw [if_pos hbq]
            refine h4 Γ.round H (rest++(marks.map markA++Γ.fr)) a w hokp hsub _ _ ?_
            rintro v d2 ms' w' H' ⟨rfl,rfl⟩ hl hok' hcv hso
            exact nxt v w' H' hl (back hok') hcv hso
          · have hbq:(some b == some want)=false:=by rw [h3];cases want <;> rfl
            rw [if_neg (by rw [hbq];simp)]
            exact ⟨fun _ _=>trivial,nxt undef w H (PH.le_refl H) hok (by rw [h4];exact conc_v.2 rfl) (SameOut.refl w)⟩
        · subst hu
          have hy:=CG (ops:=l.toArray) mm (j:=j) (t:=s) (by simpa using h1) hfnd
          simp only [Region.wanted,hg,hy]
          rw [if_neg (by cases want <;> simp)]
          exact ⟨fun _ _=>trivial,nxt undef w H (PH.le_refl H) hok (by rw [h4];exact conc_v.2 rfl) (SameOut.refl w)⟩
end
section
variable {Γ:Ctx} {P:Program} {L:Env} {ms:List Asrt} {K:KT} {l:List Oper}
def GDC (Γ:Ctx) (P:Program) (ops:List Oper) (ms:List Asrt) (K:KT) (cut:Nat) (ef free fd:List Nat):Nat->List Oper->Env->(List Asrt->Prop)->Prop
 | _,[],L,acc=>GDC2 Γ P ops K cut acc L ef [] ms
 | i,o::r,L,acc=>if ef.contains i=true then GDC Γ P ops ms K cut ef free fd (i+1) r L acc
  else ∃ d,dstOk o Γ.N/\Step P ops o L (if free.contains i && !(fd.contains i) then [] else ms) d/\GDC Γ P ops ms K cut ef free fd (i+1) r (ext o d L) (if fd.contains i then fun msx=>acc msx/\Step P ops o L msx d else acc)
theorem LK {ops:List Oper} {cut:Nat} {ef free fd:List Nat}:∀ (r:List Oper) (i:Nat) (L:Env) (acc:List Asrt->Prop),acc ms->GDC Γ P ops ms K cut ef free fd i r L acc ->
    ∃ (ds:List D) (FD:List Asrt->Prop),ds.length=r.length /\
      (∀ j o d,r[j]? = some o->ds[j]? = some d->ef.contains (i+j)=false->dstOk o Γ.N/\Step P ops o (envL (fun q=>decide (q<i+j) && !(ef.contains q)) r ds i L) (if free.contains (i+j) && !(fd.contains (i+j)) then [] else ms) d) /\
      (∀ msx,FD msx->acc msx/\∀ j o d,r[j]? = some o->ds[j]? = some d->ef.contains (i+j)=false->fd.contains (i+j)=true->Step P ops o (envL (fun q=>decide (q<i+j) && !(ef.contains q)) r ds i L) msx d)/\FD ms /\
      GDC2 Γ P ops K cut FD (envL (fun q => !(ef.contains q)) r ds i L) ef [] ms
  | [],i,L,acc,h0,h=>⟨[],acc,rfl,fun j o d hj=>by simp at hj,fun msx hm=>⟨hm,fun j o d hj=>by simp at hj⟩,h0,(show GDC2 Γ P ops K cut acc L ef [] ms from h)⟩
  | o::r,i,L,acc,h0,h=>by
    have hsh:∀ j,i+(j+1)=i+1+j:=fun j=>by omega
    unfold GDC at h
    cases hc:ef.contains i with
    | true =>
      rw [if_pos hc] at h
      obtain ⟨ds,FD,e1,e2,e4,e5,e3⟩:=LK r (i+1) L acc h0 h
      have hS:∀ m,(decide (i<m) && !(ef.contains i))=false:=fun m=>by rw [hc];simp
      refine ⟨.v undef::ds,FD,by simp [e1],fun j o' d' hj hdj hcj=>?_,fun msx hm=>⟨(e4 msx hm).1,fun j o' d' hj hdj hcj hfj=>?_⟩,e5,?_⟩
      · cases j with
        | zero=>rw [Nat.add_zero] at hcj;rw [hc] at hcj;cases hcj
        | succ j =>
          simp only [List.getElem?_cons_succ] at hj hdj
          rw [hsh] at hcj ⊢
          simp only [envL,hS,Bool.false_eq_true,if_false]
          exact e2 j o' d' hj hdj hcj
      · cases j with
        | zero=>rw [Nat.add_zero] at hcj;rw [hc] at hcj;cases hcj
        | succ j =>
          simp only [List.getElem?_cons_succ] at hj hdj
          rw [hsh] at hcj hfj ⊢
          simp only [envL,hS,Bool.false_eq_true,if_false]
          exact (e4 msx hm).2 j o' d' hj hdj hcj hfj
      · simp only [envL]
        rw [if_neg (by rw [hc];simp)]
        exact e3
    | false =>
      rw [if_neg (by rw [hc];simp)] at h
      obtain ⟨d,hdk,hst,hrest⟩:=h
      have h0':(if fd.contains i then fun msx=>acc msx/\Step P ops o L msx d else acc) ms:=by
        cases hf:fd.contains i with
        | true=>rw [hf] at hst;simp only [Bool.not_true,Bool.and_false,Bool.false_eq_true,if_false] at hst;exact ⟨h0,hst⟩
        | false=>exact h0
      obtain ⟨ds,FD,e1,e2,e4,e5,e3⟩:=LK r (i+1) (ext o d L) _ h0' hrest
      have hS:∀ j,(decide (i<i+1+j) && !(ef.contains i))=true:=fun j=>by rw [hc];simp;omega
      have hL0:envL (fun q=>decide (q<i+0) && !(ef.contains q)) (o::r) (d::ds) i L=L:=by
        rw [Nat.add_zero,DX _ _ _ _ (fun q hq=>by have:¬ q<i:=by omega
                                                  simp [this])]
      refine ⟨d::ds,FD,by simp [e1],fun j o' d' hj hdj hcj=>?_,fun msx hm=>?_,e5,?_⟩
      · cases j with
        | zero =>
          simp only [List.getElem?_cons_zero,Option.some.injEq] at hj hdj
          subst hj hdj
          exact ⟨hdk,by rw [hL0];exact hst⟩
        | succ j =>
          simp only [List.getElem?_cons_succ] at hj hdj
          rw [hsh] at hcj ⊢
          simp only [envL,hS,if_true]
          exact e2 j o' d' hj hdj hcj
      · obtain ⟨hacc,hrest2⟩:=e4 msx hm
        have hacc':acc msx:=by
          cases hf:fd.contains i with
          | true=>rw [hf] at hacc;exact hacc.1
          | false=>rw [hf] at hacc;exact hacc
        refine ⟨hacc',fun j o' d' hj hdj hcj hfj=>?_⟩
        cases j with
        | zero =>
          simp only [List.getElem?_cons_zero,Option.some.injEq] at hj hdj
          subst hj hdj
          rw [hL0]
          rw [Nat.add_zero] at hfj
          rw [hfj] at hacc
          exact hacc.2
        | succ j =>
          simp only [List.getElem?_cons_succ] at hj hdj
          rw [hsh] at hcj hfj ⊢
          simp only [envL,hS,if_true]
          exact hrest2 j o' d' hj hdj hcj hfj
      · simp only [envL]
        rw [if_pos (by rw [hc];rfl)]
        exact e3
theorem IE {id:Nat} (cut:Nat) (ef free fd:List Nat) (hcut:(Nat.blt 0 cut&&Nat.ble cut ef.length)=true) (hlt:(fd.all fun i=>((masks l []).getD (ef.getD (ef.length - cut) 0) 0).testBit i)=true) (hm:P.follows .mixedOrders=true) (hf:flowB l l.length=true) (hch:No l ef free=true) (hfe:fd.all (fun i => !(ef.contains i))=true) (h:GDC Γ P l ms K cut ef free fd 0 l L (fun _=>True)):G Γ P (.region id l.toArray true) L ms K:=by
 intro a w m
 refine wpIn_region_draw fun t=>?_;simp only [Region.schedule,hm,Bool.true_or,if_true]
 have hfo:=JP hf
 obtain ⟨ds,FD,e1,e2,e4,e5,e3⟩:=LK _ _ _ _ trivial h;simp only [Nat.zero_add] at e2 e4
 have hM:Kh l (masks l []):=HY l l [] (fun j=>by simp) (fun j m hj=>by simp at hj)
 refine NE (cut:=cut) (fun i hi e he S hS hSe=>by
  have h6:=List.all_eq_true.1 hlt i (List.contains_iff_mem.1 hi)
  rw [List.getD_eq_getElem?_getD (l:=ef),he,Option.getD_some] at h6
  cases hacc:(masks l [])[e]? with
  | none=>rw [List.getD_eq_getElem?_getD,hacc] at h6;simp at h6
  | some m=>rw [List.getD_eq_getElem?_getD,hacc] at h6;exact hM e m hacc i h6 S hS hSe) (by rw [Bool.and_eq_true] at hcut;exact ⟨nB hcut.1,nB hcut.2⟩) (L:=L) (ms:=ms) (fd:=fd) hfo (O5 hch) ds e1 ?_ (fun msx hm i o d hfi ho hd=>(e4 msx hm).2 i o d ho hd (by
  have:=List.all_eq_true.1 hfe i (List.contains_iff_mem.1 hfi)
  simpa using this) hfi) e5 e3 l.toArray.size (Array.replicate l.toArray.size false) t a { w with drawn:=w.drawn+1 } (by simp) ?_ ?_ ?_ ?_
 ·intro i o d hie ho hd
  exact e2 i o d ho hd (Cv hie)
 ·intro j o hj hS
  simp [Array.getD] at hS
 ·intro i _;simp [Array.getD]
 ·have:=List.length_filter_le (fun i => !(Array.replicate l.toArray.size false).getD i false) (List.range l.length)
  simpa using this
 ·have hz:∀ j,(Array.replicate l.toArray.size false).getD j false=false:=fun j=>by simp [Array.getD]
  refine ⟨0,[],ms,Nat.zero_le _,fun q e he=>by rw [hz];simp,by simpa using e3,fun t d ht=>by simp [Env.find] at ht,fun _=>rfl,fun _=>e5,?_⟩;rw [List.nil_append,DX _ _ _ _ (fun q _=>by rw [hz];rfl)];obtain ⟨H,marks,hle,hok,henv,hdf⟩:=m.ex;exact ⟨⟨H,marks,hle,hok.drew _,henv,hdf⟩,m.size,⟨m.same.os,m.same.output,m.same.tape,m.same.size⟩⟩
theorem Fo {ops r:List Oper} {cut:Nat} {ef free fd:List Nat} {acc:List Asrt->Prop} {n:Nat} {o:Oper} (hc:ef.contains n=true) (k:GDC Γ P ops ms K cut ef free fd (n+1) r L acc):GDC Γ P ops ms K cut ef free fd n (o::r) L acc:=by
 unfold GDC;rw [if_pos hc];exact k
theorem FH {ops r:List Oper} {cut:Nat} {ef free fd:List Nat} {acc:List Asrt->Prop} {n:Nat} {o:Oper} {d:D} {i:Nat} {msi:List Asrt} (hc:ef.contains n=false) (hnf:fd.contains n=false) (hms:(if free.contains n then [] else ms)=msi) (hg:o.guard=none) (hd:o.dst=some i) (hi:Nat.blt i Γ.N=true) (h:OpP P o (Env.only (At ops o) L) msi d) (k:GDC Γ P ops ms K cut ef free fd (n+1) r ((i,d)::L) acc):GDC Γ P ops ms K cut ef free fd n (o::r) L acc:=by
 unfold GDC;rw [if_neg (by rw [hc];simp),hnf];simp only [Bool.not_false,Bool.and_true,Bool.false_eq_true,if_false];rw [hms];refine ⟨d,by simp only [dstOk,hd];exact hi,by simp only [Step,hg];exact h,?_⟩;simp only [ext,hd];exact k
theorem Mu {ops r:List Oper} {cut:Nat} {ef free fd:List Nat} {acc:List Asrt->Prop} {n:Nat} {o:Oper} {d:D} {i:Nat} (hc:ef.contains n=false) (hnf:fd.contains n=true) (hg:o.guard=none) (hd:o.dst=some i) (hi:Nat.blt i Γ.N=true) (h:OpP P o (Env.only (At ops o) L) ms d) (k:GDC Γ P ops ms K cut ef free fd (n+1) r ((i,d)::L) (fun msx=>acc msx/\OpP P o (Env.only (At ops o) L) msx d)):GDC Γ P ops ms K cut ef free fd n (o::r) L acc:=by
 unfold GDC;rw [if_neg (by rw [hc];simp),hnf];simp only [Bool.not_true,Bool.and_false,Bool.false_eq_true,if_false,if_true]
 have hs:∀ m,Step P ops o L m d=OpP P o (Env.only (At ops o) L) m d:=fun m=>by simp only [Step,hg]
 refine ⟨d,by simp only [dstOk,hd];exact hi,by rw [hs];exact h,?_⟩;simp only [hs];simp only [ext,hd];exact k
theorem KV {ops:List Oper} {cut:Nat} {ef free fd:List Nat} {acc:List Asrt->Prop} {n:Nat} (h:GDC2 Γ P ops K cut acc L ef [] ms):GDC Γ P ops ms K cut ef free fd n [] L acc:=h
theorem E2 {ops:List Oper} {cut:Nat} {FD:List Asrt->Prop} {E:Env} {msx:List Asrt} {e i:Nat} {es:List Nat} {o:Oper} {R:D->List Asrt->Prop} (ho:ops[e]? = some o) (hg:o.guard=none) (hd:o.dst=some i) (hi:Nat.blt i Γ.N=true) (h:OpT P o (Env.only (At ops o) (E++L)) msx R) (k:∀ d ms',R d ms'->(cut<=es.length->FD ms')/\GDC2 Γ P ops K cut FD L es ((i,d)::E) ms'):GDC2 Γ P ops K cut FD L (e::es) E msx:=by
 intro o' ho'
 have:o'=o:=by rw [ho] at ho';exact (Option.some.inj ho').symm
 subst this;refine ⟨by simp only [dstOk,hd];exact hi,?_⟩;unfold GStep;rw [hg];refine ⟨R,h,fun d ms' hR=>?_⟩
 have:=k d ms' hR
 simpa [extE,hd] using this
theorem MX {ops:List Oper} {cut:Nat} {FD:List Asrt->Prop} {E:Env} {msx:List Asrt} {e:Nat} {es:List Nat} {o:Oper} {R:D->List Asrt->Prop} (ho:ops[e]? = some o) (hg:o.guard=none) (hd:o.dst=none) (h:OpT P o (Env.only (At ops o) (E++L)) msx R) (k:∀ d ms',R d ms'->(cut<=es.length->FD ms')/\GDC2 Γ P ops K cut FD L es E ms'):GDC2 Γ P ops K cut FD L (e::es) E msx:=by
 intro o' ho'
 have:o'=o:=by rw [ho] at ho';exact (Option.some.inj ho').symm
 subst this;refine ⟨by simp only [dstOk,hd],?_⟩;unfold GStep;rw [hg];refine ⟨R,h,fun d ms' hR=>?_⟩
 have:=k d ms' hR
 simpa [extE,hd] using this
theorem Jd {ops:List Oper} {cut:Nat} {FD:List Asrt->Prop} {E:Env} {msx:List Asrt} (h:K .normal (E++L) msx):GDC2 Γ P ops K cut FD L [] E msx:=h
end
section
end
section
variable {P:Program} {L:Env} {ms:List Asrt} {dst:Option Nat} {ty:TypeId} {pos:String} {after:Array Edge} {g:Option (Nat×Bool)} {d:D}
end
end Go.V
set_option linter.unusedSectionVars false
namespace Go.V
def treeB (l:List Oper) (ef:List Nat):Bool:=
 let M:=masks l []
 (ef.all fun e=>Nat.blt e l.length) &&
 (ef.all fun e=>match l[e]? with
  | some o=>(l.zipIdx.all fun (o',j)=>(match o.dst with
    | some t=>(Nat.beq e j || !(o'.dst == some t))&&(ef.contains j || !((At l o').contains t)||(M.getD e 0).testBit j)
    | none=>true) &&
    (Nat.ble j e||ef.contains j||(match o'.dst with | some t => !((At l o).contains t) | none=>true)))
  | none=>false)
def depB (l:List Oper) (e e':Nat):Bool := !(Nat.beq e e')&&((masks l []).getD e 0).testBit e'
structure TreeOk (l:List Oper) (ef:List Nat) (dep:Nat->Nat->Bool):Prop where
 lt:∀ e∈ef,e<l.length
 dep:∀ e e',dep e e'=true->e'≠e/\∀ S,Cb l S->S e=true->S e'=true
 op:∀ e∈ef,∃ o,l[e]? = some o/\(∀ t,o.dst=some t->(∀ j o',l[j]? = some o'->j≠e->o'.dst≠some t)/\∀ j o',l[j]? = some o'->j∉ef->t∉At l o'\/∀ S,Cb l S->S e=true->S j=true)/\∀ j o' t,e<j->j∉ef->l[j]? = some o'->o'.dst=some t->t∉At l o
theorem UZ {l:List Oper} {ef:List Nat} (h:treeB l ef=true):TreeOk l ef (depB l):=by
 have hM:Kh l (masks l []):=HY l l [] (fun j=>by simp) (fun j m hj=>by simp at hj)
 have use:∀ i j S,Cb l S->((masks l []).getD i 0).testBit j=true->S i=true->S j=true:=by
  intro i j S hS hb hi
  cases hacc:(masks l [])[i]? with
  | none=>rw [List.getD_eq_getElem?_getD,hacc] at hb;simp at hb
  | some m=>rw [List.getD_eq_getElem?_getD,hacc] at hb;exact hM i m hacc j hb S hS hi
 unfold treeB at h;simp only [Bool.and_eq_true,List.all_eq_true] at h;obtain ⟨h1,h3⟩:=h;refine ⟨fun e he=>nB (h1 e he),fun e e' hd=>?_,fun e he=>?_⟩
 ·unfold depB at hd
  rw [Bool.and_eq_true,Bool.not_eq_true'] at hd;exact ⟨fun e0=>(by subst e0;rw [Nat.beq_refl] at hd;cases hd.1),fun S hS hSe=>use e e' S hS hd.2 hSe⟩
 ·have:=h3 e he
  split at this
  ·rename_i o ho
   simp only [List.all_eq_true] at this
   have hall:=this
   simp only [Bool.and_eq_true] at hall;refine ⟨o,ho,fun t ht=>⟨fun j o' hj hne=>?_,fun j o' hj hje=>?_⟩,fun j o' t hlt hje hj ht=>?_⟩
   ·have:=(hall (o',j) (List.mem_zipIdx_iff_getElem?.2 (by simpa using hj))).1
    rw [ht] at this;simp only [Bool.and_eq_true,Bool.or_eq_true,Bool.not_eq_true'] at this
    rcases this.1 with h5 | h5
    ·exact absurd (Nat.eq_of_beq_eq_true h5).symm hne
    ·intro e;rw [e] at h5;simp at h5
   ·have:=(hall (o',j) (List.mem_zipIdx_iff_getElem?.2 (by simpa using hj))).1
    rw [ht] at this;simp only [Bool.and_eq_true,Bool.or_eq_true,Bool.not_eq_true',Cv hje,Bool.false_eq_true,false_or] at this
    rcases this.2 with h5 | h5
    ·refine .inl fun hm=>?_
     rw [List.contains_iff_mem.2 hm] at h5;cases h5
    ·exact .inr fun S hS hSe=>use e j S hS h5 hSe
   ·have:=(hall (o',j) (List.mem_zipIdx_iff_getElem?.2 (by simpa using hj))).2
    rw [ht] at this
    have hnb:Nat.ble j e=false:=by
     cases hb:Nat.ble j e with
     | true=>have:=nB hb;omega
     | false=>rfl
    simp only [Bool.or_eq_true,hnb,Cv hje,Bool.false_eq_true,false_or,Bool.not_eq_true'] at this
    intro hm
    rw [List.contains_iff_mem.2 hm] at this;cases this
  ·cases this
section
variable {Γ:Ctx} {P:Program} {L:Env} {ms:List Asrt} {K:KT} {l:List Oper}
def GDT (Γ:Ctx) (P:Program) (ops:List Oper) (K:KT) (L:Env) (dep:Nat->Nat->Bool):Nat->List Nat->Env->List Asrt->Prop
 | 0,_,_,_=>False
 | n+1,R,E,ms=>(R=[]->K .normal (E++L) ms)/\∀ e∈R,(R.all fun e' => !(dep e e'))=true->∀ o,ops[e]? = some o->dstOk o Γ.N/\GStep P ops o (E++L) ms (fun d ms'=>GDT Γ P ops K L dep n (R.erase e) (extE o d E) ms') (GDT Γ P ops K L dep n (R.erase e) (extE o (.v undef) E) ms)
theorem RQ {ef:List Nat} {dep:Nat->Nat->Bool} (hf:FlowOk l l.length) (hch:TreeOk l ef dep) (hnd:ef.Nodup) (ds:List D) (hlen:ds.length=l.length)
    (hstep:∀ (i:Nat) o d,i∉ef->l[i]? = some o->ds[i]? = some d->dstOk o Γ.N/\Step P l o (envL (fun j=>decide (j<i) && !(ef.contains j)) l ds 0 L) [] d)
    (h2:GDT Γ P l K (envL (fun j => !(ef.contains j)) l ds 0 L) dep (ef.length+1) ef [] ms) :
    ∀ (fuel:Nat) (listed:Array Bool) (t:Nat) (a:Act) (w:World),listed.size=l.length->Cb l (fun j=>listed.getD j false)->(∀ i,l.length<=i->listed.getD i false=false) ->
      ((List.range l.length).filter (fun i => !listed.getD i false)).length<=fuel ->
      (∃ R E msx,R.Nodup/\(∀ e∈R,e∈ef)/\(∀ e∈ef,(listed.getD e false=true↔e∉R))/\GDT Γ P l K (envL (fun j => !(ef.contains j)) l ds 0 L) dep (R.length+1) R E msx/\(∀ t d,Env.find E t=some d->∃ e o,e∈ef/\listed.getD e false=true/\l[e]? = some o/\o.dst=some t) /\
        Models Γ (E++envL (fun j=>listed.getD j false && !(ef.contains j)) l ds 0 L) msx a w) ->
      wpOpsIn (FR Γ.round) 0 P l.toArray (Post Γ K) (Region.linearise.go .any l.toArray fuel t listed []) a w:=by
  refine JJ hf (Nat.le_refl _) (fun S a w=>∃ R E msx,R.Nodup/\(∀ e∈R,e∈ef)/\(∀ e∈ef,(S e=true↔e∉R))/\GDT Γ P l K (envL (fun j => !(ef.contains j)) l ds 0 L) dep (R.length+1) R E msx/\(∀ t d,Env.find E t=some d->∃ e o,e∈ef/\S e=true/\l[e]? = some o/\o.dst=some t) /\
        Models Γ (E++envL (fun j=>S j && !(ef.contains j)) l ds 0 L) msx a w) ?_ ?_
  rotate_left
  · rintro a w ⟨R,E,msx,hRn,hRe,hm,h2,hE,mm⟩
    have hR0:R=[]:=by
      cases R with
      | nil=>rfl
      | cons e R =>
        have he:=hRe e (by simp)
        have h3:=(hm e he).1 (by simp [hch.lt e he])
        exact absurd (by simp) h3
    subst hR0
    replace h2:=h2.1 rfl
    have hee:envL (fun j=>decide (j<l.length) && !(ef.contains j)) l ds 0 L=envL (fun q => !(ef.contains q)) l ds 0 L:=by
      have:∀ (l':List Oper) (ds:List D) (k0:Nat) (L:Env),k0+l'.length<=l.length->envL (fun j=>decide (j<l.length) && !(ef.contains j)) l' ds k0 L=envL (fun q => !(ef.contains q)) l' ds k0 L:=by
        intro l'
        induction l' with
        | nil=>intro ds k0 L _;simp [envL]
        | cons o r ih =>
          intro ds k0 L hk
          cases ds with
          | nil=>simp [envL]
          | cons d ds =>
            simp only [List.length_cons] at hk
            have:decide (k0<l.length)=true:=by simp;omega
            simp only [envL,this,Bool.true_and]
            exact ih ds (k0+1) _ (by omega)
      exact this l ds 0 L (by omega)
    rw [hee] at mm
    rw [List.drop_length]
    exact ⟨_,_,h2,mm⟩
  · rintro S i o a w hc hik ho hunl hcs ⟨R,E,msx,hRn,hRe,hm,h2',hE,mm⟩ next hn
    obtain ⟨H,marks,hle,hok,henv,hdf⟩:=mm.ex
    by_cases hie:i∈ef
    ·
      have hiR:i∈R:=Classical.byContradiction fun h=>by have:=(hm i hie).2 h;rw [hunl] at this;cases this
      have hen:(R.all fun e' => !(dep i e'))=true:=by
        rw [List.all_eq_true]
        intro e' he'
        cases hd:dep i e' with
        | false=>rfl
        | true =>
          obtain ⟨hne,hcl⟩:=hch.dep i e' hd
          have h6:=hcl _ hcs (by simp)
          simp only [hne,decide_false,Bool.or_false] at h6
          exact absurd he' ((hm e' (hRe e' he')).1 h6)
      have hlen:(R.erase i).length+1=R.length:=by
        have:=List.length_erase_of_mem hiR
        have:=List.length_pos_of_mem hiR
        omega
      have h2':=h2'.2 i hiR hen
      obtain ⟨hdk,hgs⟩:=h2' o ho
      obtain ⟨o2,ho2,hdst,hlate⟩:=hch.op i hie
      obtain rfl:o2=o:=by rw [ho] at ho2;exact (Option.some.inj ho2).symm
      have hag:∀ s d',s∈At l o2->Env.find (E++envL (fun j => !(ef.contains j)) l ds 0 L) s=some d'->Env.find (E++envL (fun j=>S j && !(ef.contains j)) l ds 0 L) s=some d':=by
        intro s d' h3 h4
        rw [Bw] at h4 ⊢
        cases hq2:Env.find E s with
        | some d2=>rw [hq2] at h4;exact h4
        | none =>
          rw [hq2] at h4
          simp only at h4 ⊢
          rw [<- h4]
          refine BI l ds 0 L L (fun j o' hj hd'=>?_) rfl
          simp only [Nat.zero_add]
          cases hfj:ef.contains j with
          | true=>simp
          | false =>
            simp only [Bool.not_false,Bool.and_true]
            have hjf:j∉ef:=fun h=>by rw [List.contains_iff_mem.2 h] at hfj;cases hfj
            have hji:j≠i:=fun e=>hjf (e▸hie)
            have hn':=hf.names i o2 j o' s ho hj (fun e=>hji e.symm) hd' (.inl h3)
            rcases Nat.lt_or_gt_of_ne hji with hlt | hgt
            · have h5:=(hn' _ hcs).1 hlt (by simp)
              simpa [hji] using h5
            · exact absurd h3 (hlate j o' s hgt hjf hj hd')
      have hsub:EnvOk H (Env.only (At l o2) (E++envL (fun j => !(ef.contains j)) l ds 0 L)) a.tmps:=by
        intro s d' hfnd
        obtain ⟨h3,h4⟩:=EE hfnd
        exact henv s d' (hag s d' h3 h4)
      have fin:∀ v d ms' w' H',GDT Γ P l K (envL (fun j => !(ef.contains j)) l ds 0 L) dep R.length (R.erase i) (extE o2 d E) ms'->PH.le H H'->HeapOk H' (ms'++(marks.map markA++Γ.fr)) w'->Conc H' d v->SameOut w w'->next (a.put o2.dst v) w':=by
        intro v d ms' w' H' hr2 hl hok' hcv hso
        refine hn _ _ ⟨R.erase i,extE o2 d E,ms',hRn.erase i,fun e he=>hRe e (List.mem_of_mem_erase he),fun e' he'=>?_,by rw [hlen];exact hr2,fun t d2 ht=>?_,?_⟩
        · by_cases hei:e'=i
          · subst hei
            simp [hRn.mem_erase_iff]
          · rw [hRn.mem_erase_iff]
            simp only [hei,decide_false,Bool.or_false]
            rw [hm e' he']
            simp [hei]
        · unfold extE at ht
          cases hd:o2.dst with
          | none =>
            rw [hd] at ht
            obtain ⟨e,o3,a1,a2,a3,a4⟩:=hE t d2 ht
            exact ⟨e,o3,a1,by simp [a2],a3,a4⟩
          | some t0 =>
            rw [hd] at ht
            simp only [Env.find] at ht
            cases hb:Nat.beq t0 t with
            | true=>exact ⟨i,o2,hie,by simp,ho,by rw [hd,Nat.eq_of_beq_eq_true hb]⟩
            | false =>
              rw [hb] at ht
              obtain ⟨e,o3,a1,a2,a3,a4⟩:=hE t d2 ht
              exact ⟨e,o3,a1,by simp [a2],a3,a4⟩
        · have hpe:envL (fun j=>(S j||decide (j=i)) && !(ef.contains j)) l ds 0 L=envL (fun j=>S j && !(ef.contains j)) l ds 0 L:=by
            congr 1
            funext j
            by_cases hji:j=i
            · subst hji;rw [List.contains_iff_mem.2 hie];simp
            · simp [hji]
          rw [hpe]
          refine ⟨⟨H',marks,PH.le_trans hle hl,hok',?_,by cases o2.dst <;> simpa [Act.put] using hdf⟩,by cases o2.dst <;> simp [Act.put,mm.size],mm.same.trans hso⟩
          unfold extE
          cases hd:o2.dst with
          | none=>exact henv.mono hl
          | some t0 =>
            have hlt:t0<Γ.N:=by simp only [dstOk,hd] at hdk;exact nB hdk
            exact (henv.mono hl).put (by rw [mm.size];exact hlt) hcv
      unfold GStep at hgs
      cases hg:o2.guard with
      | none =>
        rw [hg] at hgs
        simp only at hgs
        obtain ⟨R,hop,hrest⟩:=hgs
        simp only [Region.wanted,hg,if_true]
        refine hop Γ.round H (marks.map markA++Γ.fr) a w hok hsub next _ ?_
        intro v d ms' w' H' hR hl hok' hcv hso
        exact fin v d ms' w' H' (hrest d ms' hR) hl hok' hcv hso
      | some qq =>
        obtain ⟨j,want⟩:=qq
        rw [hg] at hgs
        simp only at hgs
        obtain ⟨s,u,h1,h2,h3⟩:=hgs
        have hfnd:=hag s _ (by simp [At,hg,h1]) h2
        rcases h3 with ⟨b,hu,h3⟩ | ⟨hu,h4⟩
        · subst hu
          have hy:=Do (ops:=l.toArray) mm (j:=j) (t:=s) (b:=b) (by simpa using h1) hfnd
          simp only [Region.wanted,hg,hy]
          rcases h3 with ⟨h3,R,hop,hrest⟩ | ⟨h3,h4⟩
          · have hbq:(some b == some want)=true:=by rw [h3];simp
            rw [if_pos hbq]
            refine hop Γ.round H (marks.map markA++Γ.fr) a w hok hsub next _ ?_
            intro v d ms' w' H' hR hl hok' hcv hso
            exact fin v d ms' w' H' (hrest d ms' hR) hl hok' hcv hso
          · have hbq:(some b == some want)=false:=by rw [h3];cases want <;> rfl
            rw [if_neg (by rw [hbq];simp)]
            exact ⟨fun _ _=>trivial,fin undef (.v undef) msx w H h4 (PH.le_refl H) hok (conc_v.2 rfl) (SameOut.refl w)⟩
        · subst hu
          have hy:=CG (ops:=l.toArray) mm (j:=j) (t:=s) (by simpa using h1) hfnd
          simp only [Region.wanted,hg,hy]
          rw [if_neg (by cases want <;> simp)]
          exact ⟨fun _ _=>trivial,fin undef (.v undef) msx w H h4 (PH.le_refl H) hok (conc_v.2 rfl) (SameOut.refl w)⟩
    ·
      obtain ⟨d,hd⟩:∃ d,ds[i]? = some d:=⟨ds[i]'(by omega),by simp⟩
      obtain ⟨hdst,hst⟩:=hstep i o d hie ho hd
      have hnoE:∀ s,s∈At l o->Env.find E s=none:=by
        intro s hs
        cases hq:Env.find E s with
        | none=>rfl
        | some d2 =>
          obtain ⟨e,o3,a1,a2,a3,a4⟩:=hE s d2 hq
          obtain ⟨o4,b1,b3,_⟩:=hch.op e a1
          have:o4=o3:=by rw [a3] at b1;exact (Option.some.inj b1).symm
          subst this
          rcases (b3 s a4).2 i o ho hie with h5 | h5
          · exact absurd hs h5
          · have:=h5 S hc a2;rw [hunl] at this;cases this
      have agree:∀ s,s∈At l o->Env.find (E++envL (fun j=>S j && !(ef.contains j)) l ds 0 L) s=Env.find (envL (fun j=>decide (j<i) && !(ef.contains j)) l ds 0 L) s:=by
        intro s hsl
        rw [Bw,hnoE s hsl]
        refine BI l ds 0 L L (fun j o' hj hd'=>?_) rfl
        simp only [Nat.zero_add]
        cases hfj:ef.contains j with
        | true=>simp
        | false =>
          simp only [Bool.not_false,Bool.and_true]
          by_cases hji:j=i
          · subst hji;rw [hunl];simp
          · have hn':=hf.names i o j o' s ho hj (fun e=>hji e.symm) hd' (.inl hsl)
            by_cases hlt:j<i
            · have h1:=(hn' _ hcs).1 hlt (by simp)
              simp only [hji,decide_false,Bool.or_false] at h1
              rw [h1];simp [hlt]
            · cases hb:S j with
              | true=>have h1:=(hn' _ hc).2 (by omega) hb;rw [hunl] at h1;cases h1
              | false=>simp [hlt]
      have hsub:EnvOk H (Env.only (At l o) (envL (fun j=>decide (j<i) && !(ef.contains j)) l ds 0 L)) a.tmps:=by
        intro s d' hfnd
        obtain ⟨h1,h2⟩:=EE hfnd
        exact henv s d' (by rw [agree s h1];exact h2)
      have hcf:=Cv hie
      have nxt:∀ (v:Value) (w':World) (H':PH),PH.le H H'->HeapOk H' (msx++(marks.map markA++Γ.fr)) w'->Conc H' d v->SameOut w w'->next (a.put o.dst v) w':=by
        intro v w' H' hl hok' hcv hso
        refine hn _ _ ⟨R,E,msx,hRn,hRe,fun e he=>?_,h2',fun t d2 ht=>?_,?_⟩
        · have hne:e≠i:=fun h=>hie (h▸he)
          simp only [hne,decide_false,Bool.or_false]
          exact hm e he
        · obtain ⟨e,o3,a1,a2,a3,a4⟩:=hE t d2 ht
          exact ⟨e,o3,a1,by simp [a2],a3,a4⟩
        · refine ⟨⟨H',marks,PH.le_trans hle hl,hok',?_,by cases o.dst <;> simpa [Act.put] using hdf⟩,by cases o.dst <;> simp [Act.put,mm.size],mm.same.trans hso⟩
          intro s d' hfnd
          by_cases hds:o.dst=some s
          · have hno:Env.find E s=none:=by
              cases hq:Env.find E s with
              | none=>rfl
              | some d2 =>
                obtain ⟨e,o3,a1,_,a3,a4⟩:=hE s d2 hq
                obtain ⟨o4,b1,b3,_⟩:=hch.op e a1
                have:o4=o3:=by rw [a3] at b1;exact (Option.some.inj b1).symm
                subst this
                exact absurd hds ((b3 s a4).1 i o ho (fun h=>hie (h▸a1)))
            rw [Bw,hno] at hfnd
            have hat:=ID (S:=fun j=>((S j||decide (j=i)) && !(ef.contains j))) l ds 0 i L o ho hd hds (by simp [hie]) (fun j o' hj hlo hd'=>by
              simp only [Nat.zero_add]
              have hn':=hf.names i o j o' s ho hlo (by omega) hd' (.inr hds)
              cases hb:S j with
              | true=>have h1:=(hn' _ hc).2 hj hb;rw [hunl] at h1;cases h1
              | false => have:¬ j=i:=by omega
                         simp [this])
            rw [hat] at hfnd
            simp only [Option.some.injEq] at hfnd
            subst hfnd
            have hsz:s<a.tmps.size:=by
              have:=hdst
              simp only [dstOk,hds] at this
              have:=nB this
              rw [mm.size];exact this
            simp only [hds,Act.put]
            simpa [Array.getD,hsz] using hcv
          · have hcg:Env.find (E++envL (fun j=>(S j||decide (j=i)) && !(ef.contains j)) l ds 0 L) s=Env.find (E++envL (fun j=>S j && !(ef.contains j)) l ds 0 L) s:=by
              rw [Bw,Bw]
              rw [BI l ds 0 L L (fun j o' hj hd'=>?_) rfl]
              simp only [Nat.zero_add]
              have:¬ j=i:=fun e=>by subst e;rw [ho] at hj;simp only [Option.some.injEq] at hj;subst hj;exact hds hd'
              simp [this]
            rw [hcg] at hfnd
            have h1:=(henv s d' hfnd).mono hl
            have h2:(a.put o.dst v).tmps.getD s undef=a.tmps.getD s undef:=by
              cases hod:o.dst with
              | none=>rfl
              | some q =>
                have hq:q≠s:=fun e=>hds (by rw [hod,e])
                simp [Act.put,Array.getD_eq_getD_getElem?,Array.getElem?_setIfInBounds,hq]
            rw [h2]
            exact h1
      obtain ⟨msi,rest,hp,hst⟩:∃ msi rest,msx.Perm (msi++rest)/\Step P l o (envL (fun j=>decide (j<i) && !(ef.contains j)) l ds 0 L) msi d:=⟨[],msx,List.Perm.refl _,hst⟩
      have hokp:HeapOk H (msi++(rest++(marks.map markA++Γ.fr))) w:=hok.perm (by
        have:=hp.append_right (marks.map markA++Γ.fr)
        simpa [List.append_assoc] using this)
      have back:∀ {H':PH} {w':World},HeapOk H' (msi++(rest++(marks.map markA++Γ.fr))) w'->HeapOk H' (msx++(marks.map markA++Γ.fr)) w':=fun h=>h.perm (by
        have:=hp.symm.append_right (marks.map markA++Γ.fr)
        simpa [List.append_assoc] using this)
      unfold Step at hst
      cases hg:o.guard with
      | none =>
        rw [hg] at hst
        simp only at hst
        simp only [Region.wanted,hg,if_true]
        refine hst Γ.round H (rest++(marks.map markA++Γ.fr)) a w hokp hsub _ _ ?_
        rintro v d2 ms' w' H' ⟨rfl,rfl⟩ hl hok' hcv hso
        exact nxt v w' H' hl (back hok') hcv hso
      | some q =>
        obtain ⟨j,want⟩:=q
        rw [hg] at hst
        simp only at hst
        obtain ⟨s,u,h1,h2,h3⟩:=hst
        have hss:s∈At l o:=by simp [At,hg,h1]
        have hfnd:Env.find (E++envL (fun j=>S j && !(ef.contains j)) l ds 0 L) s=some (.v u):=by rw [agree s hss];exact h2
        rcases h3 with ⟨b,hu,h3⟩ | ⟨hu,h4⟩
        · subst hu
          have hy:=Do (ops:=l.toArray) mm (j:=j) (t:=s) (b:=b) (by simpa using h1) hfnd
          simp only [Region.wanted,hg,hy]
          rcases h3 with ⟨h3,h4⟩ | ⟨h3,h4⟩
          · have hbq:(some b == some want)=true:=by rw [h3];simp
            rw [if_pos hbq]
            refine h4 Γ.round H (rest++(marks.map markA++Γ.fr)) a w hokp hsub _ _ ?_
            rintro v d2 ms' w' H' ⟨rfl,rfl⟩ hl hok' hcv hso
            exact nxt v w' H' hl (back hok') hcv hso
          · have hbq:(some b == some want)=false:=by rw [h3];cases want <;> rfl
            rw [if_neg (by rw [hbq];simp)]
            exact ⟨fun _ _=>trivial,nxt undef w H (PH.le_refl H) hok (by rw [h4];exact conc_v.2 rfl) (SameOut.refl w)⟩
        · subst hu
          have hy:=CG (ops:=l.toArray) mm (j:=j) (t:=s) (by simpa using h1) hfnd
          simp only [Region.wanted,hg,hy]
          rw [if_neg (by cases want <;> simp)]
          exact ⟨fun _ _=>trivial,nxt undef w H (PH.le_refl H) hok (by rw [h4];exact conc_v.2 rfl) (SameOut.refl w)⟩
def GDU (Γ:Ctx) (P:Program) (ops:List Oper) (ms:List Asrt) (K:KT) (ef:List Nat) (dep:Nat->Nat->Bool):Nat->List Oper->Env->Prop
 | _,[],L=>GDT Γ P ops K L dep (ef.length+1) ef [] ms
 | i,o::r,L=>if ef.contains i=true then GDU Γ P ops ms K ef dep (i+1) r L
  else ∃ d,dstOk o Γ.N/\Step P ops o L [] d/\GDU Γ P ops ms K ef dep (i+1) r (ext o d L)
theorem LF {ops:List Oper} {ef:List Nat} {dep:Nat->Nat->Bool}:∀ (r:List Oper) (i:Nat) (L:Env),GDU Γ P ops ms K ef dep i r L ->
    ∃ ds:List D,ds.length=r.length /\
      (∀ j o d,r[j]? = some o->ds[j]? = some d->ef.contains (i+j)=false->dstOk o Γ.N/\Step P ops o (envL (fun q=>decide (q<i+j) && !(ef.contains q)) r ds i L) [] d) /\
      GDT Γ P ops K (envL (fun q => !(ef.contains q)) r ds i L) dep (ef.length+1) ef [] ms
  | [],i,L,h=>⟨[],rfl,fun j o d hj=>by simp at hj,(show GDT Γ P ops K L dep (ef.length+1) ef [] ms from h)⟩
  | o::r,i,L,h=>by
    have hsh:∀ j,i+(j+1)=i+1+j:=fun j=>by omega
    unfold GDU at h
    cases hc:ef.contains i with
    | true =>
      rw [if_pos hc] at h
      obtain ⟨ds,e1,e2,e3⟩:=LF r (i+1) L h
      have hS:∀ m,(decide (i<m) && !(ef.contains i))=false:=fun m=>by rw [hc];simp
      refine ⟨.v undef::ds,by simp [e1],fun j o' d' hj hdj hcj=>?_,?_⟩
      · cases j with
        | zero=>rw [Nat.add_zero] at hcj;rw [hc] at hcj;cases hcj
        | succ j =>
          simp only [List.getElem?_cons_succ] at hj hdj
          rw [hsh] at hcj ⊢
          simp only [envL,hS,Bool.false_eq_true,if_false]
          exact e2 j o' d' hj hdj hcj
      · simp only [envL]
        rw [if_neg (by rw [hc];simp)]
        exact e3
    | false =>
      rw [if_neg (by rw [hc];simp)] at h
      obtain ⟨d,hdk,hst,hrest⟩:=h
      obtain ⟨ds,e1,e2,e3⟩:=LF r (i+1) (ext o d L) hrest
      have hS:∀ j,(decide (i<i+1+j) && !(ef.contains i))=true:=fun j=>by rw [hc];simp;omega
      have hL0:envL (fun q=>decide (q<i+0) && !(ef.contains q)) (o::r) (d::ds) i L=L:=by
        rw [Nat.add_zero,DX _ _ _ _ (fun q hq=>by have:¬ q<i:=by omega
                                                  simp [this])]
      refine ⟨d::ds,by simp [e1],fun j o' d' hj hdj hcj=>?_,?_⟩
      · cases j with
        | zero =>
          simp only [List.getElem?_cons_zero,Option.some.injEq] at hj hdj
          subst hj hdj
          exact ⟨hdk,by rw [hL0];exact hst⟩
        | succ j =>
          simp only [List.getElem?_cons_succ] at hj hdj
          rw [hsh] at hcj ⊢
          simp only [envL,hS,if_true]
          exact e2 j o' d' hj hdj hcj
      · simp only [envL]
        rw [if_pos (by rw [hc];rfl)]
        exact e3
theorem Ju {id:Nat} (ef:List Nat) (hm:P.follows .mixedOrders=true) (hf:flowB l l.length=true) (hch:treeB l ef=true) (hnd:ef.Nodup) (dep:Nat->Nat->Bool) (hdep:depB l=dep) (h:GDU Γ P l ms K ef dep 0 l L):G Γ P (.region id l.toArray true) L ms K:=by
 subst hdep
 intro a w m
 refine wpIn_region_draw fun t=>?_;simp only [Region.schedule,hm,Bool.true_or,if_true]
 have hfo:=JP hf
 obtain ⟨ds,e1,e2,e3⟩:=LF _ _ _ h;simp only [Nat.zero_add] at e2;refine RQ (L:=L) (ms:=ms) hfo (UZ hch) hnd ds e1 ?_ e3 l.toArray.size (Array.replicate l.toArray.size false) t a { w with drawn:=w.drawn+1 } (by simp) ?_ ?_ ?_ ?_
 ·intro i o d hie ho hd
  exact e2 i o d ho hd (Cv hie)
 ·intro j o hj hS
  simp [Array.getD] at hS
 ·intro i _;simp [Array.getD]
 ·have:=List.length_filter_le (fun i => !(Array.replicate l.toArray.size false).getD i false) (List.range l.length)
  simpa using this
 ·have hz:∀ j,(Array.replicate l.toArray.size false).getD j false=false:=fun j=>by simp [Array.getD]
  refine ⟨ef,[],ms,hnd,fun e he=>he,fun e he=>by rw [hz];simp [he],e3,fun t d ht=>by simp [Env.find] at ht,?_⟩;rw [List.nil_append,DX _ _ _ _ (fun q _=>by rw [hz];rfl)];obtain ⟨H,marks,hle,hok,henv,hdf⟩:=m.ex;exact ⟨⟨H,marks,hle,hok.drew _,henv,hdf⟩,m.size,⟨m.same.os,m.same.output,m.same.tape,m.same.size⟩⟩
theorem EC {ops r:List Oper} {ef:List Nat} {dep:Nat->Nat->Bool} {n:Nat} {o:Oper} (hc:ef.contains n=true) (k:GDU Γ P ops ms K ef dep (n+1) r L):GDU Γ P ops ms K ef dep n (o::r) L:=by
 unfold GDU;rw [if_pos hc];exact k
theorem Bl {ops r:List Oper} {ef:List Nat} {dep:Nat->Nat->Bool} {n:Nat} {o:Oper} {d:D} {i:Nat} (hc:ef.contains n=false) (hg:o.guard=none) (hd:o.dst=some i) (hi:Nat.blt i Γ.N=true) (h:OpP P o (Env.only (At ops o) L) [] d) (k:GDU Γ P ops ms K ef dep (n+1) r ((i,d)::L)):GDU Γ P ops ms K ef dep n (o::r) L:=by
 unfold GDU;rw [if_neg (by rw [hc];simp)];refine ⟨d,by simp only [dstOk,hd];exact hi,by simp only [Step,hg];exact h,?_⟩;simp only [ext,hd];exact k
theorem KH {ops:List Oper} {ef:List Nat} {dep:Nat->Nat->Bool} {n:Nat} (h:GDT Γ P ops K L dep (ef.length+1) ef [] ms):GDU Γ P ops ms K ef dep n [] L:=h
def GDS (Γ:Ctx) (P:Program) (ops:List Oper) (K:KT) (L:Env) (dep:Nat->Nat->Bool) (n:Nat) (R:List Nat) (e:Nat) (E:Env) (ms:List Asrt):Prop:=
 ∀ o,ops[e]? = some o->dstOk o Γ.N/\GStep P ops o (E++L) ms (fun d ms'=>GDT Γ P ops K L dep n (R.erase e) (extE o d E) ms') (GDT Γ P ops K L dep n (R.erase e) (extE o (.v undef) E) ms)
def enT (dep:Nat->Nat->Bool) (R:List Nat):List Nat:=R.filter fun e=>R.all fun e' => !(dep e e')
section
variable {ops:List Oper} {dep:Nat->Nat->Bool} {n:Nat} {R:List Nat} {E:Env} {msx:List Asrt}
theorem T5 (hR:R≠[]) (h:∀ e∈enT dep R,GDS Γ P ops K L dep n R e E msx):GDT Γ P ops K L dep (n+1) R E msx:=by
 refine ⟨fun h0=>absurd h0 hR,fun e he hen=>h e ?_⟩;unfold enT;exact List.mem_filter.2 ⟨he,hen⟩
theorem U1 (h:K .normal (E++L) msx):GDT Γ P ops K L dep (n+1) [] E msx:=⟨fun _=>h,fun e he=>by cases he⟩
theorem Uh {e:Nat} (hen:enT dep R=[e]) (h:GDS Γ P ops K L dep n R e E msx):GDT Γ P ops K L dep (n+1) R E msx:=by
 refine T5 (fun h0=>by subst h0;cases hen) fun e' he=>?_;rw [hen,List.mem_singleton] at he;subst he;exact h
theorem UV {e e':Nat} (hen:enT dep R=[e,e']) (h:GDS Γ P ops K L dep n R e E msx) (h':GDS Γ P ops K L dep n R e' E msx):GDT Γ P ops K L dep (n+1) R E msx:=by
 refine T5 (fun h0=>by subst h0;cases hen) fun e2 he=>?_;rw [hen] at he;simp only [List.mem_cons,List.not_mem_nil,or_false] at he
 rcases he with rfl | rfl
 ·exact h
 ·exact h'
theorem A8 {e i:Nat} {R':List Nat} {o:Oper} {Q:D->List Asrt->Prop} (ho:ops[e]? = some o) (hg:o.guard=none) (hd:o.dst=some i) (hi:Nat.blt i Γ.N=true) (hR:R.erase e=R') (h:OpT P o (Env.only (At ops o) (E++L)) msx Q) (k:∀ d ms',Q d ms'->GDT Γ P ops K L dep n R' ((i,d)::E) ms'):GDS Γ P ops K L dep n R e E msx:=by
 intro o' ho'
 have:o'=o:=by rw [ho] at ho';exact (Option.some.inj ho').symm
 subst this;refine ⟨by simp only [dstOk,hd];exact hi,?_⟩;unfold GStep;rw [hg];refine ⟨Q,h,fun d ms' hQ=>?_⟩
 have:=k d ms' hQ
 rw [hR]
 simpa [extE,hd] using this
end
theorem JI {c:Code} {σ:Type _} (mod:σ->Env) (own:σ->List Asrt) (h:G Γ P c L ms (KT.then (fun L' ms'=>∃ s,(∀ t d,Env.find (mod s++L) t=some d->Env.find L' t=some d)/\ms'.Perm (own s)) K)) (k:∀ s,K .normal (mod s++L) (own s)):G Γ P c L ms K:=by
 intro a w m
 refine wpIn_mono (h a w m) ?_;rintro e a' w' ⟨L',ms',k',m'⟩
 cases e with
 | normal =>
  obtain ⟨s,h1,h2⟩:=k';exact ⟨_,_,k s,OJ (PU m' h1) h2⟩
 | _=>exact ⟨L',ms',k',m'⟩
theorem Cg {ops:List Oper} {dep:Nat->Nat->Bool} {n:Nat} {E:Env} {msx:List Asrt} {σ:Type _} {env:σ->Env} {own:σ->List Asrt} (s:σ) (h1:∀ t d,Env.find (env s) t=some d->Env.find (E++L) t=some d) (h2:msx.Perm (own s)) :
  GDT Γ P ops (KT.then (fun L' ms'=>∃ s,(∀ t d,Env.find (env s) t=some d->Env.find L' t=some d)/\ms'.Perm (own s)) K) L dep (n+1) [] E msx:=U1 ⟨s,h1,h2⟩
theorem Lx:∀ {E:Env} {t:Nat} {d:D},Env.find E t=some d->∃ p∈E,p.1=t
 | [],t,d,h=>by simp [Env.find] at h
 | (k,d0)::E,t,d,h=>by
  simp only [Env.find] at h
  cases hb:Nat.beq k t with
  | true=>exact ⟨(k,d0),by simp,Nat.eq_of_beq_eq_true hb⟩
  | false =>
   rw [hb] at h;obtain ⟨p,hp,e⟩:=Lx h;exact ⟨p,by simp [hp],e⟩
theorem E7 {M0 N0 B:Env} (h1:∀ p∈M0,Env.find (N0++B) p.1=Env.find (M0++B) p.1) (h2:∀ q∈N0,(Env.find M0 q.1).isSome=true\/Env.find B q.1=none):∀ t d,Env.find (M0++B) t=some d->Env.find (N0++B) t=some d:=by
 intro t d h
 cases hm:Env.find M0 t with
 | some d1 =>
  obtain ⟨p,hp,rfl⟩:=Lx hm;rw [h1 p hp];exact h
 | none =>
  rw [Bw,hm] at h
  simp only at h
  rw [Bw]
  cases hn:Env.find N0 t with
  | none=>exact h
  | some d1 =>
   obtain ⟨q,hq,rfl⟩:=Lx hn
   rcases h2 q hq with h3 | h3
   ·rw [hm] at h3;cases h3
   ·rw [h3] at h;cases h
end
end Go.V
namespace Go.V
section
variable {Γ:Ctx} {P:Program} {L:Env} {K:KT} {ops:List Oper} {dep:Nat->Nat->Bool} {n:Nat} {R:List Nat} {E:Env} {msx:List Asrt}
theorem V0 {e:Nat} {R':List Nat} {o:Oper} {Q:D->List Asrt->Prop} (ho:ops[e]? = some o) (hg:o.guard=none) (hd:o.dst=none) (hR:R.erase e=R') (h:OpT P o (Env.only (At ops o) (E++L)) msx Q) (k:∀ d ms',Q d ms'->GDT Γ P ops K L dep n R' E ms'):GDS Γ P ops K L dep n R e E msx:=by
 intro o' ho'
 have:o'=o:=by rw [ho] at ho';exact (Option.some.inj ho').symm
 subst this;refine ⟨by simp [dstOk,hd],?_⟩;unfold GStep;rw [hg];refine ⟨Q,h,fun d ms' hQ=>?_⟩
 have:=k d ms' hQ
 rw [hR]
 simpa [extE,hd] using this
end
end Go.V
namespace Go.V
def IterT (P:Program) (gf:FuncId) (caps:List D) {σ:Type} (s0:σ) (nx:σ->List D->List Asrt->σ->Prop) (fi:σ->Prop):Prop:=
 ∀ (y:D),(y.storable=true/\y.isAgg=false)->∀ (J:σ->List Asrt->Prop) (Jx:List Asrt->Prop),
  (∀ s ds As s' ms,nx s ds As s'->J s ms->FV P y ds (As++ms) (fun r ms'=>(r = .bool true/\J s' ms')\/(r = .bool false/\Jx ms'))) ->
  ∀ ms,J s0 ms->Fn P gf (y::caps) ms (fun _ ms'=>(∃ s,fi s/\J s ms')\/Jx ms')
theorem VS (As ms:List Asrt) (A B:Asrt) (fr:List Asrt):((As++A::B::ms)++fr).Perm ((As++ms)++A::B::fr):=by
 simp only [List.append_assoc,List.cons_append];refine List.Perm.append_left As ?_
 have h:=(List.perm_append_comm (l₁:=[A,B]) (l₂:=ms)).append_right fr
 simpa [List.append_assoc] using h
section
variable {Γ:Ctx} {P:Program} {L:Env} {ms:List Asrt} {K:KT}
theorem M2 {g:Operand} {ps:List Nat} {assign body:Code} {gf:FuncId} {caps:List D} {σ:Type} (s0:σ) (nx:σ->List D->List Asrt->σ->Prop) (fi:σ->Prop) (J:σ->List Asrt->Prop)
  (hg:Env.ev L g=some (.clo (.func gf) [] caps)) (hc:∀ args w,(callFunc gf args).run P w = .ok (.enter gf args) w) (hit:IterT P gf caps s0 nx fi) (h0:J s0 ms)
  (hlen:∀ s ds As s',nx s ds As s'->ds.length=ps.length) (hps:ps.all (fun p=>Nat.blt p Γ.N)=true)
  (round:∀ (Γ':Ctx) (s:σ) (ds:List D) (As:List Asrt) (s':σ) (ms':List Asrt),Γ'.N=Γ.N->nx s ds As s'->J s ms' ->
   G Γ' P assign (GL ps ds L) (As++ms') (KT.then (fun L' ms''=>∀ Γ'':Ctx,Γ''.N=Γ.N->G Γ'' P body L' ms'' (fun e _ ms3=>match e with | .normal=>J s' ms3 | .ret=>K .ret L ms3 | .exit id=>K (.exit id) L ms3 | _=>False)) (fun _ _ _=>False)))
  (hdone:∀ s ms',fi s->J s ms'->K .normal L ms'):G Γ P (.rangeFunc g ps.toArray assign body) L ms K:=by
 intro a w m
 obtain ⟨H,marks,hle,hok,henv,hdf⟩:=m.ex;refine wpIn_rangeFunc ?_
 intro fn hfn
 have hgv:=henv.ev hg
 rw [A7 (by rfl)] at hgv;simp only [Enc] at hgv;obtain ⟨us,ws,hvv,hus,hws⟩:=hgv;simp only [ConcL] at hus;subst hus;simp only [List.cons.injEq,and_true] at hvv;obtain ⟨l,marksN,W1,D,hent,hok1,hs1⟩:=Mq (P:=P) (H:=H) (a:=a) Γ.round (fun l hl=>by
  obtain ⟨A,hA,h⟩:=Γ.hround l hl;exact h H _ (hok.ok A (by simp [hA]))) hok fn ps.toArray assign body
 refine ⟨l,marksN.map markD,W1,{ target := .fn (.func gf) ws.toArray,args := #[.func (.yield l) #[] #[]] },W1,gf,#[.func (.yield l) #[] #[]]++ws.toArray,W1,hent,?_,fun _ _=>trivial,?_,by simp,?_⟩
 ·simp only [resolve,hvv]
  simp [Deferred.ofValue,Sem.run,Act.eval]
 ·simp [invoke,Sem.run,hc]
 ·obtain ⟨rec,hrec⟩:∃ rec:LoopState->Option Code->Loop,rec=fun st pe=>{ state:=st,pending:=pe,fn:=fn,tmps:=a.tmps,params:=ps.toArray,assign:=assign,body:=body,defers:=D }:=⟨_,rfl⟩
  have hrec0:({ state := .ready,pending:=none,fn:=fn,tmps:=a.tmps,params:=ps.toArray,assign:=assign,body:=body,defers:=D }:Loop)=rec .ready none:=by rw [hrec]
  rw [hrec0] at hok1
  let fA:=fact (fun H'=>EnvOk H' L a.tmps/\PH.le H H') (fun A B hl h=>⟨h.1.mono hl,PH.le_trans h.2 hl⟩)
  have key:=hit (.v (.func (.yield l) #[] #[])) ⟨rfl,rfl⟩ (fun s ms'=>∃ ms,J s ms/\ms'=recX l (rec .ready none)::fA::ms)
   (fun ms'=>∃ ms c,(match c with | .ret=>K .ret L ms | .exit id=>K (.exit id) L ms | _=>False)/\ms'=recX l (rec .done (some c))::fA::ms) ?_
   (recX l (rec .ready none)::fA::ms) ⟨ms,h0,rfl⟩
  ·have hokF:HeapOk H ((recX l (rec .ready none)::fA::ms)++(marksN.map markA++(marks.map markA++Γ.fr))) W1:=by
    have hp:(recX l (rec .ready none)::(marksN.map markA++(ms++(marks.map markA++Γ.fr)))).Perm ((recX l (rec .ready none)::ms)++(marksN.map markA++(marks.map markA++Γ.fr))):=by
     rw [List.cons_append];refine List.Perm.cons _ ?_;rw [<- List.append_assoc (marksN.map markA),<- List.append_assoc ms];exact (List.perm_append_comm).append_right _
    have h2:=hok1.perm hp
    refine ⟨h2.sub,?_,?_,?_⟩
    ·have:=h2.nodup
     simp only [List.cons_append,List.flatMap_cons] at this ⊢
     simpa [fA,fact] using this
    ·intro A hA b hb
     simp only [List.cons_append,List.mem_cons] at hA
     rcases hA with rfl | rfl | hA
     ·exact h2.lt (recX l (rec .ready none)) (by simp) b hb
     ·simp [fA,fact] at hb
     ·exact h2.lt A (by simp at hA ⊢;grind) b hb
    ·intro A hA
     simp only [List.cons_append,List.mem_cons] at hA
     rcases hA with rfl | rfl | hA
     ·exact h2.ok (recX l (rec .ready none)) (by simp)
     ·exact ⟨henv,PH.le_refl H⟩
     ·exact h2.ok A (by simp at hA ⊢;grind)
   have hcall:=key H _ W1 (.func (.yield l) #[] #[]::ws) hokF (by simp only [ConcL];exact ⟨_,_,rfl,⟨_,by simp only [Enc],rfl⟩,hws⟩)
   rw [show (Value.func (.yield l) #[] #[]::ws).toArray = #[Value.func (.yield l) #[] #[]]++ws.toArray by simp] at hcall;refine CallsIn.mono (Oo hcall Γ.round) ?_;rintro e w3 ⟨v,d,ms',H',rfl,hR,hle',hok',_,hs3⟩
   have fin:∀ (st:LoopState) (pe:Option Code) (ms2:List Asrt),st ≠ .busy->ms'=recX l (rec st pe)::fA::ms2 ->
     ∃ w4,(Instr.endLoop l).run P w3 = .ok pe w4/\Models Γ L ms2 { a with defers:=marksN.map markD++a.defers } w4:=by
    rintro st pe ms2 hst rfl
    have hl:w3.heap[l]? = some (.loop (rec st pe)):=hok'.ok (recX l (rec st pe)) (by simp)
    have hE:=run_endLoop (P:=P) hl (by rw [hrec];exact hst)
    have hp:(rec st pe).pending=pe:=by rw [hrec]
    have hE':(Instr.endLoop l).run P w3 = .ok pe (w3.putObj l (.loop { rec st pe with state := .exhausted })):=by
     rw [hE];congr 1
    refine ⟨_,hE',?_⟩;obtain ⟨f1,f2⟩:EnvOk H' L a.tmps/\PH.le H H':=hok'.ok fA (by simp)
    have h4:=hok'.put (A':=recX l { rec st pe with state := .exhausted }) (o' := .loop { rec st pe with state := .exhausted }) rfl rfl hl rfl (by
     simp only [recX];exact World.putObj_heap_same (Array.getElem?_eq_some_iff.1 hl).1)
    have h5:HeapOk H' (ms2++(marksN.map markA++(marks.map markA++Γ.fr))) (w3.putObj l (.loop { rec st pe with state := .exhausted })):=by
     have:HeapOk H' ([recX l { rec st pe with state := .exhausted },fA]++(ms2++(marksN.map markA++(marks.map markA++Γ.fr)))) (w3.putObj l (.loop { rec st pe with state := .exhausted })):=by simpa using h4
     exact this.drop
    refine ⟨⟨H',marksN++marks,PH.le_trans hle f2,?_,f1,?_⟩,m.size,((m.same.trans hs1).trans hs3).trans (ET _ _ _)⟩
    ·rw [List.map_append,List.append_assoc];exact h5
    ·simp [hdf]
   rcases hR with ⟨s,hfi,ms2,hJ,e2⟩ | ⟨ms2,c,hK,e2⟩
   ·obtain ⟨w4,h1,h2⟩:=fin _ _ ms2 (by simp) e2
    exact ⟨none,w4,h1,L,ms2,hdone s ms2 hfi hJ,h2⟩
   ·obtain ⟨w4,h1,h2⟩:=fin _ _ ms2 (by simp) e2
    refine ⟨some c,w4,h1,?_⟩
    cases c with
    | ret=>exact wpIn_ret ⟨L,ms2,hK,h2⟩
    | exit id=>exact wpIn_exit ⟨L,ms2,hK,h2⟩
    | _=>exact hK.elim
  ·
   rintro s ds As s' ms' hx ⟨ms2,hJ,rfl⟩
   intro H2 fr2 W v vs hok2 hv hvs
   have hl:W.heap[l]? = some (.loop (rec .ready none)):=hok2.ok (recX l (rec .ready none)) (by simp)
   obtain ⟨f1,f2⟩:EnvOk H2 L a.tmps/\PH.le H H2:=hok2.ok fA (by simp)
   have hdl:ds.length=ps.length:=hlen s ds As s' hx
   have hvl:vs.length=ps.length:=by rw [ConcL.length ds vs hvs,hdl]
   refine ⟨_,_,_,conc_v.1 hv,.inr ⟨l,fn,(ps.zip vs).foldl (fun t (p:Nat×Value)=>t.setIfInBounds p.1 p.2) a.tmps,assign,body,rfl,?_,?_⟩⟩
   ·have hy:=run_yield (P:=P) (args:=vs.toArray) hl (by rw [hrec];simp [hvl])
    rw [hrec] at hy;rw [show (#[]:Array Value)++vs.toArray=vs.toArray by simp];rw [hy]
    congr 2
    rw [<- Array.foldl_toList]
    simp
   ·have hN1:∀ p∈ps,p<a.tmps.size:=fun p hp=>by
     rw [m.size];exact nB (List.all_eq_true.1 hps p hp)
    let Γ1:Ctx:=⟨H2,recX l (rec .ready none)::fA::fr2,Γ.N,some l,W,fun l' e=>by
     cases e;exact ⟨recX l (rec .ready none),by simp,fun H h o=>⟨_,o⟩⟩⟩
    have hM1:Models Γ1 (GL ps ds L) (As++ms2) { tmps:=(ps.zip vs).foldl (fun t (p:Nat×Value)=>t.setIfInBounds p.1 p.2) a.tmps,defers:=[] } W:=by
     refine ⟨⟨H2,[],PH.le_refl _,hok2.perm ?_,MZ ps ds vs L _ hN1 hdl.symm hvs f1,rfl⟩,by simp only [JV];exact m.size,SameOut.refl _⟩;simp only [List.map_nil,List.nil_append,Γ1,List.cons_append];exact VS As ms2 _ _ _
    refine roundIn_of_wpIn (F:=FR none) trivial ?_;refine wpIn_mono (round Γ1 s ds As s' ms2 rfl hx hJ _ W hM1) ?_;rintro e a1 w1 ⟨L',ms'',k',m'⟩
    cases e with
    | normal =>
     obtain ⟨H3,marks',hle3,hok3,henv3,hdf3⟩:=m'.ex
     have hl1:w1.heap[l]? = some (.loop (rec .ready none)):=hok3.ok (recX l (rec .ready none)) (by simp [Γ1])
     have hst:(rec .ready none).state = .ready:=by rw [hrec]
     refine ⟨_,run_beginRound hl1 hst,?_⟩;obtain ⟨w2,hw2⟩:∃ w2,w1.putObj l (.loop { rec .ready none with state := .busy })=w2:=⟨_,rfl⟩
     have hb2:w2.heap[l]? = some (.loop { rec .ready none with state := .busy }):=by
      rw [<- hw2];exact World.putObj_heap_same (Array.getElem?_eq_some_iff.1 hl1).1
     let Γ2:Ctx:=⟨H3,recX l { rec .ready none with state := .busy }::fA::fr2,Γ.N,some l,w2,fun l' e=>by
      cases e;exact ⟨recX l { rec .ready none with state := .busy },by simp,fun H h o=>⟨_,o⟩⟩⟩
     have hok4:HeapOk H3 (ms''++(marks'.map markA++Γ2.fr)) w2:=by
      have h1:=hok3.perm (Gq ms'' (marks'.map markA) (recX l (rec .ready none)) (fA::fr2))
      have h2:=h1.put (A':=recX l { rec .ready none with state := .busy }) (o' := .loop { rec .ready none with state := .busy }) rfl rfl hl1 rfl (by
       simp only [recX];rw [hw2];exact hb2)
      rw [hw2] at h2;exact h2.perm (Gq ms'' (marks'.map markA) _ (fA::fr2)).symm
     have hs2:SameOut w1 w2:=by rw [<- hw2];exact ET _ _ _
     rw [hw2];refine wpIn_mono (k' Γ2 rfl a1 w2 ⟨⟨H3,marks',PH.le_refl _,hok4,henv3,hdf3⟩,m'.size,SameOut.refl _⟩) ?_;rintro e a3 w3 ⟨L3,ms3,k3,m3⟩;obtain ⟨H4,marks4,hle4,hok5,henv4,hdf4⟩:=m3.ex
     have fin:∀ (jump:Option Code),∃ w4,(Instr.endRound l jump).run P w3 = .ok (.bool jump.isNone) w4/\HeapOk H4 ((recX l (rec (if jump.isNone then .ready else .done) jump)::fA::ms3)++fr2) w4/\SameOut w3 w4:=by
      intro jump
      have hl3:w3.heap[l]? = some (.loop { rec .ready none with state := .busy }):=hok5.ok (recX l { rec .ready none with state := .busy }) (by simp [Γ2])
      have hr:({ ({ rec .ready none with state := .busy }:Loop) with state:=if jump.isNone then .ready else .done,pending:=jump }:Loop)=rec (if jump.isNone then .ready else .done) jump:=by rw [hrec]
      have hE:=run_endRound (P:=P) jump hl3
      rw [hr] at hE;refine ⟨_,hE,?_,ET _ _ _⟩
      have h1:=hok5.perm (Gq ms3 (marks4.map markA) _ (fA::fr2))
      have h2:=h1.put (A':=recX l (rec (if jump.isNone then .ready else .done) jump)) (o' := .loop (rec (if jump.isNone then .ready else .done) jump)) rfl rfl hl3 rfl (by
       simp only [recX];exact World.putObj_heap_same (Array.getElem?_eq_some_iff.1 hl3).1)
      have h3:=h2.perm (NS _ ms3 (marks4.map markA) fA fr2)
      exact h3.drop
     have le4:PH.le H2 H4:=PH.le_trans hle3 hle4
     have hs3:SameOut W w3:=(m'.same.trans hs2).trans m3.same
     cases e with
     | normal =>
      obtain ⟨w4,h1,h2,h3⟩:=fin none;exact ⟨_,w4,h1,_,_,_,H4,rfl,.inl ⟨rfl,ms3,k3,rfl⟩,le4,h2,conc_v.2 rfl,hs3.trans h3⟩
     | ret =>
      obtain ⟨w4,h1,h2,h3⟩:=fin (some .ret);exact ⟨_,w4,h1,_,_,_,H4,rfl,.inr ⟨rfl,ms3,.ret,k3,rfl⟩,le4,h2,conc_v.2 rfl,hs3.trans h3⟩
     | exit id =>
      obtain ⟨w4,h1,h2,h3⟩:=fin (some (.exit id));exact ⟨_,w4,h1,_,_,_,H4,rfl,.inr ⟨rfl,ms3,.exit id,k3,rfl⟩,le4,h2,conc_v.2 rfl,hs3.trans h3⟩
     | goto t=>exact k3.elim
     | panic ch=>exact k3.elim
     | outgrown=>exact k3.elim
    | exit id=>exact k'.elim
    | goto t=>exact k'.elim
    | ret=>exact k'.elim
    | panic ch=>exact k'.elim
    | outgrown=>exact k'.elim
end
end Go.V
namespace Go.V
structure NodeB (β:Type) where
 kind:Int
 a:Int
 b:Int
 fl:List β
 p:Option Addr
 m:Nat
 c:Nat
def NodeB.d {β:Type} (x:NodeB β):D := .agg [.i64 x.kind,.i64 x.a,.i64 x.b,.v (.slice x.p x.m x.c)]
section
variable {β:Type}
def NodeB.own (T:TypeId) (sz:Nat) (f:β->D) (x:NodeB β):Asrt:=arr x.p x.m x.c T sz f x.fl
def NodeB.shut (T:TypeId) (sz:Nat) (f:β->D) (x:NodeB β):Asrt:=row x.p x.c T sz f x.fl
def ownsB (T:TypeId) (sz:Nat) (f:β->D) (q:List (NodeB β)):List Asrt:=q.map (NodeB.own T sz f)
theorem IF {T:TypeId} {sz:Nat} {f:β->D} (q r:List (NodeB β)):ownsB T sz f (q++r)=ownsB T sz f q++ownsB T sz f r:=List.map_append ..
theorem LM {T:TypeId} {sz:Nat} {f:β->D} {q:List (NodeB β)} {i:Nat} {v:NodeB β} (h:q[i]? = some v):(ownsB T sz f q).Perm (v.own T sz f::ownsB T sz f (q.eraseIdx i)):=(Hk q i v h).map _
theorem Rn {T:TypeId} {sz:Nat} {f:β->D} {q:List (NodeB β)} {i:Nat} {v v':NodeB β} (h:q[i]? = some v):(v'.own T sz f::ownsB T sz f (q.eraseIdx i)).Perm (ownsB T sz f (q.set i v')):=by
 have hlt:=(List.getElem?_eq_some_iff.1 h).1
 have:=LM (T:=T) (sz:=sz) (f:=f) (q:=q.set i v') (i:=i) (v:=v') (by simp [hlt])
 rw [List.eraseIdx_set_eq] at this;exact this.symm
variable {L:Env} {ms:List Asrt}
theorem TL {T:TypeId} {sz:Nat} {f:β->D} {tl:List Asrt}:∀ (q:List (NodeB β)) (pre:List Asrt),Refines L (pre++(ownsB T sz f q++tl)) L (pre++(q.map (NodeB.shut T sz f)++tl))
 | [],pre=>CD (List.Perm.refl _)
 | x::q,pre=>by
  have h1:Refines L (pre++(ownsB T sz f (x::q)++tl)) L ((pre++[x.shut T sz f])++(ownsB T sz f q++tl)):=by
   refine F6 (a:=x.p) (m:=x.m) (cap:=x.c) (T:=T) (sz:=sz) (f:=f) (l:=x.fl) pre.length ?_ ?_
   ·rw [List.getElem?_append_right (Nat.le_refl _),Nat.sub_self];rfl
   ·rw [List.set_append_right _ _ (Nat.le_refl _),Nat.sub_self]
    simp [ownsB,NodeB.shut]
  have h2:=TL (T:=T) (sz:=sz) (f:=f) (tl:=tl) q (pre++[x.shut T sz f])
  have e:(pre++[x.shut T sz f])++(q.map (NodeB.shut T sz f)++tl)=pre++((x::q).map (NodeB.shut T sz f)++tl):=by simp
  rw [e] at h2
  intro Γ act w mm
  exact h2 Γ act w (h1 Γ act w mm)
theorem L4 {α:Type} {i:Nat} {a:Option Addr} {m cap:Nat} {T T2:TypeId} {sz2:Nat} {f:β->D} {q:List (NodeB β)} {g:α->D} {h:NodeB β->α} {r:Int} {tl:List Asrt} (hg:∀ x,g (h x) = .agg [.i64 x.kind,.i64 x.a,.i64 x.b,.list sz2 f x.fl])
  (hf:Env.find L i=some (.agg [.v (.slice a m cap),.i64 r])):Refines L (arr a m cap T 4 NodeB.d q::(ownsB T2 sz2 f q++tl)) ((i,.agg [.list 4 g (q.map h),.i64 r])::L) tl:=by
 intro Γ act w mm
 obtain ⟨hql,hfl⟩:q.length=m/\∀ x∈q,x.fl.length=x.m:=by
  obtain ⟨H,marks,hle,hok,henv,hdf⟩:=mm.ex;refine ⟨(hok.ok _ (by simp:arr a m cap T 4 NodeB.d q∈_)).1,fun x hx=>?_⟩;exact (hok.ok (x.own T2 sz2 f) (List.mem_append_left _ (List.mem_cons_of_mem _ (List.mem_append_left _ (List.mem_map.2 ⟨x,hx,rfl⟩))))).1
 have m1:=F6 (a:=a) (m:=m) (cap:=cap) (T:=T) (sz:=4) (f:=NodeB.d) (l:=q) 0 rfl (ms':=row a cap T 4 NodeB.d q::(ownsB T2 sz2 f q++tl)) rfl Γ act w mm
 have m2:=TL (T:=T2) (sz:=sz2) (f:=f) (tl:=tl) q [row a cap T 4 NodeB.d q] Γ act w m1
 obtain ⟨H,marks,hle,hok,henv,hdf⟩:=m2.ex
 have hnodes:=Jw (T:=T) (sz:=4) (f:=NodeB.d) (l:=q) (a:=a) (cap:=cap) hok (by simp)
 have hrows:∀ x∈q,Conc H (.list sz2 f x.fl) (.slice x.p x.m x.c):=fun x hx=>by
  have:=Jw (T:=T2) (sz:=sz2) (f:=f) (l:=x.fl) (a:=x.p) (cap:=x.c) hok (List.mem_append_left _ (List.mem_append_right _ (List.mem_append_left _ (List.mem_map.2 ⟨x,hx,rfl⟩))))
  rwa [hfl x hx] at this
 have hlist:Conc H (.list 4 g (q.map h)) (.slice a m cap):=by
  obtain ⟨a',cap',e1,e2,e3,e4⟩:=EB hnodes;simp only [Value.slice.injEq] at e1;obtain ⟨rfl,_,rfl⟩:=e1;rw [A7 (by rfl)];simp only [Enc];refine ⟨a,cap,by rw [List.length_map,hql],by rw [List.length_map];exact e2,e3,?_⟩
  rcases e4 with e4 | ⟨b,off,rfl,e4⟩
  ·exact .inl (by rw [e4];rfl)
  ·refine .inr ⟨b,off,rfl,fun j y hy=>?_⟩
   rw [List.getElem?_map] at hy
   cases hx:q[j]? with
   | none=>rw [hx] at hy;cases hy
   | some x =>
    rw [hx] at hy
    cases hy
    obtain ⟨us,u1,u2,u3⟩:=e4 j x hx;refine ⟨us,?_,u2,u3⟩;rw [hg]
    have hr:=(A7 (by rfl)).1 (hrows x (List.mem_of_getElem? hx))
    unfold NodeB.d at u1;simp only [Enc,EncL] at u1 ⊢;obtain ⟨v1,w1,rfl,q1,v2,w2,rfl,q2,v3,w3,rfl,q3,v4,w4,rfl,q4,q5⟩:=u1;refine ⟨v1,_,rfl,q1,v2,_,rfl,q2,v3,_,rfl,q3,v4,w4,rfl,?_,q5⟩;subst q4
    simpa only [Enc] using hr
 refine ⟨⟨H,marks,hle,?_,fun s d hs=>?_,hdf⟩,m2.size,m2.same⟩
 ·have hok':HeapOk H ((row a cap T 4 NodeB.d q::q.map (NodeB.shut T2 sz2 f))++(tl++(marks.map markA++Γ.fr))) w:=by simpa [List.append_assoc] using hok
  exact hok'.drop
 ·simp only [Env.find] at hs
  cases hb:Nat.beq i s with
  | true =>
   rw [hb] at hs
   have:=Nat.eq_of_beq_eq_true hb
   subst this;simp only [Option.some.injEq] at hs;subst hs;obtain ⟨ws,e1,e2⟩:=conc_agg.1 (henv i _ hf);refine conc_agg.2 ⟨ws,e1,?_⟩;simp only [EncL,Enc] at e2 ⊢;obtain ⟨v1,w1,rfl,q1,q2⟩:=e2;refine ⟨v1,w1,rfl,?_,q2⟩;subst q1
   have:=(A7 (by rfl)).1 hlist
   simpa only [Enc] using this
  | false=>rw [hb] at hs;exact henv s d hs
end
end Go.V
