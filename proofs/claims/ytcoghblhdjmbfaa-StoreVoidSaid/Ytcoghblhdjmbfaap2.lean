/- Part 2 of the proof: a program logic, what the functions compute, and what these answer; no condition. -/
import Derived.Test.Ytcoghblhdjmbfaap1
import Derived.Laws.RangeString
import Derived.Lib.Bytealg
import Derived.Sort.OwnSortedInts
import Derived.Lib.SlicesCompact
import Derived.Conc.LoneSelectN
import Derived.Conc.LoneSelect
import Derived.Laws.IdiomRangeMap
import Derived.Below
import Derived.Lib.ItoaNum
import Derived.Lib.Join
set_option linter.unusedVariables false
set_option linter.unusedSimpArgs false
namespace Go.V
def chainB (l : List Oper) (ef free : List Nat) : Bool :=
 let M := masks l []
 (ef.zipIdx.all fun (e, q) => Nat.blt e l.length && (ef.zipIdx.all fun (e', q') => !(Nat.blt q q') || (Nat.blt e e' && (M.getD e' 0).testBit e))) &&
 (l.zipIdx.all fun (_, i) => ef.contains i || free.contains i || ef.all fun e => (M.getD e 0).testBit i) &&
 (ef.all fun e => match l[e]? with
  | some o => (l.zipIdx.all fun (o', j) => (match o.dst with
    | some t => (Nat.beq e j || !(o'.dst == some t)) && (ef.contains j || !((slotsOf l o').contains t) || (M.getD e 0).testBit j)
    | none => true) &&
    (Nat.ble j e || ef.contains j || (match o'.dst with | some t => !((slotsOf l o).contains t) | none => true)))
  | none => false)
structure ChainOk (l : List Oper) (ef free : List Nat) : Prop where
 lt : ∀ e ∈ ef, e < l.length
 chain : ∀ (q q' e e' : Nat), q < q' -> ef[q]? = some e -> ef[q']? = some e' -> e < e' /\ ∀ S, Closed l S -> S e' = true -> S e = true
 dep : ∀ i < l.length, i ∉ ef -> i ∉ free -> ∀ e ∈ ef, ∀ S, Closed l S -> S e = true -> S i = true
 op : ∀ e ∈ ef, ∃ o, l[e]? = some o /\ (∀ t, o.dst = some t -> (∀ j o', l[j]? = some o' -> j ≠ e -> o'.dst ≠ some t) /\ ∀ j o', l[j]? = some o' -> j ∉ ef -> t ∉ slotsOf l o' \/ ∀ S, Closed l S -> S e = true -> S j = true) /\ ∀ j o' t, e < j -> j ∉ ef -> l[j]? = some o' -> o'.dst = some t -> t ∉ slotsOf l o
theorem contains_f {l : List Nat} {i : Nat} (h : i ∉ l) : l.contains i = false := by
 cases hb : l.contains i with
 | true => exact absurd (List.contains_iff_mem.1 hb) h
 | false => rfl
theorem chain_ok {l : List Oper} {ef free : List Nat} (h : chainB l ef free = true) : ChainOk l ef free := by
 have hM : MaskOk l (masks l []) := masks_ok l l [] (fun j => by simp) (fun j m hj => by simp at hj)
 have use : ∀ i j S, Closed l S -> ((masks l []).getD i 0).testBit j = true -> S i = true -> S j = true := by
  intro i j S hS hb hi
  cases hacc : (masks l [])[i]? with
  | none => rw [List.getD_eq_getElem?_getD, hacc] at hb; simp at hb
  | some m => rw [List.getD_eq_getElem?_getD, hacc] at hb; exact hM i m hacc j hb S hS hi
 unfold chainB at h;simp only [Bool.and_eq_true, List.all_eq_true] at h;obtain ⟨⟨h1, h2⟩, h3⟩ := h;refine ⟨fun e he => ?_, fun q q' e e' hq he he' => ?_, fun i hi hie hif e he S hS hSe => ?_, fun e he => ?_⟩
 ·obtain ⟨q, hq⟩ := List.getElem?_of_mem he
  exact nB (h1 (e, q) (List.mem_zipIdx_iff_getElem?.2 (by simpa using hq))).1
 ·have := (h1 (e, q) (List.mem_zipIdx_iff_getElem?.2 (by simpa using he))).2 (e', q') (List.mem_zipIdx_iff_getElem?.2 (by simpa using he'))
  simp only [Bool.or_eq_true, Bool.not_eq_true', Bool.and_eq_true] at this
  rcases this with h4 | ⟨h4, h5⟩
  ·have : Nat.blt q q' = true := Nat.ble_eq_true_of_le hq
   rw [this] at h4; cases h4
  ·exact ⟨nB h4, fun S hS hSe => use e' e S hS h5 hSe⟩
 ·have := h2 (l[i], i) (List.mem_zipIdx_iff_getElem?.2 (by simp [hi]))
  simp only [Bool.or_eq_true, List.all_eq_true, contains_f hie, contains_f hif, Bool.false_eq_true, false_or] at this;exact use e i S hS (this e he) hSe
 ·have := h3 e he
  split at this
  ·rename_i o ho
   simp only [List.all_eq_true] at this
   have hall := this
   simp only [Bool.and_eq_true] at hall;refine ⟨o, ho, fun t ht => ⟨fun j o' hj hne => ?_, fun j o' hj hje => ?_⟩, fun j o' t hlt hje hj ht => ?_⟩
   ·have := (hall (o', j) (List.mem_zipIdx_iff_getElem?.2 (by simpa using hj))).1
    rw [ht] at this;simp only [Bool.and_eq_true, Bool.or_eq_true, Bool.not_eq_true'] at this
    rcases this.1 with h5 | h5
    ·exact absurd (Nat.eq_of_beq_eq_true h5).symm hne
    ·intro e; rw [e] at h5; simp at h5
   ·have := (hall (o', j) (List.mem_zipIdx_iff_getElem?.2 (by simpa using hj))).1
    rw [ht] at this;simp only [Bool.and_eq_true, Bool.or_eq_true, Bool.not_eq_true', contains_f hje, Bool.false_eq_true, false_or] at this
    rcases this.2 with h5 | h5
    ·refine .inl fun hm => ?_
     rw [List.contains_iff_mem.2 hm] at h5; cases h5
    ·exact .inr fun S hS hSe => use e j S hS h5 hSe
   ·have := (hall (o', j) (List.mem_zipIdx_iff_getElem?.2 (by simpa using hj))).2
    rw [ht] at this
    have hnb : Nat.ble j e = false := by
     cases hb : Nat.ble j e with
     | true => have := nB hb; omega
     | false => rfl
    simp only [Bool.or_eq_true, hnb, contains_f hje, Bool.false_eq_true, false_or, Bool.not_eq_true'] at this
    intro hm
    rw [List.contains_iff_mem.2 hm] at this; cases this
  ·cases this
def extE (o : Oper) (d : D) (E : Env) : Env := match o.dst with
 | some t => (t, d) :: E
 | none => E
section
variable {Γ : Ctx} {P : Program} {L : Env} {ms : List Asrt} {K : KT} {l : List Oper}
def GStep (P : Program) (l : List Oper) (o : Oper) (E : Env) (ms : List Asrt) (nx : D -> List Asrt -> Prop) (sk : Prop) : Prop := match o.guard with
 | none => ∃ R, OpT P o (Env.only (slotsOf l o) E) ms R /\ ∀ d ms', R d ms' -> nx d ms'
 | some (j, want) => ∃ s u, (l[j]?).bind (·.dst) = some s /\ Env.find E s = some (.v u) /\ ((∃ b, u = .bool b /\ ((b = want /\ ∃ R, OpT P o (Env.only (slotsOf l o) E) ms R /\ ∀ d ms', R d ms' -> nx d ms') \/ (b = !want /\ sk))) \/ (u = undef /\ sk))
def GDE2 (Γ : Ctx) (P : Program) (ops : List Oper) (K : KT) (FD : List Asrt -> Prop) (L : Env) : List Nat -> Env -> List Asrt -> Prop
 | [], E, ms => K .normal (E ++ L) ms
 | e :: es, E, ms => ∀ o, ops[e]? = some o -> dstOk o Γ.N /\ GStep P ops o (E ++ L) ms (fun d ms' => FD ms' /\ GDE2 Γ P ops K FD L es (extE o d E) ms') (GDE2 Γ P ops K FD L es (extE o (.v undef) E) ms)
theorem draw_chain {ef free fd : List Nat} {FD : List Asrt -> Prop} (hf : FlowOk l l.length) (hch : ChainOk l ef free) (ds : List D) (hlen : ds.length = l.length)
    (hstep : ∀ (i : Nat) o d, i ∉ ef -> l[i]? = some o -> ds[i]? = some d -> dstOk o Γ.N /\ Step P l o (envL (fun j => decide (j < i) && !(ef.contains j)) l ds 0 L) (if free.contains i && !(fd.contains i) then [] else ms) d)
    (hfd : ∀ msx, FD msx -> ∀ (i : Nat) o d, fd.contains i = true -> l[i]? = some o -> ds[i]? = some d -> Step P l o (envL (fun j => decide (j < i) && !(ef.contains j)) l ds 0 L) msx d) (hfd0 : FD ms)
    (h2 : GDE2 Γ P l K FD (envL (fun j => !(ef.contains j)) l ds 0 L) ef [] ms) :
    ∀ (fuel : Nat) (listed : Array Bool) (t : Nat) (a : Act) (w : World), listed.size = l.length -> Closed l (fun j => listed.getD j false) -> (∀ i, l.length <= i -> listed.getD i false = false) ->
      ((List.range l.length).filter (fun i => !listed.getD i false)).length <= fuel ->
      (∃ m E msx, m <= ef.length /\ (∀ q e, ef[q]? = some e -> (listed.getD e false = true ↔ q < m)) /\ GDE2 Γ P l K FD (envL (fun j => !(ef.contains j)) l ds 0 L) (ef.drop m) E msx /\ (∀ t d, Env.find E t = some d -> ∃ e o, e ∈ ef /\ listed.getD e false = true /\ l[e]? = some o /\ o.dst = some t) /\ (m = 0 -> msx = ms) /\ FD msx /\
        Models Γ (E ++ envL (fun j => listed.getD j false && !(ef.contains j)) l ds 0 L) msx a w) ->
      wpOpsIn (FR Γ.round) 0 P l.toArray (Post Γ K) (Region.linearise.go .any l.toArray fuel t listed []) a w := by
  refine draw_gen hf (Nat.le_refl _) (fun S a w => ∃ m E msx, m <= ef.length /\ (∀ q e, ef[q]? = some e -> (S e = true ↔ q < m)) /\ GDE2 Γ P l K FD (envL (fun j => !(ef.contains j)) l ds 0 L) (ef.drop m) E msx /\ (∀ t d, Env.find E t = some d -> ∃ e o, e ∈ ef /\ S e = true /\ l[e]? = some o /\ o.dst = some t) /\ (m = 0 -> msx = ms) /\ FD msx /\
        Models Γ (E ++ envL (fun j => S j && !(ef.contains j)) l ds 0 L) msx a w) ?_ ?_
  rotate_left
  · rintro a w ⟨m, E, msx, hml, hm, h2, hE, _, _, mm⟩
    have hdr : ef.drop m = [] := by
      rw [List.drop_eq_nil_iff]
      rcases Nat.lt_or_ge m ef.length with h | h
      · have := (hm m ef[m] (by simp [h])).1 (by simp [hch.lt ef[m] (by simp)])
        omega
      · exact h
    rw [hdr] at h2
    simp only [GDE2] at h2
    have hee : envL (fun j => decide (j < l.length) && !(ef.contains j)) l ds 0 L = envL (fun q => !(ef.contains q)) l ds 0 L := by
      have : ∀ (l' : List Oper) (ds : List D) (k0 : Nat) (L : Env), k0 + l'.length <= l.length -> envL (fun j => decide (j < l.length) && !(ef.contains j)) l' ds k0 L = envL (fun q => !(ef.contains q)) l' ds k0 L := by
        intro l'
        induction l' with
        | nil => intro ds k0 L _; simp [envL]
        | cons o r ih =>
          intro ds k0 L hk
          cases ds with
          | nil => simp [envL]
          | cons d ds =>
            simp only [List.length_cons] at hk
            have : decide (k0 < l.length) = true := by simp; omega
            simp only [envL, this, Bool.true_and]
            exact ih ds (k0 + 1) _ (by omega)
      exact this l ds 0 L (by omega)
    rw [hee] at mm
    rw [List.drop_length]
    exact ⟨_, _, h2, mm⟩
  · rintro S i o a w hc hik ho hunl hcs ⟨m, E, msx, hmle, hm, h2', hE, hm0, hFD, mm⟩ next hn
    obtain ⟨H, marks, hle, hok, henv, hdf⟩ := mm.ex
    by_cases hie : i ∈ ef
    ·
      obtain ⟨q, hq⟩ := List.getElem?_of_mem hie
      have hqm : q = m := by
        have h3 : ¬ q < m := fun h => by have := (hm q i hq).2 h; rw [hunl] at this; cases this
        rcases Nat.lt_or_ge m q with h | h
        · have hml : m < ef.length := Nat.lt_trans h (List.getElem?_eq_some_iff.1 hq).1
          obtain ⟨h4, h5⟩ := hch.chain m q ef[m] i h (by simp [hml]) hq
          have h6 := h5 _ hcs (by simp)
          have hne : ¬ ef[m] = i := by omega
          simp only [hne, decide_false, Bool.or_false] at h6
          have := (hm m ef[m] (by simp [hml])).1 h6
          omega
        · omega
      subst hqm
      have hdrop : ef.drop q = i :: ef.drop (q + 1) := by
        obtain ⟨hlt, he⟩ := List.getElem?_eq_some_iff.1 hq
        rw [<- he]; exact (List.getElem_cons_drop ..).symm
      rw [hdrop] at h2'
      simp only [GDE2] at h2'
      obtain ⟨hdk, hgs⟩ := h2' o ho
      obtain ⟨o2, ho2, hdst, hlate⟩ := hch.op i hie
      obtain rfl : o2 = o := by rw [ho] at ho2; exact (Option.some.inj ho2).symm
      have hag : ∀ s d', s ∈ slotsOf l o2 -> Env.find (E ++ envL (fun j => !(ef.contains j)) l ds 0 L) s = some d' -> Env.find (E ++ envL (fun j => S j && !(ef.contains j)) l ds 0 L) s = some d' := by
        intro s d' h3 h4
        rw [find_app] at h4 ⊢
        cases hq2 : Env.find E s with
        | some d2 => rw [hq2] at h4; exact h4
        | none =>
          rw [hq2] at h4
          simp only at h4 ⊢
          rw [<- h4]
          refine find_congr l ds 0 L L (fun j o' hj hd' => ?_) rfl
          simp only [Nat.zero_add]
          cases hfj : ef.contains j with
          | true => simp
          | false =>
            simp only [Bool.not_false, Bool.and_true]
            have hjf : j ∉ ef := fun h => by rw [List.contains_iff_mem.2 h] at hfj; cases hfj
            have hji : j ≠ i := fun e => hjf (e ▸ hie)
            have hn' := hf.names i o2 j o' s ho hj (fun e => hji e.symm) hd' (.inl h3)
            rcases Nat.lt_or_gt_of_ne hji with hlt | hgt
            · have h5 := (hn' _ hcs).1 hlt (by simp)
              simpa [hji] using h5
            · exact absurd h3 (hlate j o' s hgt hjf hj hd')
      have hsub : EnvOk H (Env.only (slotsOf l o2) (E ++ envL (fun j => !(ef.contains j)) l ds 0 L)) a.tmps := by
        intro s d' hfnd
        obtain ⟨h3, h4⟩ := only_mem hfnd
        exact henv s d' (hag s d' h3 h4)
      have fin : ∀ v d ms' w' H', FD ms' -> GDE2 Γ P l K FD (envL (fun j => !(ef.contains j)) l ds 0 L) (ef.drop (q + 1)) (extE o2 d E) ms' -> PH.le H H' -> HeapOk H' (ms' ++ (marks.map markA ++ Γ.fr)) w' -> Conc H' d v -> SameOut w w' -> next (a.put o2.dst v) w' := by
        intro v d ms' w' H' hFD' hr2 hl hok' hcv hso
        refine hn _ _ ⟨q + 1, extE o2 d E, ms', (List.getElem?_eq_some_iff.1 hq).1, fun q' e' he' => ?_, hr2, fun t d2 ht => ?_, fun h => by omega, hFD', ?_⟩
        · by_cases hqq : q' = q
          · subst hqq
            have : e' = i := by rw [hq] at he'; exact (Option.some.inj he').symm
            simp [this]
          · have hne : e' ≠ i := by
              intro e
              subst e
              rcases Nat.lt_or_gt_of_ne hqq with h | h
              · have := (hch.chain q' q e' e' h he' hq).1; omega
              · have := (hch.chain q q' e' e' h hq he').1; omega
            simp only [hne, decide_false, Bool.or_false]
            rw [hm q' e' he']
            omega
        · unfold extE at ht
          cases hd : o2.dst with
          | none =>
            rw [hd] at ht
            obtain ⟨e, o3, a1, a2, a3, a4⟩ := hE t d2 ht
            exact ⟨e, o3, a1, by simp [a2], a3, a4⟩
          | some t0 =>
            rw [hd] at ht
            simp only [Env.find] at ht
            cases hb : Nat.beq t0 t with
            | true => exact ⟨i, o2, hie, by simp, ho, by rw [hd, Nat.eq_of_beq_eq_true hb]⟩
            | false =>
              rw [hb] at ht
              obtain ⟨e, o3, a1, a2, a3, a4⟩ := hE t d2 ht
              exact ⟨e, o3, a1, by simp [a2], a3, a4⟩
        · have hpe : envL (fun j => (S j || decide (j = i)) && !(ef.contains j)) l ds 0 L = envL (fun j => S j && !(ef.contains j)) l ds 0 L := by
            congr 1
            funext j
            by_cases hji : j = i
            · subst hji; rw [List.contains_iff_mem.2 hie]; simp
            · simp [hji]
          rw [hpe]
          refine ⟨⟨H', marks, PH.le_trans hle hl, hok', ?_, by cases o2.dst <;> simpa [Act.put] using hdf⟩, by cases o2.dst <;> simp [Act.put, mm.size], mm.same.trans hso⟩
          unfold extE
          cases hd : o2.dst with
          | none => exact henv.mono hl
          | some t0 =>
            have hlt : t0 < Γ.N := by simp only [dstOk, hd] at hdk; exact nB hdk
            exact (henv.mono hl).put (by rw [mm.size]; exact hlt) hcv
      unfold GStep at hgs
      cases hg : o2.guard with
      | none =>
        rw [hg] at hgs
        simp only at hgs
        obtain ⟨R, hop, hrest⟩ := hgs
        simp only [Region.wanted, hg, if_true]
        refine hop Γ.round H (marks.map markA ++ Γ.fr) a w hok hsub next _ ?_
        intro v d ms' w' H' hR hl hok' hcv hso
        exact fin v d ms' w' H' (hrest d ms' hR).1 (hrest d ms' hR).2 hl hok' hcv hso
      | some qq =>
        obtain ⟨j, want⟩ := qq
        rw [hg] at hgs
        simp only at hgs
        obtain ⟨s, u, h1, h2, h3⟩ := hgs
        have hfnd := hag s _ (by simp [slotsOf, hg, h1]) h2
        rcases h3 with ⟨b, hu, h3⟩ | ⟨hu, h4⟩
        · subst hu
          have hy := yielded_of (ops := l.toArray) mm (j := j) (t := s) (b := b) (by simpa using h1) hfnd
          simp only [Region.wanted, hg, hy]
          rcases h3 with ⟨h3, R, hop, hrest⟩ | ⟨h3, h4⟩
          · have hbq : (some b == some want) = true := by rw [h3]; simp
            rw [if_pos hbq]
            refine hop Γ.round H (marks.map markA ++ Γ.fr) a w hok hsub next _ ?_
            intro v d ms' w' H' hR hl hok' hcv hso
            exact fin v d ms' w' H' (hrest d ms' hR).1 (hrest d ms' hR).2 hl hok' hcv hso
          · have hbq : (some b == some want) = false := by rw [h3]; cases want <;> rfl
            rw [if_neg (by rw [hbq]; simp)]
            exact ⟨fun _ _ => trivial, fin undef (.v undef) msx w H hFD h4 (PH.le_refl H) hok (conc_v.2 rfl) (SameOut.refl w)⟩
        · subst hu
          have hy := yielded_undef (ops := l.toArray) mm (j := j) (t := s) (by simpa using h1) hfnd
          simp only [Region.wanted, hg, hy]
          rw [if_neg (by cases want <;> simp)]
          exact ⟨fun _ _ => trivial, fin undef (.v undef) msx w H hFD h4 (PH.le_refl H) hok (conc_v.2 rfl) (SameOut.refl w)⟩
    ·
      obtain ⟨d, hd⟩ : ∃ d, ds[i]? = some d := ⟨ds[i]'(by omega), by simp⟩
      obtain ⟨hdst, hst⟩ := hstep i o d hie ho hd
      have hnoE : ∀ s, s ∈ slotsOf l o -> Env.find E s = none := by
        intro s hs
        cases hq : Env.find E s with
        | none => rfl
        | some d2 =>
          obtain ⟨e, o3, a1, a2, a3, a4⟩ := hE s d2 hq
          obtain ⟨o4, b1, b3, _⟩ := hch.op e a1
          have : o4 = o3 := by rw [a3] at b1; exact (Option.some.inj b1).symm
          subst this
          rcases (b3 s a4).2 i o ho hie with h5 | h5
          · exact absurd hs h5
          · have := h5 S hc a2; rw [hunl] at this; cases this
      have agree : ∀ s, s ∈ slotsOf l o -> Env.find (E ++ envL (fun j => S j && !(ef.contains j)) l ds 0 L) s = Env.find (envL (fun j => decide (j < i) && !(ef.contains j)) l ds 0 L) s := by
        intro s hsl
        rw [find_app, hnoE s hsl]
        refine find_congr l ds 0 L L (fun j o' hj hd' => ?_) rfl
        simp only [Nat.zero_add]
        cases hfj : ef.contains j with
        | true => simp
        | false =>
          simp only [Bool.not_false, Bool.and_true]
          by_cases hji : j = i
          · subst hji; rw [hunl]; simp
          · have hn' := hf.names i o j o' s ho hj (fun e => hji e.symm) hd' (.inl hsl)
            by_cases hlt : j < i
            · have h1 := (hn' _ hcs).1 hlt (by simp)
              simp only [hji, decide_false, Bool.or_false] at h1
              rw [h1]; simp [hlt]
            · cases hb : S j with
              | true => have h1 := (hn' _ hc).2 (by omega) hb; rw [hunl] at h1; cases h1
              | false => simp [hlt]
      have hsub : EnvOk H (Env.only (slotsOf l o) (envL (fun j => decide (j < i) && !(ef.contains j)) l ds 0 L)) a.tmps := by
        intro s d' hfnd
        obtain ⟨h1, h2⟩ := only_mem hfnd
        exact henv s d' (by rw [agree s h1]; exact h2)
      have hcf := contains_f hie
      have nxt : ∀ (v : Value) (w' : World) (H' : PH), PH.le H H' -> HeapOk H' (msx ++ (marks.map markA ++ Γ.fr)) w' -> Conc H' d v -> SameOut w w' -> next (a.put o.dst v) w' := by
        intro v w' H' hl hok' hcv hso
        refine hn _ _ ⟨m, E, msx, hmle, fun q e he => ?_, h2', fun t d2 ht => ?_, hm0, hFD, ?_⟩
        · have hne : e ≠ i := fun h => hie (h ▸ List.mem_of_getElem? he)
          simp only [hne, decide_false, Bool.or_false]
          exact hm q e he
        · obtain ⟨e, o3, a1, a2, a3, a4⟩ := hE t d2 ht
          exact ⟨e, o3, a1, by simp [a2], a3, a4⟩
        · refine ⟨⟨H', marks, PH.le_trans hle hl, hok', ?_, by cases o.dst <;> simpa [Act.put] using hdf⟩, by cases o.dst <;> simp [Act.put, mm.size], mm.same.trans hso⟩
          intro s d' hfnd
          by_cases hds : o.dst = some s
          · have hno : Env.find E s = none := by
              cases hq : Env.find E s with
              | none => rfl
              | some d2 =>
                obtain ⟨e, o3, a1, _, a3, a4⟩ := hE s d2 hq
                obtain ⟨o4, b1, b3, _⟩ := hch.op e a1
                have : o4 = o3 := by rw [a3] at b1; exact (Option.some.inj b1).symm
                subst this
                exact absurd hds ((b3 s a4).1 i o ho (fun h => hie (h ▸ a1)))
            rw [find_app, hno] at hfnd
            have hat := find_at (S := fun j => ((S j || decide (j = i)) && !(ef.contains j))) l ds 0 i L o ho hd hds (by simp [hie]) (fun j o' hj hlo hd' => by
              simp only [Nat.zero_add]
              have hn' := hf.names i o j o' s ho hlo (by omega) hd' (.inr hds)
              cases hb : S j with
              | true => have h1 := (hn' _ hc).2 hj hb; rw [hunl] at h1; cases h1
              | false => have : ¬ j = i := by omega
                         simp [this])
            rw [hat] at hfnd
            simp only [Option.some.injEq] at hfnd
            subst hfnd
            have hsz : s < a.tmps.size := by
              have := hdst
              simp only [dstOk, hds] at this
              have := nB this
              rw [mm.size]; exact this
            simp only [hds, Act.put]
            simpa [Array.getD, hsz] using hcv
          · have hcg : Env.find (E ++ envL (fun j => (S j || decide (j = i)) && !(ef.contains j)) l ds 0 L) s = Env.find (E ++ envL (fun j => S j && !(ef.contains j)) l ds 0 L) s := by
              rw [find_app, find_app]
              rw [find_congr l ds 0 L L (fun j o' hj hd' => ?_) rfl]
              simp only [Nat.zero_add]
              have : ¬ j = i := fun e => by subst e; rw [ho] at hj; simp only [Option.some.injEq] at hj; subst hj; exact hds hd'
              simp [this]
            rw [hcg] at hfnd
            have h1 := (henv s d' hfnd).mono hl
            have h2 : (a.put o.dst v).tmps.getD s undef = a.tmps.getD s undef := by
              cases hod : o.dst with
              | none => rfl
              | some q =>
                have hq : q ≠ s := fun e => hds (by rw [hod, e])
                simp [Act.put, Array.getD_eq_getD_getElem?, Array.getElem?_setIfInBounds, hq]
            rw [h2]
            exact h1
      obtain ⟨msi, rest, hp, hst⟩ : ∃ msi rest, msx.Perm (msi ++ rest) /\ Step P l o (envL (fun j => decide (j < i) && !(ef.contains j)) l ds 0 L) msi d := by
        cases hfi : fd.contains i with
        | true => exact ⟨msx, [], by simp, hfd msx hFD i o d hfi ho hd⟩
        | false =>
          rw [hfi] at hst
          simp only [Bool.not_false, Bool.and_true] at hst
          cases hfr : free.contains i with
          | true => rw [hfr] at hst; exact ⟨[], msx, List.Perm.refl _, hst⟩
          | false =>
            rw [hfr] at hst
            have hm00 : m = 0 := by
              rcases Nat.eq_zero_or_pos m with h | h
              · exact h
              · have h0 : 0 < ef.length := by omega
                have hS0 : S ef[0] = true := (hm 0 ef[0] (by simp [h0])).2 h
                have hif : i ∉ free := fun hh => by rw [List.contains_iff_mem.2 hh] at hfr; cases hfr
                have := hch.dep i hik hie hif ef[0] (by simp) S hc hS0
                rw [hunl] at this; cases this
            exact ⟨ms, [], by rw [hm0 hm00]; simp, hst⟩
      have hokp : HeapOk H (msi ++ (rest ++ (marks.map markA ++ Γ.fr))) w := hok.perm (by
        have := hp.append_right (marks.map markA ++ Γ.fr)
        simpa [List.append_assoc] using this)
      have back : ∀ {H' : PH} {w' : World}, HeapOk H' (msi ++ (rest ++ (marks.map markA ++ Γ.fr))) w' -> HeapOk H' (msx ++ (marks.map markA ++ Γ.fr)) w' := fun h => h.perm (by
        have := hp.symm.append_right (marks.map markA ++ Γ.fr)
        simpa [List.append_assoc] using this)
      unfold Step at hst
      cases hg : o.guard with
      | none =>
        rw [hg] at hst
        simp only at hst
        simp only [Region.wanted, hg, if_true]
        refine hst Γ.round H (rest ++ (marks.map markA ++ Γ.fr)) a w hokp hsub _ _ ?_
        rintro v d2 ms' w' H' ⟨rfl, rfl⟩ hl hok' hcv hso
        exact nxt v w' H' hl (back hok') hcv hso
      | some q =>
        obtain ⟨j, want⟩ := q
        rw [hg] at hst
        simp only at hst
        obtain ⟨s, u, h1, h2, h3⟩ := hst
        have hss : s ∈ slotsOf l o := by simp [slotsOf, hg, h1]
        have hfnd : Env.find (E ++ envL (fun j => S j && !(ef.contains j)) l ds 0 L) s = some (.v u) := by rw [agree s hss]; exact h2
        rcases h3 with ⟨b, hu, h3⟩ | ⟨hu, h4⟩
        · subst hu
          have hy := yielded_of (ops := l.toArray) mm (j := j) (t := s) (b := b) (by simpa using h1) hfnd
          simp only [Region.wanted, hg, hy]
          rcases h3 with ⟨h3, h4⟩ | ⟨h3, h4⟩
          · have hbq : (some b == some want) = true := by rw [h3]; simp
            rw [if_pos hbq]
            refine h4 Γ.round H (rest ++ (marks.map markA ++ Γ.fr)) a w hokp hsub _ _ ?_
            rintro v d2 ms' w' H' ⟨rfl, rfl⟩ hl hok' hcv hso
            exact nxt v w' H' hl (back hok') hcv hso
          · have hbq : (some b == some want) = false := by rw [h3]; cases want <;> rfl
            rw [if_neg (by rw [hbq]; simp)]
            exact ⟨fun _ _ => trivial, nxt undef w H (PH.le_refl H) hok (by rw [h4]; exact conc_v.2 rfl) (SameOut.refl w)⟩
        · subst hu
          have hy := yielded_undef (ops := l.toArray) mm (j := j) (t := s) (by simpa using h1) hfnd
          simp only [Region.wanted, hg, hy]
          rw [if_neg (by cases want <;> simp)]
          exact ⟨fun _ _ => trivial, nxt undef w H (PH.le_refl H) hok (by rw [h4]; exact conc_v.2 rfl) (SameOut.refl w)⟩
end
section
variable {Γ : Ctx} {P : Program} {L : Env} {ms : List Asrt} {K : KT} {l : List Oper}
def GDE (Γ : Ctx) (P : Program) (ops : List Oper) (ms : List Asrt) (K : KT) (ef free fd : List Nat) : Nat -> List Oper -> Env -> (List Asrt -> Prop) -> Prop
 | _, [], L, acc => GDE2 Γ P ops K acc L ef [] ms
 | i, o :: r, L, acc => if ef.contains i = true then GDE Γ P ops ms K ef free fd (i + 1) r L acc
  else ∃ d, dstOk o Γ.N /\ Step P ops o L (if free.contains i && !(fd.contains i) then [] else ms) d /\ GDE Γ P ops ms K ef free fd (i + 1) r (ext o d L) (if fd.contains i then fun msx => acc msx /\ Step P ops o L msx d else acc)
theorem gde_list {ops : List Oper} {ef free fd : List Nat} : ∀ (r : List Oper) (i : Nat) (L : Env) (acc : List Asrt -> Prop), acc ms -> GDE Γ P ops ms K ef free fd i r L acc ->
    ∃ (ds : List D) (FD : List Asrt -> Prop), ds.length = r.length /\
      (∀ j o d, r[j]? = some o -> ds[j]? = some d -> ef.contains (i + j) = false -> dstOk o Γ.N /\ Step P ops o (envL (fun q => decide (q < i + j) && !(ef.contains q)) r ds i L) (if free.contains (i + j) && !(fd.contains (i + j)) then [] else ms) d) /\
      (∀ msx, FD msx -> acc msx /\ ∀ j o d, r[j]? = some o -> ds[j]? = some d -> ef.contains (i + j) = false -> fd.contains (i + j) = true -> Step P ops o (envL (fun q => decide (q < i + j) && !(ef.contains q)) r ds i L) msx d) /\ FD ms /\
      GDE2 Γ P ops K FD (envL (fun q => !(ef.contains q)) r ds i L) ef [] ms
  | [], i, L, acc, h0, h => ⟨[], acc, rfl, fun j o d hj => by simp at hj, fun msx hm => ⟨hm, fun j o d hj => by simp at hj⟩, h0, (show GDE2 Γ P ops K acc L ef [] ms from h)⟩
  | o :: r, i, L, acc, h0, h => by
    have hsh : ∀ j, i + (j + 1) = i + 1 + j := fun j => by omega
    unfold GDE at h
    cases hc : ef.contains i with
    | true =>
      rw [if_pos hc] at h
      obtain ⟨ds, FD, e1, e2, e4, e5, e3⟩ := gde_list r (i + 1) L acc h0 h
      have hS : ∀ m, (decide (i < m) && !(ef.contains i)) = false := fun m => by rw [hc]; simp
      refine ⟨.v undef :: ds, FD, by simp [e1], fun j o' d' hj hdj hcj => ?_, fun msx hm => ⟨(e4 msx hm).1, fun j o' d' hj hdj hcj hfj => ?_⟩, e5, ?_⟩
      · cases j with
        | zero => rw [Nat.add_zero] at hcj; rw [hc] at hcj; cases hcj
        | succ j =>
          simp only [List.getElem?_cons_succ] at hj hdj
          rw [hsh] at hcj ⊢
          simp only [envL, hS, Bool.false_eq_true, if_false]
          exact e2 j o' d' hj hdj hcj
      · cases j with
        | zero => rw [Nat.add_zero] at hcj; rw [hc] at hcj; cases hcj
        | succ j =>
          simp only [List.getElem?_cons_succ] at hj hdj
          rw [hsh] at hcj hfj ⊢
          simp only [envL, hS, Bool.false_eq_true, if_false]
          exact (e4 msx hm).2 j o' d' hj hdj hcj hfj
      · simp only [envL]
        rw [if_neg (by rw [hc]; simp)]
        exact e3
    | false =>
      rw [if_neg (by rw [hc]; simp)] at h
      obtain ⟨d, hdk, hst, hrest⟩ := h
      have h0' : (if fd.contains i then fun msx => acc msx /\ Step P ops o L msx d else acc) ms := by
        cases hf : fd.contains i with
        | true => rw [hf] at hst; simp only [Bool.not_true, Bool.and_false, Bool.false_eq_true, if_false] at hst; exact ⟨h0, hst⟩
        | false => exact h0
      obtain ⟨ds, FD, e1, e2, e4, e5, e3⟩ := gde_list r (i + 1) (ext o d L) _ h0' hrest
      have hS : ∀ j, (decide (i < i + 1 + j) && !(ef.contains i)) = true := fun j => by rw [hc]; simp; omega
      have hL0 : envL (fun q => decide (q < i + 0) && !(ef.contains q)) (o :: r) (d :: ds) i L = L := by
        rw [Nat.add_zero, envL_none _ _ _ _ (fun q hq => by have : ¬ q < i := by omega
                                                            simp [this])]
      refine ⟨d :: ds, FD, by simp [e1], fun j o' d' hj hdj hcj => ?_, fun msx hm => ?_, e5, ?_⟩
      · cases j with
        | zero =>
          simp only [List.getElem?_cons_zero, Option.some.injEq] at hj hdj
          subst hj hdj
          exact ⟨hdk, by rw [hL0]; exact hst⟩
        | succ j =>
          simp only [List.getElem?_cons_succ] at hj hdj
          rw [hsh] at hcj ⊢
          simp only [envL, hS, if_true]
          exact e2 j o' d' hj hdj hcj
      · obtain ⟨hacc, hrest2⟩ := e4 msx hm
        have hacc' : acc msx := by
          cases hf : fd.contains i with
          | true => rw [hf] at hacc; exact hacc.1
          | false => rw [hf] at hacc; exact hacc
        refine ⟨hacc', fun j o' d' hj hdj hcj hfj => ?_⟩
        cases j with
        | zero =>
          simp only [List.getElem?_cons_zero, Option.some.injEq] at hj hdj
          subst hj hdj
          rw [hL0]
          rw [Nat.add_zero] at hfj
          rw [hfj] at hacc
          exact hacc.2
        | succ j =>
          simp only [List.getElem?_cons_succ] at hj hdj
          rw [hsh] at hcj hfj ⊢
          simp only [envL, hS, if_true]
          exact hrest2 j o' d' hj hdj hcj hfj
      · simp only [envL]
        rw [if_pos (by rw [hc]; rfl)]
        exact e3
theorem g_draw_c {id : Nat} (ef free fd : List Nat) (hm : P.follows .mixedOrders = true) (hf : flowB l l.length = true) (hch : chainB l ef free = true) (hfe : fd.all (fun i => !(ef.contains i)) = true) (h : GDE Γ P l ms K ef free fd 0 l L (fun _ => True)) : G Γ P (.region id l.toArray true) L ms K := by
 intro a w m
 refine wpIn_region_draw fun t => ?_;simp only [Region.schedule, hm, Bool.true_or, if_true]
 have hfo := flow_ok hf
 obtain ⟨ds, FD, e1, e2, e4, e5, e3⟩ := gde_list _ _ _ _ trivial h;simp only [Nat.zero_add] at e2 e4;refine draw_chain (L := L) (ms := ms) (fd := fd) hfo (chain_ok hch) ds e1 ?_ (fun msx hm i o d hfi ho hd => (e4 msx hm).2 i o d ho hd (by
  have := List.all_eq_true.1 hfe i (List.contains_iff_mem.1 hfi)
  simpa using this) hfi) e5 e3 l.toArray.size (Array.replicate l.toArray.size false) t a { w with drawn := w.drawn + 1 } (by simp) ?_ ?_ ?_ ?_
 ·intro i o d hie ho hd
  exact e2 i o d ho hd (contains_f hie)
 ·intro j o hj hS
  simp [Array.getD] at hS
 ·intro i _; simp [Array.getD]
 ·have := List.length_filter_le (fun i => !(Array.replicate l.toArray.size false).getD i false) (List.range l.length)
  simpa using this
 ·have hz : ∀ j, (Array.replicate l.toArray.size false).getD j false = false := fun j => by simp [Array.getD]
  refine ⟨0, [], ms, Nat.zero_le _, fun q e he => by rw [hz]; simp, by simpa using e3, fun t d ht => by simp [Env.find] at ht, fun _ => rfl, e5, ?_⟩;rw [List.nil_append, envL_none _ _ _ _ (fun q _ => by rw [hz]; rfl)];obtain ⟨H, marks, hle, hok, henv, hdf⟩ := m.ex;exact ⟨⟨H, marks, hle, hok.drew _, henv, hdf⟩, m.size, ⟨m.same.os, m.same.output, m.same.tape, m.same.size⟩⟩
theorem gde_e {ops r : List Oper} {ef free fd : List Nat} {acc : List Asrt -> Prop} {n : Nat} {o : Oper} (hc : ef.contains n = true) (k : GDE Γ P ops ms K ef free fd (n + 1) r L acc) : GDE Γ P ops ms K ef free fd n (o :: r) L acc := by
 unfold GDE; rw [if_pos hc]; exact k
theorem gde_p {ops r : List Oper} {ef free fd : List Nat} {acc : List Asrt -> Prop} {n : Nat} {o : Oper} {d : D} {i : Nat} {msi : List Asrt} (hc : ef.contains n = false) (hnf : fd.contains n = false) (hms : (if free.contains n then [] else ms) = msi) (hg : o.guard = none) (hd : o.dst = some i) (hi : Nat.blt i Γ.N = true) (h : OpP P o (Env.only (slotsOf ops o) L) msi d) (k : GDE Γ P ops ms K ef free fd (n + 1) r ((i, d) :: L) acc) : GDE Γ P ops ms K ef free fd n (o :: r) L acc := by
 unfold GDE;rw [if_neg (by rw [hc]; simp), hnf];simp only [Bool.not_false, Bool.and_true, Bool.false_eq_true, if_false];rw [hms];refine ⟨d, by simp only [dstOk, hd]; exact hi, by simp only [Step, hg]; exact h, ?_⟩;simp only [ext, hd]; exact k
theorem gde_nil {ops : List Oper} {ef free fd : List Nat} {acc : List Asrt -> Prop} {n : Nat} (h : GDE2 Γ P ops K acc L ef [] ms) : GDE Γ P ops ms K ef free fd n [] L acc := h
theorem gde2_t {ops : List Oper} {FD : List Asrt -> Prop} {E : Env} {msx : List Asrt} {e i : Nat} {es : List Nat} {o : Oper} {R : D -> List Asrt -> Prop} (ho : ops[e]? = some o) (hg : o.guard = none) (hd : o.dst = some i) (hi : Nat.blt i Γ.N = true) (h : OpT P o (Env.only (slotsOf ops o) (E ++ L)) msx R) (k : ∀ d ms', R d ms' -> FD ms' /\ GDE2 Γ P ops K FD L es ((i, d) :: E) ms') : GDE2 Γ P ops K FD L (e :: es) E msx := by
 intro o' ho'
 have : o' = o := by rw [ho] at ho'; exact (Option.some.inj ho').symm
 subst this;refine ⟨by simp only [dstOk, hd]; exact hi, ?_⟩;unfold GStep;rw [hg];refine ⟨R, h, fun d ms' hR => ?_⟩
 have := k d ms' hR
 simpa [extE, hd] using this
theorem gde2_u {ops : List Oper} {FD : List Asrt -> Prop} {E : Env} {msx : List Asrt} {e : Nat} {es : List Nat} {o : Oper} {R : D -> List Asrt -> Prop} (ho : ops[e]? = some o) (hg : o.guard = none) (hd : o.dst = none) (h : OpT P o (Env.only (slotsOf ops o) (E ++ L)) msx R) (k : ∀ d ms', R d ms' -> FD ms' /\ GDE2 Γ P ops K FD L es E ms') : GDE2 Γ P ops K FD L (e :: es) E msx := by
 intro o' ho'
 have : o' = o := by rw [ho] at ho'; exact (Option.some.inj ho').symm
 subst this;refine ⟨by simp only [dstOk, hd], ?_⟩;unfold GStep;rw [hg];refine ⟨R, h, fun d ms' hR => ?_⟩
 have := k d ms' hR
 simpa [extE, hd] using this
theorem gde2_nil {ops : List Oper} {FD : List Asrt -> Prop} {E : Env} {msx : List Asrt} (h : K .normal (E ++ L) msx) : GDE2 Γ P ops K FD L [] E msx := h
end
section
variable {P : Program} {L : Env} {ms : List Asrt} {dst : Option Nat} {ty : TypeId} {pos : String} {after : Array Edge} {g : Option (Nat × Bool)} {x : Operand} {t : TypeId}
theorem o_len_arr {a : Option Addr} {m cap : Nat} {e T sz : Nat} {α : Type} {f : α -> D} {l : List α} (k : Nat) (hu : ∀ w, (underlying t).run P w = .ok (.slice e) w) (hx : Env.ev L x = some (.v (.slice a m cap))) (hk : ms[k]? = some (arr a m cap T sz f l)) : OpP P ⟨dst, .call ⟨.builtin .len, #[x], #[t]⟩, ty, pos, after, g⟩ L ms (.i64 l.length) := by
 refine .pure (by simp) fun H fr act w hok henv => ⟨.int .i64 m, by simp [execOp, resolve, invoke, builtin, Builtin.len_, ev_v henv hx, hu, Sem.run, goInt], conc_v.2 ?_⟩
 have := (hok.ok _ (List.mem_of_getElem? (getElem?_app (r := fr) hk))).1
 rw [this]
end
end Go.V
namespace Go.V
theorem go_ms {Γ : Ctx} {P : Program} {L : Env} {ms ms' : List Asrt} {K : KT} {ops : Array Oper} {r : List Oper} (h : ms = ms') (k : GO Γ P ops r L ms' K) : GO Γ P ops r L ms K := by subst h; exact k
end Go.V
namespace Go.V
def que (a : Option Addr) (cap : Nat) (T : TypeId) (sz : Nat) {α : Type} (f : α -> D) (l : List α) : Asrt where
 blocks := match a with | some x => [x.block] | none => []
 ok := fun H h => l.length <= cap /\ cap <= maxLen /\ ((a = none /\ l = [] /\ cap = 0) \/ ∃ (b off : Nat) (vs us : List Value), a = some ⟨b, off, none⟩ /\ h b = some (.cells vs.toArray T (0, 0)) /\ off + cap * sz <= vs.length /\ ListEnc H f sz l us /\
  (∀ (k : Nat) u, us[k]? = some u -> H b (off + k) = some u) /\ ∀ o, off + l.length * sz <= o -> o < off + cap * sz -> H b o = none)
 stable := by
  rintro H H' h h' e hle ⟨h1, h2, h3⟩;refine ⟨h1, h2, ?_⟩
  rcases h3 with h3 | ⟨b, off, vs, us, ha, hb, hl, he, hp, hn⟩
  ·exact .inl h3
  ·subst ha
   have := e b (by simp)
   exact .inr ⟨b, off, vs, us, rfl, by rw [this.2]; exact hb, hl, he.mono hle, fun k u hk => hle _ _ _ (hp k u hk), fun o ho ho2 => by rw [this.1]; exact hn o ho ho2⟩
section
variable {P : Program} {L : Env} {ms : List Asrt} {dst : Option Nat} {ty : TypeId} {pos : String} {after : Array Edge} {g : Option (Nat × Bool)} {d : D} {x y : Operand} {t : TypeId} {α : Type} {f : α -> D} {sz cap n : Nat} {T e : TypeId} {a : Option Addr} {l : List α}
theorem que_conc {H : PH} {as : List Asrt} {w : World} (hok : HeapOk H as w) (hm : que a cap T sz f l ∈ as) : Conc H (.list sz f l) (.slice a l.length cap) := by
 obtain ⟨h1, h2, h3⟩ := hok.ok _ hm;rw [conc_enc (by rfl)];simp only [Enc];refine ⟨a, cap, rfl, h1, h2, ?_⟩
 rcases h3 with ⟨_, h3, _⟩ | ⟨b, off, vs, us, ha, hb, hl, he, hp, hn⟩
 ·exact .inl h3
 ·refine .inr ⟨b, off, ha, fun i x hx => ?_⟩
  obtain ⟨ws, e1, e2, e3⟩ := he.2 i x hx;exact ⟨ws, e1, e2, fun k u hk => by rw [Nat.add_assoc]; exact hp _ _ (e3 k u hk)⟩
theorem peekQ {i : Nat} (k : Nat) (hf : Env.find L i = some (.v (.slice a n cap))) (hk : ms[k]? = some (que a cap T sz f l)) (hn : l.length = n) : RefE ms L ((i, .list sz f l) :: L) := by
 subst hn
 intro t d' ht
 simp only [Env.find] at ht
 cases hb : Nat.beq i t with
 | true =>
  rw [hb] at ht
  have := Nat.eq_of_beq_eq_true hb
  subst this;simp only [Option.some.injEq] at ht;subst ht;refine ⟨_, hf, (fun b e => (by cases e)), fun H fr w u hok c => ?_⟩;rw [conc_v.1 c];exact que_conc (T := T) hok (List.mem_append_left _ (List.mem_of_getElem? hk))
 | false => rw [hb] at ht; exact ⟨d', ht, fun _ _ => rfl, fun _ _ _ _ _ c => c⟩
theorem refines_que (k : Nat) (hk : ms[k]? = some (row a cap T sz f l)) {ms' : List Asrt} (hms : ms.set k (que a cap T sz f l) = ms') : Refines L ms L ms' := by
 subst hms
 intro Γ act w mm
 obtain ⟨H, marks, hle, hok, henv, hdf⟩ := mm.ex
 have hok1 := hok.perm (perm_fr hk)
 obtain ⟨h1, h2, h3⟩ := hok1.ok _ (List.mem_cons_self ..)
 have hup : HeapOk H (que a cap T sz f l :: (ms.eraseIdx k ++ (marks.map markA ++ Γ.fr))) w := by
  refine hok1.upd rfl (Nat.le_refl _) (fun _ _ _ => rfl) (fun _ _ _ _ => rfl) (PH.le_refl H) (fun b o v _ hv => hok1.sub b o v hv) ⟨h1, h2, ?_⟩
  rcases h3 with h3 | ⟨b, vs, us, ha, hb, hl, he, ht, hp, hn⟩
  ·exact .inl h3
  ·exact .inr ⟨b, 0, vs, us, ha, hb, by omega, he, fun k u hk => by rw [Nat.zero_add]; exact hp k u hk, fun o ho _ => hn o (by omega)⟩
 exact ⟨⟨H, marks, hle, hup.perm (perm_fr' hk), henv, hdf⟩, mm.size, mm.same⟩
theorem listEnc_drop {H : PH} {us : List Value} (e : ListEnc H f sz l us) (m : Nat) : ListEnc H f sz (l.drop m) (us.drop (m * sz)) := by
 refine ⟨by rw [List.length_drop, List.length_drop, e.1, Nat.sub_mul], fun i x hx => ?_⟩;rw [List.getElem?_drop] at hx;obtain ⟨ws, a, b, c⟩ := e.2 _ x hx;refine ⟨ws, a, b, fun k u hk => ?_⟩
 have := c k u hk
 rw [List.getElem?_drop, show m * sz + (i * sz + k) = (m + i) * sz + k by rw [Nat.add_mul]; omega];exact this
theorem o_slice_que {lo : Operand} {ik : IntKind} {m : Int} {r : List α} (k : Nat) (hu : ∀ w, (underlying t).run P w = .ok (.slice e) w) (hs : ∀ w, (sizeOf e).run P w = .ok sz w) (hx : Env.ev L x = some (.v (.slice a n cap))) (hk : ms[k]? = some (que a cap T sz f l)) (hn : l.length = n)
  (hlo : Env.ev L lo = some (.v (.int ik m))) (h : sli l m (l.length : Int) = some r) :
  OpT P ⟨dst, .slice t x (some lo) none none, ty, pos, after, g⟩ L ms (fun d' ms' => ∃ a' cap', d' = .v (.slice a' r.length cap') /\ ms' = ms.set k (que a' cap' T sz f r)) := by
 subst hn;obtain ⟨h0, h1, _, hr⟩ := sli_some h;simp only [Int.toNat_natCast, List.take_length] at hr;subst hr;refine .val (by simp) fun H fr act w hok henv => ?_
 have hok1 := hok.perm (perm_fr hk)
 obtain ⟨r1, r2, r3⟩ := hok1.ok _ (List.mem_cons_self ..)
 have hml : m.toNat <= l.length := by omega
 have hb := bounds_run (P := P) (isS := true) (w := w) (len := l.length) (cap := cap) (l := m.toNat) (h := l.length) (lo := some (.int ik m)) (hi := none) ⟨ik, by rw [Int.toNat_of_nonneg h0]⟩ rfl hml r1 r1
 refine ⟨.slice (if cap = m.toNat then a else a.map (·.add (m.toNat * sz))) (l.length - m.toNat) (cap - m.toNat), .v (.slice (if cap = m.toNat then a else a.map (·.add (m.toNat * sz))) (l.drop m.toNat).length (cap - m.toNat)), _, w, H, by simp [execOp, Instr.sliceAt, Instr.slice, ev_v henv hx, ev_v henv hlo, hu, Sem.run, hb, hs], ⟨_, _, rfl, rfl⟩, PH.le_refl H, ?_, conc_v.2 (by simp), SameOut.refl w⟩;refine HeapOk.perm (perm_fr' hk) ?_
 have hbl : (que (if cap = m.toNat then a else a.map (·.add (m.toNat * sz))) (cap - m.toNat) T sz f (l.drop m.toNat)).blocks = (que a cap T sz f l).blocks := by
  by_cases hc : cap = m.toNat
  ·rw [if_pos hc]; rfl
  ·rw [if_neg hc]
   rcases r3 with ⟨h', _⟩ | ⟨b, off, vs, us, ha, _⟩
   ·subst h'; rfl
   ·subst ha; simp [que, add_zero']
 refine hok1.upd hbl (Nat.le_refl _) (fun _ _ _ => rfl) (fun _ _ _ _ => rfl) (PH.le_refl H) (fun b o v _ hv => hok1.sub b o v hv) ⟨by simp; omega, by omega, ?_⟩
 by_cases hc : cap = m.toNat
 ·rw [if_pos hc]
  have hnil : l.drop m.toNat = [] := by rw [List.drop_eq_nil_iff]; omega
  rcases r3 with ⟨h', _, _⟩ | ⟨b, off, vs, us, ha, hbk, hl, he, hp, hno⟩
  ·exact .inl ⟨h', hnil, by omega⟩
  ·refine .inr ⟨b, off, vs, [], ha, hbk, by rw [hc]; simp; omega, by rw [hnil]; exact ⟨by simp, fun i x hx => by simp at hx⟩, fun k u hk => by simp at hk, fun o ho ho2 => ?_⟩
   rw [hc] at ho2
   simp at ho2
   omega
 ·rw [if_neg hc]
  rcases r3 with ⟨h', h2, h3⟩ | ⟨b, off, vs, us, ha, hbk, hl, he, hp, hno⟩
  ·subst h2; simp at hml; omega
  ·subst ha
   have e1 : (m.toNat + (cap - m.toNat)) * sz = cap * sz := by congr 1; omega
   have e2 : (m.toNat + (l.length - m.toNat)) * sz = l.length * sz := by congr 1; omega
   rw [Nat.add_mul] at e1 e2;refine .inr ⟨b, off + m.toNat * sz, vs, us.drop (m.toNat * sz), by simp [add_zero'], hbk, by omega, listEnc_drop he _, fun k u hk => ?_, fun o ho ho2 => hno o ?_ ?_⟩
   ·rw [List.getElem?_drop] at hk
    have := hp _ u hk
    rw [show off + m.toNat * sz + k = off + (m.toNat * sz + k) by omega];exact this
   ·rw [List.length_drop] at ho; omega
   ·omega
theorem run_append_room_off {w : World} (t ty e : TypeId) (i : TypeInfo) (ht : P.underlying t = some (.slice e)) (hi : P.info? e = some i)
  (g off sLen sCap : Nat) (cur : Array Value) (hg : w.heap[g]? = some (.cells cur e (0, 0)))
  (a : Addr) (m c : Nat) (news : List Value) (hl : news.length = m * i.size) (hnews : ∀ j u, news[j]? = some u -> w.cell? (a.add j) = some u) (h1 : ∀ u ∈ news, u.oneCell' = true)
  (hroom : sLen + m <= sCap) (hfit : off + sLen * i.size + news.length <= cur.size) :
  (Builtin.append_ #[t, t] ty #[.slice (some ⟨g, off, none⟩) sLen sCap, .slice (some a) m c]).run P w =
   .ok (.slice (some ⟨g, off, none⟩) (sLen + m) sCap) (w.setRow g (cur.toList.take (off + sLen * i.size) ++ news ++ cur.toList.drop (off + sLen * i.size + news.length)).toArray) := by
 have hf := run_firstCells_some (P := P) w i.size m a m c news hl hnews
 have hst := run_storeCells_at P g (off + sLen * i.size) e news 0 cur w hg (by simpa using hfit) h1
 simp only [Nat.add_zero] at hst
 simp [Builtin.append_, run_underlying ht, sizeOf, typeInfo, hi, Builtin.lenOf, hroom, hf, add_zero', hst]
theorem o_append_que {i : TypeInfo} {z : Value} {zs : List α} (k : Nat) (ht : P.underlying t = some (.slice e)) (hi : P.info? e = some i) (hz : i.zero = some z) (hsz : i.size = sz) (hzs : z.cells.size = sz)
  (hx : Env.ev L x = some (.v (.slice a n cap))) (hk : ms[k]? = some (que a cap e sz f l)) (hn : l.length = n) (hy : Env.ev L y = some (.list sz f zs)) (hfl : ∀ x, flat (f x).cs = true) (hst : ∀ x, storableL (f x).cs = true)
  (hb : (l.length + zs.length) * i.bytes <= 140737488355328) (h63 : l.length + zs.length <= maxLen) :
  OpT P ⟨dst, .call ⟨.builtin .append, #[x, y], #[t, t]⟩, ty, pos, after, g⟩ L ms (fun d' ms' => ∃ a' cap', d' = .v (.slice a' (l ++ zs).length cap') /\ ms' = ms.set k (que a' cap' e sz f (l ++ zs))) := by
 subst hn;subst hsz;refine .val (by simp) fun H fr act w hok henv => ?_
 have hok1 := hok.perm (perm_fr hk)
 obtain ⟨r1, r2, r3⟩ := hok1.ok _ (List.mem_cons_self ..);obtain ⟨ya, yc, hyv, y1, y2, y3⟩ := enc_list (henv.ev hy)
 have hrun : ∀ {v : Value} {w' : World}, (Builtin.append_ #[t, t] ty #[.slice a l.length cap, .slice ya zs.length yc]).run P w = .ok v w' ->
   (execOp act.eval ⟨dst, .call ⟨.builtin .append, #[x, y], #[t, t]⟩, ty, pos, after, g⟩).run P w = .ok (.value v) w' := by
  intro v w' h
  simp [execOp, resolve, invoke, builtin, ev_v henv hx, hyv, Sem.run, h]
 have h63' : l.length + zs.length <= 9223372036854775807 := by simpa [maxLen] using h63
 by_cases hz0 : zs = []
 ·subst hz0
  have hr : (Builtin.append_ #[t, t] ty #[.slice a l.length cap, .slice ya 0 yc]).run P w = .ok (.slice a l.length cap) w := by
   have hf : (Builtin.firstCells i.size 0 (.slice ya 0 yc)).run P w = .ok #[] w := by
    cases ya with
    | none => simp [Builtin.firstCells, Sem.run]
    | some q => simp [Builtin.firstCells, loadCells, loadCellsFrom, Sem.run]
   cases a with
   | none => simp [Builtin.append_, run_underlying ht, sizeOf, typeInfo, hi, Builtin.lenOf, r1, hf, Sem.run]
   | some q => simp [Builtin.append_, run_underlying ht, sizeOf, typeInfo, hi, Builtin.lenOf, r1, hf, storeCells, Sem.run]
  refine ⟨.slice a l.length cap, .v (.slice a (l ++ ([] : List α)).length cap), _, w, H, hrun hr, ⟨a, cap, rfl, rfl⟩, PH.le_refl H, ?_, conc_v.2 (by simp), SameOut.refl w⟩;simp only [List.append_nil];exact HeapOk.perm (perm_fr' hk) hok1
 ·rcases y3 with y3 | ⟨yb, yo, hya, hyel⟩
  ·exact absurd y3 hz0
  ·subst hya
   obtain ⟨us, ue, uh⟩ := list_cells hyel
   have hpos : 0 < zs.length := List.length_pos_iff.2 hz0
   have hnews : ∀ j v, us[j]? = some v -> w.cell? ((⟨yb, yo, none⟩ : Addr).add j) = some v := fun j v hj => by rw [add_zero']; exact hok.sub _ _ _ (uh j v hj)
   have hone := listEnc_one ue hfl hst
   have grown : ∀ (old : Nat) (olds : List Value), ListEnc H f i.size l olds -> (Builtin.append_ #[t, t] ty #[.slice a l.length cap, .slice (some ⟨yb, yo, none⟩) zs.length yc]).run P w =
     .ok (.slice (some ⟨w.heap.size, 0, none⟩) (l.length + zs.length) (grownCap w (l.length + zs.length) old e)) (w.drew.alloc (.cells (olds.toArray ++ us.toArray ++ Builtin.zeroCells z.cells (grownCap w (l.length + zs.length) old e - (l.length + zs.length))) e)) ->
     ∃ v d ms' w' H', (execOp act.eval ⟨dst, .call ⟨.builtin .append, #[x, y], #[t, t]⟩, ty, pos, after, g⟩).run P w = .ok (.value v) w' /\ (∃ a' cap', d = .v (.slice a' (l ++ zs).length cap') /\ ms' = ms.set k (que a' cap' e i.size f (l ++ zs))) /\
      PH.le H H' /\ HeapOk H' (ms' ++ fr) w' /\ Conc H' d v /\ SameOut w w' := by
    intro old olds ole hr
    have hge := grownCap_ge w (l.length + zs.length) old e
    have hcm : grownCap w (l.length + zs.length) old e <= maxLen := grownCap_le_maxLen w (l.length + zs.length) old e h63
    have hsplit : (olds.toArray ++ us.toArray ++ Builtin.zeroCells z.cells (grownCap w (l.length + zs.length) old e - (l.length + zs.length))) = ((olds ++ us) ++ (Builtin.zeroCells z.cells (grownCap w (l.length + zs.length) old e - (l.length + zs.length))).toList).toArray := by
     apply Array.ext'; simp
    rw [hsplit] at hr
    have hd : HeapOk H (ms.eraseIdx k ++ fr) w.drew := (hok1.tail).drew _
    have hlen : (olds ++ us).length = (l ++ zs).length * i.size := by rw [List.length_append, ole.1, ue.1, List.length_append, Nat.add_mul]
    have hpart := hd.part (cells := (olds ++ us) ++ (Builtin.zeroCells z.cells (grownCap w (l.length + zs.length) old e - (l.length + zs.length))).toList) (us := olds ++ us) (T := e)
     (A := que (some ⟨w.heap.size, 0, none⟩) (grownCap w (l.length + zs.length) old e) e i.size f (l ++ zs)) (fun j u hj => by
      rw [List.getElem?_append_left (List.getElem?_eq_some_iff.1 hj).1]; exact hj) rfl ?_
    ·refine ⟨_, _, _, _, _, hrun hr, ⟨_, _, rfl, rfl⟩, hpart.2, hpart.1.perm (perm_fr' hk), conc_v.2 (by simp), ?_⟩
     exact ⟨rfl, rfl, rfl, by have := size_alloc' w.drew (.cells ((olds ++ us) ++ (Builtin.zeroCells z.cells (grownCap w (l.length + zs.length) old e - (l.length + zs.length))).toList).toArray e); rw [this]; show w.heap.size <= w.heap.size + 1; omega⟩
    ·have hle : PH.le H (H.add w.drew.heap.size (olds ++ us)) := by
      intro b o v hv
      simp only [PH.add]
      by_cases hb : b = w.drew.heap.size
      ·subst hb; rw [hd.none_new _ _ (Nat.le_refl _)] at hv; cases hv
      ·rw [if_neg hb]; exact hv
     refine ⟨by simpa using hge, hcm, .inr ⟨w.heap.size, 0, _, olds ++ us, rfl, heap_alloc_new w.drew _, ?_, (ole.append ue).mono hle, ?_, ?_⟩⟩
     ·have hzl : (Builtin.zeroCells z.cells (grownCap w (l.length + zs.length) old e - (l.length + zs.length))).toList.length = (grownCap w (l.length + zs.length) old e - (l.length + zs.length)) * z.cells.size := by rw [Array.length_toList, size_zeroCells]
      rw [List.length_append, hlen, hzl, hzs, <- Nat.add_mul, Nat.zero_add];refine Nat.mul_le_mul_right _ ?_;simp only [List.length_append]
      omega
     ·intro j u hj
      show (H.add w.heap.size (olds ++ us)) w.heap.size (0 + j) = some u
      simp [PH.add, hj]
     ·intro o ho _
      show (H.add w.heap.size (olds ++ us)) w.heap.size o = none
      simp only [PH.add, if_pos];rw [List.getElem?_eq_none];rw [hlen]; omega
   rcases r3 with ⟨ha, hxs, hcap⟩ | ⟨b, off, vs, os, ha, hbk, hvl, ole, hH, hnone⟩
   ·subst ha hxs hcap
    have hr := run_append_nil (P := P) w t ty e i z ht hi hz ⟨yb, yo, none⟩ zs.length yc us ue.1 hnews hpos (by simp at h63'; omega) (by simp at hb; omega)
    refine grown 0 [] ⟨by simp, fun i x hx => by simp at hx⟩ ?_
    simpa using hr
   ·subst ha
    by_cases hroom : l.length + zs.length <= cap
    ·have hmul : (l.length + zs.length) * i.size <= cap * i.size := Nat.mul_le_mul_right _ hroom
     have hosl : os.length = l.length * i.size := ole.1
     have hul : us.length = zs.length * i.size := ue.1
     rw [Nat.add_mul] at hmul
     have hfit : off + l.length * i.size + us.length <= vs.toArray.size := by simp only [List.size_toArray]; omega
     have hr := run_append_room_off (P := P) (w := w) t ty e i ht hi b off l.length cap vs.toArray hbk ⟨yb, yo, none⟩ zs.length yc us ue.1 hnews hone hroom hfit
     let p := off + l.length * i.size
     let nvs : List Value := vs.take p ++ us ++ vs.drop (p + us.length)
     have hpl : p + us.length <= vs.length := by simpa using hfit
     let H' : PH := fun b' o => if b' = b /\ p <= o /\ o < p + us.length then us[o - p]? else H b' o
     have hle : PH.le H H' := by
      intro b' o v hv
      show (if b' = b /\ p <= o /\ o < p + us.length then us[o - p]? else H b' o) = some v
      split
      ·rename_i hc
       obtain ⟨rfl, hc1, hc2⟩ := hc;rw [hnone o hc1 (by omega)] at hv; cases hv
      ·exact hv
     have hbnew : (w.setRow b nvs.toArray).heap[b]? = some (.cells nvs.toArray e (0, 0)) := by simp [World.setRow, Array.getElem?_modify, hbk]
     have hnl : nvs.length = vs.length := by simp only [nvs, List.length_append, List.length_take, List.length_drop]; omega
     have htk : (vs.take p).length = p := by rw [List.length_take]; omega
     have hin : ∀ o, p <= o -> o < p + us.length -> nvs[o]? = us[o - p]? := fun o h1 h2 => by
      simp only [nvs];rw [List.getElem?_append_left (by rw [List.length_append, htk]; exact h2), List.getElem?_append_right (by omega), htk]
     have hout : ∀ o, ¬ (p <= o /\ o < p + us.length) -> nvs[o]? = vs[o]? := fun o h => by
      simp only [nvs]
      by_cases h1 : o < p
      ·rw [List.getElem?_append_left (by rw [List.length_append, htk]; omega), List.getElem?_append_left (by omega), List.getElem?_take, if_pos h1]
      ·rw [List.getElem?_append_right (by rw [List.length_append, htk]; omega), List.length_append, htk, List.getElem?_drop, show p + us.length + (o - (p + us.length)) = o by omega]
     have hupd : HeapOk H' (que (some ⟨b, off, none⟩) cap e i.size f (l ++ zs) :: (ms.eraseIdx k ++ fr)) (w.setRow b nvs.toArray) := by
      refine hok1.upd rfl (by simp [World.setRow]) ?_ ?_ hle ?_ ?_
      ·intro b' _ hn
       have : b ≠ b' := fun e => hn (by simp [que, e])
       simp [World.setRow, Array.getElem?_modify, this]
      ·intro b' o _ hn
       have : b' ≠ b := fun e => hn (by simp [que, e])
       show (if b' = b /\ p <= o /\ o < p + us.length then us[o - p]? else H b' o) = H b' o
       rw [if_neg (fun h => this h.1)]
      ·intro b' o v hb' hv
       have hv2 : (if b' = b /\ p <= o /\ o < p + us.length then us[o - p]? else H b' o) = some v := hv
       have hcell : ∀ o v, nvs[o]? = some v -> (w.setRow b nvs.toArray).cell? ⟨b, o, none⟩ = some v := fun o v h => by
        simp only [World.cell?, hbnew];rw [show (Option.isSome (none : Option Nat)) = false from rfl];simp only [Bool.false_eq_true, if_false];rw [List.getElem?_toArray]; exact h
       by_cases hc : b' = b /\ p <= o /\ o < p + us.length
       ·rw [if_pos hc] at hv2
        obtain ⟨rfl, hc1, hc2⟩ := hc;exact hcell o v (by rw [hin o hc1 hc2]; exact hv2)
       ·rw [if_neg hc] at hv2
        rcases hb' with hb' | hb'
        ·simp [que] at hb'
         subst hb'
         have hold := hok1.sub b' o v hv2
         simp only [World.cell?, hbk] at hold;rw [show (Option.isSome (none : Option Nat)) = false from rfl] at hold;simp only [Bool.false_eq_true, if_false] at hold;rw [List.getElem?_toArray] at hold;exact hcell o v (by rw [hout o (fun h => hc ⟨rfl, h⟩)]; exact hold)
        ·rw [hok.none_new _ _ hb'] at hv2; cases hv2
      ·refine ⟨by simpa using hroom, r2, .inr ⟨b, off, _, os ++ us, rfl, hbnew, by rw [hnl]; exact hvl, (ole.append ue).mono hle, ?_, ?_⟩⟩
       ·intro j u hj
        show (if b = b /\ p <= off + j /\ off + j < p + us.length then us[off + j - p]? else H b (off + j)) = some u
        by_cases hjo : j < os.length
        ·rw [List.getElem?_append_left hjo] at hj
         rw [if_neg (by intro h; omega)];exact hH j u hj
        ·have hjl := (List.getElem?_eq_some_iff.1 hj).1
         rw [List.length_append] at hjl;rw [List.getElem?_append_right (by omega)] at hj;rw [if_pos ⟨rfl, by omega, by omega⟩, show off + j - p = j - os.length by omega];exact hj
       ·intro o ho ho2
        show (if b = b /\ p <= o /\ o < p + us.length then us[o - p]? else H b o) = none
        rw [List.length_append, Nat.add_mul] at ho;rw [if_neg (by intro h; omega)];exact hnone o (by omega) ho2
     exact ⟨_, _, _, _, H', hrun hr, ⟨_, _, rfl, rfl⟩, hle, hupd.perm (perm_fr' hk), conc_v.2 (by simp), ⟨rfl, rfl, rfl, by simp [World.setRow]⟩⟩
    ·have holds : ∀ j v, os[j]? = some v -> w.cell? ((⟨b, off, none⟩ : Addr).add j) = some v := fun j v hj => by
      rw [add_zero']; exact hok.sub _ _ _ (hH j v hj)
     have hr := run_append_grow (P := P) w t ty e i z ht hi hz ⟨b, off, none⟩ l.length cap os ole.1 holds ⟨yb, yo, none⟩ zs.length yc us ue.1 hnews (by omega) (by omega) (growslice_fits (by omega) hb)
     exact grown cap os ole hr
end
end Go.V
namespace Go.V
section
variable {α β S O R : Type}
theorem getI {l : List α} {i : Nat} {x : α} (h : l[i]? = some x) : idx l (i : Int) = some x := by rw [idx_nat, h]
end
end Go.V
namespace Go.V
section
variable {nx : Int -> List Int} {N : Nat}
end
section
variable {α β S O R : Type}
theorem loop_rng {l : List α} {φ : Nat -> Int -> S -> Option O} (I : Nat -> S -> Prop) (Post : O -> Prop)
  (step : ∀ n (i : Nat) x s, l[i]? = some x -> i < l.length -> I i s -> (∃ s', φ (n + 1) (i : Int) s = φ n ((i : Int) + 1) s' /\ I (i + 1) s') \/ (∃ o, φ (n + 1) (i : Int) s = some o /\ Post o))
  (stop : ∀ n s, I l.length s -> ∃ o, φ (n + 1) (l.length : Int) s = some o /\ Post o) (hl : l.length < FU) : ∀ s, I 0 s -> ∃ o, φ FU 0 s = some o /\ Post o := by
 have key : ∀ n (i : Nat) s, i <= l.length -> l.length - i < n -> I i s -> ∃ o, φ n (i : Int) s = some o /\ Post o := by
  intro n
  induction n with
  | zero => intro i s _ h; omega
  | succ n ih =>
   intro i s hi hn hI
   by_cases h : i = l.length
   ·subst h; exact stop n s hI
   ·have hi' : i < l.length := by omega
    rcases step n i l[i] s (List.getElem?_eq_getElem hi') hi' hI with ⟨s', h1, h2⟩ | ⟨o, h1, h2⟩
    ·obtain ⟨o, h3, h4⟩ := ih (i + 1) s' (by omega) (by omega) h2
     exact ⟨o, by rw [h1]; exact h3, h4⟩
    ·exact ⟨o, h1, h2⟩
 intro s hI
 exact key FU 0 s (by omega) (by omega) hI
end
end Go.V
namespace Go.V
section
variable {P : Program} {L : Env} {ms : List Asrt} {dst : Option Nat} {ty : TypeId} {pos : String} {after : Array Edge} {g : Option (Nat × Bool)} {d d' : D} {x y : Operand} {t t' : TypeId}
end
section
variable {P : Program} {L : Env} {ms : List Asrt} {o : Oper}
theorem OpT.own {msA msB : List Asrt} (h : OpT P o L ms (fun _ ms' => ms' = msA)) (hc : ∀ (H : PH) (fr : List Asrt) (w : World), HeapOk H (msA ++ fr) w -> HeapOk H (msB ++ fr) w) : OpT P o L ms (fun _ ms' => ms' = msB) := by
 intro ro H fr a w hok henv next Q hn
 refine h ro H fr a w hok henv next Q ?_;rintro v d ms' w' H' rfl hle hok' hc' hs;exact hn v d _ w' H' rfl hle (hc H' fr w' hok') hc' hs
end
section
variable {L : Env} {ms : List Asrt}
end
end Go.V
namespace Go.V
section
variable {α β : Type} [DecidableEq α]
def mget : List (α × β) -> α -> Option β
 | [], _ => none
 | (a, b) :: l, k => if k = a then some b else mget l k
def mset : List (α × β) -> α -> β -> List (α × β)
 | [], k, v => [(k, v)]
 | (a, b) :: l, k, v => if k = a then (k, v) :: l else (a, b) :: mset l k v
end
def MapOk {α β : Type} (fk : α -> Value) (fv : β -> D) (H : PH) : List (α × β) -> List MapEntry -> Prop
 | [], [] => True
 | (a, b) :: l, e :: es => e.key = fk a /\ Conc H (fv b) e.val /\ MapOk fk fv H l es
 | _, _ => False
theorem MapOk.mono {α β : Type} {fk : α -> Value} {fv : β -> D} {H H' : PH} (h : PH.le H H') : ∀ (l : List (α × β)) (es : List MapEntry), MapOk fk fv H l es -> MapOk fk fv H' l es
 | [], [], _ => trivial
 | (a, b) :: l, e :: es, ⟨h1, h2, h3⟩ => ⟨h1, h2.mono h, MapOk.mono h l es h3⟩
 | [], _ :: _, x => x.elim
 | _ :: _, [], x => x.elim
def StOk (es : List MapEntry) (clock : Nat) : Prop := (es.map (·.born)).Nodup /\ ∀ e ∈ es, e.born < clock
def mp {α β : Type} (b : Nat) (fk : α -> Value) (fv : β -> D) (l : List (α × β)) : Asrt where
 blocks := [b]
 ok := fun H h => (∃ es clock, h b = some (.map es clock) /\ MapOk fk fv H l es.toList /\ StOk es.toList clock) /\ ∀ o, H b o = none
 stable := by
  rintro H H' h h' e hle ⟨⟨es, clock, h1, h2, hst⟩, h3⟩
  have := e b (by simp)
  exact ⟨⟨es, clock, by rw [this.2]; exact h1, h2.mono hle, hst⟩, fun o => by rw [this.1]; exact h3 o⟩
section
variable {α β : Type} [DecidableEq α] {fk : α -> Value} {fv : β -> D} {H : PH}
end
section
variable {P : Program} {L : Env} {ms : List Asrt} {dst : Option Nat} {ty : TypeId} {pos : String} {after : Array Edge} {g : Option (Nat × Bool)} {d d' : D} {x y z : Operand} {t t' : TypeId} {α β : Type}
theorem o_makeMap {fk : α -> Value} {fv : β -> D} : OpT P ⟨dst, .makeMap t none, ty, pos, after, g⟩ L ms (fun d ms' => ∃ b, d = .v (.map (some b)) /\ ms' = mp b fk fv ([] : List (α × β)) :: ms) := by
 refine .val (by simp) fun H fr a w hok henv => ?_;refine ⟨.map (some w.heap.size), _, _, w.alloc (.map #[] 0), H, ?_, ⟨w.heap.size, rfl, rfl⟩, PH.le_refl H, ?_, conc_v.2 rfl, sameOut_alloc _ _⟩
 ·simp [execOp, Instr.makeMap, newObj, Sem.run]
 ·exact hok.own (A := mp w.heap.size fk fv []) rfl ⟨⟨#[], 0, heap_alloc_new _ _, trivial, by simp [StOk]⟩, fun o => hok.none_new _ _ (Nat.le_refl _)⟩
variable [DecidableEq α]
end
end Go.V
namespace Go.V
def em : Asrt where
 blocks := []
 ok := fun _ _ => True
 stable := fun _ _ _ _ _ _ _ => trivial
theorem HeapOk.em_in {H : PH} {as : List Asrt} {w : World} (h : HeapOk H as w) : HeapOk H (em :: as) w :=
 ⟨h.sub, h.nodup, fun A hA b hb => by
  rcases List.mem_cons.1 hA with rfl | hA
  ·simp [em] at hb
  ·exact h.lt A hA b hb, fun A hA => by
  rcases List.mem_cons.1 hA with rfl | hA
  ·trivial
  ·exact h.ok A hA⟩
theorem HeapOk.em_out {H : PH} {as : List Asrt} {w : World} (h : HeapOk H (em :: as) w) : HeapOk H as w := HeapOk.drop (as := [em]) h
theorem take_em {H : PH} {ms fr : List Asrt} {w : World} {k : Nat} {A : Asrt} (hk : ms[k]? = some A) (h : HeapOk H (ms ++ fr) w) : HeapOk H (A :: (ms.set k em ++ fr)) w := by
 have h1 := (h.perm (perm_fr hk)).em_in
 have h2 : HeapOk H (A :: (em :: (ms.eraseIdx k ++ fr))) w := h1.perm (List.Perm.swap ..)
 exact h2.perm (List.Perm.cons _ (perm_fr' hk))
theorem put_em {H : PH} {ms fr : List Asrt} {w : World} {k : Nat} {A : Asrt} (hk : ms[k]? = some em) (h : HeapOk H (A :: (ms ++ fr)) w) : HeapOk H (ms.set k A ++ fr) w := by
 have h1 : HeapOk H (A :: (em :: (ms.eraseIdx k ++ fr))) w := h.perm (List.Perm.cons _ (perm_fr hk))
 have h2 : HeapOk H (A :: (ms.eraseIdx k ++ fr)) w := (h1.perm (List.Perm.swap ..)).em_out
 exact h2.perm (perm_fr' hk)
def putL (ms : List Asrt) : List Nat -> List Asrt -> List Asrt
 | k :: ks, A :: As => putL (ms.set k A) ks As
 | _, _ => ms
def ems (ks : List Nat) : List Asrt := ks.map fun _ => em
theorem putL_get {k : Nat} : ∀ (ks : List Nat) (As ms : List Asrt), k ∉ ks -> (putL ms ks As)[k]? = ms[k]?
 | [], _, _, _ => by simp [putL]
 | _ :: _, [], _, _ => by simp [putL]
 | j :: ks, A :: As, ms, h => by
  simp only [List.mem_cons, not_or] at h;rw [putL, putL_get ks As _ h.2, List.getElem?_set_ne (fun e => h.1 e.symm)]
theorem putL_set {k : Nat} {B : Asrt} : ∀ (ks : List Nat) (As ms : List Asrt), k ∉ ks -> (putL ms ks As).set k B = putL (ms.set k B) ks As
 | [], _, _, _ => by simp [putL]
 | _ :: _, [], _, _ => by simp [putL]
 | j :: ks, A :: As, ms, h => by
  simp only [List.mem_cons, not_or] at h;rw [putL, putL_set ks As _ h.2, putL];rw [List.set_comm _ _ (fun e => h.1 e.symm)]
theorem take_all {H : PH} {w : World} : ∀ (ks : List Nat) (As ms fr : List Asrt), ks.Nodup -> As.length = ks.length -> (∀ i : Nat, i < ks.length -> ∃ k A, ks[i]? = some k /\ As[i]? = some A /\ ms[k]? = some A) -> HeapOk H (ms ++ fr) w -> HeapOk H (As ++ (putL ms ks (ems ks) ++ fr)) w
 | [], [], ms, fr, _, _, _, h => by simpa [putL] using h
 | [], _ :: _, _, _, _, hl, _, _ => by simp at hl
 | k :: ks, [], _, _, _, hl, _, _ => by simp at hl
 | k :: ks, A :: As, ms, fr, hn, hl, hg, h => by
  rw [List.nodup_cons] at hn;obtain ⟨k', A', e1, e2, e3⟩ := hg 0 (by simp);simp only [List.getElem?_cons_zero, Option.some.injEq] at e1 e2;subst e1 e2
  have h1 := take_em e3 h
  have h2 : HeapOk H (ms.set k em ++ (A :: fr)) w := h1.perm (List.perm_middle.symm)
  have h3 := take_all ks As (ms.set k em) (A :: fr) hn.2 (by simpa using hl) (fun i hi => by
   obtain ⟨k', A', e1, e2, e4⟩ := hg (i + 1) (by simpa using hi);simp only [List.getElem?_cons_succ] at e1 e2;refine ⟨k', A', e1, e2, ?_⟩
   have hne : k ≠ k' := fun e => hn.1 (by rw [e]; exact List.mem_of_getElem? e1)
   rw [List.getElem?_set_ne hne];exact e4) h2
  have e5 : putL ms (k :: ks) (ems (k :: ks)) = putL (ms.set k em) ks (ems ks) := rfl
  rw [e5];refine h3.perm ?_
  have p1 : (putL (ms.set k em) ks (ems ks) ++ (A :: fr)).Perm (A :: (putL (ms.set k em) ks (ems ks) ++ fr)) := List.perm_middle
  have p2 := (p1.append_left As).trans (List.perm_middle (a := A) (l₁ := As))
  simpa using p2
theorem put_all {H : PH} {w : World} : ∀ (ks : List Nat) (As ms fr : List Asrt), ks.Nodup -> As.length = ks.length -> (∀ k ∈ ks, k < ms.length) -> HeapOk H (As ++ (putL ms ks (ems ks) ++ fr)) w -> HeapOk H (putL ms ks As ++ fr) w
 | [], [], ms, fr, _, _, _, h => by simpa [putL] using h
 | [], _ :: _, _, _, _, hl, _, _ => by simp at hl
 | k :: ks, [], _, _, _, hl, _, _ => by simp at hl
 | k :: ks, A :: As, ms, fr, hn, hl, hb, h => by
  rw [List.nodup_cons] at hn
  have e5 : putL ms (k :: ks) (ems (k :: ks)) = putL (ms.set k em) ks (ems ks) := rfl
  rw [e5] at h
  have h1 : HeapOk H (As ++ (putL (ms.set k em) ks (ems ks) ++ (A :: fr))) w := by
   refine h.perm ?_
   have p1 : (putL (ms.set k em) ks (ems ks) ++ (A :: fr)).Perm (A :: (putL (ms.set k em) ks (ems ks) ++ fr)) := List.perm_middle
   have p2 := (p1.append_left As).trans (List.perm_middle (a := A) (l₁ := As))
   simpa using p2.symm
  have h2 := put_all ks As (ms.set k em) (A :: fr) hn.2 (by simpa using hl) (fun k' hk' => by simpa using hb k' (by simp [hk'])) h1
  have h3 : HeapOk H (A :: (putL (ms.set k em) ks As ++ fr)) w := h2.perm List.perm_middle
  have hk : (putL (ms.set k em) ks As)[k]? = some em := by
   rw [putL_get ks As _ hn.1, List.getElem?_set_self (hb k (by simp))]
  have h4 := put_em hk h3
  rw [putL_set ks As _ hn.1] at h4
  simpa [putL] using h4
def ownB : List Nat -> List Nat -> Nat -> Bool
 | [], _, _ => true
 | k :: ks, seen, n => Nat.blt k n && !(seen.contains k) && ownB ks (k :: seen) n
theorem ownB_ok : ∀ (ks seen : List Nat) (n : Nat), ownB ks seen n = true -> ks.Nodup /\ (∀ k ∈ ks, k < n) /\ ∀ k ∈ ks, k ∉ seen
 | [], _, _, _ => ⟨List.nodup_nil, by simp, by simp⟩
 | k :: ks, seen, n, h => by
  simp only [ownB, Bool.and_eq_true, Bool.not_eq_true'] at h;obtain ⟨⟨h1, h2⟩, h3⟩ := h;obtain ⟨a, b, c⟩ := ownB_ok ks (k :: seen) n h3;refine ⟨List.nodup_cons.2 ⟨fun hm => c k hm (by simp), a⟩, fun j hj => ?_, fun j hj => ?_⟩
  ·rcases List.mem_cons.1 hj with rfl | hj
   ·exact nB h1
   ·exact b j hj
  ·rcases List.mem_cons.1 hj with rfl | hj
   ·intro hm
    rw [List.contains_iff_mem.2 hm] at h2; cases h2
   ·exact fun hm => c j hj (by simp [hm])
def getL (ms : List Asrt) : List Nat -> List Asrt -> Prop
 | [], [] => True
 | k :: ks, A :: As => ms[k]? = some A /\ getL ms ks As
 | _, _ => False
theorem getL_ok {ms : List Asrt} : ∀ (ks : List Nat) (As : List Asrt), getL ms ks As -> As.length = ks.length /\ ∀ i : Nat, i < ks.length -> ∃ k A, ks[i]? = some k /\ As[i]? = some A /\ ms[k]? = some A
 | [], [], _ => ⟨rfl, fun i hi => by simp at hi⟩
 | k :: ks, A :: As, ⟨h1, h2⟩ => by
  obtain ⟨a, b⟩ := getL_ok ks As h2;refine ⟨by simp [a], fun i hi => ?_⟩
  cases i with
  | zero => exact ⟨k, A, rfl, rfl, h1⟩
  | succ i => exact b i (by simpa using hi)
 | [], _ :: _, h => h.elim
 | _ :: _, [], h => h.elim
section
variable {P : Program} {L : Env} {ms : List Asrt} {dst : Option Nat} {ty : TypeId} {pos : String} {after : Array Edge} {g : Option (Nat × Bool)} {d d' : D} {x y z : Operand} {t t' : TypeId} {R : D -> List Asrt -> Prop}
theorem o_call_own {f : FuncId} {args : List Operand} {ats : Array TypeId} {ds : List D} {As : List Asrt} (ks : List Nat) (hc : ∀ args w, (callFunc f args).run P w = .ok (.enter f args) w) (hev : evL L args = some ds) (hb : ownB ks [] ms.length = true) (hg : getL ms ks As) (hf : Fn P f ds As R) (hl : ∀ d ms', R d ms' -> ms'.length = ks.length) :
  OpT P ⟨dst, .call ⟨.value (.func f), args.toArray, ats⟩, ty, pos, after, g⟩ L ms (fun d ms' => ∃ ms₁, R d ms₁ /\ ms' = putL ms ks ms₁) := by
 obtain ⟨b1, b2, _⟩ := ownB_ok ks [] _ hb;obtain ⟨g1, g2⟩ := getL_ok ks As hg
 intro ro H fr a w hok henv next Q hn
 have hok' := take_all ks As ms fr b1 g1 g2 hok
 have := o_call (P := P) (L := L) (ms := As ++ putL ms ks (ems ks)) (dst := dst) (ty := ty) (pos := pos) (after := after) (g := g) (ats := ats) (ms₁ := As) (rest := putL ms ks (ems ks)) hc hev (List.Perm.refl _) hf
 refine this ro H fr a w (by rw [List.append_assoc]; exact hok') henv next Q ?_;rintro v d ms' w' H' ⟨ms₁, hR, rfl⟩ hle hok2 hc2 hs;rw [List.append_assoc] at hok2;exact hn v d _ w' H' ⟨ms₁, hR, rfl⟩ hle (put_all ks ms₁ ms fr b1 (hl d ms₁ hR) b2 hok2) hc2 hs
end
theorem permA {ms As rest : List Asrt} {A : Asrt} (k : Nat) (h : ms[k]? = some A) (p : (ms.eraseIdx k).Perm (rest ++ As)) : ms.Perm (rest ++ (A :: As)) :=
 (perm_at ms k A h).trans ((List.Perm.cons A p).trans List.perm_middle.symm)
theorem permN {ms : List Asrt} : ms.Perm (ms ++ []) := by simp
end Go.V
namespace Go.V
section
variable {P : Program} {L : Env} {ms : List Asrt} {dst : Option Nat} {ty : TypeId} {pos : String} {after : Array Edge} {g : Option (Nat × Bool)} {d d' : D} {x y : Operand} {t t' : TypeId}
theorem o_append_own {a : Option Addr} {cap n : Nat} {e : TypeId} {sz : Nat} {α : Type} {f : α -> D} {xs zs : List α} {i : TypeInfo} {z : Value} (k : Nat) (ht : P.underlying t = some (.slice e)) (hi : P.info? e = some i) (hz : i.zero = some z) (hsz : i.size = sz) (hzs : z.cells.size = sz)
  (hx : Env.ev L x = some (.v (.slice a n cap))) (hk : ms[k]? = some (arr a n cap e sz f xs)) (hy : Env.ev L y = some (.list sz f zs)) (hfl : ∀ x, flat (f x).cs = true) (hst : ∀ x, storableL (f x).cs = true)
  (hb : (xs.length + zs.length) * i.bytes <= 140737488355328) (h63 : xs.length + zs.length <= maxLen) :
  OpT P ⟨dst, .call ⟨.builtin .append, #[x, y], #[t, t]⟩, ty, pos, after, g⟩ L ms (fun d' ms' => ∃ a' m' cap', d' = .v (.slice a' m' cap') /\ ms' = ms.set k (arr a' m' cap' e sz f (xs ++ zs))) := by
 subst hsz;refine .val (by simp) fun H fr act w hok henv => ?_
 have hok1 := hok.perm (perm_fr hk)
 obtain ⟨r0, r1, r2, r3⟩ := hok1.ok _ (List.mem_cons_self ..);subst r0;obtain ⟨ya, yc, hyv, y1, y2, y3⟩ := enc_list (henv.ev hy)
 have hrun : ∀ {v : Value} {w' : World}, (Builtin.append_ #[t, t] ty #[.slice a xs.length cap, .slice ya zs.length yc]).run P w = .ok v w' ->
   (execOp act.eval ⟨dst, .call ⟨.builtin .append, #[x, y], #[t, t]⟩, ty, pos, after, g⟩).run P w = .ok (.value v) w' := by
  intro v w' h
  simp [execOp, resolve, invoke, builtin, ev_v henv hx, hyv, Sem.run, h]
 have h63' : xs.length + zs.length <= 9223372036854775807 := by simpa [maxLen] using h63
 by_cases hz0 : zs = []
 ·
  subst hz0
  have hr : (Builtin.append_ #[t, t] ty #[.slice a xs.length cap, .slice ya 0 yc]).run P w = .ok (.slice a xs.length cap) w := by
   have hf : (Builtin.firstCells i.size 0 (.slice ya 0 yc)).run P w = .ok #[] w := by
    cases ya with
    | none => simp [Builtin.firstCells, Sem.run]
    | some q => simp [Builtin.firstCells, loadCells, loadCellsFrom, Sem.run]
   cases a with
   | none => simp [Builtin.append_, run_underlying ht, sizeOf, typeInfo, hi, Builtin.lenOf, r1, hf, Sem.run]
   | some q => simp [Builtin.append_, run_underlying ht, sizeOf, typeInfo, hi, Builtin.lenOf, r1, hf, storeCells, Sem.run]
  refine ⟨.slice a xs.length cap, .v (.slice a xs.length cap), ms.set k (arr a xs.length cap e i.size f (xs ++ ([] : List α))), w, H, hrun hr, ⟨a, _, cap, rfl, rfl⟩, PH.le_refl H, ?_, conc_v.2 rfl, SameOut.refl w⟩;simp only [List.append_nil]
  have : ms.set k (arr a xs.length cap e i.size f xs) = ms := by
   apply List.ext_getElem?
   intro j
   by_cases hj : k = j
   ·subst hj
    have hlt := (List.getElem?_eq_some_iff.1 hk).1
    rw [List.getElem?_set_self hlt, hk]
   ·rw [List.getElem?_set_ne hj]
  rw [this];exact hok
 ·rcases y3 with y3 | ⟨yb, yo, hya, hyel⟩
  ·exact absurd y3 hz0
  ·subst hya
   obtain ⟨us, ue, uh⟩ := list_cells hyel
   have hpos : 0 < zs.length := List.length_pos_iff.2 hz0
   have hnews : ∀ j v, us[j]? = some v -> w.cell? ((⟨yb, yo, none⟩ : Addr).add j) = some v := fun j v hj => by rw [add_zero']; exact hok.sub _ _ _ (uh j v hj)
   have hone := listEnc_one ue hfl hst
   have grown : ∀ (old : Nat) (olds : List Value), ListEnc H f i.size xs olds -> (Builtin.append_ #[t, t] ty #[.slice a xs.length cap, .slice (some ⟨yb, yo, none⟩) zs.length yc]).run P w =
     .ok (.slice (some ⟨w.heap.size, 0, none⟩) (xs.length + zs.length) (grownCap w (xs.length + zs.length) old e)) (w.drew.alloc (.cells (olds.toArray ++ us.toArray ++ Builtin.zeroCells z.cells (grownCap w (xs.length + zs.length) old e - (xs.length + zs.length))) e)) ->
     ∃ v d ms' w' H', (execOp act.eval ⟨dst, .call ⟨.builtin .append, #[x, y], #[t, t]⟩, ty, pos, after, g⟩).run P w = .ok (.value v) w' /\ (∃ a' m' cap', d = .v (.slice a' m' cap') /\ ms' = ms.set k (arr a' m' cap' e i.size f (xs ++ zs))) /\
      PH.le H H' /\ HeapOk H' (ms' ++ fr) w' /\ Conc H' d v /\ SameOut w w' := by
    intro old olds ole hr
    have hge := grownCap_ge w (xs.length + zs.length) old e
    have hcm : grownCap w (xs.length + zs.length) old e <= maxLen := grownCap_le_maxLen w (xs.length + zs.length) old e h63
    have hsplit : (olds.toArray ++ us.toArray ++ Builtin.zeroCells z.cells (grownCap w (xs.length + zs.length) old e - (xs.length + zs.length))) = ((olds ++ us) ++ (Builtin.zeroCells z.cells (grownCap w (xs.length + zs.length) old e - (xs.length + zs.length))).toList).toArray := by
     apply Array.ext'; simp
    rw [hsplit] at hr
    have hd : HeapOk H (ms.eraseIdx k ++ fr) w.drew := (hok1.tail).drew _
    have hlen : (olds ++ us).length = (xs ++ zs).length * i.size := by rw [List.length_append, ole.1, ue.1, List.length_append, Nat.add_mul]
    have hown := hd.own (o := .cells ((olds ++ us) ++ (Builtin.zeroCells z.cells (grownCap w (xs.length + zs.length) old e - (xs.length + zs.length))).toList).toArray e (0, 0))
     (A := arr (some ⟨w.heap.size, 0, none⟩) (xs.length + zs.length) (grownCap w (xs.length + zs.length) old e) e i.size f (xs ++ zs)) rfl ?_
    ·refine ⟨_, _, _, _, H, hrun hr, ⟨_, _, _, rfl, rfl⟩, PH.le_refl H, hown.perm (perm_fr' hk), conc_v.2 rfl, ?_⟩
     exact ⟨rfl, rfl, rfl, by have := size_alloc' w.drew (.cells ((olds ++ us) ++ (Builtin.zeroCells z.cells (grownCap w (xs.length + zs.length) old e - (xs.length + zs.length))).toList).toArray e); rw [this]; show w.heap.size <= w.heap.size + 1; omega⟩
    ·refine ⟨by simp, by simpa using hge, hcm, .inr ⟨w.heap.size, _, olds ++ us, rfl, heap_alloc_new w.drew _, ?_, ole.append ue, ?_, ?_⟩⟩
     ·have hzl : (Builtin.zeroCells z.cells (grownCap w (xs.length + zs.length) old e - (xs.length + zs.length))).toList.length = (grownCap w (xs.length + zs.length) old e - (xs.length + zs.length)) * z.cells.size := by rw [Array.length_toList, size_zeroCells]
      rw [List.length_append, hlen, hzl, hzs, <- Nat.add_mul]
      congr 1
      simp only [List.length_append]
      omega
     ·rw [<- hlen]; exact List.take_left
     ·intro o
      exact hd.none_new _ _ (Nat.le_refl _)
   rcases r3 with ⟨ha, hxs, hcap⟩ | ⟨b, vs, os, ha, hbk, hvl, ole, htake, hnone⟩
   ·subst ha hxs hcap
    have hr := run_append_nil (P := P) w t ty e i z ht hi hz ⟨yb, yo, none⟩ zs.length yc us ue.1 hnews hpos (by simp at h63'; omega) (by simp at hb; omega)
    refine grown 0 [] ⟨by simp, fun i x hx => by simp at hx⟩ ?_
    simpa using hr
   ·subst ha
    by_cases hroom : xs.length + zs.length <= cap
    ·
     have hfit : xs.length * i.size + us.length <= vs.toArray.size := by
      simp only [List.size_toArray, hvl, ue.1, <- Nat.add_mul]; exact Nat.mul_le_mul_right _ hroom
     have hr := run_append_room (P := P) w t ty e i ht hi b xs.length cap vs.toArray hbk ⟨yb, yo, none⟩ zs.length yc us ue.1 hnews hone hroom hfit
     have hosl : os.length = xs.length * i.size := ole.1
     have hlt : b < w.heap.size := hok1.lt _ (by simp : arr (some ⟨b, 0, none⟩) xs.length cap e i.size f xs ∈ _) b (by simp [arr])
     have hnew : (vs.toArray.toList.take (xs.length * i.size) ++ us ++ vs.toArray.toList.drop (xs.length * i.size + us.length)) = (os ++ us) ++ vs.drop (xs.length * i.size + us.length) := by
      simp only [htake]
     rw [hnew] at hr
     have hupd : HeapOk H (arr (some ⟨b, 0, none⟩) (xs.length + zs.length) cap e i.size f (xs ++ zs) :: (ms.eraseIdx k ++ fr)) (w.setRow b ((os ++ us) ++ vs.drop (xs.length * i.size + us.length)).toArray) := by
      have hbnew : (w.setRow b ((os ++ us) ++ vs.drop (xs.length * i.size + us.length)).toArray).heap[b]? = some (.cells ((os ++ us) ++ vs.drop (xs.length * i.size + us.length)).toArray e (0, 0)) := by
       simp [World.setRow, Array.getElem?_modify, hbk]
      refine hok1.upd rfl (by simp [World.setRow]) ?_ (fun _ _ _ _ => rfl) (PH.le_refl H) ?_ ?_
      ·intro b' _ hn
       have : b ≠ b' := fun e => hn (by simp [arr, e])
       simp [World.setRow, Array.getElem?_modify, this]
      ·intro b' o v hb' hv
       rcases hb' with hb' | hb'
       ·simp [arr] at hb'; subst hb'; rw [hnone] at hv; cases hv
       ·rw [hok.none_new _ _ hb'] at hv; cases hv
      ·refine ⟨by simp, by simpa using hroom, r2, .inr ⟨b, _, os ++ us, rfl, hbnew, ?_, ole.append ue, ?_, hnone⟩⟩
       ·simp only [List.length_append, List.length_drop, hosl, hvl, ue.1]
        have : (xs.length + zs.length) * i.size <= cap * i.size := Nat.mul_le_mul_right _ hroom
        rw [Nat.add_mul] at this
        omega
       ·have : (os ++ us).length = (xs ++ zs).length * i.size := by rw [List.length_append, hosl, ue.1, List.length_append, Nat.add_mul]
        rw [<- this]; exact List.take_left
     refine ⟨_, _, _, _, H, hrun hr, ⟨_, _, _, rfl, rfl⟩, PH.le_refl H, hupd.perm (perm_fr' hk), conc_v.2 rfl, ⟨rfl, rfl, rfl, by simp [World.setRow]⟩⟩
    ·have holds : ∀ j v, os[j]? = some v -> w.cell? ((⟨b, 0, none⟩ : Addr).add j) = some v := fun j v hj => by
      rw [add_zero', Nat.zero_add]
      have hjl := (List.getElem?_eq_some_iff.1 hj).1
      rw [ole.1] at hjl
      have h2 : vs[j]? = some v := by rw [<- htake, List.getElem?_take, if_pos hjl] at hj; exact hj
      simp [World.cell?, hbk, h2]
     have hr := run_append_grow (P := P) w t ty e i z ht hi hz ⟨b, 0, none⟩ xs.length cap os ole.1 holds ⟨yb, yo, none⟩ zs.length yc us ue.1 hnews (by omega) (by omega) (growslice_fits (by omega) hb)
     exact grown cap os ole hr
end
end Go.V
namespace Go.V
abbrev kI64 (n : Int) : Value := .int .i64 n
section
variable {Γ : Ctx} {P : Program} {L : Env} {ms : List Asrt} {K : KT} {l : List Oper}
end
theorem getL_n {ms : List Asrt} : getL ms [] [] := trivial
theorem getL_c {ms As : List Asrt} {A : Asrt} {k : Nat} {ks : List Nat} (h : ms[k]? = some A) (t : getL ms ks As) : getL ms (k :: ks) (A :: As) := ⟨h, t⟩
end Go.V
namespace Go.V
open Go.ChangeShapes Go.WideShapes Go.ChangeAt Go.RowKit
def OpensW (P : Program) (t : TypeId) (Q : D -> Prop) : Prop :=
 ∀ (H : Type) (enc : TypeId × Value -> H) (w : World) (sp : Nat -> Bool) (held : Bool) (fuel : Nat) (cs : List Value) (x : DataW H × List MemPlace), DataW.trod enc P w 0 sp held fuel t cs = some x -> (∀ n ∈ x.1.weights P t, n <= 140737488351232) -> ∃ d, Q d /\ Enc (Hof w) d cs
section
variable {P : Program} {t e : TypeId} {Q Q' : D -> Prop}
theorem OpensW.imp (h : OpensW P t Q) (k : ∀ d, Q d -> Q' d) : OpensW P t Q' := fun H enc w sp held fuel cs x hx hw => let ⟨d, a, b⟩ := h H enc w sp held fuel cs x hx hw; ⟨d, k d a, b⟩
end
end Go.V
namespace Go.V
section
variable {Γ : Ctx} {P : Program} {L : Env} {ms : List Asrt} {K : KT} {l : List Oper}
theorem models_env {L1 L2 : Env} {a : Act} {w : World} (mm : Models Γ L1 ms a w) (h : ∀ t d, Env.find L2 t = some d -> Env.find L1 t = some d) : Models Γ L2 ms a w := by
 obtain ⟨H, marks, hle, hok, henv, hdf⟩ := mm.ex;exact ⟨⟨H, marks, hle, hok, fun s d hs => henv s d (h s d hs), hdf⟩, mm.size, mm.same⟩
theorem models_perm {ms' : List Asrt} {a : Act} {w : World} (mm : Models Γ L ms a w) (h : ms.Perm ms') : Models Γ L ms' a w := by
 obtain ⟨H, marks, hle, hok, henv, hdf⟩ := mm.ex;exact ⟨⟨H, marks, hle, hok.perm (h.append_right _), henv, hdf⟩, mm.size, mm.same⟩
theorem models_put {a : Act} {w w' : World} {ms' : List Asrt} {o : Oper} {d : D} {v : Value} {H H' : PH} {marks : List Nat} (mm : Models Γ L ms a w) (hle : PH.le Γ.H0 H) (henv : EnvOk H L a.tmps) (hdf : a.defers = marks.map markD) (hdk : dstOk o Γ.N) (hl : PH.le H H') (hok : HeapOk H' (ms' ++ (marks.map markA ++ Γ.fr)) w') (hcv : Conc H' d v) (hso : SameOut w w') :
  Models Γ (extE o d L) ms' (a.put o.dst v) w' := by
 refine ⟨⟨H', marks, PH.le_trans hle hl, hok, ?_, by cases o.dst <;> simpa [Act.put] using hdf⟩, by cases o.dst <;> simp [Act.put, mm.size], mm.same.trans hso⟩;unfold extE
 cases hd : o.dst with
 | none => exact henv.mono hl
 | some t0 =>
  have hlt : t0 < Γ.N := by simp only [dstOk, hd] at hdk; exact nB hdk
  exact (henv.mono hl).put (by rw [mm.size]; exact hlt) hcv
theorem gstep_step {o : Oper} {a : Act} {w : World} {Ef Eg : Env} {msx rest : List Asrt} {nx : D -> List Asrt -> Prop} {sk : Prop} (mm : Models Γ Ef (msx ++ rest) a w) (hdk : dstOk o Γ.N) (hag : ∀ s d', s ∈ slotsOf l o -> Env.find Eg s = some d' -> Env.find Ef s = some d') (hgs : GStep P l o Eg msx nx sk) {next : Act -> World -> Prop}
  (hn1 : ∀ d ms', nx d ms' -> ∀ a' w', Models Γ (extE o d Ef) (ms' ++ rest) a' w' -> next a' w') (hn2 : sk -> ∀ a' w', Models Γ (extE o (.v undef) Ef) (msx ++ rest) a' w' -> next a' w') :
  if Region.wanted o (yielded l.toArray a.tmps) = true then o.wpIn (FR Γ.round) 0 P a w next (Post Γ K) else (∀ f, o.about P w a.eval = some f -> (FR Γ.round).fn f) /\ next (a.put o.dst undef) w := by
 obtain ⟨H, marks, hle, hok, henv, hdf⟩ := mm.ex
 have hsub : EnvOk H (Env.only (slotsOf l o) Eg) a.tmps := by
  intro s d' hfnd
  obtain ⟨h3, h4⟩ := only_mem hfnd;exact henv s d' (hag s d' h3 h4)
 have run : ∀ R, OpT P o (Env.only (slotsOf l o) Eg) msx R -> (∀ d ms', R d ms' -> nx d ms') -> o.wpIn (FR Γ.round) 0 P a w next (Post Γ K) := by
  intro R hop hrest
  refine hop Γ.round H (rest ++ (marks.map markA ++ Γ.fr)) a w (by rw [<- List.append_assoc]; exact hok) hsub next _ ?_
  intro v d ms' w' H' hR hl hok' hcv hso
  exact hn1 d ms' (hrest d ms' hR) _ _ (models_put mm hle henv hdf hdk hl (by rw [List.append_assoc]; exact hok') hcv hso)
 have skip : sk -> next (a.put o.dst undef) w := fun h => hn2 h _ _ (models_put mm hle henv hdf hdk (PH.le_refl H) hok (conc_v.2 rfl) (SameOut.refl w))
 unfold GStep at hgs
 cases hg : o.guard with
 | none =>
  rw [hg] at hgs
  simp only at hgs
  obtain ⟨R, hop, hrest⟩ := hgs;simp only [Region.wanted, hg, if_true];exact run R hop hrest
 | some qq =>
  obtain ⟨j, want⟩ := qq;rw [hg] at hgs
  simp only at hgs
  obtain ⟨s, u, h1, h2, h3⟩ := hgs
  have hfnd := hag s _ (by simp [slotsOf, hg, h1]) h2
  rcases h3 with ⟨b, hu, h3⟩ | ⟨hu, h4⟩
  ·subst hu
   have hy := yielded_of (ops := l.toArray) mm (j := j) (t := s) (b := b) (by simpa using h1) hfnd
   simp only [Region.wanted, hg, hy]
   rcases h3 with ⟨h3, R, hop, hrest⟩ | ⟨h3, h4⟩
   ·have hbq : (some b == some want) = true := by rw [h3]; simp
    rw [if_pos hbq];exact run R hop hrest
   ·have hbq : (some b == some want) = false := by rw [h3]; cases want <;> rfl
    rw [if_neg (by rw [hbq]; simp)];exact ⟨fun _ _ => trivial, skip h4⟩
  ·subst hu
   have hy := yielded_undef (ops := l.toArray) mm (j := j) (t := s) (by simpa using h1) hfnd
   simp only [Region.wanted, hg, hy];rw [if_neg (by cases want <;> simp)];exact ⟨fun _ _ => trivial, skip h4⟩
theorem still_step (hf : FlowOk l l.length) (X : Nat -> Bool) {ds : List D} {S : Nat -> Bool} {i : Nat} {o : Oper} {d : D} {a : Act} {w : World} {E' : Env} {msx msi rest : List Asrt} (hc : Closed l S) (ho : l[i]? = some o) (hunl : S i = false) (hcs : Closed l (fun j => S j || decide (j = i))) (hX : X i = false)
    (hE : ∀ s, s ∈ slotsOf l o \/ o.dst = some s -> Env.find E' s = none) (mm : Models Γ (E' ++ envL (fun j => S j && !X j) l ds 0 L) msx a w) (hd : ds[i]? = some d) (hdst : dstOk o Γ.N) (hp : msx.Perm (msi ++ rest)) (hst : Step P l o (envL (fun j => decide (j < i) && !X j) l ds 0 L) msi d) {next : Act -> World -> Prop}
    (hn : ∀ a' w', Models Γ (E' ++ envL (fun j => (S j || decide (j = i)) && !X j) l ds 0 L) msx a' w' -> next a' w') :
    if Region.wanted o (yielded l.toArray a.tmps) = true then o.wpIn (FR Γ.round) 0 P a w next (Post Γ K) else (∀ f, o.about P w a.eval = some f -> (FR Γ.round).fn f) /\ next (a.put o.dst undef) w := by
  have agree : ∀ s, s ∈ slotsOf l o -> Env.find (E' ++ envL (fun j => S j && !X j) l ds 0 L) s = Env.find (envL (fun j => decide (j < i) && !X j) l ds 0 L) s := by
    intro s hsl
    rw [find_app, hE s (.inl hsl)]
    refine find_congr l ds 0 L L (fun j o' hj hd' => ?_) rfl
    simp only [Nat.zero_add]
    cases hfj : X j with
    | true => simp
    | false =>
      simp only [Bool.not_false, Bool.and_true]
      by_cases hji : j = i
      · subst hji; rw [hunl]; simp
      · have hn' := hf.names i o j o' s ho hj (fun e => hji e.symm) hd' (.inl hsl)
        by_cases hlt : j < i
        · have h1 := (hn' _ hcs).1 hlt (by simp)
          simp only [hji, decide_false, Bool.or_false] at h1
          rw [h1]; simp [hlt]
        · cases hb : S j with
          | true => have h1 := (hn' _ hc).2 (by omega) hb; rw [hunl] at h1; cases h1
          | false => simp [hlt]
  have env' : ∀ t d', Env.find (E' ++ envL (fun j => (S j || decide (j = i)) && !X j) l ds 0 L) t = some d' -> Env.find (extE o d (E' ++ envL (fun j => S j && !X j) l ds 0 L)) t = some d' := by
    intro t d' hfnd
    unfold extE
    have hcg : o.dst ≠ some t -> Env.find (E' ++ envL (fun j => (S j || decide (j = i)) && !X j) l ds 0 L) t = Env.find (E' ++ envL (fun j => S j && !X j) l ds 0 L) t := by
      intro hds
      rw [find_app, find_app]
      rw [find_congr l ds 0 L L (fun j o' hj hd' => ?_) rfl]
      simp only [Nat.zero_add]
      have : ¬ j = i := fun e => by subst e; rw [ho] at hj; simp only [Option.some.injEq] at hj; subst hj; exact hds hd'
      simp [this]
    cases hod : o.dst with
    | none => rw [hcg (by rw [hod]; simp)] at hfnd; exact hfnd
    | some q =>
      simp only [Env.find]
      cases hb : Nat.beq q t with
      | false =>
        rw [hcg (by rw [hod]; intro e; rw [Option.some.inj e] at hb; simp at hb)] at hfnd
        exact hfnd
      | true =>
        have hqt := Nat.eq_of_beq_eq_true hb
        subst hqt
        rw [find_app, hE q (.inr hod)] at hfnd
        have hat := find_at (S := fun j => ((S j || decide (j = i)) && !X j)) l ds 0 i L o ho hd hod (by simp [hX]) (fun j o' hj hlo hd' => by
          simp only [Nat.zero_add]
          have hn' := hf.names i o j o' q ho hlo (by omega) hd' (.inr hod)
          cases hbj : S j with
          | true => have h1 := (hn' _ hc).2 hj hbj; rw [hunl] at h1; cases h1
          | false => have : ¬ j = i := by omega
                     simp [this])
        rw [hat] at hfnd
        exact hfnd
  have fin : ∀ d0 a' w', d0 = d -> Models Γ (extE o d0 (E' ++ envL (fun j => S j && !X j) l ds 0 L)) msx a' w' -> next a' w' := by
    rintro d0 a' w' rfl m'
    exact hn a' w' (models_env m' env')
  have mm2 : Models Γ (E' ++ envL (fun j => S j && !X j) l ds 0 L) (msi ++ rest) a w := models_perm mm hp
  have back : ∀ {Lx : Env} {a' w'}, Models Γ Lx (msi ++ rest) a' w' -> Models Γ Lx msx a' w' := fun m' => models_perm m' hp.symm
  refine gstep_step (K := K) (Eg := envL (fun j => decide (j < i) && !X j) l ds 0 L) (nx := fun d0 ms' => d0 = d /\ ms' = msi) (sk := d = .v undef) mm2 hdst (fun s d' hs hfd => by rw [agree s hs]; exact hfd) ?_ (fun d0 ms' hnx a' w' m' => ?_) (fun hsk a' w' m' => ?_)
  · unfold Step at hst
    unfold GStep
    cases hg : o.guard with
    | none => rw [hg] at hst; exact ⟨_, hst, fun _ _ h => h⟩
    | some q =>
      obtain ⟨j, want⟩ := q
      rw [hg] at hst
      simp only at hst ⊢
      obtain ⟨s, u, h1, h2, h3⟩ := hst
      refine ⟨s, u, h1, h2, ?_⟩
      rcases h3 with ⟨b, hu, h3⟩ | ⟨hu, h4⟩
      · refine .inl ⟨b, hu, ?_⟩
        rcases h3 with ⟨h3, h4⟩ | ⟨h3, h4⟩
        · exact .inl ⟨h3, _, h4, fun _ _ h => h⟩
        · exact .inr ⟨h3, h4⟩
      · exact .inr ⟨hu, h4⟩
  · obtain ⟨rfl, rfl⟩ := hnx
    exact fin d0 a' w' rfl (back m')
  · exact fin (.v undef) a' w' hsk.symm (back m')
end
end Go.V
namespace Go.V
def chainFB (l : List Oper) (A B free fr : List Nat) : Bool :=
 let M := masks l []
 let ef := A ++ B
 (ef.zipIdx.all fun (e, q) => Nat.blt e l.length && (ef.zipIdx.all fun (e', q') => !(Nat.blt q q') || (Nat.blt e e' && (M.getD e' 0).testBit e))) &&
 (l.zipIdx.all fun (_, i) => ef.contains i || free.contains i || fr.contains i || ef.all fun e => (M.getD e 0).testBit i) &&
 (ef.all fun e => match l[e]? with
  | some o => (l.zipIdx.all fun (o', j) => (match o.dst with
    | some t => (Nat.beq e j || !(o'.dst == some t)) && (ef.contains j || !((slotsOf l o').contains t))
    | none => true) &&
    (Nat.ble j e || ef.contains j || (match o'.dst with | some t => !((slotsOf l o).contains t) | none => true)))
  | none => false) &&
 decide fr.Nodup && (fr.all fun i => !(ef.contains i) && (B.all fun e => (M.getD e 0).testBit i) && match l[i]? with
  | some o => o.guard.isNone && (match o.dst with
   | some t => l.zipIdx.all fun (o', j) => (Nat.beq i j || !(o'.dst == some t)) && (B.contains j || !((slotsOf l o').contains t))
   | none => false)
  | none => false)
structure ChainF (l : List Oper) (A B free fr : List Nat) : Prop where
 lt : ∀ e ∈ A ++ B, e < l.length
 chain : ∀ (q q' e e' : Nat), q < q' -> (A ++ B)[q]? = some e -> (A ++ B)[q']? = some e' -> e < e' /\ ∀ S, Closed l S -> S e' = true -> S e = true
 dep : ∀ i < l.length, i ∉ A ++ B -> i ∉ free -> i ∉ fr -> ∀ e ∈ A ++ B, ∀ S, Closed l S -> S e = true -> S i = true
 op : ∀ e ∈ A ++ B, ∃ o, l[e]? = some o /\ (∀ t, o.dst = some t -> (∀ j o', l[j]? = some o' -> j ≠ e -> o'.dst ≠ some t) /\ ∀ j o', l[j]? = some o' -> j ∉ A ++ B -> t ∉ slotsOf l o') /\ ∀ j o' t, e < j -> j ∉ A ++ B -> l[j]? = some o' -> o'.dst = some t -> t ∉ slotsOf l o
 nd : fr.Nodup
 fre : ∀ i ∈ fr, i ∉ A ++ B /\ (∀ e ∈ B, ∀ S, Closed l S -> S e = true -> S i = true) /\ ∃ o, l[i]? = some o /\ o.guard = none /\ o.dst = some (dstN l i) /\ (∀ j o', l[j]? = some o' -> j ≠ i -> o'.dst ≠ some (dstN l i)) /\ ∀ j o', l[j]? = some o' -> j ∉ B -> dstN l i ∉ slotsOf l o'
theorem chainF_ok {l : List Oper} {A B free fr : List Nat} (h : chainFB l A B free fr = true) : ChainF l A B free fr := by
 have hM : MaskOk l (masks l []) := masks_ok l l [] (fun j => by simp) (fun j m hj => by simp at hj)
 have use : ∀ i j S, Closed l S -> ((masks l []).getD i 0).testBit j = true -> S i = true -> S j = true := by
  intro i j S hS hb hi
  cases hacc : (masks l [])[i]? with
  | none => rw [List.getD_eq_getElem?_getD, hacc] at hb; simp at hb
  | some m => rw [List.getD_eq_getElem?_getD, hacc] at hb; exact hM i m hacc j hb S hS hi
 unfold chainFB at h;simp only [Bool.and_eq_true, List.all_eq_true, decide_eq_true_eq] at h;obtain ⟨⟨⟨⟨h1, h2⟩, h3⟩, h4⟩, h5⟩ := h;refine ⟨fun e he => ?_, fun q q' e e' hq he he' => ?_, fun i hi hie hif hir e he S hS hSe => ?_, fun e he => ?_, h4, fun i hi => ?_⟩
 ·obtain ⟨q, hq⟩ := List.getElem?_of_mem he
  exact nB (h1 (e, q) (List.mem_zipIdx_iff_getElem?.2 (by simpa using hq))).1
 ·have := (h1 (e, q) (List.mem_zipIdx_iff_getElem?.2 (by simpa using he))).2 (e', q') (List.mem_zipIdx_iff_getElem?.2 (by simpa using he'))
  simp only [Bool.or_eq_true, Bool.not_eq_true', Bool.and_eq_true] at this
  rcases this with h4 | ⟨h4, h5⟩
  ·have : Nat.blt q q' = true := Nat.ble_eq_true_of_le hq
   rw [this] at h4; cases h4
  ·exact ⟨nB h4, fun S hS hSe => use e' e S hS h5 hSe⟩
 ·have := h2 (l[i], i) (List.mem_zipIdx_iff_getElem?.2 (by simp [hi]))
  simp only [Bool.or_eq_true, List.all_eq_true, contains_f hie, contains_f hif, contains_f hir, Bool.false_eq_true, false_or] at this;exact use e i S hS (this e he) hSe
 ·have := h3 e he
  split at this
  ·rename_i o ho
   simp only [List.all_eq_true] at this
   have hall := this
   simp only [Bool.and_eq_true] at hall;refine ⟨o, ho, fun t ht => ⟨fun j o' hj hne => ?_, fun j o' hj hje => ?_⟩, fun j o' t hlt hje hj ht => ?_⟩
   ·have := (hall (o', j) (List.mem_zipIdx_iff_getElem?.2 (by simpa using hj))).1
    rw [ht] at this;simp only [Bool.and_eq_true, Bool.or_eq_true, Bool.not_eq_true'] at this
    rcases this.1 with h5 | h5
    ·exact absurd (Nat.eq_of_beq_eq_true h5).symm hne
    ·intro e; rw [e] at h5; simp at h5
   ·have := (hall (o', j) (List.mem_zipIdx_iff_getElem?.2 (by simpa using hj))).1
    rw [ht] at this;simp only [Bool.and_eq_true, Bool.or_eq_true, Bool.not_eq_true', contains_f hje, Bool.false_eq_true, false_or] at this
    intro hm
    have h5 := this.2
    rw [List.contains_iff_mem.2 hm] at h5; cases h5
   ·have := (hall (o', j) (List.mem_zipIdx_iff_getElem?.2 (by simpa using hj))).2
    rw [ht] at this
    have hnb : Nat.ble j e = false := by
     cases hb : Nat.ble j e with
     | true => have := nB hb; omega
     | false => rfl
    simp only [Bool.or_eq_true, hnb, contains_f hje, Bool.false_eq_true, false_or, Bool.not_eq_true'] at this
    intro hm
    rw [List.contains_iff_mem.2 hm] at this; cases this
  ·cases this
 ·obtain ⟨⟨h6, h7⟩, h8⟩ := h5 i hi
  refine ⟨fun hm => ?_, fun e he S hS hSe => use e i S hS (h7 e he) hSe, ?_⟩
  ·simp only [Bool.not_eq_true'] at h6
   rw [List.contains_iff_mem.2 hm] at h6; cases h6
  ·split at h8
   ·rename_i o ho
    simp only [Bool.and_eq_true, Option.isNone_iff_eq_none] at h8;obtain ⟨h9, h10⟩ := h8
    split at h10
    ·rename_i t ht
     have hd : dstN l i = t := by simp [dstN, ho, ht]
     simp only [List.all_eq_true, Bool.and_eq_true, Bool.or_eq_true, Bool.not_eq_true'] at h10;refine ⟨o, ho, h9, by rw [hd]; exact ht, fun j o' hj hne => ?_, fun j o' hj hjB => ?_⟩
     ·rcases (h10 (o', j) (List.mem_zipIdx_iff_getElem?.2 (by simpa using hj))).1 with h5 | h5
      ·exact absurd (Nat.eq_of_beq_eq_true h5).symm hne
      ·rw [hd]; intro e; rw [e] at h5; simp at h5
     ·rcases (h10 (o', j) (List.mem_zipIdx_iff_getElem?.2 (by simpa using hj))).2 with h5 | h5
      ·exact absurd (List.contains_iff_mem.1 h5) hjB
      ·rw [hd]; intro hm
       rw [List.contains_iff_mem.2 hm] at h5; cases h5
    ·cases h10
   ·cases h8
section
variable {Γ : Ctx} {P : Program} {L : Env} {ms : List Asrt} {K : KT} {l : List Oper}
def allT : Nat -> Bool := fun _ => true
def GF (Γ : Ctx) (P : Program) (ops : List Oper) (K : KT) (FD : List Asrt -> Prop) (L : Env) (R : Nat -> D -> Asrt -> Prop) (fr B : List Nat) : List Nat -> Env -> List Asrt -> Prop
 | [], E, ms => ∀ ρ : Nat -> D × Asrt, (∀ i ∈ fr, R i (ρ i).1 (ρ i).2) -> FD (fown fr allT ρ ++ ms) /\ GDE2 Γ P ops K FD L B (fenv ops fr allT ρ ++ E) (fown fr allT ρ ++ ms)
 | e :: es, E, ms => ∀ o, ops[e]? = some o -> dstOk o Γ.N /\ GStep P ops o (E ++ L) ms (fun d ms' => FD ms' /\ GF Γ P ops K FD L R fr B es (extE o d E) ms') (GF Γ P ops K FD L R fr B es (extE o (.v undef) E) ms)
theorem fenv_all {fr : List Nat} {S : Nat -> Bool} {ρ : Nat -> D × Asrt} (h : ∀ i ∈ fr, S i = true) : fenv l fr S ρ = fenv l fr allT ρ /\ fown fr S ρ = fown fr allT ρ := by
 have : fr.filter S = fr.filter allT := List.filter_congr fun i hi => by rw [h i hi]; rfl
 unfold fenv fown;rw [this]; exact ⟨rfl, rfl⟩
theorem fenv_none {fr : List Nat} {S : Nat -> Bool} {ρ : Nat -> D × Asrt} {t : Nat} (h : ∀ i ∈ fr, dstN l i ≠ t) : Env.find (fenv l fr S ρ) t = none := by
 cases hq : Env.find (fenv l fr S ρ) t with
 | none => rfl
 | some d =>
  obtain ⟨j, hj, e1, _⟩ := (find_map (dstN l) (fun i => (ρ i).1) t (fr.filter S)).1 d hq;exact absurd e1 (h j (List.mem_filter.1 hj).1)
theorem extE_app (o : Oper) (d : D) (E Z : Env) : extE o d (E ++ Z) = extE o d E ++ Z := by
 unfold extE; cases o.dst <;> rfl
theorem draw_chainf {A B free fr fd : List Nat} {FD : List Asrt -> Prop} (hf : FlowOk l l.length) (hch : ChainF l A B free fr) (ds : List D) (hlen : ds.length = l.length) (R : Nat -> D -> Asrt -> Prop)
  (hstep : ∀ (i : Nat) o d, i ∉ A ++ B -> i ∉ fr -> l[i]? = some o -> ds[i]? = some d -> dstOk o Γ.N /\ Step P l o (envL (fun j => decide (j < i) && !((A ++ B).contains j || fr.contains j)) l ds 0 L) (if free.contains i && !(fd.contains i) then [] else ms) d)
  (hfd : ∀ msx, FD msx -> ∀ (i : Nat) o d, fd.contains i = true -> l[i]? = some o -> ds[i]? = some d -> Step P l o (envL (fun j => decide (j < i) && !((A ++ B).contains j || fr.contains j)) l ds 0 L) msx d) (hfd0 : FD ms)
  (hfresh : ∀ (i : Nat) o, i ∈ fr -> l[i]? = some o -> dstOk o Γ.N /\ OpT P o (Env.only (slotsOf l o) (envL (fun j => decide (j < i) && !((A ++ B).contains j || fr.contains j)) l ds 0 L)) [] (fun d ms' => ∃ As, R i d As /\ ms' = [As]))
  (h2 : GF Γ P l K FD (envL (fun j => !((A ++ B).contains j || fr.contains j)) l ds 0 L) R fr B A [] ms) :
  ∀ (fuel : Nat) (listed : Array Bool) (t : Nat) (a : Act) (w : World), listed.size = l.length -> Closed l (fun j => listed.getD j false) -> (∀ i, l.length <= i -> listed.getD i false = false) ->
   ((List.range l.length).filter (fun i => !listed.getD i false)).length <= fuel -> (∀ j, listed.getD j false = false) -> Models Γ L ms a w ->
   wpOpsIn (FR Γ.round) 0 P l.toArray (Post Γ K) (Region.linearise.go .any l.toArray fuel t listed []) a w := by
 let X : Nat -> Bool := fun j => (A ++ B).contains j || fr.contains j
 have hXf : ∀ i, i ∉ A ++ B -> i ∉ fr -> X i = false := fun i h1 h2 => by simp only [X, contains_f h1, contains_f h2, Bool.or_self]
 have hXA : ∀ i, i ∈ A ++ B -> X i = true := fun i h1 => by simp only [X, List.contains_iff_mem.2 h1, Bool.true_or]
 have hXr : ∀ i, i ∈ fr -> X i = true := fun i h1 => by simp only [X, List.contains_iff_mem.2 h1, Bool.or_true]
 have hAB : ∀ e, e ∈ A -> e ∈ A ++ B := fun e h => List.mem_append_left _ h
 have hBB : ∀ e, e ∈ B -> e ∈ A ++ B := fun e h => List.mem_append_right _ h
 let In1 : (Nat -> Bool) -> Act -> World -> Prop := fun S a w => ∃ (m : Nat) (E : Env) (msx : List Asrt) (ρ : Nat -> D × Asrt), m <= A.length /\ (∀ q e, A[q]? = some e -> (S e = true ↔ q < m)) /\ (∀ e ∈ B, S e = false) /\ GF Γ P l K FD (envL (fun j => !X j) l ds 0 L) R fr B (A.drop m) E msx /\
  (∀ t d, Env.find E t = some d -> ∃ e o, e ∈ A ++ B /\ S e = true /\ l[e]? = some o /\ o.dst = some t) /\ (m = 0 -> msx = ms) /\ FD msx /\ (∀ i ∈ fr, S i = true -> R i (ρ i).1 (ρ i).2) /\
  Models Γ ((E ++ fenv l fr S ρ) ++ envL (fun j => S j && !X j) l ds 0 L) (msx ++ fown fr S ρ) a w
 let In2 : Nat -> (Nat -> Bool) -> Act -> World -> Prop := fun k S a w => ∃ (m : Nat) (E : Env) (msx : List Asrt), k <= m /\ m <= B.length /\ (∀ e ∈ A, S e = true) /\ (∀ i ∈ fr, S i = true) /\ (∀ q e, B[q]? = some e -> (S e = true ↔ q < m)) /\ GDE2 Γ P l K FD (envL (fun j => !X j) l ds 0 L) (B.drop m) E msx /\
  (∀ t d, Env.find E t = some d -> ∃ e o, (e ∈ A ++ B \/ e ∈ fr) /\ S e = true /\ l[e]? = some o /\ o.dst = some t) /\ FD msx /\
  Models Γ (E ++ envL (fun j => S j && !X j) l ds 0 L) msx a w
 have absorb : ∀ S a w, In1 S a w -> (∀ e ∈ A, S e = true) -> (∀ i ∈ fr, S i = true) -> In2 0 S a w := by
  rintro S a w ⟨m, E, msx, ρ, hml, hm, hB0, hg, hE, hm0, hFD, hρ, mm⟩ hA1 hr1
  have hmA : m = A.length := by
   rcases Nat.lt_or_ge m A.length with h | h
   ·have := (hm m A[m] (by simp [h])).1 (hA1 _ (by simp)); omega
   ·omega
  subst hmA;rw [List.drop_length] at hg;simp only [GF] at hg;obtain ⟨g1, g2⟩ := hg ρ (fun i hi => hρ i hi (hr1 i hi));obtain ⟨e1, e2⟩ := fenv_all (l := l) (ρ := ρ) hr1;rw [e1, e2] at mm;refine ⟨0, fenv l fr allT ρ ++ E, fown fr allT ρ ++ msx, Nat.le_refl _, Nat.zero_le _, hA1, hr1, fun q e he => by rw [hB0 e (List.mem_of_getElem? he)]; simp, by simpa using g2, fun t d ht => ?_, g1, ?_⟩
  ·rw [find_app] at ht
   cases hq : Env.find (fenv l fr allT ρ) t with
   | none =>
    rw [hq] at ht;obtain ⟨e, o, a1, a2, a3, a4⟩ := hE t d ht;exact ⟨e, o, .inl a1, a2, a3, a4⟩
   | some d2 =>
    obtain ⟨j, hj, f1, _⟩ := (find_map (dstN l) (fun i => (ρ i).1) t (fr.filter allT)).1 d2 hq
    have hjf := (List.mem_filter.1 hj).1
    obtain ⟨_, _, o, ho, _, hd, _⟩ := hch.fre j hjf;exact ⟨j, o, .inr hjf, hr1 j hjf, ho, by rw [hd, f1]⟩
  ·refine models_perm (models_env mm fun t d ht => ?_) List.perm_append_comm
   rw [List.append_assoc, find_app] at ht ⊢
   cases hqe : Env.find E t with
   | none =>
    simp only
    rw [find_app]
    cases hq : Env.find (fenv l fr allT ρ) t with
    | some d2 => rw [hq] at ht; exact ht
    | none => rw [hq] at ht; simp only at ht; rw [find_app, hqe] at ht; exact ht
   | some d3 =>
    simp only
    obtain ⟨e, o, a1, a2, a3, a4⟩ := hE t d3 hqe
    have hno : Env.find (fenv l fr allT ρ) t = none := fenv_none fun i hi e1 => by
     obtain ⟨b1, _, _, _, _, _, hdd, _⟩ := hch.fre i hi;exact hdd e o a3 (fun h => b1 (h ▸ a1)) (by rw [a4, e1])
    rw [hno] at ht
    simp only at ht
    rw [find_app, hqe] at ht;exact ht
 refine fun fuel listed t a w hs hc hk hfu h0 m0 => draw_gen hf (Nat.le_refl _) (fun S a w => In1 S a w \/ In2 1 S a w) ?_ ?_ fuel listed t a w hs hc hk hfu (.inl ?_)
 rotate_left
 ·
  intro a w hin
  have hall : In2 0 (fun j => decide (j < l.length)) a w := by
   rcases hin with h | h
   ·refine absorb _ a w h (fun e he => by simp [hch.lt e (hAB e he)]) (fun i hi => ?_)
    obtain ⟨_, _, o, ho, _⟩ := hch.fre i hi
    simp [(List.getElem?_eq_some_iff.1 ho).1]
   ·obtain ⟨m, E, msx, _, hh⟩ := h
    exact ⟨m, E, msx, Nat.zero_le _, hh⟩
  obtain ⟨m, E, msx, _, hml, hA1, hr1, hm, hg, hE, hFD, mm⟩ := hall
  have hdr : B.drop m = [] := by
   rw [List.drop_eq_nil_iff]
   rcases Nat.lt_or_ge m B.length with h | h
   ·have := (hm m B[m] (by simp [h])).1 (by simp [hch.lt B[m] (hBB _ (by simp))])
    omega
   ·exact h
  rw [hdr] at hg;simp only [GDE2] at hg
  have hee : envL (fun j => decide (j < l.length) && !X j) l ds 0 L = envL (fun q => !X q) l ds 0 L := by
   have : ∀ (l' : List Oper) (ds : List D) (k0 : Nat) (L : Env), k0 + l'.length <= l.length -> envL (fun j => decide (j < l.length) && !X j) l' ds k0 L = envL (fun q => !X q) l' ds k0 L := by
    intro l'
    induction l' with
    | nil => intro ds k0 L _; simp [envL]
    | cons o r ih =>
     intro ds k0 L hk
     cases ds with
     | nil => simp [envL]
     | cons d ds =>
      simp only [List.length_cons] at hk
      have : decide (k0 < l.length) = true := by simp; omega
      simp only [envL, this, Bool.true_and];exact ih ds (k0 + 1) _ (by omega)
   exact this l ds 0 L (by omega)
  rw [hee] at mm;rw [List.drop_length];exact ⟨_, _, hg, mm⟩
 ·
  have hz : ∀ j, listed.getD j false = false := h0
  refine ⟨0, [], ms, fun _ => (.v undef, em), Nat.zero_le _, fun q e he => (by have := hz e; simp [this]), fun e he => hz e, (by rw [List.drop_zero]; exact h2), fun t d ht => by simp [Env.find] at ht, fun _ => rfl, hfd0, fun i hi h => (by have := hz i; simp only [this] at h; cases h), ?_⟩
  have e1 : fenv l fr (fun j => listed.getD j false) (fun _ => (.v undef, em)) = [] /\ fown fr (fun j => listed.getD j false) (fun _ => (D.v undef, em)) = [] := by
   have : fr.filter (fun j => listed.getD j false) = [] := List.filter_eq_nil_iff.2 fun i hi => (by have := hz i; simp [this])
   unfold fenv fown;rw [this]; exact ⟨rfl, rfl⟩
  rw [e1.1, e1.2, List.append_nil, List.append_nil, List.nil_append, envL_none _ _ _ _ (fun q _ => (by have := hz q; simp [this]))];exact m0
 rintro S i o a w hc hik ho hunl hcs hin next hn
 by_cases hiB : i ∈ B
 ·
  have hin2 : In2 0 S a w := by
   rcases hin with h | h
   ·refine absorb S a w h (fun e he => ?_) (fun j hj => ?_)
    ·obtain ⟨q, hq⟩ := List.getElem?_of_mem he
     obtain ⟨q', hq'⟩ := List.getElem?_of_mem hiB
     have h1 : (A ++ B)[q]? = some e := by rw [List.getElem?_append_left (List.getElem?_eq_some_iff.1 hq).1]; exact hq
     have h2 : (A ++ B)[A.length + q']? = some i := by rw [List.getElem?_append_right (by omega), show A.length + q' - A.length = q' by omega]; exact hq'
     obtain ⟨h3, h4⟩ := hch.chain q (A.length + q') e i (by have := (List.getElem?_eq_some_iff.1 hq).1; omega) h1 h2
     have h5 := h4 _ hcs (by simp)
     have hne : ¬ e = i := by omega
     simpa [hne] using h5
    ·obtain ⟨b1, b2, _⟩ := hch.fre j hj
     have h5 := b2 i hiB _ hcs (by simp)
     have hne : ¬ j = i := fun e => b1 (e ▸ hBB i hiB)
     simpa [hne] using h5
   ·obtain ⟨m, E, msx, _, hh⟩ := h
    exact ⟨m, E, msx, Nat.zero_le _, hh⟩
  obtain ⟨m, E, msx, _, hml, hA1, hr1, hm, hg, hE, hFD, mm⟩ := hin2;obtain ⟨q, hq⟩ := List.getElem?_of_mem hiB
  have hqm : q = m := by
   have h3 : ¬ q < m := fun h => by have := (hm q i hq).2 h; rw [hunl] at this; cases this
   rcases Nat.lt_or_ge m q with h | h
   ·have hml2 : m < B.length := Nat.lt_trans h (List.getElem?_eq_some_iff.1 hq).1
    have c1 : (A ++ B)[A.length + m]? = some B[m] := by rw [List.getElem?_append_right (by omega), show A.length + m - A.length = m by omega]; simp [hml2]
    have c2 : (A ++ B)[A.length + q]? = some i := by rw [List.getElem?_append_right (by omega), show A.length + q - A.length = q by omega]; exact hq
    obtain ⟨h4, h5⟩ := hch.chain (A.length + m) (A.length + q) B[m] i (by omega) c1 c2
    have h6 := h5 _ hcs (by simp)
    have hne : ¬ B[m] = i := by omega
    simp only [hne, decide_false, Bool.or_false] at h6
    have := (hm m B[m] (by simp [hml2])).1 h6
    omega
   ·omega
  subst hqm
  have hdrop : B.drop q = i :: B.drop (q + 1) := by
   obtain ⟨hlt, he⟩ := List.getElem?_eq_some_iff.1 hq;rw [<- he]; exact (List.getElem_cons_drop ..).symm
  rw [hdrop] at hg;simp only [GDE2] at hg;obtain ⟨hdk, hgs⟩ := hg o ho;obtain ⟨o2, ho2, hdst, hlate⟩ := hch.op i (hBB i hiB);obtain rfl : o2 = o := by rw [ho] at ho2; exact (Option.some.inj ho2).symm
  have hXi := hXA i (hBB i hiB)
  have hag : ∀ s d', s ∈ slotsOf l o2 -> Env.find (E ++ envL (fun j => !X j) l ds 0 L) s = some d' -> Env.find (E ++ envL (fun j => S j && !X j) l ds 0 L) s = some d' := by
   intro s d' h3 h4
   rw [find_app] at h4 ⊢
   cases hq2 : Env.find E s with
   | some d2 => rw [hq2] at h4; exact h4
   | none =>
    rw [hq2] at h4
    simp only at h4 ⊢
    rw [<- h4];refine find_congr l ds 0 L L (fun j o' hj hd' => ?_) rfl;simp only [Nat.zero_add]
    cases hfj : X j with
    | true => simp
    | false =>
     simp only [Bool.not_false, Bool.and_true]
     have hjf : j ∉ A ++ B := fun h => by rw [hXA j h] at hfj; cases hfj
     have hji : j ≠ i := fun e => hjf (e ▸ hBB i hiB)
     have hn' := hf.names i o2 j o' s ho hj (fun e => hji e.symm) hd' (.inl h3)
     rcases Nat.lt_or_gt_of_ne hji with hlt | hgt
     ·have h5 := (hn' _ hcs).1 hlt (by simp)
      simpa [hji] using h5
     ·exact absurd h3 (hlate j o' s hgt hjf hj hd')
  have hpe : envL (fun j => (S j || decide (j = i)) && !X j) l ds 0 L = envL (fun j => S j && !X j) l ds 0 L := by
   congr 1
   funext j
   by_cases hji : j = i
   ·subst hji; rw [hXi]; simp
   ·simp [hji]
  have fin : ∀ d ms' a' w', FD ms' -> GDE2 Γ P l K FD (envL (fun j => !X j) l ds 0 L) (B.drop (q + 1)) (extE o2 d E) ms' -> Models Γ (extE o2 d (E ++ envL (fun j => S j && !X j) l ds 0 L)) ms' a' w' -> next a' w' := by
   intro d ms' a' w' hF hr2 m'
   refine hn a' w' (.inr ⟨q + 1, extE o2 d E, ms', by omega, (List.getElem?_eq_some_iff.1 hq).1, fun e he => by simp [hA1 e he], fun j hj => by simp [hr1 j hj], fun q' e' he' => ?_, hr2, fun t d2 ht => ?_, hF, ?_⟩)
   ·by_cases hqq : q' = q
    ·subst hqq
     have : e' = i := by rw [hq] at he'; exact (Option.some.inj he').symm
     simp [this]
    ·have hne : e' ≠ i := by
      intro e
      subst e
      have c1 : (A ++ B)[A.length + q']? = some e' := by rw [List.getElem?_append_right (by omega), show A.length + q' - A.length = q' by omega]; exact he'
      have c2 : (A ++ B)[A.length + q]? = some e' := by rw [List.getElem?_append_right (by omega), show A.length + q - A.length = q by omega]; exact hq
      rcases Nat.lt_or_gt_of_ne hqq with h | h
      ·have := (hch.chain (A.length + q') (A.length + q) e' e' (by omega) c1 c2).1; omega
      ·have := (hch.chain (A.length + q) (A.length + q') e' e' (by omega) c2 c1).1; omega
     simp only [hne, decide_false, Bool.or_false];rw [hm q' e' he']
     omega
   ·unfold extE at ht
    cases hd : o2.dst with
    | none =>
     rw [hd] at ht;obtain ⟨e, o3, a1, a2, a3, a4⟩ := hE t d2 ht;exact ⟨e, o3, a1, by simp [a2], a3, a4⟩
    | some t0 =>
     rw [hd] at ht;simp only [Env.find] at ht
     cases hb : Nat.beq t0 t with
     | true => exact ⟨i, o2, .inl (hBB i hiB), by simp, ho, by rw [hd, Nat.eq_of_beq_eq_true hb]⟩
     | false =>
      rw [hb] at ht;obtain ⟨e, o3, a1, a2, a3, a4⟩ := hE t d2 ht;exact ⟨e, o3, a1, by simp [a2], a3, a4⟩
   ·rw [hpe, <- extE_app]; exact m'
  exact gstep_step (rest := []) (by rw [List.append_nil]; exact mm) hdk hag hgs (fun d ms' hnx a' w' m' => fin d ms' a' w' hnx.1 hnx.2 (by rw [List.append_nil] at m'; exact m')) (fun hsk a' w' m' => fin _ msx a' w' hFD hsk (by rw [List.append_nil] at m'; exact m'))
 by_cases hiA : i ∈ A
 ·
  have hin1 : In1 S a w := by
   rcases hin with h | ⟨m, E, msx, _, hml, hA1, _⟩
   ·exact h
   ·have := hA1 i hiA; rw [hunl] at this; cases this
  obtain ⟨m, E, msx, ρ, hml, hm, hB0, hg, hE, hm0, hFD, hρ, mm⟩ := hin1;obtain ⟨q, hq⟩ := List.getElem?_of_mem hiA
  have cA : ∀ (q : Nat) e, A[q]? = some e -> (A ++ B)[q]? = some e := fun q e h => by rw [List.getElem?_append_left (List.getElem?_eq_some_iff.1 h).1]; exact h
  have hqm : q = m := by
   have h3 : ¬ q < m := fun h => by have := (hm q i hq).2 h; rw [hunl] at this; cases this
   rcases Nat.lt_or_ge m q with h | h
   ·have hml2 : m < A.length := Nat.lt_trans h (List.getElem?_eq_some_iff.1 hq).1
    obtain ⟨h4, h5⟩ := hch.chain m q A[m] i h (cA m _ (by simp [hml2])) (cA q i hq)
    have h6 := h5 _ hcs (by simp)
    have hne : ¬ A[m] = i := by omega
    simp only [hne, decide_false, Bool.or_false] at h6
    have := (hm m A[m] (by simp [hml2])).1 h6
    omega
   ·omega
  subst hqm
  have hdrop : A.drop q = i :: A.drop (q + 1) := by
   obtain ⟨hlt, he⟩ := List.getElem?_eq_some_iff.1 hq;rw [<- he]; exact (List.getElem_cons_drop ..).symm
  rw [hdrop] at hg;simp only [GF] at hg;obtain ⟨hdk, hgs⟩ := hg o ho;obtain ⟨o2, ho2, hdst, hlate⟩ := hch.op i (hAB i hiA);obtain rfl : o2 = o := by rw [ho] at ho2; exact (Option.some.inj ho2).symm
  have hXi := hXA i (hAB i hiA)
  have hag : ∀ s d', s ∈ slotsOf l o2 -> Env.find (E ++ envL (fun j => !X j) l ds 0 L) s = some d' -> Env.find ((E ++ fenv l fr S ρ) ++ envL (fun j => S j && !X j) l ds 0 L) s = some d' := by
   intro s d' h3 h4
   have hno : Env.find (fenv l fr S ρ) s = none := fenv_none fun j hj e1 => by
    obtain ⟨_, _, _, _, _, _, _, hrd⟩ := hch.fre j hj;exact hrd i o2 ho hiB (e1 ▸ h3)
   rw [List.append_assoc, find_app] at ⊢;rw [find_app] at h4
   cases hq2 : Env.find E s with
   | some d2 => rw [hq2] at h4; exact h4
   | none =>
    rw [hq2] at h4
    simp only at h4 ⊢
    rw [find_app, hno]
    simp only
    rw [<- h4];refine find_congr l ds 0 L L (fun j o' hj hd' => ?_) rfl;simp only [Nat.zero_add]
    cases hfj : X j with
    | true => simp
    | false =>
     simp only [Bool.not_false, Bool.and_true]
     have hjf : j ∉ A ++ B := fun h => by rw [hXA j h] at hfj; cases hfj
     have hji : j ≠ i := fun e => hjf (e ▸ hAB i hiA)
     have hn' := hf.names i o2 j o' s ho hj (fun e => hji e.symm) hd' (.inl h3)
     rcases Nat.lt_or_gt_of_ne hji with hlt | hgt
     ·have h5 := (hn' _ hcs).1 hlt (by simp)
      simpa [hji] using h5
     ·exact absurd h3 (hlate j o' s hgt hjf hj hd')
  have hir : i ∉ fr := fun h => (hch.fre i h).1 (hAB i hiA)
  have hpe : envL (fun j => (S j || decide (j = i)) && !X j) l ds 0 L = envL (fun j => S j && !X j) l ds 0 L := by
   congr 1
   funext j
   by_cases hji : j = i
   ·subst hji; rw [hXi]; simp
   ·simp [hji]
  have hfl : fr.filter (fun j => S j || decide (j = i)) = fr.filter S := List.filter_congr fun j hj => by
   have : ¬ j = i := fun e => hir (e ▸ hj)
   simp [this]
  have hfe : fenv l fr (fun j => S j || decide (j = i)) ρ = fenv l fr S ρ := by unfold fenv; rw [hfl]
  have hfo : fown fr (fun j => S j || decide (j = i)) ρ = fown fr S ρ := by unfold fown; rw [hfl]
  have fin : ∀ d ms' a' w', FD ms' -> GF Γ P l K FD (envL (fun j => !X j) l ds 0 L) R fr B (A.drop (q + 1)) (extE o2 d E) ms' -> Models Γ (extE o2 d ((E ++ fenv l fr S ρ) ++ envL (fun j => S j && !X j) l ds 0 L)) (ms' ++ fown fr S ρ) a' w' -> next a' w' := by
   intro d ms' a' w' hF hr2 m'
   refine hn a' w' (.inl ⟨q + 1, extE o2 d E, ms', ρ, (List.getElem?_eq_some_iff.1 hq).1, fun q' e' he' => ?_, fun e he => ?_, hr2, fun t d2 ht => ?_, fun h => by omega, hF, fun j hj hSj => ?_, ?_⟩)
   ·by_cases hqq : q' = q
    ·subst hqq
     have : e' = i := by rw [hq] at he'; exact (Option.some.inj he').symm
     simp [this]
    ·have hne : e' ≠ i := by
      intro e
      subst e
      rcases Nat.lt_or_gt_of_ne hqq with h | h
      ·have := (hch.chain q' q e' e' h (cA _ _ he') (cA _ _ hq)).1; omega
      ·have := (hch.chain q q' e' e' h (cA _ _ hq) (cA _ _ he')).1; omega
     simp only [hne, decide_false, Bool.or_false];rw [hm q' e' he']
     omega
   ·have : ¬ e = i := fun h => hiB (h ▸ he)
    simp [this, hB0 e he]
   ·unfold extE at ht
    cases hd : o2.dst with
    | none =>
     rw [hd] at ht;obtain ⟨e, o3, a1, a2, a3, a4⟩ := hE t d2 ht;exact ⟨e, o3, a1, by simp [a2], a3, a4⟩
    | some t0 =>
     rw [hd] at ht;simp only [Env.find] at ht
     cases hb : Nat.beq t0 t with
     | true => exact ⟨i, o2, hAB i hiA, by simp, ho, by rw [hd, Nat.eq_of_beq_eq_true hb]⟩
     | false =>
      rw [hb] at ht;obtain ⟨e, o3, a1, a2, a3, a4⟩ := hE t d2 ht;exact ⟨e, o3, a1, by simp [a2], a3, a4⟩
   ·have : ¬ j = i := fun h => hir (h ▸ hj)
    exact hρ j hj (by simpa [this] using hSj)
   ·rw [hpe, hfe, hfo, <- extE_app, <- extE_app]; exact m'
  exact gstep_step mm hdk hag hgs (fun d ms' hnx a' w' m' => fin d ms' a' w' hnx.1 hnx.2 m') (fun hsk a' w' m' => fin _ msx a' w' hFD hsk m')
 have hiAB : i ∉ A ++ B := fun h => by
  rcases List.mem_append.1 h with h | h
  ·exact hiA h
  ·exact hiB h
 by_cases hir : i ∈ fr
 ·
  have hin1 : In1 S a w := by
   rcases hin with h | ⟨m, E, msx, _, hml, hA1, hr1, _⟩
   ·exact h
   ·have := hr1 i hir; rw [hunl] at this; cases this
  obtain ⟨m, E, msx, ρ, hml, hm, hB0, hg, hE, hm0, hFD, hρ, mm⟩ := hin1;obtain ⟨_, _, o2, ho2, hgd, hd, hdst, hrd⟩ := hch.fre i hir;obtain rfl : o2 = o := by rw [ho] at ho2; exact (Option.some.inj ho2).symm
  obtain ⟨hdk, hop⟩ := hfresh i o2 hir ho
  have hEs : ∀ s, s ∈ slotsOf l o2 -> Env.find E s = none := by
   intro s hs
   cases hq : Env.find E s with
   | none => rfl
   | some d2 =>
    obtain ⟨e, o3, a1, _, a3, a4⟩ := hE s d2 hq;obtain ⟨o4, b1, b3, _⟩ := hch.op e a1
    have : o4 = o3 := by rw [a3] at b1; exact (Option.some.inj b1).symm
    subst this;exact absurd hs ((b3 s a4).2 i o2 ho hiAB)
  have hag : ∀ s d', s ∈ slotsOf l o2 -> Env.find (envL (fun j => decide (j < i) && !X j) l ds 0 L) s = some d' -> Env.find ((E ++ fenv l fr S ρ) ++ envL (fun j => S j && !X j) l ds 0 L) s = some d' := by
   intro s d' hs h4
   have hno : Env.find (fenv l fr S ρ) s = none := fenv_none fun j hj e1 => by
    obtain ⟨_, _, _, _, _, _, _, hrd2⟩ := hch.fre j hj;exact hrd2 i o2 ho hiB (e1 ▸ hs)
   rw [List.append_assoc, find_app, hEs s hs]
   simp only
   rw [find_app, hno]
   simp only
   rw [<- h4];refine find_congr l ds 0 L L (fun j o' hj hd' => ?_) rfl;simp only [Nat.zero_add]
   cases hfj : X j with
   | true => simp
   | false =>
    simp only [Bool.not_false, Bool.and_true]
    by_cases hji : j = i
    ·subst hji; rw [hunl]; simp
    ·have hn' := hf.names i o2 j o' s ho hj (fun e => hji e.symm) hd' (.inl hs)
     by_cases hlt : j < i
     ·have h1 := (hn' _ hcs).1 hlt (by simp)
      simp only [hji, decide_false, Bool.or_false] at h1;rw [h1]; simp [hlt]
     ·cases hb : S j with
      | true => have h1 := (hn' _ hc).2 (by omega) hb; rw [hunl] at h1; cases h1
      | false => simp [hlt]
  refine gstep_step (K := K) (Eg := envL (fun j => decide (j < i) && !X j) l ds 0 L) (msx := []) (rest := msx ++ fown fr S ρ) (nx := fun d ms' => ∃ As, R i d As /\ ms' = [As]) (sk := False) (by simpa using mm) hdk hag ?_ (fun d ms' hnx a' w' m' => ?_) (fun h => h.elim)
  ·unfold GStep; rw [hgd]; exact ⟨_, hop, fun _ _ h => h⟩
  ·obtain ⟨As, hR, rfl⟩ := hnx
   let ρ' : Nat -> D × Asrt := fun j => if j = i then (d, As) else ρ j
   have hin : ∀ j, j ≠ i -> ρ' j = ρ j := fun j hj => by simp [ρ', hj]
   have hii : ρ' i = (d, As) := by simp [ρ']
   have hpf := filter_new (S := S) hch.nd hir hunl
   have hmapd : (fr.filter S).map (fun j => (ρ' j).2) = fown fr S ρ := by
    unfold fown;refine List.map_congr_left fun j hj => ?_
    have : j ≠ i := fun e => by subst e; have := (List.mem_filter.1 hj).2; rw [hunl] at this; cases this
    rw [hin j this]
   have hpo : (fown fr (fun j => S j || decide (j = i)) ρ').Perm (As :: fown fr S ρ) := by
    have := hpf.map (fun j => (ρ' j).2)
    simp only [List.map_cons, hmapd, hii] at this;exact this
   have hpe : envL (fun j => (S j || decide (j = i)) && !X j) l ds 0 L = envL (fun j => S j && !X j) l ds 0 L := by
    congr 1
    funext j
    by_cases hji : j = i
    ·subst hji; rw [hXr _ hir]; simp
    ·simp [hji]
   refine hn a' w' (.inl ⟨m, E, msx, ρ', hml, fun q e he => ?_, fun e he => ?_, hg, fun t d2 ht => ?_, hm0, hFD, fun j hj hSj => ?_, ?_⟩)
   ·have : ¬ e = i := fun h => hiA (h ▸ List.mem_of_getElem? he)
    simp only [this, decide_false, Bool.or_false];exact hm q e he
   ·have : ¬ e = i := fun h => hiB (h ▸ he)
    simp [this, hB0 e he]
   ·obtain ⟨e, o3, a1, a2, a3, a4⟩ := hE t d2 ht
    exact ⟨e, o3, a1, by simp [a2], a3, a4⟩
   ·by_cases hji : j = i
    ·subst hji; rw [hii]; exact hR
    ·rw [hin j hji]; exact hρ j hj (by simpa [hji] using hSj)
   ·rw [hpe]
    refine models_perm (models_env m' fun t d' hfnd => ?_) ?_
    ·unfold extE
     rw [hd];simp only [Env.find];rw [List.append_assoc, find_app] at hfnd
     cases hb : Nat.beq (dstN l i) t with
     | true =>
      have hit := Nat.eq_of_beq_eq_true hb
      subst hit
      have hEn : Env.find E (dstN l i) = none := by
       cases hq : Env.find E (dstN l i) with
       | none => rfl
       | some d2 =>
        obtain ⟨e, o3, a1, _, a3, a4⟩ := hE _ d2 hq;exact absurd a4 (hdst e o3 a3 (fun h => hiAB (h ▸ a1)))
      rw [hEn] at hfnd
      simp only at hfnd ⊢
      rw [find_app] at hfnd
      cases hq : Env.find (fenv l fr (fun j => S j || decide (j = i)) ρ') (dstN l i) with
      | some d2 =>
       rw [hq] at hfnd;simp only [Option.some.injEq] at hfnd;subst hfnd;obtain ⟨j, hj, e1, e2⟩ := (find_map (dstN l) (fun i => (ρ' i).1) (dstN l i) _).1 d2 hq;obtain ⟨hj1, _⟩ := List.mem_filter.1 hj
       have hji : j = i := by
        refine Classical.byContradiction fun hne => ?_;obtain ⟨_, _, oj, hoj, _, hdj, _, _⟩ := hch.fre j hj1;exact hdst j oj hoj hne (by rw [hdj, e1])
       subst hji;rw [e2, hii]
      | none =>
       have := (find_map (dstN l) (fun i => (ρ' i).1) (dstN l i) (fr.filter fun j => S j || decide (j = i))).2 hq i (List.mem_filter.2 ⟨hir, by simp⟩)
       exact absurd rfl this
     | false =>
      simp only
      have hne : dstN l i ≠ t := fun e => by rw [e] at hb; simp at hb
      rw [List.append_assoc, find_app]
      cases hqe : Env.find E t with
      | some d2 => rw [hqe] at hfnd; exact hfnd
      | none =>
       rw [hqe] at hfnd
       simp only at hfnd ⊢
       rw [find_app] at hfnd ⊢
       have key : Env.find (fenv l fr (fun j => S j || decide (j = i)) ρ') t = Env.find (fenv l fr S ρ) t := by
        cases hq : Env.find (fenv l fr S ρ) t with
        | some d2 =>
         obtain ⟨j, hj, e1, e2⟩ := (find_map (dstN l) (fun i => (ρ i).1) t _).1 d2 hq;obtain ⟨hj1, hj2⟩ := List.mem_filter.1 hj
         have hji : j ≠ i := fun e => hne (by rw [<- e]; exact e1)
         cases hq2 : Env.find (fenv l fr (fun j => S j || decide (j = i)) ρ') t with
         | none => exact absurd e1 ((find_map (dstN l) (fun i => (ρ' i).1) t (fr.filter fun j => S j || decide (j = i))).2 hq2 j (List.mem_filter.2 ⟨hj1, by simp [hj2]⟩))
         | some d3 =>
          obtain ⟨j2, hj2', e3, e4⟩ := (find_map (dstN l) (fun i => (ρ' i).1) t _).1 d3 hq2;obtain ⟨hj3, _⟩ := List.mem_filter.1 hj2'
          have hjj : j2 = j := by
           refine Classical.byContradiction fun hne2 => ?_;obtain ⟨_, _, oj, hoj, _, hdj, hdst2, _⟩ := hch.fre j hj1;obtain ⟨_, _, oj2, hoj2, _, hdj2, _, _⟩ := hch.fre j2 hj3;exact hdst2 j2 oj2 hoj2 hne2 (by rw [hdj2, e3, e1])
          subst hjj;rw [e4, e2, hin j2 hji]
        | none =>
         cases hq2 : Env.find (fenv l fr (fun j => S j || decide (j = i)) ρ') t with
         | none => rfl
         | some d3 =>
          obtain ⟨j2, hj2', e3, e4⟩ := (find_map (dstN l) (fun i => (ρ' i).1) t _).1 d3 hq2;obtain ⟨hj3, hj4⟩ := List.mem_filter.1 hj2'
          have hji : j2 ≠ i := fun e => hne (by rw [<- e]; exact e3)
          exact absurd e3 ((find_map (dstN l) (fun i => (ρ i).1) t (fr.filter S)).2 hq j2 (List.mem_filter.2 ⟨hj3, by simpa [hji] using hj4⟩))
       rw [key] at hfnd;exact hfnd
    ·have h1 : ([As] ++ (msx ++ fown fr S ρ)).Perm (msx ++ (As :: fown fr S ρ)) := by
      rw [List.singleton_append]; exact List.perm_middle.symm
     exact h1.trans (hpo.symm.append_left _)
 ·
  obtain ⟨d, hd⟩ : ∃ d, ds[i]? = some d := ⟨ds[i]'(by omega), by simp⟩;obtain ⟨hdst, hst⟩ := hstep i o d hiAB hir ho hd
  have hXi := hXf i hiAB hir
  have hnoF : ∀ S ρ s, s ∈ slotsOf l o \/ o.dst = some s -> Env.find (fenv l fr S ρ) s = none := by
   intro S ρ s hs
   refine fenv_none fun j hj e1 => ?_;obtain ⟨_, _, _, _, _, _, hdst2, hrd2⟩ := hch.fre j hj
   rcases hs with hs | hs
   ·exact hrd2 i o ho hiB (e1 ▸ hs)
   ·exact hdst2 i o ho (fun e => hir (e ▸ hj)) (by rw [hs, e1])
  have hnoE : ∀ {E : Env}, (∀ t d, Env.find E t = some d -> ∃ e o, (e ∈ A ++ B \/ e ∈ fr) /\ S e = true /\ l[e]? = some o /\ o.dst = some t) -> ∀ s, s ∈ slotsOf l o \/ o.dst = some s -> Env.find E s = none := by
   intro E hE s hs
   cases hq : Env.find E s with
   | none => rfl
   | some d2 =>
    obtain ⟨e, o3, a1, _, a3, a4⟩ := hE s d2 hq
    rcases a1 with a1 | a1
    ·obtain ⟨o4, b1, b3, _⟩ := hch.op e a1
     have : o4 = o3 := by rw [a3] at b1; exact (Option.some.inj b1).symm
     subst this
     rcases hs with hs | hs
     ·exact absurd hs ((b3 s a4).2 i o ho hiAB)
     ·exact absurd hs ((b3 s a4).1 i o ho (fun h => hiAB (h ▸ a1)))
    ·obtain ⟨_, _, o4, b1, _, b4, hdst2, hrd2⟩ := hch.fre e a1
     have : o4 = o3 := by rw [a3] at b1; exact (Option.some.inj b1).symm
     subst this
     have hes : dstN l e = s := by rw [a4] at b4; exact (Option.some.inj b4).symm
     rcases hs with hs | hs
     ·exact absurd (hes ▸ hs) (hrd2 i o ho hiB)
     ·exact absurd hs (by rw [<- hes]; exact hdst2 i o ho (fun e2 => hir (e2 ▸ a1)))
  have hdepA : ∀ e, e ∈ A ++ B -> S e = true -> free.contains i = true := by
   intro e he hSe
   cases hfr : free.contains i with
   | true => rfl
   | false =>
    have hif : i ∉ free := fun hh => by rw [List.contains_iff_mem.2 hh] at hfr; cases hfr
    have := hch.dep i hik hiAB hif hir e he S hc hSe
    rw [hunl] at this; cases this
  rcases hin with ⟨m, E, msx, ρ, hml, hm, hB0, hg, hE, hm0, hFD, hρ, mm⟩ | ⟨m, E, msx, hm1, hml, hA1, hr1, hm, hg, hE, hFD, mm⟩
  ·obtain ⟨msi, rest, hp, hst'⟩ : ∃ msi rest, msx.Perm (msi ++ rest) /\ Step P l o (envL (fun j => decide (j < i) && !X j) l ds 0 L) msi d := by
    cases hfi : fd.contains i with
    | true => exact ⟨msx, [], by simp, hfd msx hFD i o d hfi ho hd⟩
    | false =>
     rw [hfi] at hst;simp only [Bool.not_false, Bool.and_true] at hst
     cases hfr : free.contains i with
     | true => rw [hfr] at hst; exact ⟨[], msx, List.Perm.refl _, hst⟩
     | false =>
      rw [hfr] at hst
      have hm00 : m = 0 := by
       rcases Nat.eq_zero_or_pos m with h | h
       ·exact h
       ·have h0 : 0 < A.length := by omega
        have hS0 : S A[0] = true := (hm 0 A[0] (by simp [h0])).2 h
        have := hdepA A[0] (hAB _ (by simp)) hS0
        rw [hfr] at this; cases this
      exact ⟨ms, [], by rw [hm0 hm00]; simp, hst⟩
   have hne2 : ∀ s, s ∈ slotsOf l o \/ o.dst = some s -> Env.find (E ++ fenv l fr S ρ) s = none := by
    intro s hs
    rw [find_app, hnoE (E := E) (fun t d ht => by obtain ⟨e, o3, a1, a2⟩ := hE t d ht; exact ⟨e, o3, .inl a1, a2⟩) s hs];exact hnoF S ρ s hs
   refine still_step hf X hc ho hunl hcs hXi hne2 mm hd hdst (rest := rest ++ fown fr S ρ) (by rw [<- List.append_assoc]; exact hp.append_right _) hst' (fun a' w' m' => hn a' w' (.inl ⟨m, E, msx, ρ, hml, fun q e he => ?_, fun e he => ?_, hg, fun t d2 ht => ?_, hm0, hFD, fun j hj hSj => ?_, ?_⟩))
   ·have : ¬ e = i := fun h => hiA (h ▸ List.mem_of_getElem? he)
    simp only [this, decide_false, Bool.or_false];exact hm q e he
   ·have : ¬ e = i := fun h => hiB (h ▸ he)
    simp [this, hB0 e he]
   ·obtain ⟨e, o3, a1, a2, a3, a4⟩ := hE t d2 ht
    exact ⟨e, o3, a1, by simp [a2], a3, a4⟩
   ·have : ¬ j = i := fun h => hir (h ▸ hj)
    exact hρ j hj (by simpa [this] using hSj)
   ·have hfl : fr.filter (fun j => S j || decide (j = i)) = fr.filter S := List.filter_congr fun j hj => by
     have : ¬ j = i := fun e => hir (e ▸ hj)
     simp [this]
    have hfe : fenv l fr (fun j => S j || decide (j = i)) ρ = fenv l fr S ρ := by unfold fenv; rw [hfl]
    have hfo : fown fr (fun j => S j || decide (j = i)) ρ = fown fr S ρ := by unfold fown; rw [hfl]
    rw [hfe, hfo]; exact m'
  ·
   obtain ⟨msi, rest, hp, hst'⟩ : ∃ msi rest, msx.Perm (msi ++ rest) /\ Step P l o (envL (fun j => decide (j < i) && !X j) l ds 0 L) msi d := by
    cases hfi : fd.contains i with
    | true => exact ⟨msx, [], by simp, hfd msx hFD i o d hfi ho hd⟩
    | false =>
     rw [hfi] at hst;simp only [Bool.not_false, Bool.and_true] at hst
     cases hfr : free.contains i with
     | true => rw [hfr] at hst; exact ⟨[], msx, List.Perm.refl _, hst⟩
     | false =>
      have h0 : 0 < B.length := by omega
      have hS0 : S B[0] = true := (hm 0 B[0] (by simp [h0])).2 (by omega)
      have := hdepA B[0] (hBB _ (by simp)) hS0
      rw [hfr] at this; cases this
   refine still_step hf X hc ho hunl hcs hXi (hnoE hE) mm hd hdst hp hst' (fun a' w' m' => hn a' w' (.inr ⟨m, E, msx, hm1, hml, fun e he => by simp [hA1 e he], fun j hj => by simp [hr1 j hj], fun q e he => ?_, hg, fun t d2 ht => ?_, hFD, m'⟩))
   ·have : ¬ e = i := fun h => hiB (h ▸ List.mem_of_getElem? he)
    simp only [this, decide_false, Bool.or_false];exact hm q e he
   ·obtain ⟨e, o3, a1, a2, a3, a4⟩ := hE t d2 ht
    exact ⟨e, o3, a1, by simp [a2], a3, a4⟩
end
end Go.V
namespace Go.V
section
variable {Γ : Ctx} {P : Program} {L : Env} {ms : List Asrt} {K : KT} {l : List Oper}
def orR (i : Nat) (R0 : D -> Asrt -> Prop) (R : Nat -> D -> Asrt -> Prop) : Nat -> D -> Asrt -> Prop := fun q => cond (Nat.beq q i) R0 (R q)
def GDX (Γ : Ctx) (P : Program) (ops : List Oper) (ms : List Asrt) (K : KT) (A B free fr fd : List Nat) : Nat -> List Oper -> Env -> (List Asrt -> Prop) -> (Nat -> D -> Asrt -> Prop) -> Prop
 | _, [], L, acc, R => GF Γ P ops K acc L R fr B A [] ms
 | i, o :: r, L, acc, R => if (A ++ B).contains i = true then GDX Γ P ops ms K A B free fr fd (i + 1) r L acc R
  else if fr.contains i = true then ∃ R0, dstOk o Γ.N /\ OpT P o (Env.only (slotsOf ops o) L) [] (fun d ms' => ∃ As, R0 d As /\ ms' = [As]) /\ GDX Γ P ops ms K A B free fr fd (i + 1) r L acc (orR i R0 R)
  else ∃ d, dstOk o Γ.N /\ Step P ops o L (if free.contains i && !(fd.contains i) then [] else ms) d /\ GDX Γ P ops ms K A B free fr fd (i + 1) r (ext o d L) (if fd.contains i then fun msx => acc msx /\ Step P ops o L msx d else acc) R
theorem gdx_list {ops : List Oper} {A B free fr fd : List Nat} : ∀ (r : List Oper) (i : Nat) (L : Env) (acc : List Asrt -> Prop) (R : Nat -> D -> Asrt -> Prop), acc ms -> GDX Γ P ops ms K A B free fr fd i r L acc R ->
  ∃ (ds : List D) (FD : List Asrt -> Prop) (R' : Nat -> D -> Asrt -> Prop), ds.length = r.length /\ (∀ q, q < i -> R' q = R q) /\
   (∀ j o d, r[j]? = some o -> ds[j]? = some d -> (A ++ B).contains (i + j) = false -> fr.contains (i + j) = false -> dstOk o Γ.N /\ Step P ops o (envL (fun q => decide (q < i + j) && !((A ++ B).contains q || fr.contains q)) r ds i L) (if free.contains (i + j) && !(fd.contains (i + j)) then [] else ms) d) /\
   (∀ msx, FD msx -> acc msx /\ ∀ j o d, r[j]? = some o -> ds[j]? = some d -> (A ++ B).contains (i + j) = false -> fr.contains (i + j) = false -> fd.contains (i + j) = true -> Step P ops o (envL (fun q => decide (q < i + j) && !((A ++ B).contains q || fr.contains q)) r ds i L) msx d) /\
   (∀ j o, r[j]? = some o -> (A ++ B).contains (i + j) = false -> fr.contains (i + j) = true -> dstOk o Γ.N /\ OpT P o (Env.only (slotsOf ops o) (envL (fun q => decide (q < i + j) && !((A ++ B).contains q || fr.contains q)) r ds i L)) [] (fun d ms' => ∃ As, R' (i + j) d As /\ ms' = [As])) /\ FD ms /\
   GF Γ P ops K FD (envL (fun q => !((A ++ B).contains q || fr.contains q)) r ds i L) R' fr B A [] ms
 | [], i, L, acc, R, h0, h => ⟨[], acc, R, rfl, fun _ _ => rfl, fun j o d hj => by simp at hj, fun msx hm => ⟨hm, fun j o d hj => by simp at hj⟩, fun j o hj => by simp at hj, h0, (show GF Γ P ops K acc L R fr B A [] ms from h)⟩
 | o :: r, i, L, acc, R, h0, h => by
  have hsh : ∀ j, i + (j + 1) = i + 1 + j := fun j => by omega
  unfold GDX at h
  cases hc : (A ++ B).contains i with
  | true =>
   rw [if_pos hc] at h;obtain ⟨ds, FD, R', e1, e0, e2, e4, e6, e5, e3⟩ := gdx_list r (i + 1) L acc R h0 h
   have hS : ∀ m, (decide (i < m) && !((A ++ B).contains i || fr.contains i)) = false := fun m => by rw [hc]; simp
   refine ⟨.v undef :: ds, FD, R', by simp [e1], fun q hq => e0 q (by omega), fun j o' d' hj hdj hcj hrj => ?_, fun msx hm => ⟨(e4 msx hm).1, fun j o' d' hj hdj hcj hrj hfj => ?_⟩, fun j o' hj hcj hrj => ?_, e5, ?_⟩
   ·cases j with
    | zero => rw [Nat.add_zero] at hcj; rw [hc] at hcj; cases hcj
    | succ j =>
     simp only [List.getElem?_cons_succ] at hj hdj;rw [hsh] at hcj hrj ⊢;simp only [envL, hS, Bool.false_eq_true, if_false];exact e2 j o' d' hj hdj hcj hrj
   ·cases j with
    | zero => rw [Nat.add_zero] at hcj; rw [hc] at hcj; cases hcj
    | succ j =>
     simp only [List.getElem?_cons_succ] at hj hdj;rw [hsh] at hcj hrj hfj ⊢;simp only [envL, hS, Bool.false_eq_true, if_false];exact (e4 msx hm).2 j o' d' hj hdj hcj hrj hfj
   ·cases j with
    | zero => rw [Nat.add_zero] at hcj; rw [hc] at hcj; cases hcj
    | succ j =>
     simp only [List.getElem?_cons_succ] at hj;rw [hsh] at hcj hrj ⊢;simp only [envL, hS, Bool.false_eq_true, if_false];exact e6 j o' hj hcj hrj
   ·simp only [envL]
    rw [if_neg (by rw [hc]; simp)];exact e3
  | false =>
   rw [if_neg (by rw [hc]; simp)] at h
   cases hr : fr.contains i with
   | true =>
    rw [if_pos hr] at h;obtain ⟨R0, hdk, hop, hrest⟩ := h;obtain ⟨ds, FD, R', e1, e0, e2, e4, e6, e5, e3⟩ := gdx_list r (i + 1) L acc _ h0 hrest
    have hS : ∀ m, (decide (i < m) && !((A ++ B).contains i || fr.contains i)) = false := fun m => by rw [hr]; simp
    have hR0 : R' i = R0 := by rw [e0 i (by omega)]; simp [orR]
    refine ⟨.v undef :: ds, FD, R', by simp [e1], fun q hq => ?_, fun j o' d' hj hdj hcj hrj => ?_, fun msx hm => ⟨(e4 msx hm).1, fun j o' d' hj hdj hcj hrj hfj => ?_⟩, fun j o' hj hcj hrj => ?_, e5, ?_⟩
    ·rw [e0 q (by omega)]
     have : Nat.beq q i = false := by
      cases hb : Nat.beq q i with
      | true => have := Nat.eq_of_beq_eq_true hb; omega
      | false => rfl
     simp [orR, this]
    ·cases j with
     | zero => rw [Nat.add_zero] at hrj; rw [hr] at hrj; cases hrj
     | succ j =>
      simp only [List.getElem?_cons_succ] at hj hdj;rw [hsh] at hcj hrj ⊢;simp only [envL, hS, Bool.false_eq_true, if_false];exact e2 j o' d' hj hdj hcj hrj
    ·cases j with
     | zero => rw [Nat.add_zero] at hrj; rw [hr] at hrj; cases hrj
     | succ j =>
      simp only [List.getElem?_cons_succ] at hj hdj;rw [hsh] at hcj hrj hfj ⊢;simp only [envL, hS, Bool.false_eq_true, if_false];exact (e4 msx hm).2 j o' d' hj hdj hcj hrj hfj
    ·cases j with
     | zero =>
      simp only [List.getElem?_cons_zero, Option.some.injEq] at hj;subst hj;rw [Nat.add_zero, hR0, envL_none _ _ _ _ (fun q hq => (by have h9 : ¬ q < i := (by omega); simp [h9]))];exact ⟨hdk, hop⟩
     | succ j =>
      simp only [List.getElem?_cons_succ] at hj;rw [hsh] at hcj hrj ⊢;simp only [envL, hS, Bool.false_eq_true, if_false];exact e6 j o' hj hcj hrj
    ·simp only [envL]
     rw [if_neg (by rw [hr]; simp)];exact e3
   | false =>
    rw [if_neg (by rw [hr]; simp)] at h;obtain ⟨d, hdk, hst, hrest⟩ := h
    have h0' : (if fd.contains i then fun msx => acc msx /\ Step P ops o L msx d else acc) ms := by
     cases hf : fd.contains i with
     | true => rw [hf] at hst; simp only [Bool.not_true, Bool.and_false, Bool.false_eq_true, if_false] at hst; exact ⟨h0, hst⟩
     | false => exact h0
    obtain ⟨ds, FD, R', e1, e0, e2, e4, e6, e5, e3⟩ := gdx_list r (i + 1) (ext o d L) _ R h0' hrest
    have hS : ∀ j, (decide (i < i + 1 + j) && !((A ++ B).contains i || fr.contains i)) = true := fun j => by rw [hc, hr]; simp; omega
    have hL0 : envL (fun q => decide (q < i + 0) && !((A ++ B).contains q || fr.contains q)) (o :: r) (d :: ds) i L = L := by
     rw [Nat.add_zero, envL_none _ _ _ _ (fun q hq => (by have h9 : ¬ q < i := (by omega); simp [h9]))]
    refine ⟨d :: ds, FD, R', by simp [e1], fun q hq => e0 q (by omega), fun j o' d' hj hdj hcj hrj => ?_, fun msx hm => ?_, fun j o' hj hcj hrj => ?_, e5, ?_⟩
    ·cases j with
     | zero =>
      simp only [List.getElem?_cons_zero, Option.some.injEq] at hj hdj;subst hj hdj;exact ⟨hdk, by rw [hL0]; exact hst⟩
     | succ j =>
      simp only [List.getElem?_cons_succ] at hj hdj;rw [hsh] at hcj hrj ⊢;simp only [envL, hS, if_true];exact e2 j o' d' hj hdj hcj hrj
    ·obtain ⟨hacc, hrest2⟩ := e4 msx hm
     have hacc' : acc msx := by
      cases hf : fd.contains i with
      | true => rw [hf] at hacc; exact hacc.1
      | false => rw [hf] at hacc; exact hacc
     refine ⟨hacc', fun j o' d' hj hdj hcj hrj hfj => ?_⟩
     cases j with
     | zero =>
      simp only [List.getElem?_cons_zero, Option.some.injEq] at hj hdj;subst hj hdj;rw [hL0];rw [Nat.add_zero] at hfj;rw [hfj] at hacc;exact hacc.2
     | succ j =>
      simp only [List.getElem?_cons_succ] at hj hdj;rw [hsh] at hcj hrj hfj ⊢;simp only [envL, hS, if_true];exact hrest2 j o' d' hj hdj hcj hrj hfj
    ·cases j with
     | zero => rw [Nat.add_zero] at hrj; rw [hr] at hrj; cases hrj
     | succ j =>
      simp only [List.getElem?_cons_succ] at hj;rw [hsh] at hcj hrj ⊢;simp only [envL, hS, if_true];exact e6 j o' hj hcj hrj
    ·simp only [envL]
     rw [if_pos (by rw [hc, hr]; rfl)];exact e3
theorem g_draw_x {id : Nat} (A B free fr fd : List Nat) (hm : P.follows .mixedOrders = true) (hf : flowB l l.length = true) (hch : chainFB l A B free fr = true) (hfe : fd.all (fun i => !((A ++ B).contains i) && !(fr.contains i)) = true) (h : GDX Γ P l ms K A B free fr fd 0 l L (fun _ => True) (fun _ _ _ => True)) : G Γ P (.region id l.toArray true) L ms K := by
 intro a w m
 refine wpIn_region_draw fun t => ?_;simp only [Region.schedule, hm, Bool.true_or, if_true]
 have hfo := flow_ok hf
 obtain ⟨ds, FD, R, e1, e0, e2, e4, e6, e5, e3⟩ := gdx_list _ _ _ _ _ trivial h;simp only [Nat.zero_add] at e2 e4 e6
 have hz : ∀ j, (Array.replicate l.toArray.size false).getD j false = false := fun j => by simp [Array.getD]
 refine draw_chainf (L := L) (ms := ms) (fd := fd) hfo (chainF_ok hch) ds e1 R ?_ (fun msx hm i o d hfi ho hd => ?_) e5 ?_ e3 l.toArray.size (Array.replicate l.toArray.size false) t a { w with drawn := w.drawn + 1 } (by simp) ?_ ?_ ?_ hz ?_
 ·intro i o d hie hir ho hd
  exact e2 i o d ho hd (contains_f hie) (contains_f hir)
 ·have := List.all_eq_true.1 hfe i (List.contains_iff_mem.1 hfi)
  simp only [Bool.and_eq_true, Bool.not_eq_true'] at this;exact (e4 msx hm).2 i o d ho hd this.1 this.2 hfi
 ·intro i o hir ho
  exact e6 i o ho (contains_f ((chainF_ok hch).fre i hir).1) (List.contains_iff_mem.2 hir)
 ·intro j o hj hS
  simp [Array.getD] at hS
 ·intro i _; simp [Array.getD]
 ·have := List.length_filter_le (fun i => !(Array.replicate l.toArray.size false).getD i false) (List.range l.length)
  simpa using this
 ·obtain ⟨H, marks, hle, hok, henv, hdf⟩ := m.ex
  exact ⟨⟨H, marks, hle, hok.drew _, henv, hdf⟩, m.size, ⟨m.same.os, m.same.output, m.same.tape, m.same.size⟩⟩
@[reducible] def pendF (R : Nat -> D -> Asrt -> Prop) : List (Nat × Nat) -> (Env -> List Asrt -> Prop) -> Prop
 | [], k => k [] []
 | (i, t) :: r, k => ∀ d As, R i d As -> pendF R r (fun E Z => k ((t, d) :: E) (As :: Z))
theorem pendF_all {R : Nat -> D -> Asrt -> Prop} : ∀ {fs : List (Nat × Nat)} {k : Env -> List Asrt -> Prop}, pendF R fs k -> ∀ ρ : Nat -> D × Asrt, (∀ p ∈ fs, R p.1 (ρ p.1).1 (ρ p.1).2) -> k (fs.map fun p => (p.2, (ρ p.1).1)) (fs.map fun p => (ρ p.1).2)
 | [], k, h, ρ, _ => h
 | (i, t) :: r, k, h, ρ, hρ => pendF_all (fs := r) (h (ρ i).1 (ρ i).2 (hρ (i, t) (by simp))) ρ fun j hj => hρ j (by simp [hj])
theorem gf_nil {ops : List Oper} {FD : List Asrt -> Prop} {R : Nat -> D -> Asrt -> Prop} {fr B : List Nat} {E : Env} {msx : List Asrt} (fs : List (Nat × Nat)) (hfs : fr.map (fun i => (i, dstN ops i)) = fs) (h : pendF R fs (fun E' As => FD (As ++ msx) /\ GDE2 Γ P ops K FD L B (E' ++ E) (As ++ msx))) : GF Γ P ops K FD L R fr B [] E msx := by
 intro ρ hρ
 have hft : fr.filter allT = fr := List.filter_eq_self.2 fun i _ => rfl
 subst hfs
 have := pendF_all h ρ (fun p hp => by
  obtain ⟨i, hi, rfl⟩ := List.mem_map.1 hp;exact hρ i hi)
 rw [List.map_map, List.map_map] at this;unfold fenv fown;rw [hft]; exact this
theorem gdx_p {ops r : List Oper} {A B free fr fd : List Nat} {R : Nat -> D -> Asrt -> Prop} {acc : List Asrt -> Prop} {n : Nat} {o : Oper} {d : D} {i : Nat} {msi : List Asrt} (hc : ((A ++ B).contains n || fr.contains n) = false) (hnf : fd.contains n = false) (hms : (if free.contains n then [] else ms) = msi) (hg : o.guard = none) (hd : o.dst = some i) (hi : Nat.blt i Γ.N = true) (h : OpP P o (Env.only (slotsOf ops o) L) msi d) (k : GDX Γ P ops ms K A B free fr fd (n + 1) r ((i, d) :: L) acc R) : GDX Γ P ops ms K A B free fr fd n (o :: r) L acc R := by
 obtain ⟨hc1, hc2⟩ := Bool.or_eq_false_iff.1 hc;unfold GDX;rw [if_neg (by rw [hc1]; simp), if_neg (by rw [hc2]; simp), hnf];simp only [Bool.not_false, Bool.and_true, Bool.false_eq_true, if_false];rw [hms];refine ⟨d, by simp only [dstOk, hd]; exact hi, by simp only [Step, hg]; exact h, ?_⟩;simp only [ext, hd]; exact k
theorem gdx_f {ops r : List Oper} {A B free fr fd : List Nat} {R : Nat -> D -> Asrt -> Prop} {acc : List Asrt -> Prop} {n : Nat} {o : Oper} {d : D} {i : Nat} (hc : ((A ++ B).contains n || fr.contains n) = false) (hnf : fd.contains n = true) (hg : o.guard = none) (hd : o.dst = some i) (hi : Nat.blt i Γ.N = true) (h : OpP P o (Env.only (slotsOf ops o) L) ms d) (k : GDX Γ P ops ms K A B free fr fd (n + 1) r ((i, d) :: L) (fun msx => acc msx /\ OpP P o (Env.only (slotsOf ops o) L) msx d) R) : GDX Γ P ops ms K A B free fr fd n (o :: r) L acc R := by
 obtain ⟨hc1, hc2⟩ := Bool.or_eq_false_iff.1 hc;unfold GDX;rw [if_neg (by rw [hc1]; simp), if_neg (by rw [hc2]; simp), hnf];simp only [Bool.not_true, Bool.and_false, Bool.false_eq_true, if_false, if_true]
 have hs : ∀ m, Step P ops o L m d = OpP P o (Env.only (slotsOf ops o) L) m d := fun m => by simp only [Step, hg]
 refine ⟨d, by simp only [dstOk, hd]; exact hi, by rw [hs]; exact h, ?_⟩;simp only [hs];simp only [ext, hd]; exact k
theorem gdx_e {ops r : List Oper} {A B free fr fd : List Nat} {R : Nat -> D -> Asrt -> Prop} {acc : List Asrt -> Prop} {n : Nat} {o : Oper} (hc : (A ++ B).contains n = true) (k : GDX Γ P ops ms K A B free fr fd (n + 1) r L acc R) : GDX Γ P ops ms K A B free fr fd n (o :: r) L acc R := by
 unfold GDX; rw [if_pos hc]; exact k
theorem gdx_fresh {ops r : List Oper} {A B free fr fd : List Nat} {R : Nat -> D -> Asrt -> Prop} {R0 : D -> Asrt -> Prop} {acc : List Asrt -> Prop} {n t : Nat} {o : Oper} (hc : (A ++ B).contains n = false) (hr : fr.contains n = true) (hd : o.dst = some t) (hi : Nat.blt t Γ.N = true) (h : OpT P o (Env.only (slotsOf ops o) L) [] (fun d ms' => ∃ As, R0 d As /\ ms' = [As]))
  (k : GDX Γ P ops ms K A B free fr fd (n + 1) r L acc (orR n R0 R)) : GDX Γ P ops ms K A B free fr fd n (o :: r) L acc R := by
 unfold GDX;rw [if_neg (by rw [hc]; simp), if_pos hr];exact ⟨R0, by simp only [dstOk, hd]; exact hi, h, k⟩
theorem gdx_nil {ops : List Oper} {A B free fr fd : List Nat} {R : Nat -> D -> Asrt -> Prop} {acc : List Asrt -> Prop} {n : Nat} (h : GF Γ P ops K acc L R fr B A [] ms) : GDX Γ P ops ms K A B free fr fd n [] L acc R := h
end
end Go.V
namespace Go.V
def FnT (P : Program) (f : FuncId) (args : List D) (tl : List Asrt) (d : D) : Prop := Fn P f args tl (fun d' ms' => d' = d /\ ms' = tl)
def FunOk1T (P : Program) (fv : D) {α β : Type} (e : α -> D) (r : β -> D) (tl : List Asrt) (p : α -> Option β) : Prop := ∀ x y, p x = some y -> FV P fv [e x] tl (fun d ms' => d = r y /\ ms' = tl)
section
variable {P : Program} {L : Env} {ms : List Asrt} {dst : Option Nat} {ty : TypeId} {pos : String} {after : Array Edge} {g : Option (Nat × Bool)} {d d' : D} {x y z : Operand} {t t' : TypeId} {R : D -> List Asrt -> Prop}
theorem o_callv_t {args : List Operand} {ats : Array TypeId} {ds : List D} {fv : D} {tl : List Asrt} (own : List Asrt) (hms : ms = own ++ tl) (hx : Env.ev L x = some fv) (hev : evL L args = some ds) (hf : FV P fv ds tl (fun d' ms' => d' = d /\ ms' = tl)) :
  OpP P ⟨dst, .call ⟨.value x, args.toArray, ats⟩, ty, pos, after, g⟩ L ms d := by
 subst hms
 have := o_callv (P := P) (L := L) (ms := own ++ tl) (dst := dst) (ty := ty) (pos := pos) (after := after) (g := g) (ats := ats) (ms₁ := tl) (rest := own) hx hev List.perm_append_comm hf
 intro ro H fr a w hok henv next Q hn
 refine this ro H fr a w hok henv next Q ?_;rintro v d' ms' w' H' ⟨ms₁', ⟨rfl, rfl⟩, rfl⟩ hle hok' hc' hs;exact hn v d' _ w' H' ⟨rfl, rfl⟩ hle (hok'.perm (List.perm_append_comm.append_right fr)) hc' hs
theorem putL_same : ∀ (ks : List Nat) (As : List Asrt) {ms : List Asrt}, getL ms ks As -> putL ms ks As = ms
 | [], [], _, _ => rfl
 | k :: ks, A :: As, ms, ⟨h1, h2⟩ => by
  have e : ms.set k A = ms := by
   apply List.ext_getElem?
   intro j
   rw [List.getElem?_set]
   split
   ·rename_i hj
    subst hj
    split
    ·rw [h1]
    ·rename_i hlt; rw [List.getElem?_eq_none (by omega)]
   ·rfl
  show putL (ms.set k A) ks As = ms
  rw [e]; exact putL_same ks As h2
 | [], _ :: _, _, h => h.elim
 | _ :: _, [], _, h => h.elim
theorem o_call_t {f : FuncId} {args : List Operand} {ats : Array TypeId} {ds : List D} {As : List Asrt} (ks : List Nat) (hc : ∀ args w, (callFunc f args).run P w = .ok (.enter f args) w) (hev : evL L args = some ds) (hb : ownB ks [] ms.length = true) (hg : getL ms ks As) (hf : FnT P f ds As d) :
  OpP P ⟨dst, .call ⟨.value (.func f), args.toArray, ats⟩, ty, pos, after, g⟩ L ms d := by
 obtain ⟨g1, _⟩ := getL_ok ks As hg
 have := o_call_own (P := P) (L := L) (ms := ms) (dst := dst) (ty := ty) (pos := pos) (after := after) (g := g) (ats := ats) ks hc hev hb hg hf (by rintro d ms' ⟨_, rfl⟩; exact g1)
 intro ro H fr a w hok henv next Q hn
 refine this ro H fr a w hok henv next Q ?_;rintro v d' ms' w' H' ⟨ms₁, ⟨rfl, rfl⟩, rfl⟩ hle hok' hc' hs;rw [putL_same ks ms₁ hg] at hok';exact hn v d' _ w' H' ⟨rfl, rfl⟩ hle hok' hc' hs
end
section
variable {P : Program} {L : Env} {ms : List Asrt}
end
end Go.V
namespace Go.V
open Go.Conc (solo rcase scase)
def chn (c cap : Nat) {α : Type} (f : α -> D) (l : List α) : Asrt where
 blocks := [c]
 ok := fun H h => ∃ (s r : Nat) (vs : List Value), h c = some (.chan cap vs.toArray false s r false) /\ ConcL H (l.map f) vs
 stable := fun H H' h h' e hle ⟨s, r, vs, h1, h2⟩ => ⟨s, r, vs, by rw [(e c (by simp)).2]; exact h1, ConcL.mono hle _ vs h2⟩
section
variable {P : Program} {L : Env} {ms : List Asrt} {dst : Option Nat} {ty : TypeId} {pos : String} {after : Array Edge} {g : Option (Nat × Bool)} {d : D} {x y : Operand} {t e : TypeId} {α : Type} {f : α -> D} {c cap : Nat} {l : List α}
theorem chn_at {H : PH} {as : List Asrt} {w : World} {k : Nat} (hok : HeapOk H as w) (hk : as[k]? = some (chn c cap f l)) : ∃ (s r : Nat) (vs : List Value), w.heap[c]? = some (.chan cap vs.toArray false s r false) /\ ConcL H (l.map f) vs /\ c < w.heap.size := by
 have hm := List.mem_of_getElem? hk
 obtain ⟨s, r, vs, h1, h2⟩ := hok.ok _ hm;exact ⟨s, r, vs, h1, h2, hok.lt _ hm c (by simp [chn])⟩
theorem o_makeChan {dir : ChanDir} {i : TypeInfo} {m : Int} (ht : P.underlying t = some (.chan dir e)) (hi : P.info? e = some i) (hx : Env.ev L x = some (.v (.int .i64 m))) (h0 : 0 <= m) (h63 : m <= 9223372036854775807) (hb : (i.bytes : Int) * m <= 281474976710544) :
  OpT P ⟨dst, .makeChan t x, ty, pos, after, g⟩ L ms (fun d' ms' => ∃ c, d' = .v (.chan (some c)) /\ ms' = chn c m.toNat f ([] : List α) :: ms) := by
 refine .val (by simp) fun H fr a w hok henv => ?_;obtain ⟨n, rfl⟩ := Int.eq_ofNat_of_zero_le h0;refine ⟨.chan (some w.heap.size), _, _, w.alloc (.chan n #[] false 0 0 false), H, ?_, ⟨w.heap.size, rfl, rfl⟩, PH.le_refl H, ?_, conc_v.2 rfl, sameOut_alloc _ _⟩
 ·simp only [execOp, ev_v henv hx, Sem.run_bind, Sem.run_pure, Result.andThen_ok, Go.Conc.run_makeChan ht hi .i64 n h63 hb]
 ·rw [Int.toNat_natCast]
  exact hok.own (A := chn w.heap.size n f ([] : List α)) rfl ⟨0, 0, [], heap_alloc_new _ _, by simp [ConcL]⟩
theorem chn_upd {H : PH} {as : List Asrt} {w : World} {l' : List α} {vs : List Value} {s r : Nat} (hok : HeapOk H (chn c cap f l :: as) w) (e : ConcL H (l'.map f) vs) : HeapOk H (chn c cap f l' :: as) (w.setChan c cap vs.toArray false s r false) := by
 obtain ⟨s0, r0, vs0, h1, h2, h3⟩ := chn_at (k := 0) hok rfl;refine hok.upd rfl (by simp [World.setChan]) ?_ (fun _ _ _ _ => rfl) (PH.le_refl H) ?_ ?_
 ·intro b' _ hn
  have : c ≠ b' := fun e => hn (by simp [chn, e])
  simp only [World.setChan];rw [Array.getElem?_setIfInBounds_ne this]
 ·intro b' o v hb hv
  rcases hb with hb | hb
  ·simp [chn] at hb; subst hb
   have := hok.sub _ _ _ hv
   simp [World.cell?, h1] at this
  ·rw [hok.none_new _ _ hb] at hv; cases hv
 ·exact ⟨s, r, vs, Go.Conc.heap_setChan _ _ _ _ _ _ _ _ h3, e⟩
def SelT (P : Program) (o : Oper) (L : Env) (ms : List Asrt) (R : D -> List Asrt -> Prop) : Prop :=
 ∀ (ro : Option Nat) (H : PH) (fr : List Asrt) (a : Act) (w : World), HeapOk H (ms ++ fr) w -> EnvOk H L a.tmps ->
  ∃ v d ms' w' H', R d ms' /\ PH.le H H' /\ HeapOk H' (ms' ++ fr) w' /\ Conc H' d v /\ SameOut w w' /\
   ∀ (b : Frame) (ops : Array Oper) (rest : List Nat) (k : List Item) (cs : List Frame), b.roundOf = ro -> ops[0]? = some o ->
    step P (lone (b.atR a (.inRegion ops (0 :: rest) :: k)) cs w) = .next (lone (b.atR (a.put o.dst v) (.inRegion ops rest :: k)) cs w')
theorem g_sel {Γ : Ctx} {K : KT} {R : D -> List Asrt -> Prop} {id i : Nat} {o : Oper} {rest : List Oper} (hd : o.dst = some i) (hi : Nat.blt i Γ.N = true) (h : SelT P o L ms R) (hab : ∀ w ρ, o.about P w ρ = none)
  (k : ∀ d ms', R d ms' -> GO Γ P (o :: rest).toArray rest ((i, d) :: L) ms' K) : G Γ P (.region id (o :: rest).toArray false) L ms K := by
 intro a w m b kk cs hro hb hr
 obtain ⟨H, marks, hle, hok, henv, hdf⟩ := m.ex;obtain ⟨v, d, ms', w', H', hR, hl, hok', hc, hs, hstep⟩ := h Γ.round H (marks.map markA ++ Γ.fr) a w hok henv
 have m' := m.next (ms' := ms') (PH.le_trans hle hl) hok' (henv.mono hl) hdf hi hc hs
 have hgo := k d ms' hR _ _ m'
 have e := wpOpsIn_eq_wpListIn (F := FR Γ.round) (n := 0) (P := P) (ops := (o :: rest).toArray) (Q := Post Γ K) rest 1 (fun j => by simp [Nat.add_comm 1 j])
 rw [<- e] at hgo;obtain ⟨e', a', w'', hq, harr⟩ := wp_opsIn _ _ _ hgo b kk cs hro hb hr
 have h0 : (o :: rest).toArray[0]? = some o := by simp
 have st := hstep b (o :: rest).toArray (List.range' 1 rest.length) kk cs hro h0
 rw [hd] at st
 have hrg : List.range (o :: rest).toArray.size = 0 :: List.range' 1 rest.length := by
  rw [List.range_eq_range']; simp [List.range'_succ]
 have sr := stepR_region (P := P) (b := b) (a := a) (k := kk) (cs := cs) (w := w) (id := id) (ops := (o :: rest).toArray)
 rw [hrg] at sr;exact ⟨e', a', w'', hq, .of_steps (.head (fenced_calm hb hr rfl) sr (.one (fenced_oper hb hr h0 (fun f hf => by rw [hab] at hf; cases hf)) st)) harr⟩
theorem comm_step {o : Oper} {b : Frame} {a : Act} {ops : Array Oper} {rest : List Nat} {k : List Item} {cs : List Frame} {w : World} {cases : Array CommCase} (ho : ops[0]? = some o) (hg : o.guard = none) (hnd : ∀ c, o.op ≠ .defer c)
  (hrun : (execOp a.eval o).run P w = .ok (.comm cases false .select) w) : ∃ es, stepG P true (Go.Conc.G (b.atR a (.inRegion ops (0 :: rest) :: k)) cs) w = .comm (Go.Conc.G (b.atR a (.inRegion ops (0 :: rest) :: k)) cs) cases false .select w es := by
 have hg2 := stepGR_op (P := P) (b := b) (a := a) (k := k) (cs := cs) (w := w) (ops := ops) (rest := rest) ho (by simp [Region.wanted, hg])
 rw [Oper.semAt_eq _ _ _ hnd] at hg2;unfold Go.Conc.G;rw [hg2];simp only [stepG.apply, Sem.runT_eq, hrun, if_true, GStep.after];exact ⟨_, rfl⟩
theorem fin_at {o : Oper} {b : Frame} {a : Act} {ops : Array Oper} {rest : List Nat} {k : List Item} (ho : ops[0]? = some o) (v : Value) : (b.atR a (.inRegion ops (0 :: rest) :: k)).finish v = b.atR (a.put o.dst v) (.inRegion ops rest :: k) := by
 rw [Frame.finish_atR, ho]; rfl
theorem conc_tup {H : PH} {ds : List D} {us : List Value} (h : ConcL H ds us) : Conc H (.tup ds) (.tuple us.toArray) := ⟨[.tuple us.toArray], by simp only [Enc]; exact ⟨us, rfl, h⟩, by simp [D.val]⟩
theorem concL_cons {H : PH} {d : D} {ds : List D} {u : Value} {us : List Value} (h : Conc H d u) (hs : ConcL H ds us) : ConcL H (d :: ds) (u :: us) := by
 simp only [ConcL]; exact ⟨u, us, rfl, h, hs⟩
theorem concL_nil {H : PH} : ConcL H [] [] := by simp [ConcL]
theorem s_recv {z : Value} (k : Nat) (hz : ∀ w, (zeroValue e).run P w = .ok z w) (hx : Env.ev L x = some (.v (.chan (some c)))) (hk : ms[k]? = some (chn c cap f l)) :
  SelT P ⟨dst, .select #[⟨x, none, e⟩] false, ty, pos, after, none⟩ L ms (fun d' ms' => (l = [] /\ d' = .tup [.i64 (-1), .bool false, .v z] /\ ms' = ms) \/ ∃ q r, l = q :: r /\ d' = .tup [.i64 0, .bool true, f q] /\ ms' = ms.set k (chn c cap f r)) := by
 intro ro H fr a w hok henv
 obtain ⟨s, r, vs, h1, h2, h3⟩ := chn_at hok (getElem?_app hk)
 have hrun : (execOp a.eval (⟨dst, .select #[⟨x, none, e⟩] false, ty, pos, after, none⟩ : Oper)).run P w = .ok (.comm #[rcase c z] false .select) w := by
  have hxv := ev_v henv hx
  simp [execOp, hz, hxv, rcase]
 cases l with
 | nil =>
  have hvs : vs = [] := by simpa [ConcL] using h2
  subst hvs;refine ⟨.tuple #[goInt (-1), .bool false, z], .tup [.i64 (-1), .bool false, .v z], ms, w, H, .inl ⟨rfl, rfl, rfl⟩, PH.le_refl H, hok, conc_tup (concL_cons (conc_v.2 rfl) (concL_cons (conc_v.2 rfl) (concL_cons (conc_v.2 rfl) concL_nil))), SameOut.refl w, ?_⟩
  intro b ops rest kk cs hro ho
  obtain ⟨es, hg⟩ := comm_step (P := P) (b := b) (rest := rest) (k := kk) (cs := cs) ho rfl (by simp) hrun
  have := Go.Conc.step_lone_select_default hg h1
  rw [fin_at ho] at this;exact this
 | cons q l =>
  simp only [List.map_cons, ConcL] at h2;obtain ⟨u, us, rfl, hq, hr⟩ := h2
  have p1 : (ms ++ fr).Perm (chn c cap f (q :: l) :: (ms.eraseIdx k ++ fr)) := by
   rw [<- List.cons_append]; exact (perm_at ms k _ hk).append_right fr
  have p2 : (chn c cap f l :: (ms.eraseIdx k ++ fr)).Perm (ms.set k (chn c cap f l) ++ fr) := by
   rw [<- List.cons_append]; exact (perm_set ms k _ _ hk).append_right fr
  refine ⟨.tuple #[goInt 0, .bool true, u], .tup [.i64 0, .bool true, f q], _, w.setChan c cap us.toArray false s (r + 1) false, H, .inr ⟨q, l, rfl, rfl, rfl⟩, PH.le_refl H, (chn_upd (hok.perm p1) hr).perm p2,
   conc_tup (concL_cons (conc_v.2 rfl) (concL_cons (conc_v.2 rfl) (concL_cons hq concL_nil))), ⟨rfl, rfl, rfl, by simp [World.setChan]⟩, ?_⟩
  intro b ops rest kk cs hro ho
  obtain ⟨es, hg⟩ := comm_step (P := P) (b := b) (rest := rest) (k := kk) (cs := cs) ho rfl (by simp) hrun
  have := Go.Conc.step_lone_select_recv_buf hg h1 (by simp)
  rw [fin_at ho] at this;rw [Go.Conc.lone_eq_solo, Go.Conc.lone_eq_solo]; simpa using this
theorem s_send {z : Value} {q : α} (k : Nat) (hz : ∀ w, (zeroValue e).run P w = .ok z w) (hx : Env.ev L x = some (.v (.chan (some c)))) (hy : Env.ev L y = some (f q)) (hk : ms[k]? = some (chn c cap f l)) :
  SelT P ⟨dst, .select #[⟨x, some y, e⟩] false, ty, pos, after, none⟩ L ms (fun d' ms' => (cap <= l.length /\ d' = .tup [.i64 (-1), .bool false] /\ ms' = ms) \/ (l.length < cap /\ d' = .tup [.i64 0, .bool false] /\ ms' = ms.set k (chn c cap f (l ++ [q])))) := by
 intro ro H fr a w hok henv
 obtain ⟨s, r, vs, h1, h2, h3⟩ := chn_at hok (getElem?_app hk)
 have hl : vs.length = l.length := by rw [ConcL.length _ _ h2]; simp
 have hq := henv.ev hy
 have hrun : (execOp a.eval (⟨dst, .select #[⟨x, some y, e⟩] false, ty, pos, after, none⟩ : Oper)).run P w = .ok (.comm #[scase c (a.eval y) z] false .select) w := by
  have hxv := ev_v henv hx
  simp [execOp, hz, hxv, scase]
 by_cases hc : cap <= l.length
 ·refine ⟨.tuple #[goInt (-1), .bool false], .tup [.i64 (-1), .bool false], ms, w, H, .inl ⟨hc, rfl, rfl⟩, PH.le_refl H, hok, conc_tup (concL_cons (conc_v.2 rfl) (concL_cons (conc_v.2 rfl) concL_nil)), SameOut.refl w, ?_⟩
  intro b ops rest kk cs hro ho
  obtain ⟨es, hg⟩ := comm_step (P := P) (b := b) (rest := rest) (k := kk) (cs := cs) ho rfl (by simp) hrun
  have := Go.Conc.step_lone_select_send_full hg h1 (by simp; omega)
  rw [fin_at ho] at this;exact this
 ·have p1 : (ms ++ fr).Perm (chn c cap f l :: (ms.eraseIdx k ++ fr)) := by
   rw [<- List.cons_append]; exact (perm_at ms k _ hk).append_right fr
  have p2 : (chn c cap f (l ++ [q]) :: (ms.eraseIdx k ++ fr)).Perm (ms.set k (chn c cap f (l ++ [q])) ++ fr) := by
   rw [<- List.cons_append]; exact (perm_set ms k _ _ hk).append_right fr
  have happ : ∀ (ds : List D) (us : List Value), ConcL H ds us -> ConcL H (ds ++ [f q]) (us ++ [a.eval y]) := by
   intro ds
   induction ds with
   | nil => intro us h; simp only [ConcL] at h; subst h; exact concL_cons hq concL_nil
   | cons d ds ih =>
    intro us h
    simp only [ConcL] at h;obtain ⟨u, us', rfl, h4, h5⟩ := h;exact concL_cons h4 (ih _ h5)
  refine ⟨.tuple #[goInt 0, .bool false], .tup [.i64 0, .bool false], _, w.setChan c cap (vs ++ [a.eval y]).toArray false (s + 1) r false, H, .inr ⟨by omega, rfl, rfl⟩, PH.le_refl H, (chn_upd (hok.perm p1) (by rw [List.map_append]; exact happ _ _ h2)).perm p2,
   conc_tup (concL_cons (conc_v.2 rfl) (concL_cons (conc_v.2 rfl) concL_nil)), ⟨rfl, rfl, rfl, by simp [World.setChan]⟩, ?_⟩
  intro b ops rest kk cs hro ho
  obtain ⟨es, hg⟩ := comm_step (P := P) (b := b) (rest := rest) (k := kk) (cs := cs) ho rfl (by simp) hrun
  have := Go.Conc.step_lone_select_send_room hg h1 (by simp; omega)
  rw [fin_at ho] at this;rw [Go.Conc.lone_eq_solo, Go.Conc.lone_eq_solo]; simpa using this
theorem g_selp {Γ : Ctx} {K : KT} {id i : Nat} {o : Oper} {rest : List Oper} {ms' : List Asrt} (hd : o.dst = some i) (hi : Nat.blt i Γ.N = true) (h : SelT P o L ms (fun d' m' => d' = d /\ m' = ms')) (hab : ∀ w ρ, o.about P w ρ = none)
  (k : GO Γ P (o :: rest).toArray rest ((i, d) :: L) ms' K) : G Γ P (.region id (o :: rest).toArray false) L ms K :=
 g_sel hd hi h hab (by rintro _ _ ⟨rfl, rfl⟩; exact k)
theorem SelT.mono {o : Oper} {R R' : D -> List Asrt -> Prop} (h : SelT P o L ms R) (hr : ∀ d ms', R d ms' -> R' d ms') : SelT P o L ms R' := by
 intro ro H fr a w hok henv
 obtain ⟨v, d, ms', w', H', hR, rest⟩ := h ro H fr a w hok henv;exact ⟨v, d, ms', w', H', hr _ _ hR, rest⟩
theorem s_recv_none {z : Value} (k : Nat) (hz : ∀ w, (zeroValue e).run P w = .ok z w) (hx : Env.ev L x = some (.v (.chan (some c)))) (hk : ms[k]? = some (chn c cap f l)) (hl : l.isEmpty = true) :
  SelT P ⟨dst, .select #[⟨x, none, e⟩] false, ty, pos, after, none⟩ L ms (fun d' ms' => d' = .tup [.i64 (-1), .bool false, .v z] /\ ms' = ms) :=
 (s_recv k hz hx hk).mono fun d ms' h => by
  rcases h with ⟨_, h1, h2⟩ | ⟨q, r, h1, _⟩
  ·exact ⟨h1, h2⟩
  ·subst h1; cases hl
theorem s_recv_some {z : Value} {q : α} {r : List α} (k : Nat) (hz : ∀ w, (zeroValue e).run P w = .ok z w) (hx : Env.ev L x = some (.v (.chan (some c)))) (hk : ms[k]? = some (chn c cap f l)) (h1 : idx l 0 = some q) (h2 : sli l 1 (l.length : Int) = some r) :
  SelT P ⟨dst, .select #[⟨x, none, e⟩] false, ty, pos, after, none⟩ L ms (fun d' ms' => d' = .tup [.i64 0, .bool true, f q] /\ ms' = ms.set k (chn c cap f r)) :=
 (s_recv k hz hx hk).mono fun d ms' h => by
  rcases h with ⟨h3, _⟩ | ⟨q', r', h3, h4, h5⟩
  ·subst h3; simp [idx] at h1
  ·subst h3
   have e1 : q' = q := by simpa [idx] using h1
   have e2 : r' = r := by
    obtain ⟨_, _, _, h6⟩ := sli_some h2;rw [<- h6]; simp
   subst e1 e2;exact ⟨h4, h5⟩
theorem s_send_full {z : Value} {q : α} (k : Nat) (hz : ∀ w, (zeroValue e).run P w = .ok z w) (hx : Env.ev L x = some (.v (.chan (some c)))) (hy : Env.ev L y = some (f q)) (hk : ms[k]? = some (chn c cap f l)) (hl : decide (cap <= l.length) = true) :
  SelT P ⟨dst, .select #[⟨x, some y, e⟩] false, ty, pos, after, none⟩ L ms (fun d' ms' => d' = .tup [.i64 (-1), .bool false] /\ ms' = ms) :=
 (s_send k hz hx hy hk).mono fun d ms' h => by
  rw [decide_eq_true_eq] at hl
  rcases h with ⟨_, h1, h2⟩ | ⟨h1, _⟩
  ·exact ⟨h1, h2⟩
  ·omega
theorem s_send_room {z : Value} {q : α} (k : Nat) (hz : ∀ w, (zeroValue e).run P w = .ok z w) (hx : Env.ev L x = some (.v (.chan (some c)))) (hy : Env.ev L y = some (f q)) (hk : ms[k]? = some (chn c cap f l)) (hl : decide (cap <= l.length) = false) :
  SelT P ⟨dst, .select #[⟨x, some y, e⟩] false, ty, pos, after, none⟩ L ms (fun d' ms' => d' = .tup [.i64 0, .bool false] /\ ms' = ms.set k (chn c cap f (l ++ [q]))) :=
 (s_send k hz hx hy hk).mono fun d ms' h => by
  rw [decide_eq_false_iff_not] at hl
  rcases h with ⟨h1, _⟩ | ⟨_, h1, h2⟩
  ·omega
  ·exact ⟨h1, h2⟩
end
end Go.V
namespace Go.V
section
variable {Γ : Ctx} {P : Program} {L : Env} {ms : List Asrt} {K : KT}
end
section
variable {P : Program} {L : Env} {dst : Option Nat} {ty : TypeId} {pos : String} {after : Array Edge} {g : Option (Nat × Bool)} {x : Operand}
end
theorem OpT.conv {P : Program} {o : Oper} {L : Env} {ms ms' : List Asrt} {R : D -> List Asrt -> Prop} (r : Refines L ms L ms') (h : OpT P o L ms' R) : OpT P o L ms R := by
 intro ro H fr a w hok henv next Q hn
 have m := r ⟨H, fr, a.tmps.size, none, w, fun _ e => by cases e⟩ { a with defers := [] } w ⟨⟨H, [], PH.le_refl H, by simpa using hok, henv, rfl⟩, rfl, SameOut.refl w⟩
 obtain ⟨H', marks, hle, hok', henv', hd⟩ := m.ex
 have hmk : marks = [] := by simpa using hd.symm
 subst hmk;refine h ro H' fr a w (by simpa using hok') henv' next Q fun v d ms1 w' H2 hR hl hok2 hc hs => ?_;exact hn v d ms1 w' H2 hR (PH.le_trans hle hl) hok2 hc hs
end Go.V
namespace Go.V
section
variable {P : Program} {ms : List Asrt}
end
section
variable {P : Program} {L : Env} {ms : List Asrt} {dst : Option Nat} {ty : TypeId} {pos : String} {after : Array Edge} {g : Option (Nat × Bool)} {d : D}
theorem o_nilCheck_apt {x : Operand} {a : Option Addr} {m cap n j : Nat} {T : TypeId} {sz : Nat} {α : Type} {f : α -> D} {l : List α} {z : α} (k : Nat) (hx : Env.ev L x = some (.v (.pointer (apt a n)))) (hk : ms[k]? = some (arr a m cap T sz f l)) (hz : l[j]? = some z) :
  OpP P ⟨dst, .nilCheck x, ty, pos, after, g⟩ L ms (.v (.pointer (apt a n))) :=
 .pure (by simp) fun H fr w0 w hok henv => by
  have hk' : (ms ++ fr)[k]? = some (arr a m cap T sz f l) := by
   rw [List.getElem?_append_left (List.getElem?_eq_some_iff.1 hk).1]; exact hk
  obtain ⟨b, vs, us, ws, ha, _⟩ := arr_cells hok hk' hz;refine ⟨.pointer (apt a n), ?_, conc_v.2 rfl⟩;subst ha
  simp [execOp, ev_v henv hx, apt, Sem.run]
end
end Go.V
