/- Regions that draw their order, with a chain of operations that change what is owned. -/
import Derived.Test.YtnnjgbcojdnhhaaV30
set_option linter.unusedVariables false
set_option linter.unusedSimpArgs false
namespace Go.V
/-- ef: the chain, in the text's order; each that is not free stands ahead of all of the chain. -/
def chainB (l : List Oper) (ef free : List Nat) : Bool :=
  let M := masks l []
  (ef.zipIdx.all fun (e, q) => Nat.blt e l.length && (ef.zipIdx.all fun (e', q') => !(Nat.blt q q') || (Nat.blt e e' && (M.getD e' 0).testBit e))) &&
  (l.zipIdx.all fun (_, i) => ef.contains i || free.contains i || ef.all fun e => (M.getD e 0).testBit i) &&
  (ef.all fun e => match l[e]? with
    | some o => o.guard.isNone && (l.zipIdx.all fun (o', j) => (match o.dst with
        | some t => (Nat.beq e j || !(o'.dst == some t)) && (ef.contains j || !((slotsOf l o').contains t))
        | none => true) &&
        (Nat.ble j e || ef.contains j || (match o'.dst with | some t => !((slotsOf l o).contains t) | none => true)))
    | none => false)
structure ChainOk (l : List Oper) (ef free : List Nat) : Prop where
  lt : ∀ e ∈ ef, e < l.length
  chain : ∀ (q q' e e' : Nat), q < q' → ef[q]? = some e → ef[q']? = some e' → e < e' ∧ ∀ S, Closed l S → S e' = true → S e = true
  dep : ∀ i < l.length, i ∉ ef → i ∉ free → ∀ e ∈ ef, ∀ S, Closed l S → S e = true → S i = true
  op : ∀ e ∈ ef, ∃ o, l[e]? = some o ∧ o.guard = none ∧ (∀ t, o.dst = some t → (∀ j o', l[j]? = some o' → j ≠ e → o'.dst ≠ some t) ∧ ∀ j o', l[j]? = some o' → j ∉ ef → t ∉ slotsOf l o') ∧ ∀ j o' t, e < j → j ∉ ef → l[j]? = some o' → o'.dst = some t → t ∉ slotsOf l o
theorem contains_f {l : List Nat} {i : Nat} (h : i ∉ l) : l.contains i = false := by
  cases hb : l.contains i with
  | true => exact absurd (List.contains_iff_mem.1 hb) h
  | false => rfl
theorem chain_ok {l : List Oper} {ef free : List Nat} (h : chainB l ef free = true) : ChainOk l ef free := by
  have hM : MaskOk l (masks l []) := masks_ok l l [] (fun j => by simp) (fun j m hj => by simp at hj)
  have use : ∀ i j S, Closed l S → ((masks l []).getD i 0).testBit j = true → S i = true → S j = true := by
    intro i j S hS hb hi
    cases hacc : (masks l [])[i]? with
    | none => rw [List.getD_eq_getElem?_getD, hacc] at hb; simp at hb
    | some m => rw [List.getD_eq_getElem?_getD, hacc] at hb; exact hM i m hacc j hb S hS hi
  unfold chainB at h
  simp only [Bool.and_eq_true, List.all_eq_true] at h
  obtain ⟨⟨h1, h2⟩, h3⟩ := h
  refine ⟨fun e he => ?_, fun q q' e e' hq he he' => ?_, fun i hi hie hif e he S hS hSe => ?_, fun e he => ?_⟩
  · obtain ⟨q, hq⟩ := List.getElem?_of_mem he
    exact Nat.le_of_ble_eq_true (h1 (e, q) (List.mem_zipIdx_iff_getElem?.2 (by simpa using hq))).1
  · have := (h1 (e, q) (List.mem_zipIdx_iff_getElem?.2 (by simpa using he))).2 (e', q') (List.mem_zipIdx_iff_getElem?.2 (by simpa using he'))
    simp only [Bool.or_eq_true, Bool.not_eq_true', Bool.and_eq_true] at this
    rcases this with h4 | ⟨h4, h5⟩
    · have : Nat.blt q q' = true := Nat.ble_eq_true_of_le hq
      rw [this] at h4; cases h4
    · exact ⟨Nat.le_of_ble_eq_true h4, fun S hS hSe => use e' e S hS h5 hSe⟩
  · have := h2 (l[i], i) (List.mem_zipIdx_iff_getElem?.2 (by simp [hi]))
    simp only [Bool.or_eq_true, List.all_eq_true, contains_f hie, contains_f hif, Bool.false_eq_true, false_or] at this
    exact use e i S hS (this e he) hSe
  · have := h3 e he
    split at this
    · rename_i o ho
      simp only [Bool.and_eq_true, List.all_eq_true, Option.isNone_iff_eq_none] at this
      obtain ⟨hg, hall⟩ := this
      refine ⟨o, ho, hg, fun t ht => ⟨fun j o' hj hne => ?_, fun j o' hj hje => ?_⟩, fun j o' t hlt hje hj ht => ?_⟩
      · have := (hall (o', j) (List.mem_zipIdx_iff_getElem?.2 (by simpa using hj))).1
        rw [ht] at this
        simp only [Bool.and_eq_true, Bool.or_eq_true, Bool.not_eq_true'] at this
        rcases this.1 with h5 | h5
        · exact absurd (Nat.eq_of_beq_eq_true h5).symm hne
        · intro e; rw [e] at h5; simp at h5
      · have := (hall (o', j) (List.mem_zipIdx_iff_getElem?.2 (by simpa using hj))).1
        rw [ht] at this
        simp only [Bool.and_eq_true, Bool.or_eq_true, Bool.not_eq_true', contains_f hje, Bool.false_eq_true, false_or] at this
        intro hm
        have h5 := this.2
        rw [List.contains_iff_mem.2 hm] at h5; cases h5
      · have := (hall (o', j) (List.mem_zipIdx_iff_getElem?.2 (by simpa using hj))).2
        rw [ht] at this
        have hnb : Nat.ble j e = false := by
          cases hb : Nat.ble j e with
          | true => have := Nat.le_of_ble_eq_true hb; omega
          | false => rfl
        simp only [Bool.or_eq_true, hnb, contains_f hje, Bool.false_eq_true, false_or, Bool.not_eq_true'] at this
        intro hm
        rw [List.contains_iff_mem.2 hm] at this; cases this
    · cases this
def extE (o : Oper) (d : D) (E : Env) : Env := match o.dst with
  | some t => (t, d) :: E
  | none => E
section
variable {Γ : Ctx} {P : Program} {L : Env} {ms : List Asrt} {K : KT} {l : List Oper}
/-- The chain, gone through. -/
def GDE2 (Γ : Ctx) (P : Program) (ops : List Oper) (K : KT) (FD : List Asrt → Prop) (L : Env) : List Nat → Env → List Asrt → Prop
  | [], E, ms => K .normal (E ++ L) ms
  | e :: es, E, ms => ∀ o, ops[e]? = some o → dstOk o Γ.N ∧ ∃ R, OpT P o (Env.only (slotsOf ops o) (E ++ L)) ms R ∧ ∀ d ms', R d ms' → FD ms' ∧ GDE2 Γ P ops K FD L es (extE o d E) ms'
theorem draw_chain {ef free fd : List Nat} {FD : List Asrt → Prop} (hf : FlowOk l l.length) (hch : ChainOk l ef free) (ds : List D) (hlen : ds.length = l.length)
    (hstep : ∀ (i : Nat) o d, i ∉ ef → l[i]? = some o → ds[i]? = some d → dstOk o Γ.N ∧ Step P l o (envL (fun j => decide (j < i) && !(ef.contains j)) l ds 0 L) (if free.contains i && !(fd.contains i) then [] else ms) d)
    (hfd : ∀ msx, FD msx → ∀ (i : Nat) o d, fd.contains i = true → l[i]? = some o → ds[i]? = some d → Step P l o (envL (fun j => decide (j < i) && !(ef.contains j)) l ds 0 L) msx d) (hfd0 : FD ms)
    (h2 : GDE2 Γ P l K FD (envL (fun j => !(ef.contains j)) l ds 0 L) ef [] ms) :
    ∀ (fuel : Nat) (listed : Array Bool) (t : Nat) (a : Act) (w : World), listed.size = l.length → Closed l (fun j => listed.getD j false) → (∀ i, l.length ≤ i → listed.getD i false = false) →
      ((List.range l.length).filter (fun i => !listed.getD i false)).length ≤ fuel →
      (∃ m E msx, m ≤ ef.length ∧ (∀ q e, ef[q]? = some e → (listed.getD e false = true ↔ q < m)) ∧ GDE2 Γ P l K FD (envL (fun j => !(ef.contains j)) l ds 0 L) (ef.drop m) E msx ∧ (∀ t d, Env.find E t = some d → ∃ e o, e ∈ ef ∧ listed.getD e false = true ∧ l[e]? = some o ∧ o.dst = some t) ∧ (m = 0 → msx = ms) ∧ FD msx ∧
        Models Γ (E ++ envL (fun j => listed.getD j false && !(ef.contains j)) l ds 0 L) msx a w) →
      wpOpsIn (FR Γ.round) 0 P l.toArray (Post Γ K) (Region.linearise.go .any l.toArray fuel t listed []) a w := by
  refine draw_gen hf (Nat.le_refl _) (fun S a w => ∃ m E msx, m ≤ ef.length ∧ (∀ q e, ef[q]? = some e → (S e = true ↔ q < m)) ∧ GDE2 Γ P l K FD (envL (fun j => !(ef.contains j)) l ds 0 L) (ef.drop m) E msx ∧ (∀ t d, Env.find E t = some d → ∃ e o, e ∈ ef ∧ S e = true ∧ l[e]? = some o ∧ o.dst = some t) ∧ (m = 0 → msx = ms) ∧ FD msx ∧
        Models Γ (E ++ envL (fun j => S j && !(ef.contains j)) l ds 0 L) msx a w) ?_ ?_
  rotate_left
  · rintro a w ⟨m, E, msx, hml, hm, h2, hE, _, _, mm⟩
    have hdr : ef.drop m = [] := by
      rw [List.drop_eq_nil_iff]
      rcases Nat.lt_or_ge m ef.length with h | h
      · have := (hm m ef[m] (by simp [h])).1 (by simp [hch.lt ef[m] (by simp)])
        omega
      · exact h
    rw [hdr] at h2
    simp only [GDE2] at h2
    have hee : envL (fun j => decide (j < l.length) && !(ef.contains j)) l ds 0 L = envL (fun q => !(ef.contains q)) l ds 0 L := by
      have : ∀ (l' : List Oper) (ds : List D) (k0 : Nat) (L : Env), k0 + l'.length ≤ l.length → envL (fun j => decide (j < l.length) && !(ef.contains j)) l' ds k0 L = envL (fun q => !(ef.contains q)) l' ds k0 L := by
        intro l'
        induction l' with
        | nil => intro ds k0 L _; simp [envL]
        | cons o r ih =>
          intro ds k0 L hk
          cases ds with
          | nil => simp [envL]
          | cons d ds =>
            simp only [List.length_cons] at hk
            have : decide (k0 < l.length) = true := by simp; omega
            simp only [envL, this, Bool.true_and]
            exact ih ds (k0 + 1) _ (by omega)
      exact this l ds 0 L (by omega)
    rw [hee] at mm
    rw [List.drop_length]
    exact ⟨_, _, h2, mm⟩
  · rintro S i o a w hc hik ho hunl hcs ⟨m, E, msx, hmle, hm, h2', hE, hm0, hFD, mm⟩ next hn
    obtain ⟨H, marks, hle, hok, henv, hdf⟩ := mm.ex
    by_cases hie : i ∈ ef
    · -- the next one of the chain
      obtain ⟨q, hq⟩ := List.getElem?_of_mem hie
      have hqm : q = m := by
        have h3 : ¬ q < m := fun h => by have := (hm q i hq).2 h; rw [hunl] at this; cases this
        rcases Nat.lt_or_ge m q with h | h
        · have hml : m < ef.length := Nat.lt_trans h (List.getElem?_eq_some_iff.1 hq).1
          obtain ⟨h4, h5⟩ := hch.chain m q ef[m] i h (by simp [hml]) hq
          have h6 := h5 _ hcs (by simp)
          have hne : ¬ ef[m] = i := by omega
          simp only [hne, decide_false, Bool.or_false] at h6
          have := (hm m ef[m] (by simp [hml])).1 h6
          omega
        · omega
      subst hqm
      have hdrop : ef.drop q = i :: ef.drop (q + 1) := by
        obtain ⟨hlt, he⟩ := List.getElem?_eq_some_iff.1 hq
        rw [← he]; exact (List.getElem_cons_drop ..).symm
      rw [hdrop] at h2'
      simp only [GDE2] at h2'
      obtain ⟨hdk, R, hop, hrest⟩ := h2' o ho
      obtain ⟨o2, ho2, hg, hdst, hlate⟩ := hch.op i hie
      obtain rfl : o2 = o := by rw [ho] at ho2; exact (Option.some.inj ho2).symm
      have hsub : EnvOk H (Env.only (slotsOf l o2) (E ++ envL (fun j => !(ef.contains j)) l ds 0 L)) a.tmps := by
        intro s d' hfnd
        obtain ⟨h3, h4⟩ := only_mem hfnd
        refine henv s d' ?_
        rw [find_app] at h4 ⊢
        cases hq2 : Env.find E s with
        | some d2 => rw [hq2] at h4; exact h4
        | none =>
          rw [hq2] at h4
          simp only at h4 ⊢
          rw [← h4]
          refine find_congr l ds 0 L L (fun j o' hj hd' => ?_) rfl
          simp only [Nat.zero_add]
          cases hfj : ef.contains j with
          | true => simp
          | false =>
            simp only [Bool.not_false, Bool.and_true]
            have hjf : j ∉ ef := fun h => by rw [List.contains_iff_mem.2 h] at hfj; cases hfj
            have hji : j ≠ i := fun e => hjf (e ▸ hie)
            have hn' := hf.names i o2 j o' s ho hj (fun e => hji e.symm) hd' (.inl h3)
            rcases Nat.lt_or_gt_of_ne hji with hlt | hgt
            · have h5 := (hn' _ hcs).1 hlt (by simp)
              simpa [hji] using h5
            · exact absurd h3 (hlate j o' s hgt hjf hj hd')
      simp only [Region.wanted, hg, if_true]
      refine hop Γ.round H (marks.map markA ++ Γ.fr) a w hok hsub next _ ?_
      intro v d ms' w' H' hR hl hok' hcv hso
      refine hn _ _ ⟨q + 1, extE o2 d E, ms', (List.getElem?_eq_some_iff.1 hq).1, fun q' e' he' => ?_, (hrest d ms' hR).2, fun t d2 ht => ?_, fun h => by omega, (hrest d ms' hR).1, ?_⟩
      · by_cases hqq : q' = q
        · subst hqq
          have : e' = i := by rw [hq] at he'; exact (Option.some.inj he').symm
          simp [this]
        · have hne : e' ≠ i := by
            intro e
            subst e
            rcases Nat.lt_or_gt_of_ne hqq with h | h
            · have := (hch.chain q' q e' e' h he' hq).1; omega
            · have := (hch.chain q q' e' e' h hq he').1; omega
          simp only [hne, decide_false, Bool.or_false]
          rw [hm q' e' he']
          omega
      · unfold extE at ht
        cases hd : o2.dst with
        | none =>
          rw [hd] at ht
          obtain ⟨e, o3, a1, a2, a3, a4⟩ := hE t d2 ht
          exact ⟨e, o3, a1, by simp [a2], a3, a4⟩
        | some t0 =>
          rw [hd] at ht
          simp only [Env.find] at ht
          cases hb : Nat.beq t0 t with
          | true => exact ⟨i, o2, hie, by simp, ho, by rw [hd, Nat.eq_of_beq_eq_true hb]⟩
          | false =>
            rw [hb] at ht
            obtain ⟨e, o3, a1, a2, a3, a4⟩ := hE t d2 ht
            exact ⟨e, o3, a1, by simp [a2], a3, a4⟩
      · have hpe : envL (fun j => (S j || decide (j = i)) && !(ef.contains j)) l ds 0 L = envL (fun j => S j && !(ef.contains j)) l ds 0 L := by
          congr 1
          funext j
          by_cases hji : j = i
          · subst hji; rw [List.contains_iff_mem.2 hie]; simp
          · simp [hji]
        rw [hpe]
        refine ⟨⟨H', marks, PH.le_trans hle hl, hok', ?_, by cases o2.dst <;> simpa [Act.put] using hdf⟩, by cases o2.dst <;> simp [Act.put, mm.size], mm.same.trans hso⟩
        unfold extE
        cases hd : o2.dst with
        | none => exact henv.mono hl
        | some t0 =>
          have hlt : t0 < Γ.N := by simp only [dstOk, hd] at hdk; exact Nat.le_of_ble_eq_true hdk
          exact (henv.mono hl).put (by rw [mm.size]; exact hlt) hcv
    · -- one that changes nothing
      obtain ⟨d, hd⟩ : ∃ d, ds[i]? = some d := ⟨ds[i]'(by omega), by simp⟩
      obtain ⟨hdst, hst⟩ := hstep i o d hie ho hd
      have hnoE : ∀ s, s ∈ slotsOf l o → Env.find E s = none := by
        intro s hs
        cases hq : Env.find E s with
        | none => rfl
        | some d2 =>
          obtain ⟨e, o3, a1, _, a3, a4⟩ := hE s d2 hq
          obtain ⟨o4, b1, _, b3, _⟩ := hch.op e a1
          have : o4 = o3 := by rw [a3] at b1; exact (Option.some.inj b1).symm
          subst this
          exact absurd hs ((b3 s a4).2 i o ho hie)
      have agree : ∀ s, s ∈ slotsOf l o → Env.find (E ++ envL (fun j => S j && !(ef.contains j)) l ds 0 L) s = Env.find (envL (fun j => decide (j < i) && !(ef.contains j)) l ds 0 L) s := by
        intro s hsl
        rw [find_app, hnoE s hsl]
        refine find_congr l ds 0 L L (fun j o' hj hd' => ?_) rfl
        simp only [Nat.zero_add]
        cases hfj : ef.contains j with
        | true => simp
        | false =>
          simp only [Bool.not_false, Bool.and_true]
          by_cases hji : j = i
          · subst hji; rw [hunl]; simp
          · have hn' := hf.names i o j o' s ho hj (fun e => hji e.symm) hd' (.inl hsl)
            by_cases hlt : j < i
            · have h1 := (hn' _ hcs).1 hlt (by simp)
              simp only [hji, decide_false, Bool.or_false] at h1
              rw [h1]; simp [hlt]
            · cases hb : S j with
              | true => have h1 := (hn' _ hc).2 (by omega) hb; rw [hunl] at h1; cases h1
              | false => simp [hlt]
      have hsub : EnvOk H (Env.only (slotsOf l o) (envL (fun j => decide (j < i) && !(ef.contains j)) l ds 0 L)) a.tmps := by
        intro s d' hfnd
        obtain ⟨h1, h2⟩ := only_mem hfnd
        exact henv s d' (by rw [agree s h1]; exact h2)
      have hcf := contains_f hie
      have nxt : ∀ (v : Value) (w' : World) (H' : PH), PH.le H H' → HeapOk H' (msx ++ (marks.map markA ++ Γ.fr)) w' → Conc H' d v → SameOut w w' → next (a.put o.dst v) w' := by
        intro v w' H' hl hok' hcv hso
        refine hn _ _ ⟨m, E, msx, hmle, fun q e he => ?_, h2', fun t d2 ht => ?_, hm0, hFD, ?_⟩
        · have hne : e ≠ i := fun h => hie (h ▸ List.mem_of_getElem? he)
          simp only [hne, decide_false, Bool.or_false]
          exact hm q e he
        · obtain ⟨e, o3, a1, a2, a3, a4⟩ := hE t d2 ht
          exact ⟨e, o3, a1, by simp [a2], a3, a4⟩
        · refine ⟨⟨H', marks, PH.le_trans hle hl, hok', ?_, by cases o.dst <;> simpa [Act.put] using hdf⟩, by cases o.dst <;> simp [Act.put, mm.size], mm.same.trans hso⟩
          intro s d' hfnd
          by_cases hds : o.dst = some s
          · have hno : Env.find E s = none := by
              cases hq : Env.find E s with
              | none => rfl
              | some d2 =>
                obtain ⟨e, o3, a1, _, a3, a4⟩ := hE s d2 hq
                obtain ⟨o4, b1, _, b3, _⟩ := hch.op e a1
                have : o4 = o3 := by rw [a3] at b1; exact (Option.some.inj b1).symm
                subst this
                exact absurd hds ((b3 s a4).1 i o ho (fun h => hie (h ▸ a1)))
            rw [find_app, hno] at hfnd
            have hat := find_at (S := fun j => ((S j || decide (j = i)) && !(ef.contains j))) l ds 0 i L o ho hd hds (by simp [hie]) (fun j o' hj hlo hd' => by
              simp only [Nat.zero_add]
              have hn' := hf.names i o j o' s ho hlo (by omega) hd' (.inr hds)
              cases hb : S j with
              | true => have h1 := (hn' _ hc).2 hj hb; rw [hunl] at h1; cases h1
              | false => have : ¬ j = i := by omega
                         simp [this])
            rw [hat] at hfnd
            simp only [Option.some.injEq] at hfnd
            subst hfnd
            have hsz : s < a.tmps.size := by
              have := hdst
              simp only [dstOk, hds] at this
              have := Nat.le_of_ble_eq_true this
              rw [mm.size]; exact this
            simp only [hds, Act.put]
            simpa [Array.getD, hsz] using hcv
          · have hcg : Env.find (E ++ envL (fun j => (S j || decide (j = i)) && !(ef.contains j)) l ds 0 L) s = Env.find (E ++ envL (fun j => S j && !(ef.contains j)) l ds 0 L) s := by
              rw [find_app, find_app]
              rw [find_congr l ds 0 L L (fun j o' hj hd' => ?_) rfl]
              simp only [Nat.zero_add]
              have : ¬ j = i := fun e => by subst e; rw [ho] at hj; simp only [Option.some.injEq] at hj; subst hj; exact hds hd'
              simp [this]
            rw [hcg] at hfnd
            have h1 := (henv s d' hfnd).mono hl
            have h2 : (a.put o.dst v).tmps.getD s undef = a.tmps.getD s undef := by
              cases hod : o.dst with
              | none => rfl
              | some q =>
                have hq : q ≠ s := fun e => hds (by rw [hod, e])
                simp [Act.put, Array.getD_eq_getD_getElem?, Array.getElem?_setIfInBounds, hq]
            rw [h2]
            exact h1
      -- what it needs of what is owned is as it was
      obtain ⟨msi, rest, hp, hst⟩ : ∃ msi rest, msx.Perm (msi ++ rest) ∧ Step P l o (envL (fun j => decide (j < i) && !(ef.contains j)) l ds 0 L) msi d := by
        cases hfi : fd.contains i with
        | true => exact ⟨msx, [], by simp, hfd msx hFD i o d hfi ho hd⟩
        | false =>
          rw [hfi] at hst
          simp only [Bool.not_false, Bool.and_true] at hst
          cases hfr : free.contains i with
          | true => rw [hfr] at hst; exact ⟨[], msx, List.Perm.refl _, hst⟩
          | false =>
            rw [hfr] at hst
            have hm00 : m = 0 := by
              rcases Nat.eq_zero_or_pos m with h | h
              · exact h
              · have h0 : 0 < ef.length := by omega
                have hS0 : S ef[0] = true := (hm 0 ef[0] (by simp [h0])).2 h
                have hif : i ∉ free := fun hh => by rw [List.contains_iff_mem.2 hh] at hfr; cases hfr
                have := hch.dep i hik hie hif ef[0] (by simp) S hc hS0
                rw [hunl] at this; cases this
            exact ⟨ms, [], by rw [hm0 hm00]; simp, hst⟩
      have hokp : HeapOk H (msi ++ (rest ++ (marks.map markA ++ Γ.fr))) w := hok.perm (by
        have := hp.append_right (marks.map markA ++ Γ.fr)
        simpa [List.append_assoc] using this)
      have back : ∀ {H' : PH} {w' : World}, HeapOk H' (msi ++ (rest ++ (marks.map markA ++ Γ.fr))) w' → HeapOk H' (msx ++ (marks.map markA ++ Γ.fr)) w' := fun h => h.perm (by
        have := hp.symm.append_right (marks.map markA ++ Γ.fr)
        simpa [List.append_assoc] using this)
      unfold Step at hst
      cases hg : o.guard with
      | none =>
        rw [hg] at hst
        simp only at hst
        simp only [Region.wanted, hg, if_true]
        refine hst Γ.round H (rest ++ (marks.map markA ++ Γ.fr)) a w hokp hsub _ _ ?_
        rintro v d2 ms' w' H' ⟨rfl, rfl⟩ hl hok' hcv hso
        exact nxt v w' H' hl (back hok') hcv hso
      | some q =>
        obtain ⟨j, want⟩ := q
        rw [hg] at hst
        simp only at hst
        obtain ⟨s, u, h1, h2, h3⟩ := hst
        have hss : s ∈ slotsOf l o := by simp [slotsOf, hg, h1]
        have hfnd : Env.find (E ++ envL (fun j => S j && !(ef.contains j)) l ds 0 L) s = some (.v u) := by rw [agree s hss]; exact h2
        rcases h3 with ⟨b, hu, h3⟩ | ⟨hu, h4⟩
        · subst hu
          have hy := yielded_of (ops := l.toArray) mm (j := j) (t := s) (b := b) (by simpa using h1) hfnd
          simp only [Region.wanted, hg, hy]
          rcases h3 with ⟨h3, h4⟩ | ⟨h3, h4⟩
          · have hbq : (some b == some want) = true := by rw [h3]; simp
            rw [if_pos hbq]
            refine h4 Γ.round H (rest ++ (marks.map markA ++ Γ.fr)) a w hokp hsub _ _ ?_
            rintro v d2 ms' w' H' ⟨rfl, rfl⟩ hl hok' hcv hso
            exact nxt v w' H' hl (back hok') hcv hso
          · have hbq : (some b == some want) = false := by rw [h3]; cases want <;> rfl
            rw [if_neg (by rw [hbq]; simp)]
            exact ⟨fun _ _ => trivial, nxt undef w H (PH.le_refl H) hok (by rw [h4]; exact conc_v.2 rfl) (SameOut.refl w)⟩
        · subst hu
          have hy := yielded_undef (ops := l.toArray) mm (j := j) (t := s) (by simpa using h1) hfnd
          simp only [Region.wanted, hg, hy]
          rw [if_neg (by cases want <;> simp)]
          exact ⟨fun _ _ => trivial, nxt undef w H (PH.le_refl H) hok (by rw [h4]; exact conc_v.2 rfl) (SameOut.refl w)⟩
end
/-! ### In the text's order -/
section
variable {Γ : Ctx} {P : Program} {L : Env} {ms : List Asrt} {K : KT} {l : List Oper}
/-- The operations that change nothing, in the text's order; then the chain. -/
def GDE (Γ : Ctx) (P : Program) (ops : List Oper) (ms : List Asrt) (K : KT) (ef free fd : List Nat) : Nat → List Oper → Env → (List Asrt → Prop) → Prop
  | _, [], L, acc => GDE2 Γ P ops K acc L ef [] ms
  | i, o :: r, L, acc => if ef.contains i = true then GDE Γ P ops ms K ef free fd (i + 1) r L acc
    else ∃ d, dstOk o Γ.N ∧ Step P ops o L (if free.contains i && !(fd.contains i) then [] else ms) d ∧ GDE Γ P ops ms K ef free fd (i + 1) r (ext o d L) (if fd.contains i then fun msx => acc msx ∧ Step P ops o L msx d else acc)
theorem gde_list {ops : List Oper} {ef free fd : List Nat} : ∀ (r : List Oper) (i : Nat) (L : Env) (acc : List Asrt → Prop), acc ms → GDE Γ P ops ms K ef free fd i r L acc →
    ∃ (ds : List D) (FD : List Asrt → Prop), ds.length = r.length ∧
      (∀ j o d, r[j]? = some o → ds[j]? = some d → ef.contains (i + j) = false → dstOk o Γ.N ∧ Step P ops o (envL (fun q => decide (q < i + j) && !(ef.contains q)) r ds i L) (if free.contains (i + j) && !(fd.contains (i + j)) then [] else ms) d) ∧
      (∀ msx, FD msx → acc msx ∧ ∀ j o d, r[j]? = some o → ds[j]? = some d → ef.contains (i + j) = false → fd.contains (i + j) = true → Step P ops o (envL (fun q => decide (q < i + j) && !(ef.contains q)) r ds i L) msx d) ∧ FD ms ∧
      GDE2 Γ P ops K FD (envL (fun q => !(ef.contains q)) r ds i L) ef [] ms
  | [], i, L, acc, h0, h => ⟨[], acc, rfl, fun j o d hj => by simp at hj, fun msx hm => ⟨hm, fun j o d hj => by simp at hj⟩, h0, (show GDE2 Γ P ops K acc L ef [] ms from h)⟩
  | o :: r, i, L, acc, h0, h => by
    have hsh : ∀ j, i + (j + 1) = i + 1 + j := fun j => by omega
    unfold GDE at h
    cases hc : ef.contains i with
    | true =>
      rw [if_pos hc] at h
      obtain ⟨ds, FD, e1, e2, e4, e5, e3⟩ := gde_list r (i + 1) L acc h0 h
      have hS : ∀ m, (decide (i < m) && !(ef.contains i)) = false := fun m => by rw [hc]; simp
      refine ⟨.v undef :: ds, FD, by simp [e1], fun j o' d' hj hdj hcj => ?_, fun msx hm => ⟨(e4 msx hm).1, fun j o' d' hj hdj hcj hfj => ?_⟩, e5, ?_⟩
      · cases j with
        | zero => rw [Nat.add_zero] at hcj; rw [hc] at hcj; cases hcj
        | succ j =>
          simp only [List.getElem?_cons_succ] at hj hdj
          rw [hsh] at hcj ⊢
          simp only [envL, hS, Bool.false_eq_true, if_false]
          exact e2 j o' d' hj hdj hcj
      · cases j with
        | zero => rw [Nat.add_zero] at hcj; rw [hc] at hcj; cases hcj
        | succ j =>
          simp only [List.getElem?_cons_succ] at hj hdj
          rw [hsh] at hcj hfj ⊢
          simp only [envL, hS, Bool.false_eq_true, if_false]
          exact (e4 msx hm).2 j o' d' hj hdj hcj hfj
      · simp only [envL]
        rw [if_neg (by rw [hc]; simp)]
        exact e3
    | false =>
      rw [if_neg (by rw [hc]; simp)] at h
      obtain ⟨d, hdk, hst, hrest⟩ := h
      have h0' : (if fd.contains i then fun msx => acc msx ∧ Step P ops o L msx d else acc) ms := by
        cases hf : fd.contains i with
        | true => rw [hf] at hst; simp only [Bool.not_true, Bool.and_false, Bool.false_eq_true, if_false] at hst; exact ⟨h0, hst⟩
        | false => exact h0
      obtain ⟨ds, FD, e1, e2, e4, e5, e3⟩ := gde_list r (i + 1) (ext o d L) _ h0' hrest
      have hS : ∀ j, (decide (i < i + 1 + j) && !(ef.contains i)) = true := fun j => by rw [hc]; simp; omega
      have hL0 : envL (fun q => decide (q < i + 0) && !(ef.contains q)) (o :: r) (d :: ds) i L = L := by
        rw [Nat.add_zero, envL_none _ _ _ _ (fun q hq => by have : ¬ q < i := by omega
                                                            simp [this])]
      refine ⟨d :: ds, FD, by simp [e1], fun j o' d' hj hdj hcj => ?_, fun msx hm => ?_, e5, ?_⟩
      · cases j with
        | zero =>
          simp only [List.getElem?_cons_zero, Option.some.injEq] at hj hdj
          subst hj hdj
          exact ⟨hdk, by rw [hL0]; exact hst⟩
        | succ j =>
          simp only [List.getElem?_cons_succ] at hj hdj
          rw [hsh] at hcj ⊢
          simp only [envL, hS, if_true]
          exact e2 j o' d' hj hdj hcj
      · obtain ⟨hacc, hrest2⟩ := e4 msx hm
        have hacc' : acc msx := by
          cases hf : fd.contains i with
          | true => rw [hf] at hacc; exact hacc.1
          | false => rw [hf] at hacc; exact hacc
        refine ⟨hacc', fun j o' d' hj hdj hcj hfj => ?_⟩
        cases j with
        | zero =>
          simp only [List.getElem?_cons_zero, Option.some.injEq] at hj hdj
          subst hj hdj
          rw [hL0]
          rw [Nat.add_zero] at hfj
          rw [hfj] at hacc
          exact hacc.2
        | succ j =>
          simp only [List.getElem?_cons_succ] at hj hdj
          rw [hsh] at hcj hfj ⊢
          simp only [envL, hS, if_true]
          exact hrest2 j o' d' hj hdj hcj hfj
      · simp only [envL]
        rw [if_pos (by rw [hc]; rfl)]
        exact e3
/-- A region that draws its order: a chain ef of operations that change what is owned; those of free look at nothing that is owned. -/
theorem g_draw_c {id : Nat} (ef free fd : List Nat) (hm : P.follows .mixedOrders = true) (hf : flowB l l.length = true) (hch : chainB l ef free = true) (hfe : fd.all (fun i => !(ef.contains i)) = true) (h : GDE Γ P l ms K ef free fd 0 l L (fun _ => True)) : G Γ P (.region id l.toArray true) L ms K := by
  intro a w m
  refine wpIn_region_draw fun t => ?_
  simp only [Region.schedule, hm, Bool.true_or, if_true]
  have hfo := flow_ok hf
  obtain ⟨ds, FD, e1, e2, e4, e5, e3⟩ := gde_list _ _ _ _ trivial h
  simp only [Nat.zero_add] at e2 e4
  refine draw_chain (L := L) (ms := ms) (fd := fd) hfo (chain_ok hch) ds e1 ?_ (fun msx hm i o d hfi ho hd => (e4 msx hm).2 i o d ho hd (by
    have := List.all_eq_true.1 hfe i (List.contains_iff_mem.1 hfi)
    simpa using this) hfi) e5 e3 l.toArray.size (Array.replicate l.toArray.size false) t a { w with drawn := w.drawn + 1 } (by simp) ?_ ?_ ?_ ?_
  · intro i o d hie ho hd
    exact e2 i o d ho hd (contains_f hie)
  · intro j o hj hS
    simp [Array.getD] at hS
  · intro i _; simp [Array.getD]
  · have := List.length_filter_le (fun i => !(Array.replicate l.toArray.size false).getD i false) (List.range l.length)
    simpa using this
  · have hz : ∀ j, (Array.replicate l.toArray.size false).getD j false = false := fun j => by simp [Array.getD]
    refine ⟨0, [], ms, Nat.zero_le _, fun q e he => by rw [hz]; simp, by simpa using e3, fun t d ht => by simp [Env.find] at ht, fun _ => rfl, e5, ?_⟩
    rw [List.nil_append, envL_none _ _ _ _ (fun q _ => by rw [hz]; rfl)]
    obtain ⟨H, marks, hle, hok, henv, hdf⟩ := m.ex
    exact ⟨⟨H, marks, hle, hok.drew _, henv, hdf⟩, m.size, ⟨m.same.os, m.same.output, m.same.tape, m.same.size⟩⟩
theorem gde_e {ops r : List Oper} {ef free fd : List Nat} {acc : List Asrt → Prop} {n : Nat} {o : Oper} (hc : ef.contains n = true) (k : GDE Γ P ops ms K ef free fd (n + 1) r L acc) : GDE Γ P ops ms K ef free fd n (o :: r) L acc := by
  unfold GDE; rw [if_pos hc]; exact k
theorem gde_p {ops r : List Oper} {ef free fd : List Nat} {acc : List Asrt → Prop} {n : Nat} {o : Oper} {d : D} {i : Nat} {msi : List Asrt} (hc : ef.contains n = false) (hnf : fd.contains n = false) (hms : (if free.contains n then [] else ms) = msi) (hg : o.guard = none) (hd : o.dst = some i) (hi : Nat.blt i Γ.N = true) (h : OpP P o (Env.only (slotsOf ops o) L) msi d) (k : GDE Γ P ops ms K ef free fd (n + 1) r ((i, d) :: L) acc) : GDE Γ P ops ms K ef free fd n (o :: r) L acc := by
  unfold GDE
  rw [if_neg (by rw [hc]; simp), hnf]
  simp only [Bool.not_false, Bool.and_true, Bool.false_eq_true, if_false]
  rw [hms]
  refine ⟨d, by simp only [dstOk, hd]; exact hi, by simp only [Step, hg]; exact h, ?_⟩
  simp only [ext, hd]; exact k
theorem gde_want {ops r : List Oper} {ef free fd : List Nat} {acc : List Asrt → Prop} {n : Nat} {o : Oper} {d : D} {i j t : Nat} {b want : Bool} {msi : List Asrt} (hc : ef.contains n = false) (hnf : fd.contains n = false) (hms : (if free.contains n then [] else ms) = msi) (hg : o.guard = some (j, want)) (hj : (ops[j]?).bind (·.dst) = some t) (hf : Env.find L t = some (.v (.bool b))) (hb : b = want) (hd : o.dst = some i) (hi : Nat.blt i Γ.N = true)
    (h : OpP P o (Env.only (slotsOf ops o) L) msi d) (k : GDE Γ P ops ms K ef free fd (n + 1) r ((i, d) :: L) acc) : GDE Γ P ops ms K ef free fd n (o :: r) L acc := by
  unfold GDE
  rw [if_neg (by rw [hc]; simp), hnf]
  simp only [Bool.not_false, Bool.and_true, Bool.false_eq_true, if_false]
  rw [hms]
  refine ⟨d, by simp only [dstOk, hd]; exact hi, by simp only [Step, hg]; exact ⟨t, _, hj, hf, .inl ⟨b, rfl, .inl ⟨hb, h⟩⟩⟩, ?_⟩
  simp only [ext, hd]; exact k
theorem gde_skip {ops r : List Oper} {ef free fd : List Nat} {acc : List Asrt → Prop} {n : Nat} {o : Oper} {i j t : Nat} {b want : Bool} {msi : List Asrt} (hc : ef.contains n = false) (hnf : fd.contains n = false) (hms : (if free.contains n then [] else ms) = msi) (hg : o.guard = some (j, want)) (hj : (ops[j]?).bind (·.dst) = some t) (hf : Env.find L t = some (.v (.bool b))) (hb : b = !want) (hd : o.dst = some i) (hi : Nat.blt i Γ.N = true)
    (k : GDE Γ P ops ms K ef free fd (n + 1) r ((i, .v undef) :: L) acc) : GDE Γ P ops ms K ef free fd n (o :: r) L acc := by
  unfold GDE
  rw [if_neg (by rw [hc]; simp)]
  refine ⟨.v undef, by simp only [dstOk, hd]; exact hi, by simp only [Step, hg]; exact ⟨t, _, hj, hf, .inl ⟨b, rfl, .inr ⟨hb, trivial⟩⟩⟩, ?_⟩
  simp only [ext, hd, hnf, Bool.false_eq_true, if_false]; exact k
theorem gde_skipu {ops r : List Oper} {ef free fd : List Nat} {acc : List Asrt → Prop} {n : Nat} {o : Oper} {i j t : Nat} {want : Bool} {msi : List Asrt} (hc : ef.contains n = false) (hnf : fd.contains n = false) (hms : (if free.contains n then [] else ms) = msi) (hg : o.guard = some (j, want)) (hj : (ops[j]?).bind (·.dst) = some t) (hf : Env.find L t = some (.v undef)) (hd : o.dst = some i) (hi : Nat.blt i Γ.N = true)
    (k : GDE Γ P ops ms K ef free fd (n + 1) r ((i, .v undef) :: L) acc) : GDE Γ P ops ms K ef free fd n (o :: r) L acc := by
  unfold GDE
  rw [if_neg (by rw [hc]; simp)]
  refine ⟨.v undef, by simp only [dstOk, hd]; exact hi, by simp only [Step, hg]; exact ⟨t, _, hj, hf, .inr ⟨rfl, trivial⟩⟩, ?_⟩
  simp only [ext, hd, hnf, Bool.false_eq_true, if_false]; exact k
theorem gde_f {ops r : List Oper} {ef free fd : List Nat} {acc : List Asrt → Prop} {n : Nat} {o : Oper} {d : D} {i : Nat} (hc : ef.contains n = false) (hnf : fd.contains n = true) (hg : o.guard = none) (hd : o.dst = some i) (hi : Nat.blt i Γ.N = true) (h : OpP P o (Env.only (slotsOf ops o) L) ms d) (k : GDE Γ P ops ms K ef free fd (n + 1) r ((i, d) :: L) (fun msx => acc msx ∧ OpP P o (Env.only (slotsOf ops o) L) msx d)) : GDE Γ P ops ms K ef free fd n (o :: r) L acc := by
  unfold GDE
  rw [if_neg (by rw [hc]; simp), hnf]
  simp only [Bool.not_true, Bool.and_false, Bool.false_eq_true, if_false, if_true]
  have hs : ∀ m, Step P ops o L m d = OpP P o (Env.only (slotsOf ops o) L) m d := fun m => by simp only [Step, hg]
  refine ⟨d, by simp only [dstOk, hd]; exact hi, by rw [hs]; exact h, ?_⟩
  simp only [hs]
  simp only [ext, hd]; exact k
theorem gde_nil {ops : List Oper} {ef free fd : List Nat} {acc : List Asrt → Prop} {n : Nat} (h : GDE2 Γ P ops K acc L ef [] ms) : GDE Γ P ops ms K ef free fd n [] L acc := h
theorem gde2_t {ops : List Oper} {FD : List Asrt → Prop} {E : Env} {msx : List Asrt} {e i : Nat} {es : List Nat} {o : Oper} {R : D → List Asrt → Prop} (ho : ops[e]? = some o) (hd : o.dst = some i) (hi : Nat.blt i Γ.N = true) (h : OpT P o (Env.only (slotsOf ops o) (E ++ L)) msx R) (k : ∀ d ms', R d ms' → FD ms' ∧ GDE2 Γ P ops K FD L es ((i, d) :: E) ms') : GDE2 Γ P ops K FD L (e :: es) E msx := by
  intro o' ho'
  have : o' = o := by rw [ho] at ho'; exact (Option.some.inj ho').symm
  subst this
  refine ⟨by simp only [dstOk, hd]; exact hi, R, h, fun d ms' hR => ?_⟩
  have := k d ms' hR
  simpa [extE, hd] using this
theorem gde2_u {ops : List Oper} {FD : List Asrt → Prop} {E : Env} {msx : List Asrt} {e : Nat} {es : List Nat} {o : Oper} {R : D → List Asrt → Prop} (ho : ops[e]? = some o) (hd : o.dst = none) (h : OpT P o (Env.only (slotsOf ops o) (E ++ L)) msx R) (k : ∀ d ms', R d ms' → FD ms' ∧ GDE2 Γ P ops K FD L es E ms') : GDE2 Γ P ops K FD L (e :: es) E msx := by
  intro o' ho'
  have : o' = o := by rw [ho] at ho'; exact (Option.some.inj ho').symm
  subst this
  refine ⟨by simp only [dstOk, hd], R, h, fun d ms' hR => ?_⟩
  have := k d ms' hR
  simpa [extE, hd] using this
theorem gde2_nil {ops : List Oper} {FD : List Asrt → Prop} {E : Env} {msx : List Asrt} (h : K .normal (E ++ L) msx) : GDE2 Γ P ops K FD L [] E msx := h
end
section
variable {P : Program} {L : Env} {ms : List Asrt} {dst : Option Nat} {ty : TypeId} {pos : String} {after : Array Edge} {g : Option (Nat × Bool)} {x : Operand} {t : TypeId}
theorem o_len_arr {a : Option Addr} {m cap : Nat} {e T sz : Nat} {α : Type} {f : α → D} {l : List α} (k : Nat) (hu : ∀ w, (underlying t).run P w = .ok (.slice e) w) (hx : Env.ev L x = some (.v (.slice a m cap))) (hk : ms[k]? = some (arr a m cap T sz f l)) : OpP P ⟨dst, .call ⟨.builtin .len, #[x], #[t]⟩, ty, pos, after, g⟩ L ms (.i64 l.length) := by
  refine .pure (by simp) fun H fr act w hok henv => ⟨.int .i64 m, by simp [execOp, resolve, invoke, builtin, Builtin.len_, ev_v henv hx, hu, Sem.run, goInt], conc_v.2 ?_⟩
  have := (hok.ok _ (List.mem_of_getElem? (getElem?_app (r := fr) hk))).1
  rw [this]
end
end Go.V
