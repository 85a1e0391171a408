/- Part 2 of the proof: a program logic, what the functions compute, and what these answer; no condition. -/
import Derived.Test.Ytnnjgbcojdnhhaap1
import Derived.Laws.RangeString
import Derived.Lib.Bytealg
set_option linter.unusedVariables false
set_option linter.unusedSimpArgs false
namespace Go.V
/-- ef: the chain, in the text's order; each that is not free stands ahead of all of the chain. -/
def chainB (l : List Oper) (ef free : List Nat) : Bool :=
  let M := masks l []
  (ef.zipIdx.all fun (e, q) => Nat.blt e l.length && (ef.zipIdx.all fun (e', q') => !(Nat.blt q q') || (Nat.blt e e' && (M.getD e' 0).testBit e))) &&
  (l.zipIdx.all fun (_, i) => ef.contains i || free.contains i || ef.all fun e => (M.getD e 0).testBit i) &&
  (ef.all fun e => match l[e]? with
    | some o => (l.zipIdx.all fun (o', j) => (match o.dst with
        | some t => (Nat.beq e j || !(o'.dst == some t)) && (ef.contains j || !((slotsOf l o').contains t))
        | none => true) &&
        (Nat.ble j e || ef.contains j || (match o'.dst with | some t => !((slotsOf l o).contains t) | none => true)))
    | none => false)
structure ChainOk (l : List Oper) (ef free : List Nat) : Prop where
  lt : ∀ e ∈ ef, e < l.length
  chain : ∀ (q q' e e' : Nat), q < q' → ef[q]? = some e → ef[q']? = some e' → e < e' ∧ ∀ S, Closed l S → S e' = true → S e = true
  dep : ∀ i < l.length, i ∉ ef → i ∉ free → ∀ e ∈ ef, ∀ S, Closed l S → S e = true → S i = true
  op : ∀ e ∈ ef, ∃ o, l[e]? = some o ∧ (∀ t, o.dst = some t → (∀ j o', l[j]? = some o' → j ≠ e → o'.dst ≠ some t) ∧ ∀ j o', l[j]? = some o' → j ∉ ef → t ∉ slotsOf l o') ∧ ∀ j o' t, e < j → j ∉ ef → l[j]? = some o' → o'.dst = some t → t ∉ slotsOf l o
theorem contains_f {l : List Nat} {i : Nat} (h : i ∉ l) : l.contains i = false := by
  cases hb : l.contains i with
  | true => exact absurd (List.contains_iff_mem.1 hb) h
  | false => rfl
theorem chain_ok {l : List Oper} {ef free : List Nat} (h : chainB l ef free = true) : ChainOk l ef free := by
  have hM : MaskOk l (masks l []) := masks_ok l l [] (fun j => by simp) (fun j m hj => by simp at hj)
  have use : ∀ i j S, Closed l S → ((masks l []).getD i 0).testBit j = true → S i = true → S j = true := by
    intro i j S hS hb hi
    cases hacc : (masks l [])[i]? with
    | none => rw [List.getD_eq_getElem?_getD, hacc] at hb; simp at hb
    | some m => rw [List.getD_eq_getElem?_getD, hacc] at hb; exact hM i m hacc j hb S hS hi
  unfold chainB at h
  simp only [Bool.and_eq_true, List.all_eq_true] at h
  obtain ⟨⟨h1, h2⟩, h3⟩ := h
  refine ⟨fun e he => ?_, fun q q' e e' hq he he' => ?_, fun i hi hie hif e he S hS hSe => ?_, fun e he => ?_⟩
  · obtain ⟨q, hq⟩ := List.getElem?_of_mem he
    exact Nat.le_of_ble_eq_true (h1 (e, q) (List.mem_zipIdx_iff_getElem?.2 (by simpa using hq))).1
  · have := (h1 (e, q) (List.mem_zipIdx_iff_getElem?.2 (by simpa using he))).2 (e', q') (List.mem_zipIdx_iff_getElem?.2 (by simpa using he'))
    simp only [Bool.or_eq_true, Bool.not_eq_true', Bool.and_eq_true] at this
    rcases this with h4 | ⟨h4, h5⟩
    · have : Nat.blt q q' = true := Nat.ble_eq_true_of_le hq
      rw [this] at h4; cases h4
    · exact ⟨Nat.le_of_ble_eq_true h4, fun S hS hSe => use e' e S hS h5 hSe⟩
  · have := h2 (l[i], i) (List.mem_zipIdx_iff_getElem?.2 (by simp [hi]))
    simp only [Bool.or_eq_true, List.all_eq_true, contains_f hie, contains_f hif, Bool.false_eq_true, false_or] at this
    exact use e i S hS (this e he) hSe
  · have := h3 e he
    split at this
    · rename_i o ho
      simp only [List.all_eq_true] at this
      have hall := this
      simp only [Bool.and_eq_true] at hall
      refine ⟨o, ho, fun t ht => ⟨fun j o' hj hne => ?_, fun j o' hj hje => ?_⟩, fun j o' t hlt hje hj ht => ?_⟩
      · have := (hall (o', j) (List.mem_zipIdx_iff_getElem?.2 (by simpa using hj))).1
        rw [ht] at this
        simp only [Bool.and_eq_true, Bool.or_eq_true, Bool.not_eq_true'] at this
        rcases this.1 with h5 | h5
        · exact absurd (Nat.eq_of_beq_eq_true h5).symm hne
        · intro e; rw [e] at h5; simp at h5
      · have := (hall (o', j) (List.mem_zipIdx_iff_getElem?.2 (by simpa using hj))).1
        rw [ht] at this
        simp only [Bool.and_eq_true, Bool.or_eq_true, Bool.not_eq_true', contains_f hje, Bool.false_eq_true, false_or] at this
        intro hm
        have h5 := this.2
        rw [List.contains_iff_mem.2 hm] at h5; cases h5
      · have := (hall (o', j) (List.mem_zipIdx_iff_getElem?.2 (by simpa using hj))).2
        rw [ht] at this
        have hnb : Nat.ble j e = false := by
          cases hb : Nat.ble j e with
          | true => have := Nat.le_of_ble_eq_true hb; omega
          | false => rfl
        simp only [Bool.or_eq_true, hnb, contains_f hje, Bool.false_eq_true, false_or, Bool.not_eq_true'] at this
        intro hm
        rw [List.contains_iff_mem.2 hm] at this; cases this
    · cases this
def extE (o : Oper) (d : D) (E : Env) : Env := match o.dst with
  | some t => (t, d) :: E
  | none => E
section
variable {Γ : Ctx} {P : Program} {L : Env} {ms : List Asrt} {K : KT} {l : List Oper}
/-- One of the chain: it is run, or skipped. -/
def GStep (P : Program) (l : List Oper) (o : Oper) (E : Env) (ms : List Asrt) (nx : D → List Asrt → Prop) (sk : Prop) : Prop := match o.guard with
  | none => ∃ R, OpT P o (Env.only (slotsOf l o) E) ms R ∧ ∀ d ms', R d ms' → nx d ms'
  | some (j, want) => ∃ s u, (l[j]?).bind (·.dst) = some s ∧ Env.find E s = some (.v u) ∧ ((∃ b, u = .bool b ∧ ((b = want ∧ ∃ R, OpT P o (Env.only (slotsOf l o) E) ms R ∧ ∀ d ms', R d ms' → nx d ms') ∨ (b = !want ∧ sk))) ∨ (u = undef ∧ sk))
/-- The chain, gone through. -/
def GDE2 (Γ : Ctx) (P : Program) (ops : List Oper) (K : KT) (FD : List Asrt → Prop) (L : Env) : List Nat → Env → List Asrt → Prop
  | [], E, ms => K .normal (E ++ L) ms
  | e :: es, E, ms => ∀ o, ops[e]? = some o → dstOk o Γ.N ∧ GStep P ops o (E ++ L) ms (fun d ms' => FD ms' ∧ GDE2 Γ P ops K FD L es (extE o d E) ms') (GDE2 Γ P ops K FD L es (extE o (.v undef) E) ms)
theorem draw_chain {ef free fd : List Nat} {FD : List Asrt → Prop} (hf : FlowOk l l.length) (hch : ChainOk l ef free) (ds : List D) (hlen : ds.length = l.length)
    (hstep : ∀ (i : Nat) o d, i ∉ ef → l[i]? = some o → ds[i]? = some d → dstOk o Γ.N ∧ Step P l o (envL (fun j => decide (j < i) && !(ef.contains j)) l ds 0 L) (if free.contains i && !(fd.contains i) then [] else ms) d)
    (hfd : ∀ msx, FD msx → ∀ (i : Nat) o d, fd.contains i = true → l[i]? = some o → ds[i]? = some d → Step P l o (envL (fun j => decide (j < i) && !(ef.contains j)) l ds 0 L) msx d) (hfd0 : FD ms)
    (h2 : GDE2 Γ P l K FD (envL (fun j => !(ef.contains j)) l ds 0 L) ef [] ms) :
    ∀ (fuel : Nat) (listed : Array Bool) (t : Nat) (a : Act) (w : World), listed.size = l.length → Closed l (fun j => listed.getD j false) → (∀ i, l.length ≤ i → listed.getD i false = false) →
      ((List.range l.length).filter (fun i => !listed.getD i false)).length ≤ fuel →
      (∃ m E msx, m ≤ ef.length ∧ (∀ q e, ef[q]? = some e → (listed.getD e false = true ↔ q < m)) ∧ GDE2 Γ P l K FD (envL (fun j => !(ef.contains j)) l ds 0 L) (ef.drop m) E msx ∧ (∀ t d, Env.find E t = some d → ∃ e o, e ∈ ef ∧ listed.getD e false = true ∧ l[e]? = some o ∧ o.dst = some t) ∧ (m = 0 → msx = ms) ∧ FD msx ∧
        Models Γ (E ++ envL (fun j => listed.getD j false && !(ef.contains j)) l ds 0 L) msx a w) →
      wpOpsIn (FR Γ.round) 0 P l.toArray (Post Γ K) (Region.linearise.go .any l.toArray fuel t listed []) a w := by
  refine draw_gen hf (Nat.le_refl _) (fun S a w => ∃ m E msx, m ≤ ef.length ∧ (∀ q e, ef[q]? = some e → (S e = true ↔ q < m)) ∧ GDE2 Γ P l K FD (envL (fun j => !(ef.contains j)) l ds 0 L) (ef.drop m) E msx ∧ (∀ t d, Env.find E t = some d → ∃ e o, e ∈ ef ∧ S e = true ∧ l[e]? = some o ∧ o.dst = some t) ∧ (m = 0 → msx = ms) ∧ FD msx ∧
        Models Γ (E ++ envL (fun j => S j && !(ef.contains j)) l ds 0 L) msx a w) ?_ ?_
  rotate_left
  · rintro a w ⟨m, E, msx, hml, hm, h2, hE, _, _, mm⟩
    have hdr : ef.drop m = [] := by
      rw [List.drop_eq_nil_iff]
      rcases Nat.lt_or_ge m ef.length with h | h
      · have := (hm m ef[m] (by simp [h])).1 (by simp [hch.lt ef[m] (by simp)])
        omega
      · exact h
    rw [hdr] at h2
    simp only [GDE2] at h2
    have hee : envL (fun j => decide (j < l.length) && !(ef.contains j)) l ds 0 L = envL (fun q => !(ef.contains q)) l ds 0 L := by
      have : ∀ (l' : List Oper) (ds : List D) (k0 : Nat) (L : Env), k0 + l'.length ≤ l.length → envL (fun j => decide (j < l.length) && !(ef.contains j)) l' ds k0 L = envL (fun q => !(ef.contains q)) l' ds k0 L := by
        intro l'
        induction l' with
        | nil => intro ds k0 L _; simp [envL]
        | cons o r ih =>
          intro ds k0 L hk
          cases ds with
          | nil => simp [envL]
          | cons d ds =>
            simp only [List.length_cons] at hk
            have : decide (k0 < l.length) = true := by simp; omega
            simp only [envL, this, Bool.true_and]
            exact ih ds (k0 + 1) _ (by omega)
      exact this l ds 0 L (by omega)
    rw [hee] at mm
    rw [List.drop_length]
    exact ⟨_, _, h2, mm⟩
  · rintro S i o a w hc hik ho hunl hcs ⟨m, E, msx, hmle, hm, h2', hE, hm0, hFD, mm⟩ next hn
    obtain ⟨H, marks, hle, hok, henv, hdf⟩ := mm.ex
    by_cases hie : i ∈ ef
    · -- the next one of the chain
      obtain ⟨q, hq⟩ := List.getElem?_of_mem hie
      have hqm : q = m := by
        have h3 : ¬ q < m := fun h => by have := (hm q i hq).2 h; rw [hunl] at this; cases this
        rcases Nat.lt_or_ge m q with h | h
        · have hml : m < ef.length := Nat.lt_trans h (List.getElem?_eq_some_iff.1 hq).1
          obtain ⟨h4, h5⟩ := hch.chain m q ef[m] i h (by simp [hml]) hq
          have h6 := h5 _ hcs (by simp)
          have hne : ¬ ef[m] = i := by omega
          simp only [hne, decide_false, Bool.or_false] at h6
          have := (hm m ef[m] (by simp [hml])).1 h6
          omega
        · omega
      subst hqm
      have hdrop : ef.drop q = i :: ef.drop (q + 1) := by
        obtain ⟨hlt, he⟩ := List.getElem?_eq_some_iff.1 hq
        rw [← he]; exact (List.getElem_cons_drop ..).symm
      rw [hdrop] at h2'
      simp only [GDE2] at h2'
      obtain ⟨hdk, hgs⟩ := h2' o ho
      obtain ⟨o2, ho2, hdst, hlate⟩ := hch.op i hie
      obtain rfl : o2 = o := by rw [ho] at ho2; exact (Option.some.inj ho2).symm
      have hag : ∀ s d', s ∈ slotsOf l o2 → Env.find (E ++ envL (fun j => !(ef.contains j)) l ds 0 L) s = some d' → Env.find (E ++ envL (fun j => S j && !(ef.contains j)) l ds 0 L) s = some d' := by
        intro s d' h3 h4
        rw [find_app] at h4 ⊢
        cases hq2 : Env.find E s with
        | some d2 => rw [hq2] at h4; exact h4
        | none =>
          rw [hq2] at h4
          simp only at h4 ⊢
          rw [← h4]
          refine find_congr l ds 0 L L (fun j o' hj hd' => ?_) rfl
          simp only [Nat.zero_add]
          cases hfj : ef.contains j with
          | true => simp
          | false =>
            simp only [Bool.not_false, Bool.and_true]
            have hjf : j ∉ ef := fun h => by rw [List.contains_iff_mem.2 h] at hfj; cases hfj
            have hji : j ≠ i := fun e => hjf (e ▸ hie)
            have hn' := hf.names i o2 j o' s ho hj (fun e => hji e.symm) hd' (.inl h3)
            rcases Nat.lt_or_gt_of_ne hji with hlt | hgt
            · have h5 := (hn' _ hcs).1 hlt (by simp)
              simpa [hji] using h5
            · exact absurd h3 (hlate j o' s hgt hjf hj hd')
      have hsub : EnvOk H (Env.only (slotsOf l o2) (E ++ envL (fun j => !(ef.contains j)) l ds 0 L)) a.tmps := by
        intro s d' hfnd
        obtain ⟨h3, h4⟩ := only_mem hfnd
        exact henv s d' (hag s d' h3 h4)
      have fin : ∀ v d ms' w' H', FD ms' → GDE2 Γ P l K FD (envL (fun j => !(ef.contains j)) l ds 0 L) (ef.drop (q + 1)) (extE o2 d E) ms' → PH.le H H' → HeapOk H' (ms' ++ (marks.map markA ++ Γ.fr)) w' → Conc H' d v → SameOut w w' → next (a.put o2.dst v) w' := by
        intro v d ms' w' H' hFD' hr2 hl hok' hcv hso
        refine hn _ _ ⟨q + 1, extE o2 d E, ms', (List.getElem?_eq_some_iff.1 hq).1, fun q' e' he' => ?_, hr2, fun t d2 ht => ?_, fun h => by omega, hFD', ?_⟩
        · by_cases hqq : q' = q
          · subst hqq
            have : e' = i := by rw [hq] at he'; exact (Option.some.inj he').symm
            simp [this]
          · have hne : e' ≠ i := by
              intro e
              subst e
              rcases Nat.lt_or_gt_of_ne hqq with h | h
              · have := (hch.chain q' q e' e' h he' hq).1; omega
              · have := (hch.chain q q' e' e' h hq he').1; omega
            simp only [hne, decide_false, Bool.or_false]
            rw [hm q' e' he']
            omega
        · unfold extE at ht
          cases hd : o2.dst with
          | none =>
            rw [hd] at ht
            obtain ⟨e, o3, a1, a2, a3, a4⟩ := hE t d2 ht
            exact ⟨e, o3, a1, by simp [a2], a3, a4⟩
          | some t0 =>
            rw [hd] at ht
            simp only [Env.find] at ht
            cases hb : Nat.beq t0 t with
            | true => exact ⟨i, o2, hie, by simp, ho, by rw [hd, Nat.eq_of_beq_eq_true hb]⟩
            | false =>
              rw [hb] at ht
              obtain ⟨e, o3, a1, a2, a3, a4⟩ := hE t d2 ht
              exact ⟨e, o3, a1, by simp [a2], a3, a4⟩
        · have hpe : envL (fun j => (S j || decide (j = i)) && !(ef.contains j)) l ds 0 L = envL (fun j => S j && !(ef.contains j)) l ds 0 L := by
            congr 1
            funext j
            by_cases hji : j = i
            · subst hji; rw [List.contains_iff_mem.2 hie]; simp
            · simp [hji]
          rw [hpe]
          refine ⟨⟨H', marks, PH.le_trans hle hl, hok', ?_, by cases o2.dst <;> simpa [Act.put] using hdf⟩, by cases o2.dst <;> simp [Act.put, mm.size], mm.same.trans hso⟩
          unfold extE
          cases hd : o2.dst with
          | none => exact henv.mono hl
          | some t0 =>
            have hlt : t0 < Γ.N := by simp only [dstOk, hd] at hdk; exact Nat.le_of_ble_eq_true hdk
            exact (henv.mono hl).put (by rw [mm.size]; exact hlt) hcv
      unfold GStep at hgs
      cases hg : o2.guard with
      | none =>
        rw [hg] at hgs
        simp only at hgs
        obtain ⟨R, hop, hrest⟩ := hgs
        simp only [Region.wanted, hg, if_true]
        refine hop Γ.round H (marks.map markA ++ Γ.fr) a w hok hsub next _ ?_
        intro v d ms' w' H' hR hl hok' hcv hso
        exact fin v d ms' w' H' (hrest d ms' hR).1 (hrest d ms' hR).2 hl hok' hcv hso
      | some qq =>
        obtain ⟨j, want⟩ := qq
        rw [hg] at hgs
        simp only at hgs
        obtain ⟨s, u, h1, h2, h3⟩ := hgs
        have hfnd := hag s _ (by simp [slotsOf, hg, h1]) h2
        rcases h3 with ⟨b, hu, h3⟩ | ⟨hu, h4⟩
        · subst hu
          have hy := yielded_of (ops := l.toArray) mm (j := j) (t := s) (b := b) (by simpa using h1) hfnd
          simp only [Region.wanted, hg, hy]
          rcases h3 with ⟨h3, R, hop, hrest⟩ | ⟨h3, h4⟩
          · have hbq : (some b == some want) = true := by rw [h3]; simp
            rw [if_pos hbq]
            refine hop Γ.round H (marks.map markA ++ Γ.fr) a w hok hsub next _ ?_
            intro v d ms' w' H' hR hl hok' hcv hso
            exact fin v d ms' w' H' (hrest d ms' hR).1 (hrest d ms' hR).2 hl hok' hcv hso
          · have hbq : (some b == some want) = false := by rw [h3]; cases want <;> rfl
            rw [if_neg (by rw [hbq]; simp)]
            exact ⟨fun _ _ => trivial, fin undef (.v undef) msx w H hFD h4 (PH.le_refl H) hok (conc_v.2 rfl) (SameOut.refl w)⟩
        · subst hu
          have hy := yielded_undef (ops := l.toArray) mm (j := j) (t := s) (by simpa using h1) hfnd
          simp only [Region.wanted, hg, hy]
          rw [if_neg (by cases want <;> simp)]
          exact ⟨fun _ _ => trivial, fin undef (.v undef) msx w H hFD h4 (PH.le_refl H) hok (conc_v.2 rfl) (SameOut.refl w)⟩
    · -- one that changes nothing
      obtain ⟨d, hd⟩ : ∃ d, ds[i]? = some d := ⟨ds[i]'(by omega), by simp⟩
      obtain ⟨hdst, hst⟩ := hstep i o d hie ho hd
      have hnoE : ∀ s, s ∈ slotsOf l o → Env.find E s = none := by
        intro s hs
        cases hq : Env.find E s with
        | none => rfl
        | some d2 =>
          obtain ⟨e, o3, a1, _, a3, a4⟩ := hE s d2 hq
          obtain ⟨o4, b1, b3, _⟩ := hch.op e a1
          have : o4 = o3 := by rw [a3] at b1; exact (Option.some.inj b1).symm
          subst this
          exact absurd hs ((b3 s a4).2 i o ho hie)
      have agree : ∀ s, s ∈ slotsOf l o → Env.find (E ++ envL (fun j => S j && !(ef.contains j)) l ds 0 L) s = Env.find (envL (fun j => decide (j < i) && !(ef.contains j)) l ds 0 L) s := by
        intro s hsl
        rw [find_app, hnoE s hsl]
        refine find_congr l ds 0 L L (fun j o' hj hd' => ?_) rfl
        simp only [Nat.zero_add]
        cases hfj : ef.contains j with
        | true => simp
        | false =>
          simp only [Bool.not_false, Bool.and_true]
          by_cases hji : j = i
          · subst hji; rw [hunl]; simp
          · have hn' := hf.names i o j o' s ho hj (fun e => hji e.symm) hd' (.inl hsl)
            by_cases hlt : j < i
            · have h1 := (hn' _ hcs).1 hlt (by simp)
              simp only [hji, decide_false, Bool.or_false] at h1
              rw [h1]; simp [hlt]
            · cases hb : S j with
              | true => have h1 := (hn' _ hc).2 (by omega) hb; rw [hunl] at h1; cases h1
              | false => simp [hlt]
      have hsub : EnvOk H (Env.only (slotsOf l o) (envL (fun j => decide (j < i) && !(ef.contains j)) l ds 0 L)) a.tmps := by
        intro s d' hfnd
        obtain ⟨h1, h2⟩ := only_mem hfnd
        exact henv s d' (by rw [agree s h1]; exact h2)
      have hcf := contains_f hie
      have nxt : ∀ (v : Value) (w' : World) (H' : PH), PH.le H H' → HeapOk H' (msx ++ (marks.map markA ++ Γ.fr)) w' → Conc H' d v → SameOut w w' → next (a.put o.dst v) w' := by
        intro v w' H' hl hok' hcv hso
        refine hn _ _ ⟨m, E, msx, hmle, fun q e he => ?_, h2', fun t d2 ht => ?_, hm0, hFD, ?_⟩
        · have hne : e ≠ i := fun h => hie (h ▸ List.mem_of_getElem? he)
          simp only [hne, decide_false, Bool.or_false]
          exact hm q e he
        · obtain ⟨e, o3, a1, a2, a3, a4⟩ := hE t d2 ht
          exact ⟨e, o3, a1, by simp [a2], a3, a4⟩
        · refine ⟨⟨H', marks, PH.le_trans hle hl, hok', ?_, by cases o.dst <;> simpa [Act.put] using hdf⟩, by cases o.dst <;> simp [Act.put, mm.size], mm.same.trans hso⟩
          intro s d' hfnd
          by_cases hds : o.dst = some s
          · have hno : Env.find E s = none := by
              cases hq : Env.find E s with
              | none => rfl
              | some d2 =>
                obtain ⟨e, o3, a1, _, a3, a4⟩ := hE s d2 hq
                obtain ⟨o4, b1, b3, _⟩ := hch.op e a1
                have : o4 = o3 := by rw [a3] at b1; exact (Option.some.inj b1).symm
                subst this
                exact absurd hds ((b3 s a4).1 i o ho (fun h => hie (h ▸ a1)))
            rw [find_app, hno] at hfnd
            have hat := find_at (S := fun j => ((S j || decide (j = i)) && !(ef.contains j))) l ds 0 i L o ho hd hds (by simp [hie]) (fun j o' hj hlo hd' => by
              simp only [Nat.zero_add]
              have hn' := hf.names i o j o' s ho hlo (by omega) hd' (.inr hds)
              cases hb : S j with
              | true => have h1 := (hn' _ hc).2 hj hb; rw [hunl] at h1; cases h1
              | false => have : ¬ j = i := by omega
                         simp [this])
            rw [hat] at hfnd
            simp only [Option.some.injEq] at hfnd
            subst hfnd
            have hsz : s < a.tmps.size := by
              have := hdst
              simp only [dstOk, hds] at this
              have := Nat.le_of_ble_eq_true this
              rw [mm.size]; exact this
            simp only [hds, Act.put]
            simpa [Array.getD, hsz] using hcv
          · have hcg : Env.find (E ++ envL (fun j => (S j || decide (j = i)) && !(ef.contains j)) l ds 0 L) s = Env.find (E ++ envL (fun j => S j && !(ef.contains j)) l ds 0 L) s := by
              rw [find_app, find_app]
              rw [find_congr l ds 0 L L (fun j o' hj hd' => ?_) rfl]
              simp only [Nat.zero_add]
              have : ¬ j = i := fun e => by subst e; rw [ho] at hj; simp only [Option.some.injEq] at hj; subst hj; exact hds hd'
              simp [this]
            rw [hcg] at hfnd
            have h1 := (henv s d' hfnd).mono hl
            have h2 : (a.put o.dst v).tmps.getD s undef = a.tmps.getD s undef := by
              cases hod : o.dst with
              | none => rfl
              | some q =>
                have hq : q ≠ s := fun e => hds (by rw [hod, e])
                simp [Act.put, Array.getD_eq_getD_getElem?, Array.getElem?_setIfInBounds, hq]
            rw [h2]
            exact h1
      -- what it needs of what is owned is as it was
      obtain ⟨msi, rest, hp, hst⟩ : ∃ msi rest, msx.Perm (msi ++ rest) ∧ Step P l o (envL (fun j => decide (j < i) && !(ef.contains j)) l ds 0 L) msi d := by
        cases hfi : fd.contains i with
        | true => exact ⟨msx, [], by simp, hfd msx hFD i o d hfi ho hd⟩
        | false =>
          rw [hfi] at hst
          simp only [Bool.not_false, Bool.and_true] at hst
          cases hfr : free.contains i with
          | true => rw [hfr] at hst; exact ⟨[], msx, List.Perm.refl _, hst⟩
          | false =>
            rw [hfr] at hst
            have hm00 : m = 0 := by
              rcases Nat.eq_zero_or_pos m with h | h
              · exact h
              · have h0 : 0 < ef.length := by omega
                have hS0 : S ef[0] = true := (hm 0 ef[0] (by simp [h0])).2 h
                have hif : i ∉ free := fun hh => by rw [List.contains_iff_mem.2 hh] at hfr; cases hfr
                have := hch.dep i hik hie hif ef[0] (by simp) S hc hS0
                rw [hunl] at this; cases this
            exact ⟨ms, [], by rw [hm0 hm00]; simp, hst⟩
      have hokp : HeapOk H (msi ++ (rest ++ (marks.map markA ++ Γ.fr))) w := hok.perm (by
        have := hp.append_right (marks.map markA ++ Γ.fr)
        simpa [List.append_assoc] using this)
      have back : ∀ {H' : PH} {w' : World}, HeapOk H' (msi ++ (rest ++ (marks.map markA ++ Γ.fr))) w' → HeapOk H' (msx ++ (marks.map markA ++ Γ.fr)) w' := fun h => h.perm (by
        have := hp.symm.append_right (marks.map markA ++ Γ.fr)
        simpa [List.append_assoc] using this)
      unfold Step at hst
      cases hg : o.guard with
      | none =>
        rw [hg] at hst
        simp only at hst
        simp only [Region.wanted, hg, if_true]
        refine hst Γ.round H (rest ++ (marks.map markA ++ Γ.fr)) a w hokp hsub _ _ ?_
        rintro v d2 ms' w' H' ⟨rfl, rfl⟩ hl hok' hcv hso
        exact nxt v w' H' hl (back hok') hcv hso
      | some q =>
        obtain ⟨j, want⟩ := q
        rw [hg] at hst
        simp only at hst
        obtain ⟨s, u, h1, h2, h3⟩ := hst
        have hss : s ∈ slotsOf l o := by simp [slotsOf, hg, h1]
        have hfnd : Env.find (E ++ envL (fun j => S j && !(ef.contains j)) l ds 0 L) s = some (.v u) := by rw [agree s hss]; exact h2
        rcases h3 with ⟨b, hu, h3⟩ | ⟨hu, h4⟩
        · subst hu
          have hy := yielded_of (ops := l.toArray) mm (j := j) (t := s) (b := b) (by simpa using h1) hfnd
          simp only [Region.wanted, hg, hy]
          rcases h3 with ⟨h3, h4⟩ | ⟨h3, h4⟩
          · have hbq : (some b == some want) = true := by rw [h3]; simp
            rw [if_pos hbq]
            refine h4 Γ.round H (rest ++ (marks.map markA ++ Γ.fr)) a w hokp hsub _ _ ?_
            rintro v d2 ms' w' H' ⟨rfl, rfl⟩ hl hok' hcv hso
            exact nxt v w' H' hl (back hok') hcv hso
          · have hbq : (some b == some want) = false := by rw [h3]; cases want <;> rfl
            rw [if_neg (by rw [hbq]; simp)]
            exact ⟨fun _ _ => trivial, nxt undef w H (PH.le_refl H) hok (by rw [h4]; exact conc_v.2 rfl) (SameOut.refl w)⟩
        · subst hu
          have hy := yielded_undef (ops := l.toArray) mm (j := j) (t := s) (by simpa using h1) hfnd
          simp only [Region.wanted, hg, hy]
          rw [if_neg (by cases want <;> simp)]
          exact ⟨fun _ _ => trivial, nxt undef w H (PH.le_refl H) hok (by rw [h4]; exact conc_v.2 rfl) (SameOut.refl w)⟩
end
section
variable {Γ : Ctx} {P : Program} {L : Env} {ms : List Asrt} {K : KT} {l : List Oper}
/-- The operations that change nothing, in the text's order; then the chain. -/
def GDE (Γ : Ctx) (P : Program) (ops : List Oper) (ms : List Asrt) (K : KT) (ef free fd : List Nat) : Nat → List Oper → Env → (List Asrt → Prop) → Prop
  | _, [], L, acc => GDE2 Γ P ops K acc L ef [] ms
  | i, o :: r, L, acc => if ef.contains i = true then GDE Γ P ops ms K ef free fd (i + 1) r L acc
    else ∃ d, dstOk o Γ.N ∧ Step P ops o L (if free.contains i && !(fd.contains i) then [] else ms) d ∧ GDE Γ P ops ms K ef free fd (i + 1) r (ext o d L) (if fd.contains i then fun msx => acc msx ∧ Step P ops o L msx d else acc)
theorem gde_list {ops : List Oper} {ef free fd : List Nat} : ∀ (r : List Oper) (i : Nat) (L : Env) (acc : List Asrt → Prop), acc ms → GDE Γ P ops ms K ef free fd i r L acc →
    ∃ (ds : List D) (FD : List Asrt → Prop), ds.length = r.length ∧
      (∀ j o d, r[j]? = some o → ds[j]? = some d → ef.contains (i + j) = false → dstOk o Γ.N ∧ Step P ops o (envL (fun q => decide (q < i + j) && !(ef.contains q)) r ds i L) (if free.contains (i + j) && !(fd.contains (i + j)) then [] else ms) d) ∧
      (∀ msx, FD msx → acc msx ∧ ∀ j o d, r[j]? = some o → ds[j]? = some d → ef.contains (i + j) = false → fd.contains (i + j) = true → Step P ops o (envL (fun q => decide (q < i + j) && !(ef.contains q)) r ds i L) msx d) ∧ FD ms ∧
      GDE2 Γ P ops K FD (envL (fun q => !(ef.contains q)) r ds i L) ef [] ms
  | [], i, L, acc, h0, h => ⟨[], acc, rfl, fun j o d hj => by simp at hj, fun msx hm => ⟨hm, fun j o d hj => by simp at hj⟩, h0, (show GDE2 Γ P ops K acc L ef [] ms from h)⟩
  | o :: r, i, L, acc, h0, h => by
    have hsh : ∀ j, i + (j + 1) = i + 1 + j := fun j => by omega
    unfold GDE at h
    cases hc : ef.contains i with
    | true =>
      rw [if_pos hc] at h
      obtain ⟨ds, FD, e1, e2, e4, e5, e3⟩ := gde_list r (i + 1) L acc h0 h
      have hS : ∀ m, (decide (i < m) && !(ef.contains i)) = false := fun m => by rw [hc]; simp
      refine ⟨.v undef :: ds, FD, by simp [e1], fun j o' d' hj hdj hcj => ?_, fun msx hm => ⟨(e4 msx hm).1, fun j o' d' hj hdj hcj hfj => ?_⟩, e5, ?_⟩
      · cases j with
        | zero => rw [Nat.add_zero] at hcj; rw [hc] at hcj; cases hcj
        | succ j =>
          simp only [List.getElem?_cons_succ] at hj hdj
          rw [hsh] at hcj ⊢
          simp only [envL, hS, Bool.false_eq_true, if_false]
          exact e2 j o' d' hj hdj hcj
      · cases j with
        | zero => rw [Nat.add_zero] at hcj; rw [hc] at hcj; cases hcj
        | succ j =>
          simp only [List.getElem?_cons_succ] at hj hdj
          rw [hsh] at hcj hfj ⊢
          simp only [envL, hS, Bool.false_eq_true, if_false]
          exact (e4 msx hm).2 j o' d' hj hdj hcj hfj
      · simp only [envL]
        rw [if_neg (by rw [hc]; simp)]
        exact e3
    | false =>
      rw [if_neg (by rw [hc]; simp)] at h
      obtain ⟨d, hdk, hst, hrest⟩ := h
      have h0' : (if fd.contains i then fun msx => acc msx ∧ Step P ops o L msx d else acc) ms := by
        cases hf : fd.contains i with
        | true => rw [hf] at hst; simp only [Bool.not_true, Bool.and_false, Bool.false_eq_true, if_false] at hst; exact ⟨h0, hst⟩
        | false => exact h0
      obtain ⟨ds, FD, e1, e2, e4, e5, e3⟩ := gde_list r (i + 1) (ext o d L) _ h0' hrest
      have hS : ∀ j, (decide (i < i + 1 + j) && !(ef.contains i)) = true := fun j => by rw [hc]; simp; omega
      have hL0 : envL (fun q => decide (q < i + 0) && !(ef.contains q)) (o :: r) (d :: ds) i L = L := by
        rw [Nat.add_zero, envL_none _ _ _ _ (fun q hq => by have : ¬ q < i := by omega
                                                            simp [this])]
      refine ⟨d :: ds, FD, by simp [e1], fun j o' d' hj hdj hcj => ?_, fun msx hm => ?_, e5, ?_⟩
      · cases j with
        | zero =>
          simp only [List.getElem?_cons_zero, Option.some.injEq] at hj hdj
          subst hj hdj
          exact ⟨hdk, by rw [hL0]; exact hst⟩
        | succ j =>
          simp only [List.getElem?_cons_succ] at hj hdj
          rw [hsh] at hcj ⊢
          simp only [envL, hS, if_true]
          exact e2 j o' d' hj hdj hcj
      · obtain ⟨hacc, hrest2⟩ := e4 msx hm
        have hacc' : acc msx := by
          cases hf : fd.contains i with
          | true => rw [hf] at hacc; exact hacc.1
          | false => rw [hf] at hacc; exact hacc
        refine ⟨hacc', fun j o' d' hj hdj hcj hfj => ?_⟩
        cases j with
        | zero =>
          simp only [List.getElem?_cons_zero, Option.some.injEq] at hj hdj
          subst hj hdj
          rw [hL0]
          rw [Nat.add_zero] at hfj
          rw [hfj] at hacc
          exact hacc.2
        | succ j =>
          simp only [List.getElem?_cons_succ] at hj hdj
          rw [hsh] at hcj hfj ⊢
          simp only [envL, hS, if_true]
          exact hrest2 j o' d' hj hdj hcj hfj
      · simp only [envL]
        rw [if_pos (by rw [hc]; rfl)]
        exact e3
/-- A region that draws its order: a chain ef of operations that change what is owned; those of free look at nothing that is owned. -/
theorem g_draw_c {id : Nat} (ef free fd : List Nat) (hm : P.follows .mixedOrders = true) (hf : flowB l l.length = true) (hch : chainB l ef free = true) (hfe : fd.all (fun i => !(ef.contains i)) = true) (h : GDE Γ P l ms K ef free fd 0 l L (fun _ => True)) : G Γ P (.region id l.toArray true) L ms K := by
  intro a w m
  refine wpIn_region_draw fun t => ?_
  simp only [Region.schedule, hm, Bool.true_or, if_true]
  have hfo := flow_ok hf
  obtain ⟨ds, FD, e1, e2, e4, e5, e3⟩ := gde_list _ _ _ _ trivial h
  simp only [Nat.zero_add] at e2 e4
  refine draw_chain (L := L) (ms := ms) (fd := fd) hfo (chain_ok hch) ds e1 ?_ (fun msx hm i o d hfi ho hd => (e4 msx hm).2 i o d ho hd (by
    have := List.all_eq_true.1 hfe i (List.contains_iff_mem.1 hfi)
    simpa using this) hfi) e5 e3 l.toArray.size (Array.replicate l.toArray.size false) t a { w with drawn := w.drawn + 1 } (by simp) ?_ ?_ ?_ ?_
  · intro i o d hie ho hd
    exact e2 i o d ho hd (contains_f hie)
  · intro j o hj hS
    simp [Array.getD] at hS
  · intro i _; simp [Array.getD]
  · have := List.length_filter_le (fun i => !(Array.replicate l.toArray.size false).getD i false) (List.range l.length)
    simpa using this
  · have hz : ∀ j, (Array.replicate l.toArray.size false).getD j false = false := fun j => by simp [Array.getD]
    refine ⟨0, [], ms, Nat.zero_le _, fun q e he => by rw [hz]; simp, by simpa using e3, fun t d ht => by simp [Env.find] at ht, fun _ => rfl, e5, ?_⟩
    rw [List.nil_append, envL_none _ _ _ _ (fun q _ => by rw [hz]; rfl)]
    obtain ⟨H, marks, hle, hok, henv, hdf⟩ := m.ex
    exact ⟨⟨H, marks, hle, hok.drew _, henv, hdf⟩, m.size, ⟨m.same.os, m.same.output, m.same.tape, m.same.size⟩⟩
theorem gde_e {ops r : List Oper} {ef free fd : List Nat} {acc : List Asrt → Prop} {n : Nat} {o : Oper} (hc : ef.contains n = true) (k : GDE Γ P ops ms K ef free fd (n + 1) r L acc) : GDE Γ P ops ms K ef free fd n (o :: r) L acc := by
  unfold GDE; rw [if_pos hc]; exact k
theorem gde_p {ops r : List Oper} {ef free fd : List Nat} {acc : List Asrt → Prop} {n : Nat} {o : Oper} {d : D} {i : Nat} {msi : List Asrt} (hc : ef.contains n = false) (hnf : fd.contains n = false) (hms : (if free.contains n then [] else ms) = msi) (hg : o.guard = none) (hd : o.dst = some i) (hi : Nat.blt i Γ.N = true) (h : OpP P o (Env.only (slotsOf ops o) L) msi d) (k : GDE Γ P ops ms K ef free fd (n + 1) r ((i, d) :: L) acc) : GDE Γ P ops ms K ef free fd n (o :: r) L acc := by
  unfold GDE
  rw [if_neg (by rw [hc]; simp), hnf]
  simp only [Bool.not_false, Bool.and_true, Bool.false_eq_true, if_false]
  rw [hms]
  refine ⟨d, by simp only [dstOk, hd]; exact hi, by simp only [Step, hg]; exact h, ?_⟩
  simp only [ext, hd]; exact k
theorem gde_f {ops r : List Oper} {ef free fd : List Nat} {acc : List Asrt → Prop} {n : Nat} {o : Oper} {d : D} {i : Nat} (hc : ef.contains n = false) (hnf : fd.contains n = true) (hg : o.guard = none) (hd : o.dst = some i) (hi : Nat.blt i Γ.N = true) (h : OpP P o (Env.only (slotsOf ops o) L) ms d) (k : GDE Γ P ops ms K ef free fd (n + 1) r ((i, d) :: L) (fun msx => acc msx ∧ OpP P o (Env.only (slotsOf ops o) L) msx d)) : GDE Γ P ops ms K ef free fd n (o :: r) L acc := by
  unfold GDE
  rw [if_neg (by rw [hc]; simp), hnf]
  simp only [Bool.not_true, Bool.and_false, Bool.false_eq_true, if_false, if_true]
  have hs : ∀ m, Step P ops o L m d = OpP P o (Env.only (slotsOf ops o) L) m d := fun m => by simp only [Step, hg]
  refine ⟨d, by simp only [dstOk, hd]; exact hi, by rw [hs]; exact h, ?_⟩
  simp only [hs]
  simp only [ext, hd]; exact k
theorem gde_nil {ops : List Oper} {ef free fd : List Nat} {acc : List Asrt → Prop} {n : Nat} (h : GDE2 Γ P ops K acc L ef [] ms) : GDE Γ P ops ms K ef free fd n [] L acc := h
theorem gde2_u {ops : List Oper} {FD : List Asrt → Prop} {E : Env} {msx : List Asrt} {e : Nat} {es : List Nat} {o : Oper} {R : D → List Asrt → Prop} (ho : ops[e]? = some o) (hg : o.guard = none) (hd : o.dst = none) (h : OpT P o (Env.only (slotsOf ops o) (E ++ L)) msx R) (k : ∀ d ms', R d ms' → FD ms' ∧ GDE2 Γ P ops K FD L es E ms') : GDE2 Γ P ops K FD L (e :: es) E msx := by
  intro o' ho'
  have : o' = o := by rw [ho] at ho'; exact (Option.some.inj ho').symm
  subst this
  refine ⟨by simp only [dstOk, hd], ?_⟩
  unfold GStep
  rw [hg]
  refine ⟨R, h, fun d ms' hR => ?_⟩
  have := k d ms' hR
  simpa [extE, hd] using this
theorem gde2_nil {ops : List Oper} {FD : List Asrt → Prop} {E : Env} {msx : List Asrt} (h : K .normal (E ++ L) msx) : GDE2 Γ P ops K FD L [] E msx := h
end
section
variable {P : Program} {L : Env} {ms : List Asrt} {dst : Option Nat} {ty : TypeId} {pos : String} {after : Array Edge} {g : Option (Nat × Bool)} {x : Operand} {t : TypeId}
end
end Go.V
set_option linter.unusedVariables false
set_option linter.unusedSimpArgs false
namespace Go.V
theorem go_ms {Γ : Ctx} {P : Program} {L : Env} {ms ms' : List Asrt} {K : KT} {ops : Array Oper} {r : List Oper} (h : ms = ms') (k : GO Γ P ops r L ms' K) : GO Γ P ops r L ms K := by subst h; exact k
end Go.V
set_option linter.unusedVariables false
set_option linter.unusedSimpArgs false
namespace Go.V
section
variable {Γ : Ctx} {P : Program} {L : Env} {ms : List Asrt} {K : KT}
/-- A loop whose rounds are a model's; what the model answers hangs on what is hidden. -/
theorem g_loop_y {c : Code} {S Hid O : Type} {φ : Nat → S → Option O} {n0 : Nat} {st0 : S} {o0' : O} (oo : Hid → O) (L1 : Env) (F : List (Nat × Asrt)) (mod : S → Hid → Env) (own : List (Nat × Asrt) → S → Hid → List Asrt) (hid0 : Hid) (hm : φ n0 st0 = some o0') (ho : oo hid0 = o0') (hz : ∀ st, φ 0 st = none)
    (hs : SubEnv L1 L) (hF : FixOk ms F) (r0 : SubEnv (mod st0 hid0) L) (o0 : own F st0 hid0 = ms)
    (round : ∀ n st hid, φ (n + 1) st = some (oo hid) → G Γ P c (mod st hid ++ L1) (own F st hid) (KT.then (fun L' ms' => ∃ st' hid', φ n st' = some (oo hid') ∧ SubEnv (mod st' hid') L' ∧ SubEnv L1 L' ∧ ∃ junk, ms' = junk ++ own F st' hid') K)) : G Γ P (.loop c) L ms K := by
  subst ho
  refine g_loop_k L1 (fun (s : Nat × S × Hid) => φ s.1 s.2.1 = some (oo s.2.2)) (fun s => mod s.2.1 s.2.2) (fun s => own F s.2.1 s.2.2) (fun s => s.1) (n0, st0, hid0) hm hs r0 o0 ?_
  rintro ⟨n, st, hid⟩ hI
  cases n with
  | zero => exact absurd (hI.symm.trans (hz st)) (by simp)
  | succ n =>
    refine g_mono (round n st hid hI) ?_
    intro e L' ms' k
    cases e with
    | normal =>
      obtain ⟨st', hid', h1, h2, h3, h4⟩ := k
      exact ⟨(n, st', hid'), h1, Nat.lt_succ_self n, h2, h3, h4⟩
    | _ => exact k
theorem yield_at {α : Type} {x : α} {ys xs : List α} {k : Nat} (h : some (x :: ys) = some (xs.drop k)) : xs[k]? = some x ∧ k + 1 ≤ xs.length ∧ xs.drop (k + 1) = ys := by
  have h := (Option.some.inj h).symm
  have hl : k < xs.length := by
    have := congrArg List.length h
    simp at this; omega
  exact ⟨by have := congrArg (·[0]?) h; simpa using this, hl, by have := congrArg (·.drop 1) h; simpa [Nat.add_comm] using this⟩
theorem yield_end {α : Type} {xs : List α} {k : Nat} {J : Nat → List Asrt → Prop} {tl : List Asrt} (h : some ([] : List α) = some (xs.drop k)) (hk : k ≤ xs.length) (hJ : J k tl) {β : Type _} (e : α → β) : J (xs.map e).length tl := by
  have h := (Option.some.inj h).symm
  have : xs.length ≤ k := by simpa using h
  have : k = xs.length := by omega
  subst this; rw [List.length_map]; exact hJ
theorem map_at {α : Type _} {β : Type _} {e : α → β} {xs : List α} {k : Nat} {x : α} (h : xs[k]? = some x) : (xs.map e)[k]? = some (e x) := by rw [List.getElem?_map, h]; rfl
end
section
variable {P : Program} {L : Env} {dst : Option Nat} {ty : TypeId} {pos : String} {after : Array Edge} {g : Option (Nat × Bool)} {x : Operand}
/-- A call of yield: what is one's own stays, the consumer's part turns. -/
theorem o_yield {args : List Operand} {ats : Array TypeId} {ds : List D} {y : D} (own tl : List Asrt) {J : Nat → List Asrt → Prop} {Jx : List Asrt → Prop} {k : Nat} (hx : Env.ev L x = some y) (hev : evL L args = some ds)
    (hf : FV P y ds tl (fun r ms' => (r = .bool true ∧ J (k + 1) ms') ∨ (r = .bool false ∧ Jx ms'))) :
    OpT P ⟨dst, .call ⟨.value x, args.toArray, ats⟩, ty, pos, after, g⟩ L (own ++ tl) (fun d ms' => ∃ b tl', d = .bool b ∧ ms' = own ++ tl' ∧ (b = true → J (k + 1) tl') ∧ (b = false → Jx tl')) := by
  have := o_callv (P := P) (L := L) (ms := own ++ tl) (dst := dst) (ty := ty) (pos := pos) (after := after) (g := g) (ats := ats) (ms₁ := tl) (rest := own) hx hev List.perm_append_comm hf
  intro ro H fr a w hok henv next Q hn
  refine this ro H fr a w hok henv next Q ?_
  rintro v d ms' w' H' ⟨ms₁', hR, rfl⟩ hle hok' hc' hs
  have hp : HeapOk H' ((own ++ ms₁') ++ fr) w' := hok'.perm ((List.perm_append_comm).append_right fr)
  rcases hR with ⟨rfl, h⟩ | ⟨rfl, h⟩
  · exact hn v _ _ w' H' ⟨true, ms₁', rfl, rfl, fun _ => h, fun e => by cases e⟩ hle hp hc' hs
  · exact hn v _ _ w' H' ⟨false, ms₁', rfl, rfl, (fun e => by cases e), fun _ => h⟩ hle hp hc' hs
end
section
variable {Γ : Ctx} {P : Program} {L : Env} {ms : List Asrt} {K : KT}
/-- A range over a function whose rounds are a model's. -/
theorem g_range_m {g : Operand} {ps : List Nat} {assign body : Code} {gf : FuncId} {caps : List D} {X S Hid O : Type} {φ : List X → S → Option O} {xs : List X} {st0 : S} {o : O} (e : X → List D) (F : List (Nat × Asrt)) (own : List (Nat × Asrt) → S → Hid → List Asrt) (hid0 : Hid) (hm : φ xs st0 = some o)
    (hF : FixOk ms F) (o0 : own F st0 hid0 = ms) (hg : Env.ev L g = some (.clo (.func gf) [] caps)) (hc : ∀ args w, (callFunc gf args).run P w = .ok (.enter gf args) w) (hit : Iter P gf caps (xs.map e))
    (hlen : ∀ x, (e x).length = ps.length) (hps : ps.all (fun p => Nat.blt p Γ.N) = true)
    (round : ∀ (H0 : PH) (fr : List Asrt) (ro : Option Nat) (w0 : World) hr (x : X) (r : List X) (st : S) (hid : Hid), φ (x :: r) st = some o →
      G ⟨H0, fr, Γ.N, ro, w0, hr⟩ P assign (bindPs ps (e x) L) (own F st hid) (KT.then (fun L' ms'' => ∀ (H0 : PH) (fr : List Asrt) (ro : Option Nat) (w0 : World) hr, G ⟨H0, fr, Γ.N, ro, w0, hr⟩ P body L' ms'' (fun e _ ms3 => match e with | .normal => (∃ st' hid', φ r st' = some o ∧ ∃ junk, ms3 = junk ++ own F st' hid') | .ret => K .ret L ms3 | .exit id => K (.exit id) L ms3 | _ => False)) (fun _ _ _ => False)))
    (hdone : ∀ st hid, φ [] st = some o → K .normal L (own F st hid)) : G Γ P (.rangeFunc g ps.toArray assign body) L ms K := by
  refine g_range (xs.map e) (fun k ms' => k ≤ xs.length ∧ ∃ st hid, φ (xs.drop k) st = some o ∧ ms' = own F st hid) hg hc hit ⟨Nat.zero_le _, st0, hid0, by simpa using hm, o0.symm⟩ (by intro ds hds; obtain ⟨x, _, rfl⟩ := List.mem_map.1 hds; exact hlen x) hps ?_ ?_
  · rintro H0 fr ro w0 hr k ds ms' hx ⟨hk, st, hid, h1, h2⟩
    subst h2
    rw [List.getElem?_map] at hx
    obtain ⟨x, hx1, rfl⟩ := Option.map_eq_some_iff.1 hx
    obtain ⟨hlt, hx2⟩ := List.getElem?_eq_some_iff.1 hx1
    have hd : xs.drop k = x :: xs.drop (k + 1) := by rw [← hx2]; exact (List.getElem_cons_drop ..).symm
    rw [hd] at h1
    refine g_mono (round H0 fr ro w0 hr x _ st hid h1) ?_
    intro e' L' ms'' k'
    cases e' with
    | normal =>
      intro H0' fr' ro' w0' hr'
      refine g_mono (k' H0' fr' ro' w0' hr') ?_
      intro e2 L3 ms3 k3
      cases e2 with
      | normal =>
        obtain ⟨st', hid', a, junk, rfl⟩ := k3
        exact ⟨junk, _, rfl, hlt, st', hid', a, rfl⟩
      | _ => exact k3
    | _ => exact k'
  · rintro ms' ⟨_, st, hid, h1, h2⟩
    subst h2
    exact hdone st hid (by simpa using h1)
end
end Go.V
set_option linter.unusedVariables false
set_option linter.unusedSimpArgs false
namespace Go.V
section
variable {α β S O R : Type}
open Classical in
/-- A loop that ends at the first that is not so. -/
theorem loop_all {l : List α} {φ : Nat → Int → Option (Out R Unit)} (r : R) (q : Nat → α → Prop)
    (step : ∀ n (i : Nat) x, l[i]? = some x → i < l.length → (q i x → φ (n + 1) (i : Int) = φ n ((i : Int) + 1)) ∧ (¬ q i x → φ (n + 1) (i : Int) = some (.ret r)))
    (stop : ∀ n, φ (n + 1) (l.length : Int) = some (.go ())) (hl : l.length < FU) :
    φ FU 0 = some (if (∀ i x, l[i]? = some x → q i x) then .go () else .ret r) := by
  have key : ∀ n (i : Nat), i ≤ l.length → l.length - i < n → φ n (i : Int) = some (if (∀ j x, i ≤ j → l[j]? = some x → q j x) then .go () else .ret r) := by
    intro n
    induction n with
    | zero => intro i _ h; omega
    | succ n ih =>
      intro i hi hn
      by_cases h : i = l.length
      · subst h
        rw [stop, if_pos]
        intro j x hj hx
        have := (List.getElem?_eq_some_iff.1 hx).1
        omega
      · have hi' : i < l.length := by omega
        have hx : l[i]? = some l[i] := List.getElem?_eq_getElem hi'
        obtain ⟨h1, h2⟩ := step n i l[i] hx hi'
        by_cases hq : q i l[i]
        · rw [h1 hq]
          have := ih (i + 1) (by omega) (by omega)
          rw [show ((i : Int) + 1) = ((i + 1 : Nat) : Int) by simp, this]
          congr 2
          apply propext
          constructor
          · intro h3 j x hj hx2
            by_cases hji : j = i
            · subst hji
              rw [hx] at hx2
              exact Option.some.inj hx2 ▸ hq
            · exact h3 j x (by omega) hx2
          · intro h3 j x hj hx2
            exact h3 j x (by omega) hx2
        · rw [h2 hq, if_neg]
          intro h3
          exact hq (h3 i _ (Nat.le_refl _) hx)
  have := key FU 0 (by omega) (by omega)
  rw [show ((0 : Nat) : Int) = 0 from rfl] at this
  rw [this]
  congr 2
  apply propext
  exact ⟨fun h j x hx => h j x (Nat.zero_le _) hx, fun h j x _ hx => h j x hx⟩
open Classical in
/-- A loop that ends at the first that is so. -/
theorem loop_any {l : List α} {φ : Nat → Int → Option (Out R Unit)} (r : R) (q : Nat → α → Prop)
    (step : ∀ n (i : Nat) x, l[i]? = some x → i < l.length → (¬ q i x → φ (n + 1) (i : Int) = φ n ((i : Int) + 1)) ∧ (q i x → φ (n + 1) (i : Int) = some (.ret r)))
    (stop : ∀ n, φ (n + 1) (l.length : Int) = some (.go ())) (hl : l.length < FU) :
    φ FU 0 = some (if (∃ i x, l[i]? = some x ∧ q i x) then .ret r else .go ()) := by
  have := loop_all (φ := φ) r (fun i x => ¬ q i x) (fun n i x hx hi => ⟨(step n i x hx hi).1, fun h => (step n i x hx hi).2 (Classical.not_not.1 h)⟩) stop hl
  rw [this]
  by_cases h : ∃ i x, l[i]? = some x ∧ q i x
  · rw [if_pos h, if_neg]
    obtain ⟨i, x, h1, h2⟩ := h
    exact fun h3 => h3 i x h1 h2
  · rw [if_neg h, if_pos]
    intro i x h1 h2
    exact h ⟨i, x, h1, h2⟩
/-- A loop that finds the first place. -/
theorem loop_find {l : List α} {φ : Nat → Int → Option (Out R Unit)} (r : Nat → R) (q : α → Bool)
    (step : ∀ n (i : Nat) x, l[i]? = some x → i < l.length → (q x = false → φ (n + 1) (i : Int) = φ n ((i : Int) + 1)) ∧ (q x = true → φ (n + 1) (i : Int) = some (.ret (r i))))
    (stop : ∀ n, φ (n + 1) (l.length : Int) = some (.go ())) (hl : l.length < FU) :
    φ FU 0 = some (match l.findIdx? q with | some i => .ret (r i) | none => .go ()) := by
  have key : ∀ n (i : Nat) t, l.drop i = t → i ≤ l.length → l.length - i < n → φ n (i : Int) = some (match t.findIdx? q with | some k => .ret (r (i + k)) | none => .go ()) := by
    intro n
    induction n with
    | zero => intro i t _ _ h; omega
    | succ n ih =>
      intro i t ht hi hn
      rcases t with _ | ⟨x, t⟩
      · have := drop_len ht hi
        simp only [List.length_nil] at this
        rw [show i = l.length by omega, stop]
        rfl
      · have hL := drop_len ht hi
        simp only [List.length_cons] at hL
        have hx : l[i]? = some x := by
          have := congrArg (·[0]?) ht
          simpa [List.getElem?_drop] using this
        obtain ⟨h1, h2⟩ := step n i x hx (by omega)
        cases hq : q x with
        | true => rw [h2 hq, List.findIdx?_cons, hq]; rfl
        | false =>
          rw [h1 hq, List.findIdx?_cons, hq]
          have := ih (i + 1) t (drop_c ht) (by omega) (by omega)
          rw [show ((i : Int) + 1) = ((i + 1 : Nat) : Int) by simp, this]
          cases t.findIdx? q with
          | none => rfl
          | some k => simp [Nat.add_comm, Nat.add_left_comm]
  have := key FU 0 l rfl (by omega) (by omega)
  rw [show ((0 : Nat) : Int) = 0 from rfl] at this
  rw [this]
  cases l.findIdx? q <;> simp
theorem getI {l : List α} {i : Nat} {x : α} (h : l[i]? = some x) : idx l (i : Int) = some x := by rw [idx_nat, h]
/-- A loop that goes on while it is so. -/
theorem loop_while {l : List α} {φ : Nat → Int → Option O} (q : α → Bool) (fin : Nat → O)
    (step : ∀ n (i : Nat) x, l[i]? = some x → i < l.length → (q x = true → φ (n + 1) (i : Int) = φ n ((i : Int) + 1)) ∧ (q x = false → φ (n + 1) (i : Int) = some (fin i)))
    (stop : ∀ n, φ (n + 1) (l.length : Int) = some (fin l.length)) : ∀ n (i : Nat), i ≤ l.length → l.length - i < n → φ n (i : Int) = some (fin (i + ((l.drop i).takeWhile q).length)) := by
  have key : ∀ n (i : Nat) t, l.drop i = t → i ≤ l.length → l.length - i < n → φ n (i : Int) = some (fin (i + (t.takeWhile q).length)) := by
    intro n
    induction n with
    | zero => intro i t _ _ h; omega
    | succ n ih =>
      intro i t ht hi hn
      rcases t with _ | ⟨x, t⟩
      · have := drop_len ht hi
        simp only [List.length_nil] at this
        rw [show i = l.length by omega, stop]
        rfl
      · have hL := drop_len ht hi
        simp only [List.length_cons] at hL
        have hx : l[i]? = some x := by
          have := congrArg (·[0]?) ht
          simpa [List.getElem?_drop] using this
        obtain ⟨h1, h2⟩ := step n i x hx (by omega)
        cases hq : q x with
        | false => rw [h2 hq, List.takeWhile_cons, hq]; rfl
        | true =>
          have := ih (i + 1) t (drop_c ht) (by omega) (by omega)
          rw [h1 hq, List.takeWhile_cons, hq, show ((i : Int) + 1) = ((i + 1 : Nat) : Int) by simp, this]
          congr 2
          simp only [if_true, List.length_cons]
          omega
  intro n i hi hn
  exact key n i _ rfl hi hn
end
end Go.V
set_option linter.unusedVariables false
set_option linter.unusedSimpArgs false
namespace Go.V
section
variable {nx : Int → List Int} {N : Nat}
end
section
variable {α β S O R : Type}
/-- A loop along a list. -/
theorem loop_rng {l : List α} {φ : Nat → Int → S → Option O} (I : Nat → S → Prop) (Post : O → Prop)
    (step : ∀ n (i : Nat) x s, l[i]? = some x → i < l.length → I i s → (∃ s', φ (n + 1) (i : Int) s = φ n ((i : Int) + 1) s' ∧ I (i + 1) s') ∨ (∃ o, φ (n + 1) (i : Int) s = some o ∧ Post o))
    (stop : ∀ n s, I l.length s → ∃ o, φ (n + 1) (l.length : Int) s = some o ∧ Post o) (hl : l.length < FU) : ∀ s, I 0 s → ∃ o, φ FU 0 s = some o ∧ Post o := by
  have key : ∀ n (i : Nat) s, i ≤ l.length → l.length - i < n → I i s → ∃ o, φ n (i : Int) s = some o ∧ Post o := by
    intro n
    induction n with
    | zero => intro i s _ h; omega
    | succ n ih =>
      intro i s hi hn hI
      by_cases h : i = l.length
      · subst h; exact stop n s hI
      · have hi' : i < l.length := by omega
        rcases step n i l[i] s (List.getElem?_eq_getElem hi') hi' hI with ⟨s', h1, h2⟩ | ⟨o, h1, h2⟩
        · obtain ⟨o, h3, h4⟩ := ih (i + 1) s' (by omega) (by omega) h2
          exact ⟨o, by rw [h1]; exact h3, h4⟩
        · exact ⟨o, h1, h2⟩
  intro s hI
  exact key FU 0 s (by omega) (by omega) hI
end
end Go.V
set_option linter.unusedVariables false
set_option linter.unusedSimpArgs false
namespace Go.V
/-- A text that is gone through: the place. -/
def sit (b : Nat) (s : List UInt8) (p : Nat) : Asrt where
  blocks := [b]
  ok := fun H h => h b = some (.stringIter ⟨s.toArray⟩ p) ∧ ∀ o, H b o = none
  stable := by
    rintro H H' h h' e hle ⟨h1, h2⟩
    have := e b (by simp)
    exact ⟨by rw [this.2]; exact h1, fun o => by rw [this.1]; exact h2 o⟩
def runeAt (s : List UInt8) (p : Nat) : Int := ((Utf8.decode ⟨s.toArray⟩ p).1 : Int)
def nextPos (s : List UInt8) (p : Nat) : Nat := if p < s.length then p + (Utf8.decode ⟨s.toArray⟩ p).2 else p
def nextD (s : List UInt8) (p : Nat) : D := if p < s.length then .tup [.bool true, .i64 p, .v (.int .i32 (runeAt s p))] else .tup [.bool false]
section
variable {P : Program} {L : Env} {ms : List Asrt} {dst : Option Nat} {ty : TypeId} {pos : String} {after : Array Edge} {g : Option (Nat × Bool)} {d d' : D} {x y : Operand} {t t' : TypeId}
theorem o_range_str {s : List UInt8} (hu : P.underlying t = some .string) (hx : Env.ev L x = some (.str s)) :
    OpT P ⟨dst, .range t x, ty, pos, after, g⟩ L ms (fun d ms' => ∃ b, d = .v (.pointer (some ⟨b, 0, none⟩)) ∧ ms' = sit b s 0 :: ms) := by
  refine .val (by simp) fun H fr a w hok henv => ?_
  refine ⟨.pointer (some ⟨w.heap.size, 0, none⟩), _, _, w.alloc (.stringIter ⟨s.toArray⟩ 0), H, ?_, ⟨w.heap.size, rfl, rfl⟩, PH.le_refl H, ?_, conc_v.2 rfl, sameOut_alloc _ _⟩
  · simp only [execOp, ev_v henv hx, Sem.run_bind, run_range_string w t _ hu, Result.andThen_ok, Sem.run_pure]; rfl
  · exact hok.own (A := sit w.heap.size s 0) rfl ⟨heap_alloc_new _ _, fun o => hok.none_new _ _ (Nat.le_refl _)⟩
theorem o_next_str {b p : Nat} {s : List UInt8} (k : Nat) (hx : Env.ev L x = some (.v (.pointer (some ⟨b, 0, none⟩)))) (hk : ms[k]? = some (sit b s p)) :
    OpT P ⟨dst, .next x true, ty, pos, after, g⟩ L ms (fun d ms' => d = nextD s p ∧ ms' = ms.set k (sit b s (nextPos s p))) := by
  refine .val (by simp) fun H fr a w hok henv => ?_
  have hok1 := hok.perm (perm_fr hk)
  obtain ⟨ho, hn⟩ := hok1.ok _ (List.mem_cons_self ..)
  have hsz : (⟨s.toArray⟩ : ByteArray).size = s.length := by simp [ByteArray.size]
  by_cases hp : p < s.length
  · refine ⟨.tuple #[.bool true, .int .i64 p, .int .i32 (runeAt s p)], nextD s p, _, { w with heap := w.heap.setIfInBounds b (.stringIter ⟨s.toArray⟩ (nextPos s p)) }, H, ?_, ⟨rfl, rfl⟩, PH.le_refl H, ?_, ?_, ⟨rfl, rfl, rfl, by simp⟩⟩
    · simp only [nextPos, if_pos hp, runeAt]
      simp only [execOp, ev_v henv hx, Instr.next, getObj, setObj, Sem.run_bind, Sem.run, ho, Result.andThen]
      simp [hsz, hp, goInt, Sem.run, ho]
    · refine HeapOk.perm (perm_fr' hk) ?_
      refine hok1.upd rfl (by simp) ?_ (fun _ _ _ _ => rfl) (PH.le_refl H) ?_ ?_
      · intro b' _ hn'
        have : b ≠ b' := fun e => hn' (by simp [sit, e])
        simp [Array.getElem?_setIfInBounds_ne this]
      · intro b' o v hb' hv'
        rcases hb' with hb' | hb'
        · simp [sit] at hb'; subst hb'; rw [hn] at hv'; cases hv'
        · rw [hok1.none_new _ _ hb'] at hv'; cases hv'
      · refine ⟨?_, hn⟩
        have hlt : b < w.heap.size := hok1.lt _ (List.mem_cons_self ..) b (by simp [sit])
        simp [hlt]
    · rw [conc_enc (by unfold nextD; rw [if_pos hp]; rfl)]
      unfold nextD
      rw [if_pos hp]
      simp only [Enc]
      refine ⟨[.bool true, .int .i64 p, .int .i32 (runeAt s p)], rfl, ?_⟩
      simp only [ConcL]
      exact ⟨_, _, rfl, conc_v.2 rfl, _, _, rfl, conc_v.2 rfl, _, _, rfl, conc_v.2 rfl, rfl⟩
  · refine ⟨.tuple #[.bool false], nextD s p, _, w, H, ?_, ⟨rfl, rfl⟩, PH.le_refl H, ?_, ?_, SameOut.refl w⟩
    · simp only [execOp, ev_v henv hx, Instr.next, getObj, setObj, Sem.run_bind, Sem.run, ho, Result.andThen]
      simp [hsz, hp, goInt, Sem.run, ho]
    · have : nextPos s p = p := by unfold nextPos; rw [if_neg hp]
      rw [this]
      have : ms.set k (sit b s p) = ms := by
        apply List.ext_getElem?
        intro i
        by_cases hi : k = i
        · subst hi; rw [List.getElem?_set_self (List.getElem?_eq_some_iff.1 hk).1, hk]
        · rw [List.getElem?_set_ne hi]
      rw [this]; exact hok
    · rw [conc_enc (by unfold nextD; rw [if_neg hp]; rfl)]
      unfold nextD
      rw [if_neg hp]
      simp only [Enc]
      refine ⟨[.bool false], rfl, ?_⟩
      simp only [ConcL]
      exact ⟨_, _, rfl, conc_v.2 rfl, rfl⟩
theorem o_next0 {s : List UInt8} {p : Nat} (hx : Env.ev L x = some (nextD s p)) : OpP P ⟨dst, .extract x 0, ty, pos, after, g⟩ L ms (.bool (decide (p < s.length))) := by
  by_cases hp : p < s.length
  · rw [decide_eq_true hp]
    unfold nextD at hx
    rw [if_pos hp] at hx
    exact o_extract hx rfl
  · rw [decide_eq_false hp]
    unfold nextD at hx
    rw [if_neg hp] at hx
    exact o_extract hx rfl
theorem o_next2 {s : List UInt8} {p : Nat} (hx : Env.ev L x = some (nextD s p)) (hp : decide (p < s.length) = true) : OpP P ⟨dst, .extract x 2, ty, pos, after, g⟩ L ms (.v (.int .i32 (runeAt s p))) := by
  unfold nextD at hx
  rw [if_pos (of_decide_eq_true hp)] at hx
  exact o_extract hx rfl
end
section
variable {P : Program} {L : Env} {ms : List Asrt} {o : Oper}
theorem OpT.own {msA msB : List Asrt} (h : OpT P o L ms (fun _ ms' => ms' = msA)) (hc : ∀ (H : PH) (fr : List Asrt) (w : World), HeapOk H (msA ++ fr) w → HeapOk H (msB ++ fr) w) : OpT P o L ms (fun _ ms' => ms' = msB) := by
  intro ro H fr a w hok henv next Q hn
  refine h ro H fr a w hok henv next Q ?_
  rintro v d ms' w' H' rfl hle hok' hc' hs
  exact hn v d _ w' H' rfl hle (hc H' fr w' hok') hc' hs
theorem heap_cell {b : Nat} {T : TypeId} {cs cs' : List D} {d d' : D} (k q : Nat) (hk : ms[k]? = some (box b T cs)) (hq : cs[q]? = some d) (h : ∀ H us, Enc H d us → Enc H d' us) {ms' : List Asrt} (hcs : cs.set q d' = cs') (hms : ms.set k (box b T cs') = ms') :
    ∀ (H : PH) (fr : List Asrt) (w : World), HeapOk H (ms ++ fr) w → HeapOk H (ms' ++ fr) w := by
  subst hms hcs
  intro H fr w hok
  have hok1 := hok.perm (perm_fr hk)
  obtain ⟨vs, h1, h2, h3⟩ := hok1.ok _ (List.mem_cons_self ..)
  have hup : HeapOk H (box b T (cs.set q d') :: (ms.eraseIdx k ++ fr)) w :=
    hok1.upd rfl (Nat.le_refl _) (fun _ _ _ => rfl) (fun _ _ _ _ => rfl) (PH.le_refl H) (fun b o v _ hv => hok1.sub b o v hv) ⟨vs, h1, encL_set cs vs q d d' h2 hq (h H), h3⟩
  exact hup.perm (perm_fr' hk)
end
section
variable {L : Env} {ms : List Asrt}
/-- A box's cell with a slice of one's own: told as a list. -/
theorem refines_cellrow {b : Nat} {T T2 : TypeId} {cs cs' : List D} {a : Option Addr} {cap n : Nat} {sz : Nat} {α : Type} {f : α → D} {xs : List α} (k q k2 : Nat) (hk : ms[k]? = some (box b T cs)) (hq : cs[q]? = some (.v (.slice a n cap))) (hk2 : ms[k2]? = some (row a cap T2 sz f xs)) (hn : xs.length = n) {ms' : List Asrt} (hcs : cs.set q (.list sz f xs) = cs') (hms : ms.set k (box b T cs') = ms') : Refines L ms L ms' := by
  subst hms hcs hn
  intro Γ act w m
  obtain ⟨H, marks, hle, hok, henv, hdf⟩ := m.ex
  have he := row_enc (T := T2) hok (List.mem_append_left _ (List.mem_of_getElem? hk2))
  have hok1 := hok.perm (perm_fr hk)
  obtain ⟨vs, h1, h2, h3⟩ := hok1.ok _ (List.mem_cons_self ..)
  have hup : HeapOk H (box b T (cs.set q (.list sz f xs)) :: (ms.eraseIdx k ++ (marks.map markA ++ Γ.fr))) w :=
    hok1.upd rfl (Nat.le_refl _) (fun _ _ _ => rfl) (fun _ _ _ _ => rfl) (PH.le_refl H) (fun b o v _ hv => hok1.sub b o v hv) ⟨vs, h1, encL_set cs vs q _ _ h2 hq he, h3⟩
  exact ⟨⟨H, marks, hle, hup.perm (perm_fr' hk), henv, hdf⟩, m.size, m.same⟩
end
end Go.V
set_option linter.unusedVariables false
set_option linter.unusedSimpArgs false
namespace Go.V
open Go.Lib (indexByte firstIdx_eq)
theorem idxB_nat (c : UInt8) : ∀ t : List UInt8, indexByte t c = if c ∈ t then ((t.takeWhile (fun x => !decide (x = c))).length : Int) else -1
  | [] => rfl
  | b :: t => by
    rw [indexByte, idxB_nat c t]
    by_cases hb : b = c
    · subst hb
      rw [if_pos (by simp), if_pos (by simp), List.takeWhile_cons]
      simp
    · have hb2 : ¬ c = b := fun h => hb h.symm
      rw [if_neg (by simpa using hb), List.takeWhile_cons]
      simp only [hb, decide_false, Bool.not_false, if_true, List.length_cons, List.mem_cons, hb2, false_or]
      by_cases h : c ∈ t
      · rw [if_pos h, if_pos h, if_neg]
        · simp
        · simp; try omega
      · rw [if_neg h, if_neg h]; rfl
theorem first_nat (t : List UInt8) (c : UInt8) : firstIdx ⟨t.toArray⟩ c = if c ∈ t then ((t.takeWhile (fun x => !decide (x = c))).length : Int) else -1 := by
  rw [firstIdx_eq, ← idxB_nat]
theorem mem_takeWhile {α : Type} {p : α → Bool} {l : List α} {x : α} (h : x ∈ l.takeWhile p) : p x = true := List.all_eq_true.1 List.all_takeWhile x h
theorem takeWhile_all {α : Type} {p : α → Bool} : ∀ {l : List α}, (∀ x ∈ l, p x = true) → l.takeWhile p = l
  | [], _ => rfl
  | x :: l, h => by rw [List.takeWhile_cons, if_pos (h x (by simp)), takeWhile_all fun y hy => h y (by simp [hy])]
theorem i64w {n : Int} (h : -9223372036854775808 ≤ n ∧ n ≤ 9223372036854775807) : IntKind.i64.wrap n = n := i64_id h
theorem i32w {n : Int} (h : -2147483648 ≤ n ∧ n ≤ 2147483647) : IntKind.i32.wrap n = n := by
  simp only [IntKind.wrap, IntKind.bits, IntKind.signed]; simp; omega
theorem u64w {n : Int} (h : 0 ≤ n ∧ n ≤ 18446744073709551615) : IntKind.u64.wrap n = n := by
  simp only [IntKind.wrap, IntKind.bits, IntKind.signed]; simp; omega
theorem u8n {c : UInt8} {n : Nat} (hn : n < 256) : (c.toNat : Int) = (n : Int) ↔ c = UInt8.ofNat n := by
  have e : (UInt8.ofNat n).toNat = n := by rw [UInt8.toNat_ofNat']; omega
  constructor
  · intro h
    apply UInt8.toNat_inj.1
    rw [e]; omega
  · rintro rfl
    rw [e]
theorem rune_dig (s : List UInt8) (p : Nat) (c : UInt8) (h : s[p]? = some c) (hd : c.toNat < 128) : runeAt s p = (c.toNat : Int) ∧ nextPos s p = p + 1 := by
  obtain ⟨hp, hc⟩ := List.getElem?_eq_some_iff.1 h
  have hsz : (⟨s.toArray⟩ : ByteArray).size = s.length := by simp [ByteArray.size]
  have hc2 : ((⟨s.toArray⟩ : ByteArray)[p]'(by rw [hsz]; exact hp)) = c := hc
  have e := decode_ascii ⟨s.toArray⟩ p (by rw [hsz]; exact hp) (by rw [hc2]; exact hd)
  rw [hc2] at e
  unfold runeAt nextPos
  rw [e, if_pos hp]
  exact ⟨rfl, rfl⟩
end Go.V
set_option linter.unusedVariables false
set_option linter.unusedSimpArgs false
namespace Go.V
section
variable {α β : Type} [DecidableEq α]
end
/-- The entries of a map. -/
def MapOk {α β : Type} (fk : α → Value) (fv : β → D) (H : PH) : List (α × β) → List MapEntry → Prop
  | [], [] => True
  | (a, b) :: l, e :: es => e.key = fk a ∧ Conc H (fv b) e.val ∧ MapOk fk fv H l es
  | _, _ => False
theorem MapOk.mono {α β : Type} {fk : α → Value} {fv : β → D} {H H' : PH} (h : PH.le H H') : ∀ (l : List (α × β)) (es : List MapEntry), MapOk fk fv H l es → MapOk fk fv H' l es
  | [], [], _ => trivial
  | (a, b) :: l, e :: es, ⟨h1, h2, h3⟩ => ⟨h1, h2.mono h, MapOk.mono h l es h3⟩
  | [], _ :: _, x => x.elim
  | _ :: _, [], x => x.elim
section
variable {α β : Type} [DecidableEq α] {fk : α → Value} {fv : β → D} {H : PH}
end
section
variable {P : Program} {L : Env} {ms : List Asrt} {dst : Option Nat} {ty : TypeId} {pos : String} {after : Array Edge} {g : Option (Nat × Bool)} {d d' : D} {x y z : Operand} {t t' : TypeId} {α β : Type}
variable [DecidableEq α]
end
end Go.V
set_option linter.unusedVariables false
set_option linter.unusedSimpArgs false
namespace Go.V
/-- Nothing. -/
def em : Asrt where
  blocks := []
  ok := fun _ _ => True
  stable := fun _ _ _ _ _ _ _ => trivial
theorem HeapOk.em_in {H : PH} {as : List Asrt} {w : World} (h : HeapOk H as w) : HeapOk H (em :: as) w :=
  ⟨h.sub, h.nodup, fun A hA b hb => by
    rcases List.mem_cons.1 hA with rfl | hA
    · simp [em] at hb
    · exact h.lt A hA b hb, fun A hA => by
    rcases List.mem_cons.1 hA with rfl | hA
    · trivial
    · exact h.ok A hA⟩
theorem HeapOk.em_out {H : PH} {as : List Asrt} {w : World} (h : HeapOk H (em :: as) w) : HeapOk H as w := HeapOk.drop (as := [em]) h
theorem take_em {H : PH} {ms fr : List Asrt} {w : World} {k : Nat} {A : Asrt} (hk : ms[k]? = some A) (h : HeapOk H (ms ++ fr) w) : HeapOk H (A :: (ms.set k em ++ fr)) w := by
  have h1 := (h.perm (perm_fr hk)).em_in
  have h2 : HeapOk H (A :: (em :: (ms.eraseIdx k ++ fr))) w := h1.perm (List.Perm.swap ..)
  exact h2.perm (List.Perm.cons _ (perm_fr' hk))
theorem put_em {H : PH} {ms fr : List Asrt} {w : World} {k : Nat} {A : Asrt} (hk : ms[k]? = some em) (h : HeapOk H (A :: (ms ++ fr)) w) : HeapOk H (ms.set k A ++ fr) w := by
  have h1 : HeapOk H (A :: (em :: (ms.eraseIdx k ++ fr))) w := h.perm (List.Perm.cons _ (perm_fr hk))
  have h2 : HeapOk H (A :: (ms.eraseIdx k ++ fr)) w := (h1.perm (List.Perm.swap ..)).em_out
  exact h2.perm (perm_fr' hk)
def putL (ms : List Asrt) : List Nat → List Asrt → List Asrt
  | k :: ks, A :: As => putL (ms.set k A) ks As
  | _, _ => ms
def ems (ks : List Nat) : List Asrt := ks.map fun _ => em
theorem putL_get {k : Nat} : ∀ (ks : List Nat) (As ms : List Asrt), k ∉ ks → (putL ms ks As)[k]? = ms[k]?
  | [], _, _, _ => by simp [putL]
  | _ :: _, [], _, _ => by simp [putL]
  | j :: ks, A :: As, ms, h => by
    simp only [List.mem_cons, not_or] at h
    rw [putL, putL_get ks As _ h.2, List.getElem?_set_ne (fun e => h.1 e.symm)]
theorem putL_set {k : Nat} {B : Asrt} : ∀ (ks : List Nat) (As ms : List Asrt), k ∉ ks → (putL ms ks As).set k B = putL (ms.set k B) ks As
  | [], _, _, _ => by simp [putL]
  | _ :: _, [], _, _ => by simp [putL]
  | j :: ks, A :: As, ms, h => by
    simp only [List.mem_cons, not_or] at h
    rw [putL, putL_set ks As _ h.2, putL]
    rw [List.set_comm _ _ (fun e => h.1 e.symm)]
theorem take_all {H : PH} {w : World} : ∀ (ks : List Nat) (As ms fr : List Asrt), ks.Nodup → As.length = ks.length → (∀ i : Nat, i < ks.length → ∃ k A, ks[i]? = some k ∧ As[i]? = some A ∧ ms[k]? = some A) → HeapOk H (ms ++ fr) w → HeapOk H (As ++ (putL ms ks (ems ks) ++ fr)) w
  | [], [], ms, fr, _, _, _, h => by simpa [putL] using h
  | [], _ :: _, _, _, _, hl, _, _ => by simp at hl
  | k :: ks, [], _, _, _, hl, _, _ => by simp at hl
  | k :: ks, A :: As, ms, fr, hn, hl, hg, h => by
    rw [List.nodup_cons] at hn
    obtain ⟨k', A', e1, e2, e3⟩ := hg 0 (by simp)
    simp only [List.getElem?_cons_zero, Option.some.injEq] at e1 e2
    subst e1 e2
    have h1 := take_em e3 h
    have h2 : HeapOk H (ms.set k em ++ (A :: fr)) w := h1.perm (List.perm_middle.symm)
    have h3 := take_all ks As (ms.set k em) (A :: fr) hn.2 (by simpa using hl) (fun i hi => by
      obtain ⟨k', A', e1, e2, e4⟩ := hg (i + 1) (by simpa using hi)
      simp only [List.getElem?_cons_succ] at e1 e2
      refine ⟨k', A', e1, e2, ?_⟩
      have hne : k ≠ k' := fun e => hn.1 (by rw [e]; exact List.mem_of_getElem? e1)
      rw [List.getElem?_set_ne hne]
      exact e4) h2
    have e5 : putL ms (k :: ks) (ems (k :: ks)) = putL (ms.set k em) ks (ems ks) := rfl
    rw [e5]
    refine h3.perm ?_
    have p1 : (putL (ms.set k em) ks (ems ks) ++ (A :: fr)).Perm (A :: (putL (ms.set k em) ks (ems ks) ++ fr)) := List.perm_middle
    have p2 := (p1.append_left As).trans (List.perm_middle (a := A) (l₁ := As))
    simpa using p2
theorem put_all {H : PH} {w : World} : ∀ (ks : List Nat) (As ms fr : List Asrt), ks.Nodup → As.length = ks.length → (∀ k ∈ ks, k < ms.length) → HeapOk H (As ++ (putL ms ks (ems ks) ++ fr)) w → HeapOk H (putL ms ks As ++ fr) w
  | [], [], ms, fr, _, _, _, h => by simpa [putL] using h
  | [], _ :: _, _, _, _, hl, _, _ => by simp at hl
  | k :: ks, [], _, _, _, hl, _, _ => by simp at hl
  | k :: ks, A :: As, ms, fr, hn, hl, hb, h => by
    rw [List.nodup_cons] at hn
    have e5 : putL ms (k :: ks) (ems (k :: ks)) = putL (ms.set k em) ks (ems ks) := rfl
    rw [e5] at h
    have h1 : HeapOk H (As ++ (putL (ms.set k em) ks (ems ks) ++ (A :: fr))) w := by
      refine h.perm ?_
      have p1 : (putL (ms.set k em) ks (ems ks) ++ (A :: fr)).Perm (A :: (putL (ms.set k em) ks (ems ks) ++ fr)) := List.perm_middle
      have p2 := (p1.append_left As).trans (List.perm_middle (a := A) (l₁ := As))
      simpa using p2.symm
    have h2 := put_all ks As (ms.set k em) (A :: fr) hn.2 (by simpa using hl) (fun k' hk' => by simpa using hb k' (by simp [hk'])) h1
    have h3 : HeapOk H (A :: (putL (ms.set k em) ks As ++ fr)) w := h2.perm List.perm_middle
    have hk : (putL (ms.set k em) ks As)[k]? = some em := by
      rw [putL_get ks As _ hn.1, List.getElem?_set_self (hb k (by simp))]
    have h4 := put_em hk h3
    rw [putL_set ks As _ hn.1] at h4
    simpa [putL] using h4
def ownB : List Nat → List Nat → Nat → Bool
  | [], _, _ => true
  | k :: ks, seen, n => Nat.blt k n && !(seen.contains k) && ownB ks (k :: seen) n
theorem ownB_ok : ∀ (ks seen : List Nat) (n : Nat), ownB ks seen n = true → ks.Nodup ∧ (∀ k ∈ ks, k < n) ∧ ∀ k ∈ ks, k ∉ seen
  | [], _, _, _ => ⟨List.nodup_nil, by simp, by simp⟩
  | k :: ks, seen, n, h => by
    simp only [ownB, Bool.and_eq_true, Bool.not_eq_true'] at h
    obtain ⟨⟨h1, h2⟩, h3⟩ := h
    obtain ⟨a, b, c⟩ := ownB_ok ks (k :: seen) n h3
    refine ⟨List.nodup_cons.2 ⟨fun hm => c k hm (by simp), a⟩, fun j hj => ?_, fun j hj => ?_⟩
    · rcases List.mem_cons.1 hj with rfl | hj
      · exact Nat.le_of_ble_eq_true h1
      · exact b j hj
    · rcases List.mem_cons.1 hj with rfl | hj
      · intro hm
        rw [List.contains_iff_mem.2 hm] at h2; cases h2
      · exact fun hm => c j hj (by simp [hm])
def getL (ms : List Asrt) : List Nat → List Asrt → Prop
  | [], [] => True
  | k :: ks, A :: As => ms[k]? = some A ∧ getL ms ks As
  | _, _ => False
theorem getL_ok {ms : List Asrt} : ∀ (ks : List Nat) (As : List Asrt), getL ms ks As → As.length = ks.length ∧ ∀ i : Nat, i < ks.length → ∃ k A, ks[i]? = some k ∧ As[i]? = some A ∧ ms[k]? = some A
  | [], [], _ => ⟨rfl, fun i hi => by simp at hi⟩
  | k :: ks, A :: As, ⟨h1, h2⟩ => by
    obtain ⟨a, b⟩ := getL_ok ks As h2
    refine ⟨by simp [a], fun i hi => ?_⟩
    cases i with
    | zero => exact ⟨k, A, rfl, rfl, h1⟩
    | succ i => exact b i (by simpa using hi)
  | [], _ :: _, h => h.elim
  | _ :: _, [], h => h.elim
section
variable {P : Program} {L : Env} {ms : List Asrt} {dst : Option Nat} {ty : TypeId} {pos : String} {after : Array Edge} {g : Option (Nat × Bool)} {d d' : D} {x y z : Operand} {t t' : TypeId} {R : D → List Asrt → Prop}
theorem o_call_own {f : FuncId} {args : List Operand} {ats : Array TypeId} {ds : List D} {As : List Asrt} (ks : List Nat) (hc : ∀ args w, (callFunc f args).run P w = .ok (.enter f args) w) (hev : evL L args = some ds) (hb : ownB ks [] ms.length = true) (hg : getL ms ks As) (hf : Fn P f ds As R) (hl : ∀ d ms', R d ms' → ms'.length = ks.length) :
    OpT P ⟨dst, .call ⟨.value (.func f), args.toArray, ats⟩, ty, pos, after, g⟩ L ms (fun d ms' => ∃ ms₁, R d ms₁ ∧ ms' = putL ms ks ms₁) := by
  obtain ⟨b1, b2, _⟩ := ownB_ok ks [] _ hb
  obtain ⟨g1, g2⟩ := getL_ok ks As hg
  intro ro H fr a w hok henv next Q hn
  have hok' := take_all ks As ms fr b1 g1 g2 hok
  have := o_call (P := P) (L := L) (ms := As ++ putL ms ks (ems ks)) (dst := dst) (ty := ty) (pos := pos) (after := after) (g := g) (ats := ats) (ms₁ := As) (rest := putL ms ks (ems ks)) hc hev (List.Perm.refl _) hf
  refine this ro H fr a w (by rw [List.append_assoc]; exact hok') henv next Q ?_
  rintro v d ms' w' H' ⟨ms₁, hR, rfl⟩ hle hok2 hc2 hs
  rw [List.append_assoc] at hok2
  exact hn v d _ w' H' ⟨ms₁, hR, rfl⟩ hle (put_all ks ms₁ ms fr b1 (hl d ms₁ hR) b2 hok2) hc2 hs
end
theorem permA {ms As rest : List Asrt} {A : Asrt} (k : Nat) (h : ms[k]? = some A) (p : (ms.eraseIdx k).Perm (rest ++ As)) : ms.Perm (rest ++ (A :: As)) :=
  (perm_at ms k A h).trans ((List.Perm.cons A p).trans List.perm_middle.symm)
theorem permN {ms : List Asrt} : ms.Perm (ms ++ []) := by simp
end Go.V
set_option linter.unusedVariables false
set_option linter.unusedSimpArgs false
namespace Go.V
section
variable {Γ : Ctx} {P : Program} {L : Env} {ms : List Asrt} {K : KT} {l : List Oper}
end
theorem getL_n {ms : List Asrt} : getL ms [] [] := trivial
theorem getL_c {ms As : List Asrt} {A : Asrt} {k : Nat} {ks : List Nat} (h : ms[k]? = some A) (t : getL ms ks As) : getL ms (k :: ks) (A :: As) := ⟨h, t⟩
end Go.V
set_option linter.unusedVariables false
set_option linter.unusedSimpArgs false
namespace Go.V
open Go.ChangeShapes Go.WideShapes Go.ChangeAt Go.RowKit
/-- What is read at a type, none of whose parts weighs too much, stands for a datum that Q holds of. -/
def OpensW (P : Program) (t : TypeId) (Q : D → Prop) : Prop :=
  ∀ (H : Type) (enc : TypeId × Value → H) (w : World) (sp : Nat → Bool) (held : Bool) (fuel : Nat) (cs : List Value) (x : DataW H × List MemPlace), DataW.trod enc P w 0 sp held fuel t cs = some x → (∀ n ∈ x.1.weights P t, n ≤ 140737488351232) → ∃ d, Q d ∧ Enc (Hof w) d cs
section
variable {P : Program} {t e : TypeId} {Q Q' : D → Prop}
theorem OpensW.imp (h : OpensW P t Q) (k : ∀ d, Q d → Q' d) : OpensW P t Q' := fun H enc w sp held fuel cs x hx hw => let ⟨d, a, b⟩ := h H enc w sp held fuel cs x hx hw; ⟨d, k d a, b⟩
theorem OpensD.w (h : OpensD P t Q) : OpensW P t Q := fun H enc w sp held fuel cs x hx _ => h H enc w sp held fuel cs x hx
end
end Go.V
