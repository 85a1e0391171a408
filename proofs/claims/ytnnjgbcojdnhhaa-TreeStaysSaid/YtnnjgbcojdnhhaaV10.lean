/- Regions that draw their order: 'g_draw'; what a function hands back. -/
import Derived.Test.YtnnjgbcojdnhhaaV9
set_option linter.unusedVariables false
set_option linter.unusedSimpArgs false
namespace Go.V
section
variable {Γ : Ctx} {P : Program} {L : Env} {ms : List Asrt} {K : KT} {l : List Oper} {k : Nat}
theorem draw_main (hf : FlowOk l k) (hnd : ∀ (i : Nat) o, l[i]? = some o → ∀ c, o.op ≠ .defer c) (ds : List D) (hlen : ds.length = k) (hkl : k ≤ l.length)
    (hstep : ∀ (i : Nat) o d, i < k → l[i]? = some o → ds[i]? = some d → dstOk o Γ.N ∧ Step P l o (envL (fun j => decide (j < i)) l ds 0 L) ms d)
    (htail : GO Γ P l.toArray (l.drop k) (envL (fun j => decide (j < k)) l ds 0 L) ms K) :
    ∀ (fuel : Nat) (listed : Array Bool) (t : Nat) (a : Act) (w : World), listed.size = l.length → Closed l (fun j => listed.getD j false) → (∀ i, k ≤ i → listed.getD i false = false) →
      ((List.range l.length).filter (fun i => !listed.getD i false)).length ≤ fuel → Models Γ (envL (fun j => listed.getD j false) l ds 0 L) ms a w →
      wpOpsIn (FR Γ.round) 0 P l.toArray (Post Γ K) (Region.linearise.go .any l.toArray fuel t listed []) a w := by
  intro fuel
  induction fuel with
  | zero =>
    intro listed t a w hs hc hk hfu m
    -- nothing is left
    have hnone : ∀ i, i < l.length → listed.getD i false = true := by
      intro i hi
      cases hb : listed.getD i false with
      | true => rfl
      | false =>
        have : i ∈ (List.range l.length).filter (fun i => !listed.getD i false) := by simp only [List.mem_filter, List.mem_range]; exact ⟨hi, by simp only [hb, Bool.not_false]⟩
        have := List.length_pos_of_mem this
        omega
    have hkn : k = l.length := by
      rcases Nat.lt_or_ge k l.length with h | h
      · have h1 := hnone k h; have h2 := hk k (Nat.le_refl _); rw [h1] at h2; cases h2
      · omega
    have he : envL (fun j => listed.getD j false) l ds 0 L = envL (fun j => decide (j < k)) l ds 0 L := by
      have : ∀ (l' : List Oper) (ds : List D) (k0 : Nat) (L : Env), k0 + l'.length ≤ l.length → envL (fun j => listed.getD j false) l' ds k0 L = envL (fun j => decide (j < k)) l' ds k0 L := by
        intro l'
        induction l' with
        | nil => intro ds k0 L _; rfl
        | cons o r ih =>
          intro ds k0 L hle
          cases ds with
          | nil => rfl
          | cons d ds =>
            simp only [envL]
            simp at hle
            have e1 : listed.getD k0 false = true := hnone k0 (by omega)
            have e2 : decide (k0 < k) = true := by simp; omega
            rw [if_pos e1, if_pos e2]
            exact ih ds (k0 + 1) _ (by omega)
      exact this l ds 0 L (by omega)
    have hdrop : l.drop k = [] := by rw [hkn]; simp
    rw [hdrop] at htail
    have := htail a w (he ▸ m)
    simp only [wpListIn] at this
    simpa [Region.linearise.go, wpOpsIn] using this
  | succ fuel ih =>
    intro listed t a w hs hc hk hfu m
    by_cases hall : ∀ i, i < k → listed.getD i false = true
    · -- the operations that flow are done
      have hl : ∀ j, listed.getD j false = decide (j < k) := by
        intro j
        by_cases h : j < k
        · rw [hall j h]; simp [h]
        · rw [hk j (by omega)]; simp [h]
      have hcount : l.length - k ≤ fuel + 1 := by
        have h2 : ((List.range l.length).filter (fun i => !listed.getD i false)).length = l.length - k := by
          have e : (List.range l.length) = List.range k ++ (List.range (l.length - k)).map (k + ·) := by
            rw [← List.range_add]; congr 1; omega
          rw [e, List.filter_append]
          have e1 : (List.range k).filter (fun i => !listed.getD i false) = [] := by
            rw [List.filter_eq_nil_iff]; intro i hi; rw [hl i]; simp at hi; simp [hi]
          have e2 : ((List.range (l.length - k)).map (k + ·)).filter (fun i => !listed.getD i false) = (List.range (l.length - k)).map (k + ·) := by
            rw [List.filter_eq_self]; intro i hi; simp at hi; obtain ⟨j, _, rfl⟩ := hi; rw [hl]; simp
          rw [e1, e2]; simp
        omega
      rw [phase2 hf k (fuel + 1) t listed (Nat.le_refl _) hkl hcount hs hl]
      have hw := wpOpsIn_eq_wpListIn (F := FR Γ.round) (n := 0) (P := P) (ops := l.toArray) (Q := Post Γ K) (l.drop k) k (fun j => by simp)
      rw [List.length_drop] at hw
      rw [hw]
      have he : (fun j => listed.getD j false) = (fun j => decide (j < k)) := funext hl
      exact htail a w (he ▸ m)
    · -- one of those that flow
      simp only [Region.linearise.go]
      change wpOpsIn (FR Γ.round) 0 P l.toArray (Post Γ K) (match (Region.ready .any l.toArray listed)[t % (Region.ready .any l.toArray listed).length]? with
        | some i => Region.linearise.go .any l.toArray fuel (t / (Region.ready .any l.toArray listed).length) (listed.setIfInBounds i true) [i]
        | none => [].reverse) a w
      obtain ⟨i0, hi0⟩ : ∃ i, i < k ∧ listed.getD i false = false := by
        refine Classical.byContradiction fun hno => hall fun i hi => ?_
        cases hb : listed.getD i false with
        | true => rfl
        | false => exact absurd ⟨i, hi, hb⟩ hno
      have hne : Region.ready .any l.toArray listed ≠ [] := by
        -- the least that is left is ready
        have key : ∀ n i, i ≤ n → i < l.length → listed.getD i false = false → Region.ready .any l.toArray listed ≠ [] := by
          intro n
          induction n with
          | zero =>
            intro i hin hil hb hnil
            have : i ∈ Region.ready .any l.toArray listed := by
              simp only [Region.ready, List.mem_filter, List.mem_range, List.size_toArray]
              refine ⟨hil, ?_⟩
              have hgt : listed.getD i true = false := by simp [Array.getD, hs, hil] at hb ⊢; exact hb
              simp only [hgt, Bool.not_false, Bool.true_and]
              have ho : l.toArray[i]? = some l[i] := by simp [hil]
              rw [ho]
              simp only [Option.map_some, Option.getD_some, Array.all_eq_true']
              intro e he
              by_cases hbd : Region.binds .any e = true
              · have := hf.edge i l[i] (by simp [hil]) e he hbd; omega
              · simp [hbd]
            rw [hnil] at this; cases this
          | succ n ihn =>
            intro i hin hil hb hnil
            by_cases hex : ∃ j, j < i ∧ listed.getD j false = false
            · obtain ⟨j, hj, hjb⟩ := hex
              exact ihn j (by omega) (by omega) hjb hnil
            · have : i ∈ Region.ready .any l.toArray listed := by
                simp only [Region.ready, List.mem_filter, List.mem_range, List.size_toArray]
                refine ⟨hil, ?_⟩
                have hgt : listed.getD i true = false := by simp [Array.getD, hs, hil] at hb ⊢; exact hb
                simp only [hgt, Bool.not_false, Bool.true_and]
                have ho : l.toArray[i]? = some l[i] := by simp [hil]
                rw [ho]
                simp only [Option.map_some, Option.getD_some, Array.all_eq_true']
                intro e he
                by_cases hbd : Region.binds .any e = true
                · have hlt := hf.edge i l[i] (by simp [hil]) e he hbd
                  cases hbe : listed.getD e.on false with
                  | true => simp
                  | false => exact absurd ⟨e.on, hlt, hbe⟩ hex
                · simp [hbd]
              rw [hnil] at this; cases this
        exact key i0 i0 (Nat.le_refl _) (by omega) hi0.2
      cases hsel : (Region.ready .any l.toArray listed)[t % (Region.ready .any l.toArray listed).length]? with
      | none =>
        exfalso
        have hpos : 0 < (Region.ready .any l.toArray listed).length := List.length_pos_iff.2 hne
        have := Nat.mod_lt t hpos
        rw [List.getElem?_eq_none_iff] at hsel
        omega
      | some i =>
        simp only []
        rw [linearise_go_acc, List.reverse_singleton, List.singleton_append]
        have hmem : i ∈ Region.ready .any l.toArray listed := List.mem_of_getElem? hsel
        obtain ⟨hi1, hi2, hi3⟩ := ready_mem (ops := l.toArray) (listed := listed) hmem
        simp only [List.size_toArray] at hi1
        have hunl : listed.getD i false = false := by simp [Array.getD, hs, hi1] at hi2 ⊢; exact hi2
        obtain ⟨o, ho⟩ : ∃ o, l[i]? = some o := ⟨l[i], by simp [hi1]⟩
        have hcs := closed_set (l := l) hs hi1 hc (fun o' ho' => hi3 o' (by simpa using ho'))
        have hik : i < k := by
          rcases Nat.lt_or_ge i k with h | h
          · exact h
          · have h1 := hf.tail i o ho h i0 (by omega) _ hcs (by rw [getD_set _ _ _ (by omega)]; simp)
            rw [getD_set _ _ _ (by omega)] at h1
            have hne' : ¬ i0 = i := by omega
            rw [hi0.2] at h1
            simp [hne'] at h1
        obtain ⟨d, hd⟩ : ∃ d, ds[i]? = some d := ⟨ds[i]'(by omega), by simp⟩
        obtain ⟨hdst, hst⟩ := hstep i o d hik ho hd
        -- what the operation looks at is as in the text's order
        have agree : ∀ s, s ∈ slotsOf l o → Env.find (envL (fun j => listed.getD j false) l ds 0 L) s = Env.find (envL (fun j => decide (j < i)) l ds 0 L) s := by
          intro s hsl
          refine find_congr l ds 0 L L (fun j o' hj hd' => ?_) rfl
          simp only [Nat.zero_add]
          by_cases hji : j = i
          · subst hji; rw [hunl]; simp
          · have hn := hf.names i o j o' s ho hj (fun e => hji e.symm) hd' (.inl hsl)
            by_cases hlt : j < i
            · have h1 := (hn _ hcs).1 hlt (by rw [getD_set _ _ _ (by omega)]; simp)
              rw [getD_set _ _ _ (by omega)] at h1
              simp only [hji, decide_false, Bool.or_false] at h1
              rw [h1]; simp [hlt]
            · cases hb : listed.getD j false with
              | true => have h1 := (hn _ hc).2 (by omega) hb; rw [hunl] at h1; cases h1
              | false => simp [hlt]
        have hsub : ∀ H, EnvOk H (envL (fun j => listed.getD j false) l ds 0 L) a.tmps → EnvOk H (Env.only (slotsOf l o) (envL (fun j => decide (j < i)) l ds 0 L)) a.tmps := by
          intro H he s d' hfnd
          obtain ⟨h1, h2⟩ := only_mem hfnd
          exact he s d' (by rw [agree s h1]; exact h2)
        have hcnt : ((List.range l.length).filter (fun j => !(listed.setIfInBounds i true).getD j false)).length ≤ fuel := by
          have hlt : ((List.range l.length).filter (fun j => !(listed.setIfInBounds i true).getD j false)).length < ((List.range l.length).filter (fun j => !listed.getD j false)).length := by
            have hp : ∀ j, (!(listed.setIfInBounds i true).getD j false) = (decide (j ≠ i) && !listed.getD j false) := by
              intro j
              rw [getD_set _ _ _ (by omega)]
              by_cases h : j = i <;> simp [h]
            have e1 : (List.range l.length).filter (fun j => !(listed.setIfInBounds i true).getD j false) = ((List.range l.length).filter (fun j => !listed.getD j false)).filter (fun j => decide (j ≠ i)) := by
              rw [List.filter_filter]; exact List.filter_congr fun j _ => hp j
            rw [e1]
            have hmem' : i ∈ (List.range l.length).filter (fun j => !listed.getD j false) := by
              simp only [List.mem_filter, List.mem_range]; exact ⟨hi1, by rw [hunl]; rfl⟩
            have := List.length_filter_lt_length_iff_exists (l := (List.range l.length).filter (fun j => !listed.getD j false)) (p := fun j => decide (j ≠ i))
            exact this.2 ⟨i, hmem', by simp⟩
          omega
        -- the frame behind it
        have next : ∀ (v : Value) (w' : World) (H H' : PH) (marks : List Nat), PH.le Γ.H0 H → EnvOk H (envL (fun j => listed.getD j false) l ds 0 L) a.tmps → a.defers = marks.map markD → PH.le H H' → HeapOk H' (ms ++ (marks.map markA ++ Γ.fr)) w' → Conc H' d v → SameOut w w' →
            wpOpsIn (FR Γ.round) 0 P l.toArray (Post Γ K) (Region.linearise.go .any l.toArray fuel (t / (Region.ready .any l.toArray listed).length) (listed.setIfInBounds i true) []) (a.put o.dst v) w' := by
          intro v w' H H' marks hle henv hdf hl hok' hcv hso
          refine ih (listed.setIfInBounds i true) _ _ _ (by simp [hs]) hcs (fun j hj => ?_) hcnt ?_
          · rw [getD_set _ _ _ (by omega), hk j hj]
            have : ¬ j = i := by omega
            simp [this]
          · refine ⟨⟨H', marks, PH.le_trans hle hl, hok', ?_, by cases o.dst <;> simpa [Act.put] using hdf⟩, by cases o.dst <;> simp [Act.put, m.size], m.same.trans hso⟩
            intro s d' hfnd
            have hS : (fun j => (listed.setIfInBounds i true).getD j false) = fun j => (listed.getD j false || decide (j = i)) := funext fun j => getD_set _ _ _ (by omega)
            rw [hS] at hfnd
            by_cases hds : o.dst = some s
            · have hat := find_at (S := fun j => (listed.getD j false || decide (j = i))) l ds 0 i L o ho hd hds (by simp) (fun j o' hj hlo hd' => by
                simp only [Nat.zero_add]
                have hn := hf.names i o j o' s ho hlo (by omega) hd' (.inr hds)
                cases hb : listed.getD j false with
                | true => have h1 := (hn _ hc).2 hj hb; rw [hunl] at h1; cases h1
                | false => have : ¬ j = i := by omega
                           simp [this])
              rw [hat] at hfnd
              simp only [Option.some.injEq] at hfnd
              subst hfnd
              have hsz : s < a.tmps.size := by
                have := hdst
                simp only [dstOk, hds] at this
                have := Nat.le_of_ble_eq_true this
                rw [m.size]; exact this
              simp only [hds, Act.put]
              simpa [Array.getD, hsz] using hcv
            · have hcg : Env.find (envL (fun j => (listed.getD j false || decide (j = i))) l ds 0 L) s = Env.find (envL (fun j => listed.getD j false) l ds 0 L) s := by
                refine find_congr l ds 0 L L (fun j o' hj hd' => ?_) rfl
                simp only [Nat.zero_add]
                have : ¬ j = i := fun e => by subst e; rw [ho] at hj; simp only [Option.some.injEq] at hj; subst hj; exact hds hd'
                simp [this]
              rw [hcg] at hfnd
              have h1 := (henv s d' hfnd).mono hl
              have h2 : (a.put o.dst v).tmps.getD s undef = a.tmps.getD s undef := by
                cases hod : o.dst with
                | none => rfl
                | some q =>
                  have hq : q ≠ s := fun e => hds (by rw [hod, e])
                  simp [Act.put, Array.getD_eq_getD_getElem?, Array.getElem?_setIfInBounds, hq]
              rw [h2]
              exact h1
        have ho' : l.toArray[i]? = some o := by simpa using ho
        simp only [wpOpsIn, ho']
        obtain ⟨H, marks, hle, hok, henv, hdf⟩ := m.ex
        unfold Step at hst
        cases hg : o.guard with
        | none =>
          rw [hg] at hst
          simp only at hst
          simp only [Region.wanted, hg, if_true]
          refine hst Γ.round H (marks.map markA ++ Γ.fr) a w hok (hsub H henv) _ _ ?_
          rintro v d' ms' w' H' ⟨rfl, rfl⟩ hl hok' hcv hso
          exact next v w' H H' marks hle henv hdf hl hok' hcv hso
        | some q =>
          obtain ⟨j, want⟩ := q
          rw [hg] at hst
          simp only at hst
          obtain ⟨s, u, h1, h2, h3⟩ := hst
          have hss : s ∈ slotsOf l o := by simp [slotsOf, hg, h1]
          have hfnd : Env.find (envL (fun j => listed.getD j false) l ds 0 L) s = some (.v u) := by rw [agree s hss]; exact h2
          rcases h3 with ⟨b, hu, h3⟩ | ⟨hu, h4⟩
          rotate_left
          · subst hu
            have hy : yielded l.toArray a.tmps j = none := by
              have h := conc_v.1 (henv s _ hfnd)
              simp only [yielded, show (l.toArray[j]?).bind (·.dst) = some s by simpa using h1, Option.bind_some]
              cases hq : a.tmps[s]? with
              | none => rfl
              | some v =>
                have hv : v = undef := by
                  rw [Array.getD_eq_getD_getElem?, hq] at h
                  exact h
                subst hv
                rfl
            simp only [Region.wanted, hg, hy]
            rw [if_neg (by cases want <;> simp)]
            refine ⟨fun _ _ => trivial, ?_⟩
            exact next undef w H H marks hle henv hdf (PH.le_refl H) hok (by rw [h4]; exact conc_v.2 rfl) (SameOut.refl w)
          subst hu
          have hy := yielded_of (ops := l.toArray) m (j := j) (t := s) (b := b) (by simpa using h1) hfnd
          simp only [Region.wanted, hg, hy]
          rcases h3 with ⟨h3, h4⟩ | ⟨h3, h4⟩
          · have hbq : (some b == some want) = true := by rw [h3]; simp
            rw [if_pos hbq]
            refine h4 Γ.round H (marks.map markA ++ Γ.fr) a w hok (hsub H henv) _ _ ?_
            rintro v d' ms' w' H' ⟨rfl, rfl⟩ hl hok' hcv hso
            exact next v w' H H' marks hle henv hdf hl hok' hcv hso
          · have hbq : (some b == some want) = false := by rw [h3]; cases want <;> rfl
            rw [if_neg (by rw [hbq]; simp)]
            refine ⟨fun _ _ => trivial, ?_⟩
            exact next undef w H H marks hle henv hdf (PH.le_refl H) hok (by rw [h4]; exact conc_v.2 rfl) (SameOut.refl w)

/-- A region that draws its order: its first k operations flow, the others stand behind them in the text's order. -/
theorem g_draw {id : Nat} (k : Nat) (hm : P.follows .mixedOrders = true) (hf : flowB l k = true) (h : GD Γ P l (l.drop k) ms K (l.take k) L) : G Γ P (.region id l.toArray true) L ms K := by
  intro a w m
  refine wpIn_region_draw fun t => ?_
  simp only [Region.schedule, hm, Bool.true_or, if_true]
  have hfo := flow_ok hf
  obtain ⟨ds, e1, e2, e3⟩ := gd_list _ _ h
  -- at most as many as there are
  have htk : l.take k = l.take (min k l.length) := by
    rcases Nat.le_total k l.length with h | h
    · rw [Nat.min_eq_left h]
    · rw [Nat.min_eq_right h, List.take_of_length_le h, List.take_of_length_le (Nat.le_refl _)]
  have hdk : l.drop k = l.drop (min k l.length) := by
    rcases Nat.le_total k l.length with h | h
    · rw [Nat.min_eq_left h]
    · rw [Nat.min_eq_right h, List.drop_of_length_le h, List.drop_of_length_le (Nat.le_refl _)]
  rw [htk] at e1 e2 e3
  rw [hdk] at e3
  have hlen : ds.length = min k l.length := by rw [e1]; simp
  have hfo' : FlowOk l (min k l.length) := ⟨hfo.edge, hfo.names, fun i o hi hki => hfo.tail i o hi (by
    have : i < l.length := (List.getElem?_eq_some_iff.1 hi).1
    omega)⟩
  have hnd : ∀ (i : Nat) o, l[i]? = some o → ∀ c, o.op ≠ .defer c := by
    intro i o hi c hc
    unfold flowB at hf
    simp only [List.all_eq_true] at hf
    have := hf _ (List.mem_zipIdx_iff_getElem?.2 (by simpa using hi) : (o, i) ∈ l.zipIdx)
    simp only [hc, Bool.and_false] at this
    exact absurd this (by simp)
  have conv : ∀ i, i ≤ min k l.length → envL (fun _ => true) ((l.take (min k l.length)).take i) (ds.take i) 0 L = envL (fun j => decide (j < i)) l ds 0 L := by
    intro i hi
    rw [List.take_take, Nat.min_eq_left hi]
    have := envL_take i l ds 0 L
    simp only [Nat.zero_add] at this
    exact this.symm
  refine draw_main (L := L) (ms := ms) hfo' hnd ds hlen (Nat.min_le_right _ _) ?_ ?_ l.toArray.size (Array.replicate l.toArray.size false) t a { w with drawn := w.drawn + 1 } (by simp) ?_ ?_ ?_ ?_
  · intro i o d hi ho hd
    have ho' : (l.take (min k l.length))[i]? = some o := by rw [List.getElem?_take, if_pos hi]; exact ho
    obtain ⟨a1, a2⟩ := e2 i o d ho' hd
    exact ⟨a1, by rw [← conv i (by omega)]; exact a2⟩
  · have h1 := envL_take (min k l.length) l ds 0 L
    simp only [Nat.zero_add] at h1
    rw [h1, List.take_of_length_le (l := ds) (by omega)]
    exact e3
  · intro j o hj hS
    simp [Array.getD] at hS
  · intro i _; simp [Array.getD]
  · have := List.length_filter_le (fun i => !(Array.replicate l.toArray.size false).getD i false) (List.range l.length)
    simpa using this
  · have he : envL (fun j => (Array.replicate l.toArray.size false).getD j false) l ds 0 L = L := by
      have : ∀ (l' : List Oper) (ds : List D) (k0 : Nat) (L : Env), envL (fun j => (Array.replicate l.toArray.size false).getD j false) l' ds k0 L = L := by
        intro l'
        induction l' with
        | nil => intro ds k0 L; rfl
        | cons o r ih =>
          intro ds k0 L
          cases ds with
          | nil => rfl
          | cons d ds =>
            simp only [envL]
            have e : ((Array.replicate l.toArray.size false).getD k0 false = true) = False := by simp [Array.getD]
            simp only [e, if_false]
            exact ih ds (k0 + 1) L
      exact this l ds 0 L
    rw [he]
    obtain ⟨H, marks, hle, hok, henv, hdf⟩ := m.ex
    exact ⟨⟨H, marks, hle, hok.drew _, henv, hdf⟩, m.size, m.same.trans ⟨rfl, rfl, rfl, Nat.le_refl _⟩⟩

theorem gd_nil {ops tail : List Oper} (h : GO Γ P ops.toArray tail L ms K) : GD Γ P ops tail ms K [] L := h
theorem gd_p {ops tail r : List Oper} {o : Oper} {d : D} {i : Nat} (hg : o.guard = none) (hd : o.dst = some i) (hi : Nat.blt i Γ.N = true) (h : OpP P o (Env.only (slotsOf ops o) L) ms d) (k : GD Γ P ops tail ms K r ((i, d) :: L)) : GD Γ P ops tail ms K (o :: r) L := by
  refine ⟨d, by simp only [dstOk, hd]; exact hi, by simp only [Step, hg]; exact h, ?_⟩
  simp only [ext, hd]; exact k
theorem gd_want {ops tail r : List Oper} {o : Oper} {d : D} {i j t : Nat} {b want : Bool} (hg : o.guard = some (j, want)) (hj : (ops[j]?).bind (·.dst) = some t) (hf : Env.find L t = some (.v (.bool b))) (hb : b = want) (hd : o.dst = some i) (hi : Nat.blt i Γ.N = true)
    (h : OpP P o (Env.only (slotsOf ops o) L) ms d) (k : GD Γ P ops tail ms K r ((i, d) :: L)) : GD Γ P ops tail ms K (o :: r) L := by
  refine ⟨d, by simp only [dstOk, hd]; exact hi, by simp only [Step, hg]; exact ⟨t, _, hj, hf, .inl ⟨b, rfl, .inl ⟨hb, h⟩⟩⟩, ?_⟩
  simp only [ext, hd]; exact k
theorem gd_skip {ops tail r : List Oper} {o : Oper} {i j t : Nat} {b want : Bool} (hg : o.guard = some (j, want)) (hj : (ops[j]?).bind (·.dst) = some t) (hf : Env.find L t = some (.v (.bool b))) (hb : b = !want) (hd : o.dst = some i) (hi : Nat.blt i Γ.N = true)
    (k : GD Γ P ops tail ms K r ((i, .v undef) :: L)) : GD Γ P ops tail ms K (o :: r) L := by
  refine ⟨.v undef, by simp only [dstOk, hd]; exact hi, by simp only [Step, hg]; exact ⟨t, _, hj, hf, .inl ⟨b, rfl, .inr ⟨hb, trivial⟩⟩⟩, ?_⟩
  simp only [ext, hd]; exact k
theorem gd_skipu {ops tail r : List Oper} {o : Oper} {i j t : Nat} {want : Bool} (hg : o.guard = some (j, want)) (hj : (ops[j]?).bind (·.dst) = some t) (hf : Env.find L t = some (.v undef)) (hd : o.dst = some i) (hi : Nat.blt i Γ.N = true)
    (k : GD Γ P ops tail ms K r ((i, .v undef) :: L)) : GD Γ P ops tail ms K (o :: r) L := by
  refine ⟨.v undef, by simp only [dstOk, hd]; exact hi, by simp only [Step, hg]; exact ⟨t, _, hj, hf, .inr ⟨rfl, trivial⟩⟩, ?_⟩
  simp only [ext, hd]; exact k
end
end Go.V
