/- Regions that draw their order: what makes something new may be carried out at any time. -/
import Derived.Test.YtnnjgbcojdnhhaaV28
set_option linter.unusedVariables false
set_option linter.unusedSimpArgs false
namespace Go.V
def dstN (l : List Oper) (i : Nat) : Nat := ((l[i]?).bind (·.dst)).getD 0
def fenv (l : List Oper) (fr : List Nat) (S : Nat → Bool) (ρ : Nat → D × Asrt) : Env := (fr.filter S).map fun i => (dstN l i, (ρ i).1)
def fown (fr : List Nat) (S : Nat → Bool) (ρ : Nat → D × Asrt) : List Asrt := (fr.filter S).map fun i => (ρ i).2
/-- The operations fr make something new: nothing that flows reads it, no other one writes its slot. -/
def freshB (l : List Oper) (k : Nat) (fr : List Nat) : Bool := decide fr.Nodup && fr.all fun i => Nat.blt i k && (match l[i]? with
  | some o => o.guard.isNone && (match o.dst with
    | some t => (l.zipIdx.all fun (o', j) => (Nat.beq i j || !(o'.dst == some t)) && (!(Nat.blt j k) || !((slotsOf l o').contains t)))
    | none => false)
  | none => false)
theorem fresh_ok {l : List Oper} {k : Nat} {fr : List Nat} (h : freshB l k fr = true) : fr.Nodup ∧ ∀ i ∈ fr, i < k ∧ ∃ o, l[i]? = some o ∧ o.guard = none ∧ o.dst = some (dstN l i) ∧ (∀ j o', l[j]? = some o' → j ≠ i → o'.dst ≠ some (dstN l i)) ∧ ∀ j o', j < k → l[j]? = some o' → dstN l i ∉ slotsOf l o' := by
  simp only [freshB, Bool.and_eq_true, decide_eq_true_eq, List.all_eq_true] at h
  refine ⟨h.1, fun i hi => ?_⟩
  obtain ⟨h1, h2⟩ := h.2 i hi
  refine ⟨Nat.le_of_ble_eq_true h1, ?_⟩
  split at h2
  · rename_i o ho
    simp only [Bool.and_eq_true, Option.isNone_iff_eq_none] at h2
    obtain ⟨h3, h4⟩ := h2
    split at h4
    · rename_i t ht
      have hd : dstN l i = t := by simp [dstN, ho, ht]
      simp only [List.all_eq_true, Bool.and_eq_true, Bool.or_eq_true, Bool.not_eq_true'] at h4
      refine ⟨o, ho, h3, by rw [hd]; exact ht, fun j o' hj hne => ?_, fun j o' hjk hj => ?_⟩
      · have := (h4 (o', j) (List.mem_zipIdx_iff_getElem?.2 (by simpa using hj))).1
        rcases this with h5 | h5
        · exact absurd (Nat.eq_of_beq_eq_true h5).symm hne
        · rw [hd]; intro e; rw [e] at h5; simp at h5
      · have := (h4 (o', j) (List.mem_zipIdx_iff_getElem?.2 (by simpa using hj))).2
        rcases this with h5 | h5
        · have : Nat.blt j k = true := Nat.ble_eq_true_of_le hjk
          rw [this] at h5; cases h5
        · rw [hd]; intro hm
          rw [List.contains_iff_mem.2 hm] at h5; cases h5
    · cases h4
  · cases h2
theorem find_app (A B : Env) (t : Nat) : Env.find (A ++ B) t = (match Env.find A t with | some d => some d | none => Env.find B t) := by
  induction A with
  | nil => rfl
  | cons x A ih =>
    obtain ⟨i, d⟩ := x
    simp only [List.cons_append, Env.find]
    cases hb : Nat.beq i t with
    | true => rfl
    | false => exact ih
theorem find_map {α : Type} (gI : α → Nat) (gD : α → D) (t : Nat) : ∀ xs : List α, (∀ d, Env.find (xs.map fun i => (gI i, gD i)) t = some d → ∃ i ∈ xs, gI i = t ∧ d = gD i) ∧ (Env.find (xs.map fun i => (gI i, gD i)) t = none → ∀ i ∈ xs, gI i ≠ t)
  | [] => ⟨fun d h => by simp [Env.find] at h, fun _ i hi => by simp at hi⟩
  | x :: xs => by
    obtain ⟨h1, h2⟩ := find_map gI gD t xs
    refine ⟨fun d h => ?_, fun h i hi => ?_⟩
    · simp only [List.map_cons, Env.find] at h
      cases hb : Nat.beq (gI x) t with
      | true => rw [hb] at h; simp only [Option.some.injEq] at h; exact ⟨x, by simp, Nat.eq_of_beq_eq_true hb, h.symm⟩
      | false => rw [hb] at h; obtain ⟨i, a, b, c⟩ := h1 d h; exact ⟨i, by simp [a], b, c⟩
    · simp only [List.map_cons, Env.find] at h
      cases hb : Nat.beq (gI x) t with
      | true => rw [hb] at h; cases h
      | false =>
        rw [hb] at h
        rcases List.mem_cons.1 hi with rfl | hi
        · intro e; rw [e] at hb; simp at hb
        · exact h2 h i hi
theorem filter_new {fr : List Nat} {S : Nat → Bool} {i : Nat} (hn : fr.Nodup) (hi : i ∈ fr) (hS : S i = false) : (fr.filter fun j => S j || decide (j = i)).Perm (i :: fr.filter S) := by
  induction fr with
  | nil => cases hi
  | cons x fr ih =>
    have hn' := List.nodup_cons.1 hn
    by_cases hx : x = i
    · subst hx
      have : (fr.filter fun j => S j || decide (j = x)) = fr.filter S := List.filter_congr fun j hj => by
        have : j ≠ x := fun e => hn'.1 (e ▸ hj)
        simp [this]
      simp only [List.filter_cons, decide_true, Bool.or_true, if_true, hS, Bool.false_eq_true, if_false, this]
      exact List.Perm.refl _
    · have hm : i ∈ fr := by
        rcases List.mem_cons.1 hi with h | h
        · exact absurd h.symm hx
        · exact h
      have ih' := ih hn'.2 hm
      simp only [List.filter_cons, hx, decide_false, Bool.or_false]
      cases hSx : S x with
      | true => simp only [if_true]; exact (ih'.cons x).trans (List.Perm.swap ..)
      | false => simpa using ih'
section
variable {Γ : Ctx} {P : Program} {L : Env} {ms : List Asrt} {K : KT} {l : List Oper} {k : Nat}
theorem draw_fresh {fr : List Nat} (hf : FlowOk l k) (hfr : freshB l k fr = true) (ds : List D) (hlen : ds.length = k) (hkl : k ≤ l.length) (R : Nat → D → Asrt → Prop)
    (hstep : ∀ (i : Nat) o d, i < k → i ∉ fr → l[i]? = some o → ds[i]? = some d → dstOk o Γ.N ∧ Step P l o (envL (fun j => decide (j < i) && !(fr.contains j)) l ds 0 L) ms d)
    (hfresh : ∀ (i : Nat) o, i ∈ fr → l[i]? = some o → dstOk o Γ.N ∧ OpT P o (Env.only (slotsOf l o) (envL (fun j => decide (j < i) && !(fr.contains j)) l ds 0 L)) [] (fun d ms' => ∃ A, R i d A ∧ ms' = [A]))
    (htail : ∀ ρ : Nat → D × Asrt, (∀ i ∈ fr, R i (ρ i).1 (ρ i).2) → GO Γ P l.toArray (l.drop k) (fenv l fr (fun j => decide (j < k)) ρ ++ envL (fun j => decide (j < k) && !(fr.contains j)) l ds 0 L) (fown fr (fun j => decide (j < k)) ρ ++ ms) K) :
    ∀ (fuel : Nat) (listed : Array Bool) (t : Nat) (a : Act) (w : World), listed.size = l.length → Closed l (fun j => listed.getD j false) → (∀ i, k ≤ i → listed.getD i false = false) →
      ((List.range l.length).filter (fun i => !listed.getD i false)).length ≤ fuel →
      (∃ ρ : Nat → D × Asrt, (∀ i ∈ fr, listed.getD i false = true → R i (ρ i).1 (ρ i).2) ∧ Models Γ (fenv l fr (fun j => listed.getD j false) ρ ++ envL (fun j => listed.getD j false && !(fr.contains j)) l ds 0 L) (fown fr (fun j => listed.getD j false) ρ ++ ms) a w) →
      wpOpsIn (FR Γ.round) 0 P l.toArray (Post Γ K) (Region.linearise.go .any l.toArray fuel t listed []) a w := by
  obtain ⟨hnd, hfo⟩ := fresh_ok hfr
  refine draw_gen hf hkl (fun S a w => ∃ ρ : Nat → D × Asrt, (∀ i ∈ fr, S i = true → R i (ρ i).1 (ρ i).2) ∧ Models Γ (fenv l fr S ρ ++ envL (fun j => S j && !(fr.contains j)) l ds 0 L) (fown fr S ρ ++ ms) a w) ?_ ?_
  rotate_left
  · rintro a w ⟨ρ, hρ, m⟩
    exact htail ρ (fun i hi => hρ i hi (by simp [(hfo i hi).1])) a w m
  · rintro S i o a w hc hik ho hunl hcs ⟨ρ, hρ, m⟩ next hn
    obtain ⟨H, marks, hle, hok, henv, hdf⟩ := m.ex
    -- what is read is told as in the text's order
    have agree : ∀ s, s ∈ slotsOf l o → Env.find (fenv l fr S ρ ++ envL (fun j => S j && !(fr.contains j)) l ds 0 L) s = Env.find (envL (fun j => decide (j < i) && !(fr.contains j)) l ds 0 L) s := by
      intro s hsl
      rw [find_app]
      have hno : Env.find (fenv l fr S ρ) s = none := by
        cases hq : Env.find (fenv l fr S ρ) s with
        | none => rfl
        | some d =>
          obtain ⟨j, hj, e1, _⟩ := (find_map (dstN l) (fun i => (ρ i).1) s (fr.filter S)).1 d hq
          have hj' := (List.mem_filter.1 hj).1
          obtain ⟨_, _, _, _, _, _, hrd⟩ := hfo j hj'
          exact absurd (e1 ▸ hsl) (hrd i o hik ho)
      rw [hno]
      refine find_congr l ds 0 L L (fun j o' hj hd' => ?_) rfl
      simp only [Nat.zero_add]
      cases hfj : fr.contains j with
      | true => simp
      | false =>
        simp only [Bool.not_false, Bool.and_true]
        by_cases hji : j = i
        · subst hji; rw [hunl]; simp
        · have hn' := hf.names i o j o' s ho hj (fun e => hji e.symm) hd' (.inl hsl)
          by_cases hlt : j < i
          · have h1 := (hn' _ hcs).1 hlt (by simp)
            simp only [hji, decide_false, Bool.or_false] at h1
            rw [h1]; simp [hlt]
          · cases hb : S j with
            | true => have h1 := (hn' _ hc).2 (by omega) hb; rw [hunl] at h1; cases h1
            | false => simp [hlt]
    have hsub : EnvOk H (Env.only (slotsOf l o) (envL (fun j => decide (j < i) && !(fr.contains j)) l ds 0 L)) a.tmps := by
      intro s d' hfnd
      obtain ⟨h1, h2⟩ := only_mem hfnd
      exact henv s d' (by rw [agree s h1]; exact h2)
    by_cases hif : i ∈ fr
    · -- something new
      obtain ⟨_, o2, ho2, hg, hd, hdst, hrd⟩ := hfo i hif
      obtain rfl : o2 = o := by rw [ho] at ho2; exact (Option.some.inj ho2).symm
      obtain ⟨hdk, hop⟩ := hfresh i o2 hif ho
      have hlt : dstN l i < Γ.N := by simp only [dstOk, hd] at hdk; exact Nat.le_of_ble_eq_true hdk
      simp only [Region.wanted, hg, if_true]
      refine hop Γ.round H (fown fr S ρ ++ ms ++ (marks.map markA ++ Γ.fr)) a w (by simpa using hok) hsub next _ ?_
      rintro v d ms' w' H' ⟨A, hR, rfl⟩ hl hok' hcv hso
      let ρ' : Nat → D × Asrt := fun j => if j = i then (d, A) else ρ j
      have hin : ∀ j, j ≠ i → ρ' j = ρ j := fun j hj => by simp [ρ', hj]
      have hii : ρ' i = (d, A) := by simp [ρ']
      have hpf := filter_new (S := S) hnd hif hunl
      have hmapd : (fr.filter S).map (fun j => (ρ' j).2) = fown fr S ρ := by
        unfold fown
        refine List.map_congr_left fun j hj => ?_
        have : j ≠ i := fun e => by subst e; have := (List.mem_filter.1 hj).2; rw [hunl] at this; cases this
        rw [hin j this]
      have hpo : (fown fr (fun j => S j || decide (j = i)) ρ').Perm (A :: fown fr S ρ) := by
        have := hpf.map (fun j => (ρ' j).2)
        simp only [List.map_cons, hmapd, hii] at this
        exact this
      refine hn _ _ ⟨ρ', fun j hj hSj => ?_, ?_⟩
      · by_cases hji : j = i
        · subst hji; rw [hii]; exact hR
        · rw [hin j hji]; exact hρ j hj (by simpa [hji] using hSj)
      · refine ⟨⟨H', marks, PH.le_trans hle hl, ?_, ?_, by simpa [hd, Act.put] using hdf⟩, by simp [hd, Act.put, m.size], m.same.trans hso⟩
        · refine hok'.perm ?_
          have h1 : ([A] ++ (fown fr S ρ ++ ms ++ (marks.map markA ++ Γ.fr))) = (A :: fown fr S ρ) ++ (ms ++ (marks.map markA ++ Γ.fr)) := by simp
          rw [h1, List.append_assoc]
          exact hpo.symm.append_right _
        · intro t d' hfnd
          rw [hd]
          have hsz : dstN l i < a.tmps.size := by rw [m.size]; exact hlt
          rw [find_app] at hfnd
          cases hq : Env.find (fenv l fr (fun j => S j || decide (j = i)) ρ') t with
          | some d2 =>
            rw [hq] at hfnd
            simp only [Option.some.injEq] at hfnd
            subst hfnd
            obtain ⟨j, hj, e1, e2⟩ := (find_map (dstN l) (fun i => (ρ' i).1) t _).1 d2 hq
            obtain ⟨hj1, hj2⟩ := List.mem_filter.1 hj
            by_cases hji : j = i
            · subst hji
              rw [hii] at e2
              subst e1 e2
              simpa [Act.put, Array.getD, hsz] using hcv
            · have hne : dstN l i ≠ t := by
                intro e
                obtain ⟨_, oj, hoj, _, hdj, _, _⟩ := hfo j hj1
                exact hdst j oj hoj hji (by rw [hdj, e1, e])
              have hSj : S j = true := by simpa [hji] using hj2
              have hold : Env.find (fenv l fr S ρ ++ envL (fun j => S j && !(fr.contains j)) l ds 0 L) t = some d2 := by
                rw [find_app]
                cases hq2 : Env.find (fenv l fr S ρ) t with
                | none => exact absurd e1 ((find_map (dstN l) (fun i => (ρ i).1) t (fr.filter S)).2 hq2 j (List.mem_filter.2 ⟨hj1, hSj⟩))
                | some d3 =>
                  obtain ⟨j2, hj2', e3, e4⟩ := (find_map (dstN l) (fun i => (ρ i).1) t (fr.filter S)).1 d3 hq2
                  have hj2m := (List.mem_filter.1 hj2').1
                  have : j2 = j := by
                    refine Classical.byContradiction fun hne2 => ?_
                    obtain ⟨_, oj, hoj, _, hdj, hds, _⟩ := hfo j hj1
                    obtain ⟨_, oj2, hoj2, _, hdj2, _, _⟩ := hfo j2 hj2m
                    exact hds j2 oj2 hoj2 hne2 (by rw [hdj2, e3, e1])
                  subst this
                  rw [hin j2 hji] at e2
                  simp only [e4, e2]
              have h1 := (henv t d2 hold).mono hl
              have h2 : (a.put (some (dstN l i)) v).tmps.getD t undef = a.tmps.getD t undef := by
                simp [Act.put, Array.getD_eq_getD_getElem?, Array.getElem?_setIfInBounds, hne]
              rw [h2]; exact h1
          | none =>
            rw [hq] at hfnd
            have hno := (find_map (dstN l) (fun i => (ρ' i).1) t (fr.filter fun j => S j || decide (j = i))).2 hq
            have hne : dstN l i ≠ t := hno i (List.mem_filter.2 ⟨hif, by simp⟩)
            have hold : Env.find (fenv l fr S ρ ++ envL (fun j => S j && !(fr.contains j)) l ds 0 L) t = some d' := by
              rw [find_app]
              cases hq2 : Env.find (fenv l fr S ρ) t with
              | some d3 =>
                obtain ⟨j2, hj2', e3, e4⟩ := (find_map (dstN l) (fun i => (ρ i).1) t (fr.filter S)).1 d3 hq2
                obtain ⟨hj3, hj4⟩ := List.mem_filter.1 hj2'
                exact absurd e3 (hno j2 (List.mem_filter.2 ⟨hj3, by simp [hj4]⟩))
              | none =>
                rw [← hfnd]
                refine find_congr l ds 0 L L (fun j o' hj hd' => ?_) rfl
                simp only [Nat.zero_add]
                by_cases hji : j = i
                · subst hji; rw [List.contains_iff_mem.2 hif]; simp
                · simp [hji]
            have h1 := (henv t d' hold).mono hl
            have h2 : (a.put (some (dstN l i)) v).tmps.getD t undef = a.tmps.getD t undef := by
              simp [Act.put, Array.getD_eq_getD_getElem?, Array.getElem?_setIfInBounds, hne]
            rw [h2]; exact h1
    · -- one that flows
      obtain ⟨d, hd⟩ : ∃ d, ds[i]? = some d := ⟨ds[i]'(by omega), by simp⟩
      obtain ⟨hdst, hst⟩ := hstep i o d hik hif ho hd
      have hcf : fr.contains i = false := by
        cases hb : fr.contains i with
        | true => exact absurd (List.contains_iff_mem.1 hb) hif
        | false => rfl
      have hfS : fr.filter (fun j => S j || decide (j = i)) = fr.filter S := List.filter_congr fun j hj => by
        have : j ≠ i := fun e => hif (e ▸ hj)
        simp [this]
      have e1 : fenv l fr (fun j => S j || decide (j = i)) ρ = fenv l fr S ρ := by unfold fenv; rw [hfS]
      have e2 : fown fr (fun j => S j || decide (j = i)) ρ = fown fr S ρ := by unfold fown; rw [hfS]
      have nxt : ∀ (v : Value) (w' : World) (H' : PH), PH.le H H' → HeapOk H' (fown fr S ρ ++ ms ++ (marks.map markA ++ Γ.fr)) w' → Conc H' d v → SameOut w w' → next (a.put o.dst v) w' := by
        intro v w' H' hl hok' hcv hso
        refine hn _ _ ⟨ρ, fun j hj hSj => hρ j hj ?_, ?_⟩
        · have : j ≠ i := fun e => hif (e ▸ hj)
          simpa [this] using hSj
        · rw [e1, e2]
          refine ⟨⟨H', marks, PH.le_trans hle hl, hok', ?_, by cases o.dst <;> simpa [Act.put] using hdf⟩, by cases o.dst <;> simp [Act.put, m.size], m.same.trans hso⟩
          intro s d' hfnd
          by_cases hds : o.dst = some s
          · have hno : Env.find (fenv l fr S ρ) s = none := by
              cases hq : Env.find (fenv l fr S ρ) s with
              | none => rfl
              | some d3 =>
                obtain ⟨j, hj, e3, _⟩ := (find_map (dstN l) (fun i => (ρ i).1) s (fr.filter S)).1 d3 hq
                have hj' := (List.mem_filter.1 hj).1
                obtain ⟨_, oj, _, _, _, hdj, _⟩ := hfo j hj'
                exact absurd (by rw [hds, e3]) (hdj i o ho (fun e => hif (e ▸ hj')))
            rw [find_app, hno] at hfnd
            have hat := find_at (S := fun j => ((S j || decide (j = i)) && !(fr.contains j))) l ds 0 i L o ho hd hds (by simp [hif]) (fun j o' hj hlo hd' => by
              simp only [Nat.zero_add]
              have hn' := hf.names i o j o' s ho hlo (by omega) hd' (.inr hds)
              cases hb : S j with
              | true => have h1 := (hn' _ hc).2 hj hb; rw [hunl] at h1; cases h1
              | false => have : ¬ j = i := by omega
                         simp [this])
            rw [hat] at hfnd
            simp only [Option.some.injEq] at hfnd
            subst hfnd
            have hsz : s < a.tmps.size := by
              have := hdst
              simp only [dstOk, hds] at this
              have := Nat.le_of_ble_eq_true this
              rw [m.size]; exact this
            simp only [hds, Act.put]
            simpa [Array.getD, hsz] using hcv
          · have hcg : Env.find (fenv l fr S ρ ++ envL (fun j => (S j || decide (j = i)) && !(fr.contains j)) l ds 0 L) s = Env.find (fenv l fr S ρ ++ envL (fun j => S j && !(fr.contains j)) l ds 0 L) s := by
              rw [find_app, find_app]
              rw [find_congr l ds 0 L L (fun j o' hj hd' => ?_) rfl]
              simp only [Nat.zero_add]
              have : ¬ j = i := fun e => by subst e; rw [ho] at hj; simp only [Option.some.injEq] at hj; subst hj; exact hds hd'
              simp [this]
            rw [hcg] at hfnd
            have h1 := (henv s d' hfnd).mono hl
            have h2 : (a.put o.dst v).tmps.getD s undef = a.tmps.getD s undef := by
              cases hod : o.dst with
              | none => rfl
              | some q =>
                have hq : q ≠ s := fun e => hds (by rw [hod, e])
                simp [Act.put, Array.getD_eq_getD_getElem?, Array.getElem?_setIfInBounds, hq]
            rw [h2]
            exact h1
      have hokp : HeapOk H (ms ++ (fown fr S ρ ++ (marks.map markA ++ Γ.fr))) w := hok.perm (by
        have := (List.perm_append_comm (l₁ := fown fr S ρ) (l₂ := ms)).append_right (marks.map markA ++ Γ.fr)
        simpa [List.append_assoc] using this)
      have back : ∀ {H' : PH} {w' : World}, HeapOk H' (ms ++ (fown fr S ρ ++ (marks.map markA ++ Γ.fr))) w' → HeapOk H' (fown fr S ρ ++ ms ++ (marks.map markA ++ Γ.fr)) w' := fun h => h.perm (by
        have := (List.perm_append_comm (l₁ := ms) (l₂ := fown fr S ρ)).append_right (marks.map markA ++ Γ.fr)
        simpa [List.append_assoc] using this)
      unfold Step at hst
      cases hg : o.guard with
      | none =>
        rw [hg] at hst
        simp only at hst
        simp only [Region.wanted, hg, if_true]
        refine hst Γ.round H (fown fr S ρ ++ (marks.map markA ++ Γ.fr)) a w hokp hsub _ _ ?_
        rintro v d2 ms' w' H' ⟨rfl, rfl⟩ hl hok' hcv hso
        exact nxt v w' H' hl (back hok') hcv hso
      | some q =>
        obtain ⟨j, want⟩ := q
        rw [hg] at hst
        simp only at hst
        obtain ⟨s, u, h1, h2, h3⟩ := hst
        have hss : s ∈ slotsOf l o := by simp [slotsOf, hg, h1]
        have hfnd : Env.find (fenv l fr S ρ ++ envL (fun j => S j && !(fr.contains j)) l ds 0 L) s = some (.v u) := by rw [agree s hss]; exact h2
        rcases h3 with ⟨b, hu, h3⟩ | ⟨hu, h4⟩
        · subst hu
          have hy := yielded_of (ops := l.toArray) m (j := j) (t := s) (b := b) (by simpa using h1) hfnd
          simp only [Region.wanted, hg, hy]
          rcases h3 with ⟨h3, h4⟩ | ⟨h3, h4⟩
          · have hbq : (some b == some want) = true := by rw [h3]; simp
            rw [if_pos hbq]
            refine h4 Γ.round H (fown fr S ρ ++ (marks.map markA ++ Γ.fr)) a w hokp hsub _ _ ?_
            rintro v d2 ms' w' H' ⟨rfl, rfl⟩ hl hok' hcv hso
            exact nxt v w' H' hl (back hok') hcv hso
          · have hbq : (some b == some want) = false := by rw [h3]; cases want <;> rfl
            rw [if_neg (by rw [hbq]; simp)]
            exact ⟨fun _ _ => trivial, nxt undef w H (PH.le_refl H) hok (by rw [h4]; exact conc_v.2 rfl) (SameOut.refl w)⟩
        · subst hu
          have hy := yielded_undef (ops := l.toArray) m (j := j) (t := s) (by simpa using h1) hfnd
          simp only [Region.wanted, hg, hy]
          rw [if_neg (by cases want <;> simp)]
          exact ⟨fun _ _ => trivial, nxt undef w H (PH.le_refl H) hok (by rw [h4]; exact conc_v.2 rfl) (SameOut.refl w)⟩
end
end Go.V
