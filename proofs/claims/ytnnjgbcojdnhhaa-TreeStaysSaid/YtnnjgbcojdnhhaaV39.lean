/- Regions that draw their order, with other names for what is new. -/
import Derived.Test.YtnnjgbcojdnhhaaV38
set_option linter.unusedVariables false
set_option linter.unusedSimpArgs false
namespace Go.V
def exB (fr : List Nat) (al : List (Nat × Nat)) (i : Nat) : Bool := fr.contains i || (al.map (·.1)).contains i
def aenv (l : List Oper) (al : List (Nat × Nat)) (ρ : Nat → D × Asrt) : Env := al.map fun p => (dstN l p.1, (ρ p.2).1)
def aliasJ (l : List Oper) (al : List (Nat × Nat)) (S : Nat → Bool) (a : Act) : Prop := ∀ p ∈ al, S p.1 = true → a.tmps.getD (dstN l p.1) undef = a.tmps.getD (dstN l p.2) undef
/-- The operations fr make something new; those of al give it another name. -/
def freshB2 (l : List Oper) (k : Nat) (fr : List Nat) (al : List (Nat × Nat)) : Bool := decide fr.Nodup && (fr.all fun i => Nat.blt i k && (match l[i]? with
  | some o => o.guard.isNone && (match o.dst with
    | some t => (l.zipIdx.all fun (o', j) => (Nat.beq i j || !(o'.dst == some t)) && (!(Nat.blt j k) || (al.map (·.1)).contains j || !((slotsOf l o').contains t)))
    | none => false)
  | none => false)) && al.all fun p => Nat.blt p.1 k && !(fr.contains p.1) && fr.contains p.2 && Nat.blt p.2 p.1 && (match l[p.1]? with
  | some o => o.guard.isNone && (match o.op with | .assign (.tmp s) => Nat.beq s (dstN l p.2) | _ => false) && (match o.dst with
    | some t => (l.zipIdx.all fun (o', j) => (Nat.beq p.1 j || !(o'.dst == some t)) && (!(Nat.blt j k) || !((slotsOf l o').contains t)))
    | none => false)
  | none => false)
theorem fresh_ok2 {l : List Oper} {k : Nat} {fr : List Nat} {al : List (Nat × Nat)} (h : freshB2 l k fr al = true) : fr.Nodup ∧ (∀ i ∈ fr, i < k ∧ ∃ o, l[i]? = some o ∧ o.guard = none ∧ o.dst = some (dstN l i) ∧ (∀ j o', l[j]? = some o' → j ≠ i → o'.dst ≠ some (dstN l i)) ∧ ∀ j o', j < k → l[j]? = some o' → (al.map (·.1)).contains j = false → dstN l i ∉ slotsOf l o') ∧
    ∀ p ∈ al, p.1 < k ∧ p.1 ∉ fr ∧ p.2 ∈ fr ∧ p.2 < p.1 ∧ ∃ o, l[p.1]? = some o ∧ o.guard = none ∧ o.dst = some (dstN l p.1) ∧ o.op = .assign (.tmp (dstN l p.2)) ∧ (∀ j o', l[j]? = some o' → j ≠ p.1 → o'.dst ≠ some (dstN l p.1)) ∧ ∀ j o', j < k → l[j]? = some o' → dstN l p.1 ∉ slotsOf l o' := by
  simp only [freshB2, Bool.and_eq_true, decide_eq_true_eq, List.all_eq_true] at h
  refine ⟨h.1.1, fun i hi => ?_, fun p hp => ?_⟩
  · obtain ⟨h1, h2⟩ := h.1.2 i hi
    refine ⟨Nat.le_of_ble_eq_true h1, ?_⟩
    split at h2
    · rename_i o ho
      simp only [Bool.and_eq_true, Option.isNone_iff_eq_none] at h2
      obtain ⟨h3, h4⟩ := h2
      split at h4
      · rename_i t ht
        have hd : dstN l i = t := by simp [dstN, ho, ht]
        simp only [List.all_eq_true, Bool.and_eq_true, Bool.or_eq_true, Bool.not_eq_true'] at h4
        refine ⟨o, ho, h3, by rw [hd]; exact ht, fun j o' hj hne => ?_, fun j o' hjk hj hal => ?_⟩
        · have := (h4 (o', j) (List.mem_zipIdx_iff_getElem?.2 (by simpa using hj))).1
          rcases this with h5 | h5
          · exact absurd (Nat.eq_of_beq_eq_true h5).symm hne
          · rw [hd]; intro e; rw [e] at h5; simp at h5
        · have := (h4 (o', j) (List.mem_zipIdx_iff_getElem?.2 (by simpa using hj))).2
          rcases this with (h5 | h5) | h5
          · have : Nat.blt j k = true := Nat.ble_eq_true_of_le hjk
            rw [this] at h5; cases h5
          · rw [hal] at h5; cases h5
          · rw [hd]; intro hm
            rw [List.contains_iff_mem.2 hm] at h5; cases h5
      · cases h4
    · cases h2
  · obtain ⟨⟨⟨⟨h1, h2⟩, h3⟩, h4⟩, h5⟩ := h.2 p hp
    refine ⟨Nat.le_of_ble_eq_true h1, ?_, List.contains_iff_mem.1 h3, Nat.le_of_ble_eq_true h4, ?_⟩
    · intro hm
      rw [List.contains_iff_mem.2 hm] at h2; simp at h2
    · split at h5
      · rename_i o ho
        simp only [Bool.and_eq_true, Option.isNone_iff_eq_none] at h5
        obtain ⟨⟨h6, h7⟩, h8⟩ := h5
        split at h8
        · rename_i t ht
          have hd : dstN l p.1 = t := by simp [dstN, ho, ht]
          simp only [List.all_eq_true, Bool.and_eq_true, Bool.or_eq_true, Bool.not_eq_true'] at h8
          refine ⟨o, ho, h6, by rw [hd]; exact ht, ?_, fun j o' hj hne => ?_, fun j o' hjk hj => ?_⟩
          · split at h7
            · rename_i s hs
              rw [hs, Nat.eq_of_beq_eq_true h7]
            · cases h7
          · have := (h8 (o', j) (List.mem_zipIdx_iff_getElem?.2 (by simpa using hj))).1
            rcases this with h9 | h9
            · exact absurd (Nat.eq_of_beq_eq_true h9).symm hne
            · rw [hd]; intro e; rw [e] at h9; simp at h9
          · have := (h8 (o', j) (List.mem_zipIdx_iff_getElem?.2 (by simpa using hj))).2
            rcases this with h9 | h9
            · have : Nat.blt j k = true := Nat.ble_eq_true_of_le hjk
              rw [this] at h9; cases h9
            · rw [hd]; intro hm
              rw [List.contains_iff_mem.2 hm] at h9; cases h9
        · cases h8
      · cases h5
theorem put_ne {a : Array Value} {i j : Nat} {v : Value} (h : i ≠ j) : (a.setIfInBounds i v).getD j undef = a.getD j undef := by
  simp [Array.getD_eq_getD_getElem?, Array.getElem?_setIfInBounds, h]
theorem put_eq {a : Array Value} {i : Nat} {v : Value} (h : i < a.size) : (a.setIfInBounds i v).getD i undef = v := by
  simp [Array.getD_eq_getD_getElem?, Array.getElem?_setIfInBounds, h]
section
variable {Γ : Ctx} {P : Program} {L : Env} {ms : List Asrt} {K : KT} {l : List Oper} {k : Nat}
theorem find_none {S : Nat → Bool} {t : Nat} : ∀ (l : List Oper) (ds : List D) (k0 : Nat) (L : Env), (∀ j o, l[j]? = some o → o.dst = some t → S (k0 + j) = false) → Env.find (envL S l ds k0 L) t = Env.find L t := by
  intro l ds k0 L h
  rw [find_congr (S' := fun _ => false) l ds k0 L L (fun j o hj hd => h j o hj hd) rfl, envL_none _ _ _ _ (fun _ _ => rfl)]
theorem draw_fresh2 {fr : List Nat} {al : List (Nat × Nat)} (hf : FlowOk l k) (hfr : freshB2 l k fr al = true) (hL : ∀ p ∈ al, Env.find L (dstN l p.1) = none) (ds : List D) (hlen : ds.length = k) (hkl : k ≤ l.length) (R : Nat → D → Asrt → Prop)
    (hstep : ∀ (i : Nat) o d, i < k → exB fr al i = false → l[i]? = some o → ds[i]? = some d → dstOk o Γ.N ∧ Step P l o (envL (fun j => decide (j < i) && !(exB fr al j)) l ds 0 L) ms d)
    (hN : ∀ p ∈ al, dstN l p.1 < Γ.N)
    (hfresh : ∀ (i : Nat) o, i ∈ fr → l[i]? = some o → dstOk o Γ.N ∧ OpT P o (Env.only (slotsOf l o) (envL (fun j => decide (j < i) && !(exB fr al j)) l ds 0 L)) [] (fun d ms' => ∃ A, R i d A ∧ ms' = [A]))
    (htail : ∀ ρ : Nat → D × Asrt, (∀ i ∈ fr, R i (ρ i).1 (ρ i).2) → GO Γ P l.toArray (l.drop k) (aenv l al ρ ++ fenv l fr (fun j => decide (j < k)) ρ ++ envL (fun j => decide (j < k) && !(exB fr al j)) l ds 0 L) (fown fr (fun j => decide (j < k)) ρ ++ ms) K) :
    ∀ (fuel : Nat) (listed : Array Bool) (t : Nat) (a : Act) (w : World), listed.size = l.length → Closed l (fun j => listed.getD j false) → (∀ i, k ≤ i → listed.getD i false = false) →
      ((List.range l.length).filter (fun i => !listed.getD i false)).length ≤ fuel →
      (∃ ρ : Nat → D × Asrt, (∀ i ∈ fr, listed.getD i false = true → R i (ρ i).1 (ρ i).2) ∧ Models Γ (fenv l fr (fun j => listed.getD j false) ρ ++ envL (fun j => listed.getD j false && !(exB fr al j)) l ds 0 L) (fown fr (fun j => listed.getD j false) ρ ++ ms) a w ∧ aliasJ l al (fun j => listed.getD j false) a) →
      wpOpsIn (FR Γ.round) 0 P l.toArray (Post Γ K) (Region.linearise.go .any l.toArray fuel t listed []) a w := by
  obtain ⟨hnd, hfo, hao⟩ := fresh_ok2 hfr
  refine draw_gen hf hkl (fun S a w => ∃ ρ : Nat → D × Asrt, (∀ i ∈ fr, S i = true → R i (ρ i).1 (ρ i).2) ∧ Models Γ (fenv l fr S ρ ++ envL (fun j => S j && !(exB fr al j)) l ds 0 L) (fown fr S ρ ++ ms) a w ∧ aliasJ l al S a) ?_ ?_
  rotate_left
  · rintro a w ⟨ρ, hρ, m, hJ⟩
    refine htail ρ (fun i hi => hρ i hi (by simp [(hfo i hi).1])) a w ?_
    obtain ⟨H, marks, hle, hok, henv, hdf⟩ := m.ex
    refine ⟨⟨H, marks, hle, hok, fun t d ht => ?_, hdf⟩, m.size, m.same⟩
    rw [List.append_assoc, find_app] at ht
    cases hq : Env.find (aenv l al ρ) t with
    | none => rw [hq] at ht; exact henv t d ht
    | some d2 =>
      rw [hq] at ht
      simp only [Option.some.injEq] at ht
      subst ht
      obtain ⟨p, hp, e1, e2⟩ := (find_map (fun p : Nat × Nat => dstN l p.1) (fun p : Nat × Nat => (ρ p.2).1) t al).1 d2 hq
      obtain ⟨h1, h2, h3, h4, _⟩ := hao p hp
      rw [← e1, hJ p hp (by simp [h1])]
      refine henv _ _ ?_
      rw [find_app]
      cases hq2 : Env.find (fenv l fr (fun j => decide (j < k)) ρ) (dstN l p.2) with
      | none => exact absurd rfl ((find_map (dstN l) (fun i => (ρ i).1) (dstN l p.2) (fr.filter fun j => decide (j < k))).2 hq2 p.2 (List.mem_filter.2 ⟨h3, by simp [(hfo p.2 h3).1]⟩))
      | some d3 =>
        obtain ⟨j2, hj2', e3, e4⟩ := (find_map (dstN l) (fun i => (ρ i).1) (dstN l p.2) (fr.filter fun j => decide (j < k))).1 d3 hq2
        have hj2 := (List.mem_filter.1 hj2').1
        have : j2 = p.2 := by
          refine Classical.byContradiction fun hne2 => ?_
          obtain ⟨_, oj, hoj, _, hdj, hds, _⟩ := hfo p.2 h3
          obtain ⟨_, oj2, hoj2, _, hdj2, _, _⟩ := hfo j2 hj2
          exact hds j2 oj2 hoj2 hne2 (by rw [hdj2, e3])
        subst this
        simp only [e4, e2]
  · rintro S i o a w hc hik ho hunl hcs ⟨ρ, hρ, m, hJ⟩ next hn
    obtain ⟨H, marks, hle, hok, henv, hdf⟩ := m.ex
    by_cases hia : ∃ p ∈ al, p.1 = i
    · -- another name
      obtain ⟨p, hp, rfl⟩ := hia
      obtain ⟨_, h2, h3, h4, o2, ho2, hg, hd, hop, hds, hrd⟩ := hao p hp
      obtain rfl : o2 = o := by rw [ho] at ho2; exact (Option.some.inj ho2).symm
      simp only [Region.wanted, hg, if_true]
      have hex : exB fr al p.1 = true := by unfold exB; rw [Bool.or_eq_true]; exact .inr (List.contains_iff_mem.2 (List.mem_map.2 ⟨p, hp, rfl⟩))
      have hlt : dstN l p.1 < a.tmps.size := by
        have := hN p hp
        rw [m.size]; exact this
      refine op_val (w' := w) (v := a.eval (.tmp (dstN l p.2))) (by simp [hop]) (by simp [execOp, hop, Sem.run]) (hn _ _ ⟨ρ, fun j hj hSj => hρ j hj ?_, ?_, ?_⟩)
      · have : j ≠ p.1 := fun e => h2 (e ▸ hj)
        simpa [this] using hSj
      · have hfS : fr.filter (fun j => S j || decide (j = p.1)) = fr.filter S := List.filter_congr fun j hj => by
          have : j ≠ p.1 := fun e => h2 (e ▸ hj)
          simp [this]
        have e1 : fenv l fr (fun j => S j || decide (j = p.1)) ρ = fenv l fr S ρ := by unfold fenv; rw [hfS]
        have e2 : fown fr (fun j => S j || decide (j = p.1)) ρ = fown fr S ρ := by unfold fown; rw [hfS]
        rw [e1, e2]
        refine ⟨⟨H, marks, hle, hok, ?_, by simpa [hd, Act.put] using hdf⟩, by simp [hd, Act.put, m.size], m.same⟩
        intro s d' hfnd
        have hcg : Env.find (fenv l fr S ρ ++ envL (fun j => (S j || decide (j = p.1)) && !(exB fr al j)) l ds 0 L) s = Env.find (fenv l fr S ρ ++ envL (fun j => S j && !(exB fr al j)) l ds 0 L) s := by
          rw [find_app, find_app]
          rw [find_congr l ds 0 L L (fun j o' hj hd' => ?_) rfl]
          simp only [Nat.zero_add]
          by_cases hj1 : j = p.1
          · subst hj1; rw [hex]; simp
          · simp [hj1]
        rw [hcg] at hfnd
        have hne : dstN l p.1 ≠ s := by
          intro e
          rw [find_app] at hfnd
          cases hq : Env.find (fenv l fr S ρ) s with
          | some d3 =>
            obtain ⟨j, hj, e3, _⟩ := (find_map (dstN l) (fun i => (ρ i).1) s (fr.filter S)).1 d3 hq
            have hj' := (List.mem_filter.1 hj).1
            obtain ⟨_, oj, hoj, _, hdj, _, _⟩ := hfo j hj'
            exact hds j oj hoj (fun e4 => h2 (e4 ▸ hj')) (by rw [hdj, e3, e])
          | none =>
            rw [hq] at hfnd
            rw [← e] at hfnd
            rw [find_none l ds 0 L (fun j o' hj hd' => ?_), hL p hp] at hfnd
            · cases hfnd
            · simp only [Nat.zero_add]
              by_cases hj1 : j = p.1
              · subst hj1; rw [hex]; simp
              · exact absurd hd' (hds j o' hj hj1)
        have h5 := henv s d' hfnd
        have h6 : (a.put o2.dst (a.eval (.tmp (dstN l p.2)))).tmps.getD s undef = a.tmps.getD s undef := by
          rw [hd]
          simp [Act.put, Array.getD_eq_getD_getElem?, Array.getElem?_setIfInBounds, hne]
        rw [h6]; exact h5
      · intro q hq hSq
        have h7 : dstN l p.1 ≠ dstN l q.2 := by
          obtain ⟨_, _, hq3, _⟩ := hao q hq
          obtain ⟨_, oj, hoj, _, hdj, _, _⟩ := hfo q.2 hq3
          exact fun e => hds q.2 oj hoj (fun e2 => h2 (e2 ▸ hq3)) (by rw [hdj, e])
        by_cases hqp : q.1 = p.1
        · obtain ⟨_, _, hq3, _, oq, hoq, _, _, hopq, _⟩ := hao q hq
          have : oq = o2 := by rw [hqp, ho] at hoq; exact (Option.some.inj hoq).symm
          subst this
          rw [hop] at hopq
          simp only [Op.assign.injEq, Operand.tmp.injEq] at hopq
          rw [hd, hqp]
          simp only [Act.put, Act.eval]
          rw [put_eq hlt, put_ne h7, hopq]
        · have hq1 : dstN l p.1 ≠ dstN l q.1 := by
            obtain ⟨_, _, _, _, oq, hoq, _, hdq, _⟩ := hao q hq
            exact fun e => hds q.1 oq hoq hqp (by rw [hdq, e])
          have := hJ q hq (by simpa [hqp] using hSq)
          rw [hd]
          simp only [Act.put]
          rw [put_ne hq1, put_ne h7]
          exact this
    have hJ' : ∀ v, aliasJ l al (fun j => S j || decide (j = i)) (a.put o.dst v) := by
      intro v q hq hSq
      obtain ⟨_, hq2, hq3, hq4, oq, hoq, _, hdq, hopq, hdsq, _⟩ := hao q hq
      have hqi : q.1 ≠ i := fun e => hia ⟨q, hq, e⟩
      have hSq1 : S q.1 = true := by simpa [hqi] using hSq
      have hold := hJ q hq hSq1
      obtain ⟨_, oj, hoj, _, hdj, hdsj, _⟩ := hfo q.2 hq3
      have hS2 : S q.2 = true := by
        have := hf.names q.1 oq q.2 oj (dstN l q.2) hoq hoj (by omega) hdj (.inl (by simp [slotsOf, hopq, Op.operands])) S hc
        exact this.1 hq4 hSq1
      have hi2 : i ≠ q.2 := fun e => by rw [e, hS2] at hunl; cases hunl
      have n1 : o.dst ≠ some (dstN l q.1) := hdsq i o ho (fun e => hqi e.symm)
      have n2 : o.dst ≠ some (dstN l q.2) := hdsj i o ho hi2
      cases hod : o.dst with
      | none => exact hold
      | some s =>
        rw [hod] at n1 n2
        have m1 : s ≠ dstN l q.1 := fun e => n1 (by rw [e])
        have m2 : s ≠ dstN l q.2 := fun e => n2 (by rw [e])
        simp only [Act.put]
        rw [put_ne m1, put_ne m2]
        exact hold
    have hia2 : (al.map (·.1)).contains i = false := by
      cases hb : (al.map (·.1)).contains i with
      | false => rfl
      | true =>
        obtain ⟨p, hp, e⟩ := List.mem_map.1 (List.contains_iff_mem.1 hb)
        exact absurd ⟨p, hp, e⟩ hia
    -- what is read is told as in the text's order
    have agree : ∀ s, s ∈ slotsOf l o → Env.find (fenv l fr S ρ ++ envL (fun j => S j && !(exB fr al j)) l ds 0 L) s = Env.find (envL (fun j => decide (j < i) && !(exB fr al j)) l ds 0 L) s := by
      intro s hsl
      rw [find_app]
      have hno : Env.find (fenv l fr S ρ) s = none := by
        cases hq : Env.find (fenv l fr S ρ) s with
        | none => rfl
        | some d =>
          obtain ⟨j, hj, e1, _⟩ := (find_map (dstN l) (fun i => (ρ i).1) s (fr.filter S)).1 d hq
          have hj' := (List.mem_filter.1 hj).1
          obtain ⟨_, _, _, _, _, _, hrd⟩ := hfo j hj'
          exact absurd (e1 ▸ hsl) (hrd i o hik ho hia2)
      rw [hno]
      refine find_congr l ds 0 L L (fun j o' hj hd' => ?_) rfl
      simp only [Nat.zero_add]
      cases hfj : exB fr al j with
      | true => simp
      | false =>
        simp only [Bool.not_false, Bool.and_true]
        by_cases hji : j = i
        · subst hji; rw [hunl]; simp
        · have hn' := hf.names i o j o' s ho hj (fun e => hji e.symm) hd' (.inl hsl)
          by_cases hlt : j < i
          · have h1 := (hn' _ hcs).1 hlt (by simp)
            simp only [hji, decide_false, Bool.or_false] at h1
            rw [h1]; simp [hlt]
          · cases hb : S j with
            | true => have h1 := (hn' _ hc).2 (by omega) hb; rw [hunl] at h1; cases h1
            | false => simp [hlt]
    have hsub : EnvOk H (Env.only (slotsOf l o) (envL (fun j => decide (j < i) && !(exB fr al j)) l ds 0 L)) a.tmps := by
      intro s d' hfnd
      obtain ⟨h1, h2⟩ := only_mem hfnd
      exact henv s d' (by rw [agree s h1]; exact h2)
    by_cases hif : i ∈ fr
    · -- something new
      obtain ⟨_, o2, ho2, hg, hd, hdst, hrd⟩ := hfo i hif
      obtain rfl : o2 = o := by rw [ho] at ho2; exact (Option.some.inj ho2).symm
      obtain ⟨hdk, hop⟩ := hfresh i o2 hif ho
      have hlt : dstN l i < Γ.N := by simp only [dstOk, hd] at hdk; exact Nat.le_of_ble_eq_true hdk
      simp only [Region.wanted, hg, if_true]
      refine hop Γ.round H (fown fr S ρ ++ ms ++ (marks.map markA ++ Γ.fr)) a w (by simpa using hok) hsub next _ ?_
      rintro v d ms' w' H' ⟨A, hR, rfl⟩ hl hok' hcv hso
      let ρ' : Nat → D × Asrt := fun j => if j = i then (d, A) else ρ j
      have hin : ∀ j, j ≠ i → ρ' j = ρ j := fun j hj => by simp [ρ', hj]
      have hii : ρ' i = (d, A) := by simp [ρ']
      have hpf := filter_new (S := S) hnd hif hunl
      have hmapd : (fr.filter S).map (fun j => (ρ' j).2) = fown fr S ρ := by
        unfold fown
        refine List.map_congr_left fun j hj => ?_
        have : j ≠ i := fun e => by subst e; have := (List.mem_filter.1 hj).2; rw [hunl] at this; cases this
        rw [hin j this]
      have hpo : (fown fr (fun j => S j || decide (j = i)) ρ').Perm (A :: fown fr S ρ) := by
        have := hpf.map (fun j => (ρ' j).2)
        simp only [List.map_cons, hmapd, hii] at this
        exact this
      refine hn _ _ ⟨ρ', fun j hj hSj => ?_, ?_, hJ' v⟩
      · by_cases hji : j = i
        · subst hji; rw [hii]; exact hR
        · rw [hin j hji]; exact hρ j hj (by simpa [hji] using hSj)
      · refine ⟨⟨H', marks, PH.le_trans hle hl, ?_, ?_, by simpa [hd, Act.put] using hdf⟩, by simp [hd, Act.put, m.size], m.same.trans hso⟩
        · refine hok'.perm ?_
          have h1 : ([A] ++ (fown fr S ρ ++ ms ++ (marks.map markA ++ Γ.fr))) = (A :: fown fr S ρ) ++ (ms ++ (marks.map markA ++ Γ.fr)) := by simp
          rw [h1, List.append_assoc]
          exact hpo.symm.append_right _
        · intro t d' hfnd
          rw [hd]
          have hsz : dstN l i < a.tmps.size := by rw [m.size]; exact hlt
          rw [find_app] at hfnd
          cases hq : Env.find (fenv l fr (fun j => S j || decide (j = i)) ρ') t with
          | some d2 =>
            rw [hq] at hfnd
            simp only [Option.some.injEq] at hfnd
            subst hfnd
            obtain ⟨j, hj, e1, e2⟩ := (find_map (dstN l) (fun i => (ρ' i).1) t _).1 d2 hq
            obtain ⟨hj1, hj2⟩ := List.mem_filter.1 hj
            by_cases hji : j = i
            · subst hji
              rw [hii] at e2
              subst e1 e2
              simpa [Act.put, Array.getD, hsz] using hcv
            · have hne : dstN l i ≠ t := by
                intro e
                obtain ⟨_, oj, hoj, _, hdj, _, _⟩ := hfo j hj1
                exact hdst j oj hoj hji (by rw [hdj, e1, e])
              have hSj : S j = true := by simpa [hji] using hj2
              have hold : Env.find (fenv l fr S ρ ++ envL (fun j => S j && !(exB fr al j)) l ds 0 L) t = some d2 := by
                rw [find_app]
                cases hq2 : Env.find (fenv l fr S ρ) t with
                | none => exact absurd e1 ((find_map (dstN l) (fun i => (ρ i).1) t (fr.filter S)).2 hq2 j (List.mem_filter.2 ⟨hj1, hSj⟩))
                | some d3 =>
                  obtain ⟨j2, hj2', e3, e4⟩ := (find_map (dstN l) (fun i => (ρ i).1) t (fr.filter S)).1 d3 hq2
                  have hj2m := (List.mem_filter.1 hj2').1
                  have : j2 = j := by
                    refine Classical.byContradiction fun hne2 => ?_
                    obtain ⟨_, oj, hoj, _, hdj, hds, _⟩ := hfo j hj1
                    obtain ⟨_, oj2, hoj2, _, hdj2, _, _⟩ := hfo j2 hj2m
                    exact hds j2 oj2 hoj2 hne2 (by rw [hdj2, e3, e1])
                  subst this
                  rw [hin j2 hji] at e2
                  simp only [e4, e2]
              have h1 := (henv t d2 hold).mono hl
              have h2 : (a.put (some (dstN l i)) v).tmps.getD t undef = a.tmps.getD t undef := by
                simp [Act.put, Array.getD_eq_getD_getElem?, Array.getElem?_setIfInBounds, hne]
              rw [h2]; exact h1
          | none =>
            rw [hq] at hfnd
            have hno := (find_map (dstN l) (fun i => (ρ' i).1) t (fr.filter fun j => S j || decide (j = i))).2 hq
            have hne : dstN l i ≠ t := hno i (List.mem_filter.2 ⟨hif, by simp⟩)
            have hold : Env.find (fenv l fr S ρ ++ envL (fun j => S j && !(exB fr al j)) l ds 0 L) t = some d' := by
              rw [find_app]
              cases hq2 : Env.find (fenv l fr S ρ) t with
              | some d3 =>
                obtain ⟨j2, hj2', e3, e4⟩ := (find_map (dstN l) (fun i => (ρ i).1) t (fr.filter S)).1 d3 hq2
                obtain ⟨hj3, hj4⟩ := List.mem_filter.1 hj2'
                exact absurd e3 (hno j2 (List.mem_filter.2 ⟨hj3, by simp [hj4]⟩))
              | none =>
                rw [← hfnd]
                refine find_congr l ds 0 L L (fun j o' hj hd' => ?_) rfl
                simp only [Nat.zero_add]
                by_cases hji : j = i
                · subst hji; unfold exB; rw [List.contains_iff_mem.2 hif]; simp
                · simp [hji]
            have h1 := (henv t d' hold).mono hl
            have h2 : (a.put (some (dstN l i)) v).tmps.getD t undef = a.tmps.getD t undef := by
              simp [Act.put, Array.getD_eq_getD_getElem?, Array.getElem?_setIfInBounds, hne]
            rw [h2]; exact h1
    · -- one that flows
      obtain ⟨d, hd⟩ : ∃ d, ds[i]? = some d := ⟨ds[i]'(by omega), by simp⟩
      have hcf : exB fr al i = false := by
        unfold exB
        rw [hia2, Bool.or_false]
        cases hb : fr.contains i with
        | true => exact absurd (List.contains_iff_mem.1 hb) hif
        | false => rfl
      obtain ⟨hdst, hst⟩ := hstep i o d hik hcf ho hd
      have hfS : fr.filter (fun j => S j || decide (j = i)) = fr.filter S := List.filter_congr fun j hj => by
        have : j ≠ i := fun e => hif (e ▸ hj)
        simp [this]
      have e1 : fenv l fr (fun j => S j || decide (j = i)) ρ = fenv l fr S ρ := by unfold fenv; rw [hfS]
      have e2 : fown fr (fun j => S j || decide (j = i)) ρ = fown fr S ρ := by unfold fown; rw [hfS]
      have nxt : ∀ (v : Value) (w' : World) (H' : PH), PH.le H H' → HeapOk H' (fown fr S ρ ++ ms ++ (marks.map markA ++ Γ.fr)) w' → Conc H' d v → SameOut w w' → next (a.put o.dst v) w' := by
        intro v w' H' hl hok' hcv hso
        refine hn _ _ ⟨ρ, fun j hj hSj => hρ j hj ?_, ?_, hJ' v⟩
        · have : j ≠ i := fun e => hif (e ▸ hj)
          simpa [this] using hSj
        · rw [e1, e2]
          refine ⟨⟨H', marks, PH.le_trans hle hl, hok', ?_, by cases o.dst <;> simpa [Act.put] using hdf⟩, by cases o.dst <;> simp [Act.put, m.size], m.same.trans hso⟩
          intro s d' hfnd
          by_cases hds : o.dst = some s
          · have hno : Env.find (fenv l fr S ρ) s = none := by
              cases hq : Env.find (fenv l fr S ρ) s with
              | none => rfl
              | some d3 =>
                obtain ⟨j, hj, e3, _⟩ := (find_map (dstN l) (fun i => (ρ i).1) s (fr.filter S)).1 d3 hq
                have hj' := (List.mem_filter.1 hj).1
                obtain ⟨_, oj, _, _, _, hdj, _⟩ := hfo j hj'
                exact absurd (by rw [hds, e3]) (hdj i o ho (fun e => hif (e ▸ hj')))
            rw [find_app, hno] at hfnd
            have hat := find_at (S := fun j => ((S j || decide (j = i)) && !(exB fr al j))) l ds 0 i L o ho hd hds (by simp [hcf]) (fun j o' hj hlo hd' => by
              simp only [Nat.zero_add]
              have hn' := hf.names i o j o' s ho hlo (by omega) hd' (.inr hds)
              cases hb : S j with
              | true => have h1 := (hn' _ hc).2 hj hb; rw [hunl] at h1; cases h1
              | false => have : ¬ j = i := by omega
                         simp [this])
            rw [hat] at hfnd
            simp only [Option.some.injEq] at hfnd
            subst hfnd
            have hsz : s < a.tmps.size := by
              have := hdst
              simp only [dstOk, hds] at this
              have := Nat.le_of_ble_eq_true this
              rw [m.size]; exact this
            simp only [hds, Act.put]
            simpa [Array.getD, hsz] using hcv
          · have hcg : Env.find (fenv l fr S ρ ++ envL (fun j => (S j || decide (j = i)) && !(exB fr al j)) l ds 0 L) s = Env.find (fenv l fr S ρ ++ envL (fun j => S j && !(exB fr al j)) l ds 0 L) s := by
              rw [find_app, find_app]
              rw [find_congr l ds 0 L L (fun j o' hj hd' => ?_) rfl]
              simp only [Nat.zero_add]
              have : ¬ j = i := fun e => by subst e; rw [ho] at hj; simp only [Option.some.injEq] at hj; subst hj; exact hds hd'
              simp [this]
            rw [hcg] at hfnd
            have h1 := (henv s d' hfnd).mono hl
            have h2 : (a.put o.dst v).tmps.getD s undef = a.tmps.getD s undef := by
              cases hod : o.dst with
              | none => rfl
              | some q =>
                have hq : q ≠ s := fun e => hds (by rw [hod, e])
                simp [Act.put, Array.getD_eq_getD_getElem?, Array.getElem?_setIfInBounds, hq]
            rw [h2]
            exact h1
      have hokp : HeapOk H (ms ++ (fown fr S ρ ++ (marks.map markA ++ Γ.fr))) w := hok.perm (by
        have := (List.perm_append_comm (l₁ := fown fr S ρ) (l₂ := ms)).append_right (marks.map markA ++ Γ.fr)
        simpa [List.append_assoc] using this)
      have back : ∀ {H' : PH} {w' : World}, HeapOk H' (ms ++ (fown fr S ρ ++ (marks.map markA ++ Γ.fr))) w' → HeapOk H' (fown fr S ρ ++ ms ++ (marks.map markA ++ Γ.fr)) w' := fun h => h.perm (by
        have := (List.perm_append_comm (l₁ := ms) (l₂ := fown fr S ρ)).append_right (marks.map markA ++ Γ.fr)
        simpa [List.append_assoc] using this)
      unfold Step at hst
      cases hg : o.guard with
      | none =>
        rw [hg] at hst
        simp only at hst
        simp only [Region.wanted, hg, if_true]
        refine hst Γ.round H (fown fr S ρ ++ (marks.map markA ++ Γ.fr)) a w hokp hsub _ _ ?_
        rintro v d2 ms' w' H' ⟨rfl, rfl⟩ hl hok' hcv hso
        exact nxt v w' H' hl (back hok') hcv hso
      | some q =>
        obtain ⟨j, want⟩ := q
        rw [hg] at hst
        simp only at hst
        obtain ⟨s, u, h1, h2, h3⟩ := hst
        have hss : s ∈ slotsOf l o := by simp [slotsOf, hg, h1]
        have hfnd : Env.find (fenv l fr S ρ ++ envL (fun j => S j && !(exB fr al j)) l ds 0 L) s = some (.v u) := by rw [agree s hss]; exact h2
        rcases h3 with ⟨b, hu, h3⟩ | ⟨hu, h4⟩
        · subst hu
          have hy := yielded_of (ops := l.toArray) m (j := j) (t := s) (b := b) (by simpa using h1) hfnd
          simp only [Region.wanted, hg, hy]
          rcases h3 with ⟨h3, h4⟩ | ⟨h3, h4⟩
          · have hbq : (some b == some want) = true := by rw [h3]; simp
            rw [if_pos hbq]
            refine h4 Γ.round H (fown fr S ρ ++ (marks.map markA ++ Γ.fr)) a w hokp hsub _ _ ?_
            rintro v d2 ms' w' H' ⟨rfl, rfl⟩ hl hok' hcv hso
            exact nxt v w' H' hl (back hok') hcv hso
          · have hbq : (some b == some want) = false := by rw [h3]; cases want <;> rfl
            rw [if_neg (by rw [hbq]; simp)]
            exact ⟨fun _ _ => trivial, nxt undef w H (PH.le_refl H) hok (by rw [h4]; exact conc_v.2 rfl) (SameOut.refl w)⟩
        · subst hu
          have hy := yielded_undef (ops := l.toArray) m (j := j) (t := s) (by simpa using h1) hfnd
          simp only [Region.wanted, hg, hy]
          rw [if_neg (by cases want <;> simp)]
          exact ⟨fun _ _ => trivial, nxt undef w H (PH.le_refl H) hok (by rw [h4]; exact conc_v.2 rfl) (SameOut.refl w)⟩
end
end Go.V
