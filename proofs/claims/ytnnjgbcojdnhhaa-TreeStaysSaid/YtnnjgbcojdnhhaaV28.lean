/- Regions that draw their order, among whose operations some make something new. -/
import Derived.Test.YtnnjgbcojdnhhaaV27
set_option linter.unusedVariables false
set_option linter.unusedSimpArgs false
namespace Go.V
section
variable {Γ : Ctx} {P : Program} {L : Env} {ms : List Asrt} {K : KT} {l : List Oper} {k : Nat}
theorem draw_gen (hf : FlowOk l k) (hkl : k ≤ l.length) (Inv : (Nat → Bool) → Act → World → Prop)
    (hnext : ∀ (S : Nat → Bool) (i : Nat) (o : Oper) (a : Act) (w : World), Closed l S → i < k → l[i]? = some o → S i = false → Closed l (fun j => S j || decide (j = i)) → Inv S a w → ∀ (next : Act → World → Prop), (∀ a' w', Inv (fun j => S j || decide (j = i)) a' w' → next a' w') →
      if Region.wanted o (yielded l.toArray a.tmps) = true then o.wpIn (FR Γ.round) 0 P a w next (Post Γ K) else (∀ f, o.about P w a.eval = some f → (FR Γ.round).fn f) ∧ next (a.put o.dst undef) w)
    (htail : ∀ a w, Inv (fun j => decide (j < k)) a w → wpListIn (FR Γ.round) 0 P l.toArray (Post Γ K) (l.drop k) a w) :
    ∀ (fuel : Nat) (listed : Array Bool) (t : Nat) (a : Act) (w : World), listed.size = l.length → Closed l (fun j => listed.getD j false) → (∀ i, k ≤ i → listed.getD i false = false) →
      ((List.range l.length).filter (fun i => !listed.getD i false)).length ≤ fuel → Inv (fun j => listed.getD j false) a w →
      wpOpsIn (FR Γ.round) 0 P l.toArray (Post Γ K) (Region.linearise.go .any l.toArray fuel t listed []) a w := by
  intro fuel
  induction fuel with
  | zero =>
    intro listed t a w hs hc hk hfu m
    -- nothing is left
    have hnone : ∀ i, i < l.length → listed.getD i false = true := by
      intro i hi
      cases hb : listed.getD i false with
      | true => rfl
      | false =>
        have : i ∈ (List.range l.length).filter (fun i => !listed.getD i false) := by simp only [List.mem_filter, List.mem_range]; exact ⟨hi, by simp only [hb, Bool.not_false]⟩
        have := List.length_pos_of_mem this
        omega
    have hkn : k = l.length := by
      rcases Nat.lt_or_ge k l.length with h | h
      · have h1 := hnone k h; have h2 := hk k (Nat.le_refl _); rw [h1] at h2; cases h2
      · omega
    have he : (fun j => listed.getD j false) = (fun j => decide (j < k)) := by
      funext j
      by_cases hj : j < k
      · rw [hnone j (by omega)]; simp [hj]
      · rw [hk j (by omega)]; simp [hj]
    have hdrop : l.drop k = [] := by rw [hkn]; simp
    rw [hdrop] at htail
    have := htail a w (he ▸ m)
    simp only [wpListIn] at this
    simpa [Region.linearise.go, wpOpsIn] using this
  | succ fuel ih =>
    intro listed t a w hs hc hk hfu m
    by_cases hall : ∀ i, i < k → listed.getD i false = true
    · -- the operations that flow are done
      have hl : ∀ j, listed.getD j false = decide (j < k) := by
        intro j
        by_cases h : j < k
        · rw [hall j h]; simp [h]
        · rw [hk j (by omega)]; simp [h]
      have hcount : l.length - k ≤ fuel + 1 := by
        have h2 : ((List.range l.length).filter (fun i => !listed.getD i false)).length = l.length - k := by
          have e : (List.range l.length) = List.range k ++ (List.range (l.length - k)).map (k + ·) := by
            rw [← List.range_add]; congr 1; omega
          rw [e, List.filter_append]
          have e1 : (List.range k).filter (fun i => !listed.getD i false) = [] := by
            rw [List.filter_eq_nil_iff]; intro i hi; rw [hl i]; simp at hi; simp [hi]
          have e2 : ((List.range (l.length - k)).map (k + ·)).filter (fun i => !listed.getD i false) = (List.range (l.length - k)).map (k + ·) := by
            rw [List.filter_eq_self]; intro i hi; simp at hi; obtain ⟨j, _, rfl⟩ := hi; rw [hl]; simp
          rw [e1, e2]; simp
        omega
      rw [phase2 hf k (fuel + 1) t listed (Nat.le_refl _) hkl hcount hs hl]
      have hw := wpOpsIn_eq_wpListIn (F := FR Γ.round) (n := 0) (P := P) (ops := l.toArray) (Q := Post Γ K) (l.drop k) k (fun j => by simp)
      rw [List.length_drop] at hw
      rw [hw]
      have he : (fun j => listed.getD j false) = (fun j => decide (j < k)) := funext hl
      exact htail a w (he ▸ m)
    · -- one of those that flow
      simp only [Region.linearise.go]
      change wpOpsIn (FR Γ.round) 0 P l.toArray (Post Γ K) (match (Region.ready .any l.toArray listed)[t % (Region.ready .any l.toArray listed).length]? with
        | some i => Region.linearise.go .any l.toArray fuel (t / (Region.ready .any l.toArray listed).length) (listed.setIfInBounds i true) [i]
        | none => [].reverse) a w
      obtain ⟨i0, hi0⟩ : ∃ i, i < k ∧ listed.getD i false = false := by
        refine Classical.byContradiction fun hno => hall fun i hi => ?_
        cases hb : listed.getD i false with
        | true => rfl
        | false => exact absurd ⟨i, hi, hb⟩ hno
      have hne : Region.ready .any l.toArray listed ≠ [] := by
        -- the least that is left is ready
        have key : ∀ n i, i ≤ n → i < l.length → listed.getD i false = false → Region.ready .any l.toArray listed ≠ [] := by
          intro n
          induction n with
          | zero =>
            intro i hin hil hb hnil
            have : i ∈ Region.ready .any l.toArray listed := by
              simp only [Region.ready, List.mem_filter, List.mem_range, List.size_toArray]
              refine ⟨hil, ?_⟩
              have hgt : listed.getD i true = false := by simp [Array.getD, hs, hil] at hb ⊢; exact hb
              simp only [hgt, Bool.not_false, Bool.true_and]
              have ho : l.toArray[i]? = some l[i] := by simp [hil]
              rw [ho]
              simp only [Option.map_some, Option.getD_some, Array.all_eq_true']
              intro e he
              by_cases hbd : Region.binds .any e = true
              · have := hf.edge i l[i] (by simp [hil]) e he hbd; omega
              · simp [hbd]
            rw [hnil] at this; cases this
          | succ n ihn =>
            intro i hin hil hb hnil
            by_cases hex : ∃ j, j < i ∧ listed.getD j false = false
            · obtain ⟨j, hj, hjb⟩ := hex
              exact ihn j (by omega) (by omega) hjb hnil
            · have : i ∈ Region.ready .any l.toArray listed := by
                simp only [Region.ready, List.mem_filter, List.mem_range, List.size_toArray]
                refine ⟨hil, ?_⟩
                have hgt : listed.getD i true = false := by simp [Array.getD, hs, hil] at hb ⊢; exact hb
                simp only [hgt, Bool.not_false, Bool.true_and]
                have ho : l.toArray[i]? = some l[i] := by simp [hil]
                rw [ho]
                simp only [Option.map_some, Option.getD_some, Array.all_eq_true']
                intro e he
                by_cases hbd : Region.binds .any e = true
                · have hlt := hf.edge i l[i] (by simp [hil]) e he hbd
                  cases hbe : listed.getD e.on false with
                  | true => simp
                  | false => exact absurd ⟨e.on, hlt, hbe⟩ hex
                · simp [hbd]
              rw [hnil] at this; cases this
        exact key i0 i0 (Nat.le_refl _) (by omega) hi0.2
      cases hsel : (Region.ready .any l.toArray listed)[t % (Region.ready .any l.toArray listed).length]? with
      | none =>
        exfalso
        have hpos : 0 < (Region.ready .any l.toArray listed).length := List.length_pos_iff.2 hne
        have := Nat.mod_lt t hpos
        rw [List.getElem?_eq_none_iff] at hsel
        omega
      | some i =>
        simp only []
        rw [linearise_go_acc, List.reverse_singleton, List.singleton_append]
        have hmem : i ∈ Region.ready .any l.toArray listed := List.mem_of_getElem? hsel
        obtain ⟨hi1, hi2, hi3⟩ := ready_mem (ops := l.toArray) (listed := listed) hmem
        simp only [List.size_toArray] at hi1
        have hunl : listed.getD i false = false := by simp [Array.getD, hs, hi1] at hi2 ⊢; exact hi2
        obtain ⟨o, ho⟩ : ∃ o, l[i]? = some o := ⟨l[i], by simp [hi1]⟩
        have hcs := closed_set (l := l) hs hi1 hc (fun o' ho' => hi3 o' (by simpa using ho'))
        have hik : i < k := by
          rcases Nat.lt_or_ge i k with h | h
          · exact h
          · have h1 := hf.tail i o ho h i0 (by omega) _ hcs (by rw [getD_set _ _ _ (by omega)]; simp)
            rw [getD_set _ _ _ (by omega)] at h1
            have hne' : ¬ i0 = i := by omega
            rw [hi0.2] at h1
            simp [hne'] at h1
        have hcnt : ((List.range l.length).filter (fun j => !(listed.setIfInBounds i true).getD j false)).length ≤ fuel := by
          have hlt : ((List.range l.length).filter (fun j => !(listed.setIfInBounds i true).getD j false)).length < ((List.range l.length).filter (fun j => !listed.getD j false)).length := by
            have hp : ∀ j, (!(listed.setIfInBounds i true).getD j false) = (decide (j ≠ i) && !listed.getD j false) := by
              intro j
              rw [getD_set _ _ _ (by omega)]
              by_cases h : j = i <;> simp [h]
            have e1 : (List.range l.length).filter (fun j => !(listed.setIfInBounds i true).getD j false) = ((List.range l.length).filter (fun j => !listed.getD j false)).filter (fun j => decide (j ≠ i)) := by
              rw [List.filter_filter]; exact List.filter_congr fun j _ => hp j
            rw [e1]
            have hmem' : i ∈ (List.range l.length).filter (fun j => !listed.getD j false) := by
              simp only [List.mem_filter, List.mem_range]; exact ⟨hi1, by rw [hunl]; rfl⟩
            have := List.length_filter_lt_length_iff_exists (l := (List.range l.length).filter (fun j => !listed.getD j false)) (p := fun j => decide (j ≠ i))
            exact this.2 ⟨i, hmem', by simp⟩
          omega
        have hS : (fun j => (listed.setIfInBounds i true).getD j false) = fun j => (listed.getD j false || decide (j = i)) := funext fun j => getD_set _ _ _ (by omega)
        have ho' : l.toArray[i]? = some o := by simpa using ho
        simp only [wpOpsIn, ho']
        refine hnext (fun j => listed.getD j false) i o a w hc hik ho hunl (hS ▸ hcs) m _ ?_
        intro a' w' hI
        refine ih (listed.setIfInBounds i true) _ _ _ (by simp [hs]) hcs (fun j hj => ?_) hcnt (by rw [hS]; exact hI)
        rw [getD_set _ _ _ (by omega), hk j hj]
        have : ¬ j = i := by omega
        simp [this]
end
end Go.V
