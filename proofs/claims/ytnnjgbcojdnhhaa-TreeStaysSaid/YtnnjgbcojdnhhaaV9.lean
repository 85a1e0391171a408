/- Regions that draw their order: the rule. -/
import Derived.Test.YtnnjgbcojdnhhaaV8
set_option linter.unusedVariables false
set_option linter.unusedSimpArgs false
namespace Go.V
/-- One operation among those that flow. -/
def Step (P : Program) (ops : List Oper) (o : Oper) (L : Env) (ms : List Asrt) (d : D) : Prop := match o.guard with
  | none => OpP P o (Env.only (slotsOf ops o) L) ms d
  | some (j, want) => ∃ t u, (ops[j]?).bind (·.dst) = some t ∧ Env.find L t = some (.v u) ∧ ((∃ b, u = .bool b ∧ ((b = want ∧ OpP P o (Env.only (slotsOf ops o) L) ms d) ∨ (b = !want ∧ d = .v undef))) ∨ (u = undef ∧ d = .v undef))
def dstOk (o : Oper) (N : Nat) : Prop := match o.dst with
  | some t => Nat.blt t N = true
  | none => True
def GD (Γ : Ctx) (P : Program) (ops tail : List Oper) (ms : List Asrt) (K : KT) : List Oper → Env → Prop
  | [], L => GO Γ P ops.toArray tail L ms K
  | o :: r, L => ∃ d, dstOk o Γ.N ∧ Step P ops o L ms d ∧ GD Γ P ops tail ms K r (ext o d L)

section
variable {Γ : Ctx} {P : Program} {L : Env} {ms : List Asrt} {K : KT} {l : List Oper} {k : Nat}
theorem envL_take : ∀ (i : Nat) (l : List Oper) (ds : List D) (k0 : Nat) (L : Env), envL (fun j => decide (j < k0 + i)) l ds k0 L = envL (fun _ => true) (l.take i) (ds.take i) k0 L
  | 0, l, ds, k0, L => by
    have : ∀ (l : List Oper) (ds : List D) (k1 : Nat) (L : Env), k0 ≤ k1 → envL (fun j => decide (j < k0 + 0)) l ds k1 L = L := by
      intro l
      induction l with
      | nil => intro ds k1 L _; rfl
      | cons o r ih =>
        intro ds k1 L hk
        cases ds with
        | nil => rfl
        | cons d ds =>
          simp only [envL]
          have : decide (k1 < k0 + 0) = false := by simp; omega
          simp only [this]
          exact ih ds (k1 + 1) L (by omega)
    simpa [envL] using this l ds k0 L (Nat.le_refl _)
  | i + 1, [], ds, k0, L => by simp [envL]
  | i + 1, o :: r, [], k0, L => by simp [envL]
  | i + 1, o :: r, d :: ds, k0, L => by
    simp only [envL, List.take_succ_cons]
    have h : decide (k0 < k0 + (i + 1)) = true := by simp
    have := envL_take i r ds (k0 + 1) (ext o d L)
    rw [if_pos h, if_pos trivial, ← this, show k0 + (i + 1) = k0 + 1 + i by omega]
theorem gd_list {ops tail : List Oper} : ∀ (l : List Oper) (L : Env), GD Γ P ops tail ms K l L → ∃ ds : List D, ds.length = l.length ∧
    (∀ (i : Nat) o d, l[i]? = some o → ds[i]? = some d → dstOk o Γ.N ∧ Step P ops o (envL (fun _ => true) (l.take i) (ds.take i) 0 L) ms d) ∧ GO Γ P ops.toArray tail (envL (fun _ => true) l ds 0 L) ms K
  | [], L, h => ⟨[], rfl, fun i o d hi => by simp at hi, h⟩
  | o :: r, L, h => by
    obtain ⟨d, h1, h2, h3⟩ := h
    obtain ⟨ds, e1, e2, e3⟩ := gd_list r _ h3
    have shift : ∀ (r : List Oper) (ds : List D) (k k' : Nat) (L : Env), envL (fun _ => true) r ds k L = envL (fun _ => true) r ds k' L := by
      intro r
      induction r with
      | nil => intro ds k k' L; rfl
      | cons x r ih => intro ds k k' L; cases ds with
        | nil => rfl
        | cons y ds => simp only [envL]; exact ih _ _ _ _
    refine ⟨d :: ds, by simp [e1], fun i o' d' hi hd => ?_, ?_⟩
    · cases i with
      | zero => simp at hi hd; subst hi hd; exact ⟨h1, by simpa [envL] using h2⟩
      | succ i =>
        obtain ⟨a1, a2⟩ := e2 i o' d' (by simpa using hi) (by simpa using hd)
        refine ⟨a1, ?_⟩
        simp only [List.take_succ_cons, envL, if_true]
        rw [shift _ _ _ 0]
        exact a2
    · simp only [envL, if_true]
      rw [shift _ _ _ 0]
      exact e3

theorem only_mem : ∀ {ks : List Nat} {L : Env} {t : Nat} {d : D}, Env.find (Env.only ks L) t = some d → t ∈ ks ∧ Env.find L t = some d
  | [], L, t, d, h => by simp [Env.only, Env.find] at h
  | s :: ks, L, t, d, h => by
    simp only [Env.only] at h
    cases hf : Env.find L s with
    | none => rw [hf] at h; obtain ⟨a, b⟩ := only_mem h; exact ⟨by simp [a], b⟩
    | some e =>
      rw [hf] at h
      simp only [Env.find] at h
      cases hb : Nat.beq s t with
      | true =>
        rw [hb] at h
        have := Nat.eq_of_beq_eq_true hb
        subst this
        simp only [Option.some.injEq] at h
        subst h
        exact ⟨by simp, hf⟩
      | false => rw [hb] at h; obtain ⟨a, b⟩ := only_mem h; exact ⟨by simp [a], b⟩
theorem getD_set (listed : Array Bool) (i j : Nat) (hi : i < listed.size) : (listed.setIfInBounds i true).getD j false = (listed.getD j false || decide (j = i)) := by
  simp only [Array.getD_eq_getD_getElem?, Array.getElem?_setIfInBounds]
  by_cases h : i = j
  · subst h; simp [hi]
  · have : ¬ j = i := fun e => h e.symm
    simp [h, this]
theorem closed_set {listed : Array Bool} {i : Nat} (hs : listed.size = l.length) (hi : i < l.length) (hc : Closed l (fun j => listed.getD j false)) (hpre : ∀ o, l[i]? = some o → ∀ e ∈ o.after, Region.binds .any e = true → listed.getD e.on false = true) :
    Closed l (fun j => (listed.setIfInBounds i true).getD j false) := by
  intro j o hj hS e he hb
  have hS : (listed.setIfInBounds i true).getD j false = true := hS
  show (listed.setIfInBounds i true).getD e.on false = true
  rw [getD_set _ _ _ (by omega)] at hS ⊢
  by_cases h : j = i
  · subst h; simp [hpre o hj e he hb]
  · have hS' : listed.getD j false = true := by simpa only [h, decide_false, Bool.or_false] using hS
    have := hc j o hj hS' e he hb
    simp only [this, Bool.true_or]
theorem ready_mem {ops : Array Oper} {listed : Array Bool} {i : Nat} (h : i ∈ (List.range ops.size).filter (fun i => !listed.getD i true && ((ops[i]?).map (·.after.all fun e => !Region.binds .any e || listed.getD e.on false)).getD false)) :
    i < ops.size ∧ listed.getD i true = false ∧ ∀ o, ops[i]? = some o → ∀ e ∈ o.after, Region.binds .any e = true → listed.getD e.on false = true := by
  simp only [List.mem_filter, List.mem_range, Bool.and_eq_true, Bool.not_eq_true'] at h
  obtain ⟨h1, h2, h3⟩ := h
  refine ⟨h1, h2, fun o ho e he hb => ?_⟩
  rw [ho] at h3
  simp only [Option.map_some, Option.getD_some, Array.all_eq_true'] at h3
  have := h3 e he
  simpa [hb] using this
theorem phase2 (hf : FlowOk l k) : ∀ (m fuel t : Nat) (listed : Array Bool), k ≤ m → m ≤ l.length → l.length - m ≤ fuel → listed.size = l.length → (∀ j, listed.getD j false = decide (j < m)) →
    Region.linearise.go .any l.toArray fuel t listed [] = List.range' m (l.length - m) := by
  intro m fuel
  induction fuel generalizing m with
  | zero => intro t listed hk hm hfu hs hl; have : l.length - m = 0 := by omega
            simp [Region.linearise.go, this]
  | succ fuel ih =>
    intro t listed hk hm hfu hs hl
    have hready : (List.range l.toArray.size).filter (fun i => !listed.getD i true && ((l.toArray[i]?).map (·.after.all fun e => !Region.binds .any e || listed.getD e.on false)).getD false) = if m < l.length then [m] else [] := by
      have hp : ∀ i, i < l.length → (!listed.getD i true && ((l.toArray[i]?).map (·.after.all fun e => !Region.binds .any e || listed.getD e.on false)).getD false) = decide (i = m) := by
        intro i hi
        have hgt : listed.getD i true = listed.getD i false := by simp [Array.getD, hs, hi]
        have ho : l.toArray[i]? = some l[i] := by simp [hi]
        have ho' : l[i]? = some l[i] := by simp [hi]
        rw [hgt, hl i, ho]
        simp only [Option.map_some, Option.getD_some]
        by_cases h1 : i < m
        · have : ¬ i = m := by omega
          simp [h1, this]
        · by_cases h2 : i = m
          · subst h2
            simp only [h1, decide_false, Bool.not_false, Bool.true_and, decide_true, Array.all_eq_true']
            intro e he
            by_cases hb : Region.binds .any e = true
            · have := hf.edge i _ ho' e he hb
              simp only [hb, Bool.not_true, Bool.false_or, hl]
              simp; omega
            · simp [hb]
          · simp only [h1, decide_false, Bool.not_false, Bool.true_and, h2]
            rw [Bool.eq_false_iff]
            intro hall
            simp only [Array.all_eq_true'] at hall
            have hc : Closed l (fun j => decide (j < m) || decide (j = i)) := by
              intro j o hj hS e he hb
              by_cases hji : j = i
              · subst hji
                rw [ho'] at hj
                simp only [Option.some.injEq] at hj
                subst hj
                have := hall e he
                simp only [hb, Bool.not_true, Bool.false_or, hl] at this
                simp [this]
              · have hjm : j < m := by simpa [hji] using hS
                have := hf.edge j o hj e he hb
                simp; left; omega
            have := hf.tail i _ ho' (by omega) m (by omega) _ hc (by simp)
            simp at this
            omega
      have hcongr : (List.range l.toArray.size).filter (fun i => !listed.getD i true && ((l.toArray[i]?).map (·.after.all fun e => !Region.binds .any e || listed.getD e.on false)).getD false) = (List.range l.length).filter (fun i => i == m) := by
        rw [List.size_toArray]
        refine List.filter_congr fun i hi => ?_
        rw [hp i (by simpa using hi)]
        by_cases h : i = m <;> simp [h]
      rw [hcongr, List.filter_beq]
      split
      · rename_i hlt
        have : List.count m (List.range l.length) = 1 := by
          have hnd : (List.range l.length).Nodup := List.nodup_range
          rw [hnd.count]; simp [hlt]
        rw [this]; rfl
      · rename_i hlt
        have : List.count m (List.range l.length) = 0 := by
          rw [List.count_eq_zero]; simpa using hlt
        rw [this]; rfl
    by_cases hlt : m < l.length
    · rw [if_pos hlt] at hready
      have := ih (m + 1) (t / 1) (listed.setIfInBounds m true) (by omega) (by omega) (by omega) (by simp [hs]) (fun j => by
        rw [getD_set _ _ _ (by omega), hl]
        by_cases h1 : j < m
        · have : j < m + 1 := by omega
          simp [h1, this]
        · by_cases h2 : j = m
          · subst h2; simp
          · have : ¬ j < m + 1 := by omega
            simp [h1, h2, this])
      have e : l.length - m = (l.length - (m + 1)) + 1 := by omega
      rw [e, List.range'_succ, ← this]
      conv => lhs; unfold Region.linearise.go
      simp only [hready]
      simp only [List.length_singleton, Nat.mod_one, List.getElem?_cons_zero]
      rw [linearise_go_acc]
      rfl
    · rw [if_neg hlt] at hready
      have e : l.length - m = 0 := by omega
      rw [e]
      unfold Region.linearise.go
      simp only [hready]
      simp
end
end Go.V
