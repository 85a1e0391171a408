/- Small rules. -/
import Derived.Test.YtnnjgbcojdnhhaaV12
set_option linter.unusedVariables false
set_option linter.unusedSimpArgs false
namespace Go.V
section
variable {Γ : Ctx} {P : Program} {L L' : Env} {ms : List Asrt} {K : KT} {x : Operand}
/-- What is known is told otherwise. -/
def RefE (ms : List Asrt) (L L' : Env) : Prop := ∀ t d', Env.find L' t = some d' → ∃ d, Env.find L t = some d ∧ (∀ x, d' = .v x → d = d') ∧ ∀ H fr w u, HeapOk H (ms ++ fr) w → Conc H d u → Conc H d' u
theorem RefE.refines (h : RefE ms L L') : Refines L ms L' ms := by
  intro Γ a w m
  obtain ⟨H, marks, hle, hok, henv, hdf⟩ := m.ex
  refine ⟨⟨H, marks, hle, hok, fun t d' ht => ?_, hdf⟩, m.size, m.same⟩
  obtain ⟨d, h1, _, h2⟩ := h t d' ht
  exact h2 H _ w _ hok (henv t d h1)
theorem find_only : ∀ {ks : List Nat} {L : Env} {t : Nat} {d : D}, t ∈ ks → Env.find L t = some d → Env.find (Env.only ks L) t = some d
  | [], L, t, d, ht, _ => by cases ht
  | s :: ks, L, t, d, ht, hf => by
    simp only [Env.only]
    by_cases hst : s = t
    · subst hst
      rw [hf]
      simp only [Env.find]
      have : Nat.beq s s = true := by simp
      rw [this]
    · have hm : t ∈ ks := by
        rcases List.mem_cons.1 ht with h | h
        · exact absurd h.symm hst
        · exact h
      cases hfs : Env.find L s with
      | none => exact find_only hm hf
      | some e =>
        simp only [Env.find]
        have : Nat.beq s t = false := by
          cases hb : Nat.beq s t with
          | true => exact absurd (Nat.eq_of_beq_eq_true hb) hst
          | false => rfl
        rw [this]
        exact find_only hm hf
theorem RefE.opP {o : Oper} {d : D} {ks : List Nat} (h : RefE ms L L') (hp : OpP P o (Env.only ks L') ms d) : OpP P o (Env.only ks L) ms d := by
  intro ro H fr a w hok henv
  refine hp ro H fr a w hok fun t d' ht => ?_
  obtain ⟨a1, a2⟩ := only_mem ht
  obtain ⟨e, h1, _, h2⟩ := h t d' a2
  exact h2 H fr w _ hok (henv t e (find_only a1 h1))
theorem RefE.ext {o : Oper} {d : D} (h : RefE ms L L') : RefE ms (ext o d L) (ext o d L') := by
  intro t d' ht
  by_cases hd : o.dst = some t
  · rw [find_ext_eq hd] at ht ⊢
    simp only [Option.some.injEq] at ht
    subst ht
    exact ⟨d, rfl, fun _ _ => rfl, fun _ _ _ _ _ c => c⟩
  · rw [find_ext_ne hd] at ht ⊢
    exact h t d' ht
theorem gd_conv {ops tail : List Oper} : ∀ {l : List Oper} {L L' : Env}, RefE ms L L' → GD Γ P ops tail ms K l L' → GD Γ P ops tail ms K l L := by
  intro l
  induction l with
  | nil => intro L L' h k; exact go_conv h.refines k
  | cons o r ih =>
    intro L L' h k
    obtain ⟨d, h1, h2, h3⟩ := k
    refine ⟨d, h1, ?_, ih h.ext h3⟩
    unfold Step at h2 ⊢
    split
    · rename_i hg; rw [hg] at h2; exact h.opP h2
    · rename_i j want hg
      rw [hg] at h2
      obtain ⟨t, u, e1, e2, e3⟩ := h2
      obtain ⟨e, g1, g2, _⟩ := h t _ e2
      -- the guard is told as it was
      exact ⟨t, u, e1, by rw [g1, g2 u rfl], e3.imp (fun ⟨b, hu, q⟩ => ⟨b, hu, q.imp (fun ⟨p, q⟩ => ⟨p, h.opP q⟩) id⟩) id⟩
theorem peekE {i : Nat} {a : Option Addr} {cap n : Nat} {T : TypeId} {sz : Nat} {α : Type} {f : α → D} {xs : List α} (k : Nat) (hf : Env.find L i = some (.v (.slice a n cap))) (hk : ms[k]? = some (row a cap T sz f xs)) (hn : xs.length = n) : RefE ms L ((i, .list sz f xs) :: L) := by
  subst hn
  intro t d' ht
  simp only [Env.find] at ht
  cases hb : Nat.beq i t with
  | true =>
    rw [hb] at ht
    have := Nat.eq_of_beq_eq_true hb
    subst this
    simp only [Option.some.injEq] at ht
    subst ht
    refine ⟨_, hf, (fun b e => (by cases e)), fun H fr w u hok c => ?_⟩
    rw [conc_v.1 c]
    exact row_conc (T := T) hok (List.mem_append_left _ (List.mem_of_getElem? hk))
  | false => rw [hb] at ht; exact ⟨d', ht, fun _ _ => rfl, fun _ _ _ _ _ c => c⟩
theorem g_len_tmp {i : Nat} {c : Code} {α : Type} {sz : Nat} {f : α → D} {xs : List α} (hx : Env.find L i = some (.list sz f xs)) (h : xs.length ≤ maxLen → G Γ P c L ms K) : G Γ P c L ms K := by
  intro a w m
  obtain ⟨H, marks, _, _, henv, _⟩ := m.ex
  obtain ⟨a', cap, _, h1, h2, _⟩ := enc_list (henv i _ hx)
  exact h (Nat.le_trans h1 h2) a w m
theorem g_cond_true {c : Operand} {y z : Code} {b : Bool} (hc : Env.ev L c = some (.v (.bool b))) (hb : b = true) (h : G Γ P y L ms K) : G Γ P (.cond c y z) L ms K :=
  g_cond hc (fun _ => h) (fun e => by rw [hb] at e; cases e)
theorem g_cond_false {c : Operand} {y z : Code} {b : Bool} (hc : Env.ev L c = some (.v (.bool b))) (hb : b = false) (h : G Γ P z L ms K) : G Γ P (.cond c y z) L ms K :=
  g_cond hc (fun e => by rw [hb] at e; cases e) (fun _ => h)
end
end Go.V
