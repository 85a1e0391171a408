/- Regions that draw their order, with other names for what is new: gone through in the text's order. -/
import Derived.Test.YtnnjgbcojdnhhaaV39
set_option linter.unusedVariables false
set_option linter.unusedSimpArgs false
namespace Go.V
section
variable {Γ : Ctx} {P : Program} {L : Env} {ms : List Asrt} {K : KT} {l : List Oper} {k : Nat}
def alE (al : List (Nat × Nat)) (ops : List Oper) (E : Env) : Env := al.map fun p => (dstN ops p.1, (Env.find E (dstN ops p.2)).getD (.v undef))
def GDF2 (Γ : Ctx) (P : Program) (ops tail : List Oper) (ms : List Asrt) (K : KT) (fr : List Nat) (al : List (Nat × Nat)) : Nat → List Oper → Env → List (Nat × (D → Asrt → Prop)) → Prop
  | _, [], L, acc => pend acc (fun E As => GO Γ P ops.toArray tail (alE al ops E ++ (E ++ L)) (As ++ ms) K)
  | i, o :: r, L, acc => if fr.contains i = true then ∃ t R, o.dst = some t ∧ Nat.blt t Γ.N = true ∧ OpT P o (Env.only (slotsOf ops o) L) [] (fun d ms' => ∃ A, R d A ∧ ms' = [A]) ∧ GDF2 Γ P ops tail ms K fr al (i + 1) r L (acc ++ [(t, R)])
    else if (al.map (·.1)).contains i = true then GDF2 Γ P ops tail ms K fr al (i + 1) r L acc
    else ∃ d, dstOk o Γ.N ∧ Step P ops o L ms d ∧ GDF2 Γ P ops tail ms K fr al (i + 1) r (ext o d L) acc
theorem gdf_list2 {ops tail : List Oper} {fr : List Nat} {al : List (Nat × Nat)} (hdisj : ∀ i, fr.contains i = true → (al.map (·.1)).contains i = false) : ∀ (r : List Oper) (i : Nat) (L : Env) (acc : List (Nat × (D → Asrt → Prop))), GDF2 Γ P ops tail ms K fr al i r L acc →
    ∃ (ds : List D) (R : Nat → D → Asrt → Prop), ds.length = r.length ∧
      (∀ j o d, r[j]? = some o → ds[j]? = some d → exB fr al (i + j) = false → dstOk o Γ.N ∧ Step P ops o (envL (fun q => decide (q < i + j) && !(exB fr al q)) r ds i L) ms d) ∧
      (∀ j o, r[j]? = some o → fr.contains (i + j) = true → dstOk o Γ.N ∧ OpT P o (Env.only (slotsOf ops o) (envL (fun q => decide (q < i + j) && !(exB fr al q)) r ds i L)) [] (fun d ms' => ∃ A, R (i + j) d A ∧ ms' = [A])) ∧
      pend acc (fun E As => ∀ ρ : Nat → D × Asrt, (∀ j, j < r.length → fr.contains (i + j) = true → R (i + j) (ρ (i + j)).1 (ρ (i + j)).2) → GO Γ P ops.toArray tail (alE al ops (E ++ fl r fr i ρ) ++ (E ++ (fl r fr i ρ ++ envL (fun q => !(exB fr al q)) r ds i L))) (As ++ (fo r fr i ρ ++ ms)) K)
  | [], i, L, acc, h => ⟨[], fun _ _ _ => True, rfl, fun j o d hj => by simp at hj, fun j o hj => by simp at hj, pend_mono (fun E As x ρ _ => by simpa [fl, fo, envL] using x) h⟩
  | o :: r, i, L, acc, h => by
    unfold GDF2 at h
    cases hc : fr.contains i with
    | true =>
      rw [if_pos hc] at h
      obtain ⟨t, R0, hd, hlt, hop, hrest⟩ := h
      obtain ⟨ds, R, e1, e2, e3, e4⟩ := gdf_list2 hdisj r (i + 1) L _ hrest
      have hsh : ∀ j, i + (j + 1) = i + 1 + j := fun j => by omega
      have hx : exB fr al i = true := by unfold exB; rw [hc]; rfl
      have hS : ∀ m, (decide (i < m) && !(exB fr al i)) = false := fun m => by rw [hx]; simp
      have hdk : dstOk o Γ.N := by simp only [dstOk, hd]; exact hlt
      refine ⟨.v undef :: ds, fun q => if q = i then R0 else R q, by simp [e1], fun j o' d' hj hdj hcj => ?_, fun j o' hj hcj => ?_, ?_⟩
      · cases j with
        | zero => rw [Nat.add_zero] at hcj; rw [hx] at hcj; cases hcj
        | succ j =>
          simp only [List.getElem?_cons_succ] at hj hdj
          rw [hsh] at hcj ⊢
          simp only [envL, hS, Bool.false_eq_true, if_false]
          exact e2 j o' d' hj hdj hcj
      · cases j with
        | zero =>
          simp only [List.getElem?_cons_zero, Option.some.injEq] at hj
          subst hj
          refine ⟨hdk, ?_⟩
          simp only [Nat.add_zero, if_true]
          rw [envL_none _ _ _ _ (fun q hq => by have : ¬ q < i := by omega
                                                simp [this])]
          exact hop
        | succ j =>
          simp only [List.getElem?_cons_succ] at hj
          rw [hsh] at hcj ⊢
          have hne : ¬ (i + 1 + j = i) := by omega
          simp only [envL, hS, Bool.false_eq_true, if_false, hne]
          exact e3 j o' hj hcj
      · have h4 := pend_append e4
        refine pend_mono (fun E As x ρ hρ => ?_) h4
        simp only [pend] at x
        have hR0 := hρ 0 (by simp) (by simpa using hc)
        simp only [Nat.add_zero, if_true] at hR0
        have := x (ρ i).1 (ρ i).2 hR0 ρ (fun j hj hcj => by
          have h5 := hρ (j + 1) (by simp; omega) (by rw [hsh]; exact hcj)
          have hne : ¬ (i + (j + 1) = i) := by omega
          dsimp only at h5
          rw [if_neg hne, hsh] at h5
          exact h5)
        have hdd : o.dst.getD 0 = t := by rw [hd]; rfl
        have q1 : fl (o :: r) fr i ρ = (t, (ρ i).1) :: fl r fr (i + 1) ρ := by rw [fl, if_pos hc, hdd]
        have q2 : fo (o :: r) fr i ρ = (ρ i).2 :: fo r fr (i + 1) ρ := by rw [fo, if_pos hc]
        have q3 : envL (fun q => !(exB fr al q)) (o :: r) (.v undef :: ds) i L = envL (fun q => !(exB fr al q)) r ds (i + 1) L := by
          simp only [envL]
          rw [if_neg (by rw [hx]; simp)]
        rw [q1, q2, q3]
        simpa [List.append_assoc] using this
    | false =>
      rw [if_neg (by rw [hc]; simp)] at h
      cases ha : (al.map (·.1)).contains i with
      | true =>
        rw [if_pos ha] at h
        obtain ⟨ds, R, e1, e2, e3, e4⟩ := gdf_list2 hdisj r (i + 1) L _ h
        have hsh : ∀ j, i + (j + 1) = i + 1 + j := fun j => by omega
        have hx : exB fr al i = true := by unfold exB; rw [ha]; simp
        have hS : ∀ m, (decide (i < m) && !(exB fr al i)) = false := fun m => by rw [hx]; simp
        refine ⟨.v undef :: ds, R, by simp [e1], fun j o' d' hj hdj hcj => ?_, fun j o' hj hcj => ?_, ?_⟩
        · cases j with
          | zero => rw [Nat.add_zero] at hcj; rw [hx] at hcj; cases hcj
          | succ j =>
            simp only [List.getElem?_cons_succ] at hj hdj
            rw [hsh] at hcj ⊢
            simp only [envL, hS, Bool.false_eq_true, if_false]
            exact e2 j o' d' hj hdj hcj
        · cases j with
          | zero => rw [Nat.add_zero] at hcj; rw [hc] at hcj; cases hcj
          | succ j =>
            simp only [List.getElem?_cons_succ] at hj
            rw [hsh] at hcj ⊢
            simp only [envL, hS, Bool.false_eq_true, if_false]
            exact e3 j o' hj hcj
        · refine pend_mono (fun E As x ρ hρ => ?_) e4
          have := x ρ (fun j hj hcj => by
            have h5 := hρ (j + 1) (by simp; omega) (by rw [hsh]; exact hcj)
            rwa [hsh] at h5)
          have q1 : fl (o :: r) fr i ρ = fl r fr (i + 1) ρ := by rw [fl, if_neg (by rw [hc]; simp)]
          have q2 : fo (o :: r) fr i ρ = fo r fr (i + 1) ρ := by rw [fo, if_neg (by rw [hc]; simp)]
          have q3 : envL (fun q => !(exB fr al q)) (o :: r) (.v undef :: ds) i L = envL (fun q => !(exB fr al q)) r ds (i + 1) L := by
            simp only [envL]
            rw [if_neg (by rw [hx]; simp)]
          rw [q1, q2, q3]
          exact this
      | false =>
        rw [if_neg (by rw [ha]; simp)] at h
        have hx : exB fr al i = false := by unfold exB; rw [hc, ha]; rfl
        obtain ⟨d, hdk, hst, hrest⟩ := h
        obtain ⟨ds, R, e1, e2, e3, e4⟩ := gdf_list2 hdisj r (i + 1) (ext o d L) _ hrest
        have hsh : ∀ j, i + (j + 1) = i + 1 + j := fun j => by omega
        have hS : ∀ j, (decide (i < i + 1 + j) && !(exB fr al i)) = true := fun j => by rw [hx]; simp; omega
        refine ⟨d :: ds, R, by simp [e1], fun j o' d' hj hdj hcj => ?_, fun j o' hj hcj => ?_, ?_⟩
        · cases j with
          | zero =>
            simp only [List.getElem?_cons_zero, Option.some.injEq] at hj hdj
            subst hj hdj
            refine ⟨hdk, ?_⟩
            rw [Nat.add_zero, envL_none _ _ _ _ (fun q hq => by have : ¬ q < i := by omega
                                                                simp [this])]
            exact hst
          | succ j =>
            simp only [List.getElem?_cons_succ] at hj hdj
            rw [hsh] at hcj ⊢
            simp only [envL, hS, if_true]
            exact e2 j o' d' hj hdj hcj
        · cases j with
          | zero => rw [Nat.add_zero] at hcj; rw [hc] at hcj; cases hcj
          | succ j =>
            simp only [List.getElem?_cons_succ] at hj
            rw [hsh] at hcj ⊢
            simp only [envL, hS, if_true]
            exact e3 j o' hj hcj
        · refine pend_mono (fun E As x ρ hρ => ?_) e4
          have := x ρ (fun j hj hcj => by
            have h5 := hρ (j + 1) (by simp; omega) (by rw [hsh]; exact hcj)
            rwa [hsh] at h5)
          have q1 : fl (o :: r) fr i ρ = fl r fr (i + 1) ρ := by rw [fl, if_neg (by rw [hc]; simp)]
          have q2 : fo (o :: r) fr i ρ = fo r fr (i + 1) ρ := by rw [fo, if_neg (by rw [hc]; simp)]
          have q3 : envL (fun q => !(exB fr al q)) (o :: r) (d :: ds) i L = envL (fun q => !(exB fr al q)) r ds (i + 1) (ext o d L) := by
            simp only [envL]
            rw [if_pos (by rw [hx]; rfl)]
          rw [q1, q2, q3]
          exact this
/-- A region that draws its order: its first k operations flow, those of fr make something new; the others stand behind them in the text's order. -/
theorem g_draw_a {id : Nat} (k : Nat) (fr : List Nat) (al : List (Nat × Nat)) (hm : P.follows .mixedOrders = true) (hf : flowB l k = true) (hfr : freshB2 l k fr al = true) (hN : (al.all fun p => Nat.blt (dstN l p.1) Γ.N) = true) (hL : ∀ p ∈ al, Env.find L (dstN l p.1) = none) (hkl : Nat.ble k l.length = true) (hfs : (List.range' 0 k).filter (fun j => fr.contains j) = fr) (h : GDF2 Γ P l (l.drop k) ms K fr al 0 (l.take k) L []) : G Γ P (.region id l.toArray true) L ms K := by
  have hkl := Nat.le_of_ble_eq_true hkl
  intro a w m
  refine wpIn_region_draw fun t => ?_
  simp only [Region.schedule, hm, Bool.true_or, if_true]
  have hfo := flow_ok hf
  have hdisj : ∀ i, fr.contains i = true → (al.map (·.1)).contains i = false := by
    intro i hi
    obtain ⟨_, _, h3⟩ := fresh_ok2 hfr
    cases hb : (al.map (·.1)).contains i with
    | false => rfl
    | true =>
      obtain ⟨p, hp, e⟩ := List.mem_map.1 (List.contains_iff_mem.1 hb)
      exact absurd (List.contains_iff_mem.1 hi) (e ▸ (h3 p hp).2.1)
  obtain ⟨ds, R, e1, e2, e3, e4⟩ := gdf_list2 hdisj _ _ _ _ h
  have hlen : ds.length = k := by rw [e1]; simp; omega
  simp only [Nat.zero_add] at e2 e3 e4
  have hget : ∀ i o, i < k → l[i]? = some o → (l.take k)[i]? = some o := fun i o hi ho => by rw [List.getElem?_take, if_pos hi]; exact ho
  have hmem : ∀ i, i ∈ fr → i < k := fun i hi => by
    obtain ⟨_, h2, _⟩ := fresh_ok2 hfr
    exact (h2 i hi).1
  have envT : ∀ (S : Nat → Bool), envL S (l.take k) ds 0 L = envL S l ds 0 L := by
    have : ∀ (l : List Oper) (ds : List D) (k0 : Nat) (L : Env) (S : Nat → Bool), envL S (l.take ds.length) ds k0 L = envL S l ds k0 L := by
      intro l
      induction l with
      | nil => intro ds k0 L S; simp
      | cons o r ih =>
        intro ds k0 L S
        cases ds with
        | nil => simp [envL]
        | cons d ds => simp only [List.length_cons, List.take_succ_cons, envL]; exact ih ds _ _ S
    intro S
    have := this l ds 0 L S
    rwa [hlen] at this
  refine draw_fresh2 (L := L) (ms := ms) (fr := fr) (al := al) hfo hfr hL ds hlen hkl R ?_ (fun p hp => Nat.le_of_ble_eq_true (List.all_eq_true.1 hN p hp)) ?_ ?_ l.toArray.size (Array.replicate l.toArray.size false) t a { w with drawn := w.drawn + 1 } (by simp) ?_ ?_ ?_ ?_
  · intro i o d hi hif ho hd
    have := e2 i o d (hget i o hi ho) hd hif
    rw [envT] at this
    exact this
  · intro i o hif ho
    have := e3 i o (hget i o (hmem i hif) ho) (List.contains_iff_mem.2 hif)
    rw [envT] at this
    exact this
  · intro ρ hρ
    have h4 : ∀ ρ : Nat → D × Asrt, _ := e4
    have h5 := h4 ρ (fun j hj hc => hρ j (List.contains_iff_mem.1 hc))
    simp only [List.nil_append] at h5
    obtain ⟨h6, h7⟩ := fl_eq ρ fr l k 0 (by omega)
    simp only [List.drop_zero] at h6 h7
    rw [h6, h7, hfs, envT] at h5
    have hfk : fr.filter (fun j => decide (j < k)) = fr := by
      rw [List.filter_eq_self]; intro i hi; simp [hmem i hi]
    unfold fenv fown
    rw [hfk]
    have hee : envL (fun j => decide (j < k) && !(exB fr al j)) l ds 0 L = envL (fun q => !(exB fr al q)) l ds 0 L := by
      have : ∀ (l : List Oper) (ds : List D) (k0 : Nat) (L : Env), k0 + ds.length ≤ k → envL (fun j => decide (j < k) && !(exB fr al j)) l ds k0 L = envL (fun q => !(exB fr al q)) l ds k0 L := by
        intro l
        induction l with
        | nil => intro ds k0 L _; simp [envL]
        | cons o r ih =>
          intro ds k0 L hk
          cases ds with
          | nil => simp [envL]
          | cons d ds =>
            simp only [List.length_cons] at hk
            have : decide (k0 < k) = true := by simp; omega
            simp only [envL, this, Bool.true_and]
            exact ih ds (k0 + 1) _ (by omega)
      exact this l ds 0 L (by omega)
    rw [hee]
    have hal : alE al l (fr.map fun j => (dstN l j, (ρ j).1)) = aenv l al ρ := by
      unfold alE aenv
      refine List.map_congr_left fun p hp => ?_
      obtain ⟨_, hfo2, hao⟩ := fresh_ok2 hfr
      obtain ⟨_, _, hp3, _⟩ := hao p hp
      cases hq : Env.find (fr.map fun j => (dstN l j, (ρ j).1)) (dstN l p.2) with
      | none => exact absurd rfl ((find_map (dstN l) (fun i => (ρ i).1) (dstN l p.2) fr).2 hq p.2 hp3)
      | some d3 =>
        obtain ⟨j2, hj2, e5, e6⟩ := (find_map (dstN l) (fun i => (ρ i).1) (dstN l p.2) fr).1 d3 hq
        have : j2 = p.2 := by
          refine Classical.byContradiction fun hne2 => ?_
          obtain ⟨_, oj, hoj, _, hdj, hds, _⟩ := hfo2 p.2 hp3
          obtain ⟨_, oj2, hoj2, _, hdj2, _, _⟩ := hfo2 j2 hj2
          exact hds j2 oj2 hoj2 hne2 (by rw [hdj2, e5])
        subst this
        simp only [e6, Option.getD_some]
    rw [hal] at h5
    rw [List.append_assoc]
    exact h5
  · intro j o hj hS
    simp [Array.getD] at hS
  · intro i _; simp [Array.getD]
  · have := List.length_filter_le (fun i => !(Array.replicate l.toArray.size false).getD i false) (List.range l.length)
    simpa using this
  · have hz : ∀ j, (Array.replicate l.toArray.size false).getD j false = false := fun j => by simp [Array.getD]
    have hfe : fr.filter (fun j => (Array.replicate l.toArray.size false).getD j false) = [] := by
      rw [List.filter_eq_nil_iff]; intro i _; rw [hz]; simp
    refine ⟨fun _ => (.v undef, markA 0), (fun i _ hi => by rw [hz] at hi; cases hi), ?_, fun p _ hp => by have hp2 := (hz p.1).symm.trans hp; cases hp2⟩
    unfold fenv fown
    rw [hfe, envL_none _ _ _ _ (fun q _ => by rw [hz]; rfl)]
    obtain ⟨H, marks, hle, hok, henv, hdf⟩ := m.ex
    exact ⟨⟨H, marks, hle, hok.drew _, henv, hdf⟩, m.size, ⟨m.same.os, m.same.output, m.same.tape, m.same.size⟩⟩
theorem gda_nil {ops tail : List Oper} {fr : List Nat} {al : List (Nat × Nat)} {i : Nat} {acc : List (Nat × (D → Asrt → Prop))} (h : pend acc (fun E As => GO Γ P ops.toArray tail (alE al ops E ++ (E ++ L)) (As ++ ms) K)) : GDF2 Γ P ops tail ms K fr al i [] L acc := h
theorem gda_p {ops tail r : List Oper} {fr : List Nat} {al : List (Nat × Nat)} {n : Nat} {acc : List (Nat × (D → Asrt → Prop))} {o : Oper} {d : D} {i : Nat} (hc : exB fr al n = false) (hg : o.guard = none) (hd : o.dst = some i) (hi : Nat.blt i Γ.N = true) (h : OpP P o (Env.only (slotsOf ops o) L) ms d) (k : GDF2 Γ P ops tail ms K fr al (n + 1) r ((i, d) :: L) acc) : GDF2 Γ P ops tail ms K fr al n (o :: r) L acc := by
  unfold GDF2
  simp only [exB, Bool.or_eq_false_iff] at hc
  rw [if_neg (by rw [hc.1]; simp), if_neg (by rw [hc.2]; simp)]
  refine ⟨d, by simp only [dstOk, hd]; exact hi, by simp only [Step, hg]; exact h, ?_⟩
  simp only [ext, hd]; exact k
theorem gda_want {ops tail r : List Oper} {fr : List Nat} {al : List (Nat × Nat)} {n : Nat} {acc : List (Nat × (D → Asrt → Prop))} {o : Oper} {d : D} {i j t : Nat} {b want : Bool} (hc : exB fr al n = false) (hg : o.guard = some (j, want)) (hj : (ops[j]?).bind (·.dst) = some t) (hf : Env.find L t = some (.v (.bool b))) (hb : b = want) (hd : o.dst = some i) (hi : Nat.blt i Γ.N = true)
    (h : OpP P o (Env.only (slotsOf ops o) L) ms d) (k : GDF2 Γ P ops tail ms K fr al (n + 1) r ((i, d) :: L) acc) : GDF2 Γ P ops tail ms K fr al n (o :: r) L acc := by
  unfold GDF2
  simp only [exB, Bool.or_eq_false_iff] at hc
  rw [if_neg (by rw [hc.1]; simp), if_neg (by rw [hc.2]; simp)]
  refine ⟨d, by simp only [dstOk, hd]; exact hi, by simp only [Step, hg]; exact ⟨t, _, hj, hf, .inl ⟨b, rfl, .inl ⟨hb, h⟩⟩⟩, ?_⟩
  simp only [ext, hd]; exact k
theorem gda_skip {ops tail r : List Oper} {fr : List Nat} {al : List (Nat × Nat)} {n : Nat} {acc : List (Nat × (D → Asrt → Prop))} {o : Oper} {i j t : Nat} {b want : Bool} (hc : exB fr al n = false) (hg : o.guard = some (j, want)) (hj : (ops[j]?).bind (·.dst) = some t) (hf : Env.find L t = some (.v (.bool b))) (hb : b = !want) (hd : o.dst = some i) (hi : Nat.blt i Γ.N = true)
    (k : GDF2 Γ P ops tail ms K fr al (n + 1) r ((i, .v undef) :: L) acc) : GDF2 Γ P ops tail ms K fr al n (o :: r) L acc := by
  unfold GDF2
  simp only [exB, Bool.or_eq_false_iff] at hc
  rw [if_neg (by rw [hc.1]; simp), if_neg (by rw [hc.2]; simp)]
  refine ⟨.v undef, by simp only [dstOk, hd]; exact hi, by simp only [Step, hg]; exact ⟨t, _, hj, hf, .inl ⟨b, rfl, .inr ⟨hb, trivial⟩⟩⟩, ?_⟩
  simp only [ext, hd]; exact k
theorem gda_skipu {ops tail r : List Oper} {fr : List Nat} {al : List (Nat × Nat)} {n : Nat} {acc : List (Nat × (D → Asrt → Prop))} {o : Oper} {i j t : Nat} {want : Bool} (hc : exB fr al n = false) (hg : o.guard = some (j, want)) (hj : (ops[j]?).bind (·.dst) = some t) (hf : Env.find L t = some (.v undef)) (hd : o.dst = some i) (hi : Nat.blt i Γ.N = true)
    (k : GDF2 Γ P ops tail ms K fr al (n + 1) r ((i, .v undef) :: L) acc) : GDF2 Γ P ops tail ms K fr al n (o :: r) L acc := by
  unfold GDF2
  simp only [exB, Bool.or_eq_false_iff] at hc
  rw [if_neg (by rw [hc.1]; simp), if_neg (by rw [hc.2]; simp)]
  refine ⟨.v undef, by simp only [dstOk, hd]; exact hi, by simp only [Step, hg]; exact ⟨t, _, hj, hf, .inr ⟨rfl, trivial⟩⟩, ?_⟩
  simp only [ext, hd]; exact k
theorem gda_fresh {ops tail r : List Oper} {fr : List Nat} {al : List (Nat × Nat)} {n : Nat} {acc : List (Nat × (D → Asrt → Prop))} {o : Oper} {t : Nat} {R : D → Asrt → Prop} (hc : fr.contains n = true) (hd : o.dst = some t) (hi : Nat.blt t Γ.N = true) (h : OpT P o (Env.only (slotsOf ops o) L) [] (fun d ms' => ∃ A, R d A ∧ ms' = [A]))
    (k : GDF2 Γ P ops tail ms K fr al (n + 1) r L (acc ++ [(t, R)])) : GDF2 Γ P ops tail ms K fr al n (o :: r) L acc := by
  unfold GDF2
  rw [if_pos hc]
  exact ⟨t, R, hd, hi, h, k⟩
theorem gda_a {ops tail r : List Oper} {fr : List Nat} {al : List (Nat × Nat)} {n : Nat} {acc : List (Nat × (D → Asrt → Prop))} {o : Oper} (hc : fr.contains n = false) (ha : (al.map (·.1)).contains n = true) (k : GDF2 Γ P ops tail ms K fr al (n + 1) r L acc) : GDF2 Γ P ops tail ms K fr al n (o :: r) L acc := by
  unfold GDF2
  rw [if_neg (by rw [hc]; simp), if_pos ha]
  exact k
end
end Go.V
