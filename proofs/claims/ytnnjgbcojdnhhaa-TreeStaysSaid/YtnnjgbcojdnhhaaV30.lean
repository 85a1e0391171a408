/- Regions that draw their order, gone through in the text's order; what is new stands at the end. -/
import Derived.Test.YtnnjgbcojdnhhaaV29
set_option linter.unusedVariables false
set_option linter.unusedSimpArgs false
namespace Go.V
def pend : List (Nat × (D → Asrt → Prop)) → (Env → List Asrt → Prop) → Prop
  | [], k => k [] []
  | (t, R) :: r, k => ∀ d A, R d A → pend r (fun E As => k ((t, d) :: E) (A :: As))
theorem pend_mono : ∀ {acc : List (Nat × (D → Asrt → Prop))} {k k' : Env → List Asrt → Prop}, (∀ E As, k E As → k' E As) → pend acc k → pend acc k'
  | [], k, k', h, p => h _ _ p
  | (t, R) :: r, k, k', h, p => fun d A hR => pend_mono (fun E As x => h _ _ x) (p d A hR)
theorem pend_append : ∀ {acc b : List (Nat × (D → Asrt → Prop))} {k : Env → List Asrt → Prop}, pend (acc ++ b) k → pend acc (fun E As => pend b (fun E' As' => k (E ++ E') (As ++ As')))
  | [], b, k, p => p
  | (t, R) :: r, b, k, p => fun d A hR => pend_append (acc := r) (p d A hR)
section
variable {Γ : Ctx} {P : Program} {L : Env} {ms : List Asrt} {K : KT} {l : List Oper} {k : Nat}
def GDF (Γ : Ctx) (P : Program) (ops tail : List Oper) (ms : List Asrt) (K : KT) (fr : List Nat) : Nat → List Oper → Env → List (Nat × (D → Asrt → Prop)) → Prop
  | _, [], L, acc => pend acc (fun E As => GO Γ P ops.toArray tail (E ++ L) (As ++ ms) K)
  | i, o :: r, L, acc => if fr.contains i = true then ∃ t R, o.dst = some t ∧ Nat.blt t Γ.N = true ∧ OpT P o (Env.only (slotsOf ops o) L) [] (fun d ms' => ∃ A, R d A ∧ ms' = [A]) ∧ GDF Γ P ops tail ms K fr (i + 1) r L (acc ++ [(t, R)])
    else ∃ d, dstOk o Γ.N ∧ Step P ops o L ms d ∧ GDF Γ P ops tail ms K fr (i + 1) r (ext o d L) acc
theorem envL_none {S : Nat → Bool} : ∀ (l : List Oper) (ds : List D) (k0 : Nat) (L : Env), (∀ q, k0 ≤ q → S q = false) → envL S l ds k0 L = L
  | [], _, _, _, _ => by simp [envL]
  | _ :: _, [], _, _, _ => by simp [envL]
  | o :: r, d :: ds, k0, L, h => by
    simp only [envL, h k0 (Nat.le_refl _), Bool.false_eq_true, if_false]
    exact envL_none r ds (k0 + 1) L fun q hq => h q (by omega)
def fl (r : List Oper) (fr : List Nat) (i : Nat) (ρ : Nat → D × Asrt) : Env := match r with
  | [] => []
  | o :: r => if fr.contains i = true then (o.dst.getD 0, (ρ i).1) :: fl r fr (i + 1) ρ else fl r fr (i + 1) ρ
def fo (r : List Oper) (fr : List Nat) (i : Nat) (ρ : Nat → D × Asrt) : List Asrt := match r with
  | [] => []
  | _ :: r => if fr.contains i = true then (ρ i).2 :: fo r fr (i + 1) ρ else fo r fr (i + 1) ρ
theorem gdf_list {ops tail : List Oper} {fr : List Nat} : ∀ (r : List Oper) (i : Nat) (L : Env) (acc : List (Nat × (D → Asrt → Prop))), GDF Γ P ops tail ms K fr i r L acc →
    ∃ (ds : List D) (R : Nat → D → Asrt → Prop), ds.length = r.length ∧
      (∀ j o d, r[j]? = some o → ds[j]? = some d → fr.contains (i + j) = false → dstOk o Γ.N ∧ Step P ops o (envL (fun q => decide (q < i + j) && !(fr.contains q)) r ds i L) ms d) ∧
      (∀ j o, r[j]? = some o → fr.contains (i + j) = true → dstOk o Γ.N ∧ OpT P o (Env.only (slotsOf ops o) (envL (fun q => decide (q < i + j) && !(fr.contains q)) r ds i L)) [] (fun d ms' => ∃ A, R (i + j) d A ∧ ms' = [A])) ∧
      pend acc (fun E As => ∀ ρ : Nat → D × Asrt, (∀ j, j < r.length → fr.contains (i + j) = true → R (i + j) (ρ (i + j)).1 (ρ (i + j)).2) → GO Γ P ops.toArray tail (E ++ (fl r fr i ρ ++ envL (fun q => !(fr.contains q)) r ds i L)) (As ++ (fo r fr i ρ ++ ms)) K)
  | [], i, L, acc, h => ⟨[], fun _ _ _ => True, rfl, fun j o d hj => by simp at hj, fun j o hj => by simp at hj, pend_mono (fun E As x ρ _ => by simpa [fl, fo, envL] using x) h⟩
  | o :: r, i, L, acc, h => by
    unfold GDF at h
    cases hc : fr.contains i with
    | true =>
      rw [if_pos hc] at h
      obtain ⟨t, R0, hd, hlt, hop, hrest⟩ := h
      obtain ⟨ds, R, e1, e2, e3, e4⟩ := gdf_list r (i + 1) L _ hrest
      have hsh : ∀ j, i + (j + 1) = i + 1 + j := fun j => by omega
      have hS : ∀ m, (decide (i < m) && !(fr.contains i)) = false := fun m => by rw [hc]; simp
      have hdk : dstOk o Γ.N := by simp only [dstOk, hd]; exact hlt
      refine ⟨.v undef :: ds, fun q => if q = i then R0 else R q, by simp [e1], fun j o' d' hj hdj hcj => ?_, fun j o' hj hcj => ?_, ?_⟩
      · cases j with
        | zero => rw [Nat.add_zero] at hcj; rw [hc] at hcj; cases hcj
        | succ j =>
          simp only [List.getElem?_cons_succ] at hj hdj
          rw [hsh] at hcj ⊢
          simp only [envL, hS, Bool.false_eq_true, if_false]
          exact e2 j o' d' hj hdj hcj
      · cases j with
        | zero =>
          simp only [List.getElem?_cons_zero, Option.some.injEq] at hj
          subst hj
          refine ⟨hdk, ?_⟩
          simp only [Nat.add_zero, if_true]
          rw [envL_none _ _ _ _ (fun q hq => by have : ¬ q < i := by omega
                                                simp [this])]
          exact hop
        | succ j =>
          simp only [List.getElem?_cons_succ] at hj
          rw [hsh] at hcj ⊢
          have hne : ¬ (i + 1 + j = i) := by omega
          simp only [envL, hS, Bool.false_eq_true, if_false, hne]
          exact e3 j o' hj hcj
      · have h4 := pend_append e4
        refine pend_mono (fun E As x ρ hρ => ?_) h4
        simp only [pend] at x
        have hR0 := hρ 0 (by simp) (by simpa using hc)
        simp only [Nat.add_zero, if_true] at hR0
        have := x (ρ i).1 (ρ i).2 hR0 ρ (fun j hj hcj => by
          have h5 := hρ (j + 1) (by simp; omega) (by rw [hsh]; exact hcj)
          have hne : ¬ (i + (j + 1) = i) := by omega
          dsimp only at h5
          rw [if_neg hne, hsh] at h5
          exact h5)
        have hdd : o.dst.getD 0 = t := by rw [hd]; rfl
        have q1 : fl (o :: r) fr i ρ = (t, (ρ i).1) :: fl r fr (i + 1) ρ := by rw [fl, if_pos hc, hdd]
        have q2 : fo (o :: r) fr i ρ = (ρ i).2 :: fo r fr (i + 1) ρ := by rw [fo, if_pos hc]
        have q3 : envL (fun q => !(fr.contains q)) (o :: r) (.v undef :: ds) i L = envL (fun q => !(fr.contains q)) r ds (i + 1) L := by
          simp only [envL]
          rw [if_neg (by rw [hc]; simp)]
        rw [q1, q2, q3]
        simpa [List.append_assoc] using this
    | false =>
      rw [if_neg (by rw [hc]; simp)] at h
      obtain ⟨d, hdk, hst, hrest⟩ := h
      obtain ⟨ds, R, e1, e2, e3, e4⟩ := gdf_list r (i + 1) (ext o d L) _ hrest
      have hsh : ∀ j, i + (j + 1) = i + 1 + j := fun j => by omega
      have hS : ∀ j, (decide (i < i + 1 + j) && !(fr.contains i)) = true := fun j => by rw [hc]; simp; omega
      refine ⟨d :: ds, R, by simp [e1], fun j o' d' hj hdj hcj => ?_, fun j o' hj hcj => ?_, ?_⟩
      · cases j with
        | zero =>
          simp only [List.getElem?_cons_zero, Option.some.injEq] at hj hdj
          subst hj hdj
          refine ⟨hdk, ?_⟩
          rw [Nat.add_zero, envL_none _ _ _ _ (fun q hq => by have : ¬ q < i := by omega
                                                              simp [this])]
          exact hst
        | succ j =>
          simp only [List.getElem?_cons_succ] at hj hdj
          rw [hsh] at hcj ⊢
          simp only [envL, hS, if_true]
          exact e2 j o' d' hj hdj hcj
      · cases j with
        | zero => rw [Nat.add_zero] at hcj; rw [hc] at hcj; cases hcj
        | succ j =>
          simp only [List.getElem?_cons_succ] at hj
          rw [hsh] at hcj ⊢
          simp only [envL, hS, if_true]
          exact e3 j o' hj hcj
      · refine pend_mono (fun E As x ρ hρ => ?_) e4
        have := x ρ (fun j hj hcj => by
          have h5 := hρ (j + 1) (by simp; omega) (by rw [hsh]; exact hcj)
          rwa [hsh] at h5)
        have q1 : fl (o :: r) fr i ρ = fl r fr (i + 1) ρ := by rw [fl, if_neg (by rw [hc]; simp)]
        have q2 : fo (o :: r) fr i ρ = fo r fr (i + 1) ρ := by rw [fo, if_neg (by rw [hc]; simp)]
        have q3 : envL (fun q => !(fr.contains q)) (o :: r) (d :: ds) i L = envL (fun q => !(fr.contains q)) r ds (i + 1) (ext o d L) := by
          simp only [envL]
          rw [if_pos (by rw [hc]; rfl)]
        rw [q1, q2, q3]
        exact this
theorem fl_eq (ρ : Nat → D × Asrt) (fr : List Nat) (l : List Oper) : ∀ (n i : Nat), i + n ≤ l.length → fl ((l.drop i).take n) fr i ρ = ((List.range' i n).filter (fun j => fr.contains j)).map (fun j => (dstN l j, (ρ j).1)) ∧ fo ((l.drop i).take n) fr i ρ = ((List.range' i n).filter (fun j => fr.contains j)).map (fun j => (ρ j).2)
  | 0, i, _ => by simp [fl, fo]
  | n + 1, i, h => by
    have hi : i < l.length := by omega
    have hd : l.drop i = l[i] :: l.drop (i + 1) := (List.getElem_cons_drop ..).symm
    obtain ⟨h1, h2⟩ := fl_eq ρ fr l n (i + 1) (by omega)
    rw [hd, List.take_succ_cons, List.range'_succ]
    have hdn : dstN l i = l[i].dst.getD 0 := by simp [dstN, hi]
    simp only [fl, fo, List.filter_cons, h1, h2]
    cases hc : fr.contains i with
    | true => simp [hdn]
    | false => simp
/-- A region that draws its order: its first k operations flow, those of fr make something new; the others stand behind them in the text's order. -/
theorem g_draw_f {id : Nat} (k : Nat) (fr : List Nat) (hm : P.follows .mixedOrders = true) (hf : flowB l k = true) (hfr : freshB l k fr = true) (hkl : Nat.ble k l.length = true) (hfs : (List.range' 0 k).filter (fun j => fr.contains j) = fr) (h : GDF Γ P l (l.drop k) ms K fr 0 (l.take k) L []) : G Γ P (.region id l.toArray true) L ms K := by
  have hkl := Nat.le_of_ble_eq_true hkl
  intro a w m
  refine wpIn_region_draw fun t => ?_
  simp only [Region.schedule, hm, Bool.true_or, if_true]
  have hfo := flow_ok hf
  obtain ⟨ds, R, e1, e2, e3, e4⟩ := gdf_list _ _ _ _ h
  have hlen : ds.length = k := by rw [e1]; simp; omega
  simp only [Nat.zero_add] at e2 e3 e4
  have hget : ∀ i o, i < k → l[i]? = some o → (l.take k)[i]? = some o := fun i o hi ho => by rw [List.getElem?_take, if_pos hi]; exact ho
  have hmem : ∀ i, i ∈ fr → i < k := fun i hi => by
    obtain ⟨_, h2⟩ := fresh_ok hfr
    exact (h2 i hi).1
  have envT : ∀ (S : Nat → Bool), envL S (l.take k) ds 0 L = envL S l ds 0 L := by
    have : ∀ (l : List Oper) (ds : List D) (k0 : Nat) (L : Env) (S : Nat → Bool), envL S (l.take ds.length) ds k0 L = envL S l ds k0 L := by
      intro l
      induction l with
      | nil => intro ds k0 L S; simp
      | cons o r ih =>
        intro ds k0 L S
        cases ds with
        | nil => simp [envL]
        | cons d ds => simp only [List.length_cons, List.take_succ_cons, envL]; exact ih ds _ _ S
    intro S
    have := this l ds 0 L S
    rwa [hlen] at this
  refine draw_fresh (L := L) (ms := ms) (fr := fr) hfo hfr ds hlen hkl R ?_ ?_ ?_ l.toArray.size (Array.replicate l.toArray.size false) t a { w with drawn := w.drawn + 1 } (by simp) ?_ ?_ ?_ ?_
  · intro i o d hi hif ho hd
    have hc : fr.contains i = false := by
      cases hb : fr.contains i with
      | true => exact absurd (List.contains_iff_mem.1 hb) hif
      | false => rfl
    have := e2 i o d (hget i o hi ho) hd hc
    rw [envT] at this
    exact this
  · intro i o hif ho
    have := e3 i o (hget i o (hmem i hif) ho) (List.contains_iff_mem.2 hif)
    rw [envT] at this
    exact this
  · intro ρ hρ
    have h4 : ∀ ρ : Nat → D × Asrt, _ := e4
    have h5 := h4 ρ (fun j hj hc => hρ j (List.contains_iff_mem.1 hc))
    simp only [List.nil_append] at h5
    obtain ⟨h6, h7⟩ := fl_eq ρ fr l k 0 (by omega)
    simp only [List.drop_zero] at h6 h7
    rw [h6, h7, hfs, envT] at h5
    have hfk : fr.filter (fun j => decide (j < k)) = fr := by
      rw [List.filter_eq_self]; intro i hi; simp [hmem i hi]
    unfold fenv fown
    rw [hfk]
    have hee : envL (fun j => decide (j < k) && !(fr.contains j)) l ds 0 L = envL (fun q => !(fr.contains q)) l ds 0 L := by
      have : ∀ (l : List Oper) (ds : List D) (k0 : Nat) (L : Env), k0 + ds.length ≤ k → envL (fun j => decide (j < k) && !(fr.contains j)) l ds k0 L = envL (fun q => !(fr.contains q)) l ds k0 L := by
        intro l
        induction l with
        | nil => intro ds k0 L _; simp [envL]
        | cons o r ih =>
          intro ds k0 L hk
          cases ds with
          | nil => simp [envL]
          | cons d ds =>
            simp only [List.length_cons] at hk
            have : decide (k0 < k) = true := by simp; omega
            simp only [envL, this, Bool.true_and]
            exact ih ds (k0 + 1) _ (by omega)
      exact this l ds 0 L (by omega)
    rw [hee]
    exact h5
  · intro j o hj hS
    simp [Array.getD] at hS
  · intro i _; simp [Array.getD]
  · have := List.length_filter_le (fun i => !(Array.replicate l.toArray.size false).getD i false) (List.range l.length)
    simpa using this
  · have hz : ∀ j, (Array.replicate l.toArray.size false).getD j false = false := fun j => by simp [Array.getD]
    have hfe : fr.filter (fun j => (Array.replicate l.toArray.size false).getD j false) = [] := by
      rw [List.filter_eq_nil_iff]; intro i _; rw [hz]; simp
    refine ⟨fun _ => (.v undef, markA 0), (fun i _ hi => by rw [hz] at hi; cases hi), ?_⟩
    unfold fenv fown
    rw [hfe, envL_none _ _ _ _ (fun q _ => by rw [hz]; rfl)]
    obtain ⟨H, marks, hle, hok, henv, hdf⟩ := m.ex
    exact ⟨⟨H, marks, hle, hok.drew _, henv, hdf⟩, m.size, ⟨m.same.os, m.same.output, m.same.tape, m.same.size⟩⟩
theorem gdf_nil {ops tail : List Oper} {fr : List Nat} {i : Nat} {acc : List (Nat × (D → Asrt → Prop))} (h : pend acc (fun E As => GO Γ P ops.toArray tail (E ++ L) (As ++ ms) K)) : GDF Γ P ops tail ms K fr i [] L acc := h
theorem gdf_p {ops tail r : List Oper} {fr : List Nat} {n : Nat} {acc : List (Nat × (D → Asrt → Prop))} {o : Oper} {d : D} {i : Nat} (hc : fr.contains n = false) (hg : o.guard = none) (hd : o.dst = some i) (hi : Nat.blt i Γ.N = true) (h : OpP P o (Env.only (slotsOf ops o) L) ms d) (k : GDF Γ P ops tail ms K fr (n + 1) r ((i, d) :: L) acc) : GDF Γ P ops tail ms K fr n (o :: r) L acc := by
  unfold GDF
  rw [if_neg (by rw [hc]; simp)]
  refine ⟨d, by simp only [dstOk, hd]; exact hi, by simp only [Step, hg]; exact h, ?_⟩
  simp only [ext, hd]; exact k
theorem gdf_want {ops tail r : List Oper} {fr : List Nat} {n : Nat} {acc : List (Nat × (D → Asrt → Prop))} {o : Oper} {d : D} {i j t : Nat} {b want : Bool} (hc : fr.contains n = false) (hg : o.guard = some (j, want)) (hj : (ops[j]?).bind (·.dst) = some t) (hf : Env.find L t = some (.v (.bool b))) (hb : b = want) (hd : o.dst = some i) (hi : Nat.blt i Γ.N = true)
    (h : OpP P o (Env.only (slotsOf ops o) L) ms d) (k : GDF Γ P ops tail ms K fr (n + 1) r ((i, d) :: L) acc) : GDF Γ P ops tail ms K fr n (o :: r) L acc := by
  unfold GDF
  rw [if_neg (by rw [hc]; simp)]
  refine ⟨d, by simp only [dstOk, hd]; exact hi, by simp only [Step, hg]; exact ⟨t, _, hj, hf, .inl ⟨b, rfl, .inl ⟨hb, h⟩⟩⟩, ?_⟩
  simp only [ext, hd]; exact k
theorem gdf_skip {ops tail r : List Oper} {fr : List Nat} {n : Nat} {acc : List (Nat × (D → Asrt → Prop))} {o : Oper} {i j t : Nat} {b want : Bool} (hc : fr.contains n = false) (hg : o.guard = some (j, want)) (hj : (ops[j]?).bind (·.dst) = some t) (hf : Env.find L t = some (.v (.bool b))) (hb : b = !want) (hd : o.dst = some i) (hi : Nat.blt i Γ.N = true)
    (k : GDF Γ P ops tail ms K fr (n + 1) r ((i, .v undef) :: L) acc) : GDF Γ P ops tail ms K fr n (o :: r) L acc := by
  unfold GDF
  rw [if_neg (by rw [hc]; simp)]
  refine ⟨.v undef, by simp only [dstOk, hd]; exact hi, by simp only [Step, hg]; exact ⟨t, _, hj, hf, .inl ⟨b, rfl, .inr ⟨hb, trivial⟩⟩⟩, ?_⟩
  simp only [ext, hd]; exact k
theorem gdf_skipu {ops tail r : List Oper} {fr : List Nat} {n : Nat} {acc : List (Nat × (D → Asrt → Prop))} {o : Oper} {i j t : Nat} {want : Bool} (hc : fr.contains n = false) (hg : o.guard = some (j, want)) (hj : (ops[j]?).bind (·.dst) = some t) (hf : Env.find L t = some (.v undef)) (hd : o.dst = some i) (hi : Nat.blt i Γ.N = true)
    (k : GDF Γ P ops tail ms K fr (n + 1) r ((i, .v undef) :: L) acc) : GDF Γ P ops tail ms K fr n (o :: r) L acc := by
  unfold GDF
  rw [if_neg (by rw [hc]; simp)]
  refine ⟨.v undef, by simp only [dstOk, hd]; exact hi, by simp only [Step, hg]; exact ⟨t, _, hj, hf, .inr ⟨rfl, trivial⟩⟩, ?_⟩
  simp only [ext, hd]; exact k
theorem gdf_fresh {ops tail r : List Oper} {fr : List Nat} {n : Nat} {acc : List (Nat × (D → Asrt → Prop))} {o : Oper} {t : Nat} {R : D → Asrt → Prop} (hc : fr.contains n = true) (hd : o.dst = some t) (hi : Nat.blt t Γ.N = true) (h : OpT P o (Env.only (slotsOf ops o) L) [] (fun d ms' => ∃ A, R d A ∧ ms' = [A]))
    (k : GDF Γ P ops tail ms K fr (n + 1) r L (acc ++ [(t, R)])) : GDF Γ P ops tail ms K fr n (o :: r) L acc := by
  unfold GDF
  rw [if_pos hc]
  exact ⟨t, R, hd, hi, h, k⟩
theorem gdf_conv {ops tail : List Oper} {fr : List Nat} : ∀ {r : List Oper} {n : Nat} {acc : List (Nat × (D → Asrt → Prop))} {L L' : Env}, RefE ms L L' → GDF Γ P ops tail ms K fr n r L' acc → (∀ i ∈ fr, i < n) → GDF Γ P ops tail ms K fr n r L acc := by
  intro r
  induction r with
  | nil =>
    intro n acc L L' h k _
    refine pend_mono (fun E As x => ?_) k
    refine go_conv ?_ x
    intro Γ' a w m
    obtain ⟨H, marks, hle, hok, henv, hdf⟩ := m.ex
    refine ⟨⟨H, marks, hle, hok, fun t d' ht => ?_, hdf⟩, m.size, m.same⟩
    rw [find_app] at ht
    cases hq : Env.find E t with
    | some d2 =>
      rw [hq] at ht
      simp only [Option.some.injEq] at ht
      subst ht
      exact henv t d2 (by rw [find_app, hq])
    | none =>
      rw [hq] at ht
      obtain ⟨d, h1, _, h2⟩ := h t d' ht
      refine h2 H (As ++ (marks.map markA ++ Γ'.fr)) w _ (hok.perm ?_) (henv t d (by rw [find_app, hq]; exact h1))
      have := (List.perm_append_comm (l₁ := As) (l₂ := ms)).append_right (marks.map markA ++ Γ'.fr)
      simpa [List.append_assoc] using this
  | cons o r ih =>
    intro n acc L L' h k hfr
    unfold GDF at k ⊢
    have hc : ¬ fr.contains n = true := fun e => Nat.lt_irrefl _ (hfr n (List.contains_iff_mem.1 e))
    rw [if_neg hc] at k ⊢
    obtain ⟨d, h1, h2, h3⟩ := k
    refine ⟨d, h1, ?_, ih h.ext h3 fun i hi => Nat.lt_succ_of_lt (hfr i hi)⟩
    unfold Step at h2 ⊢
    split
    · rename_i hg; rw [hg] at h2; exact h.opP h2
    · rename_i j want hg
      rw [hg] at h2
      obtain ⟨t, u, e1, e2, e3⟩ := h2
      obtain ⟨e, g1, g2, _⟩ := h t _ e2
      exact ⟨t, u, e1, by rw [g1, g2 u rfl], e3.imp (fun ⟨b, hu, q⟩ => ⟨b, hu, q.imp (fun ⟨p, q⟩ => ⟨p, h.opP q⟩) id⟩) id⟩
theorem OpT.mono {o : Oper} {R R' : D → List Asrt → Prop} (h : OpT P o L ms R) (k : ∀ d ms', R d ms' → R' d ms') : OpT P o L ms R' :=
  fun ro H fr a w hok henv next Q hn => h ro H fr a w hok henv next Q fun v d ms' w' H' hR hle hok' hc hs => hn v d ms' w' H' (k _ _ hR) hle hok' hc hs
end
end Go.V
