/- Part C05d of the proof: contracts of the functions that are walked, and what they compute; no condition. -/
import Derived.Test.YtnnjgbcojdnhhaaC05c
set_option linter.unusedVariables false
set_option linter.unusedSimpArgs false
set_option maxRecDepth 100000
namespace Go.Proofs.Ytnnjgbcojdnhhaa
open Go.V
open Classical
theorem gd_self {l : List Int} {i : Nat} (h : i < l.length) (y : Int) : gd (l.set i y) (i : Int) = y := by
  unfold gd; rw [Int.toNat_natCast, List.getElem?_set_self h]; rfl
theorem gd_other {l : List Int} {i : Nat} {k : Int} (h : k.toNat ≠ i) (y : Int) : gd (l.set i y) k = gd l k := by
  unfold gd; rw [List.getElem?_set_ne (Ne.symm h)]
theorem set_gd {l : List Int} {i : Nat} (h : i < l.length) : l.set i (gd l (i : Int)) = l := by
  unfold gd
  rw [Int.toNat_natCast, List.getElem?_eq_getElem h]
  exact List.set_getElem_self h
theorem rmayK (i : Nat) (ks c d : List Int) (M : Int) (hM : 0 ≤ M ∧ M ≤ 100000) (hks : ks.length ≤ 63) (hi : i < c.length) (hd : d.length = c.length) (hb : Bd M c) :
    ∃ o, m_syntagmaref05_May_l2 (i : Int) ks FU (0, c, d) = some o ∧ ((inL i ks → o = Out.go (incs c ks, d.set i (mx (gd d) (gd d i) ks))) ∧ (¬ inL i ks → o = Out.ret 4)) := by
  refine loop_rng (φ := fun n j (s : List Int × List Int) => m_syntagmaref05_May_l2 (i : Int) ks n (j, s.1, s.2)) (l := ks) (fun j s => s = (incs c (ks.take j), d.set i (mx (gd d) (gd d i) (ks.take j))) ∧ inL i (ks.take j)) _ ?_ ?_ (by rw [FUv]; omega) (c, d) ⟨?_, fun k hk => by simp at hk⟩
  · rintro n j x s hx hj ⟨rfl, hI⟩
    simp only [m_syntagmaref05_May_l2]
    rw [decide_eq_true (show (j : Int) < ks.length by omega), cond_true, getI hx, Option.bind_some]
    by_cases hq : 0 ≤ x ∧ x < (i : Int)
    · have hbd := incs_bd hM.1 (ks.take j) c hb
      have hl : (ks.take j).length = j := by simp; omega
      rw [hl] at hbd
      have hg := bd_gd hbd (by omega) x
      have hxi : x.toNat ≠ i := by omega
      rw [decide_eq_false (by omega), cond_false, Option.bind_some, decide_eq_false (by omega), Option.bind_some, cond_false, Option.bind_some, idxD (l := incs c _) hq.1 (by rw [incs_len]; omega), Option.bind_some, grd_pos (by omega)]
      rw [Option.bind_some, idxD (k := (i : Int)) (by omega) (by rw [List.length_set]; omega), Option.bind_some, Option.bind_some, idxD (k := x) (by omega) (by rw [List.length_set]; omega), Option.bind_some, Option.bind_some, grd_pos (by omega)]
      refine .inl ⟨(_, _), rfl, ?_, ?_⟩
      · rw [take_snoc hx, incs_snoc, mx_snoc, gd_self (by omega), gd_other hxi, Int.toNat_natCast, List.set_set]; rfl
      · rw [take_snoc hx]
        intro k hk
        rcases List.mem_append.1 hk with hk | hk
        · exact hI k hk
        · rw [List.mem_singleton] at hk; rw [hk]; exact hq
    · have hq2 : ((bif (decide (x < 0)) then (some true) else ((some x).bind fun x6 => some (decide ((i : Int) ≤ x6)))) : Option Bool) = some true := by
        by_cases h0 : x < 0
        · rw [decide_eq_true h0]; rfl
        · rw [decide_eq_false h0, cond_false, Option.bind_some, decide_eq_true (p := (i : Int) ≤ x) (by omega)]
      rw [hq2, Option.bind_some, cond_true]
      exact .inr ⟨_, rfl, fun h => absurd (h x (List.mem_of_getElem? hx)) hq, fun _ => rfl⟩
  · rintro n s ⟨rfl, hI⟩
    simp only [m_syntagmaref05_May_l2]
    rw [decide_eq_false (by omega), cond_false]
    rw [List.take_length] at *
    exact ⟨_, rfl, fun _ => rfl, fun h => absurd hI h⟩
  · show (c, d) = (c, d.set i (gd d i))
    rw [set_gd (by omega)]
theorem rmayL (e : ApiExpr) (hl : e.l.length ≤ 700) (hN : ∀ n ∈ e.l, NB n) : ∃ o, m_syntagmaref05_May_l1 e FU (0, List.replicate e.l.length 0, List.replicate e.l.length 0) = some o ∧ ((allOk e.l → o = Out.go (cntU e.l e.l.length, depU e.l e.l.length)) ∧ (¬ allOk e.l → o = Out.ret 4)) := by
  refine loop_rng (φ := fun n j (s : List Int × List Int) => m_syntagmaref05_May_l1 e n (j, s.1, s.2)) (l := e.l) (fun i s => s = (cntU e.l i, depU e.l i) ∧ ∀ (j : Nat) n, j < i → e.l[j]? = some n → okN e.l j n) _ ?_ ?_ (by rw [FUv]; omega) (_, _) ⟨rfl, fun j n hj => by omega⟩
  · rintro m i n s hn hi ⟨rfl, hI⟩
    simp only [m_syntagmaref05_May_l1]
    rw [decide_eq_true (show (i : Int) < e.l.length by omega), cond_true, getI hn, Option.bind_some]
    have hNn := hN n (List.mem_of_getElem? hn)
    rw [rright_eq n hNn, Option.bind_some]
    obtain ⟨o, h1, h2, h3⟩ := rmayK i (kidsP n) (cntU e.l i) (depU e.l i) (63 * i) (by omega) (kids_len n hNn) (by rw [cntU_len]; omega) (by rw [cntU_len, depU_len]) (cntU_bd _ hN i)
    cases hr : rightB n with
    | false =>
      exact .inr ⟨_, rfl, fun h => absurd (h i n hn).1 (by simp [hr]), fun _ => rfl⟩
    | true =>
      rw [Bool.not_true, cond_false, Option.bind_some, rkids_eq n hNn, Option.bind_some, h1, Option.bind_some]
      by_cases hq : inL i (kidsP n)
      · rw [h2 hq, go_on]
        have hdl : i < (depU e.l i).length := by rw [depU_len]; omega
        have hb := mx_bd (M := (i : Int)) (fun k => bd_gd (depU_bd e.l i) (by omega) k) (kidsP n) (gd (depU e.l i) i) (bd_gd (depU_bd e.l i) (by omega) _)
        simp only
        rw [idxD (k := (i : Int)) (by omega) (by rw [List.length_set]; omega), Option.bind_some, gd_self hdl, grd_pos (by omega), Option.bind_some, Option.bind_some]
        have hgo : ∀ (hok : n.kind = 8 → ∃ m, e.l[n.a.toNat]? = some m ∧ m.kind = 5), ((incs (cntU e.l i) (kidsP n), ((depU e.l i).set i (mx (gd (depU e.l i)) (gd (depU e.l i) i) (kidsP n))).set (i : Int).toNat (mx (gd (depU e.l i)) (gd (depU e.l i) i) (kidsP n) + 1)) : List Int × List Int) = (cntU e.l (i + 1), depU e.l (i + 1)) ∧ ∀ (j : Nat) n, j < i + 1 → e.l[j]? = some n → okN e.l j n := by
          intro hok
          refine ⟨by rw [cntU_s hn, depU_s hn, Int.toNat_natCast, List.set_set], ?_⟩
          intro j x hj hx
          by_cases hji : j = i
          · subst hji
            rw [hn] at hx
            rw [← Option.some.inj hx]
            exact ⟨hr, hq, hok⟩
          · exact hI j x (by omega) hx
        by_cases h8 : n.kind = 8
        · have ha := hq n.a (kind8 h8)
          have hal : n.a.toNat < e.l.length := by omega
          rw [decide_eq_true h8, cond_true, Option.bind_some, show idx e.l n.a = some e.l[n.a.toNat] by
            obtain ⟨m, hm⟩ : ∃ m : Nat, n.a = (m : Int) := ⟨n.a.toNat, by omega⟩
            simp only [hm, Int.toNat_natCast]
            rw [idx_nat, List.getElem?_eq_getElem], Option.bind_some]
          by_cases h5 : e.l[n.a.toNat].kind = 5
          · rw [decide_eq_true h5, Bool.not_true, cond_false, grd_pos (by omega)]
            exact .inl ⟨(_, _), rfl, hgo fun _ => ⟨_, List.getElem?_eq_getElem hal, h5⟩⟩
          · rw [decide_eq_false h5, Bool.not_false, cond_true]
            refine .inr ⟨_, rfl, fun h => ?_, fun _ => rfl⟩
            obtain ⟨m, hm, hm5⟩ := (h i n hn).2.2 h8
            rw [List.getElem?_eq_getElem hal] at hm
            exact absurd (by rw [Option.some.inj hm]; exact hm5) h5
        · rw [decide_eq_false h8, cond_false, grd_pos (by omega)]
          exact .inl ⟨(_, _), rfl, hgo fun h => absurd h h8⟩
      · rw [h3 hq]
        exact .inr ⟨_, rfl, fun h => absurd (h i n hn).2.1 hq, fun _ => rfl⟩
  · rintro m s ⟨rfl, hI⟩
    simp only [m_syntagmaref05_May_l1]
    rw [decide_eq_false (by omega), cond_false]
    exact ⟨_, rfl, fun _ => rfl, fun h => absurd (fun i n hn => hI i n (getLt hn) hn) h⟩
/-! Depths -/
theorem depK (i : Nat) (ks d : List Int) (hks : ks.length ≤ 63) (hi : i < d.length) (hI : inL i ks) :
    m_tree_depths_l2 (i : Int) ks FU (0, d) = some (d.set i (mx (gd d) (gd d i) ks)) := by
  obtain ⟨o, h1, h2⟩ := loop_rng (φ := fun n j s => m_tree_depths_l2 (i : Int) ks n (j, s)) (l := ks) (fun j s => s = d.set i (mx (gd d) (gd d i) (ks.take j))) (fun o => o = d.set i (mx (gd d) (gd d i) ks)) (by
    rintro n j x s hx hj rfl
    simp only [m_tree_depths_l2]
    have hq := hI x (List.mem_of_getElem? hx)
    have hxi : x.toNat ≠ i := by omega
    rw [decide_eq_true (show (j : Int) < ks.length by omega), cond_true, getI hx, Option.bind_some]
    rw [idxD (k := (i : Int)) (by omega) (by rw [List.length_set]; omega), Option.bind_some, idxD (k := x) (by omega) (by rw [List.length_set]; omega), Option.bind_some, Option.bind_some, grd_pos (by omega)]
    refine .inl ⟨_, rfl, ?_⟩
    rw [take_snoc hx, mx_snoc, gd_self (by omega), gd_other hxi, Int.toNat_natCast, List.set_set]) (by
    rintro n s rfl
    simp only [m_tree_depths_l2]
    rw [decide_eq_false (by omega), cond_false, List.take_length]
    exact ⟨_, rfl, rfl⟩) (by rw [FUv]; omega) d (by
    show d = d.set i (gd d i)
    rw [set_gd (by omega)])
  rw [h1, h2]
theorem depths_eq (e : ApiExpr) (hl : e.l.length ≤ 700) (hN : ∀ n ∈ e.l, NB n) (hok : allOk e.l) : m_tree_depths e = some (depU e.l e.l.length) := by
  unfold m_tree_depths
  rw [grd_pos (by omega), grd_pos (by omega), Int.toNat_natCast]
  obtain ⟨o, h1, h2⟩ := loop_rng (φ := fun n j s => m_tree_depths_l1 e n (j, s)) (l := e.l) (fun i s => s = depU e.l i) (fun o => o = depU e.l e.l.length) (by
    rintro m i n s hn hi rfl
    simp only [m_tree_depths_l1]
    have hNn := hN n (List.mem_of_getElem? hn)
    have hdl : i < (depU e.l i).length := by rw [depU_len]; omega
    have hb := mx_bd (M := (i : Int)) (fun k => bd_gd (depU_bd e.l i) (by omega) k) (kidsP n) (gd (depU e.l i) i) (bd_gd (depU_bd e.l i) (by omega) _)
    rw [decide_eq_true (show (i : Int) < e.l.length by omega), cond_true, getI hn, Option.bind_some]
    rw [show m_tree_Kids (⟨n.kind, n.a, n.b, n.c, n.n_, n.name, n.s, n.l, n.pos⟩ : ApiNode) = m_tree_Kids n from rfl, kids_eq n hNn, Option.bind_some, depK i _ _ (kids_len n hNn) hdl (hok i n hn).2.1, Option.bind_some]
    rw [idxD (k := (i : Int)) (by omega) (by rw [List.length_set]; omega), Option.bind_some, gd_self hdl, grd_pos (by omega), Option.bind_some, grd_pos (by omega)]
    refine .inl ⟨_, rfl, ?_⟩
    rw [depU_s hn, Int.toNat_natCast, List.set_set]) (by
    rintro n s rfl
    simp only [m_tree_depths_l1]
    rw [decide_eq_false (by omega), cond_false]
    exact ⟨_, rfl, rfl⟩) (by rw [FUv]; omega) (List.replicate e.l.length 0) rfl
  rw [h1, h2, Option.bind_some]
/-! May -/
theorem contains_eq (l : List Int) (h : l.length ≤ 1000) : m_slices_ContainsFunc_int_int l (fun y0 => m_tree_May_1 y0) = some (decide (∃ c ∈ l, c ≠ 1)) := by
  unfold m_slices_ContainsFunc_int_int m_slices_IndexFunc_int_int
  rw [loop_find (φ := m_slices_IndexFunc_int_int_l1 l (fun y0 => m_tree_May_1 y0)) (l := l) (fun i => (i : Int)) (fun c => !decide (c = 1)) ?_ ?_ (by rw [FUv]; omega)]
  · rw [Option.bind_some]
    cases hf : l.findIdx? (fun c => !decide (c = 1)) with
    | none =>
      have : ¬ ∃ c ∈ l, c ≠ 1 := by
        rintro ⟨c, hc, hne⟩
        have := List.findIdx?_eq_none_iff.1 hf c hc
        simp [hne] at this
      rw [decide_eq_false this]; rfl
    | some i =>
      obtain ⟨hi, h1, _⟩ := List.findIdx?_eq_some_iff_getElem.1 hf
      have : ∃ c ∈ l, c ≠ 1 := ⟨l[i], List.getElem_mem hi, by simpa using h1⟩
      rw [decide_eq_true this]
      show some (decide (0 ≤ (i : Int))) = some true
      rw [decide_eq_true (by omega)]
  · intro n i x hx hi
    simp only [m_slices_IndexFunc_int_int_l1]
    rw [decide_eq_true (show (i : Int) < l.length by omega), cond_true, getI hx, Option.bind_some, show m_tree_May_1 x = some (!decide (x = 1)) from rfl, Option.bind_some]
    exact ⟨fun hq => by rw [hq, cond_false, grd_pos (by omega)], fun hq => by rw [hq, cond_true]⟩
  · intro n
    simp only [m_slices_IndexFunc_int_int_l1]
    rw [decide_eq_false (by omega), cond_false]
def odd1 (L : List ApiNode) : Prop := ∃ c ∈ (cntU L L.length).take (L.length - 1), c ≠ 1
noncomputable def mayT (L : List ApiNode) : Int := if L.length = 0 ∨ 600 < L.length then 8 else if ¬ allOk L then 4 else if odd1 L then 4 else if 100 < gd (depU L L.length) ((L.length : Int) - 1) then 6 else 0
theorem may_eq (e : ApiExpr) (hl : e.l.length ≤ 701) (hN : ∀ n ∈ e.l, NB n) : m_tree_May e = some (mayT e.l) := by
  unfold m_tree_May mayT
  by_cases h0 : e.l.length = 0 ∨ 600 < e.l.length
  · rw [if_pos h0, show (decide ((e.l.length : Int) = 0) || decide (600 < (e.l.length : Int))) = true by rw [Bool.or_eq_true, decide_eq_true_eq, decide_eq_true_eq]; omega, cond_true]
  rw [if_neg h0, decide_eq_false (by omega), decide_eq_false (by omega), Bool.or_false, cond_false, grd_pos (by omega), grd_pos (by omega), Int.toNat_natCast]
  obtain ⟨o, h1, h2, h3⟩ := mayL e (by omega) hN
  rw [h1, Option.bind_some]
  by_cases hok : allOk e.l
  · rw [h2 hok, go_on, if_neg (fun h => h hok), cntU_len, grd_pos (by omega), show ((e.l.length : Int) - 1) = ((e.l.length - 1 : Nat) : Int) by omega, sli_take (by rw [cntU_len]; omega), Option.bind_some, contains_eq _ (by simp; omega), Option.bind_some]
    by_cases ho : odd1 e.l
    · rw [if_pos ho, decide_eq_true (p := ∃ c ∈ _, c ≠ 1) ho, cond_true]
    · rw [if_neg ho, decide_eq_false (p := ∃ c ∈ _, c ≠ 1) ho, cond_false, depths_eq e (by omega) hN hok, Option.bind_some, grd_pos (by omega), idxD (by omega) (by rw [depU_len]; omega), Option.bind_some]
      by_cases hd : 100 < gd (depU e.l e.l.length) ((e.l.length - 1 : Nat) : Int)
      · rw [if_pos hd, decide_eq_true hd, cond_true]
      · rw [if_neg hd, decide_eq_false hd, cond_false]
  · rw [h3 hok, if_pos hok]; rfl
theorem rmay_eq (e : ApiExpr) (hl : e.l.length ≤ 701) (hN : ∀ n ∈ e.l, NB n) : m_syntagmaref05_May e = some (mayT e.l) := by
  unfold m_syntagmaref05_May mayT
  by_cases h0 : e.l.length = 0 ∨ 600 < e.l.length
  · rw [if_pos h0, show (decide ((e.l.length : Int) < 1) || decide (600 < (e.l.length : Int))) = true by rw [Bool.or_eq_true, decide_eq_true_eq, decide_eq_true_eq]; omega, cond_true]
  rw [if_neg h0, decide_eq_false (by omega), decide_eq_false (by omega), Bool.or_false, cond_false, grd_pos (by omega), grd_pos (by omega), grd_pos (by omega), grd_pos (by omega), Int.toNat_natCast]
  obtain ⟨o, h1, h2, h3⟩ := rmayL e (by omega) hN
  rw [h1, Option.bind_some]
  by_cases hok : allOk e.l
  · rw [h2 hok, go_on, if_neg (fun h => h hok)]
    have hL : ((cntU e.l e.l.length).take (e.l.length - 1)).length = e.l.length - 1 := by rw [List.length_take, cntU_len]; omega
    show (m_syntagmaref05_May_l3 e (cntU e.l e.l.length) FU 0).bind _ = _
    rw [loop_any (φ := m_syntagmaref05_May_l3 e (cntU e.l e.l.length)) (l := (cntU e.l e.l.length).take (e.l.length - 1)) 4 (fun _ c => c ≠ 1) ?_ ?_ (by rw [FUv, hL]; omega)]
    · rw [Option.bind_some]
      by_cases ho : odd1 e.l
      · rw [if_pos ho, if_pos]
        · rfl
        · obtain ⟨c, hc, hne⟩ := ho
          obtain ⟨i, hi, hx⟩ := List.getElem_of_mem hc
          exact ⟨i, c, by rw [← hx]; exact List.getElem?_eq_getElem hi, hne⟩
      · rw [if_neg ho, if_neg, go_on, grd_pos (by omega), idxD (by omega) (by rw [depU_len]; omega), Option.bind_some]
        · by_cases hd : 100 < gd (depU e.l e.l.length) ((e.l.length : Int) - 1)
          · rw [if_pos hd, decide_eq_true hd, cond_true]
          · rw [if_neg hd, decide_eq_false hd, cond_false]
        · rintro ⟨i, c, hx, hne⟩
          exact ho ⟨c, List.mem_of_getElem? hx, hne⟩
    · intro n i x hx hi
      simp only [m_syntagmaref05_May_l3]
      rw [hL] at hi
      have hx2 : (cntU e.l e.l.length)[i]? = some x := by
        rw [List.getElem?_take, if_pos hi] at hx
        exact hx
      rw [grd_pos (by omega), decide_eq_true (show (i : Int) < (e.l.length : Int) - 1 by omega), cond_true, getI hx2, Option.bind_some]
      exact ⟨fun hq => by rw [decide_eq_true (Classical.not_not.1 hq), Bool.not_true, cond_false, grd_pos (by omega)], fun hq => by rw [decide_eq_false hq, Bool.not_false, cond_true]⟩
    · intro n
      simp only [m_syntagmaref05_May_l3]
      rw [grd_pos (by omega), decide_eq_false (by omega), cond_false]
  · rw [h3 hok, if_pos hok]; rfl
end Go.Proofs.Ytnnjgbcojdnhhaa
