/- Part K05b of the proof: contracts of the functions that are walked, and what they compute; no condition. -/
import Derived.Test.YtnnjgbcojdnhhaaK05a
set_option linter.unusedVariables false
set_option linter.unusedSimpArgs false
set_option maxRecDepth 100000
namespace Go.Proofs.Ytnnjgbcojdnhhaa
open Go.V
open Classical
/-! Lists that are counted in -/
def gd (l : List Int) (k : Int) : Int := (l[k.toNat]?).getD 0
theorem idxD {l : List Int} {k : Int} (h0 : 0 ≤ k) (h1 : k < (l.length : Int)) : idx l k = some (gd l k) := by
  have h2 : k.toNat < l.length := by omega
  obtain ⟨m, rfl⟩ : ∃ m : Nat, k = (m : Int) := ⟨k.toNat, by omega⟩
  rw [idx_nat]
  unfold gd
  rw [Int.toNat_natCast, List.getElem?_eq_getElem (by omega)]; rfl
def Bd (M : Int) (l : List Int) : Prop := ∀ x ∈ l, 0 ≤ x ∧ x ≤ M
theorem bd_gd {M : Int} {l : List Int} (h : Bd M l) (hM : 0 ≤ M) (k : Int) : 0 ≤ gd l k ∧ gd l k ≤ M := by
  unfold gd
  cases e : l[k.toNat]? with
  | none => exact ⟨by decide, hM⟩
  | some x => exact h x (List.mem_of_getElem? e)
theorem bd_set {M : Int} {l : List Int} (h : Bd M l) {y : Int} (hy : 0 ≤ y ∧ y ≤ M) (i : Nat) : Bd M (l.set i y) := by
  intro x hx
  rcases List.mem_or_eq_of_mem_set hx with hx | rfl
  · exact h x hx
  · exact hy
theorem bd_up {M N : Int} {l : List Int} (h : Bd M l) (hMN : M ≤ N) : Bd N l := fun x hx => ⟨(h x hx).1, Int.le_trans (h x hx).2 hMN⟩
def inc1 (c : List Int) (k : Int) : List Int := c.set k.toNat (gd c k + 1)
def incs (c ks : List Int) : List Int := ks.foldl inc1 c
theorem incs_len : ∀ (ks c : List Int), (incs c ks).length = c.length
  | [], _ => rfl
  | k :: ks, c => by
    show (incs (inc1 c k) ks).length = _
    rw [incs_len ks]; simp [inc1]
theorem incs_snoc (c ks : List Int) (k : Int) : incs c (ks ++ [k]) = inc1 (incs c ks) k := by
  unfold incs; rw [List.foldl_append]; rfl
theorem incs_bd {M : Int} (hM : 0 ≤ M) : ∀ (ks c : List Int), Bd M c → Bd (M + ks.length) (incs c ks)
  | [], c, h => by simpa [incs] using h
  | k :: ks, c, h => by
    have h1 := bd_gd h hM k
    have := incs_bd (M := M + 1) (by omega) ks (inc1 c k) (bd_set (bd_up h (by omega)) (by omega) _)
    show Bd _ (incs (inc1 c k) ks)
    refine bd_up this ?_
    simp only [List.length_cons]; omega
def mx (f : Int → Int) (b : Int) (ks : List Int) : Int := ks.foldl (fun b k => if f k > b then f k else b) b
theorem mx_snoc (f : Int → Int) (b : Int) (ks : List Int) (k : Int) : mx f b (ks ++ [k]) = if f k > mx f b ks then f k else mx f b ks := by
  unfold mx; rw [List.foldl_append]; rfl
theorem mx_bd {f : Int → Int} {M : Int} (hf : ∀ k, 0 ≤ f k ∧ f k ≤ M) : ∀ (ks : List Int) (b : Int), 0 ≤ b ∧ b ≤ M → 0 ≤ mx f b ks ∧ mx f b ks ≤ M
  | [], b, h => h
  | k :: ks, b, h => by
    show 0 ≤ mx f (if f k > b then f k else b) ks ∧ mx f (if f k > b then f k else b) ks ≤ M
    refine mx_bd hf ks _ ?_
    have := hf k
    split <;> omega
theorem mx_congr {f g : Int → Int} : ∀ (ks : List Int) (b : Int), (∀ k ∈ ks, f k = g k) → mx f b ks = mx g b ks
  | [], b, _ => rfl
  | k :: ks, b, h => by
    show mx f (if f k > b then f k else b) ks = mx g (if g k > b then g k else b) ks
    rw [h k (by simp)]
    exact mx_congr ks _ fun x hx => h x (by simp [hx])
/-! The count of each node's parents, and its depth, up to a node -/
def cntU (L : List ApiNode) : Nat → List Int
  | 0 => List.replicate L.length 0
  | i + 1 => match L[i]? with | some n => incs (cntU L i) (kidsP n) | none => cntU L i
def depU (L : List ApiNode) : Nat → List Int
  | 0 => List.replicate L.length 0
  | i + 1 => match L[i]? with | some n => (depU L i).set i (mx (gd (depU L i)) (gd (depU L i) i) (kidsP n) + 1) | none => depU L i
theorem cntU_s {L : List ApiNode} {i : Nat} {n : ApiNode} (h : L[i]? = some n) : cntU L (i + 1) = incs (cntU L i) (kidsP n) := by rw [cntU, h]
theorem depU_s {L : List ApiNode} {i : Nat} {n : ApiNode} (h : L[i]? = some n) : depU L (i + 1) = (depU L i).set i (mx (gd (depU L i)) (gd (depU L i) i) (kidsP n) + 1) := by rw [depU, h]
theorem cntU_len (L : List ApiNode) : ∀ i, (cntU L i).length = L.length
  | 0 => by simp [cntU]
  | i + 1 => by
    rw [cntU]
    split
    · rw [incs_len, cntU_len L i]
    · exact cntU_len L i
theorem depU_len (L : List ApiNode) : ∀ i, (depU L i).length = L.length
  | 0 => by simp [depU]
  | i + 1 => by
    rw [depU]
    split
    · rw [List.length_set, depU_len L i]
    · exact depU_len L i
theorem bd_zero (n : Nat) : Bd 0 (List.replicate n (0 : Int)) := by
  intro x hx
  rw [List.mem_replicate] at hx
  omega
theorem cntU_bd (L : List ApiNode) (hN : ∀ n ∈ L, NB n) : ∀ i : Nat, Bd (63 * i) (cntU L i)
  | 0 => by simpa [cntU] using bd_zero _
  | i + 1 => by
    have ih := cntU_bd L hN i
    rw [cntU]
    split
    · rename_i n hn
      have := kids_len n (hN n (List.mem_of_getElem? hn))
      exact bd_up (incs_bd (by omega) _ _ ih) (by omega)
    · exact bd_up ih (by omega)
theorem depU_bd (L : List ApiNode) : ∀ i : Nat, Bd (i : Int) (depU L i)
  | 0 => by simpa [depU] using bd_zero _
  | i + 1 => by
    have ih := depU_bd L i
    rw [depU]
    split
    · rename_i n hn
      have h1 := mx_bd (M := (i : Int)) (fun k => bd_gd ih (by omega) k) (kidsP n) (gd (depU L i) i) (bd_gd ih (by omega) _)
      exact bd_set (bd_up ih (by omega)) (by constructor <;> omega) _
    · exact bd_up ih (by omega)
def inL (i : Nat) (ks : List Int) : Prop := ∀ k ∈ ks, 0 ≤ k ∧ k < (i : Int)
def okN (L : List ApiNode) (i : Nat) (n : ApiNode) : Prop := rightB n = true ∧ inL i (kidsP n) ∧ (n.kind = 8 → ∃ m, L[n.a.toNat]? = some m ∧ m.kind = 5)
theorem linkL (i : Nat) (ks c : List Int) (M : Int) (hM : 0 ≤ M ∧ M ≤ 100000) (hks : ks.length ≤ 63) (hi : i ≤ c.length) (hb : Bd M c) :
    ∃ o, m_tree_linked_l1 (i : Int) ks FU (0, c) = some o ∧ ((inL i ks → o = Out.go (incs c ks)) ∧ (¬ inL i ks → ∃ c', o = Out.ret (false, c'))) := by
  refine loop_rng (φ := fun n j s => m_tree_linked_l1 (i : Int) ks n (j, s)) (l := ks) (fun j s => s = incs c (ks.take j) ∧ inL i (ks.take j)) _ ?_ ?_ (by rw [FUv]; omega) c ⟨rfl, fun k hk => by simp at hk⟩
  · rintro n j x s hx hj ⟨rfl, hI⟩
    simp only [m_tree_linked_l1]
    rw [decide_eq_true (show (j : Int) < ks.length by omega), cond_true, getI hx, Option.bind_some]
    by_cases hq : 0 ≤ x ∧ x < (i : Int)
    · have hbd := incs_bd hM.1 (ks.take j) c hb
      have hl : (ks.take j).length = j := by simp; omega
      rw [hl] at hbd
      have hg := bd_gd hbd (by omega) x
      rw [decide_eq_false (by omega), decide_eq_false (by omega), Bool.or_false, cond_false, idxD hq.1 (by rw [incs_len]; omega), Option.bind_some, grd_pos (by omega), Option.bind_some, grd_pos (by omega)]
      refine .inl ⟨_, rfl, ?_, ?_⟩
      · rw [take_snoc hx, incs_snoc]; rfl
      · rw [take_snoc hx]
        intro k hk
        rcases List.mem_append.1 hk with hk | hk
        · exact hI k hk
        · rw [List.mem_singleton] at hk; rw [hk]; exact hq
    · have hq2 : (decide (x < 0) || decide ((i : Int) ≤ x)) = true := by
        rw [Bool.or_eq_true, decide_eq_true_eq, decide_eq_true_eq]; omega
      rw [hq2, cond_true]
      exact .inr ⟨_, rfl, fun h => absurd (h x (List.mem_of_getElem? hx)) hq, fun _ => ⟨_, rfl⟩⟩
  · rintro n s ⟨rfl, hI⟩
    simp only [m_tree_linked_l1]
    rw [decide_eq_false (by omega), cond_false]
    rw [List.take_length] at *
    exact ⟨_, rfl, fun _ => rfl, fun h => absurd hI h⟩
theorem kind8 {n : ApiNode} (h : n.kind = 8) : n.a ∈ kidsP n := by
  unfold kidsP
  rw [h]
  simp [abcN]
theorem linked_eq (e : ApiExpr) (i : Nat) (n : ApiNode) (c : List Int) (M : Int) (hn : e.l[i]? = some n) (hN : NB n) (hM : 0 ≤ M ∧ M ≤ 100000) (hc : c.length = e.l.length) (hb : Bd M c) :
    ∃ b c', m_tree_linked e (i : Int) c = some (b, c') ∧ (b = true ↔ inL i (kidsP n) ∧ (n.kind = 8 → ∃ m, e.l[n.a.toNat]? = some m ∧ m.kind = 5)) ∧ (b = true → c' = incs c (kidsP n)) := by
  have hi := getLt hn
  unfold m_tree_linked
  rw [getI hn, Option.bind_some, kids_eq n hN, Option.bind_some]
  obtain ⟨o, h1, h2, h3⟩ := linkL i (kidsP n) c M hM (kids_len n hN) (by omega) hb
  rw [h1, Option.bind_some]
  by_cases hq : inL i (kidsP n)
  · rw [h2 hq, go_on, Option.bind_some]
    by_cases h8 : n.kind = 8
    · have ha := hq n.a (kind8 h8)
      have hal : n.a.toNat < e.l.length := by omega
      rw [decide_eq_true h8, Bool.not_true, cond_false, Option.bind_some, show idx e.l n.a = some e.l[n.a.toNat] by
        obtain ⟨m, hm⟩ : ∃ m : Nat, n.a = (m : Int) := ⟨n.a.toNat, by omega⟩
        simp only [hm, Int.toNat_natCast]
        rw [idx_nat, List.getElem?_eq_getElem], Option.bind_some]
      refine ⟨_, _, rfl, ?_, fun _ => rfl⟩
      rw [decide_eq_true_eq]
      constructor
      · exact fun h => ⟨hq, fun _ => ⟨_, List.getElem?_eq_getElem hal, h⟩⟩
      · rintro ⟨_, h⟩
        obtain ⟨m, hm, h5⟩ := h h8
        rw [List.getElem?_eq_getElem hal] at hm
        rw [Option.some.inj hm]; exact h5
    · rw [decide_eq_false h8, Bool.not_false, cond_true]
      exact ⟨_, _, rfl, ⟨fun _ => ⟨hq, fun h => absurd h h8⟩, fun _ => rfl⟩, fun _ => rfl⟩
  · obtain ⟨c', rfl⟩ := h3 hq
    exact ⟨_, _, rfl, ⟨fun h => absurd h (by simp), fun h => absurd h.1 hq⟩, fun h => absurd h (by simp)⟩
def allOk (L : List ApiNode) : Prop := ∀ (i : Nat) n, L[i]? = some n → okN L i n
theorem mayL (e : ApiExpr) (hl : e.l.length ≤ 700) (hN : ∀ n ∈ e.l, NB n) : ∃ o, m_tree_May_l1 e FU (0, List.replicate e.l.length 0) = some o ∧ ((allOk e.l → o = Out.go (cntU e.l e.l.length)) ∧ (¬ allOk e.l → o = Out.ret 4)) := by
  refine loop_rng (φ := fun n j s => m_tree_May_l1 e n (j, s)) (l := e.l) (fun i s => s = cntU e.l i ∧ ∀ (j : Nat) n, j < i → e.l[j]? = some n → okN e.l j n) _ ?_ ?_ (by rw [FUv]; omega) _ ⟨rfl, fun j n hj => by omega⟩
  · rintro m i n s hn hi ⟨rfl, hI⟩
    simp only [m_tree_May_l1]
    rw [decide_eq_true (show (i : Int) < e.l.length by omega), cond_true, getI hn, Option.bind_some]
    have hNn := hN n (List.mem_of_getElem? hn)
    rw [show m_tree_right (⟨n.kind, n.a, n.b, n.c, n.n_, n.name, n.s, n.l, n.pos⟩ : ApiNode) = m_tree_right n from rfl, right_eq n hNn, Option.bind_some]
    obtain ⟨b, c', h1, h2, h3⟩ := linked_eq e i n (cntU e.l i) (63 * i) hn hNn (by omega) (cntU_len _ _) (cntU_bd _ hN i)
    cases hr : rightB n with
    | false =>
      exact .inr ⟨_, rfl, fun h => absurd (h i n hn).1 (by simp [hr]), fun _ => rfl⟩
    | true =>
      rw [Bool.not_true, cond_false, h1, Option.bind_some]
      cases b with
      | false =>
        refine .inr ⟨_, rfl, fun h => ?_, fun _ => rfl⟩
        have := h2.2 (h i n hn).2
        simp at this
      | true =>
        refine .inl ⟨c', ?_, ?_, ?_⟩
        · show (bif (!true) then _ else grd (InR ((i : Int) + 1)) (m_tree_May_l1 e m ((i : Int) + 1, c'))) = _
          rw [Bool.not_true, cond_false, grd_pos (by omega)]
        · rw [h3 rfl, cntU_s hn]
        · intro j x hj hx
          by_cases hji : j = i
          · subst hji
            rw [hn] at hx
            rw [← Option.some.inj hx]
            exact ⟨hr, h2.1 rfl⟩
          · exact hI j x (by omega) hx
  · rintro m s ⟨rfl, hI⟩
    simp only [m_tree_May_l1]
    rw [decide_eq_false (by omega), cond_false]
    exact ⟨_, rfl, fun _ => rfl, fun h => absurd (fun i n hn => hI i n (getLt hn) hn) h⟩
theorem gd_self {l : List Int} {i : Nat} (h : i < l.length) (y : Int) : gd (l.set i y) (i : Int) = y := by
  unfold gd; rw [Int.toNat_natCast, List.getElem?_set_self h]; rfl
theorem gd_other {l : List Int} {i : Nat} {k : Int} (h : k.toNat ≠ i) (y : Int) : gd (l.set i y) k = gd l k := by
  unfold gd; rw [List.getElem?_set_ne (Ne.symm h)]
theorem set_gd {l : List Int} {i : Nat} (h : i < l.length) : l.set i (gd l (i : Int)) = l := by
  unfold gd
  rw [Int.toNat_natCast, List.getElem?_eq_getElem h]
  exact List.set_getElem_self h
theorem rmayK (i : Nat) (ks c d : List Int) (M : Int) (hM : 0 ≤ M ∧ M ≤ 100000) (hks : ks.length ≤ 63) (hi : i < c.length) (hd : d.length = c.length) (hb : Bd M c) :
    ∃ o, m_syntagmaref05_May_l2 (i : Int) ks FU (0, c, d) = some o ∧ ((inL i ks → o = Out.go (incs c ks, d.set i (mx (gd d) (gd d i) ks))) ∧ (¬ inL i ks → o = Out.ret 4)) := by
  refine loop_rng (φ := fun n j (s : List Int × List Int) => m_syntagmaref05_May_l2 (i : Int) ks n (j, s.1, s.2)) (l := ks) (fun j s => s = (incs c (ks.take j), d.set i (mx (gd d) (gd d i) (ks.take j))) ∧ inL i (ks.take j)) _ ?_ ?_ (by rw [FUv]; omega) (c, d) ⟨?_, fun k hk => by simp at hk⟩
  · rintro n j x s hx hj ⟨rfl, hI⟩
    simp only [m_syntagmaref05_May_l2]
    rw [decide_eq_true (show (j : Int) < ks.length by omega), cond_true, getI hx, Option.bind_some]
    by_cases hq : 0 ≤ x ∧ x < (i : Int)
    · have hbd := incs_bd hM.1 (ks.take j) c hb
      have hl : (ks.take j).length = j := by simp; omega
      rw [hl] at hbd
      have hg := bd_gd hbd (by omega) x
      have hxi : x.toNat ≠ i := by omega
      rw [decide_eq_false (by omega), cond_false, Option.bind_some, decide_eq_false (by omega), Option.bind_some, cond_false, Option.bind_some, idxD (l := incs c _) hq.1 (by rw [incs_len]; omega), Option.bind_some, grd_pos (by omega)]
      rw [Option.bind_some, idxD (k := (i : Int)) (by omega) (by rw [List.length_set]; omega), Option.bind_some, Option.bind_some, idxD (k := x) (by omega) (by rw [List.length_set]; omega), Option.bind_some, Option.bind_some, grd_pos (by omega)]
      refine .inl ⟨(_, _), rfl, ?_, ?_⟩
      · rw [take_snoc hx, incs_snoc, mx_snoc, gd_self (by omega), gd_other hxi, Int.toNat_natCast, List.set_set]; rfl
      · rw [take_snoc hx]
        intro k hk
        rcases List.mem_append.1 hk with hk | hk
        · exact hI k hk
        · rw [List.mem_singleton] at hk; rw [hk]; exact hq
    · have hq2 : ((bif (decide (x < 0)) then (some true) else ((some x).bind fun x6 => some (decide ((i : Int) ≤ x6)))) : Option Bool) = some true := by
        by_cases h0 : x < 0
        · rw [decide_eq_true h0]; rfl
        · rw [decide_eq_false h0, cond_false, Option.bind_some, decide_eq_true (p := (i : Int) ≤ x) (by omega)]
      rw [hq2, Option.bind_some, cond_true]
      exact .inr ⟨_, rfl, fun h => absurd (h x (List.mem_of_getElem? hx)) hq, fun _ => rfl⟩
  · rintro n s ⟨rfl, hI⟩
    simp only [m_syntagmaref05_May_l2]
    rw [decide_eq_false (by omega), cond_false]
    rw [List.take_length] at *
    exact ⟨_, rfl, fun _ => rfl, fun h => absurd hI h⟩
  · show (c, d) = (c, d.set i (gd d i))
    rw [set_gd (by omega)]
theorem rmayL (e : ApiExpr) (hl : e.l.length ≤ 700) (hN : ∀ n ∈ e.l, NB n) : ∃ o, m_syntagmaref05_May_l1 e FU (0, List.replicate e.l.length 0, List.replicate e.l.length 0) = some o ∧ ((allOk e.l → o = Out.go (cntU e.l e.l.length, depU e.l e.l.length)) ∧ (¬ allOk e.l → o = Out.ret 4)) := by
  refine loop_rng (φ := fun n j (s : List Int × List Int) => m_syntagmaref05_May_l1 e n (j, s.1, s.2)) (l := e.l) (fun i s => s = (cntU e.l i, depU e.l i) ∧ ∀ (j : Nat) n, j < i → e.l[j]? = some n → okN e.l j n) _ ?_ ?_ (by rw [FUv]; omega) (_, _) ⟨rfl, fun j n hj => by omega⟩
  · rintro m i n s hn hi ⟨rfl, hI⟩
    simp only [m_syntagmaref05_May_l1]
    rw [decide_eq_true (show (i : Int) < e.l.length by omega), cond_true, getI hn, Option.bind_some]
    have hNn := hN n (List.mem_of_getElem? hn)
    rw [rright_eq n hNn, Option.bind_some]
    obtain ⟨o, h1, h2, h3⟩ := rmayK i (kidsP n) (cntU e.l i) (depU e.l i) (63 * i) (by omega) (kids_len n hNn) (by rw [cntU_len]; omega) (by rw [cntU_len, depU_len]) (cntU_bd _ hN i)
    cases hr : rightB n with
    | false =>
      exact .inr ⟨_, rfl, fun h => absurd (h i n hn).1 (by simp [hr]), fun _ => rfl⟩
    | true =>
      rw [Bool.not_true, cond_false, Option.bind_some, rkids_eq n hNn, Option.bind_some, h1, Option.bind_some]
      by_cases hq : inL i (kidsP n)
      · rw [h2 hq, go_on]
        have hdl : i < (depU e.l i).length := by rw [depU_len]; omega
        have hb := mx_bd (M := (i : Int)) (fun k => bd_gd (depU_bd e.l i) (by omega) k) (kidsP n) (gd (depU e.l i) i) (bd_gd (depU_bd e.l i) (by omega) _)
        simp only
        rw [idxD (k := (i : Int)) (by omega) (by rw [List.length_set]; omega), Option.bind_some, gd_self hdl, grd_pos (by omega), Option.bind_some, Option.bind_some]
        have hgo : ∀ (hok : n.kind = 8 → ∃ m, e.l[n.a.toNat]? = some m ∧ m.kind = 5), ((incs (cntU e.l i) (kidsP n), ((depU e.l i).set i (mx (gd (depU e.l i)) (gd (depU e.l i) i) (kidsP n))).set (i : Int).toNat (mx (gd (depU e.l i)) (gd (depU e.l i) i) (kidsP n) + 1)) : List Int × List Int) = (cntU e.l (i + 1), depU e.l (i + 1)) ∧ ∀ (j : Nat) n, j < i + 1 → e.l[j]? = some n → okN e.l j n := by
          intro hok
          refine ⟨by rw [cntU_s hn, depU_s hn, Int.toNat_natCast, List.set_set], ?_⟩
          intro j x hj hx
          by_cases hji : j = i
          · subst hji
            rw [hn] at hx
            rw [← Option.some.inj hx]
            exact ⟨hr, hq, hok⟩
          · exact hI j x (by omega) hx
        by_cases h8 : n.kind = 8
        · have ha := hq n.a (kind8 h8)
          have hal : n.a.toNat < e.l.length := by omega
          rw [decide_eq_true h8, cond_true, Option.bind_some, show idx e.l n.a = some e.l[n.a.toNat] by
            obtain ⟨m, hm⟩ : ∃ m : Nat, n.a = (m : Int) := ⟨n.a.toNat, by omega⟩
            simp only [hm, Int.toNat_natCast]
            rw [idx_nat, List.getElem?_eq_getElem], Option.bind_some]
          by_cases h5 : e.l[n.a.toNat].kind = 5
          · rw [decide_eq_true h5, Bool.not_true, cond_false, grd_pos (by omega)]
            exact .inl ⟨(_, _), rfl, hgo fun _ => ⟨_, List.getElem?_eq_getElem hal, h5⟩⟩
          · rw [decide_eq_false h5, Bool.not_false, cond_true]
            refine .inr ⟨_, rfl, fun h => ?_, fun _ => rfl⟩
            obtain ⟨m, hm, hm5⟩ := (h i n hn).2.2 h8
            rw [List.getElem?_eq_getElem hal] at hm
            exact absurd (by rw [Option.some.inj hm]; exact hm5) h5
        · rw [decide_eq_false h8, cond_false, grd_pos (by omega)]
          exact .inl ⟨(_, _), rfl, hgo fun h => absurd h h8⟩
      · rw [h3 hq]
        exact .inr ⟨_, rfl, fun h => absurd (h i n hn).2.1 hq, fun _ => rfl⟩
  · rintro m s ⟨rfl, hI⟩
    simp only [m_syntagmaref05_May_l1]
    rw [decide_eq_false (by omega), cond_false]
    exact ⟨_, rfl, fun _ => rfl, fun h => absurd (fun i n hn => hI i n (getLt hn) hn) h⟩
/-! Depths -/
theorem depK (i : Nat) (ks d : List Int) (hks : ks.length ≤ 63) (hi : i < d.length) (hI : inL i ks) :
    m_tree_depths_l2 (i : Int) ks FU (0, d) = some (d.set i (mx (gd d) (gd d i) ks)) := by
  obtain ⟨o, h1, h2⟩ := loop_rng (φ := fun n j s => m_tree_depths_l2 (i : Int) ks n (j, s)) (l := ks) (fun j s => s = d.set i (mx (gd d) (gd d i) (ks.take j))) (fun o => o = d.set i (mx (gd d) (gd d i) ks)) (by
    rintro n j x s hx hj rfl
    simp only [m_tree_depths_l2]
    have hq := hI x (List.mem_of_getElem? hx)
    have hxi : x.toNat ≠ i := by omega
    rw [decide_eq_true (show (j : Int) < ks.length by omega), cond_true, getI hx, Option.bind_some]
    rw [idxD (k := (i : Int)) (by omega) (by rw [List.length_set]; omega), Option.bind_some, idxD (k := x) (by omega) (by rw [List.length_set]; omega), Option.bind_some, Option.bind_some, grd_pos (by omega)]
    refine .inl ⟨_, rfl, ?_⟩
    rw [take_snoc hx, mx_snoc, gd_self (by omega), gd_other hxi, Int.toNat_natCast, List.set_set]) (by
    rintro n s rfl
    simp only [m_tree_depths_l2]
    rw [decide_eq_false (by omega), cond_false, List.take_length]
    exact ⟨_, rfl, rfl⟩) (by rw [FUv]; omega) d (by
    show d = d.set i (gd d i)
    rw [set_gd (by omega)])
  rw [h1, h2]
theorem depths_eq (e : ApiExpr) (hl : e.l.length ≤ 700) (hN : ∀ n ∈ e.l, NB n) (hok : allOk e.l) : m_tree_depths e = some (depU e.l e.l.length) := by
  unfold m_tree_depths
  rw [grd_pos (by omega), grd_pos (by omega), Int.toNat_natCast]
  obtain ⟨o, h1, h2⟩ := loop_rng (φ := fun n j s => m_tree_depths_l1 e n (j, s)) (l := e.l) (fun i s => s = depU e.l i) (fun o => o = depU e.l e.l.length) (by
    rintro m i n s hn hi rfl
    simp only [m_tree_depths_l1]
    have hNn := hN n (List.mem_of_getElem? hn)
    have hdl : i < (depU e.l i).length := by rw [depU_len]; omega
    have hb := mx_bd (M := (i : Int)) (fun k => bd_gd (depU_bd e.l i) (by omega) k) (kidsP n) (gd (depU e.l i) i) (bd_gd (depU_bd e.l i) (by omega) _)
    rw [decide_eq_true (show (i : Int) < e.l.length by omega), cond_true, getI hn, Option.bind_some]
    rw [show m_tree_Kids (⟨n.kind, n.a, n.b, n.c, n.n_, n.name, n.s, n.l, n.pos⟩ : ApiNode) = m_tree_Kids n from rfl, kids_eq n hNn, Option.bind_some, depK i _ _ (kids_len n hNn) hdl (hok i n hn).2.1, Option.bind_some]
    rw [idxD (k := (i : Int)) (by omega) (by rw [List.length_set]; omega), Option.bind_some, gd_self hdl, grd_pos (by omega), Option.bind_some, grd_pos (by omega)]
    refine .inl ⟨_, rfl, ?_⟩
    rw [depU_s hn, Int.toNat_natCast, List.set_set]) (by
    rintro n s rfl
    simp only [m_tree_depths_l1]
    rw [decide_eq_false (by omega), cond_false]
    exact ⟨_, rfl, rfl⟩) (by rw [FUv]; omega) (List.replicate e.l.length 0) rfl
  rw [h1, h2, Option.bind_some]
/-! May -/
theorem contains_eq (l : List Int) (h : l.length ≤ 1000) : m_slices_ContainsFunc_int_int l (fun y0 => m_tree_May_1 y0) = some (decide (∃ c ∈ l, c ≠ 1)) := by
  unfold m_slices_ContainsFunc_int_int m_slices_IndexFunc_int_int
  rw [loop_find (φ := m_slices_IndexFunc_int_int_l1 l (fun y0 => m_tree_May_1 y0)) (l := l) (fun i => (i : Int)) (fun c => !decide (c = 1)) ?_ ?_ (by rw [FUv]; omega)]
  · rw [Option.bind_some]
    cases hf : l.findIdx? (fun c => !decide (c = 1)) with
    | none =>
      have : ¬ ∃ c ∈ l, c ≠ 1 := by
        rintro ⟨c, hc, hne⟩
        have := List.findIdx?_eq_none_iff.1 hf c hc
        simp [hne] at this
      rw [decide_eq_false this]; rfl
    | some i =>
      obtain ⟨hi, h1, _⟩ := List.findIdx?_eq_some_iff_getElem.1 hf
      have : ∃ c ∈ l, c ≠ 1 := ⟨l[i], List.getElem_mem hi, by simpa using h1⟩
      rw [decide_eq_true this]
      show some (decide (0 ≤ (i : Int))) = some true
      rw [decide_eq_true (by omega)]
  · intro n i x hx hi
    simp only [m_slices_IndexFunc_int_int_l1]
    rw [decide_eq_true (show (i : Int) < l.length by omega), cond_true, getI hx, Option.bind_some, show m_tree_May_1 x = some (!decide (x = 1)) from rfl, Option.bind_some]
    exact ⟨fun hq => by rw [hq, cond_false, grd_pos (by omega)], fun hq => by rw [hq, cond_true]⟩
  · intro n
    simp only [m_slices_IndexFunc_int_int_l1]
    rw [decide_eq_false (by omega), cond_false]
def odd1 (L : List ApiNode) : Prop := ∃ c ∈ (cntU L L.length).take (L.length - 1), c ≠ 1
noncomputable def mayT (L : List ApiNode) : Int := if L.length = 0 ∨ 600 < L.length then 8 else if ¬ allOk L then 4 else if odd1 L then 4 else if 100 < gd (depU L L.length) ((L.length : Int) - 1) then 6 else 0
theorem may_eq (e : ApiExpr) (hl : e.l.length ≤ 701) (hN : ∀ n ∈ e.l, NB n) : m_tree_May e = some (mayT e.l) := by
  unfold m_tree_May mayT
  by_cases h0 : e.l.length = 0 ∨ 600 < e.l.length
  · rw [if_pos h0, show (decide ((e.l.length : Int) = 0) || decide (600 < (e.l.length : Int))) = true by rw [Bool.or_eq_true, decide_eq_true_eq, decide_eq_true_eq]; omega, cond_true]
  rw [if_neg h0, decide_eq_false (by omega), decide_eq_false (by omega), Bool.or_false, cond_false, grd_pos (by omega), grd_pos (by omega), Int.toNat_natCast]
  obtain ⟨o, h1, h2, h3⟩ := mayL e (by omega) hN
  rw [h1, Option.bind_some]
  by_cases hok : allOk e.l
  · rw [h2 hok, go_on, if_neg (fun h => h hok), cntU_len, grd_pos (by omega), show ((e.l.length : Int) - 1) = ((e.l.length - 1 : Nat) : Int) by omega, sli_take (by rw [cntU_len]; omega), Option.bind_some, contains_eq _ (by simp; omega), Option.bind_some]
    by_cases ho : odd1 e.l
    · rw [if_pos ho, decide_eq_true (p := ∃ c ∈ _, c ≠ 1) ho, cond_true]
    · rw [if_neg ho, decide_eq_false (p := ∃ c ∈ _, c ≠ 1) ho, cond_false, depths_eq e (by omega) hN hok, Option.bind_some, grd_pos (by omega), idxD (by omega) (by rw [depU_len]; omega), Option.bind_some]
      by_cases hd : 100 < gd (depU e.l e.l.length) ((e.l.length - 1 : Nat) : Int)
      · rw [if_pos hd, decide_eq_true hd, cond_true]
      · rw [if_neg hd, decide_eq_false hd, cond_false]
  · rw [h3 hok, if_pos hok]; rfl
theorem rmay_eq (e : ApiExpr) (hl : e.l.length ≤ 701) (hN : ∀ n ∈ e.l, NB n) : m_syntagmaref05_May e = some (mayT e.l) := by
  unfold m_syntagmaref05_May mayT
  by_cases h0 : e.l.length = 0 ∨ 600 < e.l.length
  · rw [if_pos h0, show (decide ((e.l.length : Int) < 1) || decide (600 < (e.l.length : Int))) = true by rw [Bool.or_eq_true, decide_eq_true_eq, decide_eq_true_eq]; omega, cond_true]
  rw [if_neg h0, decide_eq_false (by omega), decide_eq_false (by omega), Bool.or_false, cond_false, grd_pos (by omega), grd_pos (by omega), grd_pos (by omega), grd_pos (by omega), Int.toNat_natCast]
  obtain ⟨o, h1, h2, h3⟩ := rmayL e (by omega) hN
  rw [h1, Option.bind_some]
  by_cases hok : allOk e.l
  · rw [h2 hok, go_on, if_neg (fun h => h hok)]
    have hL : ((cntU e.l e.l.length).take (e.l.length - 1)).length = e.l.length - 1 := by rw [List.length_take, cntU_len]; omega
    show (m_syntagmaref05_May_l3 e (cntU e.l e.l.length) FU 0).bind _ = _
    rw [loop_any (φ := m_syntagmaref05_May_l3 e (cntU e.l e.l.length)) (l := (cntU e.l e.l.length).take (e.l.length - 1)) 4 (fun _ c => c ≠ 1) ?_ ?_ (by rw [FUv, hL]; omega)]
    · rw [Option.bind_some]
      by_cases ho : odd1 e.l
      · rw [if_pos ho, if_pos]
        · rfl
        · obtain ⟨c, hc, hne⟩ := ho
          obtain ⟨i, hi, hx⟩ := List.getElem_of_mem hc
          exact ⟨i, c, by rw [← hx]; exact List.getElem?_eq_getElem hi, hne⟩
      · rw [if_neg ho, if_neg, go_on, grd_pos (by omega), idxD (by omega) (by rw [depU_len]; omega), Option.bind_some]
        · by_cases hd : 100 < gd (depU e.l e.l.length) ((e.l.length : Int) - 1)
          · rw [if_pos hd, decide_eq_true hd, cond_true]
          · rw [if_neg hd, decide_eq_false hd, cond_false]
        · rintro ⟨i, c, hx, hne⟩
          exact ho ⟨c, List.mem_of_getElem? hx, hne⟩
    · intro n i x hx hi
      simp only [m_syntagmaref05_May_l3]
      rw [hL] at hi
      have hx2 : (cntU e.l e.l.length)[i]? = some x := by
        rw [List.getElem?_take, if_pos hi] at hx
        exact hx
      rw [grd_pos (by omega), decide_eq_true (show (i : Int) < (e.l.length : Int) - 1 by omega), cond_true, getI hx2, Option.bind_some]
      exact ⟨fun hq => by rw [decide_eq_true (Classical.not_not.1 hq), Bool.not_true, cond_false, grd_pos (by omega)], fun hq => by rw [decide_eq_false hq, Bool.not_false, cond_true]⟩
    · intro n
      simp only [m_syntagmaref05_May_l3]
      rw [grd_pos (by omega), decide_eq_false (by omega), cond_false]
  · rw [h3 hok, if_pos hok]; rfl
theorem depU_zero (L : List ApiNode) (k : Nat) : ∀ j : Nat, j ≤ k → gd (depU L j) (k : Int) = 0
  | 0, _ => by
    unfold gd depU
    rw [Int.toNat_natCast, List.getElem?_replicate]
    split <;> rfl
  | j + 1, h => by
    rw [depU]
    split
    · rw [gd_other (by omega)]; exact depU_zero L k j (by omega)
    · exact depU_zero L k j (by omega)
theorem depU_keep (L : List ApiNode) (k : Nat) (i : Nat) (hk : k < i) : ∀ m : Nat, gd (depU L (i + m)) (k : Int) = gd (depU L i) (k : Int)
  | 0 => rfl
  | m + 1 => by
    rw [show i + (m + 1) = (i + m) + 1 from rfl, depU]
    split
    · rw [gd_other (by omega)]; exact depU_keep L k i hk m
    · exact depU_keep L k i hk m
theorem depU_rec (L : List ApiNode) (i : Nat) (n : ApiNode) (hn : L[i]? = some n) (hI : inL i (kidsP n)) : gd (depU L L.length) (i : Int) = mx (gd (depU L L.length)) 0 (kidsP n) + 1 := by
  have hi := getLt hn
  have e1 := depU_keep L i (i + 1) (by omega) (L.length - (i + 1))
  rw [show i + 1 + (L.length - (i + 1)) = L.length by omega] at e1
  rw [e1, depU_s hn, gd_self (by rw [depU_len]; omega), depU_zero L i i (by omega)]
  congr 1
  refine mx_congr _ _ fun k hk => ?_
  have hk2 := hI k hk
  obtain ⟨m, rfl⟩ : ∃ m : Nat, k = (m : Int) := ⟨k.toNat, by omega⟩
  have e2 := depU_keep L m i (by omega) (L.length - i)
  rw [show i + (L.length - i) = L.length by omega] at e2
  exact e2.symm
theorem depthR (e : ApiExpr) (hl : e.l.length ≤ 701) (hN : ∀ n ∈ e.l, NB n) (hok : allOk e.l) : ∀ (f i : Nat), i < f → i < e.l.length → m_syntagmaref05_Depth f e (i : Int) = some (gd (depU e.l e.l.length) (i : Int))
  | 0, i, h, _ => by omega
  | f + 1, i, h, hi => by
    have hn : e.l[i]? = some e.l[i] := List.getElem?_eq_getElem hi
    generalize e.l[i] = n at hn
    have hNn := hN n (List.mem_of_getElem? hn)
    have hI := (hok i n hn).2.1
    have hkl := kids_len n hNn
    have hbd := fun k => bd_gd (depU_bd e.l e.l.length) (by omega) k
    show m_syntagmaref05_DepthF (m_syntagmaref05_Depth f) e (i : Int) = _
    unfold m_syntagmaref05_DepthF
    rw [getI hn, Option.bind_some, rkids_eq n hNn, Option.bind_some]
    obtain ⟨o, h1, h2⟩ := loop_rng (φ := fun m j s => m_syntagmaref05_Depth_l1 (m_syntagmaref05_Depth f) e (kidsP n) m (s, j)) (l := kidsP n) (fun j s => s = mx (gd (depU e.l e.l.length)) 0 ((kidsP n).take j)) (fun o => o = mx (gd (depU e.l e.l.length)) 0 (kidsP n)) (by
      rintro m j x s hx hj rfl
      simp only [m_syntagmaref05_Depth_l1]
      have hq := hI x (List.mem_of_getElem? hx)
      rw [decide_eq_true (show (j : Int) < (kidsP n).length by omega), cond_true, getI hx, Option.bind_some]
      obtain ⟨k, rfl⟩ : ∃ k : Nat, x = (k : Int) := ⟨x.toNat, by omega⟩
      rw [depthR e hl hN hok f k (by omega) (by omega), Option.bind_some, grd_pos (by omega)]
      refine .inl ⟨_, rfl, ?_⟩
      rw [take_snoc hx, mx_snoc]) (by
      rintro m s rfl
      simp only [m_syntagmaref05_Depth_l1]
      rw [decide_eq_false (by omega), cond_false, List.take_length]
      exact ⟨_, rfl, rfl⟩) (by rw [FUv]; omega) 0 rfl
    have hb := mx_bd (f := gd (depU e.l e.l.length)) (M := (e.l.length : Int)) hbd (kidsP n) 0 (by omega)
    rw [h1, h2, Option.bind_some, grd_pos (by omega), depU_rec e.l i n hn hI, Int.add_comm]
noncomputable def depT (L : List ApiNode) : Int := if mayT L = 0 then gd (depU L L.length) ((L.length : Int) - 1) else 0
theorem mayT_ok {L : List ApiNode} (h : mayT L = 0) : 1 ≤ L.length ∧ L.length ≤ 600 ∧ allOk L := by
  unfold mayT at h
  by_cases h0 : L.length = 0 ∨ 600 < L.length
  · rw [if_pos h0] at h; omega
  · rw [if_neg h0] at h
    by_cases h1 : allOk L
    · exact ⟨by omega, by omega, h1⟩
    · rw [if_pos h1] at h; omega
theorem depth_eq (e : ApiExpr) (hl : e.l.length ≤ 701) (hN : ∀ n ∈ e.l, NB n) : m_tree_Depth e = some (depT e.l) := by
  unfold m_tree_Depth depT
  rw [may_eq e hl hN, Option.bind_some]
  by_cases h : mayT e.l = 0
  · obtain ⟨h1, h2, h3⟩ := mayT_ok h
    rw [decide_eq_true h, if_pos h, Bool.not_true, cond_false, depths_eq e (by omega) hN h3, Option.bind_some, grd_pos (by omega), idxD (by omega) (by rw [depU_len]; omega), Option.bind_some]
  · rw [decide_eq_false h, if_neg h, Bool.not_false, cond_true]
/-! Few -/
def fewN (n : ApiNode) : ApiNode := ⟨n.kind, n.a, n.b, n.c, n.n_, n.name, n.s, [] ++ n.l.take 60, n.pos⟩
def fewE (e : ApiExpr) : ApiExpr := ⟨(e.l.take 700).map fewN⟩
theorem min60 (l : List ApiField) : sli l 0 (if 60 < (l.length : Int) then 60 else (l.length : Int)) = some (l.take 60) := by
  by_cases h : 60 < (l.length : Int)
  · rw [if_pos h]; exact sli_take (k := 60) (by omega)
  · rw [if_neg h, sli_take (by omega), List.take_of_length_le (by omega), List.take_of_length_le (by omega)]
theorem few_eq (e : ApiExpr) : m_syntagmalaw05_Few e = some (fewE e) := by
  unfold m_syntagmalaw05_Few
  have hL : (e.l.take 700).length ≤ 700 ∧ (e.l.take 700).length ≤ e.l.length := by rw [List.length_take]; omega
  rw [loop_map (φ := fun n i s => m_syntagmalaw05_Few_l1 e n (i, s)) (l := e.l.take 700) fewN id 0 ?_ ?_ (by rw [FUv]; omega) [] rfl]
  · rfl
  · intro n i x s hx hi hs
    have hx2 : e.l[i]? = some x := by
      rw [List.getElem?_take, if_pos (by omega)] at hx
      exact hx
    have h60 : (x.l.take 60).length ≤ 60 := by rw [List.length_take]; omega
    simp only [m_syntagmalaw05_Few_l1]
    rw [decide_eq_true (show (i : Int) < e.l.length by omega), decide_eq_true (show (i : Int) < 700 by omega), Bool.and_true, cond_true, getI hx2, Option.bind_some, min60, Option.bind_some, grd_pos (by omega), grd_pos (by simp only [List.length_cons, List.length_nil]; omega), grd_pos (by omega)]
    rfl
  · intro n s hs
    simp only [m_syntagmalaw05_Few_l1]
    rw [show (decide (((e.l.take 700).length : Int) < e.l.length) && decide (((e.l.take 700).length : Int) < 700)) = false by
      rw [List.length_take, Bool.and_eq_false_iff, decide_eq_false_iff_not, decide_eq_false_iff_not]; omega, cond_false]
    rfl
theorem fewN_fewN (n : ApiNode) : fewN (fewN n) = fewN n := by
  unfold fewN
  simp only [List.nil_append, ApiNode.mk.injEq, true_and, and_true]
  exact List.take_of_length_le (by rw [List.length_take]; omega)
theorem fewE_fewE (e : ApiExpr) : fewE (fewE e) = fewE e := by
  unfold fewE
  simp only [ApiExpr.mk.injEq]
  rw [List.take_of_length_le (by simp; omega), List.map_map]
  congr 1
  funext n
  exact fewN_fewN n
theorem fewE_len (e : ApiExpr) : (fewE e).l.length ≤ 700 := by unfold fewE; simp; omega
theorem fewN_nb (n : ApiNode) : NB (fewN n) := by unfold fewN NB; simp; omega
theorem fewE_nb (e : ApiExpr) : ∀ n ∈ (fewE e).l, NB n := by
  intro n hn
  obtain ⟨m, _, rfl⟩ := List.mem_map.1 hn
  exact fewN_nb m
end Go.Proofs.Ytnnjgbcojdnhhaa
