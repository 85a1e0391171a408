/- Part C05c of the proof: contracts of the functions that are walked, and what they compute; no condition. -/
import Derived.Test.YtnnjgbcojdnhhaaC05b
set_option linter.unusedVariables false
set_option linter.unusedSimpArgs false
set_option maxRecDepth 100000
namespace Go.Proofs.Ytnnjgbcojdnhhaa
open Go.V
open Classical
/-! Lists that are counted in -/
def gd (l : List Int) (k : Int) : Int := (l[k.toNat]?).getD 0
theorem idxD {l : List Int} {k : Int} (h0 : 0 ≤ k) (h1 : k < (l.length : Int)) : idx l k = some (gd l k) := by
  have h2 : k.toNat < l.length := by omega
  obtain ⟨m, rfl⟩ : ∃ m : Nat, k = (m : Int) := ⟨k.toNat, by omega⟩
  rw [idx_nat]
  unfold gd
  rw [Int.toNat_natCast, List.getElem?_eq_getElem (by omega)]; rfl
def Bd (M : Int) (l : List Int) : Prop := ∀ x ∈ l, 0 ≤ x ∧ x ≤ M
theorem bd_gd {M : Int} {l : List Int} (h : Bd M l) (hM : 0 ≤ M) (k : Int) : 0 ≤ gd l k ∧ gd l k ≤ M := by
  unfold gd
  cases e : l[k.toNat]? with
  | none => exact ⟨by decide, hM⟩
  | some x => exact h x (List.mem_of_getElem? e)
theorem bd_set {M : Int} {l : List Int} (h : Bd M l) {y : Int} (hy : 0 ≤ y ∧ y ≤ M) (i : Nat) : Bd M (l.set i y) := by
  intro x hx
  rcases List.mem_or_eq_of_mem_set hx with hx | rfl
  · exact h x hx
  · exact hy
theorem bd_up {M N : Int} {l : List Int} (h : Bd M l) (hMN : M ≤ N) : Bd N l := fun x hx => ⟨(h x hx).1, Int.le_trans (h x hx).2 hMN⟩
def inc1 (c : List Int) (k : Int) : List Int := c.set k.toNat (gd c k + 1)
def incs (c ks : List Int) : List Int := ks.foldl inc1 c
theorem incs_len : ∀ (ks c : List Int), (incs c ks).length = c.length
  | [], _ => rfl
  | k :: ks, c => by
    show (incs (inc1 c k) ks).length = _
    rw [incs_len ks]; simp [inc1]
theorem incs_snoc (c ks : List Int) (k : Int) : incs c (ks ++ [k]) = inc1 (incs c ks) k := by
  unfold incs; rw [List.foldl_append]; rfl
theorem incs_bd {M : Int} (hM : 0 ≤ M) : ∀ (ks c : List Int), Bd M c → Bd (M + ks.length) (incs c ks)
  | [], c, h => by simpa [incs] using h
  | k :: ks, c, h => by
    have h1 := bd_gd h hM k
    have := incs_bd (M := M + 1) (by omega) ks (inc1 c k) (bd_set (bd_up h (by omega)) (by omega) _)
    show Bd _ (incs (inc1 c k) ks)
    refine bd_up this ?_
    simp only [List.length_cons]; omega
def mx (f : Int → Int) (b : Int) (ks : List Int) : Int := ks.foldl (fun b k => if f k > b then f k else b) b
theorem mx_snoc (f : Int → Int) (b : Int) (ks : List Int) (k : Int) : mx f b (ks ++ [k]) = if f k > mx f b ks then f k else mx f b ks := by
  unfold mx; rw [List.foldl_append]; rfl
theorem mx_bd {f : Int → Int} {M : Int} (hf : ∀ k, 0 ≤ f k ∧ f k ≤ M) : ∀ (ks : List Int) (b : Int), 0 ≤ b ∧ b ≤ M → 0 ≤ mx f b ks ∧ mx f b ks ≤ M
  | [], b, h => h
  | k :: ks, b, h => by
    show 0 ≤ mx f (if f k > b then f k else b) ks ∧ mx f (if f k > b then f k else b) ks ≤ M
    refine mx_bd hf ks _ ?_
    have := hf k
    split <;> omega
theorem mx_congr {f g : Int → Int} : ∀ (ks : List Int) (b : Int), (∀ k ∈ ks, f k = g k) → mx f b ks = mx g b ks
  | [], b, _ => rfl
  | k :: ks, b, h => by
    show mx f (if f k > b then f k else b) ks = mx g (if g k > b then g k else b) ks
    rw [h k (by simp)]
    exact mx_congr ks _ fun x hx => h x (by simp [hx])
/-! The count of each node's parents, and its depth, up to a node -/
def cntU (L : List ApiNode) : Nat → List Int
  | 0 => List.replicate L.length 0
  | i + 1 => match L[i]? with | some n => incs (cntU L i) (kidsP n) | none => cntU L i
def depU (L : List ApiNode) : Nat → List Int
  | 0 => List.replicate L.length 0
  | i + 1 => match L[i]? with | some n => (depU L i).set i (mx (gd (depU L i)) (gd (depU L i) i) (kidsP n) + 1) | none => depU L i
theorem cntU_s {L : List ApiNode} {i : Nat} {n : ApiNode} (h : L[i]? = some n) : cntU L (i + 1) = incs (cntU L i) (kidsP n) := by rw [cntU, h]
theorem depU_s {L : List ApiNode} {i : Nat} {n : ApiNode} (h : L[i]? = some n) : depU L (i + 1) = (depU L i).set i (mx (gd (depU L i)) (gd (depU L i) i) (kidsP n) + 1) := by rw [depU, h]
theorem cntU_len (L : List ApiNode) : ∀ i, (cntU L i).length = L.length
  | 0 => by simp [cntU]
  | i + 1 => by
    rw [cntU]
    split
    · rw [incs_len, cntU_len L i]
    · exact cntU_len L i
theorem depU_len (L : List ApiNode) : ∀ i, (depU L i).length = L.length
  | 0 => by simp [depU]
  | i + 1 => by
    rw [depU]
    split
    · rw [List.length_set, depU_len L i]
    · exact depU_len L i
theorem bd_zero (n : Nat) : Bd 0 (List.replicate n (0 : Int)) := by
  intro x hx
  rw [List.mem_replicate] at hx
  omega
theorem cntU_bd (L : List ApiNode) (hN : ∀ n ∈ L, NB n) : ∀ i : Nat, Bd (63 * i) (cntU L i)
  | 0 => by simpa [cntU] using bd_zero _
  | i + 1 => by
    have ih := cntU_bd L hN i
    rw [cntU]
    split
    · rename_i n hn
      have := kids_len n (hN n (List.mem_of_getElem? hn))
      exact bd_up (incs_bd (by omega) _ _ ih) (by omega)
    · exact bd_up ih (by omega)
theorem depU_bd (L : List ApiNode) : ∀ i : Nat, Bd (i : Int) (depU L i)
  | 0 => by simpa [depU] using bd_zero _
  | i + 1 => by
    have ih := depU_bd L i
    rw [depU]
    split
    · rename_i n hn
      have h1 := mx_bd (M := (i : Int)) (fun k => bd_gd ih (by omega) k) (kidsP n) (gd (depU L i) i) (bd_gd ih (by omega) _)
      exact bd_set (bd_up ih (by omega)) (by constructor <;> omega) _
    · exact bd_up ih (by omega)
def inL (i : Nat) (ks : List Int) : Prop := ∀ k ∈ ks, 0 ≤ k ∧ k < (i : Int)
def okN (L : List ApiNode) (i : Nat) (n : ApiNode) : Prop := rightB n = true ∧ inL i (kidsP n) ∧ (n.kind = 8 → ∃ m, L[n.a.toNat]? = some m ∧ m.kind = 5)
theorem linkL (i : Nat) (ks c : List Int) (M : Int) (hM : 0 ≤ M ∧ M ≤ 100000) (hks : ks.length ≤ 63) (hi : i ≤ c.length) (hb : Bd M c) :
    ∃ o, m_tree_linked_l1 (i : Int) ks FU (0, c) = some o ∧ ((inL i ks → o = Out.go (incs c ks)) ∧ (¬ inL i ks → ∃ c', o = Out.ret (false, c'))) := by
  refine loop_rng (φ := fun n j s => m_tree_linked_l1 (i : Int) ks n (j, s)) (l := ks) (fun j s => s = incs c (ks.take j) ∧ inL i (ks.take j)) _ ?_ ?_ (by rw [FUv]; omega) c ⟨rfl, fun k hk => by simp at hk⟩
  · rintro n j x s hx hj ⟨rfl, hI⟩
    simp only [m_tree_linked_l1]
    rw [decide_eq_true (show (j : Int) < ks.length by omega), cond_true, getI hx, Option.bind_some]
    by_cases hq : 0 ≤ x ∧ x < (i : Int)
    · have hbd := incs_bd hM.1 (ks.take j) c hb
      have hl : (ks.take j).length = j := by simp; omega
      rw [hl] at hbd
      have hg := bd_gd hbd (by omega) x
      rw [decide_eq_false (by omega), decide_eq_false (by omega), Bool.or_false, cond_false, idxD hq.1 (by rw [incs_len]; omega), Option.bind_some, grd_pos (by omega), Option.bind_some, grd_pos (by omega)]
      refine .inl ⟨_, rfl, ?_, ?_⟩
      · rw [take_snoc hx, incs_snoc]; rfl
      · rw [take_snoc hx]
        intro k hk
        rcases List.mem_append.1 hk with hk | hk
        · exact hI k hk
        · rw [List.mem_singleton] at hk; rw [hk]; exact hq
    · have hq2 : (decide (x < 0) || decide ((i : Int) ≤ x)) = true := by
        rw [Bool.or_eq_true, decide_eq_true_eq, decide_eq_true_eq]; omega
      rw [hq2, cond_true]
      exact .inr ⟨_, rfl, fun h => absurd (h x (List.mem_of_getElem? hx)) hq, fun _ => ⟨_, rfl⟩⟩
  · rintro n s ⟨rfl, hI⟩
    simp only [m_tree_linked_l1]
    rw [decide_eq_false (by omega), cond_false]
    rw [List.take_length] at *
    exact ⟨_, rfl, fun _ => rfl, fun h => absurd hI h⟩
theorem kind8 {n : ApiNode} (h : n.kind = 8) : n.a ∈ kidsP n := by
  unfold kidsP
  rw [h]
  simp [abcN]
theorem linked_eq (e : ApiExpr) (i : Nat) (n : ApiNode) (c : List Int) (M : Int) (hn : e.l[i]? = some n) (hN : NB n) (hM : 0 ≤ M ∧ M ≤ 100000) (hc : c.length = e.l.length) (hb : Bd M c) :
    ∃ b c', m_tree_linked e (i : Int) c = some (b, c') ∧ (b = true ↔ inL i (kidsP n) ∧ (n.kind = 8 → ∃ m, e.l[n.a.toNat]? = some m ∧ m.kind = 5)) ∧ (b = true → c' = incs c (kidsP n)) := by
  have hi := getLt hn
  unfold m_tree_linked
  rw [getI hn, Option.bind_some, kids_eq n hN, Option.bind_some]
  obtain ⟨o, h1, h2, h3⟩ := linkL i (kidsP n) c M hM (kids_len n hN) (by omega) hb
  rw [h1, Option.bind_some]
  by_cases hq : inL i (kidsP n)
  · rw [h2 hq, go_on, Option.bind_some]
    by_cases h8 : n.kind = 8
    · have ha := hq n.a (kind8 h8)
      have hal : n.a.toNat < e.l.length := by omega
      rw [decide_eq_true h8, Bool.not_true, cond_false, Option.bind_some, show idx e.l n.a = some e.l[n.a.toNat] by
        obtain ⟨m, hm⟩ : ∃ m : Nat, n.a = (m : Int) := ⟨n.a.toNat, by omega⟩
        simp only [hm, Int.toNat_natCast]
        rw [idx_nat, List.getElem?_eq_getElem], Option.bind_some]
      refine ⟨_, _, rfl, ?_, fun _ => rfl⟩
      rw [decide_eq_true_eq]
      constructor
      · exact fun h => ⟨hq, fun _ => ⟨_, List.getElem?_eq_getElem hal, h⟩⟩
      · rintro ⟨_, h⟩
        obtain ⟨m, hm, h5⟩ := h h8
        rw [List.getElem?_eq_getElem hal] at hm
        rw [Option.some.inj hm]; exact h5
    · rw [decide_eq_false h8, Bool.not_false, cond_true]
      exact ⟨_, _, rfl, ⟨fun _ => ⟨hq, fun h => absurd h h8⟩, fun _ => rfl⟩, fun _ => rfl⟩
  · obtain ⟨c', rfl⟩ := h3 hq
    exact ⟨_, _, rfl, ⟨fun h => absurd h (by simp), fun h => absurd h.1 hq⟩, fun h => absurd h (by simp)⟩
def allOk (L : List ApiNode) : Prop := ∀ (i : Nat) n, L[i]? = some n → okN L i n
theorem mayL (e : ApiExpr) (hl : e.l.length ≤ 700) (hN : ∀ n ∈ e.l, NB n) : ∃ o, m_tree_May_l1 e FU (0, List.replicate e.l.length 0) = some o ∧ ((allOk e.l → o = Out.go (cntU e.l e.l.length)) ∧ (¬ allOk e.l → o = Out.ret 4)) := by
  refine loop_rng (φ := fun n j s => m_tree_May_l1 e n (j, s)) (l := e.l) (fun i s => s = cntU e.l i ∧ ∀ (j : Nat) n, j < i → e.l[j]? = some n → okN e.l j n) _ ?_ ?_ (by rw [FUv]; omega) _ ⟨rfl, fun j n hj => by omega⟩
  · rintro m i n s hn hi ⟨rfl, hI⟩
    simp only [m_tree_May_l1]
    rw [decide_eq_true (show (i : Int) < e.l.length by omega), cond_true, getI hn, Option.bind_some]
    have hNn := hN n (List.mem_of_getElem? hn)
    rw [show m_tree_right (⟨n.kind, n.a, n.b, n.c, n.n_, n.name, n.s, n.l, n.pos⟩ : ApiNode) = m_tree_right n from rfl, right_eq n hNn, Option.bind_some]
    obtain ⟨b, c', h1, h2, h3⟩ := linked_eq e i n (cntU e.l i) (63 * i) hn hNn (by omega) (cntU_len _ _) (cntU_bd _ hN i)
    cases hr : rightB n with
    | false =>
      exact .inr ⟨_, rfl, fun h => absurd (h i n hn).1 (by simp [hr]), fun _ => rfl⟩
    | true =>
      rw [Bool.not_true, cond_false, h1, Option.bind_some]
      cases b with
      | false =>
        refine .inr ⟨_, rfl, fun h => ?_, fun _ => rfl⟩
        have := h2.2 (h i n hn).2
        simp at this
      | true =>
        refine .inl ⟨c', ?_, ?_, ?_⟩
        · show (bif (!true) then _ else grd (InR ((i : Int) + 1)) (m_tree_May_l1 e m ((i : Int) + 1, c'))) = _
          rw [Bool.not_true, cond_false, grd_pos (by omega)]
        · rw [h3 rfl, cntU_s hn]
        · intro j x hj hx
          by_cases hji : j = i
          · subst hji
            rw [hn] at hx
            rw [← Option.some.inj hx]
            exact ⟨hr, h2.1 rfl⟩
          · exact hI j x (by omega) hx
  · rintro m s ⟨rfl, hI⟩
    simp only [m_tree_May_l1]
    rw [decide_eq_false (by omega), cond_false]
    exact ⟨_, rfl, fun _ => rfl, fun h => absurd (fun i n hn => hI i n (getLt hn) hn) h⟩
end Go.Proofs.Ytnnjgbcojdnhhaa
