/- Part 6 of the proof: a program logic, what the functions compute, and what these answer; no condition. -/
import Derived.Test.Ytnnjgbcojdnhhaap5
set_option linter.unusedVariables false
set_option linter.unusedSimpArgs false
set_option maxRecDepth 100000
namespace Go.Proofs.Ytnnjgbcojdnhhaa
open Go.V
open Classical
theorem bI (L : List ApiNode) (P : List Int) {i : Nat} (h : i < L.length) : ((List.range L.length).map fun j => toB (VP L P j))[i]? = some (toB (VP L P i)) := by simp [h]
theorem rI (L : List ApiNode) (P : List Int) {i : Nat} (h : i < L.length) : ((List.range L.length).map fun j => (⟨(VP L P j).1, (VP L P j).2⟩ : Syntagmaref06Binder))[i]? = some ⟨(VP L P i).1, (VP L P i).2⟩ := by simp [h]
def freeB (L : List ApiNode) (P : List Int) (j : Nat) : Bool := (match L[j]? with | some n => decide (n.kind = 4) | none => false) && decide ((VP L P j).1 < 0)
def nmAt (L : List ApiNode) (j : Nat) : List UInt8 := match L[j]? with | some n => n.name | none => []
def ddStep (acc : List (List UInt8)) (s : List UInt8) : List (List UInt8) := if s ∈ acc then acc else acc ++ [s]
def frees (L : List ApiNode) (P : List Int) (n : Nat) : List Nat := (List.range n).filter (freeB L P)
noncomputable def freeN (L : List ApiNode) (P : List Int) (n : Nat) : List (List UInt8) := ((frees L P n).map (nmAt L)).foldl ddStep []
theorem frees_s (L : List ApiNode) (P : List Int) (n : Nat) : frees L P (n + 1) = if freeB L P n = true then frees L P n ++ [n] else frees L P n := by
  unfold frees
  rw [List.range_succ, List.filter_append]
  cases h : freeB L P n <;> simp [h]
theorem dd_len : ∀ (l acc : List (List UInt8)), (l.foldl ddStep acc).length ≤ acc.length + l.length
  | [], acc => by simp
  | x :: l, acc => by
    rw [List.foldl_cons]
    refine Nat.le_trans (dd_len l _) ?_
    unfold ddStep
    split
    · simp only [List.length_cons]; omega
    · simp only [List.length_append, List.length_cons, List.length_nil]; omega
theorem frees_len (L : List ApiNode) (P : List Int) (n : Nat) : (frees L P n).length ≤ n := Nat.le_trans (List.length_filter_le _ _) (by simp)
theorem freeN_len (L : List ApiNode) (P : List Int) (n : Nat) : (freeN L P n).length ≤ n := by
  have := dd_len ((frees L P n).map (nmAt L)) []
  have h2 := frees_len L P n
  simp only [List.length_nil, Nat.zero_add, List.length_map] at this
  unfold freeN; omega
theorem free_l (e : ApiExpr) (P : List Int) (hl : e.l.length ≤ 700) : ∀ (d n i : Nat), e.l.length - i ≤ d → d < n → i ≤ e.l.length → m_free_l1 e ((List.range e.l.length).map fun j => toB (VP e.l P j)) n (i : Int) = some (((List.range' i (e.l.length - i)).filter (freeB e.l P)).map fun (j : Nat) => (j : Int))
  | d, 0, i, _, h, _ => by omega
  | d, n + 1, i, hd, hn, hi => by
    simp only [m_free_l1]
    by_cases hil : i < e.l.length
    · obtain ⟨nd, hnd⟩ := getI2 hil
      have ih := free_l e P hl (d - 1) n (i + 1) (by omega) (by omega) (by omega)
      rw [decide_eq_true (show (i : Int) < (((List.range e.l.length).map fun j => toB (VP e.l P j)).length : Int) by simp; omega), cond_true, getI (bI e.l P hil), Option.bind_some, getI hnd, Option.bind_some, grd_pos (by omega), show ((i : Int) + 1) = ((i + 1 : Nat) : Int) by omega, ih, show e.l.length - i = (e.l.length - (i + 1)) + 1 by omega, List.range'_succ]
      have hb : (decide (nd.kind = 4) && decide ((toB (VP e.l P i)).node < 0)) = freeB e.l P i := by unfold freeB; rw [hnd]; rfl
      rw [hb, List.filter_cons]
      cases h : freeB e.l P i
      · rw [cond_false, if_neg (by decide)]
      · rw [cond_true, if_pos rfl]; rfl
    · have : i = e.l.length := by omega
      subst this
      rw [decide_eq_false (by simp), cond_false]
      simp
theorem mfree_eq (e : ApiExpr) (h : Sc e.l) {P : List Int} (hP : POk e.l P) : m_free e = some ((frees e.l P e.l.length).map fun (j : Nat) => (j : Int)) := by
  have hl := h.len
  unfold m_free
  rw [binders_eq e h hP, Option.bind_some]
  have := free_l e P hl e.l.length FU 0 (by omega) (by rw [FUv]; omega) (by omega)
  rw [Nat.sub_zero, ← List.range_eq_range'] at this
  exact this
theorem freeR (e : ApiExpr) : ∀ (xs : List Nat) (acc : List (List UInt8)), (∀ j ∈ xs, j < e.l.length) → acc.length + xs.length ≤ 1000 → m_scope_Free_r1 e (xs.map fun (j : Nat) => (j : Int)) acc = some ((xs.map (nmAt e.l)).foldl ddStep acc)
  | [], acc, _, _ => rfl
  | j :: xs, acc, hx, hl => by
    obtain ⟨n, hn⟩ := getI2 (hx j (by simp))
    simp only [List.length_cons] at hl
    simp only [List.map_cons, List.foldl_cons, m_scope_Free_r1]
    have hnm : nmAt e.l j = n.name := by unfold nmAt; rw [hn]
    rw [getI hn, Option.bind_some, isKey_eq _ _ (by omega), Option.bind_some, hnm]
    unfold ddStep
    by_cases h : n.name ∈ acc
    · rw [decide_eq_true h, Bool.not_true, cond_false, if_pos h]
      exact freeR e xs acc (fun y hy => hx y (by simp [hy])) (by omega)
    · rw [decide_eq_false h, Bool.not_false, cond_true, Option.bind_some, if_neg h, grd_pos (by simp only [List.length_cons, List.length_nil]; omega)]
      exact freeR e xs (acc ++ [n.name]) (fun y hy => hx y (by simp [hy])) (by simp; omega)
theorem frees_lt (L : List ApiNode) (P : List Int) (n : Nat) : ∀ j ∈ frees L P n, j < n := by
  intro j hj
  unfold frees at hj
  exact List.mem_range.1 (List.mem_filter.1 hj).1
theorem sfree_eq (x : ApiExpr) (hl : x.l.length ≤ 700) (hN : ∀ n ∈ x.l, NB n) (h : mayT x.l = 0) {P : List Int} (hP : POk x.l P) : m_scope_Free x = some (freeN x.l P x.l.length, 0) := by
  have hS := sc_of hl hN h
  unfold m_scope_Free
  rw [may_eq x (by omega) hN, Option.bind_some, decide_eq_true h, Bool.not_true, cond_false, mfree_eq x hS hP, Option.bind_some, freeR x _ _ (frees_lt x.l P _) (by have := frees_len x.l P x.l.length; simp only [List.length_nil]; omega), Option.bind_some]
  rfl
theorem sclosed_eq (x : ApiExpr) (hl : x.l.length ≤ 700) (hN : ∀ n ∈ x.l, NB n) (h : mayT x.l = 0) {P : List Int} (hP : POk x.l P) : m_scope_Closed x = some (match frees x.l P x.l.length with | [] => (0, 0) | j :: _ => ((j : Int), 10)) := by
  have hS := sc_of hl hN h
  unfold m_scope_Closed
  rw [may_eq x (by omega) hN, Option.bind_some, decide_eq_true h, Bool.not_true, cond_false, mfree_eq x hS hP, Option.bind_some]
  cases frees x.l P x.l.length <;> rfl
theorem range_split {n i : Nat} (h : i < n) : List.range n = List.range i ++ i :: List.range' (i + 1) (n - i - 1) := by
  rw [List.range_eq_range', List.range_eq_range', ← List.range'_succ, show n = i + (n - i - 1 + 1) by omega]
  have := List.range'_append (s := 0) (m := i) (n := n - i - 1 + 1) (step := 1)
  rw [Nat.one_mul, Nat.zero_add] at this
  rw [show i + (n - i - 1 + 1) - i - 1 + 1 = n - i - 1 + 1 by omega]
  exact this.symm
theorem rclosed_eq (e : ApiExpr) (h : Sc e.l) {P : List Int} (hB : m_syntagmaref06_Binders e = some ((List.range e.l.length).map fun j => (⟨(VP e.l P j).1, (VP e.l P j).2⟩ : Syntagmaref06Binder))) : m_syntagmaref06_Closed e = some (match frees e.l P e.l.length with | [] => -1 | j :: _ => (j : Int)) := by
  have hl := h.len
  unfold m_syntagmaref06_Closed
  rw [hB, Option.bind_some]
  obtain ⟨o, h1, h2⟩ := loop_rng (φ := fun n i (_ : Unit) => m_syntagmaref06_Closed_l1 e ((List.range e.l.length).map fun j => (⟨(VP e.l P j).1, (VP e.l P j).2⟩ : Syntagmaref06Binder)) n i) (l := e.l) (fun i _ => frees e.l P i = []) (fun o => o = (match frees e.l P e.l.length with | [] => .go () | j :: _ => .ret (j : Int))) (by
    rintro m i n s hn hi hf
    simp only [m_syntagmaref06_Closed_l1]
    have hp : (bif (decide (n.kind = 4)) then ((idx ((List.range e.l.length).map fun j => (⟨(VP e.l P j).1, (VP e.l P j).2⟩ : Syntagmaref06Binder)) (i : Int)).bind fun x3 => some (decide (x3.node < 0))) else (some false)) = some (freeB e.l P i) := by
      unfold freeB
      rw [hn, getI (rI e.l P hi), Option.bind_some]
      simp only
      by_cases h4 : n.kind = 4
      · rw [decide_eq_true h4, cond_true, Bool.true_and]
      · rw [decide_eq_false h4, cond_false, Bool.false_and]
    rw [decide_eq_true (show (i : Int) < (e.l.length : Int) by omega), cond_true, getI hn, Option.bind_some, hp, Option.bind_some]
    cases hb : freeB e.l P i with
    | false =>
      rw [cond_false, grd_pos (by omega)]
      refine .inl ⟨(), rfl, ?_⟩
      rw [frees_s, hb, if_neg (by decide)]; exact hf
    | true =>
      rw [cond_true]
      refine .inr ⟨_, rfl, ?_⟩
      have : frees e.l P e.l.length = i :: (List.range' (i + 1) (e.l.length - i - 1)).filter (freeB e.l P) := by
        unfold frees at hf ⊢
        rw [range_split hi, List.filter_append, hf, List.nil_append, List.filter_cons, if_pos hb]
      rw [this]) (by
    rintro m s hf
    simp only [m_syntagmaref06_Closed_l1]
    rw [decide_eq_false (by omega), cond_false, hf]
    exact ⟨_, rfl, rfl⟩) (by rw [FUv]; omega) () rfl
  rw [h1, h2, Option.bind_some]
  cases frees e.l P e.l.length <;> rfl
end Go.Proofs.Ytnnjgbcojdnhhaa
set_option linter.unusedVariables false
set_option linter.unusedSimpArgs false
set_option maxRecDepth 100000
namespace Go.Proofs.Ytnnjgbcojdnhhaa
open Go.V
open Classical
def hidesP (n : ApiNode) (q : Nat) (x : List UInt8) : Prop := ((n.kind = 5 ∨ n.kind = 8) ∧ n.name = x) ∨ (n.kind = 7 ∧ n.name = x ∧ q = 1) ∨ (n.kind = 14 ∧ ∃ f, 0 < q ∧ n.l[q - 1]? = some f ∧ f.var = x)
inductive Occ (L : List ApiNode) (x : List UInt8) : Int → Prop
  | var {i : Int} {n : ApiNode} : L[i.toNat]? = some n → n.kind = 4 → n.name = x → Occ L x i
  | kid {i : Int} {n : ApiNode} {q : Nat} {k : Int} : L[i.toNat]? = some n → (kidsP n)[q]? = some k → ¬ hidesP n q x → Occ L x k → Occ L x i
theorem hides_binds {n : ApiNode} (hd : (kidsP n).Nodup) {q : Nat} {k : Int} (hk : (kidsP n)[q]? = some k) (x : List UInt8) : -2 < bindsP n k x ↔ hidesP n q x := by
  unfold hidesP
  by_cases k5 : n.kind = 5
  · rw [binds5 k5]
    constructor
    · intro h; refine .inl ⟨.inl k5, ?_⟩
      exact Classical.byContradiction fun hx => by rw [if_neg hx] at h; omega
    · rintro (⟨_, h⟩ | ⟨h, _⟩ | ⟨h, _⟩)
      · rw [if_pos h]; decide
      · omega
      · omega
  by_cases k8 : n.kind = 8
  · rw [binds8 k8]
    constructor
    · intro h; refine .inl ⟨.inr k8, ?_⟩
      exact Classical.byContradiction fun hx => by rw [if_neg hx] at h; omega
    · rintro (⟨_, h⟩ | ⟨h, _⟩ | ⟨h, _⟩)
      · rw [if_pos h]; decide
      · omega
      · omega
  by_cases k7 : n.kind = 7
  · rw [binds7 k7]
    have hkk := kids7 k7
    rw [hkk] at hk hd
    have hne : n.a ≠ n.b := by intro e; rw [e] at hd; simp at hd
    match q, hk with
    | 0, hk =>
      simp only [List.getElem?_cons_zero, Option.some.injEq] at hk
      subst hk
      rw [if_neg (fun h => hne h.2)]
      constructor
      · intro h; omega
      · rintro (⟨h, _⟩ | ⟨_, _, h⟩ | ⟨h, _⟩) <;> omega
    | 1, hk =>
      simp only [List.getElem?_cons_succ, List.getElem?_cons_zero, Option.some.injEq] at hk
      subst hk
      constructor
      · intro h
        refine .inr (.inl ⟨k7, ?_, rfl⟩)
        exact Classical.byContradiction fun hx => by rw [if_neg (fun h => hx h.1)] at h; omega
      · rintro (⟨h, _⟩ | ⟨_, h, _⟩ | ⟨h, _⟩)
        · omega
        · rw [if_pos ⟨h, rfl⟩]; decide
        · omega
    | q + 2, hk => simp at hk
  by_cases k14 : n.kind = 14
  · have hkk := kids14 k14
    match q, hk with
    | 0, hk =>
      rw [hkk] at hk
      simp only [List.getElem?_cons_zero, Option.some.injEq] at hk
      subst hk
      rw [binds14a k14 hd]
      constructor
      · intro h; omega
      · rintro (⟨h, _⟩ | ⟨h, _⟩ | ⟨_, f, h, _⟩) <;> omega
    | q + 1, hk =>
      rw [hkk] at hk
      rw [List.getElem?_cons_succ, List.getElem?_map, Option.map_eq_some_iff] at hk
      obtain ⟨f, h1, rfl⟩ := hk
      rw [binds14l k14 hd h1]
      constructor
      · intro h
        refine .inr (.inr ⟨k14, f, by omega, h1, ?_⟩)
        exact Classical.byContradiction fun hx => by rw [if_neg hx] at h; omega
      · rintro (⟨h, _⟩ | ⟨h, _⟩ | ⟨_, g, _, h2, h3⟩)
        · omega
        · omega
        · rw [show q + 1 - 1 = q by omega, h1] at h2
          rw [Option.some.inj h2, if_pos h3]; omega
  rw [binds_no k5 k7 k8 k14]
  constructor
  · intro h; omega
  · rintro (⟨h | h, _⟩ | ⟨h, _⟩ | ⟨h, _⟩) <;> contradiction
theorem occ_inv {L : List ApiNode} {x : List UInt8} {i : Int} {n : ApiNode} (hn : L[i.toNat]? = some n) : Occ L x i ↔ (n.kind = 4 ∧ n.name = x) ∨ ∃ (q : Nat) (k : Int), (kidsP n)[q]? = some k ∧ ¬ hidesP n q x ∧ Occ L x k := by
  constructor
  · rintro (⟨h1, h2, h3⟩ | ⟨h1, h2, h3, h4⟩)
    · rw [hn] at h1; obtain rfl := Option.some.inj h1; exact .inl ⟨h2, h3⟩
    · rw [hn] at h1; obtain rfl := Option.some.inj h1; exact .inr ⟨_, _, h2, h3, h4⟩
  · rintro (⟨h2, h3⟩ | ⟨q, k, h2, h3, h4⟩)
    · exact .var hn h2 h3
    · exact .kid hn h2 h3 h4
/-- A var below that nothing binds. -/
def FreeIn (L : List ApiNode) (P : List Int) (x : List UInt8) (i : Int) : Prop := ∃ (j : Nat) (n : ApiNode), (j : Int) ∈ post L i ∧ L[j]? = some n ∧ n.kind = 4 ∧ n.name = x ∧ (UP L P x (j : Int)).1 < 0
theorem free_iff {L : List ApiNode} (h : Sc L) {P : List Int} (hP : POk L P) (x : List UInt8) : ∀ (f i : Nat), i < f → i < L.length →
    ((UP L P x (i : Int)).1 < 0 → (Occ L x (i : Int) ↔ FreeIn L P x (i : Int))) ∧ (0 ≤ (UP L P x (i : Int)).1 → ¬ FreeIn L P x (i : Int))
  | 0, i, hf, _ => by omega
  | f + 1, i, hf, hi => by
    obtain ⟨n, hn⟩ := getI2 hi
    have hI := ok_inLs h.ok
    have hd := kids_nodup h hn
    have hmp := mem_post hI hn
    have hnp := noParts_of (h.ok i n hn).1
    have ih : ∀ (q : Nat) (k : Int), (kidsP n)[q]? = some k → ∃ m : Nat, k = (m : Int) ∧ ((UP L P x k).1 < 0 → (Occ L x k ↔ FreeIn L P x k)) ∧ (0 ≤ (UP L P x k).1 → ¬ FreeIn L P x k) ∧ (hidesP n q x → 0 ≤ (UP L P x k).1) ∧ (¬ hidesP n q x → UP L P x k = UP L P x (i : Int)) := by
      intro q k hk
      have hkm := List.mem_of_getElem? hk
      have hq := hI i n hn k hkm
      obtain ⟨m, rfl⟩ : ∃ m : Nat, k = (m : Int) := ⟨k.toNat, by omega⟩
      obtain ⟨a, b⟩ := free_iff h hP x f m (by omega) (by omega)
      have hs := UP_step h hP x hn hkm
      refine ⟨m, rfl, a, b, fun hh => ?_, fun hh => ?_⟩
      · rw [hs, if_pos ((hides_binds hd hk x).2 hh)]; exact Int.natCast_nonneg _
      · rw [hs, if_neg (fun hb => hh ((hides_binds hd hk x).1 hb))]
    constructor
    · intro hu
      rw [occ_inv (i := (i : Int)) (by rw [Int.toNat_natCast]; exact hn)]
      constructor
      · rintro (⟨h1, h2⟩ | ⟨q, k, h1, h2, h3⟩)
        · exact ⟨i, n, by rw [hmp]; exact .inr rfl, hn, h1, h2, hu⟩
        · obtain ⟨m, rfl, a, _, _, c⟩ := ih q k h1
          obtain ⟨j, nj, b1, b2⟩ := (a (by rw [c h2]; exact hu)).1 h3
          exact ⟨j, nj, by rw [hmp]; exact .inl ⟨_, List.mem_of_getElem? h1, b1⟩, b2⟩
      · rintro ⟨j, nj, b1, b2, b3, b4, b5⟩
        rw [hmp] at b1
        rcases b1 with ⟨k, hk, hj⟩ | hj
        · obtain ⟨q, hq, hqk⟩ := List.getElem_of_mem hk
          have hqk2 : (kidsP n)[q]? = some k := by rw [← hqk]; exact List.getElem?_eq_getElem hq
          obtain ⟨m, rfl, a, b, c, d⟩ := ih q k hqk2
          by_cases hh : hidesP n q x
          · exact absurd ⟨j, nj, hj, b2, b3, b4, b5⟩ (b (c hh))
          · exact .inr ⟨q, _, hqk2, hh, (a (by rw [d hh]; exact hu)).2 ⟨j, nj, hj, b2, b3, b4, b5⟩⟩
        · have : j = i := by omega
          subst this
          rw [hn] at b2
          obtain rfl := Option.some.inj b2
          exact .inl ⟨b3, b4⟩
    · rintro hu ⟨j, nj, b1, b2, b3, b4, b5⟩
      rw [hmp] at b1
      rcases b1 with ⟨k, hk, hj⟩ | hj
      · obtain ⟨q, hq, hqk⟩ := List.getElem_of_mem hk
        have hqk2 : (kidsP n)[q]? = some k := by rw [← hqk]; exact List.getElem?_eq_getElem hq
        obtain ⟨m, rfl, a, b, c, d⟩ := ih q k hqk2
        refine b ?_ ⟨j, nj, hj, b2, b3, b4, b5⟩
        by_cases hh : hidesP n q x
        · exact c hh
        · rw [d hh]; exact hu
      · have : j = i := by omega
        subst this
        omega
theorem freeB_iff (L : List ApiNode) (P : List Int) (j : Nat) : freeB L P j = true ↔ ∃ n, L[j]? = some n ∧ n.kind = 4 ∧ (UP L P n.name (j : Int)).1 < 0 := by
  unfold freeB VP
  cases hn : L[j]? with
  | none => simp
  | some n =>
    simp only [Bool.and_eq_true, decide_eq_true_eq, Option.some.injEq, exists_eq_left']
    constructor
    · rintro ⟨h1, h2⟩; rw [if_pos h1] at h2; exact ⟨h1, h2⟩
    · rintro ⟨h1, h2⟩; rw [if_pos h1]; exact ⟨h1, h2⟩
/-- What is free, by its name. -/
theorem occ_root {L : List ApiNode} (h : Sc L) {P : List Int} (hP : POk L P) (x : List UInt8) : Occ L x (((L.length - 1 : Nat)) : Int) ↔ ∃ j ∈ frees L P L.length, nmAt L j = x := by
  have h0 := h.pos
  have hr := UP_root h hP x
  rw [(free_iff h hP x L.length (L.length - 1) (by omega) (by omega)).1 (by rw [hr]; decide)]
  constructor
  · rintro ⟨j, n, h1, h2, h3, h4, h5⟩
    refine ⟨j, List.mem_filter.2 ⟨List.mem_range.2 (getLt h2), (freeB_iff L P j).2 ⟨n, h2, h3, by rw [h4]; exact h5⟩⟩, by unfold nmAt; rw [h2]; exact h4⟩
  · rintro ⟨j, h1, h2⟩
    obtain ⟨h3, h4⟩ := List.mem_filter.1 h1
    obtain ⟨n, h5, h6, h7⟩ := (freeB_iff L P j).1 h4
    have hj := List.mem_range.1 h3
    unfold nmAt at h2
    rw [h5] at h2
    simp only at h2
    refine ⟨j, n, post_all h _ j hj (Nat.le_refl _), h5, h6, h2, by rw [← h2]; exact h7⟩
theorem mem_dd : ∀ (l acc : List (List UInt8)) (x : List UInt8), x ∈ l.foldl ddStep acc ↔ x ∈ acc ∨ x ∈ l
  | [], acc, x => by simp
  | y :: l, acc, x => by
    rw [List.foldl_cons, mem_dd l]
    unfold ddStep
    split
    · rename_i h
      rw [List.mem_cons]
      constructor
      · rintro (h1 | h1)
        · exact .inl h1
        · exact .inr (.inr h1)
      · rintro (h1 | rfl | h1)
        · exact .inl h1
        · exact .inl h
        · exact .inr h1
    · rw [List.mem_append, List.mem_singleton, List.mem_cons, or_assoc]
theorem mem_freeN {L : List ApiNode} (h : Sc L) {P : List Int} (hP : POk L P) (x : List UInt8) : x ∈ freeN L P L.length ↔ Occ L x (((L.length - 1 : Nat)) : Int) := by
  rw [occ_root h hP]
  unfold freeN
  rw [mem_dd, List.mem_map]
  simp
theorem hides_with (n : ApiNode) (ks : List Int) (hp : noParts n) (hk : ks.length = (kidsP n).length) (q : Nat) (x : List UInt8) : hidesP (withP n ks) q x ↔ hidesP n q x := by
  unfold hidesP
  have e1 : (withP n ks).kind = n.kind := rfl
  have e2 : (withP n ks).name = n.name := rfl
  rw [e1, e2]
  by_cases k14 : n.kind = 14
  · have hpb : partsB n.kind = true := by rw [k14]; rfl
    have hl : (withP n ks).l = List.zipWith relF n.l (ks.drop (abcN n.kind)) := by unfold withP; simp only; rw [if_pos hpb]
    have hkl := kidsP_len n hp
    have : ∀ (m : Nat), (∃ f, (withP n ks).l[m]? = some f ∧ f.var = x) ↔ ∃ f, n.l[m]? = some f ∧ f.var = x := by
      intro m
      rw [hl, List.getElem?_zipWith]
      constructor
      · rintro ⟨f, h1, h2⟩
        cases hm : n.l[m]? with
        | none => rw [hm] at h1; simp at h1
        | some g =>
          cases hd : (ks.drop (abcN n.kind))[m]? with
          | none => rw [hm, hd] at h1; simp at h1
          | some y =>
            rw [hm, hd] at h1
            simp only [Option.some.injEq] at h1
            subst h1
            exact ⟨g, rfl, h2⟩
      · rintro ⟨g, h1, h2⟩
        have hm := getLt h1
        obtain ⟨y, hy⟩ := getI2 (l := ks.drop (abcN n.kind)) (i := m) (by simp; omega)
        exact ⟨relF g y, by rw [h1, hy], h2⟩
    constructor
    · rintro (h | h | ⟨h1, f, h2, h3⟩)
      · exact .inl h
      · exact .inr (.inl h)
      · obtain ⟨g, g1⟩ := (this (q - 1)).1 ⟨f, h3⟩
        exact .inr (.inr ⟨h1, g, h2, g1⟩)
    · rintro (h | h | ⟨h1, f, h2, h3⟩)
      · exact .inl h
      · exact .inr (.inl h)
      · obtain ⟨g, g1⟩ := (this (q - 1)).2 ⟨f, h3⟩
        exact .inr (.inr ⟨h1, g, h2, g1⟩)
  · constructor
    · rintro (h | h | ⟨h1, _⟩)
      · exact .inl h
      · exact .inr (.inl h)
      · exact absurd h1 k14
    · rintro (h | h | ⟨h1, _⟩)
      · exact .inl h
      · exact .inr (.inl h)
      · exact absurd h1 k14
/-- Trees that are built alike. -/
def Sim (L O : List ApiNode) (S : Int → Int → Prop) : Prop := ∀ i j, S i j → ∃ (n : ApiNode) (ks : List Int), L[i.toNat]? = some n ∧ noParts n ∧ O[j.toNat]? = some (withP n ks) ∧ ks.length = (kidsP n).length ∧ ∀ (q : Nat) k m, (kidsP n)[q]? = some k → ks[q]? = some m → S k m
theorem occ_sim {L O : List ApiNode} {S : Int → Int → Prop} (hS : Sim L O S) (x : List UInt8) : (∀ i, Occ L x i → ∀ j, S i j → Occ O x j) ∧ (∀ j, Occ O x j → ∀ i, S i j → Occ L x i) := by
  constructor
  · intro i h
    induction h with
    | var h1 h2 h3 =>
      intro j hs
      obtain ⟨n, ks, a1, a2, a3, a4, a5⟩ := hS _ _ hs
      rw [a1] at h1
      obtain rfl := Option.some.inj h1
      exact .var a3 h2 h3
    | kid h1 h2 h3 h4 ih =>
      intro j hs
      obtain ⟨n, ks, a1, a2, a3, a4, a5⟩ := hS _ _ hs
      rw [a1] at h1
      obtain rfl := Option.some.inj h1
      obtain ⟨m, hm⟩ := getI2 (l := ks) (by rw [a4]; exact getLt h2)
      refine .kid a3 (by rw [withP_kids n ks a2 a4]; exact hm) (fun hh => h3 ((hides_with n ks a2 a4 _ x).1 hh)) (ih m (a5 _ _ _ h2 hm))
  · intro j h
    induction h with
    | var h1 h2 h3 =>
      intro i hs
      obtain ⟨n, ks, a1, a2, a3, a4, a5⟩ := hS _ _ hs
      rw [a3] at h1
      obtain rfl := Option.some.inj h1
      exact .var a1 h2 h3
    | kid h1 h2 h3 h4 ih =>
      intro i hs
      obtain ⟨n, ks, a1, a2, a3, a4, a5⟩ := hS _ _ hs
      rw [a3] at h1
      obtain rfl := Option.some.inj h1
      rw [withP_kids n ks a2 a4] at h2
      obtain ⟨k, hk⟩ := getI2 (l := kidsP n) (by rw [← a4]; exact getLt h2)
      exact .kid a1 hk (fun hh => h3 ((hides_with n ks a2 a4 _ x).2 hh)) (ih k (a5 _ _ _ hk h2))
theorem sim_copy {L O : List ApiNode} (hok : allOk L) : Sim L O (fun i j => ∃ (a : Nat) (o : List ApiNode), i = (a : Int) ∧ a < L.length ∧ copyP L (a : Int) o <+: O ∧ j = lastI (copyP L (a : Int) o)) := by
  rintro i j ⟨a, o, rfl, ha, hp, rfl⟩
  have hI := ok_inLs hok
  obtain ⟨n, hn⟩ := getI2 ha
  obtain ⟨R, r1, r2, r3, r4⟩ := copy_last hok hn o
  have hmore := copy_more hI ha o
  refine ⟨n, R, by rw [Int.toNat_natCast]; exact hn, noParts_of (hok a n hn).1, ?_, r2, fun q k m hk hm => ?_⟩
  · unfold lastI
    rw [show (((copyP L (a : Int) o).length : Int) - 1).toNat = (copyP L (a : Int) o).length - 1 by omega]
    exact pre_get hp r1
  · obtain ⟨oj, q1, q2, q3⟩ := r4 q k m hk hm
    have := hI a n hn k (List.mem_of_getElem? hk)
    obtain ⟨b, rfl⟩ : ∃ b : Nat, k = (b : Int) := ⟨k.toNat, by omega⟩
    exact ⟨b, oj, rfl, by omega, q2.trans hp, q3⟩
theorem occ_copy {L : List ApiNode} (hok : allOk L) {i : Nat} (hi : i < L.length) (x : List UInt8) : Occ (copyP L (i : Int) []) x ((((copyP L (i : Int) []).length - 1 : Nat)) : Int) ↔ Occ L x (i : Int) := by
  have hmore := copy_more (ok_inLs hok) hi []
  have e : lastI (copyP L (i : Int) []) = (((copyP L (i : Int) []).length - 1 : Nat) : Int) := by unfold lastI; simp only [List.length_nil] at hmore; omega
  have hS := occ_sim (sim_copy (O := copyP L (i : Int) []) hok) x
  rw [← e]
  exact ⟨fun h => hS.2 _ h _ ⟨i, [], rfl, hi, List.prefix_refl _, rfl⟩, fun h => hS.1 _ h _ ⟨i, [], rfl, hi, List.prefix_refl _, rfl⟩⟩
theorem norm_occ {a : ApiExpr} (hl : a.l.length ≤ 700) (hN : ∀ n ∈ a.l, NB n) (h : mayT a.l = 0) (x : List UInt8) : Occ (normT a).1.l x ((((normT a).1.l.length - 1 : Nat)) : Int) ↔ Occ a.l x (((a.l.length - 1 : Nat)) : Int) := by
  have hS := sc_of hl hN h
  have h0 := hS.pos
  unfold normT
  rw [if_pos h]
  exact occ_copy hS.ok (by omega) x
end Go.Proofs.Ytnnjgbcojdnhhaa
set_option linter.unusedVariables false
set_option linter.unusedSimpArgs false
set_option maxRecDepth 100000
namespace Go.Proofs.Ytnnjgbcojdnhhaa
open Go.V
open Classical
theorem may_any (e : ApiExpr) (hN : ∀ n ∈ e.l, NB n) : m_tree_May e = some (mayT e.l) := by
  by_cases h : e.l.length ≤ 701
  · exact may_eq e h hN
  · unfold m_tree_May mayT
    rw [decide_eq_false (by omega), decide_eq_true (by omega), Bool.false_or, cond_true, if_pos (.inr (by omega))]
theorem rmay_any (e : ApiExpr) (hN : ∀ n ∈ e.l, NB n) : m_syntagmaref05_May e = some (mayT e.l) := by
  by_cases h : e.l.length ≤ 701
  · exact rmay_eq e h hN
  · unfold m_syntagmaref05_May mayT
    rw [decide_eq_false (by omega), decide_eq_true (by omega), Bool.false_or, cond_true, if_pos (.inr (by omega))]
/-- A tree's nodes, as far as joining asks. -/
def GT (L : List ApiNode) : Prop := ∀ (i : Nat) n, L[i]? = some n → NB n ∧ noParts n ∧ inL i (kidsP n)
theorem gt_tok {L : List ApiNode} (h : GT L) (hl : L.length ≤ 1000000) : TOk ⟨L⟩ := by
  refine ⟨hl, fun n hn => ?_⟩
  obtain ⟨i, hi, hx⟩ := List.getElem_of_mem hn
  have hi : i < L.length := hi
  obtain ⟨a, b, c⟩ := h i n (by rw [← hx]; exact List.getElem?_eq_getElem hi)
  exact ⟨a, b, fun k hk => by have := c k hk; omega⟩
theorem gt_nb {L : List ApiNode} (h : GT L) : ∀ n ∈ L, NB n := by
  intro n hn
  obtain ⟨i, hi, hx⟩ := List.getElem_of_mem hn
  exact (h i n (by rw [← hx]; exact List.getElem?_eq_getElem hi)).1
theorem gt_ok {L : List ApiNode} (h : allOk L) (hN : ∀ n ∈ L, NB n) : GT L := fun i n hn => ⟨hN n (List.mem_of_getElem? hn), noParts_of (h i n hn).1, (h i n hn).2.1⟩
theorem gt_copy {e : ApiExpr} (h : Sc e.l) {i : Nat} (hi : i < e.l.length) : GT (copyP e.l (i : Int) []) :=
  gt_ok (copy_ok h.ok hi) (copy_nb (ok_inLs h.ok) h.nb _ _ (Nat.lt_succ_self i) hi [] (by simp))
/-- What a fold of joined trees is. -/
def JInv (st : List Int × List ApiNode) : Prop := (∀ r ∈ st.1, 0 ≤ r ∧ r < (st.2.length : Int)) ∧ GT st.2
theorem jinv_step {st : List Int × List ApiNode} (h : JInv st) {x : ApiExpr} (hx : GT x.l) (h0 : x.l ≠ []) : JInv (stepJ st x) := by
  have hpos : 0 < x.l.length := List.length_pos_iff.2 h0
  refine ⟨fun r hr => ?_, fun i n hn => ?_⟩
  · unfold stepJ at hr ⊢
    simp only [List.length_append, List.length_map] at hr ⊢
    rcases List.mem_append.1 hr with hr | hr
    · have := h.1 r hr; omega
    · obtain rfl := List.mem_singleton.1 hr; omega
  · unfold stepJ at hn
    simp only at hn
    by_cases hi : i < st.2.length
    · rw [List.getElem?_append_left hi] at hn
      exact h.2 i n hn
    · rw [List.getElem?_append_right (by omega), List.getElem?_map, Option.map_eq_some_iff] at hn
      obtain ⟨m, hm, rfl⟩ := hn
      obtain ⟨a, b, c⟩ := hx _ m hm
      unfold sh
      refine ⟨withP_nb _ _ a, withP_noParts _ _, ?_⟩
      rw [withP_kids m _ b (by simp)]
      intro k hk
      obtain ⟨k', hk', rfl⟩ := List.mem_map.1 hk
      have := c k' hk'
      omega
theorem jinv_fold : ∀ (xs : List ApiExpr) (st : List Int × List ApiNode), JInv st → (∀ x ∈ xs, GT x.l ∧ x.l ≠ []) → JInv (xs.foldl stepJ st)
  | [], _, h, _ => h
  | x :: xs, st, h, hx => jinv_fold xs _ (jinv_step h (hx x (by simp)).1 (hx x (by simp)).2) (fun y hy => hx y (by simp [hy]))
def joinP (n : ApiNode) (xs : List ApiExpr) : List ApiNode := (foldJ xs).2 ++ [withP n (foldJ xs).1]
theorem joinP_gt {n : ApiNode} {xs : List ApiExpr} (hN : NB n) (hp : noParts n) (hk : xs.length = (kidsP n).length) (hx : ∀ x ∈ xs, GT x.l ∧ x.l ≠ []) : GT (joinP n xs) := by
  have hj := jinv_fold xs ([], []) ⟨by simp, fun i n hn => by simp at hn⟩ hx
  have hl : (foldJ xs).1.length = (kidsP n).length := by
    rw [← hk]
    have : ∀ (xs : List ApiExpr) (st : List Int × List ApiNode), (xs.foldl stepJ st).1.length = st.1.length + xs.length := by
      intro xs
      induction xs with
      | nil => intro st; simp
      | cons x xs ih => intro st; rw [List.foldl_cons, ih]; unfold stepJ; simp only [List.length_append, List.length_cons, List.length_nil]; omega
    have h2 := this xs ([], [])
    simp only [List.length_nil, Nat.zero_add] at h2
    exact h2
  intro i m hm
  unfold joinP at hm
  by_cases hi : i < (foldJ xs).2.length
  · rw [List.getElem?_append_left hi] at hm
    exact hj.2 i m hm
  · rw [List.getElem?_append_right (by omega)] at hm
    have hi2 : i = (foldJ xs).2.length := by
      have := getLt hm
      simp only [List.length_cons, List.length_nil] at this
      omega
    subst hi2
    rw [Nat.sub_self, List.getElem?_cons_zero] at hm
    obtain rfl := Option.some.inj hm
    refine ⟨withP_nb _ _ hN, withP_noParts _ _, ?_⟩
    rw [withP_kids n _ hp hl]
    exact hj.1
/-- The trees below, in a joined one. -/
theorem foldJ_get : ∀ (xs : List ApiExpr) (st : List Int × List ApiNode) (q : Nat) (x : ApiExpr), xs[q]? = some x → ∃ off : Nat, (xs.foldl stepJ st).1[st.1.length + q]? = some (((off + x.l.length : Nat) : Int) - 1) ∧ ∀ (i : Nat) n, x.l[i]? = some n → (xs.foldl stepJ st).2[off + i]? = some (sh off n)
  | [], _, _, _, h => by simp at h
  | y :: xs, st, 0, x, h => by
    simp only [List.getElem?_cons_zero, Option.some.injEq] at h
    subst h
    have pre1 : ∀ (xs : List ApiExpr) (st : List Int × List ApiNode), st.1 <+: (xs.foldl stepJ st).1 ∧ st.2 <+: (xs.foldl stepJ st).2 := by
      intro xs
      induction xs with
      | nil => intro st; exact ⟨List.prefix_refl _, List.prefix_refl _⟩
      | cons z xs ih =>
        intro st
        obtain ⟨a, b⟩ := ih (stepJ st z)
        rw [List.foldl_cons]
        exact ⟨List.IsPrefix.trans (by unfold stepJ; exact List.prefix_append _ _) a, List.IsPrefix.trans (by unfold stepJ; exact List.prefix_append _ _) b⟩
    obtain ⟨a, b⟩ := pre1 xs (stepJ st y)
    rw [List.foldl_cons]
    refine ⟨st.2.length, pre_get a ?_, fun i n hn => pre_get b ?_⟩
    · unfold stepJ
      simp only [List.length_append, List.length_map, Nat.add_zero]
      rw [List.getElem?_append_right (Nat.le_refl _), Nat.sub_self]; rfl
    · unfold stepJ
      simp only
      rw [List.getElem?_append_right (by omega), show st.2.length + i - st.2.length = i by omega, List.getElem?_map, hn]; rfl
  | y :: xs, st, q + 1, x, h => by
    simp only [List.getElem?_cons_succ] at h
    obtain ⟨off, a, b⟩ := foldJ_get xs (stepJ st y) q x h
    rw [List.foldl_cons]
    refine ⟨off, ?_, b⟩
    rw [← a]
    congr 1
    unfold stepJ
    simp only [List.length_append, List.length_cons, List.length_nil]
    omega
theorem sim_sh {x O : List ApiNode} (hx : GT x) {off : Nat} (h : ∀ (i : Nat) n, x[i]? = some n → O[off + i]? = some (sh off n)) : Sim x O (fun i j => 0 ≤ i ∧ i < (x.length : Int) ∧ j = i + (off : Int)) := by
  rintro i j ⟨h0, h1, rfl⟩
  obtain ⟨a, rfl⟩ : ∃ a : Nat, i = (a : Int) := ⟨i.toNat, by omega⟩
  obtain ⟨n, hn⟩ := getI2 (l := x) (i := a) (by omega)
  obtain ⟨_, hp, hI⟩ := hx a n hn
  refine ⟨n, (kidsP n).map (· + (off : Int)), by rw [Int.toNat_natCast]; exact hn, hp, ?_, by simp, fun q k m hk hm => ?_⟩
  · rw [show ((a : Int) + (off : Int)).toNat = off + a by omega]
    exact h a n hn
  · rw [List.getElem?_map, hk, Option.map_some, Option.some.injEq] at hm
    subst hm
    have := hI k (List.mem_of_getElem? hk)
    exact ⟨by omega, by omega, rfl⟩
def lastN (L : List ApiNode) : Int := ((L.length - 1 : Nat) : Int)
/-- What is free in a joined tree. -/
theorem joinP_occ {n : ApiNode} {xs : List ApiExpr} (hp : noParts n) (hk : xs.length = (kidsP n).length) (hx : ∀ x ∈ xs, GT x.l ∧ x.l ≠ []) (y : List UInt8) : Occ (joinP n xs) y (lastN (joinP n xs)) ↔ (n.kind = 4 ∧ n.name = y) ∨ ∃ (q : Nat) (x : ApiExpr), xs[q]? = some x ∧ ¬ hidesP n q y ∧ Occ x.l y (lastN x.l) := by
  have hl : (foldJ xs).1.length = (kidsP n).length := by
    rw [← hk]
    have : ∀ (xs : List ApiExpr) (st : List Int × List ApiNode), (xs.foldl stepJ st).1.length = st.1.length + xs.length := by
      intro xs
      induction xs with
      | nil => intro st; simp
      | cons x xs ih => intro st; rw [List.foldl_cons, ih]; unfold stepJ; simp only [List.length_append, List.length_cons, List.length_nil]; omega
    have h2 := this xs ([], [])
    simp only [List.length_nil, Nat.zero_add] at h2
    exact h2
  have hr : (joinP n xs)[(lastN (joinP n xs)).toNat]? = some (withP n (foldJ xs).1) := by
    unfold lastN joinP
    rw [Int.toNat_natCast, List.length_append, List.getElem?_append_right (by simp)]
    simp
  have hwk := withP_kids n (foldJ xs).1 hp hl
  rw [occ_inv hr]
  have sub : ∀ (q : Nat) (x : ApiExpr), xs[q]? = some x → ∃ m, (foldJ xs).1[q]? = some m ∧ (Occ (joinP n xs) y m ↔ Occ x.l y (lastN x.l)) := by
    intro q x hq
    obtain ⟨g1, g2⟩ := hx x (List.mem_of_getElem? hq)
    have hpos : 0 < x.l.length := List.length_pos_iff.2 g2
    obtain ⟨off, a, b⟩ := foldJ_get xs ([], []) q x hq
    have hS := occ_sim (sim_sh (O := joinP n xs) g1 (off := off) (fun i m hm => by unfold joinP; exact pre_get (List.prefix_append _ _) (b i m hm))) y
    simp only [List.length_nil, Nat.zero_add] at a
    refine ⟨_, a, ?_⟩
    have hrel : 0 ≤ lastN x.l ∧ lastN x.l < (x.l.length : Int) ∧ (((off + x.l.length : Nat) : Int) - 1) = lastN x.l + (off : Int) := by unfold lastN; omega
    exact ⟨fun h => hS.2 _ h _ hrel, fun h => hS.1 _ h _ hrel⟩
  constructor
  · rintro (h | ⟨q, k, h1, h2, h3⟩)
    · exact .inl h
    · rw [hwk] at h1
      obtain ⟨x, hx2⟩ := getI2 (l := xs) (i := q) (by rw [hk, ← hl]; exact getLt h1)
      obtain ⟨m, m1, m2⟩ := sub q x hx2
      rw [h1] at m1
      obtain rfl := Option.some.inj m1
      exact .inr ⟨q, x, hx2, fun hh => h2 ((hides_with n _ hp hl q y).2 hh), m2.1 h3⟩
  · rintro (h | ⟨q, x, h1, h2, h3⟩)
    · exact .inl h
    · obtain ⟨m, m1, m2⟩ := sub q x h1
      exact .inr ⟨q, m, by rw [hwk]; exact m1, fun hh => h2 ((hides_with n _ hp hl q y).1 hh), m2.2 h3⟩
theorem joinP_len (n : ApiNode) (xs : List ApiExpr) : (joinP n xs).length = (xs.map fun x => x.l.length).sum + 1 := by
  have := foldJ_sum xs ([], [])
  unfold joinP
  rw [List.length_append]
  simp only [List.length_nil, Nat.zero_add] at this
  unfold foldJ
  rw [this]; rfl
end Go.Proofs.Ytnnjgbcojdnhhaa
set_option linter.unusedVariables false
set_option linter.unusedSimpArgs false
set_option maxRecDepth 100000
namespace Go.Proofs.Ytnnjgbcojdnhhaa
open Go.V
open Classical
theorem gdI {l : List Int} {q : Nat} {k : Int} (h : l[q]? = some k) : gd l (q : Int) = k := by
  unfold gd; rw [Int.toNat_natCast, h]; rfl
theorem list_range (l : List Int) : l = (List.range l.length).map fun (q : Nat) => gd l (q : Int) := by
  apply List.ext_getElem?
  intro i
  by_cases hi : i < l.length
  · obtain ⟨k, hk⟩ := getI2 hi
    rw [List.getElem?_map, List.getElem?_range hi, hk, Option.map_some, gdI hk]
  · rw [List.getElem?_eq_none (by omega), List.getElem?_eq_none (by simp; omega)]
theorem sum_mono {α : Type} (f g : α → Nat) (c : Nat) : ∀ l : List α, (∀ x ∈ l, f x ≤ c * g x) → (l.map f).sum ≤ c * (l.map g).sum
  | [], _ => by simp
  | a :: l, h => by
    rw [List.map_cons, List.sum_cons, List.map_cons, List.sum_cons, Nat.mul_add]
    have := sum_mono f g c l (fun x hx => h x (List.mem_cons_of_mem _ hx))
    have := h a (List.mem_cons_self ..)
    omega
theorem hides_eq (n : ApiNode) (hp : noParts n) (q : Nat) (hq : q < (kidsP n).length) (hN : NB n) (x : List UInt8) : m_subst_hides n (q : Int) x = some (decide (hidesP n q x)) := by
  unfold NB at hN
  unfold m_subst_hides
  by_cases k5 : n.kind = 5
  · have : hidesP n q x ↔ n.name = x := by
      unfold hidesP
      exact ⟨fun h => by rcases h with ⟨_, h⟩ | ⟨h, _⟩ | ⟨h, _⟩ <;> first | exact h | omega, fun h => .inl ⟨.inl k5, h⟩⟩
    rw [decide_eq_true k5, cond_true, Option.bind_some, cond_true]
    congr 1
    rw [decide_eq_decide]; exact this.symm
  rw [decide_eq_false k5, cond_false, Option.bind_some]
  by_cases k8 : n.kind = 8
  · have : hidesP n q x ↔ n.name = x := by
      unfold hidesP
      exact ⟨fun h => by rcases h with ⟨_, h⟩ | ⟨h, _⟩ | ⟨h, _⟩ <;> first | exact h | omega, fun h => .inl ⟨.inr k8, h⟩⟩
    rw [decide_eq_true k8, cond_true]
    congr 1
    rw [decide_eq_decide]; exact this.symm
  rw [decide_eq_false k8, cond_false]
  by_cases k7 : n.kind = 7
  · have : hidesP n q x ↔ (n.name = x ∧ (q : Int) = 1) := by
      unfold hidesP
      constructor
      · rintro (⟨h, _⟩ | ⟨_, h1, h2⟩ | ⟨h, _⟩)
        · omega
        · exact ⟨h1, by omega⟩
        · omega
      · rintro ⟨h1, h2⟩; exact .inr (.inl ⟨k7, h1, by omega⟩)
    rw [decide_eq_true k7, cond_true]
    congr 1
    rw [Bool.eq_iff_iff, Bool.and_eq_true, decide_eq_true_eq, decide_eq_true_eq, decide_eq_true_eq]; exact this.symm
  rw [decide_eq_false k7, cond_false]
  by_cases k14 : n.kind = 14
  · rw [decide_eq_true k14, cond_true]
    have hkl := kidsP_len n hp
    have ha : abcN n.kind = 1 := by rw [k14]; rfl
    by_cases h0 : 0 < q
    · obtain ⟨f, hf⟩ := getI2 (l := n.l) (i := q - 1) (by omega)
      have : hidesP n q x ↔ f.var = x := by
        unfold hidesP
        constructor
        · rintro (⟨h, _⟩ | ⟨h, _⟩ | ⟨_, g, _, h2, h3⟩)
          · omega
          · omega
          · rw [hf] at h2; rw [Option.some.inj h2]; exact h3
        · intro h; exact .inr (.inr ⟨k14, f, h0, hf, h⟩)
      rw [decide_eq_true (show (0 : Int) < (q : Int) by omega), cond_true, grd_pos (by omega), show ((q : Int) - 1) = ((q - 1 : Nat) : Int) by omega, getI hf, Option.bind_some, Option.bind_some]
      congr 1
      rw [decide_eq_decide]; exact this.symm
    · have : ¬ hidesP n q x := by
        unfold hidesP
        rintro (⟨h, _⟩ | ⟨h, _⟩ | ⟨_, g, h, _⟩) <;> omega
      rw [decide_eq_false (show ¬ (0 : Int) < (q : Int) by omega), cond_false, Option.bind_some, decide_eq_false this]
  · have : ¬ hidesP n q x := by
      unfold hidesP
      rintro (⟨h, _⟩ | ⟨h, _⟩ | ⟨h, _⟩) <;> omega
    rw [decide_eq_false k14, cond_false, decide_eq_false this]
theorem rhides_eq (n : ApiNode) (hp : noParts n) (q : Nat) (hq : q < (kidsP n).length) (hN : NB n) (x : List UInt8) : (bif ((decide (n.kind = 14)) && (decide (0 < (q : Int)))) then
        grd (InR ((q : Int) - 1)) <|
        (idx n.l ((q : Int) - 1)).bind fun x5 =>
        some (decide ((x5.var : List UInt8) = x))
      else
        some ((decide ((n.name : List UInt8) = x)) && (((decide (n.kind = 5)) || (decide (n.kind = 8))) || ((decide (n.kind = 7)) && (decide ((q : Int) = 1))))) : Option Bool) = some (decide (hidesP n q x)) := by
  unfold NB at hN
  by_cases k14 : n.kind = 14
  · have hkl := kidsP_len n hp
    have ha : abcN n.kind = 1 := by rw [k14]; rfl
    by_cases h0 : 0 < q
    · obtain ⟨f, hf⟩ := getI2 (l := n.l) (i := q - 1) (by omega)
      have : hidesP n q x ↔ f.var = x := by
        unfold hidesP
        constructor
        · rintro (⟨h, _⟩ | ⟨h, _⟩ | ⟨_, g, _, h2, h3⟩)
          · omega
          · omega
          · rw [hf] at h2; rw [Option.some.inj h2]; exact h3
        · intro h; exact .inr (.inr ⟨k14, f, h0, hf, h⟩)
      rw [decide_eq_true k14, decide_eq_true (show (0 : Int) < (q : Int) by omega), Bool.and_self, cond_true, grd_pos (by omega), show ((q : Int) - 1) = ((q - 1 : Nat) : Int) by omega, getI hf, Option.bind_some]
      congr 1
      rw [decide_eq_decide]; exact this.symm
    · have : ¬ hidesP n q x := by
        unfold hidesP
        rintro (⟨h, _⟩ | ⟨h, _⟩ | ⟨_, g, h, _⟩) <;> omega
      rw [decide_eq_false (show ¬ (0 : Int) < (q : Int) by omega), Bool.and_false, cond_false, decide_eq_false this, decide_eq_false (show ¬ n.kind = 5 by omega), decide_eq_false (show ¬ n.kind = 8 by omega), decide_eq_false (show ¬ n.kind = 7 by omega), Bool.false_and, Bool.or_self, Bool.or_self, Bool.and_false]
  · rw [decide_eq_false k14, Bool.false_and, cond_false]
    congr 1
    rw [Bool.eq_iff_iff]
    simp only [Bool.and_eq_true, Bool.or_eq_true, decide_eq_true_eq]
    unfold hidesP
    constructor
    · rintro ⟨h1, (h | h) | ⟨h, h2⟩⟩
      · exact .inl ⟨.inl h, h1⟩
      · exact .inl ⟨.inr h, h1⟩
      · exact .inr (.inl ⟨h, h1, by omega⟩)
    · rintro (⟨h | h, h1⟩ | ⟨h, h1, h2⟩ | ⟨h, _⟩)
      · exact ⟨h1, .inl (.inl h)⟩
      · exact ⟨h1, .inl (.inr h)⟩
      · exact ⟨h1, .inr ⟨h, by omega⟩⟩
      · exact absurd h k14
theorem subT_3 (e : ApiExpr) (i : Int) (h : mayT e.l = 0) : (subT e i) = if i < 0 ∨ (e.l.length : Int) ≤ i then (⟨[]⟩, 3) else (⟨copyP e.l i []⟩, 0) := by
  unfold subT; rw [if_pos h]
theorem ssub_eq (e : ApiExpr) (h : Sc e.l) (hm : mayT e.l = 0) {k : Int} (h0 : 0 ≤ k) (h1 : k < (e.l.length : Int)) : m_subst_sub e k = some ⟨copyP e.l k []⟩ := by
  have hl := h.len
  unfold m_subst_sub
  rw [tsub_eq e k hl h.nb, subT_3 e k hm, if_neg (by omega), Option.bind_some]
structure PR (L : List ApiNode) (x : List UInt8) (i : Nat) (R : List ApiNode) : Prop where
  gt : GT R
  ne : R ≠ []
  len : R.length ≤ 600 * (post L (i : Int)).length
  occ : ¬ Occ R x (lastN R)
  same : ¬ Occ L x (i : Int) → R = copyP L (i : Int) []
theorem put_eq (e : ApiExpr) (h : Sc e.l) (ht : TreeOk e) (hm : mayT e.l = 0) (x : List UInt8) (v : ApiExpr) (w : List ApiNode) (hv : m_syntagmaref05_Norm v = some ⟨w⟩) (gw : GT w) (w0 : w ≠ []) (wl : w.length ≤ 600) (wo : ¬ Occ w x (lastN w)) :
    ∀ (f i : Nat), i < f → i < e.l.length → ∃ R, m_subst_put_1 e x ⟨w⟩ f (i : Int) = some ⟨R⟩ ∧ m_syntagmaref09_put f e (i : Int) x v = some ⟨R⟩ ∧ PR e.l x i R
  | 0, i, hf, _ => by omega
  | f + 1, i, hf, hi => by
    obtain ⟨n, hn⟩ := getI2 hi
    have hI := ok_inLs h.ok
    have hNn := h.nb n (List.mem_of_getElem? hn)
    have hkl := kids_len n hNn
    have hp := noParts_of (h.ok i n hn).1
    have hL := h.len
    have hpost := post_rec hI hn
    show ∃ R, m_subst_put_1F (m_subst_put_1 e x ⟨w⟩ f) (i : Int) e x ⟨w⟩ = some ⟨R⟩ ∧ m_syntagmaref09_putF (m_syntagmaref09_put f) e (i : Int) x v = some ⟨R⟩ ∧ _
    unfold m_subst_put_1F m_syntagmaref09_putF
    rw [getI hn, Option.bind_some, Option.bind_some]
    by_cases h4 : n.kind = 4 ∧ n.name = x
    · rw [decide_eq_true h4.1, decide_eq_true h4.2, Bool.and_self, cond_true, cond_true, hv, Option.bind_some]
      refine ⟨w, rfl, rfl, gw, w0, ?_, wo, fun ho => absurd (Occ.var (i := (i : Int)) (by rw [Int.toNat_natCast]; exact hn) h4.1 h4.2) ho⟩
      rw [hpost, kids4 h4.1 hp]; simp; omega
    · rw [show (decide (n.kind = 4) && decide (n.name = x)) = false by
        rw [Bool.eq_false_iff]; intro hh; rw [Bool.and_eq_true, decide_eq_true_eq, decide_eq_true_eq] at hh; exact h4 hh, cond_false, cond_false]
      rw [show m_tree_Kids (⟨n.kind, n.a, n.b, n.c, n.n_, n.name, n.s, n.l, n.pos⟩ : ApiNode) = some (kidsP n) from kids_eq n hNn, Option.bind_some, show m_syntagmaref05_Kids (⟨n.kind, n.a, n.b, n.c, n.n_, n.name, n.s, n.l, n.pos⟩ : ApiNode) = some (kidsP n) from rkids_eq n hNn, Option.bind_some]
      have ih : ∀ k : Int, ∃ R, k ∈ kidsP n → ∃ m : Nat, k = (m : Int) ∧ m < i ∧ m_subst_put_1 e x ⟨w⟩ f k = some ⟨R⟩ ∧ m_syntagmaref09_put f e k x v = some ⟨R⟩ ∧ PR e.l x m R := by
        intro k
        by_cases hk : k ∈ kidsP n
        · have hq := hI i n hn k hk
          obtain ⟨m, rfl⟩ : ∃ m : Nat, k = (m : Int) := ⟨k.toNat, by omega⟩
          obtain ⟨R, a, b, c⟩ := put_eq e h ht hm x v w hv gw w0 wl wo f m (by omega) (by omega)
          exact ⟨R, fun _ => ⟨m, rfl, by omega, a, b, c⟩⟩
        · exact ⟨[], fun hh => absurd hh hk⟩
      let g : Int → List ApiNode := fun k => Classical.choose (ih k)
      have hg : ∀ k ∈ kidsP n, ∃ m : Nat, k = (m : Int) ∧ m < i ∧ m_subst_put_1 e x ⟨w⟩ f k = some ⟨g k⟩ ∧ m_syntagmaref09_put f e k x v = some ⟨g k⟩ ∧ PR e.l x m (g k) := fun k hk => Classical.choose_spec (ih k) hk
      let fx : Nat → ApiExpr := fun q => ⟨if hidesP n q x then copyP e.l (gd (kidsP n) (q : Int)) [] else g (gd (kidsP n) (q : Int))⟩
      have hsub : ∀ k ∈ kidsP n, m_syntagmaref05_Sub e k = some ⟨copyP e.l k []⟩ := by
        intro k hk
        have := hI i n hn k hk
        obtain ⟨m, rfl⟩ : ∃ m : Nat, k = (m : Int) := ⟨k.toNat, by omega⟩
        exact rsub_eq ht m (by omega)
      have hssub : ∀ k ∈ kidsP n, m_subst_sub e k = some ⟨copyP e.l k []⟩ := fun k hk => by
        have := hI i n hn k hk
        exact ssub_eq e h hm (by omega) (by omega)
      have loop1 : m_subst_put_1_l1 (m_subst_put_1 e x ⟨w⟩ f) e x n (kidsP n) FU (0, []) = some ((List.range (kidsP n).length).map fx) := by
        obtain ⟨o, h1, h2⟩ := loop_rng (φ := fun m q s => m_subst_put_1_l1 (m_subst_put_1 e x ⟨w⟩ f) e x n (kidsP n) m (q, s)) (l := kidsP n) (fun q s => s = (List.range q).map fx) (fun o => o = (List.range (kidsP n).length).map fx) (by
          rintro m q k s hk hq rfl
          have hkm := List.mem_of_getElem? hk
          obtain ⟨a, _, _, g1, _, _⟩ := hg k hkm
          have hsl : ((List.range q).map fx).length = q := by simp
          simp only [m_subst_put_1_l1]
          rw [decide_eq_true (show (q : Int) < ((kidsP n).length : Int) by omega), cond_true, getI hk, Option.bind_some, show m_subst_hides (⟨n.kind, n.a, n.b, n.c, n.n_, n.name, n.s, n.l, n.pos⟩ : ApiNode) (q : Int) x = _ from hides_eq n hp q hq hNn x, Option.bind_some]
          by_cases hh : hidesP n q x
          · rw [decide_eq_true hh, cond_true, hssub k hkm, Option.bind_some, grd_pos (by rw [hsl]; simp only [List.length_cons, List.length_nil]; omega), grd_pos (by omega)]
            refine .inl ⟨_, rfl, ?_⟩
            rw [List.range_succ, List.map_append]
            simp only [List.map_cons, List.map_nil, fx]
            rw [if_pos hh, gdI hk]
          · rw [decide_eq_false hh, cond_false, g1, Option.bind_some, grd_pos (by rw [hsl]; simp only [List.length_cons, List.length_nil]; omega), grd_pos (by omega)]
            refine .inl ⟨_, rfl, ?_⟩
            rw [List.range_succ, List.map_append]
            simp only [List.map_cons, List.map_nil, fx]
            rw [if_neg hh, gdI hk]) (by
          rintro m s rfl
          simp only [m_subst_put_1_l1]
          rw [decide_eq_false (by omega), cond_false]
          exact ⟨_, rfl, rfl⟩) (by rw [FUv]; omega) [] rfl
        rw [h1, h2]
      have loop2 : m_syntagmaref09_put_l1 (m_syntagmaref09_put f) e x v n (kidsP n) FU (0, []) = some ((List.range (kidsP n).length).map fx) := by
        obtain ⟨o, h1, h2⟩ := loop_rng (φ := fun m q s => m_syntagmaref09_put_l1 (m_syntagmaref09_put f) e x v n (kidsP n) m (q, s)) (l := kidsP n) (fun q s => s = (List.range q).map fx) (fun o => o = (List.range (kidsP n).length).map fx) (by
          rintro m q k s hk hq rfl
          have hkm := List.mem_of_getElem? hk
          obtain ⟨a, _, _, _, g1, _⟩ := hg k hkm
          have hsl : ((List.range q).map fx).length = q := by simp
          simp only [m_syntagmaref09_put_l1]
          rw [decide_eq_true (show (q : Int) < ((kidsP n).length : Int) by omega), cond_true, rhides_eq n hp q hq hNn x, Option.bind_some, getI hk, Option.bind_some, Option.bind_some]
          by_cases hh : hidesP n q x
          · rw [decide_eq_true hh, cond_true, hsub k hkm, Option.bind_some, grd_pos (by rw [hsl]; simp only [List.length_cons, List.length_nil]; omega), grd_pos (by omega)]
            refine .inl ⟨_, rfl, ?_⟩
            rw [List.range_succ, List.map_append]
            simp only [List.map_cons, List.map_nil, fx]
            rw [if_pos hh, gdI hk]
          · rw [decide_eq_false hh, cond_false, g1, Option.bind_some, grd_pos (by rw [hsl]; simp only [List.length_cons, List.length_nil]; omega), grd_pos (by omega)]
            refine .inl ⟨_, rfl, ?_⟩
            rw [List.range_succ, List.map_append]
            simp only [List.map_cons, List.map_nil, fx]
            rw [if_neg hh, gdI hk]) (by
          rintro m s rfl
          simp only [m_syntagmaref09_put_l1]
          rw [decide_eq_false (by omega), cond_false]
          exact ⟨_, rfl, rfl⟩) (by rw [FUv]; omega) [] rfl
        rw [h1, h2]
      rw [loop1, loop2, Option.bind_some, Option.bind_some]
      have hxl : ((List.range (kidsP n).length).map fx).length = (kidsP n).length := by simp
      have hfx : ∀ q, q < (kidsP n).length → GT (fx q).l ∧ (fx q).l ≠ [] ∧ (fx q).l.length ≤ 600 * (post e.l (gd (kidsP n) (q : Int))).length ∧ (¬ hidesP n q x → ¬ Occ (fx q).l x (lastN (fx q).l)) ∧ (¬ Occ e.l x (i : Int) → (fx q).l = copyP e.l (gd (kidsP n) (q : Int)) []) := by
        intro q hq
        obtain ⟨k, hk⟩ := getI2 hq
        have hkm := List.mem_of_getElem? hk
        rw [gdI hk]
        obtain ⟨m, rfl, hmi, _, _, pr⟩ := hg k hkm
        show GT (if hidesP n q x then copyP e.l (gd (kidsP n) (q : Int)) [] else g (gd (kidsP n) (q : Int))) ∧ _
        simp only [fx]
        rw [gdI hk]
        by_cases hh : hidesP n q x
        · rw [if_pos hh]
          have hc := copy_len hI _ _ (Nat.lt_succ_self m) (by omega) []
          have hmore := copy_more hI (show m < e.l.length by omega) []
          simp only [List.length_nil, Nat.zero_add] at hc hmore
          exact ⟨gt_copy h (by omega), List.length_pos_iff.1 (by omega), by omega, fun hq2 => absurd hh hq2, fun _ => rfl⟩
        · rw [if_neg hh]
          exact ⟨pr.gt, pr.ne, pr.len, fun _ => pr.occ, fun ho => pr.same fun hk2 => ho (.kid (i := (i : Int)) (by rw [Int.toNat_natCast]; exact hn) hk hh hk2)⟩
      have hxs : ∀ y ∈ (List.range (kidsP n).length).map fx, GT y.l ∧ y.l ≠ [] := by
        intro y hy
        obtain ⟨q, hq, rfl⟩ := List.mem_map.1 hy
        exact ⟨(hfx q (List.mem_range.1 hq)).1, (hfx q (List.mem_range.1 hq)).2.1⟩
      have hps : ((kidsP n).flatMap (post e.l)).length = ((List.range (kidsP n).length).map fun (q : Nat) => (post e.l (gd (kidsP n) (q : Int))).length).sum := by
        rw [List.length_flatMap]
        conv => lhs; rw [list_range (kidsP n)]
        rw [List.map_map]; rfl
      have hlen : (joinP n ((List.range (kidsP n).length).map fx)).length ≤ 600 * (post e.l (i : Int)).length := by
        rw [joinP_len, List.map_map, hpost, List.length_append, hps]
        have := sum_mono (fun q => (fx q).l.length) (fun (q : Nat) => (post e.l (gd (kidsP n) (q : Int))).length) 600 (List.range (kidsP n).length) (fun q hq => (hfx q (List.mem_range.1 hq)).2.2.1)
        have e1 : ((fun x : ApiExpr => x.l.length) ∘ fx) = fun q => (fx q).l.length := rfl
        rw [e1]
        simp only [List.length_cons, List.length_nil]
        omega
      have hpl := post_len hI h.one i hi
      have htok : ∀ y ∈ (List.range (kidsP n).length).map fx, TOk y := by
        intro y hy
        obtain ⟨q, hq, rfl⟩ := List.mem_map.1 hy
        obtain ⟨a, _, b, _⟩ := hfx q (List.mem_range.1 hq)
        obtain ⟨k, hk⟩ := getI2 (List.mem_range.1 hq)
        have hkk := hI i n hn k (List.mem_of_getElem? hk)
        rw [gdI hk] at b
        obtain ⟨m, rfl⟩ : ∃ m : Nat, k = (m : Int) := ⟨k.toNat, by omega⟩
        have := post_len hI h.one m (by omega)
        exact gt_tok (L := (fx q).l) a (by omega)
      have j1 := joinG n _ hNn hxl htok
      have j2 := rjoinG n _ hNn hxl htok
      refine ⟨joinP n ((List.range (kidsP n).length).map fx), ?_, ?_, joinP_gt hNn hp hxl hxs, by unfold joinP; simp, hlen, ?_, ?_⟩
      · rw [show m_tree_Join (⟨n.kind, n.a, n.b, n.c, n.n_, n.name, n.s, n.l, n.pos⟩ : ApiNode) _ = _ from j1, Option.bind_some]; rfl
      · rw [show m_syntagmaref05_Join (⟨n.kind, n.a, n.b, n.c, n.n_, n.name, n.s, n.l, n.pos⟩ : ApiNode) _ = _ from j2, Option.bind_some]; rfl
      · rw [joinP_occ hp hxl hxs]
        rintro (hh | ⟨q, y, h1, h2, h3⟩)
        · exact h4 hh
        · rw [List.getElem?_map, Option.map_eq_some_iff] at h1
          obtain ⟨q2, hq2, rfl⟩ := h1
          have hql : q < (kidsP n).length := by
            have := getLt hq2
            simpa using this
          rw [List.getElem?_range hql] at hq2
          obtain rfl := Option.some.inj hq2
          exact (hfx q hql).2.2.2.1 h2 h3
      · intro ho
        have hs : (List.range (kidsP n).length).map fx = subL e (kidsP n) := by
          unfold subL
          conv => rhs; rw [list_range (kidsP n)]
          rw [List.map_map]
          refine List.map_congr_left fun q hq => ?_
          have := (hfx q (List.mem_range.1 hq)).2.2.2.2 ho
          show fx q = ⟨copyP e.l (gd (kidsP n) (q : Int)) []⟩
          rw [← this]
        have jt := joinT ht hn
        rw [← hs, j1] at jt
        exact congrArg ApiExpr.l (Option.some.inj jt)
end Go.Proofs.Ytnnjgbcojdnhhaa
set_option linter.unusedVariables false
set_option linter.unusedSimpArgs false
set_option maxRecDepth 100000
namespace Go.Proofs.Ytnnjgbcojdnhhaa
open Go.V
open Classical
theorem frees_nil {L : List ApiNode} (h : Sc L) {P : List Int} (hP : POk L P) : frees L P L.length = [] ↔ ∀ y, ¬ Occ L y (lastN L) := by
  constructor
  · intro hf y ho
    unfold lastN at ho
    rw [occ_root h hP, hf] at ho
    obtain ⟨j, hj, _⟩ := ho
    cases hj
  · intro hno
    cases hf : frees L P L.length with
    | nil => rfl
    | cons j r =>
      refine absurd ?_ (hno (nmAt L j))
      unfold lastN
      rw [occ_root h hP]
      exact ⟨j, by rw [hf]; simp, rfl⟩
theorem sclosed_cl (x : ApiExpr) (hl : x.l.length ≤ 700) (hN : ∀ n ∈ x.l, NB n) (h : mayT x.l = 0) : ∃ p : Int, m_scope_Closed x = some (if (∀ y, ¬ Occ x.l y (lastN x.l)) then (0, 0) else (p, 10)) := by
  have hS := sc_of hl hN h
  obtain ⟨P, hP, hB⟩ := rbinders_eq x hS
  have hf := frees_nil hS hP
  rw [sclosed_eq x hl hN h hP]
  cases hfr : frees x.l P x.l.length with
  | nil => exact ⟨0, by rw [if_pos (hf.1 hfr)]⟩
  | cons j r => exact ⟨(j : Int), by rw [if_neg (fun q => by have := hf.2 q; rw [hfr] at this; cases this)]⟩
theorem rclosed_cl (x : ApiExpr) (hl : x.l.length ≤ 700) (hN : ∀ n ∈ x.l, NB n) (h : mayT x.l = 0) : ∃ p : Int, 0 ≤ p ∧ m_syntagmaref06_Closed x = some (if (∀ y, ¬ Occ x.l y (lastN x.l)) then -1 else p) := by
  have hS := sc_of hl hN h
  obtain ⟨P, hP, hB⟩ := rbinders_eq x hS
  have hf := frees_nil hS hP
  rw [rclosed_eq x hS hB]
  cases hfr : frees x.l P x.l.length with
  | nil => exact ⟨0, by omega, by rw [if_pos (hf.1 hfr)]⟩
  | cons j r => exact ⟨(j : Int), by omega, by rw [if_neg (fun q => by have := hf.2 q; rw [hfr] at this; cases this)]⟩
theorem works09 : m_syntagmalaw09_works = some true := by decide +kernel
structure PutOk (e : ApiExpr) (s : List UInt8) (r : ApiExpr × Int) : Prop where
  nb : ∀ n ∈ r.1.l, NB n
  len : r.1.l.length ≤ 1000000
  no : r.2 ≠ 0 → r.1.l = []
  yes : r.2 = 0 → mayT e.l = 0 ∧ mayT r.1.l = 0 ∧ ¬ Occ r.1.l s (lastN r.1.l) ∧ (¬ Occ e.l s (lastN e.l) → r.1 = (normT e).1)
theorem putok_no (e : ApiExpr) (s : List UInt8) (c : Int) (hc : c ≠ 0) : PutOk e s (⟨[]⟩, c) := ⟨by simp, by simp, fun _ => rfl, fun h => absurd h hc⟩
theorem sput (e v : ApiExpr) (s : List UInt8) (hl : e.l.length ≤ 700) (hN : ∀ n ∈ e.l, NB n) (hl2 : v.l.length ≤ 700) (hN2 : ∀ n ∈ v.l, NB n) : ∃ r, m_subst_Put e s v = some r ∧ m_syntagmaref09_Put e s v (nameP s) = some r ∧ PutOk e s r := by
  unfold m_subst_Put m_syntagmaref09_Put
  rw [may_eq e (by omega) hN, Option.bind_some, rmay_eq e (by omega) hN, Option.bind_some]
  by_cases h1 : mayT e.l = 0
  rotate_left
  · rw [decide_eq_false h1, Bool.not_false, cond_true, cond_true]
    exact ⟨_, rfl, rfl, putok_no e s _ h1⟩
  rw [decide_eq_true h1, Bool.not_true, cond_false, cond_false, norm_eq2 v hl2 hN2, Option.bind_some, rmay_eq v (by omega) hN2, Option.bind_some]
  dsimp only
  by_cases h2 : mayT v.l = 0
  rotate_left
  · rw [decide_eq_false h2, Bool.not_false, cond_true, cond_true]
    exact ⟨_, rfl, rfl, putok_no e s _ h2⟩
  rw [decide_eq_true h2, Bool.not_true, cond_false, cond_false, name_eq, Option.bind_some]
  cases hnm : nameP s with
  | false =>
    rw [Bool.not_false, cond_true, cond_true]
    exact ⟨_, rfl, rfl, putok_no e s 2 (by decide)⟩
  | true =>
    rw [Bool.not_true, cond_false, cond_false]
    obtain ⟨n1, n2⟩ := normT_nb v hl2 hN2
    have k1 := (norm_may hl2 hN2 h2).1
    have hSv := sc_of hl2 hN2 h2
    have hSw := sc_of n1 n2 k1
    obtain ⟨p, hp⟩ := sclosed_cl (normT v).1 n1 n2 k1
    obtain ⟨p2, hp20, hp2⟩ := rclosed_cl v hl2 hN2 h2
    have hiff : (∀ y, ¬ Occ (normT v).1.l y (lastN (normT v).1.l)) ↔ ∀ y, ¬ Occ v.l y (lastN v.l) := by
      unfold lastN
      exact ⟨fun h y ho => h y ((norm_occ hl2 hN2 h2 y).2 ho), fun h y ho => h y ((norm_occ hl2 hN2 h2 y).1 ho)⟩
    rw [show m_scope_Closed (⟨(normT v).1.l⟩ : ApiExpr) = _ from hp, Option.bind_some, hp2, Option.bind_some]
    by_cases hc : ∀ y, ¬ Occ v.l y (lastN v.l)
    rotate_left
    · rw [if_neg (fun h => hc (hiff.1 h)), if_neg hc]
      dsimp only
      rw [decide_eq_false (by decide), Bool.not_false, cond_true, decide_eq_true hp20, cond_true]
      exact ⟨_, rfl, rfl, putok_no e s 10 (by decide)⟩
    rw [if_pos (hiff.2 hc), if_pos hc]
    dsimp only
    rw [decide_eq_true rfl, Bool.not_true, cond_false, decide_eq_false (by decide), cond_false]
    have hSe := sc_of hl hN h1
    obtain ⟨hte, he1⟩ := mayT_tree hl hN h1
    have hpos := hSw.pos
    obtain ⟨R, r1, r2, pr⟩ := put_eq e hSe hte h1 s v (normT v).1.l (by rw [rnorm_eq v hl2 hN2 h2]) (gt_ok hSw.ok n2) (List.length_pos_iff.1 (by omega)) (mayT_ok k1).2.1 (hiff.2 hc s) FU (e.l.length - 1) (by rw [FUv]; omega) (by omega)
    have hpl := post_len (ok_inLs hSe.ok) hSe.one (e.l.length - 1) (by omega)
    have hpl2 := pr.len
    have hRN := gt_nb pr.gt
    unfold m_subst_put m_syntagmaref09_Raw m_subst_made
    rw [grd_pos (by omega), grd_pos (by omega), show ((e.l.length : Int) - 1) = ((e.l.length - 1 : Nat) : Int) by omega, r1, r2, Option.bind_some, Option.bind_some, Option.bind_some]
    rw [show m_tree_May (⟨R⟩ : ApiExpr) = some (mayT R) from may_any ⟨R⟩ hRN, show m_syntagmaref05_May (⟨R⟩ : ApiExpr) = some (mayT R) from rmay_any ⟨R⟩ hRN, Option.bind_some]
    by_cases h3 : mayT R = 0
    · rw [decide_eq_true h3, Bool.not_true, cond_false]
      refine ⟨_, rfl, rfl, hRN, (show R.length ≤ 1000000 by omega), fun h => absurd rfl h, fun _ => ⟨h1, h3, pr.occ, fun ho => ?_⟩⟩
      show (⟨R⟩ : ApiExpr) = _
      unfold normT
      rw [if_pos h1, pr.same ho]
    · rw [decide_eq_false h3, Bool.not_false, cond_true]
      exact ⟨_, rfl, rfl, putok_no e s _ h3⟩
theorem sli50 (x : List UInt8) : ∃ s, sli x 0 (if 50 < (x.length : Int) then 50 else (x.length : Int)) = some s := by
  split
  · exact ⟨_, sli_take (k := 50) (by omega)⟩
  · exact ⟨_, sli_take (k := x.length) (Nat.le_refl _)⟩
theorem law_SubstStays (e : ApiExpr) (x : List UInt8) (v : ApiExpr) : m_syntagmalaw09_SubstStays e x v = some true := by
  unfold m_syntagmalaw09_SubstStays
  have hl := fewE_len e
  have hN := fewE_nb e
  have hl2 := fewE_len v
  have hN2 := fewE_nb v
  obtain ⟨s, hs⟩ := sli50 x
  rw [works09, Option.bind_some, Bool.not_true, cond_false, show m_syntagmalaw05_Few (⟨e.l⟩ : ApiExpr) = some (fewE e) from few_eq e, Option.bind_some, show m_syntagmalaw05_Few (⟨v.l⟩ : ApiExpr) = some (fewE v) from few_eq v, Option.bind_some, hs, Option.bind_some]
  generalize fewE e = e at *
  generalize fewE v = v at *
  obtain ⟨r, r1, r2, pr⟩ := sput e v s hl hN hl2 hN2
  obtain ⟨a, c⟩ := r
  rw [show m_subst_Put (⟨e.l⟩ : ApiExpr) s (⟨v.l⟩ : ApiExpr) = _ from r1, Option.bind_some]
  dsimp only
  by_cases hc : c = 0
  · obtain ⟨h1, h3, h4, h5⟩ := pr.yes hc
    have hal := (mayT_ok h3).2.1
    simp only at h3 h4 h5 hal
    have hSe := sc_of hl hN h1
    have hSa := sc_of (e := a) (by omega) pr.nb h3
    obtain ⟨P, hP, _⟩ := rbinders_eq e hSe
    obtain ⟨Q, hQ, _⟩ := rbinders_eq a hSa
    have b1 := freeN_len e.l P e.l.length
    have b2 := freeN_len a.l Q a.l.length
    have hno : ¬ s ∈ freeN a.l Q a.l.length := fun hm => h4 ((mem_freeN hSa hQ s).1 hm)
    rw [decide_eq_true hc, Bool.not_true, cond_false, show m_scope_Free (⟨e.l⟩ : ApiExpr) = _ from sfree_eq e hl hN h1 hP, Option.bind_some]
    dsimp only
    rw [show m_scope_Free (⟨a.l⟩ : ApiExpr) = _ from sfree_eq a (by omega) pr.nb h3 hQ, Option.bind_some]
    dsimp only
    rw [decide_eq_true rfl, Bool.not_true, Bool.or_self, cond_false, rIsKey_eq _ _ (by omega), Option.bind_some, decide_eq_false hno, Option.bind_some, cond_false, rIsKey_eq _ _ (by omega), Option.bind_some]
    by_cases hin : s ∈ freeN e.l P e.l.length
    · rw [decide_eq_true hin, cond_true]; rfl
    · have hoc : ¬ Occ e.l s (lastN e.l) := fun ho => hin ((mem_freeN hSe hP s).2 ho)
      have ha := h5 hoc
      obtain ⟨k1, k2⟩ := norm_may hl hN h1
      rw [decide_eq_false hin, cond_false, show m_syntagmaref05_Same (⟨a.l⟩ : ApiExpr) (⟨e.l⟩ : ApiExpr) = _ from rsame_eq a e (by omega) pr.nb hl hN, Option.bind_some]
      have : sameT a e = true := by
        unfold sameT
        rw [decide_eq_true h3, decide_eq_true h1, Bool.true_and, Bool.true_and, decide_eq_true_eq, ha, k2]
        exact sameL_refl _
      rw [this]; rfl
  · rw [decide_eq_false hc, Bool.not_false, cond_true]
    have := pr.no hc
    simp only at this
    rw [this]; rfl
end Go.Proofs.Ytnnjgbcojdnhhaa
