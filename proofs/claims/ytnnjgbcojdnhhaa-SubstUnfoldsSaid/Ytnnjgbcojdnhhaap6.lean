/- Part 6 of the proof: a program logic, what the functions compute, and what these answer; no condition. -/
import Derived.Test.Ytnnjgbcojdnhhaap5
set_option linter.unusedVariables false
set_option linter.unusedSimpArgs false
set_option maxRecDepth 100000
namespace Go.Proofs.Ytnnjgbcojdnhhaa
open Go.V
open Classical
theorem may_any (e : ApiExpr) (hN : ∀ n ∈ e.l, NB n) : m_tree_May e = some (mayT e.l) := by
  by_cases h : e.l.length ≤ 701
  · exact may_eq e h hN
  · unfold m_tree_May mayT
    rw [decide_eq_false (by omega), decide_eq_true (by omega), Bool.false_or, cond_true, if_pos (.inr (by omega))]
theorem rmay_any (e : ApiExpr) (hN : ∀ n ∈ e.l, NB n) : m_syntagmaref05_May e = some (mayT e.l) := by
  by_cases h : e.l.length ≤ 701
  · exact rmay_eq e h hN
  · unfold m_syntagmaref05_May mayT
    rw [decide_eq_false (by omega), decide_eq_true (by omega), Bool.false_or, cond_true, if_pos (.inr (by omega))]
/-- A tree's nodes, as far as joining asks. -/
def GT (L : List ApiNode) : Prop := ∀ (i : Nat) n, L[i]? = some n → NB n ∧ noParts n ∧ inL i (kidsP n)
theorem gt_tok {L : List ApiNode} (h : GT L) (hl : L.length ≤ 1000000) : TOk ⟨L⟩ := by
  refine ⟨hl, fun n hn => ?_⟩
  obtain ⟨i, hi, hx⟩ := List.getElem_of_mem hn
  have hi : i < L.length := hi
  obtain ⟨a, b, c⟩ := h i n (by rw [← hx]; exact List.getElem?_eq_getElem hi)
  exact ⟨a, b, fun k hk => by have := c k hk; omega⟩
theorem gt_nb {L : List ApiNode} (h : GT L) : ∀ n ∈ L, NB n := by
  intro n hn
  obtain ⟨i, hi, hx⟩ := List.getElem_of_mem hn
  exact (h i n (by rw [← hx]; exact List.getElem?_eq_getElem hi)).1
theorem gt_ok {L : List ApiNode} (h : allOk L) (hN : ∀ n ∈ L, NB n) : GT L := fun i n hn => ⟨hN n (List.mem_of_getElem? hn), noParts_of (h i n hn).1, (h i n hn).2.1⟩
theorem gt_copy {e : ApiExpr} (h : Sc e.l) {i : Nat} (hi : i < e.l.length) : GT (copyP e.l (i : Int) []) :=
  gt_ok (copy_ok h.ok hi) (copy_nb (ok_inLs h.ok) h.nb _ _ (Nat.lt_succ_self i) hi [] (by simp))
/-- What a fold of joined trees is. -/
def JInv (st : List Int × List ApiNode) : Prop := (∀ r ∈ st.1, 0 ≤ r ∧ r < (st.2.length : Int)) ∧ GT st.2
theorem jinv_step {st : List Int × List ApiNode} (h : JInv st) {x : ApiExpr} (hx : GT x.l) (h0 : x.l ≠ []) : JInv (stepJ st x) := by
  have hpos : 0 < x.l.length := List.length_pos_iff.2 h0
  refine ⟨fun r hr => ?_, fun i n hn => ?_⟩
  · unfold stepJ at hr ⊢
    simp only [List.length_append, List.length_map] at hr ⊢
    rcases List.mem_append.1 hr with hr | hr
    · have := h.1 r hr; omega
    · obtain rfl := List.mem_singleton.1 hr; omega
  · unfold stepJ at hn
    simp only at hn
    by_cases hi : i < st.2.length
    · rw [List.getElem?_append_left hi] at hn
      exact h.2 i n hn
    · rw [List.getElem?_append_right (by omega), List.getElem?_map, Option.map_eq_some_iff] at hn
      obtain ⟨m, hm, rfl⟩ := hn
      obtain ⟨a, b, c⟩ := hx _ m hm
      unfold sh
      refine ⟨withP_nb _ _ a, withP_noParts _ _, ?_⟩
      rw [withP_kids m _ b (by simp)]
      intro k hk
      obtain ⟨k', hk', rfl⟩ := List.mem_map.1 hk
      have := c k' hk'
      omega
theorem jinv_fold : ∀ (xs : List ApiExpr) (st : List Int × List ApiNode), JInv st → (∀ x ∈ xs, GT x.l ∧ x.l ≠ []) → JInv (xs.foldl stepJ st)
  | [], _, h, _ => h
  | x :: xs, st, h, hx => jinv_fold xs _ (jinv_step h (hx x (by simp)).1 (hx x (by simp)).2) (fun y hy => hx y (by simp [hy]))
def joinP (n : ApiNode) (xs : List ApiExpr) : List ApiNode := (foldJ xs).2 ++ [withP n (foldJ xs).1]
theorem joinP_gt {n : ApiNode} {xs : List ApiExpr} (hN : NB n) (hp : noParts n) (hk : xs.length = (kidsP n).length) (hx : ∀ x ∈ xs, GT x.l ∧ x.l ≠ []) : GT (joinP n xs) := by
  have hj := jinv_fold xs ([], []) ⟨by simp, fun i n hn => by simp at hn⟩ hx
  have hl : (foldJ xs).1.length = (kidsP n).length := by
    rw [← hk]
    have : ∀ (xs : List ApiExpr) (st : List Int × List ApiNode), (xs.foldl stepJ st).1.length = st.1.length + xs.length := by
      intro xs
      induction xs with
      | nil => intro st; simp
      | cons x xs ih => intro st; rw [List.foldl_cons, ih]; unfold stepJ; simp only [List.length_append, List.length_cons, List.length_nil]; omega
    have h2 := this xs ([], [])
    simp only [List.length_nil, Nat.zero_add] at h2
    exact h2
  intro i m hm
  unfold joinP at hm
  by_cases hi : i < (foldJ xs).2.length
  · rw [List.getElem?_append_left hi] at hm
    exact hj.2 i m hm
  · rw [List.getElem?_append_right (by omega)] at hm
    have hi2 : i = (foldJ xs).2.length := by
      have := getLt hm
      simp only [List.length_cons, List.length_nil] at this
      omega
    subst hi2
    rw [Nat.sub_self, List.getElem?_cons_zero] at hm
    obtain rfl := Option.some.inj hm
    refine ⟨withP_nb _ _ hN, withP_noParts _ _, ?_⟩
    rw [withP_kids n _ hp hl]
    exact hj.1
/-- The trees below, in a joined one. -/
theorem foldJ_get : ∀ (xs : List ApiExpr) (st : List Int × List ApiNode) (q : Nat) (x : ApiExpr), xs[q]? = some x → ∃ off : Nat, (xs.foldl stepJ st).1[st.1.length + q]? = some (((off + x.l.length : Nat) : Int) - 1) ∧ ∀ (i : Nat) n, x.l[i]? = some n → (xs.foldl stepJ st).2[off + i]? = some (sh off n)
  | [], _, _, _, h => by simp at h
  | y :: xs, st, 0, x, h => by
    simp only [List.getElem?_cons_zero, Option.some.injEq] at h
    subst h
    have pre1 : ∀ (xs : List ApiExpr) (st : List Int × List ApiNode), st.1 <+: (xs.foldl stepJ st).1 ∧ st.2 <+: (xs.foldl stepJ st).2 := by
      intro xs
      induction xs with
      | nil => intro st; exact ⟨List.prefix_refl _, List.prefix_refl _⟩
      | cons z xs ih =>
        intro st
        obtain ⟨a, b⟩ := ih (stepJ st z)
        rw [List.foldl_cons]
        exact ⟨List.IsPrefix.trans (by unfold stepJ; exact List.prefix_append _ _) a, List.IsPrefix.trans (by unfold stepJ; exact List.prefix_append _ _) b⟩
    obtain ⟨a, b⟩ := pre1 xs (stepJ st y)
    rw [List.foldl_cons]
    refine ⟨st.2.length, pre_get a ?_, fun i n hn => pre_get b ?_⟩
    · unfold stepJ
      simp only [List.length_append, List.length_map, Nat.add_zero]
      rw [List.getElem?_append_right (Nat.le_refl _), Nat.sub_self]; rfl
    · unfold stepJ
      simp only
      rw [List.getElem?_append_right (by omega), show st.2.length + i - st.2.length = i by omega, List.getElem?_map, hn]; rfl
  | y :: xs, st, q + 1, x, h => by
    simp only [List.getElem?_cons_succ] at h
    obtain ⟨off, a, b⟩ := foldJ_get xs (stepJ st y) q x h
    rw [List.foldl_cons]
    refine ⟨off, ?_, b⟩
    rw [← a]
    congr 1
    unfold stepJ
    simp only [List.length_append, List.length_cons, List.length_nil]
    omega
theorem sim_sh {x O : List ApiNode} (hx : GT x) {off : Nat} (h : ∀ (i : Nat) n, x[i]? = some n → O[off + i]? = some (sh off n)) : Sim x O (fun i j => 0 ≤ i ∧ i < (x.length : Int) ∧ j = i + (off : Int)) := by
  rintro i j ⟨h0, h1, rfl⟩
  obtain ⟨a, rfl⟩ : ∃ a : Nat, i = (a : Int) := ⟨i.toNat, by omega⟩
  obtain ⟨n, hn⟩ := getI2 (l := x) (i := a) (by omega)
  obtain ⟨_, hp, hI⟩ := hx a n hn
  refine ⟨n, (kidsP n).map (· + (off : Int)), by rw [Int.toNat_natCast]; exact hn, hp, ?_, by simp, fun q k m hk hm => ?_⟩
  · rw [show ((a : Int) + (off : Int)).toNat = off + a by omega]
    exact h a n hn
  · rw [List.getElem?_map, hk, Option.map_some, Option.some.injEq] at hm
    subst hm
    have := hI k (List.mem_of_getElem? hk)
    exact ⟨by omega, by omega, rfl⟩
def lastN (L : List ApiNode) : Int := ((L.length - 1 : Nat) : Int)
/-- What is free in a joined tree. -/
theorem joinP_occ {n : ApiNode} {xs : List ApiExpr} (hp : noParts n) (hk : xs.length = (kidsP n).length) (hx : ∀ x ∈ xs, GT x.l ∧ x.l ≠ []) (y : List UInt8) : Occ (joinP n xs) y (lastN (joinP n xs)) ↔ (n.kind = 4 ∧ n.name = y) ∨ ∃ (q : Nat) (x : ApiExpr), xs[q]? = some x ∧ ¬ hidesP n q y ∧ Occ x.l y (lastN x.l) := by
  have hl : (foldJ xs).1.length = (kidsP n).length := by
    rw [← hk]
    have : ∀ (xs : List ApiExpr) (st : List Int × List ApiNode), (xs.foldl stepJ st).1.length = st.1.length + xs.length := by
      intro xs
      induction xs with
      | nil => intro st; simp
      | cons x xs ih => intro st; rw [List.foldl_cons, ih]; unfold stepJ; simp only [List.length_append, List.length_cons, List.length_nil]; omega
    have h2 := this xs ([], [])
    simp only [List.length_nil, Nat.zero_add] at h2
    exact h2
  have hr : (joinP n xs)[(lastN (joinP n xs)).toNat]? = some (withP n (foldJ xs).1) := by
    unfold lastN joinP
    rw [Int.toNat_natCast, List.length_append, List.getElem?_append_right (by simp)]
    simp
  have hwk := withP_kids n (foldJ xs).1 hp hl
  rw [occ_inv hr]
  have sub : ∀ (q : Nat) (x : ApiExpr), xs[q]? = some x → ∃ m, (foldJ xs).1[q]? = some m ∧ (Occ (joinP n xs) y m ↔ Occ x.l y (lastN x.l)) := by
    intro q x hq
    obtain ⟨g1, g2⟩ := hx x (List.mem_of_getElem? hq)
    have hpos : 0 < x.l.length := List.length_pos_iff.2 g2
    obtain ⟨off, a, b⟩ := foldJ_get xs ([], []) q x hq
    have hS := occ_sim (sim_sh (O := joinP n xs) g1 (off := off) (fun i m hm => by unfold joinP; exact pre_get (List.prefix_append _ _) (b i m hm))) y
    simp only [List.length_nil, Nat.zero_add] at a
    refine ⟨_, a, ?_⟩
    have hrel : 0 ≤ lastN x.l ∧ lastN x.l < (x.l.length : Int) ∧ (((off + x.l.length : Nat) : Int) - 1) = lastN x.l + (off : Int) := by unfold lastN; omega
    exact ⟨fun h => hS.2 _ h _ hrel, fun h => hS.1 _ h _ hrel⟩
  constructor
  · rintro (h | ⟨q, k, h1, h2, h3⟩)
    · exact .inl h
    · rw [hwk] at h1
      obtain ⟨x, hx2⟩ := getI2 (l := xs) (i := q) (by rw [hk, ← hl]; exact getLt h1)
      obtain ⟨m, m1, m2⟩ := sub q x hx2
      rw [h1] at m1
      obtain rfl := Option.some.inj m1
      exact .inr ⟨q, x, hx2, fun hh => h2 ((hides_with n _ hp hl q y).2 hh), m2.1 h3⟩
  · rintro (h | ⟨q, x, h1, h2, h3⟩)
    · exact .inl h
    · obtain ⟨m, m1, m2⟩ := sub q x h1
      exact .inr ⟨q, m, by rw [hwk]; exact m1, fun hh => h2 ((hides_with n _ hp hl q y).1 hh), m2.2 h3⟩
theorem joinP_len (n : ApiNode) (xs : List ApiExpr) : (joinP n xs).length = (xs.map fun x => x.l.length).sum + 1 := by
  have := foldJ_sum xs ([], [])
  unfold joinP
  rw [List.length_append]
  simp only [List.length_nil, Nat.zero_add] at this
  unfold foldJ
  rw [this]; rfl
end Go.Proofs.Ytnnjgbcojdnhhaa
set_option linter.unusedVariables false
set_option linter.unusedSimpArgs false
set_option maxRecDepth 100000
namespace Go.Proofs.Ytnnjgbcojdnhhaa
open Go.V
open Classical
theorem gdI {l : List Int} {q : Nat} {k : Int} (h : l[q]? = some k) : gd l (q : Int) = k := by
  unfold gd; rw [Int.toNat_natCast, h]; rfl
theorem list_range (l : List Int) : l = (List.range l.length).map fun (q : Nat) => gd l (q : Int) := by
  apply List.ext_getElem?
  intro i
  by_cases hi : i < l.length
  · obtain ⟨k, hk⟩ := getI2 hi
    rw [List.getElem?_map, List.getElem?_range hi, hk, Option.map_some, gdI hk]
  · rw [List.getElem?_eq_none (by omega), List.getElem?_eq_none (by simp; omega)]
theorem sum_mono {α : Type} (f g : α → Nat) (c : Nat) : ∀ l : List α, (∀ x ∈ l, f x ≤ c * g x) → (l.map f).sum ≤ c * (l.map g).sum
  | [], _ => by simp
  | a :: l, h => by
    rw [List.map_cons, List.sum_cons, List.map_cons, List.sum_cons, Nat.mul_add]
    have := sum_mono f g c l (fun x hx => h x (List.mem_cons_of_mem _ hx))
    have := h a (List.mem_cons_self ..)
    omega
theorem hides_eq (n : ApiNode) (hp : noParts n) (q : Nat) (hq : q < (kidsP n).length) (hN : NB n) (x : List UInt8) : m_subst_hides n (q : Int) x = some (decide (hidesP n q x)) := by
  unfold NB at hN
  unfold m_subst_hides
  by_cases k5 : n.kind = 5
  · have : hidesP n q x ↔ n.name = x := by
      unfold hidesP
      exact ⟨fun h => by rcases h with ⟨_, h⟩ | ⟨h, _⟩ | ⟨h, _⟩ <;> first | exact h | omega, fun h => .inl ⟨.inl k5, h⟩⟩
    rw [decide_eq_true k5, cond_true, Option.bind_some, cond_true]
    congr 1
    rw [decide_eq_decide]; exact this.symm
  rw [decide_eq_false k5, cond_false, Option.bind_some]
  by_cases k8 : n.kind = 8
  · have : hidesP n q x ↔ n.name = x := by
      unfold hidesP
      exact ⟨fun h => by rcases h with ⟨_, h⟩ | ⟨h, _⟩ | ⟨h, _⟩ <;> first | exact h | omega, fun h => .inl ⟨.inr k8, h⟩⟩
    rw [decide_eq_true k8, cond_true]
    congr 1
    rw [decide_eq_decide]; exact this.symm
  rw [decide_eq_false k8, cond_false]
  by_cases k7 : n.kind = 7
  · have : hidesP n q x ↔ (n.name = x ∧ (q : Int) = 1) := by
      unfold hidesP
      constructor
      · rintro (⟨h, _⟩ | ⟨_, h1, h2⟩ | ⟨h, _⟩)
        · omega
        · exact ⟨h1, by omega⟩
        · omega
      · rintro ⟨h1, h2⟩; exact .inr (.inl ⟨k7, h1, by omega⟩)
    rw [decide_eq_true k7, cond_true]
    congr 1
    rw [Bool.eq_iff_iff, Bool.and_eq_true, decide_eq_true_eq, decide_eq_true_eq, decide_eq_true_eq]; exact this.symm
  rw [decide_eq_false k7, cond_false]
  by_cases k14 : n.kind = 14
  · rw [decide_eq_true k14, cond_true]
    have hkl := kidsP_len n hp
    have ha : abcN n.kind = 1 := by rw [k14]; rfl
    by_cases h0 : 0 < q
    · obtain ⟨f, hf⟩ := getI2 (l := n.l) (i := q - 1) (by omega)
      have : hidesP n q x ↔ f.var = x := by
        unfold hidesP
        constructor
        · rintro (⟨h, _⟩ | ⟨h, _⟩ | ⟨_, g, _, h2, h3⟩)
          · omega
          · omega
          · rw [hf] at h2; rw [Option.some.inj h2]; exact h3
        · intro h; exact .inr (.inr ⟨k14, f, h0, hf, h⟩)
      rw [decide_eq_true (show (0 : Int) < (q : Int) by omega), cond_true, grd_pos (by omega), show ((q : Int) - 1) = ((q - 1 : Nat) : Int) by omega, getI hf, Option.bind_some, Option.bind_some]
      congr 1
      rw [decide_eq_decide]; exact this.symm
    · have : ¬ hidesP n q x := by
        unfold hidesP
        rintro (⟨h, _⟩ | ⟨h, _⟩ | ⟨_, g, h, _⟩) <;> omega
      rw [decide_eq_false (show ¬ (0 : Int) < (q : Int) by omega), cond_false, Option.bind_some, decide_eq_false this]
  · have : ¬ hidesP n q x := by
      unfold hidesP
      rintro (⟨h, _⟩ | ⟨h, _⟩ | ⟨h, _⟩) <;> omega
    rw [decide_eq_false k14, cond_false, decide_eq_false this]
theorem rhides_eq (n : ApiNode) (hp : noParts n) (q : Nat) (hq : q < (kidsP n).length) (hN : NB n) (x : List UInt8) : (bif ((decide (n.kind = 14)) && (decide (0 < (q : Int)))) then
        grd (InR ((q : Int) - 1)) <|
        (idx n.l ((q : Int) - 1)).bind fun x5 =>
        some (decide ((x5.var : List UInt8) = x))
      else
        some ((decide ((n.name : List UInt8) = x)) && (((decide (n.kind = 5)) || (decide (n.kind = 8))) || ((decide (n.kind = 7)) && (decide ((q : Int) = 1))))) : Option Bool) = some (decide (hidesP n q x)) := by
  unfold NB at hN
  by_cases k14 : n.kind = 14
  · have hkl := kidsP_len n hp
    have ha : abcN n.kind = 1 := by rw [k14]; rfl
    by_cases h0 : 0 < q
    · obtain ⟨f, hf⟩ := getI2 (l := n.l) (i := q - 1) (by omega)
      have : hidesP n q x ↔ f.var = x := by
        unfold hidesP
        constructor
        · rintro (⟨h, _⟩ | ⟨h, _⟩ | ⟨_, g, _, h2, h3⟩)
          · omega
          · omega
          · rw [hf] at h2; rw [Option.some.inj h2]; exact h3
        · intro h; exact .inr (.inr ⟨k14, f, h0, hf, h⟩)
      rw [decide_eq_true k14, decide_eq_true (show (0 : Int) < (q : Int) by omega), Bool.and_self, cond_true, grd_pos (by omega), show ((q : Int) - 1) = ((q - 1 : Nat) : Int) by omega, getI hf, Option.bind_some]
      congr 1
      rw [decide_eq_decide]; exact this.symm
    · have : ¬ hidesP n q x := by
        unfold hidesP
        rintro (⟨h, _⟩ | ⟨h, _⟩ | ⟨_, g, h, _⟩) <;> omega
      rw [decide_eq_false (show ¬ (0 : Int) < (q : Int) by omega), Bool.and_false, cond_false, decide_eq_false this, decide_eq_false (show ¬ n.kind = 5 by omega), decide_eq_false (show ¬ n.kind = 8 by omega), decide_eq_false (show ¬ n.kind = 7 by omega), Bool.false_and, Bool.or_self, Bool.or_self, Bool.and_false]
  · rw [decide_eq_false k14, Bool.false_and, cond_false]
    congr 1
    rw [Bool.eq_iff_iff]
    simp only [Bool.and_eq_true, Bool.or_eq_true, decide_eq_true_eq]
    unfold hidesP
    constructor
    · rintro ⟨h1, (h | h) | ⟨h, h2⟩⟩
      · exact .inl ⟨.inl h, h1⟩
      · exact .inl ⟨.inr h, h1⟩
      · exact .inr (.inl ⟨h, h1, by omega⟩)
    · rintro (⟨h | h, h1⟩ | ⟨h, h1, h2⟩ | ⟨h, _⟩)
      · exact ⟨h1, .inl (.inl h)⟩
      · exact ⟨h1, .inl (.inr h)⟩
      · exact ⟨h1, .inr ⟨h, by omega⟩⟩
      · exact absurd h k14
theorem subT_3 (e : ApiExpr) (i : Int) (h : mayT e.l = 0) : (subT e i) = if i < 0 ∨ (e.l.length : Int) ≤ i then (⟨[]⟩, 3) else (⟨copyP e.l i []⟩, 0) := by
  unfold subT; rw [if_pos h]
theorem ssub_eq (e : ApiExpr) (h : Sc e.l) (hm : mayT e.l = 0) {k : Int} (h0 : 0 ≤ k) (h1 : k < (e.l.length : Int)) : m_subst_sub e k = some ⟨copyP e.l k []⟩ := by
  have hl := h.len
  unfold m_subst_sub
  rw [tsub_eq e k hl h.nb, subT_3 e k hm, if_neg (by omega), Option.bind_some]
structure PR (L : List ApiNode) (x : List UInt8) (i : Nat) (R : List ApiNode) : Prop where
  gt : GT R
  ne : R ≠ []
  len : R.length ≤ 600 * (post L (i : Int)).length
  occ : ¬ Occ R x (lastN R)
  same : ¬ Occ L x (i : Int) → R = copyP L (i : Int) []
theorem put_eq (e : ApiExpr) (h : Sc e.l) (ht : TreeOk e) (hm : mayT e.l = 0) (x : List UInt8) (v : ApiExpr) (w : List ApiNode) (hv : m_syntagmaref05_Norm v = some ⟨w⟩) (gw : GT w) (w0 : w ≠ []) (wl : w.length ≤ 600) (wo : ¬ Occ w x (lastN w)) :
    ∀ (f i : Nat), i < f → i < e.l.length → ∃ R, m_subst_put_1 e x ⟨w⟩ f (i : Int) = some ⟨R⟩ ∧ m_syntagmaref09_put f e (i : Int) x v = some ⟨R⟩ ∧ PR e.l x i R
  | 0, i, hf, _ => by omega
  | f + 1, i, hf, hi => by
    obtain ⟨n, hn⟩ := getI2 hi
    have hI := ok_inLs h.ok
    have hNn := h.nb n (List.mem_of_getElem? hn)
    have hkl := kids_len n hNn
    have hp := noParts_of (h.ok i n hn).1
    have hL := h.len
    have hpost := post_rec hI hn
    show ∃ R, m_subst_put_1F (m_subst_put_1 e x ⟨w⟩ f) (i : Int) e x ⟨w⟩ = some ⟨R⟩ ∧ m_syntagmaref09_putF (m_syntagmaref09_put f) e (i : Int) x v = some ⟨R⟩ ∧ _
    unfold m_subst_put_1F m_syntagmaref09_putF
    rw [getI hn, Option.bind_some, Option.bind_some]
    by_cases h4 : n.kind = 4 ∧ n.name = x
    · rw [decide_eq_true h4.1, decide_eq_true h4.2, Bool.and_self, cond_true, cond_true, hv, Option.bind_some]
      refine ⟨w, rfl, rfl, gw, w0, ?_, wo, fun ho => absurd (Occ.var (i := (i : Int)) (by rw [Int.toNat_natCast]; exact hn) h4.1 h4.2) ho⟩
      rw [hpost, kids4 h4.1 hp]; simp; omega
    · rw [show (decide (n.kind = 4) && decide (n.name = x)) = false by
        rw [Bool.eq_false_iff]; intro hh; rw [Bool.and_eq_true, decide_eq_true_eq, decide_eq_true_eq] at hh; exact h4 hh, cond_false, cond_false]
      rw [show m_tree_Kids (⟨n.kind, n.a, n.b, n.c, n.n_, n.name, n.s, n.l, n.pos⟩ : ApiNode) = some (kidsP n) from kids_eq n hNn, Option.bind_some, show m_syntagmaref05_Kids (⟨n.kind, n.a, n.b, n.c, n.n_, n.name, n.s, n.l, n.pos⟩ : ApiNode) = some (kidsP n) from rkids_eq n hNn, Option.bind_some]
      have ih : ∀ k : Int, ∃ R, k ∈ kidsP n → ∃ m : Nat, k = (m : Int) ∧ m < i ∧ m_subst_put_1 e x ⟨w⟩ f k = some ⟨R⟩ ∧ m_syntagmaref09_put f e k x v = some ⟨R⟩ ∧ PR e.l x m R := by
        intro k
        by_cases hk : k ∈ kidsP n
        · have hq := hI i n hn k hk
          obtain ⟨m, rfl⟩ : ∃ m : Nat, k = (m : Int) := ⟨k.toNat, by omega⟩
          obtain ⟨R, a, b, c⟩ := put_eq e h ht hm x v w hv gw w0 wl wo f m (by omega) (by omega)
          exact ⟨R, fun _ => ⟨m, rfl, by omega, a, b, c⟩⟩
        · exact ⟨[], fun hh => absurd hh hk⟩
      let g : Int → List ApiNode := fun k => Classical.choose (ih k)
      have hg : ∀ k ∈ kidsP n, ∃ m : Nat, k = (m : Int) ∧ m < i ∧ m_subst_put_1 e x ⟨w⟩ f k = some ⟨g k⟩ ∧ m_syntagmaref09_put f e k x v = some ⟨g k⟩ ∧ PR e.l x m (g k) := fun k hk => Classical.choose_spec (ih k) hk
      let fx : Nat → ApiExpr := fun q => ⟨if hidesP n q x then copyP e.l (gd (kidsP n) (q : Int)) [] else g (gd (kidsP n) (q : Int))⟩
      have hsub : ∀ k ∈ kidsP n, m_syntagmaref05_Sub e k = some ⟨copyP e.l k []⟩ := by
        intro k hk
        have := hI i n hn k hk
        obtain ⟨m, rfl⟩ : ∃ m : Nat, k = (m : Int) := ⟨k.toNat, by omega⟩
        exact rsub_eq ht m (by omega)
      have hssub : ∀ k ∈ kidsP n, m_subst_sub e k = some ⟨copyP e.l k []⟩ := fun k hk => by
        have := hI i n hn k hk
        exact ssub_eq e h hm (by omega) (by omega)
      have loop1 : m_subst_put_1_l1 (m_subst_put_1 e x ⟨w⟩ f) e x n (kidsP n) FU (0, []) = some ((List.range (kidsP n).length).map fx) := by
        obtain ⟨o, h1, h2⟩ := loop_rng (φ := fun m q s => m_subst_put_1_l1 (m_subst_put_1 e x ⟨w⟩ f) e x n (kidsP n) m (q, s)) (l := kidsP n) (fun q s => s = (List.range q).map fx) (fun o => o = (List.range (kidsP n).length).map fx) (by
          rintro m q k s hk hq rfl
          have hkm := List.mem_of_getElem? hk
          obtain ⟨a, _, _, g1, _, _⟩ := hg k hkm
          have hsl : ((List.range q).map fx).length = q := by simp
          simp only [m_subst_put_1_l1]
          rw [decide_eq_true (show (q : Int) < ((kidsP n).length : Int) by omega), cond_true, getI hk, Option.bind_some, show m_subst_hides (⟨n.kind, n.a, n.b, n.c, n.n_, n.name, n.s, n.l, n.pos⟩ : ApiNode) (q : Int) x = _ from hides_eq n hp q hq hNn x, Option.bind_some]
          by_cases hh : hidesP n q x
          · rw [decide_eq_true hh, cond_true, hssub k hkm, Option.bind_some, grd_pos (by rw [hsl]; simp only [List.length_cons, List.length_nil]; omega), grd_pos (by omega)]
            refine .inl ⟨_, rfl, ?_⟩
            rw [List.range_succ, List.map_append]
            simp only [List.map_cons, List.map_nil, fx]
            rw [if_pos hh, gdI hk]
          · rw [decide_eq_false hh, cond_false, g1, Option.bind_some, grd_pos (by rw [hsl]; simp only [List.length_cons, List.length_nil]; omega), grd_pos (by omega)]
            refine .inl ⟨_, rfl, ?_⟩
            rw [List.range_succ, List.map_append]
            simp only [List.map_cons, List.map_nil, fx]
            rw [if_neg hh, gdI hk]) (by
          rintro m s rfl
          simp only [m_subst_put_1_l1]
          rw [decide_eq_false (by omega), cond_false]
          exact ⟨_, rfl, rfl⟩) (by rw [FUv]; omega) [] rfl
        rw [h1, h2]
      have loop2 : m_syntagmaref09_put_l1 (m_syntagmaref09_put f) e x v n (kidsP n) FU (0, []) = some ((List.range (kidsP n).length).map fx) := by
        obtain ⟨o, h1, h2⟩ := loop_rng (φ := fun m q s => m_syntagmaref09_put_l1 (m_syntagmaref09_put f) e x v n (kidsP n) m (q, s)) (l := kidsP n) (fun q s => s = (List.range q).map fx) (fun o => o = (List.range (kidsP n).length).map fx) (by
          rintro m q k s hk hq rfl
          have hkm := List.mem_of_getElem? hk
          obtain ⟨a, _, _, _, g1, _⟩ := hg k hkm
          have hsl : ((List.range q).map fx).length = q := by simp
          simp only [m_syntagmaref09_put_l1]
          rw [decide_eq_true (show (q : Int) < ((kidsP n).length : Int) by omega), cond_true, rhides_eq n hp q hq hNn x, Option.bind_some, getI hk, Option.bind_some, Option.bind_some]
          by_cases hh : hidesP n q x
          · rw [decide_eq_true hh, cond_true, hsub k hkm, Option.bind_some, grd_pos (by rw [hsl]; simp only [List.length_cons, List.length_nil]; omega), grd_pos (by omega)]
            refine .inl ⟨_, rfl, ?_⟩
            rw [List.range_succ, List.map_append]
            simp only [List.map_cons, List.map_nil, fx]
            rw [if_pos hh, gdI hk]
          · rw [decide_eq_false hh, cond_false, g1, Option.bind_some, grd_pos (by rw [hsl]; simp only [List.length_cons, List.length_nil]; omega), grd_pos (by omega)]
            refine .inl ⟨_, rfl, ?_⟩
            rw [List.range_succ, List.map_append]
            simp only [List.map_cons, List.map_nil, fx]
            rw [if_neg hh, gdI hk]) (by
          rintro m s rfl
          simp only [m_syntagmaref09_put_l1]
          rw [decide_eq_false (by omega), cond_false]
          exact ⟨_, rfl, rfl⟩) (by rw [FUv]; omega) [] rfl
        rw [h1, h2]
      rw [loop1, loop2, Option.bind_some, Option.bind_some]
      have hxl : ((List.range (kidsP n).length).map fx).length = (kidsP n).length := by simp
      have hfx : ∀ q, q < (kidsP n).length → GT (fx q).l ∧ (fx q).l ≠ [] ∧ (fx q).l.length ≤ 600 * (post e.l (gd (kidsP n) (q : Int))).length ∧ (¬ hidesP n q x → ¬ Occ (fx q).l x (lastN (fx q).l)) ∧ (¬ Occ e.l x (i : Int) → (fx q).l = copyP e.l (gd (kidsP n) (q : Int)) []) := by
        intro q hq
        obtain ⟨k, hk⟩ := getI2 hq
        have hkm := List.mem_of_getElem? hk
        rw [gdI hk]
        obtain ⟨m, rfl, hmi, _, _, pr⟩ := hg k hkm
        show GT (if hidesP n q x then copyP e.l (gd (kidsP n) (q : Int)) [] else g (gd (kidsP n) (q : Int))) ∧ _
        simp only [fx]
        rw [gdI hk]
        by_cases hh : hidesP n q x
        · rw [if_pos hh]
          have hc := copy_len hI _ _ (Nat.lt_succ_self m) (by omega) []
          have hmore := copy_more hI (show m < e.l.length by omega) []
          simp only [List.length_nil, Nat.zero_add] at hc hmore
          exact ⟨gt_copy h (by omega), List.length_pos_iff.1 (by omega), by omega, fun hq2 => absurd hh hq2, fun _ => rfl⟩
        · rw [if_neg hh]
          exact ⟨pr.gt, pr.ne, pr.len, fun _ => pr.occ, fun ho => pr.same fun hk2 => ho (.kid (i := (i : Int)) (by rw [Int.toNat_natCast]; exact hn) hk hh hk2)⟩
      have hxs : ∀ y ∈ (List.range (kidsP n).length).map fx, GT y.l ∧ y.l ≠ [] := by
        intro y hy
        obtain ⟨q, hq, rfl⟩ := List.mem_map.1 hy
        exact ⟨(hfx q (List.mem_range.1 hq)).1, (hfx q (List.mem_range.1 hq)).2.1⟩
      have hps : ((kidsP n).flatMap (post e.l)).length = ((List.range (kidsP n).length).map fun (q : Nat) => (post e.l (gd (kidsP n) (q : Int))).length).sum := by
        rw [List.length_flatMap]
        conv => lhs; rw [list_range (kidsP n)]
        rw [List.map_map]; rfl
      have hlen : (joinP n ((List.range (kidsP n).length).map fx)).length ≤ 600 * (post e.l (i : Int)).length := by
        rw [joinP_len, List.map_map, hpost, List.length_append, hps]
        have := sum_mono (fun q => (fx q).l.length) (fun (q : Nat) => (post e.l (gd (kidsP n) (q : Int))).length) 600 (List.range (kidsP n).length) (fun q hq => (hfx q (List.mem_range.1 hq)).2.2.1)
        have e1 : ((fun x : ApiExpr => x.l.length) ∘ fx) = fun q => (fx q).l.length := rfl
        rw [e1]
        simp only [List.length_cons, List.length_nil]
        omega
      have hpl := post_len hI h.one i hi
      have htok : ∀ y ∈ (List.range (kidsP n).length).map fx, TOk y := by
        intro y hy
        obtain ⟨q, hq, rfl⟩ := List.mem_map.1 hy
        obtain ⟨a, _, b, _⟩ := hfx q (List.mem_range.1 hq)
        obtain ⟨k, hk⟩ := getI2 (List.mem_range.1 hq)
        have hkk := hI i n hn k (List.mem_of_getElem? hk)
        rw [gdI hk] at b
        obtain ⟨m, rfl⟩ : ∃ m : Nat, k = (m : Int) := ⟨k.toNat, by omega⟩
        have := post_len hI h.one m (by omega)
        exact gt_tok (L := (fx q).l) a (by omega)
      have j1 := joinG n _ hNn hxl htok
      have j2 := rjoinG n _ hNn hxl htok
      refine ⟨joinP n ((List.range (kidsP n).length).map fx), ?_, ?_, joinP_gt hNn hp hxl hxs, by unfold joinP; simp, hlen, ?_, ?_⟩
      · rw [show m_tree_Join (⟨n.kind, n.a, n.b, n.c, n.n_, n.name, n.s, n.l, n.pos⟩ : ApiNode) _ = _ from j1, Option.bind_some]; rfl
      · rw [show m_syntagmaref05_Join (⟨n.kind, n.a, n.b, n.c, n.n_, n.name, n.s, n.l, n.pos⟩ : ApiNode) _ = _ from j2, Option.bind_some]; rfl
      · rw [joinP_occ hp hxl hxs]
        rintro (hh | ⟨q, y, h1, h2, h3⟩)
        · exact h4 hh
        · rw [List.getElem?_map, Option.map_eq_some_iff] at h1
          obtain ⟨q2, hq2, rfl⟩ := h1
          have hql : q < (kidsP n).length := by
            have := getLt hq2
            simpa using this
          rw [List.getElem?_range hql] at hq2
          obtain rfl := Option.some.inj hq2
          exact (hfx q hql).2.2.2.1 h2 h3
      · intro ho
        have hs : (List.range (kidsP n).length).map fx = subL e (kidsP n) := by
          unfold subL
          conv => rhs; rw [list_range (kidsP n)]
          rw [List.map_map]
          refine List.map_congr_left fun q hq => ?_
          have := (hfx q (List.mem_range.1 hq)).2.2.2.2 ho
          show fx q = ⟨copyP e.l (gd (kidsP n) (q : Int)) []⟩
          rw [← this]
        have jt := joinT ht hn
        rw [← hs, j1] at jt
        exact congrArg ApiExpr.l (Option.some.inj jt)
end Go.Proofs.Ytnnjgbcojdnhhaa
set_option linter.unusedVariables false
set_option linter.unusedSimpArgs false
set_option maxRecDepth 100000
namespace Go.Proofs.Ytnnjgbcojdnhhaa
open Go.V
open Classical
theorem same09 (L : List ApiNode) (hl : L.length ≤ 1000000) (hN : ∀ n ∈ L, NB n) : m_syntagmalaw09_same ⟨L⟩ ⟨L⟩ = some true := by
  unfold m_syntagmalaw09_same
  rw [sameList_eqB ⟨L⟩ ⟨L⟩ hl hN, Option.bind_some, decide_eq_true (sameL_refl _), Bool.not_true, cond_false]
  obtain ⟨o, h1, h2⟩ := loop_rng (φ := fun n i (_ : Unit) => m_syntagmalaw09_same_l1 ⟨L⟩ ⟨L⟩ n i) (l := L) (fun i _ => True) (fun o => o = .go ()) (by
    rintro m i n s hn hi -
    simp only [m_syntagmalaw09_same_l1]
    rw [decide_eq_true (show (i : Int) < (L.length : Int) by omega), cond_true, getI hn, Option.bind_some, Option.bind_some, decide_eq_true rfl, Bool.not_true, cond_false, grd_pos (by omega)]
    exact .inl ⟨(), rfl, trivial⟩) (by
    rintro m s -
    simp only [m_syntagmalaw09_same_l1]
    rw [decide_eq_false (by omega), cond_false]
    exact ⟨_, rfl, rfl⟩) (by rw [FUv]; omega) () trivial
  rw [h1, h2]; rfl
theorem works09 : m_syntagmalaw09_works = some true := by decide +kernel
theorem containsF_eq (l : List ApiField) (hl : l.length ≤ 1000) (p : ApiField → Option Bool) (g : ApiField → Bool) (hp : ∀ f ∈ l, p f = some (g f)) : m_slices_ContainsFunc_api_Field_api_Field l p = some (decide (∃ f ∈ l, g f = true)) := by
  unfold m_slices_ContainsFunc_api_Field_api_Field m_slices_IndexFunc_api_Field_api_Field
  rw [loop_first (l := l) (p := g) (ret := id) (φ := m_slices_IndexFunc_api_Field_api_Field_l1 l p) (by rw [FUv]; omega) (by
    intro n i f hf hi
    simp only [m_slices_IndexFunc_api_Field_api_Field_l1]
    rw [decide_eq_true (show (i : Int) < (l.length : Int) by omega), cond_true, getI hf, Option.bind_some, hp f (List.mem_of_getElem? hf), Option.bind_some]
    cases g f
    · rw [cond_false, if_neg (by decide), grd_pos (by omega)]
    · rw [cond_true, if_pos rfl]; rfl) (by
    intro n
    simp only [m_slices_IndexFunc_api_Field_api_Field_l1]
    rw [decide_eq_false (by omega), cond_false]), Option.bind_some]
  cases hf : l.findIdx? g with
  | none =>
    have : ¬ ∃ f ∈ l, g f = true := by
      rintro ⟨f, hm, h⟩
      have := List.findIdx?_eq_none_iff.1 hf f hm
      rw [h] at this; cases this
    rw [decide_eq_false this]; rfl
  | some i =>
    obtain ⟨hi, h1, _⟩ := List.findIdx?_eq_some_iff_getElem.1 hf
    have : ∃ f ∈ l, g f = true := ⟨l[i], List.getElem_mem hi, h1⟩
    rw [decide_eq_true this]
    show some (decide (0 ≤ (i : Int))) = some true
    rw [decide_eq_true (by omega)]
theorem value_eq (e : ApiExpr) (h : Sc e.l) : ∀ (f i : Nat), i < f → i < e.l.length → ∃ b, m_subst_value f e (i : Int) = some b ∧ m_syntagmaref09_Value f e (i : Int) = some b
  | 0, i, hf, _ => by omega
  | f + 1, i, hf, hi => by
    obtain ⟨n, hn⟩ := getI2 hi
    have hI := ok_inLs h.ok
    have hNn := h.nb n (List.mem_of_getElem? hn)
    have ih : ∀ k ∈ kidsP n, ∃ b, m_subst_value f e k = some b ∧ m_syntagmaref09_Value f e k = some b := by
      intro k hk
      have hq := hI i n hn k hk
      obtain ⟨m, rfl⟩ : ∃ m : Nat, k = (m : Int) := ⟨k.toNat, by omega⟩
      exact value_eq e h f m (by omega) (by omega)
    show ∃ b, m_subst_valueF (m_subst_value f) e (i : Int) = some b ∧ m_syntagmaref09_ValueF (m_syntagmaref09_Value f) e (i : Int) = some b
    unfold m_subst_valueF m_syntagmaref09_ValueF
    rw [getI hn, Option.bind_some, Option.bind_some]
    have e1 : (bif (decide (n.kind = 1)) then some (decide (n.kind = 1)) else bif (decide (n.kind = 2)) then some (decide (n.kind = 2)) else bif (decide (n.kind = 3)) then some (decide (n.kind = 3)) else some (decide (n.kind = 5)) : Option Bool) = some (((decide (n.kind = 1) || decide (n.kind = 2)) || decide (n.kind = 3)) || decide (n.kind = 5)) := by
      cases decide (n.kind = 1) <;> cases decide (n.kind = 2) <;> cases decide (n.kind = 3) <;> rfl
    rw [e1, Option.bind_some]
    by_cases k11 : n.kind = 11
    · have hk : kidsP n = n.l.map (·.at_) := by unfold kidsP abcN partsB; rw [k11]; rfl
      rw [hk] at ih
      have ih2 : ∀ fl : ApiField, ∃ b, fl ∈ n.l → m_subst_value f e fl.at_ = some b ∧ m_syntagmaref09_Value f e fl.at_ = some b := by
        intro fl
        by_cases hm : fl ∈ n.l
        · obtain ⟨b, a1, a2⟩ := ih fl.at_ (List.mem_map.2 ⟨fl, hm, rfl⟩)
          exact ⟨b, fun _ => ⟨a1, a2⟩⟩
        · exact ⟨true, fun q => absurd q hm⟩
      let g : ApiField → Bool := fun fl => Classical.choose (ih2 fl)
      have hg : ∀ fl ∈ n.l, m_subst_value f e fl.at_ = some (g fl) ∧ m_syntagmaref09_Value f e fl.at_ = some (g fl) := fun fl hm => Classical.choose_spec (ih2 fl) hm
      unfold NB at hNn
      rw [decide_eq_false (show ¬ n.kind = 1 by omega), decide_eq_false (show ¬ n.kind = 2 by omega), decide_eq_false (show ¬ n.kind = 3 by omega), decide_eq_false (show ¬ n.kind = 5 by omega), Bool.or_self, Bool.or_self, Bool.or_self, cond_false, decide_eq_true k11, cond_true, cond_true]
      rw [containsF_eq n.l (by omega) _ (fun fl => !g fl) (fun fl hm => by unfold m_subst_value_1; rw [(hg fl hm).1]; rfl), Option.bind_some]
      refine ⟨_, rfl, ?_⟩
      refine bnd (loop_all (φ := m_syntagmaref09_Value_l1 (m_syntagmaref09_Value f) e n) (l := n.l) false (fun _ fl => g fl = true) ?_ ?_ (by rw [FUv]; omega)) ?_
      · intro m q fl hq hq2
        simp only [m_syntagmaref09_Value_l1]
        rw [decide_eq_true (show (q : Int) < (n.l.length : Int) by omega), cond_true, getI hq, Option.bind_some, (hg fl (List.mem_of_getElem? hq)).2, Option.bind_some]
        cases g fl
        · exact ⟨fun hh => (by cases hh), fun _ => rfl⟩
        · exact ⟨fun _ => by rw [Bool.not_true, cond_false, grd_pos (by omega)], fun hh => absurd rfl hh⟩
      · intro m
        simp only [m_syntagmaref09_Value_l1]
        rw [decide_eq_false (by omega), cond_false]
      · by_cases ha : ∃ fl ∈ n.l, (!g fl) = true
        · rw [decide_eq_true ha, if_neg]
          · rfl
          · intro hall
            obtain ⟨fl, hm, hf0⟩ := ha
            obtain ⟨q, hq, hx⟩ := List.getElem_of_mem hm
            have := hall q fl (by rw [← hx]; exact List.getElem?_eq_getElem hq)
            rw [this] at hf0; cases hf0
        · rw [decide_eq_false ha, if_pos]
          · rfl
          · intro q fl hq
            refine Classical.byContradiction fun hf0 => ha ⟨fl, List.mem_of_getElem? hq, ?_⟩
            rw [Bool.not_eq_true] at hf0
            rw [hf0]; rfl
    · rw [decide_eq_false k11, cond_false, cond_false]
      cases hv : (((decide (n.kind = 1) || decide (n.kind = 2)) || decide (n.kind = 3)) || decide (n.kind = 5)) with
      | true => exact ⟨true, rfl, rfl⟩
      | false =>
        rw [cond_false, cond_false]
        by_cases k13 : n.kind = 13
        · have hk : kidsP n = [n.a] ++ [] := by unfold kidsP abcN partsB; rw [k13]; rfl
          obtain ⟨b, a1, a2⟩ := ih n.a (by rw [hk]; simp)
          rw [decide_eq_true k13, cond_true, cond_true, a1, a2]
          exact ⟨b, rfl, rfl⟩
        · rw [decide_eq_false k13, cond_false, cond_false]
          exact ⟨false, rfl, rfl⟩
theorem sunfold (e : ApiExpr) (hl : e.l.length ≤ 700) (hN : ∀ n ∈ e.l, NB n) : ∃ r : ApiExpr × Int, m_subst_Unfold e = some r ∧ m_syntagmaref09_Unfold e = some r ∧ (∀ n ∈ r.1.l, NB n) ∧ r.1.l.length ≤ 1000000 := by
  unfold m_subst_Unfold m_syntagmaref09_Unfold
  rw [may_eq e (by omega) hN, Option.bind_some, rmay_eq e (by omega) hN, Option.bind_some]
  by_cases h1 : mayT e.l = 0
  rotate_left
  · rw [decide_eq_false h1, Bool.not_false, cond_true, cond_true]
    exact ⟨_, rfl, rfl, by simp, by simp⟩
  have hS := sc_of hl hN h1
  obtain ⟨ht, h0⟩ := mayT_tree hl hN h1
  have hI := ok_inLs hS.ok
  obtain ⟨n, hn⟩ := getI2 (l := e.l) (i := e.l.length - 1) (by omega)
  rw [decide_eq_true h1, Bool.not_true, cond_false, cond_false, grd_pos (by omega), grd_pos (by omega), show ((e.l.length : Int) - 1) = ((e.l.length - 1 : Nat) : Int) by omega, getI hn, Option.bind_some, Option.bind_some]
  by_cases k8 : n.kind = 8
  rotate_left
  · rw [decide_eq_false k8, Bool.not_false, cond_true, cond_true]
    exact ⟨_, rfl, rfl, by simp, by simp⟩
  have hk := kids8 k8
  have ha := hI _ n hn n.a (by rw [hk]; simp)
  obtain ⟨m, hm, hm5⟩ := (hS.ok _ n hn).2.2 k8
  obtain ⟨a, ea⟩ : ∃ a : Nat, n.a = (a : Int) := ⟨n.a.toNat, by omega⟩
  rw [ea] at ha hm
  rw [Int.toNat_natCast] at hm
  have hma := getLt hm
  have hkm := kids5 hm5
  have hb := hI a m hm m.a (by rw [hkm]; simp)
  obtain ⟨b, eb⟩ : ∃ b : Nat, m.a = (b : Int) := ⟨m.a.toNat, by omega⟩
  rw [eb] at hb
  have ca := ssub_eq e hS h1 (k := (a : Int)) (by omega) (by omega)
  have cb := ssub_eq e hS h1 (k := (b : Int)) (by omega) (by omega)
  have ra := rsub_eq ht a hma
  have rb := rsub_eq ht b (by omega)
  have ga := gt_copy hS hma
  have gb := gt_copy hS (i := b) (by omega)
  have la := copy_len hI _ _ (Nat.lt_succ_self a) hma []
  have lb := copy_len hI _ _ (Nat.lt_succ_self b) (show b < e.l.length by omega) []
  have pa := post_len hI hS.one a hma
  have pb := post_len hI hS.one b (by omega)
  have ma := copy_more hI hma []
  have mb := copy_more hI (show b < e.l.length by omega) []
  simp only [List.length_nil, Nat.zero_add] at la lb ma mb
  unfold m_syntagmaref09_RawUnfold m_subst_made
  rw [decide_eq_true k8, Bool.not_true, cond_false, cond_false, grd_pos (by omega), show ((e.l.length : Int) - 1) = ((e.l.length - 1 : Nat) : Int) by omega, getI hn, Option.bind_some, ea, getI hm, Option.bind_some, Option.bind_some, ca, ra, eb, cb, rb]
  have fin : ∀ R : List ApiNode, GT R → R.length ≤ 1000000 → ∃ r : ApiExpr × Int, ((some (mayT R)).bind fun x1 => bif (!decide (x1 = 0)) then some ((⟨([] : List ApiNode)⟩ : ApiExpr), x1) else some ((⟨R⟩ : ApiExpr), 0)) = some r ∧ (∀ n ∈ r.1.l, NB n) ∧ r.1.l.length ≤ 1000000 := by
    intro R hR hRl
    rw [Option.bind_some]
    by_cases h3 : mayT R = 0
    · rw [decide_eq_true h3, Bool.not_true, cond_false]; exact ⟨_, rfl, gt_nb hR, hRl⟩
    · rw [decide_eq_false h3, Bool.not_false, cond_true]; exact ⟨_, rfl, by simp, by simp⟩
  by_cases hnm : m.name = n.name
  · rw [decide_eq_true hnm, cond_true, cond_true, Option.bind_some, Option.bind_some, Option.bind_some, show m_tree_May (⟨copyP e.l (a : Int) []⟩ : ApiExpr) = some (mayT (copyP e.l (a : Int) [])) from may_any _ (gt_nb ga), show m_syntagmaref05_May (⟨copyP e.l (a : Int) []⟩ : ApiExpr) = some (mayT (copyP e.l (a : Int) [])) from rmay_any _ (gt_nb ga)]
    obtain ⟨r, r1, r2, r3⟩ := fin (copyP e.l (a : Int) []) ga (by omega)
    refine ⟨r, ?_, r1, r2, r3⟩
    rw [r1]; rfl
  · rw [decide_eq_false hnm, cond_false, cond_false, Option.bind_some, Option.bind_some, Option.bind_some, Option.bind_some]
    have nea : copyP e.l (a : Int) [] ≠ [] := List.length_pos_iff.1 (by omega)
    have neb : copyP e.l (b : Int) [] ≠ [] := List.length_pos_iff.1 (by omega)
    have g1 : ∀ y ∈ [(⟨copyP e.l (a : Int) []⟩ : ApiExpr), ⟨copyP e.l (b : Int) []⟩], GT y.l ∧ y.l ≠ [] := by
      intro y hy
      simp only [List.mem_cons, List.not_mem_nil, or_false] at hy
      rcases hy with rfl | rfl
      · exact ⟨ga, nea⟩
      · exact ⟨gb, neb⟩
    have t1 : ∀ y ∈ [(⟨copyP e.l (a : Int) []⟩ : ApiExpr), ⟨copyP e.l (b : Int) []⟩], TOk y := by
      intro y hy
      simp only [List.mem_cons, List.not_mem_nil, or_false] at hy
      rcases hy with rfl | rfl
      · exact gt_tok (L := copyP e.l (a : Int) []) ga (by omega)
      · exact gt_tok (L := copyP e.l (b : Int) []) gb (by omega)
    have N1 : NB (⟨8, 0, 0, 0, 0, n.name, [], [], n.pos⟩ : ApiNode) := by unfold NB; simp
    have p1 : noParts (⟨8, 0, 0, 0, 0, n.name, [], [], n.pos⟩ : ApiNode) := fun _ => rfl
    have gj := joinP_gt N1 p1 (xs := [(⟨copyP e.l (a : Int) []⟩ : ApiExpr), ⟨copyP e.l (b : Int) []⟩]) rfl g1
    have lj := joinP_len (⟨8, 0, 0, 0, 0, n.name, [], [], n.pos⟩ : ApiNode) [(⟨copyP e.l (a : Int) []⟩ : ApiExpr), ⟨copyP e.l (b : Int) []⟩]
    simp only [List.map_cons, List.map_nil, List.sum_cons, List.sum_nil] at lj
    have i1 : m_tree_Join (⟨8, 0, 0, 0, 0, n.name, [], [], n.pos⟩ : ApiNode) [(⟨copyP e.l (a : Int) []⟩ : ApiExpr), ⟨copyP e.l (b : Int) []⟩] = some ⟨joinP (⟨8, 0, 0, 0, 0, n.name, [], [], n.pos⟩ : ApiNode) [(⟨copyP e.l (a : Int) []⟩ : ApiExpr), ⟨copyP e.l (b : Int) []⟩]⟩ := joinG _ _ N1 rfl t1
    have i2 : m_syntagmaref05_Join (⟨8, 0, 0, 0, 0, n.name, [], [], n.pos⟩ : ApiNode) [(⟨copyP e.l (a : Int) []⟩ : ApiExpr), ⟨copyP e.l (b : Int) []⟩] = some ⟨joinP (⟨8, 0, 0, 0, 0, n.name, [], [], n.pos⟩ : ApiNode) [(⟨copyP e.l (a : Int) []⟩ : ApiExpr), ⟨copyP e.l (b : Int) []⟩]⟩ := rjoinG _ _ N1 rfl t1
    rw [i1, i2, Option.bind_some, Option.bind_some]
    have g2 : ∀ y ∈ [(⟨joinP (⟨8, 0, 0, 0, 0, n.name, [], [], n.pos⟩ : ApiNode) [(⟨copyP e.l (a : Int) []⟩ : ApiExpr), ⟨copyP e.l (b : Int) []⟩]⟩ : ApiExpr)], GT y.l ∧ y.l ≠ [] := by
      intro y hy
      obtain rfl := List.mem_singleton.1 hy
      exact ⟨gj, by unfold joinP; simp⟩
    have t2 : ∀ y ∈ [(⟨joinP (⟨8, 0, 0, 0, 0, n.name, [], [], n.pos⟩ : ApiNode) [(⟨copyP e.l (a : Int) []⟩ : ApiExpr), ⟨copyP e.l (b : Int) []⟩]⟩ : ApiExpr)], TOk y := by
      intro y hy
      obtain rfl := List.mem_singleton.1 hy
      exact gt_tok (L := joinP (⟨8, 0, 0, 0, 0, n.name, [], [], n.pos⟩ : ApiNode) [(⟨copyP e.l (a : Int) []⟩ : ApiExpr), ⟨copyP e.l (b : Int) []⟩]) gj (by omega)
    have N2 : NB (⟨5, 0, 0, 0, 0, m.name, [], [], m.pos⟩ : ApiNode) := by unfold NB; simp
    have p2 : noParts (⟨5, 0, 0, 0, 0, m.name, [], [], m.pos⟩ : ApiNode) := fun _ => rfl
    have gj2 := joinP_gt N2 p2 rfl g2
    have lj2 := joinP_len (⟨5, 0, 0, 0, 0, m.name, [], [], m.pos⟩ : ApiNode) [(⟨joinP (⟨8, 0, 0, 0, 0, n.name, [], [], n.pos⟩ : ApiNode) [(⟨copyP e.l (a : Int) []⟩ : ApiExpr), ⟨copyP e.l (b : Int) []⟩]⟩ : ApiExpr)]
    simp only [List.map_cons, List.map_nil, List.sum_cons, List.sum_nil] at lj2
    have j2 : m_tree_Join (⟨5, 0, 0, 0, 0, m.name, [], [], m.pos⟩ : ApiNode) [(⟨joinP (⟨8, 0, 0, 0, 0, n.name, [], [], n.pos⟩ : ApiNode) [(⟨copyP e.l (a : Int) []⟩ : ApiExpr), ⟨copyP e.l (b : Int) []⟩]⟩ : ApiExpr)] = some ⟨joinP (⟨5, 0, 0, 0, 0, m.name, [], [], m.pos⟩ : ApiNode) [(⟨joinP (⟨8, 0, 0, 0, 0, n.name, [], [], n.pos⟩ : ApiNode) [(⟨copyP e.l (a : Int) []⟩ : ApiExpr), ⟨copyP e.l (b : Int) []⟩]⟩ : ApiExpr)]⟩ := joinG _ _ N2 rfl t2
    have j3 : m_syntagmaref05_Join (⟨5, 0, 0, 0, 0, m.name, [], [], m.pos⟩ : ApiNode) [(⟨joinP (⟨8, 0, 0, 0, 0, n.name, [], [], n.pos⟩ : ApiNode) [(⟨copyP e.l (a : Int) []⟩ : ApiExpr), ⟨copyP e.l (b : Int) []⟩]⟩ : ApiExpr)] = some ⟨joinP (⟨5, 0, 0, 0, 0, m.name, [], [], m.pos⟩ : ApiNode) [(⟨joinP (⟨8, 0, 0, 0, 0, n.name, [], [], n.pos⟩ : ApiNode) [(⟨copyP e.l (a : Int) []⟩ : ApiExpr), ⟨copyP e.l (b : Int) []⟩]⟩ : ApiExpr)]⟩ := rjoinG _ _ N2 rfl t2
    rw [j2, j3, Option.bind_some, Option.bind_some, Option.bind_some]
    obtain ⟨r, r1, r2, r3⟩ := fin _ gj2 (by omega)
    have w1 := may_any ⟨joinP (⟨5, 0, 0, 0, 0, m.name, [], [], m.pos⟩ : ApiNode) [(⟨joinP (⟨8, 0, 0, 0, 0, n.name, [], [], n.pos⟩ : ApiNode) [(⟨copyP e.l (a : Int) []⟩ : ApiExpr), ⟨copyP e.l (b : Int) []⟩]⟩ : ApiExpr)]⟩ (gt_nb gj2)
    have w2 := rmay_any ⟨joinP (⟨5, 0, 0, 0, 0, m.name, [], [], m.pos⟩ : ApiNode) [(⟨joinP (⟨8, 0, 0, 0, 0, n.name, [], [], n.pos⟩ : ApiNode) [(⟨copyP e.l (a : Int) []⟩ : ApiExpr), ⟨copyP e.l (b : Int) []⟩]⟩ : ApiExpr)]⟩ (gt_nb gj2)
    refine ⟨r, ?_, ?_, r2, r3⟩
    · rw [show m_tree_May (⟨_⟩ : ApiExpr) = _ from w1]
      refine Eq.trans ?_ r1
      dsimp only
      generalize mayT (joinP (⟨5, 0, 0, 0, 0, m.name, [], [], m.pos⟩ : ApiNode) _) = mm
      rw [Option.bind_some]
      by_cases h3 : mm = 0
      · rw [decide_eq_true h3]; rfl
      · rw [decide_eq_false h3]; rfl
    · rw [show m_syntagmaref05_May (⟨_⟩ : ApiExpr) = _ from w2]
      exact r1
theorem law_SubstUnfolds (e : ApiExpr) : m_syntagmalaw09_SubstUnfolds e = some true := by
  unfold m_syntagmalaw09_SubstUnfolds
  have hl := fewE_len e
  have hN := fewE_nb e
  have hf := few2 e
  rw [show m_syntagmalaw05_Few (⟨e.l⟩ : ApiExpr) = some (fewE e) from few_eq e, Option.bind_some, hf, Option.bind_some]
  generalize fewE e = x at *
  obtain ⟨r, r1, r2, r3, r4⟩ := sunfold x hl hN
  obtain ⟨a, c⟩ := r
  rw [r1, Option.bind_some]
  dsimp only
  rw [show m_syntagmaref09_Unfold (⟨x.l⟩ : ApiExpr) = _ from r2, Option.bind_some]
  dsimp only
  rw [show m_syntagmaref05_May (⟨x.l⟩ : ApiExpr) = some (mayT x.l) from rmay_eq x (by omega) hN, Option.bind_some, same09 a.l r4 r3, works09]
  have hV : m_subst_Value x = (some (mayT x.l)).bind fun x1 => (bif (decide (x1 = 0)) then (grd (InR ((x.l.length : Int) - 1)) <| (m_subst_value FU x ((x.l.length : Int) - 1)).bind fun x2 => some x2) else (some false)).bind fun p1 => some p1 := by
    unfold m_subst_Value
    rw [may_eq x (by omega) hN]
  by_cases h : mayT x.l = 0
  · have hS := sc_of hl hN h
    have h0 := hS.pos
    obtain ⟨b, b1, b2⟩ := value_eq x hS FU (x.l.length - 1) (by rw [FUv]; omega) (by omega)
    have hV2 : m_subst_Value x = some b := by
      rw [hV, Option.bind_some, decide_eq_true h, cond_true, grd_pos (by omega), show ((x.l.length : Int) - 1) = ((x.l.length - 1 : Nat) : Int) by omega, b1]; rfl
    rw [decide_eq_true h, cond_true, grd_pos (by omega), show ((x.l.length : Int) - 1) = ((x.l.length - 1 : Nat) : Int) by omega, show m_syntagmaref09_Value FU (⟨x.l⟩ : ApiExpr) ((x.l.length - 1 : Nat) : Int) = _ from b2, Option.bind_some, Option.bind_some, Option.bind_some, decide_eq_true rfl, Bool.and_self, cond_true, Option.bind_some, hV2]
    cases b <;> rfl
  · have hV2 : m_subst_Value x = some false := by
      rw [hV, Option.bind_some, decide_eq_false h]; rfl
    rw [decide_eq_false h, cond_false, Option.bind_some, Option.bind_some, decide_eq_true rfl, Bool.and_self, cond_true, Option.bind_some, hV2]
    rfl
end Go.Proofs.Ytnnjgbcojdnhhaa
