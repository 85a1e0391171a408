/- Part K05c of the proof: contracts of the functions that are walked, and what they compute; no condition. -/
import Derived.Test.YtnnjgbcojdnhhaaK05b
set_option linter.unusedVariables false
set_option linter.unusedSimpArgs false
set_option maxRecDepth 100000
namespace Go.Proofs.Ytnnjgbcojdnhhaa
open Go.V
open Classical
/-! The same -/
theorem field_eqv (a b : ApiField) : ApiField.eqv a b = true ↔ a = b := by
  obtain ⟨a1, a2, a3⟩ := a
  obtain ⟨b1, b2, b3⟩ := b
  unfold ApiField.eqv
  simp
def sameN (a b : ApiNode) : Prop := a.kind = b.kind ∧ a.a = b.a ∧ a.b = b.b ∧ a.c = b.c ∧ a.n_ = b.n_ ∧ a.name = b.name ∧ a.s = b.s ∧ a.l = b.l
theorem getI2 {α : Type} {l : List α} {i : Nat} (h : i < l.length) : ∃ x, l[i]? = some x := ⟨l[i], List.getElem?_eq_getElem h⟩
theorem list_same {α : Type} {a b : List α} (hl : a.length = b.length) : (∀ (i : Nat) x, a[i]? = some x → ∃ y, b[i]? = some y ∧ x = y) ↔ a = b := by
  constructor
  · intro h
    refine List.ext_getElem? fun i => ?_
    by_cases hi : i < a.length
    · obtain ⟨y, h1, h2⟩ := h i a[i] (List.getElem?_eq_getElem hi)
      rw [h1, ← h2, List.getElem?_eq_getElem hi]
    · rw [List.getElem?_eq_none (by omega), List.getElem?_eq_none (by omega)]
  · rintro rfl i x hx
    exact ⟨x, hx, rfl⟩
theorem fields_eq (a b : List ApiField) (h : a.length ≤ 1000) : m_slices_Equal_api_Field_api_Field a b = some (decide (a = b)) := by
  unfold m_slices_Equal_api_Field_api_Field
  by_cases hl : a.length = b.length
  · rw [decide_eq_true (show (a.length : Int) = b.length by omega), Bool.not_true, cond_false]
    refine bnd (loop_all (φ := m_slices_Equal_api_Field_api_Field_l1 a b) (l := a) false (fun i x => ∃ y, b[i]? = some y ∧ x = y) ?_ ?_ (by rw [FUv]; omega)) ?_
    · intro n i x hx hi
      obtain ⟨y, hy⟩ := getI2 (l := b) (i := i) (by omega)
      simp only [m_slices_Equal_api_Field_api_Field_l1]
      rw [decide_eq_true (show (i : Int) < a.length by omega), cond_true, getI hx, Option.bind_some, getI hy, Option.bind_some]
      constructor
      · rintro ⟨y2, h1, h2⟩
        rw [hy] at h1
        rw [(field_eqv x y).2 (by rw [h2, Option.some.inj h1]), Bool.not_true, cond_false, grd_pos (by omega)]
      · intro h2
        have : ApiField.eqv x y = false := by
          rw [← Bool.not_eq_true, field_eqv]
          exact fun h3 => h2 ⟨y, hy, h3⟩
        rw [this, Bool.not_false, cond_true]
    · intro n
      simp only [m_slices_Equal_api_Field_api_Field_l1]
      rw [decide_eq_false (by omega), cond_false]
    · by_cases ha : a = b
      · rw [if_pos ((list_same hl).2 ha), decide_eq_true ha]; rfl
      · rw [if_neg (fun h => ha ((list_same hl).1 h)), decide_eq_false ha]; rfl
  · rw [decide_eq_false (show ¬ (a.length : Int) = b.length by omega), Bool.not_false, cond_true, decide_eq_false (fun h => hl (by rw [h]))]
theorem sameNode_eq (a b : ApiNode) (h : NB a) : m_tree_sameNode a b = some (decide (sameN a b)) := by
  unfold NB at h
  unfold m_tree_sameNode
  rw [fields_eq _ _ (by omega), Option.bind_some]
  by_cases hl : a.l = b.l
  · rw [decide_eq_true hl, Bool.not_true, cond_false]
    congr 1
    rw [Bool.eq_iff_iff]
    simp only [Bool.and_eq_true, decide_eq_true_eq]
    unfold sameN
    constructor
    · rintro ⟨⟨⟨⟨⟨⟨h1, h2⟩, h3⟩, h4⟩, h5⟩, h6⟩, h7⟩
      exact ⟨h1, h2, h3, h4, h5, h6, h7, hl⟩
    · rintro ⟨h1, h2, h3, h4, h5, h6, h7, _⟩
      exact ⟨⟨⟨⟨⟨⟨h1, h2⟩, h3⟩, h4⟩, h5⟩, h6⟩, h7⟩
  · rw [decide_eq_false hl, Bool.not_false, cond_true, decide_eq_false (fun h => hl h.2.2.2.2.2.2.2)]
theorem rsameNode_eq (a b : ApiNode) (h : NB a) : m_syntagmaref05_SameNode a b = some (decide (sameN a b)) := by
  unfold NB at h
  unfold m_syntagmaref05_SameNode
  by_cases hc : a.kind = b.kind ∧ a.a = b.a ∧ a.b = b.b ∧ a.c = b.c ∧ a.n_ = b.n_ ∧ a.name = b.name ∧ a.s = b.s ∧ a.l.length = b.l.length
  · obtain ⟨h1, h2, h3, h4, h5, h6, h7, hl⟩ := hc
    rw [decide_eq_true h1, decide_eq_true h2, decide_eq_true h3, decide_eq_true h4, decide_eq_true h5, decide_eq_true h6, decide_eq_true h7, decide_eq_true (show (a.l.length : Int) = b.l.length by omega)]
    show (m_syntagmaref05_SameNode_l1 a b FU 0).bind _ = _
    refine bnd (loop_all (φ := m_syntagmaref05_SameNode_l1 a b) (l := a.l) false (fun i x => ∃ y, b.l[i]? = some y ∧ x = y) ?_ ?_ (by rw [FUv]; omega)) ?_
    · intro n i x hx hi
      obtain ⟨y, hy⟩ := getI2 (l := b.l) (i := i) (by omega)
      simp only [m_syntagmaref05_SameNode_l1]
      rw [decide_eq_true (show (i : Int) < a.l.length by omega), cond_true, getI hx, Option.bind_some, getI hy, Option.bind_some]
      constructor
      · rintro ⟨y2, h1, h2⟩
        rw [hy] at h1
        rw [(field_eqv x y).2 (by rw [h2, Option.some.inj h1]), Bool.not_true, cond_false, grd_pos (by omega)]
      · intro h2
        have : ApiField.eqv x y = false := by
          rw [← Bool.not_eq_true, field_eqv]
          exact fun h3 => h2 ⟨y, hy, h3⟩
        rw [this, Bool.not_false, cond_true]
    · intro n
      simp only [m_syntagmaref05_SameNode_l1]
      rw [decide_eq_false (by omega), cond_false]
    · by_cases ha : a.l = b.l
      · rw [if_pos ((list_same hl).2 ha), decide_eq_true (show sameN a b from ⟨h1, h2, h3, h4, h5, h6, h7, ha⟩)]; rfl
      · rw [if_neg (fun h => ha ((list_same hl).1 h)), decide_eq_false (fun h : sameN a b => ha h.2.2.2.2.2.2.2)]; rfl
  · rw [decide_eq_false (p := sameN a b) (fun h => hc ⟨h.1, h.2.1, h.2.2.1, h.2.2.2.1, h.2.2.2.2.1, h.2.2.2.2.2.1, h.2.2.2.2.2.2.1, by rw [h.2.2.2.2.2.2.2]⟩)]
    rw [show ((((((((!decide (a.kind = b.kind)) || (!decide (a.a = b.a))) || (!decide (a.b = b.b))) || (!decide (a.c = b.c))) || (!decide (a.n_ = b.n_))) || (!decide ((a.name : List UInt8) = b.name))) || (!decide ((a.s : List UInt8) = b.s))) || (!decide ((a.l.length : Int) = (b.l.length : Int)))) = true by
      rw [← Bool.not_eq_false]
      intro h
      apply hc
      simp only [Bool.or_eq_false_iff, Bool.not_eq_false', decide_eq_true_eq] at h
      obtain ⟨⟨⟨⟨⟨⟨⟨h1, h2⟩, h3⟩, h4⟩, h5⟩, h6⟩, h7⟩, h8⟩ := h
      exact ⟨h1, h2, h3, h4, h5, h6, h7, by omega⟩]
    rfl
def sameL (a b : List ApiNode) : Prop := a.length = b.length ∧ ∀ (i : Nat) x, a[i]? = some x → ∃ y, b[i]? = some y ∧ sameN x y
theorem sameL_refl (a : List ApiNode) : sameL a a := ⟨rfl, fun _ x h => ⟨x, h, rfl, rfl, rfl, rfl, rfl, rfl, rfl, rfl⟩⟩
theorem equalFunc_eq (a b : List ApiNode) (h : a.length ≤ 1000) (hN : ∀ n ∈ a, NB n) : m_slices_EqualFunc_api_Node_api_Node_api_Node_api_Node a b (fun y0 y1 => m_tree_sameNode y0 y1) = some (decide (sameL a b)) := by
  unfold m_slices_EqualFunc_api_Node_api_Node_api_Node_api_Node
  by_cases hl : a.length = b.length
  · rw [decide_eq_true (show (a.length : Int) = b.length by omega), Bool.not_true, cond_false]
    refine bnd (loop_all (φ := m_slices_EqualFunc_api_Node_api_Node_api_Node_api_Node_l1 a b (fun y0 y1 => m_tree_sameNode y0 y1)) (l := a) false (fun i x => ∃ y, b[i]? = some y ∧ sameN x y) ?_ ?_ (by rw [FUv]; omega)) ?_
    · intro n i x hx hi
      obtain ⟨y, hy⟩ := getI2 (l := b) (i := i) (by omega)
      simp only [m_slices_EqualFunc_api_Node_api_Node_api_Node_api_Node_l1]
      rw [decide_eq_true (show (i : Int) < a.length by omega), cond_true, getI hx, Option.bind_some, getI hy, Option.bind_some]
      rw [show m_tree_sameNode (⟨x.kind, x.a, x.b, x.c, x.n_, x.name, x.s, x.l, x.pos⟩ : ApiNode) (⟨y.kind, y.a, y.b, y.c, y.n_, y.name, y.s, y.l, y.pos⟩ : ApiNode) = m_tree_sameNode x y from rfl, sameNode_eq x y (hN x (List.mem_of_getElem? hx)), Option.bind_some]
      constructor
      · rintro ⟨y2, h1, h2⟩
        rw [hy] at h1
        rw [decide_eq_true (show sameN x y by rw [Option.some.inj h1]; exact h2), Bool.not_true, cond_false, grd_pos (by omega)]
      · intro h2
        rw [decide_eq_false (fun h3 => h2 ⟨y, hy, h3⟩), Bool.not_false, cond_true]
    · intro n
      simp only [m_slices_EqualFunc_api_Node_api_Node_api_Node_api_Node_l1]
      rw [decide_eq_false (by omega), cond_false]
    · by_cases ha : sameL a b
      · rw [if_pos ha.2, decide_eq_true ha]; rfl
      · rw [if_neg (fun h => ha ⟨hl, h⟩), decide_eq_false ha]; rfl
  · rw [decide_eq_false (show ¬ (a.length : Int) = b.length by omega), Bool.not_false, cond_true, decide_eq_false (fun h : sameL a b => hl h.1)]
theorem sameList_eq (a b : ApiExpr) (h : a.l.length ≤ 1000) (hN : ∀ n ∈ a.l, NB n) : m_syntagmaref05_SameList a b = some (decide (sameL a.l b.l)) := by
  unfold m_syntagmaref05_SameList
  by_cases hl : a.l.length = b.l.length
  · rw [decide_eq_true (show (a.l.length : Int) = b.l.length by omega), Bool.not_true, cond_false]
    refine bnd (loop_all (φ := m_syntagmaref05_SameList_l1 a b) (l := a.l) false (fun i x => ∃ y, b.l[i]? = some y ∧ sameN x y) ?_ ?_ (by rw [FUv]; omega)) ?_
    · intro n i x hx hi
      obtain ⟨y, hy⟩ := getI2 (l := b.l) (i := i) (by omega)
      simp only [m_syntagmaref05_SameList_l1]
      rw [decide_eq_true (show (i : Int) < a.l.length by omega), cond_true, getI hx, Option.bind_some, getI hy, Option.bind_some]
      rw [rsameNode_eq x y (hN x (List.mem_of_getElem? hx)), Option.bind_some]
      constructor
      · rintro ⟨y2, h1, h2⟩
        rw [hy] at h1
        rw [decide_eq_true (show sameN x y by rw [Option.some.inj h1]; exact h2), Bool.not_true, cond_false, grd_pos (by omega)]
      · intro h2
        rw [decide_eq_false (fun h3 => h2 ⟨y, hy, h3⟩), Bool.not_false, cond_true]
    · intro n
      simp only [m_syntagmaref05_SameList_l1]
      rw [decide_eq_false (by omega), cond_false]
    · by_cases ha : sameL a.l b.l
      · rw [if_pos ha.2, decide_eq_true ha]; rfl
      · rw [if_neg (fun h => ha ⟨hl, h⟩), decide_eq_false ha]; rfl
  · rw [decide_eq_false (show ¬ (a.l.length : Int) = b.l.length by omega), Bool.not_false, cond_true, decide_eq_false (fun h : sameL a.l b.l => hl h.1)]
/-! With other children -/
def relF (f : ApiField) (k : Int) : ApiField := ⟨f.name, f.var, k⟩
def withP (n : ApiNode) (ks : List Int) : ApiNode := ⟨n.kind, ((ks.take (abcN n.kind))[0]?).getD 0, ((ks.take (abcN n.kind))[1]?).getD 0, ((ks.take (abcN n.kind))[2]?).getD 0, n.n_, n.name, n.s, if partsB n.kind = true then List.zipWith relF n.l (ks.drop (abcN n.kind)) else [], n.pos⟩
theorem zip_snoc {α β γ : Type} (f : α → β → γ) : ∀ (i : Nat) (l : List α) (k : List β) (x : α) (y : β), l[i]? = some x → k[i]? = some y → List.zipWith f (l.take (i + 1)) k = List.zipWith f (l.take i) k ++ [f x y]
  | _, [], _, _, _, h, _ => by simp at h
  | _, _ :: _, [], _, _, _, h => by simp at h
  | 0, a :: l, b :: k, x, y, h1, h2 => by
    simp only [List.getElem?_cons_zero, Option.some.injEq] at h1 h2
    subst h1 h2
    simp
  | i + 1, a :: l, b :: k, x, y, h1, h2 => by
    simp only [List.getElem?_cons_succ] at h1 h2
    have := zip_snoc f i l k x y h1 h2
    rw [List.take_succ_cons, List.take_succ_cons, List.zipWith_cons_cons, List.zipWith_cons_cons, this]; rfl
theorem withL (ks : List Int) (m : Nat) (p : Bool) (z : List ApiField) (hz : z.length ≤ 60) (hm : m ≤ 3) (hl : ks.length = m + z.length) (a1 a2 a3 a4 a5 : Int) (a6 a7 : List UInt8) (a8 : Int) :
    m_tree_with_l1 ks ⟨(m : Int), p⟩ z FU (0, z, a1, a2, a3, a4, a5, a6, a7, a8) = some (List.zipWith relF z (ks.drop m), a1, a2, a3, a4, a5, a6, a7, a8) := by
  obtain ⟨o, h1, h2⟩ := loop_rng (φ := fun n i s => m_tree_with_l1 ks ⟨(m : Int), p⟩ z n (i, s, a1, a2, a3, a4, a5, a6, a7, a8)) (l := z) (fun i s => s = List.zipWith relF (z.take i) (ks.drop m) ++ z.drop i) (fun o => o = (List.zipWith relF z (ks.drop m), a1, a2, a3, a4, a5, a6, a7, a8)) (by
    rintro n i x s hx hi rfl
    have hzl : (List.zipWith relF (z.take i) (ks.drop m)).length = i := by
      rw [List.length_zipWith, List.length_take, List.length_drop]; omega
    obtain ⟨y, hy⟩ := getI2 (l := ks) (i := m + i) (by omega)
    have hd : z.drop i = x :: z.drop (i + 1) := by
      obtain ⟨hi2, hx2⟩ := List.getElem?_eq_some_iff.1 hx
      rw [List.drop_eq_getElem_cons hi2, hx2]
    have hsi : (List.zipWith relF (z.take i) (ks.drop m) ++ z.drop i)[i]? = some x := by
      rw [List.getElem?_append_right (by omega), hzl, Nat.sub_self, hd]; rfl
    simp only [m_tree_with_l1]
    rw [decide_eq_true (show (i : Int) < z.length by omega), cond_true, grd_pos (by omega), decide_eq_true (show (m : Int) + (i : Int) < ks.length by omega), cond_true, show ((m : Int) + (i : Int)) = ((m + i : Nat) : Int) by omega, getI hy, Option.bind_some, getI hsi, Option.bind_some, grd_pos (by omega)]
    refine .inl ⟨_, rfl, ?_⟩
    rw [Int.toNat_natCast, List.set_append_right _ _ (by omega), hzl, Nat.sub_self, hd, List.set_cons_zero, zip_snoc relF i z (ks.drop m) x y hx (by rw [List.getElem?_drop]; exact hy), List.append_assoc]
    rfl) (by
    rintro n s rfl
    simp only [m_tree_with_l1]
    rw [decide_eq_false (by omega), cond_false, List.take_length, List.drop_length, List.append_nil]
    exact ⟨_, rfl, rfl⟩) (by rw [FUv]; omega) z (by simp)
  rw [h1, h2]
def noParts (n : ApiNode) : Prop := partsB n.kind = false → n.l = []
theorem kidsP_len (n : ApiNode) (hp : noParts n) : (kidsP n).length = abcN n.kind + n.l.length := by
  unfold kidsP
  have := abc_le n.kind
  rw [List.length_append, List.length_take]
  cases h : partsB n.kind with
  | false => rw [if_neg (by decide), hp h]; simp; omega
  | true => rw [if_pos rfl]; simp; omega
theorem with_eq (n : ApiNode) (ks : List Int) (h : NB n) (hp : noParts n) (hk : ks.length = (kidsP n).length) : m_tree_with n ks = some (withP n ks) := by
  rw [kidsP_len n hp] at hk
  have h3 := abc_le n.kind
  unfold NB at h
  unfold m_tree_with withP
  rw [shape_eq, Option.bind_some]
  simp only
  rw [if_neg (by omega), sli_take (by omega), Option.bind_some]
  cases hb : partsB n.kind with
  | false =>
    have hl := hp hb
    rw [hl] at hk
    rw [Bool.not_false, cond_true, Option.bind_some]
    simp only
    rw [grd_pos (by simp), withL ks (abcN n.kind) false [] (by simp) h3 (by simpa using hk), Option.bind_some, if_neg (by decide)]
    simp
  | true =>
    rw [Bool.not_true, cond_false, Option.bind_some]
    simp only
    rw [grd_pos (by omega), withL ks (abcN n.kind) true n.l h h3 hk, Option.bind_some]
    all_goals rfl
theorem rwithL (n : ApiNode) (ks : List Int) (m : Nat) (hz : n.l.length ≤ 60) (hm : m ≤ 3) (hl : ks.length = m + n.l.length) (a1 a2 a3 a4 a5 : Int) (a6 a7 : List UInt8) (a8 : Int) :
    m_syntagmaref05_with_l1 n ks FU (0, [], a1, a2, a3, a4, a5, a6, a7, a8) = some ((m : Int), List.zipWith relF n.l (ks.drop m), a1, a2, a3, a4, a5, a6, a7, a8) := by
  have em : ((ks.length : Int) - (n.l.length : Int)) = (m : Int) := by omega
  obtain ⟨o, h1, h2⟩ := loop_rng (φ := fun f i s => m_syntagmaref05_with_l1 n ks f (i, s, a1, a2, a3, a4, a5, a6, a7, a8)) (l := n.l) (fun i s => s = List.zipWith relF (n.l.take i) (ks.drop m)) (fun o => o = ((m : Int), List.zipWith relF n.l (ks.drop m), a1, a2, a3, a4, a5, a6, a7, a8)) (by
    rintro f i x s hx hi rfl
    have hzl : (List.zipWith relF (n.l.take i) (ks.drop m)).length = i := by
      rw [List.length_zipWith, List.length_take, List.length_drop]; omega
    obtain ⟨y, hy⟩ := getI2 (l := ks) (i := m + i) (by omega)
    simp only [m_syntagmaref05_with_l1]
    rw [em, decide_eq_true (show (i : Int) < n.l.length by omega), cond_true, getI hx, Option.bind_some, grd_pos (by omega), show ((m : Int) + (i : Int)) = ((m + i : Nat) : Int) by omega, getI hy, Option.bind_some, grd_pos (by rw [hzl]; simp only [List.length_cons, List.length_nil]; omega), grd_pos (by omega)]
    refine .inl ⟨_, rfl, ?_⟩
    rw [zip_snoc relF i n.l (ks.drop m) x y hx (by rw [List.getElem?_drop]; exact hy)]
    rfl) (by
    rintro f s rfl
    simp only [m_syntagmaref05_with_l1]
    rw [em, decide_eq_false (by omega), cond_false, List.take_length]
    exact ⟨_, rfl, rfl⟩) (by rw [FUv]; omega) [] (by simp)
  rw [h1, h2]
theorem wtail (n : ApiNode) (ks : List Int) (m : Nat) (hm : m ≤ 3) (hl : m ≤ ks.length) (l1 : List ApiField) :
    ((bif (decide (0 < (m : Int))) then
    (idx ks 0).bind fun x3 =>
    some (l1, n.kind, x3, 0, 0, n.n_, n.name, n.s, n.pos)
  else
    some (l1, n.kind, 0, 0, 0, n.n_, n.name, n.s, n.pos) : Option ((List ApiField) × Int × Int × Int × Int × Int × (List UInt8) × (List UInt8) × Int)).bind fun (l3, z17, z18, z19, z20, z21, z22, z23, z24) =>
  (bif (decide (1 < (m : Int))) then
    (idx ks 1).bind fun x4 =>
    some (l3, z17, z18, x4, z20, z21, z22, z23, z24)
  else
    some (l3, z17, z18, z19, z20, z21, z22, z23, z24) : Option ((List ApiField) × Int × Int × Int × Int × Int × (List UInt8) × (List UInt8) × Int)).bind fun (l4, z25, z26, z27, z28, z29, z30, z31, z32) =>
  bif (decide (2 < (m : Int))) then
    (idx ks 2).bind fun x5 =>
    some (⟨z25, z26, z27, x5, z29, z30, z31, l4, z32⟩ : ApiNode)
  else
    some (⟨z25, z26, z27, z28, z29, z30, z31, l4, z32⟩ : ApiNode)) = some ⟨n.kind, ((ks.take m)[0]?).getD 0, ((ks.take m)[1]?).getD 0, ((ks.take m)[2]?).getD 0, n.n_, n.name, n.s, l1, n.pos⟩ := by
  match m, ks, hm, hl with
  | 0, ks, _, _ => rfl
  | 1, k0 :: ks, _, _ => rfl
  | 2, k0 :: k1 :: ks, _, _ => rfl
  | 3, k0 :: k1 :: k2 :: ks, _, _ => rfl
theorem rwith_eq (n : ApiNode) (ks : List Int) (h : NB n) (hp : noParts n) (hk : ks.length = (kidsP n).length) : m_syntagmaref05_with n ks = some (withP n ks) := by
  rw [kidsP_len n hp] at hk
  have h3 := abc_le n.kind
  unfold NB at h
  unfold m_syntagmaref05_with
  rw [show (decide (n.kind = 11) || decide (n.kind = 14)) = partsB n.kind from rfl]
  cases hb : partsB n.kind with
  | false =>
    have hl := hp hb
    rw [hl] at hk
    simp only [List.length_nil, Nat.add_zero] at hk
    rw [cond_false, Option.bind_some]
    simp only
    rw [hk]
    refine (wtail n ks (abcN n.kind) h3 (by omega) []).trans ?_
    unfold withP
    rw [if_neg (by rw [hb]; decide)]
  | true =>
    rw [cond_true, grd_pos (by omega), rwithL n ks (abcN n.kind) h h3 hk, Option.bind_some]
    simp only
    refine (wtail n ks (abcN n.kind) h3 (by omega) _).trans ?_
    unfold withP
    rw [if_pos hb]
/-! What stands below a node, last itself -/
def postF (L : List ApiNode) : Nat → Int → List Int
  | 0, _ => []
  | f + 1, i => match L[i.toNat]? with | some n => (kidsP n).flatMap (postF L f) ++ [i] | none => []
def post (L : List ApiNode) (i : Int) : List Int := postF L (i.toNat + 1) i
def kidsAt (L : List ApiNode) (i : Int) : List Int := match L[i.toNat]? with | some n => kidsP n | none => []
def inLs (L : List ApiNode) : Prop := ∀ (i : Nat) n, L[i]? = some n → inL i (kidsP n)
theorem kidsAt_s {L : List ApiNode} {i : Nat} {n : ApiNode} (h : L[i]? = some n) : kidsAt L (i : Int) = kidsP n := by
  unfold kidsAt; rw [Int.toNat_natCast, h]
theorem flatMap_congr2 {α β : Type} {f g : α → List β} : ∀ {l : List α}, (∀ x ∈ l, f x = g x) → l.flatMap f = l.flatMap g
  | [], _ => rfl
  | a :: l, h => by
    rw [List.flatMap_cons, List.flatMap_cons, h a (by simp), flatMap_congr2 fun x hx => h x (by simp [hx])]
theorem postF_eq (L : List ApiNode) (hI : inLs L) : ∀ (f g i : Nat), i < f → i < g → postF L f (i : Int) = postF L g (i : Int)
  | 0, _, i, h, _ => by omega
  | _, 0, i, _, h => by omega
  | f + 1, g + 1, i, hf, hg => by
    simp only [postF, Int.toNat_natCast]
    cases hn : L[i]? with
    | none => rfl
    | some n =>
      simp only
      congr 1
      refine flatMap_congr2 fun k hk => ?_
      have := hI i n hn k hk
      obtain ⟨m, rfl⟩ : ∃ m : Nat, k = (m : Int) := ⟨k.toNat, by omega⟩
      exact postF_eq L hI f g m (by omega) (by omega)
theorem post_rec {L : List ApiNode} (hI : inLs L) {i : Nat} {n : ApiNode} (hn : L[i]? = some n) : post L (i : Int) = (kidsP n).flatMap (post L) ++ [(i : Int)] := by
  unfold post
  rw [Int.toNat_natCast]
  simp only [postF, Int.toNat_natCast]
  rw [hn]
  simp only
  congr 1
  refine flatMap_congr2 fun k hk => ?_
  have := hI i n hn k hk
  obtain ⟨m, rfl⟩ : ∃ m : Nat, k = (m : Int) := ⟨k.toNat, by omega⟩
  rw [Int.toNat_natCast]
  exact postF_eq L hI i (m + 1) m (by omega) (by omega)
/-- All below is not above. -/
theorem post_le {L : List ApiNode} (hI : inLs L) : ∀ (f i : Nat), i < f → i < L.length → ∀ x ∈ post L (i : Int), 0 ≤ x ∧ x ≤ (i : Int)
  | 0, i, h, _ => by omega
  | f + 1, i, hf, hi => by
    obtain ⟨n, hn⟩ := getI2 hi
    intro x hx
    rw [post_rec hI hn, List.mem_append, List.mem_flatMap, List.mem_singleton] at hx
    rcases hx with ⟨k, hk, hx⟩ | rfl
    · have := hI i n hn k hk
      obtain ⟨m, rfl⟩ : ∃ m : Nat, k = (m : Int) := ⟨k.toNat, by omega⟩
      have := post_le hI f m (by omega) (by omega) x hx
      omega
    · omega
/-- A node that stands below another stands among the children of one below it. -/
theorem count_flat {α : Type} (x : Int) (f : α → List Int) : ∀ l : List α, (l.flatMap f).count x = (l.map fun k => (f k).count x).sum
  | [] => rfl
  | a :: l => by rw [List.flatMap_cons, List.count_append, List.map_cons, List.sum_cons, count_flat x f l]
theorem sum_add {α : Type} (f g : α → Nat) : ∀ l : List α, (l.map fun k => f k + g k).sum = (l.map f).sum + (l.map g).sum
  | [] => rfl
  | a :: l => by simp only [List.map_cons, List.sum_cons]; rw [sum_add f g l]; omega
theorem sum_flat {α β : Type} (f : β → Nat) (g : α → List β) : ∀ l : List α, ((l.flatMap g).map f).sum = (l.map fun k => ((g k).map f).sum).sum
  | [] => rfl
  | a :: l => by rw [List.flatMap_cons, List.map_append, List.sum_append, List.map_cons, List.sum_cons, sum_flat f g l]
theorem sum_congr {α : Type} {f g : α → Nat} : ∀ {l : List α}, (∀ x ∈ l, f x = g x) → (l.map f).sum = (l.map g).sum
  | [], _ => rfl
  | a :: l, h => by
    rw [List.map_cons, List.map_cons, List.sum_cons, List.sum_cons, h a (by simp), sum_congr fun x hx => h x (by simp [hx])]
theorem sum_ind (x : Int) : ∀ l : List Int, (l.map fun k => if x = k then 1 else 0).sum = l.count x
  | [] => rfl
  | a :: l => by
    rw [List.map_cons, List.sum_cons, sum_ind x l, List.count_cons]
    by_cases h : x = a
    · rw [if_pos h, h]; simp; omega
    · rw [if_neg h]
      have : (a == x) = false := by simpa using fun e => h e.symm
      rw [this]; simp
theorem post_count {L : List ApiNode} (hI : inLs L) (x : Int) : ∀ (f i : Nat), i < f → i < L.length → (post L (i : Int)).count x = (if x = (i : Int) then 1 else 0) + ((post L (i : Int)).map fun p => (kidsAt L p).count x).sum
  | 0, i, h, _ => by omega
  | f + 1, i, hf, hi => by
    obtain ⟨n, hn⟩ := getI2 hi
    have e := post_rec hI hn
    have ih : ∀ k ∈ kidsP n, (post L k).count x = (if x = k then 1 else 0) + ((post L k).map fun p => (kidsAt L p).count x).sum := by
      intro k hk
      have := hI i n hn k hk
      obtain ⟨m, rfl⟩ : ∃ m : Nat, k = (m : Int) := ⟨k.toNat, by omega⟩
      exact post_count hI x f m (by omega) (by omega)
    rw [e, List.count_append, count_flat, List.map_append, List.sum_append, sum_flat, sum_congr ih, sum_add, sum_ind]
    simp only [List.map_cons, List.map_nil, List.sum_cons, List.sum_nil, Nat.add_zero]
    rw [kidsAt_s hn, List.count_singleton]
    by_cases hx : x = (i : Int)
    · rw [if_pos hx, hx]; simp; omega
    · rw [if_neg hx]
      have : (((i : Int)) == x) = false := by simpa using fun e => hx e.symm
      rw [this]; simp; omega
/-- No node has two parents. -/
def one1 (L : List ApiNode) : Prop := ∀ x : Int, ((List.range L.length).map fun (p : Nat) => (kidsAt L (p : Int)).count x).sum ≤ 1
theorem sum_le_range (N : Nat) (g : Int → Nat) : ∀ (l : List Int), l.Nodup → (∀ p ∈ l, 0 ≤ p ∧ p < (N : Int)) → (l.map g).sum ≤ ((List.range N).map fun (p : Nat) => g (p : Int)).sum := by
  induction N with
  | zero =>
    intro l _ h
    rcases l with _ | ⟨a, l⟩
    · simp
    · have := h a (by simp); omega
  | succ N ih =>
    intro l hd h
    rw [List.range_succ, List.map_append, List.sum_append]
    simp only [List.map_cons, List.map_nil, List.sum_cons, List.sum_nil, Nat.add_zero]
    by_cases hN : (N : Int) ∈ l
    · have hp := List.perm_cons_erase hN
      have h1 : (l.map g).sum = g (N : Int) + ((l.erase (N : Int)).map g).sum := by
        have := (hp.map g).sum_nat
        rw [this, List.map_cons, List.sum_cons]
      have h2 := ih (l.erase (N : Int)) (hd.erase _) (fun p hp2 => by
        have h3 := (hd.mem_erase_iff).1 hp2
        have := h p h3.2
        have := h3.1
        omega)
      omega
    · have h2 := ih l hd (fun p hp => by
        have := h p hp
        have : p ≠ (N : Int) := fun e => hN (e ▸ hp)
        omega)
      omega
theorem sum_filter (g : Int → Nat) (q : Int → Bool) : ∀ l : List Int, (∀ p ∈ l, q p = false → g p = 0) → (l.map g).sum = ((l.filter q).map g).sum
  | [], _ => rfl
  | a :: l, h => by
    have ih := sum_filter g q l fun p hp => h p (by simp [hp])
    rw [List.filter_cons]
    cases hq : q a with
    | true => rw [if_pos rfl, List.map_cons, List.map_cons, List.sum_cons, List.sum_cons, ih]
    | false => rw [if_neg (by decide), List.map_cons, List.sum_cons, h a (by simp) hq, ih, Nat.zero_add]
theorem post_once {L : List ApiNode} (hI : inLs L) (h1 : one1 L) (i : Nat) (hi : i < L.length) : ∀ (d : Nat) (x : Int), (i : Int) - x < (d : Int) → (post L (i : Int)).count x ≤ 1
  | 0, x, h => by
    rw [List.count_eq_zero_of_not_mem]
    · omega
    · intro hx
      have := post_le hI (i + 1) i (by omega) hi x hx
      omega
  | d + 1, x, h => by
    have hc := post_count hI x (i + 1) i (by omega) hi
    have hk : ∀ p ∈ post L (i : Int), (kidsAt L p).count x ≠ 0 → x < p := by
      intro p hp h0
      have hpi := post_le hI (i + 1) i (by omega) hi p hp
      obtain ⟨m, rfl⟩ : ∃ m : Nat, p = (m : Int) := ⟨p.toNat, by omega⟩
      obtain ⟨n, hn⟩ := getI2 (l := L) (i := m) (by omega)
      rw [kidsAt_s hn] at h0
      have hx : x ∈ kidsP n := List.count_pos_iff.1 (by omega)
      exact (hI m n hn x hx).2
    by_cases hxi : x = (i : Int)
    · rw [if_pos hxi, sum_congr (g := fun _ => 0)] at hc
      · have e0 : ∀ l : List Int, (l.map fun _ => 0).sum = 0 := fun l => by induction l <;> simp_all
        rw [e0] at hc; omega
      · intro p hp
        have hpi := post_le hI (i + 1) i (by omega) hi p hp
        by_cases h0 : (kidsAt L p).count x = 0
        · exact h0
        · have := hk p hp h0; omega
    · rw [if_neg hxi, sum_filter (fun p => (kidsAt L p).count x) (fun p => decide (x < p))] at hc
      · have h2 := sum_le_range L.length (fun p => (kidsAt L p).count x) ((post L (i : Int)).filter fun p => decide (x < p)) (by
          rw [List.nodup_iff_count]
          intro a
          by_cases ha : x < a
          · exact Nat.le_trans (List.filter_sublist.count_le a) (post_once hI h1 i hi d a (by omega))
          · rw [List.count_eq_zero_of_not_mem]
            · omega
            · intro hm
              exact absurd (of_decide_eq_true (List.mem_filter.1 hm).2) ha) (fun p hp => by
          have := post_le hI (i + 1) i (by omega) hi p (List.mem_filter.1 hp).1
          omega)
        have h3 := h1 x
        omega
      · intro p hp hq
        by_cases h0 : (kidsAt L p).count x = 0
        · exact h0
        · have := hk p hp h0
          simp at hq; omega
theorem post_nodup {L : List ApiNode} (hI : inLs L) (h1 : one1 L) (i : Nat) (hi : i < L.length) : (post L (i : Int)).Nodup := by
  rw [List.nodup_iff_count]
  intro x
  exact post_once hI h1 i hi ((i : Int) - x + 1).toNat x (by omega)
theorem post_len {L : List ApiNode} (hI : inLs L) (h1 : one1 L) (i : Nat) (hi : i < L.length) : (post L (i : Int)).length ≤ L.length :=
  range_len L.length _ (post_nodup hI h1 i hi) fun x hx => by
    have := post_le hI (i + 1) i (by omega) hi x hx
    omega
/-! The counts, as sums -/
theorem incs_gd : ∀ (ks c : List Int) (x : Int), inL c.length ks → 0 ≤ x → gd (incs c ks) x = gd c x + (ks.count x : Int)
  | [], c, x, _, _ => by simp [incs]
  | k :: ks, c, x, h, hx => by
    have hk := h k (by simp)
    show gd (incs (inc1 c k) ks) x = _
    rw [incs_gd ks (inc1 c k) x (fun y hy => by have := h y (by simp [hy]); simpa [inc1] using this) hx, List.count_cons]
    unfold inc1
    by_cases e : k = x
    · subst e
      have := gd_self (l := c) (i := k.toNat) (by omega) (gd c k + 1)
      rw [show ((k.toNat : Nat) : Int) = k by omega] at this
      rw [this]; simp; omega
    · rw [gd_other (by omega)]
      have : (k == x) = false := by simpa using e
      rw [this]; simp
theorem cntU_gd (L : List ApiNode) (hI : inLs L) (x : Int) (hx : 0 ≤ x) : ∀ i : Nat, i ≤ L.length → gd (cntU L i) x = (((List.range i).map fun (p : Nat) => (kidsAt L (p : Int)).count x).sum : Nat)
  | 0, _ => by
    unfold gd cntU
    rw [List.getElem?_replicate]
    split <;> rfl
  | i + 1, h => by
    obtain ⟨n, hn⟩ := getI2 (l := L) (i := i) (by omega)
    rw [cntU_s hn, incs_gd _ _ _ (fun k hk => by have := hI i n hn k hk; rw [cntU_len]; omega) hx, cntU_gd L hI x hx i (by omega), List.range_succ, List.map_append, List.sum_append]
    simp only [List.map_cons, List.map_nil, List.sum_cons, List.sum_nil, Nat.add_zero]
    rw [kidsAt_s hn]
    omega
theorem ok_inLs {L : List ApiNode} (h : allOk L) : inLs L := fun i n hn => (h i n hn).2.1
theorem one1_of {L : List ApiNode} (h : allOk L) (ho : ¬ odd1 L) : one1 L := by
  intro x
  have hI := ok_inLs h
  by_cases hx : 0 ≤ x ∧ x < (L.length : Int) - 1
  · have e := cntU_gd L hI x hx.1 L.length (Nat.le_refl _)
    have : gd (cntU L L.length) x = 1 := by
      refine Classical.byContradiction fun hne => ho ⟨_, ?_, hne⟩
      have hl := cntU_len L L.length
      unfold gd
      rw [List.getElem?_eq_getElem (by omega)]
      refine List.mem_of_getElem? (i := x.toNat) ?_
      rw [List.getElem?_take, if_pos (by omega), List.getElem?_eq_getElem (by omega)]; rfl
    omega
  · rw [sum_congr (g := fun _ => 0)]
    · have e0 : ∀ l : List Nat, (l.map fun _ => 0).sum = 0 := fun l => by induction l <;> simp_all
      rw [e0]; omega
    · intro p hp
      rw [List.mem_range] at hp
      obtain ⟨n, hn⟩ := getI2 (l := L) (i := p) hp
      rw [kidsAt_s hn, List.count_eq_zero_of_not_mem]
      intro hm
      have := hI p n hn x hm
      omega
end Go.Proofs.Ytnnjgbcojdnhhaa
