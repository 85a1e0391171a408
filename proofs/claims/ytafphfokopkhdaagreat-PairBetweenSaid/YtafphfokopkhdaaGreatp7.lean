/- Part 7 of the proof: a program logic, what the functions compute, and what these answer; no condition. -/
import Derived.Test.YtafphfokopkhdaaGreatp6
set_option linter.unusedVariables false
set_option linter.unusedSimpArgs false
set_option maxRecDepth 100000
namespace Go.Proofs.YtafphfokopkhdaaGreat
open Go.V
open Classical
theorem bfs_fuel {nx : Int → List Int} {N : Nat} (hnx : ∀ x, 0 ≤ x → x < (N : Int) → inN N (nx x)) : ∀ (m m' i : Nat) (l : List Int), N ≤ i + m → m ≤ m' → i ≤ l.length → l.Nodup → inN N l → bfs nx m' i l = bfs nx m i l := by
  intro m
  induction m with
  | zero =>
    intro m' i l hN _ hi hd hr
    have := range_len _ _ hd hr
    exact bfs_none (List.getElem?_eq_none (by omega))
  | succ m ih =>
    intro m' i l hN hm hi hd hr
    cases hx : l[i]? with
    | none => rw [bfs_none hx, bfs_none hx]
    | some x =>
      have hxr := hr x (List.mem_of_getElem? hx)
      have hil := getLt hx
      obtain ⟨e, he⟩ := addL_pre (nx x) l
      obtain ⟨m', rfl⟩ : ∃ k, m' = k + 1 := ⟨m' - 1, by omega⟩
      rw [bfs_some hx, bfs_some hx]
      exact ih m' (i + 1) _ (by omega) (by omega) (by rw [he]; simp; omega) (addL_nodup _ _ hd) (inN_add hr (hnx x hxr.1 hxr.2))
theorem next_map (to : List Int) (s : AutoState) : nextP (stateM to s) = (nextP s).map (tm to) := by
  unfold nextP stateM
  cases h : s.arrow <;> simp [Function.comp_def, edgeM]
theorem to_at {a : AutoAuto} (ha : Led a) {j : Nat} {x : Int} (h : (orderP a)[j]? = some x) : tm (toP a) x = (j : Int) := by
  obtain ⟨h1, h2, _⟩ := order_ok ha
  have hx := h2 x (List.mem_of_getElem? h)
  have := setAll_get (orderP a) 0 (List.replicate a.l.length 0) h1 h2 (by simp) j x h
  unfold tm idx
  rw [if_pos hx.1, show toP a = setAll 0 (orderP a) (List.replicate a.l.length 0) from rfl, this]
  simp
theorem norm_at {a : AutoAuto} (ha : Led a) {j : Nat} {x : Int} (h : (orderP a)[j]? = some x) : idx (normP a).l (j : Int) = some (stateM (toP a) (stA a x)) := by
  rw [idx_nat]
  simp only [normP]
  rw [List.getElem?_map, h]; rfl
theorem order_at {a : AutoAuto} (ha : Led a) {x : Int} (h : x ∈ orderP a) : ∃ j : Nat, (orderP a)[j]? = some x ∧ tm (toP a) x = (j : Int) ∧ j < (orderP a).length := by
  obtain ⟨j, hj, hj2⟩ := List.getElem_of_mem h
  have h2 : (orderP a)[j]? = some x := by rw [← hj2]; exact List.getElem?_eq_getElem hj
  exact ⟨j, h2, to_at ha h2, hj⟩
theorem norm_st {a : AutoAuto} (ha : Led a) {x : Int} (h : x ∈ orderP a) : stA (normP a) (tm (toP a) x) = stateM (toP a) (stA a x) := by
  obtain ⟨j, h1, h2, _⟩ := order_at ha h
  unfold stA
  rw [h2, norm_at ha h1]; rfl
theorem norm_nx {a : AutoAuto} (ha : Led a) {x : Int} (h : x ∈ orderP a) : nxA (normP a) (tm (toP a) x) = (nxA a x).map (tm (toP a)) := by
  unfold nxA
  rw [norm_st ha h, next_map]
theorem order_nx {a : AutoAuto} (ha : Led a) {x y : Int} (h : x ∈ orderP a) (hy : y ∈ nxA a x) : y ∈ orderP a := by
  obtain ⟨j, h1, _⟩ := order_at ha h
  exact (order_ok ha).2.2.2 j x (by omega) h1 y hy
theorem to_inj {a : AutoAuto} (ha : Led a) {x y : Int} (hx : x ∈ orderP a) (hy : y ∈ orderP a) (h : tm (toP a) x = tm (toP a) y) : x = y := by
  obtain ⟨j, h1, h2, _⟩ := order_at ha hx
  obtain ⟨k, h3, h4, _⟩ := order_at ha hy
  have : j = k := by omega
  subst this
  rw [h1] at h3
  exact Option.some.inj h3
theorem to_lt {a : AutoAuto} (ha : Led a) {x : Int} (h : x ∈ orderP a) : 0 ≤ tm (toP a) x ∧ tm (toP a) x < ((orderP a).length : Int) := by
  obtain ⟨j, h1, h2, h3⟩ := order_at ha h
  omega
theorem order_map {a : AutoAuto} (ha : Led a) : (orderP a).map (tm (toP a)) = (List.range (orderP a).length).map (fun k : Nat => (k : Int)) := by
  refine List.ext_getElem? fun j => ?_
  rw [List.getElem?_map, List.getElem?_map]
  cases h : (orderP a)[j]? with
  | none =>
    rw [List.getElem?_eq_none (by simpa using List.getElem?_eq_none_iff.1 h)]; rfl
  | some x =>
    have := getLt h
    rw [List.getElem?_range this]
    simp only [Option.map_some, to_at ha h]
theorem norm_len {a : AutoAuto} (ha : Led a) : (normP a).l.length = (orderP a).length := by simp [normP]
theorem start_mem {a : AutoAuto} (ha : Led a) : a.start ∈ orderP a := by
  obtain ⟨e, he⟩ := (order_ok ha).2.2.1
  rw [he]; simp
theorem start_to {a : AutoAuto} (ha : Led a) : tm (toP a) a.start = 0 := by
  obtain ⟨e, he⟩ := (order_ok ha).2.2.1
  have : (orderP a)[0]? = some a.start := by rw [he]; rfl
  simpa using to_at ha this
theorem order_pos {a : AutoAuto} (ha : Led a) : 0 < (orderP a).length := List.length_pos_of_mem (start_mem ha)
theorem norm_led {a : AutoAuto} (ha : Led a) : Led (normP a) := by
  refine ⟨norm_AB ha, ?_, ?_⟩
  · intro k s hs y hy
    obtain ⟨h0, h1⟩ := idx_bd hs
    rw [norm_len ha] at h1 ⊢
    have hx : (orderP a)[k.toNat]? = some (orderP a)[k.toNat] := List.getElem?_eq_getElem (by omega)
    have := norm_at ha hx
    rw [show ((k.toNat : Nat) : Int) = k by omega, hs] at this
    cases this
    rw [next_map, List.mem_map] at hy
    obtain ⟨z, hz, rfl⟩ := hy
    exact to_lt ha (order_nx ha (List.mem_of_getElem? hx) hz)
  · rw [norm_len ha]
    have := order_pos ha
    show 0 ≤ (0 : Int) ∧ (0 : Int) < _
    omega
theorem order_norm {a : AutoAuto} (ha : Led a) : orderP (normP a) = (List.range (orderP a).length).map (fun k : Nat => (k : Int)) := by
  have hn := norm_led ha
  have hpos := order_pos ha
  have hle := range_len _ _ (order_ok ha).1 (order_ok ha).2.1
  rw [← order_map ha]
  have e1 : orderP (normP a) = bfs (nxA (normP a)) a.l.length 0 ([a.start].map (tm (toP a))) := by
    rw [List.map_cons, List.map_nil, start_to ha]
    unfold orderP
    rw [show (normP a).start = 0 from rfl]
    symm
    exact bfs_fuel (nxA_in hn) _ _ 0 [0] (by omega) (by rw [norm_len ha]; exact hle) (by simp) (by simp) (start_in hn)
  rw [e1]
  refine bfs_map (tm (toP a)) (nxA_in ha) a.l.length 0 [a.start] (by omega) (by simp) (by simp) (start_in ha) ?_ ?_
  · intro x hx; exact norm_nx ha hx
  · intro x y hx hy h; exact to_inj ha hx hy h
theorem tm_norm {a : AutoAuto} (ha : Led a) {k : Int} (h0 : 0 ≤ k) (h1 : k < ((orderP a).length : Int)) : tm (toP (normP a)) k = k := by
  have : (orderP (normP a))[k.toNat]? = some k := by
    rw [order_norm ha, List.getElem?_map, List.getElem?_range (by omega)]
    simp; omega
  rw [to_at (norm_led ha) this]; omega
theorem map_same {l : List AutoEdge} {f : AutoEdge → AutoEdge} (h : ∀ x ∈ l, f x = x) : l.map f = l := by
  rw [List.map_congr_left (g := id) h, List.map_id]
theorem norm_norm {a : AutoAuto} (ha : Led a) : normP (normP a) = normP a := by
  have hn := norm_led ha
  rw [auto_iff]
  refine ⟨?_, rfl⟩
  show (orderP (normP a)).map _ = _
  refine List.ext_getElem? fun j => ?_
  rw [List.getElem?_map, order_norm ha, List.getElem?_map]
  by_cases hj : j < (orderP a).length
  · rw [List.getElem?_range hj]
    have hx : (orderP a)[j]? = some (orderP a)[j] := List.getElem?_eq_getElem hj
    have e := norm_at ha hx
    have e2 : stA (normP a) (j : Int) = stateM (toP a) (stA a (orderP a)[j]) := by unfold stA; rw [e]; rfl
    rw [idx_nat] at e
    rw [e]
    simp only [Option.map_some]
    rw [e2]
    congr 1
    have hS : ∀ y ∈ nextP (stateM (toP a) (stA a (orderP a)[j])), tm (toP (normP a)) y = y := by
      intro y hy
      rw [next_map, List.mem_map] at hy
      obtain ⟨z, hz, rfl⟩ := hy
      have := to_lt ha (order_nx ha (List.mem_of_getElem? hx) hz)
      exact tm_norm ha this.1 this.2
    generalize stateM (toP a) (stA a (orderP a)[j]) = S at hS
    rw [state_iff]
    refine ⟨rfl, rfl, rfl, rfl, rfl, rfl, rfl, rfl, rfl, ?_, ?_, ?_, ?_⟩
    · simp only [stateM]
      split
      · rename_i h; exact hS _ (next_dom h).1
      · rfl
    · simp only [stateM]
      split
      · rename_i h; exact hS _ (next_dom h).2
      · rfl
    · simp only [stateM]
      refine map_same fun x hx => ?_
      unfold edgeM
      rw [hS _ (next_f hx)]
    · simp only [stateM]
      refine map_same fun x hx => ?_
      unfold edgeM
      rw [hS _ (next_t hx)]
  · rw [List.getElem?_eq_none (by simp; omega), List.getElem?_eq_none (by rw [norm_len ha]; omega)]; rfl
theorem bare_M (to : List Int) (s : AutoState) : bareP (stateM to s) = bareP s := by
  unfold bareP stateM
  cases h : s.arrow <;> simp
theorem edges_M (to : List Int) (isN : List UInt8 → Bool) (l : List AutoEdge) (h : edgesP isN l) : edgesP isN (l.map (edgeM to)) := by
  obtain ⟨h1, h2⟩ := h
  refine ⟨?_, by simpa using h2⟩
  intro i x hx
  rw [List.getElem?_map] at hx
  cases h3 : l[i]? with
  | none => rw [h3] at hx; cases hx
  | some y =>
    rw [h3] at hx
    cases hx
    obtain ⟨h4, h5⟩ := h1 i y h3
    refine ⟨h4, fun h0 z hz => ?_⟩
    rw [List.getElem?_map] at hz
    cases h6 : l[i - 1]? with
    | none => rw [h6] at hz; cases hz
    | some w =>
      rw [h6] at hz
      cases hz
      exact h5 h0 w h6
theorem norm_on {a : AutoAuto} (ha : Led a) {x : Int} {p : Bool} (hx : x ∈ orderP a) (h : onP a x p = true) : onP (normP a) (tm (toP a) x) p = true := by
  obtain ⟨s, h1, h2⟩ := on_bd h
  obtain ⟨j, h3, h4, _⟩ := order_at ha hx
  have e : stA a x = s := by unfold stA; rw [h1]; rfl
  unfold onP
  rw [h4, norm_at ha h3, e]
  simp [stateM, h2]
theorem norm_may {a : AutoAuto} (hab : AB a) (hm : mayP a = 0) : mayP (normP a) = 0 := by
  have ha := led_of hab hm
  obtain ⟨h1, h2, h3, h4⟩ := may_ok hm
  have hle := range_len _ _ (order_ok ha).1 (order_ok ha).2.1
  have hl := norm_len ha
  refine may_of (by have := order_pos ha; omega) (by omega) ?_ ?_
  · intro s hs
    simp only [normP, List.mem_map] at hs
    obtain ⟨x, hx, rfl⟩ := hs
    have hxr := (order_ok ha).2.1 x hx
    obtain ⟨r1, r2, r3, r4, r5⟩ := h3 _ (stA_mem hxr.1 hxr.2)
    refine ⟨by rw [bare_M]; exact r1, r2, edges_M _ _ _ r3, edges_M _ _ _ r4, ?_⟩
    intro i y hy
    rw [next_map, List.getElem?_map] at hy
    cases h5 : (nextP (stA a x))[i]? with
    | none => rw [h5] at hy; cases hy
    | some z =>
      rw [h5] at hy
      cases hy
      exact norm_on ha (order_nx ha hx (List.mem_of_getElem? h5)) (r5 i z h5)
  · have := norm_on ha (start_mem ha) h4
    rw [start_to ha] at this
    exact this
end Go.Proofs.YtafphfokopkhdaaGreat
set_option linter.unusedVariables false
set_option linter.unusedSimpArgs false
set_option maxRecDepth 100000
namespace Go.Proofs.YtafphfokopkhdaaGreat
open Go.V
open Classical
theorem sorted_ext : ∀ (a b : List Int), a.Pairwise (· < ·) → b.Pairwise (· < ·) → (∀ x, x ∈ a ↔ x ∈ b) → a = b
  | [], [], _, _, _ => rfl
  | [], y :: b, _, _, h => by have := (h y).2 (by simp); simp at this
  | x :: a, [], _, _, h => by have := (h x).1 (by simp); simp at this
  | x :: a, y :: b, ha, hb, h => by
    rw [List.pairwise_cons] at ha hb
    have hxy : x = y := by
      have h1 := (h x).1 (by simp)
      have h2 := (h y).2 (by simp)
      rcases List.mem_cons.1 h1 with h1 | h1
      · exact h1
      · rcases List.mem_cons.1 h2 with h2 | h2
        · exact h2.symm
        · have := hb.1 x h1; have := ha.1 y h2; omega
    subst hxy
    congr 1
    refine sorted_ext a b ha.2 hb.2 fun z => ?_
    have h1 := h z
    simp only [List.mem_cons] at h1
    constructor
    · intro hz
      rcases h1.1 (.inr hz) with e | e
      · have := ha.1 z hz; omega
      · exact e
    · intro hz
      rcases h1.2 (.inr hz) with e | e
      · have := hb.1 z hz; omega
      · exact e
theorem compact_upto {d : Array Int} (hd : ∀ i j, i < j → j < d.size → d[i]! ≤ d[j]!) : ∀ m, m ≤ d.size → (Lib.compactUpTo d m).Pairwise (· < ·) ∧ (∀ x, x ∈ Lib.compactUpTo d m ↔ ∃ j, j < m ∧ d[j]! = x) ∧ ∀ x ∈ Lib.compactUpTo d m, 0 < m ∧ x ≤ d[m - 1]!
  | 0, _ => by simp [Lib.compactUpTo]
  | m + 1, hm => by
    obtain ⟨h1, h2, h3⟩ := compact_upto hd m (by omega)
    rw [Lib.compactUpTo_succ]
    by_cases hk : Lib.keeps d m = true
    · rw [if_pos hk]
      have hk2 : m = 0 ∨ d[m]! ≠ d[m - 1]! := by simpa [Lib.keeps] using hk
      have hlt : ∀ x ∈ Lib.compactUpTo d m, x < d[m]! := by
        intro x hx
        obtain ⟨h4, h5⟩ := h3 x hx
        have h6 := hd (m - 1) m (by omega) (by omega)
        rcases hk2 with h7 | h7
        · omega
        · omega
      refine ⟨?_, fun x => ?_, fun x hx => ⟨by omega, ?_⟩⟩
      · rw [List.pairwise_append]
        exact ⟨h1, by simp, fun a ha b hb => by simp at hb; subst hb; exact hlt a ha⟩
      · rw [List.mem_append, h2 x]
        simp only [List.mem_cons, List.not_mem_nil, or_false]
        constructor
        · rintro (⟨j, hj, e⟩ | e)
          · exact ⟨j, by omega, e⟩
          · exact ⟨m, by omega, e.symm⟩
        · rintro ⟨j, hj, e⟩
          by_cases hjm : j = m
          · subst hjm; exact .inr e.symm
          · exact .inl ⟨j, by omega, e⟩
      · rw [Nat.add_sub_cancel]
        rcases List.mem_append.1 hx with hx | hx
        · exact Int.le_of_lt (hlt x hx)
        · simp at hx; omega
    · have hk' : Lib.keeps d m = false := by simpa using hk
      rw [hk']
      have hk2 : 0 < m ∧ d[m]! = d[m - 1]! := by
        have : ¬ (m = 0 ∨ d[m]! ≠ d[m - 1]!) := by simpa [Lib.keeps] using hk'
        omega
      simp only [Bool.false_eq_true, if_false, List.append_nil]
      refine ⟨h1, fun x => ?_, fun x hx => ⟨by omega, ?_⟩⟩
      · rw [h2 x]
        constructor
        · rintro ⟨j, hj, e⟩; exact ⟨j, by omega, e⟩
        · rintro ⟨j, hj, e⟩
          by_cases hjm : j = m
          · subst hjm; exact ⟨j - 1, by omega, by rw [← hk2.2]; exact e⟩
          · exact ⟨j, by omega, e⟩
      · rw [Nat.add_sub_cancel]
        have := (h3 x hx).2
        omega
theorem compact_sorted {l : List Int} (h : l.Pairwise (· ≤ ·)) : (Lib.compact l).Pairwise (· < ·) ∧ ∀ x, x ∈ Lib.compact l ↔ x ∈ l := by
  have hget : ∀ j, j < l.length → l.toArray[j]! = l[j]! := fun j _ => by simp
  obtain ⟨h1, h2, _⟩ := compact_upto (d := l.toArray) (fun i j hij hj => by
    simp at hj
    have := List.pairwise_iff_getElem.1 h i j (by omega) hj hij
    simpa [hj, show i < l.length by omega] using this) l.length (by simp)
  refine ⟨h1, fun x => (h2 x).trans ?_⟩
  constructor
  · rintro ⟨j, hj, e⟩
    rw [← e]; simp [hj]
  · intro hx
    obtain ⟨j, hj, e⟩ := List.getElem_of_mem hx
    exact ⟨j, hj, by simp [hj, e]⟩
theorem sortI_sorted (l : List Int) : (List.mergeSort l fun x y => decide (x ≤ y)).Pairwise (· ≤ ·) := by
  have := List.pairwise_mergeSort (le := fun x y : Int => decide (x ≤ y)) (fun a b c h1 h2 => by simp at *; omega) (fun a b => by simp; omega) l
  exact this.imp (fun h => by simpa using h)
noncomputable def setC (l : List Int) : List Int := Lib.compact (l.mergeSort fun x y => decide (x ≤ y))
theorem setC_props (l : List Int) : (setC l).Pairwise (· < ·) ∧ ∀ x, x ∈ setC l ↔ x ∈ l := by
  obtain ⟨h1, h2⟩ := compact_sorted (sortI_sorted l)
  exact ⟨h1, fun x => (h2 x).trans List.mem_mergeSort⟩
theorem setC_len (l : List Int) : (setC l).length ≤ l.length := by
  have := compact_le (l.mergeSort fun x y => decide (x ≤ y))
  rw [List.length_mergeSort] at this
  exact this
theorem setC_of {l s : List Int} (h : s.Pairwise (· < ·)) (hm : ∀ x, x ∈ s ↔ x ∈ l) : s = setC l := by
  obtain ⟨h1, h2⟩ := setC_props l
  exact sorted_ext _ _ h h1 fun x => (hm x).trans (h2 x).symm
theorem tw_split {s : List Int} (hs : s.Pairwise (· < ·)) (x : Int) : (∀ y ∈ s.take (s.takeWhile fun y => decide (y < x)).length, y < x) ∧ ∀ y ∈ s.drop (s.takeWhile fun y => decide (y < x)).length, x ≤ y := by
  induction s with
  | nil => simp
  | cons a s ih =>
    rw [List.pairwise_cons] at hs
    by_cases h : a < x
    · rw [List.takeWhile_cons_of_pos (by simpa using h)]
      obtain ⟨i1, i2⟩ := ih hs.2
      simp only [List.length_cons, List.take_succ_cons, List.drop_succ_cons]
      exact ⟨fun y hy => (List.mem_cons.1 hy).elim (fun e => e ▸ h) (i1 y), i2⟩
    · rw [List.takeWhile_cons_of_neg (by simpa using h)]
      simp only [List.length_nil, List.take_zero, List.drop_zero]
      refine ⟨by simp, fun y hy => ?_⟩
      rcases List.mem_cons.1 hy with rfl | hy
      · omega
      · have := hs.1 y hy; omega
theorem set_l2 (l s : List Int) {i : Nat} {x : Int} (hx : l[i]? = some x) (hl : s.length ≤ 1000000000) : m_syntagmaref15_Set_l2 l (i : Int) s FU 0 = some ((s.takeWhile fun y => decide (y < x)).length : Int) := by
  have h := loop_while (φ := m_syntagmaref15_Set_l2 l (i : Int) s) (l := s) (fun y => decide (y < x)) (fun k => ((k : Nat) : Int)) (by
    intro n k y hy hk
    simp only [m_syntagmaref15_Set_l2]
    rw [decide_eq_true (show (k : Int) < (s.length : Int) by omega), cond_true, getI hy, Option.bind_some, getI hx, Option.bind_some]
    refine ⟨fun h => ?_, fun h => ?_⟩
    · rw [h, cond_true, grd_pos (by omega)]
    · rw [h, cond_false]) (by
    intro n
    simp only [m_syntagmaref15_Set_l2]
    rw [decide_eq_false (by omega), cond_false]) FU 0 (Nat.zero_le _) (by rw [FUv]; omega)
  rw [Nat.zero_add, List.drop_zero] at h
  exact h
theorem set_eq (l : List Int) (hl : l.length ≤ 1000000000) : m_syntagmaref15_Set l = some (setC l) := by
  unfold m_syntagmaref15_Set
  obtain ⟨o, e1, e2⟩ := loop_rng (φ := fun n i s => m_syntagmaref15_Set_l1 l n (i, s)) (l := l) (fun i s => s.Pairwise (· < ·) ∧ (∀ x, x ∈ s ↔ x ∈ l.take i) ∧ s.length ≤ i) (fun o => o = setC l)
    (by
      rintro n i x s hx hi ⟨h1, h2, h3⟩
      left
      have hit : l.take (i + 1) = l.take i ++ [x] := by
        rw [List.take_succ_eq_append_getElem hi]
        rw [List.getElem?_eq_getElem hi] at hx
        rw [Option.some.inj hx]
      obtain ⟨q1, q2⟩ := tw_split h1 x
      have hk := tw_le (fun y => decide (y < x)) s
      have hl2 := set_l2 l s hx (by omega)
      simp only [m_syntagmaref15_Set_l1]
      rw [decide_eq_true (show (i : Int) < (l.length : Int) by omega), cond_true, hl2, Option.bind_some]
      generalize hK : (s.takeWhile fun y => decide (y < x)).length = k at *
      have hs1 : sli s 0 (k : Int) = some (s.take k) := sli_take hk
      have hs2 : sli s (k : Int) (s.length : Int) = some (s.drop k) := by
        rw [sli_nat _ _ _ hk (Nat.le_refl _), List.take_length]
      have hnew : (s.take k ++ [x] ++ s.drop k).length = s.length + 1 := by
        simp only [List.length_append, List.length_take, List.length_drop, List.length_cons, List.length_nil]; omega
      have ins : ∀ (hne : ∀ y ∈ s.drop k, x < y), (s.take k ++ [x] ++ s.drop k).Pairwise (· < ·) ∧ (∀ z, z ∈ s.take k ++ [x] ++ s.drop k ↔ z ∈ l.take (i + 1)) ∧ (s.take k ++ [x] ++ s.drop k).length ≤ i + 1 := by
        intro hne
        have hsp : (s.take k ++ s.drop k).Pairwise (· < ·) := by rw [List.take_append_drop]; exact h1
        rw [List.pairwise_append] at hsp
        refine ⟨?_, fun z => ?_, by omega⟩
        · rw [List.pairwise_append, List.pairwise_append]
          refine ⟨⟨hsp.1, by simp, fun a ha b hb => by simp at hb; subst hb; exact q1 a ha⟩, hsp.2.1, fun a ha b hb => ?_⟩
          rcases List.mem_append.1 ha with ha | ha
          · exact hsp.2.2 a ha b hb
          · simp at ha; subst ha; exact hne b hb
        · have hz : z ∈ l.take (i + 1) ↔ z ∈ s ∨ z = x := by rw [hit, List.mem_append, ← h2 z, List.mem_singleton]
          rw [hz]
          have : z ∈ s ↔ z ∈ s.take k ∨ z ∈ s.drop k := by rw [← List.mem_append, List.take_append_drop]
          rw [this]
          simp only [List.mem_append, List.mem_singleton]
          constructor
          · rintro ((h | h) | h)
            · exact .inl (.inl h)
            · exact .inr h
            · exact .inl (.inr h)
          · rintro ((h | h) | h)
            · exact .inl (.inl h)
            · exact .inr h
            · exact .inl (.inr h)
      have tail : ∀ (hne : ∀ y ∈ s.drop k, x < y), ((sli s 0 (k : Int)).bind fun l4 =>
        grd ((0 + l4.length) * 8 ≤ 140737488355328) <|
        (idx l (i : Int)).bind fun x5 =>
        grd ((([] ++ l4).length + ([x5] : List _).length) * 8 ≤ 140737488355328) <|
        (sli s (k : Int) (s.length : Int)).bind fun l5 =>
        grd (((([] ++ l4) ++ [x5]).length + l5.length) * 8 ≤ 140737488355328) <|
        grd (InR ((i : Int) + 1)) <|
        m_syntagmaref15_Set_l1 l n (((i : Int) + 1), ((([] ++ l4) ++ [x5]) ++ l5))) = m_syntagmaref15_Set_l1 l n ((i : Int) + 1, s.take k ++ [x] ++ s.drop k) := by
        intro _
        have hl4 : (s.take k).length ≤ s.length := by rw [List.length_take]; omega
        have hl5 : (s.drop k).length ≤ s.length := by rw [List.length_drop]; omega
        rw [hs1, Option.bind_some, grd_pos (by omega), getI hx, Option.bind_some, List.nil_append, grd_pos (by simp only [List.length_cons, List.length_nil]; omega), hs2, Option.bind_some, grd_pos (by simp only [List.length_append, List.length_cons, List.length_nil]; omega), grd_pos (by omega)]
      by_cases hks : k < s.length
      · have hy : s[k]? = some s[k] := List.getElem?_eq_getElem hks
        rw [decide_eq_true (show (k : Int) < (s.length : Int) by omega), cond_true, getI hy, Option.bind_some, getI hx, Option.bind_some]
        have hdr : s.drop k = s[k] :: s.drop (k + 1) := List.drop_eq_getElem_cons hks
        by_cases he : s[k] = x
        · refine ⟨s, ?_, h1, fun z => ?_, by omega⟩
          · rw [decide_eq_true he, cond_true, grd_pos (by omega)]
          · rw [hit, List.mem_append, ← h2 z, List.mem_singleton]
            constructor
            · exact fun h => .inl h
            · rintro (h | rfl)
              · exact h
              · rw [← he]; exact List.getElem_mem hks
        · have hne : ∀ y ∈ s.drop k, x < y := by
            have h5 : (s[k] :: s.drop (k + 1)).Pairwise (· < ·) := by rw [← hdr]; exact h1.sublist (List.drop_sublist k s)
            rw [List.pairwise_cons] at h5
            have h6 := q2 s[k] (by rw [hdr]; exact List.mem_cons_self)
            intro y hy
            rw [hdr] at hy
            rcases List.mem_cons.1 hy with rfl | hy
            · omega
            · have := h5.1 y hy; omega
          refine ⟨s.take k ++ [x] ++ s.drop k, ?_, ins hne⟩
          have ht := tail hne
          rw [getI hx] at ht
          rw [decide_eq_false he, cond_false]
          exact ht
      · have hd : s.drop k = [] := List.drop_eq_nil_of_le (by omega)
        have hne : ∀ y ∈ s.drop k, x < y := by rw [hd]; simp
        refine ⟨s.take k ++ [x] ++ s.drop k, ?_, ins hne⟩
        rw [decide_eq_false (by omega), cond_false]
        exact tail hne)
    (by
      rintro n s ⟨h1, h2, h3⟩
      refine ⟨s, ?_, setC_of h1 (fun x => by rw [h2 x, List.take_length])⟩
      simp only [m_syntagmaref15_Set_l1]
      rw [decide_eq_false (by omega), cond_false]) (by rw [FUv]; omega) [] ⟨List.Pairwise.nil, by simp, by simp⟩
  rw [e1, Option.bind_some, e2]
end Go.Proofs.YtafphfokopkhdaaGreat
set_option linter.unusedVariables false
set_option linter.unusedSimpArgs false
set_option maxRecDepth 100000
namespace Go.Proofs.YtafphfokopkhdaaGreat
open Go.V
open Classical
theorem setC_ext {l l' : List Int} (h : ∀ x, x ∈ l ↔ x ∈ l') : setC l = setC l' := by
  obtain ⟨h1, h2⟩ := setC_props l
  exact setC_of h1 fun x => (h2 x).trans (h x)
noncomputable def occ (l : List AutoState) (p : Bool) (v : Int) : Bool := decide (∃ s ∈ l, s.plus = p ∧ v ∈ s.vars)
noncomputable def bits (l : List AutoState) (v : Int) : Int := (if occ l true v = true then 1 else 0) + (if occ l false v = true then 2 else 0)
theorem occ_iff {l : List AutoState} {p : Bool} {v : Int} : occ l p v = true ↔ ∃ s ∈ l, s.plus = p ∧ v ∈ s.vars := by unfold occ; rw [decide_eq_true_eq]
theorem bits_none {l : List AutoState} {v : Int} : bits l v = 0 ↔ ¬ ∃ s ∈ l, v ∈ s.vars := by
  unfold bits
  constructor
  · intro h
    rintro ⟨s, hs, hv⟩
    cases hp : s.plus with
    | true =>
      have : occ l true v = true := occ_iff.2 ⟨s, hs, hp, hv⟩
      rw [if_pos this] at h; split at h <;> omega
    | false =>
      have : occ l false v = true := occ_iff.2 ⟨s, hs, hp, hv⟩
      rw [if_pos this] at h; split at h <;> omega
  · intro h
    rw [if_neg (fun h2 => by obtain ⟨s, hs, _, hv⟩ := occ_iff.1 h2; exact h ⟨s, hs, hv⟩), if_neg (fun h2 => by obtain ⟨s, hs, _, hv⟩ := occ_iff.1 h2; exact h ⟨s, hs, hv⟩)]; rfl
theorem hasIntB_eq (l : List Int) (x : Int) (h : l.length ≤ 100000) : m_syntagmabase_HasInt l x = some (decide (x ∈ l)) := bhas_eq l x h
theorem on28_eq (a : AutoAuto) (v : Int) (p : Bool) (h : AB a) : m_syntagmaref28_On a v p = some (occ a.l p v) := by
  unfold m_syntagmaref28_On
  have hlen := h.1
  rw [loop_any (φ := m_syntagmaref28_On_l1 a v p) (l := a.l) true (fun _ s => s.plus = p ∧ v ∈ s.vars) ?_ ?_ (by rw [FUv]; omega), Option.bind_some]
  · by_cases h2 : ∃ s ∈ a.l, s.plus = p ∧ v ∈ s.vars
    · have : ∃ (i : Nat) (x : AutoState), a.l[i]? = some x ∧ x.plus = p ∧ v ∈ x.vars := by
        obtain ⟨s, hs, h3⟩ := h2
        obtain ⟨i, hi⟩ := List.getElem?_of_mem hs
        exact ⟨i, s, hi, h3⟩
      rw [if_pos this, ret_on, occ_iff.2 h2]
    · have : ¬ ∃ (i : Nat) (x : AutoState), a.l[i]? = some x ∧ x.plus = p ∧ v ∈ x.vars := by
        rintro ⟨i, x, hx, h3⟩
        exact h2 ⟨x, List.mem_of_getElem? hx, h3⟩
      rw [if_neg this, go_on]
      unfold occ
      rw [decide_eq_false h2]
  · intro n i s hs hi
    have hv := (h.2 s (List.mem_of_getElem? hs)).1
    simp only [m_syntagmaref28_On_l1]
    rw [decide_eq_true (show (i : Int) < (a.l.length : Int) by omega), cond_true, getI hs, Option.bind_some, Option.bind_some, hasIntB_eq _ _ (by omega), Option.bind_some]
    by_cases hp : s.plus = p
    · rw [show (s.plus == p) = true by simp [hp], cond_true, Option.bind_some]
      by_cases hm : v ∈ s.vars
      · rw [decide_eq_true hm]; exact ⟨fun h => absurd ⟨hp, hm⟩ h, fun _ => rfl⟩
      · rw [decide_eq_false hm, cond_false, grd_pos (by omega)]; exact ⟨fun _ => rfl, fun h => absurd h.2 hm⟩
    · rw [show (s.plus == p) = false by simp [hp], cond_false, Option.bind_some, cond_false, grd_pos (by omega)]
      exact ⟨fun _ => rfl, fun h => absurd h.1 hp⟩
  · intro n
    simp only [m_syntagmaref28_On_l1]
    rw [decide_eq_false (by omega), cond_false]
noncomputable def varsA (a : AutoAuto) : List Int := setC (a.l.flatMap (·.vars))
theorem varsA_mem {a : AutoAuto} {v : Int} : v ∈ varsA a ↔ ∃ s ∈ a.l, v ∈ s.vars := by
  unfold varsA
  rw [(setC_props _).2]
  simp [List.mem_flatMap]
theorem flat_len {l : List AutoState} (h : ∀ s ∈ l, SB s) : (l.flatMap (·.vars)).length ≤ 40 * l.length := by
  induction l with
  | nil => simp
  | cons s l ih =>
    have h1 := (h s (by simp)).1
    have h2 := ih (fun t ht => h t (by simp [ht]))
    simp only [List.flatMap_cons, List.length_append, List.length_cons]
    omega
theorem varsA_len {a : AutoAuto} (h : AB a) : (varsA a).length ≤ 100000 := by
  have h1 := setC_len (a.l.flatMap (·.vars))
  have h2 := flat_len h.2
  have := h.1
  unfold varsA
  omega
theorem all_eq (a : AutoAuto) (h : AB a) : m_syntagmaref28_All a = some (varsA a) := by
  have hlen := h.1
  unfold m_syntagmaref28_All
  obtain ⟨o, e1, e2⟩ := loop_rng (φ := fun n i s => m_syntagmaref28_All_l1 a n (i, s)) (l := a.l) (fun i s => s = (a.l.take i).flatMap (·.vars)) (fun o => o = a.l.flatMap (·.vars))
    (by
      rintro n i s x hs hi rfl
      left
      have hit : a.l.take (i + 1) = a.l.take i ++ [s] := by
        rw [List.take_succ_eq_append_getElem hi]
        rw [List.getElem?_eq_getElem hi] at hs
        rw [Option.some.inj hs]
      have hf := flat_len (l := a.l.take i) (fun t ht => h.2 t (List.mem_of_mem_take ht))
      have hs2 := (h.2 s (List.mem_of_getElem? hs)).1
      have htl : (a.l.take i).length ≤ 2001 := by rw [List.length_take]; omega
      refine ⟨(a.l.take i).flatMap (·.vars) ++ s.vars, ?_, by rw [hit, List.flatMap_append]; simp⟩
      simp only [m_syntagmaref28_All_l1]
      rw [decide_eq_true (show (i : Int) < (a.l.length : Int) by omega), cond_true, getI hs, Option.bind_some, grd_pos (by omega), grd_pos (by omega)])
    (by
      rintro n s rfl
      refine ⟨_, ?_, rfl⟩
      simp only [m_syntagmaref28_All_l1]
      rw [decide_eq_false (by omega), cond_false, List.take_length]) (by rw [FUv]; omega) [] (by simp)
  have hf := flat_len h.2
  rw [e1, Option.bind_some, e2, set_eq _ (by omega), Option.bind_some]
  rfl
theorem mget_none {α β : Type} [DecidableEq α] {l : List (α × β)} {k : α} : mget l k = none ↔ k ∉ l.map (·.1) := by
  induction l with
  | nil => simp [mget]
  | cons p l ih =>
    obtain ⟨a, b⟩ := p
    simp only [mget, List.map_cons, List.mem_cons, not_or]
    by_cases h : k = a
    · simp [h]
    · simp only [h, if_false, not_false_eq_true, true_and]; exact ih
theorem mset_keys {α β : Type} [DecidableEq α] {l : List (α × β)} {k : α} {v : β} : (mset l k v).map (·.1) = if k ∈ l.map (·.1) then l.map (·.1) else l.map (·.1) ++ [k] := by
  induction l with
  | nil => simp [mset]
  | cons p l ih =>
    obtain ⟨a, b⟩ := p
    simp only [mset]
    by_cases h : k = a
    · subst h; simp
    · rw [if_neg h]
      simp only [List.map_cons, ih, List.mem_cons, h, false_or]
      split <;> simp
theorem mset_nodup {α β : Type} [DecidableEq α] {l : List (α × β)} {k : α} {v : β} (h : (l.map (·.1)).Nodup) : ((mset l k v).map (·.1)).Nodup := by
  rw [mset_keys]
  split
  · exact h
  · rename_i hk
    rw [List.nodup_append]
    exact ⟨h, by simp, fun a ha b hb e => by simp at hb; subst hb e; exact hk ha⟩
theorem mset_len {α β : Type} [DecidableEq α] {l : List (α × β)} {k : α} {v : β} : (mset l k v).length ≤ l.length + 1 := by
  have := congrArg List.length (mset_keys (l := l) (k := k) (v := v))
  rw [List.length_map] at this
  rw [this]
  split <;> simp
def SideOk (l : List AutoState) (n : Nat) (mm : List (Int × Int)) : Prop := (∀ v, mget mm v = if bits l v = 0 then none else some (bits l v)) ∧ (mm.map (·.1)).Nodup ∧ mm.length ≤ n
theorem or_tab : orI 0 1 = 1 ∧ orI 1 1 = 1 ∧ orI 2 1 = 3 ∧ orI 3 1 = 3 ∧ orI 0 2 = 2 ∧ orI 1 2 = 3 ∧ orI 2 2 = 2 ∧ orI 3 2 = 3 := by decide
def sd (p : Bool) : Int := bif p then 1 else 2
theorem occ_app {l : List AutoState} {s : AutoState} {p : Bool} {v : Int} : occ (l ++ [s]) p v = (occ l p v || (decide (s.plus = p) && decide (v ∈ s.vars))) := by
  rw [Bool.eq_iff_iff, Bool.or_eq_true, Bool.and_eq_true, decide_eq_true_eq, decide_eq_true_eq, occ_iff, occ_iff]
  constructor
  · rintro ⟨t, ht, h⟩
    rcases List.mem_append.1 ht with ht | ht
    · exact .inl ⟨t, ht, h⟩
    · simp at ht; subst ht; exact .inr h
  · rintro (⟨t, ht, h⟩ | h)
    · exact ⟨t, by simp [ht], h⟩
    · exact ⟨s, by simp, h⟩
def cutV (s : AutoState) (k : Nat) : AutoState := { s with vars := s.vars.take k }
theorem bits_step {l : List AutoState} {s : AutoState} {k : Nat} {x : Int} (hx : s.vars[k]? = some x) (v : Int) : bits (l ++ [cutV s (k + 1)]) v = if v = x then orI (bits (l ++ [cutV s k]) x) (sd s.plus) else bits (l ++ [cutV s k]) v := by
  have hk := (List.getElem?_eq_some_iff.1 hx).1
  have ht : s.vars.take (k + 1) = s.vars.take k ++ [x] := by
    rw [List.take_succ_eq_append_getElem hk]
    rw [List.getElem?_eq_getElem hk] at hx
    rw [Option.some.inj hx]
  have hm : ∀ p, occ (l ++ [cutV s (k + 1)]) p v = (occ (l ++ [cutV s k]) p v || (decide (s.plus = p) && decide (v = x))) := by
    intro p
    rw [occ_app, occ_app]
    unfold cutV
    simp only [ht]
    by_cases h1 : v ∈ s.vars.take k <;> by_cases h2 : v = x <;> by_cases h3 : s.plus = p <;> simp [h1, h2, h3]
  unfold bits
  rw [hm true, hm false]
  by_cases hv : v = x
  · subst hv
    rw [if_pos rfl]
    obtain ⟨t1, t2, t3, t4, t5, t6, t7, t8⟩ := or_tab
    cases hp : s.plus <;> cases occ (l ++ [cutV s k]) true v <;> cases occ (l ++ [cutV s k]) false v <;> simp [sd, t1, t2, t3, t4, t5, t6, t7, t8]
  · rw [if_neg hv]
    simp [hv]
theorem bits_cut0 {l : List AutoState} {s : AutoState} (v : Int) : bits (l ++ [cutV s 0]) v = bits l v := by
  unfold bits
  rw [occ_app, occ_app]
  simp [cutV]
theorem bits_cutn {l : List AutoState} {s : AutoState} (v : Int) : bits (l ++ [cutV s s.vars.length]) v = bits (l ++ [s]) v := by
  unfold bits
  rw [occ_app, occ_app, occ_app, occ_app]
  simp [cutV]
theorem bits_dom (l : List AutoState) (v : Int) : bits l v = 0 ∨ bits l v = 1 ∨ bits l v = 2 ∨ bits l v = 3 := by
  unfold bits
  cases occ l true v <;> cases occ l false v <;> simp
theorem or_pos {b : Int} (p : Bool) (h : b = 0 ∨ b = 1 ∨ b = 2 ∨ b = 3) : orI b (sd p) ≠ 0 := by
  obtain ⟨t1, t2, t3, t4, t5, t6, t7, t8⟩ := or_tab
  cases p <;> rcases h with rfl | rfl | rfl | rfl <;> simp [sd, t1, t2, t3, t4, t5, t6, t7, t8]
theorem sides_l2 {l : List AutoState} {s : AutoState} (hs : s.vars.length ≤ 40) {m : Nat} {mm : List (Int × Int)} (h : SideOk l m mm) : ∃ mm', m_vars_sides_l2 s (sd s.plus) FU (0, mm) = some mm' ∧ SideOk (l ++ [s]) (m + 40) mm' := by
  obtain ⟨o, e1, e2⟩ := loop_rng (φ := fun n i q => m_vars_sides_l2 s (sd s.plus) n (i, q)) (l := s.vars) (fun i q => SideOk (l ++ [cutV s i]) (m + i) q) (fun o => SideOk (l ++ [s]) (m + 40) o)
    (by
      rintro n i x q hx hi ⟨h1, h2, h3⟩
      left
      refine ⟨mset q x (orI ((mget q x).getD 0) (sd s.plus)), ?_, fun v => ?_, mset_nodup h2, ?_⟩
      · simp only [m_vars_sides_l2]
        rw [decide_eq_true (show (i : Int) < (s.vars.length : Int) by omega), cond_true, getI hx, Option.bind_some, grd_pos (by omega)]
      · have hg : (mget q x).getD 0 = bits (l ++ [cutV s i]) x := by
          rw [h1 x]
          split
          · rename_i h0; rw [h0]; rfl
          · rfl
        rw [mget_set, hg, bits_step hx]
        by_cases hv : v = x
        · rw [if_pos hv, if_pos hv, if_neg (or_pos _ (bits_dom _ _))]
        · rw [if_neg hv, if_neg hv, h1 v]
      · have := mset_len (l := q) (k := x) (v := orI ((mget q x).getD 0) (sd s.plus))
        omega)
    (by
      rintro n q ⟨h1, h2, h3⟩
      refine ⟨q, ?_, fun v => by rw [h1 v, bits_cutn], h2, by omega⟩
      simp only [m_vars_sides_l2]
      rw [decide_eq_false (by omega), cond_false]) (by rw [FUv]; omega) mm ⟨fun v => by rw [h.1 v, bits_cut0], h.2.1, by have := h.2.2; omega⟩
  exact ⟨o, e1, e2⟩
theorem sides_eq (a : AutoAuto) (h : AB a) : ∃ mm, m_vars_sides a = some mm ∧ SideOk a.l 100000 mm := by
  have hlen := h.1
  unfold m_vars_sides
  obtain ⟨o, e1, e2⟩ := loop_rng (φ := fun n i q => m_vars_sides_l1 a n (i, q)) (l := a.l) (fun i q => SideOk (a.l.take i) (40 * i) q) (fun o => SideOk a.l 100000 o)
    (by
      rintro n i s q hs hi hq
      left
      have hit : a.l.take (i + 1) = a.l.take i ++ [s] := by
        rw [List.take_succ_eq_append_getElem hi]
        rw [List.getElem?_eq_getElem hi] at hs
        rw [Option.some.inj hs]
      obtain ⟨mm', q1, q2⟩ := sides_l2 (h.2 s (List.mem_of_getElem? hs)).1 hq
      refine ⟨mm', ?_, by rw [hit]; exact q2⟩
      simp only [m_vars_sides_l1]
      rw [decide_eq_true (show (i : Int) < (a.l.length : Int) by omega), cond_true, getI hs, Option.bind_some, show (bif s.plus then some 1 else some 2 : Option Int) = some (sd s.plus) by cases s.plus <;> rfl, Option.bind_some, q1, Option.bind_some, grd_pos (by omega)])
    (by
      rintro n q hq
      refine ⟨q, ?_, by rw [List.take_length] at hq; exact ⟨hq.1, hq.2.1, by have := hq.2.2; omega⟩⟩
      simp only [m_vars_sides_l1]
      rw [decide_eq_false (by omega), cond_false]) (by rw [FUv]; omega) [] ⟨fun v => by simp [mget, bits, occ], by simp, by simp⟩
  exact ⟨o, by rw [e1, Option.bind_some], e2⟩
theorem keys_sorted {a : AutoAuto} {mm : List (Int × Int)} {m : Nat} (h : SideOk a.l m mm) : ((mm.map (·.1)).mergeSort fun x y => decide (x ≤ y)) = varsA a := by
  unfold varsA
  refine setC_of ?_ fun x => ?_
  · have h1 := sortI_sorted (mm.map (·.1))
    have h2 : ((mm.map (·.1)).mergeSort fun x y => decide (x ≤ y)).Nodup := (List.mergeSort_perm _ _).nodup_iff.2 h.2.1
    have h3 := List.Pairwise.and h1 h2
    exact h3.imp (fun h => by have := h.1; have := h.2; omega)
  · rw [List.mem_mergeSort]
    have h1 := h.1 x
    have h2 : x ∈ mm.map (·.1) ↔ ¬ bits a.l x = 0 := by
      constructor
      · intro hx hb
        rw [if_pos hb] at h1
        exact mget_none.1 h1 hx
      · intro hb
        refine Classical.byContradiction fun hx => ?_
        rw [mget_none.2 hx, if_neg hb] at h1
        cases h1
    rw [h2, bits_none, Classical.not_not]
    simp [List.mem_flatMap]
end Go.Proofs.YtafphfokopkhdaaGreat
set_option linter.unusedVariables false
set_option linter.unusedSimpArgs false
set_option maxRecDepth 100000
namespace Go.Proofs.YtafphfokopkhdaaGreat
open Go.V
open Classical
theorem nO_r1 : ∀ l s, m_auto_normO_r1 l s = m_auto_norm_r1 l s
  | [], (a, b) => rfl
  | x :: l, (a, b) => by simp only [m_auto_normO_r1, m_auto_norm_r1, nO_r1 l]
theorem nO_l2 (a : AutoAuto) (l1 l2 : List Int) : ∀ n s, m_auto_normO_l2 a l1 l2 n s = m_auto_norm_l2 a l1 l2 n s
  | 0, (_, _, _) => rfl
  | n + 1, (x, y, z) => by simp only [m_auto_normO_l2, m_auto_norm_l2, nO_l2 a l1 l2 n]
theorem normO_eq (a : AutoAuto) : m_auto_normO a = m_auto_norm a := by
  unfold m_auto_normO m_auto_norm
  simp only [nO_r1, nO_l2]
theorem NormO_ok {a : AutoAuto} (h : AB a) (hm : mayP a = 0) : m_auto_NormO a = some (0, normP a) := by
  unfold m_auto_NormO
  rw [may_eq a h, Option.bind_some, hm, show (!decide ((0 : Int) = 0)) = false from rfl, cond_false, normO_eq, norm_eq (led_of h hm)]
  rfl
theorem NormO_no {a : AutoAuto} (h : AB a) (hm : ¬ mayP a = 0) : m_auto_NormO a = some (mayP a, ⟨[], 0⟩) := by
  unfold m_auto_NormO
  rw [may_eq a h, Option.bind_some, decide_eq_false hm, Bool.not_false, cond_true]
noncomputable def sidesP (a : AutoAuto) : List VarsUse := (varsA a).map fun v => ⟨v, bits a.l v⟩
theorem Sides_l1_eq {a : AutoAuto} (h : AB a) {mm : List (Int × Int)} (hm : SideOk a.l 100000 mm) : m_vars_Sides_l1 mm FU (0, []) = some (sidesP a) := by
  have hk := keys_sorted hm
  have hlen := varsA_len h
  have h1 := loop_map (φ := fun n i s => m_vars_Sides_l1 mm n (i, s)) (l := varsA a) (fun v => (⟨v, (mget mm v).getD 0⟩ : VarsUse)) id 0 (by
    intro n i x s hx hi hs
    simp only [m_vars_Sides_l1]
    rw [hk, decide_eq_true (by omega), cond_true, getI hx, Option.bind_some, grd_pos (by simp only [List.length_cons, List.length_nil]; omega), grd_pos (by omega)]) (by
    intro n s hs
    simp only [m_vars_Sides_l1]
    rw [hk, decide_eq_false (by omega), cond_false]; rfl) (by rw [FUv]; omega) [] rfl
  refine h1.trans ?_
  simp only [id, List.nil_append]
  unfold sidesP
  congr 1
  apply List.map_congr_left
  intro v hv
  rw [hm.1 v]
  split
  · rename_i h0; rw [h0]; rfl
  · rfl
theorem Sides_ok {a : AutoAuto} (h : AB a) (hm : mayP a = 0) : m_vars_Sides a = some (sidesP (normP a), 0) := by
  have hn := norm_AB (led_of h hm)
  obtain ⟨mm, e, hk⟩ := sides_eq (normP a) hn
  unfold m_vars_Sides
  rw [NormO_ok h hm]
  simp only [Option.bind_some, decide_true, Bool.not_true, cond_false]
  rw [show (⟨(normP a).l, (normP a).start⟩ : AutoAuto) = normP a from rfl, e, Option.bind_some, grd_pos (by have := hk.2.2; omega), Sides_l1_eq hn hk, Option.bind_some]
theorem takeS {α : Type} {l : List α} {i : Nat} {x : α} (h : l[i]? = some x) : l.take (i + 1) = l.take i ++ [x] := by
  have hi := (List.getElem?_eq_some_iff.1 h).1
  rw [List.take_succ_eq_append_getElem hi]
  rw [List.getElem?_eq_getElem hi] at h
  rw [Option.some.inj h]
theorem set_mid {α : Type} {A B : List α} {x y : α} {i : Nat} (h : A.length = i) : (A ++ x :: B).set i y = A ++ y :: B := by
  subst h
  induction A with
  | nil => rfl
  | cons a A ih => simp only [List.cons_append, List.length_cons, List.set_cons_succ, ih]
def lookP (F : List (Int × Int)) (v : Int) : List Int := (F.filter fun p => decide (p.1 = v) && decide (0 ≤ p.2)).map (·.2)
theorem look_len (F : List (Int × Int)) (v : Int) : (lookP F v).length ≤ F.length := by
  unfold lookP
  rw [List.length_map]
  exact List.length_filter_le _ _
theorem look_mem {F : List (Int × Int)} {v z : Int} : z ∈ lookP F v ↔ (v, z) ∈ F ∧ 0 ≤ z := by
  unfold lookP
  simp only [List.mem_map, List.mem_filter, Bool.and_eq_true, decide_eq_true_eq]
  constructor
  · rintro ⟨⟨a, b⟩, ⟨h1, h2, h3⟩, h4⟩
    simp only at h2 h3 h4
    subst h2 h4
    exact ⟨h1, h3⟩
  · rintro ⟨h1, h2⟩
    exact ⟨(v, z), ⟨h1, rfl, h2⟩, rfl⟩
theorem With_l3_eq (F : List (Int × Int)) (s : AutoState) (k : Nat) (v : Int) (hv : s.vars[k]? = some v) (hF : F.length ≤ 100000) (l0 : List Int) (h0 : l0.length ≤ 10000000) :
    m_syntagmaref28_With_l3 (F.map (·.1)) (F.map (·.2)) s (k : Int) FU (0, l0) = some (l0 ++ lookP F v) := by
  obtain ⟨o, e1, e2⟩ := loop_rng (φ := fun n i q => m_syntagmaref28_With_l3 (F.map (·.1)) (F.map (·.2)) s (k : Int) n (i, q)) (l := F) (fun i q => q = l0 ++ lookP (F.take i) v) (fun o => o = l0 ++ lookP F v)
    (by
      rintro n i ⟨f, t⟩ q hx hi rfl
      left
      have hl := look_len (F.take i) v
      have hl2 : (F.take i).length ≤ 100000 := by rw [List.length_take]; omega
      have h1 : idx (F.map (·.1)) (i : Int) = some f := getI (by rw [List.getElem?_map, hx]; rfl)
      have h2 : idx (F.map (·.2)) (i : Int) = some t := getI (by rw [List.getElem?_map, hx]; rfl)
      refine ⟨_, ?_, rfl⟩
      have hlk : lookP (F.take (i + 1)) v = lookP (F.take i) v ++ lookP [(f, t)] v := by
        rw [takeS hx]; unfold lookP; rw [List.filter_append, List.map_append]
      rw [hlk]
      simp only [m_syntagmaref28_With_l3]
      rw [decide_eq_true (show (i : Int) < ((F.map (·.1)).length : Int) by rw [List.length_map]; omega), cond_true, h1, Option.bind_some, getI hv, Option.bind_some, h2, Option.bind_some]
      by_cases hf : f = v
      · rw [decide_eq_true hf, cond_true]
        by_cases ht : 0 ≤ t
        · rw [decide_eq_true ht, cond_true, Option.bind_some, grd_pos (by simp only [List.length_append, List.length_cons, List.length_nil]; omega), grd_pos (by omega)]
          simp [lookP, hf, ht]
        · rw [decide_eq_false ht, cond_false, grd_pos (by omega)]
          simp [lookP, ht]
      · rw [decide_eq_false hf, cond_false, grd_pos (by omega)]
        simp [lookP, hf])
    (by
      rintro n q rfl
      refine ⟨_, ?_, rfl⟩
      simp only [m_syntagmaref28_With_l3]
      rw [decide_eq_false (by rw [List.length_map]; omega), cond_false, List.take_length]) (by rw [FUv]; omega) l0 (by simp [lookP])
  rw [e1, e2]
theorem flat_look_len (F : List (Int × Int)) : ∀ l : List Int, (l.flatMap (lookP F)).length ≤ F.length * l.length
  | [] => by simp
  | v :: l => by
    have h1 := flat_look_len F l
    have h2 := look_len F v
    rw [List.flatMap_cons, List.length_append, List.length_cons, Nat.mul_add]
    omega
theorem With_l2_eq (F : List (Int × Int)) (s : AutoState) (hF : F.length ≤ 100000) (hs : s.vars.length ≤ 40) : m_syntagmaref28_With_l2 (F.map (·.1)) (F.map (·.2)) s FU (0, []) = some (s.vars.flatMap (lookP F)) := by
  obtain ⟨o, e1, e2⟩ := loop_rng (φ := fun n i q => m_syntagmaref28_With_l2 (F.map (·.1)) (F.map (·.2)) s n (i, q)) (l := s.vars) (fun i q => q = (s.vars.take i).flatMap (lookP F)) (fun o => o = s.vars.flatMap (lookP F))
    (by
      rintro n i x q hx hi rfl
      left
      have hl := flat_look_len F (s.vars.take i)
      have hl2 : (s.vars.take i).length ≤ 40 := by rw [List.length_take]; omega
      have hl3 := Nat.mul_le_mul hF hl2
      refine ⟨_, ?_, rfl⟩
      rw [takeS hx, List.flatMap_append]
      simp only [m_syntagmaref28_With_l2]
      rw [decide_eq_true (show (i : Int) < (s.vars.length : Int) by omega), cond_true, With_l3_eq F s i x hx hF _ (by omega), Option.bind_some, grd_pos (by omega)]
      simp)
    (by
      rintro n q rfl
      refine ⟨_, ?_, rfl⟩
      simp only [m_syntagmaref28_With_l2]
      rw [decide_eq_false (by omega), cond_false, List.take_length]) (by rw [FUv]; omega) [] (by simp)
  rw [e1, e2]
noncomputable def stR (F : List (Int × Int)) (s : AutoState) : AutoState := ⟨s.plus, s.all, s.int, s.bool, s.str, s.arrow, s.rec_, s.tag, setC (s.vars.flatMap (lookP F)), s.dom, s.cod, s.fields, s.tags⟩
noncomputable def withR (F : List (Int × Int)) (a : AutoAuto) : AutoAuto := ⟨a.l.map (stR F), a.start⟩
theorem With_eq (F : List (Int × Int)) (a : AutoAuto) (hF : F.length ≤ 100000) (h : AB a) : m_syntagmaref28_With a (F.map (·.1)) (F.map (·.2)) = some (withR F a) := by
  have hlen := h.1
  unfold m_syntagmaref28_With
  obtain ⟨o, e1, e2⟩ := loop_rng (φ := fun n i q => m_syntagmaref28_With_l1 a (F.map (·.1)) (F.map (·.2)) n (i, q)) (l := a.l) (fun i q => q = ((a.l.take i).map (stR F), a.start)) (fun o => o = (a.l.map (stR F), a.start))
    (by
      rintro n i s q hx hi rfl
      left
      have hs := (h.2 s (List.mem_of_getElem? hx)).1
      have hl := flat_look_len F s.vars
      have hl3 := Nat.mul_le_mul hF hs
      have hl4 : ((a.l.take i).map (stR F)).length ≤ 2001 := by rw [List.length_map, List.length_take]; omega
      refine ⟨_, ?_, rfl⟩
      rw [takeS hx, List.map_append]
      simp only [m_syntagmaref28_With_l1]
      rw [decide_eq_true (show (i : Int) < (a.l.length : Int) by omega), cond_true, getI hx, Option.bind_some, With_l2_eq F s hF hs, Option.bind_some, set_eq _ (by omega), Option.bind_some, grd_pos (by simp only [List.length_cons, List.length_nil]; omega), grd_pos (by omega)]
      rfl)
    (by
      rintro n q rfl
      refine ⟨_, ?_, rfl⟩
      simp only [m_syntagmaref28_With_l1]
      rw [decide_eq_false (by omega), cond_false, List.take_length]) (by rw [FUv]; omega) ([], a.start) (by simp)
  rw [e1, Option.bind_some, e2]
  rfl
theorem norm_vars {a : AutoAuto} (hm : mayP a = 0) {s : AutoState} (hs : s ∈ a.l) {v : Int} (hv : v ∈ s.vars) : 0 ≤ v := by
  obtain ⟨_, _, h3, _⟩ := may_ok hm
  obtain ⟨i, hi⟩ := List.getElem?_of_mem hv
  exact ((h3 s hs).2.1 i v hi).1
end Go.Proofs.YtafphfokopkhdaaGreat
set_option linter.unusedVariables false
set_option linter.unusedSimpArgs false
set_option maxRecDepth 100000
namespace Go.Proofs.YtafphfokopkhdaaGreat
open Go.V
open Classical
theorem less_eq (x y : Int) : m_cmp_Less_int x y = some (decide (x < y)) := by
  have h : m_cmp_isNaN_int x = some false := by unfold m_cmp_isNaN_int; simp
  unfold m_cmp_Less_int
  rw [h, Option.bind_some, cond_false, Option.bind_some, Bool.false_or]
theorem isnan_eq (x : Int) : m_slices_isNaN_int x = some false := by unfold m_slices_isNaN_int; simp
theorem bin_l1 (l : List Int) (t : Int) (hs : l.Pairwise (· < ·)) (hl : l.length ≤ 100000) : ∀ (n lo hi : Nat), hi - lo < n → lo ≤ hi → hi ≤ l.length → (∀ j x, j < lo → l[j]? = some x → x < t) → (∀ j x, hi ≤ j → l[j]? = some x → t ≤ x) →
    ∃ k : Nat, m_slices_BinarySearch_int_int_l1 l t n ((lo : Int), (hi : Int)) = some (k : Int) ∧ k ≤ l.length ∧ (∀ j x, j < k → l[j]? = some x → x < t) ∧ (∀ j x, k ≤ j → l[j]? = some x → t ≤ x)
  | 0, _, _, h, _, _, _, _ => by omega
  | n + 1, lo, hi, h, h1, h2, h3, h4 => by
    by_cases hlt : lo < hi
    · have hm : ((lo : Int) + (hi : Int)) / 2 = (((lo + hi) / 2 : Nat) : Int) := by omega
      have hx : l[(lo + hi) / 2]? = some (l[(lo + hi) / 2]'(by omega)) := List.getElem?_eq_getElem (by omega)
      generalize l[(lo + hi) / 2]'(by omega) = x at hx
      have hbound : (lo + hi) / 2 < hi ∧ lo ≤ (lo + hi) / 2 := by omega
      simp only [m_slices_BinarySearch_int_int_l1]
      rw [decide_eq_true (show (lo : Int) < (hi : Int) by omega), cond_true, grd_pos (by omega), grd_pos (by omega), grd_pos (by omega), hm, getI hx, Option.bind_some, less_eq, Option.bind_some]
      have hge : ∀ j y, (lo + hi) / 2 ≤ j → l[j]? = some y → x ≤ y := by
        intro j y hj hy
        rcases Nat.eq_or_lt_of_le hj with e | e
        · subst e; rw [hx] at hy; cases hy; omega
        · have hj2 := (List.getElem?_eq_some_iff.1 hy)
          have hx2 := (List.getElem?_eq_some_iff.1 hx)
          have := List.pairwise_iff_getElem.1 hs _ _ hx2.1 hj2.1 e
          rw [hx2.2, hj2.2] at this; omega
      have hle : ∀ j y, j ≤ (lo + hi) / 2 → l[j]? = some y → y ≤ x := by
        intro j y hj hy
        rcases Nat.eq_or_lt_of_le hj with e | e
        · subst e; rw [hx] at hy; cases hy; omega
        · have hj2 := (List.getElem?_eq_some_iff.1 hy)
          have hx2 := (List.getElem?_eq_some_iff.1 hx)
          have := List.pairwise_iff_getElem.1 hs _ _ hj2.1 hx2.1 e
          rw [hx2.2, hj2.2] at this; omega
      by_cases hxt : x < t
      · rw [decide_eq_true hxt, cond_true, grd_pos (by omega)]
        have := bin_l1 l t hs hl n ((lo + hi) / 2 + 1) hi (by omega) (by omega) h2 (fun j y hj hy => by have := hle j y (by omega) hy; omega) h4
        rw [show (((lo + hi) / 2 : Nat) : Int) + 1 = (((lo + hi) / 2 + 1 : Nat) : Int) by omega]
        exact this
      · rw [decide_eq_false hxt, cond_false]
        exact bin_l1 l t hs hl n lo ((lo + hi) / 2) (by omega) (by omega) (by omega) h3 (fun j y hj hy => by have := hge j y hj hy; omega)
    · refine ⟨lo, ?_, by omega, h3, fun j y hj hy => h4 j y (by omega) hy⟩
      simp only [m_slices_BinarySearch_int_int_l1]
      rw [decide_eq_false (by omega), cond_false]
theorem bin_eq (l : List Int) (t : Int) (hs : l.Pairwise (· < ·)) (hl : l.length ≤ 100000) : ∃ k : Int, m_slices_BinarySearch_int_int l t = some (k, decide (t ∈ l)) := by
  obtain ⟨k, h1, h2, h3, h4⟩ := bin_l1 l t hs hl FU 0 l.length (by rw [FUv]; omega) (Nat.zero_le _) (Nat.le_refl _) (fun j x hj => by omega) (fun j x hj hx => by have := (List.getElem?_eq_some_iff.1 hx).1; omega)
  refine ⟨k, ?_⟩
  unfold m_slices_BinarySearch_int_int
  rw [show ((0 : Int), (l.length : Int)) = (((0 : Nat) : Int), (l.length : Int)) from rfl, h1, Option.bind_some]
  have hin : ∀ x, x ∈ l → x = t → l[k]? = some t := by
    intro x hx e
    subst e
    obtain ⟨j, hj⟩ := List.getElem?_of_mem hx
    have a1 : ¬ j < k := fun h => by have := h3 j x h hj; omega
    rcases Nat.eq_or_lt_of_le (Nat.le_of_not_lt a1) with e | e
    · rw [e]; exact hj
    · have hj2 := List.getElem?_eq_some_iff.1 hj
      have hjl := hj2.1
      have hk : l[k]? = some (l[k]'(by omega)) := List.getElem?_eq_getElem (by omega)
      have := List.pairwise_iff_getElem.1 hs _ _ (by omega) hj2.1 e
      have h5 := h4 k _ (Nat.le_refl _) hk
      rw [hj2.2] at this; omega
  by_cases hkl : k < l.length
  · have hk : l[k]? = some (l[k]'hkl) := List.getElem?_eq_getElem hkl
    generalize l[k]'hkl = y at hk
    rw [decide_eq_true (show (k : Int) < (l.length : Int) by omega), cond_true, getI hk, Option.bind_some]
    by_cases hy : y = t
    · have hm : t ∈ l := by rw [← hy]; exact List.mem_of_getElem? hk
      rw [decide_eq_true hy, cond_true, Option.bind_some, decide_eq_true hm]
      rfl
    · have hm : ¬ t ∈ l := fun h => by have := hin t h rfl; rw [hk] at this; exact hy (Option.some.inj this)
      rw [decide_eq_false hy, cond_false, Option.bind_some, isnan_eq, Option.bind_some, decide_eq_false hm]
      rfl
  · have hm : ¬ t ∈ l := fun h => by have := (List.getElem?_eq_some_iff.1 (hin t h rfl)).1; omega
    rw [decide_eq_false (by omega), cond_false, Option.bind_some, decide_eq_false hm]
theorem has_eq (s : AutoState) (v : Int) (hs : s.vars.Pairwise (· < ·)) (hl : s.vars.length ≤ 40) : m_pair_has s v = some (decide (v ∈ s.vars)) := by
  obtain ⟨k, h⟩ := bin_eq s.vars v hs (by omega)
  unfold m_pair_has
  rw [h]
  rfl
def SortA (a : AutoAuto) : Prop := ∀ s ∈ a.l, s.vars.Pairwise (· < ·)
theorem tog_same (a : AutoAuto) (v w : Int) (p : Bool) (h : AB a) (hs : SortA a) : ∀ n q, m_pair_together_l1 a v w p n q = m_syntagmaref29_Together_l1 a v w p n q
  | 0, _ => rfl
  | n + 1, (b, x) => by
    simp only [m_pair_together_l1, m_syntagmaref29_Together_l1, tog_same a v w p h hs n]
    by_cases hx : x < (a.l.length : Int)
    · rw [decide_eq_true hx, cond_true, cond_true]
      cases hi : idx a.l x with
      | none => rfl
      | some s =>
        have hm : s ∈ a.l := List.mem_of_getElem? (idx_some hi).2
        have h1 := fun v => has_eq s v (hs s hm) (h.2 s hm).1
        have h2 := fun v => hasIntB_eq s.vars v (by have := (h.2 s hm).1; omega)
        rw [Option.bind_some, Option.bind_some]
        simp only [Option.bind_some, h2]
        rw [show (⟨s.plus, s.all, s.int, s.bool, s.str, s.arrow, s.rec_, s.tag, s.vars, s.dom, s.cod, s.fields, s.tags⟩ : AutoState) = s from rfl, h1, Option.bind_some, h1, Option.bind_some]
    · rw [decide_eq_false hx, cond_false, cond_false]
theorem tog_eq (a : AutoAuto) (v w : Int) (p : Bool) (h : AB a) (hs : SortA a) : m_pair_together a v w p = m_syntagmaref29_Together a v w p := by
  unfold m_pair_together m_syntagmaref29_Together
  rw [tog_same a v w p h hs]
theorem rtog_l1 (a : AutoAuto) (v w : Int) (p : Bool) (h : AB a) : ∃ o, m_syntagmaref29_Together_l1 a v w p FU (false, 0) = some o := by
  have hlen := h.1
  obtain ⟨o, e, _⟩ := loop_rng (φ := fun n i s => m_syntagmaref29_Together_l1 a v w p n (s, i)) (l := a.l) (fun _ _ => True) (fun _ => True)
    (by
      intro n i s b hx hi _
      have h2 := fun v => hasIntB_eq s.vars v (by have := (h.2 s (List.mem_of_getElem? hx)).1; omega)
      simp only [m_syntagmaref29_Together_l1]
      rw [decide_eq_true (show (i : Int) < (a.l.length : Int) by omega), cond_true, getI hx, Option.bind_some, Option.bind_some, h2, Option.bind_some, Option.bind_some, h2, Option.bind_some]
      cases (!(s.plus == p)) with
      | true => left; exact ⟨b, by rw [cond_true, grd_pos (by omega)], trivial⟩
      | false =>
        rw [cond_false]
        cases (!(decide (v ∈ s.vars) == decide (w ∈ s.vars))) with
        | true => right; exact ⟨_, by rw [cond_true], trivial⟩
        | false => left; exact ⟨_, by rw [cond_false, grd_pos (by omega)], trivial⟩)
    (by
      intro n s _
      refine ⟨.go s, ?_, trivial⟩
      simp only [m_syntagmaref29_Together_l1]
      rw [decide_eq_false (by omega), cond_false]) (by rw [FUv]; omega) false trivial
  exact ⟨o, e⟩
def togP (a : AutoAuto) (v w : Int) (p : Bool) : Bool := (m_syntagmaref29_Together a v w p).getD false
theorem rtog_eq (a : AutoAuto) (v w : Int) (p : Bool) (h : AB a) : m_syntagmaref29_Together a v w p = some (togP a v w p) := by
  obtain ⟨o, e⟩ := rtog_l1 a v w p h
  have : ∃ b, m_syntagmaref29_Together a v w p = some b := by
    unfold m_syntagmaref29_Together
    rw [e, Option.bind_some]
    cases o with
    | ret r => exact ⟨r, by rw [ret_on]⟩
    | go b => exact ⟨_, by rw [go_on]⟩
  obtain ⟨b, hb⟩ := this
  unfold togP
  rw [hb]; rfl
theorem tog_ne (a : AutoAuto) (v w : Int) (p : Bool) (h : AB a) (ht : togP a v w p = true) : v ≠ w := by
  intro e
  subst e
  have hlen := h.1
  obtain ⟨o, e1, e2⟩ := loop_rng (φ := fun n i s => m_syntagmaref29_Together_l1 a v v p n (s, i)) (l := a.l) (fun _ _ => True) (fun o => o = .ret false ∨ ∃ b, o = .go b)
    (by
      intro n i s b hx hi _
      have h2 := fun v => hasIntB_eq s.vars v (by have := (h.2 s (List.mem_of_getElem? hx)).1; omega)
      simp only [m_syntagmaref29_Together_l1]
      rw [decide_eq_true (show (i : Int) < (a.l.length : Int) by omega), cond_true, getI hx, Option.bind_some, Option.bind_some, h2, Option.bind_some, Option.bind_some, h2, Option.bind_some]
      cases (!(s.plus == p)) with
      | true => left; exact ⟨b, by rw [cond_true, grd_pos (by omega)], trivial⟩
      | false =>
        rw [cond_false]
        cases (!(decide (v ∈ s.vars) == decide (v ∈ s.vars))) with
        | true => right; exact ⟨_, by rw [cond_true], .inl rfl⟩
        | false => left; exact ⟨_, by rw [cond_false, grd_pos (by omega)], trivial⟩)
    (by
      intro n s _
      refine ⟨_, ?_, .inr ⟨s, rfl⟩⟩
      simp only [m_syntagmaref29_Together_l1]
      rw [decide_eq_false (by omega), cond_false]) (by rw [FUv]; omega) false trivial
  unfold togP m_syntagmaref29_Together at ht
  rw [e1, Option.bind_some] at ht
  rcases e2 with rfl | ⟨b, rfl⟩
  · rw [ret_on] at ht; cases ht
  · rw [go_on] at ht; simp at ht
end Go.Proofs.YtafphfokopkhdaaGreat
set_option linter.unusedVariables false
set_option linter.unusedSimpArgs false
set_option maxRecDepth 100000
namespace Go.Proofs.YtafphfokopkhdaaGreat
open Go.V
open Classical
theorem loop_first {R : Type} {l : List Int} {φ : Nat → Int → Option (Out R Unit)} (s : Nat) (q : Int → Bool) (g : Int → R)
    (step : ∀ n (i : Nat) x, s ≤ i → l[i]? = some x → i < l.length → (q x = false → φ (n + 1) (i : Int) = φ n ((i : Int) + 1)) ∧ (q x = true → φ (n + 1) (i : Int) = some (.ret (g x))))
    (stop : ∀ n, φ (n + 1) (l.length : Int) = some (.go ())) : ∀ (n i : Nat) (t : List Int), l.drop i = t → s ≤ i → i ≤ l.length → l.length - i < n → φ n (i : Int) = some (match t.find? q with | some x => .ret (g x) | none => .go ())
  | 0, i, t, _, _, _, h => by omega
  | n + 1, i, [], ht, _, hi, hn => by
    have := drop_len ht hi
    simp only [List.length_nil] at this
    rw [show i = l.length by omega, stop]
    rfl
  | n + 1, i, x :: t, ht, hs, hi, hn => by
    have hL := drop_len ht hi
    simp only [List.length_cons] at hL
    have hx : l[i]? = some x := by
      have := congrArg (·[0]?) ht
      simpa [List.getElem?_drop] using this
    obtain ⟨h1, h2⟩ := step n i x hs hx (by omega)
    cases hq : q x with
    | true => rw [h2 hq, List.find?_cons, hq]
    | false =>
      rw [h1 hq, List.find?_cons, hq]
      have := loop_first s q g step stop n (i + 1) t (drop_c ht) (by omega) (by omega) (by omega)
      rw [show ((i : Int) + 1) = ((i + 1 : Nat) : Int) by simp, this]
def ofP (r : Int × Int × Bool) : Out (Int × Int × Bool) Unit := bif r.2.2 then .ret r else .go ()
def firstP (P : Int → Int → Bool) : List Int → Int × Int × Bool
  | [] => (0, 0, false)
  | v :: l => match l.find? (P v) with
    | some w => (v, w, true)
    | none => firstP P l
theorem first_l1 (l : List Int) (is : Int → Int → Option Bool) (P : Int → Int → Bool) (his : ∀ v w, is v w = some (P v w)) (hl : l.length ≤ 100000) : ∀ (n i : Nat) (t : List Int), l.drop i = t → i ≤ l.length → l.length - i < n → m_pair_first_l1 l is n (i : Int) = some (ofP (firstP P t))
  | 0, i, t, _, _, h => by omega
  | n + 1, i, [], ht, hi, hn => by
    have := drop_len ht hi
    simp only [List.length_nil] at this
    simp only [m_pair_first_l1]
    rw [decide_eq_false (by omega), cond_false]
    rfl
  | n + 1, i, x :: t, ht, hi, hn => by
    have hL := drop_len ht hi
    simp only [List.length_cons] at hL
    have hx : l[i]? = some x := by
      have := congrArg (·[0]?) ht
      simpa [List.getElem?_drop] using this
    have hin : m_pair_first_l2 is x t FU 0 = some (match t.find? (P x) with | some w => .ret (x, w, true) | none => .go ()) := by
      have := loop_first (φ := m_pair_first_l2 is x t) (l := t) 0 (P x) (fun w => (x, w, true)) (by
        intro n i y _ hy hi
        simp only [m_pair_first_l2]
        rw [decide_eq_true (show (i : Int) < (t.length : Int) by omega), cond_true, getI hy, Option.bind_some, his, Option.bind_some]
        refine ⟨fun h => by rw [h, cond_false, grd_pos (by omega)], fun h => by rw [h, cond_true]⟩) (by
        intro n
        simp only [m_pair_first_l2]
        rw [decide_eq_false (by omega), cond_false]) FU 0 t rfl (Nat.zero_le _) (Nat.zero_le _) (by rw [FUv]; omega)
      exact this
    have ih := first_l1 l is P his hl n (i + 1) t (drop_c ht) (by omega) (by omega)
    rw [show ((i + 1 : Nat) : Int) = (i : Int) + 1 by simp] at ih
    simp only [m_pair_first_l1]
    rw [decide_eq_true (show (i : Int) < (l.length : Int) by omega), cond_true, getI hx, Option.bind_some, grd_pos (by omega), sli_from1 ht, Option.bind_some, hin, Option.bind_some]
    simp only [firstP]
    cases t.find? (P x) with
    | some w => rw [ret_on]; rfl
    | none => rw [go_on, grd_pos (by omega), ih]
theorem first_eq (l : List Int) (is : Int → Int → Option Bool) (P : Int → Int → Bool) (his : ∀ v w, is v w = some (P v w)) (hl : l.length ≤ 100000) : m_pair_first l is = some (firstP P l) := by
  have h := first_l1 l is P his hl FU 0 l rfl (Nat.zero_le _) (by rw [FUv]; omega)
  unfold m_pair_first
  rw [show ((0 : Nat) : Int) = 0 from rfl] at h
  rw [h, Option.bind_some]
  have key : ∀ l, (ofP (firstP P l)).on (fun r2 => some r2) (fun _ => some ((0 : Int), (0 : Int), false)) = some (firstP P l) := by
    intro l
    induction l with
    | nil => rfl
    | cons v l ih =>
      simp only [firstP]
      cases l.find? (P v) with
      | some w => rfl
      | none => exact ih
  exact key l
noncomputable def stP (a : AutoAuto) (v : Int) : Bool := occ a.l true v && occ a.l false v
theorem stands_eq (a : AutoAuto) (v : Int) (h : AB a) : m_syntagmaref29_stands a v = some (stP a v) := by
  unfold m_syntagmaref29_stands stP
  rw [on28_eq _ _ _ h, on28_eq _ _ _ h]
  cases occ a.l true v <;> simp
def taP (a : AutoAuto) (v w : Int) : Bool := togP a v w true || togP a v w false
noncomputable def qaP (a : AutoAuto) (v w : Int) : Bool := stP a v && (stP a w && taP a v w)
theorem one_l1 (a : AutoAuto) (h : AB a) (l : List Int) (hl : l.length ≤ 100000) : ∀ (n i : Nat) (t : List Int), l.drop i = t → i ≤ l.length → l.length - i < n → m_syntagmaref29_one_l1 a l n (i : Int) = some (ofP (firstP (qaP a) t))
  | 0, i, t, _, _, h => by omega
  | n + 1, i, [], ht, hi, hn => by
    have := drop_len ht hi
    simp only [List.length_nil] at this
    simp only [m_syntagmaref29_one_l1]
    rw [decide_eq_false (by omega), cond_false]
    rfl
  | n + 1, i, x :: t, ht, hi, hn => by
    have hL := drop_len ht hi
    simp only [List.length_cons] at hL
    have hx : l[i]? = some x := by
      have := congrArg (·[0]?) ht
      simpa [List.getElem?_drop] using this
    have hin : m_syntagmaref29_one_l2 a l (i : Int) FU ((i : Int) + 1) = some (match t.find? (qaP a x) with | some w => .ret (x, w, true) | none => .go ()) := by
      have := loop_first (φ := m_syntagmaref29_one_l2 a l (i : Int)) (l := l) (i + 1) (qaP a x) (fun w => (x, w, true)) (by
        intro n k y _ hy hk
        simp only [m_syntagmaref29_one_l2]
        rw [decide_eq_true (show (k : Int) < (l.length : Int) by omega), cond_true, getI hx, Option.bind_some, stands_eq _ _ h, Option.bind_some]
        have hg : InR ((k : Int) + 1) := by unfold InR; omega
        cases hsx : stP a x with
        | false =>
          have hq : qaP a x y = false := by unfold qaP; rw [hsx]; rfl
          rw [cond_false, hq]
          exact ⟨fun _ => grd_pos hg, fun h => (by cases h)⟩
        | true =>
          rw [cond_true, getI hy, Option.bind_some, stands_eq _ _ h, Option.bind_some]
          cases hsy : stP a y with
          | false =>
            have hq : qaP a x y = false := by unfold qaP; rw [hsx, hsy]; rfl
            rw [cond_false, hq]
            exact ⟨fun _ => grd_pos hg, fun h => (by cases h)⟩
          | true =>
            rw [cond_true, Option.bind_some, Option.bind_some, rtog_eq _ _ _ _ h, Option.bind_some]
            cases ht1 : togP a x y true with
            | true =>
              have hq : qaP a x y = true := by unfold qaP taP; rw [hsx, hsy, ht1]; rfl
              rw [cond_true, Option.bind_some, Option.bind_some, hq]
              exact ⟨fun h => (by cases h), fun _ => rfl⟩
            | false =>
              rw [cond_false, Option.bind_some, Option.bind_some, rtog_eq _ _ _ _ h, Option.bind_some]
              cases ht2 : togP a x y false with
              | true =>
                have hq : qaP a x y = true := by unfold qaP taP; rw [hsx, hsy, ht1, ht2]; rfl
                rw [cond_true, Option.bind_some, Option.bind_some, hq]
                exact ⟨fun h => (by cases h), fun _ => rfl⟩
              | false =>
                have hq : qaP a x y = false := by unfold qaP taP; rw [hsx, hsy, ht1, ht2]; rfl
                rw [cond_false, hq]
                exact ⟨fun _ => grd_pos hg, fun h => (by cases h)⟩) (by
        intro n
        simp only [m_syntagmaref29_one_l2]
        rw [decide_eq_false (by omega), cond_false]) FU (i + 1) t (drop_c ht) (Nat.le_refl _) (by omega) (by rw [FUv]; omega)
      rw [show ((i + 1 : Nat) : Int) = (i : Int) + 1 by simp] at this
      exact this
    have ih := one_l1 a h l hl n (i + 1) t (drop_c ht) (by omega) (by omega)
    rw [show ((i + 1 : Nat) : Int) = (i : Int) + 1 by simp] at ih
    simp only [m_syntagmaref29_one_l1]
    rw [decide_eq_true (show (i : Int) < (l.length : Int) by omega), cond_true, grd_pos (by omega), hin, Option.bind_some]
    simp only [firstP]
    cases t.find? (qaP a x) with
    | some w => rw [ret_on]; rfl
    | none => rw [go_on, grd_pos (by omega), ih]
theorem ofP_on (P : Int → Int → Bool) : ∀ l, (ofP (firstP P l)).on (fun r2 => some r2) (fun _ => some ((0 : Int), (0 : Int), false)) = some (firstP P l)
  | [] => rfl
  | v :: l => by
    simp only [firstP]
    cases l.find? (P v) with
    | some w => rfl
    | none => exact ofP_on P l
theorem one_eq (a : AutoAuto) (h : AB a) : m_syntagmaref29_one a = some (firstP (qaP a) (varsA a)) := by
  have hl := varsA_len h
  have h1 := one_l1 a h (varsA a) hl FU 0 _ rfl (Nat.zero_le _) (by rw [FUv]; omega)
  unfold m_syntagmaref29_one
  rw [show ((0 : Nat) : Int) = 0 from rfl] at h1
  rw [all_eq a h, Option.bind_some, h1, Option.bind_some]
  exact ofP_on _ _
theorem firstP_filter (st : Int → Bool) (P : Int → Int → Bool) : ∀ l, firstP (fun v w => st v && (st w && P v w)) l = firstP P (l.filter st)
  | [] => rfl
  | v :: l => by
    simp only [firstP]
    cases hv : st v with
    | true =>
      rw [List.filter_cons_of_pos hv]
      have e : (l.filter st).find? (P v) = l.find? fun w => st w && P v w := by
        rw [List.find?_filter]
        congr 1
        funext a
        cases st a <;> cases P v a <;> rfl
      simp only [firstP]
      rw [e, firstP_filter st P l]
      simp only [Bool.true_and]
    | false =>
      rw [List.filter_cons_of_neg (by simp [hv]), ← firstP_filter st P l]
      have : l.find? (fun w => false && (st w && P v w)) = none := by simp
      rw [this]
theorem firstP_true {P : Int → Int → Bool} {v w : Int} : ∀ {l}, firstP P l = (v, w, true) → v ∈ l ∧ w ∈ l ∧ P v w = true
  | [], h => by simp [firstP] at h
  | x :: l, h => by
    simp only [firstP] at h
    cases hf : l.find? (P x) with
    | some y =>
      rw [hf] at h
      simp only [Prod.mk.injEq, and_true] at h
      obtain ⟨rfl, rfl⟩ := h
      exact ⟨by simp, List.mem_cons_of_mem _ (List.mem_of_find?_eq_some hf), List.find?_some hf⟩
    | none =>
      rw [hf] at h
      obtain ⟨h1, h2, h3⟩ := firstP_true h
      exact ⟨List.mem_cons_of_mem _ h1, List.mem_cons_of_mem _ h2, h3⟩
theorem bits_three {l : List AutoState} {v : Int} : decide (bits l v = 3) = (occ l true v && occ l false v) := by
  unfold bits
  cases occ l true v <;> cases occ l false v <;> rfl
theorem doubles_eq {n : AutoAuto} (h : AB n) (hm : mayP n = 0) (hn : normP n = n) : m_pair_doubles n = some ((varsA n).filter (stP n)) := by
  have hlen := varsA_len h
  unfold m_pair_doubles
  rw [Sides_ok h hm, hn]
  simp only [Option.bind_some]
  have hsl : (sidesP n).length = (varsA n).length := by unfold sidesP; rw [List.length_map]
  obtain ⟨o, e1, e2⟩ := loop_rng (φ := fun m i q => m_pair_doubles_l1 (sidesP n) m (i, q)) (l := varsA n) (fun i q => q = ((varsA n).take i).filter (stP n)) (fun o => o = (varsA n).filter (stP n))
    (by
      rintro m i v q hv hi rfl
      left
      have hs : idx (sidesP n) (i : Int) = some ⟨v, bits n.l v⟩ := getI (by unfold sidesP; rw [List.getElem?_map, hv]; rfl)
      have hl := List.length_filter_le (stP n) ((varsA n).take i)
      have hl2 : ((varsA n).take i).length ≤ 100000 := by rw [List.length_take]; omega
      refine ⟨_, ?_, rfl⟩
      rw [takeS hv, List.filter_append]
      simp only [m_pair_doubles_l1]
      rw [decide_eq_true (show (i : Int) < ((sidesP n).length : Int) by omega), cond_true, hs, Option.bind_some, bits_three]
      cases hst : (occ n.l true v && occ n.l false v) with
      | true => rw [cond_true, grd_pos (by simp only [List.length_cons, List.length_nil]; omega), grd_pos (by omega), List.filter_cons_of_pos (show stP n v = true from hst)]; rfl
      | false => rw [cond_false, grd_pos (by omega), List.filter_cons_of_neg (by rw [show stP n v = false from hst]; simp)]; simp)
    (by
      rintro m q rfl
      refine ⟨_, ?_, rfl⟩
      simp only [m_pair_doubles_l1]
      rw [decide_eq_false (by omega), cond_false, List.take_length]) (by rw [FUv]; omega) [] (by simp)
  rw [e1, Option.bind_some, e2]
theorem pick_eq {n : AutoAuto} (h : AB n) (hs : SortA n) : (m_pair_first ((varsA n).filter (stP n)) fun y0 y1 => m_pair_Merge_1 y0 y1 n) = m_syntagmaref29_one n := by
  have hl := List.length_filter_le (stP n) (varsA n)
  have hl2 := varsA_len h
  rw [first_eq _ _ (taP n) ?_ (by omega), one_eq n h]
  · congr 1
    exact (firstP_filter (stP n) (taP n) (varsA n)).symm
  · intro v w
    unfold m_pair_Merge_1 taP
    rw [tog_eq _ _ _ _ h hs, tog_eq _ _ _ _ h hs, rtog_eq _ _ _ _ h, rtog_eq _ _ _ _ h]
    cases togP n v w true <;> simp
end Go.Proofs.YtafphfokopkhdaaGreat
set_option linter.unusedVariables false
set_option linter.unusedSimpArgs false
set_option maxRecDepth 100000
namespace Go.Proofs.YtafphfokopkhdaaGreat
open Go.V
open Classical
def rho (w v u : Int) : Int := if u = w then v else u
noncomputable def mapV (f : List Int → List Int) (s : AutoState) : AutoState := ⟨s.plus, s.all, s.int, s.bool, s.str, s.arrow, s.rec_, s.tag, f s.vars, s.dom, s.cod, s.fields, s.tags⟩
noncomputable def mapA (f : List Int → List Int) (a : AutoAuto) : AutoAuto := ⟨a.l.map (mapV f), a.start⟩
noncomputable def putV (w v : Int) (l : List Int) : List Int := setC (l.map (rho w v))
theorem index_eq (l : List Int) (w : Int) (hl : l.length ≤ 100000) (hw : w ∈ l) : ∃ k : Nat, m_slices_Index_int_int l w = some (k : Int) ∧ l[k]? = some w := by
  unfold m_slices_Index_int_int
  rw [loop_find (φ := m_slices_Index_int_int_l1 l w) (l := l) (fun i => (i : Int)) (fun x => decide (w = x)) ?_ ?_ (by rw [FUv]; omega), Option.bind_some]
  · cases hf : l.findIdx? (fun x => decide (w = x)) with
    | none =>
      rw [List.findIdx?_eq_none_iff] at hf
      have := hf w hw
      simp at this
    | some k =>
      refine ⟨k, by rw [ret_on], ?_⟩
      rw [List.findIdx?_eq_some_iff_getElem] at hf
      obtain ⟨h1, h2, _⟩ := hf
      rw [List.getElem?_eq_getElem h1]
      simp at h2
      rw [h2]
  · intro n i x hx hi
    simp only [m_slices_Index_int_int_l1]
    rw [decide_eq_true (show (i : Int) < (l.length : Int) by omega), cond_true, getI hx, Option.bind_some]
    exact ⟨fun h => by rw [h, cond_false, grd_pos (by omega)], fun h => by rw [h, cond_true]⟩
  · intro n
    simp only [m_slices_Index_int_int_l1]
    rw [decide_eq_false (by omega), cond_false]
theorem put_set {l : List Int} {w v : Int} {k : Nat} (hs : l.Pairwise (· < ·)) (hk : l[k]? = some w) : setC (l.set k v) = putV w v l := by
  refine setC_ext fun z => ?_
  have hk2 := List.getElem?_eq_some_iff.1 hk
  have uniq : ∀ j, l[j]? = some w → j = k := by
    intro j hj
    have hj2 := List.getElem?_eq_some_iff.1 hj
    rcases Nat.lt_trichotomy j k with h | h | h
    · have := List.pairwise_iff_getElem.1 hs _ _ hj2.1 hk2.1 h; rw [hj2.2, hk2.2] at this; omega
    · exact h
    · have := List.pairwise_iff_getElem.1 hs _ _ hk2.1 hj2.1 h; rw [hj2.2, hk2.2] at this; omega
  rw [List.mem_map]
  constructor
  · intro hz
    obtain ⟨j, hj⟩ := List.getElem?_of_mem hz
    rw [List.getElem?_set] at hj
    split at hj
    · rename_i e
      rw [if_pos hk2.1] at hj
      cases hj
      exact ⟨w, List.mem_of_getElem? hk, by unfold rho; rw [if_pos rfl]⟩
    · rename_i e
      exact ⟨z, List.mem_of_getElem? hj, by unfold rho; rw [if_neg]; intro ez; subst ez; exact e (uniq j hj).symm⟩
  · rintro ⟨u, hu, rfl⟩
    obtain ⟨j, hj⟩ := List.getElem?_of_mem hu
    refine List.mem_of_getElem? (i := j) ?_
    rw [List.getElem?_set]
    unfold rho
    by_cases e : k = j
    · subst e
      rw [hk] at hj
      cases hj
      rw [if_pos rfl, if_pos hk2.1, if_pos rfl]
    · rw [if_neg e, hj, if_neg (fun ew => e (uniq j (by rw [hj, ew])).symm)]
theorem put_same {l : List Int} {w v : Int} (hs : l.Pairwise (· < ·)) (hw : w ∉ l) : putV w v l = l := by
  refine (setC_of hs fun z => ?_).symm
  rw [List.mem_map]
  constructor
  · intro hz; exact ⟨z, hz, by unfold rho; rw [if_neg]; intro e; subst e; exact hw hz⟩
  · rintro ⟨u, hu, rfl⟩
    have hne : ¬ u = w := by intro e; subst e; exact hw hu
    unfold rho
    rw [if_neg hne]; exact hu
theorem replace_eq {n : AutoAuto} (h : AB n) (hs : SortA n) (w v : Int) : m_pair_replace n w v = some (mapA (putV w v) n) := by
  have hlen := h.1
  unfold m_pair_replace
  obtain ⟨o, e1, e2⟩ := loop_rng (φ := fun m i q => m_pair_replace_l1 n w v m (i, q)) (l := n.l) (fun i q => q = (n.l.take i).map (mapV (putV w v)) ++ n.l.drop i) (fun o => o = mapA (putV w v) n)
    (by
      rintro m i s q hx hi rfl
      left
      have hd := drop_get hx
      have hm := List.mem_of_getElem? hx
      have hA : ((n.l.take i).map (mapV (putV w v))).length = i := by rw [List.length_map, List.length_take]; omega
      have hsl := (h.2 s hm).1
      have hg : ((n.l.take i).map (mapV (putV w v)) ++ n.l.drop i)[i]? = some s := by
        rw [List.getElem?_append_right (by omega), hd, hA, Nat.sub_self]; rfl
      have hi2 : InR ((i : Int) + 1) := by unfold InR; omega
      by_cases hw : w ∈ s.vars
      · obtain ⟨k, q1, q2⟩ := index_eq s.vars w (by omega) hw
        refine ⟨_, ?_, rfl⟩
        have hset : ((n.l.take i).map (mapV (putV w v)) ++ n.l.drop i).set ((i : Int)).toNat (mapV (putV w v) s) = (n.l.take (i + 1)).map (mapV (putV w v)) ++ n.l.drop (i + 1) := by
          rw [hd, Int.toNat_natCast, set_mid hA, takeS hx, List.map_append, List.append_assoc]; rfl
        rw [← hset]
        simp only [m_pair_replace_l1]
        rw [decide_eq_true (show (i : Int) < (n.l.length : Int) by omega), cond_true, getI hg, Option.bind_some, has_eq s w (hs s hm) hsl, Option.bind_some, decide_eq_true hw, Bool.not_true, cond_false, grd_pos (by omega), q1, Option.bind_some, getI q2, Option.bind_some, Int.toNat_natCast, grd_pos (by rw [List.length_set]; omega), grd_pos hi2]
        have hp := put_set (v := v) (hs s hm) q2
        unfold setC at hp
        rw [hp]
        rfl
      · refine ⟨(n.l.take i).map (mapV (putV w v)) ++ n.l.drop i, ?_, ?_⟩
        · simp only [m_pair_replace_l1]
          rw [decide_eq_true (show (i : Int) < (n.l.length : Int) by omega), cond_true, getI hg, Option.bind_some, has_eq s w (hs s hm) hsl, Option.bind_some, decide_eq_false hw, Bool.not_false, cond_true, grd_pos hi2]
        · rw [takeS hx, List.map_append, List.append_assoc, hd]
          have : mapV (putV w v) s = s := by unfold mapV; rw [put_same (hs s hm) hw]
          simp only [List.map_cons, List.map_nil, this, List.cons_append, List.nil_append])
    (by
      rintro m q rfl
      refine ⟨_, ?_, rfl⟩
      simp only [m_pair_replace_l1]
      rw [decide_eq_false (by omega), cond_false, List.take_length, List.drop_length, List.append_nil]
      rfl) (by rw [FUv]; omega) n.l (by simp)
  rw [e1, e2]
noncomputable def putT (w v : Int) (a : AutoAuto) : List (Int × Int) := (varsA a).map fun u => (u, rho w v u)
theorem merge_l2 (v w : Int) (l : List Int) (hl : l.length ≤ 100000) : m_syntagmaref29_Merge_l2 v w l FU (0, []) = some (l.map (rho w v)) := by
  have h1 := loop_map (φ := fun n i s => m_syntagmaref29_Merge_l2 v w l n (i, s)) (l := l) (rho w v) id 0 (by
    intro n i x s hx hi hs
    simp only [m_syntagmaref29_Merge_l2]
    rw [decide_eq_true (show (i : Int) < (l.length : Int) by omega), cond_true, getI hx, Option.bind_some, Option.bind_some]
    unfold rho
    by_cases hxw : x = w
    · rw [decide_eq_true hxw, cond_true, grd_pos (by simp only [List.length_cons, List.length_nil]; omega), grd_pos (by omega), if_pos hxw]
    · rw [decide_eq_false hxw, cond_false, grd_pos (by simp only [List.length_cons, List.length_nil]; omega), grd_pos (by omega), if_neg hxw]) (by
    intro n s hs
    simp only [m_syntagmaref29_Merge_l2]
    rw [decide_eq_false (by omega), cond_false]; rfl) (by rw [FUv]; omega) [] rfl
  refine h1.trans ?_
  simp only [id, List.nil_append]
theorem With_put {n : AutoAuto} (h : AB n) (hm : mayP n = 0) {w v : Int} (hv : 0 ≤ v) : m_syntagmaref28_With n (varsA n) ((varsA n).map (rho w v)) = some (mapA (putV w v) n) := by
  have hlen := varsA_len h
  have e1 : varsA n = (putT w v n).map (·.1) := by unfold putT; rw [List.map_map]; exact (List.map_id (varsA n)).symm
  have e2 : (varsA n).map (rho w v) = (putT w v n).map (·.2) := by unfold putT; rw [List.map_map]; rfl
  have hl : (putT w v n).length ≤ 100000 := by unfold putT; rw [List.length_map]; exact hlen
  have hw := With_eq (putT w v n) n hl h
  rw [← e1, ← e2] at hw
  rw [hw]
  unfold withR mapA
  congr 2
  apply List.map_congr_left
  intro s hs
  unfold stR mapV
  congr 1
  refine setC_ext fun z => ?_
  simp only [List.mem_flatMap, List.mem_map]
  have hnn : ∀ u ∈ s.vars, 0 ≤ rho w v u := by
    intro u hu
    unfold rho
    split
    · exact hv
    · exact norm_vars hm hs hu
  constructor
  · rintro ⟨u, hu, hz⟩
    rw [look_mem] at hz
    obtain ⟨hz, _⟩ := hz
    unfold putT at hz
    obtain ⟨u2, _, e⟩ := List.mem_map.1 hz
    obtain ⟨e1, e2⟩ := Prod.mk.inj e
    subst e1
    exact ⟨_, hu, e2⟩
  · rintro ⟨u, hu, rfl⟩
    refine ⟨u, hu, look_mem.2 ⟨?_, hnn u hu⟩⟩
    unfold putT
    exact List.mem_map.2 ⟨u, varsA_mem.2 ⟨s, hs, hu⟩, rfl⟩
theorem setC_nil : setC [] = [] := (setC_of List.Pairwise.nil (by simp)).symm
theorem idx_map {α β : Type} (f : α → β) (l : List α) (k : Int) : idx (l.map f) k = (idx l k).map f := by
  unfold idx
  split
  · rw [List.getElem?_map]
  · rfl
theorem mapA_on (f : List Int → List Int) (a : AutoAuto) (k : Int) (p : Bool) : onP (mapA f a) k p = onP a k p := by
  unfold onP mapA
  simp only [idx_map]
  cases idx a.l k <;> rfl
theorem mapA_st (f : List Int → List Int) (hf : f [] = []) (a : AutoAuto) (k : Int) : stA (mapA f a) k = mapV f (stA a k) := by
  unfold stA mapA
  simp only [idx_map]
  cases idx a.l k with
  | some s => rfl
  | none => simp [mapV, st0, hf]
theorem mapA_norm (f : List Int → List Int) (hf : f [] = []) (a : AutoAuto) : normP (mapA f a) = mapA f (normP a) := by
  have hl : (mapA f a).l.length = a.l.length := by unfold mapA; rw [List.length_map]
  have hnx : nxA (mapA f a) = nxA a := by
    funext k
    unfold nxA
    rw [mapA_st f hf]
    rfl
  have ho : orderP (mapA f a) = orderP a := by
    unfold orderP
    rw [hnx, hl]
    rfl
  have ht : toP (mapA f a) = toP a := by
    unfold toP
    rw [ho, hl]
  unfold normP
  rw [ho, ht]
  unfold mapA
  congr 1
  rw [List.map_map]
  apply List.map_congr_left
  intro k _
  have := mapA_st f hf a k
  unfold mapA at this
  rw [this]
  rfl
def NF (n : AutoAuto) : Prop := AB n ∧ mayP n = 0 ∧ normP n = n
theorem num_sorted {l : List Int} (h : ∀ i x, l[i]? = some x → numP l i x) : l.Pairwise (· < ·) := by
  have key : ∀ (d i : Nat) x y, l[i]? = some x → l[i + d + 1]? = some y → x < y := by
    intro d
    induction d with
    | zero => intro i x y hx hy; exact (h (i + 1) y hy).2.2 (by omega) x (by simpa using hx)
    | succ d ih =>
      intro i x y hx hy
      have hlt := (List.getElem?_eq_some_iff.1 hy).1
      have hz : l[i + d + 1]? = some (l[i + d + 1]'(by omega)) := List.getElem?_eq_getElem (by omega)
      have h1 := ih i x _ hx hz
      have h2 := (h (i + (d + 1) + 1) y hy).2.2 (by omega) _ (by rw [show i + (d + 1) + 1 - 1 = i + d + 1 by omega]; exact hz)
      omega
  rw [List.pairwise_iff_getElem]
  intro i j hi hj hij
  exact key (j - i - 1) i _ _ (List.getElem?_eq_getElem hi) (by rw [show i + (j - i - 1) + 1 = j by omega]; exact List.getElem?_eq_getElem hj)
theorem sorted_num {l : List Int} (hs : l.Pairwise (· < ·)) (h : ∀ x ∈ l, 0 ≤ x ∧ x ≤ 999) : ∀ i x, l[i]? = some x → numP l i x := by
  intro i x hx
  have h1 := h x (List.mem_of_getElem? hx)
  refine ⟨h1.1, h1.2, fun hi y hy => ?_⟩
  have hx2 := List.getElem?_eq_some_iff.1 hx
  have hy2 := List.getElem?_eq_some_iff.1 hy
  have := List.pairwise_iff_getElem.1 hs _ _ hy2.1 hx2.1 (by omega)
  rw [hy2.2, hx2.2] at this
  exact this
theorem may_sort {n : AutoAuto} (hm : mayP n = 0) : SortA n := fun s hs => num_sorted ((may_ok hm).2.2.1 s hs).2.1
theorem bare_map {f : List Int → List Int} (hf : f [] = []) {s : AutoState} (h : bareP s = true) : bareP (mapV f s) = true := by
  unfold bareP at h ⊢
  unfold mapV
  by_cases hv : s.vars = []
  · simp only [hv, hf] at h ⊢
    exact h
  · have hp : decide (0 < (s.vars.length : Int)) = true := decide_eq_true (by have := List.length_pos_iff.2 hv; omega)
    rw [hp] at h
    cases ha : s.all with
    | true => rw [ha] at h; simp at h
    | false => rw [ha] at h; simpa using h
theorem map_may {f : List Int → List Int} (hf : f [] = []) {n : AutoAuto} (hm : mayP n = 0) (hg : ∀ s ∈ n.l, (f s.vars).Pairwise (· < ·) ∧ ∀ x ∈ f s.vars, 0 ≤ x ∧ x ≤ 999) : mayP (mapA f n) = 0 := by
  obtain ⟨h1, h2, h3, h4⟩ := may_ok hm
  have hl : (mapA f n).l.length = n.l.length := by unfold mapA; rw [List.length_map]
  refine may_of (by omega) (by omega) ?_ (by rw [mapA_on]; exact h4)
  intro s hs
  obtain ⟨t, ht, rfl⟩ := List.mem_map.1 (show s ∈ n.l.map (mapV f) from hs)
  obtain ⟨r1, r2, r3, r4, r5⟩ := h3 t ht
  refine ⟨bare_map hf r1, sorted_num (hg t ht).1 (hg t ht).2, r3, r4, ?_⟩
  intro i x hx
  rw [mapA_on]
  exact r5 i x hx
theorem map_AB {f : List Int → List Int} {n : AutoAuto} (h : AB n) (hf : ∀ s ∈ n.l, (f s.vars).length ≤ 40) : AB (mapA f n) := by
  refine ⟨by show (n.l.map (mapV f)).length ≤ 2001; rw [List.length_map]; exact h.1, ?_⟩
  intro s hs
  obtain ⟨t, ht, rfl⟩ := List.mem_map.1 (show s ∈ n.l.map (mapV f) from hs)
  exact ⟨hf t ht, (h.2 t ht).2.1, (h.2 t ht).2.2⟩
theorem varsA_rng {n : AutoAuto} (hm : mayP n = 0) {v : Int} (hv : v ∈ varsA n) : 0 ≤ v ∧ v ≤ 999 := by
  obtain ⟨s, hs, hvs⟩ := varsA_mem.1 hv
  obtain ⟨i, hi⟩ := List.getElem?_of_mem hvs
  have := ((may_ok hm).2.2.1 s hs).2.1 i v hi
  exact ⟨this.1, this.2.1⟩
theorem put_mem {w v z : Int} {l : List Int} : z ∈ putV w v l ↔ ∃ u ∈ l, rho w v u = z := by
  unfold putV
  rw [(setC_props _).2, List.mem_map]
theorem put_NF {n : AutoAuto} (h : NF n) {w v : Int} (hv : v ∈ varsA n) : NF (mapA (putV w v) n) := by
  obtain ⟨h1, h2, h3⟩ := h
  have hnil : putV w v [] = [] := setC_nil
  refine ⟨map_AB h1 fun s hs => ?_, map_may hnil h2 fun s hs => ⟨(setC_props _).1, fun x hx => ?_⟩, by rw [mapA_norm _ hnil, h3]⟩
  · have a1 := setC_len (s.vars.map (rho w v))
    have a2 := (h1.2 s hs).1
    rw [List.length_map] at a1
    show (setC (s.vars.map (rho w v))).length ≤ 40
    omega
  · obtain ⟨u, hu, rfl⟩ := put_mem.1 hx
    unfold rho
    split
    · exact varsA_rng h2 hv
    · exact varsA_rng h2 (varsA_mem.2 ⟨s, hs, hu⟩)
end Go.Proofs.YtafphfokopkhdaaGreat
set_option linter.unusedVariables false
set_option linter.unusedSimpArgs false
set_option maxRecDepth 100000
namespace Go.Proofs.YtafphfokopkhdaaGreat
open Go.V
open Classical
theorem merge_step {n : AutoAuto} (h : NF n) : ∃ b v w, m_syntagmaref29_one n = some (v, w, b) ∧ (∀ x f, m_pair_Merge_l1 x (f + 1) (n.start, n.l) = bif !b then some (n, x) else m_pair_Merge_l1 x f ((mapA (putV w v) n).start, (mapA (putV w v) n).l)) ∧
    (∀ f, m_syntagmaref29_Merge_l1 (f + 1) (n.l, n.start) = bif !b then some n else m_syntagmaref29_Merge_l1 f ((mapA (putV w v) n).l, (mapA (putV w v) n).start)) ∧ (b = true → v ∈ varsA n ∧ w ∈ varsA n ∧ v ≠ w) := by
  obtain ⟨h1, h2, h3⟩ := h
  have hs := may_sort h2
  have hlen := varsA_len h1
  have hone := one_eq n h1
  generalize hr : firstP (qaP n) (varsA n) = r at hone
  obtain ⟨v, w, b⟩ := r
  have hp := pick_eq h1 hs
  rw [hone] at hp
  have hd := doubles_eq h1 h2 h3
  have hm : b = true → v ∈ varsA n ∧ w ∈ varsA n ∧ v ≠ w := by
    intro e
    subst e
    obtain ⟨q1, q2, q3⟩ := firstP_true hr
    refine ⟨q1, q2, ?_⟩
    unfold qaP taP at q3
    simp only [Bool.and_eq_true, Bool.or_eq_true] at q3
    rcases q3.2.2 with q | q
    · exact tog_ne n v w _ h1 q
    · exact tog_ne n v w _ h1 q
  refine ⟨b, v, w, hone, ?_, ?_, hm⟩
  · intro x f
    simp only [m_pair_Merge_l1]
    rw [show (⟨n.l, n.start⟩ : AutoAuto) = n from rfl, hd, Option.bind_some, hp, Option.bind_some]
    cases b with
    | false => rfl
    | true =>
      simp only [Bool.not_true, cond_false]
      rw [replace_eq h1 hs, Option.bind_some]
      rfl
  · intro f
    simp only [m_syntagmaref29_Merge_l1]
    rw [show (⟨n.l, n.start⟩ : AutoAuto) = n from rfl, hone, Option.bind_some]
    cases b with
    | false => rfl
    | true =>
      have hv := (varsA_rng h2 (hm rfl).1).1
      simp only [Bool.not_true, cond_false]
      rw [all_eq n h1, Option.bind_some, merge_l2 v w (varsA n) hlen, Option.bind_some, With_put h1 h2 hv, Option.bind_some]
theorem norm_NF {a : AutoAuto} (h : AB a) (hm : mayP a = 0) : NF (normP a) := ⟨norm_AB (led_of h hm), norm_may h hm, norm_norm (led_of h hm)⟩
theorem Together_ok {a : AutoAuto} (h : AB a) (hm : mayP a = 0) (v w : Int) (p : Bool) : m_pair_Together a v w p = some (togP (normP a) v w p) := by
  have hn := norm_NF h hm
  unfold m_pair_Together
  rw [Norm_ok h hm]
  simp only [Option.bind_some, decide_true, cond_true]
  rw [show (⟨(normP a).l, (normP a).start⟩ : AutoAuto) = normP a from rfl, tog_eq _ _ _ _ hn.1 (may_sort hn.2.1), rtog_eq _ _ _ _ hn.1]
  rfl
def a29 : AutoAuto := ⟨[⟨true, false, false, false, false, true, false, false, [], 1, 2, [], []⟩, ⟨false, false, false, false, false, false, false, false, [0, 1], 0, 0, [], []⟩, ⟨true, false, false, false, false, false, true, false, [], 0, 0, [⟨[108], 3⟩, ⟨[109], 4⟩], []⟩, ⟨true, false, false, false, false, false, false, false, [0], 0, 0, [], []⟩, ⟨true, false, false, false, false, false, false, false, [1], 0, 0, [], []⟩], 0⟩
def b29 : AutoAuto := ⟨[⟨true, false, false, false, false, true, false, false, [], 1, 2, [], []⟩, ⟨false, false, false, false, false, false, false, false, [0], 0, 0, [], []⟩, ⟨true, false, false, false, false, false, true, false, [], 0, 0, [⟨[108], 3⟩, ⟨[109], 4⟩], []⟩, ⟨true, false, false, false, false, false, false, false, [0], 0, 0, [], []⟩, ⟨true, false, false, false, false, false, false, false, [0], 0, 0, [], []⟩], 0⟩
theorem a29_AB : AB a29 := ⟨by decide, by
  intro s hs
  simp only [a29, List.mem_cons, List.not_mem_nil, or_false] at hs
  rcases hs with rfl | rfl | rfl | rfl | rfl <;> exact ⟨by decide, by decide, by decide⟩⟩
theorem a29_may : mayP a29 = 0 := by
  have h := may_eq a29 a29_AB
  have h2 : m_auto_May a29 = some 0 := by rfl
  rw [h2] at h
  exact (Option.some.inj h).symm
theorem a29_norm : normP a29 = a29 := by rfl
theorem a29_NF : NF a29 := ⟨a29_AB, a29_may, a29_norm⟩
theorem a29_one : m_syntagmaref29_one a29 = some (0, 1, true) := by
  have hv : varsA a29 = [0, 1] := (setC_of (by decide) (by
    intro x
    rw [show a29.l.flatMap (·.vars) = [0, 1, 0, 1] from rfl]
    simp only [List.mem_cons, List.not_mem_nil, or_false]
    omega)).symm
  have hp : ∀ v p, occ a29.l p v = decide (a29.l.any (fun s => (s.plus == p) && decide (v ∈ s.vars)) = true) := by
    intro v p
    unfold occ
    congr 1
    rw [eq_iff_iff, List.any_eq_true]
    constructor
    · rintro ⟨s, hs, h1, h2⟩; exact ⟨s, hs, by simp [h1, h2]⟩
    · rintro ⟨s, hs, h⟩; simp at h; exact ⟨s, hs, h.1, h.2⟩
  rw [one_eq a29 a29_AB, hv]
  have h0 : stP a29 0 = true := by unfold stP; rw [hp, hp]; decide
  have h1 : stP a29 1 = true := by unfold stP; rw [hp, hp]; decide
  have ht : taP a29 0 1 = true := by rfl
  have hq : qaP a29 0 1 = true := by unfold qaP; rw [h0, h1, ht]; rfl
  simp only [firstP, List.find?_cons, hq]
theorem a29_put : mapA (putV 1 0) a29 = b29 := by
  have e1 : putV 1 0 [] = [] := setC_nil
  have e2 : putV 1 0 [0, 1] = [0] := (setC_of (by decide) (by intro x; simp [rho])).symm
  have e3 : putV 1 0 [0] = [0] := (setC_of (by decide) (by intro x; simp [rho])).symm
  have e4 : putV 1 0 [1] = [0] := (setC_of (by decide) (by intro x; simp [rho])).symm
  unfold mapA a29 b29
  simp only [List.map_cons, List.map_nil, mapV, e1, e2, e3, e4]
theorem b29_one {h : AB b29} : ∃ v w, m_syntagmaref29_one b29 = some (v, w, false) := by
  have hv : varsA b29 = [0] := (setC_of (by decide) (by
    intro x
    rw [show b29.l.flatMap (·.vars) = [0, 0, 0] from rfl]
    simp only [List.mem_cons, List.not_mem_nil, or_false]
    omega)).symm
  rw [one_eq b29 h, hv]
  exact ⟨0, 0, by simp [firstP]⟩
theorem a29_merge : m_pair_Merge a29 = some (b29, 0) := by
  obtain ⟨b, v, w, e0, e1, _, e3⟩ := merge_step a29_NF
  rw [a29_one] at e0
  simp only [Option.some.injEq, Prod.mk.injEq] at e0
  obtain ⟨rfl, rfl, rfl⟩ := e0
  have hb := put_NF a29_NF (w := 1) (e3 rfl).1
  rw [a29_put] at hb
  obtain ⟨b', v', w', f0, f1, _, _⟩ := merge_step hb
  obtain ⟨v2, w2, g⟩ := b29_one (h := hb.1)
  rw [g] at f0
  simp only [Option.some.injEq, Prod.mk.injEq] at f0
  obtain ⟨rfl, rfl, rfl⟩ := f0
  unfold m_pair_Merge
  rw [NormO_ok a29_AB a29_may, a29_norm]
  simp only [Option.bind_some, decide_true, Bool.not_true, cond_false]
  rw [show FU = (FU - 2) + 1 + 1 from rfl, e1, a29_put, Bool.not_true, cond_false, f1]
  rfl
theorem works29 : m_syntagmalaw29_works = some true := by
  have t1 : m_pair_Together a29 0 1 false = some true := by
    rw [Together_ok a29_AB a29_may, a29_norm]
    rfl
  have t2 : m_pair_Together a29 0 1 true = some false := by
    rw [Together_ok a29_AB a29_may, a29_norm]
    rfl
  have s1 : m_syntagmabase_SameInts [0] [0] = some true := by rfl
  unfold m_syntagmalaw29_works
  rw [show (⟨[(⟨true, false, false, false, false, true, false, false, ([] : List Int), 1, 2, ([] : List AutoEdge), ([] : List AutoEdge)⟩ : AutoState), (⟨false, false, false, false, false, false, false, false, [0, 1], 0, 0, ([] : List AutoEdge), ([] : List AutoEdge)⟩ : AutoState), (⟨true, false, false, false, false, false, true, false, ([] : List Int), 0, 0, [(⟨([108] : List UInt8), 3⟩ : AutoEdge), (⟨([109] : List UInt8), 4⟩ : AutoEdge)], ([] : List AutoEdge)⟩ : AutoState), (⟨true, false, false, false, false, false, false, false, [0], 0, 0, ([] : List AutoEdge), ([] : List AutoEdge)⟩ : AutoState), (⟨true, false, false, false, false, false, false, false, [1], 0, 0, ([] : List AutoEdge), ([] : List AutoEdge)⟩ : AutoState)], 0⟩ : AutoAuto) = a29 from rfl, a29_merge, t1, t2]
  have i1 : idx b29.l 1 = some ⟨false, false, false, false, false, false, false, false, [0], 0, 0, [], []⟩ := rfl
  have i4 : idx b29.l 4 = some ⟨true, false, false, false, false, false, false, false, [0], 0, 0, [], []⟩ := rfl
  simp only [Option.bind_some, decide_true, cond_true, Bool.not_false, i1, i4, s1]
  rfl
theorem autoEta (x : AutoAuto) : (⟨x.l, x.start⟩ : AutoAuto) = x := by cases x; rfl
end Go.Proofs.YtafphfokopkhdaaGreat
set_option linter.unusedVariables false
set_option linter.unusedSimpArgs false
set_option maxRecDepth 100000
namespace Go.Proofs.YtafphfokopkhdaaGreat
open Go.V
open Classical
noncomputable def bwP (a : AutoAuto) (sel : AutoState → Bool) (v : Int) : Bool := decide (∀ s ∈ a.l, v ∈ s.vars → sel s = true)
theorem bw_any (a : AutoAuto) (sel : AutoState → Bool) (v : Int) : (!a.l.any fun s => decide (v ∈ s.vars) && !sel s) = bwP a sel v := by
  unfold bwP
  rw [Bool.eq_iff_iff, Bool.not_eq_true', List.any_eq_false, decide_eq_true_eq]
  constructor
  · intro h s hs hv
    have := h s hs
    simpa [hv] using this
  · intro h s hs
    by_cases hv : v ∈ s.vars
    · simp [hv, h s hs hv]
    · simp [hv]
theorem between43_eq {a : AutoAuto} (h : AB a) (hs : SortA a) (v : Int) : m_pair_between_43 a v = some (bwP a (·.int) v) := by
  unfold m_pair_between_43
  rw [hasState_eq a.l _ (fun s => decide (v ∈ s.vars) && !s.int) ?_ (by have := h.1; omega), Option.bind_some, bw_any]
  intro s hm
  unfold m_pair_between_1_43 m_pair_Between_1
  rw [has_eq s v (hs s hm) (h.2 s hm).1]
  by_cases hv : v ∈ s.vars <;> simp [hv]
theorem between44_eq {a : AutoAuto} (h : AB a) (hs : SortA a) (v : Int) : m_pair_between_44 a v = some (bwP a (·.bool) v) := by
  unfold m_pair_between_44
  rw [hasState_eq a.l _ (fun s => decide (v ∈ s.vars) && !s.bool) ?_ (by have := h.1; omega), Option.bind_some, bw_any]
  intro s hm
  unfold m_pair_between_1_44 m_pair_Between_2
  rw [has_eq s v (hs s hm) (h.2 s hm).1]
  by_cases hv : v ∈ s.vars <;> simp [hv]
theorem between45_eq {a : AutoAuto} (h : AB a) (hs : SortA a) (v : Int) : m_pair_between_45 a v = some (bwP a (·.str) v) := by
  unfold m_pair_between_45
  rw [hasState_eq a.l _ (fun s => decide (v ∈ s.vars) && !s.str) ?_ (by have := h.1; omega), Option.bind_some, bw_any]
  intro s hm
  unfold m_pair_between_1_45 m_pair_Between_3
  rw [has_eq s v (hs s hm) (h.2 s hm).1]
  by_cases hv : v ∈ s.vars <;> simp [hv]
theorem rbetween_eq {a : AutoAuto} (h : AB a) (v k : Int) (sel : AutoState → Bool) (hk : ∀ s : AutoState, idx [s.int, s.bool, s.str] k = some (sel s)) : m_syntagmaref29_between a v k = some (bwP a sel v && stP a v) := by
  have hlen := h.1
  unfold m_syntagmaref29_between
  rw [loop_all (φ := m_syntagmaref29_between_l1 a v k) (l := a.l) false (fun _ s => v ∈ s.vars → sel s = true) ?_ ?_ (by rw [FUv]; omega), Option.bind_some]
  · unfold bwP
    by_cases hb : ∀ s ∈ a.l, v ∈ s.vars → sel s = true
    · rw [if_pos (fun i s hs => hb s (List.mem_of_getElem? hs)), go_on, stands_eq a v h, Option.bind_some, decide_eq_true hb, Bool.true_and]
    · rw [if_neg, ret_on, decide_eq_false hb, Bool.false_and]
      intro hc
      refine hb fun s hs => ?_
      obtain ⟨i, hi⟩ := List.getElem?_of_mem hs
      exact hc i s hi
  · intro n i s hx hi
    have h2 := hasIntB_eq s.vars v (by have := (h.2 s (List.mem_of_getElem? hx)).1; omega)
    have hi2 : InR ((i : Int) + 1) := by unfold InR; omega
    simp only [m_syntagmaref29_between_l1]
    rw [decide_eq_true (show (i : Int) < (a.l.length : Int) by omega), cond_true, getI hx, Option.bind_some, h2, Option.bind_some]
    by_cases hv : v ∈ s.vars
    · rw [decide_eq_true hv, cond_true, hk, Option.bind_some, Option.bind_some]
      cases hsel : sel s with
      | true => exact ⟨fun _ => by rw [Bool.not_true, cond_false, grd_pos hi2], fun hc => absurd (fun _ => rfl) hc⟩
      | false => exact ⟨fun hc => absurd (hc hv) (by simp), fun _ => by rw [Bool.not_false, cond_true]⟩
    · rw [decide_eq_false hv, cond_false, Option.bind_some, cond_false, grd_pos hi2]
      exact ⟨fun _ => rfl, fun hc => absurd (fun h => absurd h hv) hc⟩
  · intro n
    simp only [m_syntagmaref29_between_l1]
    rw [decide_eq_false (by omega), cond_false]
noncomputable def goneP (a : AutoAuto) (v : Int) : Bool := stP a v && (bwP a (·.int) v || bwP a (·.bool) v || bwP a (·.str) v)
noncomputable def keepP (a : AutoAuto) (l : List Int) : List Int := l.filter fun v => !goneP a v
theorem rBetween_l1 {a : AutoAuto} (h : AB a) (l : List Int) (hl : l.length ≤ 100000) : m_syntagmaref29_Between_l1 a l FU (0, []) = some (l.map fun v => bif goneP a v then -1 else v) := by
  have b0 := fun v => rbetween_eq h v 0 (·.int) (fun s => rfl)
  have b1 := fun v => rbetween_eq h v 1 (·.bool) (fun s => rfl)
  have b2 := fun v => rbetween_eq h v 2 (·.str) (fun s => rfl)
  have h1 := loop_map (φ := fun n i s => m_syntagmaref29_Between_l1 a l n (i, s)) (l := l) (fun v => bif goneP a v then -1 else v) id 0 (by
    intro n i x s hx hi hs
    have hi2 : InR ((i : Int) + 1) := by unfold InR; omega
    have hg : ∀ y : Int, (s.length + ([y] : List _).length) * 8 ≤ 140737488355328 := fun y => by simp only [List.length_cons, List.length_nil]; omega
    simp only [m_syntagmaref29_Between_l1]
    rw [decide_eq_true (show (i : Int) < (l.length : Int) by omega), cond_true, getI hx, Option.bind_some, show (⟨a.l, a.start⟩ : AutoAuto) = a from rfl, b0, Option.bind_some]
    unfold goneP
    cases hst : stP a x with
    | false =>
      rw [Bool.and_false, cond_false, Option.bind_some, b1, Option.bind_some, hst, Bool.and_false, cond_false, Option.bind_some, b2, Option.bind_some, hst, Bool.and_false, cond_false, Option.bind_some, grd_pos (hg _), grd_pos hi2]
      rfl
    | true =>
      rw [Bool.and_true]
      cases e0 : bwP a (·.int) x with
      | true => rw [cond_true, grd_pos (hg _), grd_pos hi2]; rfl
      | false =>
        rw [cond_false, Option.bind_some, b1, Option.bind_some, hst, Bool.and_true]
        cases e1 : bwP a (·.bool) x with
        | true => rw [cond_true, grd_pos (hg _), grd_pos hi2]; rfl
        | false =>
          rw [cond_false, Option.bind_some, b2, Option.bind_some, hst, Bool.and_true]
          cases e2 : bwP a (·.str) x with
          | true => rw [cond_true, grd_pos (hg _), grd_pos hi2]; rfl
          | false => rw [cond_false, Option.bind_some, grd_pos (hg _), grd_pos hi2]; rfl) (by
    intro n s hs
    simp only [m_syntagmaref29_Between_l1]
    rw [decide_eq_false (by omega), cond_false]; rfl) (by rw [FUv]; omega) [] rfl
  refine h1.trans ?_
  simp only [id, List.nil_append]
noncomputable def keepT (a : AutoAuto) : List (Int × Int) := (varsA a).map fun v => (v, bif goneP a v then -1 else v)
theorem rBetween_ok {a : AutoAuto} (h : AB a) (hm : mayP a = 0) : m_syntagmaref29_Between a = some (mapA (keepP (normP a)) (normP a)) := by
  obtain ⟨n1, n2, n3⟩ := norm_NF h hm
  generalize hN : normP a = n at n1 n2 n3
  have hlen := varsA_len n1
  unfold m_syntagmaref29_Between
  rw [rnorm_eq (led_of h hm), Option.bind_some, hN, show (⟨n.l, n.start⟩ : AutoAuto) = n from rfl, all_eq _ n1, Option.bind_some, rBetween_l1 n1 _ hlen, Option.bind_some]
  have e1 : varsA n = (keepT n).map (·.1) := by unfold keepT; rw [List.map_map]; exact (List.map_id (varsA n)).symm
  have e2 : ((varsA n).map fun v => bif goneP n v then -1 else v) = (keepT n).map (·.2) := by unfold keepT; rw [List.map_map]; rfl
  have hl : (keepT n).length ≤ 100000 := by unfold keepT; rw [List.length_map]; exact hlen
  have hw := With_eq (keepT n) n hl n1
  rw [← e1, ← e2] at hw
  rw [hw, Option.bind_some]
  congr 1
  show withR (keepT n) n = _
  unfold withR mapA
  congr 1
  apply List.map_congr_left
  intro s hs
  have hsv := may_sort n2 s hs
  unfold stR mapV
  congr 1
  refine (setC_of (hsv.sublist List.filter_sublist) fun z => ?_).symm
  rw [List.mem_flatMap, List.mem_filter]
  constructor
  · rintro ⟨hz, hg⟩
    refine ⟨z, hz, look_mem.2 ⟨?_, norm_vars n2 hs hz⟩⟩
    unfold keepT
    refine List.mem_map.2 ⟨z, varsA_mem.2 ⟨s, hs, hz⟩, ?_⟩
    have : goneP n z = false := by simpa using hg
    rw [this]; rfl
  · rintro ⟨v, hv, hz⟩
    obtain ⟨hz, h0⟩ := look_mem.1 hz
    unfold keepT at hz
    obtain ⟨u, _, e⟩ := List.mem_map.1 hz
    obtain ⟨q1, q2⟩ := Prod.mk.inj e
    subst q1
    cases hg : goneP n u with
    | true => rw [hg] at q2; simp at q2; omega
    | false => rw [hg] at q2; simp at q2; subst q2; exact ⟨hv, by simp [hg]⟩
/-- The program's map: what is gone. -/
theorem gone_fold (g : Int → Bool) : ∀ (ds : List Int) (mm : List (Int × Bool)) (v : Int), mget (ds.foldl (fun m v => mset m v (g v)) mm) v = if v ∈ ds then some (g v) else mget mm v
  | [], mm, v => by simp
  | d :: ds, mm, v => by
    rw [List.foldl_cons, gone_fold g ds, mget_set]
    by_cases h1 : v ∈ ds
    · simp [h1]
    · by_cases h2 : v = d
      · subst h2; simp [h1]
      · simp [h1, h2]
theorem gone_get (n : AutoAuto) (v : Int) (hv : v ∈ varsA n) : (mget (((varsA n).filter (stP n)).foldl (fun m v => mset m v (bwP n (·.int) v || bwP n (·.bool) v || bwP n (·.str) v)) []) v).getD false = goneP n v := by
  rw [gone_fold]
  unfold goneP
  cases hs : stP n v with
  | true => rw [if_pos (List.mem_filter.2 ⟨hv, hs⟩)]; rfl
  | false => rw [if_neg (fun h => by have := (List.mem_filter.1 h).2; rw [hs] at this; cases this)]; rfl
theorem keep_AB {n : AutoAuto} (h : AB n) : AB (mapA (keepP n) n) := map_AB h fun s hs => by
  have h1 := List.length_filter_le (fun v => !goneP n v) s.vars
  have := (h.2 s hs).1
  show (s.vars.filter fun v => !goneP n v).length ≤ 40
  omega
end Go.Proofs.YtafphfokopkhdaaGreat
set_option linter.unusedVariables false
set_option linter.unusedSimpArgs false
set_option maxRecDepth 100000
namespace Go.Proofs.YtafphfokopkhdaaGreat
open Go.V
open Classical
noncomputable def gvP (n : AutoAuto) (v : Int) : Bool := bwP n (·.int) v || bwP n (·.bool) v || bwP n (·.str) v
noncomputable def goneM (n : AutoAuto) (ds : List Int) : List (Int × Bool) := ds.foldl (fun m v => mset m v (gvP n v)) []
theorem Between_l1 {n : AutoAuto} (h : AB n) (hs : SortA n) (ds : List Int) (hl : ds.length ≤ 100000) : m_pair_Between_l1 n ds FU (0, []) = some (goneM n ds) := by
  obtain ⟨o, e1, e2⟩ := loop_rng (φ := fun m i q => m_pair_Between_l1 n ds m (i, q)) (l := ds) (fun i q => q = goneM n (ds.take i)) (fun o => o = goneM n ds)
    (by
      rintro m i v q hv hi rfl
      left
      have hi2 : InR ((i : Int) + 1) := by unfold InR; omega
      have hg : goneM n (ds.take (i + 1)) = mset (goneM n (ds.take i)) v (gvP n v) := by unfold goneM; rw [takeS hv, List.foldl_append]; rfl
      refine ⟨_, ?_, rfl⟩
      rw [hg]
      simp only [m_pair_Between_l1]
      rw [decide_eq_true (show (i : Int) < (ds.length : Int) by omega), cond_true, getI hv, Option.bind_some, show (⟨n.l, n.start⟩ : AutoAuto) = n from rfl, between43_eq h hs, Option.bind_some]
      unfold gvP
      cases e0 : bwP n (·.int) v with
      | true => rw [cond_true, grd_pos hi2]; rfl
      | false =>
        rw [cond_false, between44_eq h hs, Option.bind_some]
        cases e1 : bwP n (·.bool) v with
        | true => rw [cond_true, grd_pos hi2]; rfl
        | false => rw [cond_false, between45_eq h hs, Option.bind_some, grd_pos hi2]; rfl)
    (by
      rintro m q rfl
      refine ⟨_, ?_, rfl⟩
      simp only [m_pair_Between_l1]
      rw [decide_eq_false (by omega), cond_false, List.take_length]) (by rw [FUv]; omega) [] (by simp [goneM])
  rw [e1, e2]
noncomputable def cutM (mm : List (Int × Bool)) (l : List Int) : List Int := l.filter fun x => !(mget mm x).getD false
theorem Between_l2 {n : AutoAuto} (h : AB n) (mm : List (Int × Bool)) : m_pair_Between_l2 n mm FU (0, n.start, n.l) = some (n.start, n.l.map (mapV (cutM mm))) := by
  have hlen := h.1
  obtain ⟨o, e1, e2⟩ := loop_rng (φ := fun m i (q : Int × List AutoState) => m_pair_Between_l2 n mm m (i, q)) (l := n.l) (fun i q => q = (n.start, (n.l.take i).map (mapV (cutM mm)) ++ n.l.drop i)) (fun o => o = (n.start, n.l.map (mapV (cutM mm))))
    (by
      rintro m i s q hx hi rfl
      left
      have hd := drop_get hx
      have hA : ((n.l.take i).map (mapV (cutM mm))).length = i := by rw [List.length_map, List.length_take]; omega
      have hsl := (h.2 s (List.mem_of_getElem? hx)).1
      have hg : ((n.l.take i).map (mapV (cutM mm)) ++ n.l.drop i)[i]? = some s := by
        rw [List.getElem?_append_right (by omega), hd, hA, Nat.sub_self]; rfl
      have hi2 : InR ((i : Int) + 1) := by unfold InR; omega
      refine ⟨_, ?_, rfl⟩
      have hset : ((n.l.take i).map (mapV (cutM mm)) ++ n.l.drop i).set ((i : Int)).toNat (mapV (cutM mm) s) = (n.l.take (i + 1)).map (mapV (cutM mm)) ++ n.l.drop (i + 1) := by
        rw [hd, Int.toNat_natCast, set_mid hA, takeS hx, List.map_append, List.append_assoc]; rfl
      rw [← hset]
      simp only [m_pair_Between_l2]
      rw [decide_eq_true (show (i : Int) < (n.l.length : Int) by omega), cond_true, getI hg, Option.bind_some, grd_pos (by omega), Option.bind_some, grd_pos hi2]
      rfl)
    (by
      rintro m q rfl
      refine ⟨_, ?_, rfl⟩
      simp only [m_pair_Between_l2]
      rw [decide_eq_false (by omega), cond_false, List.take_length, List.drop_length, List.append_nil]) (by rw [FUv]; omega) (n.start, n.l) (by simp)
  rw [e1, e2]
theorem Between_ok {a : AutoAuto} (h : AB a) (hm : mayP a = 0) : m_pair_Between a = some (mapA (keepP (normP a)) (normP a), 0) := by
  obtain ⟨n1, n2, n3⟩ := norm_NF h hm
  unfold m_pair_Between
  rw [NormO_ok h hm]
  simp only [Option.bind_some, decide_true, Bool.not_true, cond_false]
  generalize hN : normP a = n at n1 n2 n3
  have hlen := varsA_len n1
  have hfl := List.length_filter_le (stP n) (varsA n)
  rw [show (⟨n.l, n.start⟩ : AutoAuto) = n from rfl, doubles_eq n1 n2 n3, Option.bind_some, Between_l1 n1 (may_sort n2) _ (by omega), Option.bind_some, Between_l2 n1, Option.bind_some]
  congr 2
  unfold mapA
  congr 1
  apply List.map_congr_left
  intro s hs
  unfold mapV
  congr 1
  unfold cutM keepP
  apply List.filter_congr
  intro v hv
  have := gone_get n v (varsA_mem.2 ⟨s, hs, hv⟩)
  unfold goneM gvP
  rw [this]
theorem Between_no {a : AutoAuto} (h : AB a) (hm : ¬ mayP a = 0) : m_pair_Between a = some (⟨[], 0⟩, mayP a) := by
  unfold m_pair_Between
  rw [NormO_no h hm]
  simp only [Option.bind_some]
  rw [decide_eq_false hm, Bool.not_false, cond_true]
theorem law_PairBetween (a : AutoAuto) : m_syntagmalaw29_PairBetween a = some true := by
  unfold m_syntagmalaw29_PairBetween
  obtain ⟨x, hx, ha⟩ := give_eq a
  rw [hx]
  simp only [Option.bind_some, autoEta]
  by_cases hm : mayP x = 0
  · have hk := keep_AB (norm_NF ha hm).1
    rw [Between_ok ha hm]
    simp only [Option.bind_some, autoEta]
    rw [of_eq _ ha, Option.bind_some, rmay_eq _ ha, Option.bind_some, hm, show (!decide ((0 : Int) = 0)) = false from rfl, cond_false, decide_true, cond_true, of_eq _ hk, Option.bind_some, rBetween_ok ha hm, Option.bind_some, sameList_eq _ _ hk, Option.bind_some, decide_eq_true rfl, cond_true, works29, Option.bind_some]
  · rw [Between_no ha hm]
    simp only [Option.bind_some, autoEta]
    rw [of_eq _ ha, Option.bind_some, rmay_eq _ ha, Option.bind_some, decide_eq_false hm, Bool.not_false, cond_true, works29, decide_eq_true rfl]
    rfl
end Go.Proofs.YtafphfokopkhdaaGreat
