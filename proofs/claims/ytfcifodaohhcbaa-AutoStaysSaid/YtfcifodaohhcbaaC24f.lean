/- Part C24f of the proof: contracts of the functions that are walked, and what they compute; no condition. -/
import Derived.Test.YtfcifodaohhcbaaC24e
set_option linter.unusedVariables false
set_option linter.unusedSimpArgs false
set_option maxRecDepth 100000
namespace Go.Proofs.Ytfcifodaohhcbaa
open Go.V
open Classical
theorem bfs_fuel {nx : Int → List Int} {N : Nat} (hnx : ∀ x, 0 ≤ x → x < (N : Int) → inN N (nx x)) : ∀ (m m' i : Nat) (l : List Int), N ≤ i + m → m ≤ m' → i ≤ l.length → l.Nodup → inN N l → bfs nx m' i l = bfs nx m i l := by
  intro m
  induction m with
  | zero =>
    intro m' i l hN _ hi hd hr
    have := range_len _ _ hd hr
    exact bfs_none (List.getElem?_eq_none (by omega))
  | succ m ih =>
    intro m' i l hN hm hi hd hr
    cases hx : l[i]? with
    | none => rw [bfs_none hx, bfs_none hx]
    | some x =>
      have hxr := hr x (List.mem_of_getElem? hx)
      have hil := getLt hx
      obtain ⟨e, he⟩ := addL_pre (nx x) l
      obtain ⟨m', rfl⟩ : ∃ k, m' = k + 1 := ⟨m' - 1, by omega⟩
      rw [bfs_some hx, bfs_some hx]
      exact ih m' (i + 1) _ (by omega) (by omega) (by rw [he]; simp; omega) (addL_nodup _ _ hd) (inN_add hr (hnx x hxr.1 hxr.2))
theorem next_map (to : List Int) (s : AutoState) : nextP (stateM to s) = (nextP s).map (tm to) := by
  unfold nextP stateM
  cases h : s.arrow <;> simp [Function.comp_def, edgeM]
theorem to_at {a : AutoAuto} (ha : Led a) {j : Nat} {x : Int} (h : (orderP a)[j]? = some x) : tm (toP a) x = (j : Int) := by
  obtain ⟨h1, h2, _⟩ := order_ok ha
  have hx := h2 x (List.mem_of_getElem? h)
  have := setAll_get (orderP a) 0 (List.replicate a.l.length 0) h1 h2 (by simp) j x h
  unfold tm idx
  rw [if_pos hx.1, show toP a = setAll 0 (orderP a) (List.replicate a.l.length 0) from rfl, this]
  simp
theorem norm_at {a : AutoAuto} (ha : Led a) {j : Nat} {x : Int} (h : (orderP a)[j]? = some x) : idx (normP a).l (j : Int) = some (stateM (toP a) (stA a x)) := by
  rw [idx_nat]
  simp only [normP]
  rw [List.getElem?_map, h]; rfl
theorem order_at {a : AutoAuto} (ha : Led a) {x : Int} (h : x ∈ orderP a) : ∃ j : Nat, (orderP a)[j]? = some x ∧ tm (toP a) x = (j : Int) ∧ j < (orderP a).length := by
  obtain ⟨j, hj, hj2⟩ := List.getElem_of_mem h
  have h2 : (orderP a)[j]? = some x := by rw [← hj2]; exact List.getElem?_eq_getElem hj
  exact ⟨j, h2, to_at ha h2, hj⟩
theorem norm_st {a : AutoAuto} (ha : Led a) {x : Int} (h : x ∈ orderP a) : stA (normP a) (tm (toP a) x) = stateM (toP a) (stA a x) := by
  obtain ⟨j, h1, h2, _⟩ := order_at ha h
  unfold stA
  rw [h2, norm_at ha h1]; rfl
theorem norm_nx {a : AutoAuto} (ha : Led a) {x : Int} (h : x ∈ orderP a) : nxA (normP a) (tm (toP a) x) = (nxA a x).map (tm (toP a)) := by
  unfold nxA
  rw [norm_st ha h, next_map]
theorem order_nx {a : AutoAuto} (ha : Led a) {x y : Int} (h : x ∈ orderP a) (hy : y ∈ nxA a x) : y ∈ orderP a := by
  obtain ⟨j, h1, _⟩ := order_at ha h
  exact (order_ok ha).2.2.2 j x (by omega) h1 y hy
theorem to_inj {a : AutoAuto} (ha : Led a) {x y : Int} (hx : x ∈ orderP a) (hy : y ∈ orderP a) (h : tm (toP a) x = tm (toP a) y) : x = y := by
  obtain ⟨j, h1, h2, _⟩ := order_at ha hx
  obtain ⟨k, h3, h4, _⟩ := order_at ha hy
  have : j = k := by omega
  subst this
  rw [h1] at h3
  exact Option.some.inj h3
theorem to_lt {a : AutoAuto} (ha : Led a) {x : Int} (h : x ∈ orderP a) : 0 ≤ tm (toP a) x ∧ tm (toP a) x < ((orderP a).length : Int) := by
  obtain ⟨j, h1, h2, h3⟩ := order_at ha h
  omega
theorem order_map {a : AutoAuto} (ha : Led a) : (orderP a).map (tm (toP a)) = (List.range (orderP a).length).map (fun k : Nat => (k : Int)) := by
  refine List.ext_getElem? fun j => ?_
  rw [List.getElem?_map, List.getElem?_map]
  cases h : (orderP a)[j]? with
  | none =>
    rw [List.getElem?_eq_none (by simpa using List.getElem?_eq_none_iff.1 h)]; rfl
  | some x =>
    have := getLt h
    rw [List.getElem?_range this]
    simp only [Option.map_some, to_at ha h]
theorem norm_len {a : AutoAuto} (ha : Led a) : (normP a).l.length = (orderP a).length := by simp [normP]
theorem start_mem {a : AutoAuto} (ha : Led a) : a.start ∈ orderP a := by
  obtain ⟨e, he⟩ := (order_ok ha).2.2.1
  rw [he]; simp
theorem start_to {a : AutoAuto} (ha : Led a) : tm (toP a) a.start = 0 := by
  obtain ⟨e, he⟩ := (order_ok ha).2.2.1
  have : (orderP a)[0]? = some a.start := by rw [he]; rfl
  simpa using to_at ha this
theorem order_pos {a : AutoAuto} (ha : Led a) : 0 < (orderP a).length := List.length_pos_of_mem (start_mem ha)
theorem norm_led {a : AutoAuto} (ha : Led a) : Led (normP a) := by
  refine ⟨norm_AB ha, ?_, ?_⟩
  · intro k s hs y hy
    obtain ⟨h0, h1⟩ := idx_bd hs
    rw [norm_len ha] at h1 ⊢
    have hx : (orderP a)[k.toNat]? = some (orderP a)[k.toNat] := List.getElem?_eq_getElem (by omega)
    have := norm_at ha hx
    rw [show ((k.toNat : Nat) : Int) = k by omega, hs] at this
    cases this
    rw [next_map, List.mem_map] at hy
    obtain ⟨z, hz, rfl⟩ := hy
    exact to_lt ha (order_nx ha (List.mem_of_getElem? hx) hz)
  · rw [norm_len ha]
    have := order_pos ha
    show 0 ≤ (0 : Int) ∧ (0 : Int) < _
    omega
theorem order_norm {a : AutoAuto} (ha : Led a) : orderP (normP a) = (List.range (orderP a).length).map (fun k : Nat => (k : Int)) := by
  have hn := norm_led ha
  have hpos := order_pos ha
  have hle := range_len _ _ (order_ok ha).1 (order_ok ha).2.1
  rw [← order_map ha]
  have e1 : orderP (normP a) = bfs (nxA (normP a)) a.l.length 0 ([a.start].map (tm (toP a))) := by
    rw [List.map_cons, List.map_nil, start_to ha]
    unfold orderP
    rw [show (normP a).start = 0 from rfl]
    symm
    exact bfs_fuel (nxA_in hn) _ _ 0 [0] (by omega) (by rw [norm_len ha]; exact hle) (by simp) (by simp) (start_in hn)
  rw [e1]
  refine bfs_map (tm (toP a)) (nxA_in ha) a.l.length 0 [a.start] (by omega) (by simp) (by simp) (start_in ha) ?_ ?_
  · intro x hx; exact norm_nx ha hx
  · intro x y hx hy h; exact to_inj ha hx hy h
theorem tm_norm {a : AutoAuto} (ha : Led a) {k : Int} (h0 : 0 ≤ k) (h1 : k < ((orderP a).length : Int)) : tm (toP (normP a)) k = k := by
  have : (orderP (normP a))[k.toNat]? = some k := by
    rw [order_norm ha, List.getElem?_map, List.getElem?_range (by omega)]
    simp; omega
  rw [to_at (norm_led ha) this]; omega
theorem map_same {l : List AutoEdge} {f : AutoEdge → AutoEdge} (h : ∀ x ∈ l, f x = x) : l.map f = l := by
  rw [List.map_congr_left (g := id) h, List.map_id]
theorem norm_norm {a : AutoAuto} (ha : Led a) : normP (normP a) = normP a := by
  have hn := norm_led ha
  rw [auto_iff]
  refine ⟨?_, rfl⟩
  show (orderP (normP a)).map _ = _
  refine List.ext_getElem? fun j => ?_
  rw [List.getElem?_map, order_norm ha, List.getElem?_map]
  by_cases hj : j < (orderP a).length
  · rw [List.getElem?_range hj]
    have hx : (orderP a)[j]? = some (orderP a)[j] := List.getElem?_eq_getElem hj
    have e := norm_at ha hx
    have e2 : stA (normP a) (j : Int) = stateM (toP a) (stA a (orderP a)[j]) := by unfold stA; rw [e]; rfl
    rw [idx_nat] at e
    rw [e]
    simp only [Option.map_some]
    rw [e2]
    congr 1
    have hS : ∀ y ∈ nextP (stateM (toP a) (stA a (orderP a)[j])), tm (toP (normP a)) y = y := by
      intro y hy
      rw [next_map, List.mem_map] at hy
      obtain ⟨z, hz, rfl⟩ := hy
      have := to_lt ha (order_nx ha (List.mem_of_getElem? hx) hz)
      exact tm_norm ha this.1 this.2
    generalize stateM (toP a) (stA a (orderP a)[j]) = S at hS
    rw [state_iff]
    refine ⟨rfl, rfl, rfl, rfl, rfl, rfl, rfl, rfl, rfl, ?_, ?_, ?_, ?_⟩
    · simp only [stateM]
      split
      · rename_i h; exact hS _ (next_dom h).1
      · rfl
    · simp only [stateM]
      split
      · rename_i h; exact hS _ (next_dom h).2
      · rfl
    · simp only [stateM]
      refine map_same fun x hx => ?_
      unfold edgeM
      rw [hS _ (next_f hx)]
    · simp only [stateM]
      refine map_same fun x hx => ?_
      unfold edgeM
      rw [hS _ (next_t hx)]
  · rw [List.getElem?_eq_none (by simp; omega), List.getElem?_eq_none (by rw [norm_len ha]; omega)]; rfl
theorem bare_M (to : List Int) (s : AutoState) : bareP (stateM to s) = bareP s := by
  unfold bareP stateM
  cases h : s.arrow <;> simp
theorem edges_M (to : List Int) (isN : List UInt8 → Bool) (l : List AutoEdge) (h : edgesP isN l) : edgesP isN (l.map (edgeM to)) := by
  obtain ⟨h1, h2⟩ := h
  refine ⟨?_, by simpa using h2⟩
  intro i x hx
  rw [List.getElem?_map] at hx
  cases h3 : l[i]? with
  | none => rw [h3] at hx; cases hx
  | some y =>
    rw [h3] at hx
    cases hx
    obtain ⟨h4, h5⟩ := h1 i y h3
    refine ⟨h4, fun h0 z hz => ?_⟩
    rw [List.getElem?_map] at hz
    cases h6 : l[i - 1]? with
    | none => rw [h6] at hz; cases hz
    | some w =>
      rw [h6] at hz
      cases hz
      exact h5 h0 w h6
theorem norm_on {a : AutoAuto} (ha : Led a) {x : Int} {p : Bool} (hx : x ∈ orderP a) (h : onP a x p = true) : onP (normP a) (tm (toP a) x) p = true := by
  obtain ⟨s, h1, h2⟩ := on_bd h
  obtain ⟨j, h3, h4, _⟩ := order_at ha hx
  have e : stA a x = s := by unfold stA; rw [h1]; rfl
  unfold onP
  rw [h4, norm_at ha h3, e]
  simp [stateM, h2]
theorem norm_may {a : AutoAuto} (hab : AB a) (hm : mayP a = 0) : mayP (normP a) = 0 := by
  have ha := led_of hab hm
  obtain ⟨h1, h2, h3, h4⟩ := may_ok hm
  have hle := range_len _ _ (order_ok ha).1 (order_ok ha).2.1
  have hl := norm_len ha
  refine may_of (by have := order_pos ha; omega) (by omega) ?_ ?_
  · intro s hs
    simp only [normP, List.mem_map] at hs
    obtain ⟨x, hx, rfl⟩ := hs
    have hxr := (order_ok ha).2.1 x hx
    obtain ⟨r1, r2, r3, r4, r5⟩ := h3 _ (stA_mem hxr.1 hxr.2)
    refine ⟨by rw [bare_M]; exact r1, r2, edges_M _ _ _ r3, edges_M _ _ _ r4, ?_⟩
    intro i y hy
    rw [next_map, List.getElem?_map] at hy
    cases h5 : (nextP (stA a x))[i]? with
    | none => rw [h5] at hy; cases hy
    | some z =>
      rw [h5] at hy
      cases hy
      exact norm_on ha (order_nx ha hx (List.mem_of_getElem? h5)) (r5 i z h5)
  · have := norm_on ha (start_mem ha) h4
    rw [start_to ha] at this
    exact this
theorem law_AutoStays (a : AutoAuto) : m_syntagmalaw24_AutoStays a = some true := by
  unfold m_syntagmalaw24_AutoStays
  obtain ⟨x, hx, hab⟩ := give_eq a
  rw [works_eq, Option.bind_some, Bool.not_true, cond_false, hx, Option.bind_some]
  by_cases hm : mayP x = 0
  · have ha := led_of hab hm
    have hn := norm_AB ha
    have hm2 := norm_may hab hm
    have e := of_eq _ hn
    rw [Norm_ok hab hm]
    simp only [Option.bind_some]
    simp only [decide_true, Bool.not_true, cond_false]
    rw [Norm_ok (a := ⟨(normP x).l, (normP x).start⟩) hn hm2]
    simp only [Option.bind_some, decide_true, cond_true]
    rw [show normP ⟨(normP x).l, (normP x).start⟩ = normP x from norm_norm ha, e, Option.bind_some, Option.bind_some, sameList_eq _ _ hn, Option.bind_some, decide_eq_true rfl, cond_true, Same_eq (a := ⟨x.l, x.start⟩) (b := ⟨(normP x).l, (normP x).start⟩) hab hn, Option.bind_some, decide_eq_true]
    exact ⟨hm, hm2, (norm_norm ha).symm⟩
  · rw [Norm_no hab hm]
    simp only [Option.bind_some]
    rw [decide_eq_false hm]; rfl
end Go.Proofs.Ytfcifodaohhcbaa
