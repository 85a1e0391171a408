/- Part 7 of the proof: a program logic, what the functions compute, and what these answer; no condition. -/
import Derived.Test.YtkfnogdccpcmhaaGreatDoorp6
set_option linter.unusedVariables false
set_option linter.unusedSimpArgs false
set_option maxRecDepth 100000
namespace Go.Proofs.YtkfnogdccpcmhaaGreatDoor
open Go.V
open Classical
theorem takeS {α : Type} {l : List α} {i : Nat} {x : α} (h : l[i]? = some x) : l.take (i + 1) = l.take i ++ [x] := by
 have hi := (List.getElem?_eq_some_iff.1 h).1
 rw [List.take_succ_eq_append_getElem hi];rw [List.getElem?_eq_getElem hi] at h;rw [Option.some.inj h]
theorem getN {t : ApiType} {i : Int} (h : In t i) : idx t.l i = some (nd t i) := by unfold idx; rw [if_pos h.1, nd_get h]
theorem kind_eq {t : ApiType} {i : Int} (h : In t i) : m_below_search_kind t i = some (nd t i).kind := by unfold m_below_search_kind; rw [getN h]; rfl
theorem index_eq (l : List Int) (f : Int -> Option Bool) (g : Int -> Bool) (h : ∀ x ∈ l, f x = some (g x)) (hl : l.length <= 1000000) : m_ixI l f = some (match l.findIdx? g with | some i => (i : Int) | none => -1) := by
 unfold m_ixI;rw [loop_find (φ := m_ixI_l1 l f) (l := l) (fun i => (i : Int)) g ?_ ?_ (by rw [FUv]; omega)]
 ·rw [Option.bind_some]
  cases hf : l.findIdx? g with
  | none => rfl
  | some i => rfl
 ·intro n i x hx hi
  simp only [m_ixI_l1];rw [decide_eq_true (show (i : Int) < l.length by omega), cond_true, getI hx, Option.bind_some, h x (List.mem_of_getElem? hx), Option.bind_some];exact ⟨fun hq => by rw [hq, cond_false, grd_pos (by omega)], fun hq => by rw [hq, cond_true]⟩
 ·intro n
  simp only [m_ixI_l1];rw [decide_eq_false (by omega), cond_false]
theorem contains_eq (l : List Int) (f : Int -> Option Bool) (g : Int -> Bool) (h : ∀ x ∈ l, f x = some (g x)) (hl : l.length <= 1000000) : m_cnI l f = some (l.any g) := by
 unfold m_cnI;rw [index_eq l f g h hl, Option.bind_some]
 cases hf : l.findIdx? g with
 | none =>
  have : l.any g = false := by
   rw [List.any_eq_false]
   intro x hx
   have := List.findIdx?_eq_none_iff.1 hf x hx
   simp [this]
  rw [this]; rfl
 | some i =>
  obtain ⟨hi, h1, _⟩ := List.findIdx?_eq_some_iff_getElem.1 hf
  have : l.any g = true := List.any_eq_true.2 ⟨l[i], List.getElem_mem hi, h1⟩
  rw [this]
  show some (decide (0 <= (i : Int))) = some true
  rw [decide_eq_true (by omega)]
theorem has_eq {t : ApiType} {l : List Int} (h : ∀ i ∈ l, In t i) (hl : l.length <= 1000) (k : Int) : m_below_search_has t l k = some (l.any fun i => decide ((nd t i).kind = k)) := by
 unfold m_below_search_has;rw [contains_eq l _ (fun i => decide ((nd t i).kind = k)) (fun x hx => by unfold m_below_search_has_1; rw [kind_eq (h x hx)]; rfl) (by omega)]
 rfl
theorem lattice_eq {t : ApiType} {l : List Int} (h : ∀ i ∈ l, In t i) (hl : l.length <= 1000) : m_below_search_lattice t l = some (match latA t l with | some (n, rest) => (n, rest, true) | none => (⟨0, 0, 0, []⟩, [], false)) := by
 unfold m_below_search_lattice;rw [index_eq l _ (fun i => latB (nd t i).kind) (fun x hx => by
  unfold m_below_search_lattice_1;rw [kind_eq (h x hx), Option.bind_some];unfold latB
  cases decide ((nd t x).kind = 9) <;> rfl) (by omega), Option.bind_some]
 unfold latA
 cases hf : l.findIdx? (fun i => latB (nd t i).kind) with
 | none => rfl
 | some i =>
  obtain ⟨hi, h1, _⟩ := List.findIdx?_eq_some_iff_getElem.1 hf
  have hx : l[i]? = some l[i] := List.getElem?_eq_getElem hi
  have e : l.getD i 0 = l[i] := by rw [List.getD_eq_getElem?_getD, hx]; rfl
  simp only [Option.map_some];rw [decide_eq_false (by omega), cond_false, getI hx, Option.bind_some, getN (h _ (List.getElem_mem hi)), Option.bind_some, grd_pos (by omega), grd_pos (by constructor <;> omega), grd_pos (by omega), grd_pos (by omega), grd_pos (by omega), grd_pos (by rintro rfl; cases hi), e]
  congr 3
theorem concat_eq (ls : List (List Int)) (h : ls.length <= 3) (h2 : ∀ l ∈ ls, l.length <= 2000) : m_ccI ls = some ls.flatten := by
 have hm : ∀ {i : Nat} {x : List Int}, ls[i]? = some x -> x.length <= 2000 := fun hx => h2 _ (List.mem_of_getElem? hx)
 unfold m_ccI
 have e1 := loop_fold (φ := fun n i s => m_ccI_l1 ls n (s, i)) (l := ls) (fun i s => 0 <= s /\ s <= 2000 * i) (fun _ s x => s + (x.length : Int)) id (by
  intro n i x s hx hi hI
  have hm := hm hx
  simp only [m_ccI_l1];rw [decide_eq_true (by omega), cond_true, getI hx, Option.bind_some, grd_pos (by omega), decide_eq_false (by omega), cond_false, grd_pos (by omega)];exact ⟨rfl, by omega⟩) (by
  intro n s hI
  simp only [m_ccI_l1];rw [decide_eq_false (by omega), cond_false]; rfl) (by rw [FUv]; omega) (fun _ t s => t.foldl (fun s x => s + (x.length : Int)) s) (fun _ _ => rfl) (fun _ _ _ _ => rfl) 0 (by omega)
 have e2 := loop_fold (φ := fun n i s => m_ccI_l2 ls n (i, s)) (l := ls) (fun i s => s.length <= 2000 * i) (fun _ s x => s ++ x) id (by
  intro n i x s hx hi hI
  have hm := hm hx
  simp only [m_ccI_l2];rw [decide_eq_true (by omega), cond_true, getI hx, Option.bind_some, grd_pos (by omega), grd_pos (by omega)];exact ⟨rfl, by simp; omega⟩) (by
  intro n s hI
  simp only [m_ccI_l2];rw [decide_eq_false (by omega), cond_false]; rfl) (by rw [FUv]; omega) (fun _ t s => s ++ t.flatten) (by simp) (by simp) [] (by simp)
 rw [e1.1, Option.bind_some]
 have e3 := e1.2
 rw [id, grd_pos (by omega), grd_pos (by omega)];rw [e2.1]; rfl
theorem set_eq {l : List Int} (h : l.length <= 1000000) : m_below_set l = some (cs l) := by
 unfold m_below_set;rw [grd_pos (by omega), grd_pos (by omega)]; rfl
theorem plus_eq {l m : List Int} (h : l.length <= 1000) (h2 : m.length <= 1000) : m_below_plus l m = some (cs (l ++ m)) := by
 unfold m_below_plus;rw [concat_eq [l, m] (by simp) (by simp; omega), Option.bind_some, set_eq (by simp; omega)]
 simp
theorem latA_len {t : ApiType} {l rest : List Int} {n : ApiTNode} (h : latA t l = some (n, rest)) : rest.length <= l.length := by
 obtain ⟨i, _, _, hp⟩ := latA_some h
 have := hp.length_eq
 simp at this; omega
theorem opened_eq {t : ApiType} {q : BelowSequent} (hq : InQ t q) (h1 : q.left.length <= 500) (h2 : q.right.length <= 500) : m_below_search_opened t q = some (match openA t q with | some l => (⟨l, false⟩, true) | none => (⟨[], false⟩, false)) := by
 unfold m_below_search_opened openA;rw [lattice_eq hq.1 (by omega), Option.bind_some]
 cases hl : latA t q.left with
 | some x =>
  obtain ⟨n, rest⟩ := x
  have := latA_len hl
  simp only [cond_true]
  by_cases h10 : n.kind = 10
  ·rw [decide_eq_true h10, cond_true, plus_eq (by omega) (by simp), if_pos h10]; rfl
  ·rw [decide_eq_false h10, cond_false, plus_eq (by omega) (by simp), Option.bind_some, plus_eq (by omega) (by simp), if_neg h10]; rfl
 | none =>
  simp only [cond_false];rw [lattice_eq hq.2 (by omega), Option.bind_some]
  cases hr : latA t q.right with
  | some x =>
   obtain ⟨n, rest⟩ := x
   have := latA_len hr
   simp only [cond_true]
   by_cases h9 : n.kind = 9
   ·rw [decide_eq_true h9, cond_true, plus_eq (by omega) (by simp), if_pos h9]; rfl
   ·rw [decide_eq_false h9, cond_false, plus_eq (by omega) (by simp), Option.bind_some, plus_eq (by omega) (by simp), if_neg h9]; rfl
  | none => simp only [cond_false]
theorem shared_eq {t : ApiType} {q : BelowSequent} (hq : InQ t q) (h1 : q.left.length <= 500) (h2 : q.right.length <= 500) : m_below_search_shared t q = some (shareA t q) := by
 unfold m_below_search_shared;obtain ⟨o, e1, e2⟩ := loop_rng (φ := fun n i s => m_below_search_shared_l1 t q n (i, s)) (l := q.left) (fun i s => ∀ v, (mget s v).getD false = (q.left.take i).any fun j => decide ((nd t j).kind = 11) && decide ((nd t j).a = v)) (fun o => ∀ v, (mget o v).getD false = q.left.any fun j => decide ((nd t j).kind = 11) && decide ((nd t j).a = v))
  (by
   intro n i x s hx hi hI
   left
   simp only [m_below_search_shared_l1];rw [decide_eq_true (show (i : Int) < (q.left.length : Int) by omega), cond_true, getI hx, Option.bind_some, getN (hq.1 _ (List.mem_of_getElem? hx)), Option.bind_some]
   by_cases h11 : (nd t x).kind = 11
   ·rw [decide_eq_true h11, cond_true, grd_pos (by constructor <;> omega)]
    refine ⟨_, rfl, fun v => ?_⟩;rw [takeS hx, List.any_append, mget_set, <- hI v]
    by_cases hv : v = (nd t x).a
    ·subst hv; simp [h11]
    ·rw [if_neg hv]; simp [h11, show ¬ (nd t x).a = v from fun e => hv e.symm]
   ·rw [decide_eq_false h11, cond_false, grd_pos (by constructor <;> omega)]
    refine ⟨_, rfl, fun v => ?_⟩;rw [takeS hx, List.any_append, <- hI v]
    simp [h11])
  (by
   intro n s hI
   simp only [m_below_search_shared_l1];rw [decide_eq_false (by omega), cond_false];exact ⟨s, rfl, by simpa using hI⟩) (by rw [FUv]; omega) [] (by intro v; simp [mget])
 rw [e1, Option.bind_some];rw [contains_eq q.right _ (fun j => decide ((nd t j).kind = 11) && (mget o (nd t j).a).getD false) (fun x hx => by
  unfold m_below_search_shared_1;rw [getN (hq.2 _ hx)]; rfl) (by omega), Option.bind_some]
 congr 1
 unfold shareA;rw [Bool.eq_iff_iff];simp only [List.any_eq_true, Bool.and_eq_true, decide_eq_true_eq, e2]
 constructor
 ·rintro ⟨j, hj, h3, i, hi, h4, h5⟩; exact ⟨i, hi, j, hj, ⟨h4, h3⟩, h5⟩
 ·rintro ⟨i, hi, j, hj, ⟨h4, h3⟩, h5⟩; exact ⟨j, hj, h3, i, hi, h4, h5⟩
theorem nodup_one {l : List Int} {k : Int} (hn : l.Nodup) (h : ∀ x, x ∈ l ↔ x = k) : l = [k] := by
 cases l with
 | nil => have := (h k).2 rfl; cases this
 | cons a m =>
  have ha := (h a).1 (by simp)
  subst ha
  cases m with
  | nil => rfl
  | cons b m =>
   have hb := (h b).1 (by simp)
   subst hb;exact absurd (List.nodup_cons.1 hn).1 (by simp)
def headsI (t : ApiType) (l : List Int) (k : Int) : Prop := (k = 0 /\ ∀ i ∈ l, 3 <= (nd t i).kind -> (nd t i).kind <= 8 -> False) \/ ((3 <= k /\ k <= 8) /\ (∃ i ∈ l, (nd t i).kind = k) /\ ∀ i ∈ l, 3 <= (nd t i).kind -> (nd t i).kind <= 8 -> (nd t i).kind = k)
theorem heads_kinds {t : ApiType} {l : List Int} {k : Int} (h : headsI t l k) : (k = 0 /\ kindsA t l = []) \/ (3 <= k /\ kindsA t l = [k]) := by
 rcases h with ⟨h1, h2⟩ | ⟨h1, h2, h3⟩
 ·left
  refine ⟨h1, ?_⟩;rw [List.eq_nil_iff_forall_not_mem]
  intro x hx
  obtain ⟨h4, i, hi, rfl⟩ := mem_kinds.1 hx;exact h2 i hi h4.1 h4.2
 ·right
  refine ⟨h1.1, nodup_one (kinds_nodup t l) (fun x => ⟨fun hx => ?_, fun hx => ?_⟩)⟩
  ·obtain ⟨h4, i, hi, rfl⟩ := mem_kinds.1 hx
   exact h3 i hi h4.1 h4.2
  ·subst hx; exact mem_kinds.2 ⟨h1, h2⟩
theorem heads_eq {t : ApiType} {l : List Int} (hO : OkT t) (h : ∀ i ∈ l, In t i) (hb : ∀ i ∈ l, (nd t i).kind ≠ 2) (hla : ∀ i ∈ l, latB (nd t i).kind = false) (hl : l.length <= 500) :
  ∃ k more, m_below_search_heads t l = some (k, more) /\ (more = true -> ∃ a b m, kindsA t l = a :: b :: m) /\ (more = false -> (k = 0 /\ kindsA t l = []) \/ (3 <= k /\ kindsA t l = [k])) := by
 unfold m_below_search_heads;obtain ⟨o, e1, e2⟩ := loop_rng (φ := fun n i s => m_below_search_heads_l1 t l n (s, i)) (l := l) (fun i k => headsI t (l.take i) k) (fun o => (∃ k, o = Out.go k /\ headsI t l k) \/ (∃ k a b m, o = Out.ret (k, true) /\ kindsA t l = a :: b :: m))
  (by
   intro n i x k hx hi hI
   have hxm := List.mem_of_getElem? hx
   have hk := hO.kind (h x hxm)
   have h2 := hb x hxm
   have h3 := lat_no (hla x hxm)
   simp only [m_below_search_heads_l1];rw [decide_eq_true (show (i : Int) < (l.length : Int) by omega), cond_true, getI hx, Option.bind_some, kind_eq (h x hxm), Option.bind_some]
   by_cases hv : (nd t x).kind = 11 \/ (nd t x).kind = 1
   ·left
    rw [show (decide ((nd t x).kind = 11) || decide ((nd t x).kind = 1)) = true by simpa using hv, cond_true, grd_pos (by constructor <;> omega)];refine ⟨_, rfl, ?_⟩;rw [takeS hx]
    rcases hI with ⟨h4, h5⟩ | ⟨h4, ⟨j, hj, h5⟩, h6⟩
    ·left
     refine ⟨h4, fun j hj h6 h7 => ?_⟩
     rcases List.mem_append.1 hj with hj | hj
     ·exact h5 j hj h6 h7
     ·simp at hj; subst hj; omega
    ·right
     refine ⟨h4, ⟨j, by simp [hj], h5⟩, fun j hj h7 h8 => ?_⟩
     rcases List.mem_append.1 hj with hj | hj
     ·exact h6 j hj h7 h8
     ·simp at hj; subst hj; omega
   ·rw [show (decide ((nd t x).kind = 11) || decide ((nd t x).kind = 1)) = false by simpa using hv, cond_false]
    have hx38 : 3 <= (nd t x).kind /\ (nd t x).kind <= 8 := by omega
    by_cases hc : k ≠ 0 /\ (nd t x).kind ≠ k
    ·right
     rw [show ((!decide (k = 0)) && (!decide ((nd t x).kind = k))) = true by simpa using hc, cond_true];refine ⟨_, rfl, .inr ?_⟩
     rcases hI with ⟨h4, _⟩ | ⟨h4, ⟨j, hj, h5⟩, _⟩
     ·exact absurd h4 hc.1
     ·cases hkk : kindsA t l with
      | nil => exact (kinds_nil hkk x hxm hx38.1 hx38.2).elim
      | cons a m =>
       cases m with
       | nil =>
        obtain ⟨_, _, h7⟩ := kinds_one hkk
        have e1 := h7 x hxm hx38.1 hx38.2
        have e2 := h7 j (List.mem_of_mem_take hj) (by omega) (by omega)
        omega
       | cons b m => exact ⟨k, a, b, m, rfl, rfl⟩
    ·left
     rw [show ((!decide (k = 0)) && (!decide ((nd t x).kind = k))) = false by
      by_cases h0 : k = 0
      ·simp [h0]
      ·simp [h0]; exact Classical.byContradiction fun h => hc ⟨h0, h⟩, cond_false, grd_pos (by constructor <;> omega)]
     refine ⟨_, rfl, .inr ⟨hx38, ⟨x, by rw [takeS hx]; simp, rfl⟩, fun j hj h7 h8 => ?_⟩⟩;rw [takeS hx] at hj
     rcases List.mem_append.1 hj with hj | hj
     ·rcases hI with ⟨h4, h5⟩ | ⟨h4, _, h6⟩
      ·exact (h5 j hj h7 h8).elim
      ·have := h6 j hj h7 h8
       have : k = (nd t x).kind := Classical.byContradiction fun h => hc ⟨by omega, fun e => h e.symm⟩
       omega
     ·simp at hj; subst hj; rfl)
  (by
   intro n k hI
   simp only [m_below_search_heads_l1];rw [decide_eq_false (by omega), cond_false];exact ⟨_, rfl, .inl ⟨k, rfl, by simpa using hI⟩⟩) (by rw [FUv]; omega) 0 (.inl ⟨rfl, by simp⟩)
 rw [e1, Option.bind_some]
 rcases e2 with ⟨k, rfl, h4⟩ | ⟨k, a, b, m, rfl, h4⟩
 ·exact ⟨k, false, rfl, fun h => (by cases h), fun _ => heads_kinds h4⟩
 ·exact ⟨k, true, rfl, fun _ => ⟨a, b, m, h4⟩, fun h => (by cases h)⟩
theorem kAt_nd (t : ApiType) (x : Int) : kAt t x = (nd t x).kind := by
 unfold kAt nd
 cases t.l[x.toNat]? <;> rfl
theorem only_eq {t : ApiType} {l : List Int} (h : ∀ i ∈ l, In t i) (hl : l.length <= 500) (k : Int) : m_below_search_only t l k = some (ofK t l k) := by
 unfold m_below_search_only;rw [grd_pos (by omega), grd_pos (show ∀ x ∈ l, 0 <= x /\ x < (t.l.length : Int) from h)]
 congr 1
 unfold keepK ofK
 congr 1
 funext x
 rw [kAt_nd, Bool.not_not]
theorem arrows_eq {t : ApiType} {l r : List Int} (hq : InQ t ⟨l, r⟩) (h1 : l.length <= 500) (h2 : r.length <= 500) (hr : r ≠ []) :
  m_below_search_arrows t ⟨l, r⟩ = some ⟨[⟨cs (r.map fun i => (nd t i).a), cs (l.map fun i => (nd t i).a)⟩, ⟨cs (l.map fun i => (nd t i).b), cs (r.map fun i => (nd t i).b)⟩], false⟩ := by
 unfold m_below_search_arrows;rw [decide_eq_false (by have := List.length_pos_iff.2 hr; simp only; omega), cond_false];obtain ⟨o, e1, e2⟩ := loop_rng (φ := fun n i s => m_below_search_arrows_l1 t ⟨l, r⟩ n (i, s)) (l := l) (fun i s => s = ([], (l.take i).map (fun i => (nd t i).b), (l.take i).map (fun i => (nd t i).a), [])) (fun o => o = ([], l.map (fun i => (nd t i).b), l.map (fun i => (nd t i).a), []))
  (by
   rintro n i x s hx hi rfl
   left
   have hxm := List.mem_of_getElem? hx
   have hti : (l.take i).length <= 500 := by rw [List.length_take]; omega
   simp only [m_below_search_arrows_l1];rw [decide_eq_true (show (i : Int) < (l.length : Int) by omega), cond_true, getI hx, Option.bind_some, getN (hq.1 x hxm), Option.bind_some, grd_pos (by simp only [List.length_map, List.length_cons, List.length_nil]; omega), Option.bind_some, grd_pos (by simp only [List.length_map, List.length_cons, List.length_nil]; omega), grd_pos (by constructor <;> omega)];refine ⟨_, rfl, ?_⟩;rw [takeS hx]; simp)
  (by
   rintro n s rfl;simp only [m_below_search_arrows_l1];rw [decide_eq_false (by omega), cond_false];exact ⟨_, rfl, by simp⟩) (by rw [FUv]; omega) ([], [], [], []) (by simp)
 rw [e1, Option.bind_some, e2];obtain ⟨o, e3, e4⟩ := loop_rng (φ := fun n i s => m_below_search_arrows_l2 t ⟨l, r⟩ n (i, s)) (l := r) (fun i s => s = ((r.take i).map (fun i => (nd t i).b), l.map (fun i => (nd t i).b), l.map (fun i => (nd t i).a), (r.take i).map (fun i => (nd t i).a))) (fun o => o = (r.map (fun i => (nd t i).b), l.map (fun i => (nd t i).b), l.map (fun i => (nd t i).a), r.map (fun i => (nd t i).a)))
  (by
   rintro n i x s hx hi rfl
   left
   have hxm := List.mem_of_getElem? hx
   have hti : (r.take i).length <= 500 := by rw [List.length_take]; omega
   simp only [m_below_search_arrows_l2];rw [decide_eq_true (show (i : Int) < (r.length : Int) by omega), cond_true, getI hx, Option.bind_some, getN (hq.2 x hxm), Option.bind_some, grd_pos (by simp only [List.length_map, List.length_cons, List.length_nil]; omega), Option.bind_some, grd_pos (by simp only [List.length_map, List.length_cons, List.length_nil]; omega), grd_pos (by constructor <;> omega)];refine ⟨_, rfl, ?_⟩;rw [takeS hx]; simp)
  (by
   rintro n s rfl;simp only [m_below_search_arrows_l2];rw [decide_eq_false (by omega), cond_false];exact ⟨_, rfl, by simp⟩) (by rw [FUv]; omega) ([], l.map (fun i => (nd t i).b), l.map (fun i => (nd t i).a), []) (by simp)
 simp only
 rw [e3, Option.bind_some, e4]
 simp only
 rw [set_eq (by simp; omega), Option.bind_some, set_eq (by simp; omega), Option.bind_some, set_eq (by simp; omega), Option.bind_some, set_eq (by simp; omega), Option.bind_some]
end Go.Proofs.YtkfnogdccpcmhaaGreatDoor
namespace Go.Proofs.YtkfnogdccpcmhaaGreatDoor
open Go.V
open Classical
theorem mset_keys {α β : Type} [DecidableEq α] {l : List (α × β)} {k : α} {v : β} : (mset l k v).map (·.1) = if k ∈ l.map (·.1) then l.map (·.1) else l.map (·.1) ++ [k] := by
 induction l with
 | nil => simp [mset]
 | cons p l ih =>
  obtain ⟨a, b⟩ := p;simp only [mset]
  by_cases h : k = a
  ·subst h; simp
  ·rw [if_neg h]
   simp only [List.map_cons, ih, List.mem_cons, h, false_or]
   split <;> simp
theorem mset_nodup {α β : Type} [DecidableEq α] {l : List (α × β)} {k : α} {v : β} (h : (l.map (·.1)).Nodup) : ((mset l k v).map (·.1)).Nodup := by
 rw [mset_keys]
 split
 ·exact h
 ·rename_i hk
  rw [List.nodup_append];exact ⟨h, by simp, fun a ha b hb e => by simp at hb; subst hb e; exact hk ha⟩
theorem mset_len {α β : Type} [DecidableEq α] {l : List (α × β)} {k : α} {v : β} : (mset l k v).length <= l.length + 1 := by
 have := congrArg List.length (mset_keys (l := l) (k := k) (v := v))
 rw [List.length_map] at this;rw [this]
 split <;> simp
theorem mget_mem {α β : Type} [DecidableEq α] {l : List (α × β)} (h : (l.map (·.1)).Nodup) {k : α} {v : β} : (k, v) ∈ l ↔ mget l k = some v := by
 induction l with
 | nil => simp [mget]
 | cons p l ih =>
  obtain ⟨a, b⟩ := p;simp only [List.map_cons, List.nodup_cons] at h
  have ih := ih h.2
  simp only [mget, List.mem_cons]
  by_cases hk : k = a
  ·subst hk
   rw [if_pos rfl]
   constructor
   ·rintro (e | e)
    ·rw [(Prod.mk.inj e).2]
    ·exact absurd (List.mem_map.2 ⟨_, e, rfl⟩) h.1
   ·intro e; left; rw [Option.some.inj e]
  ·rw [if_neg hk, <- ih]
   constructor
   ·rintro (e | e)
    ·exact absurd (Prod.mk.inj e).1 hk
    ·exact e
   ·exact .inr
theorem less_irrefl : ∀ x : List UInt8, Op.bytesLess x x = false
 | [] => rfl
 | a :: x => by
  unfold Op.bytesLess;rw [less_irrefl x]
  have : ¬ a < a := by intro h; exact absurd (UInt8.lt_iff_toNat_lt.1 h) (Nat.lt_irrefl _)
  simp [this]
theorem less_trans : ∀ x y z : List UInt8, Op.bytesLess x y = true -> Op.bytesLess y z = true -> Op.bytesLess x z = true
 | x, y, [], _, h => by cases y <;> cases h
 | [], _, _ :: _, _, _ => rfl
 | a :: x, [], c :: z, h, _ => by cases h
 | a :: x, b :: y, c :: z, h1, h2 => by
  unfold Op.bytesLess at h1 h2 ⊢;simp only [Bool.or_eq_true, Bool.and_eq_true, decide_eq_true_eq, beq_iff_eq, UInt8.lt_iff_toNat_lt] at h1 h2 ⊢
  rcases h1 with h1 | ⟨rfl, h1⟩
  ·rcases h2 with h2 | ⟨rfl, h2⟩
   ·left; omega
   ·left; exact h1
  ·rcases h2 with h2 | ⟨rfl, h2⟩
   ·left; exact h2
   ·right; exact ⟨rfl, less_trans x y z h1 h2⟩
theorem named_lt {n : ApiTNode} (h : namedP n) : ∀ (j i : Nat) (x y : ApiTField), i < j -> n.l[i]? = some x -> n.l[j]? = some y -> Op.bytesLess x.name y.name = true := by
 intro j
 induction j with
 | zero => intro i x y h1; omega
 | succ j ih =>
  intro i x y h1 hx hy
  have hj : j < n.l.length := by have := (List.getElem?_eq_some_iff.1 hy).1; omega
  have h3 := (h (j + 1) y hy).2 (by omega) n.l[j] (by rw [Nat.add_sub_cancel]; exact List.getElem?_eq_getElem hj)
  by_cases h4 : i = j
  ·subst h4
   rw [List.getElem?_eq_getElem hj] at hx;rw [<- Option.some.inj hx]; exact h3
  ·exact less_trans _ _ _ (ih i x _ (by omega) hx (List.getElem?_eq_getElem hj)) h3
theorem named_nodup {n : ApiTNode} (h : namedP n) : (n.l.map (·.name)).Nodup := by
 unfold List.Nodup;rw [List.pairwise_iff_getElem]
 intro i j hi hj hij e
 rw [List.length_map] at hi hj
 have := named_lt h j i n.l[i] n.l[j] hij (List.getElem?_eq_getElem hi) (List.getElem?_eq_getElem hj)
 rw [List.getElem_map, List.getElem_map] at e;rw [e, less_irrefl] at this
 cases this
theorem right_named {n : ApiTNode} {all : Int} (h : rightB n all = true) : namedP n := by
 unfold rightB at h;simp only [Bool.and_eq_true, decide_eq_true_eq] at h;exact h.2.2.2.2.1.1
def fld (L : List ApiTField) (s : List UInt8) : List Int := (L.filter fun f => decide (f.name = s)).map (·.at_)
theorem fld_one {s : List UInt8} : ∀ L : List ApiTField, (L.map (·.name)).Nodup -> fld L s = ((L.find? fun f => decide (f.name = s)).map (·.at_)).toList
 | [], _ => rfl
 | f :: L, h => by
  rw [List.map_cons, List.nodup_cons] at h;unfold fld
  by_cases hf : f.name = s
  ·rw [List.filter_cons_of_pos (by simpa using hf), List.find?_cons_of_pos (by simpa using hf)]
   have : L.filter (fun f => decide (f.name = s)) = [] := by
    rw [List.filter_eq_nil_iff]
    intro g hg hgs
    exact h.1 (List.mem_map.2 ⟨g, hg, by rw [hf]; simpa using hgs⟩)
   rw [this]; rfl
  ·rw [List.filter_cons_of_neg (by simpa using hf), List.find?_cons_of_neg (by simpa using hf)]
   exact fld_one L h.2
def FP (t : ApiType) (l : List Int) (s : List UInt8) : List Int := l.flatMap fun i => fld (nd t i).l s
theorem FP_eq {t : ApiType} (hO : OkT t) (s : List UInt8) : ∀ l : List Int, (∀ i ∈ l, In t i) -> FP t l s = partsA t l s
 | [], _ => rfl
 | i :: l, h => by
  have h1 := FP_eq hO s l (fun j hj => h j (by simp [hj]))
  have h2 := fld_one (s := s) _ (named_nodup (right_named (hO.right _ (nd_mem (h i (by simp))))))
  unfold FP partsA at h1 ⊢;rw [List.flatMap_cons, h1, h2, List.filterMap_cons];unfold atN
  cases ((nd t i).l.find? fun f => decide (f.name = s)).map (·.at_) <;> rfl
structure MI (M : List (List UInt8 × List Int)) (f : List UInt8 -> List Int) (n : Nat) : Prop where
 nodup : (M.map (·.1)).Nodup
 get : ∀ s, mget M s = if f s = [] then none else some (f s)
 len : M.length <= n
 flen : ∀ s, (f s).length <= n
theorem MI.getD {M : List (List UInt8 × List Int)} {f : List UInt8 -> List Int} {n : Nat} (h : MI M f n) (s : List UInt8) : (mget M s).getD [] = f s := by
 rw [h.get s]
 by_cases hs : f s = []
 ·rw [if_pos hs, hs]; rfl
 ·rw [if_neg hs]; rfl
theorem parts_l2_eq {x : ApiTNode} (hx : NB x) {M : List (List UInt8 × List Int)} {f : List UInt8 -> List Int} {n : Nat} (hn : n <= 1000000) (h : MI M f n) : ∃ M', m_parts_l2 x FU (0, M) = some M' /\ MI M' (fun s => f s ++ fld x.l s) (n + x.l.length) := by
 have hx40 : x.l.length <= 40 := hx
 obtain ⟨o, e1, e2⟩ := loop_rng (φ := fun n i s => m_parts_l2 x n (i, s)) (l := x.l) (fun i M => MI M (fun s => f s ++ fld (x.l.take i) s) (n + i)) (fun M => MI M (fun s => f s ++ fld x.l s) (n + x.l.length))
  (by
   intro m i y M hy hi hI
   left
   have hl := hI.flen y.name
   simp only [m_parts_l2];rw [decide_eq_true (show (i : Int) < (x.l.length : Int) by omega), cond_true, getI hy, Option.bind_some, hI.getD, grd_pos (by simp only [List.length_cons, List.length_nil]; omega), grd_pos (by constructor <;> omega)];refine ⟨_, rfl, ⟨mset_nodup hI.nodup, fun s => ?_, ?_, fun s => ?_⟩⟩
   ·rw [mget_set]
    by_cases hs : s = y.name
    ·subst hs
     rw [if_pos rfl, takeS hy]
     have e : fld (x.l.take i ++ [y]) y.name = fld (x.l.take i) y.name ++ [y.at_] := by unfold fld; rw [List.filter_append, List.map_append]; simp
     rw [e, <- List.append_assoc, if_neg (by simp)]
    ·rw [if_neg hs, hI.get s, takeS hy]
     have e : fld (x.l.take i ++ [y]) s = fld (x.l.take i) s := by unfold fld; rw [List.filter_append, List.map_append]; simp [show ¬ y.name = s from fun e => hs e.symm]
     rw [e]
   ·have := mset_len (l := M) (k := y.name) (v := (f y.name ++ fld (x.l.take i) y.name) ++ [y.at_])
    have := hI.len
    omega
   ·have h2 : (fld (x.l.take (i + 1)) s).length <= (fld (x.l.take i) s).length + 1 := by
     rw [takeS hy]; unfold fld; rw [List.filter_append, List.map_append, List.length_append, List.length_map, List.length_map]
     have := List.length_filter_le (fun f => decide (f.name = s)) [y]
     simp only [List.length_cons, List.length_nil] at this
     omega
    have := hI.flen s
    simp only [List.length_append] at this ⊢
    omega)
  (by
   intro m M hI
   simp only [m_parts_l2];rw [decide_eq_false (by omega), cond_false];exact ⟨M, rfl, by simpa using hI⟩) (by rw [FUv]; omega) M (by simpa [fld] using h)
 exact ⟨o, e1, e2⟩
theorem parts_eq {t : ApiType} (hN : ∀ n ∈ t.l, NB n) {l : List Int} (h : ∀ i ∈ l, In t i) (hl : l.length <= 500) : ∃ M, m_parts t l = some M /\ MI M (FP t l) 20000 := by
 unfold m_parts;obtain ⟨o, e1, e2⟩ := loop_rng (φ := fun n i s => m_parts_l1 t l n (i, s)) (l := l) (fun i M => MI M (FP t (l.take i)) (40 * i)) (fun M => MI M (FP t l) 20000)
  (by
   intro m i x M hx hi hI
   left
   have hxi := h x (List.mem_of_getElem? hx)
   obtain ⟨M', h1, h2⟩ := parts_l2_eq (hN _ (nd_mem hxi)) (by omega) hI;simp only [m_parts_l1];rw [decide_eq_true (show (i : Int) < (l.length : Int) by omega), cond_true, getI hx, Option.bind_some, getN hxi, Option.bind_some, h1, Option.bind_some, grd_pos (by constructor <;> omega)];refine ⟨_, rfl, ?_⟩
   have h40 : (nd t x).l.length <= 40 := hN _ (nd_mem hxi)
   have e : FP t (l.take (i + 1)) = fun s => FP t (l.take i) s ++ fld (nd t x).l s := by
    funext s; rw [takeS hx]; unfold FP; rw [List.flatMap_append]; simp
   rw [e];exact ⟨h2.nodup, h2.get, by have := h2.len; omega, fun s => by have := h2.flen s; omega⟩)
  (by
   intro m M hI
   simp only [m_parts_l1];rw [decide_eq_false (by omega), cond_false];rw [List.take_length] at hI;exact ⟨M, rfl, hI.nodup, hI.get, by have := hI.len; omega, fun s => by have := hI.flen s; omega⟩) (by rw [FUv]; omega) [] ⟨by simp, fun s => by simp [mget, FP], by simp, fun s => by simp [FP]⟩
 exact ⟨o, by rw [e1]; rfl, e2⟩
theorem wide_eq {Ml Mr Ma : List (List UInt8 × List Int)} {fl fr fa : List UInt8 -> List Int} (hl : MI Ml fl 20000) (hr : MI Mr fr 20000) (ha : MI Ma fa 20000) (n : Nat) (hn : 0 < n) :
  ∃ r, m_wide Ml Mr Ma (n : Int) = some r /\ (r.fails = true ↔ ∃ s, n <= (fa s).length /\ (fl s = [] \/ fr s = [])) /\ (r.fails = true -> r.to_ = []) /\ (r.fails = false -> ∀ q, q ∈ r.to_ ↔ ∃ s, n <= (fa s).length /\ q = ⟨cs (fl s), cs (fr s)⟩) := by
 have hmem : ∀ e, e ∈ Ma ↔ (e.2 = fa e.1 /\ fa e.1 ≠ []) := by
  rintro ⟨s, v⟩;rw [mget_mem ha.nodup, ha.get s]
  by_cases hs : fa s = []
  ·rw [if_pos hs]; simp [hs]
  ·rw [if_neg hs]; simp only [Option.some.injEq]; exact ⟨fun e => ⟨e.symm, hs⟩, fun e => e.1.symm⟩
 have hE : ∀ e ∈ Ma, wideE Ml Mr (n : Int) e = if (fa e.1).length < n then some none else if fl e.1 = [] \/ fr e.1 = [] then some (some none) else some (some (some ⟨cs (fl e.1), cs (fr e.1)⟩)) := by
  intro e he
  obtain ⟨h1, h2⟩ := (hmem e).1 he;unfold wideE;rw [hl.getD, hr.getD, h1]
  have h3 := hl.flen e.1
  have h4 := hr.flen e.1
  by_cases hc : (fa e.1).length < n
  ·rw [if_pos (by omega), if_pos hc]
  ·rw [if_neg (by omega), if_neg hc]
   by_cases hd : fl e.1 = [] \/ fr e.1 = []
   ·rw [if_pos (by rw [List.length_eq_zero_iff, List.length_eq_zero_iff]; exact hd), if_pos hd]
   ·rw [if_neg (by rw [List.length_eq_zero_iff, List.length_eq_zero_iff]; exact hd), if_neg hd, set_eq (by omega), Option.bind_some, set_eq (by omega), Option.bind_some]
 have hlen := ha.len
 unfold m_wide;rw [if_pos ⟨by omega, fun e he => by rw [hE e he]; split; rfl; split <;> rfl⟩]
 have hbad : (∃ e ∈ Ma, wideE Ml Mr (n : Int) e = some (some none)) ↔ ∃ s, n <= (fa s).length /\ (fl s = [] \/ fr s = []) := by
  constructor
  ·rintro ⟨e, he, h1⟩
   rw [hE e he] at h1
   by_cases hc : (fa e.1).length < n
   ·rw [if_pos hc] at h1; cases h1
   ·rw [if_neg hc] at h1
    by_cases hd : fl e.1 = [] \/ fr e.1 = []
    ·exact ⟨e.1, by omega, hd⟩
    ·rw [if_neg hd] at h1; cases h1
  ·rintro ⟨s, h1, h2⟩
   have hne : fa s ≠ [] := fun e => by rw [e] at h1; simp at h1; omega
   have he : (s, fa s) ∈ Ma := (hmem _).2 ⟨rfl, hne⟩
   refine ⟨_, he, ?_⟩;rw [hE _ he, if_neg (by simp only; omega), if_pos h2]
 by_cases hb : ∃ e ∈ Ma, wideE Ml Mr (n : Int) e = some (some none)
 ·rw [if_pos hb]
  exact ⟨_, rfl, ⟨fun _ => hbad.1 hb, fun _ => rfl⟩, fun _ => rfl, fun h => (by cases h)⟩
 ·rw [if_neg hb]
  refine ⟨_, rfl, ⟨fun h => (by cases h), fun h => absurd (hbad.2 h) hb⟩, fun h => (by cases h), fun _ q => ?_⟩;simp only [List.mem_filterMap]
  constructor
  ·rintro ⟨e, he, h1⟩
   unfold wideQ at h1;rw [hE e he] at h1
   by_cases hc : (fa e.1).length < n
   ·rw [if_pos hc] at h1; cases h1
   ·rw [if_neg hc] at h1
    by_cases hd : fl e.1 = [] \/ fr e.1 = []
    ·rw [if_pos hd] at h1; cases h1
    ·rw [if_neg hd] at h1
     exact ⟨e.1, by omega, (Option.some.inj h1).symm⟩
  ·rintro ⟨s, h1, rfl⟩
   have hne : fa s ≠ [] := fun e => by rw [e] at h1; simp at h1; omega
   have he : (s, fa s) ∈ Ma := (hmem _).2 ⟨rfl, hne⟩
   refine ⟨_, he, ?_⟩;unfold wideQ;rw [hE _ he, if_neg (by simp only; omega), if_neg (fun h => hb (hbad.2 ⟨s, h1, h⟩))]
theorem fm_len {f : Int -> Option Int} : ∀ l : List Int, (l.filterMap f).length <= l.length /\ (l.length <= (l.filterMap f).length ↔ ∀ i ∈ l, f i ≠ none)
 | [] => by simp
 | i :: l => by
  obtain ⟨h1, h2⟩ := fm_len (f := f) l;rw [List.filterMap_cons]
  cases hi : f i with
  | none => simp only [List.length_cons, List.mem_cons, forall_eq_or_imp, hi]; exact ⟨by omega, ⟨fun h => by omega, fun h => absurd rfl h.1⟩⟩
  | some k =>
   simp only [List.length_cons, List.mem_cons, forall_eq_or_imp, hi];exact ⟨by omega, by rw [<- h2]; simp⟩
theorem names_len {t : ApiType} {l : List Int} (hne : l ≠ []) {s : List UInt8} : l.length <= (partsA t l s).length ↔ s ∈ namesA t l := by
 rw [mem_names];unfold partsA;rw [(fm_len l).2]
 simp [hne]
theorem bad_iff {t : ApiType} {l r : List Int} {s : List UInt8} : badA t l r s = true ↔ partsA t l s = [] \/ partsA t r s = [] := by
 unfold badA;rw [Bool.or_eq_true, List.isEmpty_iff, List.isEmpty_iff]
theorem closed_eq {t : ApiType} {q : BelowSequent} (hO : OkT t) (hN : ∀ n ∈ t.l, NB n) (hq : InQ t q) (h1 : q.left.length <= 500) (h2 : q.right.length <= 500) (hb : ∀ i ∈ q.left, (nd t i).kind ≠ 2) (hla : ∀ i ∈ q.left, latB (nd t i).kind = false) :
  ∃ r, m_below_search_closed t q = some r /\ r.fails = (closedA t q).1 /\ ∀ s, s ∈ r.to_ ↔ s ∈ (closedA t q).2 := by
 unfold m_below_search_closed;obtain ⟨k, more, e1, e2, e3⟩ := heads_eq hO hq.1 hb hla h1;rw [e1, Option.bind_some]
 simp only
 cases more with
 | true =>
  obtain ⟨a, b, m, e4⟩ := e2 rfl;rw [cond_true];refine ⟨_, rfl, ?_⟩;unfold closedA; rw [e4]; simp
 | false =>
  rw [cond_false]
  rcases e3 rfl with ⟨hk, e4⟩ | ⟨hk, e4⟩
  ·rw [decide_eq_true hk, cond_true]
   refine ⟨_, rfl, ?_⟩;unfold closedA; rw [e4]; simp
  ·rw [decide_eq_false (by omega), cond_false]
   have hL : ∀ i ∈ ofK t q.left k, In t i := fun i hi => hq.1 i (mem_ofK.1 hi).1
   have hR : ∀ i ∈ ofK t q.right k, In t i := fun i hi => hq.2 i (mem_ofK.1 hi).1
   have hll : (ofK t q.left k).length <= 500 := Nat.le_trans (List.length_filter_le _ _) h1
   have hrl : (ofK t q.right k).length <= 500 := Nat.le_trans (List.length_filter_le _ _) h2
   rw [only_eq hq.1 h1, Option.bind_some, only_eq hq.2 h2, Option.bind_some];obtain ⟨Ml, e5, e6⟩ := parts_eq hN hL hll;obtain ⟨Mr, e7, e8⟩ := parts_eq hN hR hrl;rw [e5, Option.bind_some, e7, Option.bind_some];rw [show FP t (ofK t q.left k) = partsA t (ofK t q.left k) from funext (fun s => FP_eq hO s _ hL)] at e6;rw [show FP t (ofK t q.right k) = partsA t (ofK t q.right k) from funext (fun s => FP_eq hO s _ hR)] at e8
   have hcl : closedA t q = headsA t k (ofK t q.left k) (ofK t q.right k) := by unfold closedA; rw [e4]
   rw [hcl];obtain ⟨_, ⟨i0, hi0, hk0⟩, _⟩ := kinds_one e4
   have hlne : ofK t q.left k ≠ [] := fun e => by have := mem_ofK.2 ⟨hi0, hk0⟩; rw [e] at this; cases this
   generalize ofK t q.left k = l at *
   generalize ofK t q.right k = r at *
   unfold headsA
   by_cases h6 : k = 6
   ·subst h6
    rw [decide_eq_true rfl, cond_true]
    by_cases hr : r = []
    ·rw [if_pos ⟨by omega, hr⟩]
     unfold m_below_search_arrows;rw [hr, decide_eq_true (by simp), cond_true];exact ⟨_, rfl, rfl, fun s => Iff.rfl⟩
    ·rw [if_neg (fun h => hr h.2), if_pos rfl, arrows_eq ⟨hL, hR⟩ hll hrl hr]
     exact ⟨_, rfl, rfl, fun s => Iff.rfl⟩
   ·rw [decide_eq_false h6, cond_false]
    by_cases h7 : k = 7
    ·subst h7
     rw [decide_eq_true rfl, cond_true]
     by_cases hr : r = []
     ·rw [if_pos ⟨by omega, hr⟩, hr, decide_eq_true (by simp), cond_true]
      exact ⟨_, rfl, rfl, fun s => Iff.rfl⟩
     ·rw [if_neg (fun h => hr h.2), if_neg (by omega), decide_eq_false (by have := List.length_pos_iff.2 hr; omega), cond_false]
      obtain ⟨a, e9, e10, e11, e12⟩ := wide_eq e6 e8 e8 r.length (List.length_pos_iff.2 hr);rw [e9, Option.bind_some];refine ⟨a, rfl, ?_⟩
      have hall : allA t 7 l r = namesA t r := by unfold allA; simp
      rw [hall]
      have hbb : (namesA t r).any (badA t l r) = a.fails := by
       rw [Bool.eq_iff_iff, e10, List.any_eq_true];simp only [bad_iff, names_len hr]
      cases hf : a.fails with
      | true => rw [if_pos (by rw [hbb, hf]), e11 hf]; exact ⟨rfl, fun s => Iff.rfl⟩
      | false =>
       rw [if_neg (by rw [hbb, hf]; simp)];refine ⟨rfl, fun s => ?_⟩;rw [e12 hf, List.mem_map];simp only [names_len hr];exact ⟨fun ⟨n, hn, e⟩ => ⟨n, hn, e.symm⟩, fun ⟨n, hn, e⟩ => ⟨n, hn, e.symm⟩⟩
    ·rw [decide_eq_false h7, cond_false]
     by_cases h8 : k = 8
     ·subst h8
      rw [decide_eq_true rfl, cond_true, if_neg (fun h => h.1 rfl), if_neg (by omega)];obtain ⟨a, e9, e10, e11, e12⟩ := wide_eq e6 e8 e6 l.length (List.length_pos_iff.2 hlne);rw [e9, Option.bind_some];refine ⟨a, rfl, ?_⟩
      have hall : allA t 8 l r = namesA t l := by unfold allA; simp
      rw [hall]
      have hbb : (namesA t l).any (badA t l r) = a.fails := by
       rw [Bool.eq_iff_iff, e10, List.any_eq_true];simp only [bad_iff, names_len hlne]
      cases hf : a.fails with
      | true => rw [if_pos (by rw [hbb, hf]), e11 hf]; exact ⟨rfl, fun s => Iff.rfl⟩
      | false =>
       rw [if_neg (by rw [hbb, hf]; simp)];refine ⟨rfl, fun s => ?_⟩;rw [e12 hf, List.mem_map];simp only [names_len hlne];exact ⟨fun ⟨n, hn, e⟩ => ⟨n, hn, e.symm⟩, fun ⟨n, hn, e⟩ => ⟨n, hn, e.symm⟩⟩
     ·rw [decide_eq_false h8, cond_false]
      refine ⟨_, rfl, ?_⟩
      have hall : allA t k l r = [] := by unfold allA; rw [if_neg h7, if_neg h8]
      by_cases hr : r = []
      ·rw [if_pos ⟨h8, hr⟩, hr]; exact ⟨rfl, fun s => Iff.rfl⟩
      ·rw [if_neg (fun h => hr h.2), if_neg h6, hall]
       refine ⟨?_, fun s => Iff.rfl⟩
       simp [hr]
theorem leads_eq {t : ApiType} {q : BelowSequent} (hO : OkT t) (hN : ∀ n ∈ t.l, NB n) (hq : InQ t q) (h1 : q.left.length <= 500) (h2 : q.right.length <= 500) :
  ∃ r, m_below_search_leads t q = some r /\ r.fails = (leadsA t q).1 /\ ∀ s, s ∈ r.to_ ↔ s ∈ (leadsA t q).2 := by
 unfold m_below_search_leads;rw [has_eq hq.1 (by omega), Option.bind_some, has_eq hq.2 (by omega)]
 have he : (bif (q.left.any fun i => decide ((nd t i).kind = 2)) then (some true) else ((some (q.right.any fun i => decide ((nd t i).kind = 1))).bind fun x2 => some x2)) = some (endA t q) := by
  unfold endA
  cases q.left.any fun i => decide ((nd t i).kind = 2) <;> rfl
 rw [he, Option.bind_some];unfold leadsA
 cases h3 : endA t q with
 | true => rw [cond_true, if_pos rfl]; exact ⟨_, rfl, rfl, fun s => Iff.rfl⟩
 | false =>
  rw [cond_false, if_neg (by simp), opened_eq hq h1 h2, Option.bind_some]
  cases h4 : openA t q with
  | some l => simp only [cond_true]; exact ⟨_, rfl, rfl, fun s => Iff.rfl⟩
  | none =>
   simp only [cond_false];rw [shared_eq hq h1 h2, Option.bind_some]
   cases h5 : shareA t q with
   | true => rw [cond_true, if_pos rfl]; exact ⟨_, rfl, rfl, fun s => Iff.rfl⟩
   | false =>
    rw [cond_false, if_neg (by simp)]
    have hC := mk_closed (t := t) (q := q) (by rw [h3]; simp) h4 (by rw [h5]; simp)
    obtain ⟨r, e1, e2, e3⟩ := closed_eq hO hN hq h1 h2 hC.bot hC.latL;rw [e1, Option.bind_some];exact ⟨r, rfl, e2, e3⟩
end Go.Proofs.YtkfnogdccpcmhaaGreatDoor
namespace Go.Proofs.YtkfnogdccpcmhaaGreatDoor
open Go.V
open Classical
def dd (x : Int) : List UInt8 := Lib.decDigits x.toNat
theorem ofN_inj {a b : Nat} (ha : a < 256) (hb : b < 256) (h : UInt8.ofNat a = UInt8.ofNat b) : a = b := by
 have := congrArg UInt8.toNat h
 rw [UInt8.toNat_ofNat', UInt8.toNat_ofNat'] at this
 omega
theorem dd_eq {u : Nat} (h : u < 100) : Lib.decDigits u = if u < 10 then [UInt8.ofNat (48 + u)] else [UInt8.ofNat (48 + u / 10), UInt8.ofNat (48 + u % 10)] := by
 rw [Lib.decDigits]
 by_cases h1 : u < 10
 ·rw [dif_pos h1, if_pos h1]
 ·rw [dif_neg h1, if_neg h1, Lib.decDigits, dif_pos (by omega)]; rfl
theorem dd_inj {x y : Int} (hx : 0 <= x /\ x < 100) (hy : 0 <= y /\ y < 100) (h : dd x = dd y) : x = y := by
 unfold dd at h;rw [dd_eq (by omega), dd_eq (by omega)] at h
 have key : x.toNat = y.toNat := by
  split at h
  ·split at h
   ·have := ofN_inj (by omega) (by omega) (List.cons.inj h).1; omega
   ·cases (List.cons.inj h).2
  ·split at h
   ·cases (List.cons.inj h).2
   ·have h1 := ofN_inj (by omega) (by omega) (List.cons.inj h).1
    have h2 := ofN_inj (by omega) (by omega) (List.cons.inj (List.cons.inj h).2).1
    omega
 omega
theorem dd_ne {x : Int} (hx : 0 <= x /\ x < 100) : dd x ≠ [] /\ (dd x).length <= 2 /\ ∀ c ∈ dd x, c ≠ 32 /\ c ≠ 124 := by
 have key : ∀ n : Nat, 48 <= n -> n < 58 -> UInt8.ofNat n ≠ 32 /\ UInt8.ofNat n ≠ 124 := by
  intro n h1 h2
  constructor <;> intro e <;> have := congrArg UInt8.toNat e <;> rw [UInt8.toNat_ofNat'] at this
  ·change n % 256 = 32 at this; omega
  ·change n % 256 = 124 at this; omega
 unfold dd;rw [dd_eq (by omega)]
 split
 ·exact ⟨by simp, by simp, fun c hc => by rw [List.mem_singleton] at hc; subst hc; exact key _ (by omega) (by omega)⟩
 ·refine ⟨by simp, by simp, fun c hc => ?_⟩
  simp only [List.mem_cons, List.not_mem_nil, or_false] at hc
  rcases hc with rfl | rfl
  ·exact key _ (by omega) (by omega)
  ·exact key _ (by omega) (by omega)
theorem sep_inj {c : UInt8} : ∀ (a b x y : List UInt8), c ∉ a -> c ∉ b -> a ++ c :: x = b ++ c :: y -> a = b /\ x = y
 | [], [], x, y, _, _, h => ⟨rfl, (List.cons.inj h).2⟩
 | [], d :: b, x, y, _, hb, h => absurd (List.cons.inj h).1 (fun e => hb (by simp [e]))
 | d :: a, [], x, y, ha, _, h => absurd (List.cons.inj h).1 (fun e => ha (by simp [e]))
 | d :: a, e :: b, x, y, ha, hb, h => by
  obtain ⟨h1, h2⟩ := List.cons.inj h;obtain ⟨h3, h4⟩ := sep_inj a b x y (fun h => ha (by simp [h])) (fun h => hb (by simp [h])) h2;exact ⟨by rw [h1, h3], h4⟩
def tl (l : List Int) : List UInt8 := l.flatMap fun y => 32 :: dd y
def tx : List Int -> List UInt8
 | [] => []
 | x :: l => dd x ++ tl l
theorem join_tx : ∀ l : List Int, Lib.join (l.map dd) [32] = tx l
 | [] => Lib.join_nil _
 | x :: l => by
  rw [List.map_cons, Lib.join_cons]
  show _ = dd x ++ List.flatMap (fun y => 32 :: dd y) l
  unfold Lib.joinTail;rw [List.flatMap_def, List.map_map]
  rfl
def Low (l : List Int) : Prop := ∀ x ∈ l, 0 <= x /\ x < 100
theorem tl_inj : ∀ l m : List Int, Low l -> Low m -> tl l = tl m -> l = m
 | [], [], _, _, _ => rfl
 | [], y :: m, _, _, h => by cases h
 | x :: l, [], _, _, h => by cases h
 | x :: l, y :: m, hl, hm, h => by
  have hx := dd_ne (hl x (by simp))
  have hy := dd_ne (hm y (by simp))
  have h1 : dd x ++ tl l = dd y ++ tl m := by
   unfold tl at h ⊢;rw [List.flatMap_cons, List.flatMap_cons, List.cons_append, List.cons_append] at h;exact (List.cons.inj h).2
  have h2 : dd x ++ (tl l ++ [32]) = dd y ++ (tl m ++ [32]) := by rw [<- List.append_assoc, <- List.append_assoc, h1]
  have hc : ∀ l : List Int, ∃ z, tl l ++ [32] = 32 :: z := by
   intro l
   cases l with
   | nil => exact ⟨[], rfl⟩
   | cons a l => exact ⟨dd a ++ tl l ++ [32], by unfold tl; rw [List.flatMap_cons]; rfl⟩
  obtain ⟨z1, e1⟩ := hc l;obtain ⟨z2, e2⟩ := hc m;rw [e1, e2] at h2;obtain ⟨h3, h4⟩ := sep_inj _ _ _ _ (fun h => (hx.2.2 _ h).1 rfl) (fun h => (hy.2.2 _ h).1 rfl) h2
  have hxy := dd_inj (hl x (by simp)) (hm y (by simp)) h3
  subst hxy;rw [tl_inj l m (fun z hz => hl z (by simp [hz])) (fun z hz => hm z (by simp [hz])) (List.append_cancel_left h1)]
theorem tx_inj {l m : List Int} (hl : Low l) (hm : Low m) (h : tx l = tx m) : l = m := by
 refine tl_inj l m hl hm ?_
 cases l with
 | nil =>
  cases m with
  | nil => rfl
  | cons y m =>
   have := (dd_ne (hm y (by simp))).1
   unfold tx at h;exact absurd (List.append_eq_nil_iff.1 h.symm).1 this
 | cons x l =>
  cases m with
  | nil =>
   have := (dd_ne (hl x (by simp))).1
   unfold tx at h;exact absurd (List.append_eq_nil_iff.1 h).1 this
  | cons y m =>
   change dd x ++ tl l = dd y ++ tl m at h
   unfold tl at h ⊢;rw [List.flatMap_cons, List.flatMap_cons, List.cons_append, List.cons_append, h]
theorem tl_facts : ∀ l : List Int, Low l -> (tl l).length <= 3 * l.length /\ (124 : UInt8) ∉ tl l
 | [], _ => by simp [tl]
 | x :: l, h => by
  obtain ⟨h1, h2⟩ := tl_facts l (fun z hz => h z (by simp [hz]));obtain ⟨_, h3, h4⟩ := dd_ne (h x (by simp))
  have e : tl (x :: l) = 32 :: (dd x ++ tl l) := by unfold tl; rw [List.flatMap_cons]; rfl
  rw [e];refine ⟨by simp only [List.length_cons, List.length_append]; omega, ?_⟩;simp only [List.mem_cons, List.mem_append, not_or];exact ⟨by decide, fun h => (h4 _ h).2 rfl, h2⟩
theorem tx_facts {l : List Int} (h : Low l) : (tx l).length <= 3 * l.length /\ (124 : UInt8) ∉ tx l := by
 cases l with
 | nil => simp [tx]
 | cons x l =>
  obtain ⟨h1, h2⟩ := tl_facts l (fun z hz => h z (by simp [hz]));obtain ⟨_, h3, h4⟩ := dd_ne (h x (by simp));unfold tx;refine ⟨by simp only [List.length_cons, List.length_append]; omega, ?_⟩;simp only [List.mem_append, not_or];exact ⟨fun h => (h4 _ h).2 rfl, h2⟩
theorem text_eq {l : List Int} (h : Low l) (hl : l.length <= 1000) : m_below_text l = some (tx l) := by
 unfold m_below_text;rw [grd_pos (by omega), grd_pos (by omega)];obtain ⟨o, e1, e2⟩ := loop_rng (φ := fun n i s => m_below_text_l1 l n (i, s)) (l := l) (fun i s => s.length = l.length /\ ∀ j, j < i -> s[j]? = (l[j]?).map dd) (fun o => o = l.map dd)
  (by
   intro n i x s hx hi hI
   left
   have h3 : s[i]? = some (s[i]'(by omega)) := List.getElem?_eq_getElem (by omega)
   simp only [m_below_text_l1];rw [decide_eq_true (show (i : Int) < (l.length : Int) by omega), cond_true, getI hx, Option.bind_some, grd_pos (h x (List.mem_of_getElem? hx)), getI h3, Option.bind_some, grd_pos (by constructor <;> omega)];refine ⟨_, rfl, by rw [List.length_set]; exact hI.1, fun j hj => ?_⟩;rw [Int.toNat_natCast]
   by_cases hji : j = i
   ·subst hji
    rw [List.getElem?_set_self (by omega), hx]; rfl
   ·rw [List.getElem?_set_ne (by omega)]
    exact hI.2 j (by omega))
  (by
   intro n s hI
   simp only [m_below_text_l1];rw [decide_eq_false (by omega), cond_false];refine ⟨s, rfl, List.ext_getElem? fun j => ?_⟩;rw [List.getElem?_map]
   by_cases hj : j < l.length
   ·exact hI.2 j hj
   ·rw [List.getElem?_eq_none (by omega), List.getElem?_eq_none (by omega)]; rfl) (by rw [FUv]; omega) (List.replicate ((l.length : Int)).toNat []) ⟨by simp, fun j hj => by omega⟩
 have hf := tx_facts h
 rw [e1, Option.bind_some, e2, join_tx, grd_pos (by rw [List.length_map]; omega), grd_pos (by omega)]
def keyS (q : BelowSequent) : List UInt8 := (tx q.left ++ [124]) ++ tx q.right
theorem key_eq {q : BelowSequent} (h1 : Low q.left) (h2 : Low q.right) (h3 : q.left.length <= 1000) (h4 : q.right.length <= 1000) : m_below_sequent_key q = some (keyS q) := by
 have f1 := tx_facts h1
 have f2 := tx_facts h2
 unfold m_below_sequent_key;rw [text_eq h1 h3, Option.bind_some, grd_pos (by simp only [List.length_cons, List.length_nil]; omega), text_eq h2 h4, Option.bind_some, grd_pos (by simp only [List.length_append, List.length_cons, List.length_nil]; omega)]
 rfl
theorem key_inj {q s : BelowSequent} (h1 : Low q.left) (h2 : Low q.right) (h3 : Low s.left) (h4 : Low s.right) (h : keyS q = keyS s) : q = s := by
 unfold keyS at h;rw [List.append_assoc, List.append_assoc] at h;obtain ⟨a, b⟩ := sep_inj _ _ _ _ (tx_facts h1).2 (tx_facts h3).2 h;obtain ⟨l, r⟩ := q;obtain ⟨l', r'⟩ := s
 have e1 := tx_inj h1 h3 a
 have e2 := tx_inj h2 h4 b
 simp only at e1 e2
 rw [e1, e2]
def subs : List Int -> List (List Int)
 | [] => [[]]
 | x :: l => subs l ++ (subs l).map (x :: ·)
theorem subs_len : ∀ l : List Int, (subs l).length = 2 ^ l.length
 | [] => rfl
 | x :: l => by
  unfold subs;rw [List.length_append, List.length_map, subs_len l, List.length_cons, Nat.pow_succ]; omega
theorem subs_sub : ∀ (l s : List Int), s ∈ subs l -> s.Sublist l
 | [], s, h => by simp [subs] at h; subst h; exact List.Sublist.slnil
 | x :: l, s, h => by
  unfold subs at h
  rcases List.mem_append.1 h with h | h
  ·exact (subs_sub l s h).cons x
  ·obtain ⟨s', h', rfl⟩ := List.mem_map.1 h
   exact (subs_sub l s' h').cons_cons x
theorem mem_subs : ∀ (P s : List Int), P.Pairwise (· < ·) -> s.Pairwise (· < ·) -> (∀ x ∈ s, x ∈ P) -> s ∈ subs P
 | [], s, _, _, h => by
  cases s with
  | nil => simp [subs]
  | cons x s => exact absurd (h x (by simp)) (by simp)
 | x :: P, [], hP, hs, h => by
  unfold subs;exact List.mem_append_left _ (mem_subs P [] (List.pairwise_cons.1 hP).2 List.Pairwise.nil (by simp))
 | x :: P, y :: s, hP, hs, h => by
  obtain ⟨p1, p2⟩ := List.pairwise_cons.1 hP;obtain ⟨s1, s2⟩ := List.pairwise_cons.1 hs;unfold subs
  by_cases hxy : y = x
  ·subst hxy
   refine List.mem_append_right _ (List.mem_map.2 ⟨s, mem_subs P s p2 s2 (fun z hz => ?_), rfl⟩)
   rcases List.mem_cons.1 (h z (by simp [hz])) with e | e
   ·have := s1 z hz; omega
   ·exact e
  ·have hyP : y ∈ P := (List.mem_cons.1 (h y (by simp))).resolve_left hxy
   have hxy2 := p1 y hyP
   refine List.mem_append_left _ (mem_subs P (y :: s) p2 hs (fun z hz => ?_))
   rcases List.mem_cons.1 (h z hz) with e | e
   ·exfalso
    rcases List.mem_cons.1 hz with e2 | e2
    ·omega
    ·have := s1 z e2; omega
   ·exact e
def UAB (A B : List Int) : List BelowSequent := (subs A).flatMap fun l => (subs B).map fun r => ⟨l, r⟩
theorem sum_const (c : Nat) : ∀ l : List Nat, (∀ x ∈ l, x = c) -> l.sum = l.length * c
 | [], _ => by simp
 | x :: l, h => by
  rw [List.sum_cons, sum_const c l (fun y hy => h y (by simp [hy])), h x (by simp), List.length_cons, Nat.succ_mul]; omega
theorem UAB_len (A B : List Int) : (UAB A B).length = 2 ^ (A.length + B.length) := by
 unfold UAB;rw [List.length_flatMap, sum_const (2 ^ B.length), List.length_map, subs_len, Nat.pow_add]
 intro x hx
 obtain ⟨l, _, rfl⟩ := List.mem_map.1 hx;rw [List.length_map, subs_len]
def Srt (q : BelowSequent) : Prop := q.left.Pairwise (· < ·) /\ q.right.Pairwise (· < ·)
theorem mem_UAB {A B : List Int} (hA : A.Pairwise (· < ·)) (hB : B.Pairwise (· < ·)) {q : BelowSequent} : q ∈ UAB A B ↔ Srt q /\ InAB (· ∈ A) (· ∈ B) q := by
 unfold UAB;rw [List.mem_flatMap]
 constructor
 ·rintro ⟨l, hl, h⟩
  obtain ⟨r, hr, rfl⟩ := List.mem_map.1 h
  have h1 := subs_sub A l hl
  have h2 := subs_sub B r hr
  exact ⟨⟨hA.sublist h1, hB.sublist h2⟩, fun i hi => h1.subset hi, fun i hi => h2.subset hi⟩
 ·rintro ⟨⟨h1, h2⟩, h3, h4⟩
  exact ⟨q.left, mem_subs A _ hA h1 h3, List.mem_map.2 ⟨q.right, mem_subs B _ hB h2 h4, rfl⟩⟩
theorem lead_srt {t : ApiType} {q s : BelowSequent} (hq : Srt q) (hs : s ∈ (leadsA t q).2) : Srt s := by
 unfold leadsA at hs
 split at hs
 ·cases hs
 ·split at hs
  ·rename_i l h2
   unfold openA at h2
   split at h2
   ·cases h2
    split at hs
    ·simp only [List.mem_singleton] at hs; subst hs; exact ⟨cs_sorted _, hq.2⟩
    ·simp only [List.mem_cons, List.not_mem_nil, or_false] at hs
     rcases hs with rfl | rfl
     ·exact ⟨cs_sorted _, hq.2⟩
     ·exact ⟨cs_sorted _, hq.2⟩
   ·split at h2
    ·cases h2
     split at hs
     ·simp only [List.mem_singleton] at hs; subst hs; exact ⟨hq.1, cs_sorted _⟩
     ·simp only [List.mem_cons, List.not_mem_nil, or_false] at hs
      rcases hs with rfl | rfl
      ·exact ⟨hq.1, cs_sorted _⟩
      ·exact ⟨hq.1, cs_sorted _⟩
    ·cases h2
  ·split at hs
   ·cases hs
   ·unfold closedA at hs
    split at hs
    ·cases hs
    ·unfold headsA at hs
     split at hs
     ·cases hs
     ·split at hs
      ·simp only [List.mem_cons, List.not_mem_nil, or_false] at hs
       rcases hs with rfl | rfl
       ·exact ⟨cs_sorted _, cs_sorted _⟩
       ·exact ⟨cs_sorted _, cs_sorted _⟩
      ·split at hs
       ·cases hs
       ·obtain ⟨n, _, rfl⟩ := List.mem_map.1 hs
        exact ⟨cs_sorted _, cs_sorted _⟩
    ·cases hs
theorem srt_len {t : ApiType} {l : List Int} (h : l.Pairwise (· < ·)) (hi : ∀ i ∈ l, In t i) : l.length <= t.l.length := nodup_bound _ l (h.imp (fun h => by omega)) hi
structure UOk (t : ApiType) (q : BelowSequent) (U : List BelowSequent) : Prop where
 mem : q ∈ U
 srt : ∀ s ∈ U, Srt s
 inn : ∀ s ∈ U, InQ t s
 clo : ∀ s ∈ U, ∀ s' ∈ (leadsA t s).2, s' ∈ U
 len : U.length <= 1000000000000
theorem UOk.rch {t : ApiType} {q : BelowSequent} {U : List BelowSequent} (h : UOk t q U) {s : BelowSequent} (hs : Rch t q s) : s ∈ U := by
 induction hs with
 | refl => exact h.mem
 | step _ h2 ih => exact h.clo _ ih _ h2
open Classical in
theorem holds_eq {t : ApiType} {q : BelowSequent} {U : List BelowSequent} (hO : OkT t) (hN : ∀ n ∈ t.l, NB n) (ht : t.l.length <= 99) (hU : UOk t q U) : m_holds t q = some (decide (Valid t q)) := by
 have hlen : ∀ s ∈ U, s.left.length <= 99 /\ s.right.length <= 99 := fun s hs => ⟨Nat.le_trans (srt_len (hU.srt s hs).1 (hU.inn s hs).1) ht, Nat.le_trans (srt_len (hU.srt s hs).2 (hU.inn s hs).2) ht⟩
 have hlow : ∀ s ∈ U, Low s.left /\ Low s.right := fun s hs => ⟨fun x hx => by have := (hU.inn s hs).1 x hx; exact ⟨this.1, by have := this.2; omega⟩, fun x hx => by have := (hU.inn s hs).2 x hx; exact ⟨this.1, by have := this.2; omega⟩⟩
 have hkey : ∀ s ∈ U, m_below_sequent_key s = some (keyS s) := fun s hs => key_eq (hlow s hs).1 (hlow s hs).2 (by have := (hlen s hs).1; omega) (by have := (hlen s hs).2; omega)
 have hlead : ∀ s ∈ U, ∃ r, m_below_search_leads t s = some r /\ r.fails = (leadsA t s).1 /\ ∀ x, x ∈ r.to_ ↔ x ∈ (leadsA t s).2 := fun s hs => leads_eq hO hN (hU.inn s hs) (by have := (hlen s hs).1; omega) (by have := (hlen s hs).2; omega)
 refine holds_of ⟨U, hU.mem, hU.len, fun s hs => ⟨_, hkey s hs⟩, fun s hs s' hs' h => ?_, fun s hs => ?_, ?_⟩
 ·rw [hkey s hs, hkey s' hs'] at h
  exact key_inj (hlow s hs).1 (hlow s hs).2 (hlow s' hs').1 (hlow s' hs').2 (Option.some.inj h)
 ·obtain ⟨r, h1, _, h3⟩ := hlead s hs
  exact ⟨r, h1, fun s' hs' => hU.clo s hs s' ((h3 s').1 hs')⟩
 ·rw [decide_eq_true_eq, <- valid_iff hO (hU.inn q hU.mem)]
  have hto : ∀ s, Reach t q s -> Rch t q s := by
   intro s hs
   induction hs with
   | refl => exact .refl
   | step _ h2 h3 ih =>
    obtain ⟨r, h4, _, h5⟩ := hlead _ (hU.rch ih);rw [h2] at h4; cases h4
    exact .step ih ((h5 _).1 h3)
  have hof : ∀ s, Rch t q s -> Reach t q s := by
   intro s hs
   induction hs with
   | refl => exact .refl
   | step h1 h2 ih =>
    obtain ⟨r, h4, _, h5⟩ := hlead _ (hU.rch h1);exact .step ih h4 ((h5 _).2 h2)
  constructor
  ·intro h s hs r hr
   obtain ⟨r', h4, h5, _⟩ := hlead s (hU.rch (hto s hs));rw [hr] at h4; cases h4
   rw [h5]; exact h s (hto s hs)
  ·intro h s hs
   obtain ⟨r, h4, h5, _⟩ := hlead s (hU.rch hs);rw [<- h5]; exact h s (hof s hs) r h4
theorem kept_U {t : ApiType} {A B : List Int} (hA : A.Pairwise (· < ·)) (hB : B.Pairwise (· < ·)) (kA : Kept t (· ∈ A)) (kB : Kept t (· ∈ B)) (hl : A.length + B.length <= 38) {q : BelowSequent} (hs : Srt q) (hq : InAB (· ∈ A) (· ∈ B) q) : UOk t q (UAB A B ++ UAB B A) := by
 refine ⟨List.mem_append_left _ ((mem_UAB hA hB).2 ⟨hs, hq⟩), fun s h => ?_, fun s h => ?_, fun s h s' h' => ?_, ?_⟩
 ·rcases List.mem_append.1 h with h | h
  ·exact ((mem_UAB hA hB).1 h).1
  ·exact ((mem_UAB hB hA).1 h).1
 ·rcases List.mem_append.1 h with h | h
  ·have := ((mem_UAB hA hB).1 h).2
   exact ⟨fun i hi => kA.inn i (this.1 i hi), fun i hi => kB.inn i (this.2 i hi)⟩
  ·have := ((mem_UAB hB hA).1 h).2
   exact ⟨fun i hi => kB.inn i (this.1 i hi), fun i hi => kA.inn i (this.2 i hi)⟩
 ·rcases List.mem_append.1 h with h | h
  ·obtain ⟨h1, h2⟩ := (mem_UAB hA hB).1 h
   rcases lead_in kA kB h2 h' with h3 | h3
   ·exact List.mem_append_left _ ((mem_UAB hA hB).2 ⟨lead_srt h1 h', h3⟩)
   ·exact List.mem_append_right _ ((mem_UAB hB hA).2 ⟨lead_srt h1 h', h3⟩)
  ·obtain ⟨h1, h2⟩ := (mem_UAB hB hA).1 h
   rcases lead_in kB kA h2 h' with h3 | h3
   ·exact List.mem_append_right _ ((mem_UAB hB hA).2 ⟨lead_srt h1 h', h3⟩)
   ·exact List.mem_append_left _ ((mem_UAB hA hB).2 ⟨lead_srt h1 h', h3⟩)
 ·rw [List.length_append, UAB_len, UAB_len, Nat.add_comm B.length]
  have := Nat.pow_le_pow_right (show 0 < 2 by omega) hl
  have : (2 : Nat) ^ 38 = 274877906944 := by decide
  omega
def rngI (n : Nat) : List Int := (List.range n).map fun k : Nat => (k : Int)
theorem mem_rngI {n : Nat} {x : Int} : x ∈ rngI n ↔ 0 <= x /\ x < (n : Int) := by
 unfold rngI;rw [List.mem_map]
 constructor
 ·rintro ⟨k, hk, rfl⟩
  have := List.mem_range.1 hk
  omega
 ·rintro ⟨h1, h2⟩
  exact ⟨x.toNat, List.mem_range.2 (by omega), by omega⟩
theorem rngI_sorted (n : Nat) : (rngI n).Pairwise (· < ·) := by
 unfold rngI;rw [List.pairwise_map];exact (range_lt n).imp (fun h => by omega)
theorem rngI_len (n : Nat) : (rngI n).length = n := by unfold rngI; rw [List.length_map, List.length_range]
theorem holds_all {t : ApiType} {q : BelowSequent} (hO : OkT t) (hN : ∀ n ∈ t.l, NB n) (ht : t.l.length <= 19) (hs : Srt q) (hq : InQ t q) : UOk t q (UAB (rngI t.l.length) (rngI t.l.length) ++ UAB (rngI t.l.length) (rngI t.l.length)) := by
 have k : Kept t (· ∈ rngI t.l.length) := by
  have := Kept.all hO
  have e : (fun x => x ∈ rngI t.l.length) = In t := funext fun x => propext mem_rngI
  rw [e]; exact this
 exact kept_U (rngI_sorted _) (rngI_sorted _) k k (by rw [rngI_len]; omega) hs ⟨fun i hi => mem_rngI.2 (hq.1 i hi), fun i hi => mem_rngI.2 (hq.2 i hi)⟩
end Go.Proofs.YtkfnogdccpcmhaaGreatDoor
namespace Go.Proofs.YtkfnogdccpcmhaaGreatDoor
open Go.V
open Classical
structure MayO (a : ApiType) : Prop where
 may : mayT a.l a.root = 0
 nb : ∀ n ∈ a.l, NB n
theorem MayO.ok {a : ApiType} (h : MayO a) : OkT a := ⟨(mayT_ok h.may).2.2.2.2.1, (mayT_ok h.may).2.2.2.2.2⟩
theorem MayO.root {a : ApiType} (h : MayO a) : In a a.root := ⟨(mayT_ok h.may).2.2.1, (mayT_ok h.may).2.2.2.1⟩
def isTag (p : Pt) (k : Int) : Prop := match p with
 | .tag _ k' => k = k'
 | _ => False
theorem hd_leaf {t : ApiType} {p : Pt} {x : ApiTNode} {k : Int} (hx : x.kind = k) (hk : 3 <= k /\ k <= 5) : hdP t p x ↔ isTag p k := by
 cases p with
 | tag S k' =>
  show (x.kind = k' /\ k' ≠ 8) ↔ k = k'
  rw [hx];exact ⟨fun h => h.1, fun h => ⟨h, by omega⟩⟩
 | dom S q => exact ⟨fun h => by have := h.1; omega, fun h => h.elim⟩
 | cod S q => exact ⟨fun h => by have := h.1; omega, fun h => h.elim⟩
 | absent S q => exact ⟨fun h => by have := h.1; omega, fun h => h.elim⟩
 | field S s q => exact ⟨fun h => by have := h.1; omega, fun h => h.elim⟩
 | hasc S q => exact ⟨fun h => by have := h.1; omega, fun h => h.elim⟩
 | case S s q => exact ⟨fun h => by have := h.1; omega, fun h => h.elim⟩
theorem sat_leaf {t : ApiType} {p : Pt} {i k : Int} (hx : (nd t i).kind = k) (hk : 3 <= k /\ k <= 5) : Sat t p i ↔ isTag p k := (la_head (by omega) (by omega)).trans (hd_leaf hx hk)
theorem may_of {t : ApiType} (hlen : t.l.length <= 2001) (hN : ∀ n ∈ t.l, NB n) (h : m_graph_May t = some 0) : MayO t := ⟨by rw [may_eq t hlen hN] at h; exact Option.some.inj h, hN⟩
end Go.Proofs.YtkfnogdccpcmhaaGreatDoor
namespace Go.Proofs.YtkfnogdccpcmhaaGreatDoor
open Go.V
open Classical
theorem on_go15 {R S T : Type} (u : S) (f : R -> Option T) (g : S -> Option T) : (Out.go u : Out R S).on f g = g u := rfl
end Go.Proofs.YtkfnogdccpcmhaaGreatDoor
namespace Go.Proofs.YtkfnogdccpcmhaaGreatDoor
open Go.V
open Classical
theorem cs_one (x : Int) : cs [x] = [x] := (cs_uniq (l := [x]) (m := [x]) (by simp) (fun _ => Iff.rfl)).symm
end Go.Proofs.YtkfnogdccpcmhaaGreatDoor
namespace Go.Proofs.YtkfnogdccpcmhaaGreatDoor
open Go.V
open Classical
def Bl (t : ApiType) (a b : Int) : Prop := ∀ p, Sat t p a -> Sat t p b
theorem Bl.trans {t : ApiType} {a b c : Int} (h : Bl t a b) (h2 : Bl t b c) : Bl t a c := fun p hp => h2 p (h p hp)
theorem bl_valid (t : ApiType) (a b : Int) : Valid t ⟨[a], [b]⟩ ↔ Bl t a b := by
 constructor
 ·intro h p hp
  refine Classical.byContradiction fun hn => h p ⟨fun i hi => ?_, fun i hi => ?_⟩
  ·rw [List.mem_singleton] at hi; subst hi; exact hp
  ·rw [List.mem_singleton] at hi; subst hi; exact hn
 ·intro h p hp
  exact hp.2 b (by simp) (h p (hp.1 a (by simp)))
theorem holds_U {t : ApiType} (h : MayO t) (ht : t.l.length <= 19) {l r : List Int} (hl : ∀ i ∈ l, In t i) (hr : ∀ i ∈ r, In t i) : ∃ U, UOk t ⟨cs l, cs r⟩ U :=
 ⟨_, holds_all h.ok h.nb ht ⟨cs_sorted l, cs_sorted r⟩ ⟨fun i hi => hl i (mem_cs.1 hi), fun i hi => hr i (mem_cs.1 hi)⟩⟩
theorem Holds_eq {t : ApiType} (hlen : t.l.length <= 2001) (hN : ∀ n ∈ t.l, NB n) (hsm : mayT t.l t.root = 0 -> t.l.length <= 19) {l r : List Int} (hl : l.length <= 1000) (hr : r.length <= 1000) :
  m_below_Holds t l r = some (if mayT t.l t.root = 0 then if ∀ x ∈ l ++ r, In t x then (decide (Valid t ⟨cs l, cs r⟩), 0) else (false, 3) else (false, mayT t.l t.root)) := by
 unfold m_below_Holds;rw [may_eq t hlen hN, Option.bind_some]
 by_cases h : mayT t.l t.root = 0
 ·have hm : MayO t := ⟨h, hN⟩
  rw [decide_eq_true h, Bool.not_true, cond_false, if_pos h, concat_eq [l, r] (by simp) (by simp; omega), Option.bind_some, contains_eq [l, r].flatten (fun y0 => m_below_Holds_1 y0 t) (fun x => decide (x < 0) || decide ((t.l.length : Int) <= x)) (fun x hx => rfl) (by simp; omega), Option.bind_some]
  have hany : ([l, r].flatten.any fun x => decide (x < 0) || decide ((t.l.length : Int) <= x)) = !decide (∀ x ∈ l ++ r, In t x) := by
   rw [show [l, r].flatten = l ++ r by simp]
   by_cases hi : ∀ x ∈ l ++ r, In t x
   ·rw [decide_eq_true hi, Bool.not_true, List.any_eq_false]
    intro x hx
    have := hi x hx
    have h1 := this.1
    have h2 := this.2
    rw [Bool.or_eq_true, decide_eq_true_eq, decide_eq_true_eq]; omega
   ·rw [decide_eq_false hi, Bool.not_false, List.any_eq_true]
    refine Classical.byContradiction fun hn => hi fun x hx => ?_
    have : ¬ (decide (x < 0) || decide ((t.l.length : Int) <= x)) = true := fun h => hn ⟨x, hx, h⟩
    rw [Bool.or_eq_true, decide_eq_true_eq, decide_eq_true_eq] at this;exact ⟨by omega, by omega⟩
  rw [hany]
  by_cases hi : ∀ x ∈ l ++ r, In t x
  ·rw [decide_eq_true hi, Bool.not_true, cond_false, if_pos hi, set_eq (by omega), Option.bind_some, set_eq (by omega), Option.bind_some]
   obtain ⟨U, hU⟩ := holds_U hm (hsm h) (l := l) (r := r) (fun i hil => hi i (List.mem_append_left _ hil)) (fun i hil => hi i (List.mem_append_right _ hil));rw [holds_eq hm.ok hN (by have := hsm h; omega) hU, Option.bind_some]
  ·rw [decide_eq_false hi, Bool.not_false, cond_true, if_neg hi]
 ·rw [decide_eq_false h, Bool.not_false, cond_true, if_neg h]
theorem is39_eq {t : ApiType} (h : MayO t) (ht : t.l.length <= 19) {a b : Int} (ha : In t a) (hb : In t b) : m_norm_is t a b = some (decide (Bl t a b)) := by
 unfold m_norm_is;rw [Holds_eq (by omega) h.nb (fun _ => ht) (by simp) (by simp), Option.bind_some, if_pos h.may, if_pos (by intro x hx; simp at hx; rcases hx with rfl | rfl; exact ha; exact hb)];simp only [decide_true, Bool.and_true, cs_one]
 congr 1
 exact decide_eq_decide.2 (bl_valid t a b)
def Alk (t : ApiType) (a b : Int) : Prop := Bl t a b /\ Bl t b a
theorem alike39_eq {t : ApiType} (h : MayO t) (ht : t.l.length <= 19) {a b : Int} (ha : In t a) (hb : In t b) : m_norm_alike t a b = some (decide (Alk t a b)) := by
 unfold m_norm_alike;rw [is39_eq h ht ha hb, Option.bind_some, is39_eq h ht hb ha]
 by_cases h1 : Bl t a b
 ·rw [decide_eq_true h1, cond_true, Option.bind_some, Option.bind_some]
  congr 1
  exact decide_eq_decide.2 ⟨fun h => ⟨h1, h⟩, fun h => h.2⟩
 ·rw [decide_eq_false h1, cond_false, Option.bind_some]
  congr 1
  exact (decide_eq_false fun h => h1 h.1).symm
theorem adj_iff {t : ApiType} : ∀ (m : List Int) (a : Int), (∀ (i : Nat) (x y : Int), (a :: m)[i]? = some y -> m[i]? = some x -> Bl t y x) ↔ (a :: m).Pairwise (Bl t)
 | [], a => by simp
 | b :: m, a => by
  have ih := adj_iff (t := t) m b
  constructor
  ·intro h
   have h1 := ih.1 fun i x y hy hx => h (i + 1) x y (by simpa using hy) (by simpa using hx)
   have hab : Bl t a b := h 0 b a rfl rfl
   rw [List.pairwise_cons];refine ⟨fun y hy => ?_, h1⟩
   rcases List.mem_cons.1 hy with rfl | hy
   ·exact hab
   ·exact hab.trans ((List.pairwise_cons.1 h1).1 y hy)
  ·intro h i x y hy hx
   obtain ⟨h1, h2⟩ := List.pairwise_cons.1 h
   cases i with
   | zero =>
    simp at hy hx
    subst hy; subst hx
    exact h1 _ (by simp)
   | succ i => exact ih.2 h2 i x y (by simpa using hy) (by simpa using hx)
noncomputable def cw (t : ApiType) (l : List Int) : Int := if mayT t.l t.root = 0 then if ∀ x ∈ l, In t x then if l.Pairwise (Bl t) then 0 else 15 else 3 else mayT t.l t.root
theorem chk_any {t : ApiType} (l : List Int) : (l.any fun x => decide (x < 0) || decide ((t.l.length : Int) <= x)) = !decide (∀ x ∈ l, In t x) := by
 by_cases hi : ∀ x ∈ l, In t x
 ·rw [decide_eq_true hi, Bool.not_true, List.any_eq_false]
  intro x hx
  have := hi x hx
  have h1 := this.1
  have h2 := this.2
  rw [Bool.or_eq_true, decide_eq_true_eq, decide_eq_true_eq]; omega
 ·rw [decide_eq_false hi, Bool.not_false, List.any_eq_true]
  refine Classical.byContradiction fun hn => hi fun x hx => ?_
  have : ¬ (decide (x < 0) || decide ((t.l.length : Int) <= x)) = true := fun h => hn ⟨x, hx, h⟩
  rw [Bool.or_eq_true, decide_eq_true_eq, decide_eq_true_eq] at this;exact ⟨by omega, by omega⟩
theorem chain_l1 {t : ApiType} (h : MayO t) (ht : t.l.length <= 19) {l : List Int} (hl : l.length <= 1000) (hi : ∀ x ∈ l, In t x) (F : Int -> Int -> Option Bool) (hF : ∀ a b, In t a -> In t b -> F a b = some (decide (Bl t a b))) (φ : Nat -> Int -> Option (Out Int Unit))
  (h1 : ∀ n i, φ (n + 1) i = bif (decide (i < (l.length : Int))) then grd (InR (i - 1)) <| (idx l (i - 1)).bind fun x3 => (idx l i).bind fun x4 => (F x3 x4).bind fun x5 => bif (!x5) then some (Out.ret 15) else grd (InR (i + 1)) <| φ n (i + 1) else some (Out.go ())) :
  φ FU 1 = some (if l.Pairwise (Bl t) then .go () else .ret 15) := by
 cases l with
 | nil =>
  rw [show FU = 18446744073709551615 + 1 from rfl, h1, decide_eq_false (by simp), cond_false, if_pos (by simp)]
 | cons a m =>
  simp only [List.length_cons] at hl
  have := loop_any (φ := fun n i => φ n (i + 1)) (l := m) (15 : Int) (fun i x => ∃ y, (a :: m)[i]? = some y /\ ¬ Bl t y x) (by
   intro n i x hx him
   have hy : (a :: m)[i]? = some ((a :: m)[i]'(by simp; omega)) := List.getElem?_eq_getElem _
   have hx2 : (a :: m)[i + 1]? = some x := by simpa using hx
   have e1 : idx (a :: m) ((i : Int) + 1 - 1) = some ((a :: m)[i]'(by simp; omega)) := by rw [show (i : Int) + 1 - 1 = (i : Int) by omega]; exact getI hy
   have e2 : idx (a :: m) ((i : Int) + 1) = some x := by rw [show (i : Int) + 1 = ((i + 1 : Nat) : Int) by omega]; exact getI hx2
   have hF2 := hF _ _ (hi _ (List.mem_of_getElem? hy)) (hi _ (List.mem_of_getElem? hx2))
   show _ /\ _
   rw [h1, decide_eq_true (show (i : Int) + 1 < ((a :: m).length : Int) by simp only [List.length_cons]; omega), cond_true, grd_pos (by constructor <;> omega), e1, Option.bind_some, e2, Option.bind_some, hF2, Option.bind_some]
   constructor
   ·intro hn
    have hb : Bl t ((a :: m)[i]'(by simp; omega)) x := Classical.byContradiction fun h => hn ⟨_, hy, h⟩
    rw [decide_eq_true hb, Bool.not_true, cond_false, grd_pos (by constructor <;> omega)]
   ·rintro ⟨y, hy2, hn⟩
    rw [hy] at hy2; cases hy2
    rw [decide_eq_false hn, Bool.not_false, cond_true]) (by
   intro n
   rw [h1, decide_eq_false (by simp only [List.length_cons]; omega), cond_false]) (by rw [FUv]; omega)
  have e0 : φ FU 1 = some (if ∃ (i : Nat) (x : Int), m[i]? = some x /\ (∃ y, (a :: m)[i]? = some y /\ ¬ Bl t y x) then Out.ret 15 else Out.go ()) := this
  rw [e0]
  congr 1
  by_cases hp : (a :: m).Pairwise (Bl t)
  ·rw [if_pos hp, if_neg]
   rintro ⟨i, x, hx, y, hy, hn⟩;exact hn ((adj_iff m a).2 hp i x y hy hx)
  ·rw [if_neg hp, if_pos]
   refine Classical.byContradiction fun hn => hp ((adj_iff m a).1 fun i x y hy hx => Classical.byContradiction fun hb => hn ⟨i, x, hx, y, hy, hb⟩)
theorem check_eq {t : ApiType} (hlen : t.l.length <= 2001) (hN : ∀ n ∈ t.l, NB n) (hsm : mayT t.l t.root = 0 -> t.l.length <= 19) {l : List Int} (hl : l.length <= 1000) : m_norm_Check t l = some (cw t l) := by
 unfold m_norm_Check cw;rw [may_eq t hlen hN, Option.bind_some]
 by_cases h : mayT t.l t.root = 0
 ·have hm : MayO t := ⟨h, hN⟩
  rw [decide_eq_true h, Bool.not_true, cond_false, if_pos h, contains_eq l (fun y0 => m_norm_Check_1 y0 t) (fun x => decide (x < 0) || decide ((t.l.length : Int) <= x)) (fun x hx => rfl) (by omega), Option.bind_some, chk_any]
  by_cases hi : ∀ x ∈ l, In t x
  ·rw [decide_eq_true hi, Bool.not_true, cond_false, if_pos hi, chain_l1 hm (hsm h) hl hi (m_norm_is t) (fun a b ha hb => is39_eq hm (hsm h) ha hb) (m_norm_Check_l1 t l) (fun n i => by simp only [m_norm_Check_l1]), Option.bind_some]
   by_cases hp : l.Pairwise (Bl t)
   ·rw [if_pos hp, if_pos hp]; rfl
   ·rw [if_neg hp, if_neg hp]; rfl
  ·rw [decide_eq_false hi, Bool.not_false, cond_true, if_neg hi]
 ·rw [decide_eq_false h, Bool.not_false, cond_true, if_neg h]
noncomputable def stepD (t : ApiType) (out : List Int) (x : Int) : List Int := match out.getLast? with
 | none => [x]
 | some y => if Alk t y x then out else out ++ [x]
noncomputable def dropL (t : ApiType) (l : List Int) : List Int := l.foldl (stepD t) []
theorem dropL_snoc (t : ApiType) (l : List Int) (x : Int) : dropL t (l ++ [x]) = stepD t (dropL t l) x := by unfold dropL; rw [List.foldl_append]; rfl
theorem snoc_ind {P : List Int -> Prop} (h0 : P []) (hs : ∀ l x, P l -> P (l ++ [x])) : ∀ l, P l := by
 have key : ∀ m : List Int, P m.reverse := by
  intro m
  induction m with
  | nil => exact h0
  | cons x m ih => rw [List.reverse_cons]; exact hs _ _ ih
 intro l
 have := key l.reverse
 rwa [List.reverse_reverse] at this
theorem dropL_sub (t : ApiType) : ∀ l : List Int, (dropL t l).length <= l.length /\ ∀ x ∈ dropL t l, x ∈ l := by
 refine snoc_ind (by simp [dropL]) fun l x ih => ?_;rw [dropL_snoc];unfold stepD
 split
 ·simp
 ·split
  ·exact ⟨by rw [List.length_append]; omega, fun y hy => List.mem_append_left _ (ih.2 y hy)⟩
  ·refine ⟨by simp only [List.length_append, List.length_cons, List.length_nil]; omega, fun y hy => ?_⟩
   rcases List.mem_append.1 hy with hy | hy
   ·exact List.mem_append_left _ (ih.2 y hy)
   ·exact List.mem_append_right _ hy
theorem lastG {l : List Int} (h : l ≠ []) : ∃ y, l.getLast? = some y /\ y ∈ l /\ idx l ((l.length : Int) - 1) = some y := by
 have hp := List.length_pos_iff.2 h
 have e : l[l.length - 1]? = some (l[l.length - 1]'(by omega)) := List.getElem?_eq_getElem (by omega)
 refine ⟨l[l.length - 1]'(by omega), by rw [List.getLast?_eq_getElem?]; exact e, List.getElem_mem _, ?_⟩;rw [show (l.length : Int) - 1 = ((l.length - 1 : Nat) : Int) by omega];exact getI e
theorem lastNil (l : List Int) : decide ((l.length : Int) = 0) = decide (l = []) := by
 cases l with
 | nil => rfl
 | cons a l => rw [decide_eq_false (by simp only [List.length_cons]; omega), decide_eq_false (by simp)]
theorem drop_eq {t : ApiType} (hlen : t.l.length <= 2001) (hN : ∀ n ∈ t.l, NB n) (hsm : mayT t.l t.root = 0 -> t.l.length <= 19) {l : List Int} (hl : l.length <= 1000) : m_norm_Drop t l = some (if cw t l = 0 then dropL t l else [], cw t l) := by
 unfold m_norm_Drop;rw [check_eq hlen hN hsm hl, Option.bind_some]
 by_cases h : cw t l = 0
 ·rw [decide_eq_true h, Bool.not_true, cond_false, if_pos h, h]
  have hm0 : mayT t.l t.root = 0 := Classical.byContradiction fun hm => by unfold cw at h; rw [if_neg hm] at h; exact hm h
  have hm : MayO t := ⟨hm0, hN⟩
  have hi : ∀ x ∈ l, In t x := Classical.byContradiction fun hi => by unfold cw at h; rw [if_pos hm0, if_neg hi] at h; cases h
  obtain ⟨o, e1, e2⟩ := loop_rng (φ := fun n i q => m_norm_Drop_l1 t l n (i, q)) (l := l) (fun i q => q = dropL t (l.take i)) (fun o => o = dropL t l)
   (by
    rintro n i x q hx hil rfl
    left
    have hxi := hi x (List.mem_of_getElem? hx)
    obtain ⟨d1, d2⟩ := dropL_sub t (l.take i);rw [List.length_take] at d1;simp only [m_norm_Drop_l1];rw [decide_eq_true (show (i : Int) < (l.length : Int) by omega), cond_true, getI hx, Option.bind_some, takeS hx, dropL_snoc, lastNil];unfold stepD
    by_cases h0 : dropL t (l.take i) = []
    ·rw [h0, decide_eq_true rfl, cond_true, grd_pos (by simp), grd_pos (by constructor <;> omega)]
     exact ⟨_, rfl, rfl⟩
    ·obtain ⟨y, g1, g2, g3⟩ := lastG h0
     have hyi := hi y (List.mem_of_mem_take (d2 y g2))
     rw [decide_eq_false h0, cond_false, grd_pos (by constructor <;> omega), g3, Option.bind_some, alike39_eq hm (hsm hm0) hyi hxi, Option.bind_some, g1]
     simp only
     by_cases hal : Alk t y x
     ·rw [decide_eq_true hal, Bool.not_true, cond_false, grd_pos (by constructor <;> omega), if_pos hal]
      exact ⟨_, rfl, rfl⟩
     ·rw [decide_eq_false hal, Bool.not_false, cond_true, grd_pos (by simp only [List.length_cons, List.length_nil]; omega), grd_pos (by constructor <;> omega), if_neg hal]
      exact ⟨_, rfl, rfl⟩)
   (by
    rintro n q rfl;simp only [m_norm_Drop_l1];rw [decide_eq_false (by omega), cond_false];exact ⟨_, rfl, by rw [List.take_length]⟩) (by rw [FUv]; omega) [] (by simp [dropL])
  rw [e1, Option.bind_some, e2]
 ·rw [decide_eq_false h, Bool.not_false, cond_true, if_neg h]
noncomputable def endsL (t : ApiType) (l : List Int) : List Int := match l, l.getLast? with
 | a :: _, some b => if Alk t a b then [a] else [a, b]
 | _, _ => []
theorem ends_eq {t : ApiType} (hlen : t.l.length <= 2001) (hN : ∀ n ∈ t.l, NB n) (hsm : mayT t.l t.root = 0 -> t.l.length <= 19) {l : List Int} (hl : l.length <= 1000) : m_norm_Ends t l = some (if cw t l = 0 then endsL t l else [], cw t l) := by
 unfold m_norm_Ends;rw [check_eq hlen hN hsm hl, Option.bind_some, lastNil]
 by_cases h : cw t l = 0
 ·rw [decide_eq_true h, Bool.not_true, Bool.false_or, if_pos h, h]
  have hm0 : mayT t.l t.root = 0 := Classical.byContradiction fun hm => by unfold cw at h; rw [if_neg hm] at h; exact hm h
  have hm : MayO t := ⟨hm0, hN⟩
  have hi : ∀ x ∈ l, In t x := Classical.byContradiction fun hi => by unfold cw at h; rw [if_pos hm0, if_neg hi] at h; cases h
  cases l with
  | nil => rfl
  | cons a m =>
   obtain ⟨y, g1, g2, g3⟩ := lastG (l := a :: m) (by simp);rw [decide_eq_false (by simp), cond_false, show idx (a :: m) 0 = some a from rfl, Option.bind_some, grd_pos (by simp only [List.length_cons] at hl ⊢; constructor <;> omega), g3, Option.bind_some, alike39_eq hm (hsm hm0) (hi a (by simp)) (hi y g2), Option.bind_some];unfold endsL;rw [g1]
   simp only
   by_cases hal : Alk t a y
   ·rw [decide_eq_true hal, cond_true, if_pos hal]
   ·rw [decide_eq_false hal, cond_false, if_neg hal]
 ·rw [decide_eq_false h, Bool.not_false, Bool.true_or, cond_true, if_neg h]
theorem Alk.refl (t : ApiType) (a : Int) : Alk t a a := ⟨fun _ h => h, fun _ h => h⟩
theorem Alk.symm {t : ApiType} {a b : Int} (h : Alk t a b) : Alk t b a := ⟨h.2, h.1⟩
theorem Alk.trans {t : ApiType} {a b c : Int} (h : Alk t a b) (h2 : Alk t b c) : Alk t a c := ⟨h.1.trans h2.1, h2.2.trans h.2⟩
structure DropOk (t : ApiType) (l D : List Int) : Prop where
 ne : D ≠ []
 head : D.head? = l.head?
 last : ∀ x y, D.getLast? = some x -> l.getLast? = some y -> Alk t x y
 again : dropL t D = D
 chain : D.Pairwise (Bl t)
theorem pw_last {t : ApiType} {l : List Int} {x y : Int} (h : (l ++ [x]).Pairwise (Bl t)) (hy : l.getLast? = some y) : Bl t y x := by
 rw [List.pairwise_append] at h;exact h.2.2 y (List.mem_of_getLast? hy) x (by simp)
theorem dropOk {t : ApiType} : ∀ l : List Int, l.Pairwise (Bl t) -> l ≠ [] -> DropOk t l (dropL t l) := by
 refine snoc_ind (fun _ h => absurd rfl h) fun l x ih hp _ => ?_;rw [dropL_snoc]
 by_cases h0 : l = []
 ·subst h0
  have e : stepD t (dropL t []) x = [x] := rfl
  rw [e];exact ⟨by simp, rfl, fun a b h1 h2 => by simp at h1 h2; subst h1; subst h2; exact Alk.refl t _, rfl, by simp⟩
 ·have hpl : l.Pairwise (Bl t) := (List.pairwise_append.1 hp).1
  obtain ⟨d1, d2, d3, d4, d5⟩ := ih hpl h0;obtain ⟨z, z1, z2, _⟩ := lastG h0;obtain ⟨y, y1, y2, _⟩ := lastG d1
  have hyz := d3 y z y1 z1
  have hzx := pw_last hp z1
  have hyx : Bl t y x := hyz.1.trans hzx
  have hhead : (l ++ [x]).head? = l.head? := by
   cases l with
   | nil => exact absurd rfl h0
   | cons a m => rfl
  have hlast : (l ++ [x]).getLast? = some x := by simp
  unfold stepD;rw [y1]
  simp only
  by_cases hal : Alk t y x
  ·rw [if_pos hal]
   exact ⟨d1, by rw [hhead, d2], fun a b h1 h2 => by rw [y1] at h1; cases h1; rw [hlast] at h2; cases h2; exact hal, d4, d5⟩
  ·rw [if_neg hal]
   refine ⟨by simp, ?_, fun a b h1 h2 => ?_, ?_, ?_⟩
   ·rw [hhead, <- d2]
    cases hD : dropL t l with
    | nil => exact absurd hD d1
    | cons a m => rfl
   ·rw [hlast] at h2; cases h2
    simp at h1; subst h1; exact Alk.refl t _
   ·rw [dropL_snoc, d4]
    unfold stepD;rw [y1]
    simp only
    rw [if_neg hal]
   ·rw [List.pairwise_append]
    refine ⟨d5, by simp, fun a ha b hb => ?_⟩;rw [List.mem_singleton] at hb; subst hb
    obtain ⟨D', hD'⟩ : ∃ D', dropL t l = D' ++ [y] := by
     have e2 := List.dropLast_concat_getLast d1
     have e3 : (dropL t l).getLast d1 = y := by
      have := List.getLast?_eq_some_getLast d1
      rw [y1] at this; exact (Option.some.inj this).symm
     exact ⟨(dropL t l).dropLast, by rw [<- e3]; exact e2.symm⟩
    rw [hD'] at ha d5
    rcases List.mem_append.1 ha with ha | ha
    ·exact ((List.pairwise_append.1 d5).2.2 a ha y (by simp)).trans hyx
    ·rw [List.mem_singleton] at ha; subst ha; exact hyx
def exC : ApiType := ⟨[⟨3, 0, 0, []⟩, ⟨3, 0, 0, []⟩, ⟨1, 0, 0, []⟩], 0⟩
theorem exC_may : MayO exC := may_of (by decide) (by intro n hn; simp [exC] at hn; rcases hn with rfl | rfl <;> simp [NB]) (by rfl)
theorem exC_01 : ∀ p, Sat exC p 0 ↔ Sat exC p 1 := fun p => (sat_leaf (t := exC) (i := 0) (k := 3) (by decide) (by decide)).trans (sat_leaf (t := exC) (i := 1) (k := 3) (by decide) (by decide)).symm
theorem exC_2 : ∀ p, Sat exC p 2 := fun p => la_top (t := exC) (i := 2) (by decide)
theorem exC_20 : ¬ Bl exC 2 0 := by
 intro h
 have h1 := (sat_leaf (t := exC) (i := 0) (k := 3) (by decide) (by decide)).1 (h (.tag (fun _ => False) 0) (exC_2 _))
 exact absurd (show (3 : Int) = 0 from h1) (by decide)
theorem exC_in : ∀ x ∈ ([0, 1, 2] : List Int), In exC x := by
 intro x hx
 simp at hx
 rcases hx with rfl | rfl | rfl <;> exact ⟨by decide, by decide⟩
theorem works39_eq : m_ln_works = some true := by
 have p1 : ([0, 1, 2] : List Int).Pairwise (Bl exC) := by
  rw [List.pairwise_cons, List.pairwise_cons];refine ⟨fun x hx => ?_, fun x hx => ?_, by simp⟩
  ·simp at hx
   rcases hx with rfl | rfl
   ·exact fun p hp => (exC_01 p).1 hp
   ·exact fun p _ => exC_2 p
  ·simp at hx; subst hx; exact fun p _ => exC_2 p
 have c1 : cw exC [0, 1, 2] = 0 := by unfold cw; rw [if_pos exC_may.may, if_pos exC_in, if_pos p1]
 have c2 : cw exC [2, 0] = 15 := by
  unfold cw;rw [if_pos exC_may.may, if_pos (fun x hx => exC_in x (by simp at hx ⊢; omega)), if_neg]
  intro h
  exact exC_20 ((List.pairwise_cons.1 h).1 0 (by simp))
 have d1 : dropL exC [0, 1, 2] = [0, 2] := by
  have a1 : Alk exC 0 1 := ⟨fun p hp => (exC_01 p).1 hp, fun p hp => (exC_01 p).2 hp⟩
  have a2 : ¬ Alk exC 0 2 := fun h => exC_20 h.2
  show stepD exC (stepD exC (stepD exC [] 0) 1) 2 = _
  rw [show stepD exC [] 0 = [0] from rfl, show stepD exC [0] 1 = [0] from if_pos a1, show stepD exC [0] 2 = [0] ++ [2] from if_neg a2]; rfl
 have e1 := drop_eq (t := exC) (by decide) exC_may.nb (fun _ => by decide) (l := [0, 1, 2]) (by simp)
 have e2 := check_eq (t := exC) (by decide) exC_may.nb (fun _ => by decide) (l := [2, 0]) (by simp)
 rw [c1, if_pos rfl, d1] at e1;rw [c2] at e2;unfold m_ln_works
 change ((m_norm_Drop exC [0, 1, 2]).bind _) = _
 rw [e1, Option.bind_some];simp only [decide_true, cond_true];rw [sameInts_eq _ _ (by simp)];simp only [decide_true, cond_true, Option.bind_some]
 change ((m_norm_Check exC [2, 0]).bind _).bind _ = _
 rw [e2]; rfl
theorem few39_eq (t : ApiType) (l : List Int) : m_ln_few (⟨t.l, t.root⟩ : ApiType) l = some (fewT 10 t, l.take 6) := by
 unfold m_ln_few;rw [few_eq _ 10 10 rfl (by omega), Option.bind_some]
 have e : sli l 0 (if 6 < (l.length : Int) then 6 else (l.length : Int)) = some (l.take 6) := by
  by_cases h : 6 < (l.length : Int)
  ·rw [if_pos h]; exact sli_take (k := 6) (by omega)
  ·rw [if_neg h, sli_take (by omega), List.take_of_length_le (by omega), List.take_of_length_le (by omega)]
 rw [e, Option.bind_some, ints_eq _ (by rw [List.length_take]; omega), Option.bind_some]
theorem law_NormEnds (t : ApiType) (l : List Int) : m_ln_NormEnds t l = some true := by
 unfold m_ln_NormEnds;rw [works39_eq, Option.bind_some, Bool.not_true, cond_false, few39_eq, Option.bind_some]
 have hl6 : (l.take 6).length <= 6 := by rw [List.length_take]; omega
 have hlt := fewT_len 10 (by omega) t
 have hN := fewT_nb 10 t
 have hs : mayT (fewT 10 t).l (fewT 10 t).root = 0 -> (fewT 10 t).l.length <= 19 := fun h => by have := fewT_small 10 t (mayT_ok h).2.1; omega
 generalize l.take 6 = m at *
 generalize fewT 10 t = x at *
 simp only
 have hdrop : ∀ {q : List Int}, q.length <= 1000 -> m_norm_Drop (⟨x.l, x.root⟩ : ApiType) q = some (if cw x q = 0 then dropL x q else [], cw x q) := fun hq => drop_eq hlt hN hs hq
 have hends : ∀ {q : List Int}, q.length <= 1000 -> m_norm_Ends (⟨x.l, x.root⟩ : ApiType) q = some (if cw x q = 0 then endsL x q else [], cw x q) := fun hq => ends_eq hlt hN hs hq
 rw [hdrop (by omega), Option.bind_some]
 simp only
 rw [loop_any (φ := m_ln_NormEnds_l1 x) (l := x.l) true (fun _ n => n.kind = 11) (by
  intro n i y hy hi
  simp only [m_ln_NormEnds_l1];rw [decide_eq_true (show (i : Int) < (x.l.length : Int) by omega), cond_true, getI hy, Option.bind_some]
  constructor
  ·intro hn; rw [decide_eq_false hn, cond_false, grd_pos (by constructor <;> omega)]
  ·intro hn; rw [decide_eq_true hn, cond_true]) (by
  intro n
  simp only [m_ln_NormEnds_l1];rw [decide_eq_false (by omega), cond_false]) (by rw [FUv]; omega), Option.bind_some]
 split
 ·rfl
 ·rw [on_go15, lastNil]
  by_cases hc : cw x m = 0
  ·rw [if_pos hc, hc, decide_eq_true rfl, Bool.not_true, Bool.false_or]
   by_cases hm : m = []
   ·subst hm; rfl
   ·rw [decide_eq_false hm, cond_false]
    have hm0 : mayT x.l x.root = 0 := Classical.byContradiction fun hm => by unfold cw at hc; rw [if_neg hm] at hc; exact hm hc
    have hi : ∀ y ∈ m, In x y := Classical.byContradiction fun hi => by unfold cw at hc; rw [if_pos hm0, if_neg hi] at hc; cases hc
    have hp : m.Pairwise (Bl x) := Classical.byContradiction fun hp => by unfold cw at hc; rw [if_pos hm0, if_pos hi, if_neg hp] at hc; cases hc
    obtain ⟨d1, d2, d3, d4, d5⟩ := dropOk m hp hm;obtain ⟨s1, s2⟩ := dropL_sub x m
    have hcD : cw x (dropL x m) = 0 := by unfold cw; rw [if_pos hm0, if_pos (fun y hy => hi y (s2 y hy)), if_pos d5]
    rw [hdrop (by omega), Option.bind_some, hends (by omega), Option.bind_some, hends (by omega), Option.bind_some, hcD, hc, if_pos rfl, if_pos rfl, if_pos rfl, d4];obtain ⟨z, z1, z2, z3⟩ := lastG hm;obtain ⟨y, y1, y2, y3⟩ := lastG d1
    have hyz := d3 y z y1 z1
    cases m with
    | nil => exact absurd rfl hm
    | cons a r =>
     cases hD : dropL x (a :: r) with
     | nil => exact absurd hD d1
     | cons b r' =>
      rw [hD] at d2 y1
      have hba : b = a := by simpa using d2
      subst hba
      have hbz : Bl x b z := by
       by_cases hbz : z = b
       ·subst hbz; exact fun _ h => h
       ·rcases List.mem_cons.1 z2 with e | e
        ·exact absurd e hbz
        ·exact (List.pairwise_cons.1 hp).1 z e
      simp only
      rw [show idx (b :: r) 0 = some b from rfl, Option.bind_some, grd_pos (by simp only [List.length_cons] at hl6 ⊢; constructor <;> omega), z3, Option.bind_some,
       show m_below_Holds (⟨x.l, x.root⟩ : ApiType) [b] [z] = some (true, 0) by
        have := Holds_eq hlt hN hs (l := [b]) (r := [z]) (by simp) (by simp)
        rw [if_pos hm0, if_pos (by intro w hw; simp at hw; rcases hw with rfl | rfl; exact hi _ (by simp); exact hi _ z2), cs_one, cs_one, decide_eq_true ((bl_valid x b z).2 hbz)] at this;exact this, Option.bind_some]
      simp only [decide_true, cond_true];rw [sameInts_eq _ _ (by rw [hD] at s1; simp only [List.length_cons] at s1 hl6 ⊢; omega), Option.bind_some, decide_eq_true rfl, cond_true];unfold endsL;rw [y1, z1]
      simp only
      by_cases hal : Alk x b y
      ·have e1 : (if Alk x b y then [b] else [b, y] : List Int) = [b] := if_pos hal
       have e2 : (if Alk x b z then [b] else [b, z] : List Int) = [b] := if_pos (hal.trans hyz)
       simp only [e1, e2];rw [show idx [b] 0 = some b from rfl]; simp
      ·have e1 : (if Alk x b y then [b] else [b, y] : List Int) = [b, y] := if_neg hal
       have e2 : (if Alk x b z then [b] else [b, z] : List Int) = [b, z] := if_neg (fun h => hal (h.trans hyz.symm))
       simp only [e1, e2];rw [show idx [b, y] 0 = some b from rfl, show idx [b, z] 0 = some b from rfl]; simp
  ·rw [if_neg hc, decide_eq_false hc, Bool.not_false, Bool.true_or, cond_true]; rfl
end Go.Proofs.YtkfnogdccpcmhaaGreatDoor
