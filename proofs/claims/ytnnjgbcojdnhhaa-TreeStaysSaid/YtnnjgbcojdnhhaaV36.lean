/- Going through what is reached, place by place. -/
import Derived.Test.YtnnjgbcojdnhhaaV35
set_option linter.unusedVariables false
set_option linter.unusedSimpArgs false
namespace Go.V
/-- Puts in what is not there. -/
def addL (l n : List Int) : List Int := n.foldl (fun l k => if k ∈ l then l else l ++ [k]) l
theorem addL_nil (l : List Int) : addL l [] = l := rfl
theorem addL_cons (l : List Int) (k : Int) (n : List Int) : addL l (k :: n) = addL (if k ∈ l then l else l ++ [k]) n := rfl
theorem addL_mem {x : Int} : ∀ (n l : List Int), x ∈ addL l n ↔ x ∈ l ∨ x ∈ n
  | [], l => by simp [addL_nil]
  | k :: n, l => by
    rw [addL_cons, addL_mem n]
    split
    · rename_i h
      simp only [List.mem_cons]
      exact ⟨fun h => by rcases h with h | h <;> simp [h], fun h2 => by rcases h2 with h2 | rfl | h2 <;> simp [*]⟩
    · simp only [List.mem_append, List.mem_cons, List.not_mem_nil, or_false]
      exact or_assoc
theorem addL_pre : ∀ (n l : List Int), ∃ e, addL l n = l ++ e
  | [], l => ⟨[], by simp [addL_nil]⟩
  | k :: n, l => by
    rw [addL_cons]
    split
    · exact addL_pre n l
    · obtain ⟨e, he⟩ := addL_pre n (l ++ [k])
      exact ⟨k :: e, by rw [he]; simp⟩
theorem addL_nodup : ∀ (n l : List Int), l.Nodup → (addL l n).Nodup
  | [], l, h => h
  | k :: n, l, h => by
    rw [addL_cons]
    split
    · exact addL_nodup n l h
    · rename_i hk
      refine addL_nodup n _ ?_
      rw [List.nodup_append]
      refine ⟨h, by simp, ?_⟩
      intro a ha b hb
      simp only [List.mem_singleton] at hb
      subst hb
      intro e
      subst e
      exact hk ha
theorem addL_map (f : Int → Int) : ∀ (n l : List Int), (∀ x y, x ∈ l ∨ x ∈ n → y ∈ l ∨ y ∈ n → f x = f y → x = y) → addL (l.map f) (n.map f) = (addL l n).map f
  | [], l, h => by simp [addL_nil]
  | k :: n, l, h => by
    rw [List.map_cons, addL_cons, addL_cons]
    have e : f k ∈ l.map f ↔ k ∈ l := by
      rw [List.mem_map]
      constructor
      · rintro ⟨x, hx, hf⟩
        rw [← h x k (.inl hx) (.inr (by simp)) hf]; exact hx
      · exact fun hk => ⟨k, hk, rfl⟩
    by_cases hk : k ∈ l
    · rw [if_pos hk, if_pos (e.2 hk)]
      refine addL_map f n l fun x y hx hy => h x y ?_ ?_
      · rcases hx with hx | hx <;> simp [hx]
      · rcases hy with hy | hy <;> simp [hy]
    · rw [if_neg hk, if_neg (fun h2 => hk (e.1 h2)), ← addL_map f n (l ++ [k])]
      · simp
      intro x y hx hy
      refine h x y ?_ ?_
      · rcases hx with hx | hx
        · rcases List.mem_append.1 hx with hx | hx
          · exact .inl hx
          · exact .inr (by rw [List.mem_singleton.1 hx]; simp)
        · exact .inr (List.mem_cons_of_mem _ hx)
      · rcases hy with hy | hy
        · rcases List.mem_append.1 hy with hy | hy
          · exact .inl hy
          · exact .inr (by rw [List.mem_singleton.1 hy]; simp)
        · exact .inr (List.mem_cons_of_mem _ hy)
theorem range_len : ∀ (N : Nat) (l : List Int), l.Nodup → (∀ x ∈ l, 0 ≤ x ∧ x < (N : Int)) → l.length ≤ N
  | 0, l, _, h => by
    rcases l with _ | ⟨x, l⟩
    · simp
    · have := h x (by simp); omega
  | N + 1, l, hn, h => by
    have h1 := range_len N (l.erase (N : Int)) (hn.erase _) (by
      intro x hx
      have h2 := (hn.mem_erase_iff).1 hx
      have := h x h2.2
      have h3 := h2.1
      omega)
    have := List.length_erase (a := (N : Int)) (l := l)
    split at this <;> omega
/-- All that is reached, in order: what stands behind i is gone through. -/
def bfs (nx : Int → List Int) : Nat → Nat → List Int → List Int
  | 0, _, l => l
  | m + 1, i, l => match l[i]? with
    | none => l
    | some x => bfs nx m (i + 1) (addL l (nx x))
section
variable {nx : Int → List Int} {N : Nat}
theorem bfs_none {m i : Nat} {l : List Int} (h : l[i]? = none) : bfs nx m i l = l := by
  cases m with
  | zero => rfl
  | succ m => rw [bfs, h]
theorem bfs_some {m i : Nat} {l : List Int} {x : Int} (h : l[i]? = some x) : bfs nx (m + 1) i l = bfs nx m (i + 1) (addL l (nx x)) := by rw [bfs, h]
def inN (N : Nat) (l : List Int) : Prop := ∀ x ∈ l, 0 ≤ x ∧ x < (N : Int)
theorem inN_add {l n : List Int} (h : inN N l) (h2 : inN N n) : inN N (addL l n) := fun x hx => ((addL_mem n l).1 hx).elim (h x) (h2 x)
theorem addL_len {l n : List Int} (h : inN N l) (h2 : inN N n) (hd : l.Nodup) : (addL l n).length ≤ N := range_len N _ (addL_nodup _ _ hd) (inN_add h h2)
theorem bfs_ok (hnx : ∀ x, 0 ≤ x → x < (N : Int) → inN N (nx x)) : ∀ (m i : Nat) (l : List Int), N ≤ i + m → i ≤ l.length → l.Nodup → inN N l →
    (bfs nx m i l).Nodup ∧ inN N (bfs nx m i l) ∧ (∃ e, bfs nx m i l = l ++ e) ∧ (∀ (j : Nat) x, i ≤ j → (bfs nx m i l)[j]? = some x → ∀ y ∈ nx x, y ∈ bfs nx m i l) := by
  intro m
  induction m with
  | zero =>
    intro i l hN hi hd hr
    refine ⟨hd, hr, ⟨[], by simp [bfs]⟩, fun j x hj hx => ?_⟩
    have h1 := range_len N l hd hr
    have h2 := getLt hx
    simp only [bfs] at h2
    omega
  | succ m ih =>
    intro i l hN hi hd hr
    cases hx : l[i]? with
    | none =>
      rw [bfs_none hx]
      refine ⟨hd, hr, ⟨[], by simp⟩, fun j x hj hx2 => ?_⟩
      have h1 := List.getElem?_eq_none_iff.1 hx
      have h2 := getLt hx2
      omega
    | some x =>
      rw [bfs_some hx]
      have hxr := hr x (List.mem_of_getElem? hx)
      have hil := getLt hx
      obtain ⟨e, he⟩ := addL_pre (nx x) l
      obtain ⟨h1, h2, ⟨e2, h3⟩, h4⟩ := ih (i + 1) (addL l (nx x)) (by omega) (by rw [he]; simp; omega) (addL_nodup _ _ hd) (inN_add hr (hnx x hxr.1 hxr.2))
      refine ⟨h1, h2, ⟨e ++ e2, by rw [h3, he]; simp⟩, fun j z hj hz => ?_⟩
      by_cases hji : j = i
      · subst hji
        have h5 : (bfs nx m (j + 1) (addL l (nx x)))[j]? = some x := by
          rw [h3, he, List.append_assoc, List.getElem?_append_left hil, hx]
        rw [hz] at h5
        cases h5
        intro y hy
        rw [h3]
        exact List.mem_append.2 (.inl ((addL_mem _ _).2 (.inr hy)))
      · exact h4 j z (by omega) hz
/-- What is reached where all places are others. -/
theorem bfs_map {nx2 : Int → List Int} (f : Int → Int) (hnx : ∀ x, 0 ≤ x → x < (N : Int) → inN N (nx x)) : ∀ (m i : Nat) (l : List Int), N ≤ i + m → i ≤ l.length → l.Nodup → inN N l →
    (∀ x ∈ bfs nx m i l, nx2 (f x) = (nx x).map f) → (∀ x y, x ∈ bfs nx m i l → y ∈ bfs nx m i l → f x = f y → x = y) → bfs nx2 m i (l.map f) = (bfs nx m i l).map f := by
  intro m
  induction m with
  | zero => intro i l _ _ _ _ _ _; rfl
  | succ m ih =>
    intro i l hN hi hd hr h5 h6
    cases hx : l[i]? with
    | none => rw [bfs_none hx, bfs_none (by rw [List.getElem?_map, hx]; rfl)]
    | some x =>
      have hxr := hr x (List.mem_of_getElem? hx)
      have hil := getLt hx
      obtain ⟨e, he⟩ := addL_pre (nx x) l
      have hok := bfs_ok hnx m (i + 1) (addL l (nx x)) (by omega) (by rw [he]; simp; omega) (addL_nodup _ _ hd) (inN_add hr (hnx x hxr.1 hxr.2))
      rw [bfs_some hx] at h5 h6 ⊢
      have hmem : ∀ y, y ∈ addL l (nx x) → y ∈ bfs nx m (i + 1) (addL l (nx x)) := by
        obtain ⟨_, _, ⟨e2, h3⟩, _⟩ := hok
        intro y hy
        rw [h3]
        exact List.mem_append.2 (.inl hy)
      rw [bfs_some (x := f x) (by rw [List.getElem?_map, hx]; rfl), h5 x (hmem x ((addL_mem _ _).2 (.inl (List.mem_of_getElem? hx)))), addL_map, ih (i + 1) _ (by omega) (by rw [he]; simp; omega) (addL_nodup _ _ hd) (inN_add hr (hnx x hxr.1 hxr.2)) h5 h6]
      intro y z hy hz
      exact h6 y z (hmem y ((addL_mem _ _).2 hy)) (hmem z ((addL_mem _ _).2 hz))
end
/-- Where each place of a list is put: behind each other, from i on. -/
def setAll : Nat → List Int → List Int → List Int
  | _, [], t => t
  | i, x :: l, t => setAll (i + 1) l (t.set x.toNat (i : Int))
theorem setAll_len : ∀ (l : List Int) (i : Nat) (t : List Int), (setAll i l t).length = t.length
  | [], _, _ => rfl
  | x :: l, i, t => by rw [setAll, setAll_len l]; simp
theorem setAll_out {k : Nat} : ∀ (l : List Int) (i : Nat) (t : List Int), (∀ x ∈ l, x.toNat ≠ k) → (setAll i l t)[k]? = t[k]?
  | [], _, _, _ => rfl
  | x :: l, i, t, h => by
    rw [setAll, setAll_out l _ _ (fun y hy => h y (by simp [hy])), List.getElem?_set_ne (h x (by simp))]
theorem take_snoc {α : Type} {l : List α} {i : Nat} {x : α} (h : l[i]? = some x) : l.take (i + 1) = l.take i ++ [x] := by
  obtain ⟨hi, hx⟩ := List.getElem?_eq_some_iff.1 h
  rw [List.take_add_one, h]; rfl
theorem addL_snoc (l n : List Int) (x : Int) : addL l (n ++ [x]) = if x ∈ addL l n then addL l n else addL l n ++ [x] := by
  unfold addL
  rw [List.foldl_append]
  rfl
theorem setAll_get {N : Nat} : ∀ (l : List Int) (i : Nat) (t : List Int), l.Nodup → inN N l → t.length = N → ∀ (j : Nat) x, l[j]? = some x → (setAll i l t)[x.toNat]? = some ((i + j : Nat) : Int)
  | [], _, _, _, _, _, j, x, h => by simp at h
  | y :: l, i, t, hd, hr, ht, j, x, h => by
    rw [List.nodup_cons] at hd
    rw [setAll]
    cases j with
    | zero =>
      simp only [List.getElem?_cons_zero, Option.some.injEq] at h
      subst h
      have hy := hr y (by simp)
      rw [setAll_out, List.getElem?_set_self (by omega)]
      · rfl
      intro z hz e
      have hz2 := hr z (by simp [hz])
      have : z = y := by omega
      subst this
      exact hd.1 hz
    | succ j =>
      rw [List.getElem?_cons_succ] at h
      rw [setAll_get l (i + 1) _ hd.2 (fun z hz => hr z (by simp [hz])) (by simpa using ht) j x h]
      congr 2
      omega
section
variable {α β S O R : Type}
/-- A loop along a list. -/
theorem loop_rng {l : List α} {φ : Nat → Int → S → Option O} (I : Nat → S → Prop) (Post : O → Prop)
    (step : ∀ n (i : Nat) x s, l[i]? = some x → i < l.length → I i s → (∃ s', φ (n + 1) (i : Int) s = φ n ((i : Int) + 1) s' ∧ I (i + 1) s') ∨ (∃ o, φ (n + 1) (i : Int) s = some o ∧ Post o))
    (stop : ∀ n s, I l.length s → ∃ o, φ (n + 1) (l.length : Int) s = some o ∧ Post o) (hl : l.length < FU) : ∀ s, I 0 s → ∃ o, φ FU 0 s = some o ∧ Post o := by
  have key : ∀ n (i : Nat) s, i ≤ l.length → l.length - i < n → I i s → ∃ o, φ n (i : Int) s = some o ∧ Post o := by
    intro n
    induction n with
    | zero => intro i s _ h; omega
    | succ n ih =>
      intro i s hi hn hI
      by_cases h : i = l.length
      · subst h; exact stop n s hI
      · have hi' : i < l.length := by omega
        rcases step n i l[i] s (List.getElem?_eq_getElem hi') hi' hI with ⟨s', h1, h2⟩ | ⟨o, h1, h2⟩
        · obtain ⟨o, h3, h4⟩ := ih (i + 1) s' (by omega) (by omega) h2
          exact ⟨o, by rw [h1]; exact h3, h4⟩
        · exact ⟨o, h1, h2⟩
  intro s hI
  exact key FU 0 s (by omega) (by omega) hI
open Classical in
/-- Are two lists the same? -/
theorem loop_same {l m : List α} {φ : Nat → Int → Option (Out R Unit)} (r : R) (hlm : l.length = m.length)
    (step : ∀ n (i : Nat) x y, l[i]? = some x → m[i]? = some y → i < l.length → (x = y → φ (n + 1) (i : Int) = φ n ((i : Int) + 1)) ∧ (¬ x = y → φ (n + 1) (i : Int) = some (.ret r)))
    (stop : ∀ n, φ (n + 1) (l.length : Int) = some (.go ())) (hl : l.length < FU) :
    φ FU 0 = some (if l = m then .go () else .ret r) := by
  have e := loop_all (φ := φ) (l := l) r (fun i x => m[i]? = some x) (by
    intro n i x hx hi
    have hy : m[i]? = some m[i] := List.getElem?_eq_getElem (by omega)
    obtain ⟨h1, h2⟩ := step n i x _ hx hy hi
    constructor
    · intro h; rw [hy] at h; exact h1 (Option.some.inj h).symm
    · intro h; exact h2 (fun h3 => h (by rw [hy, h3]))) stop hl
  rw [e]
  by_cases h : l = m
  · subst h
    rw [if_pos rfl, if_pos (fun i x h => h)]
  · rw [if_neg h, if_neg]
    intro h4
    refine h (List.ext_getElem? fun i => ?_)
    by_cases hi : i < l.length
    · rw [h4 i l[i] (List.getElem?_eq_getElem hi), List.getElem?_eq_getElem hi]
    · rw [List.getElem?_eq_none (by omega), List.getElem?_eq_none (by omega)]
/-- A loop that changes each element at its place. -/
theorem loop_setmap {l : List α} {φ : Nat → Int → List α → Option O} (f : α → α) (fin : List α → O)
    (step : ∀ n (i : Nat) x s, l[i]? = some x → i < l.length → s.length = l.length → s[i]? = some x → φ (n + 1) (i : Int) s = φ n ((i : Int) + 1) (s.set i (f x)))
    (stop : ∀ n s, s.length = l.length → φ (n + 1) (l.length : Int) s = some (fin s)) (hl : l.length < FU) : φ FU 0 l = some (fin (l.map f)) := by
  obtain ⟨o, h1, h2⟩ := loop_rng (φ := φ) (l := l) (fun i s => s = (l.take i).map f ++ l.drop i) (fun o => o = fin (l.map f)) (by
    intro n i x s hx hi hI
    have hlen : s.length = l.length := by rw [hI]; simp; omega
    have hsi : s[i]? = some x := by
      rw [hI, List.getElem?_append_right (by simp; omega)]
      simp only [List.length_map, List.length_take]
      rw [Nat.min_eq_left (by omega), Nat.sub_self, List.getElem?_drop]
      simpa using hx
    refine .inl ⟨_, step n i x s hx hi hlen hsi, ?_⟩
    rw [hI, take_snoc hx, List.map_append, List.append_assoc]
    have hd : l.drop i = x :: l.drop (i + 1) := by
      obtain ⟨hi2, hx2⟩ := List.getElem?_eq_some_iff.1 hx
      rw [List.drop_eq_getElem_cons hi2, hx2]
    rw [hd, List.set_append_right _ _ (by simp; omega)]
    simp only [List.length_map, List.length_take]
    rw [Nat.min_eq_left (by omega), Nat.sub_self]
    rfl) (by
    intro n s hI
    refine ⟨_, stop n s ?_, ?_⟩
    · rw [hI]; simp
    · rw [hI]; simp) hl l (by simp)
  rw [h1, h2]
end
end Go.V
