/- Part 6 of the proof: a program logic, what the functions compute, and what these answer; no condition. -/
import Derived.Test.Ytnnjgbcojdnhhaap5
set_option linter.unusedVariables false
set_option linter.unusedSimpArgs false
set_option maxRecDepth 100000
namespace Go.Proofs.Ytnnjgbcojdnhhaa
open Go.V
open Classical
theorem zip_zip : ∀ (l : List ApiField) (a b : List Int), l.length = a.length → List.zipWith relF (List.zipWith relF l a) b = List.zipWith relF l b
  | [], _, _, _ => by simp
  | _ :: _, [], _, h => by simp at h
  | x :: l, k :: a, [], _ => by simp
  | x :: l, k :: a, m :: b, h => by
    rw [List.zipWith_cons_cons, List.zipWith_cons_cons, List.zipWith_cons_cons, zip_zip l a b (by simpa using h)]; rfl
theorem zip_at : ∀ (l : List ApiField) (a : List Int), l.length = a.length → (List.zipWith relF l a).map (·.at_) = a
  | [], [], _ => rfl
  | [], _ :: _, h => by simp at h
  | _ :: _, [], h => by simp at h
  | x :: l, k :: a, h => by
    rw [List.zipWith_cons_cons, List.map_cons, zip_at l a (by simpa using h)]; rfl
theorem zip_name : ∀ (l : List ApiField) (a : List Int), l.length = a.length → (List.zipWith relF l a).map (·.name) = l.map (·.name)
  | [], _, _ => by simp
  | _ :: _, [], h => by simp at h
  | x :: l, k :: a, h => by
    rw [List.zipWith_cons_cons, List.map_cons, List.map_cons, zip_name l a (by simpa using h)]; rfl
theorem zip_part (kd : Int) : ∀ (l : List ApiField) (a : List Int), l.length = a.length → ((∀ x ∈ List.zipWith relF l a, partB kd x = true) ↔ ∀ x ∈ l, partB kd x = true)
  | [], _, _ => by simp
  | _ :: _, [], h => by simp at h
  | x :: l, k :: a, h => by
    rw [List.zipWith_cons_cons, List.forall_mem_cons, List.forall_mem_cons, zip_part kd l a (by simpa using h)]; rfl
theorem first3 (ks : List Int) (m : Nat) (hm : m ≤ 3) (hl : m ≤ ks.length) : [((ks.take m)[0]?).getD 0, ((ks.take m)[1]?).getD 0, ((ks.take m)[2]?).getD 0].take m = ks.take m := by
  match m, ks, hm, hl with
  | 0, ks, _, _ => rfl
  | 1, k0 :: ks, _, _ => rfl
  | 2, k0 :: k1 :: ks, _, _ => rfl
  | 3, k0 :: k1 :: k2 :: ks, _, _ => rfl
theorem first3z (ks : List Int) (m : Nat) (hm : m ≤ 3) (hl : m ≤ ks.length) : (([((ks.take m)[0]?).getD 0, ((ks.take m)[1]?).getD 0, ((ks.take m)[2]?).getD 0].drop m).all fun x => decide (x = 0)) = true := by
  match m, ks, hm, hl with
  | 0, ks, _, _ => rfl
  | 1, k0 :: ks, _, _ => rfl
  | 2, k0 :: k1 :: ks, _, _ => rfl
  | 3, k0 :: k1 :: k2 :: ks, _, _ => rfl
theorem withP_kids (n : ApiNode) (ks : List Int) (hp : noParts n) (hk : ks.length = (kidsP n).length) : kidsP (withP n ks) = ks := by
  rw [kidsP_len n hp] at hk
  have h3 := abc_le n.kind
  unfold kidsP withP
  simp only
  rw [first3 ks _ h3 (by omega)]
  cases hb : partsB n.kind with
  | false =>
    rw [hp hb] at hk
    simp only [List.length_nil, Nat.add_zero] at hk
    rw [if_neg (by decide), List.append_nil, List.take_of_length_le (by omega)]
  | true =>
    rw [if_pos rfl, if_pos rfl, zip_at _ _ (by rw [List.length_drop]; omega), List.take_append_drop]
theorem withP_withP (n : ApiNode) (ks k2 : List Int) (hp : noParts n) (hk : ks.length = (kidsP n).length) : withP (withP n ks) k2 = withP n k2 := by
  rw [kidsP_len n hp] at hk
  unfold withP
  simp only
  cases hb : partsB n.kind with
  | false => rfl
  | true =>
    simp only [if_true]
    rw [zip_zip _ _ _ (by rw [List.length_drop]; omega)]
theorem withP_noParts (n : ApiNode) (ks : List Int) : noParts (withP n ks) := by
  intro h
  unfold withP at h ⊢
  simp only at h ⊢
  rw [if_neg (by rw [h]; decide)]
theorem withP_right (n : ApiNode) (ks : List Int) (hp : noParts n) (hk : ks.length = (kidsP n).length) (h : rightB n = true) : rightB (withP n ks) = true := by
  have hk0 := hk
  rw [kidsP_len n hp] at hk
  have h3 := abc_le n.kind
  unfold rightB at h ⊢
  simp only [Bool.and_eq_true] at h ⊢
  obtain ⟨h1, ⟨⟨h2, h4⟩, h5⟩, h6⟩ := h
  refine ⟨h1, ⟨⟨h2, h4⟩, ?_⟩, first3z ks (abcN n.kind) h3 (by omega)⟩
  unfold partedB at h5 ⊢
  show (if partsB n.kind = true then _ else _) = true
  cases hb : partsB n.kind with
  | false =>
    rw [hb] at h5
    have : (withP n ks).l = [] := by unfold withP; simp only; rw [if_neg (by rw [hb]; decide)]
    rw [if_neg (by decide), this]; rfl
  | true =>
    have hl : (withP n ks).l = List.zipWith relF n.l (ks.drop (abcN n.kind)) := by unfold withP; simp only; rw [if_pos hb]
    have hz : n.l.length = (ks.drop (abcN n.kind)).length := by rw [List.length_drop]; omega
    rw [hb, if_pos rfl] at h5
    rw [if_pos rfl, hl, zip_name _ _ hz, List.length_zipWith, ← hz, Nat.min_self, show (withP n ks).kind = n.kind from rfl]
    simp only [Bool.and_eq_true, decide_eq_true_eq] at h5 ⊢
    exact ⟨⟨(zip_part _ _ _ hz).2 h5.1.1, h5.1.2⟩, h5.2⟩
theorem withP_nb (n : ApiNode) (ks : List Int) (h : NB n) : NB (withP n ks) := by
  unfold NB at *
  unfold withP
  simp only
  split
  · rw [List.length_zipWith]; omega
  · simp
def sh (s : Nat) (n : ApiNode) : ApiNode := withP n ((kidsP n).map (· + (s : Int)))
theorem sh_with (s : Nat) (n : ApiNode) (ks : List Int) (hp : noParts n) (hk : ks.length = (kidsP n).length) : sh s (withP n ks) = withP n (ks.map (· + (s : Int))) := by
  unfold sh
  rw [withP_kids n ks hp hk, withP_withP n ks _ hp hk]
theorem copy_sh {L : List ApiNode} (hok : allOk L) (t : List ApiNode) : ∀ (f i : Nat), i < f → i < L.length → ∀ o, copyP L (i : Int) (t ++ o.map (sh t.length)) = t ++ (copyP L (i : Int) o).map (sh t.length)
  | 0, i, h, _, _ => by omega
  | f + 1, i, hf, hi, o => by
    obtain ⟨n, hn⟩ := getI2 hi
    have hI := ok_inLs hok
    have hp := noParts_of (hok i n hn).1
    have key : ∀ (ks : List Int) (acc : List Int) (o : List ApiNode), (∀ k ∈ ks, k ∈ kidsP n) → ks.foldl (stepC (copyP L)) (acc.map (· + (t.length : Int)), t ++ o.map (sh t.length)) = ((ks.foldl (stepC (copyP L)) (acc, o)).1.map (· + (t.length : Int)), t ++ (ks.foldl (stepC (copyP L)) (acc, o)).2.map (sh t.length)) := by
      intro ks
      induction ks with
      | nil => intro acc o _; rfl
      | cons k ks ih =>
        intro acc o hk
        have := hI i n hn k (hk k (by simp))
        have e : copyP L k (t ++ o.map (sh t.length)) = t ++ (copyP L k o).map (sh t.length) := by
          obtain ⟨m, rfl⟩ : ∃ m : Nat, k = (m : Int) := ⟨k.toNat, by omega⟩
          exact copy_sh hok t f m (by omega) (by omega) o
        have hs : stepC (copyP L) (acc.map (· + (t.length : Int)), t ++ o.map (sh t.length)) k = ((acc ++ [lastI (copyP L k o)]).map (· + (t.length : Int)), t ++ (copyP L k o).map (sh t.length)) := by
          unfold stepC
          simp only
          rw [e, List.map_append]
          unfold lastI
          simp only [List.length_append, List.length_map, List.map_cons, List.map_nil]
          congr 3
          omega
        rw [List.foldl_cons, hs, ih _ _ fun x hx => hk x (by simp [hx])]
        rfl
    have k0 := key (kidsP n) [] o fun k hk => hk
    have hf := fold_len (L := L) (kidsP n) ([], o) (copy_len2 hI hn)
    simp only [List.map_nil] at k0
    rw [copy_rec hI hn, copy_rec hI hn, k0, List.map_append, List.append_assoc]
    simp only [List.map_cons, List.map_nil]
    rw [sh_with _ _ _ hp (by rw [hf.2]; simp)]
theorem pre_get {α : Type} {a O : List α} (h : a <+: O) {i : Nat} {x : α} (hx : a[i]? = some x) : O[i]? = some x := by
  obtain ⟨t, rfl⟩ := h
  rw [List.getElem?_append_left (getLt hx)]; exact hx
theorem fold_pre {L : List ApiNode} {n : ApiNode} (hp : ∀ k : Int, ∀ o, k ∈ (kidsP n : List Int) → o <+: copyP L k o) : ∀ (ks : List Int) (s : List Int × List ApiNode), (∀ k ∈ ks, k ∈ kidsP n) → s.2 <+: (ks.foldl (stepC (copyP L)) s).2
  | [], s, _ => List.prefix_refl _
  | k :: ks, s, h => (hp k s.2 (h k (by simp))).trans (fold_pre hp ks (stepC (copyP L) s k) fun x hx => h x (by simp [hx]))
theorem copy_pre {L : List ApiNode} (hI : inLs L) : ∀ (f i : Nat), i < f → i < L.length → ∀ o, o <+: copyP L (i : Int) o
  | 0, i, h, _, _ => by omega
  | f + 1, i, hf, hi, o => by
    obtain ⟨n, hn⟩ := getI2 hi
    rw [copy_rec hI hn]
    refine (fold_pre (n := n) (fun k o hk => ?_) (kidsP n) ([], o) fun k hk => hk).trans (List.prefix_append _ _)
    have := hI i n hn k hk
    obtain ⟨m, rfl⟩ : ∃ m : Nat, k = (m : Int) := ⟨k.toNat, by omega⟩
    exact copy_pre hI f m (by omega) (by omega) o
theorem fold_in {L : List ApiNode} {n : ApiNode} (hp : ∀ k ∈ kidsP n, ∀ o, o <+: copyP L k o ∧ o.length < (copyP L k o).length) : ∀ (ks acc : List Int) (o : List ApiNode), (∀ k ∈ ks, k ∈ kidsP n) →
    ∃ R : List Int, (ks.foldl (stepC (copyP L)) (acc, o)).1 = acc ++ R ∧ R.length = ks.length ∧ (∀ (j : Nat) k m, ks[j]? = some k → R[j]? = some m → ∃ oj, o <+: oj ∧ copyP L k oj <+: (ks.foldl (stepC (copyP L)) (acc, o)).2 ∧ m = lastI (copyP L k oj)) ∧
    ∀ q, o.length ≤ q → q < (ks.foldl (stepC (copyP L)) (acc, o)).2.length → ∃ k oj, k ∈ ks ∧ copyP L k oj <+: (ks.foldl (stepC (copyP L)) (acc, o)).2 ∧ oj.length ≤ q ∧ q < (copyP L k oj).length
  | [], acc, o, _ => ⟨[], by simp, rfl, fun j k m h => by simp at h, fun q h1 h2 => by simp only [List.foldl_nil] at h2; omega⟩
  | k :: ks, acc, o, h => by
    have hk := h k (by simp)
    have h0 := hp k hk o
    obtain ⟨R, r1, r2, r3, r4⟩ := fold_in hp ks (acc ++ [lastI (copyP L k o)]) (copyP L k o) fun x hx => h x (by simp [hx])
    have hpre := fold_pre (n := n) (fun k o hk => (hp k hk o).1) ks (acc ++ [lastI (copyP L k o)], copyP L k o) fun x hx => h x (by simp [hx])
    refine ⟨lastI (copyP L k o) :: R, ?_, by simp [r2], ?_, ?_⟩
    · show (ks.foldl (stepC (copyP L)) (acc ++ [lastI (copyP L k o)], copyP L k o)).1 = _
      rw [r1, List.append_assoc]; rfl
    · intro j x m hx hm
      cases j with
      | zero =>
        simp only [List.getElem?_cons_zero, Option.some.injEq] at hx hm
        subst hx hm
        exact ⟨o, List.prefix_refl _, hpre, rfl⟩
      | succ j =>
        simp only [List.getElem?_cons_succ] at hx hm
        obtain ⟨oj, q1, q2, q3⟩ := r3 j x m hx hm
        exact ⟨oj, h0.1.trans q1, q2, q3⟩
    · intro q h1 h2
      by_cases hq : q < (copyP L k o).length
      · exact ⟨k, o, by simp, hpre, h1, hq⟩
      · obtain ⟨x, oj, q1, q2, q3, q4⟩ := r4 q (by omega) h2
        exact ⟨x, oj, by simp [q1], q2, q3, q4⟩
theorem copy_more {L : List ApiNode} (hI : inLs L) {i : Nat} (hi : i < L.length) (o : List ApiNode) : o <+: copyP L (i : Int) o ∧ o.length < (copyP L (i : Int) o).length := by
  refine ⟨copy_pre hI (i + 1) i (by omega) hi o, ?_⟩
  obtain ⟨n, hn⟩ := getI2 hi
  rw [copy_len hI (i + 1) i (by omega) hi o, post_rec hI hn]
  simp
theorem kids_more {L : List ApiNode} (hI : inLs L) {i : Nat} {n : ApiNode} (hn : L[i]? = some n) : ∀ k ∈ kidsP n, ∀ o, o <+: copyP L k o ∧ o.length < (copyP L k o).length := by
  intro k hk o
  have := hI i n hn k hk
  have hi := getLt hn
  obtain ⟨m, rfl⟩ : ∃ m : Nat, k = (m : Int) := ⟨k.toNat, by omega⟩
  exact copy_more hI (by omega) o
/-- The last node of a copy. -/
theorem copy_last {L : List ApiNode} (hok : allOk L) {i : Nat} {n : ApiNode} (hn : L[i]? = some n) (o : List ApiNode) : ∃ R : List Int, (copyP L (i : Int) o)[(copyP L (i : Int) o).length - 1]? = some (withP n R) ∧ R.length = (kidsP n).length ∧ inL ((copyP L (i : Int) o).length - 1) R ∧
    ∀ (j : Nat) k m, (kidsP n)[j]? = some k → R[j]? = some m → ∃ oj, o <+: oj ∧ copyP L k oj <+: copyP L (i : Int) o ∧ m = lastI (copyP L k oj) := by
  have hI := ok_inLs hok
  have hm := kids_more hI hn
  obtain ⟨R, r1, r2, r3, r4⟩ := fold_in hm (kidsP n) [] o fun k hk => hk
  rw [List.nil_append] at r1
  have hc := copy_rec hI hn o
  refine ⟨R, ?_, r2, ?_, ?_⟩
  · rw [hc, r1, List.length_append]
    simp
  · intro x hx
    obtain ⟨j, hj, hx2⟩ := List.getElem_of_mem hx
    obtain ⟨k, hk⟩ := getI2 (l := kidsP n) (i := j) (by omega)
    obtain ⟨oj, q1, q2, q3⟩ := r3 j k x hk (by rw [← hx2]; exact List.getElem?_eq_getElem hj)
    have h1 := hm k (List.mem_of_getElem? hk) oj
    have h2 := q2.length_le
    rw [hc, List.length_append]
    simp only [List.length_cons, List.length_nil]
    unfold lastI at q3
    omega
  · intro j k m hk hm2
    obtain ⟨oj, q1, q2, q3⟩ := r3 j k m hk hm2
    exact ⟨oj, q1, q2.trans (by rw [hc]; exact List.prefix_append _ _), q3⟩
/-- Each place of a copy is the last of a copy. -/
theorem copy_at {L : List ApiNode} (hok : allOk L) : ∀ (f i : Nat), i < f → i < L.length → ∀ (o : List ApiNode) (q : Nat), o.length ≤ q → q < (copyP L (i : Int) o).length → ∃ (m : Nat) (o' : List ApiNode), m < L.length ∧ copyP L (m : Int) o' <+: copyP L (i : Int) o ∧ q + 1 = (copyP L (m : Int) o').length
  | 0, i, h, _, _, _, _, _ => by omega
  | f + 1, i, hf, hi, o, q, h1, h2 => by
    obtain ⟨n, hn⟩ := getI2 hi
    have hI := ok_inLs hok
    have hm := kids_more hI hn
    by_cases hq : q + 1 = (copyP L (i : Int) o).length
    · exact ⟨i, o, hi, List.prefix_refl _, hq⟩
    · obtain ⟨R, r1, r2, r3, r4⟩ := fold_in hm (kidsP n) [] o fun k hk => hk
      have hc := copy_rec hI hn o
      have hl := congrArg List.length hc
      rw [List.length_append] at hl
      simp only [List.length_cons, List.length_nil] at hl
      obtain ⟨k, oj, q1, q2, q3, q4⟩ := r4 q h1 (by omega)
      have := hI i n hn k q1
      obtain ⟨m, rfl⟩ : ∃ m : Nat, k = (m : Int) := ⟨k.toNat, by omega⟩
      obtain ⟨m2, o2, s1, s2, s3⟩ := copy_at hok f m (by omega) (by omega) oj q q3 q4
      exact ⟨m2, o2, s1, s2.trans (q2.trans (by rw [hc]; exact List.prefix_append _ _)), s3⟩
theorem fold_two {c d : Int → List ApiNode → List ApiNode} : ∀ (ks R : List Int) (s : List Int × List ApiNode), R.length = ks.length → (∀ (j : Nat) k m, ks[j]? = some k → R[j]? = some m → ∀ o, c m o = d k o) → R.foldl (stepC c) s = ks.foldl (stepC d) s
  | [], [], _, _, _ => rfl
  | [], _ :: _, _, h, _ => by simp at h
  | _ :: _, [], _, h, _ => by simp at h
  | k :: ks, m :: R, s, h, h2 => by
    rw [List.foldl_cons, List.foldl_cons, show stepC c s m = stepC d s k by unfold stepC; rw [h2 0 k m rfl rfl]]
    exact fold_two ks R _ (by simpa using h) fun j u v hu hv => h2 (j + 1) u v (by simpa using hu) (by simpa using hv)
theorem copy_copy {L O : List ApiNode} (hok : allOk L) (hO : inLs O) : ∀ (f i : Nat), i < f → i < L.length → ∀ (o : List ApiNode), copyP L (i : Int) o <+: O → ∀ o2, copyP O (lastI (copyP L (i : Int) o)) o2 = copyP L (i : Int) o2
  | 0, i, h, _, _, _, _ => by omega
  | f + 1, i, hf, hi, o, hp, o2 => by
    obtain ⟨n, hn⟩ := getI2 hi
    have hI := ok_inLs hok
    have hnp := noParts_of (hok i n hn).1
    have hmore := copy_more hI hi o
    obtain ⟨R, r1, r2, r3, r4⟩ := copy_last hok hn o
    have hg := pre_get hp r1
    have hk := withP_kids n R hnp r2
    have e : lastI (copyP L (i : Int) o) = (((copyP L (i : Int) o).length - 1 : Nat) : Int) := by unfold lastI; omega
    have hfo := fold_two (c := copyP O) (d := copyP L) (kidsP n) R ([], o2) r2 (fun j k m hj hm o3 => by
      obtain ⟨oj, q1, q2, q3⟩ := r4 j k m hj hm
      have := hI i n hn k (List.mem_of_getElem? hj)
      obtain ⟨a, rfl⟩ : ∃ a : Nat, k = (a : Int) := ⟨k.toNat, by omega⟩
      rw [q3]
      exact copy_copy hok hO f a (by omega) (by omega) oj (q2.trans hp) o3)
    have hf := fold_len (L := L) (kidsP n) ([], o2) (copy_len2 hI hn)
    rw [e, copy_rec hO hg, copy_rec hI hn, hk, hfo, withP_withP n R _ hnp r2]
/-- A copy's depth. -/
theorem mx_two {f g : Int → Int} : ∀ (ks R : List Int) (b : Int), R.length = ks.length → (∀ (j : Nat) k m, ks[j]? = some k → R[j]? = some m → f m = g k) → mx f b R = mx g b ks
  | [], [], _, _, _ => rfl
  | [], _ :: _, _, h, _ => by simp at h
  | _ :: _, [], _, h, _ => by simp at h
  | k :: ks, m :: R, b, h, h2 => by
    show mx f (if f m > b then f m else b) R = mx g (if g k > b then g k else b) ks
    rw [h2 0 k m rfl rfl]
    exact mx_two ks R _ (by simpa using h) fun j u v hu hv => h2 (j + 1) u v (by simpa using hu) (by simpa using hv)
theorem copy_deep {L O : List ApiNode} (hok : allOk L) (hO : inLs O) : ∀ (f i : Nat), i < f → i < L.length → ∀ (o : List ApiNode), copyP L (i : Int) o <+: O → gd (depU O O.length) (lastI (copyP L (i : Int) o)) = gd (depU L L.length) (i : Int)
  | 0, i, h, _, _, _ => by omega
  | f + 1, i, hf, hi, o, hp => by
    obtain ⟨n, hn⟩ := getI2 hi
    have hI := ok_inLs hok
    have hnp := noParts_of (hok i n hn).1
    have hmore := copy_more hI hi o
    obtain ⟨R, r1, r2, r3, r4⟩ := copy_last hok hn o
    have hg := pre_get hp r1
    have hk := withP_kids n R hnp r2
    have e : lastI (copyP L (i : Int) o) = (((copyP L (i : Int) o).length - 1 : Nat) : Int) := by unfold lastI; omega
    rw [e, depU_rec O _ _ hg (by rw [hk]; exact r3), depU_rec L i n hn (hI i n hn), hk]
    congr 1
    refine mx_two (kidsP n) R 0 r2 fun j k m hj hm => ?_
    obtain ⟨oj, q1, q2, q3⟩ := r4 j k m hj hm
    have := hI i n hn k (List.mem_of_getElem? hj)
    obtain ⟨a, rfl⟩ : ∃ a : Nat, k = (a : Int) := ⟨k.toNat, by omega⟩
    rw [q3]
    exact copy_deep hok hO f a (by omega) (by omega) oj (q2.trans hp)
theorem copy_node {L : List ApiNode} (hok : allOk L) {i : Nat} (hi : i < L.length) {q : Nat} {nd : ApiNode} (h : (copyP L (i : Int) [])[q]? = some nd) : ∃ (m : Nat) (n : ApiNode) (R : List Int), L[m]? = some n ∧ nd = withP n R ∧ R.length = (kidsP n).length ∧ inL q R ∧
    ∀ (j : Nat) k x, (kidsP n)[j]? = some k → R[j]? = some x → ∃ oj, copyP L k oj <+: copyP L (i : Int) [] ∧ x = lastI (copyP L k oj) := by
  obtain ⟨m, o', h1, h2, h3⟩ := copy_at hok (i + 1) i (by omega) hi [] q (by simp) (getLt h)
  obtain ⟨n, hn⟩ := getI2 h1
  obtain ⟨R, r1, r2, r3, r4⟩ := copy_last hok hn o'
  rw [show (copyP L (m : Int) o').length - 1 = q by omega] at r1 r3
  have := pre_get h2 r1
  rw [h] at this
  refine ⟨m, n, R, hn, Option.some.inj this, r2, r3, fun j k x hk hx => ?_⟩
  obtain ⟨oj, q1, q2, q3⟩ := r4 j k x hk hx
  exact ⟨oj, q2.trans h2, q3⟩
theorem copy_ok {L : List ApiNode} (hok : allOk L) {i : Nat} (hi : i < L.length) : allOk (copyP L (i : Int) []) := by
  intro q nd h
  have hI := ok_inLs hok
  obtain ⟨m, n, R, hn, rfl, r2, r3, r4⟩ := copy_node hok hi h
  have hnp := noParts_of (hok m n hn).1
  refine ⟨withP_right n R hnp r2 (hok m n hn).1, by rw [withP_kids n R hnp r2]; exact r3, fun h8 => ?_⟩
  have hk8 : n.kind = 8 := h8
  obtain ⟨y, hy, hy5⟩ := (hok m n hn).2.2 hk8
  have hab : abcN n.kind = 2 := by rw [hk8]; rfl
  have hk0 : (kidsP n)[0]? = some n.a := by
    unfold kidsP
    rw [hab]; rfl
  obtain ⟨x, hx⟩ := getI2 (l := R) (i := 0) (by have := getLt hk0; omega)
  have ha : (withP n R).a = x := by
    unfold withP
    simp only
    rw [hab, List.getElem?_take, if_pos (by omega), hx]; rfl
  obtain ⟨oj, q1, q2⟩ := r4 0 n.a x hk0 hx
  have hka := hI m n hn n.a (List.mem_of_getElem? hk0)
  obtain ⟨a, hna⟩ : ∃ a : Nat, n.a = (a : Int) := ⟨n.a.toNat, by omega⟩
  rw [hna, Int.toNat_natCast] at hy
  rw [hna] at q1 q2
  have hmore := copy_more hI (getLt hy) oj
  obtain ⟨R2, s1, s2, s3, s4⟩ := copy_last hok hy oj
  refine ⟨withP y R2, ?_, hy5⟩
  rw [ha, q2]
  unfold lastI
  rw [show (((copyP L (a : Int) oj).length : Int) - 1).toNat = (copyP L (a : Int) oj).length - 1 by omega]
  exact pre_get q1 s1
def cK (x : Int) (c : List ApiNode) : Nat := (c.map fun nd => (kidsP nd).count x).sum
theorem cK_app (x : Int) (a b : List ApiNode) : cK x (a ++ b) = cK x a + cK x b := by
  unfold cK; rw [List.map_append, List.sum_append]
theorem cK_range (x : Int) (c : List ApiNode) : ((List.range c.length).map fun (p : Nat) => (kidsAt c (p : Int)).count x).sum = cK x c := by
  unfold cK
  congr 1
  refine List.ext_getElem? fun j => ?_
  rw [List.getElem?_map, List.getElem?_map]
  by_cases hj : j < c.length
  · obtain ⟨n, hn⟩ := getI2 hj
    rw [List.getElem?_range hj, hn]
    show some ((kidsAt c (j : Int)).count x) = some ((kidsP n).count x)
    rw [kidsAt_s hn]
  · rw [List.getElem?_eq_none (by simp; omega), List.getElem?_eq_none (by omega)]; rfl
def inR (x a b : Int) : Nat := if a ≤ x ∧ x < b then 1 else 0
theorem fold_cnt {L : List ApiNode} {n : ApiNode} (x : Int) (hm : ∀ k ∈ kidsP n, ∀ o, o <+: copyP L k o ∧ o.length < (copyP L k o).length) (hc : ∀ k ∈ kidsP n, ∀ o, cK x (copyP L k o) = cK x o + inR x o.length (lastI (copyP L k o))) : ∀ (ks acc : List Int) (o : List ApiNode), (∀ k ∈ ks, k ∈ kidsP n) →
    cK x (ks.foldl (stepC (copyP L)) (acc, o)).2 + (ks.foldl (stepC (copyP L)) (acc, o)).1.count x = cK x o + acc.count x + inR x o.length (ks.foldl (stepC (copyP L)) (acc, o)).2.length
  | [], acc, o, _ => by
    simp only [List.foldl_nil]
    unfold inR
    rw [if_neg (by omega)]; rfl
  | k :: ks, acc, o, h => by
    have hk := h k (by simp)
    have h1 := (hm k hk o).2
    have h2 := hc k hk o
    have ih := fold_cnt x hm hc ks (acc ++ [lastI (copyP L k o)]) (copyP L k o) fun y hy => h y (by simp [hy])
    have hpre := (fold_pre (n := n) (fun k o hk => (hm k hk o).1) ks (acc ++ [lastI (copyP L k o)], copyP L k o) fun x hx => h x (by simp [hx])).length_le
    simp only at hpre
    show cK x (ks.foldl (stepC (copyP L)) (acc ++ [lastI (copyP L k o)], copyP L k o)).2 + (ks.foldl (stepC (copyP L)) (acc ++ [lastI (copyP L k o)], copyP L k o)).1.count x = _ + inR x o.length (ks.foldl (stepC (copyP L)) (acc ++ [lastI (copyP L k o)], copyP L k o)).2.length
    rw [ih, h2, List.count_append, List.count_singleton]
    generalize (ks.foldl (stepC (copyP L)) (acc ++ [lastI (copyP L k o)], copyP L k o)).2.length = e at *
    generalize hE : (copyP L k o).length = c at *
    unfold lastI
    rw [hE]
    have e1 : (if (((c : Int) - 1) == x) = true then 1 else 0 : Nat) = if (c : Int) - 1 = x then 1 else 0 := by
      by_cases hx : (c : Int) - 1 = x
      · rw [if_pos hx, if_pos (by simpa using hx)]
      · rw [if_neg hx, if_neg (by simpa using hx)]
    rw [e1]
    unfold inR
    repeat' split
    all_goals omega
theorem copy_cnt {L : List ApiNode} (hok : allOk L) (x : Int) : ∀ (f i : Nat), i < f → i < L.length → ∀ o, cK x (copyP L (i : Int) o) = cK x o + inR x o.length (lastI (copyP L (i : Int) o))
  | 0, i, h, _, _ => by omega
  | f + 1, i, hf, hi, o => by
    obtain ⟨n, hn⟩ := getI2 hi
    have hI := ok_inLs hok
    have hnp := noParts_of (hok i n hn).1
    have hfl := fold_len (L := L) (kidsP n) ([], o) (copy_len2 hI hn)
    have := fold_cnt (n := n) x (kids_more hI hn) (fun k hk o => by
      have := hI i n hn k hk
      obtain ⟨m, rfl⟩ : ∃ m : Nat, k = (m : Int) := ⟨k.toNat, by omega⟩
      exact copy_cnt hok x f m (by omega) (by omega) o) (kidsP n) [] o fun k hk => hk
    rw [copy_rec hI hn, cK_app]
    unfold lastI
    rw [List.length_append]
    simp only [List.length_cons, List.length_nil, List.count_nil, Nat.add_zero, Nat.zero_add] at this ⊢
    rw [show (((((kidsP n).foldl (stepC (copyP L)) ([], o)).2.length + 1 : Nat) : Int) - 1) = (((kidsP n).foldl (stepC (copyP L)) ([], o)).2.length : Int) by omega, ← this]
    show _ + ((kidsP (withP n _)).count x + 0) = _
    rw [withP_kids n _ hnp (by rw [hfl.2]; simp)]
    rfl
theorem copy_one {L : List ApiNode} (hok : allOk L) {i : Nat} (hi : i < L.length) : ¬ odd1 (copyP L (i : Int) []) := by
  have hI := ok_inLs hok
  rintro ⟨c, hc, hne⟩
  obtain ⟨j, hj, hx⟩ := List.getElem_of_mem hc
  rw [List.length_take, cntU_len] at hj
  have hI2 := ok_inLs (copy_ok hok hi)
  have h1 := cntU_gd (copyP L (i : Int) []) hI2 (j : Int) (by omega) _ (Nat.le_refl _)
  rw [cK_range, copy_cnt hok (j : Int) (i + 1) i (by omega) hi []] at h1
  have h2 : gd (cntU (copyP L (i : Int) []) (copyP L (i : Int) []).length) (j : Int) = c := by
    have : (((cntU (copyP L (i : Int) []) (copyP L (i : Int) []).length).take ((copyP L (i : Int) []).length - 1)))[j]? = some c := by
      rw [← hx]; exact List.getElem?_eq_getElem _
    rw [List.getElem?_take, if_pos (by omega)] at this
    unfold gd
    rw [Int.toNat_natCast, this]; rfl
  rw [h2] at h1
  unfold inR lastI at h1
  rw [if_pos (by simp only [List.length_nil]; omega)] at h1
  apply hne
  rw [h1]; rfl
/-- The normal form of a tree may be, and is its own. -/
theorem norm_may {e : ApiExpr} (hl : e.l.length ≤ 700) (hN : ∀ n ∈ e.l, NB n) (h : mayT e.l = 0) : mayT (normT e).1.l = 0 ∧ (normT (normT e).1).1 = (normT e).1 := by
  obtain ⟨ht, h1⟩ := mayT_tree hl hN h
  obtain ⟨n1, n2⟩ := normT_nb e hl hN
  have hI := ok_inLs ht.ok
  have hi : e.l.length - 1 < e.l.length := by omega
  have hE : (normT e).1 = ⟨copyP e.l ((e.l.length - 1 : Nat) : Int) []⟩ := by unfold normT; rw [if_pos h]
  have hok := copy_ok ht.ok hi
  have hone := copy_one ht.ok hi
  have hmore := copy_more hI hi []
  have hlen := copy_len hI _ _ (Nat.lt_succ_self _) hi []
  have hpl := post_len hI ht.one _ hi
  have h600 := (mayT_ok h).2.1
  simp only [List.length_nil] at hlen hmore
  have hd := copy_deep ht.ok (ok_inLs hok) _ _ (Nat.lt_succ_self _) hi [] (List.prefix_refl _)
  have hcc := copy_copy ht.ok (ok_inLs hok) _ _ (Nat.lt_succ_self _) hi [] (List.prefix_refl _) []
  rw [hE]
  have hm : mayT (copyP e.l ((e.l.length - 1 : Nat) : Int) []) = 0 := by
    unfold mayT
    rw [if_neg (by omega), if_neg (fun q => q hok), if_neg hone, if_neg]
    unfold mayT at h
    rw [if_neg (by omega), if_neg (fun q => q ht.ok)] at h
    by_cases ho : odd1 e.l
    · rw [if_pos ho] at h; omega
    · rw [if_neg ho] at h
      by_cases h100 : 100 < gd (depU e.l e.l.length) ((e.l.length : Int) - 1)
      · rw [if_pos h100] at h; omega
      · unfold lastI at hd
        rw [hd, show ((e.l.length - 1 : Nat) : Int) = (e.l.length : Int) - 1 by omega]
        exact h100
  refine ⟨hm, ?_⟩
  unfold normT
  rw [if_pos hm]
  simp only
  unfold lastI at hcc
  rw [show (((copyP e.l ((e.l.length - 1 : Nat) : Int) []).length - 1 : Nat) : Int) = ((copyP e.l ((e.l.length - 1 : Nat) : Int) []).length : Int) - 1 by omega, hcc]
theorem joinK (s : List ApiNode) (l : List Int) (hl : l.length ≤ 63) (hs : s.length ≤ 100000000) (hb : ∀ x ∈ l, 0 ≤ x ∧ x ≤ 100000000) : m_tree_Join_l3 s l FU (0, l) = some (l.map (· + (s.length : Int))) := by
  obtain ⟨r, h1, h2⟩ := loop_rng (φ := fun n j t => m_tree_Join_l3 s l n (j, t)) (l := l) (fun j t => t = (l.take j).map (· + (s.length : Int)) ++ l.drop j) (fun r => r = l.map (· + (s.length : Int))) (by
    rintro n j x t hx hj rfl
    have hd : l.drop j = x :: l.drop (j + 1) := by
      obtain ⟨hi2, hx2⟩ := List.getElem?_eq_some_iff.1 hx
      rw [List.drop_eq_getElem_cons hi2, hx2]
    have hzl : ((l.take j).map (· + (s.length : Int))).length = j := by simp; omega
    have hsi : ((l.take j).map (· + (s.length : Int)) ++ l.drop j)[j]? = some x := by
      rw [List.getElem?_append_right (by omega), hzl, Nat.sub_self, hd]; rfl
    have hx2 := hb x (List.mem_of_getElem? hx)
    simp only [m_tree_Join_l3]
    rw [decide_eq_true (show (j : Int) < l.length by omega), cond_true, getI hsi, Option.bind_some, grd_pos (by omega), Option.bind_some, grd_pos (by omega)]
    refine .inl ⟨_, rfl, ?_⟩
    rw [Int.toNat_natCast, List.set_append_right _ _ (by omega), hzl, Nat.sub_self, hd, List.set_cons_zero, take_snoc hx, List.map_append, List.append_assoc]
    rfl) (by
    rintro n t rfl
    simp only [m_tree_Join_l3]
    rw [decide_eq_false (by omega), cond_false, List.take_length, List.drop_length, List.append_nil]
    exact ⟨_, rfl, rfl⟩) (by rw [FUv]; omega) l (by simp)
  rw [h1, h2]
structure NodeOk (n : ApiNode) : Prop where
  nb : NB n
  np : noParts n
  kb : ∀ k ∈ kidsP n, 0 ≤ k ∧ k ≤ 100000000
theorem joinL (s : List ApiNode) (x : ApiExpr) (hs : s.length + x.l.length ≤ 100000000) (hx : ∀ n ∈ x.l, NodeOk n) : m_tree_Join_l2 s x FU (0, s) = some (s ++ x.l.map (sh s.length)) := by
  obtain ⟨r, h1, h2⟩ := loop_rng (φ := fun n j t => m_tree_Join_l2 s x n (j, t)) (l := x.l) (fun j t => t = s ++ (x.l.take j).map (sh s.length)) (fun r => r = s ++ x.l.map (sh s.length)) (by
    rintro f j n t hn hj rfl
    have hk := hx n (List.mem_of_getElem? hn)
    have hzl : ((x.l.take j).map (sh s.length)).length = j := by simp; omega
    simp only [m_tree_Join_l2]
    rw [decide_eq_true (show (j : Int) < x.l.length by omega), cond_true, getI hn, Option.bind_some]
    rw [show m_tree_KidsO (⟨n.kind, n.a, n.b, n.c, n.n_, n.name, n.s, n.l, n.pos⟩ : ApiNode) = m_tree_KidsO n from rfl, kidsO_eq n hk.nb, Option.bind_some, joinK s (kidsP n) (kids_len n hk.nb) (by omega) hk.kb, Option.bind_some]
    rw [show m_tree_with (⟨n.kind, n.a, n.b, n.c, n.n_, n.name, n.s, n.l, n.pos⟩ : ApiNode) ((kidsP n).map (· + (s.length : Int))) = m_tree_with n ((kidsP n).map (· + (s.length : Int))) from rfl, with_eq n _ hk.nb hk.np (by simp), Option.bind_some, grd_pos (by rw [List.length_append, hzl]; simp only [List.length_cons, List.length_nil]; omega), grd_pos (by omega)]
    refine .inl ⟨_, rfl, ?_⟩
    rw [take_snoc hn, List.map_append, List.append_assoc]
    rfl) (by
    rintro n t rfl
    simp only [m_tree_Join_l2]
    rw [decide_eq_false (by omega), cond_false, List.take_length]
    exact ⟨_, rfl, rfl⟩) (by rw [FUv]; omega) s (by simp)
  rw [h1, h2]
theorem copy_nodes {e : ApiExpr} (h : TreeOk e) {i : Nat} (hi : i < e.l.length) : (copyP e.l (i : Int) []).length ≤ 700 ∧ ∀ n ∈ copyP e.l (i : Int) [], NodeOk n := by
  have hI := ok_inLs h.ok
  have hl := copy_len hI _ _ (Nat.lt_succ_self i) hi []
  have hp := post_len hI h.one i hi
  have h7 := h.len
  simp only [List.length_nil] at hl
  refine ⟨by omega, fun n hn => ?_⟩
  obtain ⟨q, hq, hx⟩ := List.getElem_of_mem hn
  obtain ⟨m, n2, R, h1, h2, h3, h4, _⟩ := copy_node h.ok hi (q := q) (nd := n) (by rw [← hx]; exact List.getElem?_eq_getElem hq)
  subst h2
  have hnp := noParts_of (h.ok m n2 h1).1
  refine ⟨withP_nb n2 R (h.nb n2 (List.mem_of_getElem? h1)), withP_noParts n2 R, fun k hk => ?_⟩
  rw [withP_kids n2 R hnp h3] at hk
  have := h4 k hk
  omega
def subL (e : ApiExpr) (ks : List Int) : List ApiExpr := ks.map fun k => ⟨copyP e.l k []⟩
theorem joinT {e : ApiExpr} (h : TreeOk e) {i : Nat} {n : ApiNode} (hn : e.l[i]? = some n) : m_tree_Join n (subL e (kidsP n)) = some ⟨copyP e.l (i : Int) []⟩ := by
  have hI := ok_inLs h.ok
  have hi := getLt hn
  have hNn := h.nb n (List.mem_of_getElem? hn)
  have hkl := kids_len n hNn
  have hnp := noParts_of (h.ok i n hn).1
  have hfl := fold_len (L := e.l) (kidsP n) ([], []) (copy_len2 hI hn)
  have hpr := post_rec hI hn
  have hpl := post_len hI h.one i hi
  have h7 := h.len
  rw [hpr, List.length_append] at hpl
  simp only [List.length_cons, List.length_nil, Nat.zero_add] at hpl hfl
  unfold m_tree_Join
  obtain ⟨r, h1, h2⟩ := loop_rng (φ := fun f j (t : List Int × List ApiNode) => m_tree_Join_l1 (subL e (kidsP n)) f (j, t.1, t.2)) (l := kidsP n) (fun j t => t = ((kidsP n).take j).foldl (stepC (copyP e.l)) ([], [])) (fun r => r = (kidsP n).foldl (stepC (copyP e.l)) ([], [])) (by
    rintro f j k t hk hj rfl
    have hkk := hI i n hn k (List.mem_of_getElem? hk)
    have hff := fold_len (L := e.l) ((kidsP n).take j) ([], []) (fun k hk => copy_len2 hI hn k (List.mem_of_mem_take hk))
    have hj2 : ((kidsP n).take j).length = j := by simp; omega
    have hsz : (((kidsP n).take (j + 1)).flatMap (post e.l)).length ≤ ((kidsP n).flatMap (post e.l)).length := by
      have : (kidsP n).flatMap (post e.l) = ((kidsP n).take (j + 1)).flatMap (post e.l) ++ ((kidsP n).drop (j + 1)).flatMap (post e.l) := by
        rw [← List.flatMap_append, List.take_append_drop]
      rw [this, List.length_append]; omega
    rw [take_snoc hk, List.flatMap_append, List.length_append] at hsz
    simp only [List.flatMap_cons, List.flatMap_nil, List.append_nil, List.length_nil, Nat.zero_add] at hsz hff
    have hsub : (subL e (kidsP n))[j]? = some ⟨copyP e.l k []⟩ := by
      unfold subL
      rw [List.getElem?_map, hk]; rfl
    have hsl : (subL e (kidsP n)).length = (kidsP n).length := by unfold subL; simp
    have hcl := copy_len2 hI hn k (List.mem_of_getElem? hk) (((kidsP n).take j).foldl (stepC (copyP e.l)) ([], [])).2
    have hc0 := copy_len2 hI hn k (List.mem_of_getElem? hk) []
    simp only [List.length_nil, Nat.zero_add] at hc0
    have hno : ∀ m ∈ copyP e.l k [], NodeOk m := by
      obtain ⟨a, rfl⟩ : ∃ a : Nat, k = (a : Int) := ⟨k.toNat, by omega⟩
      exact (copy_nodes h (by omega)).2
    have hsh : (((kidsP n).take j).foldl (stepC (copyP e.l)) ([], [])).2 ++ (copyP e.l k []).map (sh (((kidsP n).take j).foldl (stepC (copyP e.l)) ([], [])).2.length) = copyP e.l k (((kidsP n).take j).foldl (stepC (copyP e.l)) ([], [])).2 := by
      obtain ⟨a, rfl⟩ : ∃ a : Nat, k = (a : Int) := ⟨k.toNat, by omega⟩
      have := copy_sh h.ok (((kidsP n).take j).foldl (stepC (copyP e.l)) ([], [])).2 (a + 1) a (by omega) (by omega) []
      rw [List.map_nil, List.append_nil] at this
      exact this.symm
    have hjl := joinL (((kidsP n).take j).foldl (stepC (copyP e.l)) ([], [])).2 ⟨copyP e.l k []⟩ (show _ + (copyP e.l k []).length ≤ 100000000 by omega) hno
    simp only [m_tree_Join_l1]
    rw [decide_eq_true (show (j : Int) < (subL e (kidsP n)).length by omega), cond_true, getI hsub, Option.bind_some, hjl, Option.bind_some]
    dsimp only
    rw [hsh, grd_pos (by omega), grd_pos (by simp only [List.length_cons, List.length_nil]; omega), grd_pos (by omega)]
    refine .inl ⟨(_, _), rfl, ?_⟩
    rw [take_snoc hk, List.foldl_append]; rfl) (by
    rintro f t rfl
    have hsl : (subL e (kidsP n)).length = (kidsP n).length := by unfold subL; simp
    simp only [m_tree_Join_l1]
    rw [decide_eq_false (by omega), cond_false, List.take_length]
    exact ⟨_, rfl, rfl⟩) (by rw [FUv]; omega) ([], []) rfl
  rw [h1, h2, Option.bind_some]
  dsimp only
  rw [with_eq n _ hNn hnp hfl.2, Option.bind_some, grd_pos (by simp only [List.length_cons, List.length_nil]; omega), copy_rec hI hn]
def stepJ (st : List Int × List ApiNode) (x : ApiExpr) : List Int × List ApiNode := (st.1 ++ [(((st.2 ++ x.l.map (sh st.2.length)).length : Nat) : Int) - 1], st.2 ++ x.l.map (sh st.2.length))
def foldJ (xs : List ApiExpr) : List Int × List ApiNode := xs.foldl stepJ ([], [])
def TOk (x : ApiExpr) : Prop := x.l.length ≤ 1000000 ∧ ∀ n ∈ x.l, NodeOk n
theorem foldJ_len (xs : List ApiExpr) : ∀ st, (∀ x ∈ xs, TOk x) → (xs.foldl stepJ st).1.length = st.1.length + xs.length ∧ (xs.foldl stepJ st).2.length ≤ st.2.length + 1000000 * xs.length := by
  induction xs with
  | nil => intro st _; simp
  | cons x xs ih =>
    intro st h
    have h1 := (h x (List.mem_cons_self ..)).1
    obtain ⟨a, b⟩ := ih (stepJ st x) (fun y hy => h y (List.mem_cons_of_mem _ hy))
    rw [List.foldl_cons]
    refine ⟨?_, ?_⟩
    · rw [a]; unfold stepJ; simp only [List.length_append, List.length_cons, List.length_nil]; omega
    · refine Nat.le_trans b ?_
      unfold stepJ; simp only [List.length_append, List.length_map, List.length_cons]; omega
theorem foldJ_sum (xs : List ApiExpr) : ∀ st, (xs.foldl stepJ st).2.length = st.2.length + (xs.map fun x => x.l.length).sum := by
  induction xs with
  | nil => intro st; simp
  | cons x xs ih =>
    intro st
    rw [List.foldl_cons, ih, List.map_cons, List.sum_cons]
    unfold stepJ; simp only [List.length_append, List.length_map]; omega
theorem joinG (n : ApiNode) (xs : List ApiExpr) (hN : NB n) (hk : xs.length = (kidsP n).length) (hx : ∀ x ∈ xs, TOk x) : m_tree_Join n xs = some ⟨(foldJ xs).2 ++ [withP n (foldJ xs).1]⟩ := by
  have hkl := kids_len n hN
  unfold m_tree_Join
  obtain ⟨r, h1, h2⟩ := loop_rng (φ := fun f j (t : List Int × List ApiNode) => m_tree_Join_l1 xs f (j, t.1, t.2)) (l := xs) (fun j t => t = foldJ (xs.take j)) (fun r => r = foldJ xs) (by
    rintro f j x t hxj hj rfl
    obtain ⟨f1, f2⟩ := foldJ_len (xs.take j) ([], []) (fun y hy => hx y (List.mem_of_mem_take hy))
    have hxo := hx x (List.mem_of_getElem? hxj)
    have hj2 : (xs.take j).length = j := by simp; omega
    rw [hj2] at f1 f2
    simp only [List.length_nil, Nat.zero_add] at f1 f2
    have hxo1 := hxo.1
    have hjl := joinL (foldJ (xs.take j)).2 x (by unfold foldJ; omega) hxo.2
    simp only [m_tree_Join_l1]
    rw [decide_eq_true (show (j : Int) < xs.length by omega), cond_true, getI hxj, Option.bind_some, hjl, Option.bind_some]
    rw [grd_pos (by unfold foldJ; simp only [List.length_append, List.length_map]; omega), grd_pos (by unfold foldJ; simp only [List.length_cons, List.length_nil]; omega), grd_pos (by omega)]
    refine .inl ⟨(_, _), rfl, ?_⟩
    unfold foldJ
    rw [take_snoc hxj, List.foldl_append]; rfl) (by
    rintro f t rfl
    simp only [m_tree_Join_l1]
    rw [decide_eq_false (by omega), cond_false, List.take_length]
    exact ⟨_, rfl, rfl⟩) (by rw [FUv]; omega) ([], []) rfl
  obtain ⟨f1, f2⟩ := foldJ_len xs ([], []) hx
  simp only [List.length_nil, Nat.zero_add] at f1 f2
  rw [h1, h2, Option.bind_some]
  dsimp only
  rw [with_eqB n _ hN (by unfold foldJ; omega), Option.bind_some, grd_pos (by unfold foldJ; simp only [List.length_cons, List.length_nil]; omega)]
theorem rjoinK (s : List ApiNode) (l : List Int) (hl : l.length ≤ 63) (hs : s.length ≤ 100000000) (hb : ∀ x ∈ l, 0 ≤ x ∧ x ≤ 100000000) : m_syntagmaref05_Join_l3 s l FU (0, []) = some (l.map (· + (s.length : Int))) := by
  refine (loop_map (φ := fun n i t => m_syntagmaref05_Join_l3 s l n (i, t)) (l := l) (fun k => k + (s.length : Int)) id 0 ?_ ?_ (by rw [FUv]; omega) [] rfl).trans rfl
  · intro n i x t hx hi ht
    have hx2 := hb x (List.mem_of_getElem? hx)
    simp only [m_syntagmaref05_Join_l3]
    rw [decide_eq_true (show (i : Int) < l.length by omega), cond_true, getI hx, Option.bind_some, grd_pos (by omega), grd_pos (by simp only [List.length_cons, List.length_nil]; omega), grd_pos (by omega)]
  · intro n t ht
    simp only [m_syntagmaref05_Join_l3]
    rw [decide_eq_false (by omega), cond_false]; rfl
theorem rjoinL (xs : List ApiExpr) (j : Nat) (s : List ApiNode) (x : ApiExpr) (hxj : xs[j]? = some x) (hs : s.length + x.l.length ≤ 100000000) (hx : ∀ n ∈ x.l, NodeOk n) : m_syntagmaref05_Join_l2 xs (j : Int) s FU (0, s) = some (s ++ x.l.map (sh s.length)) := by
  obtain ⟨r, h1, h2⟩ := loop_rng (φ := fun n i t => m_syntagmaref05_Join_l2 xs (j : Int) s n (i, t)) (l := x.l) (fun i t => t = s ++ (x.l.take i).map (sh s.length)) (fun r => r = s ++ x.l.map (sh s.length)) (by
    rintro f i n t hn hi rfl
    have hk := hx n (List.mem_of_getElem? hn)
    have hzl : ((x.l.take i).map (sh s.length)).length = i := by simp; omega
    simp only [m_syntagmaref05_Join_l2]
    rw [getI hxj, Option.bind_some, decide_eq_true (show (i : Int) < x.l.length by omega), cond_true, Option.bind_some, getI hn, Option.bind_some]
    rw [rkids_eq n hk.nb, Option.bind_some, rjoinK s (kidsP n) (kids_len n hk.nb) (by omega) hk.kb, Option.bind_some, Option.bind_some, getI hn, Option.bind_some]
    rw [rwith_eq n _ hk.nb hk.np (by simp), Option.bind_some, grd_pos (by rw [List.length_append, hzl]; simp only [List.length_cons, List.length_nil]; omega), grd_pos (by omega)]
    refine .inl ⟨_, rfl, ?_⟩
    rw [take_snoc hn, List.map_append, List.append_assoc]
    rfl) (by
    rintro n t rfl
    simp only [m_syntagmaref05_Join_l2]
    rw [getI hxj, Option.bind_some, decide_eq_false (by omega), cond_false, List.take_length]
    exact ⟨_, rfl, rfl⟩) (by rw [FUv]; omega) s (by simp)
  rw [h1, h2]
theorem rjoinG (n : ApiNode) (xs : List ApiExpr) (hN : NB n) (hk : xs.length = (kidsP n).length) (hx : ∀ x ∈ xs, TOk x) : m_syntagmaref05_Join n xs = some ⟨(foldJ xs).2 ++ [withP n (foldJ xs).1]⟩ := by
  have hkl := kids_len n hN
  unfold m_syntagmaref05_Join
  obtain ⟨r, h1, h2⟩ := loop_rng (φ := fun f j (t : List Int × List ApiNode) => m_syntagmaref05_Join_l1 xs f (j, t.1, t.2)) (l := xs) (fun j t => t = foldJ (xs.take j)) (fun r => r = foldJ xs) (by
    rintro f j x t hxj hj rfl
    obtain ⟨f1, f2⟩ := foldJ_len (xs.take j) ([], []) (fun y hy => hx y (List.mem_of_mem_take hy))
    have hxo := hx x (List.mem_of_getElem? hxj)
    have hj2 : (xs.take j).length = j := by simp; omega
    rw [hj2] at f1 f2
    simp only [List.length_nil, Nat.zero_add] at f1 f2
    have hxo1 := hxo.1
    have hjl := rjoinL xs j (foldJ (xs.take j)).2 x hxj (by unfold foldJ; omega) hxo.2
    simp only [m_syntagmaref05_Join_l1]
    rw [decide_eq_true (show (j : Int) < xs.length by omega), cond_true, hjl, Option.bind_some]
    rw [grd_pos (by unfold foldJ; simp only [List.length_append, List.length_map]; omega), grd_pos (by unfold foldJ; simp only [List.length_cons, List.length_nil]; omega), grd_pos (by omega)]
    refine .inl ⟨(_, _), rfl, ?_⟩
    unfold foldJ
    rw [take_snoc hxj, List.foldl_append]; rfl) (by
    rintro f t rfl
    simp only [m_syntagmaref05_Join_l1]
    rw [decide_eq_false (by omega), cond_false, List.take_length]
    exact ⟨_, rfl, rfl⟩) (by rw [FUv]; omega) ([], []) rfl
  obtain ⟨f1, f2⟩ := foldJ_len xs ([], []) hx
  simp only [List.length_nil, Nat.zero_add] at f1 f2
  rw [h1, h2, Option.bind_some]
  dsimp only
  rw [rwith_eqB n _ hN (by unfold foldJ; omega), Option.bind_some, grd_pos (by unfold foldJ; simp only [List.length_cons, List.length_nil]; omega)]
end Go.Proofs.Ytnnjgbcojdnhhaa
set_option linter.unusedVariables false
set_option linter.unusedSimpArgs false
set_option maxRecDepth 100000
namespace Go.Proofs.Ytnnjgbcojdnhhaa
open Go.V
open Classical
theorem sum_z {α : Type} : ∀ l : List α, (l.map fun _ => (0 : Nat)).sum = 0
  | [] => rfl
  | a :: l => by rw [List.map_cons, List.sum_cons, sum_z l]
theorem le_sum {α : Type} (f : α → Nat) : ∀ (l : List α) (x : α), x ∈ l → f x ≤ (l.map f).sum
  | a :: l, x, h => by
    rw [List.map_cons, List.sum_cons]
    rcases List.mem_cons.1 h with rfl | h
    · omega
    · have := le_sum f l x h; omega
def bPred (child : Int) (x : List UInt8) (f : ApiField) : Bool := decide (f.at_ = child) && decide (f.var = x)
def bindsP (n : ApiNode) (child : Int) (x : List UInt8) : Int :=
  if (n.kind = 5 ∧ n.name = x) ∨ (n.kind = 7 ∧ n.name = x ∧ child = n.b) ∨ (n.kind = 8 ∧ n.name = x) then -1
  else if n.kind = 14 then (match n.l.findIdx? (bPred child x) with | some k => (k : Int) | none => -2) else -2
theorem loop_first {α β : Type} {l : List α} {p : α → Bool} {ret : Int → β} {φ : Nat → Int → Option (Out β Unit)} (hl : l.length < FU)
    (step : ∀ n (i : Nat) x, l[i]? = some x → i < l.length → φ (n + 1) (i : Int) = if p x = true then some (Out.ret (ret i)) else φ n ((i : Int) + 1)) (stop : ∀ n, φ (n + 1) (l.length : Int) = some (.go ())) :
    φ FU 0 = some (match l.findIdx? p with | some k => .ret (ret k) | none => .go ()) := by
  obtain ⟨o, h1, h2⟩ := loop_rng (φ := fun n i (_ : Unit) => φ n i) (l := l) (fun i _ => ∀ (j : Nat) x, j < i → l[j]? = some x → p x = false) (fun o => o = (match l.findIdx? p with | some k => .ret (ret k) | none => .go ())) (by
    intro n i x _ hx hi hI
    have hs := step n i x hx hi
    cases hp : p x with
    | true =>
      rw [hp, if_pos rfl] at hs
      refine .inr ⟨_, hs, ?_⟩
      have : l.findIdx? p = some i := by
        rw [List.findIdx?_eq_some_iff_getElem]
        obtain ⟨hi2, hx2⟩ := List.getElem?_eq_some_iff.1 hx
        refine ⟨hi, by rw [hx2]; exact hp, fun j hj => ?_⟩
        rw [hI j l[j] hj (List.getElem?_eq_getElem _)]; decide
      rw [this]
    | false =>
      rw [hp, if_neg (by decide)] at hs
      refine .inl ⟨(), hs, fun j y hj hy => ?_⟩
      by_cases hji : j = i
      · subst hji
        rw [hx] at hy
        rw [← Option.some.inj hy]; exact hp
      · exact hI j y (by omega) hy) (by
    intro n _ hI
    refine ⟨_, stop n, ?_⟩
    have : l.findIdx? p = none := by
      rw [List.findIdx?_eq_none_iff]
      intro x hx
      obtain ⟨j, hj, rfl⟩ := List.getElem_of_mem hx
      exact hI j _ hj (List.getElem?_eq_getElem _)
    rw [this]) hl () (fun j x hj => by omega)
  rw [h1, h2]
theorem binds_eq (n : ApiNode) (child : Int) (x : List UInt8) (hN : NB n) : m_syntagmaref06_binds n child x = some (bindsP n child x) := by
  unfold NB at hN
  unfold m_syntagmaref06_binds bindsP
  have e : ((((decide (n.kind = 5)) && (decide ((n.name : List UInt8) = x))) || (((decide (n.kind = 7)) && (decide ((n.name : List UInt8) = x))) && (decide (child = n.b)))) || ((decide (n.kind = 8)) && (decide ((n.name : List UInt8) = x)))) = decide ((n.kind = 5 ∧ n.name = x) ∨ (n.kind = 7 ∧ n.name = x ∧ child = n.b) ∨ (n.kind = 8 ∧ n.name = x)) := by
    rw [Bool.eq_iff_iff]
    simp only [Bool.or_eq_true, Bool.and_eq_true, decide_eq_true_eq, and_assoc, or_assoc]
  rw [e]
  by_cases h1 : (n.kind = 5 ∧ n.name = x) ∨ (n.kind = 7 ∧ n.name = x ∧ child = n.b) ∨ (n.kind = 8 ∧ n.name = x)
  · rw [decide_eq_true h1, cond_true, if_pos h1]
  rw [decide_eq_false h1, cond_false, if_neg h1]
  by_cases h2 : n.kind = 14
  · rw [decide_eq_true h2, cond_true, if_pos h2]
    rw [loop_first (l := n.l) (p := bPred child x) (ret := id) (φ := m_syntagmaref06_binds_l1 n child x) (by rw [FUv]; omega) (by
      intro m i f hf hi
      simp only [m_syntagmaref06_binds_l1]
      rw [decide_eq_true (show (i : Int) < n.l.length by omega), cond_true, getI hf, Option.bind_some]
      unfold bPred
      by_cases h3 : f.at_ = child
      · rw [decide_eq_true h3, cond_true, Option.bind_some, Option.bind_some, Bool.true_and]
        by_cases h4 : f.var = x
        · rw [decide_eq_true h4, cond_true, if_pos rfl]; rfl
        · rw [decide_eq_false h4, cond_false, if_neg (by decide), grd_pos (by omega)]
      · rw [decide_eq_false h3, cond_false, Option.bind_some, cond_false, Bool.false_and, if_neg (by decide), grd_pos (by omega)]) (by
      intro m
      simp only [m_syntagmaref06_binds_l1]
      rw [decide_eq_false (by omega), cond_false]), Option.bind_some]
    cases n.l.findIdx? (bPred child x) <;> rfl
  · rw [decide_eq_false h2, cond_false, if_neg h2]
/-- Upwards. -/
def Uw (L : List ApiNode) (P : List Int) (x : List UInt8) : Nat → Int → Int → Int × Int
  | 0, _, _ => (-1, -1)
  | f + 1, child, up => if 0 ≤ up then (match L[up.toNat]? with
    | some n => if -2 < bindsP n child x then (up, bindsP n child x) else Uw L P x f up (gd P up)
    | none => (-1, -1)) else (-1, -1)
def UP (L : List ApiNode) (P : List Int) (x : List UInt8) (i : Int) : Int × Int := Uw L P x (L.length - i.toNat) i (gd P i)
structure POk (L : List ApiNode) (P : List Int) : Prop where
  len : P.length = L.length
  root : gd P (((L.length - 1 : Nat)) : Int) = -1
  par : ∀ (i : Nat) n, L[i]? = some n → ∀ k ∈ kidsP n, gd P k = (i : Int)
structure Sc (L : List ApiNode) : Prop where
  len : L.length ≤ 700
  pos : 1 ≤ L.length
  nb : ∀ n ∈ L, NB n
  ok : allOk L
  one : one1 L
  all : ∀ j : Nat, j < L.length - 1 → ∃ (i : Nat) (n : ApiNode), L[i]? = some n ∧ (j : Int) ∈ kidsP n
theorem sc_of {e : ApiExpr} (hl : e.l.length ≤ 700) (hN : ∀ n ∈ e.l, NB n) (h : mayT e.l = 0) : Sc e.l := by
  obtain ⟨ht, h1⟩ := mayT_tree hl hN h
  have hI := ok_inLs ht.ok
  refine ⟨hl, h1, hN, ht.ok, ht.one, fun j hj => ?_⟩
  have ho : ¬ odd1 e.l := by
    intro ho
    unfold mayT at h
    obtain ⟨_, h2, h3⟩ := mayT_ok (show mayT e.l = 0 from by unfold mayT; exact h)
    rw [if_neg (by omega), if_neg (fun q => q h3), if_pos ho] at h
    omega
  have e1 := cntU_gd e.l hI (j : Int) (by omega) e.l.length (Nat.le_refl _)
  have e2 : gd (cntU e.l e.l.length) (j : Int) = 1 := by
    refine Classical.byContradiction fun hne => ho ⟨_, ?_, hne⟩
    have hlen := cntU_len e.l e.l.length
    unfold gd
    rw [Int.toNat_natCast, List.getElem?_eq_getElem (by omega), Option.getD_some]
    refine List.mem_iff_getElem.2 ⟨j, by simp; omega, by simp⟩
  rw [e2] at e1
  refine Classical.byContradiction fun hno => ?_
  have e3 : ((List.range e.l.length).map fun (p : Nat) => (kidsAt e.l (p : Int)).count (j : Int)).sum = 0 := by
    rw [sum_congr (g := fun _ => 0) (fun p hp => ?_)]
    · exact sum_z _
    · obtain ⟨n, hn⟩ := getI2 (l := e.l) (i := p) (List.mem_range.1 hp)
      rw [kidsAt_s hn, List.count_eq_zero]
      exact fun hm => hno ⟨p, n, hn, hm⟩
  rw [e3] at e1
  omega
theorem kids_nodup {L : List ApiNode} (h : Sc L) {i : Nat} {n : ApiNode} (hn : L[i]? = some n) : (kidsP n).Nodup := by
  rw [List.nodup_iff_count]
  intro x
  have h1 := h.one x
  refine Nat.le_trans ?_ h1
  have hi := getLt hn
  have := le_sum (fun (p : Nat) => (kidsAt L (p : Int)).count x) (List.range L.length) i (List.mem_range.2 hi)
  simp only [kidsAt_s hn] at this
  exact this
theorem par_ex {L : List ApiNode} (h : Sc L) {P : List Int} (hP : POk L P) {j : Nat} (hj : j < L.length) : (gd P (j : Int) = -1 ∧ j = L.length - 1) ∨ ∃ (i : Nat) (n : ApiNode), j < i ∧ L[i]? = some n ∧ (j : Int) ∈ kidsP n ∧ gd P (j : Int) = (i : Int) := by
  by_cases hr : j = L.length - 1
  · subst hr; exact .inl ⟨hP.root, rfl⟩
  · obtain ⟨i, n, h1, h2⟩ := h.all j (by omega)
    have := ok_inLs h.ok i n h1 _ h2
    exact .inr ⟨i, n, by omega, h1, h2, hP.par i n h1 _ h2⟩
theorem Uw_fuel {L : List ApiNode} (h : Sc L) {P : List Int} (hP : POk L P) (x : List UInt8) : ∀ (f g j : Nat), j < L.length → L.length - j ≤ f → L.length - j ≤ g → Uw L P x f (j : Int) (gd P (j : Int)) = Uw L P x g (j : Int) (gd P (j : Int))
  | 0, _, j, hj, hf, _ => by omega
  | _, 0, j, hj, _, hg => by omega
  | f + 1, g + 1, j, hj, hf, hg => by
    simp only [Uw]
    rcases par_ex h hP hj with ⟨h1, _⟩ | ⟨i, n, h1, h2, h3, h4⟩
    · rw [h1, if_neg (by omega), if_neg (by omega)]
    · have hi := getLt h2
      rw [h4, if_pos (by omega), if_pos (by omega), Int.toNat_natCast, h2]
      simp only
      rw [Uw_fuel h hP x f g i hi (by omega) (by omega)]
theorem UP_root {L : List ApiNode} (h : Sc L) {P : List Int} (hP : POk L P) (x : List UInt8) : UP L P x (((L.length - 1 : Nat)) : Int) = (-1, -1) := by
  have h1 := h.pos
  unfold UP
  rw [hP.root, show L.length - (((L.length - 1 : Nat)) : Int).toNat = 0 + 1 by omega]
  rfl
theorem UP_step {L : List ApiNode} (h : Sc L) {P : List Int} (hP : POk L P) (x : List UInt8) {i : Nat} {n : ApiNode} (hn : L[i]? = some n) {k : Int} (hk : k ∈ kidsP n) : UP L P x k = if -2 < bindsP n k x then ((i : Int), bindsP n k x) else UP L P x (i : Int) := by
  have hi := getLt hn
  have hq := ok_inLs h.ok i n hn k hk
  obtain ⟨j, rfl⟩ : ∃ j : Nat, k = (j : Int) := ⟨k.toNat, by omega⟩
  unfold UP
  rw [hP.par i n hn _ hk, Int.toNat_natCast, Int.toNat_natCast, show L.length - j = (L.length - j - 1) + 1 by omega]
  simp only [Uw]
  rw [if_pos (by omega), Int.toNat_natCast, hn]
  simp only
  rw [Uw_fuel h hP x (L.length - j - 1) (L.length - i) i hi (by omega) (by omega)]
def toB (p : Int × Int) : ScopeBinder := ⟨p.1, p.2⟩
def VP (L : List ApiNode) (P : List Int) (j : Nat) : Int × Int := match L[j]? with
  | some n => if n.kind = 4 then UP L P n.name (j : Int) else (-1, -1)
  | none => (-1, -1)
theorem rbL2 (e : ApiExpr) {P : List Int} (h : Sc e.l) (hP : POk e.l P) {i : Nat} {n0 : ApiNode} (hn0 : e.l[i]? = some n0) : ∀ (d j f : Nat), j < e.l.length → e.l.length - j ≤ d → d + 1 < f → m_syntagmaref06_Binders_l2 e P (i : Int) f ((j : Int), gd P (j : Int), -1, -1) = some (Uw e.l P n0.name d (j : Int) (gd P (j : Int)))
  | 0, j, f, hj, hd, hf => by omega
  | d + 1, j, 0, hj, hd, hf => by omega
  | d + 1, j, 1, hj, hd, hf => by omega
  | d + 1, j, f + 2, hj, hd, hf => by
    simp only [Uw]
    rcases par_ex h hP hj with ⟨h1, _⟩ | ⟨p, n, h1, h2, h3, h4⟩
    · simp only [m_syntagmaref06_Binders_l2]
      rw [h1, if_neg (by omega)]
      rfl
    · have hp := getLt h2
      have hNn := h.nb n (List.mem_of_getElem? h2)
      rw [h4, if_pos (by omega), Int.toNat_natCast, h2]
      simp only
      rw [m_syntagmaref06_Binders_l2]
      rw [decide_eq_true (show (0 : Int) ≤ (p : Int) by omega), decide_eq_true (show (-1 : Int) < 0 by omega), Bool.and_true, cond_true, getI h2, Option.bind_some, getI hn0, Option.bind_some, binds_eq n _ _ hNn, Option.bind_some]
      have hpi : idx P (p : Int) = some (gd P (p : Int)) := idxD (by omega) (by rw [hP.len]; omega)
      by_cases hb : -2 < bindsP n (j : Int) n0.name
      · rw [decide_eq_true hb, cond_true, hpi, Option.bind_some, if_pos hb]
        rw [m_syntagmaref06_Binders_l2]
        rw [decide_eq_false (show ¬ (p : Int) < 0 by omega), Bool.and_false, cond_false]
      · rw [decide_eq_false hb, cond_false, hpi, Option.bind_some, if_neg hb]
        exact rbL2 e h hP hn0 d p (f + 1) hp (by omega) (by omega)
theorem rbinders_l1 (e : ApiExpr) {P : List Int} (h : Sc e.l) (hP : POk e.l P) : m_syntagmaref06_Binders_l1 e P FU (0, []) = some ((List.range e.l.length).map fun j => (⟨(VP e.l P j).1, (VP e.l P j).2⟩ : Syntagmaref06Binder)) := by
  have hl := h.len
  obtain ⟨o, h1, h2⟩ := loop_rng (φ := fun n i s => m_syntagmaref06_Binders_l1 e P n (i, s)) (l := e.l) (fun i s => s = (List.range i).map fun j => (⟨(VP e.l P j).1, (VP e.l P j).2⟩ : Syntagmaref06Binder)) (fun o => o = (List.range e.l.length).map fun j => (⟨(VP e.l P j).1, (VP e.l P j).2⟩ : Syntagmaref06Binder)) (by
    rintro m i n s hn hi rfl
    simp only [m_syntagmaref06_Binders_l1]
    have hv : (bif (decide (n.kind = 4)) then (idx P (i : Int)).bind fun x3 => m_syntagmaref06_Binders_l2 e P (i : Int) FU ((i : Int), x3, (-1), (-1)) else some ((-1), (-1)) : Option (Int × Int)) = some (VP e.l P i) := by
      unfold VP
      rw [hn]
      simp only
      by_cases h4 : n.kind = 4
      · rw [decide_eq_true h4, cond_true, if_pos h4, idxD (by omega) (by rw [hP.len]; omega), Option.bind_some, rbL2 e h hP hn (e.l.length - i) i FU hi (by omega) (by rw [FUv]; omega)]
        unfold UP
        rw [Int.toNat_natCast]
      · rw [decide_eq_false h4, cond_false, if_neg h4]
    rw [decide_eq_true (show (i : Int) < e.l.length by omega), cond_true, getI hn, Option.bind_some, hv, Option.bind_some]
    rw [grd_pos (by simp only [List.length_map, List.length_range, List.length_cons, List.length_nil]; omega), grd_pos (by omega)]
    refine .inl ⟨_, rfl, ?_⟩
    rw [List.range_succ, List.map_append]; rfl) (by
    rintro m s rfl
    simp only [m_syntagmaref06_Binders_l1]
    rw [decide_eq_false (by omega), cond_false]
    exact ⟨_, rfl, rfl⟩) (by rw [FUv]; omega) [] rfl
  rw [h1, h2]
theorem rparK (i : Int) (ks l : List Int) (hl : ks.length ≤ 63) (hI : inL l.length ks) : m_syntagmaref06_parents_l2 i ks FU (0, l) = some (setKs i l ks) := by
  obtain ⟨o, h1, h2⟩ := loop_rng (φ := fun n j s => m_syntagmaref06_parents_l2 i ks n (j, s)) (l := ks) (fun j s => s = setKs i l (ks.take j)) (fun o => o = setKs i l ks) (by
    rintro m j k s hk hj rfl
    have hq := hI k (List.mem_of_getElem? hk)
    simp only [m_syntagmaref06_parents_l2]
    rw [decide_eq_true (show (j : Int) < ks.length by omega), cond_true, getI hk, Option.bind_some, idxD (by omega) (by rw [setKs_len]; omega), Option.bind_some, grd_pos (by omega)]
    exact .inl ⟨_, rfl, by rw [take_snoc hk, setKs_snoc]⟩) (by
    rintro m s rfl
    simp only [m_syntagmaref06_parents_l2]
    rw [decide_eq_false (by omega), cond_false, List.take_length]
    exact ⟨_, rfl, rfl⟩) (by rw [FUv]; omega) l rfl
  rw [h1, h2]
theorem rparents_eq (e : ApiExpr) (h : Sc e.l) : ∃ P, m_syntagmaref06_parents e = some P ∧ POk e.l P := by
  have hl := h.len
  have h0 := h.pos
  have hI := ok_inLs h.ok
  unfold m_syntagmaref06_parents
  rw [grd_pos (by omega), grd_pos (by omega), Int.toNat_natCast]
  obtain ⟨o, h1, h2, h3⟩ := loop_rng (φ := fun n i s => m_syntagmaref06_parents_l1 e n (i, s)) (l := e.l) (fun i (s : List Int) => s.length = e.l.length ∧ ∀ (j : Nat) n, j < i → e.l[j]? = some n → ∀ k ∈ kidsP n, gd s k = (j : Int)) (fun o => o.length = e.l.length ∧ ∀ (j : Nat) n, e.l[j]? = some n → ∀ k ∈ kidsP n, gd o k = (j : Int)) (by
    rintro m i n s hn hi ⟨hs, hp⟩
    have hNn := h.nb n (List.mem_of_getElem? hn)
    have hin : inL s.length (kidsP n) := fun k hk => by have := hI i n hn k hk; omega
    simp only [m_syntagmaref06_parents_l1]
    rw [decide_eq_true (show (i : Int) < e.l.length by omega), cond_true, getI hn, Option.bind_some, rkids_eq n hNn, Option.bind_some, rparK (i : Int) (kidsP n) s (kids_len n hNn) hin, Option.bind_some, grd_pos (by omega)]
    refine .inl ⟨_, rfl, by rw [setKs_len]; exact hs, fun j y hj hy k hk => ?_⟩
    have hk0 := hI j y hy k hk
    rw [setKs_gd _ _ _ _ hin hk0.1]
    by_cases hji : j = i
    · subst hji
      rw [hn] at hy
      rw [← Option.some.inj hy] at hk
      rw [if_pos hk]
    · rw [if_neg (fun hk2 => hji (two1 h.one hy hn hk hk2)), hp j y (by omega) hy k hk]) (by
    rintro m s ⟨hs, hp⟩
    simp only [m_syntagmaref06_parents_l1]
    rw [decide_eq_false (by omega), cond_false]
    exact ⟨_, rfl, hs, fun j n hn => hp j n (getLt hn) hn⟩) (by rw [FUv]; omega) (List.replicate e.l.length 0) ⟨by simp, fun j n hj => by omega⟩
  rw [h1, Option.bind_some, grd_pos (by omega), idxD (by omega) (by omega), Option.bind_some]
  refine ⟨_, rfl, by rw [List.length_set]; exact h2, ?_, fun j n hn k hk => ?_⟩
  · rw [show (((o.length : Nat) : Int) - 1).toNat = e.l.length - 1 by omega]
    exact gd_self (by omega) _
  · have hk0 := hI j n hn k hk
    have hj := getLt hn
    rw [gd_other (by omega), h3 j n hn k hk]
theorem rbinders_eq (e : ApiExpr) (h : Sc e.l) : ∃ P, POk e.l P ∧ m_syntagmaref06_Binders e = some ((List.range e.l.length).map fun j => (⟨(VP e.l P j).1, (VP e.l P j).2⟩ : Syntagmaref06Binder)) := by
  obtain ⟨P, h1, h2⟩ := rparents_eq e h
  refine ⟨P, h2, ?_⟩
  unfold m_syntagmaref06_Binders
  rw [h1, Option.bind_some, rbinders_l1 e h h2, Option.bind_some]
end Go.Proofs.Ytnnjgbcojdnhhaa
set_option linter.unusedVariables false
set_option linter.unusedSimpArgs false
set_option maxRecDepth 100000
namespace Go.Proofs.Ytnnjgbcojdnhhaa
open Go.V
open Classical
def findP (r : List ScopeKnown) (x : List UInt8) : ScopeBinder := match r.reverse.find? (fun k => decide (k.name = x)) with
  | some k => k.by_
  | none => ⟨-1, -1⟩
theorem findP_snoc (r : List ScopeKnown) (k : ScopeKnown) (x : List UInt8) : findP (r ++ [k]) x = if k.name = x then k.by_ else findP r x := by
  unfold findP
  rw [List.reverse_append, List.reverse_singleton, List.singleton_append, List.find?_cons]
  by_cases h : k.name = x
  · rw [decide_eq_true h, if_pos h]
  · rw [decide_eq_false h, if_neg h]
theorem find_l (r : List ScopeKnown) (x : List UInt8) (hr : r.length ≤ 1000000) : ∀ (n i : Nat), i ≤ r.length → i < n → m_scope_reach_find_l1 r x n ((i : Int) - 1) = some (match (r.take i).reverse.find? (fun k => decide (k.name = x)) with | some k => .ret k.by_ | none => .go ())
  | 0, i, _, h => by omega
  | n + 1, 0, _, _ => by
    simp only [m_scope_reach_find_l1]
    rw [decide_eq_false (by omega), cond_false]; rfl
  | n + 1, i + 1, hi, h => by
    obtain ⟨k, hk⟩ := getI2 (l := r) (i := i) (by omega)
    simp only [m_scope_reach_find_l1]
    rw [show (((i + 1 : Nat) : Int) - 1) = (i : Int) by omega, decide_eq_true (by omega), cond_true, getI hk, Option.bind_some, take_snoc hk, List.reverse_append, List.reverse_singleton, List.singleton_append, List.find?_cons]
    by_cases hx : k.name = x
    · rw [decide_eq_true hx, cond_true, Option.bind_some]
    · rw [decide_eq_false hx, cond_false, grd_pos (by omega)]
      exact find_l r x hr n i (by omega) (by omega)
theorem find_eq (r : List ScopeKnown) (x : List UInt8) (hr : r.length ≤ 1000000) : m_scope_reach_find r x = some (findP r x) := by
  unfold m_scope_reach_find findP
  rw [grd_pos (by omega), find_l r x hr FU r.length (Nat.le_refl _) (by rw [FUv]; omega), Option.bind_some, List.take_length]
  cases r.reverse.find? (fun k => decide (k.name = x)) <;> rfl
theorem reachW_eq (r : List ScopeKnown) (x : List UInt8) (i b : Int) (hr : r.length ≤ 1000000) : m_scope_reach_with r x i b = some (r ++ [⟨x, ⟨i, b⟩⟩]) := by
  unfold m_scope_reach_with m_slices_Clip_scope_reach_scope_known
  rw [Option.bind_some, grd_pos (by simp only [List.length_cons, List.length_nil]; omega)]
/-- What a walk leaves. -/
def Wr (v : Nat → ScopeBinder) (S : Int → Prop) (z z' : List ScopeBinder) : Prop := z'.length = z.length ∧ ∀ j : Nat, (S (j : Int) → j < z.length → z'[j]? = some (v j)) ∧ (¬ S (j : Int) → z'[j]? = z[j]?)
theorem wr_refl (v : Nat → ScopeBinder) (z : List ScopeBinder) : Wr v (fun _ => False) z z := ⟨rfl, fun j => ⟨fun h => h.elim, fun _ => rfl⟩⟩
theorem wr_trans {v : Nat → ScopeBinder} {S T : Int → Prop} {a b c : List ScopeBinder} (h : Wr v S a b) (k : Wr v T b c) : Wr v (fun x => S x ∨ T x) a c := by
  refine ⟨k.1.trans h.1, fun j => ⟨fun hs hj => ?_, fun hs => ?_⟩⟩
  · by_cases ht : T (j : Int)
    · exact (k.2 j).1 ht (by rw [h.1]; exact hj)
    · rw [(k.2 j).2 ht]
      rcases hs with hs | hs
      · exact (h.2 j).1 hs hj
      · exact absurd hs ht
  · rw [(k.2 j).2 (fun ht => hs (.inr ht)), (h.2 j).2 (fun ht => hs (.inl ht))]
theorem wr_imp {v : Nat → ScopeBinder} {S T : Int → Prop} {a b : List ScopeBinder} (h : Wr v S a b) (hst : ∀ x, S x ↔ T x) : Wr v T a b :=
  ⟨h.1, fun j => ⟨fun ht => (h.2 j).1 ((hst _).2 ht), fun ht => (h.2 j).2 (fun hs => ht ((hst _).1 hs))⟩⟩
theorem wr_set {v : Nat → ScopeBinder} {z : List ScopeBinder} {i : Nat} {y : ScopeBinder} (hy : y = v i) : Wr v (fun x => x = (i : Int)) z (z.set i y) := by
  subst hy
  refine ⟨by simp, fun j => ⟨fun h hj => ?_, fun h => ?_⟩⟩
  · have : j = i := by omega
    subst this
    rw [List.getElem?_set_self hj]
  · rw [List.getElem?_set_ne (fun e => h (by rw [e]))]
/-- A loop over children. -/
theorem wr_loop {v : Nat → ScopeBinder} {β : Type} {l : List β} {at_ : β → Int} {post : Int → Int → Prop} {φ : Nat → Int → List ScopeBinder → Option (List ScopeBinder)} (N : Nat) (hl : l.length < FU)
    (step : ∀ n (i : Nat) x z, l[i]? = some x → i < l.length → z.length = N → ∃ z', φ (n + 1) (i : Int) z = φ n ((i : Int) + 1) z' ∧ Wr v (post (at_ x)) z z') (stop : ∀ n z, φ (n + 1) (l.length : Int) z = some z) (z : List ScopeBinder) (hz : z.length = N) :
    ∃ z', φ FU 0 z = some z' ∧ Wr v (fun y => ∃ x ∈ l, post (at_ x) y) z z' := by
  refine loop_rng (φ := φ) (l := l) (fun i s => Wr v (fun y => ∃ x ∈ l.take i, post (at_ x) y) z s) (fun o => Wr v (fun y => ∃ x ∈ l, post (at_ x) y) z o) ?_ ?_ hl z (by simpa using wr_imp (wr_refl v z) (by simp))
  · intro n i x s hx hi hs
    obtain ⟨z', h1, h2⟩ := step n i x s hx hi (by rw [hs.1]; exact hz)
    refine .inl ⟨z', h1, wr_imp (wr_trans hs h2) (fun y => ?_)⟩
    rw [take_snoc hx]
    simp only [List.mem_append, List.mem_singleton, or_and_right, exists_or, exists_eq_left]
  · intro n s hs
    rw [List.take_length] at hs
    exact ⟨_, stop n s, hs⟩
/-- What is known at a child. -/
def KnownAt (L : List ApiNode) (P : List Int) (r : List ScopeKnown) (i : Int) : Prop := ∀ x, findP r x = toB (UP L P x i)
theorem known_same {L : List ApiNode} (h : Sc L) {P : List Int} (hP : POk L P) {i : Nat} {n : ApiNode} (hn : L[i]? = some n) {k : Int} (hk : k ∈ kidsP n) {r : List ScopeKnown} (hr : KnownAt L P r (i : Int)) (hb : ∀ x, bindsP n k x = -2) : KnownAt L P r k := by
  intro x
  rw [UP_step h hP x hn hk, hb x, if_neg (by decide)]
  exact hr x
theorem known_with {L : List ApiNode} (h : Sc L) {P : List Int} (hP : POk L P) {i : Nat} {n : ApiNode} (hn : L[i]? = some n) {k : Int} (hk : k ∈ kidsP n) {r : List ScopeKnown} (hr : KnownAt L P r (i : Int)) (nm : List UInt8) (b : Int) (h0 : -2 < b) (hb : ∀ x, bindsP n k x = if nm = x then b else -2) : KnownAt L P (r ++ [⟨nm, ⟨(i : Int), b⟩⟩]) k := by
  intro x
  rw [UP_step h hP x hn hk, hb x, findP_snoc]
  by_cases hx : nm = x
  · rw [if_pos hx, if_pos hx, if_pos h0]; rfl
  · rw [if_neg hx, if_neg hx, if_neg (by decide)]
    exact hr x
theorem kids5 {n : ApiNode} (h : n.kind = 5) : kidsP n = [n.a] := by
  unfold kidsP abcN partsB; rw [h]; rfl
theorem kids7 {n : ApiNode} (h : n.kind = 7) : kidsP n = [n.a, n.b] := by
  unfold kidsP abcN partsB; rw [h]; rfl
theorem kids8 {n : ApiNode} (h : n.kind = 8) : kidsP n = [n.a, n.b] := by
  unfold kidsP abcN partsB; rw [h]; rfl
theorem kids14 {n : ApiNode} (h : n.kind = 14) : kidsP n = n.a :: n.l.map (·.at_) := by
  unfold kidsP abcN partsB; rw [h]; rfl
theorem kids4 {n : ApiNode} (h : n.kind = 4) (hp : noParts n) : kidsP n = [] := by
  unfold kidsP abcN partsB; rw [h]; rfl
theorem binds5 {n : ApiNode} (h : n.kind = 5) (k : Int) (x : List UInt8) : bindsP n k x = if n.name = x then -1 else -2 := by
  unfold bindsP
  rw [h]
  by_cases hx : n.name = x
  · rw [if_pos (.inl ⟨rfl, hx⟩), if_pos hx]
  · rw [if_neg (by rintro (⟨_, h⟩ | ⟨_, h, _⟩ | ⟨_, h⟩) <;> exact hx h), if_neg hx, if_neg (by decide)]
theorem binds8 {n : ApiNode} (h : n.kind = 8) (k : Int) (x : List UInt8) : bindsP n k x = if n.name = x then -1 else -2 := by
  unfold bindsP
  rw [h]
  by_cases hx : n.name = x
  · rw [if_pos (.inr (.inr ⟨rfl, hx⟩)), if_pos hx]
  · rw [if_neg (by rintro (⟨_, h⟩ | ⟨_, h, _⟩ | ⟨_, h⟩) <;> exact hx h), if_neg hx, if_neg (by decide)]
theorem binds7 {n : ApiNode} (h : n.kind = 7) (k : Int) (x : List UInt8) : bindsP n k x = if n.name = x ∧ k = n.b then -1 else -2 := by
  unfold bindsP
  rw [h]
  by_cases hx : n.name = x ∧ k = n.b
  · rw [if_pos (.inr (.inl ⟨rfl, hx⟩)), if_pos hx]
  · rw [if_neg (by rintro (⟨h, _⟩ | ⟨_, h⟩ | ⟨h, _⟩) <;> first | exact hx h | exact absurd h (by decide)), if_neg hx, if_neg (by decide)]
theorem binds_no {n : ApiNode} (h5 : n.kind ≠ 5) (h7 : n.kind ≠ 7) (h8 : n.kind ≠ 8) (h14 : n.kind ≠ 14) (k : Int) (x : List UInt8) : bindsP n k x = -2 := by
  unfold bindsP
  rw [if_neg (by rintro (⟨h, _⟩ | ⟨h, _⟩ | ⟨h, _⟩) <;> contradiction), if_neg h14]
theorem binds14a {n : ApiNode} (h : n.kind = 14) (hd : (kidsP n).Nodup) (x : List UInt8) : bindsP n n.a x = -2 := by
  unfold bindsP
  rw [if_neg (by rintro (⟨h2, _⟩ | ⟨h2, _⟩ | ⟨h2, _⟩) <;> rw [h] at h2 <;> exact absurd h2 (by decide)), if_pos h]
  rw [kids14 h, List.nodup_cons] at hd
  have : n.l.findIdx? (bPred n.a x) = none := by
    rw [List.findIdx?_eq_none_iff]
    intro f hf
    unfold bPred
    rw [decide_eq_false (fun e => hd.1 (List.mem_map.2 ⟨f, hf, e⟩)), Bool.false_and]
  rw [this]
theorem binds14l {n : ApiNode} (h : n.kind = 14) (hd : (kidsP n).Nodup) {q : Nat} {f : ApiField} (hf : n.l[q]? = some f) (x : List UInt8) : bindsP n f.at_ x = if f.var = x then (q : Int) else -2 := by
  unfold bindsP
  rw [if_neg (by rintro (⟨h2, _⟩ | ⟨h2, _⟩ | ⟨h2, _⟩) <;> rw [h] at h2 <;> exact absurd h2 (by decide)), if_pos h]
  rw [kids14 h, List.nodup_cons] at hd
  have hinj : ∀ (j : Nat) g, n.l[j]? = some g → g.at_ = f.at_ → j = q := by
    intro j g hg he
    have h1 := List.getElem?_inj (l := n.l.map (·.at_)) (i := j) (j := q) (by rw [List.length_map]; exact getLt hg) hd.2
    exact h1.1 (by rw [List.getElem?_map, List.getElem?_map, hg, hf]; exact congrArg some he)
  obtain ⟨hq, hfq⟩ := List.getElem?_eq_some_iff.1 hf
  by_cases hx : f.var = x
  · have : n.l.findIdx? (bPred f.at_ x) = some q := by
      rw [List.findIdx?_eq_some_iff_getElem]
      refine ⟨hq, by rw [hfq]; unfold bPred; rw [decide_eq_true rfl, decide_eq_true hx]; rfl, fun j hj hp => ?_⟩
      have := hinj j n.l[j] (List.getElem?_eq_getElem _) (by
        unfold bPred at hp
        simp only [Bool.and_eq_true, decide_eq_true_eq] at hp
        exact hp.1)
      omega
    rw [this, if_pos hx]
  · have : n.l.findIdx? (bPred f.at_ x) = none := by
      rw [List.findIdx?_eq_none_iff]
      intro g hg
      obtain ⟨j, hj, he⟩ := List.getElem_of_mem hg
      unfold bPred
      by_cases h1 : g.at_ = f.at_
      · have hjq := hinj j g (by rw [← he]; exact List.getElem?_eq_getElem hj) h1
        subst hjq
        rw [he] at hfq
        subst hfq
        rw [decide_eq_false hx, Bool.and_false]
      · rw [decide_eq_false h1, Bool.false_and]
    rw [this, if_neg hx]
theorem mem_post {L : List ApiNode} (hI : inLs L) {i : Nat} {n : ApiNode} (hn : L[i]? = some n) (y : Int) : y ∈ post L (i : Int) ↔ (∃ k ∈ kidsP n, y ∈ post L k) ∨ y = (i : Int) := by
  rw [post_rec hI hn, List.mem_append, List.mem_flatMap, List.mem_singleton]
theorem walk6 (e : ApiExpr) (h : Sc e.l) {P : List Int} (hP : POk e.l P) : ∀ (f i : Nat) (r : List ScopeKnown) (z : List ScopeBinder), i < f → i < e.l.length → KnownAt e.l P r (i : Int) → r.length + i ≤ 1000 → z.length = e.l.length →
    ∃ z', m_scope_binders_1 e f (i : Int) r z = some z' ∧ Wr (fun j => toB (VP e.l P j)) (fun y => y ∈ post e.l (i : Int)) z z'
  | 0, i, r, z, hf, _, _, _, _ => by omega
  | f + 1, i, r, z, hf, hi, hr, hl, hz => by
    obtain ⟨n, hn⟩ := getI2 hi
    have hI := ok_inLs h.ok
    have hNn := h.nb n (List.mem_of_getElem? hn)
    have hkl := kids_len n hNn
    have hd := kids_nodup h hn
    have hnp := noParts_of (h.ok i n hn).1
    have hmp := mem_post hI hn
    obtain ⟨y0, hy0⟩ := getI2 (l := z) (i := i) (by omega)
    have hrec : ∀ k ∈ kidsP n, ∀ (r' : List ScopeKnown) (z' : List ScopeBinder), KnownAt e.l P r' k → r'.length ≤ r.length + 1 → z'.length = e.l.length → ∃ z'', m_scope_binders_1 e f k r' z' = some z'' ∧ Wr (fun j => toB (VP e.l P j)) (fun y => y ∈ post e.l k) z' z'' := by
      intro k hk r' z' hr' hl' hz'
      have hq := hI i n hn k hk
      obtain ⟨m, rfl⟩ : ∃ m : Nat, k = (m : Int) := ⟨k.toNat, by omega⟩
      exact walk6 e h hP f m r' z' (by omega) (by omega) hr' (by omega) hz'
    show ∃ z', m_scope_binders_1F (m_scope_binders_1 e f) (i : Int) r z e = some z' ∧ _
    unfold m_scope_binders_1F
    rw [getI hn, Option.bind_some, show m_scope_none = some ⟨-1, -1⟩ from rfl, Option.bind_some, getI hy0, Option.bind_some, Int.toNat_natCast]
    have hzl : (z.set i (⟨-1, -1⟩ : ScopeBinder)).length = e.l.length := by rw [List.length_set]; exact hz
    by_cases k4 : n.kind = 4
    · rw [decide_eq_true k4, cond_true, find_eq r n.name (by omega), Option.bind_some, getI (List.getElem?_set_self (by omega)), Option.bind_some, List.set_set]
      refine ⟨_, rfl, wr_imp (wr_set (y := findP r n.name) ?_) (fun y => ?_)⟩
      · rw [hr n.name]
        unfold VP
        rw [hn]
        simp only
        rw [if_pos k4]
      · rw [hmp, kids4 k4 hnp]; simp
    have hv : (⟨-1, -1⟩ : ScopeBinder) = toB (VP e.l P i) := by
      unfold VP
      rw [hn]
      simp only
      rw [if_neg k4]; rfl
    have hw0 : Wr (fun j => toB (VP e.l P j)) (fun x => x = (i : Int)) z (z.set i ⟨-1, -1⟩) := wr_set hv
    rw [decide_eq_false k4, cond_false]
    by_cases k5 : n.kind = 5
    · have hk := kids5 k5
      obtain ⟨z1, a1, a2⟩ := hrec n.a (by rw [hk]; simp) _ _ (known_with h hP hn (by rw [hk]; simp) hr n.name (-1) (by decide) (binds5 k5 n.a)) (by simp) hzl
      rw [decide_eq_true k5, cond_true, reachW_eq r _ _ _ (by omega), Option.bind_some, a1, Option.bind_some]
      refine ⟨z1, rfl, wr_imp (wr_trans hw0 a2) (fun y => ?_)⟩
      rw [hmp, hk]; simp [or_comm]
    rw [decide_eq_false k5, cond_false]
    by_cases k7 : n.kind = 7
    · have hk := kids7 k7
      have hne : n.a ≠ n.b := by
        rw [hk] at hd
        intro e; rw [e] at hd; simp at hd
      obtain ⟨z1, a1, a2⟩ := hrec n.a (by rw [hk]; simp) r _ (known_same h hP hn (by rw [hk]; simp) hr (fun x => by rw [binds7 k7, if_neg (fun q => hne q.2)])) (by omega) hzl
      obtain ⟨z2, b1, b2⟩ := hrec n.b (by rw [hk]; simp) _ z1 (known_with h hP hn (by rw [hk]; simp) hr n.name (-1) (by decide) (fun x => by
        rw [binds7 k7]
        by_cases hx : n.name = x
        · rw [if_pos ⟨hx, rfl⟩, if_pos hx]
        · rw [if_neg (fun q => hx q.1), if_neg hx])) (by simp) (by rw [a2.1]; exact hzl)
      rw [decide_eq_true k7, cond_true, a1, Option.bind_some, reachW_eq r _ _ _ (by omega), Option.bind_some, b1, Option.bind_some]
      refine ⟨z2, rfl, wr_imp (wr_trans (wr_trans hw0 a2) b2) (fun y => ?_)⟩
      rw [hmp, hk]
      simp only [List.mem_cons, List.not_mem_nil, or_false, exists_eq_or_imp, exists_eq_left]
      constructor
      · rintro ((h | h) | h)
        · exact .inr h
        · exact .inl (.inl h)
        · exact .inl (.inr h)
      · rintro ((h | h) | h)
        · exact .inl (.inr h)
        · exact .inr h
        · exact .inl (.inl h)
    rw [decide_eq_false k7, cond_false]
    by_cases k8 : n.kind = 8
    · have hk := kids8 k8
      obtain ⟨z1, a1, a2⟩ := hrec n.a (by rw [hk]; simp) _ _ (known_with h hP hn (by rw [hk]; simp) hr n.name (-1) (by decide) (binds8 k8 n.a)) (by simp) hzl
      obtain ⟨z2, b1, b2⟩ := hrec n.b (by rw [hk]; simp) _ z1 (known_with h hP hn (by rw [hk]; simp) hr n.name (-1) (by decide) (binds8 k8 n.b)) (by simp) (by rw [a2.1]; exact hzl)
      rw [decide_eq_true k8, cond_true, reachW_eq r _ _ _ (by omega), Option.bind_some, a1, Option.bind_some, b1, Option.bind_some]
      refine ⟨z2, rfl, wr_imp (wr_trans (wr_trans hw0 a2) b2) (fun y => ?_)⟩
      rw [hmp, hk]
      simp only [List.mem_cons, List.not_mem_nil, or_false, exists_eq_or_imp, exists_eq_left]
      constructor
      · rintro ((h | h) | h)
        · exact .inr h
        · exact .inl (.inl h)
        · exact .inl (.inr h)
      · rintro ((h | h) | h)
        · exact .inl (.inr h)
        · exact .inr h
        · exact .inl (.inl h)
    rw [decide_eq_false k8, cond_false]
    by_cases k14 : n.kind = 14
    · have hk := kids14 k14
      obtain ⟨z1, a1, a2⟩ := hrec n.a (by rw [hk]; simp) r _ (known_same h hP hn (by rw [hk]; simp) hr (binds14a k14 hd)) (by omega) hzl
      rw [decide_eq_true k14, cond_true, a1, Option.bind_some]
      have hll : n.l.length ≤ 60 := hNn
      obtain ⟨z2, b1, b2⟩ := wr_loop (v := fun j => toB (VP e.l P j)) (l := n.l) (at_ := fun f => f.at_) (post := fun k y => y ∈ post e.l k) (φ := fun m q z => m_scope_binders_1_l1 (m_scope_binders_1 e f) (i : Int) r n m (q, z)) e.l.length (by rw [FUv]; omega) (by
        intro m q fl z' hq hq2 hz'
        obtain ⟨z'', c1, c2⟩ := hrec fl.at_ (by rw [hk]; exact List.mem_cons_of_mem _ (List.mem_map.2 ⟨fl, List.mem_of_getElem? hq, rfl⟩)) _ z' (known_with h hP hn (by rw [hk]; exact List.mem_cons_of_mem _ (List.mem_map.2 ⟨fl, List.mem_of_getElem? hq, rfl⟩)) hr fl.var (q : Int) (by omega) (binds14l k14 hd hq)) (by simp) hz'
        refine ⟨z'', ?_, c2⟩
        simp only [m_scope_binders_1_l1]
        rw [decide_eq_true (show (q : Int) < n.l.length by omega), cond_true, getI hq, Option.bind_some, reachW_eq r _ _ _ (by omega), Option.bind_some, c1, Option.bind_some, grd_pos (by omega)]) (by
        intro m z'
        simp only [m_scope_binders_1_l1]
        rw [decide_eq_false (by omega), cond_false]) z1 (by rw [a2.1]; exact hzl)
      refine ⟨z2, b1, wr_imp (wr_trans (wr_trans hw0 a2) b2) (fun y => ?_)⟩
      rw [hmp, hk]
      simp only [List.mem_cons, List.mem_map, exists_eq_or_imp]
      constructor
      · rintro ((h | h) | ⟨x, h1, h2⟩)
        · exact .inr h
        · exact .inl (.inl h)
        · exact .inl (.inr ⟨x.at_, ⟨x, h1, rfl⟩, h2⟩)
      · rintro ((h | ⟨_, ⟨x, h1, rfl⟩, h2⟩) | h)
        · exact .inl (.inr h)
        · exact .inr ⟨x, h1, h2⟩
        · exact .inl (.inl h)
    · rw [decide_eq_false k14, cond_false, show m_tree_Kids (⟨n.kind, n.a, n.b, n.c, n.n_, n.name, n.s, n.l, n.pos⟩ : ApiNode) = some (kidsP n) from kids_eq n hNn, Option.bind_some]
      obtain ⟨z2, b1, b2⟩ := wr_loop (v := fun j => toB (VP e.l P j)) (l := kidsP n) (at_ := fun k => k) (post := fun k y => y ∈ post e.l k) (φ := fun m q z => m_scope_binders_1_l2 (m_scope_binders_1 e f) r (kidsP n) m (q, z)) e.l.length (by rw [FUv]; omega) (by
        intro m q k z' hq hq2 hz'
        obtain ⟨z'', c1, c2⟩ := hrec k (List.mem_of_getElem? hq) r z' (known_same h hP hn (List.mem_of_getElem? hq) hr (binds_no k5 k7 k8 k14 k)) (by omega) hz'
        refine ⟨z'', ?_, c2⟩
        simp only [m_scope_binders_1_l2]
        rw [decide_eq_true (show (q : Int) < (kidsP n).length by omega), cond_true, getI hq, Option.bind_some, c1, Option.bind_some, grd_pos (by omega)]) (by
        intro m z'
        simp only [m_scope_binders_1_l2]
        rw [decide_eq_false (by omega), cond_false]) _ hzl
      refine ⟨z2, b1, wr_imp (wr_trans hw0 b2) (fun y => ?_)⟩
      rw [hmp]
      exact or_comm
theorem post_all {L : List ApiNode} (h : Sc L) : ∀ (d j : Nat), j < L.length → L.length - j ≤ d → (j : Int) ∈ post L (((L.length - 1 : Nat)) : Int)
  | 0, j, hj, hd => by omega
  | d + 1, j, hj, hd => by
    have hI := ok_inLs h.ok
    by_cases hr : j = L.length - 1
    · obtain ⟨n, hn⟩ := getI2 hj
      subst hr
      rw [mem_post hI hn]; exact .inr rfl
    · obtain ⟨i, n, h1, h2⟩ := h.all j (by omega)
      have hi := getLt h1
      have hji := hI i n h1 _ h2
      have ih := post_all h d i hi (by omega)
      have key : ∀ (f r : Nat), r < f → r < L.length → (i : Int) ∈ post L (r : Int) → (j : Int) ∈ post L (r : Int) := by
        intro f
        induction f with
        | zero => intro r h; omega
        | succ f ih2 =>
          intro r hrf hrl hm
          obtain ⟨m, hm0⟩ := getI2 hrl
          rw [mem_post hI hm0] at hm ⊢
          rcases hm with ⟨k, hk, hm⟩ | hm
          · have hq := hI r m hm0 k hk
            obtain ⟨k2, rfl⟩ : ∃ k2 : Nat, k = (k2 : Int) := ⟨k.toNat, by omega⟩
            exact .inl ⟨_, hk, ih2 k2 (by omega) (by omega) hm⟩
          · have : i = r := by omega
            subst this
            rw [h1] at hm0
            obtain rfl := Option.some.inj hm0
            refine .inl ⟨_, h2, ?_⟩
            obtain ⟨mj, hmj⟩ := getI2 hj
            rw [mem_post hI hmj]; exact .inr rfl
      exact key L.length (L.length - 1) (by omega) (by omega) ih
theorem binders_eq (e : ApiExpr) (h : Sc e.l) {P : List Int} (hP : POk e.l P) : m_scope_binders e = some ((List.range e.l.length).map fun j => toB (VP e.l P j)) := by
  have hl := h.len
  have h0 := h.pos
  unfold m_scope_binders
  rw [grd_pos (by omega), grd_pos (by omega), grd_pos (by omega), Int.toNat_natCast, show ((e.l.length : Int) - 1) = ((e.l.length - 1 : Nat) : Int) by omega]
  obtain ⟨z, h1, h2, h3⟩ := walk6 e h hP FU (e.l.length - 1) [] (List.replicate e.l.length ⟨0, 0⟩) (by rw [FUv]; omega) (by omega) (fun x => by rw [UP_root h hP x]; rfl) (by simp; omega) (by simp)
  rw [h1, Option.bind_some]
  congr 1
  apply List.ext_getElem?
  intro j
  by_cases hj : j < e.l.length
  · rw [(h3 j).1 (post_all h (e.l.length - j) j hj (Nat.le_refl _)) (by simpa using hj)]
    simp [hj]
  · rw [List.getElem?_eq_none (by rw [h2]; simp; omega), List.getElem?_eq_none (by simp; omega)]
end Go.Proofs.Ytnnjgbcojdnhhaa
set_option linter.unusedVariables false
set_option linter.unusedSimpArgs false
set_option maxRecDepth 100000
namespace Go.Proofs.Ytnnjgbcojdnhhaa
open Go.V
open Classical
theorem bI (L : List ApiNode) (P : List Int) {i : Nat} (h : i < L.length) : ((List.range L.length).map fun j => toB (VP L P j))[i]? = some (toB (VP L P i)) := by simp [h]
theorem rI (L : List ApiNode) (P : List Int) {i : Nat} (h : i < L.length) : ((List.range L.length).map fun j => (⟨(VP L P j).1, (VP L P j).2⟩ : Syntagmaref06Binder))[i]? = some ⟨(VP L P i).1, (VP L P i).2⟩ := by simp [h]
theorem few2 (e : ApiExpr) : m_syntagmalaw05_Few (⟨(fewE e).l⟩ : ApiExpr) = some (fewE e) := by
  rw [show (⟨(fewE e).l⟩ : ApiExpr) = fewE e from rfl, few_eq, fewE_fewE]
def freeB (L : List ApiNode) (P : List Int) (j : Nat) : Bool := (match L[j]? with | some n => decide (n.kind = 4) | none => false) && decide ((VP L P j).1 < 0)
def nmAt (L : List ApiNode) (j : Nat) : List UInt8 := match L[j]? with | some n => n.name | none => []
def frees (L : List ApiNode) (P : List Int) (n : Nat) : List Nat := (List.range n).filter (freeB L P)
theorem frees_s (L : List ApiNode) (P : List Int) (n : Nat) : frees L P (n + 1) = if freeB L P n = true then frees L P n ++ [n] else frees L P n := by
  unfold frees
  rw [List.range_succ, List.filter_append]
  cases h : freeB L P n <;> simp [h]
theorem free_l (e : ApiExpr) (P : List Int) (hl : e.l.length ≤ 700) : ∀ (d n i : Nat), e.l.length - i ≤ d → d < n → i ≤ e.l.length → m_free_l1 e ((List.range e.l.length).map fun j => toB (VP e.l P j)) n (i : Int) = some (((List.range' i (e.l.length - i)).filter (freeB e.l P)).map fun (j : Nat) => (j : Int))
  | d, 0, i, _, h, _ => by omega
  | d, n + 1, i, hd, hn, hi => by
    simp only [m_free_l1]
    by_cases hil : i < e.l.length
    · obtain ⟨nd, hnd⟩ := getI2 hil
      have ih := free_l e P hl (d - 1) n (i + 1) (by omega) (by omega) (by omega)
      rw [decide_eq_true (show (i : Int) < (((List.range e.l.length).map fun j => toB (VP e.l P j)).length : Int) by simp; omega), cond_true, getI (bI e.l P hil), Option.bind_some, getI hnd, Option.bind_some, grd_pos (by omega), show ((i : Int) + 1) = ((i + 1 : Nat) : Int) by omega, ih, show e.l.length - i = (e.l.length - (i + 1)) + 1 by omega, List.range'_succ]
      have hb : (decide (nd.kind = 4) && decide ((toB (VP e.l P i)).node < 0)) = freeB e.l P i := by unfold freeB; rw [hnd]; rfl
      rw [hb, List.filter_cons]
      cases h : freeB e.l P i
      · rw [cond_false, if_neg (by decide)]
      · rw [cond_true, if_pos rfl]; rfl
    · have : i = e.l.length := by omega
      subst this
      rw [decide_eq_false (by simp), cond_false]
      simp
theorem mfree_eq (e : ApiExpr) (h : Sc e.l) {P : List Int} (hP : POk e.l P) : m_free e = some ((frees e.l P e.l.length).map fun (j : Nat) => (j : Int)) := by
  have hl := h.len
  unfold m_free
  rw [binders_eq e h hP, Option.bind_some]
  have := free_l e P hl e.l.length FU 0 (by omega) (by rw [FUv]; omega) (by omega)
  rw [Nat.sub_zero, ← List.range_eq_range'] at this
  exact this
theorem sclosed_eq (x : ApiExpr) (hl : x.l.length ≤ 700) (hN : ∀ n ∈ x.l, NB n) (h : mayT x.l = 0) {P : List Int} (hP : POk x.l P) : m_scope_Closed x = some (match frees x.l P x.l.length with | [] => (0, 0) | j :: _ => ((j : Int), 10)) := by
  have hS := sc_of hl hN h
  unfold m_scope_Closed
  rw [may_eq x (by omega) hN, Option.bind_some, decide_eq_true h, Bool.not_true, cond_false, mfree_eq x hS hP, Option.bind_some]
  cases frees x.l P x.l.length <;> rfl
theorem range_split {n i : Nat} (h : i < n) : List.range n = List.range i ++ i :: List.range' (i + 1) (n - i - 1) := by
  rw [List.range_eq_range', List.range_eq_range', ← List.range'_succ, show n = i + (n - i - 1 + 1) by omega]
  have := List.range'_append (s := 0) (m := i) (n := n - i - 1 + 1) (step := 1)
  rw [Nat.one_mul, Nat.zero_add] at this
  rw [show i + (n - i - 1 + 1) - i - 1 + 1 = n - i - 1 + 1 by omega]
  exact this.symm
theorem rclosed_eq (e : ApiExpr) (h : Sc e.l) {P : List Int} (hB : m_syntagmaref06_Binders e = some ((List.range e.l.length).map fun j => (⟨(VP e.l P j).1, (VP e.l P j).2⟩ : Syntagmaref06Binder))) : m_syntagmaref06_Closed e = some (match frees e.l P e.l.length with | [] => -1 | j :: _ => (j : Int)) := by
  have hl := h.len
  unfold m_syntagmaref06_Closed
  rw [hB, Option.bind_some]
  obtain ⟨o, h1, h2⟩ := loop_rng (φ := fun n i (_ : Unit) => m_syntagmaref06_Closed_l1 e ((List.range e.l.length).map fun j => (⟨(VP e.l P j).1, (VP e.l P j).2⟩ : Syntagmaref06Binder)) n i) (l := e.l) (fun i _ => frees e.l P i = []) (fun o => o = (match frees e.l P e.l.length with | [] => .go () | j :: _ => .ret (j : Int))) (by
    rintro m i n s hn hi hf
    simp only [m_syntagmaref06_Closed_l1]
    have hp : (bif (decide (n.kind = 4)) then ((idx ((List.range e.l.length).map fun j => (⟨(VP e.l P j).1, (VP e.l P j).2⟩ : Syntagmaref06Binder)) (i : Int)).bind fun x3 => some (decide (x3.node < 0))) else (some false)) = some (freeB e.l P i) := by
      unfold freeB
      rw [hn, getI (rI e.l P hi), Option.bind_some]
      simp only
      by_cases h4 : n.kind = 4
      · rw [decide_eq_true h4, cond_true, Bool.true_and]
      · rw [decide_eq_false h4, cond_false, Bool.false_and]
    rw [decide_eq_true (show (i : Int) < (e.l.length : Int) by omega), cond_true, getI hn, Option.bind_some, hp, Option.bind_some]
    cases hb : freeB e.l P i with
    | false =>
      rw [cond_false, grd_pos (by omega)]
      refine .inl ⟨(), rfl, ?_⟩
      rw [frees_s, hb, if_neg (by decide)]; exact hf
    | true =>
      rw [cond_true]
      refine .inr ⟨_, rfl, ?_⟩
      have : frees e.l P e.l.length = i :: (List.range' (i + 1) (e.l.length - i - 1)).filter (freeB e.l P) := by
        unfold frees at hf ⊢
        rw [range_split hi, List.filter_append, hf, List.nil_append, List.filter_cons, if_pos hb]
      rw [this]) (by
    rintro m s hf
    simp only [m_syntagmaref06_Closed_l1]
    rw [decide_eq_false (by omega), cond_false, hf]
    exact ⟨_, rfl, rfl⟩) (by rw [FUv]; omega) () rfl
  rw [h1, h2, Option.bind_some]
  cases frees e.l P e.l.length <;> rfl
end Go.Proofs.Ytnnjgbcojdnhhaa
set_option linter.unusedVariables false
set_option linter.unusedSimpArgs false
set_option maxRecDepth 100000
namespace Go.Proofs.Ytnnjgbcojdnhhaa
open Go.V
open Classical
def hidesP (n : ApiNode) (q : Nat) (x : List UInt8) : Prop := ((n.kind = 5 ∨ n.kind = 8) ∧ n.name = x) ∨ (n.kind = 7 ∧ n.name = x ∧ q = 1) ∨ (n.kind = 14 ∧ ∃ f, 0 < q ∧ n.l[q - 1]? = some f ∧ f.var = x)
inductive Occ (L : List ApiNode) (x : List UInt8) : Int → Prop
  | var {i : Int} {n : ApiNode} : L[i.toNat]? = some n → n.kind = 4 → n.name = x → Occ L x i
  | kid {i : Int} {n : ApiNode} {q : Nat} {k : Int} : L[i.toNat]? = some n → (kidsP n)[q]? = some k → ¬ hidesP n q x → Occ L x k → Occ L x i
theorem hides_binds {n : ApiNode} (hd : (kidsP n).Nodup) {q : Nat} {k : Int} (hk : (kidsP n)[q]? = some k) (x : List UInt8) : -2 < bindsP n k x ↔ hidesP n q x := by
  unfold hidesP
  by_cases k5 : n.kind = 5
  · rw [binds5 k5]
    constructor
    · intro h; refine .inl ⟨.inl k5, ?_⟩
      exact Classical.byContradiction fun hx => by rw [if_neg hx] at h; omega
    · rintro (⟨_, h⟩ | ⟨h, _⟩ | ⟨h, _⟩)
      · rw [if_pos h]; decide
      · omega
      · omega
  by_cases k8 : n.kind = 8
  · rw [binds8 k8]
    constructor
    · intro h; refine .inl ⟨.inr k8, ?_⟩
      exact Classical.byContradiction fun hx => by rw [if_neg hx] at h; omega
    · rintro (⟨_, h⟩ | ⟨h, _⟩ | ⟨h, _⟩)
      · rw [if_pos h]; decide
      · omega
      · omega
  by_cases k7 : n.kind = 7
  · rw [binds7 k7]
    have hkk := kids7 k7
    rw [hkk] at hk hd
    have hne : n.a ≠ n.b := by intro e; rw [e] at hd; simp at hd
    match q, hk with
    | 0, hk =>
      simp only [List.getElem?_cons_zero, Option.some.injEq] at hk
      subst hk
      rw [if_neg (fun h => hne h.2)]
      constructor
      · intro h; omega
      · rintro (⟨h, _⟩ | ⟨_, _, h⟩ | ⟨h, _⟩) <;> omega
    | 1, hk =>
      simp only [List.getElem?_cons_succ, List.getElem?_cons_zero, Option.some.injEq] at hk
      subst hk
      constructor
      · intro h
        refine .inr (.inl ⟨k7, ?_, rfl⟩)
        exact Classical.byContradiction fun hx => by rw [if_neg (fun h => hx h.1)] at h; omega
      · rintro (⟨h, _⟩ | ⟨_, h, _⟩ | ⟨h, _⟩)
        · omega
        · rw [if_pos ⟨h, rfl⟩]; decide
        · omega
    | q + 2, hk => simp at hk
  by_cases k14 : n.kind = 14
  · have hkk := kids14 k14
    match q, hk with
    | 0, hk =>
      rw [hkk] at hk
      simp only [List.getElem?_cons_zero, Option.some.injEq] at hk
      subst hk
      rw [binds14a k14 hd]
      constructor
      · intro h; omega
      · rintro (⟨h, _⟩ | ⟨h, _⟩ | ⟨_, f, h, _⟩) <;> omega
    | q + 1, hk =>
      rw [hkk] at hk
      rw [List.getElem?_cons_succ, List.getElem?_map, Option.map_eq_some_iff] at hk
      obtain ⟨f, h1, rfl⟩ := hk
      rw [binds14l k14 hd h1]
      constructor
      · intro h
        refine .inr (.inr ⟨k14, f, by omega, h1, ?_⟩)
        exact Classical.byContradiction fun hx => by rw [if_neg hx] at h; omega
      · rintro (⟨h, _⟩ | ⟨h, _⟩ | ⟨_, g, _, h2, h3⟩)
        · omega
        · omega
        · rw [show q + 1 - 1 = q by omega, h1] at h2
          rw [Option.some.inj h2, if_pos h3]; omega
  rw [binds_no k5 k7 k8 k14]
  constructor
  · intro h; omega
  · rintro (⟨h | h, _⟩ | ⟨h, _⟩ | ⟨h, _⟩) <;> contradiction
theorem occ_inv {L : List ApiNode} {x : List UInt8} {i : Int} {n : ApiNode} (hn : L[i.toNat]? = some n) : Occ L x i ↔ (n.kind = 4 ∧ n.name = x) ∨ ∃ (q : Nat) (k : Int), (kidsP n)[q]? = some k ∧ ¬ hidesP n q x ∧ Occ L x k := by
  constructor
  · rintro (⟨h1, h2, h3⟩ | ⟨h1, h2, h3, h4⟩)
    · rw [hn] at h1; obtain rfl := Option.some.inj h1; exact .inl ⟨h2, h3⟩
    · rw [hn] at h1; obtain rfl := Option.some.inj h1; exact .inr ⟨_, _, h2, h3, h4⟩
  · rintro (⟨h2, h3⟩ | ⟨q, k, h2, h3, h4⟩)
    · exact .var hn h2 h3
    · exact .kid hn h2 h3 h4
/-- A var below that nothing binds. -/
def FreeIn (L : List ApiNode) (P : List Int) (x : List UInt8) (i : Int) : Prop := ∃ (j : Nat) (n : ApiNode), (j : Int) ∈ post L i ∧ L[j]? = some n ∧ n.kind = 4 ∧ n.name = x ∧ (UP L P x (j : Int)).1 < 0
theorem free_iff {L : List ApiNode} (h : Sc L) {P : List Int} (hP : POk L P) (x : List UInt8) : ∀ (f i : Nat), i < f → i < L.length →
    ((UP L P x (i : Int)).1 < 0 → (Occ L x (i : Int) ↔ FreeIn L P x (i : Int))) ∧ (0 ≤ (UP L P x (i : Int)).1 → ¬ FreeIn L P x (i : Int))
  | 0, i, hf, _ => by omega
  | f + 1, i, hf, hi => by
    obtain ⟨n, hn⟩ := getI2 hi
    have hI := ok_inLs h.ok
    have hd := kids_nodup h hn
    have hmp := mem_post hI hn
    have hnp := noParts_of (h.ok i n hn).1
    have ih : ∀ (q : Nat) (k : Int), (kidsP n)[q]? = some k → ∃ m : Nat, k = (m : Int) ∧ ((UP L P x k).1 < 0 → (Occ L x k ↔ FreeIn L P x k)) ∧ (0 ≤ (UP L P x k).1 → ¬ FreeIn L P x k) ∧ (hidesP n q x → 0 ≤ (UP L P x k).1) ∧ (¬ hidesP n q x → UP L P x k = UP L P x (i : Int)) := by
      intro q k hk
      have hkm := List.mem_of_getElem? hk
      have hq := hI i n hn k hkm
      obtain ⟨m, rfl⟩ : ∃ m : Nat, k = (m : Int) := ⟨k.toNat, by omega⟩
      obtain ⟨a, b⟩ := free_iff h hP x f m (by omega) (by omega)
      have hs := UP_step h hP x hn hkm
      refine ⟨m, rfl, a, b, fun hh => ?_, fun hh => ?_⟩
      · rw [hs, if_pos ((hides_binds hd hk x).2 hh)]; exact Int.natCast_nonneg _
      · rw [hs, if_neg (fun hb => hh ((hides_binds hd hk x).1 hb))]
    constructor
    · intro hu
      rw [occ_inv (i := (i : Int)) (by rw [Int.toNat_natCast]; exact hn)]
      constructor
      · rintro (⟨h1, h2⟩ | ⟨q, k, h1, h2, h3⟩)
        · exact ⟨i, n, by rw [hmp]; exact .inr rfl, hn, h1, h2, hu⟩
        · obtain ⟨m, rfl, a, _, _, c⟩ := ih q k h1
          obtain ⟨j, nj, b1, b2⟩ := (a (by rw [c h2]; exact hu)).1 h3
          exact ⟨j, nj, by rw [hmp]; exact .inl ⟨_, List.mem_of_getElem? h1, b1⟩, b2⟩
      · rintro ⟨j, nj, b1, b2, b3, b4, b5⟩
        rw [hmp] at b1
        rcases b1 with ⟨k, hk, hj⟩ | hj
        · obtain ⟨q, hq, hqk⟩ := List.getElem_of_mem hk
          have hqk2 : (kidsP n)[q]? = some k := by rw [← hqk]; exact List.getElem?_eq_getElem hq
          obtain ⟨m, rfl, a, b, c, d⟩ := ih q k hqk2
          by_cases hh : hidesP n q x
          · exact absurd ⟨j, nj, hj, b2, b3, b4, b5⟩ (b (c hh))
          · exact .inr ⟨q, _, hqk2, hh, (a (by rw [d hh]; exact hu)).2 ⟨j, nj, hj, b2, b3, b4, b5⟩⟩
        · have : j = i := by omega
          subst this
          rw [hn] at b2
          obtain rfl := Option.some.inj b2
          exact .inl ⟨b3, b4⟩
    · rintro hu ⟨j, nj, b1, b2, b3, b4, b5⟩
      rw [hmp] at b1
      rcases b1 with ⟨k, hk, hj⟩ | hj
      · obtain ⟨q, hq, hqk⟩ := List.getElem_of_mem hk
        have hqk2 : (kidsP n)[q]? = some k := by rw [← hqk]; exact List.getElem?_eq_getElem hq
        obtain ⟨m, rfl, a, b, c, d⟩ := ih q k hqk2
        refine b ?_ ⟨j, nj, hj, b2, b3, b4, b5⟩
        by_cases hh : hidesP n q x
        · exact c hh
        · rw [d hh]; exact hu
      · have : j = i := by omega
        subst this
        omega
theorem freeB_iff (L : List ApiNode) (P : List Int) (j : Nat) : freeB L P j = true ↔ ∃ n, L[j]? = some n ∧ n.kind = 4 ∧ (UP L P n.name (j : Int)).1 < 0 := by
  unfold freeB VP
  cases hn : L[j]? with
  | none => simp
  | some n =>
    simp only [Bool.and_eq_true, decide_eq_true_eq, Option.some.injEq, exists_eq_left']
    constructor
    · rintro ⟨h1, h2⟩; rw [if_pos h1] at h2; exact ⟨h1, h2⟩
    · rintro ⟨h1, h2⟩; rw [if_pos h1]; exact ⟨h1, h2⟩
/-- What is free, by its name. -/
theorem occ_root {L : List ApiNode} (h : Sc L) {P : List Int} (hP : POk L P) (x : List UInt8) : Occ L x (((L.length - 1 : Nat)) : Int) ↔ ∃ j ∈ frees L P L.length, nmAt L j = x := by
  have h0 := h.pos
  have hr := UP_root h hP x
  rw [(free_iff h hP x L.length (L.length - 1) (by omega) (by omega)).1 (by rw [hr]; decide)]
  constructor
  · rintro ⟨j, n, h1, h2, h3, h4, h5⟩
    refine ⟨j, List.mem_filter.2 ⟨List.mem_range.2 (getLt h2), (freeB_iff L P j).2 ⟨n, h2, h3, by rw [h4]; exact h5⟩⟩, by unfold nmAt; rw [h2]; exact h4⟩
  · rintro ⟨j, h1, h2⟩
    obtain ⟨h3, h4⟩ := List.mem_filter.1 h1
    obtain ⟨n, h5, h6, h7⟩ := (freeB_iff L P j).1 h4
    have hj := List.mem_range.1 h3
    unfold nmAt at h2
    rw [h5] at h2
    simp only at h2
    refine ⟨j, n, post_all h _ j hj (Nat.le_refl _), h5, h6, h2, by rw [← h2]; exact h7⟩
theorem hides_with (n : ApiNode) (ks : List Int) (hp : noParts n) (hk : ks.length = (kidsP n).length) (q : Nat) (x : List UInt8) : hidesP (withP n ks) q x ↔ hidesP n q x := by
  unfold hidesP
  have e1 : (withP n ks).kind = n.kind := rfl
  have e2 : (withP n ks).name = n.name := rfl
  rw [e1, e2]
  by_cases k14 : n.kind = 14
  · have hpb : partsB n.kind = true := by rw [k14]; rfl
    have hl : (withP n ks).l = List.zipWith relF n.l (ks.drop (abcN n.kind)) := by unfold withP; simp only; rw [if_pos hpb]
    have hkl := kidsP_len n hp
    have : ∀ (m : Nat), (∃ f, (withP n ks).l[m]? = some f ∧ f.var = x) ↔ ∃ f, n.l[m]? = some f ∧ f.var = x := by
      intro m
      rw [hl, List.getElem?_zipWith]
      constructor
      · rintro ⟨f, h1, h2⟩
        cases hm : n.l[m]? with
        | none => rw [hm] at h1; simp at h1
        | some g =>
          cases hd : (ks.drop (abcN n.kind))[m]? with
          | none => rw [hm, hd] at h1; simp at h1
          | some y =>
            rw [hm, hd] at h1
            simp only [Option.some.injEq] at h1
            subst h1
            exact ⟨g, rfl, h2⟩
      · rintro ⟨g, h1, h2⟩
        have hm := getLt h1
        obtain ⟨y, hy⟩ := getI2 (l := ks.drop (abcN n.kind)) (i := m) (by simp; omega)
        exact ⟨relF g y, by rw [h1, hy], h2⟩
    constructor
    · rintro (h | h | ⟨h1, f, h2, h3⟩)
      · exact .inl h
      · exact .inr (.inl h)
      · obtain ⟨g, g1⟩ := (this (q - 1)).1 ⟨f, h3⟩
        exact .inr (.inr ⟨h1, g, h2, g1⟩)
    · rintro (h | h | ⟨h1, f, h2, h3⟩)
      · exact .inl h
      · exact .inr (.inl h)
      · obtain ⟨g, g1⟩ := (this (q - 1)).2 ⟨f, h3⟩
        exact .inr (.inr ⟨h1, g, h2, g1⟩)
  · constructor
    · rintro (h | h | ⟨h1, _⟩)
      · exact .inl h
      · exact .inr (.inl h)
      · exact absurd h1 k14
    · rintro (h | h | ⟨h1, _⟩)
      · exact .inl h
      · exact .inr (.inl h)
      · exact absurd h1 k14
/-- Trees that are built alike. -/
def Sim (L O : List ApiNode) (S : Int → Int → Prop) : Prop := ∀ i j, S i j → ∃ (n : ApiNode) (ks : List Int), L[i.toNat]? = some n ∧ noParts n ∧ O[j.toNat]? = some (withP n ks) ∧ ks.length = (kidsP n).length ∧ ∀ (q : Nat) k m, (kidsP n)[q]? = some k → ks[q]? = some m → S k m
theorem occ_sim {L O : List ApiNode} {S : Int → Int → Prop} (hS : Sim L O S) (x : List UInt8) : (∀ i, Occ L x i → ∀ j, S i j → Occ O x j) ∧ (∀ j, Occ O x j → ∀ i, S i j → Occ L x i) := by
  constructor
  · intro i h
    induction h with
    | var h1 h2 h3 =>
      intro j hs
      obtain ⟨n, ks, a1, a2, a3, a4, a5⟩ := hS _ _ hs
      rw [a1] at h1
      obtain rfl := Option.some.inj h1
      exact .var a3 h2 h3
    | kid h1 h2 h3 h4 ih =>
      intro j hs
      obtain ⟨n, ks, a1, a2, a3, a4, a5⟩ := hS _ _ hs
      rw [a1] at h1
      obtain rfl := Option.some.inj h1
      obtain ⟨m, hm⟩ := getI2 (l := ks) (by rw [a4]; exact getLt h2)
      refine .kid a3 (by rw [withP_kids n ks a2 a4]; exact hm) (fun hh => h3 ((hides_with n ks a2 a4 _ x).1 hh)) (ih m (a5 _ _ _ h2 hm))
  · intro j h
    induction h with
    | var h1 h2 h3 =>
      intro i hs
      obtain ⟨n, ks, a1, a2, a3, a4, a5⟩ := hS _ _ hs
      rw [a3] at h1
      obtain rfl := Option.some.inj h1
      exact .var a1 h2 h3
    | kid h1 h2 h3 h4 ih =>
      intro i hs
      obtain ⟨n, ks, a1, a2, a3, a4, a5⟩ := hS _ _ hs
      rw [a3] at h1
      obtain rfl := Option.some.inj h1
      rw [withP_kids n ks a2 a4] at h2
      obtain ⟨k, hk⟩ := getI2 (l := kidsP n) (by rw [← a4]; exact getLt h2)
      exact .kid a1 hk (fun hh => h3 ((hides_with n ks a2 a4 _ x).2 hh)) (ih k (a5 _ _ _ hk h2))
theorem sim_copy {L O : List ApiNode} (hok : allOk L) : Sim L O (fun i j => ∃ (a : Nat) (o : List ApiNode), i = (a : Int) ∧ a < L.length ∧ copyP L (a : Int) o <+: O ∧ j = lastI (copyP L (a : Int) o)) := by
  rintro i j ⟨a, o, rfl, ha, hp, rfl⟩
  have hI := ok_inLs hok
  obtain ⟨n, hn⟩ := getI2 ha
  obtain ⟨R, r1, r2, r3, r4⟩ := copy_last hok hn o
  have hmore := copy_more hI ha o
  refine ⟨n, R, by rw [Int.toNat_natCast]; exact hn, noParts_of (hok a n hn).1, ?_, r2, fun q k m hk hm => ?_⟩
  · unfold lastI
    rw [show (((copyP L (a : Int) o).length : Int) - 1).toNat = (copyP L (a : Int) o).length - 1 by omega]
    exact pre_get hp r1
  · obtain ⟨oj, q1, q2, q3⟩ := r4 q k m hk hm
    have := hI a n hn k (List.mem_of_getElem? hk)
    obtain ⟨b, rfl⟩ : ∃ b : Nat, k = (b : Int) := ⟨k.toNat, by omega⟩
    exact ⟨b, oj, rfl, by omega, q2.trans hp, q3⟩
theorem occ_copy {L : List ApiNode} (hok : allOk L) {i : Nat} (hi : i < L.length) (x : List UInt8) : Occ (copyP L (i : Int) []) x ((((copyP L (i : Int) []).length - 1 : Nat)) : Int) ↔ Occ L x (i : Int) := by
  have hmore := copy_more (ok_inLs hok) hi []
  have e : lastI (copyP L (i : Int) []) = (((copyP L (i : Int) []).length - 1 : Nat) : Int) := by unfold lastI; simp only [List.length_nil] at hmore; omega
  have hS := occ_sim (sim_copy (O := copyP L (i : Int) []) hok) x
  rw [← e]
  exact ⟨fun h => hS.2 _ h _ ⟨i, [], rfl, hi, List.prefix_refl _, rfl⟩, fun h => hS.1 _ h _ ⟨i, [], rfl, hi, List.prefix_refl _, rfl⟩⟩
theorem norm_occ {a : ApiExpr} (hl : a.l.length ≤ 700) (hN : ∀ n ∈ a.l, NB n) (h : mayT a.l = 0) (x : List UInt8) : Occ (normT a).1.l x ((((normT a).1.l.length - 1 : Nat)) : Int) ↔ Occ a.l x (((a.l.length - 1 : Nat)) : Int) := by
  have hS := sc_of hl hN h
  have h0 := hS.pos
  unfold normT
  rw [if_pos h]
  exact occ_copy hS.ok (by omega) x
end Go.Proofs.Ytnnjgbcojdnhhaa
set_option linter.unusedVariables false
set_option linter.unusedSimpArgs false
set_option maxRecDepth 100000
namespace Go.Proofs.Ytnnjgbcojdnhhaa
open Go.V
open Classical
theorem may_any (e : ApiExpr) (hN : ∀ n ∈ e.l, NB n) : m_tree_May e = some (mayT e.l) := by
  by_cases h : e.l.length ≤ 701
  · exact may_eq e h hN
  · unfold m_tree_May mayT
    rw [decide_eq_false (by omega), decide_eq_true (by omega), Bool.false_or, cond_true, if_pos (.inr (by omega))]
theorem rmay_any (e : ApiExpr) (hN : ∀ n ∈ e.l, NB n) : m_syntagmaref05_May e = some (mayT e.l) := by
  by_cases h : e.l.length ≤ 701
  · exact rmay_eq e h hN
  · unfold m_syntagmaref05_May mayT
    rw [decide_eq_false (by omega), decide_eq_true (by omega), Bool.false_or, cond_true, if_pos (.inr (by omega))]
/-- A tree's nodes, as far as joining asks. -/
def GT (L : List ApiNode) : Prop := ∀ (i : Nat) n, L[i]? = some n → NB n ∧ noParts n ∧ inL i (kidsP n)
theorem gt_tok {L : List ApiNode} (h : GT L) (hl : L.length ≤ 1000000) : TOk ⟨L⟩ := by
  refine ⟨hl, fun n hn => ?_⟩
  obtain ⟨i, hi, hx⟩ := List.getElem_of_mem hn
  have hi : i < L.length := hi
  obtain ⟨a, b, c⟩ := h i n (by rw [← hx]; exact List.getElem?_eq_getElem hi)
  exact ⟨a, b, fun k hk => by have := c k hk; omega⟩
theorem gt_nb {L : List ApiNode} (h : GT L) : ∀ n ∈ L, NB n := by
  intro n hn
  obtain ⟨i, hi, hx⟩ := List.getElem_of_mem hn
  exact (h i n (by rw [← hx]; exact List.getElem?_eq_getElem hi)).1
theorem gt_ok {L : List ApiNode} (h : allOk L) (hN : ∀ n ∈ L, NB n) : GT L := fun i n hn => ⟨hN n (List.mem_of_getElem? hn), noParts_of (h i n hn).1, (h i n hn).2.1⟩
theorem gt_copy {e : ApiExpr} (h : Sc e.l) {i : Nat} (hi : i < e.l.length) : GT (copyP e.l (i : Int) []) :=
  gt_ok (copy_ok h.ok hi) (copy_nb (ok_inLs h.ok) h.nb _ _ (Nat.lt_succ_self i) hi [] (by simp))
/-- What a fold of joined trees is. -/
def JInv (st : List Int × List ApiNode) : Prop := (∀ r ∈ st.1, 0 ≤ r ∧ r < (st.2.length : Int)) ∧ GT st.2
theorem jinv_step {st : List Int × List ApiNode} (h : JInv st) {x : ApiExpr} (hx : GT x.l) (h0 : x.l ≠ []) : JInv (stepJ st x) := by
  have hpos : 0 < x.l.length := List.length_pos_iff.2 h0
  refine ⟨fun r hr => ?_, fun i n hn => ?_⟩
  · unfold stepJ at hr ⊢
    simp only [List.length_append, List.length_map] at hr ⊢
    rcases List.mem_append.1 hr with hr | hr
    · have := h.1 r hr; omega
    · obtain rfl := List.mem_singleton.1 hr; omega
  · unfold stepJ at hn
    simp only at hn
    by_cases hi : i < st.2.length
    · rw [List.getElem?_append_left hi] at hn
      exact h.2 i n hn
    · rw [List.getElem?_append_right (by omega), List.getElem?_map, Option.map_eq_some_iff] at hn
      obtain ⟨m, hm, rfl⟩ := hn
      obtain ⟨a, b, c⟩ := hx _ m hm
      unfold sh
      refine ⟨withP_nb _ _ a, withP_noParts _ _, ?_⟩
      rw [withP_kids m _ b (by simp)]
      intro k hk
      obtain ⟨k', hk', rfl⟩ := List.mem_map.1 hk
      have := c k' hk'
      omega
theorem jinv_fold : ∀ (xs : List ApiExpr) (st : List Int × List ApiNode), JInv st → (∀ x ∈ xs, GT x.l ∧ x.l ≠ []) → JInv (xs.foldl stepJ st)
  | [], _, h, _ => h
  | x :: xs, st, h, hx => jinv_fold xs _ (jinv_step h (hx x (by simp)).1 (hx x (by simp)).2) (fun y hy => hx y (by simp [hy]))
def joinP (n : ApiNode) (xs : List ApiExpr) : List ApiNode := (foldJ xs).2 ++ [withP n (foldJ xs).1]
theorem joinP_gt {n : ApiNode} {xs : List ApiExpr} (hN : NB n) (hp : noParts n) (hk : xs.length = (kidsP n).length) (hx : ∀ x ∈ xs, GT x.l ∧ x.l ≠ []) : GT (joinP n xs) := by
  have hj := jinv_fold xs ([], []) ⟨by simp, fun i n hn => by simp at hn⟩ hx
  have hl : (foldJ xs).1.length = (kidsP n).length := by
    rw [← hk]
    have : ∀ (xs : List ApiExpr) (st : List Int × List ApiNode), (xs.foldl stepJ st).1.length = st.1.length + xs.length := by
      intro xs
      induction xs with
      | nil => intro st; simp
      | cons x xs ih => intro st; rw [List.foldl_cons, ih]; unfold stepJ; simp only [List.length_append, List.length_cons, List.length_nil]; omega
    have h2 := this xs ([], [])
    simp only [List.length_nil, Nat.zero_add] at h2
    exact h2
  intro i m hm
  unfold joinP at hm
  by_cases hi : i < (foldJ xs).2.length
  · rw [List.getElem?_append_left hi] at hm
    exact hj.2 i m hm
  · rw [List.getElem?_append_right (by omega)] at hm
    have hi2 : i = (foldJ xs).2.length := by
      have := getLt hm
      simp only [List.length_cons, List.length_nil] at this
      omega
    subst hi2
    rw [Nat.sub_self, List.getElem?_cons_zero] at hm
    obtain rfl := Option.some.inj hm
    refine ⟨withP_nb _ _ hN, withP_noParts _ _, ?_⟩
    rw [withP_kids n _ hp hl]
    exact hj.1
/-- The trees below, in a joined one. -/
theorem foldJ_get : ∀ (xs : List ApiExpr) (st : List Int × List ApiNode) (q : Nat) (x : ApiExpr), xs[q]? = some x → ∃ off : Nat, (xs.foldl stepJ st).1[st.1.length + q]? = some (((off + x.l.length : Nat) : Int) - 1) ∧ ∀ (i : Nat) n, x.l[i]? = some n → (xs.foldl stepJ st).2[off + i]? = some (sh off n)
  | [], _, _, _, h => by simp at h
  | y :: xs, st, 0, x, h => by
    simp only [List.getElem?_cons_zero, Option.some.injEq] at h
    subst h
    have pre1 : ∀ (xs : List ApiExpr) (st : List Int × List ApiNode), st.1 <+: (xs.foldl stepJ st).1 ∧ st.2 <+: (xs.foldl stepJ st).2 := by
      intro xs
      induction xs with
      | nil => intro st; exact ⟨List.prefix_refl _, List.prefix_refl _⟩
      | cons z xs ih =>
        intro st
        obtain ⟨a, b⟩ := ih (stepJ st z)
        rw [List.foldl_cons]
        exact ⟨List.IsPrefix.trans (by unfold stepJ; exact List.prefix_append _ _) a, List.IsPrefix.trans (by unfold stepJ; exact List.prefix_append _ _) b⟩
    obtain ⟨a, b⟩ := pre1 xs (stepJ st y)
    rw [List.foldl_cons]
    refine ⟨st.2.length, pre_get a ?_, fun i n hn => pre_get b ?_⟩
    · unfold stepJ
      simp only [List.length_append, List.length_map, Nat.add_zero]
      rw [List.getElem?_append_right (Nat.le_refl _), Nat.sub_self]; rfl
    · unfold stepJ
      simp only
      rw [List.getElem?_append_right (by omega), show st.2.length + i - st.2.length = i by omega, List.getElem?_map, hn]; rfl
  | y :: xs, st, q + 1, x, h => by
    simp only [List.getElem?_cons_succ] at h
    obtain ⟨off, a, b⟩ := foldJ_get xs (stepJ st y) q x h
    rw [List.foldl_cons]
    refine ⟨off, ?_, b⟩
    rw [← a]
    congr 1
    unfold stepJ
    simp only [List.length_append, List.length_cons, List.length_nil]
    omega
theorem sim_sh {x O : List ApiNode} (hx : GT x) {off : Nat} (h : ∀ (i : Nat) n, x[i]? = some n → O[off + i]? = some (sh off n)) : Sim x O (fun i j => 0 ≤ i ∧ i < (x.length : Int) ∧ j = i + (off : Int)) := by
  rintro i j ⟨h0, h1, rfl⟩
  obtain ⟨a, rfl⟩ : ∃ a : Nat, i = (a : Int) := ⟨i.toNat, by omega⟩
  obtain ⟨n, hn⟩ := getI2 (l := x) (i := a) (by omega)
  obtain ⟨_, hp, hI⟩ := hx a n hn
  refine ⟨n, (kidsP n).map (· + (off : Int)), by rw [Int.toNat_natCast]; exact hn, hp, ?_, by simp, fun q k m hk hm => ?_⟩
  · rw [show ((a : Int) + (off : Int)).toNat = off + a by omega]
    exact h a n hn
  · rw [List.getElem?_map, hk, Option.map_some, Option.some.injEq] at hm
    subst hm
    have := hI k (List.mem_of_getElem? hk)
    exact ⟨by omega, by omega, rfl⟩
def lastN (L : List ApiNode) : Int := ((L.length - 1 : Nat) : Int)
/-- What is free in a joined tree. -/
theorem joinP_occ {n : ApiNode} {xs : List ApiExpr} (hp : noParts n) (hk : xs.length = (kidsP n).length) (hx : ∀ x ∈ xs, GT x.l ∧ x.l ≠ []) (y : List UInt8) : Occ (joinP n xs) y (lastN (joinP n xs)) ↔ (n.kind = 4 ∧ n.name = y) ∨ ∃ (q : Nat) (x : ApiExpr), xs[q]? = some x ∧ ¬ hidesP n q y ∧ Occ x.l y (lastN x.l) := by
  have hl : (foldJ xs).1.length = (kidsP n).length := by
    rw [← hk]
    have : ∀ (xs : List ApiExpr) (st : List Int × List ApiNode), (xs.foldl stepJ st).1.length = st.1.length + xs.length := by
      intro xs
      induction xs with
      | nil => intro st; simp
      | cons x xs ih => intro st; rw [List.foldl_cons, ih]; unfold stepJ; simp only [List.length_append, List.length_cons, List.length_nil]; omega
    have h2 := this xs ([], [])
    simp only [List.length_nil, Nat.zero_add] at h2
    exact h2
  have hr : (joinP n xs)[(lastN (joinP n xs)).toNat]? = some (withP n (foldJ xs).1) := by
    unfold lastN joinP
    rw [Int.toNat_natCast, List.length_append, List.getElem?_append_right (by simp)]
    simp
  have hwk := withP_kids n (foldJ xs).1 hp hl
  rw [occ_inv hr]
  have sub : ∀ (q : Nat) (x : ApiExpr), xs[q]? = some x → ∃ m, (foldJ xs).1[q]? = some m ∧ (Occ (joinP n xs) y m ↔ Occ x.l y (lastN x.l)) := by
    intro q x hq
    obtain ⟨g1, g2⟩ := hx x (List.mem_of_getElem? hq)
    have hpos : 0 < x.l.length := List.length_pos_iff.2 g2
    obtain ⟨off, a, b⟩ := foldJ_get xs ([], []) q x hq
    have hS := occ_sim (sim_sh (O := joinP n xs) g1 (off := off) (fun i m hm => by unfold joinP; exact pre_get (List.prefix_append _ _) (b i m hm))) y
    simp only [List.length_nil, Nat.zero_add] at a
    refine ⟨_, a, ?_⟩
    have hrel : 0 ≤ lastN x.l ∧ lastN x.l < (x.l.length : Int) ∧ (((off + x.l.length : Nat) : Int) - 1) = lastN x.l + (off : Int) := by unfold lastN; omega
    exact ⟨fun h => hS.2 _ h _ hrel, fun h => hS.1 _ h _ hrel⟩
  constructor
  · rintro (h | ⟨q, k, h1, h2, h3⟩)
    · exact .inl h
    · rw [hwk] at h1
      obtain ⟨x, hx2⟩ := getI2 (l := xs) (i := q) (by rw [hk, ← hl]; exact getLt h1)
      obtain ⟨m, m1, m2⟩ := sub q x hx2
      rw [h1] at m1
      obtain rfl := Option.some.inj m1
      exact .inr ⟨q, x, hx2, fun hh => h2 ((hides_with n _ hp hl q y).2 hh), m2.1 h3⟩
  · rintro (h | ⟨q, x, h1, h2, h3⟩)
    · exact .inl h
    · obtain ⟨m, m1, m2⟩ := sub q x h1
      exact .inr ⟨q, m, by rw [hwk]; exact m1, fun hh => h2 ((hides_with n _ hp hl q y).1 hh), m2.2 h3⟩
theorem joinP_len (n : ApiNode) (xs : List ApiExpr) : (joinP n xs).length = (xs.map fun x => x.l.length).sum + 1 := by
  have := foldJ_sum xs ([], [])
  unfold joinP
  rw [List.length_append]
  simp only [List.length_nil, Nat.zero_add] at this
  unfold foldJ
  rw [this]; rfl
end Go.Proofs.Ytnnjgbcojdnhhaa
set_option linter.unusedVariables false
set_option linter.unusedSimpArgs false
set_option maxRecDepth 100000
namespace Go.Proofs.Ytnnjgbcojdnhhaa
open Go.V
open Classical
theorem gdI {l : List Int} {q : Nat} {k : Int} (h : l[q]? = some k) : gd l (q : Int) = k := by
  unfold gd; rw [Int.toNat_natCast, h]; rfl
theorem list_range (l : List Int) : l = (List.range l.length).map fun (q : Nat) => gd l (q : Int) := by
  apply List.ext_getElem?
  intro i
  by_cases hi : i < l.length
  · obtain ⟨k, hk⟩ := getI2 hi
    rw [List.getElem?_map, List.getElem?_range hi, hk, Option.map_some, gdI hk]
  · rw [List.getElem?_eq_none (by omega), List.getElem?_eq_none (by simp; omega)]
theorem sum_mono {α : Type} (f g : α → Nat) (c : Nat) : ∀ l : List α, (∀ x ∈ l, f x ≤ c * g x) → (l.map f).sum ≤ c * (l.map g).sum
  | [], _ => by simp
  | a :: l, h => by
    rw [List.map_cons, List.sum_cons, List.map_cons, List.sum_cons, Nat.mul_add]
    have := sum_mono f g c l (fun x hx => h x (List.mem_cons_of_mem _ hx))
    have := h a (List.mem_cons_self ..)
    omega
theorem hides_eq (n : ApiNode) (hp : noParts n) (q : Nat) (hq : q < (kidsP n).length) (hN : NB n) (x : List UInt8) : m_subst_hides n (q : Int) x = some (decide (hidesP n q x)) := by
  unfold NB at hN
  unfold m_subst_hides
  by_cases k5 : n.kind = 5
  · have : hidesP n q x ↔ n.name = x := by
      unfold hidesP
      exact ⟨fun h => by rcases h with ⟨_, h⟩ | ⟨h, _⟩ | ⟨h, _⟩ <;> first | exact h | omega, fun h => .inl ⟨.inl k5, h⟩⟩
    rw [decide_eq_true k5, cond_true, Option.bind_some, cond_true]
    congr 1
    rw [decide_eq_decide]; exact this.symm
  rw [decide_eq_false k5, cond_false, Option.bind_some]
  by_cases k8 : n.kind = 8
  · have : hidesP n q x ↔ n.name = x := by
      unfold hidesP
      exact ⟨fun h => by rcases h with ⟨_, h⟩ | ⟨h, _⟩ | ⟨h, _⟩ <;> first | exact h | omega, fun h => .inl ⟨.inr k8, h⟩⟩
    rw [decide_eq_true k8, cond_true]
    congr 1
    rw [decide_eq_decide]; exact this.symm
  rw [decide_eq_false k8, cond_false]
  by_cases k7 : n.kind = 7
  · have : hidesP n q x ↔ (n.name = x ∧ (q : Int) = 1) := by
      unfold hidesP
      constructor
      · rintro (⟨h, _⟩ | ⟨_, h1, h2⟩ | ⟨h, _⟩)
        · omega
        · exact ⟨h1, by omega⟩
        · omega
      · rintro ⟨h1, h2⟩; exact .inr (.inl ⟨k7, h1, by omega⟩)
    rw [decide_eq_true k7, cond_true]
    congr 1
    rw [Bool.eq_iff_iff, Bool.and_eq_true, decide_eq_true_eq, decide_eq_true_eq, decide_eq_true_eq]; exact this.symm
  rw [decide_eq_false k7, cond_false]
  by_cases k14 : n.kind = 14
  · rw [decide_eq_true k14, cond_true]
    have hkl := kidsP_len n hp
    have ha : abcN n.kind = 1 := by rw [k14]; rfl
    by_cases h0 : 0 < q
    · obtain ⟨f, hf⟩ := getI2 (l := n.l) (i := q - 1) (by omega)
      have : hidesP n q x ↔ f.var = x := by
        unfold hidesP
        constructor
        · rintro (⟨h, _⟩ | ⟨h, _⟩ | ⟨_, g, _, h2, h3⟩)
          · omega
          · omega
          · rw [hf] at h2; rw [Option.some.inj h2]; exact h3
        · intro h; exact .inr (.inr ⟨k14, f, h0, hf, h⟩)
      rw [decide_eq_true (show (0 : Int) < (q : Int) by omega), cond_true, grd_pos (by omega), show ((q : Int) - 1) = ((q - 1 : Nat) : Int) by omega, getI hf, Option.bind_some, Option.bind_some]
      congr 1
      rw [decide_eq_decide]; exact this.symm
    · have : ¬ hidesP n q x := by
        unfold hidesP
        rintro (⟨h, _⟩ | ⟨h, _⟩ | ⟨_, g, h, _⟩) <;> omega
      rw [decide_eq_false (show ¬ (0 : Int) < (q : Int) by omega), cond_false, Option.bind_some, decide_eq_false this]
  · have : ¬ hidesP n q x := by
      unfold hidesP
      rintro (⟨h, _⟩ | ⟨h, _⟩ | ⟨h, _⟩) <;> omega
    rw [decide_eq_false k14, cond_false, decide_eq_false this]
theorem rhides_eq (n : ApiNode) (hp : noParts n) (q : Nat) (hq : q < (kidsP n).length) (hN : NB n) (x : List UInt8) : (bif ((decide (n.kind = 14)) && (decide (0 < (q : Int)))) then
        grd (InR ((q : Int) - 1)) <|
        (idx n.l ((q : Int) - 1)).bind fun x5 =>
        some (decide ((x5.var : List UInt8) = x))
      else
        some ((decide ((n.name : List UInt8) = x)) && (((decide (n.kind = 5)) || (decide (n.kind = 8))) || ((decide (n.kind = 7)) && (decide ((q : Int) = 1))))) : Option Bool) = some (decide (hidesP n q x)) := by
  unfold NB at hN
  by_cases k14 : n.kind = 14
  · have hkl := kidsP_len n hp
    have ha : abcN n.kind = 1 := by rw [k14]; rfl
    by_cases h0 : 0 < q
    · obtain ⟨f, hf⟩ := getI2 (l := n.l) (i := q - 1) (by omega)
      have : hidesP n q x ↔ f.var = x := by
        unfold hidesP
        constructor
        · rintro (⟨h, _⟩ | ⟨h, _⟩ | ⟨_, g, _, h2, h3⟩)
          · omega
          · omega
          · rw [hf] at h2; rw [Option.some.inj h2]; exact h3
        · intro h; exact .inr (.inr ⟨k14, f, h0, hf, h⟩)
      rw [decide_eq_true k14, decide_eq_true (show (0 : Int) < (q : Int) by omega), Bool.and_self, cond_true, grd_pos (by omega), show ((q : Int) - 1) = ((q - 1 : Nat) : Int) by omega, getI hf, Option.bind_some]
      congr 1
      rw [decide_eq_decide]; exact this.symm
    · have : ¬ hidesP n q x := by
        unfold hidesP
        rintro (⟨h, _⟩ | ⟨h, _⟩ | ⟨_, g, h, _⟩) <;> omega
      rw [decide_eq_false (show ¬ (0 : Int) < (q : Int) by omega), Bool.and_false, cond_false, decide_eq_false this, decide_eq_false (show ¬ n.kind = 5 by omega), decide_eq_false (show ¬ n.kind = 8 by omega), decide_eq_false (show ¬ n.kind = 7 by omega), Bool.false_and, Bool.or_self, Bool.or_self, Bool.and_false]
  · rw [decide_eq_false k14, Bool.false_and, cond_false]
    congr 1
    rw [Bool.eq_iff_iff]
    simp only [Bool.and_eq_true, Bool.or_eq_true, decide_eq_true_eq]
    unfold hidesP
    constructor
    · rintro ⟨h1, (h | h) | ⟨h, h2⟩⟩
      · exact .inl ⟨.inl h, h1⟩
      · exact .inl ⟨.inr h, h1⟩
      · exact .inr (.inl ⟨h, h1, by omega⟩)
    · rintro (⟨h | h, h1⟩ | ⟨h, h1, h2⟩ | ⟨h, _⟩)
      · exact ⟨h1, .inl (.inl h)⟩
      · exact ⟨h1, .inl (.inr h)⟩
      · exact ⟨h1, .inr ⟨h, by omega⟩⟩
      · exact absurd h k14
theorem subT_3 (e : ApiExpr) (i : Int) (h : mayT e.l = 0) : (subT e i) = if i < 0 ∨ (e.l.length : Int) ≤ i then (⟨[]⟩, 3) else (⟨copyP e.l i []⟩, 0) := by
  unfold subT; rw [if_pos h]
theorem ssub_eq (e : ApiExpr) (h : Sc e.l) (hm : mayT e.l = 0) {k : Int} (h0 : 0 ≤ k) (h1 : k < (e.l.length : Int)) : m_subst_sub e k = some ⟨copyP e.l k []⟩ := by
  have hl := h.len
  unfold m_subst_sub
  rw [tsub_eq e k hl h.nb, subT_3 e k hm, if_neg (by omega), Option.bind_some]
structure PR (L : List ApiNode) (x : List UInt8) (i : Nat) (R : List ApiNode) : Prop where
  gt : GT R
  ne : R ≠ []
  len : R.length ≤ 600 * (post L (i : Int)).length
  occ : ¬ Occ R x (lastN R)
  same : ¬ Occ L x (i : Int) → R = copyP L (i : Int) []
theorem put_eq (e : ApiExpr) (h : Sc e.l) (ht : TreeOk e) (hm : mayT e.l = 0) (x : List UInt8) (v : ApiExpr) (w : List ApiNode) (hv : m_syntagmaref05_Norm v = some ⟨w⟩) (gw : GT w) (w0 : w ≠ []) (wl : w.length ≤ 600) (wo : ¬ Occ w x (lastN w)) :
    ∀ (f i : Nat), i < f → i < e.l.length → ∃ R, m_subst_put_1 e x ⟨w⟩ f (i : Int) = some ⟨R⟩ ∧ m_syntagmaref09_put f e (i : Int) x v = some ⟨R⟩ ∧ PR e.l x i R
  | 0, i, hf, _ => by omega
  | f + 1, i, hf, hi => by
    obtain ⟨n, hn⟩ := getI2 hi
    have hI := ok_inLs h.ok
    have hNn := h.nb n (List.mem_of_getElem? hn)
    have hkl := kids_len n hNn
    have hp := noParts_of (h.ok i n hn).1
    have hL := h.len
    have hpost := post_rec hI hn
    show ∃ R, m_subst_put_1F (m_subst_put_1 e x ⟨w⟩ f) (i : Int) e x ⟨w⟩ = some ⟨R⟩ ∧ m_syntagmaref09_putF (m_syntagmaref09_put f) e (i : Int) x v = some ⟨R⟩ ∧ _
    unfold m_subst_put_1F m_syntagmaref09_putF
    rw [getI hn, Option.bind_some, Option.bind_some]
    by_cases h4 : n.kind = 4 ∧ n.name = x
    · rw [decide_eq_true h4.1, decide_eq_true h4.2, Bool.and_self, cond_true, cond_true, hv, Option.bind_some]
      refine ⟨w, rfl, rfl, gw, w0, ?_, wo, fun ho => absurd (Occ.var (i := (i : Int)) (by rw [Int.toNat_natCast]; exact hn) h4.1 h4.2) ho⟩
      rw [hpost, kids4 h4.1 hp]; simp; omega
    · rw [show (decide (n.kind = 4) && decide (n.name = x)) = false by
        rw [Bool.eq_false_iff]; intro hh; rw [Bool.and_eq_true, decide_eq_true_eq, decide_eq_true_eq] at hh; exact h4 hh, cond_false, cond_false]
      rw [show m_tree_Kids (⟨n.kind, n.a, n.b, n.c, n.n_, n.name, n.s, n.l, n.pos⟩ : ApiNode) = some (kidsP n) from kids_eq n hNn, Option.bind_some, show m_syntagmaref05_Kids (⟨n.kind, n.a, n.b, n.c, n.n_, n.name, n.s, n.l, n.pos⟩ : ApiNode) = some (kidsP n) from rkids_eq n hNn, Option.bind_some]
      have ih : ∀ k : Int, ∃ R, k ∈ kidsP n → ∃ m : Nat, k = (m : Int) ∧ m < i ∧ m_subst_put_1 e x ⟨w⟩ f k = some ⟨R⟩ ∧ m_syntagmaref09_put f e k x v = some ⟨R⟩ ∧ PR e.l x m R := by
        intro k
        by_cases hk : k ∈ kidsP n
        · have hq := hI i n hn k hk
          obtain ⟨m, rfl⟩ : ∃ m : Nat, k = (m : Int) := ⟨k.toNat, by omega⟩
          obtain ⟨R, a, b, c⟩ := put_eq e h ht hm x v w hv gw w0 wl wo f m (by omega) (by omega)
          exact ⟨R, fun _ => ⟨m, rfl, by omega, a, b, c⟩⟩
        · exact ⟨[], fun hh => absurd hh hk⟩
      let g : Int → List ApiNode := fun k => Classical.choose (ih k)
      have hg : ∀ k ∈ kidsP n, ∃ m : Nat, k = (m : Int) ∧ m < i ∧ m_subst_put_1 e x ⟨w⟩ f k = some ⟨g k⟩ ∧ m_syntagmaref09_put f e k x v = some ⟨g k⟩ ∧ PR e.l x m (g k) := fun k hk => Classical.choose_spec (ih k) hk
      let fx : Nat → ApiExpr := fun q => ⟨if hidesP n q x then copyP e.l (gd (kidsP n) (q : Int)) [] else g (gd (kidsP n) (q : Int))⟩
      have hsub : ∀ k ∈ kidsP n, m_syntagmaref05_Sub e k = some ⟨copyP e.l k []⟩ := by
        intro k hk
        have := hI i n hn k hk
        obtain ⟨m, rfl⟩ : ∃ m : Nat, k = (m : Int) := ⟨k.toNat, by omega⟩
        exact rsub_eq ht m (by omega)
      have hssub : ∀ k ∈ kidsP n, m_subst_sub e k = some ⟨copyP e.l k []⟩ := fun k hk => by
        have := hI i n hn k hk
        exact ssub_eq e h hm (by omega) (by omega)
      have loop1 : m_subst_put_1_l1 (m_subst_put_1 e x ⟨w⟩ f) e x n (kidsP n) FU (0, []) = some ((List.range (kidsP n).length).map fx) := by
        obtain ⟨o, h1, h2⟩ := loop_rng (φ := fun m q s => m_subst_put_1_l1 (m_subst_put_1 e x ⟨w⟩ f) e x n (kidsP n) m (q, s)) (l := kidsP n) (fun q s => s = (List.range q).map fx) (fun o => o = (List.range (kidsP n).length).map fx) (by
          rintro m q k s hk hq rfl
          have hkm := List.mem_of_getElem? hk
          obtain ⟨a, _, _, g1, _, _⟩ := hg k hkm
          have hsl : ((List.range q).map fx).length = q := by simp
          simp only [m_subst_put_1_l1]
          rw [decide_eq_true (show (q : Int) < ((kidsP n).length : Int) by omega), cond_true, getI hk, Option.bind_some, show m_subst_hides (⟨n.kind, n.a, n.b, n.c, n.n_, n.name, n.s, n.l, n.pos⟩ : ApiNode) (q : Int) x = _ from hides_eq n hp q hq hNn x, Option.bind_some]
          by_cases hh : hidesP n q x
          · rw [decide_eq_true hh, cond_true, hssub k hkm, Option.bind_some, grd_pos (by rw [hsl]; simp only [List.length_cons, List.length_nil]; omega), grd_pos (by omega)]
            refine .inl ⟨_, rfl, ?_⟩
            rw [List.range_succ, List.map_append]
            simp only [List.map_cons, List.map_nil, fx]
            rw [if_pos hh, gdI hk]
          · rw [decide_eq_false hh, cond_false, g1, Option.bind_some, grd_pos (by rw [hsl]; simp only [List.length_cons, List.length_nil]; omega), grd_pos (by omega)]
            refine .inl ⟨_, rfl, ?_⟩
            rw [List.range_succ, List.map_append]
            simp only [List.map_cons, List.map_nil, fx]
            rw [if_neg hh, gdI hk]) (by
          rintro m s rfl
          simp only [m_subst_put_1_l1]
          rw [decide_eq_false (by omega), cond_false]
          exact ⟨_, rfl, rfl⟩) (by rw [FUv]; omega) [] rfl
        rw [h1, h2]
      have loop2 : m_syntagmaref09_put_l1 (m_syntagmaref09_put f) e x v n (kidsP n) FU (0, []) = some ((List.range (kidsP n).length).map fx) := by
        obtain ⟨o, h1, h2⟩ := loop_rng (φ := fun m q s => m_syntagmaref09_put_l1 (m_syntagmaref09_put f) e x v n (kidsP n) m (q, s)) (l := kidsP n) (fun q s => s = (List.range q).map fx) (fun o => o = (List.range (kidsP n).length).map fx) (by
          rintro m q k s hk hq rfl
          have hkm := List.mem_of_getElem? hk
          obtain ⟨a, _, _, _, g1, _⟩ := hg k hkm
          have hsl : ((List.range q).map fx).length = q := by simp
          simp only [m_syntagmaref09_put_l1]
          rw [decide_eq_true (show (q : Int) < ((kidsP n).length : Int) by omega), cond_true, rhides_eq n hp q hq hNn x, Option.bind_some, getI hk, Option.bind_some, Option.bind_some]
          by_cases hh : hidesP n q x
          · rw [decide_eq_true hh, cond_true, hsub k hkm, Option.bind_some, grd_pos (by rw [hsl]; simp only [List.length_cons, List.length_nil]; omega), grd_pos (by omega)]
            refine .inl ⟨_, rfl, ?_⟩
            rw [List.range_succ, List.map_append]
            simp only [List.map_cons, List.map_nil, fx]
            rw [if_pos hh, gdI hk]
          · rw [decide_eq_false hh, cond_false, g1, Option.bind_some, grd_pos (by rw [hsl]; simp only [List.length_cons, List.length_nil]; omega), grd_pos (by omega)]
            refine .inl ⟨_, rfl, ?_⟩
            rw [List.range_succ, List.map_append]
            simp only [List.map_cons, List.map_nil, fx]
            rw [if_neg hh, gdI hk]) (by
          rintro m s rfl
          simp only [m_syntagmaref09_put_l1]
          rw [decide_eq_false (by omega), cond_false]
          exact ⟨_, rfl, rfl⟩) (by rw [FUv]; omega) [] rfl
        rw [h1, h2]
      rw [loop1, loop2, Option.bind_some, Option.bind_some]
      have hxl : ((List.range (kidsP n).length).map fx).length = (kidsP n).length := by simp
      have hfx : ∀ q, q < (kidsP n).length → GT (fx q).l ∧ (fx q).l ≠ [] ∧ (fx q).l.length ≤ 600 * (post e.l (gd (kidsP n) (q : Int))).length ∧ (¬ hidesP n q x → ¬ Occ (fx q).l x (lastN (fx q).l)) ∧ (¬ Occ e.l x (i : Int) → (fx q).l = copyP e.l (gd (kidsP n) (q : Int)) []) := by
        intro q hq
        obtain ⟨k, hk⟩ := getI2 hq
        have hkm := List.mem_of_getElem? hk
        rw [gdI hk]
        obtain ⟨m, rfl, hmi, _, _, pr⟩ := hg k hkm
        show GT (if hidesP n q x then copyP e.l (gd (kidsP n) (q : Int)) [] else g (gd (kidsP n) (q : Int))) ∧ _
        simp only [fx]
        rw [gdI hk]
        by_cases hh : hidesP n q x
        · rw [if_pos hh]
          have hc := copy_len hI _ _ (Nat.lt_succ_self m) (by omega) []
          have hmore := copy_more hI (show m < e.l.length by omega) []
          simp only [List.length_nil, Nat.zero_add] at hc hmore
          exact ⟨gt_copy h (by omega), List.length_pos_iff.1 (by omega), by omega, fun hq2 => absurd hh hq2, fun _ => rfl⟩
        · rw [if_neg hh]
          exact ⟨pr.gt, pr.ne, pr.len, fun _ => pr.occ, fun ho => pr.same fun hk2 => ho (.kid (i := (i : Int)) (by rw [Int.toNat_natCast]; exact hn) hk hh hk2)⟩
      have hxs : ∀ y ∈ (List.range (kidsP n).length).map fx, GT y.l ∧ y.l ≠ [] := by
        intro y hy
        obtain ⟨q, hq, rfl⟩ := List.mem_map.1 hy
        exact ⟨(hfx q (List.mem_range.1 hq)).1, (hfx q (List.mem_range.1 hq)).2.1⟩
      have hps : ((kidsP n).flatMap (post e.l)).length = ((List.range (kidsP n).length).map fun (q : Nat) => (post e.l (gd (kidsP n) (q : Int))).length).sum := by
        rw [List.length_flatMap]
        conv => lhs; rw [list_range (kidsP n)]
        rw [List.map_map]; rfl
      have hlen : (joinP n ((List.range (kidsP n).length).map fx)).length ≤ 600 * (post e.l (i : Int)).length := by
        rw [joinP_len, List.map_map, hpost, List.length_append, hps]
        have := sum_mono (fun q => (fx q).l.length) (fun (q : Nat) => (post e.l (gd (kidsP n) (q : Int))).length) 600 (List.range (kidsP n).length) (fun q hq => (hfx q (List.mem_range.1 hq)).2.2.1)
        have e1 : ((fun x : ApiExpr => x.l.length) ∘ fx) = fun q => (fx q).l.length := rfl
        rw [e1]
        simp only [List.length_cons, List.length_nil]
        omega
      have hpl := post_len hI h.one i hi
      have htok : ∀ y ∈ (List.range (kidsP n).length).map fx, TOk y := by
        intro y hy
        obtain ⟨q, hq, rfl⟩ := List.mem_map.1 hy
        obtain ⟨a, _, b, _⟩ := hfx q (List.mem_range.1 hq)
        obtain ⟨k, hk⟩ := getI2 (List.mem_range.1 hq)
        have hkk := hI i n hn k (List.mem_of_getElem? hk)
        rw [gdI hk] at b
        obtain ⟨m, rfl⟩ : ∃ m : Nat, k = (m : Int) := ⟨k.toNat, by omega⟩
        have := post_len hI h.one m (by omega)
        exact gt_tok (L := (fx q).l) a (by omega)
      have j1 := joinG n _ hNn hxl htok
      have j2 := rjoinG n _ hNn hxl htok
      refine ⟨joinP n ((List.range (kidsP n).length).map fx), ?_, ?_, joinP_gt hNn hp hxl hxs, by unfold joinP; simp, hlen, ?_, ?_⟩
      · rw [show m_tree_Join (⟨n.kind, n.a, n.b, n.c, n.n_, n.name, n.s, n.l, n.pos⟩ : ApiNode) _ = _ from j1, Option.bind_some]; rfl
      · rw [show m_syntagmaref05_Join (⟨n.kind, n.a, n.b, n.c, n.n_, n.name, n.s, n.l, n.pos⟩ : ApiNode) _ = _ from j2, Option.bind_some]; rfl
      · rw [joinP_occ hp hxl hxs]
        rintro (hh | ⟨q, y, h1, h2, h3⟩)
        · exact h4 hh
        · rw [List.getElem?_map, Option.map_eq_some_iff] at h1
          obtain ⟨q2, hq2, rfl⟩ := h1
          have hql : q < (kidsP n).length := by
            have := getLt hq2
            simpa using this
          rw [List.getElem?_range hql] at hq2
          obtain rfl := Option.some.inj hq2
          exact (hfx q hql).2.2.2.1 h2 h3
      · intro ho
        have hs : (List.range (kidsP n).length).map fx = subL e (kidsP n) := by
          unfold subL
          conv => rhs; rw [list_range (kidsP n)]
          rw [List.map_map]
          refine List.map_congr_left fun q hq => ?_
          have := (hfx q (List.mem_range.1 hq)).2.2.2.2 ho
          show fx q = ⟨copyP e.l (gd (kidsP n) (q : Int)) []⟩
          rw [← this]
        have jt := joinT ht hn
        rw [← hs, j1] at jt
        exact congrArg ApiExpr.l (Option.some.inj jt)
end Go.Proofs.Ytnnjgbcojdnhhaa
set_option linter.unusedVariables false
set_option linter.unusedSimpArgs false
set_option maxRecDepth 100000
namespace Go.Proofs.Ytnnjgbcojdnhhaa
open Go.V
open Classical
theorem same09 (L : List ApiNode) (hl : L.length ≤ 1000000) (hN : ∀ n ∈ L, NB n) : m_syntagmalaw09_same ⟨L⟩ ⟨L⟩ = some true := by
  unfold m_syntagmalaw09_same
  rw [sameList_eqB ⟨L⟩ ⟨L⟩ hl hN, Option.bind_some, decide_eq_true (sameL_refl _), Bool.not_true, cond_false]
  obtain ⟨o, h1, h2⟩ := loop_rng (φ := fun n i (_ : Unit) => m_syntagmalaw09_same_l1 ⟨L⟩ ⟨L⟩ n i) (l := L) (fun i _ => True) (fun o => o = .go ()) (by
    rintro m i n s hn hi -
    simp only [m_syntagmalaw09_same_l1]
    rw [decide_eq_true (show (i : Int) < (L.length : Int) by omega), cond_true, getI hn, Option.bind_some, Option.bind_some, decide_eq_true rfl, Bool.not_true, cond_false, grd_pos (by omega)]
    exact .inl ⟨(), rfl, trivial⟩) (by
    rintro m s -
    simp only [m_syntagmalaw09_same_l1]
    rw [decide_eq_false (by omega), cond_false]
    exact ⟨_, rfl, rfl⟩) (by rw [FUv]; omega) () trivial
  rw [h1, h2]; rfl
theorem frees_nil {L : List ApiNode} (h : Sc L) {P : List Int} (hP : POk L P) : frees L P L.length = [] ↔ ∀ y, ¬ Occ L y (lastN L) := by
  constructor
  · intro hf y ho
    unfold lastN at ho
    rw [occ_root h hP, hf] at ho
    obtain ⟨j, hj, _⟩ := ho
    cases hj
  · intro hno
    cases hf : frees L P L.length with
    | nil => rfl
    | cons j r =>
      refine absurd ?_ (hno (nmAt L j))
      unfold lastN
      rw [occ_root h hP]
      exact ⟨j, by rw [hf]; simp, rfl⟩
theorem sclosed_cl (x : ApiExpr) (hl : x.l.length ≤ 700) (hN : ∀ n ∈ x.l, NB n) (h : mayT x.l = 0) : ∃ p : Int, m_scope_Closed x = some (if (∀ y, ¬ Occ x.l y (lastN x.l)) then (0, 0) else (p, 10)) := by
  have hS := sc_of hl hN h
  obtain ⟨P, hP, hB⟩ := rbinders_eq x hS
  have hf := frees_nil hS hP
  rw [sclosed_eq x hl hN h hP]
  cases hfr : frees x.l P x.l.length with
  | nil => exact ⟨0, by rw [if_pos (hf.1 hfr)]⟩
  | cons j r => exact ⟨(j : Int), by rw [if_neg (fun q => by have := hf.2 q; rw [hfr] at this; cases this)]⟩
theorem rclosed_cl (x : ApiExpr) (hl : x.l.length ≤ 700) (hN : ∀ n ∈ x.l, NB n) (h : mayT x.l = 0) : ∃ p : Int, 0 ≤ p ∧ m_syntagmaref06_Closed x = some (if (∀ y, ¬ Occ x.l y (lastN x.l)) then -1 else p) := by
  have hS := sc_of hl hN h
  obtain ⟨P, hP, hB⟩ := rbinders_eq x hS
  have hf := frees_nil hS hP
  rw [rclosed_eq x hS hB]
  cases hfr : frees x.l P x.l.length with
  | nil => exact ⟨0, by omega, by rw [if_pos (hf.1 hfr)]⟩
  | cons j r => exact ⟨(j : Int), by omega, by rw [if_neg (fun q => by have := hf.2 q; rw [hfr] at this; cases this)]⟩
theorem works09 : m_syntagmalaw09_works = some true := by decide +kernel
structure PutOk (e : ApiExpr) (s : List UInt8) (r : ApiExpr × Int) : Prop where
  nb : ∀ n ∈ r.1.l, NB n
  len : r.1.l.length ≤ 1000000
  no : r.2 ≠ 0 → r.1.l = []
  yes : r.2 = 0 → mayT e.l = 0 ∧ mayT r.1.l = 0 ∧ ¬ Occ r.1.l s (lastN r.1.l) ∧ (¬ Occ e.l s (lastN e.l) → r.1 = (normT e).1)
theorem putok_no (e : ApiExpr) (s : List UInt8) (c : Int) (hc : c ≠ 0) : PutOk e s (⟨[]⟩, c) := ⟨by simp, by simp, fun _ => rfl, fun h => absurd h hc⟩
theorem sput (e v : ApiExpr) (s : List UInt8) (hl : e.l.length ≤ 700) (hN : ∀ n ∈ e.l, NB n) (hl2 : v.l.length ≤ 700) (hN2 : ∀ n ∈ v.l, NB n) : ∃ r, m_subst_Put e s v = some r ∧ m_syntagmaref09_Put e s v (nameP s) = some r ∧ PutOk e s r := by
  unfold m_subst_Put m_syntagmaref09_Put
  rw [may_eq e (by omega) hN, Option.bind_some, rmay_eq e (by omega) hN, Option.bind_some]
  by_cases h1 : mayT e.l = 0
  rotate_left
  · rw [decide_eq_false h1, Bool.not_false, cond_true, cond_true]
    exact ⟨_, rfl, rfl, putok_no e s _ h1⟩
  rw [decide_eq_true h1, Bool.not_true, cond_false, cond_false, norm_eq2 v hl2 hN2, Option.bind_some, rmay_eq v (by omega) hN2, Option.bind_some]
  dsimp only
  by_cases h2 : mayT v.l = 0
  rotate_left
  · rw [decide_eq_false h2, Bool.not_false, cond_true, cond_true]
    exact ⟨_, rfl, rfl, putok_no e s _ h2⟩
  rw [decide_eq_true h2, Bool.not_true, cond_false, cond_false, name_eq, Option.bind_some]
  cases hnm : nameP s with
  | false =>
    rw [Bool.not_false, cond_true, cond_true]
    exact ⟨_, rfl, rfl, putok_no e s 2 (by decide)⟩
  | true =>
    rw [Bool.not_true, cond_false, cond_false]
    obtain ⟨n1, n2⟩ := normT_nb v hl2 hN2
    have k1 := (norm_may hl2 hN2 h2).1
    have hSv := sc_of hl2 hN2 h2
    have hSw := sc_of n1 n2 k1
    obtain ⟨p, hp⟩ := sclosed_cl (normT v).1 n1 n2 k1
    obtain ⟨p2, hp20, hp2⟩ := rclosed_cl v hl2 hN2 h2
    have hiff : (∀ y, ¬ Occ (normT v).1.l y (lastN (normT v).1.l)) ↔ ∀ y, ¬ Occ v.l y (lastN v.l) := by
      unfold lastN
      exact ⟨fun h y ho => h y ((norm_occ hl2 hN2 h2 y).2 ho), fun h y ho => h y ((norm_occ hl2 hN2 h2 y).1 ho)⟩
    rw [show m_scope_Closed (⟨(normT v).1.l⟩ : ApiExpr) = _ from hp, Option.bind_some, hp2, Option.bind_some]
    by_cases hc : ∀ y, ¬ Occ v.l y (lastN v.l)
    rotate_left
    · rw [if_neg (fun h => hc (hiff.1 h)), if_neg hc]
      dsimp only
      rw [decide_eq_false (by decide), Bool.not_false, cond_true, decide_eq_true hp20, cond_true]
      exact ⟨_, rfl, rfl, putok_no e s 10 (by decide)⟩
    rw [if_pos (hiff.2 hc), if_pos hc]
    dsimp only
    rw [decide_eq_true rfl, Bool.not_true, cond_false, decide_eq_false (by decide), cond_false]
    have hSe := sc_of hl hN h1
    obtain ⟨hte, he1⟩ := mayT_tree hl hN h1
    have hpos := hSw.pos
    obtain ⟨R, r1, r2, pr⟩ := put_eq e hSe hte h1 s v (normT v).1.l (by rw [rnorm_eq v hl2 hN2 h2]) (gt_ok hSw.ok n2) (List.length_pos_iff.1 (by omega)) (mayT_ok k1).2.1 (hiff.2 hc s) FU (e.l.length - 1) (by rw [FUv]; omega) (by omega)
    have hpl := post_len (ok_inLs hSe.ok) hSe.one (e.l.length - 1) (by omega)
    have hpl2 := pr.len
    have hRN := gt_nb pr.gt
    unfold m_subst_put m_syntagmaref09_Raw m_subst_made
    rw [grd_pos (by omega), grd_pos (by omega), show ((e.l.length : Int) - 1) = ((e.l.length - 1 : Nat) : Int) by omega, r1, r2, Option.bind_some, Option.bind_some, Option.bind_some]
    rw [show m_tree_May (⟨R⟩ : ApiExpr) = some (mayT R) from may_any ⟨R⟩ hRN, show m_syntagmaref05_May (⟨R⟩ : ApiExpr) = some (mayT R) from rmay_any ⟨R⟩ hRN, Option.bind_some]
    by_cases h3 : mayT R = 0
    · rw [decide_eq_true h3, Bool.not_true, cond_false]
      refine ⟨_, rfl, rfl, hRN, (show R.length ≤ 1000000 by omega), fun h => absurd rfl h, fun _ => ⟨h1, h3, pr.occ, fun ho => ?_⟩⟩
      show (⟨R⟩ : ApiExpr) = _
      unfold normT
      rw [if_pos h1, pr.same ho]
    · rw [decide_eq_false h3, Bool.not_false, cond_true]
      exact ⟨_, rfl, rfl, putok_no e s _ h3⟩
theorem sli50 (x : List UInt8) : ∃ s, sli x 0 (if 50 < (x.length : Int) then 50 else (x.length : Int)) = some s := by
  split
  · exact ⟨_, sli_take (k := 50) (by omega)⟩
  · exact ⟨_, sli_take (k := x.length) (Nat.le_refl _)⟩
theorem law_SubstPuts (e : ApiExpr) (x : List UInt8) (v : ApiExpr) : m_syntagmalaw09_SubstPuts e x v = some true := by
  unfold m_syntagmalaw09_SubstPuts
  have hl := fewE_len e
  have hN := fewE_nb e
  have hl2 := fewE_len v
  have hN2 := fewE_nb v
  obtain ⟨s, hs⟩ := sli50 x
  rw [show m_syntagmalaw05_Few (⟨e.l⟩ : ApiExpr) = some (fewE e) from few_eq e, Option.bind_some, show m_syntagmalaw05_Few (⟨v.l⟩ : ApiExpr) = some (fewE v) from few_eq v, Option.bind_some, hs, Option.bind_some, few2 e, Option.bind_some, few2 v, Option.bind_some]
  obtain ⟨r, r1, r2, pr⟩ := sput (fewE e) (fewE v) s hl hN hl2 hN2
  obtain ⟨a, c⟩ := r
  rw [r1, Option.bind_some]
  dsimp only
  rw [rname_eq, Option.bind_some, show m_syntagmaref09_Put (⟨(fewE e).l⟩ : ApiExpr) s (⟨(fewE v).l⟩ : ApiExpr) (nameP s) = _ from r2, Option.bind_some]
  dsimp only
  rw [same09 a.l pr.len pr.nb, Option.bind_some, decide_eq_true rfl, Bool.and_self, cond_true, works09]
  rfl
end Go.Proofs.Ytnnjgbcojdnhhaa
