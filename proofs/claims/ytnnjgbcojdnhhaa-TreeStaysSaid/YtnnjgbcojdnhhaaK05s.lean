/- Part K05s of the proof: contracts of the functions that are walked, and what they compute; no condition. -/
import Derived.Test.YtnnjgbcojdnhhaaK05n
set_option linter.unusedVariables false
set_option linter.unusedSimpArgs false
set_option maxRecDepth 100000
namespace Go.Proofs.Ytnnjgbcojdnhhaa
open Go.V
open Classical
/-! A node with other children is as right -/
theorem zip_zip : ∀ (l : List ApiField) (a b : List Int), l.length = a.length → List.zipWith relF (List.zipWith relF l a) b = List.zipWith relF l b
  | [], _, _, _ => by simp
  | _ :: _, [], _, h => by simp at h
  | x :: l, k :: a, [], _ => by simp
  | x :: l, k :: a, m :: b, h => by
    rw [List.zipWith_cons_cons, List.zipWith_cons_cons, List.zipWith_cons_cons, zip_zip l a b (by simpa using h)]; rfl
theorem zip_at : ∀ (l : List ApiField) (a : List Int), l.length = a.length → (List.zipWith relF l a).map (·.at_) = a
  | [], [], _ => rfl
  | [], _ :: _, h => by simp at h
  | _ :: _, [], h => by simp at h
  | x :: l, k :: a, h => by
    rw [List.zipWith_cons_cons, List.map_cons, zip_at l a (by simpa using h)]; rfl
theorem zip_name : ∀ (l : List ApiField) (a : List Int), l.length = a.length → (List.zipWith relF l a).map (·.name) = l.map (·.name)
  | [], _, _ => by simp
  | _ :: _, [], h => by simp at h
  | x :: l, k :: a, h => by
    rw [List.zipWith_cons_cons, List.map_cons, List.map_cons, zip_name l a (by simpa using h)]; rfl
theorem zip_part (kd : Int) : ∀ (l : List ApiField) (a : List Int), l.length = a.length → ((∀ x ∈ List.zipWith relF l a, partB kd x = true) ↔ ∀ x ∈ l, partB kd x = true)
  | [], _, _ => by simp
  | _ :: _, [], h => by simp at h
  | x :: l, k :: a, h => by
    rw [List.zipWith_cons_cons, List.forall_mem_cons, List.forall_mem_cons, zip_part kd l a (by simpa using h)]; rfl
theorem first3 (ks : List Int) (m : Nat) (hm : m ≤ 3) (hl : m ≤ ks.length) : [((ks.take m)[0]?).getD 0, ((ks.take m)[1]?).getD 0, ((ks.take m)[2]?).getD 0].take m = ks.take m := by
  match m, ks, hm, hl with
  | 0, ks, _, _ => rfl
  | 1, k0 :: ks, _, _ => rfl
  | 2, k0 :: k1 :: ks, _, _ => rfl
  | 3, k0 :: k1 :: k2 :: ks, _, _ => rfl
theorem first3z (ks : List Int) (m : Nat) (hm : m ≤ 3) (hl : m ≤ ks.length) : (([((ks.take m)[0]?).getD 0, ((ks.take m)[1]?).getD 0, ((ks.take m)[2]?).getD 0].drop m).all fun x => decide (x = 0)) = true := by
  match m, ks, hm, hl with
  | 0, ks, _, _ => rfl
  | 1, k0 :: ks, _, _ => rfl
  | 2, k0 :: k1 :: ks, _, _ => rfl
  | 3, k0 :: k1 :: k2 :: ks, _, _ => rfl
theorem withP_kids (n : ApiNode) (ks : List Int) (hp : noParts n) (hk : ks.length = (kidsP n).length) : kidsP (withP n ks) = ks := by
  rw [kidsP_len n hp] at hk
  have h3 := abc_le n.kind
  unfold kidsP withP
  simp only
  rw [first3 ks _ h3 (by omega)]
  cases hb : partsB n.kind with
  | false =>
    rw [hp hb] at hk
    simp only [List.length_nil, Nat.add_zero] at hk
    rw [if_neg (by decide), List.append_nil, List.take_of_length_le (by omega)]
  | true =>
    rw [if_pos rfl, if_pos rfl, zip_at _ _ (by rw [List.length_drop]; omega), List.take_append_drop]
theorem withP_withP (n : ApiNode) (ks k2 : List Int) (hp : noParts n) (hk : ks.length = (kidsP n).length) : withP (withP n ks) k2 = withP n k2 := by
  rw [kidsP_len n hp] at hk
  unfold withP
  simp only
  cases hb : partsB n.kind with
  | false => rfl
  | true =>
    simp only [if_true]
    rw [zip_zip _ _ _ (by rw [List.length_drop]; omega)]
theorem withP_noParts (n : ApiNode) (ks : List Int) : noParts (withP n ks) := by
  intro h
  unfold withP at h ⊢
  simp only at h ⊢
  rw [if_neg (by rw [h]; decide)]
theorem withP_right (n : ApiNode) (ks : List Int) (hp : noParts n) (hk : ks.length = (kidsP n).length) (h : rightB n = true) : rightB (withP n ks) = true := by
  have hk0 := hk
  rw [kidsP_len n hp] at hk
  have h3 := abc_le n.kind
  unfold rightB at h ⊢
  simp only [Bool.and_eq_true] at h ⊢
  obtain ⟨h1, ⟨⟨h2, h4⟩, h5⟩, h6⟩ := h
  refine ⟨h1, ⟨⟨h2, h4⟩, ?_⟩, first3z ks (abcN n.kind) h3 (by omega)⟩
  unfold partedB at h5 ⊢
  show (if partsB n.kind = true then _ else _) = true
  cases hb : partsB n.kind with
  | false =>
    rw [hb] at h5
    have : (withP n ks).l = [] := by unfold withP; simp only; rw [if_neg (by rw [hb]; decide)]
    rw [if_neg (by decide), this]; rfl
  | true =>
    have hl : (withP n ks).l = List.zipWith relF n.l (ks.drop (abcN n.kind)) := by unfold withP; simp only; rw [if_pos hb]
    have hz : n.l.length = (ks.drop (abcN n.kind)).length := by rw [List.length_drop]; omega
    rw [hb, if_pos rfl] at h5
    rw [if_pos rfl, hl, zip_name _ _ hz, List.length_zipWith, ← hz, Nat.min_self, show (withP n ks).kind = n.kind from rfl]
    simp only [Bool.and_eq_true, decide_eq_true_eq] at h5 ⊢
    exact ⟨⟨(zip_part _ _ _ hz).2 h5.1.1, h5.1.2⟩, h5.2⟩
theorem withP_nb (n : ApiNode) (ks : List Int) (h : NB n) : NB (withP n ks) := by
  unfold NB at *
  unfold withP
  simp only
  split
  · rw [List.length_zipWith]; omega
  · simp
/-! A copy that is moved -/
def sh (s : Nat) (n : ApiNode) : ApiNode := withP n ((kidsP n).map (· + (s : Int)))
theorem sh_with (s : Nat) (n : ApiNode) (ks : List Int) (hp : noParts n) (hk : ks.length = (kidsP n).length) : sh s (withP n ks) = withP n (ks.map (· + (s : Int))) := by
  unfold sh
  rw [withP_kids n ks hp hk, withP_withP n ks _ hp hk]
theorem copy_sh {L : List ApiNode} (hok : allOk L) (t : List ApiNode) : ∀ (f i : Nat), i < f → i < L.length → ∀ o, copyP L (i : Int) (t ++ o.map (sh t.length)) = t ++ (copyP L (i : Int) o).map (sh t.length)
  | 0, i, h, _, _ => by omega
  | f + 1, i, hf, hi, o => by
    obtain ⟨n, hn⟩ := getI2 hi
    have hI := ok_inLs hok
    have hp := noParts_of (hok i n hn).1
    have key : ∀ (ks : List Int) (acc : List Int) (o : List ApiNode), (∀ k ∈ ks, k ∈ kidsP n) → ks.foldl (stepC (copyP L)) (acc.map (· + (t.length : Int)), t ++ o.map (sh t.length)) = ((ks.foldl (stepC (copyP L)) (acc, o)).1.map (· + (t.length : Int)), t ++ (ks.foldl (stepC (copyP L)) (acc, o)).2.map (sh t.length)) := by
      intro ks
      induction ks with
      | nil => intro acc o _; rfl
      | cons k ks ih =>
        intro acc o hk
        have := hI i n hn k (hk k (by simp))
        have e : copyP L k (t ++ o.map (sh t.length)) = t ++ (copyP L k o).map (sh t.length) := by
          obtain ⟨m, rfl⟩ : ∃ m : Nat, k = (m : Int) := ⟨k.toNat, by omega⟩
          exact copy_sh hok t f m (by omega) (by omega) o
        have hs : stepC (copyP L) (acc.map (· + (t.length : Int)), t ++ o.map (sh t.length)) k = ((acc ++ [lastI (copyP L k o)]).map (· + (t.length : Int)), t ++ (copyP L k o).map (sh t.length)) := by
          unfold stepC
          simp only
          rw [e, List.map_append]
          unfold lastI
          simp only [List.length_append, List.length_map, List.map_cons, List.map_nil]
          congr 3
          omega
        rw [List.foldl_cons, hs, ih _ _ fun x hx => hk x (by simp [hx])]
        rfl
    have k0 := key (kidsP n) [] o fun k hk => hk
    have hf := fold_len (L := L) (kidsP n) ([], o) (copy_len2 hI hn)
    simp only [List.map_nil] at k0
    rw [copy_rec hI hn, copy_rec hI hn, k0, List.map_append, List.append_assoc]
    simp only [List.map_cons, List.map_nil]
    rw [sh_with _ _ _ hp (by rw [hf.2]; simp)]
/-! A list that ends in a copy -/
theorem pre_get {α : Type} {a O : List α} (h : a <+: O) {i : Nat} {x : α} (hx : a[i]? = some x) : O[i]? = some x := by
  obtain ⟨t, rfl⟩ := h
  rw [List.getElem?_append_left (getLt hx)]; exact hx
theorem fold_pre {L : List ApiNode} {n : ApiNode} (hp : ∀ k : Int, ∀ o, k ∈ (kidsP n : List Int) → o <+: copyP L k o) : ∀ (ks : List Int) (s : List Int × List ApiNode), (∀ k ∈ ks, k ∈ kidsP n) → s.2 <+: (ks.foldl (stepC (copyP L)) s).2
  | [], s, _ => List.prefix_refl _
  | k :: ks, s, h => (hp k s.2 (h k (by simp))).trans (fold_pre hp ks (stepC (copyP L) s k) fun x hx => h x (by simp [hx]))
theorem copy_pre {L : List ApiNode} (hI : inLs L) : ∀ (f i : Nat), i < f → i < L.length → ∀ o, o <+: copyP L (i : Int) o
  | 0, i, h, _, _ => by omega
  | f + 1, i, hf, hi, o => by
    obtain ⟨n, hn⟩ := getI2 hi
    rw [copy_rec hI hn]
    refine (fold_pre (n := n) (fun k o hk => ?_) (kidsP n) ([], o) fun k hk => hk).trans (List.prefix_append _ _)
    have := hI i n hn k hk
    obtain ⟨m, rfl⟩ : ∃ m : Nat, k = (m : Int) := ⟨k.toNat, by omega⟩
    exact copy_pre hI f m (by omega) (by omega) o
/-! What a copy holds -/
theorem fold_in {L : List ApiNode} {n : ApiNode} (hp : ∀ k ∈ kidsP n, ∀ o, o <+: copyP L k o ∧ o.length < (copyP L k o).length) : ∀ (ks acc : List Int) (o : List ApiNode), (∀ k ∈ ks, k ∈ kidsP n) →
    ∃ R : List Int, (ks.foldl (stepC (copyP L)) (acc, o)).1 = acc ++ R ∧ R.length = ks.length ∧ (∀ (j : Nat) k m, ks[j]? = some k → R[j]? = some m → ∃ oj, o <+: oj ∧ copyP L k oj <+: (ks.foldl (stepC (copyP L)) (acc, o)).2 ∧ m = lastI (copyP L k oj)) ∧
    ∀ q, o.length ≤ q → q < (ks.foldl (stepC (copyP L)) (acc, o)).2.length → ∃ k oj, k ∈ ks ∧ copyP L k oj <+: (ks.foldl (stepC (copyP L)) (acc, o)).2 ∧ oj.length ≤ q ∧ q < (copyP L k oj).length
  | [], acc, o, _ => ⟨[], by simp, rfl, fun j k m h => by simp at h, fun q h1 h2 => by simp only [List.foldl_nil] at h2; omega⟩
  | k :: ks, acc, o, h => by
    have hk := h k (by simp)
    have h0 := hp k hk o
    obtain ⟨R, r1, r2, r3, r4⟩ := fold_in hp ks (acc ++ [lastI (copyP L k o)]) (copyP L k o) fun x hx => h x (by simp [hx])
    have hpre := fold_pre (n := n) (fun k o hk => (hp k hk o).1) ks (acc ++ [lastI (copyP L k o)], copyP L k o) fun x hx => h x (by simp [hx])
    refine ⟨lastI (copyP L k o) :: R, ?_, by simp [r2], ?_, ?_⟩
    · show (ks.foldl (stepC (copyP L)) (acc ++ [lastI (copyP L k o)], copyP L k o)).1 = _
      rw [r1, List.append_assoc]; rfl
    · intro j x m hx hm
      cases j with
      | zero =>
        simp only [List.getElem?_cons_zero, Option.some.injEq] at hx hm
        subst hx hm
        exact ⟨o, List.prefix_refl _, hpre, rfl⟩
      | succ j =>
        simp only [List.getElem?_cons_succ] at hx hm
        obtain ⟨oj, q1, q2, q3⟩ := r3 j x m hx hm
        exact ⟨oj, h0.1.trans q1, q2, q3⟩
    · intro q h1 h2
      by_cases hq : q < (copyP L k o).length
      · exact ⟨k, o, by simp, hpre, h1, hq⟩
      · obtain ⟨x, oj, q1, q2, q3, q4⟩ := r4 q (by omega) h2
        exact ⟨x, oj, by simp [q1], q2, q3, q4⟩
theorem copy_more {L : List ApiNode} (hI : inLs L) {i : Nat} (hi : i < L.length) (o : List ApiNode) : o <+: copyP L (i : Int) o ∧ o.length < (copyP L (i : Int) o).length := by
  refine ⟨copy_pre hI (i + 1) i (by omega) hi o, ?_⟩
  obtain ⟨n, hn⟩ := getI2 hi
  rw [copy_len hI (i + 1) i (by omega) hi o, post_rec hI hn]
  simp
theorem kids_more {L : List ApiNode} (hI : inLs L) {i : Nat} {n : ApiNode} (hn : L[i]? = some n) : ∀ k ∈ kidsP n, ∀ o, o <+: copyP L k o ∧ o.length < (copyP L k o).length := by
  intro k hk o
  have := hI i n hn k hk
  have hi := getLt hn
  obtain ⟨m, rfl⟩ : ∃ m : Nat, k = (m : Int) := ⟨k.toNat, by omega⟩
  exact copy_more hI (by omega) o
/-- The last node of a copy. -/
theorem copy_last {L : List ApiNode} (hok : allOk L) {i : Nat} {n : ApiNode} (hn : L[i]? = some n) (o : List ApiNode) : ∃ R : List Int, (copyP L (i : Int) o)[(copyP L (i : Int) o).length - 1]? = some (withP n R) ∧ R.length = (kidsP n).length ∧ inL ((copyP L (i : Int) o).length - 1) R ∧
    ∀ (j : Nat) k m, (kidsP n)[j]? = some k → R[j]? = some m → ∃ oj, o <+: oj ∧ copyP L k oj <+: copyP L (i : Int) o ∧ m = lastI (copyP L k oj) := by
  have hI := ok_inLs hok
  have hm := kids_more hI hn
  obtain ⟨R, r1, r2, r3, r4⟩ := fold_in hm (kidsP n) [] o fun k hk => hk
  rw [List.nil_append] at r1
  have hc := copy_rec hI hn o
  refine ⟨R, ?_, r2, ?_, ?_⟩
  · rw [hc, r1, List.length_append]
    simp
  · intro x hx
    obtain ⟨j, hj, hx2⟩ := List.getElem_of_mem hx
    obtain ⟨k, hk⟩ := getI2 (l := kidsP n) (i := j) (by omega)
    obtain ⟨oj, q1, q2, q3⟩ := r3 j k x hk (by rw [← hx2]; exact List.getElem?_eq_getElem hj)
    have h1 := hm k (List.mem_of_getElem? hk) oj
    have h2 := q2.length_le
    rw [hc, List.length_append]
    simp only [List.length_cons, List.length_nil]
    unfold lastI at q3
    omega
  · intro j k m hk hm2
    obtain ⟨oj, q1, q2, q3⟩ := r3 j k m hk hm2
    exact ⟨oj, q1, q2.trans (by rw [hc]; exact List.prefix_append _ _), q3⟩
/-- Each place of a copy is the last of a copy. -/
theorem copy_at {L : List ApiNode} (hok : allOk L) : ∀ (f i : Nat), i < f → i < L.length → ∀ (o : List ApiNode) (q : Nat), o.length ≤ q → q < (copyP L (i : Int) o).length → ∃ (m : Nat) (o' : List ApiNode), m < L.length ∧ copyP L (m : Int) o' <+: copyP L (i : Int) o ∧ q + 1 = (copyP L (m : Int) o').length
  | 0, i, h, _, _, _, _, _ => by omega
  | f + 1, i, hf, hi, o, q, h1, h2 => by
    obtain ⟨n, hn⟩ := getI2 hi
    have hI := ok_inLs hok
    have hm := kids_more hI hn
    by_cases hq : q + 1 = (copyP L (i : Int) o).length
    · exact ⟨i, o, hi, List.prefix_refl _, hq⟩
    · obtain ⟨R, r1, r2, r3, r4⟩ := fold_in hm (kidsP n) [] o fun k hk => hk
      have hc := copy_rec hI hn o
      have hl := congrArg List.length hc
      rw [List.length_append] at hl
      simp only [List.length_cons, List.length_nil] at hl
      obtain ⟨k, oj, q1, q2, q3, q4⟩ := r4 q h1 (by omega)
      have := hI i n hn k q1
      obtain ⟨m, rfl⟩ : ∃ m : Nat, k = (m : Int) := ⟨k.toNat, by omega⟩
      obtain ⟨m2, o2, s1, s2, s3⟩ := copy_at hok f m (by omega) (by omega) oj q q3 q4
      exact ⟨m2, o2, s1, s2.trans (q2.trans (by rw [hc]; exact List.prefix_append _ _)), s3⟩
/-- A copy's copy. -/
theorem list_ext2 {α β : Type} {f : α → β} : ∀ {a b : List α}, a.length = b.length → (∀ (j : Nat) x y, a[j]? = some x → b[j]? = some y → f x = f y) → a.map f = b.map f
  | [], [], _, _ => rfl
  | [], _ :: _, h, _ => by simp at h
  | _ :: _, [], h, _ => by simp at h
  | x :: a, y :: b, h, h2 => by
    rw [List.map_cons, List.map_cons, h2 0 x y rfl rfl, list_ext2 (by simpa using h) fun j u v hu hv => h2 (j + 1) u v (by simpa using hu) (by simpa using hv)]
theorem fold_two {c d : Int → List ApiNode → List ApiNode} : ∀ (ks R : List Int) (s : List Int × List ApiNode), R.length = ks.length → (∀ (j : Nat) k m, ks[j]? = some k → R[j]? = some m → ∀ o, c m o = d k o) → R.foldl (stepC c) s = ks.foldl (stepC d) s
  | [], [], _, _, _ => rfl
  | [], _ :: _, _, h, _ => by simp at h
  | _ :: _, [], _, h, _ => by simp at h
  | k :: ks, m :: R, s, h, h2 => by
    rw [List.foldl_cons, List.foldl_cons, show stepC c s m = stepC d s k by unfold stepC; rw [h2 0 k m rfl rfl]]
    exact fold_two ks R _ (by simpa using h) fun j u v hu hv => h2 (j + 1) u v (by simpa using hu) (by simpa using hv)
theorem copy_copy {L O : List ApiNode} (hok : allOk L) (hO : inLs O) : ∀ (f i : Nat), i < f → i < L.length → ∀ (o : List ApiNode), copyP L (i : Int) o <+: O → ∀ o2, copyP O (lastI (copyP L (i : Int) o)) o2 = copyP L (i : Int) o2
  | 0, i, h, _, _, _, _ => by omega
  | f + 1, i, hf, hi, o, hp, o2 => by
    obtain ⟨n, hn⟩ := getI2 hi
    have hI := ok_inLs hok
    have hnp := noParts_of (hok i n hn).1
    have hmore := copy_more hI hi o
    obtain ⟨R, r1, r2, r3, r4⟩ := copy_last hok hn o
    have hg := pre_get hp r1
    have hk := withP_kids n R hnp r2
    have e : lastI (copyP L (i : Int) o) = (((copyP L (i : Int) o).length - 1 : Nat) : Int) := by unfold lastI; omega
    have hfo := fold_two (c := copyP O) (d := copyP L) (kidsP n) R ([], o2) r2 (fun j k m hj hm o3 => by
      obtain ⟨oj, q1, q2, q3⟩ := r4 j k m hj hm
      have := hI i n hn k (List.mem_of_getElem? hj)
      obtain ⟨a, rfl⟩ : ∃ a : Nat, k = (a : Int) := ⟨k.toNat, by omega⟩
      rw [q3]
      exact copy_copy hok hO f a (by omega) (by omega) oj (q2.trans hp) o3)
    have hf := fold_len (L := L) (kidsP n) ([], o2) (copy_len2 hI hn)
    rw [e, copy_rec hO hg, copy_rec hI hn, hk, hfo, withP_withP n R _ hnp r2]
/-- A copy's depth. -/
theorem mx_two {f g : Int → Int} : ∀ (ks R : List Int) (b : Int), R.length = ks.length → (∀ (j : Nat) k m, ks[j]? = some k → R[j]? = some m → f m = g k) → mx f b R = mx g b ks
  | [], [], _, _, _ => rfl
  | [], _ :: _, _, h, _ => by simp at h
  | _ :: _, [], _, h, _ => by simp at h
  | k :: ks, m :: R, b, h, h2 => by
    show mx f (if f m > b then f m else b) R = mx g (if g k > b then g k else b) ks
    rw [h2 0 k m rfl rfl]
    exact mx_two ks R _ (by simpa using h) fun j u v hu hv => h2 (j + 1) u v (by simpa using hu) (by simpa using hv)
theorem copy_deep {L O : List ApiNode} (hok : allOk L) (hO : inLs O) : ∀ (f i : Nat), i < f → i < L.length → ∀ (o : List ApiNode), copyP L (i : Int) o <+: O → gd (depU O O.length) (lastI (copyP L (i : Int) o)) = gd (depU L L.length) (i : Int)
  | 0, i, h, _, _, _ => by omega
  | f + 1, i, hf, hi, o, hp => by
    obtain ⟨n, hn⟩ := getI2 hi
    have hI := ok_inLs hok
    have hnp := noParts_of (hok i n hn).1
    have hmore := copy_more hI hi o
    obtain ⟨R, r1, r2, r3, r4⟩ := copy_last hok hn o
    have hg := pre_get hp r1
    have hk := withP_kids n R hnp r2
    have e : lastI (copyP L (i : Int) o) = (((copyP L (i : Int) o).length - 1 : Nat) : Int) := by unfold lastI; omega
    rw [e, depU_rec O _ _ hg (by rw [hk]; exact r3), depU_rec L i n hn (hI i n hn), hk]
    congr 1
    refine mx_two (kidsP n) R 0 r2 fun j k m hj hm => ?_
    obtain ⟨oj, q1, q2, q3⟩ := r4 j k m hj hm
    have := hI i n hn k (List.mem_of_getElem? hj)
    obtain ⟨a, rfl⟩ : ∃ a : Nat, k = (a : Int) := ⟨k.toNat, by omega⟩
    rw [q3]
    exact copy_deep hok hO f a (by omega) (by omega) oj (q2.trans hp)
/-! A copy may be a tree -/
theorem copy_node {L : List ApiNode} (hok : allOk L) {i : Nat} (hi : i < L.length) {q : Nat} {nd : ApiNode} (h : (copyP L (i : Int) [])[q]? = some nd) : ∃ (m : Nat) (n : ApiNode) (R : List Int), L[m]? = some n ∧ nd = withP n R ∧ R.length = (kidsP n).length ∧ inL q R ∧
    ∀ (j : Nat) k x, (kidsP n)[j]? = some k → R[j]? = some x → ∃ oj, copyP L k oj <+: copyP L (i : Int) [] ∧ x = lastI (copyP L k oj) := by
  obtain ⟨m, o', h1, h2, h3⟩ := copy_at hok (i + 1) i (by omega) hi [] q (by simp) (getLt h)
  obtain ⟨n, hn⟩ := getI2 h1
  obtain ⟨R, r1, r2, r3, r4⟩ := copy_last hok hn o'
  rw [show (copyP L (m : Int) o').length - 1 = q by omega] at r1 r3
  have := pre_get h2 r1
  rw [h] at this
  refine ⟨m, n, R, hn, Option.some.inj this, r2, r3, fun j k x hk hx => ?_⟩
  obtain ⟨oj, q1, q2, q3⟩ := r4 j k x hk hx
  exact ⟨oj, q2.trans h2, q3⟩
theorem copy_ok {L : List ApiNode} (hok : allOk L) {i : Nat} (hi : i < L.length) : allOk (copyP L (i : Int) []) := by
  intro q nd h
  have hI := ok_inLs hok
  obtain ⟨m, n, R, hn, rfl, r2, r3, r4⟩ := copy_node hok hi h
  have hnp := noParts_of (hok m n hn).1
  refine ⟨withP_right n R hnp r2 (hok m n hn).1, by rw [withP_kids n R hnp r2]; exact r3, fun h8 => ?_⟩
  have hk8 : n.kind = 8 := h8
  obtain ⟨y, hy, hy5⟩ := (hok m n hn).2.2 hk8
  have hab : abcN n.kind = 2 := by rw [hk8]; rfl
  have hk0 : (kidsP n)[0]? = some n.a := by
    unfold kidsP
    rw [hab]; rfl
  obtain ⟨x, hx⟩ := getI2 (l := R) (i := 0) (by have := getLt hk0; omega)
  have ha : (withP n R).a = x := by
    unfold withP
    simp only
    rw [hab, List.getElem?_take, if_pos (by omega), hx]; rfl
  obtain ⟨oj, q1, q2⟩ := r4 0 n.a x hk0 hx
  have hka := hI m n hn n.a (List.mem_of_getElem? hk0)
  obtain ⟨a, hna⟩ : ∃ a : Nat, n.a = (a : Int) := ⟨n.a.toNat, by omega⟩
  rw [hna, Int.toNat_natCast] at hy
  rw [hna] at q1 q2
  have hmore := copy_more hI (getLt hy) oj
  obtain ⟨R2, s1, s2, s3, s4⟩ := copy_last hok hy oj
  refine ⟨withP y R2, ?_, hy5⟩
  rw [ha, q2]
  unfold lastI
  rw [show (((copyP L (a : Int) oj).length : Int) - 1).toNat = (copyP L (a : Int) oj).length - 1 by omega]
  exact pre_get q1 s1
/-! Each has one parent -/
def cK (x : Int) (c : List ApiNode) : Nat := (c.map fun nd => (kidsP nd).count x).sum
theorem cK_app (x : Int) (a b : List ApiNode) : cK x (a ++ b) = cK x a + cK x b := by
  unfold cK; rw [List.map_append, List.sum_append]
theorem cK_range (x : Int) (c : List ApiNode) : ((List.range c.length).map fun (p : Nat) => (kidsAt c (p : Int)).count x).sum = cK x c := by
  unfold cK
  congr 1
  refine List.ext_getElem? fun j => ?_
  rw [List.getElem?_map, List.getElem?_map]
  by_cases hj : j < c.length
  · obtain ⟨n, hn⟩ := getI2 hj
    rw [List.getElem?_range hj, hn]
    show some ((kidsAt c (j : Int)).count x) = some ((kidsP n).count x)
    rw [kidsAt_s hn]
  · rw [List.getElem?_eq_none (by simp; omega), List.getElem?_eq_none (by omega)]; rfl
def inR (x a b : Int) : Nat := if a ≤ x ∧ x < b then 1 else 0
theorem fold_cnt {L : List ApiNode} {n : ApiNode} (x : Int) (hm : ∀ k ∈ kidsP n, ∀ o, o <+: copyP L k o ∧ o.length < (copyP L k o).length) (hc : ∀ k ∈ kidsP n, ∀ o, cK x (copyP L k o) = cK x o + inR x o.length (lastI (copyP L k o))) : ∀ (ks acc : List Int) (o : List ApiNode), (∀ k ∈ ks, k ∈ kidsP n) →
    cK x (ks.foldl (stepC (copyP L)) (acc, o)).2 + (ks.foldl (stepC (copyP L)) (acc, o)).1.count x = cK x o + acc.count x + inR x o.length (ks.foldl (stepC (copyP L)) (acc, o)).2.length
  | [], acc, o, _ => by
    simp only [List.foldl_nil]
    unfold inR
    rw [if_neg (by omega)]; rfl
  | k :: ks, acc, o, h => by
    have hk := h k (by simp)
    have h1 := (hm k hk o).2
    have h2 := hc k hk o
    have ih := fold_cnt x hm hc ks (acc ++ [lastI (copyP L k o)]) (copyP L k o) fun y hy => h y (by simp [hy])
    have hpre := (fold_pre (n := n) (fun k o hk => (hm k hk o).1) ks (acc ++ [lastI (copyP L k o)], copyP L k o) fun x hx => h x (by simp [hx])).length_le
    simp only at hpre
    show cK x (ks.foldl (stepC (copyP L)) (acc ++ [lastI (copyP L k o)], copyP L k o)).2 + (ks.foldl (stepC (copyP L)) (acc ++ [lastI (copyP L k o)], copyP L k o)).1.count x = _ + inR x o.length (ks.foldl (stepC (copyP L)) (acc ++ [lastI (copyP L k o)], copyP L k o)).2.length
    rw [ih, h2, List.count_append, List.count_singleton]
    generalize (ks.foldl (stepC (copyP L)) (acc ++ [lastI (copyP L k o)], copyP L k o)).2.length = e at *
    generalize hE : (copyP L k o).length = c at *
    unfold lastI
    rw [hE]
    have e1 : (if (((c : Int) - 1) == x) = true then 1 else 0 : Nat) = if (c : Int) - 1 = x then 1 else 0 := by
      by_cases hx : (c : Int) - 1 = x
      · rw [if_pos hx, if_pos (by simpa using hx)]
      · rw [if_neg hx, if_neg (by simpa using hx)]
    rw [e1]
    unfold inR
    repeat' split
    all_goals omega
theorem copy_cnt {L : List ApiNode} (hok : allOk L) (x : Int) : ∀ (f i : Nat), i < f → i < L.length → ∀ o, cK x (copyP L (i : Int) o) = cK x o + inR x o.length (lastI (copyP L (i : Int) o))
  | 0, i, h, _, _ => by omega
  | f + 1, i, hf, hi, o => by
    obtain ⟨n, hn⟩ := getI2 hi
    have hI := ok_inLs hok
    have hnp := noParts_of (hok i n hn).1
    have hfl := fold_len (L := L) (kidsP n) ([], o) (copy_len2 hI hn)
    have := fold_cnt (n := n) x (kids_more hI hn) (fun k hk o => by
      have := hI i n hn k hk
      obtain ⟨m, rfl⟩ : ∃ m : Nat, k = (m : Int) := ⟨k.toNat, by omega⟩
      exact copy_cnt hok x f m (by omega) (by omega) o) (kidsP n) [] o fun k hk => hk
    rw [copy_rec hI hn, cK_app]
    unfold lastI
    rw [List.length_append]
    simp only [List.length_cons, List.length_nil, List.count_nil, Nat.add_zero, Nat.zero_add] at this ⊢
    rw [show (((((kidsP n).foldl (stepC (copyP L)) ([], o)).2.length + 1 : Nat) : Int) - 1) = (((kidsP n).foldl (stepC (copyP L)) ([], o)).2.length : Int) by omega, ← this]
    show _ + ((kidsP (withP n _)).count x + 0) = _
    rw [withP_kids n _ hnp (by rw [hfl.2]; simp)]
    rfl
theorem copy_one {L : List ApiNode} (hok : allOk L) {i : Nat} (hi : i < L.length) : ¬ odd1 (copyP L (i : Int) []) := by
  have hI := ok_inLs hok
  rintro ⟨c, hc, hne⟩
  obtain ⟨j, hj, hx⟩ := List.getElem_of_mem hc
  rw [List.length_take, cntU_len] at hj
  have hI2 := ok_inLs (copy_ok hok hi)
  have h1 := cntU_gd (copyP L (i : Int) []) hI2 (j : Int) (by omega) _ (Nat.le_refl _)
  rw [cK_range, copy_cnt hok (j : Int) (i + 1) i (by omega) hi []] at h1
  have h2 : gd (cntU (copyP L (i : Int) []) (copyP L (i : Int) []).length) (j : Int) = c := by
    have : (((cntU (copyP L (i : Int) []) (copyP L (i : Int) []).length).take ((copyP L (i : Int) []).length - 1)))[j]? = some c := by
      rw [← hx]; exact List.getElem?_eq_getElem _
    rw [List.getElem?_take, if_pos (by omega)] at this
    unfold gd
    rw [Int.toNat_natCast, this]; rfl
  rw [h2] at h1
  unfold inR lastI at h1
  rw [if_pos (by simp only [List.length_nil]; omega)] at h1
  apply hne
  rw [h1]; rfl
/-- The normal form of a tree may be, and is its own. -/
theorem norm_may {e : ApiExpr} (hl : e.l.length ≤ 700) (hN : ∀ n ∈ e.l, NB n) (h : mayT e.l = 0) : mayT (normT e).1.l = 0 ∧ (normT (normT e).1).1 = (normT e).1 := by
  obtain ⟨ht, h1⟩ := mayT_tree hl hN h
  obtain ⟨n1, n2⟩ := normT_nb e hl hN
  have hI := ok_inLs ht.ok
  have hi : e.l.length - 1 < e.l.length := by omega
  have hE : (normT e).1 = ⟨copyP e.l ((e.l.length - 1 : Nat) : Int) []⟩ := by unfold normT; rw [if_pos h]
  have hok := copy_ok ht.ok hi
  have hone := copy_one ht.ok hi
  have hmore := copy_more hI hi []
  have hlen := copy_len hI _ _ (Nat.lt_succ_self _) hi []
  have hpl := post_len hI ht.one _ hi
  have h600 := (mayT_ok h).2.1
  simp only [List.length_nil] at hlen hmore
  have hd := copy_deep ht.ok (ok_inLs hok) _ _ (Nat.lt_succ_self _) hi [] (List.prefix_refl _)
  have hcc := copy_copy ht.ok (ok_inLs hok) _ _ (Nat.lt_succ_self _) hi [] (List.prefix_refl _) []
  rw [hE]
  have hm : mayT (copyP e.l ((e.l.length - 1 : Nat) : Int) []) = 0 := by
    unfold mayT
    rw [if_neg (by omega), if_neg (fun q => q hok), if_neg hone, if_neg]
    unfold mayT at h
    rw [if_neg (by omega), if_neg (fun q => q ht.ok)] at h
    by_cases ho : odd1 e.l
    · rw [if_pos ho] at h; omega
    · rw [if_neg ho] at h
      by_cases h100 : 100 < gd (depU e.l e.l.length) ((e.l.length : Int) - 1)
      · rw [if_pos h100] at h; omega
      · unfold lastI at hd
        rw [hd, show ((e.l.length - 1 : Nat) : Int) = (e.l.length : Int) - 1 by omega]
        exact h100
  refine ⟨hm, ?_⟩
  unfold normT
  rw [if_pos hm]
  simp only
  unfold lastI at hcc
  rw [show (((copyP e.l ((e.l.length - 1 : Nat) : Int) []).length - 1 : Nat) : Int) = ((copyP e.l ((e.l.length - 1 : Nat) : Int) []).length : Int) - 1 by omega, hcc]
/-! Joined trees -/
theorem joinK (s : List ApiNode) (l : List Int) (hl : l.length ≤ 63) (hs : s.length ≤ 100000) (hb : ∀ x ∈ l, 0 ≤ x ∧ x ≤ 100000) : m_tree_Join_l3 s l FU (0, l) = some (l.map (· + (s.length : Int))) := by
  obtain ⟨r, h1, h2⟩ := loop_rng (φ := fun n j t => m_tree_Join_l3 s l n (j, t)) (l := l) (fun j t => t = (l.take j).map (· + (s.length : Int)) ++ l.drop j) (fun r => r = l.map (· + (s.length : Int))) (by
    rintro n j x t hx hj rfl
    have hd : l.drop j = x :: l.drop (j + 1) := by
      obtain ⟨hi2, hx2⟩ := List.getElem?_eq_some_iff.1 hx
      rw [List.drop_eq_getElem_cons hi2, hx2]
    have hzl : ((l.take j).map (· + (s.length : Int))).length = j := by simp; omega
    have hsi : ((l.take j).map (· + (s.length : Int)) ++ l.drop j)[j]? = some x := by
      rw [List.getElem?_append_right (by omega), hzl, Nat.sub_self, hd]; rfl
    have hx2 := hb x (List.mem_of_getElem? hx)
    simp only [m_tree_Join_l3]
    rw [decide_eq_true (show (j : Int) < l.length by omega), cond_true, getI hsi, Option.bind_some, grd_pos (by omega), Option.bind_some, grd_pos (by omega)]
    refine .inl ⟨_, rfl, ?_⟩
    rw [Int.toNat_natCast, List.set_append_right _ _ (by omega), hzl, Nat.sub_self, hd, List.set_cons_zero, take_snoc hx, List.map_append, List.append_assoc]
    rfl) (by
    rintro n t rfl
    simp only [m_tree_Join_l3]
    rw [decide_eq_false (by omega), cond_false, List.take_length, List.drop_length, List.append_nil]
    exact ⟨_, rfl, rfl⟩) (by rw [FUv]; omega) l (by simp)
  rw [h1, h2]
structure NodeOk (n : ApiNode) : Prop where
  nb : NB n
  np : noParts n
  kb : ∀ k ∈ kidsP n, 0 ≤ k ∧ k ≤ 100000
theorem joinL (s : List ApiNode) (x : ApiExpr) (hs : s.length + x.l.length ≤ 100000) (hx : ∀ n ∈ x.l, NodeOk n) : m_tree_Join_l2 s x FU (0, s) = some (s ++ x.l.map (sh s.length)) := by
  obtain ⟨r, h1, h2⟩ := loop_rng (φ := fun n j t => m_tree_Join_l2 s x n (j, t)) (l := x.l) (fun j t => t = s ++ (x.l.take j).map (sh s.length)) (fun r => r = s ++ x.l.map (sh s.length)) (by
    rintro f j n t hn hj rfl
    have hk := hx n (List.mem_of_getElem? hn)
    have hzl : ((x.l.take j).map (sh s.length)).length = j := by simp; omega
    simp only [m_tree_Join_l2]
    rw [decide_eq_true (show (j : Int) < x.l.length by omega), cond_true, getI hn, Option.bind_some]
    rw [show m_tree_KidsO (⟨n.kind, n.a, n.b, n.c, n.n_, n.name, n.s, n.l, n.pos⟩ : ApiNode) = m_tree_KidsO n from rfl, kidsO_eq n hk.nb, Option.bind_some, joinK s (kidsP n) (kids_len n hk.nb) (by omega) hk.kb, Option.bind_some]
    rw [show m_tree_with (⟨n.kind, n.a, n.b, n.c, n.n_, n.name, n.s, n.l, n.pos⟩ : ApiNode) ((kidsP n).map (· + (s.length : Int))) = m_tree_with n ((kidsP n).map (· + (s.length : Int))) from rfl, with_eq n _ hk.nb hk.np (by simp), Option.bind_some, grd_pos (by rw [List.length_append, hzl]; simp only [List.length_cons, List.length_nil]; omega), grd_pos (by omega)]
    refine .inl ⟨_, rfl, ?_⟩
    rw [take_snoc hn, List.map_append, List.append_assoc]
    rfl) (by
    rintro n t rfl
    simp only [m_tree_Join_l2]
    rw [decide_eq_false (by omega), cond_false, List.take_length]
    exact ⟨_, rfl, rfl⟩) (by rw [FUv]; omega) s (by simp)
  rw [h1, h2]
theorem copy_nodes {e : ApiExpr} (h : TreeOk e) {i : Nat} (hi : i < e.l.length) : (copyP e.l (i : Int) []).length ≤ 700 ∧ ∀ n ∈ copyP e.l (i : Int) [], NodeOk n := by
  have hI := ok_inLs h.ok
  have hl := copy_len hI _ _ (Nat.lt_succ_self i) hi []
  have hp := post_len hI h.one i hi
  have h7 := h.len
  simp only [List.length_nil] at hl
  refine ⟨by omega, fun n hn => ?_⟩
  obtain ⟨q, hq, hx⟩ := List.getElem_of_mem hn
  obtain ⟨m, n2, R, h1, h2, h3, h4, _⟩ := copy_node h.ok hi (q := q) (nd := n) (by rw [← hx]; exact List.getElem?_eq_getElem hq)
  subst h2
  have hnp := noParts_of (h.ok m n2 h1).1
  refine ⟨withP_nb n2 R (h.nb n2 (List.mem_of_getElem? h1)), withP_noParts n2 R, fun k hk => ?_⟩
  rw [withP_kids n2 R hnp h3] at hk
  have := h4 k hk
  omega
def subL (e : ApiExpr) (ks : List Int) : List ApiExpr := ks.map fun k => ⟨copyP e.l k []⟩
theorem joinT {e : ApiExpr} (h : TreeOk e) {i : Nat} {n : ApiNode} (hn : e.l[i]? = some n) : m_tree_Join n (subL e (kidsP n)) = some ⟨copyP e.l (i : Int) []⟩ := by
  have hI := ok_inLs h.ok
  have hi := getLt hn
  have hNn := h.nb n (List.mem_of_getElem? hn)
  have hkl := kids_len n hNn
  have hnp := noParts_of (h.ok i n hn).1
  have hfl := fold_len (L := e.l) (kidsP n) ([], []) (copy_len2 hI hn)
  have hpr := post_rec hI hn
  have hpl := post_len hI h.one i hi
  have h7 := h.len
  rw [hpr, List.length_append] at hpl
  simp only [List.length_cons, List.length_nil, Nat.zero_add] at hpl hfl
  unfold m_tree_Join
  obtain ⟨r, h1, h2⟩ := loop_rng (φ := fun f j (t : List Int × List ApiNode) => m_tree_Join_l1 (subL e (kidsP n)) f (j, t.1, t.2)) (l := kidsP n) (fun j t => t = ((kidsP n).take j).foldl (stepC (copyP e.l)) ([], [])) (fun r => r = (kidsP n).foldl (stepC (copyP e.l)) ([], [])) (by
    rintro f j k t hk hj rfl
    have hkk := hI i n hn k (List.mem_of_getElem? hk)
    have hff := fold_len (L := e.l) ((kidsP n).take j) ([], []) (fun k hk => copy_len2 hI hn k (List.mem_of_mem_take hk))
    have hj2 : ((kidsP n).take j).length = j := by simp; omega
    have hsz : (((kidsP n).take (j + 1)).flatMap (post e.l)).length ≤ ((kidsP n).flatMap (post e.l)).length := by
      have : (kidsP n).flatMap (post e.l) = ((kidsP n).take (j + 1)).flatMap (post e.l) ++ ((kidsP n).drop (j + 1)).flatMap (post e.l) := by
        rw [← List.flatMap_append, List.take_append_drop]
      rw [this, List.length_append]; omega
    rw [take_snoc hk, List.flatMap_append, List.length_append] at hsz
    simp only [List.flatMap_cons, List.flatMap_nil, List.append_nil, List.length_nil, Nat.zero_add] at hsz hff
    have hsub : (subL e (kidsP n))[j]? = some ⟨copyP e.l k []⟩ := by
      unfold subL
      rw [List.getElem?_map, hk]; rfl
    have hsl : (subL e (kidsP n)).length = (kidsP n).length := by unfold subL; simp
    have hcl := copy_len2 hI hn k (List.mem_of_getElem? hk) (((kidsP n).take j).foldl (stepC (copyP e.l)) ([], [])).2
    have hc0 := copy_len2 hI hn k (List.mem_of_getElem? hk) []
    simp only [List.length_nil, Nat.zero_add] at hc0
    have hno : ∀ m ∈ copyP e.l k [], NodeOk m := by
      obtain ⟨a, rfl⟩ : ∃ a : Nat, k = (a : Int) := ⟨k.toNat, by omega⟩
      exact (copy_nodes h (by omega)).2
    have hsh : (((kidsP n).take j).foldl (stepC (copyP e.l)) ([], [])).2 ++ (copyP e.l k []).map (sh (((kidsP n).take j).foldl (stepC (copyP e.l)) ([], [])).2.length) = copyP e.l k (((kidsP n).take j).foldl (stepC (copyP e.l)) ([], [])).2 := by
      obtain ⟨a, rfl⟩ : ∃ a : Nat, k = (a : Int) := ⟨k.toNat, by omega⟩
      have := copy_sh h.ok (((kidsP n).take j).foldl (stepC (copyP e.l)) ([], [])).2 (a + 1) a (by omega) (by omega) []
      rw [List.map_nil, List.append_nil] at this
      exact this.symm
    have hjl := joinL (((kidsP n).take j).foldl (stepC (copyP e.l)) ([], [])).2 ⟨copyP e.l k []⟩ (show _ + (copyP e.l k []).length ≤ 100000 by omega) hno
    simp only [m_tree_Join_l1]
    rw [decide_eq_true (show (j : Int) < (subL e (kidsP n)).length by omega), cond_true, getI hsub, Option.bind_some, hjl, Option.bind_some]
    dsimp only
    rw [hsh, grd_pos (by omega), grd_pos (by simp only [List.length_cons, List.length_nil]; omega), grd_pos (by omega)]
    refine .inl ⟨(_, _), rfl, ?_⟩
    rw [take_snoc hk, List.foldl_append]; rfl) (by
    rintro f t rfl
    have hsl : (subL e (kidsP n)).length = (kidsP n).length := by unfold subL; simp
    simp only [m_tree_Join_l1]
    rw [decide_eq_false (by omega), cond_false, List.take_length]
    exact ⟨_, rfl, rfl⟩) (by rw [FUv]; omega) ([], []) rfl
  rw [h1, h2, Option.bind_some]
  dsimp only
  rw [with_eq n _ hNn hnp hfl.2, Option.bind_some, grd_pos (by simp only [List.length_cons, List.length_nil]; omega), copy_rec hI hn]
/-! The law -/
theorem among_eq (x : Int) (n : Nat) (h : 1 ≤ n) (h2 : n ≤ 700) : ∃ r : Nat, m_syntagmabase_Among x (n : Int) = some (r : Int) ∧ r < n := by
  unfold m_syntagmabase_Among
  have hw : IntKind.u64.wrap (n : Int) = (n : Int) := u64w (by omega)
  rw [decide_eq_false (by omega), cond_false, hw, grd_pos (by omega)]
  have h0 : 0 ≤ IntKind.u64.wrap x := by
    simp [IntKind.wrap, IntKind.bits, IntKind.signed]; omega
  have h3 := Int.tmod_nonneg (n : Int) h0
  have h4 := Int.tmod_lt_of_pos (IntKind.u64.wrap x) (show (0 : Int) < (n : Int) by omega)
  refine ⟨(Int.tmod (IntKind.u64.wrap x) (n : Int)).toNat, ?_, by omega⟩
  rw [i64w (by omega)]
  congr 1
  omega
theorem staysL (e : ApiExpr) (ks : List Int) (h : TreeOk e) (hm : mayT e.l = 0) (hk : ks.length ≤ 63) (hI : inL e.l.length ks) : m_syntagmalaw05_TreeStays_l1 e ks FU (0, []) = some (Out.go (subL e ks)) := by
  refine (loop_map (φ := fun n i s => m_syntagmalaw05_TreeStays_l1 e ks n (i, s)) (l := ks) (fun k => (⟨copyP e.l k []⟩ : ApiExpr)) Out.go 0 ?_ ?_ (by rw [FUv]; omega) [] rfl).trans rfl
  · intro n i x s hx hi hs
    have hq := hI x (List.mem_of_getElem? hx)
    simp only [m_syntagmalaw05_TreeStays_l1]
    rw [decide_eq_true (show (i : Int) < ks.length by omega), cond_true, getI hx, Option.bind_some, show m_tree_Sub (⟨e.l⟩ : ApiExpr) x = some (subT e x) from tsub_eq e x h.len h.nb, subT_2 e x hm, if_neg (by omega), Option.bind_some]
    dsimp only
    rw [decide_eq_true rfl, Bool.not_true, cond_false, grd_pos (by simp only [List.length_cons, List.length_nil]; omega), grd_pos (by omega)]
  · intro n s hs
    simp only [m_syntagmalaw05_TreeStays_l1]
    rw [decide_eq_false (by omega), cond_false]
theorem law_TreeStays (a : ApiExpr) (i : Int) : m_syntagmalaw05_TreeStays a i = some true := by
  unfold m_syntagmalaw05_TreeStays
  have hl := fewE_len a
  have hN := fewE_nb a
  rw [works_eq, Option.bind_some, Bool.not_true, cond_false, show m_syntagmalaw05_Few (⟨a.l⟩ : ApiExpr) = some (fewE a) from few_eq a, Option.bind_some, show (⟨(fewE a).l⟩ : ApiExpr) = fewE a from rfl]
  generalize fewE a = x at *
  rw [norm_eq2 x hl hN, Option.bind_some]
  dsimp only
  by_cases h : mayT x.l = 0
  · obtain ⟨ht, h1⟩ := mayT_tree hl hN h
    have hI := ok_inLs ht.ok
    obtain ⟨n1, n2⟩ := normT_nb x hl hN
    obtain ⟨m1, m2⟩ := norm_may hl hN h
    rw [decide_eq_true h, Bool.not_true, cond_false, show m_tree_Norm (⟨(normT x).1.l⟩ : ApiExpr) = some ((normT (normT x).1).1, mayT (normT x).1.l) from norm_eq2 _ n1 n2, Option.bind_some]
    dsimp only
    rw [m2, m1, decide_eq_true rfl, Bool.not_true, cond_false, show m_syntagmaref05_SameList (⟨(normT x).1.l⟩ : ApiExpr) (⟨(normT x).1.l⟩ : ApiExpr) = some (decide (sameL (normT x).1.l (normT x).1.l)) from sameList_eq _ _ (show (normT x).1.l.length ≤ 1000 by omega) n2, Option.bind_some, decide_eq_true (sameL_refl _), Bool.not_true, Option.bind_some, cond_false]
    have hs : sameT x (normT x).1 = true := by
      unfold sameT
      rw [decide_eq_true h, decide_eq_true m1, m2, decide_eq_true (sameL_refl _)]; rfl
    rw [show m_tree_Same x (⟨(normT x).1.l⟩ : ApiExpr) = some (sameT x (normT x).1) from same_eq x (normT x).1 hl hN n1 n2, hs, Option.bind_some, Bool.not_true, Option.bind_some, cond_false]
    obtain ⟨r, r1, r2⟩ := among_eq i x.l.length h1 hl
    obtain ⟨n, hn⟩ := getI2 r2
    have hNn := hN n (List.mem_of_getElem? hn)
    obtain ⟨c1, c2⟩ := copy_nodes ht r2
    have e1 := sameList_eq ⟨copyP x.l (r : Int) []⟩ ⟨copyP x.l (r : Int) []⟩ (show (copyP x.l (r : Int) []).length ≤ 1000 by omega) (fun n hn => (c2 n hn).nb)
    rw [r1, Option.bind_some, getI hn, Option.bind_some, kids_eq n hNn, Option.bind_some, staysL x (kidsP n) ht h (kids_len n hNn) (fun k hk => by have := hI r n hn k hk; omega), Option.bind_some, go_on, tsub_eq x (r : Int) hl hN, subT_2 x (r : Int) h, if_neg (by omega), Option.bind_some]
    dsimp only
    rw [decide_eq_true rfl, cond_true, Option.bind_some, joinT ht hn, Option.bind_some, e1, Option.bind_some, decide_eq_true (sameL_refl _)]
  · rw [decide_eq_false h, Bool.not_false, cond_true]
    unfold normT
    rw [if_neg h]
    rfl
end Go.Proofs.Ytnnjgbcojdnhhaa
