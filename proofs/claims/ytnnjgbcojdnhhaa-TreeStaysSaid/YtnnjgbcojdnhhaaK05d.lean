/- Part K05d of the proof: contracts of the functions that are walked, and what they compute; no condition. -/
import Derived.Test.YtnnjgbcojdnhhaaK05c
set_option linter.unusedVariables false
set_option linter.unusedSimpArgs false
set_option maxRecDepth 100000
namespace Go.Proofs.Ytnnjgbcojdnhhaa
open Go.V
open Classical
/-! The walk below a node -/
theorem walkL (L : ApiExpr) (self : Int → Option (List Int)) (i : Int) (ks : List Int) (hs : ∀ k ∈ ks, self k = some (post L.l k)) (hl : ks.length ≤ 63) : ∀ (f j : Nat) (t : List Int), ks.drop j = t → j ≤ ks.length → ks.length - j < f →
    m_below_walk_l1 self i ks f (j : Int) = some (t.flatMap (post L.l) ++ [i])
  | 0, j, t, _, _, h => by omega
  | f + 1, j, [], ht, hj, h => by
    have := drop_len ht hj
    simp only [List.length_nil] at this
    simp only [m_below_walk_l1]
    rw [decide_eq_false (by omega), cond_false]
    rfl
  | f + 1, j, x :: t, ht, hj, h => by
    have hL := drop_len ht hj
    simp only [List.length_cons] at hL
    have hx : ks[j]? = some x := by
      have := congrArg (·[0]?) ht
      simpa [List.getElem?_drop] using this
    have ih := walkL L self i ks hs hl f (j + 1) t (drop_c ht) (by omega) (by omega)
    simp only [m_below_walk_l1]
    rw [decide_eq_true (show (j : Int) < ks.length by omega), cond_true, getI hx, Option.bind_some, hs x (List.mem_of_getElem? hx), Option.bind_some, grd_pos (by omega), show ((j : Int) + 1) = ((j + 1 : Nat) : Int) by omega, ih, Option.bind_some, List.flatMap_cons, List.append_assoc]
theorem walk_eq (e : ApiExpr) (hN : ∀ n ∈ e.l, NB n) (hI : inLs e.l) : ∀ (f i : Nat), i < f → i < e.l.length → m_below_walk e f (i : Int) = some (post e.l (i : Int))
  | 0, i, h, _ => by omega
  | f + 1, i, h, hi => by
    obtain ⟨n, hn⟩ := getI2 hi
    have hNn := hN n (List.mem_of_getElem? hn)
    have hkl := kids_len n hNn
    show m_below_walkF (m_below_walk e f) (i : Int) e = _
    unfold m_below_walkF
    rw [getI hn, Option.bind_some, kids_eq n hNn, Option.bind_some, post_rec hI hn]
    exact walkL e (m_below_walk e f) (i : Int) (kidsP n) (fun k hk => by
      have := hI i n hn k hk
      obtain ⟨m, rfl⟩ : ∃ m : Nat, k = (m : Int) := ⟨k.toNat, by omega⟩
      exact walk_eq e hN hI f m (by omega) (by omega)) hkl FU 0 _ rfl (by omega) (by rw [FUv]; omega)
theorem below_eq (e : ApiExpr) (hN : ∀ n ∈ e.l, NB n) (hI : inLs e.l) (hl : e.l.length ≤ 701) (i : Nat) (hi : i < e.l.length) : m_below e (i : Int) = some (post e.l (i : Int)) := by
  unfold m_below
  rw [walk_eq e hN hI FU i (by rw [FUv]; omega) hi, Option.bind_some, Option.bind_some, List.append_nil]
/-! A copy of what stands below, put behind -/
def lastI (o : List ApiNode) : Int := (o.length : Int) - 1
def stepC (c : Int → List ApiNode → List ApiNode) (s : List Int × List ApiNode) (k : Int) : List Int × List ApiNode := (s.1 ++ [lastI (c k s.2)], c k s.2)
def copyF (L : List ApiNode) : Nat → Int → List ApiNode → List ApiNode
  | 0, _, o => o
  | f + 1, i, o => match L[i.toNat]? with
    | some n => (((kidsP n).foldl (stepC (copyF L f)) ([], o)).2 ++ [withP n ((kidsP n).foldl (stepC (copyF L f)) ([], o)).1])
    | none => o
def copyP (L : List ApiNode) (i : Int) (o : List ApiNode) : List ApiNode := copyF L (i.toNat + 1) i o
theorem fold_congr {c d : Int → List ApiNode → List ApiNode} : ∀ (ks : List Int) (s : List Int × List ApiNode), (∀ k ∈ ks, ∀ o, c k o = d k o) → ks.foldl (stepC c) s = ks.foldl (stepC d) s
  | [], _, _ => rfl
  | k :: ks, s, h => by
    rw [List.foldl_cons, List.foldl_cons, show stepC c s k = stepC d s k by unfold stepC; rw [h k (by simp)]]
    exact fold_congr ks _ fun x hx => h x (by simp [hx])
theorem copyF_eq (L : List ApiNode) (hI : inLs L) : ∀ (f g i : Nat), i < f → i < g → ∀ o, copyF L f (i : Int) o = copyF L g (i : Int) o
  | 0, _, i, h, _, _ => by omega
  | _, 0, i, _, h, _ => by omega
  | f + 1, g + 1, i, hf, hg, o => by
    simp only [copyF, Int.toNat_natCast]
    cases hn : L[i]? with
    | none => rfl
    | some n =>
      simp only
      rw [fold_congr (kidsP n) ([], o) fun k hk o => by
        have := hI i n hn k hk
        obtain ⟨m, rfl⟩ : ∃ m : Nat, k = (m : Int) := ⟨k.toNat, by omega⟩
        exact copyF_eq L hI f g m (by omega) (by omega) o]
theorem copy_rec {L : List ApiNode} (hI : inLs L) {i : Nat} {n : ApiNode} (hn : L[i]? = some n) (o : List ApiNode) : copyP L (i : Int) o = ((kidsP n).foldl (stepC (copyP L)) ([], o)).2 ++ [withP n ((kidsP n).foldl (stepC (copyP L)) ([], o)).1] := by
  have e : copyP L (i : Int) o = copyF L (i + 1) (i : Int) o := rfl
  rw [e]
  simp only [copyF, Int.toNat_natCast]
  rw [hn]
  simp only
  rw [fold_congr (d := copyP L) (kidsP n) ([], o) fun k hk o => by
    have := hI i n hn k hk
    obtain ⟨m, rfl⟩ : ∃ m : Nat, k = (m : Int) := ⟨k.toNat, by omega⟩
    exact copyF_eq L hI i (m + 1) m (by omega) (by omega) o]
theorem fold_len {L : List ApiNode} : ∀ (ks : List Int) (s : List Int × List ApiNode), (∀ k ∈ ks, ∀ o, (copyP L k o).length = o.length + (post L k).length) → (ks.foldl (stepC (copyP L)) s).2.length = s.2.length + (ks.flatMap (post L)).length ∧ (ks.foldl (stepC (copyP L)) s).1.length = s.1.length + ks.length
  | [], s, _ => by simp
  | k :: ks, s, h => by
    have ih := fold_len ks (stepC (copyP L) s k) fun x hx => h x (by simp [hx])
    have h0 := h k (by simp) s.2
    rw [List.foldl_cons, List.flatMap_cons, ih.1, ih.2]
    unfold stepC
    simp only [List.length_append, List.length_cons, List.length_nil]
    omega
theorem copy_len {L : List ApiNode} (hI : inLs L) : ∀ (f i : Nat), i < f → i < L.length → ∀ o, (copyP L (i : Int) o).length = o.length + (post L (i : Int)).length
  | 0, i, h, _, _ => by omega
  | f + 1, i, hf, hi, o => by
    obtain ⟨n, hn⟩ := getI2 hi
    rw [copy_rec hI hn, post_rec hI hn, List.length_append, List.length_append, (fold_len (kidsP n) ([], o) fun k hk o => by
      have := hI i n hn k hk
      obtain ⟨m, rfl⟩ : ∃ m : Nat, k = (m : Int) := ⟨k.toNat, by omega⟩
      exact copy_len hI f m (by omega) (by omega) o).1]
    simp only [List.length_cons, List.length_nil]
    omega
theorem copy_len2 {L : List ApiNode} (hI : inLs L) {i : Nat} {n : ApiNode} (hn : L[i]? = some n) : ∀ k ∈ kidsP n, ∀ o, (copyP L k o).length = o.length + (post L k).length := by
  intro k hk o
  have := hI i n hn k hk
  have hi := getLt hn
  obtain ⟨m, rfl⟩ : ∃ m : Nat, k = (m : Int) := ⟨k.toNat, by omega⟩
  exact copy_len hI (m + 1) m (by omega) (by omega) o
theorem noParts_of {n : ApiNode} (h : rightB n = true) : noParts n := by
  intro hp
  unfold rightB at h
  simp only [Bool.and_eq_true] at h
  have h2 := h.2.1.2
  rw [parted_no n hp] at h2
  simp only [Bool.not_eq_true', decide_eq_false_iff_not] at h2
  exact List.length_eq_zero_iff.1 (by omega)
/-! The document's copy -/
theorem rcopyL (e : ApiExpr) (self : ApiExpr → Int → List ApiNode → Option (List ApiNode)) (ks : List Int) (hl : ks.length ≤ 63) (o : List ApiNode) (hlen : ∀ k ∈ ks, ∀ o, (copyP e.l k o).length = o.length + (post e.l k).length) (hb : o.length + (ks.flatMap (post e.l)).length ≤ 100000)
    (hs : ∀ k ∈ ks, ∀ o : List ApiNode, o.length + (post e.l k).length ≤ 100000 → self e k o = some (copyP e.l k o)) :
    m_syntagmaref05_copyOf_l1 self e ks FU (0, [], o) = some (ks.foldl (stepC (copyP e.l)) ([], o)) := by
  obtain ⟨r, h1, h2⟩ := loop_rng (φ := fun n j (s : List Int × List ApiNode) => m_syntagmaref05_copyOf_l1 self e ks n (j, s.1, s.2)) (l := ks) (fun j s => s = (ks.take j).foldl (stepC (copyP e.l)) ([], o)) (fun r => r = ks.foldl (stepC (copyP e.l)) ([], o)) (by
    rintro n j x s hx hj rfl
    have hf := fold_len (L := e.l) (ks.take j) ([], o) (fun k hk => hlen k (List.mem_of_mem_take hk))
    have hx2 := hlen x (List.mem_of_getElem? hx) ((ks.take j).foldl (stepC (copyP e.l)) ([], o)).2
    have hsz : ((ks.take (j + 1)).flatMap (post e.l)).length ≤ (ks.flatMap (post e.l)).length := by
      have : ks.flatMap (post e.l) = (ks.take (j + 1)).flatMap (post e.l) ++ (ks.drop (j + 1)).flatMap (post e.l) := by
        rw [← List.flatMap_append, List.take_append_drop]
      rw [this, List.length_append]; omega
    rw [take_snoc hx, List.flatMap_append, List.length_append] at hsz
    simp only [List.flatMap_cons, List.flatMap_nil, List.append_nil] at hsz
    have hj2 : (ks.take j).length = j := by simp; omega
    simp only [List.length_nil] at hf
    simp only [m_syntagmaref05_copyOf_l1]
    rw [decide_eq_true (show (j : Int) < ks.length by omega), cond_true, getI hx, Option.bind_some, hs x (List.mem_of_getElem? hx) _ (by omega), Option.bind_some, grd_pos (by omega), grd_pos (by simp only [List.length_cons, List.length_nil]; omega), grd_pos (by omega)]
    refine .inl ⟨(_, _), rfl, ?_⟩
    rw [take_snoc hx, List.foldl_append]; rfl) (by
    rintro n s rfl
    simp only [m_syntagmaref05_copyOf_l1]
    rw [decide_eq_false (by omega), cond_false, List.take_length]
    exact ⟨_, rfl, rfl⟩) (by rw [FUv]; omega) ([], o) rfl
  rw [h1, h2]
theorem rcopy_eq (e : ApiExpr) (hN : ∀ n ∈ e.l, NB n) (hok : allOk e.l) : ∀ (f i : Nat), i < f → i < e.l.length → ∀ o : List ApiNode, o.length + (post e.l (i : Int)).length ≤ 100000 → m_syntagmaref05_copyOf f e (i : Int) o = some (copyP e.l (i : Int) o)
  | 0, i, h, _, _, _ => by omega
  | f + 1, i, h, hi, o, hb => by
    obtain ⟨n, hn⟩ := getI2 hi
    have hI := ok_inLs hok
    have hNn := hN n (List.mem_of_getElem? hn)
    have hkl := kids_len n hNn
    have hpost := post_rec hI hn
    rw [hpost, List.length_append] at hb
    simp only [List.length_cons, List.length_nil] at hb
    have hlen := copy_len2 hI hn
    have hf := fold_len (L := e.l) (kidsP n) ([], o) hlen
    simp only [List.length_nil, Nat.zero_add] at hf
    show m_syntagmaref05_copyOfF (m_syntagmaref05_copyOf f) e (i : Int) o = _
    unfold m_syntagmaref05_copyOfF
    rw [getI hn, Option.bind_some, rkids_eq n hNn, Option.bind_some, rcopyL e _ (kidsP n) hkl o hlen (by omega) (fun k hk o ho => by
      have := hI i n hn k hk
      obtain ⟨m, rfl⟩ : ∃ m : Nat, k = (m : Int) := ⟨k.toNat, by omega⟩
      exact rcopy_eq e hN hok f m (by omega) (by omega) o ho), Option.bind_some]
    simp only
    rw [Option.bind_some, rwith_eq n _ hNn (noParts_of (hok i n hn).1) (by rw [hf.2]), Option.bind_some, grd_pos (by simp only [List.length_cons, List.length_nil]; omega), copy_rec hI hn]
/-! The program's copy -/
theorem subK (mm : List (Int × Int)) (ks : List Int) (h : ks.length ≤ 63) : m_tree_sub_l2 mm ks FU (0, []) = some (ks.map fun k => (mget mm k).getD 0) := by
  refine (loop_map (φ := fun n i s => m_tree_sub_l2 mm ks n (i, s)) (l := ks) (fun k => (mget mm k).getD 0) id 0 ?_ ?_ (by rw [FUv]; omega) [] rfl).trans rfl
  · intro n i x s hx hi hs
    simp only [m_tree_sub_l2]
    rw [decide_eq_true (show (i : Int) < ks.length by omega), cond_true, getI hx, Option.bind_some, grd_pos (by simp only [List.length_cons, List.length_nil]; omega), grd_pos (by omega)]
  · intro n s hs
    simp only [m_tree_sub_l2]
    rw [decide_eq_false (by omega), cond_false]; rfl
def RunOk (e : ApiExpr) (l : List Int) (mm : List (Int × Int)) (o : List ApiNode) (mm' : List (Int × Int)) (o' : List ApiNode) : Prop :=
  (∀ rest, m_tree_sub_r1 e (l ++ rest) (mm, o) = m_tree_sub_r1 e rest (mm', o')) ∧ ∀ x, x ∉ l → mget mm' x = mget mm x
theorem runKs (e : ApiExpr) : ∀ (ks : List Int) (mm : List (Int × Int)) (acc : List Int) (o : List ApiNode), (ks.flatMap (post e.l)).Nodup → (∀ k ∈ ks, k ∈ post e.l k) → (∀ k ∈ ks, ∀ o, (copyP e.l k o).length = o.length + (post e.l k).length) → o.length + (ks.flatMap (post e.l)).length ≤ 100000 →
    (∀ k ∈ ks, ∀ mm o, (post e.l k).Nodup → o.length + (post e.l k).length ≤ 100000 → ∃ mm', RunOk e (post e.l k) mm o mm' (copyP e.l k o) ∧ mget mm' k = some (lastI (copyP e.l k o))) →
    ∃ mm', RunOk e (ks.flatMap (post e.l)) mm o mm' (ks.foldl (stepC (copyP e.l)) (acc, o)).2 ∧ (ks.foldl (stepC (copyP e.l)) (acc, o)).1 = acc ++ ks.map fun k => (mget mm' k).getD 0
  | [], mm, acc, o, _, _, _, _, _ => ⟨mm, ⟨fun _ => rfl, fun _ _ => rfl⟩, by simp⟩
  | k :: ks, mm, acc, o, hd, hm, hlen, hb, hr => by
    rw [List.flatMap_cons] at hd hb
    have hd2 := List.nodup_append.1 hd
    rw [List.length_append] at hb
    have hl := hlen k (by simp) o
    obtain ⟨m1, ⟨r1, r2⟩, r3⟩ := hr k (by simp) mm o hd2.1 (by omega)
    obtain ⟨m2, ⟨s1, s2⟩, s3⟩ := runKs e ks m1 (acc ++ [lastI (copyP e.l k o)]) (copyP e.l k o) hd2.2.1 (fun x hx => hm x (by simp [hx])) (fun x hx => hlen x (by simp [hx])) (by omega) (fun x hx => hr x (by simp [hx]))
    refine ⟨m2, ⟨fun rest => ?_, fun x hx => ?_⟩, ?_⟩
    · rw [List.flatMap_cons, List.append_assoc, r1, s1]; rfl
    · rw [List.flatMap_cons, List.mem_append] at hx
      rw [s2 x (fun h => hx (.inr h)), r2 x (fun h => hx (.inl h))]
    · have hk : mget m2 k = some (lastI (copyP e.l k o)) := by
        rw [s2 k, r3]
        intro h
        exact hd2.2.2 k (hm k (by simp)) k h rfl
      show (ks.foldl (stepC (copyP e.l)) (acc ++ [lastI (copyP e.l k o)], copyP e.l k o)).1 = _
      rw [s3, List.map_cons, hk, List.append_assoc]; rfl
theorem run_eq (e : ApiExpr) (hN : ∀ n ∈ e.l, NB n) (hok : allOk e.l) : ∀ (f i : Nat), i < f → i < e.l.length → ∀ mm o, (post e.l (i : Int)).Nodup → o.length + (post e.l (i : Int)).length ≤ 100000 →
    ∃ mm', RunOk e (post e.l (i : Int)) mm o mm' (copyP e.l (i : Int) o) ∧ mget mm' (i : Int) = some (lastI (copyP e.l (i : Int) o))
  | 0, i, h, _, _, _, _, _ => by omega
  | f + 1, i, h, hi, mm, o, hd, hb => by
    obtain ⟨n, hn⟩ := getI2 hi
    have hI := ok_inLs hok
    have hNn := hN n (List.mem_of_getElem? hn)
    have hkl := kids_len n hNn
    have hpost := post_rec hI hn
    rw [hpost] at hd hb
    have hd2 := List.nodup_append.1 hd
    rw [List.length_append] at hb
    simp only [List.length_cons, List.length_nil] at hb
    have hlen := copy_len2 hI hn
    have hf := fold_len (L := e.l) (kidsP n) ([], o) hlen
    simp only [List.length_nil, Nat.zero_add] at hf
    obtain ⟨m1, ⟨r1, r2⟩, r3⟩ := runKs e (kidsP n) mm [] o hd2.1 (fun k hk => by
      have := hI i n hn k hk
      obtain ⟨m, rfl⟩ : ∃ m : Nat, k = (m : Int) := ⟨k.toNat, by omega⟩
      obtain ⟨n2, hn2⟩ := getI2 (l := e.l) (i := m) (by omega)
      rw [post_rec hI hn2]; simp) hlen (by omega) (fun k hk mm o h1 h2 => by
      have := hI i n hn k hk
      obtain ⟨m, rfl⟩ : ∃ m : Nat, k = (m : Int) := ⟨k.toNat, by omega⟩
      exact run_eq e hN hok f m (by omega) (by omega) mm o h1 h2)
    rw [List.nil_append] at r3
    refine ⟨mset m1 (i : Int) (((kidsP n).foldl (stepC (copyP e.l)) ([], o)).2.length : Int), ⟨fun rest => ?_, fun x hx => ?_⟩, ?_⟩
    · rw [hpost, List.append_assoc, r1]
      show m_tree_sub_r1 e ((i : Int) :: rest) _ = _
      simp only [m_tree_sub_r1]
      rw [getI hn, Option.bind_some, kids_eq n hNn, Option.bind_some, subK m1 (kidsP n) hkl, Option.bind_some, Option.bind_some, ← r3, with_eq n _ hNn (noParts_of (hok i n hn).1) (by rw [hf.2]), Option.bind_some, grd_pos (by simp only [List.length_cons, List.length_nil]; omega), copy_rec hI hn]
    · rw [hpost, List.mem_append, List.mem_singleton] at hx
      rw [mget_set, if_neg (fun h => hx (.inr h)), r2 x (fun h => hx (.inl h))]
    · rw [mget_set, if_pos rfl, copy_rec hI hn]
      unfold lastI
      rw [List.length_append]
      simp only [List.length_cons, List.length_nil]
      congr 1; omega
/-! What comes of it -/
structure TreeOk (e : ApiExpr) : Prop where
  len : e.l.length ≤ 700
  nb : ∀ n ∈ e.l, NB n
  ok : allOk e.l
  one : one1 e.l
theorem mayT_tree {e : ApiExpr} (hl : e.l.length ≤ 700) (hN : ∀ n ∈ e.l, NB n) (h : mayT e.l = 0) : TreeOk e ∧ 1 ≤ e.l.length := by
  obtain ⟨h1, h2, h3⟩ := mayT_ok h
  refine ⟨⟨hl, hN, h3, one1_of h3 ?_⟩, h1⟩
  intro ho
  unfold mayT at h
  rw [if_neg (by omega), if_neg (fun q => q h3), if_pos ho] at h
  omega
theorem sub_eq {e : ApiExpr} (h : TreeOk e) (i : Nat) (hi : i < e.l.length) : m_tree_sub e (i : Int) = some ⟨copyP e.l (i : Int) []⟩ := by
  have hI := ok_inLs h.ok
  have hpl := post_len hI h.one i hi
  have hl := h.len
  unfold m_tree_sub
  rw [below_eq e h.nb hI (by omega) i hi, Option.bind_some]
  obtain ⟨m1, ⟨r1, _⟩, _⟩ := run_eq e h.nb h.ok (i + 1) i (by omega) hi [] [] (post_nodup hI h.one i hi) (by simp only [List.length_nil]; omega)
  have := r1 []
  rw [List.append_nil] at this
  rw [this]; rfl
theorem rsub_eq {e : ApiExpr} (h : TreeOk e) (i : Nat) (hi : i < e.l.length) : m_syntagmaref05_Sub e (i : Int) = some ⟨copyP e.l (i : Int) []⟩ := by
  have hI := ok_inLs h.ok
  have hpl := post_len hI h.one i hi
  have hl := h.len
  unfold m_syntagmaref05_Sub
  rw [rcopy_eq e h.nb h.ok FU i (by rw [FUv]; omega) hi [] (by simp only [List.length_nil]; omega), Option.bind_some]
theorem copy_nb {L : List ApiNode} (hI : inLs L) (hN : ∀ n ∈ L, NB n) : ∀ (f i : Nat), i < f → i < L.length → ∀ o, (∀ n ∈ o, NB n) → ∀ n ∈ copyP L (i : Int) o, NB n
  | 0, i, h, _, _, _ => by omega
  | f + 1, i, hf, hi, o, ho => by
    obtain ⟨n, hn⟩ := getI2 hi
    have key : ∀ (ks : List Int) (s : List Int × List ApiNode), (∀ k ∈ ks, k ∈ kidsP n) → (∀ n ∈ s.2, NB n) → ∀ n ∈ (ks.foldl (stepC (copyP L)) s).2, NB n := by
      intro ks
      induction ks with
      | nil => intro s _ h; exact h
      | cons k ks ih =>
        intro s hk h
        have := hI i n hn k (hk k (by simp))
        refine ih _ (fun x hx => hk x (by simp [hx])) ?_
        obtain ⟨m, rfl⟩ : ∃ m : Nat, k = (m : Int) := ⟨k.toNat, by omega⟩
        exact copy_nb hI hN f m (by omega) (by omega) s.2 h
    intro x hx
    rw [copy_rec hI hn, List.mem_append, List.mem_singleton] at hx
    rcases hx with hx | rfl
    · exact key (kidsP n) ([], o) (fun k hk => hk) ho x hx
    · have hNn := hN n (List.mem_of_getElem? hn)
      unfold NB at hNn ⊢
      unfold withP
      simp only
      split
      · rw [List.length_zipWith]; omega
      · simp
noncomputable def normT (e : ApiExpr) : ApiExpr × Int := if mayT e.l = 0 then (⟨copyP e.l (((e.l.length - 1 : Nat)) : Int) []⟩, 0) else (⟨[]⟩, mayT e.l)
noncomputable def subT (e : ApiExpr) (i : Int) : ApiExpr × Int := if mayT e.l = 0 then (if i < 0 ∨ (e.l.length : Int) ≤ i then (⟨[]⟩, 3) else (⟨copyP e.l i []⟩, 0)) else (⟨[]⟩, mayT e.l)
theorem norm_eq (e : ApiExpr) (hl : e.l.length ≤ 700) (hN : ∀ n ∈ e.l, NB n) : m_tree_Norm e = some (normT e) := by
  unfold m_tree_Norm normT
  rw [may_eq e (by omega) hN, Option.bind_some]
  by_cases h : mayT e.l = 0
  · obtain ⟨ht, h1⟩ := mayT_tree hl hN h
    rw [decide_eq_true h, if_pos h, Bool.not_true, cond_false, grd_pos (by omega), show ((e.l.length : Int) - 1) = ((e.l.length - 1 : Nat) : Int) by omega, sub_eq ht _ (by omega), Option.bind_some]
  · rw [decide_eq_false h, if_neg h, Bool.not_false, cond_true]
theorem tsub_eq (e : ApiExpr) (i : Int) (hl : e.l.length ≤ 700) (hN : ∀ n ∈ e.l, NB n) : m_tree_Sub e i = some (subT e i) := by
  unfold m_tree_Sub subT
  rw [may_eq e (by omega) hN, Option.bind_some]
  by_cases h : mayT e.l = 0
  · obtain ⟨ht, h1⟩ := mayT_tree hl hN h
    rw [decide_eq_true h, if_pos h, Bool.not_true, cond_false]
    by_cases hi : i < 0 ∨ (e.l.length : Int) ≤ i
    · rw [if_pos hi, show (decide (i < 0) || decide ((e.l.length : Int) ≤ i)) = true by rw [Bool.or_eq_true, decide_eq_true_eq, decide_eq_true_eq]; exact hi, cond_true]
    · rw [if_neg hi, show (decide (i < 0) || decide ((e.l.length : Int) ≤ i)) = false by rw [Bool.or_eq_false_iff, decide_eq_false_iff_not, decide_eq_false_iff_not]; omega, cond_false]
      obtain ⟨m, rfl⟩ : ∃ m : Nat, i = (m : Int) := ⟨i.toNat, by omega⟩
      rw [sub_eq ht m (by omega), Option.bind_some]
  · rw [decide_eq_false h, if_neg h, Bool.not_false, cond_true]
theorem rnorm_eq (e : ApiExpr) (hl : e.l.length ≤ 700) (hN : ∀ n ∈ e.l, NB n) (h : mayT e.l = 0) : m_syntagmaref05_Norm e = some (normT e).1 := by
  obtain ⟨ht, h1⟩ := mayT_tree hl hN h
  unfold m_syntagmaref05_Norm normT
  rw [if_pos h, grd_pos (by omega), show ((e.l.length : Int) - 1) = ((e.l.length - 1 : Nat) : Int) by omega, rsub_eq ht _ (by omega), Option.bind_some]
theorem normT_nb (e : ApiExpr) (hl : e.l.length ≤ 700) (hN : ∀ n ∈ e.l, NB n) : (normT e).1.l.length ≤ 700 ∧ ∀ n ∈ (normT e).1.l, NB n := by
  unfold normT
  by_cases h : mayT e.l = 0
  · obtain ⟨ht, h1⟩ := mayT_tree hl hN h
    have hI := ok_inLs ht.ok
    rw [if_pos h]
    refine ⟨?_, copy_nb hI hN _ _ (Nat.lt_succ_self _) (by omega) [] (by simp)⟩
    have := copy_len hI _ _ (Nat.lt_succ_self _) (show e.l.length - 1 < e.l.length by omega) []
    have h2 := post_len hI ht.one (e.l.length - 1) (by omega)
    simp only [List.length_nil] at this
    simp only
    omega
  · rw [if_neg h]; simp
theorem subT_nb (e : ApiExpr) (i : Int) (hl : e.l.length ≤ 700) (hN : ∀ n ∈ e.l, NB n) : (subT e i).1.l.length ≤ 700 ∧ ∀ n ∈ (subT e i).1.l, NB n := by
  unfold subT
  by_cases h : mayT e.l = 0
  · obtain ⟨ht, h1⟩ := mayT_tree hl hN h
    have hI := ok_inLs ht.ok
    rw [if_pos h]
    by_cases hi : i < 0 ∨ (e.l.length : Int) ≤ i
    · rw [if_pos hi]; simp
    · rw [if_neg hi]
      obtain ⟨m, rfl⟩ : ∃ m : Nat, i = (m : Int) := ⟨i.toNat, by omega⟩
      refine ⟨?_, copy_nb hI hN _ _ (Nat.lt_succ_self _) (by omega) [] (by simp)⟩
      have := copy_len hI _ _ (Nat.lt_succ_self _) (show m < e.l.length by omega) []
      have h2 := post_len hI ht.one m (by omega)
      simp only [List.length_nil] at this
      simp only
      omega
  · rw [if_neg h]; simp
noncomputable def sameT (a b : ApiExpr) : Bool := decide (mayT a.l = 0) && (decide (mayT b.l = 0) && decide (sameL (normT a).1.l (normT b).1.l))
theorem normT_2 (e : ApiExpr) : (normT e).2 = mayT e.l := by
  unfold normT
  by_cases h : mayT e.l = 0
  · rw [if_pos h, h]
  · rw [if_neg h]
theorem norm_eq2 (e : ApiExpr) (hl : e.l.length ≤ 700) (hN : ∀ n ∈ e.l, NB n) : m_tree_Norm e = some ((normT e).1, mayT e.l) := by
  rw [norm_eq e hl hN, ← normT_2]
theorem same_eq (a b : ApiExpr) (hl : a.l.length ≤ 700) (hN : ∀ n ∈ a.l, NB n) (hl2 : b.l.length ≤ 700) (hN2 : ∀ n ∈ b.l, NB n) : m_tree_Same a b = some (sameT a b) := by
  obtain ⟨h1, h2⟩ := normT_nb a hl hN
  unfold m_tree_Same sameT
  rw [norm_eq2 a hl hN, Option.bind_some]
  simp only
  rw [norm_eq2 b hl2 hN2, Option.bind_some]
  simp only
  rw [equalFunc_eq _ _ (by omega) h2]
  cases decide (mayT a.l = 0) <;> cases decide (mayT b.l = 0) <;> rfl
theorem rsame_eq (a b : ApiExpr) (hl : a.l.length ≤ 700) (hN : ∀ n ∈ a.l, NB n) (hl2 : b.l.length ≤ 700) (hN2 : ∀ n ∈ b.l, NB n) : m_syntagmaref05_Same a b = some (sameT a b) := by
  obtain ⟨h1, h2⟩ := normT_nb a hl hN
  unfold m_syntagmaref05_Same sameT
  rw [rmay_eq a (by omega) hN, Option.bind_some]
  by_cases ha : mayT a.l = 0
  · rw [decide_eq_true ha, cond_true, rmay_eq b (by omega) hN2, Option.bind_some]
    by_cases hb : mayT b.l = 0
    · rw [decide_eq_true hb, cond_true, rnorm_eq a hl hN ha, Option.bind_some, rnorm_eq b hl2 hN2 hb, Option.bind_some, sameList_eq _ _ (by omega) h2, Option.bind_some, Bool.true_and, Bool.true_and]
    · rw [decide_eq_false hb]; rfl
  · rw [decide_eq_false ha]; rfl
end Go.Proofs.Ytnnjgbcojdnhhaa
