/- Part K05n of the proof: contracts of the functions that are walked, and what they compute; no condition. -/
import Derived.Test.YtnnjgbcojdnhhaaK05d
set_option linter.unusedVariables false
set_option linter.unusedSimpArgs false
set_option maxRecDepth 100000
namespace Go.Proofs.Ytnnjgbcojdnhhaa
open Go.V
open Classical
theorem works_eq : m_syntagmalaw05_works = some true := by decide +kernel
/-! Parents -/
def setKs (v : Int) (l ks : List Int) : List Int := ks.foldl (fun l k => l.set k.toNat v) l
theorem setKs_len (v : Int) : ∀ (ks l : List Int), (setKs v l ks).length = l.length
  | [], _ => rfl
  | k :: ks, l => by
    show (setKs v (l.set k.toNat v) ks).length = _
    rw [setKs_len v ks]; simp
theorem setKs_snoc (v : Int) (l ks : List Int) (k : Int) : setKs v l (ks ++ [k]) = (setKs v l ks).set k.toNat v := by
  unfold setKs; rw [List.foldl_append]; rfl
theorem setKs_gd (v : Int) : ∀ (ks l : List Int) (x : Int), inL l.length ks → 0 ≤ x → gd (setKs v l ks) x = if x ∈ ks then v else gd l x
  | [], l, x, _, _ => by simp [setKs]
  | k :: ks, l, x, h, hx => by
    have hk := h k (by simp)
    show gd (setKs v (l.set k.toNat v) ks) x = _
    rw [setKs_gd v ks (l.set k.toNat v) x (fun y hy => by have := h y (by simp [hy]); simpa using this) hx]
    by_cases e : x = k
    · subst e
      have := gd_self (l := l) (i := x.toNat) (by omega) v
      rw [show ((x.toNat : Nat) : Int) = x by omega] at this
      rw [this]; simp
    · rw [gd_other (by omega)]
      by_cases hm : x ∈ ks
      · rw [if_pos hm, if_pos (by simp [hm])]
      · rw [if_neg hm, if_neg (by simp [hm, e])]
theorem two1 {L : List ApiNode} (h1 : one1 L) {i j : Nat} {n m : ApiNode} (hn : L[i]? = some n) (hm : L[j]? = some m) {x : Int} (hx : x ∈ kidsP n) (hy : x ∈ kidsP m) : i = j := by
  refine Classical.byContradiction fun hne => ?_
  have hi := getLt hn
  have hj := getLt hm
  have h2 := sum_le_range L.length (fun p => (kidsAt L p).count x) [(i : Int), (j : Int)] (by simp; omega) (by
    intro p hp
    simp only [List.mem_cons, List.not_mem_nil, or_false] at hp
    rcases hp with rfl | rfl <;> omega)
  have h3 := h1 x
  simp only [List.map_cons, List.map_nil, List.sum_cons, List.sum_nil] at h2
  rw [kidsAt_s hn, kidsAt_s hm] at h2
  have := List.count_pos_iff.2 hx
  have := List.count_pos_iff.2 hy
  omega
theorem parK (i : Int) (ks l : List Int) (hl : ks.length ≤ 63) (hI : inL l.length ks) : m_tree_Parents_l2 i ks FU (0, l) = some (setKs i l ks) := by
  obtain ⟨r, h1, h2⟩ := loop_rng (φ := fun n j s => m_tree_Parents_l2 i ks n (j, s)) (l := ks) (fun j s => s = setKs i l (ks.take j)) (fun r => r = setKs i l ks) (by
    rintro n j x s hx hj rfl
    have hq := hI x (List.mem_of_getElem? hx)
    simp only [m_tree_Parents_l2]
    rw [decide_eq_true (show (j : Int) < ks.length by omega), cond_true, getI hx, Option.bind_some, idxD hq.1 (by rw [setKs_len]; omega), Option.bind_some, grd_pos (by omega)]
    refine .inl ⟨_, rfl, ?_⟩
    rw [take_snoc hx, setKs_snoc]) (by
    rintro n s rfl
    simp only [m_tree_Parents_l2]
    rw [decide_eq_false (by omega), cond_false, List.take_length]
    exact ⟨_, rfl, rfl⟩) (by rw [FUv]; omega) l rfl
  rw [h1, h2]
theorem parents_eq (e : ApiExpr) (hl : e.l.length ≤ 700) (hN : ∀ n ∈ e.l, NB n) (h : mayT e.l = 0) : ∃ l, m_tree_Parents e = some l ∧ l.length = e.l.length ∧ gd l (((e.l.length - 1 : Nat)) : Int) = -1 ∧ ∀ (j : Nat) n, e.l[j]? = some n → ∀ x ∈ kidsP n, gd l x = (j : Int) := by
  obtain ⟨ht, h1⟩ := mayT_tree hl hN h
  have hI := ok_inLs ht.ok
  unfold m_tree_Parents
  rw [may_eq e (by omega) hN, Option.bind_some, decide_eq_true h, Bool.not_true, cond_false, Int.toNat_natCast, List.length_replicate, grd_pos (by omega), grd_pos (by omega), grd_pos (by omega), idxD (by omega) (by rw [List.length_replicate]; omega), Option.bind_some, show ((e.l.length : Int) - 1) = ((e.l.length - 1 : Nat) : Int) by omega, Int.toNat_natCast]
  obtain ⟨r, h3, h4⟩ := loop_rng (φ := fun n j s => m_tree_Parents_l1 e n (j, s)) (l := e.l) (fun i s => s.length = e.l.length ∧ gd s (((e.l.length - 1 : Nat)) : Int) = -1 ∧ ∀ (j : Nat) n, j < i → e.l[j]? = some n → ∀ x ∈ kidsP n, gd s x = (j : Int)) (fun l => l.length = e.l.length ∧ gd l (((e.l.length - 1 : Nat)) : Int) = -1 ∧ ∀ (j : Nat) n, e.l[j]? = some n → ∀ x ∈ kidsP n, gd l x = (j : Int)) (by
    rintro m i n s hn hi ⟨q1, q2, q3⟩
    have hNn := hN n (List.mem_of_getElem? hn)
    have hk := hI i n hn
    have hks : inL s.length (kidsP n) := fun k hk2 => by have := hk k hk2; omega
    simp only [m_tree_Parents_l1]
    rw [decide_eq_true (show (i : Int) < e.l.length by omega), cond_true, getI hn, Option.bind_some]
    rw [show m_tree_Kids (⟨n.kind, n.a, n.b, n.c, n.n_, n.name, n.s, n.l, n.pos⟩ : ApiNode) = m_tree_Kids n from rfl, kids_eq n hNn, Option.bind_some, parK (i : Int) (kidsP n) s (kids_len n hNn) hks, Option.bind_some, grd_pos (by omega)]
    refine .inl ⟨_, rfl, by rw [setKs_len]; exact q1, ?_, ?_⟩
    · rw [setKs_gd _ _ _ _ hks (by omega), if_neg, q2]
      intro hm
      have := hk _ hm
      omega
    · intro j x hj hx y hy
      have hy0 := hI j x hx y hy
      rw [setKs_gd _ _ _ _ hks hy0.1]
      by_cases hji : j = i
      · subst hji
        rw [hn] at hx
        rw [if_pos (by rw [Option.some.inj hx]; exact hy)]
      · rw [if_neg (fun hm => hji (two1 ht.one hx hn hy hm)), q3 j x (by omega) hx y hy]) (by
    rintro n s ⟨q1, q2, q3⟩
    simp only [m_tree_Parents_l1]
    rw [decide_eq_false (by omega), cond_false]
    exact ⟨_, rfl, q1, q2, fun j n hn => q3 j n (getLt hn) hn⟩) (by rw [FUv]; omega) ((List.replicate e.l.length 0).set (e.l.length - 1) (-1)) ⟨by simp, gd_self (by simp; omega) _, fun j n hj => by omega⟩
  refine ⟨r, ?_, h4⟩
  rw [h3, Option.bind_some]
theorem parents_no (e : ApiExpr) (hl : e.l.length ≤ 700) (hN : ∀ n ∈ e.l, NB n) (h : ¬ mayT e.l = 0) : m_tree_Parents e = some [] := by
  unfold m_tree_Parents
  rw [may_eq e (by omega) hN, Option.bind_some, decide_eq_false h, Bool.not_false, cond_true]
theorem normsK (ls : List Int) (k : Int) (ks : List Int) (hl : ks.length ≤ 63) (hI : inL ls.length ks) (h : ∀ x ∈ ks, gd ls x = k) : m_syntagmalaw05_TreeNorms_l2 ls k ks FU 0 = some (.go ()) := by
  rw [loop_all (φ := m_syntagmalaw05_TreeNorms_l2 ls k ks) (l := ks) false (fun _ _ => True) ?_ ?_ (by rw [FUv]; omega), if_pos fun _ _ _ => trivial]
  · intro n i x hx hi
    have hq := hI x (List.mem_of_getElem? hx)
    refine ⟨fun _ => ?_, fun hq => absurd trivial hq⟩
    simp only [m_syntagmalaw05_TreeNorms_l2]
    rw [decide_eq_true (show (i : Int) < ks.length by omega), cond_true, getI hx, Option.bind_some, idxD hq.1 hq.2, Option.bind_some, h x (List.mem_of_getElem? hx), decide_eq_true rfl, Bool.not_true, cond_false, grd_pos (by omega)]
  · intro n
    simp only [m_syntagmalaw05_TreeNorms_l2]
    rw [decide_eq_false (by omega), cond_false]
theorem normsL (e : ApiExpr) (ls : List Int) (hl : e.l.length ≤ 700) (hN : ∀ n ∈ e.l, NB n) (hI : inLs e.l) (hls : ls.length = e.l.length) (h : ∀ (j : Nat) n, e.l[j]? = some n → ∀ x ∈ kidsP n, gd ls x = (j : Int)) : m_syntagmalaw05_TreeNorms_l1 e ls FU 0 = some (.go ()) := by
  rw [loop_all (φ := m_syntagmalaw05_TreeNorms_l1 e ls) (l := e.l) false (fun _ _ => True) ?_ ?_ (by rw [FUv]; omega), if_pos fun _ _ _ => trivial]
  · intro f i n hn hi
    have hNn := hN n (List.mem_of_getElem? hn)
    refine ⟨fun _ => ?_, fun hq => absurd trivial hq⟩
    simp only [m_syntagmalaw05_TreeNorms_l1]
    rw [decide_eq_true (show (i : Int) < e.l.length by omega), cond_true, getI hn, Option.bind_some, rkids_eq n hNn, Option.bind_some, normsK ls (i : Int) (kidsP n) (kids_len n hNn) (fun k hk => by have := hI i n hn k hk; omega) (h i n hn), Option.bind_some, go_on, grd_pos (by omega)]
  · intro n
    simp only [m_syntagmalaw05_TreeNorms_l1]
    rw [decide_eq_false (by omega), cond_false]
theorem subT_2 (e : ApiExpr) (i : Int) (h : mayT e.l = 0) : (subT e i) = if i < 0 ∨ (e.l.length : Int) ≤ i then (⟨[]⟩, 3) else (⟨copyP e.l i []⟩, 0) := by
  unfold subT; rw [if_pos h]
theorem law_TreeNorms (a b : ApiExpr) (i : Int) : m_syntagmalaw05_TreeNorms a b i = some true := by
  unfold m_syntagmalaw05_TreeNorms
  have hl := fewE_len a
  have hN := fewE_nb a
  have hl2 := fewE_len b
  have hN2 := fewE_nb b
  rw [show m_syntagmalaw05_Few (⟨a.l⟩ : ApiExpr) = some (fewE a) from few_eq a, Option.bind_some, show m_syntagmalaw05_Few (⟨b.l⟩ : ApiExpr) = some (fewE b) from few_eq b, Option.bind_some]
  rw [show (⟨(fewE a).l⟩ : ApiExpr) = fewE a from rfl, show (⟨(fewE b).l⟩ : ApiExpr) = fewE b from rfl, few_eq, few_eq, fewE_fewE, fewE_fewE]
  generalize fewE a = x at *
  generalize fewE b = y at *
  rw [Option.bind_some, norm_eq2 x hl hN, Option.bind_some]
  dsimp only
  rw [Option.bind_some, tsub_eq x i hl hN, show subT x i = ((subT x i).1, (subT x i).2) from rfl, Option.bind_some]
  dsimp only
  rw [Option.bind_some]
  by_cases h : mayT x.l = 0
  · obtain ⟨ht, h1⟩ := mayT_tree hl hN h
    have hI := ok_inLs ht.ok
    obtain ⟨ls, p1, p2, p3, p4⟩ := parents_eq x hl hN h
    obtain ⟨n1, n2⟩ := normT_nb x hl hN
    obtain ⟨s1, s2⟩ := subT_nb x i hl hN
    rw [p1, Option.bind_some, Option.bind_some, Option.bind_some, same_eq x y hl hN hl2 hN2, Option.bind_some, rsame_eq x y hl hN hl2 hN2, Option.bind_some]
    rw [show (!(sameT x y == sameT x y)) = false by simp, cond_false, rmay_eq x (by omega) hN, Option.bind_some, decide_eq_true h, Bool.not_true, cond_false, rnorm_eq x hl hN h, Option.bind_some]
    rw [show m_syntagmaref05_SameList (⟨(normT x).1.l⟩ : ApiExpr) (normT x).1 = some (decide (sameL (normT x).1.l (normT x).1.l)) from sameList_eq (normT x).1 (normT x).1 (by omega) n2, Option.bind_some, decide_eq_true (sameL_refl _), Bool.not_true, cond_false, p2, decide_eq_true rfl, Bool.not_true, cond_false, grd_pos (by omega), show ((x.l.length : Int) - 1) = ((x.l.length - 1 : Nat) : Int) by omega, idxD (by omega) (by omega), Option.bind_some, p3, decide_eq_true rfl, Bool.not_true, cond_false, normsL x ls hl hN hI p2 p4, Option.bind_some, go_on]
    rw [subT_2 x i h]
    by_cases hi : i < 0 ∨ (x.l.length : Int) ≤ i
    · rw [if_pos hi, show (decide (i < 0) || decide ((x.l.length : Int) ≤ i)) = true by rw [Bool.or_eq_true, decide_eq_true_eq, decide_eq_true_eq]; exact hi, cond_true, works_eq]
      rfl
    · rw [if_neg hi, show (decide (i < 0) || decide ((x.l.length : Int) ≤ i)) = false by rw [Bool.or_eq_false_iff, decide_eq_false_iff_not, decide_eq_false_iff_not]; omega, cond_false, works_eq]
      rw [subT_2 x i h, if_neg hi] at s1 s2
      obtain ⟨m, rfl⟩ : ∃ m : Nat, i = (m : Int) := ⟨i.toNat, by omega⟩
      rw [rsub_eq ht m (by omega)]
      simp only at s1 s2
      have e := sameList_eq ⟨copyP x.l (m : Int) []⟩ ⟨copyP x.l (m : Int) []⟩ (show (copyP x.l (m : Int) []).length ≤ 1000 by omega) s2
      dsimp only
      rw [decide_eq_true rfl, cond_true, Option.bind_some, cond_false, Option.bind_some, e, Option.bind_some, decide_eq_true (sameL_refl _)]
      rfl
  · rw [parents_no x hl hN h, Option.bind_some, Option.bind_some, Option.bind_some, same_eq x y hl hN hl2 hN2, Option.bind_some, rsame_eq x y hl hN hl2 hN2, Option.bind_some]
    rw [show (!(sameT x y == sameT x y)) = false by simp, cond_false, rmay_eq x (by omega) hN, Option.bind_some, decide_eq_false h, Bool.not_false, cond_true, works_eq]
    unfold normT subT
    rw [if_neg h, if_neg h, decide_eq_true rfl]
    rfl
end Go.Proofs.Ytnnjgbcojdnhhaa
