/- Part C05e of the proof: contracts of the functions that are walked, and what they compute; no condition. -/
import Derived.Test.YtnnjgbcojdnhhaaC05d
set_option linter.unusedVariables false
set_option linter.unusedSimpArgs false
set_option maxRecDepth 100000
namespace Go.Proofs.Ytnnjgbcojdnhhaa
open Go.V
open Classical
theorem depU_zero (L : List ApiNode) (k : Nat) : ∀ j : Nat, j ≤ k → gd (depU L j) (k : Int) = 0
  | 0, _ => by
    unfold gd depU
    rw [Int.toNat_natCast, List.getElem?_replicate]
    split <;> rfl
  | j + 1, h => by
    rw [depU]
    split
    · rw [gd_other (by omega)]; exact depU_zero L k j (by omega)
    · exact depU_zero L k j (by omega)
theorem depU_keep (L : List ApiNode) (k : Nat) (i : Nat) (hk : k < i) : ∀ m : Nat, gd (depU L (i + m)) (k : Int) = gd (depU L i) (k : Int)
  | 0 => rfl
  | m + 1 => by
    rw [show i + (m + 1) = (i + m) + 1 from rfl, depU]
    split
    · rw [gd_other (by omega)]; exact depU_keep L k i hk m
    · exact depU_keep L k i hk m
theorem depU_rec (L : List ApiNode) (i : Nat) (n : ApiNode) (hn : L[i]? = some n) (hI : inL i (kidsP n)) : gd (depU L L.length) (i : Int) = mx (gd (depU L L.length)) 0 (kidsP n) + 1 := by
  have hi := getLt hn
  have e1 := depU_keep L i (i + 1) (by omega) (L.length - (i + 1))
  rw [show i + 1 + (L.length - (i + 1)) = L.length by omega] at e1
  rw [e1, depU_s hn, gd_self (by rw [depU_len]; omega), depU_zero L i i (by omega)]
  congr 1
  refine mx_congr _ _ fun k hk => ?_
  have hk2 := hI k hk
  obtain ⟨m, rfl⟩ : ∃ m : Nat, k = (m : Int) := ⟨k.toNat, by omega⟩
  have e2 := depU_keep L m i (by omega) (L.length - i)
  rw [show i + (L.length - i) = L.length by omega] at e2
  exact e2.symm
theorem depthR (e : ApiExpr) (hl : e.l.length ≤ 701) (hN : ∀ n ∈ e.l, NB n) (hok : allOk e.l) : ∀ (f i : Nat), i < f → i < e.l.length → m_syntagmaref05_Depth f e (i : Int) = some (gd (depU e.l e.l.length) (i : Int))
  | 0, i, h, _ => by omega
  | f + 1, i, h, hi => by
    have hn : e.l[i]? = some e.l[i] := List.getElem?_eq_getElem hi
    generalize e.l[i] = n at hn
    have hNn := hN n (List.mem_of_getElem? hn)
    have hI := (hok i n hn).2.1
    have hkl := kids_len n hNn
    have hbd := fun k => bd_gd (depU_bd e.l e.l.length) (by omega) k
    show m_syntagmaref05_DepthF (m_syntagmaref05_Depth f) e (i : Int) = _
    unfold m_syntagmaref05_DepthF
    rw [getI hn, Option.bind_some, rkids_eq n hNn, Option.bind_some]
    obtain ⟨o, h1, h2⟩ := loop_rng (φ := fun m j s => m_syntagmaref05_Depth_l1 (m_syntagmaref05_Depth f) e (kidsP n) m (s, j)) (l := kidsP n) (fun j s => s = mx (gd (depU e.l e.l.length)) 0 ((kidsP n).take j)) (fun o => o = mx (gd (depU e.l e.l.length)) 0 (kidsP n)) (by
      rintro m j x s hx hj rfl
      simp only [m_syntagmaref05_Depth_l1]
      have hq := hI x (List.mem_of_getElem? hx)
      rw [decide_eq_true (show (j : Int) < (kidsP n).length by omega), cond_true, getI hx, Option.bind_some]
      obtain ⟨k, rfl⟩ : ∃ k : Nat, x = (k : Int) := ⟨x.toNat, by omega⟩
      rw [depthR e hl hN hok f k (by omega) (by omega), Option.bind_some, grd_pos (by omega)]
      refine .inl ⟨_, rfl, ?_⟩
      rw [take_snoc hx, mx_snoc]) (by
      rintro m s rfl
      simp only [m_syntagmaref05_Depth_l1]
      rw [decide_eq_false (by omega), cond_false, List.take_length]
      exact ⟨_, rfl, rfl⟩) (by rw [FUv]; omega) 0 rfl
    have hb := mx_bd (f := gd (depU e.l e.l.length)) (M := (e.l.length : Int)) hbd (kidsP n) 0 (by omega)
    rw [h1, h2, Option.bind_some, grd_pos (by omega), depU_rec e.l i n hn hI, Int.add_comm]
noncomputable def depT (L : List ApiNode) : Int := if mayT L = 0 then gd (depU L L.length) ((L.length : Int) - 1) else 0
theorem mayT_ok {L : List ApiNode} (h : mayT L = 0) : 1 ≤ L.length ∧ L.length ≤ 600 ∧ allOk L := by
  unfold mayT at h
  by_cases h0 : L.length = 0 ∨ 600 < L.length
  · rw [if_pos h0] at h; omega
  · rw [if_neg h0] at h
    by_cases h1 : allOk L
    · exact ⟨by omega, by omega, h1⟩
    · rw [if_pos h1] at h; omega
theorem depth_eq (e : ApiExpr) (hl : e.l.length ≤ 701) (hN : ∀ n ∈ e.l, NB n) : m_tree_Depth e = some (depT e.l) := by
  unfold m_tree_Depth depT
  rw [may_eq e hl hN, Option.bind_some]
  by_cases h : mayT e.l = 0
  · obtain ⟨h1, h2, h3⟩ := mayT_ok h
    rw [decide_eq_true h, if_pos h, Bool.not_true, cond_false, depths_eq e (by omega) hN h3, Option.bind_some, grd_pos (by omega), idxD (by omega) (by rw [depU_len]; omega), Option.bind_some]
  · rw [decide_eq_false h, if_neg h, Bool.not_false, cond_true]
/-! Few -/
def fewN (n : ApiNode) : ApiNode := ⟨n.kind, n.a, n.b, n.c, n.n_, n.name, n.s, [] ++ n.l.take 60, n.pos⟩
def fewE (e : ApiExpr) : ApiExpr := ⟨(e.l.take 700).map fewN⟩
theorem min60 (l : List ApiField) : sli l 0 (if 60 < (l.length : Int) then 60 else (l.length : Int)) = some (l.take 60) := by
  by_cases h : 60 < (l.length : Int)
  · rw [if_pos h]; exact sli_take (k := 60) (by omega)
  · rw [if_neg h, sli_take (by omega), List.take_of_length_le (by omega), List.take_of_length_le (by omega)]
theorem few_eq (e : ApiExpr) : m_syntagmalaw05_Few e = some (fewE e) := by
  unfold m_syntagmalaw05_Few
  have hL : (e.l.take 700).length ≤ 700 ∧ (e.l.take 700).length ≤ e.l.length := by rw [List.length_take]; omega
  rw [loop_map (φ := fun n i s => m_syntagmalaw05_Few_l1 e n (i, s)) (l := e.l.take 700) fewN id 0 ?_ ?_ (by rw [FUv]; omega) [] rfl]
  · rfl
  · intro n i x s hx hi hs
    have hx2 : e.l[i]? = some x := by
      rw [List.getElem?_take, if_pos (by omega)] at hx
      exact hx
    have h60 : (x.l.take 60).length ≤ 60 := by rw [List.length_take]; omega
    simp only [m_syntagmalaw05_Few_l1]
    rw [decide_eq_true (show (i : Int) < e.l.length by omega), decide_eq_true (show (i : Int) < 700 by omega), Bool.and_true, cond_true, getI hx2, Option.bind_some, min60, Option.bind_some, grd_pos (by omega), grd_pos (by simp only [List.length_cons, List.length_nil]; omega), grd_pos (by omega)]
    rfl
  · intro n s hs
    simp only [m_syntagmalaw05_Few_l1]
    rw [show (decide (((e.l.take 700).length : Int) < e.l.length) && decide (((e.l.take 700).length : Int) < 700)) = false by
      rw [List.length_take, Bool.and_eq_false_iff, decide_eq_false_iff_not, decide_eq_false_iff_not]; omega, cond_false]
    rfl
theorem fewN_fewN (n : ApiNode) : fewN (fewN n) = fewN n := by
  unfold fewN
  simp only [List.nil_append, ApiNode.mk.injEq, true_and, and_true]
  exact List.take_of_length_le (by rw [List.length_take]; omega)
theorem fewE_fewE (e : ApiExpr) : fewE (fewE e) = fewE e := by
  unfold fewE
  simp only [ApiExpr.mk.injEq]
  rw [List.take_of_length_le (by simp; omega), List.map_map]
  congr 1
  funext n
  exact fewN_fewN n
theorem fewE_len (e : ApiExpr) : (fewE e).l.length ≤ 700 := by unfold fewE; simp; omega
theorem fewN_nb (n : ApiNode) : NB (fewN n) := by unfold fewN NB; simp; omega
theorem fewE_nb (e : ApiExpr) : ∀ n ∈ (fewE e).l, NB n := by
  intro n hn
  obtain ⟨m, _, rfl⟩ := List.mem_map.1 hn
  exact fewN_nb m
end Go.Proofs.Ytnnjgbcojdnhhaa
