/- Part C04d of the proof: contracts of the functions that are walked, and what they compute; no condition. -/
import Derived.Test.YtfcifodaohhcbaaC04c
set_option linter.unusedVariables false
set_option linter.unusedSimpArgs false
set_option maxRecDepth 100000
namespace Go.Proofs.Ytfcifodaohhcbaa
open Go.V
open Classical
theorem c35 (c : UInt8) : (c.toNat : Int) = 35 ↔ c = 35 := u8n (c := c) (n := 35) (by omega)
/-! All tokens -/
def f0 : LexFound := ⟨⟨0, [], 0, 0⟩, 0, 0⟩
def oneF (t : List UInt8) : LexFound := (m_lex_one t).getD f0
def toFeed (t : List UInt8) : Nat := (t.takeWhile (fun x => !decide (x = 10))).length
def blankP (c : UInt8) : Prop := c = 32 ∨ c = 9 ∨ c = 10
noncomputable def specA : Nat → List UInt8 → Nat → List ApiToken → Out (List ApiToken × Int × Int) (List ApiToken)
  | 0, _, _, acc => .go acc
  | m + 1, t, k, acc => match t with
    | [] => .go acc
    | c :: r => if blankP c then specA m r (k + 1) acc else if c = 35 then specA m ((c :: r).drop (toFeed (c :: r))) (k + toFeed (c :: r)) acc
      else if (oneF (c :: r)).e_ = 0 then specA m ((c :: r).drop (oneF (c :: r)).n_.toNat) (k + (oneF (c :: r)).n_.toNat) (acc ++ [⟨(oneF (c :: r)).t.kind, (oneF (c :: r)).t.s, (oneF (c :: r)).t.n_, (k : Int)⟩])
      else .ret ([], (k : Int), (oneF (c :: r)).e_)
theorem specA_nil (m k : Nat) (acc : List ApiToken) : specA m [] k acc = .go acc := by cases m <;> rfl
theorem one_ok (t : List UInt8) (h0 : t ≠ []) (hl : t.length ≤ 1000) : m_lex_one t = some (oneF t) ∧ Step (oneF t) t := by
  obtain ⟨f, h1, _, h3⟩ := one_same t t 0 rfl (by omega) h0 hl
  unfold oneF
  rw [h1]
  exact ⟨rfl, h3⟩
theorem feed_pos (r : List UInt8) : 0 < toFeed (35 :: r) := by
  unfold toFeed
  rw [List.takeWhile_cons, if_pos (by decide)]
  simp
theorem feed_le (t : List UInt8) : toFeed t ≤ t.length := tw_le _ _
theorem specA_fuel : ∀ (m m' : Nat) (t : List UInt8) (k : Nat) (acc : List ApiToken), t.length ≤ m → t.length ≤ m' → t.length ≤ 1000 → specA m t k acc = specA m' t k acc := by
  intro m
  induction m with
  | zero =>
    intro m' t k acc h _ _
    have : t = [] := List.length_eq_zero_iff.1 (by omega)
    subst this
    rw [specA_nil, specA_nil]
  | succ m ih =>
    intro m' t k acc h h' hl
    rcases t with _ | ⟨c, r⟩
    · rw [specA_nil, specA_nil]
    · simp only [List.length_cons] at h h' hl
      obtain ⟨m', rfl⟩ : ∃ q, m' = q + 1 := ⟨m' - 1, by omega⟩
      simp only [specA]
      by_cases h1 : blankP c
      · rw [if_pos h1, if_pos h1]; exact ih m' r _ _ (by omega) (by omega) (by omega)
      · rw [if_neg h1, if_neg h1]
        by_cases h2 : c = 35
        · subst h2
          rw [if_pos rfl, if_pos rfl]
          have := feed_pos r
          exact ih m' _ _ _ (by simp; omega) (by simp; omega) (by simp; omega)
        · rw [if_neg h2, if_neg h2]
          by_cases h3 : (oneF (c :: r)).e_ = 0
          · rw [if_pos h3, if_pos h3]
            have := (one_ok (c :: r) (by simp) (by simp; omega)).2 h3
            exact ih m' _ _ _ (by simp; omega) (by simp; omega) (by simp; omega)
          · rw [if_neg h3, if_neg h3]
theorem specA_len : ∀ (m : Nat) (t : List UInt8) (k : Nat) (acc l : List ApiToken), t.length ≤ 1000 → specA m t k acc = .go l → l.length ≤ acc.length + t.length := by
  intro m
  induction m with
  | zero => intro t k acc l _ h; simp only [specA, Out.go.injEq] at h; subst h; omega
  | succ m ih =>
    intro t k acc l hl h
    rcases t with _ | ⟨c, r⟩
    · rw [specA_nil, Out.go.injEq] at h; subst h; omega
    · simp only [List.length_cons] at hl ⊢
      simp only [specA] at h
      by_cases h1 : blankP c
      · rw [if_pos h1] at h; have := ih _ _ _ _ (by omega) h; omega
      · rw [if_neg h1] at h
        by_cases h2 : c = 35
        · rw [if_pos h2] at h
          have := ih _ _ _ _ (by simp; omega) h
          simp only [List.length_drop, List.length_cons] at this; omega
        · rw [if_neg h2] at h
          by_cases h3 : (oneF (c :: r)).e_ = 0
          · rw [if_pos h3] at h
            have h4 := (one_ok (c :: r) (by simp) (by simp; omega)).2 h3
            have := ih _ _ _ _ (by simp; omega) h
            simp only [List.length_drop, List.length_cons, List.length_append, List.length_nil] at this h4; omega
          · rw [if_neg h3] at h; cases h
theorem ref_l1_eq (s : List UInt8) (hl : s.length ≤ 1000) : ∀ (n m : Nat) (t : List UInt8) (k : Nat) (acc : List ApiToken), t.length < n → t.length ≤ m → s.drop k = t → k ≤ s.length → acc.length ≤ k → m_syntagmaref04_All_l1 s n ((k : Int), acc) = some (specA m t k acc) := by
  intro n
  induction n with
  | zero => intro m t k acc h; omega
  | succ n ih =>
    intro m t k acc hn hm ht hk ha
    have hL := drop_len ht hk
    simp only [m_syntagmaref04_All_l1]
    rcases t with _ | ⟨c, r⟩
    · simp only [List.length_nil] at hL
      rw [specA_nil, decide_eq_false (by omega), cond_false]
    · simp only [List.length_cons] at hL hn hm
      obtain ⟨m, rfl⟩ : ∃ q, m = q + 1 := ⟨m - 1, by omega⟩
      have hx : s[k]? = some c := by
        have := congrArg (·[0]?) ht
        simpa [List.getElem?_drop] using this
      rw [decide_eq_true (by omega), cond_true, getI hx]
      repeat rw [Option.bind_some]
      rw [bt]
      repeat rw [Option.bind_some]
      rw [bt]
      repeat rw [Option.bind_some]
      have eb : (decide ((c.toNat : Int) = 32) || decide ((c.toNat : Int) = 9) || decide ((c.toNat : Int) = 10)) = decide (blankP c) := by
        rw [Bool.eq_iff_iff, Bool.or_eq_true, Bool.or_eq_true, decide_eq_true_eq, decide_eq_true_eq, decide_eq_true_eq, decide_eq_true_eq]
        have h1 := u8n (c := c) (n := 32) (by omega)
        have h2 := u8n (c := c) (n := 9) (by omega)
        have h3 := u8n (c := c) (n := 10) (by omega)
        unfold blankP
        rw [or_assoc]
        exact or_congr h1 (or_congr h2 h3)
      rw [eb]
      simp only [specA]
      by_cases h1 : blankP c
      · rw [decide_eq_true h1, cond_true, if_pos h1, grd_pos (by omega)]
        exact ih m r (k + 1) acc (by omega) (by omega) (drop_c ht) (by omega) (by omega)
      · rw [decide_eq_false h1, cond_false, if_neg h1]
        by_cases h2 : c = 35
        · rw [if_pos h2, decide_eq_true ((c35 c).2 h2), cond_true]
          have e := loop_while (φ := m_syntagmaref04_All_l2 s) (l := s) (fun x => !decide (x = 10)) (fun i => (i : Int)) (by
            intro n i x hx hi
            simp only [m_syntagmaref04_All_l2]
            rw [decide_eq_true (show (i : Int) < (s.length : Int) by omega), cond_true, getI hx, Option.bind_some, Option.bind_some]
            have h3 := u8n (c := x) (n := 10) (by omega)
            have h4 : (!decide ((x.toNat : Int) = 10)) = !decide (x = 10) := by congr 1; exact decide_eq_decide.2 h3
            rw [h4]
            exact ⟨fun hq => by rw [hq, cond_true, grd_pos (by omega)], fun hq => by rw [hq, cond_false]⟩) (by
            intro n
            simp only [m_syntagmaref04_All_l2]
            rw [decide_eq_false (by omega), cond_false, Option.bind_some, cond_false]) FU k hk (by rw [FUv]; omega)
          rw [ht] at e
          refine bnd e ?_
          have h5 : (List.takeWhile (fun x => !decide (x = 10)) (c :: r)).length = toFeed (c :: r) := rfl
          rw [h5]
          subst h2
          have h6 := feed_pos r
          have h7 := feed_le (35 :: r)
          simp only [List.length_cons] at h7
          exact ih m _ _ acc (by simp; omega) (by simp; omega) (drop_more ht _) (by omega) (by omega)
        · rw [if_neg h2, decide_eq_false (fun h => h2 ((c35 c).1 h)), cond_false]
          obtain ⟨f, e1, e2, e3⟩ := one_same s (c :: r) k ht hk (by simp) hl
          have e4 : oneF (c :: r) = f := by unfold oneF; rw [e1]; rfl
          rw [e2, e4, Option.bind_some]
          unfold refOf
          by_cases h3 : f.e_ = 0
          · have h4 := e3 h3
            simp only [List.length_cons] at h4
            rw [if_pos h3, if_pos h3]
            simp only [decide_true, Bool.not_true, cond_false]
            rw [grd_pos (by simp only [List.length_cons, List.length_nil]; omega), grd_pos (by omega), show (k : Int) + f.n_ = ((k + f.n_.toNat : Nat) : Int) by omega]
            exact ih m _ _ _ (by simp; omega) (by simp; omega) (drop_more ht _) (by omega) (by simp; omega)
          · rw [if_neg h3, if_neg h3]
            simp only
            rw [decide_eq_false h3]; rfl
def readyP : List UInt8 → Prop
  | [] => True
  | c :: _ => ¬ blankP c ∧ c ≠ 35
def passK (oo : Out Int Int) : Option Int := oo.on (fun r => some r) (fun n => some n)
theorem blank_idx (c : UInt8) : decide (0 ≤ firstIdx ⟨([32, 9, 10] : List UInt8).toArray⟩ c) = decide (blankP c) := by
  rw [first_nat]
  refine decide_eq_decide.2 ?_
  unfold blankP
  by_cases h : c ∈ ([32, 9, 10] : List UInt8)
  · rw [if_pos h]
    simp only [List.mem_cons, List.not_mem_nil, or_false] at h
    exact ⟨fun _ => h, fun _ => by omega⟩
  · rw [if_neg h]
    simp only [List.mem_cons, List.not_mem_nil, or_false] at h
    exact ⟨fun h2 => by omega, fun h2 => absurd h2 h⟩
theorem pass_l1_eq (s : List UInt8) (hl : s.length ≤ 1000) : ∀ (n : Nat) (t : List UInt8) (i : Nat), t.length < n → s.drop i = t → i ≤ s.length →
    ∃ j : Nat, (m_lex_pass_l1 s n (i : Int)).bind passK = some (j : Int) ∧ i ≤ j ∧ j ≤ s.length ∧ readyP (s.drop j) ∧ ∀ m k acc, s.length ≤ m → specA m t (k + i) acc = specA m (s.drop j) (k + j) acc := by
  intro n
  induction n with
  | zero => intro t i h; omega
  | succ n ih =>
    intro t i hn ht hi
    have hL := drop_len ht hi
    simp only [m_lex_pass_l1]
    rcases t with _ | ⟨c, r⟩
    · simp only [List.length_nil] at hL
      rw [decide_eq_false (by omega), cond_false]
      exact ⟨i, rfl, by omega, hi, by rw [ht]; trivial, fun m k acc _ => by rw [ht]⟩
    · simp only [List.length_cons] at hL hn
      have hx : s[i]? = some c := by
        have := congrArg (·[0]?) ht
        simpa [List.getElem?_drop] using this
      rw [decide_eq_true (by omega), cond_true, getI hx]
      repeat rw [Option.bind_some]
      rw [blank_idx]
      by_cases h1 : blankP c
      · rw [decide_eq_true h1, cond_true, grd_pos (by omega)]
        obtain ⟨j, a1, a2, a3, a4, a5⟩ := ih r (i + 1) (by omega) (drop_c ht) (by omega)
        refine ⟨j, a1, by omega, a3, a4, fun m k acc hm => ?_⟩
        rw [← a5 m k acc hm]
        obtain ⟨m, rfl⟩ : ∃ q, m = q + 1 := ⟨m - 1, by omega⟩
        rw [show specA (m + 1) (c :: r) (k + i) acc = specA m r (k + i + 1) acc by simp only [specA]; rw [if_pos h1]]
        exact specA_fuel _ _ _ _ _ (by omega) (by omega) (by omega)
      · rw [decide_eq_false h1, cond_false]
        by_cases h2 : c = 35
        · rw [decide_eq_true ((c35 c).2 h2), cond_true, sli_from ht hi, Option.bind_some, first_nat]
          have hstep : ∀ m k acc, s.length ≤ m → specA m (c :: r) (k + i) acc = specA m ((c :: r).drop (toFeed (c :: r))) (k + i + toFeed (c :: r)) acc := by
            intro m k acc hm
            obtain ⟨m, rfl⟩ : ∃ q, m = q + 1 := ⟨m - 1, by omega⟩
            rw [show specA (m + 1) (c :: r) (k + i) acc = specA m ((c :: r).drop (toFeed (c :: r))) (k + i + toFeed (c :: r)) acc by simp only [specA]; rw [if_neg h1, if_pos h2]]
            subst h2
            have := feed_pos r
            exact specA_fuel _ _ _ _ _ (by simp; omega) (by simp; omega) (by simp; omega)
          have h7 := feed_le (c :: r)
          simp only [List.length_cons] at h7
          by_cases h3 : (10 : UInt8) ∈ c :: r
          · rw [if_pos h3, decide_eq_false (by omega), cond_false, grd_pos (by have : (List.takeWhile (fun x => !decide (x = 10)) (c :: r)).length = toFeed (c :: r) := rfl; omega)]
            have h6 : 0 < toFeed (c :: r) := by subst h2; exact feed_pos r
            obtain ⟨j, a1, a2, a3, a4, a5⟩ := ih ((c :: r).drop (toFeed (c :: r))) (i + toFeed (c :: r)) (by simp; omega) (drop_more ht _) (by omega)
            refine ⟨j, a1, by omega, a3, a4, fun m k acc hm => ?_⟩
            rw [hstep m k acc hm, ← a5 m k acc hm, Nat.add_assoc]
          · rw [if_neg h3, decide_eq_true (by omega), cond_true]
            refine ⟨s.length, rfl, hi, by omega, by rw [List.drop_length]; trivial, fun m k acc hm => ?_⟩
            have hw : toFeed (c :: r) = (c :: r).length := by
              unfold toFeed
              rw [takeWhile_all]
              intro x hx
              have : x ≠ 10 := fun e => h3 (e ▸ hx)
              simpa using this
            rw [hstep m k acc hm, hw, List.drop_length, List.drop_length, specA_nil, specA_nil]
        · rw [decide_eq_false (fun h => h2 ((c35 c).1 h)), cond_false]
          exact ⟨i, rfl, by omega, hi, by rw [ht]; exact ⟨h1, h2⟩, fun m k acc _ => by rw [ht]⟩
theorem pass_eq (s : List UInt8) (hl : s.length ≤ 1000) : ∃ j : Nat, m_lex_pass s = some (j : Int) ∧ j ≤ s.length ∧ readyP (s.drop j) ∧ ∀ m k acc, s.length ≤ m → specA m s k acc = specA m (s.drop j) (k + j) acc := by
  obtain ⟨j, a1, _, a3, a4, a5⟩ := pass_l1_eq s hl FU s 0 (by rw [FUv]; omega) rfl (by omega)
  exact ⟨j, a1, a3, a4, a5⟩
theorem tokens_l1_eq (s : List UInt8) (hl : s.length ≤ 1000) : ∀ (n m : Nat) (t : List UInt8) (k : Nat) (acc : List ApiToken), t.length < n → t.length ≤ m → s.drop k = t → k ≤ s.length → acc.length ≤ k → readyP t →
    (m_tokens_l1 s n (k : Int)).bind (fun xs => m_lex_All_r1 xs acc) = some (specA m t k acc) := by
  intro n
  induction n with
  | zero => intro m t k acc h; omega
  | succ n ih =>
    intro m t k acc hn hm ht hk ha hr
    have hL := drop_len ht hk
    simp only [m_tokens_l1]
    rcases t with _ | ⟨c, r⟩
    · simp only [List.length_nil] at hL
      rw [specA_nil, decide_eq_false (by omega), cond_false]; rfl
    · simp only [List.length_cons] at hL hn hm
      obtain ⟨m, rfl⟩ : ∃ q, m = q + 1 := ⟨m - 1, by omega⟩
      obtain ⟨e1, e3⟩ := one_ok (c :: r) (by simp) (by simp; omega)
      obtain ⟨hr1, hr2⟩ := hr
      rw [decide_eq_true (by omega), cond_true, sli_from ht hk, Option.bind_some, e1, Option.bind_some]
      simp only [specA]
      rw [if_neg hr1, if_neg hr2]
      generalize oneF (c :: r) = f at *
      by_cases h3 : f.e_ = 0
      · have h4 := e3 h3
        simp only [List.length_cons] at h4
        rw [if_pos h3, decide_eq_true h3, Bool.not_true, cond_false, grd_pos (by omega), show (k : Int) + f.n_ = ((k + f.n_.toNat : Nat) : Int) by omega]
        have hd := drop_more ht f.n_.toNat
        rw [sli_from hd (by omega), Option.bind_some]
        obtain ⟨j, a1, a3, a4, a5⟩ := pass_eq ((c :: r).drop f.n_.toNat) (by simp; omega)
        simp only [List.length_drop, List.length_cons] at a3
        rw [a1, Option.bind_some, grd_pos (by omega), show ((k + f.n_.toNat : Nat) : Int) + (j : Int) = ((k + f.n_.toNat + j : Nat) : Int) by omega]
        have hlen : ((c :: r).drop f.n_.toNat).length ≤ m := by simp; omega
        rw [a5 m _ _ hlen]
        have hI := ih m (((c :: r).drop f.n_.toNat).drop j) (k + f.n_.toNat + j) (acc ++ [⟨f.t.kind, f.t.s, f.t.n_, (k : Int)⟩]) (by simp; omega) (by simp; omega) (drop_more hd j) (by omega) (by simp; omega) a4
        rw [← hI]
        cases m_tokens_l1 s n ((k + f.n_.toNat + j : Nat) : Int) with
        | none => rfl
        | some ys =>
          simp only [Option.bind_some, m_lex_All_r1]
          rw [decide_eq_true h3, Bool.not_true, cond_false, grd_pos (by simp only [List.length_cons, List.length_nil]; omega)]
      · rw [if_neg h3, decide_eq_false h3, Bool.not_false, cond_true]
        simp only [Option.bind_some, m_lex_All_r1]
        rw [decide_eq_false h3, Bool.not_false, cond_true]
def resA (s : List UInt8) (oo : Out (List ApiToken × Int × Int) (List ApiToken)) : List ApiToken × Int × Int := match oo with
  | .ret r => r
  | .go l => (l, (s.length : Int), 0)
noncomputable def allP (s : List UInt8) : List ApiToken × Int × Int := resA s (specA s.length s 0 [])
theorem all_eq (s : List UInt8) (hl : s.length ≤ 1000) : m_lex_All s = some (allP s) := by
  unfold m_lex_All m_tokens allP
  obtain ⟨j, a1, a3, a4, a5⟩ := pass_eq s hl
  have h := tokens_l1_eq s hl FU s.length (s.drop j) j [] (by rw [FUv]; simp; omega) (by simp) rfl a3 (by simp) a4
  have h5 := a5 s.length 0 [] (by omega)
  rw [Nat.zero_add] at h5
  rw [a1, Option.bind_some, bind_of h, h5]
  cases specA s.length (s.drop j) j [] <;> rfl
theorem rall_eq (s : List UInt8) (hl : s.length ≤ 1000) : m_syntagmaref04_All s = some (allP s) := by
  unfold m_syntagmaref04_All allP
  have h := ref_l1_eq s hl FU s.length s 0 [] (by rw [FUv]; omega) (by omega) rfl (by omega) (by simp)
  refine bnd h ?_
  cases specA s.length s 0 [] <;> rfl
theorem specA_ret : ∀ (m : Nat) (t : List UInt8) (k : Nat) (acc : List ApiToken) r, specA m t k acc = .ret r → r.1 = [] ∧ r.2.2 ≠ 0 := by
  intro m
  induction m with
  | zero => intro t k acc r h; simp [specA] at h
  | succ m ih =>
    intro t k acc r h
    rcases t with _ | ⟨c, t⟩
    · rw [specA_nil] at h; cases h
    · simp only [specA] at h
      split at h
      · exact ih _ _ _ _ h
      · split at h
        · exact ih _ _ _ _ h
        · split at h
          · exact ih _ _ _ _ h
          · rename_i h3
            cases h
            exact ⟨rfl, h3⟩
theorem allP_len (s : List UInt8) (hl : s.length ≤ 1000) : (allP s).1.length ≤ 1000 := by
  unfold allP
  cases h : specA s.length s 0 [] with
  | ret r => have := (specA_ret _ _ _ _ _ h).1; show r.1.length ≤ _; rw [this]; simp
  | go l => have := specA_len _ _ _ _ _ hl h; simp only [List.length_nil] at this; show l.length ≤ _; omega
theorem token_eqv (x y : ApiToken) : ApiToken.eqv x y = decide (x = y) := by
  unfold ApiToken.eqv
  rw [Bool.eq_iff_iff]
  simp only [Bool.and_true, Bool.and_eq_true, beq_iff_eq, decide_eq_true_eq]
  cases x; cases y; simp
theorem short_eq (s : List UInt8) : m_syntagmalaw04_short s = some (s.take (min 600 s.length)) := by
  unfold m_syntagmalaw04_short
  have := minL 600 s
  rw [show (if 600 < (s.length : Int) then (600 : Int) else (s.length : Int)) = ((min 600 s.length : Nat) : Int) from this, sli_take (by omega)]; rfl
end Go.Proofs.Ytfcifodaohhcbaa
