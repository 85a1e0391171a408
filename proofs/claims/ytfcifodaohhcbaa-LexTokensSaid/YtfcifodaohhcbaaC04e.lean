/- Part C04e of the proof: contracts of the functions that are walked, and what they compute; no condition. -/
import Derived.Test.YtfcifodaohhcbaaC04d
set_option linter.unusedVariables false
set_option linter.unusedSimpArgs false
set_option maxRecDepth 100000
namespace Go.Proofs.Ytfcifodaohhcbaa
open Go.V
open Classical
theorem works_eq : m_syntagmalaw04_works = some true := by decide +kernel
theorem law_LexTokens (s : List UInt8) : m_syntagmalaw04_LexTokens s = some true := by
  unfold m_syntagmalaw04_LexTokens
  rw [short_eq, Option.bind_some]
  generalize hx : s.take (min 600 s.length) = x
  have hl : x.length ≤ 1000 := by rw [← hx]; simp; omega
  rw [all_eq x hl, rall_eq x hl, works_eq]
  have hlen := allP_len x hl
  generalize allP x = a at hlen
  obtain ⟨l, n, e⟩ := a
  simp only [Option.bind_some, decide_true, Bool.not_true, Bool.or_self, cond_false]
  refine bnd (loop_same (φ := m_syntagmalaw04_LexTokens_l1 l l) (l := l) (m := l) false rfl ?_ ?_ (by simp only at hlen; rw [FUv]; omega)) ?_
  · intro n i x y hx hy hi
    simp only at hlen
    simp only [m_syntagmalaw04_LexTokens_l1]
    rw [decide_eq_true (show (i : Int) < l.length by omega), cond_true, getI hx, Option.bind_some, Option.bind_some, token_eqv]
    obtain rfl : x = y := by rw [hx] at hy; exact Option.some.inj hy
    exact ⟨fun hq => by rw [decide_eq_true hq, Bool.not_true, cond_false, grd_pos (by omega)], fun hq => by rw [decide_eq_false hq, Bool.not_false, cond_true]⟩
  · intro n
    simp only [m_syntagmalaw04_LexTokens_l1]
    rw [decide_eq_false (by omega), cond_false]
  · rw [if_pos rfl]; rfl
end Go.Proofs.Ytfcifodaohhcbaa
