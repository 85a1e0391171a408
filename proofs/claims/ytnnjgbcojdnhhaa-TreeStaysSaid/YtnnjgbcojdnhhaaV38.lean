/- The first place of a byte; bytes as numbers; wraps. -/
import Derived.Test.YtnnjgbcojdnhhaaV37
import Derived.Lib.Bytealg
set_option linter.unusedVariables false
set_option linter.unusedSimpArgs false
namespace Go.V
open Go.Lib (indexByte firstIdx_eq)
theorem idxB_nat (c : UInt8) : ∀ t : List UInt8, indexByte t c = if c ∈ t then ((t.takeWhile (fun x => !decide (x = c))).length : Int) else -1
  | [] => rfl
  | b :: t => by
    rw [indexByte, idxB_nat c t]
    by_cases hb : b = c
    · subst hb
      rw [if_pos (by simp), if_pos (by simp), List.takeWhile_cons]
      simp
    · have hb2 : ¬ c = b := fun h => hb h.symm
      rw [if_neg (by simpa using hb), List.takeWhile_cons]
      simp only [hb, decide_false, Bool.not_false, if_true, List.length_cons, List.mem_cons, hb2, false_or]
      by_cases h : c ∈ t
      · rw [if_pos h, if_pos h, if_neg]
        · simp
        · simp; try omega
      · rw [if_neg h, if_neg h]; rfl
theorem first_nat (t : List UInt8) (c : UInt8) : firstIdx ⟨t.toArray⟩ c = if c ∈ t then ((t.takeWhile (fun x => !decide (x = c))).length : Int) else -1 := by
  rw [firstIdx_eq, ← idxB_nat]
theorem mem_takeWhile {α : Type} {p : α → Bool} {l : List α} {x : α} (h : x ∈ l.takeWhile p) : p x = true := List.all_eq_true.1 List.all_takeWhile x h
theorem takeWhile_all {α : Type} {p : α → Bool} : ∀ {l : List α}, (∀ x ∈ l, p x = true) → l.takeWhile p = l
  | [], _ => rfl
  | x :: l, h => by rw [List.takeWhile_cons, if_pos (h x (by simp)), takeWhile_all fun y hy => h y (by simp [hy])]
theorem i64w {n : Int} (h : -9223372036854775808 ≤ n ∧ n ≤ 9223372036854775807) : IntKind.i64.wrap n = n := i64_id h
theorem i32w {n : Int} (h : -2147483648 ≤ n ∧ n ≤ 2147483647) : IntKind.i32.wrap n = n := by
  simp only [IntKind.wrap, IntKind.bits, IntKind.signed]; simp; omega
theorem u64w {n : Int} (h : 0 ≤ n ∧ n ≤ 18446744073709551615) : IntKind.u64.wrap n = n := by
  simp only [IntKind.wrap, IntKind.bits, IntKind.signed]; simp; omega
theorem u8n {c : UInt8} {n : Nat} (hn : n < 256) : (c.toNat : Int) = (n : Int) ↔ c = UInt8.ofNat n := by
  have e : (UInt8.ofNat n).toNat = n := by rw [UInt8.toNat_ofNat']; omega
  constructor
  · intro h
    apply UInt8.toNat_inj.1
    rw [e]; omega
  · rintro rfl
    rw [e]
theorem rune_dig (s : List UInt8) (p : Nat) (c : UInt8) (h : s[p]? = some c) (hd : c.toNat < 128) : runeAt s p = (c.toNat : Int) ∧ nextPos s p = p + 1 := by
  obtain ⟨hp, hc⟩ := List.getElem?_eq_some_iff.1 h
  have hsz : (⟨s.toArray⟩ : ByteArray).size = s.length := by simp [ByteArray.size]
  have hc2 : ((⟨s.toArray⟩ : ByteArray)[p]'(by rw [hsz]; exact hp)) = c := hc
  have e := decode_ascii ⟨s.toArray⟩ p (by rw [hsz]; exact hp) (by rw [hc2]; exact hd)
  rw [hc2] at e
  unfold runeAt nextPos
  rw [e, if_pos hp]
  exact ⟨rfl, rfl⟩
end Go.V
