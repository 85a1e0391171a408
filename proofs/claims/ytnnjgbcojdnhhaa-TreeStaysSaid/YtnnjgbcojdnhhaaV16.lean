/- Parts of a region that are carried out on a condition. -/
import Derived.Test.YtnnjgbcojdnhhaaV15
set_option linter.unusedVariables false
set_option linter.unusedSimpArgs false
namespace Go.V
section
variable {Γ : Ctx} {P : Program} {L : Env} {ms : List Asrt} {K : KT} {ops : Array Oper} {o : Oper} {rest l : List Oper} {i : Nat}
theorem yielded_undef {a : Act} {w : World} {j t : Nat} (m : Models Γ L ms a w) (hj : (ops[j]?).bind (·.dst) = some t) (hf : Env.find L t = some (.v undef)) : yielded ops a.tmps j = none := by
  obtain ⟨H, marks, hle, hok, henv, hdf⟩ := m.ex
  have h := conc_v.1 (henv t _ hf)
  simp only [yielded, hj, Option.bind_some]
  cases hq : a.tmps[t]? with
  | none => rfl
  | some v =>
    have hv : v = undef := by
      rw [Array.getD_eq_getD_getElem?, hq] at h
      exact h
    subst hv
    rfl
/-- What hangs on something that was not carried out is not carried out. -/
theorem go_skipu {j t : Nat} {want : Bool} (hg : o.guard = some (j, want)) (hj : (ops[j]?).bind (·.dst) = some t) (hf : Env.find L t = some (.v undef))
    (hd : o.dst = some i) (hi : Nat.blt i Γ.N = true) (k : GO Γ P ops rest ((i, .v undef) :: L) ms K) : GO Γ P ops (o :: rest) L ms K := by
  intro a w m
  have hy := yielded_undef (ops := ops) m hj hf
  simp only [wpListIn, Region.wanted, hg, hy]
  rw [show ((none : Option Bool) == some want) = false from rfl]
  simp only [Bool.false_eq_true, if_false]
  refine ⟨fun _ _ => trivial, ?_⟩
  obtain ⟨H, marks, hle, hok, henv, hdf⟩ := m.ex
  rw [hd]
  exact k _ _ (m.next hle hok henv hdf hi (conc_v.2 rfl) (SameOut.refl w))
/-- A call of a function value, with all that is owned. -/
theorem o_callva {dst : Option Nat} {ty : TypeId} {pos : String} {after : Array Edge} {g : Option (Nat × Bool)} {x : Operand} {R : D → List Asrt → Prop} {args : List Operand} {ats : Array TypeId} {ds : List D} {fv : D} (hx : Env.ev L x = some fv) (hev : evL L args = some ds)
    (hf : FV P fv ds ms R) : OpT P ⟨dst, .call ⟨.value x, args.toArray, ats⟩, ty, pos, after, g⟩ L ms R := by
  have := o_callv (P := P) (L := L) (ms := ms) (dst := dst) (ty := ty) (pos := pos) (after := after) (g := g) (ats := ats) (ms₁ := ms) (rest := []) hx hev (by simp) hf
  intro ro H fr a w hok henv next Q hn
  refine this ro H fr a w hok henv next Q ?_
  rintro v d' ms' w' H' ⟨ms₁', hR, rfl⟩ hle hok' hc' hs
  exact hn v d' _ w' H' (by rw [List.append_nil]; exact hR) hle hok' hc' hs
/-- nil, as a list. -/
theorem refines_nil {L : Env} {ms : List Asrt} {i sz : Nat} {α : Type} {f : α → D} (hf : Env.find L i = some (.v (.slice none 0 0))) : Refines L ms ((i, .list sz f []) :: L) ms := by
  intro Γ a w m
  obtain ⟨H, marks, hle, hok, henv, hdf⟩ := m.ex
  refine ⟨⟨H, marks, hle, hok, fun s d hs => ?_, hdf⟩, m.size, m.same⟩
  simp only [Env.find] at hs
  cases hb : Nat.beq i s with
  | true =>
    rw [hb] at hs
    have := Nat.eq_of_beq_eq_true hb
    subst this
    simp only [Option.some.injEq] at hs
    subst hs
    rw [conc_v.1 (henv i _ hf), conc_enc (by rfl)]
    simp only [Enc]
    exact ⟨none, 0, by simp, by simp, by simp [maxLen], by simp⟩
  | false => rw [hb] at hs; exact henv s d hs
theorem flat_eq (c : D) (cs : List D) : flat (c :: cs) = (!c.isAgg && flat cs) := by cases c <;> simp [flat, D.isAgg]
theorem perm_none (ms : List Asrt) : ms.Perm ([] ++ ms) := by simp
/-- A call of yield. -/
theorem fv_yield {y : D} {ds : List D} {J : Nat → List Asrt → Prop} {Jx : List Asrt → Prop} {k : Nat} (h : FV P y ds ms (fun r ms' => (r = .bool true ∧ J (k + 1) ms') ∨ (r = .bool false ∧ Jx ms'))) :
    FV P y ds ms (fun r ms' => ∃ b, r = .bool b ∧ (b = true → J (k + 1) ms') ∧ (b = false → Jx ms')) :=
  h.mono fun r ms' h => by
    rcases h with ⟨rfl, h⟩ | ⟨rfl, h⟩
    · exact ⟨true, rfl, fun _ => h, fun e => by cases e⟩
    · exact ⟨false, rfl, (fun e => by cases e), fun _ => h⟩
/-- Two ways that meet behind n operations, told anew by what stays (L1) and by what slot p holds. -/
theorem go_or (L1 : Env) (n : Nat) (p : Nat) {t : Nat} {b c : Bool} (hs : SubEnv L1 L) (hb : Env.find L t = some (.v (.bool b)))
    (h1 : b = false → GO Γ P ops (l.drop n) ((p, .v (.bool c)) :: L1) ms K → GO Γ P ops l L ms K)
    (h2 : b = true → GO Γ P ops (l.drop n) ((p, .v (.bool true)) :: L1) ms K → GO Γ P ops l L ms K)
    (k : GO Γ P ops (l.drop n) ((p, .v (.bool (b || c))) :: L1) ms K) : GO Γ P ops l L ms K := by
  cases b with
  | true => exact h2 rfl k
  | false => exact h1 rfl (by simpa using k)
theorem go_and (L1 : Env) (n : Nat) (p : Nat) {t : Nat} {b c : Bool} (hs : SubEnv L1 L) (hb : Env.find L t = some (.v (.bool b)))
    (h1 : b = true → GO Γ P ops (l.drop n) ((p, .v (.bool c)) :: L1) ms K → GO Γ P ops l L ms K)
    (h2 : b = false → GO Γ P ops (l.drop n) ((p, .v (.bool false)) :: L1) ms K → GO Γ P ops l L ms K)
    (k : GO Γ P ops (l.drop n) ((p, .v (.bool (b && c))) :: L1) ms K) : GO Γ P ops l L ms K := by
  cases b with
  | false => exact h2 rfl k
  | true => exact h1 rfl (by simpa using k)
theorem o_pickT {x y z : Operand} {d : D} {b : Bool} {dst : Option Nat} {ty : TypeId} {pos : String} {after : Array Edge} {g : Option (Nat × Bool)} (hc : Env.ev L x = some (.v (.bool b))) (hb : b = true) (hy : Env.ev L y = some d) : OpP P ⟨dst, .pick x y z, ty, pos, after, g⟩ L ms d := by
  subst hb
  exact .pure (by simp) fun H fr a w _ henv => ⟨a.eval y, by simp [execOp, ev_v henv hc, asBool, Sem.run], henv.ev hy⟩
theorem o_pickF {x y z : Operand} {d : D} {b : Bool} {dst : Option Nat} {ty : TypeId} {pos : String} {after : Array Edge} {g : Option (Nat × Bool)} (hc : Env.ev L x = some (.v (.bool b))) (hb : b = false) (hy : Env.ev L z = some d) : OpP P ⟨dst, .pick x y z, ty, pos, after, g⟩ L ms d := by
  subst hb
  exact .pure (by simp) fun H fr a w _ henv => ⟨a.eval z, by simp [execOp, ev_v henv hc, asBool, Sem.run], henv.ev hy⟩
/-- The two ways' end. -/
theorem go_meet {L1 L' : Env} {p : Nat} {d : D} (h : GO Γ P ops l ((p, d) :: L1) ms K) (hp : Env.find L' p = some d) (hs : SubEnv L1 L') : GO Γ P ops l L' ms K :=
  go_conv (refines_sub (L := L') (L' := (p, d) :: L1) ⟨hp, hs⟩) h
/-- A region whose parts hang on a condition: it is gone through in two ways that meet behind it. -/
theorem g_split (b : Bool) {c : Code} (h1 : b = true → G Γ P c L ms K) (h2 : b = false → G Γ P c L ms K) : G Γ P c L ms K := by
  cases b with
  | true => exact h1 rfl
  | false => exact h2 rfl
theorem g_meet {c : Code} (L1 mod : Env) (hs : SubEnv L1 L) (h : (∀ L', SubEnv mod L' → SubEnv L1 L' → GO Γ P ops [] L' ms K) → G Γ P c L ms K) (k : K .normal (mod ++ L1) ms) : G Γ P c L ms K :=
  h fun L' h1 h2 => go_conv (refines_sub (h1.append h2)) (go_nil k)
end
end Go.V
