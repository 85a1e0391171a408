/- The operations' rules: struct and slice literals, calls. -/
import Derived.Test.YtnnjgbcojdnhhaaV5
set_option linter.unusedVariables false
set_option linter.unusedSimpArgs false
namespace Go.V
theorem foldl_put (off : Nat) : ∀ (us : List Value) (j : Nat) (cells : List Value), off + j + us.length ≤ cells.length →
    (us.zipIdx j).foldl (fun (cs : Array Value) (p : Value × Nat) => cs.setIfInBounds (off + p.2) p.1) cells.toArray = (cells.take (off + j) ++ us ++ cells.drop (off + j + us.length)).toArray
  | [], j, cells, h => by simp
  | u :: us, j, cells, h => by
    simp only [List.zipIdx_cons, List.foldl_cons]
    have hl : (cells.set (off + j) u).length = cells.length := by simp
    have ih := foldl_put off us (j + 1) (cells.set (off + j) u) (by simp at h ⊢; omega)
    rw [show cells.toArray.setIfInBounds (off + j) u = (cells.set (off + j) u).toArray by simp]
    rw [ih]
    congr 1
    simp at h
    have h1 : off + j < cells.length := by omega
    apply List.ext_getElem?
    intro i
    simp only [List.getElem?_append, List.length_append, List.length_take, List.length_set, List.getElem?_take, List.getElem?_drop, List.length_cons, List.getElem?_cons, List.getElem?_set, List.append_assoc]
    by_cases c1 : i < off + j
    · have : i < off + (j + 1) := by omega
      simp [c1, this, show min (off + (j + 1)) cells.length = off + (j + 1) by omega, show min (off + j) cells.length = off + j by omega]
      intro h'; omega
    · by_cases c2 : i = off + j
      · subst c2
        simp [show min (off + (j + 1)) cells.length = off + (j + 1) by omega, show min (off + j) cells.length = off + j by omega, show off + j < off + (j + 1) by omega, h1]
      · have c3 : ¬ i < off + (j + 1) := by omega
        simp [c1, c3, show min (off + (j + 1)) cells.length = off + (j + 1) by omega, show min (off + j) cells.length = off + j by omega]
        have c4 : ¬ i - (off + j) = 0 := by omega
        rw [show i - (off + (j + 1)) = i - (off + j) - 1 by omega]
        by_cases c5 : i - (off + j) - 1 < us.length
        · have : i - (off + j) < us.length + 1 := by omega
          simp [c5, this, c4]
        · have : ¬ i - (off + j) < us.length + 1 := by omega
          simp [c5, this]
          rw [if_neg (by omega)]
          congr 1; omega
section ops
variable {P : Program} {L : Env} {ms : List Asrt} {dst : Option Nat} {ty : TypeId} {pos : String} {after : Array Edge} {g : Option (Nat × Bool)} {d d' : D} {x y : Operand} {t t' : TypeId}
theorem fill_one (us : List Value) (off : Nat) (cells : List Value) (h : off + us.length ≤ cells.length) :
    (us.toArray.zipIdx.foldl (fun (cs : Array Value) (p : Value × Nat) => cs.setIfInBounds (off + p.2) p.1) cells.toArray) = (cells.take off ++ (us ++ cells.drop (off + us.length))).toArray := by
  have := foldl_put off us 0 cells (by omega)
  rw [← Array.foldl_toList]
  simp at this ⊢
  exact this
/-- The parts, by their operands. -/
def evP (L : Env) : List (Nat × Operand) → Option (List (Nat × D))
  | [] => some []
  | (i, x) :: r => match Env.ev L x, evP L r with
    | some d, some ds => some ((i, d) :: ds)
    | _, _ => none
def storableP : List (Nat × D) → Bool
  | [] => true
  | (_, d) :: r => d.storable && storableP r
theorem fill_run {H : PH} {a : Act} (henv : EnvOk H L a.tmps) {pl : List (Nat × Nat)} {place : Nat → Option (Nat × Nat)} (hpl : ∀ i, place i = pl[i]?) : ∀ (ps : List (Nat × Operand)) (ds : List (Nat × D)) (cs cs' : List D) (vs : List Value), evP L ps = some ds → storableP ds = true →
    EncL H cs vs → flat cs = true → fillD pl cs ds = some cs' → ∃ vs', Instr.fill place vs.toArray (ps.map fun p => (p.1, a.eval p.2)) = some vs'.toArray ∧ EncL H cs' vs' ∧ flat cs' = true
  | [], ds, cs, cs', vs, h, _, e, hf, hfi => by
    simp only [evP, Option.some.injEq] at h
    subst h
    simp only [fillD, Option.some.injEq] at hfi
    subst hfi
    exact ⟨vs, rfl, e, hf⟩
  | (i, x) :: ps, ds, cs, cs', vs, h, hst, e, hf, hfi => by
    simp only [evP] at h
    split at h
    · rename_i d ds' h1 h2
      simp only [Option.some.injEq] at h
      subst h
      simp only [storableP, Bool.and_eq_true] at hst
      simp only [fillD] at hfi
      split at hfi
      · rename_i off sz h3
        split at hfi
        · rename_i hc
          obtain ⟨c1, c2, c3⟩ := hc
          have hv := conc_cs (henv.ev h1) hst.1
          have hvl := (EncL.get _ _ hv c3).1
          obtain ⟨hl, _⟩ := EncL.get _ _ e hf
          have hsz : (a.eval x).cells.size = sz := by rw [← Array.length_toList, hvl, c1]
          have e2 : EncL H (putCs off d.cs cs) (vs.take off ++ ((a.eval x).cells.toList ++ vs.drop (off + (a.eval x).cells.toList.length))) := by
            unfold putCs; rw [hvl]
            exact encL_append _ _ _ _ (encL_take _ _ hf e _) (encL_append _ _ _ _ hv (encL_drop _ _ hf e _))
          have hf2 : flat (putCs off d.cs cs) = true := by
            have app : ∀ (as bs : List D), flat as = true → flat bs = true → flat (as ++ bs) = true := by
              intro as bs ha hb
              induction as with
              | nil => exact hb
              | cons q as ih => have := ih (flat_cons ha).2; cases q <;> simp_all [flat]
            exact app _ _ (flat_take _ _ hf) (app _ _ c3 (flat_drop _ _ hf))
          obtain ⟨vs', k1, k2, k3⟩ := fill_run henv hpl ps ds' _ cs' _ h2 hst.2 e2 hf2 hfi
          refine ⟨vs', ?_, k2, k3⟩
          simp only [List.map_cons, Instr.fill, hpl, h3]
          have hno : (decide ((a.eval x).cells.size ≠ sz) || decide (off + (a.eval x).cells.size > vs.toArray.size)) = false := by simp [hsz]; omega
          rw [hno, if_neg (by simp)]
          have := fill_one (a.eval x).cells.toList off vs (by simp [hsz]; omega)
          simp only [Array.toArray_toList] at this
          rw [this]
          exact k1
        · cases hfi
      · cases hfi
    · cases h
theorem o_build {z : Value} {zs cs : List D} {fs : Array Field} {pl : List (Nat × Nat)} {ps : List (Nat × Operand)} {ds : List (Nat × D)} (hu : ∀ w, (underlying t).run P w = .ok (.struct fs) w) (hz : ∀ w, (zeroValue t).run P w = .ok z w) (hpl : placesOf P fs pl)
    (hm : zmatch zs z.cells.toList = true) (hev : evP L ps = some ds) (hst : storableP ds = true) (hfi : fillD pl zs ds = some cs) : OpP P ⟨dst, .build t ps.toArray, ty, pos, after, g⟩ L ms (.agg cs) := by
  refine .pure (by simp) fun H fr a w hok henv => ?_
  obtain ⟨h1, h2⟩ := zmatch_enc (H := H) _ _ hm
  obtain ⟨vs', k1, k2, k3⟩ := fill_run henv (place := fun i => pl[i]?) (fun i => rfl) ps ds zs cs z.cells.toList hev hst h1 h2 hfi
  refine ⟨.agg vs'.toArray, ?_, conc_agg.2 ⟨vs', rfl, k2⟩⟩
  simp only [Array.toArray_toList] at k1
  have hp := hpl w
  simp [execOp, Instr.build, hz, hu, hp, Sem.run, k1]

/-! ### Slice literals -/
def evL (L : Env) : List Operand → Option (List D)
  | [] => some []
  | x :: r => match Env.ev L x, evL L r with
    | some d, some ds => some (d :: ds)
    | _, _ => none
theorem evL_conc {H : PH} {a : Act} (henv : EnvOk H L a.tmps) : ∀ (xs : List Operand) (ds : List D), evL L xs = some ds → ConcL H ds (xs.map a.eval)
  | [], ds, h => by simp only [evL, Option.some.injEq] at h; subst h; simp [ConcL]
  | x :: xs, ds, h => by
    simp only [evL] at h
    split at h
    · rename_i d ds' h1 h2
      simp only [Option.some.injEq] at h
      subst h
      simp only [List.map_cons, ConcL]
      exact ⟨_, _, rfl, henv.ev h1, evL_conc henv xs ds' h2⟩
    · cases h

/-! ### Calls -/
theorem op_enter {ro : Option Nat} {o : Oper} {a : Act} {w w' : World} {f : FuncId} {args : Array Value} {R : Ending → World → Prop} {next : Act → World → Prop} {Q : Exit → Act → World → Prop} (hnd : ∀ c, o.op ≠ .defer c)
    (h : (execOp a.eval o).run P w = .ok (.enter f args) w') (hc : Calls P f args w' R) (hn : ∀ e w'', R e w'' → ∃ v, e = .returned v ∧ next (a.put o.dst v) w'') : o.wpIn (FR ro) 0 P a w next Q := by
  refine ⟨fun _ _ => trivial, ?_⟩
  rw [Oper.semAt_eq _ _ _ hnd, h]
  refine ⟨by simp, trivial, fun cs _ => ?_⟩
  obtain ⟨e, w'', fr, r, s, rest⟩ := hc cs
  obtain ⟨v, rfl, hv⟩ := hn e w'' r
  refine ⟨.returned v, w'', fr, hv, ?_, rest⟩
  exact StepsIn.mono (fun m _ => (fenced_wide P m)) (StepsIn.of_steps s)
/-- A call of a named function: what it needs of what is owned is ms₁. -/
theorem o_call {f : FuncId} {args : List Operand} {ats : Array TypeId} {ds : List D} {ms₁ rest : List Asrt} {R : D → List Asrt → Prop} (hc : ∀ args w, (callFunc f args).run P w = .ok (.enter f args) w) (hev : evL L args = some ds)
    (hsplit : ms.Perm (ms₁ ++ rest)) (hf : Fn P f ds ms₁ R) : OpT P ⟨dst, .call ⟨.value (.func f), args.toArray, ats⟩, ty, pos, after, g⟩ L ms (fun d ms' => ∃ ms₁', R d ms₁' ∧ ms' = ms₁' ++ rest) := by
  intro ro H fr a w hok henv next Q hn
  have hok' : HeapOk H (ms₁ ++ (rest ++ fr)) w := by rw [← List.append_assoc]; exact hok.perm (hsplit.append_right fr)
  refine op_enter (w' := w) (by simp) ?_ (hf H (rest ++ fr) w (args.map a.eval) hok' (evL_conc henv args ds hev)) ?_
  · simp [execOp, resolve, Act.eval, Deferred.ofValue, invoke, Sem.run, hc, Sem.run_bind]
  · rintro e w'' ⟨v, d, ms', H', rfl, hR, hle, hok'', hcc, hs⟩
    exact ⟨v, rfl, hn v d _ w'' H' ⟨ms', hR, rfl⟩ hle (by rw [List.append_assoc]; exact hok'') hcc hs⟩
theorem o_call0 {f : FuncId} {args : List Operand} {ats : Array TypeId} {ds : List D} (hc : ∀ args w, (callFunc f args).run P w = .ok (.enter f args) w) (hev : evL L args = some ds) (hf : Fn0 P f ds d) :
    OpP P ⟨dst, .call ⟨.value (.func f), args.toArray, ats⟩, ty, pos, after, g⟩ L ms d := by
  have hf' : Fn P f ds [] (fun d' ms' => d' = d ∧ ms' = []) := by
    intro H fr w vs hok hargs
    refine (hf H fr w vs hok hargs).mono ?_
    rintro e w' ⟨v, d', ms', H', he, hd, hle, hok', hc, hs⟩
    exact ⟨v, d', [], H', he, ⟨hd, rfl⟩, hle, by simpa using hok'.drop, hc, hs⟩
  have := o_call (P := P) (L := L) (ms := ms) (dst := dst) (ty := ty) (pos := pos) (after := after) (g := g) (ats := ats) (ms₁ := []) (rest := ms) hc hev (List.Perm.refl ms) hf'
  intro ro H fr a w hok henv next Q hn
  refine this ro H fr a w hok henv next Q ?_
  rintro v d' ms' w' H' ⟨ms₁', ⟨rfl, rfl⟩, rfl⟩ hle hok' hc' hs
  exact hn v d' _ w' H' ⟨rfl, rfl⟩ hle hok' hc' hs
end ops
end Go.V
