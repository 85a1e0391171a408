/- Comparisons of pointers with nil, of structs; ranges over functions, told by parts. -/
import Derived.Test.YtnnjgbcojdnhhaaV14
import Derived.Laws.StructEq
set_option linter.unusedVariables false
set_option linter.unusedSimpArgs false
namespace Go.V
section
variable {P : Program} {L : Env} {ms : List Asrt} {dst : Option Nat} {ty : TypeId} {pos : String} {after : Array Edge} {g : Option (Nat × Bool)} {d d' : D} {x y : Operand} {t t' : TypeId} {R : D → List Asrt → Prop}
theorem eq_ptr_nil {b : Bool} {e : TypeId} {u : Value} {w : World} (hu : ∀ w, (underlying t).run P w = .ok (.pointer e) w) (h : if b then u = .pointer none else ∃ a, u = .pointer (some a)) : (Op.equal t u (.pointer none)).run P w = .ok b w := by
  unfold Op.equal Op.maxDepth
  rw [show (10000 : Nat) = 9999 + 1 from rfl, Op.equalIn]
  cases b with
  | true => simp at h; subst h; simp [hu, Sem.run]
  | false => simp at h; obtain ⟨a, rfl⟩ := h; simp [hu, Sem.run]
/-- A pointer, compared with nil. -/
theorem o_eqnil {b : Bool} {e : TypeId} (hu : ∀ w, (underlying t).run P w = .ok (.pointer e) w) (hx : Env.ev L x = some d) (hn : NilP d b) (hy : Env.ev L y = some (.v (.pointer none))) :
    OpP P ⟨dst, .binOp .eql t x y t', ty, pos, after, g⟩ L ms (.v (.bool b)) := by
  refine .pure (by simp) fun H fr a w _ henv => ⟨.bool b, ?_, conc_v.2 rfl⟩
  have h := hn H _ (henv.ev hx)
  have := eq_ptr_nil (P := P) (w := w) hu h
  rcases b with _ | _
  · obtain ⟨q, hq⟩ : ∃ q, a.eval x = .pointer (some q) := by simpa using h
    simp only [execOp, ev_v henv hy, hq, eqGuard, binOp, Sem.run_bind, Sem.run_pure]
    rw [hq] at this
    simp [this]
  · have hq : a.eval x = .pointer none := by simpa using h
    simp only [execOp, ev_v henv hy, hq, eqGuard, binOp, Sem.run_bind, Sem.run_pure]
    rw [hq] at this
    simp [this]
theorem o_neqnil {b : Bool} {e : TypeId} (hu : ∀ w, (underlying t).run P w = .ok (.pointer e) w) (hx : Env.ev L x = some d) (hn : NilP d b) (hy : Env.ev L y = some (.v (.pointer none))) :
    OpP P ⟨dst, .binOp .neq t x y t', ty, pos, after, g⟩ L ms (.v (.bool (!b))) := by
  refine .pure (by simp) fun H fr a w _ henv => ⟨.bool (!b), ?_, conc_v.2 rfl⟩
  have h := hn H _ (henv.ev hx)
  have := eq_ptr_nil (P := P) (w := w) hu h
  rcases b with _ | _
  · obtain ⟨q, hq⟩ : ∃ q, a.eval x = .pointer (some q) := by simpa using h
    simp only [execOp, ev_v henv hy, hq, eqGuard, binOp, Sem.run_bind, Sem.run_pure]
    rw [hq] at this
    simp [this]
  · have hq : a.eval x = .pointer none := by simpa using h
    simp only [execOp, ev_v henv hy, hq, eqGuard, binOp, Sem.run_bind, Sem.run_pure]
    rw [hq] at this
    simp [this]
inductive EK | int | bool | str
/-- Data of one cell, compared. -/
def eqD1 : EK → D → D → Option Bool
  | .int, .v (.int k a), .v (.int k' b) => if k = k' then some (a == b) else none
  | .bool, .v (.bool a), .v (.bool b) => some (a == b)
  | .str, .v (.string a), .v (.string b) => some (a.data.toList == b.data.toList)
  | _, _, _ => none
def eqDs : List EK → List D → List D → Option Bool
  | [], [], [] => some true
  | k :: ks, c :: cs, d :: ds => match eqD1 k c d, eqDs ks cs ds with
    | some a, some b => some (a && b)
    | _, _ => none
  | _, _, _ => none
def EKOk (P : Program) (t : TypeId) : EK → Prop
  | .int => ∃ k, P.underlying t = some (.int k)
  | .bool => P.underlying t = some .bool
  | .str => P.underlying t = some .string
/-- Fields of one cell each, that can be compared. -/
def EqFields (P : Program) : List Field → Nat → List EK → Prop
  | [], _, [] => True
  | f :: r, off, k :: ks => f.name ≠ "_" ∧ f.offset = off ∧ (∀ w, (isAgg f.type).run P w = .ok false w) ∧ EKOk P f.type k ∧ EqFields P r (off + 1) ks
  | _, _, _ => False
theorem run_part {off : Nat} {xs : Array Value} {v : Value} {w : World} (ha : ∀ w, (isAgg t).run P w = .ok false w) (h : xs[off]? = some v) : (part t xs off).run P w = .ok v w := by
  simp [part, ha, h, Sem.run]
theorem toList_data (b : ByteArray) : b.toList = b.data.toList := by rw [ByteArray.toList_eq]
theorem eq_fields {H : PH} (d : Nat) : ∀ (fs : List Field) (off : Nat) (ks : List EK) (cs ds : List D) (xs ys pre pre' : List Value) (b : Bool) (w : World), EqFields P fs off ks → EncL H cs xs → EncL H ds ys → pre.length = off → pre'.length = off → eqDs ks cs ds = some b →
    (Op.eqFields (d + 1) (pre ++ xs).toArray (pre' ++ ys).toArray fs).run P w = .ok b w
  | [], off, [], cs, ds, xs, ys, pre, pre', b, w, _, hx, hy, _, _, hb => by
    cases cs with
    | nil =>
      cases ds with
      | nil => simp [eqDs] at hb; subst hb; simp [Op.eqFields, Sem.run]
      | cons => simp [eqDs] at hb
    | cons => simp [eqDs] at hb
  | [], off, _ :: _, cs, ds, xs, ys, pre, pre', b, w, hf, _, _, _, _, _ => by simp [EqFields] at hf
  | _ :: _, off, [], cs, ds, xs, ys, pre, pre', b, w, hf, _, _, _, _, _ => by simp [EqFields] at hf
  | f :: fs, off, k :: ks, [], ds, xs, ys, pre, pre', b, w, _, hx, hy, _, _, hb => by cases ds <;> simp [eqDs] at hb
  | f :: fs, off, k :: ks, c :: cs, [], xs, ys, pre, pre', b, w, _, hx, hy, _, _, hb => by simp [eqDs] at hb
  | f :: fs, off, k :: ks, c :: cs, e :: ds, xs, ys, pre, pre', b, w, hf, hx, hy, hp, hp', hb => by
    obtain ⟨h1, h2, h3, h4, h5⟩ := hf
    simp only [eqDs] at hb
    split at hb
    · rename_i b1 b2 e1 e2
      simp only [Option.some.injEq] at hb
      simp only [EncL] at hx hy
      obtain ⟨u, xs, rfl, x1, x2⟩ := hx
      obtain ⟨v, ys, rfl, y1, y2⟩ := hy
      have key : ∃ u' v', u = [u'] ∧ v = [v'] ∧ ∀ w, (Op.equalIn (d + 1) f.type u' v').run P w = .ok b1 w := by
        unfold eqD1 at e1
        split at e1
        · rename_i k m k' n
          split at e1
          · rename_i hk
            subst hk
            simp only [Option.some.injEq] at e1
            simp only [Enc] at x1 y1
            refine ⟨_, _, x1, y1, fun w => ?_⟩
            obtain ⟨k2, h4⟩ := h4
            rw [run_equalIn_int w d _ _ k2 m n h4, e1]
          · cases e1
        · simp only [Option.some.injEq] at e1
          simp only [Enc] at x1 y1
          exact ⟨_, _, x1, y1, fun w => by rw [run_equalIn_bool' w d _ _ _ h4, e1]⟩
        · simp only [Option.some.injEq] at e1
          simp only [Enc] at x1 y1
          exact ⟨_, _, x1, y1, fun w => by rw [run_equalIn_string w d _ _ _ h4, toList_data, toList_data, e1]⟩
        · cases e1
      obtain ⟨u, v, rfl, rfl, key⟩ := key
      have g1 : (pre ++ ([u] ++ xs)).toArray[f.offset]? = some u := by simp [h2, ← hp]
      have g2 : (pre' ++ ([v] ++ ys)).toArray[f.offset]? = some v := by simp [h2, ← hp']
      rw [Op.eqFields, if_pos h1]
      simp only [Sem.run_bind, run_part h3 g1, run_part h3 g2, Result.andThen_ok, key]
      cases b1 with
      | false => simp [Sem.run, ← hb]
      | true =>
        have ih := eq_fields d fs (off + 1) ks cs ds xs ys (pre ++ [u]) (pre' ++ [v]) b2 w h5 x2 y2 (by simp [hp]) (by simp [hp']) e2
        simp only [List.append_assoc] at ih
        simp only [Bool.not_true, Bool.false_eq_true, if_false]
        rw [ih, ← hb]; simp
    · cases hb
theorem eq_agg {H : PH} {fs : Array Field} {cs ds : List D} {xs ys : List Value} {ks : List EK} {b : Bool} (w : World) (hu : P.underlying t = some (.struct fs)) (hst : P.stoodInHeld t = false) (hf : EqFields P fs.toList 0 ks) (hx : EncL H cs xs) (hy : EncL H ds ys) (hb : eqDs ks cs ds = some b) :
    (Op.equalIn 10000 t (.agg xs.toArray) (.agg ys.toArray)).run P w = .ok b w := by
  have hfs : P.fieldsOf t = fs := by simp [Program.fieldsOf, hu]
  have h := run_equalIn_struct w 9999 t xs.toArray ys.toArray (by rw [hfs]; exact hu) hst
  rw [hfs] at h
  have := eq_fields 9998 fs.toList 0 ks cs ds xs ys [] [] b w hf hx hy rfl rfl hb
  simp only [List.nil_append] at this
  exact h.trans this
/-- Two structs, compared. -/
theorem o_eqagg {fs : Array Field} {cs ds : List D} {ks : List EK} {b : Bool} (hu : P.underlying t = some (.struct fs)) (hst : P.stoodInHeld t = false) (hg : P.eqGuardType P.depth t = false) (hf : EqFields P fs.toList 0 ks) (hx : Env.ev L x = some (.agg cs)) (hy : Env.ev L y = some (.agg ds)) (hb : eqDs ks cs ds = some b) :
    OpP P ⟨dst, .binOp .eql t x y t', ty, pos, after, g⟩ L ms (.v (.bool b)) := by
  refine .pure (by simp) fun H fr a w _ henv => ⟨.bool b, ?_, conc_v.2 rfl⟩
  obtain ⟨xs, e1, e2⟩ := conc_agg.1 (henv.ev hx)
  obtain ⟨ys, e3, e4⟩ := conc_agg.1 (henv.ev hy)
  simp only [execOp, e1, e3, Sem.run_bind, run_eqGuard_agg w .eql t x y _ _ hg, Result.andThen_ok, run_eql_struct, eq_agg w hu hst hf e2 e4 hb, Sem.run_pure]
theorem o_neqagg {fs : Array Field} {cs ds : List D} {ks : List EK} {b : Bool} (hu : P.underlying t = some (.struct fs)) (hst : P.stoodInHeld t = false) (hg : P.eqGuardType P.depth t = false) (hf : EqFields P fs.toList 0 ks) (hx : Env.ev L x = some (.agg cs)) (hy : Env.ev L y = some (.agg ds)) (hb : eqDs ks cs ds = some b) :
    OpP P ⟨dst, .binOp .neq t x y t', ty, pos, after, g⟩ L ms (.v (.bool (!b))) := by
  refine .pure (by simp) fun H fr a w _ henv => ⟨.bool (!b), ?_, conc_v.2 rfl⟩
  obtain ⟨xs, e1, e2⟩ := conc_agg.1 (henv.ev hx)
  obtain ⟨ys, e3, e4⟩ := conc_agg.1 (henv.ev hy)
  simp only [execOp, e1, e3, Sem.run_bind, run_eqGuard_agg w .neq t x y _ _ hg, Result.andThen_ok, run_neq_struct, eq_agg w hu hst hf e2 e4 hb, Sem.run_pure]
end
section
variable {Γ : Ctx} {P : Program} {L : Env} {ms : List Asrt} {K : KT}
/-- A range over a function that yields xs. -/
theorem g_range {g : Operand} {ps : List Nat} {assign body : Code} {gf : FuncId} {caps : List D} (xs : List (List D)) (J : Nat → List Asrt → Prop)
    (hg : Env.ev L g = some (.clo (.func gf) [] caps)) (hc : ∀ args w, (callFunc gf args).run P w = .ok (.enter gf args) w) (hit : Iter P gf caps xs) (h0 : J 0 ms)
    (hlen : ∀ ds ∈ xs, ds.length = ps.length) (hps : ps.all (fun p => Nat.blt p Γ.N) = true)
    (round : ∀ (H0 : PH) (fr : List Asrt) (ro : Option Nat) (w0 : World) hr (k : Nat) (ds : List D) (ms' : List Asrt), xs[k]? = some ds → J k ms' →
      G ⟨H0, fr, Γ.N, ro, w0, hr⟩ P assign (bindPs ps ds L) ms' (KT.then (fun L' ms'' => ∀ (H0 : PH) (fr : List Asrt) (ro : Option Nat) (w0 : World) hr, G ⟨H0, fr, Γ.N, ro, w0, hr⟩ P body L' ms'' (fun e _ ms3 => match e with | .normal => (∃ junk ms4, ms3 = junk ++ ms4 ∧ J (k + 1) ms4) | .ret => K .ret L ms3 | .exit id => K (.exit id) L ms3 | _ => False)) (fun _ _ _ => False)))
    (hdone : ∀ ms', J xs.length ms' → K .normal L ms') : G Γ P (.rangeFunc g ps.toArray assign body) L ms K := by
  refine g_rangeFunc xs J hg hc hit h0 hlen hps ?_ hdone
  intro Γ' k ds ms' hN hx hJ
  obtain ⟨H0, fr, N, ro, w0, hr⟩ := Γ'
  simp only at hN
  subst hN
  refine g_mono (round H0 fr ro w0 hr k ds ms' hx hJ) ?_
  intro e L' ms'' k'
  cases e with
  | normal =>
    intro Γ'' hN'
    obtain ⟨H0', fr', N', ro', w0', hr'⟩ := Γ''
    simp only at hN'
    subst hN'
    intro a w m
    refine wpIn_mono (k' H0' fr' ro' w0' hr' a w m) ?_
    rintro e a' w' ⟨L3, ms3, k3, m3⟩
    cases e with
    | normal =>
      obtain ⟨junk, ms4, rfl, hJ'⟩ := k3
      exact ⟨L3, ms4, hJ', refines_junk junk _ _ _ m3⟩
    | _ => exact ⟨L3, ms3, k3, m3⟩
  | _ => exact k'
end
end Go.V
