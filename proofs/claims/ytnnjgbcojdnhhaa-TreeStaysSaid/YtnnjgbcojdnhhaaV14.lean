/- Function values; ranges over functions. -/
import Derived.Test.YtnnjgbcojdnhhaaV13
import Derived.RangeFuncRecord
import Derived.RangeFuncIn
import Derived.RangeFuncNested
set_option linter.unusedVariables false
set_option linter.unusedSimpArgs false
namespace Go.V

/-- A function value, called. -/
def CallV (P : Program) (v : Value) (vs : List Value) (w : World) (R : Ending → World → Prop) : Prop :=
  ∃ fn first caps, v = .func fn first caps ∧
    ((∃ f, fn = .func f ∧ (∀ args w, (callFunc f args).run P w = .ok (.enter f args) w) ∧ Calls P f (first ++ vs.toArray ++ caps) w R) ∨
     (∃ l g tmps assign body, fn = .yield l ∧ (Instr.yield l (first ++ vs.toArray)).run P w = .ok (.round l g tmps assign body) w ∧ RoundIn (FR none) 0 P l g tmps assign body w R))
/-- A function value's contract. -/
def FV (P : Program) (fv : D) (args : List D) (ms : List Asrt) (R : D → List Asrt → Prop) : Prop :=
  ∀ (H : PH) (fr : List Asrt) (w : World) (v : Value) (vs : List Value), HeapOk H (ms ++ fr) w → Conc H fv v → ConcL H args vs →
    CallV P v vs w (fun e w' => ∃ v d ms' H', e = .returned v ∧ R d ms' ∧ PH.le H H' ∧ HeapOk H' (ms' ++ fr) w' ∧ Conc H' d v ∧ SameOut w w')
theorem concL_append {H : PH} : ∀ (as bs : List D) (us vs : List Value), ConcL H as us → ConcL H bs vs → ConcL H (as ++ bs) (us ++ vs)
  | [], bs, us, vs, e, e' => by simp only [ConcL] at e; subst e; exact e'
  | a :: as, bs, us, vs, e, e' => by
    simp only [ConcL] at e
    obtain ⟨u, r, rfl, hx, hr⟩ := e
    simp only [List.cons_append, ConcL]
    exact ⟨u, r ++ vs, rfl, hx, concL_append as bs r vs hr e'⟩
section
variable {P : Program} {L : Env} {ms : List Asrt} {dst : Option Nat} {ty : TypeId} {pos : String} {after : Array Edge} {g : Option (Nat × Bool)} {d d' : D} {x y : Operand} {t t' : TypeId} {R : D → List Asrt → Prop}
theorem Fn.mono {f : FuncId} {args : List D} {R' : D → List Asrt → Prop} (h : Fn P f args ms R) (k : ∀ d ms, R d ms → R' d ms) : Fn P f args ms R' := by
  intro H fr w vs hok ha
  refine (h H fr w vs hok ha).mono ?_
  rintro e w' ⟨v, d, ms', H', he, hR, rest⟩
  exact ⟨v, d, ms', H', he, k _ _ hR, rest⟩
theorem fv_clo {f : FuncId} {fs cs args : List D} (hc : ∀ args w, (callFunc f args).run P w = .ok (.enter f args) w) (h : Fn P f (fs ++ args ++ cs) ms R) : FV P (.clo (.func f) fs cs) args ms R := by
  intro H fr w v vs hok hv ha
  rw [conc_enc (by rfl)] at hv
  simp only [Enc] at hv
  obtain ⟨us, ws, hvv, h1, h2⟩ := hv
  simp only [List.cons.injEq, and_true] at hvv
  refine ⟨_, _, _, hvv, .inl ⟨f, rfl, hc, ?_⟩⟩
  have := h H fr w ((us ++ vs) ++ ws) hok (concL_append _ _ _ _ (concL_append _ _ _ _ h1 ha) h2)
  simpa using this
theorem fv_func {f : FuncId} {args : List D} (hc : ∀ args w, (callFunc f args).run P w = .ok (.enter f args) w) (h : Fn P f args ms R) : FV P (.v (.func (.func f) #[] #[])) args ms R := by
  intro H fr w v vs hok hv ha
  refine ⟨_, _, _, conc_v.1 hv, .inl ⟨f, rfl, hc, ?_⟩⟩
  have := h H fr w vs hok ha
  simpa using this
theorem FV.mono {fv : D} {args : List D} {R' : D → List Asrt → Prop} (h : FV P fv args ms R) (k : ∀ d ms, R d ms → R' d ms) : FV P fv args ms R' := by
  intro H fr w v vs hok hv ha
  obtain ⟨fn, first, caps, e, h1⟩ := h H fr w v vs hok hv ha
  refine ⟨fn, first, caps, e, ?_⟩
  rcases h1 with ⟨f, e1, e2, e3⟩ | ⟨l, g, tmps, as, b, e1, e2, e3⟩
  · refine .inl ⟨f, e1, e2, e3.mono ?_⟩
    rintro e w' ⟨v, d, ms', H', he, hR, rest⟩
    exact ⟨v, d, ms', H', he, k _ _ hR, rest⟩
  · refine .inr ⟨l, g, tmps, as, b, e1, e2, e3.mono ?_⟩
    rintro e w' ⟨v, d, ms', H', he, hR, rest⟩
    exact ⟨v, d, ms', H', he, k _ _ hR, rest⟩
/-- What is owned beside stays. -/
theorem FV.frame {fv : D} {args : List D} {rest : List Asrt} (h : FV P fv args ms R) : FV P fv args (ms ++ rest) (fun d ms' => ∃ ms₁, R d ms₁ ∧ ms' = ms₁ ++ rest) := by
  intro H fr w v vs hok hv ha
  obtain ⟨fn, first, caps, e, h1⟩ := h H (rest ++ fr) w v vs (by rw [← List.append_assoc]; exact hok) hv ha
  refine ⟨fn, first, caps, e, ?_⟩
  rcases h1 with ⟨f, e1, e2, e3⟩ | ⟨l, g, tmps, as, b, e1, e2, e3⟩
  · refine .inl ⟨f, e1, e2, e3.mono ?_⟩
    rintro e w' ⟨v, d, ms', H', he, hR, a1, a2, a3⟩
    exact ⟨v, d, _, H', he, ⟨ms', hR, rfl⟩, a1, by rw [List.append_assoc]; exact a2, a3⟩
  · refine .inr ⟨l, g, tmps, as, b, e1, e2, e3.mono ?_⟩
    rintro e w' ⟨v, d, ms', H', he, hR, a1, a2, a3⟩
    exact ⟨v, d, _, H', he, ⟨ms', hR, rfl⟩, a1, by rw [List.append_assoc]; exact a2, a3⟩
/-- A call of a function value. -/
theorem o_callv {args : List Operand} {ats : Array TypeId} {ds : List D} {fv : D} {ms₁ rest : List Asrt} (hx : Env.ev L x = some fv) (hev : evL L args = some ds)
    (hsplit : ms.Perm (ms₁ ++ rest)) (hf : FV P fv ds ms₁ R) : OpT P ⟨dst, .call ⟨.value x, args.toArray, ats⟩, ty, pos, after, g⟩ L ms (fun d ms' => ∃ ms₁', R d ms₁' ∧ ms' = ms₁' ++ rest) := by
  intro ro H fr a w hok henv next Q hn
  have hok' : HeapOk H (ms₁ ++ (rest ++ fr)) w := by rw [← List.append_assoc]; exact hok.perm (hsplit.append_right fr)
  obtain ⟨fn, first, caps, e, h1⟩ := hf H (rest ++ fr) w _ _ hok' (henv.ev hx) (evL_conc henv args ds hev)
  have fin : ∀ e w'', (∃ v d ms' H', e = Ending.returned v ∧ R d ms' ∧ PH.le H H' ∧ HeapOk H' (ms' ++ (rest ++ fr)) w'' ∧ Conc H' d v ∧ SameOut w w'') → ∃ v, e = .returned v ∧ next (a.put dst v) w'' := by
    rintro e w'' ⟨v, d, ms', H', rfl, hR, hle, hok'', hcc, hs⟩
    exact ⟨v, rfl, hn v d _ w'' H' ⟨ms', hR, rfl⟩ hle (by rw [List.append_assoc]; exact hok'') hcc hs⟩
  rcases h1 with ⟨f, e1, e2, e3⟩ | ⟨l, g', tmps, as, b, e1, e2, e3⟩
  · refine op_enter (w' := w) (by simp) ?_ e3 fin
    subst e1
    simp [execOp, resolve, e, Deferred.ofValue, invoke, Sem.run, e2, Sem.run_bind]
  · refine ⟨fun _ _ => trivial, ?_⟩
    rw [Oper.semAt_eq _ _ _ (by simp)]
    have : (execOp a.eval ⟨dst, .call ⟨.value x, args.toArray, ats⟩, ty, pos, after, g⟩).run P w = .ok (.round l g' tmps as b) w := by
      subst e1
      simp [execOp, resolve, e, Deferred.ofValue, invoke, Sem.run, Sem.run_bind]
      simpa [Sem.run] using e2
    rw [this]
    refine ⟨by simp, ?_⟩
    have e4 : RoundIn (FR ro) 0 P l g' tmps as b w _ := e3
    refine RoundIn.mono e4 ?_
    intro e w'' he
    obtain ⟨v, rfl, hv⟩ := fin e w'' he
    exact hv
/-- A function value that captures. -/
theorem o_makeFunc {fn : Go.Fn} {fs cs : List Operand} {ds es : List D} (h1 : evL L fs = some ds) (h2 : evL L cs = some es) : OpP P ⟨dst, .makeFunc fn fs.toArray cs.toArray, ty, pos, after, g⟩ L ms (.clo fn ds es) := by
  refine .pure (by simp) fun H fr a w hok henv => ?_
  refine ⟨.func fn (fs.map a.eval).toArray (cs.map a.eval).toArray, by simp [execOp, Instr.makeFunc, Sem.run], ?_⟩
  rw [conc_enc (by rfl)]
  simp only [Enc]
  exact ⟨_, _, rfl, evL_conc henv _ _ h1, evL_conc henv _ _ h2⟩

/-- What a value is told to be is nil, or is not. -/
def NilP (d : D) (b : Bool) : Prop := ∀ H u, Conc H d u → if b then u = .pointer none else ∃ a, u = .pointer (some a)
theorem nilP_nil : NilP (.v (.pointer none)) true := fun H u h => by simpa using conc_v.1 h
theorem nilP_ref {x : D} : NilP (.ref x) false := fun H u h => by
  rw [conc_enc (by rfl)] at h
  simp only [Enc] at h
  obtain ⟨b, off, us, hv, _⟩ := h
  simp at hv
  simp [hv]
theorem nilP_ptr {a : Addr} : NilP (.v (.pointer (some a))) false := fun H u h => ⟨a, conc_v.1 h⟩
end

/-! ### Ranges over functions -/
/-- What the heap's persistent part is known to hold. -/
def fact (p : PH → Prop) (h : ∀ H H', PH.le H H' → p H → p H') : Asrt where
  blocks := []
  ok := fun H _ => p H
  stable := fun H H' _ _ _ hle o => h H H' hle o
def recX (l : Nat) (r : Loop) : Asrt where
  blocks := [l]
  ok := fun H h => h l = some (.loop r)
  stable := fun H H' h h' e _ o => by rw [(e l (by simp)).2]; exact o
/-- An iterator yields xs, one by one, and nothing else. -/
def Iter (P : Program) (gf : FuncId) (caps : List D) (xs : List (List D)) : Prop :=
  ∀ (y : D), (y.storable = true ∧ y.isAgg = false) → ∀ (J : Nat → List Asrt → Prop) (Jx : List Asrt → Prop),
    (∀ k ds ms, xs[k]? = some ds → J k ms → FV P y ds ms (fun r ms' => (r = .bool true ∧ J (k + 1) ms') ∨ (r = .bool false ∧ Jx ms'))) →
    ∀ ms, J 0 ms → Fn P gf (y :: caps) ms (fun _ ms' => J xs.length ms' ∨ Jx ms')

theorem HeapOk.put {H : PH} {A A' : Asrt} {as : List Asrt} {w : World} {l : Nat} {o o' : Obj} (h : HeapOk H (A :: as) w) (hb : A.blocks = [l]) (hb' : A'.blocks = [l]) (ho : w.heap[l]? = some o) (hno : o.isCells = false)
    (hok : A'.ok H (fun b => (w.putObj l o').heap[b]?)) : HeapOk H (A' :: as) (w.putObj l o') := by
  refine h.upd (hb'.trans hb.symm) (by simp) (fun b _ hn => World.putObj_heap_other (fun e => hn (by rw [hb, e]; simp))) (fun _ _ _ _ => rfl) (PH.le_refl H) ?_ hok
  intro b off v hbb hv
  exfalso
  rcases hbb with hbb | hbb
  · rw [hb] at hbb
    simp at hbb
    subst hbb
    have := h.sub b off v hv
    simp only [World.cell?, ho] at this
    cases o <;> simp_all [Obj.isCells]
  · rw [h.none_new b off hbb] at hv; cases hv
theorem sameOut_put (w : World) (l : Nat) (o : Obj) : SameOut w (w.putObj l o) := ⟨rfl, rfl, rfl, by simp⟩
theorem HeapOk.app {H : PH} {as bs : List Asrt} {w : World} (h : HeapOk H (as ++ bs) w) : HeapOk H (bs ++ as) w := h.perm List.perm_append_comm

theorem perm_two (x y : Asrt) (ms fr : List Asrt) : (x :: y :: (ms ++ fr)).Perm (ms ++ (x :: y :: fr)) := by
  have : (x :: y :: (ms ++ fr)) = [x, y] ++ (ms ++ fr) := rfl
  rw [this]
  have : (ms ++ (x :: y :: fr)) = ms ++ ([x, y] ++ fr) := rfl
  rw [this, ← List.append_assoc, ← List.append_assoc]
  exact (List.perm_append_comm).append_right _
theorem perm_mid (ms mk : List Asrt) (x : Asrt) (fr : List Asrt) : (ms ++ (mk ++ (x :: fr))).Perm (x :: (ms ++ (mk ++ fr))) := by
  rw [← List.append_assoc, ← List.append_assoc]; exact List.perm_middle
theorem perm_out (x : Asrt) (ms mk : List Asrt) (y : Asrt) (fr : List Asrt) : (x :: (ms ++ (mk ++ (y :: fr)))).Perm (mk ++ ((x :: y :: ms) ++ fr)) := by
  have h1 : (ms ++ (mk ++ (y :: fr))).Perm (y :: (ms ++ (mk ++ fr))) := perm_mid ms mk y fr
  have h2 : (ms ++ (mk ++ fr)).Perm (mk ++ (ms ++ fr)) := by
    rw [← List.append_assoc, ← List.append_assoc]; exact (List.perm_append_comm).append_right _
  refine ((h1.cons x).trans ((h2.cons y).cons x)).trans ?_
  exact perm_two x y mk (ms ++ fr)
section
variable {Γ : Ctx} {P : Program} {L : Env} {ms : List Asrt} {K : KT}
theorem enter_any {H : PH} {fr : List Asrt} {w : World} {a : Act} (ro : Option Nat) (hround : ∀ l, ro = some l → ∃ r, w.heap[l]? = some (.loop r)) (hok : HeapOk H fr w) (fn : FuncId) (ps : Array Tmp) (assign body : Code) :
    ∃ (l : Nat) (marksN : List Nat) (W1 : World) (D : Nat), (Instr.enterLoop fn a.tmps ps assign body ro).run P w = .ok (l, marksN.map markD) W1 ∧
      HeapOk H (recX l { state := .ready, pending := none, fn, tmps := a.tmps, params := ps, assign, body, defers := D } :: (marksN.map markA ++ fr)) W1 ∧ SameOut w W1 := by
  cases ro with
  | none =>
    refine ⟨w.heap.size + 1, [w.heap.size], _, w.heap.size, run_enterLoop_outer _ _ _ _ _, ?_, (sameOut_alloc _ _).trans (sameOut_alloc _ _)⟩
    have h1 : HeapOk H (markA w.heap.size :: fr) (w.alloc (.deferred (some []))) := hok.own rfl (by simp only [markA]; exact heap_alloc_new _ _)
    have h2 := h1.own (o := .loop { state := .ready, pending := none, fn, tmps := a.tmps, params := ps, assign, body, defers := w.heap.size })
      (A := recX (w.heap.size + 1) { state := .ready, pending := none, fn, tmps := a.tmps, params := ps, assign, body, defers := w.heap.size })
      (by rw [size_alloc']; rfl) (by
        simp only [recX]
        have := heap_alloc_new (w.alloc (.deferred (some []))) (.loop { state := .ready, pending := none, fn, tmps := a.tmps, params := ps, assign, body, defers := w.heap.size })
        rw [size_alloc'] at this
        exact this)
    exact h2
  | some l₀ =>
    obtain ⟨r₀, hr₀⟩ := hround l₀ rfl
    refine ⟨w.heap.size, [], _, r₀.defers, run_enterLoop_inner hr₀ _ _ _ _ _, ?_, sameOut_alloc _ _⟩
    exact hok.own rfl (by simp only [recX]; exact heap_alloc_new _ _)
theorem calls_in {f : FuncId} {args : Array Value} {w : World} {R : Ending → World → Prop} {n : Nat} (h : Calls P f args w R) (ro : Option Nat) : CallsIn (FR ro) n P f args w R :=
  callsIn_wide.2 h
/-- A round's parameters. -/
def bindPs : List Nat → List D → Env → Env
  | p :: ps, d :: ds, L => bindPs ps ds ((p, d) :: L)
  | _, _, L => L
theorem bind_ok {H : PH} : ∀ (ps : List Nat) (ds : List D) (vs : List Value) (L : Env) (tmps : Array Value), (∀ p ∈ ps, p < tmps.size) → ps.length = ds.length → ConcL H ds vs → EnvOk H L tmps →
    EnvOk H (bindPs ps ds L) ((ps.zip vs).foldl (fun t (p : Nat × Value) => t.setIfInBounds p.1 p.2) tmps)
  | [], ds, vs, L, tmps, _, hl, h, e => by
    cases ds with
    | nil => simpa [bindPs] using e
    | cons => simp at hl
  | p :: ps, [], vs, L, tmps, _, hl, _, _ => by simp at hl
  | p :: ps, d :: ds, vs, L, tmps, hp, hl, h, e => by
    simp only [ConcL] at h
    obtain ⟨u, r, rfl, hd, hr⟩ := h
    simp only [bindPs, List.zip_cons_cons, List.foldl_cons]
    exact bind_ok ps ds r _ _ (fun q hq => by rw [Array.size_setIfInBounds]; exact hp q (by simp [hq])) (by simpa using hl) hr (e.put (hp p (by simp)) hd)
theorem fold_size : ∀ (l : List (Nat × Value)) (tmps : Array Value), (l.foldl (fun t (p : Nat × Value) => t.setIfInBounds p.1 p.2) tmps).size = tmps.size
  | [], _ => rfl
  | p :: l, tmps => by rw [List.foldl_cons, fold_size l]; simp
/-- A range over a function that yields xs. -/
theorem g_rangeFunc {g : Operand} {ps : List Nat} {assign body : Code} {gf : FuncId} {caps : List D} (xs : List (List D)) (J : Nat → List Asrt → Prop)
    (hg : Env.ev L g = some (.clo (.func gf) [] caps)) (hc : ∀ args w, (callFunc gf args).run P w = .ok (.enter gf args) w) (hit : Iter P gf caps xs) (h0 : J 0 ms)
    (hlen : ∀ ds ∈ xs, ds.length = ps.length) (hps : ps.all (fun p => Nat.blt p Γ.N) = true)
    (round : ∀ (Γ' : Ctx) (k : Nat) (ds : List D) (ms' : List Asrt), Γ'.N = Γ.N → xs[k]? = some ds → J k ms' →
      G Γ' P assign (bindPs ps ds L) ms' (KT.then (fun L' ms'' => ∀ Γ'' : Ctx, Γ''.N = Γ.N → G Γ'' P body L' ms'' (fun e _ ms3 => match e with | .normal => J (k + 1) ms3 | .ret => K .ret L ms3 | .exit id => K (.exit id) L ms3 | _ => False)) (fun _ _ _ => False)))
    (hdone : ∀ ms', J xs.length ms' → K .normal L ms') : G Γ P (.rangeFunc g ps.toArray assign body) L ms K := by
  intro a w m
  obtain ⟨H, marks, hle, hok, henv, hdf⟩ := m.ex
  refine wpIn_rangeFunc ?_
  intro fn hfn
  have hgv := henv.ev hg
  rw [conc_enc (by rfl)] at hgv
  simp only [Enc] at hgv
  obtain ⟨us, ws, hvv, hus, hws⟩ := hgv
  simp only [ConcL] at hus
  subst hus
  simp only [List.cons.injEq, and_true] at hvv
  obtain ⟨l, marksN, W1, D, hent, hok1, hs1⟩ := enter_any (P := P) (H := H) (a := a) Γ.round (fun l hl => by
    obtain ⟨A, hA, h⟩ := Γ.hround l hl
    exact h H _ (hok.ok A (by simp [hA]))) hok fn ps.toArray assign body
  refine ⟨l, marksN.map markD, W1, { target := .fn (.func gf) ws.toArray, args := #[.func (.yield l) #[] #[]] }, W1, gf, #[.func (.yield l) #[] #[]] ++ ws.toArray, W1, hent, ?_, fun _ _ => trivial, ?_, by simp, ?_⟩
  · simp only [resolve, hvv]
    simp [Deferred.ofValue, Sem.run, Act.eval]
  · simp [invoke, Sem.run, hc]
  · obtain ⟨rec, hrec⟩ : ∃ rec : LoopState → Option Code → Loop, rec = fun st pe => { state := st, pending := pe, fn := fn, tmps := a.tmps, params := ps.toArray, assign := assign, body := body, defers := D } := ⟨_, rfl⟩
    have hrec0 : ({ state := .ready, pending := none, fn := fn, tmps := a.tmps, params := ps.toArray, assign := assign, body := body, defers := D } : Loop) = rec .ready none := by rw [hrec]
    rw [hrec0] at hok1
    let fA := fact (fun H' => EnvOk H' L a.tmps ∧ PH.le H H') (fun A B hl h => ⟨h.1.mono hl, PH.le_trans h.2 hl⟩)
    -- the iterator's contract
    have key := hit (.v (.func (.yield l) #[] #[])) ⟨rfl, rfl⟩ (fun k ms' => ∃ ms, J k ms ∧ ms' = recX l (rec .ready none) :: fA :: ms)
      (fun ms' => ∃ ms c, (match c with | .ret => K .ret L ms | .exit id => K (.exit id) L ms | _ => False) ∧ ms' = recX l (rec .done (some c)) :: fA :: ms) ?_
      (recX l (rec .ready none) :: fA :: ms) ⟨ms, h0, rfl⟩
    · have hokF : HeapOk H ((recX l (rec .ready none) :: fA :: ms) ++ (marksN.map markA ++ (marks.map markA ++ Γ.fr))) W1 := by
        have hp : (recX l (rec .ready none) :: (marksN.map markA ++ (ms ++ (marks.map markA ++ Γ.fr)))).Perm ((recX l (rec .ready none) :: ms) ++ (marksN.map markA ++ (marks.map markA ++ Γ.fr))) := by
          rw [List.cons_append]
          refine List.Perm.cons _ ?_
          rw [← List.append_assoc (marksN.map markA), ← List.append_assoc ms]
          exact (List.perm_append_comm).append_right _
        have h2 := hok1.perm hp
        refine ⟨h2.sub, ?_, ?_, ?_⟩
        · have := h2.nodup
          simp only [List.cons_append, List.flatMap_cons] at this ⊢
          simpa [fA, fact] using this
        · intro A hA b hb
          simp only [List.cons_append, List.mem_cons] at hA
          rcases hA with rfl | rfl | hA
          · exact h2.lt (recX l (rec .ready none)) (by simp) b hb
          · simp [fA, fact] at hb
          · exact h2.lt A (by simp at hA ⊢; grind) b hb
        · intro A hA
          simp only [List.cons_append, List.mem_cons] at hA
          rcases hA with rfl | rfl | hA
          · exact h2.ok (recX l (rec .ready none)) (by simp)
          · exact ⟨henv, PH.le_refl H⟩
          · exact h2.ok A (by simp at hA ⊢; grind)
      have hcall := key H _ W1 (.func (.yield l) #[] #[] :: ws) hokF (by simp only [ConcL]; exact ⟨_, _, rfl, ⟨_, by simp only [Enc], rfl⟩, hws⟩)
      rw [show (Value.func (.yield l) #[] #[] :: ws).toArray = #[Value.func (.yield l) #[] #[]] ++ ws.toArray by simp] at hcall
      refine CallsIn.mono (calls_in hcall Γ.round) ?_
      rintro e w3 ⟨v, d, ms', H', rfl, hR, hle', hok', _, hs3⟩
      have fin : ∀ (st : LoopState) (pe : Option Code) (ms2 : List Asrt), st ≠ .busy → ms' = recX l (rec st pe) :: fA :: ms2 →
          ∃ w4, (Instr.endLoop l).run P w3 = .ok pe w4 ∧ Models Γ L ms2 { a with defers := marksN.map markD ++ a.defers } w4 := by
        rintro st pe ms2 hst rfl
        have hl : w3.heap[l]? = some (.loop (rec st pe)) := hok'.ok (recX l (rec st pe)) (by simp)
        have hE := run_endLoop (P := P) hl (by rw [hrec]; exact hst)
        have hp : (rec st pe).pending = pe := by rw [hrec]
        have hE' : (Instr.endLoop l).run P w3 = .ok pe (w3.putObj l (.loop { rec st pe with state := .exhausted })) := by
          rw [hE]; congr 1
        refine ⟨_, hE', ?_⟩
        obtain ⟨f1, f2⟩ : EnvOk H' L a.tmps ∧ PH.le H H' := hok'.ok fA (by simp)
        have h4 := hok'.put (A' := recX l { rec st pe with state := .exhausted }) (o' := .loop { rec st pe with state := .exhausted }) rfl rfl hl rfl (by
          simp only [recX]; exact World.putObj_heap_same (Array.getElem?_eq_some_iff.1 hl).1)
        have h5 : HeapOk H' (ms2 ++ (marksN.map markA ++ (marks.map markA ++ Γ.fr))) (w3.putObj l (.loop { rec st pe with state := .exhausted })) := by
          have : HeapOk H' ([recX l { rec st pe with state := .exhausted }, fA] ++ (ms2 ++ (marksN.map markA ++ (marks.map markA ++ Γ.fr)))) (w3.putObj l (.loop { rec st pe with state := .exhausted })) := by simpa using h4
          exact this.drop
        refine ⟨⟨H', marksN ++ marks, PH.le_trans hle f2, ?_, f1, ?_⟩, m.size, ((m.same.trans hs1).trans hs3).trans (sameOut_put _ _ _)⟩
        · rw [List.map_append, List.append_assoc]; exact h5
        · simp [hdf]
      rcases hR with ⟨ms2, hJ, e2⟩ | ⟨ms2, c, hK, e2⟩
      · obtain ⟨w4, h1, h2⟩ := fin _ _ ms2 (by simp) e2
        exact ⟨none, w4, h1, L, ms2, hdone ms2 hJ, h2⟩
      · obtain ⟨w4, h1, h2⟩ := fin _ _ ms2 (by simp) e2
        refine ⟨some c, w4, h1, ?_⟩
        cases c with
        | ret => exact wpIn_ret ⟨L, ms2, hK, h2⟩
        | exit id => exact wpIn_exit ⟨L, ms2, hK, h2⟩
        | _ => exact hK.elim
    · -- one round
      rintro k ds ms' hx ⟨ms2, hJ, rfl⟩
      intro H2 fr2 W v vs hok2 hv hvs
      have hl : W.heap[l]? = some (.loop (rec .ready none)) := hok2.ok (recX l (rec .ready none)) (by simp)
      obtain ⟨f1, f2⟩ : EnvOk H2 L a.tmps ∧ PH.le H H2 := hok2.ok fA (by simp)
      have hdl : ds.length = ps.length := hlen ds (List.mem_of_getElem? hx)
      have hvl : vs.length = ps.length := by rw [ConcL.length ds vs hvs, hdl]
      refine ⟨_, _, _, conc_v.1 hv, .inr ⟨l, fn, (ps.zip vs).foldl (fun t (p : Nat × Value) => t.setIfInBounds p.1 p.2) a.tmps, assign, body, rfl, ?_, ?_⟩⟩
      · have hy := run_yield (P := P) (args := vs.toArray) hl (by rw [hrec]; simp [hvl])
        rw [hrec] at hy
        rw [show (#[] : Array Value) ++ vs.toArray = vs.toArray by simp]
        rw [hy]
        congr 2
        rw [← Array.foldl_toList]
        simp
      · have hN1 : ∀ p ∈ ps, p < a.tmps.size := fun p hp => by
          rw [m.size]; exact Nat.le_of_ble_eq_true (List.all_eq_true.1 hps p hp)
        let Γ1 : Ctx := ⟨H2, recX l (rec .ready none) :: fA :: fr2, Γ.N, some l, W, fun l' e => by
          cases e; exact ⟨recX l (rec .ready none), by simp, fun H h o => ⟨_, o⟩⟩⟩
        have hM1 : Models Γ1 (bindPs ps ds L) ms2 { tmps := (ps.zip vs).foldl (fun t (p : Nat × Value) => t.setIfInBounds p.1 p.2) a.tmps, defers := [] } W := by
          refine ⟨⟨H2, [], PH.le_refl _, hok2.perm ?_, bind_ok ps ds vs L _ hN1 hdl.symm hvs f1, rfl⟩, by simp only [fold_size]; exact m.size, SameOut.refl _⟩
          simp only [List.map_nil, List.nil_append, Γ1, List.cons_append]
          exact (perm_two _ _ _ _)
        refine roundIn_of_wpIn (F := FR none) trivial ?_
        refine wpIn_mono (round Γ1 k ds ms2 rfl hx hJ _ W hM1) ?_
        rintro e a1 w1 ⟨L', ms'', k', m'⟩
        cases e with
        | normal =>
          obtain ⟨H3, marks', hle3, hok3, henv3, hdf3⟩ := m'.ex
          have hl1 : w1.heap[l]? = some (.loop (rec .ready none)) := hok3.ok (recX l (rec .ready none)) (by simp [Γ1])
          have hst : (rec .ready none).state = .ready := by rw [hrec]
          refine ⟨_, run_beginRound hl1 hst, ?_⟩
          obtain ⟨w2, hw2⟩ : ∃ w2, w1.putObj l (.loop { rec .ready none with state := .busy }) = w2 := ⟨_, rfl⟩
          have hb2 : w2.heap[l]? = some (.loop { rec .ready none with state := .busy }) := by
            rw [← hw2]; exact World.putObj_heap_same (Array.getElem?_eq_some_iff.1 hl1).1
          let Γ2 : Ctx := ⟨H3, recX l { rec .ready none with state := .busy } :: fA :: fr2, Γ.N, some l, w2, fun l' e => by
            cases e; exact ⟨recX l { rec .ready none with state := .busy }, by simp, fun H h o => ⟨_, o⟩⟩⟩
          have hok4 : HeapOk H3 (ms'' ++ (marks'.map markA ++ Γ2.fr)) w2 := by
            have h1 := hok3.perm (perm_mid ms'' (marks'.map markA) (recX l (rec .ready none)) (fA :: fr2))
            have h2 := h1.put (A' := recX l { rec .ready none with state := .busy }) (o' := .loop { rec .ready none with state := .busy }) rfl rfl hl1 rfl (by
              simp only [recX]; rw [hw2]; exact hb2)
            rw [hw2] at h2
            exact h2.perm (perm_mid ms'' (marks'.map markA) _ (fA :: fr2)).symm
          have hs2 : SameOut w1 w2 := by rw [← hw2]; exact sameOut_put _ _ _
          rw [hw2]
          refine wpIn_mono (k' Γ2 rfl a1 w2 ⟨⟨H3, marks', PH.le_refl _, hok4, henv3, hdf3⟩, m'.size, SameOut.refl _⟩) ?_
          rintro e a3 w3 ⟨L3, ms3, k3, m3⟩
          obtain ⟨H4, marks4, hle4, hok5, henv4, hdf4⟩ := m3.ex
          have fin : ∀ (jump : Option Code), ∃ w4, (Instr.endRound l jump).run P w3 = .ok (.bool jump.isNone) w4 ∧ HeapOk H4 ((recX l (rec (if jump.isNone then .ready else .done) jump) :: fA :: ms3) ++ fr2) w4 ∧ SameOut w3 w4 := by
            intro jump
            have hl3 : w3.heap[l]? = some (.loop { rec .ready none with state := .busy }) := hok5.ok (recX l { rec .ready none with state := .busy }) (by simp [Γ2])
            have hr : ({ ({ rec .ready none with state := .busy } : Loop) with state := if jump.isNone then .ready else .done, pending := jump } : Loop) = rec (if jump.isNone then .ready else .done) jump := by rw [hrec]
            have hE := run_endRound (P := P) jump hl3
            rw [hr] at hE
            refine ⟨_, hE, ?_, sameOut_put _ _ _⟩
            have h1 := hok5.perm (perm_mid ms3 (marks4.map markA) _ (fA :: fr2))
            have h2 := h1.put (A' := recX l (rec (if jump.isNone then .ready else .done) jump)) (o' := .loop (rec (if jump.isNone then .ready else .done) jump)) rfl rfl hl3 rfl (by
              simp only [recX]; exact World.putObj_heap_same (Array.getElem?_eq_some_iff.1 hl3).1)
            have h3 := h2.perm (perm_out _ ms3 (marks4.map markA) fA fr2)
            exact h3.drop
          have le4 : PH.le H2 H4 := PH.le_trans hle3 hle4
          have hs3 : SameOut W w3 := (m'.same.trans hs2).trans m3.same
          cases e with
          | normal =>
            obtain ⟨w4, h1, h2, h3⟩ := fin none
            exact ⟨_, w4, h1, _, _, _, H4, rfl, .inl ⟨rfl, ms3, k3, rfl⟩, le4, h2, conc_v.2 rfl, hs3.trans h3⟩
          | ret =>
            obtain ⟨w4, h1, h2, h3⟩ := fin (some .ret)
            exact ⟨_, w4, h1, _, _, _, H4, rfl, .inr ⟨rfl, ms3, .ret, k3, rfl⟩, le4, h2, conc_v.2 rfl, hs3.trans h3⟩
          | exit id =>
            obtain ⟨w4, h1, h2, h3⟩ := fin (some (.exit id))
            exact ⟨_, w4, h1, _, _, _, H4, rfl, .inr ⟨rfl, ms3, .exit id, k3, rfl⟩, le4, h2, conc_v.2 rfl, hs3.trans h3⟩
          | goto t => exact k3.elim
          | panic ch => exact k3.elim
          | outgrown => exact k3.elim
        | exit id => exact k'.elim
        | goto t => exact k'.elim
        | ret => exact k'.elim
        | panic ch => exact k'.elim
        | outgrown => exact k'.elim
end
end Go.V
