/- Operations and contracts of the small program logic. -/
import Derived.Test.YtnnjgbcojdnhhaaV1
set_option linter.unusedVariables false
set_option linter.unusedSimpArgs false
namespace Go.V

/-! ### One operation -/
/-- An operation, carried out where (L, ms) holds, yields a value that stands for d and leaves ms', with R d ms'. -/
def OpT (P : Program) (o : Oper) (L : Env) (ms : List Asrt) (R : D → List Asrt → Prop) : Prop :=
  ∀ (ro : Option Nat) (H : PH) (fr : List Asrt) (a : Act) (w : World), HeapOk H (ms ++ fr) w → EnvOk H L a.tmps →
    ∀ (next : Act → World → Prop) (Q : Exit → Act → World → Prop),
      (∀ v d ms' w' H', R d ms' → PH.le H H' → HeapOk H' (ms' ++ fr) w' → Conc H' d v → SameOut w w' → next (a.put o.dst v) w') →
      o.wpIn (FR ro) 0 P a w next Q
/-- It changes nothing that is owned; its value is d. -/
def OpP (P : Program) (o : Oper) (L : Env) (ms : List Asrt) (d : D) : Prop := OpT P o L ms (fun d' ms' => d' = d ∧ ms' = ms)

section
variable {Γ : Ctx} {P : Program} {ops : Array Oper} {o : Oper} {rest : List Oper} {L : Env} {ms : List Asrt} {K : KT} {R : D → List Asrt → Prop} {i : Nat} {d : D}

theorem Models.next {a : Act} {w w' : World} {H' : PH} {marks : List Nat} {ms' : List Asrt} {v : Value} (m : Models Γ L ms a w) (hle : PH.le Γ.H0 H') (hok : HeapOk H' (ms' ++ (marks.map markA ++ Γ.fr)) w')
    (henv : EnvOk H' L a.tmps) (hdf : a.defers = marks.map markD) (hi : Nat.blt i Γ.N = true) (hc : Conc H' d v) (hs : SameOut w w') : Models Γ ((i, d) :: L) ms' (a.put (some i) v) w' :=
  ⟨⟨H', marks, hle, hok, henv.put (by rw [m.size]; exact Nat.le_of_ble_eq_true hi) hc, hdf⟩, by simp [Act.put, m.size], m.same.trans hs⟩

theorem go_nil (h : K .normal L ms) : GO Γ P ops [] L ms K := fun a w m => wpListIn_nil ⟨L, ms, h, m⟩
theorem g_region {id : Nat} {l : List Oper} (h : GO Γ P l.toArray l L ms K) : G Γ P (.region id l.toArray false) L ms K :=
  fun a w m => wpIn_region_lit (h a w m)

theorem go_run (hd : o.dst = some i) (hi : Nat.blt i Γ.N = true) (h : OpT P o L ms R) (k : ∀ d ms', R d ms' → GO Γ P ops rest ((i, d) :: L) ms' K) {a : Act} {w : World} (m : Models Γ L ms a w) :
    o.wpIn (FR Γ.round) 0 P a w (wpListIn (FR Γ.round) 0 P ops (Post Γ K) rest) (Post Γ K) := by
  obtain ⟨H, marks, hle, hok, henv, hdf⟩ := m.ex
  refine h Γ.round H (marks.map markA ++ Γ.fr) a w hok henv _ _ ?_
  intro v d ms' w' H' hR hl hok' hc hs
  rw [hd]
  exact k d ms' hR _ _ (m.next (PH.le_trans hle hl) hok' (henv.mono hl) hdf hi hc hs)
theorem go_op (hg : o.guard = none) (hd : o.dst = some i) (hi : Nat.blt i Γ.N = true) (h : OpT P o L ms R) (k : ∀ d ms', R d ms' → GO Γ P ops rest ((i, d) :: L) ms' K) :
    GO Γ P ops (o :: rest) L ms K := by
  intro a w m
  simp only [wpListIn, Region.wanted, hg, if_true]
  exact go_run hd hi h k m
/-- An operation whose value is known. -/
theorem go_p (hg : o.guard = none) (hd : o.dst = some i) (hi : Nat.blt i Γ.N = true) (h : OpP P o L ms d) (k : GO Γ P ops rest ((i, d) :: L) ms K) : GO Γ P ops (o :: rest) L ms K :=
  go_op hg hd hi h (by rintro _ _ ⟨rfl, rfl⟩; exact k)
/-- An operation that yields nothing. -/
theorem go_u (hg : o.guard = none) (hd : o.dst = none) (h : OpT P o L ms R) (k : ∀ d ms', R d ms' → GO Γ P ops rest L ms' K) :
    GO Γ P ops (o :: rest) L ms K := by
  intro a w m
  simp only [wpListIn, Region.wanted, hg, if_true]
  obtain ⟨H, marks, hle, hok, henv, hdf⟩ := m.ex
  refine h Γ.round H (marks.map markA ++ Γ.fr) a w hok henv _ _ ?_
  intro v d ms' w' H' hR hl hok' hc hs
  rw [hd]
  exact k d ms' hR _ _ ⟨⟨H', marks, PH.le_trans hle hl, hok', henv.mono hl, hdf⟩, m.size, m.same.trans hs⟩
theorem yielded_of {a : Act} {w : World} {j t : Nat} {b : Bool} (m : Models Γ L ms a w) (hj : (ops[j]?).bind (·.dst) = some t) (hf : Env.find L t = some (.v (.bool b))) :
    yielded ops a.tmps j = some b := by
  obtain ⟨H, marks, hle, hok, henv, hdf⟩ := m.ex
  have h := conc_v.1 (henv t _ hf)
  have hlt : t < a.tmps.size := by
    rcases Nat.lt_or_ge t a.tmps.size with h' | h'
    · exact h'
    · simp [Array.getD, Nat.not_lt.2 h', undef] at h
  simp only [yielded, hj, Option.bind_some]
  rw [Array.getElem?_eq_getElem hlt]
  simp [Array.getD, hlt] at h
  simp [h]
/-- A guarded operation that is wanted. -/
theorem go_want {j t : Nat} {b want : Bool} (hg : o.guard = some (j, want)) (hj : (ops[j]?).bind (·.dst) = some t) (hf : Env.find L t = some (.v (.bool b))) (hb : b = want)
    (hd : o.dst = some i) (hi : Nat.blt i Γ.N = true) (h : OpT P o L ms R) (k : ∀ d ms', R d ms' → GO Γ P ops rest ((i, d) :: L) ms' K) : GO Γ P ops (o :: rest) L ms K := by
  intro a w m
  have hy := yielded_of (ops := ops) m hj hf
  simp only [wpListIn, Region.wanted, hg, hy, hb, beq_self_eq_true, if_true]
  exact go_run hd hi h k m
theorem go_wantp {j t : Nat} {b want : Bool} (hg : o.guard = some (j, want)) (hj : (ops[j]?).bind (·.dst) = some t) (hf : Env.find L t = some (.v (.bool b))) (hb : b = want)
    (hd : o.dst = some i) (hi : Nat.blt i Γ.N = true) (h : OpP P o L ms d) (k : GO Γ P ops rest ((i, d) :: L) ms K) : GO Γ P ops (o :: rest) L ms K :=
  go_want hg hj hf hb hd hi h (by rintro _ _ ⟨rfl, rfl⟩; exact k)
theorem go_skip {j t : Nat} {b want : Bool} (hg : o.guard = some (j, want)) (hj : (ops[j]?).bind (·.dst) = some t) (hf : Env.find L t = some (.v (.bool b))) (hb : b = !want)
    (hd : o.dst = some i) (hi : Nat.blt i Γ.N = true) (k : GO Γ P ops rest ((i, .v undef) :: L) ms K) : GO Γ P ops (o :: rest) L ms K := by
  intro a w m
  have hy := yielded_of (ops := ops) m hj hf
  have hne : (some b == some want) = false := by subst hb; cases want <;> rfl
  simp only [wpListIn, Region.wanted, hg, hy, hne, Bool.false_eq_true, if_false]
  refine ⟨fun _ _ => trivial, ?_⟩
  obtain ⟨H, marks, hle, hok, henv, hdf⟩ := m.ex
  rw [hd]
  exact k _ _ (m.next hle hok henv hdf hi (conc_v.2 rfl) (SameOut.refl w))
end

/-! ### Contracts -/
def Fn (P : Program) (f : FuncId) (args : List D) (ms : List Asrt) (R : D → List Asrt → Prop) : Prop :=
  ∀ (H : PH) (fr : List Asrt) (w : World) (vs : List Value), HeapOk H (ms ++ fr) w → ConcL H args vs →
    Calls P f vs.toArray w (fun e w' => ∃ v d ms' H', e = .returned v ∧ R d ms' ∧ PH.le H H' ∧ HeapOk H' (ms' ++ fr) w' ∧ Conc H' d v ∧ SameOut w w')
/-- The function is one of data alone. -/
def Fn0 (P : Program) (f : FuncId) (args : List D) (d : D) : Prop := Fn P f args [] (fun d' _ => d' = d)

def enumD : Nat → List D → Env
  | _, [] => []
  | i, d :: ds => (i, d) :: enumD (i + 1) ds
def RetSem (P : Program) (fn : Func) (L : Env) (ms : List Asrt) (d : D) (ms' : List Asrt) : Prop :=
  ∀ H fr (tmps : Array Value) w, HeapOk H (ms ++ fr) w → EnvOk H L tmps → ∃ v, (results fn tmps).run P w = .ok v w ∧ Conc H d v ∧ HeapOk H (ms' ++ fr) w
def RetK (P : Program) (fn : Func) (R : D → List Asrt → Prop) : KT := fun e L ms => (e = .ret ∨ e = .normal) ∧ ∃ d ms', RetSem P fn L ms d ms' ∧ R d ms'

theorem enumD_find : ∀ (ds : List D) (k t : Nat) (d : D), Env.find (enumD k ds) t = some d → k ≤ t ∧ ds[t - k]? = some d
  | [], k, t, d, h => by simp [enumD, Env.find] at h
  | x :: ds, k, t, d, h => by
    simp only [enumD, Env.find] at h
    cases hb : Nat.beq k t with
    | true =>
      rw [hb] at h
      have : k = t := Nat.eq_of_beq_eq_true hb
      subst this
      simpa using h
    | false =>
      rw [hb] at h
      have hne : k ≠ t := Nat.ne_of_beq_eq_false hb
      obtain ⟨h1, h2⟩ := enumD_find ds (k + 1) t d h
      refine ⟨by omega, ?_⟩
      have : t - k = (t - (k + 1)) + 1 := by omega
      rw [this]
      simpa using h2
theorem ConcL.get {H : PH} : ∀ (ds : List D) (us : List Value) (k : Nat) (d : D), ConcL H ds us → ds[k]? = some d → ∃ u, us[k]? = some u ∧ Conc H d u
  | [], us, k, d, _, h => by simp at h
  | x :: ds, us, k, d, e, h => by
    simp only [ConcL] at e
    obtain ⟨u, r, hv, hx, hr⟩ := e
    subst hv
    cases k with
    | zero => simp only [List.getElem?_cons_zero, Option.some.injEq] at h; subst h; exact ⟨u, by simp, hx⟩
    | succ k =>
      obtain ⟨u', h1, h2⟩ := ConcL.get ds r k d hr (by simpa using h)
      exact ⟨u', by simpa using h1, h2⟩

theorem markA_take {H : PH} {r : Nat} {as : List Asrt} {w : World} {P : Program} (h : HeapOk H (markA r :: as) w) :
    ∃ w', (Instr.takeDeferred r).run P w = .ok [] w' ∧ HeapOk H as w' ∧ SameOut w w' := by
  have ho : w.heap[r]? = some (.deferred (some [])) := h.ok (markA r) (by simp)
  have hlt : r < w.heap.size := h.lt (markA r) (by simp) r (by simp [markA])
  refine ⟨{ w with heap := w.heap.setIfInBounds r (.deferred none) }, ?_, ?_, ?_⟩
  · simp [Instr.takeDeferred, getObj, setObj, Sem.run, ho]
  · have hnd := h.nodup
    simp only [List.flatMap_cons, markA, List.cons_append, List.nil_append, List.nodup_cons] at hnd
    refine ⟨fun b o v hv => ?_, hnd.2, fun A hA b hb => by simpa using h.lt A (by simp [hA]) b hb, fun A hA => ?_⟩
    · have := h.sub b o v hv
      simp only [World.cell?] at this ⊢
      by_cases hbr : b = r
      · subst hbr; rw [ho] at this; simp at this
      · rw [Array.getElem?_setIfInBounds_ne (by omega)]; exact this
    · refine A.stable H H (fun b => w.heap[b]?) _ ?_ (PH.le_refl H) (h.ok A (by simp [hA]))
      intro b hb
      refine ⟨fun _ => rfl, ?_⟩
      have hbr : r ≠ b := fun e => hnd.1 (by rw [List.mem_flatMap]; exact ⟨A, hA, e ▸ hb⟩)
      show (w.heap.setIfInBounds r _)[b]? = _
      rw [Array.getElem?_setIfInBounds_ne hbr]
  · exact ⟨rfl, rfl, rfl, by simp⟩

theorem leaves_marks {P : Program} {fn : Func} {tmps : Array Value} {R : Ending → World → Prop} {H : PH} : ∀ (marks : List Nat) (ms fr : List Asrt) (w : World),
    HeapOk H (ms ++ (marks.map markA ++ fr)) w → (∀ w', HeapOk H (ms ++ fr) w' → SameOut w w' → ∃ v, (results fn tmps).run P w' = .ok v w' ∧ R (.returned v) w') →
    LeavesInM (FR none) 0 P fn tmps R (marks.map markD) .returning w
  | [], ms, fr, w, h, k => by
    obtain ⟨v, h1, h2⟩ := k w (by simpa using h) (SameOut.refl w)
    exact ⟨v, h1, h2⟩
  | r :: marks, ms, fr, w, h, k => by
    have hp : (ms ++ ((r :: marks).map markA ++ fr)).Perm (markA r :: (ms ++ (marks.map markA ++ fr))) := by
      simp only [List.map_cons, List.cons_append]; exact List.perm_middle
    obtain ⟨w', h1, h2, h3⟩ := markA_take (P := P) (h.perm hp)
    refine ⟨by simp, .inl ⟨r, w', rfl, h1, leaves_marks marks ms fr w' h2 fun w'' a b => k w'' a (h3.trans b)⟩⟩

theorem fn_intro {P : Program} {f : FuncId} {fn : Func} {c : Code} {args : List D} {ms : List Asrt} {R : D → List Asrt → Prop} {N : Nat} (hf : P.funcs[f]? = some fn) (hb : fn.body = some c) (hN : fn.ntmps = N) (ha : Nat.ble args.length N = true)
    (h : ∀ H0 fr w0, G ⟨H0, fr, N, none, w0, fun _ e => by cases e⟩ P c (enumD 0 args) ms (RetK P fn R)) : Fn P f args ms R := by
  intro H fr w vs hok hargs
  refine CallsIn.calls (F := FR none) (n := 0) ?_ (fun k => room_wide k)
  refine callsIn_of_wp_marks hf hb trivial ?_
  have hlen := ConcL.length args vs hargs
  have ha := Nat.le_of_ble_eq_true ha
  refine wpIn_mono (h H fr w _ w ?_) ?_
  · refine ⟨⟨H, [], PH.le_refl H, by simpa using hok, ?_, rfl⟩, by simp [hN]; omega, SameOut.refl w⟩
    intro t d ht
    obtain ⟨_, h2⟩ := enumD_find args 0 t d ht
    obtain ⟨u, h3, h4⟩ := ConcL.get args vs t d hargs (by simpa using h2)
    have hlt : t < vs.length := by
      rcases Nat.lt_or_ge t vs.length with h' | h'
      · exact h'
      · simp [List.getElem?_eq_none h'] at h3
    have : (vs.toArray ++ Array.replicate (fn.ntmps - vs.toArray.size) undef).getD t undef = u := by
      rw [Array.getD_eq_getD_getElem?, Array.getElem?_append_left (by simpa using hlt)]
      simp [h3]
    rw [this]
    exact h4
  · rintro e a w' ⟨L', ms', ⟨he, d, ms'', hsem, hR⟩, m⟩
    obtain ⟨H', marks, hle, hok', henv, hdf⟩ := m.ex
    have key : LeavesInM (FR none) 0 P fn a.tmps (fun e w'_1 => ∃ v d ms' H', e = .returned v ∧ R d ms' ∧ PH.le H H' ∧ HeapOk H' (ms' ++ fr) w'_1 ∧ Conc H' d v ∧ SameOut w w'_1) a.defers .returning w' := by
      rw [hdf]
      refine leaves_marks marks ms' fr w' hok' fun w'' hok'' hs => ?_
      obtain ⟨v, h1, h2, h3⟩ := hsem H' fr a.tmps w'' hok'' henv
      exact ⟨v, h1, v, d, ms'', H', rfl, hR, hle, h3, h2, m.same.trans hs⟩
    rcases he with rfl | rfl
    · exact key
    · exact key

/-! ### What a function hands back -/
theorem RetSem.perm {P : Program} {fn : Func} {L : Env} {ms ms' drop : List Asrt} {d : D} (p : ms.Perm (drop ++ ms'))
    (h : ∀ H (tmps : Array Value) w, HeapOk H ms w → EnvOk H L tmps → ∃ v, (results fn tmps).run P w = .ok v w ∧ Conc H d v) : RetSem P fn L ms d ms' := by
  intro H fr tmps w hok henv
  have hok2 : HeapOk H (drop ++ (ms' ++ fr)) w := by
    refine hok.perm ?_
    rw [← List.append_assoc]
    exact p.append_right fr
  have hok3 : HeapOk H (fr ++ ms) w := hok.perm List.perm_append_comm
  obtain ⟨v, h1, h2⟩ := h H tmps w hok3.drop henv
  exact ⟨v, h1, h2, hok2.drop⟩
theorem results_one {P : Program} {fn : Func} {t : Nat} (hr : fn.results = #[.tmp t]) (tmps : Array Value) (w : World) : (results fn tmps).run P w = .ok (tmps.getD t undef) w := by
  simp [results, hr, Sem.run, pure]
/-- One result, in a slot. -/
theorem ret_one {P : Program} {fn : Func} {L : Env} {ms ms' drop : List Asrt} {d : D} {t : Nat} (hr : fn.results = #[.tmp t]) (hf : Env.find L t = some d) (p : ms.Perm (drop ++ ms')) : RetSem P fn L ms d ms' :=
  .perm p fun H tmps w _ henv => ⟨_, results_one hr tmps w, henv t d hf⟩
theorem ret_none {P : Program} {fn : Func} {L : Env} {ms ms' drop : List Asrt} (hr : fn.results = #[]) (p : ms.Perm (drop ++ ms')) : RetSem P fn L ms (.tup []) ms' :=
  .perm p fun H tmps w _ henv => ⟨.tuple #[], by simp [results, hr, Sem.run, pure], [.tuple #[]], by simp [Enc, ConcL], rfl⟩
end Go.V
