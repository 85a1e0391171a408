/- The arguments' reading, told as data; a law's statement out of its contract. -/
import Derived.Test.YtnnjgbcojdnhhaaV16
import Derived.OpenShut
import Derived.ChangeMaps5
import Derived.ChangeSame
import Derived.WideShapes
import Derived.WideKeyArgs
import Derived.ProofKit
set_option linter.unusedVariables false
set_option linter.unusedSimpArgs false
namespace Go.V
open Go.ChangeShapes Go.WideShapes Go.ChangeAt Go.RowKit
/-- The cells that lie in a world. -/
def Hof (w : World) : PH := fun b o => w.cell? ⟨b, o, none⟩
/-- What is read at a type stands for a datum that Q holds of. -/
def OpensD (P : Program) (t : TypeId) (Q : D → Prop) : Prop :=
  ∀ (H : Type) (enc : TypeId × Value → H) (w : World) (sp : Nat → Bool) (held : Bool) (fuel : Nat) (cs : List Value) (x : DataW H × List MemPlace), DataW.trod enc P w 0 sp held fuel t cs = some x → ∃ d, Q d ∧ Enc (Hof w) d cs
section
variable {P : Program} {t e : TypeId} {Q Q' : D → Prop}
theorem OpensD.imp (h : OpensD P t Q) (k : ∀ d, Q d → Q' d) : OpensD P t Q' := fun H enc w sp held fuel cs x hx => let ⟨d, a, b⟩ := h H enc w sp held fuel cs x hx; ⟨d, k d a, b⟩
theorem opens_int {k : IntKind} (ht : P.underlying t = some (.int k)) : OpensD P t (fun d => ∃ n, (Lit.int k n).wf = true ∧ d = .v (.int k n)) := by
  intro H enc w sp held fuel cs x hx
  obtain ⟨n, rfl, _, h⟩ := DataW.trod_int ht hx
  exact ⟨_, ⟨n, h, rfl⟩, by simp [Enc]⟩
theorem opens_bool (ht : P.underlying t = some .bool) : OpensD P t (fun d => ∃ b, d = .bool b) := by
  intro H enc w sp held fuel cs x hx
  obtain ⟨b, rfl, _⟩ := DataW.trod_bool ht hx
  exact ⟨_, ⟨b, rfl⟩, by simp [Enc]⟩
theorem opens_string (ht : P.underlying t = some .string) : OpensD P t (fun d => ∃ s : List UInt8, s.length ≤ maxLen ∧ d = .str s) := by
  intro H enc w sp held fuel cs x hx
  obtain ⟨s, rfl, _, hs⟩ := DataW.trod_string ht hx
  exact ⟨_, ⟨s.data.toList, hs, rfl⟩, by simp [Enc]⟩
theorem cells_get {w : World} {base : Nat} {a : Addr} {n : Nat} {us : List Value} (h : w.cells? base a n = some us) : us.length = n ∧ ∀ (k : Nat) u, us[k]? = some u → w.cell? (a.add k) = some u := by
  unfold World.cells? at h
  split at h
  · have hl := mapM_some_length h
    simp at hl
    refine ⟨hl, fun k u hk => ?_⟩
    have hlt : k < n := by rw [← hl]; exact (List.getElem?_eq_some_iff.1 hk).1
    have := mapM_some_get h k k (by simp [hlt])
    rw [this, hk]
  · cases h
theorem cell_spot {w : World} {a : Addr} {u : Value} (h : w.cell? a = some u) : a.spot = none := by
  unfold World.cell? at h
  split at h
  · split at h
    · cases h
    · rename_i hs; simpa using hs
  · cases h
theorem opens_slice {α : Type} {f : α → D} {ok : α → Prop} {sz : Nat} (ht : P.underlying t = some (.slice e)) (hsz : P.cellsOf e = sz) (h0 : 0 < sz) (he : OpensD P e (fun d => ∃ a, ok a ∧ d = f a)) :
    OpensD P t (fun d => ∃ l : List α, l.length ≤ maxLen ∧ (∀ a ∈ l, ok a) ∧ d = .list sz f l) := by
  intro H enc w sp held fuel cs x hx
  rcases DataW.trod_slice ht hx with ⟨rfl, _⟩ | ⟨a, len, cap, elems, rest, n, _, rfl, _, _, hlc, hcap, hel, hget, _, _⟩
  · exact ⟨_, ⟨[], by simp, by simp, rfl⟩, by simp only [Enc]; exact ⟨none, 0, by simp, by simp, by simp [maxLen], by simp⟩⟩
  · rw [hsz] at hget
    have key : ∀ i : Fin len, ∃ (y : α) (us : List Value), ok y ∧ w.cells? 0 (a.add (i * sz)) sz = some us ∧ Enc (Hof w) (f y) us := by
      intro i
      have := hget i i.2
      rw [List.getElem?_eq_getElem (by rw [hel]; exact i.2)] at this
      simp only [Option.bind_eq_some_iff] at this
      obtain ⟨us, h1, h2⟩ := this
      obtain ⟨d, ⟨y, hy, rfl⟩, h3⟩ := he H enc w sp held n us _ h2
      exact ⟨y, us, hy, h1, h3⟩
    let g : Fin len → α := fun i => Classical.choose (key i)
    have hg : ∀ i : Fin len, ∃ us : List Value, ok (g i) ∧ w.cells? 0 (a.add (i * sz)) sz = some us ∧ Enc (Hof w) (f (g i)) us := fun i => Classical.choose_spec (key i)
    refine ⟨.list sz f (List.ofFn g), ⟨List.ofFn g, by simp; omega, ?_, rfl⟩, ?_⟩
    · intro y hy
      obtain ⟨i, rfl⟩ := (List.mem_ofFn).1 hy
      obtain ⟨us, h1, _⟩ := hg i
      exact h1
    · simp only [Enc, List.length_ofFn]
      refine ⟨some a, cap, rfl, hlc, hcap, ?_⟩
      rcases Nat.eq_zero_or_pos len with h0' | hpos
      · left; subst h0'; simp
      · right
        have hspot : a.spot = none := by
          obtain ⟨us, _, h2, _⟩ := hg ⟨0, hpos⟩
          obtain ⟨h3, h4⟩ := cells_get h2
          have := h4 0 us[0] (by rw [List.getElem?_eq_getElem (by omega)])
          simpa [Addr.add] using cell_spot this
        obtain ⟨b, off, spot⟩ := a
        simp only at hspot
        subst hspot
        refine ⟨b, off, rfl, fun i y hy => ?_⟩
        have hi : i < len := by
          have := (List.getElem?_eq_some_iff.1 hy).1; simpa using this
        have hgi : g ⟨i, hi⟩ = y := by
          rw [List.getElem?_eq_getElem (by simpa using hi)] at hy
          simpa using hy
        obtain ⟨us, _, h2, h3⟩ := hg ⟨i, hi⟩
        rw [hgi] at h3
        obtain ⟨h4, h5⟩ := cells_get h2
        refine ⟨us, h3, h4, fun k u hk => ?_⟩
        have := h5 k u hk
        unfold Hof
        have ea : (Addr.add (Addr.add ⟨b, off, none⟩ (i * sz)) k) = ⟨b, off + i * sz + k, none⟩ := by
          unfold Addr.add; split <;> split <;> simp_all
        simp only at this
        rw [ea] at this
        exact this
/-- A struct's fields, one behind another. -/
def FieldsOpen (P : Program) : List Field → Nat → Nat → List (D → Prop) → Prop
  | [], off, n, [] => off = n
  | f :: r, off, n, Q :: Qs => f.offset = off ∧ OpensD P f.type Q ∧ FieldsOpen P r (off + P.cellsOf f.type) n Qs
  | _, _, _, _ => False
def AllQ : List (D → Prop) → List D → Prop
  | [], [] => True
  | Q :: Qs, d :: ds => Q d ∧ AllQ Qs ds
  | _, _ => False
theorem fields_open {H : Type} {enc : TypeId × Value → H} {w : World} {sp : Nat → Bool} {held : Bool} {n : Nat} {cs : List Value} : ∀ (fs : List Field) (off : Nat) (Qs : List (D → Prop)), FieldsOpen P fs off cs.length Qs →
    (∀ f ∈ fs, ∃ x, DataW.trod enc P w 0 sp held n f.type ((cs.drop f.offset).take (P.cellsOf f.type)) = some x) → ∃ ds, AllQ Qs ds ∧ EncL (Hof w) ds (cs.drop off)
  | [], off, [], h, _ => by
    simp only [FieldsOpen] at h
    exact ⟨[], trivial, by simp [EncL, h]⟩
  | [], _, _ :: _, h, _ => by simp [FieldsOpen] at h
  | _ :: _, _, [], h, _ => by simp [FieldsOpen] at h
  | f :: fs, off, Q :: Qs, h, hx => by
    obtain ⟨h1, h2, h3⟩ := h
    obtain ⟨ds, k1, k2⟩ := fields_open fs _ Qs h3 (fun g hg => hx g (by simp [hg]))
    obtain ⟨x, hx1⟩ := hx f (by simp)
    obtain ⟨d, hd, he⟩ := h2 H enc w sp held n _ x hx1
    refine ⟨d :: ds, ⟨hd, k1⟩, ?_⟩
    simp only [EncL]
    refine ⟨_, _, ?_, he, k2⟩
    subst h1
    rw [← List.drop_drop, List.take_append_drop]
theorem opens_struct {fs : Array Field} {Qs : List (D → Prop)} (ht : P.underlying t = some (.struct fs)) (hf : FieldsOpen P fs.toList 0 (P.cellsOf t) Qs) : OpensD P t (fun d => ∃ ds, AllQ Qs ds ∧ d = .agg ds) := by
  intro H enc w sp held fuel cs x hx
  obtain ⟨xs, n, _, _, hl, hlen, hget⟩ := DataW.trod_struct ht hx
  obtain ⟨ds, h1, h2⟩ := fields_open (P := P) (enc := enc) (w := w) (sp := sp) (held := held) (n := n) (cs := cs) fs.toList 0 Qs (by rw [hl]; exact hf) (fun f hf => by
    obtain ⟨i, hi, hfi⟩ := List.getElem_of_mem hf
    have := hget i f (by simpa using (List.getElem?_eq_some_iff.2 ⟨hi, hfi⟩))
    rw [List.getElem?_eq_getElem (by rw [hlen]; simpa using hi)] at this
    exact ⟨_, this⟩)
  exact ⟨.agg ds, ⟨ds, h1, rfl⟩, by simp only [Enc]; simpa using h2⟩
/-- An argument. -/
theorem opens_arg {H : Type} {enc : TypeId × Value → H} {w : World} {sp : Nat → Bool} {held : Bool} {r : Reach} {b0 : Nat} {v : Value} {x : DataW H} {ps : List MemPlace} (ho : OpensD P t Q) (hag : ∀ d, Q d → d.isAgg = (match P.underlying t with | some (.struct _) | some (.array _ _) => true | _ => false)) (hval : Value.okWide P w r b0 t v) (hd : DataW.Trod enc P w 0 sp held t v x ps) :
    ∃ d, Q d ∧ Conc (Hof w) d v := by
  obtain ⟨fuel, hf⟩ := hd
  obtain ⟨d, h1, h2⟩ := ho H enc w sp held fuel _ _ hf
  refine ⟨d, h1, ?_⟩
  have h3 := hag d h1
  unfold Value.okWide at hval
  split at hval
  · rename_i e; rw [e] at h3
    obtain ⟨cs, rfl, _⟩ := hval
    cases d <;> simp [D.isAgg] at h3
    rw [conc_agg]
    simp only [Enc, Value.cells] at h2
    exact ⟨cs.toList, by simp, h2⟩
  · rename_i e; rw [e] at h3
    obtain ⟨cs, rfl, _⟩ := hval
    cases d <;> simp [D.isAgg] at h3
    rw [conc_agg]
    simp only [Enc, Value.cells] at h2
    exact ⟨cs.toList, by simp, h2⟩
  · rename_i e1 e2
    have h4 : d.isAgg = false := by
      rw [h3]; split
      · rename_i e; exact absurd e (by intro e; exact e1 _ e)
      · rename_i e; exact absurd e (by intro e; exact e2 _ _ e)
      · rfl
    rw [conc_enc h4]
    have hv : v.cells.toList = [v] := by
      cases v with
      | agg cs => simp [Cell.okWide, Cell.ok] at hval
      | _ => simp [Value.cells]
    rw [hv] at h2; exact h2
/-- All that lies in a world lies as it lay. -/
def oldA (w : World) : Asrt where
  blocks := List.range w.heap.size
  ok := fun _ h => ∀ b, b < w.heap.size → h b = w.heap[b]?
  stable := fun H H' h h' e _ o b hb => by rw [(e b (by simpa using hb)).2]; exact o b hb
theorem heapOk_old (w : World) : HeapOk (Hof w) ([] ++ [oldA w]) w := by
  refine ⟨fun b o v h => h, ?_, ?_, ?_⟩
  · simp [oldA, List.nodup_range]
  · intro A hA b hb; simp at hA; subst hA; simpa [oldA] using hb
  · intro A hA; simp at hA; subst hA; exact fun b _ => rfl
theorem law_calls {f : FuncId} {args : List D} {vs : List Value} {b : Bool} {W : World} (h : Fn0 P f args (.bool b)) (hargs : ConcL (Hof W) args vs) :
    Calls P f vs.toArray W (fun e W' => e = .returned (.bool b) ∧ Below W.heap.size W W') := by
  refine (h (Hof W) [oldA W] W vs (heapOk_old W) hargs).mono ?_
  rintro e w' ⟨v, d, ms', H', rfl, rfl, hle, hok, hc, hs⟩
  refine ⟨by rw [conc_v.1 hc], hs.os, hs.tape, hs.output, hs.size, ?_⟩
  exact hok.ok (oldA W) (by simp)
theorem Trod_all_stays (hl : laidOutB P = true) {H : Type} {enc : TypeId × Value → H} {W W' : World} {sp' : Nat → Bool} : ∀ {ts : List TypeId} {vs : List Value} {ds : List (DataW H)} {ps : List MemPlace}, (∀ t ∈ ts, P.readableRec t = true ∧ t < P.types.size) →
    DataW.TrodAll enc P W 0 (fun _ => true) true ts vs ds ps → (∀ p ∈ ps, W.sameAt W' p) → (∀ p ∈ ps, sp' p.block = true) → DataW.TrodAll enc P W' 0 sp' true ts vs ds ps
  | [], vs, ds, ps, _, h, _, _ => by
    obtain ⟨rfl, rfl, rfl⟩ := trodAll_nil h
    exact rfl
  | t :: ts, vs, ds, ps, ht, h, hs, hsp => by
    obtain ⟨v, vs', d, ds', p, q, rfl, rfl, rfl, h1, h2⟩ := trodAll_cons h
    exact ⟨p, q, WideElems.Trod_stays hl (ht t (by simp)).1 (ht t (by simp)).2 h1 (fun x hx => hs x (by simp [hx])) (fun x hx => hsp x (by simp [hx])),
      Trod_all_stays hl (fun t' h' => ht t' (by simp [h'])) h2 (fun x hx => hs x (by simp [hx])) (fun x hx => hsp x (by simp [hx])), rfl⟩
/-- What a law leaves. -/
theorem law_post {H : Type} {enc : TypeId × Value → H} {f : Func} {s : ChangeSpec} {apart handsOn : Bool} {W W' : World} {args : Array Value} {ds gs : List (DataW H)} {before : List MemPlace} {bt : TypeId} (hl : laidOutB P = true)
    (hW : DataW.Whole enc P f.params.toList s.vars apart W args.toList ds gs before) (hv : s.vars = []) (hr : f.resultTypes = #[bt]) (hb : P.underlying bt = some .bool)
    (hres : (s.fn H (ds ++ gs)).results = [.lit (.bool true)]) (hargs : (s.fn H (ds ++ gs)).args = ds) (hvs : (s.fn H (ds ++ gs)).vars = [])
    (hrd : ∀ t ∈ f.params.toList, P.readableRec t = true ∧ t < P.types.size) (bel : Below W.heap.size W W') : s.post enc P f apart true handsOn false W args (.bool true) W' := by
  have hW' := hW
  obtain ⟨p, q, hA, hV, rfl, hfz, hnd⟩ := hW
  have hlt : ∀ x ∈ p ++ q, x.block < W.heap.size := fun x hx => hW'.lt x hx
  rw [hv] at hV
  obtain ⟨rfl, rfl⟩ := trodVars_none hV
  refine ⟨ds, [], p ++ [], [], p, [], hW', ?_, ?_, ?_, bel.frame _, fun h => by cases h⟩
  · rw [hres, hr]
    exact trodAll_mk1 (shut_bool hb _)
  · rw [hargs]
    exact Trod_all_stays hl hrd hA (fun x hx => bel.same (hlt x (by simp [hx]))) (fun x hx => by simpa using hlt x (by simp [hx]))
  · rw [hvs, hv]; rfl
end
end Go.V
