/- Maps of one's own: as lists of pairs, in the order in which the keys came. -/
import Derived.Test.YtnnjgbcojdnhhaaV40
set_option linter.unusedVariables false
set_option linter.unusedSimpArgs false
namespace Go.V
section
variable {α β : Type} [DecidableEq α]
def mget : List (α × β) → α → Option β
  | [], _ => none
  | (a, b) :: l, k => if k = a then some b else mget l k
def mset : List (α × β) → α → β → List (α × β)
  | [], k, v => [(k, v)]
  | (a, b) :: l, k, v => if k = a then (k, v) :: l else (a, b) :: mset l k v
theorem mget_set (l : List (α × β)) (k k' : α) (v : β) : mget (mset l k v) k' = if k' = k then some v else mget l k' := by
  induction l with
  | nil => simp [mset, mget]
  | cons p l ih =>
    obtain ⟨a, b⟩ := p
    by_cases h : k = a
    · subst h
      simp only [mset, if_true, mget]
      by_cases h2 : k' = k <;> simp [h2]
    · simp only [mset, h, if_false, mget, ih]
      by_cases h2 : k' = a
      · subst h2
        have : ¬ k' = k := fun e => h e.symm
        simp [this]
      · simp [h2]
end
/-- The entries of a map. -/
def MapOk {α β : Type} (fk : α → Value) (fv : β → D) (H : PH) : List (α × β) → List MapEntry → Prop
  | [], [] => True
  | (a, b) :: l, e :: es => e.key = fk a ∧ Conc H (fv b) e.val ∧ MapOk fk fv H l es
  | _, _ => False
theorem MapOk.mono {α β : Type} {fk : α → Value} {fv : β → D} {H H' : PH} (h : PH.le H H') : ∀ (l : List (α × β)) (es : List MapEntry), MapOk fk fv H l es → MapOk fk fv H' l es
  | [], [], _ => trivial
  | (a, b) :: l, e :: es, ⟨h1, h2, h3⟩ => ⟨h1, h2.mono h, MapOk.mono h l es h3⟩
  | [], _ :: _, x => x.elim
  | _ :: _, [], x => x.elim
def mp {α β : Type} (b : Nat) (fk : α → Value) (fv : β → D) (l : List (α × β)) : Asrt where
  blocks := [b]
  ok := fun H h => (∃ es clock, h b = some (.map es clock) ∧ MapOk fk fv H l es.toList) ∧ ∀ o, H b o = none
  stable := by
    rintro H H' h h' e hle ⟨⟨es, clock, h1, h2⟩, h3⟩
    have := e b (by simp)
    exact ⟨⟨es, clock, by rw [this.2]; exact h1, h2.mono hle⟩, fun o => by rw [this.1]; exact h3 o⟩
/-- What is known of a kind of keys. -/
structure KeyOk (P : Program) (t : TypeId) {α : Type} [DecidableEq α] (fk : α → Value) : Prop where
  desc : ∃ ds, P.underlying t = some ds ∧ ∀ a b, Instr.sameNow ds (fk a) (fk b) = some (decide (a = b))
  ck : ∀ e w a, (Instr.checkKey e 10000 t (fk a)).run P w = .ok () w
  sb : ∀ a, Instr.sameBits 10000 (fk a) (fk a) = true
theorem keyOk_int {P : Program} {t : TypeId} {k : IntKind} (h : P.underlying t = some (.int k)) : KeyOk P t (fun n : Int => .int k n) where
  desc := ⟨_, h, fun a b => by
    simp only [Instr.sameNow, if_true]
    congr 1⟩
  ck := fun e w a => by
    rw [show (10000 : Nat) = 9999 + 1 from rfl, Instr.checkKey]
    simp [run_underlying h, Sem.run]
  sb := fun a => by rw [show (10000 : Nat) = 9999 + 1 from rfl, Instr.sameBits]; simp
theorem bytes_beq (a b : List UInt8) : ((⟨a.toArray⟩ : ByteArray) == ⟨b.toArray⟩) = decide (a = b) := by
  by_cases h : a = b
  · subst h
    rw [decide_eq_true rfl]
    show (a.toArray == a.toArray) = true
    simp
  · rw [decide_eq_false h]
    show (a.toArray == b.toArray) = false
    simpa using h
theorem keyOk_str {P : Program} {t : TypeId} (h : P.underlying t = some .string) : KeyOk P t (fun s : List UInt8 => .string ⟨s.toArray⟩) where
  desc := ⟨_, h, fun a b => by
    simp only [Instr.sameNow]
    congr 1
    exact bytes_beq a b⟩
  ck := fun e w a => by
    rw [show (10000 : Nat) = 9999 + 1 from rfl, Instr.checkKey]
    simp [run_underlying h, Sem.run]
  sb := fun a => by
    rw [show (10000 : Nat) = 9999 + 1 from rfl, Instr.sameBits]
    rw [bytes_beq, decide_eq_true rfl]
section
variable {α β : Type} [DecidableEq α] {fk : α → Value} {fv : β → D} {H : PH}
theorem find_now {ds : TypeDesc} (hd : ∀ a b, Instr.sameNow ds (fk a) (fk b) = some (decide (a = b))) (k : α) : ∀ (l : List (α × β)) (es : List MapEntry) (i : Nat), MapOk fk fv H l es →
    match mget l k with
    | none => Instr.findNow ds (fk k) es i = some none ∧ ∀ v e, e.key = fk k → Conc H (fv v) e.val → MapOk fk fv H (mset l k v) (es ++ [e])
    | some b => ∃ j e, Instr.findNow ds (fk k) es i = some (some (i + j, e.val)) ∧ es[j]? = some e ∧ e.key = fk k ∧ Conc H (fv b) e.val ∧ ∀ v u, Conc H (fv v) u → MapOk fk fv H (mset l k v) (es.modify j fun e => { e with key := fk k, val := u })
  | [], [], i, _ => by
    simp only [mget, Instr.findNow, true_and]
    intro v e h1 h2
    exact ⟨h1, h2, trivial⟩
  | [], _ :: _, i, h => h.elim
  | (a, b) :: l, [], i, h => h.elim
  | (a, b) :: l, e :: es, i, ⟨h1, h2, h3⟩ => by
    simp only [mget]
    by_cases hk : k = a
    · subst hk
      simp only [if_true]
      refine ⟨0, e, ?_, rfl, h1, h2, fun v u hu => ?_⟩
      · simp only [Instr.findNow, h1, hd, decide_true, Nat.add_zero]
      · simp only [mset, if_true, List.modify_zero_cons]
        exact ⟨rfl, hu, h3⟩
    · simp only [hk, if_false]
      have ih := find_now hd k l es (i + 1) h3
      have hf : Instr.findNow ds (fk k) (e :: es) i = Instr.findNow ds (fk k) es (i + 1) := by
        simp only [Instr.findNow, h1, hd, hk, decide_false]
      cases hm : mget l k with
      | none =>
        rw [hm] at ih
        simp only at ih ⊢
        refine ⟨by rw [hf]; exact ih.1, fun v e' q1 q2 => ?_⟩
        simp only [mset, hk, if_false, List.cons_append]
        exact ⟨h1, h2, ih.2 v e' q1 q2⟩
      | some b' =>
        rw [hm] at ih
        simp only at ih ⊢
        obtain ⟨j, e', q1, q2, q3, q4, q5⟩ := ih
        refine ⟨j + 1, e', by rw [hf, q1, show i + 1 + j = i + (j + 1) by omega], by simpa using q2, q3, q4, fun v u hu => ?_⟩
        simp only [mset, hk, if_false, List.modify_succ_cons]
        exact ⟨h1, h2, q5 v u hu⟩
end
section
variable {P : Program} {L : Env} {ms : List Asrt} {dst : Option Nat} {ty : TypeId} {pos : String} {after : Array Edge} {g : Option (Nat × Bool)} {d d' : D} {x y z : Operand} {t t' : TypeId} {α β : Type}
theorem o_makeMap {fk : α → Value} {fv : β → D} : OpT P ⟨dst, .makeMap t none, ty, pos, after, g⟩ L ms (fun d ms' => ∃ b, d = .v (.map (some b)) ∧ ms' = mp b fk fv ([] : List (α × β)) :: ms) := by
  refine .val (by simp) fun H fr a w hok henv => ?_
  refine ⟨.map (some w.heap.size), _, _, w.alloc (.map #[] 0), H, ?_, ⟨w.heap.size, rfl, rfl⟩, PH.le_refl H, ?_, conc_v.2 rfl, sameOut_alloc _ _⟩
  · simp [execOp, Instr.makeMap, newObj, Sem.run]
  · exact hok.own (A := mp w.heap.size fk fv []) rfl ⟨⟨#[], 0, heap_alloc_new _ _, trivial⟩, fun o => hok.none_new _ _ (Nat.le_refl _)⟩
variable [DecidableEq α]
theorem findKey_run {kt : TypeId} {fk : α → Value} {fv : β → D} {H : PH} {l : List (α × β)} {es : Array MapEntry} {w : World} (hk : KeyOk P kt fk) (k : α) (hm : MapOk fk fv H l es.toList) :
    match mget l k with
    | none => (Instr.findKey kt (fk k) es.toList).run P w = .ok none w ∧ ∀ v e, e.key = fk k → Conc H (fv v) e.val → MapOk fk fv H (mset l k v) (es.toList ++ [e])
    | some b => ∃ j e, (Instr.findKey kt (fk k) es.toList).run P w = .ok (some (j, e.val)) w ∧ es[j]? = some e ∧ e.key = fk k ∧ Conc H (fv b) e.val ∧ ∀ v u, Conc H (fv v) u → MapOk fk fv H (mset l k v) (es.toList.modify j fun e => { e with key := fk k, val := u }) := by
  obtain ⟨ds, h1, h2⟩ := hk.desc
  have := find_now (H := H) h2 k l es.toList 0 hm
  cases hg : mget l k with
  | none =>
    rw [hg] at this
    simp only at this ⊢
    refine ⟨?_, this.2⟩
    simp only [Instr.findKey, Sem.run_bind, run_underlying h1, Result.andThen_ok, this.1, Sem.run_pure]
  | some b =>
    rw [hg] at this
    simp only at this ⊢
    obtain ⟨j, e, q1, q2, q3⟩ := this
    refine ⟨j, e, ?_, by simpa using q2, q3⟩
    rw [Nat.zero_add] at q1
    simp only [Instr.findKey, Sem.run_bind, run_underlying h1, Result.andThen_ok, q1, Sem.run_pure]
/-- What lies at a key. -/
theorem o_lookup {kt et : TypeId} {fk : α → Value} {fv : β → D} {b : Nat} {l : List (α × β)} {key : α} {z0 : β} {zv : Value} (k : Nat) (hu : ∀ w, (underlying t).run P w = .ok (.map kt et) w) (hk : KeyOk P kt fk) (hz : ∀ w, (zeroValue et).run P w = .ok zv w) (hzc : ∀ H, Conc H (fv z0) zv)
    (hx : Env.ev L x = some (.v (.map (some b)))) (hm : ms[k]? = some (mp b fk fv l)) (hy : Env.ev L y = some (.v (fk key))) : OpP P ⟨dst, .lookup t x y false, ty, pos, after, g⟩ L ms (fv ((mget l key).getD z0)) := by
  refine .pure (by simp) fun H fr a w hok henv => ?_
  obtain ⟨⟨es, clock, h1, h2⟩, _⟩ := hok.ok _ (List.mem_of_getElem? (getElem?_app (r := fr) hm))
  have hf := findKey_run (w := w) hk key h2
  have h1' : w.heap[b]? = some (.map es clock) := h1
  cases hg : mget l key with
  | none =>
    rw [hg] at hf
    simp only at hf
    refine ⟨zv, ?_, hzc H⟩
    simp [execOp, Instr.lookup, ev_v henv hx, ev_v henv hy, hu, getObj, h1', Sem.run_bind, hk.ck, hf.1, hz, Sem.run]
  | some b' =>
    rw [hg] at hf
    simp only at hf
    obtain ⟨j, e, q1, _, _, q4, _⟩ := hf
    refine ⟨e.val, ?_, q4⟩
    simp [execOp, Instr.lookup, ev_v henv hx, ev_v henv hy, hu, getObj, h1', Sem.run_bind, hk.ck, q1, hz, Sem.run]
theorem o_lookup2 {kt et : TypeId} {fk : α → Value} {fv : β → D} {b : Nat} {l : List (α × β)} {key : α} {z0 : β} {zv : Value} (k : Nat) (hu : ∀ w, (underlying t).run P w = .ok (.map kt et) w) (hk : KeyOk P kt fk) (hz : ∀ w, (zeroValue et).run P w = .ok zv w) (hzc : ∀ H, Conc H (fv z0) zv)
    (hx : Env.ev L x = some (.v (.map (some b)))) (hm : ms[k]? = some (mp b fk fv l)) (hy : Env.ev L y = some (.v (fk key))) : OpP P ⟨dst, .lookup t x y true, ty, pos, after, g⟩ L ms (.tup [fv ((mget l key).getD z0), .bool (mget l key).isSome]) := by
  refine .pure (by simp) fun H fr a w hok henv => ?_
  obtain ⟨⟨es, clock, h1, h2⟩, _⟩ := hok.ok _ (List.mem_of_getElem? (getElem?_app (r := fr) hm))
  have hf := findKey_run (w := w) hk key h2
  have h1' : w.heap[b]? = some (.map es clock) := h1
  have fin : ∀ (v : Value) (q : Bool), Conc H (fv ((mget l key).getD z0)) v → (mget l key).isSome = q → Conc H (.tup [fv ((mget l key).getD z0), .bool (mget l key).isSome]) (.tuple #[v, .bool q]) := by
    intro v q hv hq
    rw [conc_enc (by rfl)]
    simp only [Enc]
    refine ⟨[v, .bool q], rfl, ?_⟩
    simp only [ConcL]
    exact ⟨_, _, rfl, hv, _, _, rfl, by rw [hq]; exact conc_v.2 rfl, rfl⟩
  cases hg : mget l key with
  | none =>
    rw [hg] at hf fin
    simp only at hf
    refine ⟨_, ?_, fin zv false (hzc H) rfl⟩
    simp [execOp, Instr.lookup, ev_v henv hx, ev_v henv hy, hu, getObj, h1', Sem.run_bind, hk.ck, hf.1, hz, Sem.run]
  | some b' =>
    rw [hg] at hf fin
    simp only at hf
    obtain ⟨j, e, q1, _, _, q4, _⟩ := hf
    refine ⟨_, ?_, fin e.val true q4 rfl⟩
    simp [execOp, Instr.lookup, ev_v henv hx, ev_v henv hy, hu, getObj, h1', Sem.run_bind, hk.ck, q1, hz, Sem.run]
theorem o_mapUpdate {kt et : TypeId} {fk : α → Value} {fv : β → D} {b : Nat} {l : List (α × β)} {key : α} {v : β} (k : Nat) (hu : ∀ w, (underlying t).run P w = .ok (.map kt et) w) (hk : KeyOk P kt fk)
    (hx : Env.ev L x = some (.v (.map (some b)))) (hm : ms[k]? = some (mp b fk fv l)) (hy : Env.ev L y = some (.v (fk key))) (hv : Env.ev L z = some (fv v)) : OpT P ⟨dst, .mapUpdate t x y z, ty, pos, after, g⟩ L ms (fun _ ms' => ms' = ms.set k (mp b fk fv (mset l key v))) := by
  refine .skip (by simp) fun H fr a w hok henv => ?_
  have hok1 := hok.perm (perm_fr hm)
  obtain ⟨⟨es, clock, h1, h2⟩, hn⟩ := hok1.ok _ (List.mem_cons_self ..)
  have hf := findKey_run (w := w) hk key h2
  have h1' : w.heap[b]? = some (.map es clock) := h1
  have hlt : b < w.heap.size := hok1.lt _ (List.mem_cons_self ..) b (by simp [mp])
  have hcv := henv.ev hv
  have upd : ∀ (es' : Array MapEntry) (clock' : Nat), MapOk fk fv H (mset l key v) es'.toList → HeapOk H (ms.set k (mp b fk fv (mset l key v)) ++ fr) { w with heap := w.heap.setIfInBounds b (.map es' clock') } := by
    intro es' clock' hmo
    refine HeapOk.perm (perm_fr' hm) ?_
    refine hok1.upd rfl (by simp) ?_ (fun _ _ _ _ => rfl) (PH.le_refl H) ?_ ?_
    · intro b' _ hn'
      have : b ≠ b' := fun e => hn' (by simp [mp, e])
      simp [Array.getElem?_setIfInBounds_ne this]
    · intro b' o u hb' hv'
      rcases hb' with hb' | hb'
      · simp [mp] at hb'; subst hb'; rw [hn] at hv'; cases hv'
      · rw [hok1.none_new _ _ hb'] at hv'; cases hv'
    · exact ⟨⟨es', clock', by simp [hlt], hmo⟩, hn⟩
  cases hg : mget l key with
  | none =>
    rw [hg] at hf
    simp only at hf
    refine ⟨_, { w with heap := w.heap.setIfInBounds b (.map (es.push { key := fk key, val := a.eval z, born := clock }) (clock + 1)) }, H, ?_, rfl, PH.le_refl H, upd _ _ ?_, ⟨rfl, rfl, rfl, by simp⟩⟩
    · simp [execOp, Instr.mapUpdate, ev_v henv hx, ev_v henv hy, hu, getObj, setObj, h1', Sem.run_bind, hk.ck, hf.1, Sem.run]
    · rw [Array.toList_push]; exact hf.2 v _ rfl hcv
  | some b' =>
    rw [hg] at hf
    simp only at hf
    obtain ⟨j, e, q1, q2, q3, _, q5⟩ := hf
    refine ⟨_, { w with heap := w.heap.setIfInBounds b (.map (es.modify j fun e => { e with key := fk key, val := a.eval z }) clock) }, H, ?_, rfl, PH.le_refl H, upd _ _ ?_, ⟨rfl, rfl, rfl, by simp⟩⟩
    · simp [execOp, Instr.mapUpdate, ev_v henv hx, ev_v henv hy, hu, getObj, setObj, h1', Sem.run_bind, hk.ck, q1, q2, q3, Instr.keyThatStays, hk.sb, Sem.run]
    · rw [Array.toList_modify]; exact q5 v _ hcv
end
end Go.V
