/- The operations' rules: memory, structs, slices, calls. -/
import Derived.Test.YtnnjgbcojdnhhaaV3
set_option linter.unusedVariables false
set_option linter.unusedSimpArgs false
namespace Go.V
section ops
variable {P : Program} {L : Env} {ms : List Asrt} {dst : Option Nat} {ty : TypeId} {pos : String} {after : Array Edge} {g : Option (Nat × Bool)} {d d' : D} {x y : Operand} {t t' : TypeId}

theorem add_zero' (b off n : Nat) : (⟨b, off, none⟩ : Addr).add n = ⟨b, off + n, none⟩ := by unfold Addr.add; split <;> simp_all

/-! ### Lists behind slices -/
theorem enc_list {H : PH} {α : Type} {sz : Nat} {f : α → D} {l : List α} {v : Value} (h : Conc H (.list sz f l) v) : ∃ a cap, v = .slice a l.length cap ∧ l.length ≤ cap ∧ cap ≤ maxLen ∧
      (l = [] ∨ ∃ b off, a = some ⟨b, off, none⟩ ∧ ∀ i x, l[i]? = some x → ∃ us, Enc H (f x) us ∧ us.length = sz ∧ ∀ k u, us[k]? = some u → H b (off + i * sz + k) = some u) := by
  have h := (conc_enc (by rfl)).1 h
  simp only [Enc] at h
  obtain ⟨a, cap, hv, r⟩ := h
  simp at hv
  exact ⟨a, cap, hv, r⟩
theorem o_len {α : Type} {sz : Nat} {f : α → D} {l : List α} {e : TypeId} (hu : ∀ w, (underlying t).run P w = .ok (.slice e) w) (hx : Env.ev L x = some (.list sz f l)) :
    OpP P ⟨dst, .call ⟨.builtin .len, #[x], #[t]⟩, ty, pos, after, g⟩ L ms (.v (.int .i64 l.length)) := by
  refine .pure (by simp) fun H fr a w _ henv => ?_
  obtain ⟨a', cap, hv, _⟩ := enc_list (henv.ev hx)
  exact ⟨.int .i64 l.length, by simp [execOp, resolve, invoke, builtin, Builtin.len_, hv, hu, Sem.run, goInt], conc_v.2 rfl⟩
theorem o_len_tmp {Γ : Ctx} {ops : Array Oper} {l : List Oper} {K : KT} {α : Type} {sz : Nat} {f : α → D} {xs : List α} (hx : Env.ev L x = some (.list sz f xs))
    (h : xs.length ≤ maxLen → GO Γ P ops l L ms K) : GO Γ P ops l L ms K := by
  intro a w m
  obtain ⟨H, marks, _, _, henv, _⟩ := m.ex
  obtain ⟨a', cap, _, h1, h2, _⟩ := enc_list (henv.ev hx)
  exact h (Nat.le_trans h1 h2) a w m
theorem o_indexAddr {α : Type} {sz : Nat} {f : α → D} {l : List α} {e : TypeId} {k : IntKind} {n : Int} {z : α} (hu : ∀ w, (underlying t).run P w = .ok (.slice e) w) (hs : ∀ w, (sizeOf e).run P w = .ok sz w) (hx : Env.ev L x = some (.list sz f l))
    (hy : Env.ev L y = some (.v (.int k n))) (h0 : 0 ≤ n) (hz : l[n.toNat]? = some z) : OpP P ⟨dst, .indexAddr t x y, ty, pos, after, g⟩ L ms (.ref (f z)) := by
  refine .pure (by simp) fun H fr a w _ henv => ?_
  obtain ⟨a', cap, hv, h1, h2, h3⟩ := enc_list (henv.ev hx)
  obtain ⟨hlt, _⟩ := List.getElem?_eq_some_iff.1 hz
  rcases h3 with h3 | ⟨b, off, ha, hel⟩
  · subst h3; simp at hlt
  · obtain ⟨us, e1, e2, e3⟩ := hel _ _ hz
    refine ⟨.pointer (some ⟨b, off + n.toNat * sz, none⟩), ?_, ?_⟩
    · have hb : 0 ≤ n ∧ n < (l.length : Int) := by omega
      simp [execOp, Instr.indexAt, asIntOf, hv, ha, ev_v henv hy, hu, hs, hb, Sem.run, add_zero']
    · rw [conc_enc (by rfl)]
      simp only [Enc]
      exact ⟨b, _, us, rfl, e1, e3⟩
/-- A piece of a list, within its length. -/
theorem o_slice {α : Type} {sz : Nat} {f : α → D} {l : List α} {lo hi : Option Operand} {m h : Nat} {e : TypeId} (hu : ∀ w, (underlying t).run P w = .ok (.slice e) w) (hs : ∀ w, (sizeOf e).run P w = .ok sz w) (hx : Env.ev L x = some (.list sz f l))
    (hl : evN L lo 0 m) (hh : evN L hi l.length h) (h1 : m ≤ h) (h2 : h ≤ l.length) : OpP P ⟨dst, .slice t x lo hi none, ty, pos, after, g⟩ L ms (.list sz f ((l.take h).drop m)) := by
  refine .pure (by simp) fun H fr a w _ henv => ?_
  obtain ⟨a', cap, hv, h3, h4, h5⟩ := enc_list (henv.ev hx)
  have hb := bounds_run (P := P) (isS := true) (w := w) (len := l.length) (cap := cap) (evN_match henv hl) (evN_match henv hh) h1 (by omega) h3
  refine ⟨.slice (if cap = m then a' else a'.map (·.add (m * sz))) (h - m) (cap - m), by simp [execOp, Instr.sliceAt, Instr.slice, hv, hu, Sem.run, hb, hs], ?_⟩
  rw [conc_enc (by rfl)]
  simp only [Enc]
  have hll : ((l.take h).drop m).length = h - m := by simp; omega
  refine ⟨if cap = m then a' else a'.map (·.add (m * sz)), cap - m, by rw [hll], by omega, by omega, ?_⟩
  rcases h5 with h5 | ⟨b, off, ha, hel⟩
  · subst h5; left; simp
  · by_cases hc : cap = m
    · left; simp; omega
    · right
      refine ⟨b, off + m * sz, by simp [hc, ha, add_zero'], fun i z hz => ?_⟩
      have hz' : l[m + i]? = some z := by
        rw [List.getElem?_drop, List.getElem?_take] at hz
        split at hz
        · exact hz
        · cases hz
      obtain ⟨us, e1, e2, e3⟩ := hel _ _ hz'
      refine ⟨us, e1, e2, fun k u hk => ?_⟩
      have := e3 k u hk
      rw [show off + m * sz + i * sz + k = off + (m + i) * sz + k by rw [Nat.add_mul]; omega]
      exact this

/-! ### Through pointers to what stays -/
theorem cellsum {H : PH} {as : List Asrt} {w : World} (hok : HeapOk H as w) {b off : Nat} {us : List Value} (h : ∀ k u, us[k]? = some u → H b (off + k) = some u) : ∀ j v, us[j]? = some v → w.cell? ((⟨b, off, none⟩ : Addr).add j) = some v :=
  fun j v hj => by rw [add_zero']; exact hok.sub _ _ _ (h j v hj)
theorem enc_ref {H : PH} {d : D} {v : Value} (h : Conc H (.ref d) v) : ∃ b off us, v = .pointer (some ⟨b, off, none⟩) ∧ Enc H d us ∧ ∀ k u, us[k]? = some u → H b (off + k) = some u := by
  have h := (conc_enc (by rfl)).1 h
  simp only [Enc] at h
  obtain ⟨b, off, us, hv, r⟩ := h
  simp at hv
  exact ⟨b, off, us, hv, r⟩
/-- A value of one cell. -/
theorem o_load (ha : ∀ w, (isAgg t).run P w = .ok false w) (hx : Env.ev L x = some (.ref d)) (hd : d.isAgg = false) : OpP P ⟨dst, .load t x, ty, pos, after, g⟩ L ms d := by
  refine .pure (by simp) fun H fr a w hok henv => ?_
  obtain ⟨b, off, us, hv, e1, e2⟩ := enc_ref (henv.ev hx)
  obtain ⟨u, rfl⟩ := enc_one hd e1
  have hc : w.cell? ⟨b, off, none⟩ = some u := by simpa using hok.sub b off u (by simpa using e2 0 u)
  exact ⟨u, by simp [execOp, Instr.loadAt, Instr.sureAddr, hv, loadVar, ha, load, Sem.run, hc], (conc_enc hd).2 e1⟩
/-- A struct. -/
theorem o_load_agg {cs : List D} {sz : Nat} (ha : ∀ w, (isAgg t).run P w = .ok true w) (hs : ∀ w, (sizeOf t).run P w = .ok sz w) (hx : Env.ev L x = some (.ref (.agg cs))) (hd : widthL cs = sz) : OpP P ⟨dst, .load t x, ty, pos, after, g⟩ L ms (.agg cs) := by
  refine .pure (by simp) fun H fr a w hok henv => ?_
  obtain ⟨b, off, us, hv, e1, e2⟩ := enc_ref (henv.ev hx)
  have hw : us.length = sz := by rw [← hd]; simpa [D.width] using Enc.width _ _ e1
  have hl := run_loadCells_list (P := P) w ⟨b, off, none⟩ us (cellsum hok e2)
  rw [hw] at hl
  exact ⟨.agg us.toArray, by simp [execOp, Instr.loadAt, Instr.sureAddr, hv, loadVar, ha, hs, hl, Sem.run], conc_agg.2 ⟨us, rfl, by simpa [Enc] using e1⟩⟩
/-- The part of a struct's cells that a field has. -/
def part? (ag : Bool) (sz off : Nat) (cs : List D) : Option D := match ag with
  | true => some (.agg ((cs.drop off).take sz))
  | false => cs[off]?
theorem flat_drop : ∀ (cs : List D) (n : Nat), flat cs = true → flat (cs.drop n) = true
  | [], n, h => by simp [flat]
  | c :: cs, 0, h => h
  | c :: cs, n + 1, h => flat_drop cs n (flat_cons h).2
theorem flat_take : ∀ (cs : List D) (n : Nat), flat cs = true → flat (cs.take n) = true
  | [], n, h => by simp [flat]
  | c :: cs, 0, h => by simp [flat]
  | c :: cs, n + 1, h => by
    have := flat_take cs n (flat_cons h).2
    cases c <;> simp_all [flat]
theorem part_enc {H : PH} {ag : Bool} {sz off : Nat} {cs : List D} {us : List Value} (h : part? ag sz off cs = some d) (hf : flat cs = true) (e : EncL H cs us) : ∃ vs, Enc H d vs ∧ ∀ k u, vs[k]? = some u → us[off + k]? = some u := by
  obtain ⟨h1, h2⟩ := EncL.get cs us e hf
  cases ag with
  | false =>
    obtain ⟨u, h3, h4⟩ := h2 off d h
    refine ⟨[u], h4, fun k u' hk => ?_⟩
    cases k with
    | zero => simp at hk; subst hk; simpa using h3
    | succ k => simp at hk
  | true =>
    simp only [part?, Option.some.injEq] at h
    subst h
    refine ⟨(us.drop off).take sz, ?_, fun k u hk => ?_⟩
    · simp only [Enc]
      refine EncL.of_get _ _ (flat_take _ _ (flat_drop _ _ hf)) (by simp [h1]) fun k c hk => ?_
      rw [List.getElem?_take] at hk
      split at hk
      · rename_i hlt
        rw [List.getElem?_drop] at hk
        obtain ⟨u, h3, h4⟩ := h2 _ _ hk
        exact ⟨u, by rw [List.getElem?_take, if_pos hlt, List.getElem?_drop]; exact h3, h4⟩
      · cases hk
    · rw [List.getElem?_take] at hk
      split at hk
      · rw [List.getElem?_drop] at hk; exact hk
      · cases hk
/-- What is known of a struct's field. -/
structure FieldIs (P : Program) (s : TypeId) (n : Nat) (off sz : Nat) (ag : Bool) : Prop where
  ex : ∃ fs f, (∀ w, (underlying s).run P w = .ok (.struct fs) w) ∧ fs[n]? = some f ∧ f.offset = off ∧ (∀ w, (sizeOf f.type).run P w = .ok sz w) ∧ sz ≠ 0 ∧ (∀ w, (isAgg f.type).run P w = .ok ag w)
theorem o_fieldAddr {cs : List D} {n off sz : Nat} {ag : Bool} (hf : FieldIs P t n off sz ag) (hx : Env.ev L x = some (.ref (.agg cs))) (hfl : flat cs = true) (hp : part? ag sz off cs = some d) :
    OpP P ⟨dst, .fieldAddr t x n, ty, pos, after, g⟩ L ms (.ref d) := by
  refine .pure (by simp) fun H fr a w hok henv => ?_
  obtain ⟨b, o, us, hv, e1, e2⟩ := enc_ref (henv.ev hx)
  obtain ⟨fs, f, h1, h2, h3, h4, h5, h6⟩ := hf.ex
  obtain ⟨vs, e3, e4⟩ := part_enc hp hfl (by simpa [Enc] using e1)
  refine ⟨.pointer (some ⟨b, o + off, none⟩), ?_, ?_⟩
  · simp [execOp, Instr.fieldAt, Instr.sureAddr, hv, h1, h2, fieldPlace, h4, h5, h3, Sem.run, add_zero']
  · rw [conc_enc (by rfl)]
    simp only [Enc]
    exact ⟨b, _, vs, rfl, e3, fun k u hk => by rw [Nat.add_assoc]; exact e2 _ _ (e4 k u hk)⟩
theorem o_field {cs : List D} {n off sz : Nat} {ag : Bool} (hf : FieldIs P t n off sz ag) (hx : Env.ev L x = some (.agg cs)) (hfl : flat cs = true) (hp : part? ag sz off cs = some d) (hin : off + sz ≤ cs.length) :
    OpP P ⟨dst, .field t x n, ty, pos, after, g⟩ L ms d := by
  refine .pure (by simp) fun H fr a w hok henv => ?_
  obtain ⟨us, hv, e1⟩ := conc_agg.1 (henv.ev hx)
  obtain ⟨fs, f, h1, h2, h3, h4, h5, h6⟩ := hf.ex
  obtain ⟨hlen, hget⟩ := EncL.get cs us e1 hfl
  cases ag with
  | true =>
    simp only [part?, Option.some.injEq] at hp
    subst hp
    refine ⟨.agg ((us.drop off).take sz).toArray, ?_, ?_⟩
    · have : us.toArray.extract off (off + sz) = ((us.drop off).take sz).toArray := by
        apply Array.ext'; simp
      simp [execOp, Instr.field, asAgg, hv, h1, h2, part, h6, h4, h3, Sem.run, this]
    · refine conc_agg.2 ⟨_, rfl, EncL.of_get _ _ (flat_take _ _ (flat_drop _ _ hfl)) (by simp [hlen]) fun k c hk => ?_⟩
      rw [List.getElem?_take] at hk
      split at hk
      · rename_i hlt
        rw [List.getElem?_drop] at hk
        obtain ⟨u, h3, h4⟩ := hget _ _ hk
        exact ⟨u, by rw [List.getElem?_take, if_pos hlt, List.getElem?_drop]; exact h3, h4⟩
      · cases hk
  | false =>
    obtain ⟨u, h7, h8⟩ := hget off d hp
    have hna := flat_get cs off d hfl hp
    refine ⟨u, ?_, (conc_enc hna).2 h8⟩
    have h7' : us.toArray[off]? = some u := by simpa using h7
    simp [execOp, Instr.field, asAgg, hv, h1, h2, part, h6, h3, h7, Sem.run]
theorem o_extract {ds : List D} {n : Nat} (hx : Env.ev L x = some (.tup ds)) (hn : ds[n]? = some d) : OpP P ⟨dst, .extract x n, ty, pos, after, g⟩ L ms d := by
  refine .pure (by simp) fun H fr a w hok henv => ?_
  have h := (conc_enc (by rfl)).1 (henv.ev hx)
  simp only [Enc] at h
  obtain ⟨us, hv, e⟩ := h
  simp at hv
  obtain ⟨u, h1, h2⟩ := ConcL.get ds us n d e hn
  exact ⟨u, by simp [execOp, Instr.extract, hv, h1, Sem.run], h2⟩
theorem o_nilCheck (hx : Env.ev L x = some (.ref d)) : OpP P ⟨dst, .nilCheck x, ty, pos, after, g⟩ L ms (.ref d) := by
  refine .pure (by simp) fun H fr a w hok henv => ?_
  obtain ⟨b, off, us, hv, _⟩ := enc_ref (henv.ev hx)
  exact ⟨a.eval x, by simp [execOp, hv, Sem.run], henv.ev hx⟩
theorem o_nilCheck_box {b off : Nat} (hx : Env.ev L x = some (.v (.pointer (some ⟨b, off, none⟩)))) : OpP P ⟨dst, .nilCheck x, ty, pos, after, g⟩ L ms (.v (.pointer (some ⟨b, off, none⟩))) :=
  .pure (by simp) fun H fr a w hok henv => ⟨_, by simp [execOp, ev_v henv hx, Sem.run], conc_v.2 rfl⟩

/-! ### New blocks -/
theorem conc_cells {H : PH} {v : Value} (h : Conc H d v) (ho : v.oneCell' = true ∨ d.isAgg = true) : Enc H d v.cells.toList := by
  obtain ⟨vs, e, hv⟩ := h
  cases d with
  | agg cs => simp only [D.val] at hv; subst hv; simpa [Value.cells] using e
  | _ =>
    simp only [D.val] at hv
    subst hv
    rcases ho with ho | ho
    · cases v <;> simp_all [Value.cells, Value.oneCell']
    · simp [D.isAgg] at ho
/-- Storable: no tuple, no bare struct in a cell. -/
def D.storable : D → Bool
  | .v x => x.oneCell'
  | .tup _ => false
  | _ => true
theorem storable_one {H : PH} {v : Value} (h : Conc H d v) (hs : d.storable = true) : v.oneCell' = true ∨ d.isAgg = true := by
  cases d with
  | agg cs => right; rfl
  | v x => left; rw [conc_v.1 h]; exact hs
  | list sz f l => left; obtain ⟨a, cap, hv, _⟩ := enc_list h; subst hv; rfl
  | ref x => left; obtain ⟨b, off, us, hv, _⟩ := enc_ref h; subst hv; rfl
  | tup ds => simp [D.storable] at hs
  | clo fn fs cs =>
    left
    have h := (conc_enc (by rfl)).1 h
    simp only [Enc] at h
    obtain ⟨us, ws, hv, _⟩ := h
    simp at hv; subst hv; rfl
/-- A new variable that is never written again. -/
theorem o_box (hx : Env.ev L x = some d) (hs : d.storable = true) : OpP P ⟨dst, .box t x, ty, pos, after, g⟩ L ms (.ref d) := by
  refine .val (by simp) fun H fr a w hok henv => ?_
  have hc := henv.ev hx
  have e := conc_cells hc (storable_one hc hs)
  obtain ⟨h1, h2⟩ := hok.persist (a.eval x).cells.toList t
  refine ⟨.pointer (some ⟨w.heap.size, 0, none⟩), .ref d, ms, w.alloc (.cells (a.eval x).cells.toList.toArray t), _, ?_, ⟨rfl, rfl⟩, h2, h1, ?_, sameOut_alloc _ _⟩
  · simp [execOp, Instr.box, newVar, newRow, newObj, Sem.run]
  · rw [conc_enc (by rfl)]
    simp only [Enc]
    exact ⟨_, _, _, rfl, Enc.mono h2 _ _ e, fun k u hk => by simp [PH.add, hk]⟩
/-- A new variable of one's own. -/
theorem o_box_own {cs : List D} (hx : Env.ev L x = some d) (hs : d.storable = true) (hcs : (match d with | .agg cs => cs | d => [d]) = cs) :
    OpT P ⟨dst, .box t x, ty, pos, after, g⟩ L ms (fun d' ms' => ∃ b, d' = .v (.pointer (some ⟨b, 0, none⟩)) ∧ ms' = box b t cs :: ms) := by
  refine .val (by simp) fun H fr a w hok henv => ?_
  have hc := henv.ev hx
  have e := conc_cells hc (storable_one hc hs)
  refine ⟨.pointer (some ⟨w.heap.size, 0, none⟩), _, _, w.alloc (.cells (a.eval x).cells.toList.toArray t), H, ?_, ⟨w.heap.size, rfl, rfl⟩, PH.le_refl H, ?_, conc_v.2 rfl, sameOut_alloc _ _⟩
  · simp [execOp, Instr.box, newVar, newRow, newObj, Sem.run]
  · refine hok.own (A := box w.heap.size t cs) rfl ⟨_, heap_alloc_new _ _, ?_, fun o => hok.none_new _ _ (Nat.le_refl _)⟩
    subst hcs
    cases d with
    | agg cs => simpa [Enc] using e
    | _ => simp only [EncL]; exact ⟨_, [], by simp, e, rfl⟩
end ops
end Go.V
