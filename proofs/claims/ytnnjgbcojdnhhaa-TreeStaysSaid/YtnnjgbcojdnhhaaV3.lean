/- The operations' rules. -/
import Derived.Test.YtnnjgbcojdnhhaaV2
set_option linter.unusedVariables false
set_option linter.unusedSimpArgs false
namespace Go.V

/-! ### How an operation is met -/
section meet
variable {P : Program} {o : Oper} {L : Env} {ms : List Asrt} {R : D → List Asrt → Prop} {d : D}
theorem op_val {ro : Option Nat} {a : Act} {w w' : World} {v : Value} {next : Act → World → Prop} {Q : Exit → Act → World → Prop} (hnd : ∀ c, o.op ≠ .defer c)
    (h : (execOp a.eval o).run P w = .ok (.value v) w') (hn : next (a.put o.dst v) w') : o.wpIn (FR ro) 0 P a w next Q := by
  refine ⟨fun _ _ => trivial, ?_⟩
  rw [Oper.semAt_eq _ _ _ hnd, h]
  exact hn
theorem op_skip {ro : Option Nat} {a : Act} {w w' : World} {next : Act → World → Prop} {Q : Exit → Act → World → Prop} (hnd : ∀ c, o.op ≠ .defer c)
    (h : (execOp a.eval o).run P w = .ok .skip w') (hn : next (a.put o.dst undef) w') : o.wpIn (FR ro) 0 P a w next Q := by
  refine ⟨fun _ _ => trivial, ?_⟩
  rw [Oper.semAt_eq _ _ _ hnd, h]
  exact hn
/-- An operation that only computes. -/
theorem OpP.pure (hnd : ∀ c, o.op ≠ .defer c) (h : ∀ H fr (a : Act) w, HeapOk H (ms ++ fr) w → EnvOk H L a.tmps → ∃ v, (execOp a.eval o).run P w = .ok (.value v) w ∧ Conc H d v) : OpP P o L ms d := by
  intro ro H fr a w hok henv next Q hn
  obtain ⟨v, h1, h2⟩ := h H fr a w hok henv
  exact op_val hnd h1 (hn v d ms w H ⟨rfl, rfl⟩ (PH.le_refl H) hok h2 (SameOut.refl w))
theorem OpT.val (hnd : ∀ c, o.op ≠ .defer c) (h : ∀ H fr (a : Act) w, HeapOk H (ms ++ fr) w → EnvOk H L a.tmps → ∃ v d ms' w' H', (execOp a.eval o).run P w = .ok (.value v) w' ∧
    R d ms' ∧ PH.le H H' ∧ HeapOk H' (ms' ++ fr) w' ∧ Conc H' d v ∧ SameOut w w') : OpT P o L ms R := by
  intro ro H fr a w hok henv next Q hn
  obtain ⟨v, d, ms', w', H', h1, h2, h3, h4, h5, h6⟩ := h H fr a w hok henv
  exact op_val hnd h1 (hn v d ms' w' H' h2 h3 h4 h5 h6)
theorem OpT.skip (hnd : ∀ c, o.op ≠ .defer c) (h : ∀ H fr (a : Act) w, HeapOk H (ms ++ fr) w → EnvOk H L a.tmps → ∃ ms' w' H', (execOp a.eval o).run P w = .ok .skip w' ∧
    R (.v undef) ms' ∧ PH.le H H' ∧ HeapOk H' (ms' ++ fr) w' ∧ SameOut w w') : OpT P o L ms R := by
  intro ro H fr a w hok henv next Q hn
  obtain ⟨ms', w', H', h1, h2, h3, h4, h6⟩ := h H fr a w hok henv
  exact op_skip hnd h1 (hn undef (.v undef) ms' w' H' h2 h3 h4 (conc_v.2 rfl) h6)
end meet

/-! ### The heap grows -/
theorem heap_alloc_old (w : World) (o : Obj) (b : Nat) (h : b < w.heap.size) : (w.alloc o).heap[b]? = w.heap[b]? := by
  show (w.heap.push o)[b]? = _
  rw [Array.getElem?_push, if_neg (by omega)]
theorem heap_alloc_new (w : World) (o : Obj) : (w.alloc o).heap[w.heap.size]? = some o := by
  show (w.heap.push o)[w.heap.size]? = _
  simp
theorem size_alloc' (w : World) (o : Obj) : (w.alloc o).heap.size = w.heap.size + 1 := by
  show (w.heap.push o).size = _
  simp
theorem HeapOk.none_new {H : PH} {as : List Asrt} {w : World} (h : HeapOk H as w) (b o : Nat) (hb : w.heap.size ≤ b) : H b o = none := by
  cases hv : H b o with
  | none => rfl
  | some v =>
    have := h.sub b o v hv
    simp [World.cell?, Array.getElem?_eq_none hb] at this
theorem cell_alloc_old {w : World} {o : Obj} {b off : Nat} {v : Value} (h : w.cell? ⟨b, off, none⟩ = some v) : (w.alloc o).cell? ⟨b, off, none⟩ = some v := by
  have hlt : b < w.heap.size := by
    rcases Nat.lt_or_ge b w.heap.size with h' | h'
    · exact h'
    · simp [World.cell?, Array.getElem?_eq_none h'] at h
  simp only [World.cell?] at h ⊢
  rw [heap_alloc_old _ _ _ hlt]
  exact h
def PH.add (H : PH) (b : Nat) (vs : List Value) : PH := fun b' o => if b' = b then vs[o]? else H b' o
theorem HeapOk.persist {H : PH} {as : List Asrt} {w : World} (h : HeapOk H as w) (vs : List Value) (T : TypeId) :
    HeapOk (H.add w.heap.size vs) as (w.alloc (.cells vs.toArray T)) ∧ PH.le H (H.add w.heap.size vs) := by
  have hle : PH.le H (H.add w.heap.size vs) := by
    intro b o v hv
    simp only [PH.add]
    by_cases hb : b = w.heap.size
    · subst hb; rw [h.none_new _ _ (Nat.le_refl _)] at hv; cases hv
    · rw [if_neg hb]; exact hv
  refine ⟨⟨fun b o v hv => ?_, h.nodup, fun A hA b hb => by have := h.lt A hA b hb; rw [size_alloc']; omega, fun A hA => ?_⟩, hle⟩
  · simp only [PH.add] at hv
    by_cases hb : b = w.heap.size
    · subst hb
      rw [if_pos rfl] at hv
      simp only [World.cell?, heap_alloc_new]
      simpa using hv
    · rw [if_neg hb] at hv
      exact cell_alloc_old (h.sub b o v hv)
  · refine A.stable H _ (fun b => w.heap[b]?) _ ?_ hle (h.ok A hA)
    intro b hb
    have hlt := h.lt A hA b hb
    exact ⟨fun o => by simp only [PH.add]; rw [if_neg (by omega)], heap_alloc_old _ _ _ hlt⟩
theorem HeapOk.own {H : PH} {as : List Asrt} {w : World} (h : HeapOk H as w) {o : Obj} {A : Asrt} (hb : A.blocks = [w.heap.size]) (hok : A.ok H (fun b => (w.alloc o).heap[b]?)) :
    HeapOk H (A :: as) (w.alloc o) := by
  refine ⟨fun b off v hv => cell_alloc_old (h.sub b off v hv), ?_, ?_, ?_⟩
  · simp only [List.flatMap_cons, hb, List.cons_append, List.nil_append, List.nodup_cons]
    refine ⟨fun hm => ?_, h.nodup⟩
    obtain ⟨B, hB, hm⟩ := List.mem_flatMap.1 hm
    exact Nat.lt_irrefl _ (h.lt B hB _ hm)
  · intro B hB b hbB
    rcases List.mem_cons.1 hB with rfl | hB
    · rw [hb] at hbB; simp at hbB; subst hbB; rw [size_alloc']; omega
    · have := h.lt B hB b hbB; rw [size_alloc']; omega
  · intro B hB
    rcases List.mem_cons.1 hB with rfl | hB
    · exact hok
    · refine B.stable H H (fun b => w.heap[b]?) _ ?_ (PH.le_refl H) (h.ok B hB)
      intro b hbB
      exact ⟨fun _ => rfl, heap_alloc_old _ _ _ (h.lt B hB b hbB)⟩
theorem sameOut_alloc (w : World) (o : Obj) : SameOut w (w.alloc o) := ⟨rfl, rfl, rfl, by rw [size_alloc']; omega⟩
/-- One assertion is replaced, its blocks alone having changed. -/
theorem HeapOk.upd {H H' : PH} {A A' : Asrt} {as : List Asrt} {w w' : World} (h : HeapOk H (A :: as) w) (hbl : A'.blocks = A.blocks) (hsz : w.heap.size ≤ w'.heap.size)
    (hsame : ∀ b, b < w.heap.size → b ∉ A.blocks → w'.heap[b]? = w.heap[b]?) (hH : ∀ b o, b < w.heap.size → b ∉ A.blocks → H' b o = H b o) (hle : PH.le H H')
    (hsub : ∀ b o v, (b ∈ A.blocks ∨ w.heap.size ≤ b) → H' b o = some v → w'.cell? ⟨b, o, none⟩ = some v) (hok : A'.ok H' (fun b => w'.heap[b]?)) : HeapOk H' (A' :: as) w' := by
  have hnd := h.nodup
  simp only [List.flatMap_cons] at hnd
  have hdisj := (List.nodup_append.1 hnd).2.2
  refine ⟨fun b o v hv => ?_, by simp only [List.flatMap_cons, hbl]; exact hnd, ?_, ?_⟩
  · by_cases hb : b ∈ A.blocks ∨ w.heap.size ≤ b
    · exact hsub b o v hb hv
    · have h1 : b ∉ A.blocks := fun x => hb (.inl x)
      have h2 : b < w.heap.size := by omega
      rw [hH b o h2 h1] at hv
      have := h.sub b o v hv
      simp only [World.cell?] at this ⊢
      rw [hsame b h2 h1]
      exact this
  · intro B hB b hb
    rcases List.mem_cons.1 hB with rfl | hB
    · rw [hbl] at hb; exact Nat.lt_of_lt_of_le (h.lt A (by simp) b hb) hsz
    · exact Nat.lt_of_lt_of_le (h.lt B (by simp [hB]) b hb) hsz
  · intro B hB
    rcases List.mem_cons.1 hB with rfl | hB
    · exact hok
    · refine B.stable H H' (fun b => w.heap[b]?) _ ?_ hle (h.ok B (by simp [hB]))
      intro b hb
      have hlt := h.lt B (by simp [hB]) b hb
      have hn : b ∉ A.blocks := fun hx => hdisj b hx b (List.mem_flatMap.2 ⟨B, hB, hb⟩) rfl
      exact ⟨fun o => hH b o hlt hn, hsame b hlt hn⟩
theorem perm_at {α : Type _} : ∀ (ms : List α) (k : Nat) (A : α), ms[k]? = some A → ms.Perm (A :: ms.eraseIdx k)
  | [], k, A, h => by simp at h
  | x :: ms, 0, A, h => by simp at h; subst h; simp
  | x :: ms, k + 1, A, h => by
    have := perm_at ms k A (by simpa using h)
    simp only [List.eraseIdx_cons_succ]
    exact (List.Perm.cons x this).trans (List.Perm.swap _ _ _)
theorem perm_set {α : Type _} : ∀ (ms : List α) (k : Nat) (A A' : α), ms[k]? = some A → (A' :: ms.eraseIdx k).Perm (ms.set k A')
  | [], k, A, A', h => by simp at h
  | x :: ms, 0, A, A', h => by simp
  | x :: ms, k + 1, A, A', h => by
    have := perm_set ms k A A' (by simpa using h)
    simp only [List.eraseIdx_cons_succ, List.set_cons_succ]
    exact (List.Perm.swap _ _ _).trans (List.Perm.cons x this)

/-! ### A block of one's own -/
def box (b : Nat) (t : TypeId) (cs : List D) : Asrt where
  blocks := [b]
  ok := fun H h => ∃ vs, h b = some (.cells vs.toArray t (0, 0)) ∧ EncL H cs vs ∧ ∀ o, H b o = none
  stable := fun H H' h h' e hle ⟨vs, h1, h2, h3⟩ => by
    have := e b (by simp)
    exact ⟨vs, by rw [this.2]; exact h1, EncL.mono hle cs vs h2, fun o => by rw [this.1]; exact h3 o⟩

/-- Each of one cell. -/
def flat : List D → Bool
  | [] => true
  | .agg _ :: _ => false
  | _ :: cs => flat cs
theorem flat_cons {c : D} {cs : List D} (h : flat (c :: cs) = true) : c.isAgg = false ∧ flat cs = true := by
  cases c <;> simp_all [flat, D.isAgg]
theorem enc_one {H : PH} {c : D} {vs : List Value} (h : c.isAgg = false) (e : Enc H c vs) : ∃ u, vs = [u] := by
  have := Enc.width c vs e
  cases c <;> simp_all [D.isAgg, D.width] <;> (cases vs <;> simp_all)
theorem EncL.get {H : PH} : ∀ (cs : List D) (vs : List Value), EncL H cs vs → flat cs = true → vs.length = cs.length ∧ ∀ (k : Nat) (c : D), cs[k]? = some c → ∃ u, vs[k]? = some u ∧ Enc H c [u]
  | [], vs, e, _ => by simp only [EncL] at e; subst e; simp
  | c :: cs, vs, e, hf => by
    simp only [EncL] at e
    obtain ⟨a, r, hv, e1, e2⟩ := e
    obtain ⟨h1, h2⟩ := flat_cons hf
    obtain ⟨u, rfl⟩ := enc_one h1 e1
    subst hv
    obtain ⟨h3, h4⟩ := EncL.get cs r e2 h2
    refine ⟨by simp [h3], fun k d hk => ?_⟩
    cases k with
    | zero => simp at hk; subst hk; exact ⟨u, by simp, e1⟩
    | succ k => obtain ⟨u', a1, a2⟩ := h4 k d (by simpa using hk); exact ⟨u', by simpa using a1, a2⟩
theorem EncL.of_get {H : PH} : ∀ (cs : List D) (vs : List Value), flat cs = true → vs.length = cs.length → (∀ (k : Nat) (c : D), cs[k]? = some c → ∃ u, vs[k]? = some u ∧ Enc H c [u]) → EncL H cs vs
  | [], vs, _, hl, _ => by simp only [EncL]; simpa using hl
  | c :: cs, [], _, hl, _ => by simp at hl
  | c :: cs, v :: vs, hf, hl, h => by
    obtain ⟨h1, h2⟩ := flat_cons hf
    obtain ⟨u, a1, a2⟩ := h 0 c (by simp)
    simp at a1
    subst a1
    simp only [EncL]
    exact ⟨[v], vs, by simp, a2, EncL.of_get cs vs h2 (by simpa using hl) fun k d hk => by simpa using h (k + 1) d (by simpa using hk)⟩
theorem flat_get : ∀ (cs : List D) (k : Nat) (c : D), flat cs = true → cs[k]? = some c → c.isAgg = false
  | [], k, c, _, h => by simp at h
  | x :: cs, 0, c, hf, h => by simp at h; subst h; exact (flat_cons hf).1
  | x :: cs, k + 1, c, hf, h => flat_get cs k c (flat_cons hf).2 (by simpa using h)

/-! ### Simple operations -/
section ops
variable {P : Program} {L : Env} {ms : List Asrt} {dst : Option Nat} {ty : TypeId} {pos : String} {after : Array Edge} {g : Option (Nat × Bool)} {d d' : D} {x y : Operand} {t t' : TypeId}
theorem o_move (h : Env.ev L x = some d) : OpP P ⟨dst, .move x, ty, pos, after, g⟩ L ms d :=
  .pure (by simp) fun H fr a w _ henv => ⟨a.eval x, rfl, henv.ev h⟩
theorem o_assign (h : Env.ev L x = some d) : OpP P ⟨dst, .assign x, ty, pos, after, g⟩ L ms d :=
  .pure (by simp) fun H fr a w _ henv => ⟨a.eval x, rfl, henv.ev h⟩
theorem ev_v {H : PH} {a : Act} (henv : EnvOk H L a.tmps) {v : Value} (h : Env.ev L x = some (.v v)) : a.eval x = v := conc_v.1 (henv.ev h)
theorem o_pick {z : Operand} {b : Bool} (hx : Env.ev L x = some (.v (.bool b))) (h : Env.ev L (if b then y else z) = some d) : OpP P ⟨dst, .pick x y z, ty, pos, after, g⟩ L ms d :=
  .pure (by simp) fun H fr a w _ henv => ⟨a.eval (if b then y else z), by simp only [execOp, ev_v henv hx]; cases b <;> rfl, henv.ev h⟩
theorem o_add {k : IntKind} {m n r : Int} (hx : Env.ev L x = some (.v (.int k m))) (hy : Env.ev L y = some (.v (.int k n))) (hr : k.wrap (m + n) = r) :
    OpP P ⟨dst, .binOp .add t x y t', ty, pos, after, g⟩ L ms (.v (.int k r)) :=
  .pure (by simp) fun H fr a w _ henv => ⟨.int k r, by simp [execOp, ev_v henv hx, ev_v henv hy, eqGuard, binOp, Op.intArith, Sem.run, hr], conc_v.2 rfl⟩
theorem o_sub {k : IntKind} {m n r : Int} (hx : Env.ev L x = some (.v (.int k m))) (hy : Env.ev L y = some (.v (.int k n))) (hr : k.wrap (m - n) = r) :
    OpP P ⟨dst, .binOp .sub t x y t', ty, pos, after, g⟩ L ms (.v (.int k r)) :=
  .pure (by simp) fun H fr a w _ henv => ⟨.int k r, by simp [execOp, ev_v henv hx, ev_v henv hy, eqGuard, binOp, Op.intArith, Sem.run, hr], conc_v.2 rfl⟩
theorem o_mul {k : IntKind} {m n r : Int} (hx : Env.ev L x = some (.v (.int k m))) (hy : Env.ev L y = some (.v (.int k n))) (hr : k.wrap (m * n) = r) :
    OpP P ⟨dst, .binOp .mul t x y t', ty, pos, after, g⟩ L ms (.v (.int k r)) :=
  .pure (by simp) fun H fr a w _ henv => ⟨.int k r, by simp [execOp, ev_v henv hx, ev_v henv hy, eqGuard, binOp, Op.intArith, Sem.run, hr], conc_v.2 rfl⟩
/-- A comparison of two integers. -/
def cmpI : BinOp → Int → Int → Option Bool
  | .eql, m, n => some (decide (m = n))
  | .neq, m, n => some (!decide (m = n))
  | .lss, m, n => some (decide (m < n))
  | .leq, m, n => some (decide (m ≤ n))
  | .gtr, m, n => some (decide (n < m))
  | .geq, m, n => some (decide (n ≤ m))
  | _, _, _ => none
theorem o_cmp {op : BinOp} {k : IntKind} {m n : Int} {b : Bool} (hx : Env.ev L x = some (.v (.int k m))) (hy : Env.ev L y = some (.v (.int k n))) (hb : cmpI op m n = some b) :
    OpP P ⟨dst, .binOp op t x y t', ty, pos, after, g⟩ L ms (.v (.bool b)) := by
  refine .pure (by simp) fun H fr a w _ henv => ⟨.bool b, ?_, conc_v.2 rfl⟩
  cases op <;> simp only [cmpI, Option.some.injEq, reduceCtorEq] at hb <;> subst hb <;> simp [execOp, ev_v henv hx, ev_v henv hy, eqGuard, binOp, Op.intCmp, Sem.run]
  · by_cases h : m = n <;> simp [h]
  · by_cases h : m = n <;> simp [h]
theorem toList_mk (s : List UInt8) : (ByteArray.mk s.toArray).toList = s := by rw [ByteArray.toList_eq]
theorem mk_inj {s u : List UInt8} : ByteArray.mk s.toArray = ByteArray.mk u.toArray ↔ s = u :=
  ⟨fun h => by have := congrArg ByteArray.toList h; simpa [toList_mk] using this, fun h => by rw [h]⟩
/-- A comparison of two texts. -/
def cmpS : BinOp → List UInt8 → List UInt8 → Option Bool
  | .eql, m, n => some (decide (m = n))
  | .neq, m, n => some (!decide (m = n))
  | .lss, m, n => some (Op.bytesLess m n)
  | .leq, m, n => some (Op.bytesLess m n || decide (m = n))
  | .gtr, m, n => some (!(Op.bytesLess m n || decide (m = n)))
  | .geq, m, n => some (!Op.bytesLess m n)
  | _, _, _ => none
theorem o_cmps {op : BinOp} {m n : List UInt8} {b : Bool} (hx : Env.ev L x = some (.v (.string ⟨m.toArray⟩))) (hy : Env.ev L y = some (.v (.string ⟨n.toArray⟩))) (hb : cmpS op m n = some b) :
    OpP P ⟨dst, .binOp op t x y t', ty, pos, after, g⟩ L ms (.v (.bool b)) := by
  refine .pure (by simp) fun H fr a w _ henv => ⟨.bool b, ?_, conc_v.2 rfl⟩
  cases op <;> simp only [cmpS, Option.some.injEq, reduceCtorEq] at hb <;> subst hb <;> simp [execOp, ev_v henv hx, ev_v henv hy, eqGuard, binOp, Op.stringOp, Sem.run, toList_mk]
  all_goals (by_cases h : m = n <;> simp [h])
theorem o_cat {m n : List UInt8} (hx : Env.ev L x = some (.v (.string ⟨m.toArray⟩))) (hy : Env.ev L y = some (.v (.string ⟨n.toArray⟩))) (hl : m.length + n.length ≤ 9223372036854775807) :
    OpP P ⟨dst, .binOp .add t x y t', ty, pos, after, g⟩ L ms (.v (.string ⟨(m ++ n).toArray⟩)) := by
  refine .pure (by simp) fun H fr a w _ henv => ⟨_, ?_, conc_v.2 rfl⟩
  have e : (ByteArray.mk m.toArray) ++ (ByteArray.mk n.toArray) = ByteArray.mk (m ++ n).toArray := by
    apply ByteArray.ext; simp [ByteArray.data_append]
  simp [execOp, ev_v henv hx, ev_v henv hy, eqGuard, binOp, Op.stringOp, Sem.run, show (ByteArray.mk m.toArray).size = m.length from rfl, show (ByteArray.mk n.toArray).size = n.length from rfl, e]
  omega
theorem eq_bool {m n : Bool} {w : World} (hu : ∀ w, (underlying t).run P w = .ok .bool w) : (Op.equal t (.bool m) (.bool n)).run P w = .ok (m == n) w := by
  unfold Op.equal Op.maxDepth
  rw [show (10000 : Nat) = 9999 + 1 from rfl, Op.equalIn]
  simp [hu, Sem.run]
/-- A comparison of two truths. -/
theorem o_cmpb {m n : Bool} (hu : ∀ w, (underlying t).run P w = .ok .bool w) (hx : Env.ev L x = some (.v (.bool m))) (hy : Env.ev L y = some (.v (.bool n))) :
    OpP P ⟨dst, .binOp .eql t x y t', ty, pos, after, g⟩ L ms (.v (.bool (m == n))) :=
  .pure (by simp) fun H fr a w _ henv => ⟨.bool (m == n), by simp [execOp, ev_v henv hx, ev_v henv hy, eqGuard, binOp, Sem.run, eq_bool hu], conc_v.2 rfl⟩
theorem o_neqb {m n : Bool} (hu : ∀ w, (underlying t).run P w = .ok .bool w) (hx : Env.ev L x = some (.v (.bool m))) (hy : Env.ev L y = some (.v (.bool n))) :
    OpP P ⟨dst, .binOp .neq t x y t', ty, pos, after, g⟩ L ms (.v (.bool (m != n))) :=
  .pure (by simp) fun H fr a w _ henv => ⟨.bool (m != n), by simp [execOp, ev_v henv hx, ev_v henv hy, eqGuard, binOp, Sem.run, eq_bool hu, bne], conc_v.2 rfl⟩
theorem size_mk (m : List UInt8) : (ByteArray.mk m.toArray).size = m.length := rfl
theorem o_not {m : Bool} (hx : Env.ev L x = some (.v (.bool m))) : OpP P ⟨dst, .unOp .not t x, ty, pos, after, g⟩ L ms (.v (.bool (!m))) :=
  .pure (by simp) fun H fr a w _ henv => ⟨.bool (!m), by simp [execOp, ev_v henv hx, Op.unary, Sem.run], conc_v.2 rfl⟩
theorem o_neg {k : IntKind} {m r : Int} (hx : Env.ev L x = some (.v (.int k m))) (hr : k.wrap (0 - m) = r) : OpP P ⟨dst, .unOp .neg t x, ty, pos, after, g⟩ L ms (.v (.int k r)) :=
  .pure (by simp) fun H fr a w _ henv => ⟨.int k r, by simp [execOp, ev_v henv hx, Op.unary, Op.intArith, Sem.run, ← hr], conc_v.2 rfl⟩
theorem o_quo {k : IntKind} {m n r : Int} (hx : Env.ev L x = some (.v (.int k m))) (hy : Env.ev L y = some (.v (.int k n))) (hn : n ≠ 0) (hr : k.wrap (m.tdiv n) = r) :
    OpP P ⟨dst, .binOp .quo t x y t', ty, pos, after, g⟩ L ms (.v (.int k r)) :=
  .pure (by simp) fun H fr a w _ henv => ⟨.int k r, by simp [execOp, ev_v henv hx, ev_v henv hy, eqGuard, binOp, Op.intDiv, Sem.run, hr, hn], conc_v.2 rfl⟩
theorem o_rem {k : IntKind} {m n : Int} (hx : Env.ev L x = some (.v (.int k m))) (hy : Env.ev L y = some (.v (.int k n))) (hn : n ≠ 0) :
    OpP P ⟨dst, .binOp .rem t x y t', ty, pos, after, g⟩ L ms (.v (.int k (m.tmod n))) :=
  .pure (by simp) fun H fr a w _ henv => ⟨.int k (m.tmod n), by simp [execOp, ev_v henv hx, ev_v henv hy, eqGuard, binOp, Op.intDiv, Sem.run, hn], conc_v.2 rfl⟩
/-- From one kind of integers to another. -/
theorem o_conv {k k' : IntKind} {m r : Int} {src tgt : TypeId} {sd : TypeDesc} (hs : ∀ w, (underlying src).run P w = .ok sd w) (ht : ∀ w, (underlying tgt).run P w = .ok (.int k') w) (hx : Env.ev L x = some (.v (.int k m))) (hr : k'.wrap m = r) :
    OpP P ⟨dst, .convert src tgt x, ty, pos, after, g⟩ L ms (.v (.int k' r)) :=
  .pure (by simp) fun H fr a w _ henv => ⟨.int k' r, by simp [execOp, ev_v henv hx, convert, hs, ht, Conv.intToInt, Sem.run, hr], conc_v.2 rfl⟩
theorem o_len_str {m : List UInt8} (hu : ∀ w, (underlying t).run P w = .ok .string w) (hx : Env.ev L x = some (.v (.string ⟨m.toArray⟩))) :
    OpP P ⟨dst, .call ⟨.builtin .len, #[x], #[t]⟩, ty, pos, after, g⟩ L ms (.v (.int .i64 m.length)) :=
  .pure (by simp) fun H fr a w _ henv => ⟨.int .i64 m.length, by simp [execOp, resolve, invoke, builtin, Builtin.len_, ev_v henv hx, hu, Sem.run, goInt, size_mk], conc_v.2 rfl⟩
theorem o_min {k : IntKind} {m n : Int} {ts : Array TypeId} (hx : Env.ev L x = some (.v (.int k m))) (hy : Env.ev L y = some (.v (.int k n))) :
    OpP P ⟨dst, .call ⟨.builtin .min, #[x, y], ts⟩, ty, pos, after, g⟩ L ms (.v (.int k (if n < m then n else m))) :=
  .pure (by simp) fun H fr a w _ henv => ⟨_, by simp [execOp, resolve, invoke, builtin, Builtin.min_, Builtin.min2, ev_v henv hx, ev_v henv hy, Sem.run], conc_v.2 rfl⟩
theorem o_max {k : IntKind} {m n : Int} {ts : Array TypeId} (hx : Env.ev L x = some (.v (.int k m))) (hy : Env.ev L y = some (.v (.int k n))) :
    OpP P ⟨dst, .call ⟨.builtin .max, #[x, y], ts⟩, ty, pos, after, g⟩ L ms (.v (.int k (if n > m then n else m))) :=
  .pure (by simp) fun H fr a w _ henv => ⟨_, by simp [execOp, resolve, invoke, builtin, Builtin.max_, Builtin.max2, ev_v henv hx, ev_v henv hy, Sem.run], conc_v.2 rfl⟩
/-- A byte of a text. -/
theorem o_index {k : IntKind} {m : List UInt8} {n : Int} {c : UInt8} (hu : ∀ w, (underlying t).run P w = .ok .string w) (hx : Env.ev L x = some (.v (.string ⟨m.toArray⟩))) (hy : Env.ev L y = some (.v (.int k n)))
    (h0 : 0 ≤ n) (hc : m[n.toNat]? = some c) : OpP P ⟨dst, .index t x y, ty, pos, after, g⟩ L ms (.v (.int .u8 c.toNat)) := by
  refine .pure (by simp) fun H fr a w _ henv => ⟨.int .u8 c.toNat, ?_, conc_v.2 rfl⟩
  have e : (ByteArray.mk m.toArray)[n.toNat]? = some c := by
    obtain ⟨hlt, hc'⟩ := List.getElem?_eq_some_iff.1 hc
    rw [getElem?_pos (ByteArray.mk m.toArray) n.toNat (by simpa [ByteArray.size] using hlt)]
    exact congrArg some hc'
  simp [execOp, Instr.index, asIntOf, ev_v henv hx, ev_v henv hy, hu, h0, e, Sem.run]
theorem bound_run {n y : Nat} {k : IntKind} {code : BoundsCode} {w : World} (h : n ≤ y) : (Instr.sliceBound (.int k (n : Int)) y code).run P w = .ok n w := by
  have h1 : (0 : Int) ≤ (n : Int) ∧ (n : Int) ≤ (y : Int) := by omega
  simp [Instr.sliceBound, asIntOf, Sem.run, h1]
theorem bounds_run {isS : Bool} {len cap l h : Nat} {lo hi : Option Value} {w : World} (hlo : match lo with | some v => ∃ k, v = .int k (l : Int) | none => l = 0) (hhi : match hi with | some v => ∃ k', v = .int k' (h : Int) | none => h = len)
    (h1 : l ≤ h) (h2 : h ≤ cap) (h3 : len ≤ cap) : (Instr.sliceBounds isS len cap lo hi none).run P w = .ok (l, h, cap) w := by
  cases lo <;> cases hi <;> simp only at hlo hhi <;> (try obtain ⟨k, rfl⟩ := hlo) <;> (try subst hlo) <;> (try obtain ⟨k', rfl⟩ := hhi) <;> (try subst hhi) <;>
    simp [Instr.sliceBounds, Sem.run, bound_run h1, bound_run h2]
/-- An operand that may be lacking: a number. -/
def evN (L : Env) (o : Option Operand) (dflt : Nat) (n : Nat) : Prop := match o with
  | none => n = dflt
  | some x => ∃ k, Env.ev L x = some (.v (.int k (n : Int)))
theorem evN_some {x : Operand} {k : IntKind} {m : Int} {dflt : Nat} (h : Env.ev L x = some (.v (.int k m))) (h0 : 0 ≤ m) : evN L (some x) dflt m.toNat := ⟨k, by rw [Int.toNat_of_nonneg h0]; exact h⟩
theorem evN_match {H : PH} {a : Act} (henv : EnvOk H L a.tmps) {o : Option Operand} {dflt n : Nat} (h : evN L o dflt n) : match o.map a.eval with | some v => ∃ k, v = .int k (n : Int) | none => n = dflt := by
  cases o with
  | none => exact h
  | some x => obtain ⟨k, hk⟩ := h; exact ⟨k, ev_v henv hk⟩
/-- A piece of a text. -/
theorem o_slice_str {m : List UInt8} {lo hi : Option Operand} {l h : Nat} (hu : ∀ w, (underlying t).run P w = .ok .string w) (hx : Env.ev L x = some (.v (.string ⟨m.toArray⟩))) (hl : evN L lo 0 l) (hh : evN L hi m.length h) (h1 : l ≤ h) (h2 : h ≤ m.length) :
    OpP P ⟨dst, .slice t x lo hi none, ty, pos, after, g⟩ L ms (.v (.string ⟨((m.take h).drop l).toArray⟩)) := by
  refine .pure (by simp) fun H fr a w _ henv => ⟨_, ?_, conc_v.2 rfl⟩
  have hb := bounds_run (P := P) (isS := false) (w := w) (evN_match henv hl) (evN_match henv hh) h1 h2 (Nat.le_refl _)
  have e : (ByteArray.mk m.toArray).extract l h = ByteArray.mk ((m.take h).drop l).toArray := by
    apply ByteArray.ext
    simp [ByteArray.data_extract, List.drop_take]
  simp [execOp, Instr.sliceAt, Instr.slice, ev_v henv hx, hu, Sem.run, hb, size_mk, e]
end ops
end Go.V
