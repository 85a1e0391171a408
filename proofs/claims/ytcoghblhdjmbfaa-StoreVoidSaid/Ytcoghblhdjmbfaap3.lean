/- Part 3 of the proof: a program logic, what the functions compute, and what these answer; no condition. -/
import Derived.Test.Ytcoghblhdjmbfaap2
import Derived.Shelf.SlicesE.DeleteFunc
set_option linter.unusedVariables false
set_option linter.unusedSimpArgs false
namespace Go.V
section
variable {Γ : Ctx} {P : Program} {L : Env} {ms : List Asrt} {K : KT} {l : List Oper}
end
section
variable {Γ : Ctx} {P : Program} {L : Env} {ms : List Asrt} {K : KT} {l : List Oper}
end
section
end
section
variable {P : Program} {L : Env} {ms : List Asrt} {dst : Option Nat} {ty : TypeId} {pos : String} {after : Array Edge} {g : Option (Nat × Bool)} {d : D}
theorem o_call_tl {f : FuncId} {args : List Operand} {ats : Array TypeId} {ds : List D} {tl : List Asrt} (own : List Asrt) (hms : ms = own ++ tl) (hc : ∀ args w, (callFunc f args).run P w = .ok (.enter f args) w) (hev : evL L args = some ds) (hf : FnT P f ds tl d) :
  OpP P ⟨dst, .call ⟨.value (.func f), args.toArray, ats⟩, ty, pos, after, g⟩ L ms d := by
 subst hms
 have := o_call (P := P) (L := L) (ms := own ++ tl) (dst := dst) (ty := ty) (pos := pos) (after := after) (g := g) (ats := ats) (ms₁ := tl) (rest := own) hc hev List.perm_append_comm hf
 intro ro H fr a w hok henv next Q hn
 refine this ro H fr a w hok henv next Q ?_;rintro v d' ms' w' H' ⟨ms₁', ⟨rfl, rfl⟩, rfl⟩ hle hok' hc' hs;exact hn v d' _ w' H' ⟨rfl, rfl⟩ hle (hok'.perm (List.perm_append_comm.append_right fr)) hc' hs
end
end Go.V
set_option linter.unusedSectionVars false
namespace Go.V
section
variable {β : Type}
variable {P : Program} {L : Env} {ms : List Asrt} {dst : Option Nat} {ty : TypeId} {pos : String} {after : Array Edge} {g : Option (Nat × Bool)} {x y z : Operand} {t : TypeId}
variable {a : Option Addr} {m cap : Nat} {T e : TypeId} {sz : Nat} {f : β -> D} {ll : List (List β)} {q : List (List β × Option Addr × Nat)}
theorem o_call_own_p {fn : FuncId} {args : List Operand} {ats : Array TypeId} {ds : List D} {As : List Asrt} {d : D} (ks : List Nat) (hc : ∀ args w, (callFunc fn args).run P w = .ok (.enter fn args) w) (hev : evL L args = some ds) (hb : ownB ks [] ms.length = true) (hg : getL ms ks As) (hf : Fn P fn ds As (fun d' ms' => d' = d /\ ms' = As)) :
  OpP P ⟨dst, .call ⟨.value (.func fn), args.toArray, ats⟩, ty, pos, after, g⟩ L ms d := by
 have h := o_call_own (L := L) (dst := dst) (ty := ty) (pos := pos) (after := after) (g := g) (ats := ats) ks hc hev hb hg hf (by rintro _ _ ⟨_, h2⟩; rw [h2]; exact (getL_ok ks As hg).1)
 intro ro H fr act w hok henv next Q hn
 refine h ro H fr act w hok henv next Q ?_;rintro v d' ms' w' H' ⟨ms₁, ⟨rfl, e2⟩, e3⟩ hle hok' hc' hs;rw [e3, e2, putL_same ks As hg] at hok';exact hn v _ _ w' H' ⟨rfl, rfl⟩ hle hok' hc' hs
end
end Go.V
namespace Go.V
structure NodeB (β : Type) where
 kind : Int
 a : Int
 b : Int
 fl : List β
 p : Option Addr
 m : Nat
 c : Nat
def NodeB.d {β : Type} (x : NodeB β) : D := .agg [.i64 x.kind, .i64 x.a, .i64 x.b, .v (.slice x.p x.m x.c)]
section
variable {β : Type}
variable {L : Env} {ms : List Asrt}
end
end Go.V
set_option maxRecDepth 100000
namespace Go.V
structure KeyA (P : Program) (t : TypeId) {α : Type} [DecidableEq α] (fk : α -> Value) : Prop where
 desc : ∃ ds, P.underlying t = some ds /\ ∀ a b, Instr.sameNow ds (fk a) (fk b) = none
 eqr : ∀ w a b, (Op.equal t (fk a) (fk b)).run P w = .ok (decide (a = b)) w
 ck : ∀ e w a, (Instr.checkKey e 10000 t (fk a)).run P w = .ok () w
 sb : ∀ a, Instr.sameBits 10000 (fk a) (fk a) = true
def kTwo (x : Int × Int) : Value := .agg #[.int .i64 x.1, .int .i64 x.2]
theorem keyTwo {P : Program} {t e : TypeId} (h : P.underlying t = some (.array 2 e)) (he : P.underlying e = some (.int .i64)) (hs : ∀ w, (sizeOf e).run P w = .ok 1 w) (ha : ∀ w, (isAgg e).run P w = .ok false w) : KeyA P t kTwo where
 desc := ⟨_, h, fun a b => by simp only [kTwo, Instr.sameNow]⟩
 eqr := fun w a b => by
  obtain ⟨a1, a2⟩ := a;obtain ⟨b1, b2⟩ := b
  show (Op.equalIn (9999 + 1) t _ _).run P w = _
  unfold kTwo;rw [Op.equalIn]
  have hi : ∀ (x y : Int) w, (Op.equalIn 9999 e (.int .i64 x) (.int .i64 y)).run P w = .ok (x == y) w := fun x y w => by
   show (Op.equalIn (9998 + 1) e _ _).run P w = _
   rw [Op.equalIn]
   simp [run_underlying he, Sem.run]
  simp [run_underlying h, Sem.run_bind, hs, part, ha, hi, List.range', Sem.run]
  by_cases h1 : a1 = b1 <;> by_cases h2 : a2 = b2 <;> simp [h1, h2, hi, Sem.run]
 ck := fun e' w a => by
  show (Instr.checkKey e' (9999 + 1) t _).run P w = _
  unfold kTwo;rw [Instr.checkKey]
  have hi : ∀ (x : Int) w, (Instr.checkKey e' 9999 e (.int .i64 x)).run P w = .ok () w := fun x w => by
   show (Instr.checkKey e' (9998 + 1) e _).run P w = _
   rw [Instr.checkKey]
   simp [run_underlying he, Sem.run]
  simp [run_underlying h, Sem.run_bind, hs, part, ha, hi, List.range', Sem.run]
 sb := fun a => by
  show Instr.sameBits (9999 + 1) (Value.agg _) (Value.agg _) = true
  rw [Instr.sameBits]
  simp [Instr.sameBits]
section
variable {α β : Type} [DecidableEq α] {fk : α -> Value} {fv : β -> D} {H : PH}
theorem findA {P : Program} {t : TypeId} (hk : KeyA P t fk) (w : World) (k : α) : ∀ (l : List (α × β)) (es : List MapEntry) (i : Nat), MapOk fk fv H l es ->
  match mget l k with
  | none => (Instr.findAsking t (fk k) es i).run P w = .ok none w /\ ∀ v e, e.key = fk k -> Conc H (fv v) e.val -> MapOk fk fv H (mset l k v) (es ++ [e])
  | some b => ∃ j e, (Instr.findAsking t (fk k) es i).run P w = .ok (some (i + j, e.val)) w /\ es[j]? = some e /\ e.key = fk k /\ Conc H (fv b) e.val /\ ∀ v u, Conc H (fv v) u -> MapOk fk fv H (mset l k v) (es.modify j fun e => { e with key := fk k, val := u })
 | [], [], i, _ => by
  simp only [mget, Instr.findAsking, Sem.run_pure, true_and]
  intro v e h1 h2
  exact ⟨h1, h2, trivial⟩
 | [], _ :: _, i, h => h.elim
 | (a, b) :: l, [], i, h => h.elim
 | (a, b) :: l, e :: es, i, ⟨h1, h2, h3⟩ => by
  simp only [mget]
  have hq := hk.eqr w k a
  by_cases hka : k = a
  ·subst hka
   simp only [if_true];refine ⟨0, e, ?_, rfl, h1, h2, fun v u hu => ?_⟩
   ·simp [Instr.findAsking, Sem.run_bind, h1, hq, Sem.run]
   ·simp only [mset, if_true, List.modify_zero_cons]
    exact ⟨rfl, hu, h3⟩
  ·simp only [hka, if_false]
   have ih := findA hk w k l es (i + 1) h3
   have hf : (Instr.findAsking t (fk k) (e :: es) i).run P w = (Instr.findAsking t (fk k) es (i + 1)).run P w := by
    rw [dF hka] at hq
    simp [Instr.findAsking, Sem.run_bind, h1, hq]
   cases hm : mget l k with
   | none =>
    rw [hm] at ih
    simp only at ih ⊢
    refine ⟨by rw [hf]; exact ih.1, fun v e' q1 q2 => ?_⟩;simp only [mset, hka, if_false, List.cons_append];exact ⟨h1, h2, ih.2 v e' q1 q2⟩
   | some b' =>
    rw [hm] at ih
    simp only at ih ⊢
    obtain ⟨j, e', q1, q2, q3, q4, q5⟩ := ih;refine ⟨j + 1, e', by rw [hf, q1, show i + 1 + j = i + (j + 1) by omega], by simpa using q2, q3, q4, fun v u hu => ?_⟩;simp only [mset, hka, if_false, List.modify_succ_cons];exact ⟨h1, h2, q5 v u hu⟩
theorem findKeyA_run {P : Program} {kt : TypeId} {l : List (α × β)} {es : Array MapEntry} {w : World} (hk : KeyA P kt fk) (k : α) (hm : MapOk fk fv H l es.toList) :
  match mget l k with
  | none => (Instr.findKey kt (fk k) es.toList).run P w = .ok none w /\ ∀ v e, e.key = fk k -> Conc H (fv v) e.val -> MapOk fk fv H (mset l k v) (es.toList ++ [e])
  | some b => ∃ j e, (Instr.findKey kt (fk k) es.toList).run P w = .ok (some (j, e.val)) w /\ es[j]? = some e /\ e.key = fk k /\ Conc H (fv b) e.val /\ ∀ v u, Conc H (fv v) u -> MapOk fk fv H (mset l k v) (es.toList.modify j fun e => { e with key := fk k, val := u }) := by
 obtain ⟨ds, h1, h2⟩ := hk.desc
 have hn : ∀ (l : List (α × β)) (es : List MapEntry), MapOk fk fv H l es -> (Instr.findKey kt (fk k) es).run P w = (Instr.findAsking kt (fk k) es).run P w := by
  intro l es hm
  match l, es, hm with
  | [], [], _ => simp [Instr.findKey, Instr.findNow, Instr.findAsking, Sem.run_bind, run_underlying h1, Sem.run]
  | (a, b) :: l, e :: es, ⟨e1, _, _⟩ => simp [Instr.findKey, Instr.findNow, Sem.run_bind, run_underlying h1, e1, h2, Sem.run]
 have := findA (H := H) hk w k l es.toList 0 hm
 rw [hn l es.toList hm]
 cases hg : mget l k with
 | none => rw [hg] at this; exact this
 | some b =>
  rw [hg] at this
  simp only at this ⊢
  obtain ⟨j, e, q1, q2, q3⟩ := this;rw [Nat.zero_add] at q1;exact ⟨j, e, q1, by simpa using q2, q3⟩
end
section
variable {P : Program} {L : Env} {ms : List Asrt} {dst : Option Nat} {ty : TypeId} {pos : String} {after : Array Edge} {g : Option (Nat × Bool)} {d d' : D} {x y z : Operand} {t t' : TypeId} {α β : Type}
theorem o_build_two {e : TypeId} {x1 x2 : Operand} {a b : Int} (hu : ∀ w, (underlying t).run P w = .ok (.array 2 e) w) (hs : ∀ w, (sizeOf e).run P w = .ok 1 w) (hz : ∀ w, (zeroValue t).run P w = .ok (.agg #[.int .i64 0, .int .i64 0]) w) (h1 : Env.ev L x1 = some (.i64 a)) (h2 : Env.ev L x2 = some (.i64 b)) :
  OpP P ⟨dst, .build t #[(0, x1), (1, x2)], ty, pos, after, g⟩ L ms (.agg [.i64 a, .i64 b]) := by
 refine .pure (by simp) fun H fr act w hok henv => ⟨.agg #[.int .i64 a, .int .i64 b], ?_, conc_agg.2 ⟨_, rfl, ?_⟩⟩
 ·simp [execOp, Instr.build, Instr.fill, hu, hs, hz, Sem.run, Value.cells, ev_v henv h1, ev_v henv h2]
 ·simp only [EncL, Enc]
  exact ⟨_, _, rfl, rfl, _, _, rfl, rfl, rfl⟩
theorem o_indexAddr_abox {b o n : Nat} {e : TypeId} {ik : IntKind} {i : Int} (hu : ∀ w, (underlying t).run P w = .ok (.array n e) w) (hs : ∀ w, (sizeOf e).run P w = .ok 1 w) (hx : Env.ev L x = some (.v (.pointer (some ⟨b, o, none⟩)))) (hy : Env.ev L y = some (.v (.int ik i))) (h0 : 0 <= i) (h1 : i < (n : Int)) :
  OpP P ⟨dst, .indexAddr t x y, ty, pos, after, g⟩ L ms (.v (.pointer (some ⟨b, o + i.toNat, none⟩))) := by
 refine .pure (by simp) fun H fr a w hok henv => ⟨.pointer (some ⟨b, o + i.toNat, none⟩), ?_, conc_v.2 rfl⟩
 simp [execOp, Instr.indexAt, Instr.sureAddr, asIntOf, ev_v henv hx, ev_v henv hy, hu, hs, h0, h1, Sem.run, add_zero', Addr.add]
theorem two_key (p : Int × Int) : ∀ (H : PH) (v : Value), Conc H (.agg [.i64 p.1, .i64 p.2]) v -> v = kTwo p := by
 intro H v h
 obtain ⟨vs, hv, h0⟩ := conc_agg.1 h;subst hv;unfold EncL at h0;obtain ⟨a1, r1, rfl, h1, h2⟩ := h0;unfold EncL at h2;obtain ⟨a2, r2, rfl, h3, h4⟩ := h2;unfold EncL at h4;subst h4;unfold Enc at h1 h3;rw [h1, h3]
 rfl
variable [DecidableEq α]
theorem o_lookupA {kt et : TypeId} {fk : α -> Value} {fv : β -> D} {b : Nat} {l : List (α × β)} {key : α} {dk : D} {z0 : β} {zv : Value} (k : Nat) (hu : ∀ w, (underlying t).run P w = .ok (.map kt et) w) (hk : KeyA P kt fk) (hz : ∀ w, (zeroValue et).run P w = .ok zv w) (hzc : ∀ H, Conc H (fv z0) zv)
  (hx : Env.ev L x = some (.v (.map (some b)))) (hm : ms[k]? = some (mp b fk fv l)) (hkd : ∀ H v, Conc H dk v -> v = fk key) (hy : Env.ev L y = some dk) : OpP P ⟨dst, .lookup t x y false, ty, pos, after, g⟩ L ms (fv ((mget l key).getD z0)) := by
 refine .pure (by simp) fun H fr a w hok henv => ?_;obtain ⟨⟨es, clock, h1, h2, _⟩, _⟩ := hok.ok _ (List.mem_of_getElem? (getElem?_app (r := fr) hm))
 have hf := findKeyA_run (w := w) hk key h2
 have h1' : w.heap[b]? = some (.map es clock) := h1
 have hye : a.eval y = fk key := hkd H _ (henv.ev hy)
 cases hg : mget l key with
 | none =>
  rw [hg] at hf
  simp only at hf
  refine ⟨zv, ?_, hzc H⟩
  simp [execOp, Instr.lookup, ev_v henv hx, hye, hu, getObj, h1', Sem.run_bind, hk.ck, hf.1, hz, Sem.run]
 | some b' =>
  rw [hg] at hf
  simp only at hf
  obtain ⟨j, e, q1, _, _, q4, _⟩ := hf;refine ⟨e.val, ?_, q4⟩
  simp [execOp, Instr.lookup, ev_v henv hx, hye, hu, getObj, h1', Sem.run_bind, hk.ck, q1, hz, Sem.run]
theorem o_mapUpdateA {kt et : TypeId} {fk : α -> Value} {fv : β -> D} {b : Nat} {l : List (α × β)} {key : α} {dk : D} {v : β} (k : Nat) (hu : ∀ w, (underlying t).run P w = .ok (.map kt et) w) (hk : KeyA P kt fk)
  (hx : Env.ev L x = some (.v (.map (some b)))) (hm : ms[k]? = some (mp b fk fv l)) (hkd : ∀ H v, Conc H dk v -> v = fk key) (hy : Env.ev L y = some dk) (hv : Env.ev L z = some (fv v)) : OpT P ⟨dst, .mapUpdate t x y z, ty, pos, after, g⟩ L ms (fun _ ms' => ms' = ms.set k (mp b fk fv (mset l key v))) := by
 refine .skip (by simp) fun H fr a w hok henv => ?_
 have hok1 := hok.perm (perm_fr hm)
 obtain ⟨⟨es, clock, h1, h2, hst⟩, hn⟩ := hok1.ok _ (List.mem_cons_self ..)
 have hf := findKeyA_run (w := w) hk key h2
 have h1' : w.heap[b]? = some (.map es clock) := h1
 have hye : a.eval y = fk key := hkd H _ (henv.ev hy)
 have hlt : b < w.heap.size := hok1.lt _ (List.mem_cons_self ..) b (by simp [mp])
 have hcv := henv.ev hv
 have upd : ∀ (es' : Array MapEntry) (clock' : Nat), MapOk fk fv H (mset l key v) es'.toList -> StOk es'.toList clock' -> HeapOk H (ms.set k (mp b fk fv (mset l key v)) ++ fr) { w with heap := w.heap.setIfInBounds b (.map es' clock') } := by
  intro es' clock' hmo hso
  refine HeapOk.perm (perm_fr' hm) ?_;refine hok1.upd rfl (by simp) ?_ (fun _ _ _ _ => rfl) (PH.le_refl H) ?_ ?_
  ·intro b' _ hn'
   have : b ≠ b' := fun e => hn' (by simp [mp, e])
   simp [Array.getElem?_setIfInBounds_ne this]
  ·intro b' o u hb' hv'
   rcases hb' with hb' | hb'
   ·simp [mp] at hb'; subst hb'; rw [hn] at hv'; cases hv'
   ·rw [hok1.none_new _ _ hb'] at hv'; cases hv'
  ·exact ⟨⟨es', clock', by simp [hlt], hmo, hso⟩, hn⟩
 cases hg : mget l key with
 | none =>
  rw [hg] at hf
  simp only at hf
  refine ⟨_, { w with heap := w.heap.setIfInBounds b (.map (es.push { key := fk key, val := a.eval z, born := clock }) (clock + 1)) }, H, ?_, rfl, PH.le_refl H, upd _ _ ?_ ?_, ⟨rfl, rfl, rfl, by simp⟩⟩
  ·simp [execOp, Instr.mapUpdate, ev_v henv hx, hye, hu, getObj, setObj, h1', Sem.run_bind, hk.ck, hf.1, Sem.run]
  ·rw [Array.toList_push]; exact hf.2 v _ rfl hcv
  ·rw [Array.toList_push]
   refine ⟨?_, fun e he => ?_⟩
   ·rw [List.map_append, List.nodup_append]
    refine ⟨hst.1, by simp, fun x hx y hy e => ?_⟩;obtain ⟨e0, h0, rfl⟩ := List.mem_map.1 hx
    simp at hy
    have := hst.2 e0 h0
    omega
   ·rcases List.mem_append.1 he with he | he
    ·have := hst.2 e he; omega
    ·simp at he; subst he; simp
 | some b' =>
  rw [hg] at hf
  simp only at hf
  obtain ⟨j, e, q1, q2, q3, _, q5⟩ := hf;refine ⟨_, { w with heap := w.heap.setIfInBounds b (.map (es.modify j fun e => { e with key := fk key, val := a.eval z }) clock) }, H, ?_, rfl, PH.le_refl H, upd _ _ ?_ ?_, ⟨rfl, rfl, rfl, by simp⟩⟩
  ·simp [execOp, Instr.mapUpdate, ev_v henv hx, hye, hu, getObj, setObj, h1', Sem.run_bind, hk.ck, q1, q2, q3, Instr.keyThatStays, hk.sb, Sem.run]
  ·rw [Array.toList_modify]; exact q5 v _ hcv
  ·rw [Array.toList_modify]
   have hb : ∀ (l : List MapEntry) (j : Nat), (l.modify j fun e => { e with key := fk key, val := a.eval z }).map (·.born) = l.map (·.born) := by
    intro l
    induction l with
    | nil => intro j; cases j <;> rfl
    | cons e l ih =>
     intro j
     cases j with
     | zero => rfl
     | succ j => simp only [List.modify_succ_cons, List.map_cons, ih]
   refine ⟨by rw [hb]; exact hst.1, fun e he => ?_⟩
   have hm : e.born ∈ ((es.toList.modify j fun e => { e with key := fk key, val := a.eval z }).map (·.born)) := List.mem_map.2 ⟨e, he, rfl⟩
   rw [hb] at hm;obtain ⟨e0, h0, h1⟩ := List.mem_map.1 hm
   have := hst.2 e0 h0
   omega
end
end Go.V
namespace Go.V
theorem KeyA.comap {P : Program} {t : TypeId} {α β : Type} [DecidableEq α] [DecidableEq β] {fk : α -> Value} (h : KeyA P t fk) (g : β -> α) (hg : ∀ x y, g x = g y -> x = y) : KeyA P t (fun x => fk (g x)) where
 desc := by
  obtain ⟨ds, h1, h2⟩ := h.desc;exact ⟨ds, h1, fun a b => h2 _ _⟩
 eqr := fun w a b => by
  show (Op.equal t (fk (g a)) (fk (g b))).run P w = _
  rw [h.eqr]
  congr 1
  exact decide_eq_decide.2 ⟨hg a b, fun e => by rw [e]⟩
 ck := fun e w a => h.ck e w (g a)
 sb := fun a => h.sb (g a)
def nzD (sz : Nat) {α : Type} (f : α -> D) (l : List α) : D := match l with
 | [] => .v (.slice none 0 0)
 | x :: r => .list sz f (x :: r)
theorem nz_list {H : PH} {sz : Nat} {α : Type} {f : α -> D} {l : List α} {v : Value} (h : Conc H (nzD sz f l) v) : Conc H (.list sz f l) v := by
 cases l with
 | nil =>
  have h : v = .slice none 0 0 := conc_v.1 h
  subst h;rw [conc_enc (by rfl)];simp only [Enc];exact ⟨none, 0, rfl, Nat.le_refl _, Nat.zero_le _, .inl trivial⟩
 | cons x r => exact h
theorem app_len0 {n k : Nat} (h : n * k <= 140737488355328) (hk : Nat.ble 1 k = true) : n <= maxLen := app_len h hk
section
variable {P : Program} {L : Env} {ms : List Asrt} {dst : Option Nat} {ty : TypeId} {pos : String} {after : Array Edge} {g : Option (Nat × Bool)} {d d' : D} {x y : Operand} {t t' : TypeId}
theorem o_len_nz {α : Type} {sz : Nat} {f : α -> D} {l : List α} {e : TypeId} (hu : ∀ w, (underlying t).run P w = .ok (.slice e) w) (hx : Env.ev L x = some (nzD sz f l)) :
  OpP P ⟨dst, .call ⟨.builtin .len, #[x], #[t]⟩, ty, pos, after, g⟩ L ms (.v (.int .i64 l.length)) := by
 refine .pure (by simp) fun H fr a w _ henv => ?_;obtain ⟨a', cap, hv, _⟩ := enc_list (nz_list (henv.ev hx));exact ⟨.int .i64 l.length, by simp [execOp, resolve, invoke, builtin, Builtin.len_, hv, hu, Sem.run, goInt], conc_v.2 rfl⟩
theorem o_indexAddr_nz {α : Type} {sz : Nat} {f : α -> D} {l : List α} {e : TypeId} {k : IntKind} {n : Int} {z : α} (hu : ∀ w, (underlying t).run P w = .ok (.slice e) w) (hs : ∀ w, (sizeOf e).run P w = .ok sz w) (hx : Env.ev L x = some (nzD sz f l))
  (hy : Env.ev L y = some (.v (.int k n))) (h : idx l n = some z) : OpP P ⟨dst, .indexAddr t x y, ty, pos, after, g⟩ L ms (.ref (f z)) := by
 refine .pure (by simp) fun H fr a w _ henv => ?_;obtain ⟨h0, hz⟩ := idx_some h;obtain ⟨a', cap, hv, h1, h2, h3⟩ := enc_list (nz_list (henv.ev hx));obtain ⟨hlt, _⟩ := List.getElem?_eq_some_iff.1 hz
 rcases h3 with h3 | ⟨b, off, ha, hel⟩
 ·subst h3; simp at hlt
 ·obtain ⟨us, e1, e2, e3⟩ := hel _ _ hz
  refine ⟨.pointer (some ⟨b, off + n.toNat * sz, none⟩), ?_, ?_⟩
  ·have hb : 0 <= n /\ n < (l.length : Int) := by omega
   simp [execOp, Instr.indexAt, asIntOf, hv, ha, ev_v henv hy, hu, hs, hb, Sem.run, add_zero']
  ·rw [conc_enc (by rfl)]
   simp only [Enc];exact ⟨b, _, us, rfl, e1, e3⟩
theorem o_append_nz {e : TypeId} {sz : Nat} {α : Type} {f : α -> D} {xs zs : List α} {i : TypeInfo} {z : Value} (ht : P.underlying t = some (.slice e)) (hi : P.info? e = some i) (hz : i.zero = some z) (hsz : i.size = sz) (hzs : z.cells.size = sz)
  (hx : Env.ev L x = some (nzD sz f xs)) (h0 : xs = []) (hy : Env.ev L y = some (.list sz f zs)) (hfl : ∀ x, flat (f x).cs = true) (hst : ∀ x, storableL (f x).cs = true)
  (hb : zs.length * i.bytes <= 140737488355328) (h63 : zs.length <= maxLen) :
  OpT P ⟨dst, .call ⟨.builtin .append, #[x, y], #[t, t]⟩, ty, pos, after, g⟩ L ms (fun d' ms' => ∃ a' cap', d' = .v (.slice a' zs.length cap') /\ ms' = row a' cap' e sz f zs :: ms) := by
 subst h0;refine OpT.conv (refines_newrow (T := e) (sz := sz) (f := f)) (OpT.mono (o_append (xs := []) (zs := zs) 0 ht hi hz hsz hzs hx rfl rfl hy hfl hst (by simpa using hb) (by simpa using h63)) ?_);rintro d ms' ⟨a', cap', rfl, rfl⟩;exact ⟨a', cap', rfl, rfl⟩
end
end Go.V
