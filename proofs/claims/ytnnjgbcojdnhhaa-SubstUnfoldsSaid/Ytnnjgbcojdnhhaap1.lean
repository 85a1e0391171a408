/- Part 1 of the proof: a program logic, what the functions compute, and what these answer; no condition. -/
import Derived.WalkKit
import Derived.RangeFuncLeaves
import Derived.Laws.CopyRow
import Derived.OrdersIn
import Derived.Laws.AppendOwn
import Derived.RangeFuncRecord
import Derived.RangeFuncIn
import Derived.RangeFuncNested
import Derived.Laws.StructEq
import Derived.OpenShut
import Derived.ChangeMaps5
import Derived.ChangeSame
import Derived.WideShapes
import Derived.WideKeyArgs
import Derived.ProofKit
import Derived.Lib.AppendStr
import Derived.Lib.UnsafeStr
import Derived.Lib.Builder
import Derived.Laws.Externs
import Derived.LaidEql
import Derived.Laws.BytesString
import Derived.SizedLaws
import Derived.Laws.MakeOwn
import Derived.Lib.AppendZeros
set_option linter.unusedVariables false
set_option linter.unusedSimpArgs false
namespace Go.V
abbrev PH := Nat → Nat → Option Value
def PH.le (H H' : PH) : Prop := ∀ b o v, H b o = some v → H' b o = some v
theorem PH.le_refl (H : PH) : PH.le H H := fun _ _ _ h => h
theorem PH.le_trans {A B C : PH} (h : PH.le A B) (k : PH.le B C) : PH.le A C := fun b o v x => k b o v (h b o v x)
inductive D : Type 1
  | v (x : Value)
  | list {α : Type} (sz : Nat) (f : α → D) (l : List α)
  | agg (cs : List D)
  | ref (x : D)
  | tup (ds : List D)
  | clo (fn : Fn) (first caps : List D)
instance : Inhabited D := ⟨.v undef⟩
def D.isAgg : D → Bool
  | .agg _ => true
  | _ => false
def D.val (d : D) (vs : List Value) (u : Value) : Prop := match d with | .agg _ => u = .agg vs.toArray | _ => vs = [u]
@[reducible] def D.i64 (n : Int) : D := .v (.int .i64 n)
@[reducible] def D.u8 (n : UInt8) : D := .v (.int .u8 n.toNat)
@[reducible] def D.bool (b : Bool) : D := .v (.bool b)
@[reducible] def D.str (s : List UInt8) : D := .v (.string ⟨s.toArray⟩)
mutual
def Enc (H : PH) : D → List Value → Prop
  | .v x, vs => vs = [x]
  | .list sz f l, vs => ∃ a cap, vs = [.slice a l.length cap] ∧ l.length ≤ cap ∧ cap ≤ maxLen ∧
      (l = [] ∨ ∃ b off, a = some ⟨b, off, none⟩ ∧ ∀ i x, l[i]? = some x → ∃ us, Enc H (f x) us ∧ us.length = sz ∧ ∀ k u, us[k]? = some u → H b (off + i * sz + k) = some u)
  | .agg cs, vs => EncL H cs vs
  | .ref x, vs => ∃ b off us, vs = [.pointer (some ⟨b, off, none⟩)] ∧ Enc H x us ∧ ∀ k u, us[k]? = some u → H b (off + k) = some u
  | .tup ds, vs => ∃ us, vs = [.tuple us.toArray] ∧ ConcL H ds us
  | .clo fn fs cs, vs => ∃ us ws, vs = [.func fn us.toArray ws.toArray] ∧ ConcL H fs us ∧ ConcL H cs ws
def EncL (H : PH) : List D → List Value → Prop
  | [], vs => vs = []
  | c :: cs, vs => ∃ a r, vs = a ++ r ∧ Enc H c a ∧ EncL H cs r
def ConcL (H : PH) : List D → List Value → Prop
  | [], us => us = []
  | d :: ds, us => ∃ u r, us = u :: r ∧ (∃ vs, Enc H d vs ∧ d.val vs u) ∧ ConcL H ds r
end
/-- A value stands for a datum. -/
def Conc (H : PH) (d : D) (u : Value) : Prop := ∃ vs, Enc H d vs ∧ d.val vs u
mutual
theorem Enc.mono {H H' : PH} (h : PH.le H H') : ∀ (d : D) (vs : List Value), Enc H d vs → Enc H' d vs
  | .v x, vs, e => by simpa [Enc] using e
  | .list sz f l, vs, e => by
    simp only [Enc] at e ⊢
    obtain ⟨a, cap, hv, h1, h2, h3⟩ := e
    refine ⟨a, cap, hv, h1, h2, ?_⟩
    rcases h3 with h3 | ⟨b, off, ha, hx⟩
    · exact .inl h3
    · refine .inr ⟨b, off, ha, fun i x hi => ?_⟩
      obtain ⟨us, e1, e2, e3⟩ := hx i x hi
      exact ⟨us, Enc.mono h (f x) us e1, e2, fun k u hk => h _ _ _ (e3 k u hk)⟩
  | .agg cs, vs, e => by simp only [Enc] at e ⊢; exact EncL.mono h cs vs e
  | .ref x, vs, e => by
    simp only [Enc] at e ⊢
    obtain ⟨b, off, us, hv, e1, e2⟩ := e
    exact ⟨b, off, us, hv, Enc.mono h x us e1, fun k u hk => h _ _ _ (e2 k u hk)⟩
  | .tup ds, vs, e => by
    simp only [Enc] at e ⊢
    obtain ⟨us, hv, e1⟩ := e
    exact ⟨us, hv, ConcL.mono h ds us e1⟩
  | .clo fn fs cs, vs, e => by
    simp only [Enc] at e ⊢
    obtain ⟨us, ws, hv, e1, e2⟩ := e
    exact ⟨us, ws, hv, ConcL.mono h fs us e1, ConcL.mono h cs ws e2⟩
theorem EncL.mono {H H' : PH} (h : PH.le H H') : ∀ (cs : List D) (vs : List Value), EncL H cs vs → EncL H' cs vs
  | [], vs, e => by simpa [EncL] using e
  | c :: cs, vs, e => by
    simp only [EncL] at e ⊢
    obtain ⟨a, r, hv, e1, e2⟩ := e
    exact ⟨a, r, hv, Enc.mono h c a e1, EncL.mono h cs r e2⟩
theorem ConcL.mono {H H' : PH} (h : PH.le H H') : ∀ (ds : List D) (us : List Value), ConcL H ds us → ConcL H' ds us
  | [], vs, e => by simpa [ConcL] using e
  | d :: ds, us, e => by
    simp only [ConcL] at e ⊢
    obtain ⟨u, r, hv, ⟨vs, e1, e2⟩, e3⟩ := e
    exact ⟨u, r, hv, ⟨vs, Enc.mono h d vs e1, e2⟩, ConcL.mono h ds r e3⟩
end
theorem Conc.mono {H H' : PH} (h : PH.le H H') {d : D} {u : Value} (e : Conc H d u) : Conc H' d u :=
  let ⟨vs, a, b⟩ := e; ⟨vs, Enc.mono h d vs a, b⟩
mutual
def D.width : D → Nat
  | .agg cs => widthL cs
  | .v _ | .list .. | .ref _ | .tup _ | .clo .. => 1
def widthL : List D → Nat
  | [] => 0
  | c :: cs => c.width + widthL cs
end
mutual
theorem Enc.width {H : PH} : ∀ (d : D) (vs : List Value), Enc H d vs → vs.length = d.width
  | .v x, vs, e => by simp only [Enc] at e; subst e; rfl
  | .list sz f l, vs, e => by simp only [Enc] at e; obtain ⟨a, cap, hv, _⟩ := e; subst hv; rfl
  | .agg cs, vs, e => by simp only [Enc] at e; simpa [D.width] using EncL.width cs vs e
  | .ref x, vs, e => by simp only [Enc] at e; obtain ⟨b, off, us, hv, _⟩ := e; subst hv; rfl
  | .tup ds, vs, e => by simp only [Enc] at e; obtain ⟨us, hv, _⟩ := e; subst hv; rfl
  | .clo fn fs cs, vs, e => by simp only [Enc] at e; obtain ⟨us, ws, hv, _⟩ := e; subst hv; rfl
theorem EncL.width {H : PH} : ∀ (cs : List D) (vs : List Value), EncL H cs vs → vs.length = widthL cs
  | [], vs, e => by simp only [EncL] at e; subst e; rfl
  | c :: cs, vs, e => by
    simp only [EncL] at e
    obtain ⟨a, r, hv, e1, e2⟩ := e
    subst hv
    simp [widthL, Enc.width c a e1, EncL.width cs r e2]
end
theorem ConcL.length {H : PH} : ∀ (ds : List D) (us : List Value), ConcL H ds us → us.length = ds.length
  | [], us, e => by simp only [ConcL] at e; subst e; rfl
  | d :: ds, us, e => by
    simp only [ConcL] at e
    obtain ⟨u, r, hv, _, e3⟩ := e
    subst hv
    simp [ConcL.length ds r e3]
theorem conc_v {H : PH} {x u : Value} : Conc H (.v x) u ↔ u = x := by
  constructor
  · rintro ⟨vs, e, hv⟩; simp only [Enc] at e; subst e; simpa [D.val] using hv.symm
  · rintro rfl; exact ⟨[u], by simp [Enc], by simp [D.val]⟩
theorem conc_enc {H : PH} {d : D} {u : Value} (h : d.isAgg = false) : Conc H d u ↔ Enc H d [u] := by
  constructor
  · rintro ⟨vs, e, hv⟩
    cases d <;> simp_all [D.isAgg, D.val]
  · intro e
    exact ⟨[u], e, by cases d <;> simp_all [D.isAgg, D.val]⟩
theorem conc_agg {H : PH} {cs : List D} {u : Value} : Conc H (.agg cs) u ↔ ∃ vs, u = .agg vs.toArray ∧ EncL H cs vs := by
  constructor
  · rintro ⟨vs, e, hv⟩; simp only [Enc] at e; exact ⟨vs, hv, e⟩
  · rintro ⟨vs, rfl, e⟩; exact ⟨vs, by simpa [Enc] using e, rfl⟩
theorem Enc.cells {H : PH} {d : D} {u : Value} (h : Conc H d u) : d.isAgg = true ∨ Enc H d [u] := by
  by_cases h' : d.isAgg = true
  · exact .inl h'
  · exact .inr ((conc_enc (by simpa using h')).1 h)
structure Asrt where
  blocks : List Nat
  ok : PH → (Nat → Option Obj) → Prop
  stable : ∀ H H' h h', (∀ b, b ∈ blocks → (∀ o, H' b o = H b o) ∧ h' b = h b) → PH.le H H' → ok H h → ok H' h'
structure HeapOk (H : PH) (as : List Asrt) (w : World) : Prop where
  sub : ∀ b o v, H b o = some v → w.cell? ⟨b, o, none⟩ = some v
  nodup : (as.flatMap (·.blocks)).Nodup
  lt : ∀ A ∈ as, ∀ b ∈ A.blocks, b < w.heap.size
  ok : ∀ A ∈ as, A.ok H (fun b => w.heap[b]?)
structure SameOut (w w' : World) : Prop where
  os : w'.os = w.os
  output : w'.output = w.output
  tape : w'.tape = w.tape
  size : w.heap.size ≤ w'.heap.size
theorem SameOut.refl (w : World) : SameOut w w := ⟨rfl, rfl, rfl, Nat.le_refl _⟩
theorem SameOut.trans {a b c : World} (h : SameOut a b) (k : SameOut b c) : SameOut a c :=
  ⟨k.os.trans h.os, k.output.trans h.output, k.tape.trans h.tape, Nat.le_trans h.size k.size⟩
theorem HeapOk.perm {H : PH} {as bs : List Asrt} {w : World} (p : as.Perm bs) (h : HeapOk H as w) : HeapOk H bs w :=
  ⟨h.sub, (List.Perm.nodup_iff (p.flatMap_right _)).1 h.nodup, fun A hA => h.lt A (p.mem_iff.2 hA), fun A hA => h.ok A (p.mem_iff.2 hA)⟩
theorem HeapOk.drop {H : PH} {as bs : List Asrt} {w : World} (h : HeapOk H (as ++ bs) w) : HeapOk H bs w :=
  ⟨h.sub, by have := h.nodup; rw [List.flatMap_append] at this; exact (List.nodup_append.1 this).2.1,
   fun A hA => h.lt A (by simp [hA]), fun A hA => h.ok A (by simp [hA])⟩
theorem HeapOk.drew {H : PH} {as : List Asrt} {w : World} (h : HeapOk H as w) (n : Nat) : HeapOk H as { w with drawn := n } := ⟨h.sub, h.nodup, h.lt, h.ok⟩
abbrev Env := List (Nat × D)
def Env.find : Env → Nat → Option D
  | [], _ => none
  | (i, d) :: L, t => match Nat.beq i t with | true => some d | false => Env.find L t
def Env.ev (L : Env) : Operand → Option D
  | .tmp t => Env.find L t
  | .const x => some (.v x)
  | .global g => some (.v (.pointer (some ⟨g, 0, none⟩)))
  | .func f => some (.v (.func (.func f) #[] #[]))
def EnvOk (H : PH) (L : Env) (tmps : Array Value) : Prop := ∀ t d, Env.find L t = some d → Conc H d (tmps.getD t undef)
theorem EnvOk.mono {H H' : PH} (h : PH.le H H') {L : Env} {tmps : Array Value} (e : EnvOk H L tmps) : EnvOk H' L tmps := fun t d k => (e t d k).mono h
theorem EnvOk.put {H : PH} {L : Env} {tmps : Array Value} {i : Nat} {d : D} {v : Value} (e : EnvOk H L tmps) (hi : i < tmps.size) (hd : Conc H d v) : EnvOk H ((i, d) :: L) (tmps.setIfInBounds i v) := by
  intro t d' h
  simp only [Env.find] at h
  cases hb : Nat.beq i t with
  | true =>
    rw [hb] at h
    have : i = t := Nat.eq_of_beq_eq_true hb
    subst this
    simp only [Option.some.injEq] at h
    subst h
    simpa [Array.getD, hi] using hd
  | false =>
    rw [hb] at h
    have hne : i ≠ t := Nat.ne_of_beq_eq_false hb
    have := e t d' h
    have e2 : (tmps.setIfInBounds i v).getD t undef = tmps.getD t undef := by
      simp [Array.getD_eq_getD_getElem?, Array.getElem?_setIfInBounds, hne]
    rw [e2]
    exact this
theorem EnvOk.ev {H : PH} {L : Env} {a : Act} (e : EnvOk H L a.tmps) {x : Operand} {d : D} (h : Env.ev L x = some d) : Conc H d (a.eval x) := by
  cases x with
  | tmp t => exact e t d h
  | const v => simp only [Env.ev, Option.some.injEq] at h; subst h; exact conc_v.2 rfl
  | global g => simp only [Env.ev, Option.some.injEq] at h; subst h; exact conc_v.2 rfl
  | func f => simp only [Env.ev, Option.some.injEq] at h; subst h; exact conc_v.2 rfl
/-- Which fence: whether the code runs in a round of a range over a function. -/
def FR (ro : Option Nat) : Fence := { Fence.wide with round := ro }
@[simp] theorem FR_fn (ro : Option Nat) (f : Nat) : (FR ro).fn f = True := rfl
@[simp] theorem FR_depth (ro : Option Nat) : (FR ro).depth = none := rfl
@[simp] theorem FR_round (ro : Option Nat) : (FR ro).round = ro := rfl
/-- The mark of a range over a function among a frame's deferred calls. -/
def markD (r : Nat) : Deferred := { target := .collected r, args := #[] }
def markA (r : Nat) : Asrt where
  blocks := [r]
  ok := fun _ h => h r = some (.deferred (some []))
  stable := fun H H' h h' e _ o => by rw [(e r (by simp)).2]; exact o
structure Ctx where
  H0 : PH
  fr : List Asrt
  N : Nat
  round : Option Nat
  w0 : World
  hround : ∀ l, round = some l → ∃ A ∈ fr, ∀ H h, A.ok H h → ∃ r, h l = some (.loop r)
/-- A frame and a world are as (L, ms) tells. -/
structure Models (Γ : Ctx) (L : Env) (ms : List Asrt) (a : Act) (w : World) : Prop where

  ex : ∃ (H : PH) (marks : List Nat), PH.le Γ.H0 H ∧ HeapOk H (ms ++ (marks.map markA ++ Γ.fr)) w ∧ EnvOk H L a.tmps ∧ a.defers = marks.map markD
  size : a.tmps.size = Γ.N
  same : SameOut Γ.w0 w
abbrev KT := Exit → Env → List Asrt → Prop
def Post (Γ : Ctx) (K : KT) : Exit → Act → World → Prop := fun e a w => ∃ L ms, K e L ms ∧ Models Γ L ms a w
/-- The code, begun at (L, ms), ends in K. -/
def G (Γ : Ctx) (P : Program) (c : Code) (L : Env) (ms : List Asrt) (K : KT) : Prop :=
  ∀ a w, Models Γ L ms a w → c.wpIn (FR Γ.round) 0 P (Post Γ K) a w
/-- The operations that are left, in order. -/
def GO (Γ : Ctx) (P : Program) (ops : Array Oper) (l : List Oper) (L : Env) (ms : List Asrt) (K : KT) : Prop :=
  ∀ a w, Models Γ L ms a w → wpListIn (FR Γ.round) 0 P ops (Post Γ K) l a w
def KT.then (next : Env → List Asrt → Prop) (K : KT) : KT
  | .normal, L, ms => next L ms
  | e, L, ms => K e L ms
def KT.block (id : Nat) (K : KT) : KT
  | .exit id', L, ms => if id' = id then K .normal L ms else K (.exit id') L ms
  | e, L, ms => K e L ms
section rules
variable {Γ : Ctx} {P : Program} {L : Env} {ms : List Asrt} {K : KT}
theorem g_mono {c : Code} {K' : KT} (h : G Γ P c L ms K) (hk : ∀ e L ms, K e L ms → K' e L ms) : G Γ P c L ms K' :=
  fun a w m => wpIn_mono (h a w m) fun e a w ⟨L, ms, k, m⟩ => ⟨L, ms, hk _ _ _ k, m⟩
theorem g_skip (h : K .normal L ms) : G Γ P .skip L ms K := fun a w m => wpIn_skip ⟨L, ms, h, m⟩
theorem g_exit {id : Nat} (h : K (.exit id) L ms) : G Γ P (.exit id) L ms K := fun a w m => wpIn_exit ⟨L, ms, h, m⟩
theorem g_ret (h : K .ret L ms) : G Γ P .ret L ms K := fun a w m => wpIn_ret ⟨L, ms, h, m⟩
theorem g_seq {x y : Code} (h : G Γ P x L ms (KT.then (fun L ms => G Γ P y L ms K) K)) : G Γ P (.seq x y) L ms K := by
  intro a w m
  refine wpIn_seq (wpIn_mono (h a w m) ?_)
  rintro e a' w' ⟨L', ms', k, m'⟩
  cases e with
  | normal => exact k a' w' m'
  | _ => exact ⟨L', ms', k, m'⟩
theorem g_block {id : Nat} {c : Code} (h : G Γ P c L ms (KT.block id K)) : G Γ P (.block id c) L ms K := by
  intro a w m
  refine wpIn_block (wpIn_mono (h a w m) ?_)
  rintro e a' w' ⟨L', ms', k, m'⟩
  cases e with
  | exit id' =>
    simp only [KT.block] at k
    simp only [Exit.inBlock]
    by_cases hid : id' = id
    · rw [if_pos hid] at k ⊢; exact ⟨L', ms', k, m'⟩
    · rw [if_neg hid] at k ⊢; exact ⟨L', ms', k, m'⟩
  | _ => exact ⟨L', ms', k, m'⟩
theorem Models.conc {Γ : Ctx} {L : Env} {ms : List Asrt} {a : Act} {w : World} (m : Models Γ L ms a w) {x : Operand} {v : Value} (h : Env.ev L x = some (.v v)) : a.eval x = v := by
  obtain ⟨H, marks, _, _, e, _⟩ := m.ex
  exact conc_v.1 (e.ev h)
theorem g_cond {c : Operand} {x y : Code} {b : Bool} (hc : Env.ev L c = some (.v (.bool b))) (ht : b = true → G Γ P x L ms K) (hf : b = false → G Γ P y L ms K) :
    G Γ P (.cond c x y) L ms K :=
  fun a w m => wpIn_cond_split (m.conc hc) (fun h => ht h a w m) (fun h => hf h a w m)
/-- What is known is forgotten in part. -/
def Refines (L : Env) (ms : List Asrt) (L' : Env) (ms' : List Asrt) : Prop := ∀ Γ a w, Models Γ L ms a w → Models Γ L' ms' a w
theorem g_conv {c : Code} {L' : Env} {ms' : List Asrt} (r : Refines L ms L' ms') (h : G Γ P c L' ms' K) : G Γ P c L ms K := fun a w m => h a w (r Γ a w m)
theorem go_conv {ops : Array Oper} {l : List Oper} {L' : Env} {ms' : List Asrt} (r : Refines L ms L' ms') (h : GO Γ P ops l L' ms' K) : GO Γ P ops l L ms K := fun a w m => h a w (r Γ a w m)
end rules
end Go.V
set_option linter.unusedVariables false
set_option linter.unusedSimpArgs false
namespace Go.V
/-- An operation, carried out where (L, ms) holds, yields a value that stands for d and leaves ms', with R d ms'. -/
def OpT (P : Program) (o : Oper) (L : Env) (ms : List Asrt) (R : D → List Asrt → Prop) : Prop :=
  ∀ (ro : Option Nat) (H : PH) (fr : List Asrt) (a : Act) (w : World), HeapOk H (ms ++ fr) w → EnvOk H L a.tmps →
    ∀ (next : Act → World → Prop) (Q : Exit → Act → World → Prop),
      (∀ v d ms' w' H', R d ms' → PH.le H H' → HeapOk H' (ms' ++ fr) w' → Conc H' d v → SameOut w w' → next (a.put o.dst v) w') →
      o.wpIn (FR ro) 0 P a w next Q
/-- It changes nothing that is owned; its value is d. -/
def OpP (P : Program) (o : Oper) (L : Env) (ms : List Asrt) (d : D) : Prop := OpT P o L ms (fun d' ms' => d' = d ∧ ms' = ms)
section
variable {Γ : Ctx} {P : Program} {ops : Array Oper} {o : Oper} {rest : List Oper} {L : Env} {ms : List Asrt} {K : KT} {R : D → List Asrt → Prop} {i : Nat} {d : D}
theorem Models.next {a : Act} {w w' : World} {H' : PH} {marks : List Nat} {ms' : List Asrt} {v : Value} (m : Models Γ L ms a w) (hle : PH.le Γ.H0 H') (hok : HeapOk H' (ms' ++ (marks.map markA ++ Γ.fr)) w')
    (henv : EnvOk H' L a.tmps) (hdf : a.defers = marks.map markD) (hi : Nat.blt i Γ.N = true) (hc : Conc H' d v) (hs : SameOut w w') : Models Γ ((i, d) :: L) ms' (a.put (some i) v) w' :=
  ⟨⟨H', marks, hle, hok, henv.put (by rw [m.size]; exact Nat.le_of_ble_eq_true hi) hc, hdf⟩, by simp [Act.put, m.size], m.same.trans hs⟩
theorem go_nil (h : K .normal L ms) : GO Γ P ops [] L ms K := fun a w m => wpListIn_nil ⟨L, ms, h, m⟩
theorem g_region {id : Nat} {l : List Oper} (h : GO Γ P l.toArray l L ms K) : G Γ P (.region id l.toArray false) L ms K :=
  fun a w m => wpIn_region_lit (h a w m)
theorem go_run (hd : o.dst = some i) (hi : Nat.blt i Γ.N = true) (h : OpT P o L ms R) (k : ∀ d ms', R d ms' → GO Γ P ops rest ((i, d) :: L) ms' K) {a : Act} {w : World} (m : Models Γ L ms a w) :
    o.wpIn (FR Γ.round) 0 P a w (wpListIn (FR Γ.round) 0 P ops (Post Γ K) rest) (Post Γ K) := by
  obtain ⟨H, marks, hle, hok, henv, hdf⟩ := m.ex
  refine h Γ.round H (marks.map markA ++ Γ.fr) a w hok henv _ _ ?_
  intro v d ms' w' H' hR hl hok' hc hs
  rw [hd]
  exact k d ms' hR _ _ (m.next (PH.le_trans hle hl) hok' (henv.mono hl) hdf hi hc hs)
theorem go_op (hg : o.guard = none) (hd : o.dst = some i) (hi : Nat.blt i Γ.N = true) (h : OpT P o L ms R) (k : ∀ d ms', R d ms' → GO Γ P ops rest ((i, d) :: L) ms' K) :
    GO Γ P ops (o :: rest) L ms K := by
  intro a w m
  simp only [wpListIn, Region.wanted, hg, if_true]
  exact go_run hd hi h k m
/-- An operation whose value is known. -/
theorem go_p (hg : o.guard = none) (hd : o.dst = some i) (hi : Nat.blt i Γ.N = true) (h : OpP P o L ms d) (k : GO Γ P ops rest ((i, d) :: L) ms K) : GO Γ P ops (o :: rest) L ms K :=
  go_op hg hd hi h (by rintro _ _ ⟨rfl, rfl⟩; exact k)
/-- An operation that yields nothing. -/
theorem go_u (hg : o.guard = none) (hd : o.dst = none) (h : OpT P o L ms R) (k : ∀ d ms', R d ms' → GO Γ P ops rest L ms' K) :
    GO Γ P ops (o :: rest) L ms K := by
  intro a w m
  simp only [wpListIn, Region.wanted, hg, if_true]
  obtain ⟨H, marks, hle, hok, henv, hdf⟩ := m.ex
  refine h Γ.round H (marks.map markA ++ Γ.fr) a w hok henv _ _ ?_
  intro v d ms' w' H' hR hl hok' hc hs
  rw [hd]
  exact k d ms' hR _ _ ⟨⟨H', marks, PH.le_trans hle hl, hok', henv.mono hl, hdf⟩, m.size, m.same.trans hs⟩
theorem yielded_of {a : Act} {w : World} {j t : Nat} {b : Bool} (m : Models Γ L ms a w) (hj : (ops[j]?).bind (·.dst) = some t) (hf : Env.find L t = some (.v (.bool b))) :
    yielded ops a.tmps j = some b := by
  obtain ⟨H, marks, hle, hok, henv, hdf⟩ := m.ex
  have h := conc_v.1 (henv t _ hf)
  have hlt : t < a.tmps.size := by
    rcases Nat.lt_or_ge t a.tmps.size with h' | h'
    · exact h'
    · simp [Array.getD, Nat.not_lt.2 h', undef] at h
  simp only [yielded, hj, Option.bind_some]
  rw [Array.getElem?_eq_getElem hlt]
  simp [Array.getD, hlt] at h
  simp [h]
/-- A guarded operation that is wanted. -/
theorem go_want {j t : Nat} {b want : Bool} (hg : o.guard = some (j, want)) (hj : (ops[j]?).bind (·.dst) = some t) (hf : Env.find L t = some (.v (.bool b))) (hb : b = want)
    (hd : o.dst = some i) (hi : Nat.blt i Γ.N = true) (h : OpT P o L ms R) (k : ∀ d ms', R d ms' → GO Γ P ops rest ((i, d) :: L) ms' K) : GO Γ P ops (o :: rest) L ms K := by
  intro a w m
  have hy := yielded_of (ops := ops) m hj hf
  simp only [wpListIn, Region.wanted, hg, hy, hb, beq_self_eq_true, if_true]
  exact go_run hd hi h k m
theorem go_wantp {j t : Nat} {b want : Bool} (hg : o.guard = some (j, want)) (hj : (ops[j]?).bind (·.dst) = some t) (hf : Env.find L t = some (.v (.bool b))) (hb : b = want)
    (hd : o.dst = some i) (hi : Nat.blt i Γ.N = true) (h : OpP P o L ms d) (k : GO Γ P ops rest ((i, d) :: L) ms K) : GO Γ P ops (o :: rest) L ms K :=
  go_want hg hj hf hb hd hi h (by rintro _ _ ⟨rfl, rfl⟩; exact k)
theorem go_skip {j t : Nat} {b want : Bool} (hg : o.guard = some (j, want)) (hj : (ops[j]?).bind (·.dst) = some t) (hf : Env.find L t = some (.v (.bool b))) (hb : b = !want)
    (hd : o.dst = some i) (hi : Nat.blt i Γ.N = true) (k : GO Γ P ops rest ((i, .v undef) :: L) ms K) : GO Γ P ops (o :: rest) L ms K := by
  intro a w m
  have hy := yielded_of (ops := ops) m hj hf
  have hne : (some b == some want) = false := by subst hb; cases want <;> rfl
  simp only [wpListIn, Region.wanted, hg, hy, hne, Bool.false_eq_true, if_false]
  refine ⟨fun _ _ => trivial, ?_⟩
  obtain ⟨H, marks, hle, hok, henv, hdf⟩ := m.ex
  rw [hd]
  exact k _ _ (m.next hle hok henv hdf hi (conc_v.2 rfl) (SameOut.refl w))
end
def Fn (P : Program) (f : FuncId) (args : List D) (ms : List Asrt) (R : D → List Asrt → Prop) : Prop :=
  ∀ (H : PH) (fr : List Asrt) (w : World) (vs : List Value), HeapOk H (ms ++ fr) w → ConcL H args vs →
    Calls P f vs.toArray w (fun e w' => ∃ v d ms' H', e = .returned v ∧ R d ms' ∧ PH.le H H' ∧ HeapOk H' (ms' ++ fr) w' ∧ Conc H' d v ∧ SameOut w w')
/-- The function is one of data alone. -/
def Fn0 (P : Program) (f : FuncId) (args : List D) (d : D) : Prop := Fn P f args [] (fun d' _ => d' = d)
def enumD : Nat → List D → Env
  | _, [] => []
  | i, d :: ds => (i, d) :: enumD (i + 1) ds
def RetSem (P : Program) (fn : Func) (L : Env) (ms : List Asrt) (d : D) (ms' : List Asrt) : Prop :=
  ∀ H fr (tmps : Array Value) w, HeapOk H (ms ++ fr) w → EnvOk H L tmps → ∃ v, (results fn tmps).run P w = .ok v w ∧ Conc H d v ∧ HeapOk H (ms' ++ fr) w
def RetK (P : Program) (fn : Func) (R : D → List Asrt → Prop) : KT := fun e L ms => (e = .ret ∨ e = .normal) ∧ ∃ d ms', RetSem P fn L ms d ms' ∧ R d ms'
theorem enumD_find : ∀ (ds : List D) (k t : Nat) (d : D), Env.find (enumD k ds) t = some d → k ≤ t ∧ ds[t - k]? = some d
  | [], k, t, d, h => by simp [enumD, Env.find] at h
  | x :: ds, k, t, d, h => by
    simp only [enumD, Env.find] at h
    cases hb : Nat.beq k t with
    | true =>
      rw [hb] at h
      have : k = t := Nat.eq_of_beq_eq_true hb
      subst this
      simpa using h
    | false =>
      rw [hb] at h
      have hne : k ≠ t := Nat.ne_of_beq_eq_false hb
      obtain ⟨h1, h2⟩ := enumD_find ds (k + 1) t d h
      refine ⟨by omega, ?_⟩
      have : t - k = (t - (k + 1)) + 1 := by omega
      rw [this]
      simpa using h2
theorem ConcL.get {H : PH} : ∀ (ds : List D) (us : List Value) (k : Nat) (d : D), ConcL H ds us → ds[k]? = some d → ∃ u, us[k]? = some u ∧ Conc H d u
  | [], us, k, d, _, h => by simp at h
  | x :: ds, us, k, d, e, h => by
    simp only [ConcL] at e
    obtain ⟨u, r, hv, hx, hr⟩ := e
    subst hv
    cases k with
    | zero => simp only [List.getElem?_cons_zero, Option.some.injEq] at h; subst h; exact ⟨u, by simp, hx⟩
    | succ k =>
      obtain ⟨u', h1, h2⟩ := ConcL.get ds r k d hr (by simpa using h)
      exact ⟨u', by simpa using h1, h2⟩
theorem markA_take {H : PH} {r : Nat} {as : List Asrt} {w : World} {P : Program} (h : HeapOk H (markA r :: as) w) :
    ∃ w', (Instr.takeDeferred r).run P w = .ok [] w' ∧ HeapOk H as w' ∧ SameOut w w' := by
  have ho : w.heap[r]? = some (.deferred (some [])) := h.ok (markA r) (by simp)
  have hlt : r < w.heap.size := h.lt (markA r) (by simp) r (by simp [markA])
  refine ⟨{ w with heap := w.heap.setIfInBounds r (.deferred none) }, ?_, ?_, ?_⟩
  · simp [Instr.takeDeferred, getObj, setObj, Sem.run, ho]
  · have hnd := h.nodup
    simp only [List.flatMap_cons, markA, List.cons_append, List.nil_append, List.nodup_cons] at hnd
    refine ⟨fun b o v hv => ?_, hnd.2, fun A hA b hb => by simpa using h.lt A (by simp [hA]) b hb, fun A hA => ?_⟩
    · have := h.sub b o v hv
      simp only [World.cell?] at this ⊢
      by_cases hbr : b = r
      · subst hbr; rw [ho] at this; simp at this
      · rw [Array.getElem?_setIfInBounds_ne (by omega)]; exact this
    · refine A.stable H H (fun b => w.heap[b]?) _ ?_ (PH.le_refl H) (h.ok A (by simp [hA]))
      intro b hb
      refine ⟨fun _ => rfl, ?_⟩
      have hbr : r ≠ b := fun e => hnd.1 (by rw [List.mem_flatMap]; exact ⟨A, hA, e ▸ hb⟩)
      show (w.heap.setIfInBounds r _)[b]? = _
      rw [Array.getElem?_setIfInBounds_ne hbr]
  · exact ⟨rfl, rfl, rfl, by simp⟩
theorem leaves_marks {P : Program} {fn : Func} {tmps : Array Value} {R : Ending → World → Prop} {H : PH} : ∀ (marks : List Nat) (ms fr : List Asrt) (w : World),
    HeapOk H (ms ++ (marks.map markA ++ fr)) w → (∀ w', HeapOk H (ms ++ fr) w' → SameOut w w' → ∃ v, (results fn tmps).run P w' = .ok v w' ∧ R (.returned v) w') →
    LeavesInM (FR none) 0 P fn tmps R (marks.map markD) .returning w
  | [], ms, fr, w, h, k => by
    obtain ⟨v, h1, h2⟩ := k w (by simpa using h) (SameOut.refl w)
    exact ⟨v, h1, h2⟩
  | r :: marks, ms, fr, w, h, k => by
    have hp : (ms ++ ((r :: marks).map markA ++ fr)).Perm (markA r :: (ms ++ (marks.map markA ++ fr))) := by
      simp only [List.map_cons, List.cons_append]; exact List.perm_middle
    obtain ⟨w', h1, h2, h3⟩ := markA_take (P := P) (h.perm hp)
    refine ⟨by simp, .inl ⟨r, w', rfl, h1, leaves_marks marks ms fr w' h2 fun w'' a b => k w'' a (h3.trans b)⟩⟩
theorem fn_intro {P : Program} {f : FuncId} {fn : Func} {c : Code} {args : List D} {ms : List Asrt} {R : D → List Asrt → Prop} {N : Nat} (hf : P.funcs[f]? = some fn) (hb : fn.body = some c) (hN : fn.ntmps = N) (ha : Nat.ble args.length N = true)
    (h : ∀ H0 fr w0, G ⟨H0, fr, N, none, w0, fun _ e => by cases e⟩ P c (enumD 0 args) ms (RetK P fn R)) : Fn P f args ms R := by
  intro H fr w vs hok hargs
  refine CallsIn.calls (F := FR none) (n := 0) ?_ (fun k => room_wide k)
  refine callsIn_of_wp_marks hf hb trivial ?_
  have hlen := ConcL.length args vs hargs
  have ha := Nat.le_of_ble_eq_true ha
  refine wpIn_mono (h H fr w _ w ?_) ?_
  · refine ⟨⟨H, [], PH.le_refl H, by simpa using hok, ?_, rfl⟩, by simp [hN]; omega, SameOut.refl w⟩
    intro t d ht
    obtain ⟨_, h2⟩ := enumD_find args 0 t d ht
    obtain ⟨u, h3, h4⟩ := ConcL.get args vs t d hargs (by simpa using h2)
    have hlt : t < vs.length := by
      rcases Nat.lt_or_ge t vs.length with h' | h'
      · exact h'
      · simp [List.getElem?_eq_none h'] at h3
    have : (vs.toArray ++ Array.replicate (fn.ntmps - vs.toArray.size) undef).getD t undef = u := by
      rw [Array.getD_eq_getD_getElem?, Array.getElem?_append_left (by simpa using hlt)]
      simp [h3]
    rw [this]
    exact h4
  · rintro e a w' ⟨L', ms', ⟨he, d, ms'', hsem, hR⟩, m⟩
    obtain ⟨H', marks, hle, hok', henv, hdf⟩ := m.ex
    have key : LeavesInM (FR none) 0 P fn a.tmps (fun e w'_1 => ∃ v d ms' H', e = .returned v ∧ R d ms' ∧ PH.le H H' ∧ HeapOk H' (ms' ++ fr) w'_1 ∧ Conc H' d v ∧ SameOut w w'_1) a.defers .returning w' := by
      rw [hdf]
      refine leaves_marks marks ms' fr w' hok' fun w'' hok'' hs => ?_
      obtain ⟨v, h1, h2, h3⟩ := hsem H' fr a.tmps w'' hok'' henv
      exact ⟨v, h1, v, d, ms'', H', rfl, hR, hle, h3, h2, m.same.trans hs⟩
    rcases he with rfl | rfl
    · exact key
    · exact key
theorem RetSem.perm {P : Program} {fn : Func} {L : Env} {ms ms' drop : List Asrt} {d : D} (p : ms.Perm (drop ++ ms'))
    (h : ∀ H (tmps : Array Value) w, HeapOk H ms w → EnvOk H L tmps → ∃ v, (results fn tmps).run P w = .ok v w ∧ Conc H d v) : RetSem P fn L ms d ms' := by
  intro H fr tmps w hok henv
  have hok2 : HeapOk H (drop ++ (ms' ++ fr)) w := by
    refine hok.perm ?_
    rw [← List.append_assoc]
    exact p.append_right fr
  have hok3 : HeapOk H (fr ++ ms) w := hok.perm List.perm_append_comm
  obtain ⟨v, h1, h2⟩ := h H tmps w hok3.drop henv
  exact ⟨v, h1, h2, hok2.drop⟩
theorem ret_none {P : Program} {fn : Func} {L : Env} {ms ms' drop : List Asrt} (hr : fn.results = #[]) (p : ms.Perm (drop ++ ms')) : RetSem P fn L ms (.tup []) ms' :=
  .perm p fun H tmps w _ henv => ⟨.tuple #[], by simp [results, hr, Sem.run, pure], [.tuple #[]], by simp [Enc, ConcL], rfl⟩
end Go.V
set_option linter.unusedVariables false
set_option linter.unusedSimpArgs false
namespace Go.V
section meet
variable {P : Program} {o : Oper} {L : Env} {ms : List Asrt} {R : D → List Asrt → Prop} {d : D}
theorem op_val {ro : Option Nat} {a : Act} {w w' : World} {v : Value} {next : Act → World → Prop} {Q : Exit → Act → World → Prop} (hnd : ∀ c, o.op ≠ .defer c)
    (h : (execOp a.eval o).run P w = .ok (.value v) w') (hn : next (a.put o.dst v) w') : o.wpIn (FR ro) 0 P a w next Q := by
  refine ⟨fun _ _ => trivial, ?_⟩
  rw [Oper.semAt_eq _ _ _ hnd, h]
  exact hn
theorem op_skip {ro : Option Nat} {a : Act} {w w' : World} {next : Act → World → Prop} {Q : Exit → Act → World → Prop} (hnd : ∀ c, o.op ≠ .defer c)
    (h : (execOp a.eval o).run P w = .ok .skip w') (hn : next (a.put o.dst undef) w') : o.wpIn (FR ro) 0 P a w next Q := by
  refine ⟨fun _ _ => trivial, ?_⟩
  rw [Oper.semAt_eq _ _ _ hnd, h]
  exact hn
/-- An operation that only computes. -/
theorem OpP.pure (hnd : ∀ c, o.op ≠ .defer c) (h : ∀ H fr (a : Act) w, HeapOk H (ms ++ fr) w → EnvOk H L a.tmps → ∃ v, (execOp a.eval o).run P w = .ok (.value v) w ∧ Conc H d v) : OpP P o L ms d := by
  intro ro H fr a w hok henv next Q hn
  obtain ⟨v, h1, h2⟩ := h H fr a w hok henv
  exact op_val hnd h1 (hn v d ms w H ⟨rfl, rfl⟩ (PH.le_refl H) hok h2 (SameOut.refl w))
theorem OpT.val (hnd : ∀ c, o.op ≠ .defer c) (h : ∀ H fr (a : Act) w, HeapOk H (ms ++ fr) w → EnvOk H L a.tmps → ∃ v d ms' w' H', (execOp a.eval o).run P w = .ok (.value v) w' ∧
    R d ms' ∧ PH.le H H' ∧ HeapOk H' (ms' ++ fr) w' ∧ Conc H' d v ∧ SameOut w w') : OpT P o L ms R := by
  intro ro H fr a w hok henv next Q hn
  obtain ⟨v, d, ms', w', H', h1, h2, h3, h4, h5, h6⟩ := h H fr a w hok henv
  exact op_val hnd h1 (hn v d ms' w' H' h2 h3 h4 h5 h6)
theorem OpT.skip (hnd : ∀ c, o.op ≠ .defer c) (h : ∀ H fr (a : Act) w, HeapOk H (ms ++ fr) w → EnvOk H L a.tmps → ∃ ms' w' H', (execOp a.eval o).run P w = .ok .skip w' ∧
    R (.v undef) ms' ∧ PH.le H H' ∧ HeapOk H' (ms' ++ fr) w' ∧ SameOut w w') : OpT P o L ms R := by
  intro ro H fr a w hok henv next Q hn
  obtain ⟨ms', w', H', h1, h2, h3, h4, h6⟩ := h H fr a w hok henv
  exact op_skip hnd h1 (hn undef (.v undef) ms' w' H' h2 h3 h4 (conc_v.2 rfl) h6)
end meet
theorem heap_alloc_old (w : World) (o : Obj) (b : Nat) (h : b < w.heap.size) : (w.alloc o).heap[b]? = w.heap[b]? := by
  show (w.heap.push o)[b]? = _
  rw [Array.getElem?_push, if_neg (by omega)]
theorem heap_alloc_new (w : World) (o : Obj) : (w.alloc o).heap[w.heap.size]? = some o := by
  show (w.heap.push o)[w.heap.size]? = _
  simp
theorem size_alloc' (w : World) (o : Obj) : (w.alloc o).heap.size = w.heap.size + 1 := by
  show (w.heap.push o).size = _
  simp
theorem HeapOk.none_new {H : PH} {as : List Asrt} {w : World} (h : HeapOk H as w) (b o : Nat) (hb : w.heap.size ≤ b) : H b o = none := by
  cases hv : H b o with
  | none => rfl
  | some v =>
    have := h.sub b o v hv
    simp [World.cell?, Array.getElem?_eq_none hb] at this
theorem cell_alloc_old {w : World} {o : Obj} {b off : Nat} {v : Value} (h : w.cell? ⟨b, off, none⟩ = some v) : (w.alloc o).cell? ⟨b, off, none⟩ = some v := by
  have hlt : b < w.heap.size := by
    rcases Nat.lt_or_ge b w.heap.size with h' | h'
    · exact h'
    · simp [World.cell?, Array.getElem?_eq_none h'] at h
  simp only [World.cell?] at h ⊢
  rw [heap_alloc_old _ _ _ hlt]
  exact h
def PH.add (H : PH) (b : Nat) (vs : List Value) : PH := fun b' o => if b' = b then vs[o]? else H b' o
theorem HeapOk.persist {H : PH} {as : List Asrt} {w : World} (h : HeapOk H as w) (vs : List Value) (T : TypeId) :
    HeapOk (H.add w.heap.size vs) as (w.alloc (.cells vs.toArray T)) ∧ PH.le H (H.add w.heap.size vs) := by
  have hle : PH.le H (H.add w.heap.size vs) := by
    intro b o v hv
    simp only [PH.add]
    by_cases hb : b = w.heap.size
    · subst hb; rw [h.none_new _ _ (Nat.le_refl _)] at hv; cases hv
    · rw [if_neg hb]; exact hv
  refine ⟨⟨fun b o v hv => ?_, h.nodup, fun A hA b hb => by have := h.lt A hA b hb; rw [size_alloc']; omega, fun A hA => ?_⟩, hle⟩
  · simp only [PH.add] at hv
    by_cases hb : b = w.heap.size
    · subst hb
      rw [if_pos rfl] at hv
      simp only [World.cell?, heap_alloc_new]
      simpa using hv
    · rw [if_neg hb] at hv
      exact cell_alloc_old (h.sub b o v hv)
  · refine A.stable H _ (fun b => w.heap[b]?) _ ?_ hle (h.ok A hA)
    intro b hb
    have hlt := h.lt A hA b hb
    exact ⟨fun o => by simp only [PH.add]; rw [if_neg (by omega)], heap_alloc_old _ _ _ hlt⟩
theorem HeapOk.own {H : PH} {as : List Asrt} {w : World} (h : HeapOk H as w) {o : Obj} {A : Asrt} (hb : A.blocks = [w.heap.size]) (hok : A.ok H (fun b => (w.alloc o).heap[b]?)) :
    HeapOk H (A :: as) (w.alloc o) := by
  refine ⟨fun b off v hv => cell_alloc_old (h.sub b off v hv), ?_, ?_, ?_⟩
  · simp only [List.flatMap_cons, hb, List.cons_append, List.nil_append, List.nodup_cons]
    refine ⟨fun hm => ?_, h.nodup⟩
    obtain ⟨B, hB, hm⟩ := List.mem_flatMap.1 hm
    exact Nat.lt_irrefl _ (h.lt B hB _ hm)
  · intro B hB b hbB
    rcases List.mem_cons.1 hB with rfl | hB
    · rw [hb] at hbB; simp at hbB; subst hbB; rw [size_alloc']; omega
    · have := h.lt B hB b hbB; rw [size_alloc']; omega
  · intro B hB
    rcases List.mem_cons.1 hB with rfl | hB
    · exact hok
    · refine B.stable H H (fun b => w.heap[b]?) _ ?_ (PH.le_refl H) (h.ok B hB)
      intro b hbB
      exact ⟨fun _ => rfl, heap_alloc_old _ _ _ (h.lt B hB b hbB)⟩
theorem sameOut_alloc (w : World) (o : Obj) : SameOut w (w.alloc o) := ⟨rfl, rfl, rfl, by rw [size_alloc']; omega⟩
/-- One assertion is replaced, its blocks alone having changed. -/
theorem HeapOk.upd {H H' : PH} {A A' : Asrt} {as : List Asrt} {w w' : World} (h : HeapOk H (A :: as) w) (hbl : A'.blocks = A.blocks) (hsz : w.heap.size ≤ w'.heap.size)
    (hsame : ∀ b, b < w.heap.size → b ∉ A.blocks → w'.heap[b]? = w.heap[b]?) (hH : ∀ b o, b < w.heap.size → b ∉ A.blocks → H' b o = H b o) (hle : PH.le H H')
    (hsub : ∀ b o v, (b ∈ A.blocks ∨ w.heap.size ≤ b) → H' b o = some v → w'.cell? ⟨b, o, none⟩ = some v) (hok : A'.ok H' (fun b => w'.heap[b]?)) : HeapOk H' (A' :: as) w' := by
  have hnd := h.nodup
  simp only [List.flatMap_cons] at hnd
  have hdisj := (List.nodup_append.1 hnd).2.2
  refine ⟨fun b o v hv => ?_, by simp only [List.flatMap_cons, hbl]; exact hnd, ?_, ?_⟩
  · by_cases hb : b ∈ A.blocks ∨ w.heap.size ≤ b
    · exact hsub b o v hb hv
    · have h1 : b ∉ A.blocks := fun x => hb (.inl x)
      have h2 : b < w.heap.size := by omega
      rw [hH b o h2 h1] at hv
      have := h.sub b o v hv
      simp only [World.cell?] at this ⊢
      rw [hsame b h2 h1]
      exact this
  · intro B hB b hb
    rcases List.mem_cons.1 hB with rfl | hB
    · rw [hbl] at hb; exact Nat.lt_of_lt_of_le (h.lt A (by simp) b hb) hsz
    · exact Nat.lt_of_lt_of_le (h.lt B (by simp [hB]) b hb) hsz
  · intro B hB
    rcases List.mem_cons.1 hB with rfl | hB
    · exact hok
    · refine B.stable H H' (fun b => w.heap[b]?) _ ?_ hle (h.ok B (by simp [hB]))
      intro b hb
      have hlt := h.lt B (by simp [hB]) b hb
      have hn : b ∉ A.blocks := fun hx => hdisj b hx b (List.mem_flatMap.2 ⟨B, hB, hb⟩) rfl
      exact ⟨fun o => hH b o hlt hn, hsame b hlt hn⟩
theorem perm_at {α : Type _} : ∀ (ms : List α) (k : Nat) (A : α), ms[k]? = some A → ms.Perm (A :: ms.eraseIdx k)
  | [], k, A, h => by simp at h
  | x :: ms, 0, A, h => by simp at h; subst h; simp
  | x :: ms, k + 1, A, h => by
    have := perm_at ms k A (by simpa using h)
    simp only [List.eraseIdx_cons_succ]
    exact (List.Perm.cons x this).trans (List.Perm.swap _ _ _)
theorem perm_set {α : Type _} : ∀ (ms : List α) (k : Nat) (A A' : α), ms[k]? = some A → (A' :: ms.eraseIdx k).Perm (ms.set k A')
  | [], k, A, A', h => by simp at h
  | x :: ms, 0, A, A', h => by simp
  | x :: ms, k + 1, A, A', h => by
    have := perm_set ms k A A' (by simpa using h)
    simp only [List.eraseIdx_cons_succ, List.set_cons_succ]
    exact (List.Perm.swap _ _ _).trans (List.Perm.cons x this)
def box (b : Nat) (t : TypeId) (cs : List D) : Asrt where
  blocks := [b]
  ok := fun H h => ∃ vs, h b = some (.cells vs.toArray t (0, 0)) ∧ EncL H cs vs ∧ ∀ o, H b o = none
  stable := fun H H' h h' e hle ⟨vs, h1, h2, h3⟩ => by
    have := e b (by simp)
    exact ⟨vs, by rw [this.2]; exact h1, EncL.mono hle cs vs h2, fun o => by rw [this.1]; exact h3 o⟩
/-- Each of one cell. -/
def flat : List D → Bool
  | [] => true
  | .agg _ :: _ => false
  | _ :: cs => flat cs
theorem flat_cons {c : D} {cs : List D} (h : flat (c :: cs) = true) : c.isAgg = false ∧ flat cs = true := by
  cases c <;> simp_all [flat, D.isAgg]
theorem enc_one {H : PH} {c : D} {vs : List Value} (h : c.isAgg = false) (e : Enc H c vs) : ∃ u, vs = [u] := by
  have := Enc.width c vs e
  cases c <;> simp_all [D.isAgg, D.width] <;> (cases vs <;> simp_all)
theorem EncL.get {H : PH} : ∀ (cs : List D) (vs : List Value), EncL H cs vs → flat cs = true → vs.length = cs.length ∧ ∀ (k : Nat) (c : D), cs[k]? = some c → ∃ u, vs[k]? = some u ∧ Enc H c [u]
  | [], vs, e, _ => by simp only [EncL] at e; subst e; simp
  | c :: cs, vs, e, hf => by
    simp only [EncL] at e
    obtain ⟨a, r, hv, e1, e2⟩ := e
    obtain ⟨h1, h2⟩ := flat_cons hf
    obtain ⟨u, rfl⟩ := enc_one h1 e1
    subst hv
    obtain ⟨h3, h4⟩ := EncL.get cs r e2 h2
    refine ⟨by simp [h3], fun k d hk => ?_⟩
    cases k with
    | zero => simp at hk; subst hk; exact ⟨u, by simp, e1⟩
    | succ k => obtain ⟨u', a1, a2⟩ := h4 k d (by simpa using hk); exact ⟨u', by simpa using a1, a2⟩
theorem EncL.of_get {H : PH} : ∀ (cs : List D) (vs : List Value), flat cs = true → vs.length = cs.length → (∀ (k : Nat) (c : D), cs[k]? = some c → ∃ u, vs[k]? = some u ∧ Enc H c [u]) → EncL H cs vs
  | [], vs, _, hl, _ => by simp only [EncL]; simpa using hl
  | c :: cs, [], _, hl, _ => by simp at hl
  | c :: cs, v :: vs, hf, hl, h => by
    obtain ⟨h1, h2⟩ := flat_cons hf
    obtain ⟨u, a1, a2⟩ := h 0 c (by simp)
    simp at a1
    subst a1
    simp only [EncL]
    exact ⟨[v], vs, by simp, a2, EncL.of_get cs vs h2 (by simpa using hl) fun k d hk => by simpa using h (k + 1) d (by simpa using hk)⟩
theorem flat_get : ∀ (cs : List D) (k : Nat) (c : D), flat cs = true → cs[k]? = some c → c.isAgg = false
  | [], k, c, _, h => by simp at h
  | x :: cs, 0, c, hf, h => by simp at h; subst h; exact (flat_cons hf).1
  | x :: cs, k + 1, c, hf, h => flat_get cs k c (flat_cons hf).2 (by simpa using h)
section ops
variable {P : Program} {L : Env} {ms : List Asrt} {dst : Option Nat} {ty : TypeId} {pos : String} {after : Array Edge} {g : Option (Nat × Bool)} {d d' : D} {x y : Operand} {t t' : TypeId}
theorem o_move (h : Env.ev L x = some d) : OpP P ⟨dst, .move x, ty, pos, after, g⟩ L ms d :=
  .pure (by simp) fun H fr a w _ henv => ⟨a.eval x, rfl, henv.ev h⟩
theorem o_assign (h : Env.ev L x = some d) : OpP P ⟨dst, .assign x, ty, pos, after, g⟩ L ms d :=
  .pure (by simp) fun H fr a w _ henv => ⟨a.eval x, rfl, henv.ev h⟩
theorem ev_v {H : PH} {a : Act} (henv : EnvOk H L a.tmps) {v : Value} (h : Env.ev L x = some (.v v)) : a.eval x = v := conc_v.1 (henv.ev h)
theorem o_add {k : IntKind} {m n r : Int} (hx : Env.ev L x = some (.v (.int k m))) (hy : Env.ev L y = some (.v (.int k n))) (hr : k.wrap (m + n) = r) :
    OpP P ⟨dst, .binOp .add t x y t', ty, pos, after, g⟩ L ms (.v (.int k r)) :=
  .pure (by simp) fun H fr a w _ henv => ⟨.int k r, by simp [execOp, ev_v henv hx, ev_v henv hy, eqGuard, binOp, Op.intArith, Sem.run, hr], conc_v.2 rfl⟩
theorem o_sub {k : IntKind} {m n r : Int} (hx : Env.ev L x = some (.v (.int k m))) (hy : Env.ev L y = some (.v (.int k n))) (hr : k.wrap (m - n) = r) :
    OpP P ⟨dst, .binOp .sub t x y t', ty, pos, after, g⟩ L ms (.v (.int k r)) :=
  .pure (by simp) fun H fr a w _ henv => ⟨.int k r, by simp [execOp, ev_v henv hx, ev_v henv hy, eqGuard, binOp, Op.intArith, Sem.run, hr], conc_v.2 rfl⟩
/-- A comparison of two integers. -/
def cmpI : BinOp → Int → Int → Option Bool
  | .eql, m, n => some (decide (m = n))
  | .neq, m, n => some (!decide (m = n))
  | .lss, m, n => some (decide (m < n))
  | .leq, m, n => some (decide (m ≤ n))
  | .gtr, m, n => some (decide (n < m))
  | .geq, m, n => some (decide (n ≤ m))
  | _, _, _ => none
theorem o_cmp {op : BinOp} {k : IntKind} {m n : Int} {b : Bool} (hx : Env.ev L x = some (.v (.int k m))) (hy : Env.ev L y = some (.v (.int k n))) (hb : cmpI op m n = some b) :
    OpP P ⟨dst, .binOp op t x y t', ty, pos, after, g⟩ L ms (.v (.bool b)) := by
  refine .pure (by simp) fun H fr a w _ henv => ⟨.bool b, ?_, conc_v.2 rfl⟩
  cases op <;> simp only [cmpI, Option.some.injEq, reduceCtorEq] at hb <;> subst hb <;> simp [execOp, ev_v henv hx, ev_v henv hy, eqGuard, binOp, Op.intCmp, Sem.run]
  · by_cases h : m = n <;> simp [h]
  · by_cases h : m = n <;> simp [h]
theorem toList_mk (s : List UInt8) : (ByteArray.mk s.toArray).toList = s := by rw [ByteArray.toList_eq]
/-- A comparison of two texts. -/
def cmpS : BinOp → List UInt8 → List UInt8 → Option Bool
  | .eql, m, n => some (decide (m = n))
  | .neq, m, n => some (!decide (m = n))
  | .lss, m, n => some (Op.bytesLess m n)
  | .leq, m, n => some (Op.bytesLess m n || decide (m = n))
  | .gtr, m, n => some (!(Op.bytesLess m n || decide (m = n)))
  | .geq, m, n => some (!Op.bytesLess m n)
  | _, _, _ => none
theorem o_cmps {op : BinOp} {m n : List UInt8} {b : Bool} (hx : Env.ev L x = some (.v (.string ⟨m.toArray⟩))) (hy : Env.ev L y = some (.v (.string ⟨n.toArray⟩))) (hb : cmpS op m n = some b) :
    OpP P ⟨dst, .binOp op t x y t', ty, pos, after, g⟩ L ms (.v (.bool b)) := by
  refine .pure (by simp) fun H fr a w _ henv => ⟨.bool b, ?_, conc_v.2 rfl⟩
  cases op <;> simp only [cmpS, Option.some.injEq, reduceCtorEq] at hb <;> subst hb <;> simp [execOp, ev_v henv hx, ev_v henv hy, eqGuard, binOp, Op.stringOp, Sem.run, toList_mk]
  all_goals (by_cases h : m = n <;> simp [h])
theorem eq_bool {m n : Bool} {w : World} (hu : ∀ w, (underlying t).run P w = .ok .bool w) : (Op.equal t (.bool m) (.bool n)).run P w = .ok (m == n) w := by
  unfold Op.equal Op.maxDepth
  rw [show (10000 : Nat) = 9999 + 1 from rfl, Op.equalIn]
  simp [hu, Sem.run]
/-- A comparison of two truths. -/
theorem o_cmpb {m n : Bool} (hu : ∀ w, (underlying t).run P w = .ok .bool w) (hx : Env.ev L x = some (.v (.bool m))) (hy : Env.ev L y = some (.v (.bool n))) :
    OpP P ⟨dst, .binOp .eql t x y t', ty, pos, after, g⟩ L ms (.v (.bool (m == n))) :=
  .pure (by simp) fun H fr a w _ henv => ⟨.bool (m == n), by simp [execOp, ev_v henv hx, ev_v henv hy, eqGuard, binOp, Sem.run, eq_bool hu], conc_v.2 rfl⟩
theorem size_mk (m : List UInt8) : (ByteArray.mk m.toArray).size = m.length := rfl
theorem o_not {m : Bool} (hx : Env.ev L x = some (.v (.bool m))) : OpP P ⟨dst, .unOp .not t x, ty, pos, after, g⟩ L ms (.v (.bool (!m))) :=
  .pure (by simp) fun H fr a w _ henv => ⟨.bool (!m), by simp [execOp, ev_v henv hx, Op.unary, Sem.run], conc_v.2 rfl⟩
theorem o_len_str {m : List UInt8} (hu : ∀ w, (underlying t).run P w = .ok .string w) (hx : Env.ev L x = some (.v (.string ⟨m.toArray⟩))) :
    OpP P ⟨dst, .call ⟨.builtin .len, #[x], #[t]⟩, ty, pos, after, g⟩ L ms (.v (.int .i64 m.length)) :=
  .pure (by simp) fun H fr a w _ henv => ⟨.int .i64 m.length, by simp [execOp, resolve, invoke, builtin, Builtin.len_, ev_v henv hx, hu, Sem.run, goInt, size_mk], conc_v.2 rfl⟩
theorem o_min {k : IntKind} {m n : Int} {ts : Array TypeId} (hx : Env.ev L x = some (.v (.int k m))) (hy : Env.ev L y = some (.v (.int k n))) :
    OpP P ⟨dst, .call ⟨.builtin .min, #[x, y], ts⟩, ty, pos, after, g⟩ L ms (.v (.int k (if n < m then n else m))) :=
  .pure (by simp) fun H fr a w _ henv => ⟨_, by simp [execOp, resolve, invoke, builtin, Builtin.min_, Builtin.min2, ev_v henv hx, ev_v henv hy, Sem.run], conc_v.2 rfl⟩
theorem o_max {k : IntKind} {m n : Int} {ts : Array TypeId} (hx : Env.ev L x = some (.v (.int k m))) (hy : Env.ev L y = some (.v (.int k n))) :
    OpP P ⟨dst, .call ⟨.builtin .max, #[x, y], ts⟩, ty, pos, after, g⟩ L ms (.v (.int k (if n > m then n else m))) :=
  .pure (by simp) fun H fr a w _ henv => ⟨_, by simp [execOp, resolve, invoke, builtin, Builtin.max_, Builtin.max2, ev_v henv hx, ev_v henv hy, Sem.run], conc_v.2 rfl⟩
/-- A byte of a text. -/
theorem o_index {k : IntKind} {m : List UInt8} {n : Int} {c : UInt8} (hu : ∀ w, (underlying t).run P w = .ok .string w) (hx : Env.ev L x = some (.v (.string ⟨m.toArray⟩))) (hy : Env.ev L y = some (.v (.int k n)))
    (h0 : 0 ≤ n) (hc : m[n.toNat]? = some c) : OpP P ⟨dst, .index t x y, ty, pos, after, g⟩ L ms (.v (.int .u8 c.toNat)) := by
  refine .pure (by simp) fun H fr a w _ henv => ⟨.int .u8 c.toNat, ?_, conc_v.2 rfl⟩
  have e : (ByteArray.mk m.toArray)[n.toNat]? = some c := by
    obtain ⟨hlt, hc'⟩ := List.getElem?_eq_some_iff.1 hc
    rw [getElem?_pos (ByteArray.mk m.toArray) n.toNat (by simpa [ByteArray.size] using hlt)]
    exact congrArg some hc'
  simp [execOp, Instr.index, asIntOf, ev_v henv hx, ev_v henv hy, hu, h0, e, Sem.run]
theorem bound_run {n y : Nat} {k : IntKind} {code : BoundsCode} {w : World} (h : n ≤ y) : (Instr.sliceBound (.int k (n : Int)) y code).run P w = .ok n w := by
  have h1 : (0 : Int) ≤ (n : Int) ∧ (n : Int) ≤ (y : Int) := by omega
  simp [Instr.sliceBound, asIntOf, Sem.run, h1]
theorem bounds_run {isS : Bool} {len cap l h : Nat} {lo hi : Option Value} {w : World} (hlo : match lo with | some v => ∃ k, v = .int k (l : Int) | none => l = 0) (hhi : match hi with | some v => ∃ k', v = .int k' (h : Int) | none => h = len)
    (h1 : l ≤ h) (h2 : h ≤ cap) (h3 : len ≤ cap) : (Instr.sliceBounds isS len cap lo hi none).run P w = .ok (l, h, cap) w := by
  cases lo <;> cases hi <;> simp only at hlo hhi <;> (try obtain ⟨k, rfl⟩ := hlo) <;> (try subst hlo) <;> (try obtain ⟨k', rfl⟩ := hhi) <;> (try subst hhi) <;>
    simp [Instr.sliceBounds, Sem.run, bound_run h1, bound_run h2]
/-- An operand that may be lacking: a number. -/
def evN (L : Env) (o : Option Operand) (dflt : Nat) (n : Nat) : Prop := match o with
  | none => n = dflt
  | some x => ∃ k, Env.ev L x = some (.v (.int k (n : Int)))
theorem evN_some {x : Operand} {k : IntKind} {m : Int} {dflt : Nat} (h : Env.ev L x = some (.v (.int k m))) (h0 : 0 ≤ m) : evN L (some x) dflt m.toNat := ⟨k, by rw [Int.toNat_of_nonneg h0]; exact h⟩
theorem evN_match {H : PH} {a : Act} (henv : EnvOk H L a.tmps) {o : Option Operand} {dflt n : Nat} (h : evN L o dflt n) : match o.map a.eval with | some v => ∃ k, v = .int k (n : Int) | none => n = dflt := by
  cases o with
  | none => exact h
  | some x => obtain ⟨k, hk⟩ := h; exact ⟨k, ev_v henv hk⟩
end ops
end Go.V
set_option linter.unusedVariables false
set_option linter.unusedSimpArgs false
namespace Go.V
section ops
variable {P : Program} {L : Env} {ms : List Asrt} {dst : Option Nat} {ty : TypeId} {pos : String} {after : Array Edge} {g : Option (Nat × Bool)} {d d' : D} {x y : Operand} {t t' : TypeId}
theorem add_zero' (b off n : Nat) : (⟨b, off, none⟩ : Addr).add n = ⟨b, off + n, none⟩ := by unfold Addr.add; split <;> simp_all
theorem enc_list {H : PH} {α : Type} {sz : Nat} {f : α → D} {l : List α} {v : Value} (h : Conc H (.list sz f l) v) : ∃ a cap, v = .slice a l.length cap ∧ l.length ≤ cap ∧ cap ≤ maxLen ∧
      (l = [] ∨ ∃ b off, a = some ⟨b, off, none⟩ ∧ ∀ i x, l[i]? = some x → ∃ us, Enc H (f x) us ∧ us.length = sz ∧ ∀ k u, us[k]? = some u → H b (off + i * sz + k) = some u) := by
  have h := (conc_enc (by rfl)).1 h
  simp only [Enc] at h
  obtain ⟨a, cap, hv, r⟩ := h
  simp at hv
  exact ⟨a, cap, hv, r⟩
theorem o_len {α : Type} {sz : Nat} {f : α → D} {l : List α} {e : TypeId} (hu : ∀ w, (underlying t).run P w = .ok (.slice e) w) (hx : Env.ev L x = some (.list sz f l)) :
    OpP P ⟨dst, .call ⟨.builtin .len, #[x], #[t]⟩, ty, pos, after, g⟩ L ms (.v (.int .i64 l.length)) := by
  refine .pure (by simp) fun H fr a w _ henv => ?_
  obtain ⟨a', cap, hv, _⟩ := enc_list (henv.ev hx)
  exact ⟨.int .i64 l.length, by simp [execOp, resolve, invoke, builtin, Builtin.len_, hv, hu, Sem.run, goInt], conc_v.2 rfl⟩
theorem o_indexAddr {α : Type} {sz : Nat} {f : α → D} {l : List α} {e : TypeId} {k : IntKind} {n : Int} {z : α} (hu : ∀ w, (underlying t).run P w = .ok (.slice e) w) (hs : ∀ w, (sizeOf e).run P w = .ok sz w) (hx : Env.ev L x = some (.list sz f l))
    (hy : Env.ev L y = some (.v (.int k n))) (h0 : 0 ≤ n) (hz : l[n.toNat]? = some z) : OpP P ⟨dst, .indexAddr t x y, ty, pos, after, g⟩ L ms (.ref (f z)) := by
  refine .pure (by simp) fun H fr a w _ henv => ?_
  obtain ⟨a', cap, hv, h1, h2, h3⟩ := enc_list (henv.ev hx)
  obtain ⟨hlt, _⟩ := List.getElem?_eq_some_iff.1 hz
  rcases h3 with h3 | ⟨b, off, ha, hel⟩
  · subst h3; simp at hlt
  · obtain ⟨us, e1, e2, e3⟩ := hel _ _ hz
    refine ⟨.pointer (some ⟨b, off + n.toNat * sz, none⟩), ?_, ?_⟩
    · have hb : 0 ≤ n ∧ n < (l.length : Int) := by omega
      simp [execOp, Instr.indexAt, asIntOf, hv, ha, ev_v henv hy, hu, hs, hb, Sem.run, add_zero']
    · rw [conc_enc (by rfl)]
      simp only [Enc]
      exact ⟨b, _, us, rfl, e1, e3⟩
/-- A piece of a list, within its length. -/
theorem o_slice {α : Type} {sz : Nat} {f : α → D} {l : List α} {lo hi : Option Operand} {m h : Nat} {e : TypeId} (hu : ∀ w, (underlying t).run P w = .ok (.slice e) w) (hs : ∀ w, (sizeOf e).run P w = .ok sz w) (hx : Env.ev L x = some (.list sz f l))
    (hl : evN L lo 0 m) (hh : evN L hi l.length h) (h1 : m ≤ h) (h2 : h ≤ l.length) : OpP P ⟨dst, .slice t x lo hi none, ty, pos, after, g⟩ L ms (.list sz f ((l.take h).drop m)) := by
  refine .pure (by simp) fun H fr a w _ henv => ?_
  obtain ⟨a', cap, hv, h3, h4, h5⟩ := enc_list (henv.ev hx)
  have hb := bounds_run (P := P) (isS := true) (w := w) (len := l.length) (cap := cap) (evN_match henv hl) (evN_match henv hh) h1 (by omega) h3
  refine ⟨.slice (if cap = m then a' else a'.map (·.add (m * sz))) (h - m) (cap - m), by simp [execOp, Instr.sliceAt, Instr.slice, hv, hu, Sem.run, hb, hs], ?_⟩
  rw [conc_enc (by rfl)]
  simp only [Enc]
  have hll : ((l.take h).drop m).length = h - m := by simp; omega
  refine ⟨if cap = m then a' else a'.map (·.add (m * sz)), cap - m, by rw [hll], by omega, by omega, ?_⟩
  rcases h5 with h5 | ⟨b, off, ha, hel⟩
  · subst h5; left; simp
  · by_cases hc : cap = m
    · left; simp; omega
    · right
      refine ⟨b, off + m * sz, by simp [hc, ha, add_zero'], fun i z hz => ?_⟩
      have hz' : l[m + i]? = some z := by
        rw [List.getElem?_drop, List.getElem?_take] at hz
        split at hz
        · exact hz
        · cases hz
      obtain ⟨us, e1, e2, e3⟩ := hel _ _ hz'
      refine ⟨us, e1, e2, fun k u hk => ?_⟩
      have := e3 k u hk
      rw [show off + m * sz + i * sz + k = off + (m + i) * sz + k by rw [Nat.add_mul]; omega]
      exact this
theorem cellsum {H : PH} {as : List Asrt} {w : World} (hok : HeapOk H as w) {b off : Nat} {us : List Value} (h : ∀ k u, us[k]? = some u → H b (off + k) = some u) : ∀ j v, us[j]? = some v → w.cell? ((⟨b, off, none⟩ : Addr).add j) = some v :=
  fun j v hj => by rw [add_zero']; exact hok.sub _ _ _ (h j v hj)
theorem enc_ref {H : PH} {d : D} {v : Value} (h : Conc H (.ref d) v) : ∃ b off us, v = .pointer (some ⟨b, off, none⟩) ∧ Enc H d us ∧ ∀ k u, us[k]? = some u → H b (off + k) = some u := by
  have h := (conc_enc (by rfl)).1 h
  simp only [Enc] at h
  obtain ⟨b, off, us, hv, r⟩ := h
  simp at hv
  exact ⟨b, off, us, hv, r⟩
/-- A value of one cell. -/
theorem o_load (ha : ∀ w, (isAgg t).run P w = .ok false w) (hx : Env.ev L x = some (.ref d)) (hd : d.isAgg = false) : OpP P ⟨dst, .load t x, ty, pos, after, g⟩ L ms d := by
  refine .pure (by simp) fun H fr a w hok henv => ?_
  obtain ⟨b, off, us, hv, e1, e2⟩ := enc_ref (henv.ev hx)
  obtain ⟨u, rfl⟩ := enc_one hd e1
  have hc : w.cell? ⟨b, off, none⟩ = some u := by simpa using hok.sub b off u (by simpa using e2 0 u)
  exact ⟨u, by simp [execOp, Instr.loadAt, Instr.sureAddr, hv, loadVar, ha, load, Sem.run, hc], (conc_enc hd).2 e1⟩
/-- A struct. -/
theorem o_load_agg {cs : List D} {sz : Nat} (ha : ∀ w, (isAgg t).run P w = .ok true w) (hs : ∀ w, (sizeOf t).run P w = .ok sz w) (hx : Env.ev L x = some (.ref (.agg cs))) (hd : widthL cs = sz) : OpP P ⟨dst, .load t x, ty, pos, after, g⟩ L ms (.agg cs) := by
  refine .pure (by simp) fun H fr a w hok henv => ?_
  obtain ⟨b, off, us, hv, e1, e2⟩ := enc_ref (henv.ev hx)
  have hw : us.length = sz := by rw [← hd]; simpa [D.width] using Enc.width _ _ e1
  have hl := run_loadCells_list (P := P) w ⟨b, off, none⟩ us (cellsum hok e2)
  rw [hw] at hl
  exact ⟨.agg us.toArray, by simp [execOp, Instr.loadAt, Instr.sureAddr, hv, loadVar, ha, hs, hl, Sem.run], conc_agg.2 ⟨us, rfl, by simpa [Enc] using e1⟩⟩
/-- The part of a struct's cells that a field has. -/
def part? (ag : Bool) (sz off : Nat) (cs : List D) : Option D := match ag with
  | true => some (.agg ((cs.drop off).take sz))
  | false => cs[off]?
theorem flat_drop : ∀ (cs : List D) (n : Nat), flat cs = true → flat (cs.drop n) = true
  | [], n, h => by simp [flat]
  | c :: cs, 0, h => h
  | c :: cs, n + 1, h => flat_drop cs n (flat_cons h).2
theorem flat_take : ∀ (cs : List D) (n : Nat), flat cs = true → flat (cs.take n) = true
  | [], n, h => by simp [flat]
  | c :: cs, 0, h => by simp [flat]
  | c :: cs, n + 1, h => by
    have := flat_take cs n (flat_cons h).2
    cases c <;> simp_all [flat]
theorem part_enc {H : PH} {ag : Bool} {sz off : Nat} {cs : List D} {us : List Value} (h : part? ag sz off cs = some d) (hf : flat cs = true) (e : EncL H cs us) : ∃ vs, Enc H d vs ∧ ∀ k u, vs[k]? = some u → us[off + k]? = some u := by
  obtain ⟨h1, h2⟩ := EncL.get cs us e hf
  cases ag with
  | false =>
    obtain ⟨u, h3, h4⟩ := h2 off d h
    refine ⟨[u], h4, fun k u' hk => ?_⟩
    cases k with
    | zero => simp at hk; subst hk; simpa using h3
    | succ k => simp at hk
  | true =>
    simp only [part?, Option.some.injEq] at h
    subst h
    refine ⟨(us.drop off).take sz, ?_, fun k u hk => ?_⟩
    · simp only [Enc]
      refine EncL.of_get _ _ (flat_take _ _ (flat_drop _ _ hf)) (by simp [h1]) fun k c hk => ?_
      rw [List.getElem?_take] at hk
      split at hk
      · rename_i hlt
        rw [List.getElem?_drop] at hk
        obtain ⟨u, h3, h4⟩ := h2 _ _ hk
        exact ⟨u, by rw [List.getElem?_take, if_pos hlt, List.getElem?_drop]; exact h3, h4⟩
      · cases hk
    · rw [List.getElem?_take] at hk
      split at hk
      · rw [List.getElem?_drop] at hk; exact hk
      · cases hk
/-- What is known of a struct's field. -/
structure FieldIs (P : Program) (s : TypeId) (n : Nat) (off sz : Nat) (ag : Bool) : Prop where
  ex : ∃ fs f, (∀ w, (underlying s).run P w = .ok (.struct fs) w) ∧ fs[n]? = some f ∧ f.offset = off ∧ (∀ w, (sizeOf f.type).run P w = .ok sz w) ∧ sz ≠ 0 ∧ (∀ w, (isAgg f.type).run P w = .ok ag w)
theorem o_fieldAddr {cs : List D} {n off sz : Nat} {ag : Bool} (hf : FieldIs P t n off sz ag) (hx : Env.ev L x = some (.ref (.agg cs))) (hfl : flat cs = true) (hp : part? ag sz off cs = some d) :
    OpP P ⟨dst, .fieldAddr t x n, ty, pos, after, g⟩ L ms (.ref d) := by
  refine .pure (by simp) fun H fr a w hok henv => ?_
  obtain ⟨b, o, us, hv, e1, e2⟩ := enc_ref (henv.ev hx)
  obtain ⟨fs, f, h1, h2, h3, h4, h5, h6⟩ := hf.ex
  obtain ⟨vs, e3, e4⟩ := part_enc hp hfl (by simpa [Enc] using e1)
  refine ⟨.pointer (some ⟨b, o + off, none⟩), ?_, ?_⟩
  · simp [execOp, Instr.fieldAt, Instr.sureAddr, hv, h1, h2, fieldPlace, h4, h5, h3, Sem.run, add_zero']
  · rw [conc_enc (by rfl)]
    simp only [Enc]
    exact ⟨b, _, vs, rfl, e3, fun k u hk => by rw [Nat.add_assoc]; exact e2 _ _ (e4 k u hk)⟩
theorem o_field {cs : List D} {n off sz : Nat} {ag : Bool} (hf : FieldIs P t n off sz ag) (hx : Env.ev L x = some (.agg cs)) (hfl : flat cs = true) (hp : part? ag sz off cs = some d) (hin : off + sz ≤ cs.length) :
    OpP P ⟨dst, .field t x n, ty, pos, after, g⟩ L ms d := by
  refine .pure (by simp) fun H fr a w hok henv => ?_
  obtain ⟨us, hv, e1⟩ := conc_agg.1 (henv.ev hx)
  obtain ⟨fs, f, h1, h2, h3, h4, h5, h6⟩ := hf.ex
  obtain ⟨hlen, hget⟩ := EncL.get cs us e1 hfl
  cases ag with
  | true =>
    simp only [part?, Option.some.injEq] at hp
    subst hp
    refine ⟨.agg ((us.drop off).take sz).toArray, ?_, ?_⟩
    · have : us.toArray.extract off (off + sz) = ((us.drop off).take sz).toArray := by
        apply Array.ext'; simp
      simp [execOp, Instr.field, asAgg, hv, h1, h2, part, h6, h4, h3, Sem.run, this]
    · refine conc_agg.2 ⟨_, rfl, EncL.of_get _ _ (flat_take _ _ (flat_drop _ _ hfl)) (by simp [hlen]) fun k c hk => ?_⟩
      rw [List.getElem?_take] at hk
      split at hk
      · rename_i hlt
        rw [List.getElem?_drop] at hk
        obtain ⟨u, h3, h4⟩ := hget _ _ hk
        exact ⟨u, by rw [List.getElem?_take, if_pos hlt, List.getElem?_drop]; exact h3, h4⟩
      · cases hk
  | false =>
    obtain ⟨u, h7, h8⟩ := hget off d hp
    have hna := flat_get cs off d hfl hp
    refine ⟨u, ?_, (conc_enc hna).2 h8⟩
    have h7' : us.toArray[off]? = some u := by simpa using h7
    simp [execOp, Instr.field, asAgg, hv, h1, h2, part, h6, h3, h7, Sem.run]
theorem o_extract {ds : List D} {n : Nat} (hx : Env.ev L x = some (.tup ds)) (hn : ds[n]? = some d) : OpP P ⟨dst, .extract x n, ty, pos, after, g⟩ L ms d := by
  refine .pure (by simp) fun H fr a w hok henv => ?_
  have h := (conc_enc (by rfl)).1 (henv.ev hx)
  simp only [Enc] at h
  obtain ⟨us, hv, e⟩ := h
  simp at hv
  obtain ⟨u, h1, h2⟩ := ConcL.get ds us n d e hn
  exact ⟨u, by simp [execOp, Instr.extract, hv, h1, Sem.run], h2⟩
theorem conc_cells {H : PH} {v : Value} (h : Conc H d v) (ho : v.oneCell' = true ∨ d.isAgg = true) : Enc H d v.cells.toList := by
  obtain ⟨vs, e, hv⟩ := h
  cases d with
  | agg cs => simp only [D.val] at hv; subst hv; simpa [Value.cells] using e
  | _ =>
    simp only [D.val] at hv
    subst hv
    rcases ho with ho | ho
    · cases v <;> simp_all [Value.cells, Value.oneCell']
    · simp [D.isAgg] at ho
/-- Storable: no tuple, no bare struct in a cell. -/
def D.storable : D → Bool
  | .v x => x.oneCell'
  | .tup _ => false
  | _ => true
theorem storable_one {H : PH} {v : Value} (h : Conc H d v) (hs : d.storable = true) : v.oneCell' = true ∨ d.isAgg = true := by
  cases d with
  | agg cs => right; rfl
  | v x => left; rw [conc_v.1 h]; exact hs
  | list sz f l => left; obtain ⟨a, cap, hv, _⟩ := enc_list h; subst hv; rfl
  | ref x => left; obtain ⟨b, off, us, hv, _⟩ := enc_ref h; subst hv; rfl
  | tup ds => simp [D.storable] at hs
  | clo fn fs cs =>
    left
    have h := (conc_enc (by rfl)).1 h
    simp only [Enc] at h
    obtain ⟨us, ws, hv, _⟩ := h
    simp at hv; subst hv; rfl
/-- A new variable that is never written again. -/
theorem o_box (hx : Env.ev L x = some d) (hs : d.storable = true) : OpP P ⟨dst, .box t x, ty, pos, after, g⟩ L ms (.ref d) := by
  refine .val (by simp) fun H fr a w hok henv => ?_
  have hc := henv.ev hx
  have e := conc_cells hc (storable_one hc hs)
  obtain ⟨h1, h2⟩ := hok.persist (a.eval x).cells.toList t
  refine ⟨.pointer (some ⟨w.heap.size, 0, none⟩), .ref d, ms, w.alloc (.cells (a.eval x).cells.toList.toArray t), _, ?_, ⟨rfl, rfl⟩, h2, h1, ?_, sameOut_alloc _ _⟩
  · simp [execOp, Instr.box, newVar, newRow, newObj, Sem.run]
  · rw [conc_enc (by rfl)]
    simp only [Enc]
    exact ⟨_, _, _, rfl, Enc.mono h2 _ _ e, fun k u hk => by simp [PH.add, hk]⟩
/-- A new variable of one's own. -/
theorem o_box_own {cs : List D} (hx : Env.ev L x = some d) (hs : d.storable = true) (hcs : (match d with | .agg cs => cs | d => [d]) = cs) :
    OpT P ⟨dst, .box t x, ty, pos, after, g⟩ L ms (fun d' ms' => ∃ b, d' = .v (.pointer (some ⟨b, 0, none⟩)) ∧ ms' = box b t cs :: ms) := by
  refine .val (by simp) fun H fr a w hok henv => ?_
  have hc := henv.ev hx
  have e := conc_cells hc (storable_one hc hs)
  refine ⟨.pointer (some ⟨w.heap.size, 0, none⟩), _, _, w.alloc (.cells (a.eval x).cells.toList.toArray t), H, ?_, ⟨w.heap.size, rfl, rfl⟩, PH.le_refl H, ?_, conc_v.2 rfl, sameOut_alloc _ _⟩
  · simp [execOp, Instr.box, newVar, newRow, newObj, Sem.run]
  · refine hok.own (A := box w.heap.size t cs) rfl ⟨_, heap_alloc_new _ _, ?_, fun o => hok.none_new _ _ (Nat.le_refl _)⟩
    subst hcs
    cases d with
    | agg cs => simpa [Enc] using e
    | _ => simp only [EncL]; exact ⟨_, [], by simp, e, rfl⟩
end ops
end Go.V
set_option linter.unusedVariables false
set_option linter.unusedSimpArgs false
namespace Go.V
section ops
variable {P : Program} {L : Env} {ms : List Asrt} {dst : Option Nat} {ty : TypeId} {pos : String} {after : Array Edge} {g : Option (Nat × Bool)} {d d' : D} {x y : Operand} {t t' : TypeId}
theorem box_cells {H : PH} {as : List Asrt} {w : World} {b : Nat} {T : TypeId} {cs : List D} {k : Nat} (hok : HeapOk H as w) (hk : as[k]? = some (box b T cs)) :
    ∃ vs, w.heap[b]? = some (.cells vs.toArray T (0, 0)) ∧ EncL H cs vs ∧ ∀ o, H b o = none :=
  hok.ok _ (List.mem_of_getElem? hk)
theorem getElem?_app {α : Type _} {l r : List α} {k : Nat} {x : α} (h : l[k]? = some x) : (l ++ r)[k]? = some x := by
  obtain ⟨h1, h2⟩ := List.getElem?_eq_some_iff.1 h
  rw [List.getElem?_append_left h1]; exact h
theorem o_load_box {b off : Nat} {T : TypeId} {cs : List D} (k : Nat) (ha : ∀ w, (isAgg t).run P w = .ok false w) (hx : Env.ev L x = some (.v (.pointer (some ⟨b, off, none⟩)))) (hk : ms[k]? = some (box b T cs)) (hf : flat cs = true) (hd : cs[off]? = some d) :
    OpP P ⟨dst, .load t x, ty, pos, after, g⟩ L ms d := by
  refine .pure (by simp) fun H fr a w hok henv => ?_
  obtain ⟨vs, h1, h2, _⟩ := box_cells hok (getElem?_app hk)
  obtain ⟨h3, h4⟩ := EncL.get cs vs h2 hf
  obtain ⟨u, h5, h6⟩ := h4 off d hd
  have hc : w.cell? ⟨b, off, none⟩ = some u := by simp [World.cell?, h1, h5]
  exact ⟨u, by simp [execOp, Instr.loadAt, Instr.sureAddr, ev_v henv hx, loadVar, ha, load, Sem.run, hc], (conc_enc (flat_get cs off d hf hd)).2 h6⟩
theorem o_load_box_agg {b off sz : Nat} {T : TypeId} {cs ds : List D} (k : Nat) (ha : ∀ w, (isAgg t).run P w = .ok true w) (hs : ∀ w, (sizeOf t).run P w = .ok sz w) (hx : Env.ev L x = some (.v (.pointer (some ⟨b, off, none⟩)))) (hk : ms[k]? = some (box b T cs)) (hf : flat cs = true)
    (hd : (cs.drop off).take sz = ds) (hl : off + sz ≤ cs.length) : OpP P ⟨dst, .load t x, ty, pos, after, g⟩ L ms (.agg ds) := by
  refine .pure (by simp) fun H fr a w hok henv => ?_
  obtain ⟨vs, h1, h2, _⟩ := box_cells hok (getElem?_app hk)
  obtain ⟨h3, h4⟩ := EncL.get cs vs h2 hf
  have hl' := run_loadCells_list (P := P) w ⟨b, off, none⟩ ((vs.drop off).take sz) (fun j v hj => by
    rw [add_zero']
    rw [List.getElem?_take] at hj
    split at hj
    · rw [List.getElem?_drop] at hj; simp [World.cell?, h1, hj]
    · cases hj)
  have hlen : ((vs.drop off).take sz).length = sz := by simp; omega
  rw [hlen] at hl'
  refine ⟨.agg ((vs.drop off).take sz).toArray, by simp [execOp, Instr.loadAt, Instr.sureAddr, ev_v henv hx, loadVar, ha, hs, hl', Sem.run], conc_agg.2 ⟨_, rfl, ?_⟩⟩
  subst hd
  refine EncL.of_get _ _ (flat_take _ _ (flat_drop _ _ hf)) (by simp [h3]) fun k c hk => ?_
  rw [List.getElem?_take] at hk
  split at hk
  · rename_i hlt
    rw [List.getElem?_drop] at hk
    obtain ⟨u, h5, h6⟩ := h4 _ _ hk
    exact ⟨u, by rw [List.getElem?_take, if_pos hlt, List.getElem?_drop]; exact h5, h6⟩
  · cases hk
theorem o_fieldAddr_box {b o n off sz : Nat} {ag : Bool} (hf : FieldIs P t n off sz ag) (hx : Env.ev L x = some (.v (.pointer (some ⟨b, o, none⟩)))) : OpP P ⟨dst, .fieldAddr t x n, ty, pos, after, g⟩ L ms (.v (.pointer (some ⟨b, o + off, none⟩))) := by
  refine .pure (by simp) fun H fr a w hok henv => ?_
  obtain ⟨fs, f, h1, h2, h3, h4, h5, h6⟩ := hf.ex
  exact ⟨_, by simp [execOp, Instr.fieldAt, Instr.sureAddr, ev_v henv hx, h1, h2, fieldPlace, h4, h5, h3, Sem.run, add_zero'], conc_v.2 rfl⟩
/-- The cells of a datum. -/
def D.cs : D → List D
  | .agg cs => cs
  | d => [d]
theorem conc_cs {H : PH} {v : Value} (h : Conc H d v) (hs : d.storable = true) : EncL H d.cs v.cells.toList := by
  have e := conc_cells h (storable_one h hs)
  cases d with
  | agg cs => simpa [Enc, D.cs] using e
  | _ => simp only [D.cs, EncL]; exact ⟨_, [], by simp, e, rfl⟩
def storableL : List D → Bool
  | [] => true
  | c :: cs => c.storable && storableL cs
theorem enc_oneCell {H : PH} {c : D} {u : Value} (hn : c.isAgg = false) (hs : c.storable = true) (e : Enc H c [u]) : u.oneCell' = true := by
  rcases storable_one ((conc_enc hn).2 e) hs with h | h
  · exact h
  · rw [hn] at h; cases h
theorem encL_oneCell {H : PH} : ∀ (cs : List D) (vs : List Value), flat cs = true → storableL cs = true → EncL H cs vs → ∀ v ∈ vs, v.oneCell' = true
  | [], vs, _, _, e => by simp only [EncL] at e; subst e; simp
  | c :: cs, vs, hf, hs, e => by
    simp only [EncL] at e
    obtain ⟨a, r, hv, e1, e2⟩ := e
    obtain ⟨h1, h2⟩ := flat_cons hf
    simp only [storableL, Bool.and_eq_true] at hs
    obtain ⟨u, rfl⟩ := enc_one h1 e1
    subst hv
    intro v hv
    simp at hv
    rcases hv with rfl | hv
    · exact enc_oneCell h1 hs.1 e1
    · exact encL_oneCell cs r h2 hs.2 e2 v hv
theorem encL_append {H : PH} : ∀ (as bs : List D) (us vs : List Value), EncL H as us → EncL H bs vs → EncL H (as ++ bs) (us ++ vs)
  | [], bs, us, vs, e, e' => by simp only [EncL] at e; subst e; exact e'
  | a :: as, bs, us, vs, e, e' => by
    simp only [EncL] at e
    obtain ⟨p, r, hv, e1, e2⟩ := e
    subst hv
    simp only [List.cons_append, EncL, List.append_assoc]
    exact ⟨p, r ++ vs, rfl, e1, encL_append as bs r vs e2 e'⟩
theorem encL_drop {H : PH} (cs : List D) (vs : List Value) (hf : flat cs = true) (e : EncL H cs vs) (n : Nat) : EncL H (cs.drop n) (vs.drop n) := by
  obtain ⟨h1, h2⟩ := EncL.get cs vs e hf
  refine EncL.of_get _ _ (flat_drop _ _ hf) (by simp [h1]) fun k c hk => ?_
  rw [List.getElem?_drop] at hk
  obtain ⟨u, h3, h4⟩ := h2 _ _ hk
  exact ⟨u, by rw [List.getElem?_drop]; exact h3, h4⟩
theorem encL_take {H : PH} (cs : List D) (vs : List Value) (hf : flat cs = true) (e : EncL H cs vs) (n : Nat) : EncL H (cs.take n) (vs.take n) := by
  obtain ⟨h1, h2⟩ := EncL.get cs vs e hf
  refine EncL.of_get _ _ (flat_take _ _ hf) (by simp [h1]) fun k c hk => ?_
  rw [List.getElem?_take] at hk
  split at hk
  · rename_i hlt
    obtain ⟨u, h3, h4⟩ := h2 _ _ hk
    exact ⟨u, by rw [List.getElem?_take, if_pos hlt]; exact h3, h4⟩
  · cases hk
/-- What a store makes of a block's cells. -/
def putCs (off : Nat) (ds cs : List D) : List D := cs.take off ++ (ds ++ cs.drop (off + ds.length))
theorem box_upd {H : PH} {as : List Asrt} {w : World} {b : Nat} {T : TypeId} {cs cs' : List D} {us : List Value} (hok : HeapOk H (box b T cs :: as) w) (e : EncL H cs' us) :
    HeapOk H (box b T cs' :: as) (w.setRow b us.toArray) := by
  obtain ⟨vs, h1, h2, h3⟩ := box_cells (k := 0) hok rfl
  have hlt : b < w.heap.size := hok.lt (box b T cs) (by simp) b (by simp [box])
  refine hok.upd rfl (by simp [World.setRow]) ?_ (fun _ _ _ _ => rfl) (PH.le_refl H) ?_ ?_
  · intro b' _ hn
    have : b ≠ b' := fun e => hn (by simp [box, e])
    simp [World.setRow, Array.getElem?_modify, this]
  · intro b' o v hb hv
    rcases hb with hb | hb
    · simp [box] at hb; subst hb; rw [h3] at hv; cases hv
    · rw [hok.none_new _ _ hb] at hv; cases hv
  · refine ⟨us, ?_, e, h3⟩
    show (w.setRow b us.toArray).heap[b]? = _
    simp [World.setRow, Array.getElem?_modify, h1]
theorem o_store_box {b off sz : Nat} {T : TypeId} {cs : List D} (k : Nat) (hs : ∀ w, (sizeOf t).run P w = .ok sz w) (hx : Env.ev L x = some (.v (.pointer (some ⟨b, off, none⟩)))) (hk : ms[k]? = some (box b T cs)) (hf : flat cs = true)
    (hy : Env.ev L y = some d) (hd : flat d.cs = true) (hst : d.storable = true) (hst2 : storableL d.cs = true) (hsz : d.cs.length = sz) (hl : off + sz ≤ cs.length) :
    OpT P ⟨dst, .store t x y, ty, pos, after, g⟩ L ms (fun _ ms' => ms' = ms.set k (box b T (putCs off d.cs cs))) := by
  refine .skip (by simp) fun H fr a w hok henv => ?_
  obtain ⟨vs, h1, h2, h3⟩ := box_cells hok (getElem?_app hk)
  obtain ⟨h4, h5⟩ := EncL.get cs vs h2 hf
  have hv := conc_cs (henv.ev hy) hst
  have hvl := (EncL.get _ _ hv hd).1
  have hone := encL_oneCell _ _ hd hst2 hv
  have hrun := run_storeCells_at (P := P) b off T (a.eval y).cells.toList 0 vs.toArray w h1 (by simp only [List.size_toArray]; omega) hone
  refine ⟨_, w.setRow b (vs.take off ++ ((a.eval y).cells.toList ++ vs.drop (off + (a.eval y).cells.toList.length))).toArray, H, ?_, rfl, PH.le_refl H, ?_, ⟨rfl, rfl, rfl, by simp [World.setRow]⟩⟩
  · have hcs : (a.eval y).cells.size = sz := by rw [← Array.length_toList, hvl, hsz]
    have e2 : (vs.take (off + 0) ++ (a.eval y).cells.toList ++ vs.drop (off + 0 + (a.eval y).cells.toList.length)) = vs.take off ++ ((a.eval y).cells.toList ++ vs.drop (off + (a.eval y).cells.toList.length)) := by simp
    simp only [] at hrun
    rw [e2] at hrun
    simp only [execOp, Instr.storeAt, Instr.sureAddr, ev_v henv hx, storeVar, Sem.run_bind, Sem.run_pure, Result.andThen_ok, hs, hcs, ne_eq, not_true_eq_false, if_false, hrun]
  · have p1 : (ms ++ fr).Perm (box b T cs :: (ms.eraseIdx k ++ fr)) := by
      rw [← List.cons_append]; exact (perm_at ms k _ hk).append_right fr
    have p2 : (box b T (putCs off d.cs cs) :: (ms.eraseIdx k ++ fr)).Perm (ms.set k (box b T (putCs off d.cs cs)) ++ fr) := by
      rw [← List.cons_append]; exact (perm_set ms k _ _ hk).append_right fr
    refine (box_upd (hok.perm p1) ?_).perm p2
    unfold putCs
    rw [hvl]
    exact encL_append _ _ _ _ (encL_take _ _ hf h2 _) (encL_append _ _ _ _ hv (encL_drop _ _ hf h2 _))
/-- A zero value's cells, told as data. -/
def zmatch1 : D → Value → Bool
  | .v (.int k n), .int k' n' => k == k' && n == n'
  | .v (.bool b), .bool b' => b == b'
  | .v (.string s), .string s' => s.data.toList.isEmpty && s'.data.toList.isEmpty
  | .v (.pointer none), .pointer none => true
  | .v (.map none), .map none => true
  | .v (.chan none), .chan none => true
  | .v .nilFunc, .nilFunc => true
  | .v .nilIface, .nilIface => true
  | .list _ _ l, .slice none 0 0 => l.isEmpty
  | .v (.slice none 0 0), .slice none 0 0 => true
  | _, _ => false
def zmatch : List D → List Value → Bool
  | [], [] => true
  | d :: ds, v :: vs => zmatch1 d v && zmatch ds vs
  | _, _ => false
theorem zmatch1_enc {H : PH} {d : D} {v : Value} (h : zmatch1 d v = true) : Enc H d [v] ∧ d.isAgg = false := by
  unfold zmatch1 at h
  split at h <;> simp_all [Enc, D.isAgg]
  · rename_i s s'
    have : s.data.toList = s'.data.toList := by simp [h.1, h.2]
    have := Array.ext' this
    cases s; cases s'; simp_all
  · exact ⟨none, 0, by simp, by omega⟩
theorem zmatch_enc {H : PH} : ∀ (ds : List D) (vs : List Value), zmatch ds vs = true → EncL H ds vs ∧ flat ds = true
  | [], [], _ => by simp [EncL, flat]
  | d :: ds, v :: vs, h => by
    simp only [zmatch, Bool.and_eq_true] at h
    obtain ⟨h1, h2⟩ := zmatch1_enc (H := H) h.1
    obtain ⟨h3, h4⟩ := zmatch_enc (H := H) ds vs h.2
    refine ⟨by simp only [EncL]; exact ⟨[v], vs, by simp, h1, h3⟩, ?_⟩
    cases d <;> simp_all [flat, D.isAgg]
  | [], _ :: _, h => by simp [zmatch] at h
  | _ :: _, [], h => by simp [zmatch] at h
/-- A new variable with its zero value, of one's own. -/
theorem o_alloc_own {z : Value} {cs : List D} (hz : ∀ w, (zeroValue t).run P w = .ok z w) (hm : zmatch cs z.cells.toList = true) :
    OpT P ⟨dst, .alloc t, ty, pos, after, g⟩ L ms (fun d' ms' => ∃ b, d' = .v (.pointer (some ⟨b, 0, none⟩)) ∧ ms' = box b t cs :: ms) := by
  refine .val (by simp) fun H fr a w hok henv => ?_
  refine ⟨.pointer (some ⟨w.heap.size, 0, none⟩), _, _, w.alloc (.cells z.cells.toList.toArray t), H, ?_, ⟨w.heap.size, rfl, rfl⟩, PH.le_refl H, ?_, conc_v.2 rfl, sameOut_alloc _ _⟩
  · simp [execOp, Instr.alloc, hz, newVar, newRow, newObj, Sem.run]
  · exact hok.own (A := box w.heap.size t cs) rfl ⟨_, heap_alloc_new _ _, (zmatch_enc _ _ hm).1, fun o => hok.none_new _ _ (Nat.le_refl _)⟩
/-- The fields' places. -/
def placesOf (P : Program) (fs : Array Field) (pl : List (Nat × Nat)) : Prop := ∀ w, (Array.mapM (fun (f : Field) => Functor.map (Prod.mk f.offset) (sizeOf f.type)) fs : Sem (Array (Nat × Nat))).run P w = .ok pl.toArray w
/-- What 'build' makes of the parts. -/
def fillD (pl : List (Nat × Nat)) (cs : List D) : List (Nat × D) → Option (List D)
  | [] => some cs
  | (i, d) :: r => match pl[i]? with
    | some (off, sz) => if d.cs.length = sz ∧ off + sz ≤ cs.length ∧ flat d.cs = true then fillD pl (putCs off d.cs cs) r else none
    | none => none
end ops
end Go.V
set_option linter.unusedVariables false
set_option linter.unusedSimpArgs false
namespace Go.V
theorem foldl_put (off : Nat) : ∀ (us : List Value) (j : Nat) (cells : List Value), off + j + us.length ≤ cells.length →
    (us.zipIdx j).foldl (fun (cs : Array Value) (p : Value × Nat) => cs.setIfInBounds (off + p.2) p.1) cells.toArray = (cells.take (off + j) ++ us ++ cells.drop (off + j + us.length)).toArray
  | [], j, cells, h => by simp
  | u :: us, j, cells, h => by
    simp only [List.zipIdx_cons, List.foldl_cons]
    have hl : (cells.set (off + j) u).length = cells.length := by simp
    have ih := foldl_put off us (j + 1) (cells.set (off + j) u) (by simp at h ⊢; omega)
    rw [show cells.toArray.setIfInBounds (off + j) u = (cells.set (off + j) u).toArray by simp]
    rw [ih]
    congr 1
    simp at h
    have h1 : off + j < cells.length := by omega
    apply List.ext_getElem?
    intro i
    simp only [List.getElem?_append, List.length_append, List.length_take, List.length_set, List.getElem?_take, List.getElem?_drop, List.length_cons, List.getElem?_cons, List.getElem?_set, List.append_assoc]
    by_cases c1 : i < off + j
    · have : i < off + (j + 1) := by omega
      simp [c1, this, show min (off + (j + 1)) cells.length = off + (j + 1) by omega, show min (off + j) cells.length = off + j by omega]
      intro h'; omega
    · by_cases c2 : i = off + j
      · subst c2
        simp [show min (off + (j + 1)) cells.length = off + (j + 1) by omega, show min (off + j) cells.length = off + j by omega, show off + j < off + (j + 1) by omega, h1]
      · have c3 : ¬ i < off + (j + 1) := by omega
        simp [c1, c3, show min (off + (j + 1)) cells.length = off + (j + 1) by omega, show min (off + j) cells.length = off + j by omega]
        have c4 : ¬ i - (off + j) = 0 := by omega
        rw [show i - (off + (j + 1)) = i - (off + j) - 1 by omega]
        by_cases c5 : i - (off + j) - 1 < us.length
        · have : i - (off + j) < us.length + 1 := by omega
          simp [c5, this, c4]
        · have : ¬ i - (off + j) < us.length + 1 := by omega
          simp [c5, this]
          rw [if_neg (by omega)]
          congr 1; omega
section ops
variable {P : Program} {L : Env} {ms : List Asrt} {dst : Option Nat} {ty : TypeId} {pos : String} {after : Array Edge} {g : Option (Nat × Bool)} {d d' : D} {x y : Operand} {t t' : TypeId}
theorem fill_one (us : List Value) (off : Nat) (cells : List Value) (h : off + us.length ≤ cells.length) :
    (us.toArray.zipIdx.foldl (fun (cs : Array Value) (p : Value × Nat) => cs.setIfInBounds (off + p.2) p.1) cells.toArray) = (cells.take off ++ (us ++ cells.drop (off + us.length))).toArray := by
  have := foldl_put off us 0 cells (by omega)
  rw [← Array.foldl_toList]
  simp at this ⊢
  exact this
/-- The parts, by their operands. -/
def evP (L : Env) : List (Nat × Operand) → Option (List (Nat × D))
  | [] => some []
  | (i, x) :: r => match Env.ev L x, evP L r with
    | some d, some ds => some ((i, d) :: ds)
    | _, _ => none
def storableP : List (Nat × D) → Bool
  | [] => true
  | (_, d) :: r => d.storable && storableP r
theorem fill_run {H : PH} {a : Act} (henv : EnvOk H L a.tmps) {pl : List (Nat × Nat)} {place : Nat → Option (Nat × Nat)} (hpl : ∀ i, place i = pl[i]?) : ∀ (ps : List (Nat × Operand)) (ds : List (Nat × D)) (cs cs' : List D) (vs : List Value), evP L ps = some ds → storableP ds = true →
    EncL H cs vs → flat cs = true → fillD pl cs ds = some cs' → ∃ vs', Instr.fill place vs.toArray (ps.map fun p => (p.1, a.eval p.2)) = some vs'.toArray ∧ EncL H cs' vs' ∧ flat cs' = true
  | [], ds, cs, cs', vs, h, _, e, hf, hfi => by
    simp only [evP, Option.some.injEq] at h
    subst h
    simp only [fillD, Option.some.injEq] at hfi
    subst hfi
    exact ⟨vs, rfl, e, hf⟩
  | (i, x) :: ps, ds, cs, cs', vs, h, hst, e, hf, hfi => by
    simp only [evP] at h
    split at h
    · rename_i d ds' h1 h2
      simp only [Option.some.injEq] at h
      subst h
      simp only [storableP, Bool.and_eq_true] at hst
      simp only [fillD] at hfi
      split at hfi
      · rename_i off sz h3
        split at hfi
        · rename_i hc
          obtain ⟨c1, c2, c3⟩ := hc
          have hv := conc_cs (henv.ev h1) hst.1
          have hvl := (EncL.get _ _ hv c3).1
          obtain ⟨hl, _⟩ := EncL.get _ _ e hf
          have hsz : (a.eval x).cells.size = sz := by rw [← Array.length_toList, hvl, c1]
          have e2 : EncL H (putCs off d.cs cs) (vs.take off ++ ((a.eval x).cells.toList ++ vs.drop (off + (a.eval x).cells.toList.length))) := by
            unfold putCs; rw [hvl]
            exact encL_append _ _ _ _ (encL_take _ _ hf e _) (encL_append _ _ _ _ hv (encL_drop _ _ hf e _))
          have hf2 : flat (putCs off d.cs cs) = true := by
            have app : ∀ (as bs : List D), flat as = true → flat bs = true → flat (as ++ bs) = true := by
              intro as bs ha hb
              induction as with
              | nil => exact hb
              | cons q as ih => have := ih (flat_cons ha).2; cases q <;> simp_all [flat]
            exact app _ _ (flat_take _ _ hf) (app _ _ c3 (flat_drop _ _ hf))
          obtain ⟨vs', k1, k2, k3⟩ := fill_run henv hpl ps ds' _ cs' _ h2 hst.2 e2 hf2 hfi
          refine ⟨vs', ?_, k2, k3⟩
          simp only [List.map_cons, Instr.fill, hpl, h3]
          have hno : (decide ((a.eval x).cells.size ≠ sz) || decide (off + (a.eval x).cells.size > vs.toArray.size)) = false := by simp [hsz]; omega
          rw [hno, if_neg (by simp)]
          have := fill_one (a.eval x).cells.toList off vs (by simp [hsz]; omega)
          simp only [Array.toArray_toList] at this
          rw [this]
          exact k1
        · cases hfi
      · cases hfi
    · cases h
theorem o_build {z : Value} {zs cs : List D} {fs : Array Field} {pl : List (Nat × Nat)} {ps : List (Nat × Operand)} {ds : List (Nat × D)} (hu : ∀ w, (underlying t).run P w = .ok (.struct fs) w) (hz : ∀ w, (zeroValue t).run P w = .ok z w) (hpl : placesOf P fs pl)
    (hm : zmatch zs z.cells.toList = true) (hev : evP L ps = some ds) (hst : storableP ds = true) (hfi : fillD pl zs ds = some cs) : OpP P ⟨dst, .build t ps.toArray, ty, pos, after, g⟩ L ms (.agg cs) := by
  refine .pure (by simp) fun H fr a w hok henv => ?_
  obtain ⟨h1, h2⟩ := zmatch_enc (H := H) _ _ hm
  obtain ⟨vs', k1, k2, k3⟩ := fill_run henv (place := fun i => pl[i]?) (fun i => rfl) ps ds zs cs z.cells.toList hev hst h1 h2 hfi
  refine ⟨.agg vs'.toArray, ?_, conc_agg.2 ⟨vs', rfl, k2⟩⟩
  simp only [Array.toArray_toList] at k1
  have hp := hpl w
  simp [execOp, Instr.build, hz, hu, hp, Sem.run, k1]
def evL (L : Env) : List Operand → Option (List D)
  | [] => some []
  | x :: r => match Env.ev L x, evL L r with
    | some d, some ds => some (d :: ds)
    | _, _ => none
theorem evL_conc {H : PH} {a : Act} (henv : EnvOk H L a.tmps) : ∀ (xs : List Operand) (ds : List D), evL L xs = some ds → ConcL H ds (xs.map a.eval)
  | [], ds, h => by simp only [evL, Option.some.injEq] at h; subst h; simp [ConcL]
  | x :: xs, ds, h => by
    simp only [evL] at h
    split at h
    · rename_i d ds' h1 h2
      simp only [Option.some.injEq] at h
      subst h
      simp only [List.map_cons, ConcL]
      exact ⟨_, _, rfl, henv.ev h1, evL_conc henv xs ds' h2⟩
    · cases h
theorem op_enter {ro : Option Nat} {o : Oper} {a : Act} {w w' : World} {f : FuncId} {args : Array Value} {R : Ending → World → Prop} {next : Act → World → Prop} {Q : Exit → Act → World → Prop} (hnd : ∀ c, o.op ≠ .defer c)
    (h : (execOp a.eval o).run P w = .ok (.enter f args) w') (hc : Calls P f args w' R) (hn : ∀ e w'', R e w'' → ∃ v, e = .returned v ∧ next (a.put o.dst v) w'') : o.wpIn (FR ro) 0 P a w next Q := by
  refine ⟨fun _ _ => trivial, ?_⟩
  rw [Oper.semAt_eq _ _ _ hnd, h]
  refine ⟨by simp, trivial, fun cs _ => ?_⟩
  obtain ⟨e, w'', fr, r, s, rest⟩ := hc cs
  obtain ⟨v, rfl, hv⟩ := hn e w'' r
  refine ⟨.returned v, w'', fr, hv, ?_, rest⟩
  exact StepsIn.mono (fun m _ => (fenced_wide P m)) (StepsIn.of_steps s)
/-- A call of a named function: what it needs of what is owned is ms₁. -/
theorem o_call {f : FuncId} {args : List Operand} {ats : Array TypeId} {ds : List D} {ms₁ rest : List Asrt} {R : D → List Asrt → Prop} (hc : ∀ args w, (callFunc f args).run P w = .ok (.enter f args) w) (hev : evL L args = some ds)
    (hsplit : ms.Perm (ms₁ ++ rest)) (hf : Fn P f ds ms₁ R) : OpT P ⟨dst, .call ⟨.value (.func f), args.toArray, ats⟩, ty, pos, after, g⟩ L ms (fun d ms' => ∃ ms₁', R d ms₁' ∧ ms' = ms₁' ++ rest) := by
  intro ro H fr a w hok henv next Q hn
  have hok' : HeapOk H (ms₁ ++ (rest ++ fr)) w := by rw [← List.append_assoc]; exact hok.perm (hsplit.append_right fr)
  refine op_enter (w' := w) (by simp) ?_ (hf H (rest ++ fr) w (args.map a.eval) hok' (evL_conc henv args ds hev)) ?_
  · simp [execOp, resolve, Act.eval, Deferred.ofValue, invoke, Sem.run, hc, Sem.run_bind]
  · rintro e w'' ⟨v, d, ms', H', rfl, hR, hle, hok'', hcc, hs⟩
    exact ⟨v, rfl, hn v d _ w'' H' ⟨ms', hR, rfl⟩ hle (by rw [List.append_assoc]; exact hok'') hcc hs⟩
theorem o_call0 {f : FuncId} {args : List Operand} {ats : Array TypeId} {ds : List D} (hc : ∀ args w, (callFunc f args).run P w = .ok (.enter f args) w) (hev : evL L args = some ds) (hf : Fn0 P f ds d) :
    OpP P ⟨dst, .call ⟨.value (.func f), args.toArray, ats⟩, ty, pos, after, g⟩ L ms d := by
  have hf' : Fn P f ds [] (fun d' ms' => d' = d ∧ ms' = []) := by
    intro H fr w vs hok hargs
    refine (hf H fr w vs hok hargs).mono ?_
    rintro e w' ⟨v, d', ms', H', he, hd, hle, hok', hc, hs⟩
    exact ⟨v, d', [], H', he, ⟨hd, rfl⟩, hle, by simpa using hok'.drop, hc, hs⟩
  have := o_call (P := P) (L := L) (ms := ms) (dst := dst) (ty := ty) (pos := pos) (after := after) (g := g) (ats := ats) (ms₁ := []) (rest := ms) hc hev (List.Perm.refl ms) hf'
  intro ro H fr a w hok henv next Q hn
  refine this ro H fr a w hok henv next Q ?_
  rintro v d' ms' w' H' ⟨ms₁', ⟨rfl, rfl⟩, rfl⟩ hle hok' hc' hs
  exact hn v d' _ w' H' ⟨rfl, rfl⟩ hle hok' hc' hs
end ops
end Go.V
set_option linter.unusedVariables false
set_option linter.unusedSimpArgs false
namespace Go.V
/-- Each entry of the first is found in the second. -/
def SubEnv : Env → Env → Prop
  | [], _ => True
  | (i, d) :: r, L => Env.find L i = some d ∧ SubEnv r L
theorem SubEnv.find : ∀ {A L : Env} {t : Nat} {d : D}, SubEnv A L → Env.find A t = some d → Env.find L t = some d
  | [], L, t, d, _, h => by simp [Env.find] at h
  | (i, e) :: A, L, t, d, s, h => by
    simp only [Env.find] at h
    cases hb : Nat.beq i t with
    | true =>
      rw [hb] at h
      have : i = t := Nat.eq_of_beq_eq_true hb
      subst this
      simp only [Option.some.injEq] at h
      subst h
      exact s.1
    | false => rw [hb] at h; exact SubEnv.find s.2 h
/-- The entries of some slots. -/
def Env.only : List Nat → Env → Env
  | [], _ => []
  | t :: ks, L => match Env.find L t with
    | some d => (t, d) :: Env.only ks L
    | none => Env.only ks L
theorem SubEnv.append : ∀ {A B L : Env}, SubEnv A L → SubEnv B L → SubEnv (A ++ B) L
  | [], _, _, _, h => h
  | (i, d) :: A, B, L, h, k => ⟨h.1, SubEnv.append h.2 k⟩
theorem refines_sub {L L' : Env} {ms : List Asrt} (h : SubEnv L' L) : Refines L ms L' ms := by
  intro Γ a w m
  obtain ⟨H, marks, hle, hok, henv, hdf⟩ := m.ex
  exact ⟨⟨H, marks, hle, hok, fun t d ht => henv t d (h.find ht), hdf⟩, m.size, m.same⟩
/-- What is owned is forgotten in part. -/
theorem refines_junk {L : Env} {ms : List Asrt} (junk : List Asrt) : Refines L (junk ++ ms) L ms := by
  intro Γ a w m
  obtain ⟨H, marks, hle, hok, henv, hdf⟩ := m.ex
  rw [List.append_assoc] at hok
  exact ⟨⟨H, marks, hle, hok.drop, henv, hdf⟩, m.size, m.same⟩
theorem Refines.trans {L L' L'' : Env} {ms ms' ms'' : List Asrt} (h : Refines L ms L' ms') (k : Refines L' ms' L'' ms'') : Refines L ms L'' ms'' := fun Γ a w m => k Γ a w (h Γ a w m)
section
variable {Γ : Ctx} {P : Program} {L : Env} {ms : List Asrt} {K : KT}
theorem g_loop' {c : Code} {σ : Type _} (inv : σ → Prop) (env : σ → Env) (own : σ → List Asrt) (μ : σ → Nat) (s₀ : σ) (h₀ : inv s₀) (r₀ : Refines L ms (env s₀) (own s₀))
    (round : ∀ s, inv s → G Γ P c (env s) (own s) (KT.then (fun L ms => ∃ s', inv s' ∧ μ s' < μ s ∧ Refines L ms (env s') (own s')) K)) : G Γ P (.loop c) L ms K := by
  have key : ∀ n s, μ s = n → inv s → ∀ a w, Models Γ (env s) (own s) a w → ∀ (b : Frame) (k : List Item) (cs : List Frame), b.roundOf = (FR Γ.round).round → (FR Γ.round).fn b.fn → (FR Γ.round).room (cs.length + 1 + 0) →
      ∃ e a' w', Post Γ K e a' w' ∧ ArrivesIn (Machine.fenced P (FR Γ.round)) P (lone (b.atR a (.code c :: .inLoop c :: k)) cs w) b k cs e a' w' := by
    intro n
    induction n using Nat.strongRecOn with
    | _ n ih =>
      intro s hn hI a w m b k cs hro hb hr
      obtain ⟨e, a₁, w₁, hq, harr⟩ := round s hI a w m b (.inLoop c :: k) cs hro hb hr
      obtain ⟨L', ms', k', m'⟩ := hq
      cases e with
      | normal =>
        obtain ⟨s', hi, hlt, r⟩ := k'
        obtain ⟨e₂, a₂, w₂, hq₂, harr₂⟩ := ih (μ s') (hn ▸ hlt) s' rfl hi a₁ w₁ (r Γ a₁ w₁ m') b k cs hro hb hr
        exact ⟨e₂, a₂, w₂, hq₂, .of_steps (StepsIn.trans harr (.one (fenced_calm hb hr rfl) stepR_inLoop)) harr₂⟩
      | exit id => exact ⟨_, a₁, w₁, ⟨L', ms', k', m'⟩, .pass (x := .inLoop c) rfl (fun _ _ => .inl (by simp)) harr⟩
      | goto l => exact ⟨_, a₁, w₁, ⟨L', ms', k', m'⟩, .pass (x := .inLoop c) rfl (fun _ _ => .inl (by simp)) harr⟩
      | ret => exact ⟨_, a₁, w₁, ⟨L', ms', k', m'⟩, .pass (x := .inLoop c) rfl (fun _ _ => .inl (by simp)) harr⟩
      | panic ch => exact ⟨_, a₁, w₁, ⟨L', ms', k', m'⟩, .pass (x := .inLoop c) rfl (fun _ _ => .inl (by simp)) harr⟩
      | outgrown => exact ⟨_, a₁, w₁, ⟨L', ms', k', m'⟩, .pass (x := .inLoop c) rfl (fun _ _ => .inl (by simp)) harr⟩
  intro a w m b k cs hro hb hr
  obtain ⟨e, a', w', hq, harr⟩ := key _ s₀ rfl h₀ a w (r₀ Γ a w m) b k cs hro hb hr
  exact ⟨e, a', w', hq, .of_steps (.one (fenced_calm hb hr rfl) stepR_loop) harr⟩
/-- A loop: L1: what stays; mod: what turns. -/
theorem g_loop_k {c : Code} {σ : Type _} (L1 : Env) (inv : σ → Prop) (mod : σ → Env) (own : σ → List Asrt) (μ : σ → Nat) (s₀ : σ) (h₀ : inv s₀) (hs : SubEnv L1 L) (r₀ : SubEnv (mod s₀) L) (o₀ : own s₀ = ms)
    (round : ∀ s, inv s → G Γ P c (mod s ++ L1) (own s) (KT.then (fun L' ms' => ∃ s', inv s' ∧ μ s' < μ s ∧ SubEnv (mod s') L' ∧ SubEnv L1 L' ∧ ∃ junk, ms' = junk ++ own s') K)) : G Γ P (.loop c) L ms K := by
  subst o₀
  refine g_loop' inv (fun s => mod s ++ L1) own μ s₀ h₀ (refines_sub (r₀.append hs)) fun s hs => g_mono (round s hs) ?_
  intro e L' ms' k
  cases e with
  | normal =>
    obtain ⟨s', h1, h2, h3, h4, junk, h5⟩ := k
    subst h5
    exact ⟨s', h1, h2, (refines_junk _).trans (refines_sub (h3.append h4))⟩
  | _ => exact k
/-- Ways that meet again: behind a block all that is known is of a family. -/
theorem g_cut {c : Code} {σ : Type _} (L1 : Env) (inv : σ → Prop) (mod : σ → Env) (own : σ → List Asrt)
    (h : G Γ P c L ms (KT.then (fun L' ms' => ∃ s, inv s ∧ SubEnv (mod s) L' ∧ SubEnv L1 L' ∧ ∃ junk, ms' = junk ++ own s) K))
    (k : ∀ s, inv s → K .normal (mod s ++ L1) (own s)) : G Γ P c L ms K := by
  intro a w m
  refine wpIn_mono (h a w m) ?_
  rintro e a' w' ⟨L', ms', k', m'⟩
  cases e with
  | normal =>
    obtain ⟨s, h1, h2, h3, junk, h4⟩ := k'
    subst h4
    exact ⟨_, _, k s h1, (refines_junk junk).trans (refines_sub (h2.append h3)) Γ a' w' m'⟩
  | _ => exact ⟨L', ms', k', m'⟩
end
theorem i64_id {n : Int} (h : -9223372036854775808 ≤ n ∧ n ≤ 9223372036854775807) : IntKind.i64.wrap n = n := IntWalk.i64_in n h
end Go.V
set_option linter.unusedVariables false
set_option linter.unusedSimpArgs false
namespace Go.V
def ext (o : Oper) (d : D) (L : Env) : Env := match o.dst with
  | some t => (t, d) :: L
  | none => L
def envL (S : Nat → Bool) : List Oper → List D → Nat → Env → Env
  | o :: r, d :: ds, k, L => envL S r ds (k + 1) (if S k then ext o d L else L)
  | _, _, _, L => L
theorem find_ext_ne {o : Oper} {d : D} {L : Env} {t : Nat} (h : o.dst ≠ some t) : Env.find (ext o d L) t = Env.find L t := by
  unfold ext
  cases hd : o.dst with
  | none => rfl
  | some i =>
    have hne : i ≠ t := fun e => h (by rw [hd, e])
    simp only [Env.find]
    have : Nat.beq i t = false := by
      cases hb : Nat.beq i t with
      | true => exact absurd (Nat.eq_of_beq_eq_true hb) hne
      | false => rfl
    rw [this]
theorem find_ext_eq {o : Oper} {d : D} {L : Env} {t : Nat} (h : o.dst = some t) : Env.find (ext o d L) t = some d := by
  unfold ext
  rw [h]
  simp only [Env.find]
  have : Nat.beq t t = true := by simp
  rw [this]
theorem find_congr {S S' : Nat → Bool} {t : Nat} : ∀ (l : List Oper) (ds : List D) (k : Nat) (L L' : Env), (∀ j o, l[j]? = some o → o.dst = some t → S (k + j) = S' (k + j)) → Env.find L t = Env.find L' t →
    Env.find (envL S l ds k L) t = Env.find (envL S' l ds k L') t
  | [], ds, k, L, L', _, h => by simpa [envL] using h
  | o :: r, [], k, L, L', _, h => by simpa [envL] using h
  | o :: r, d :: ds, k, L, L', hs, h => by
    simp only [envL]
    refine find_congr r ds (k + 1) _ _ (fun j o' hj hd => by have := hs (j + 1) o' (by simpa using hj) hd; rwa [show k + 1 + j = k + (j + 1) by omega]) ?_
    by_cases hd : o.dst = some t
    · have := hs 0 o (by simp) hd
      rw [Nat.add_zero] at this
      rw [this]
      split
      · rw [find_ext_eq hd, find_ext_eq hd]
      · exact h
    · split <;> split <;> simp [find_ext_ne hd, h]
theorem find_at {S : Nat → Bool} {t : Nat} {d : D} : ∀ (l : List Oper) (ds : List D) (k i : Nat) (L : Env) (o : Oper), l[i]? = some o → ds[i]? = some d → o.dst = some t → S (k + i) = true →
    (∀ j o', i < j → l[j]? = some o' → o'.dst = some t → S (k + j) = false) → Env.find (envL S l ds k L) t = some d
  | [], ds, k, i, L, o, h, _, _, _, _ => by simp at h
  | o :: r, [], k, i, L, o', _, h, _, _, _ => by simp at h
  | o :: r, e :: ds, k, 0, L, o', h1, h2, h3, h4, h5 => by
    simp at h1 h2
    subst h1 h2
    simp only [envL]
    rw [Nat.add_zero] at h4
    rw [h4, if_pos rfl]
    have hc : Env.find (envL S r ds (k + 1) (ext o e L)) t = Env.find (envL (fun _ => false) r ds (k + 1) (ext o e L)) t :=
      find_congr r ds (k + 1) _ _ (fun j o'' hj hd => by have := h5 (j + 1) o'' (by omega) (by simpa using hj) hd; rwa [show k + 1 + j = k + (j + 1) by omega]) rfl
    rw [hc]
    have none_all : ∀ (r : List Oper) (ds : List D) (k : Nat) (L : Env), envL (fun _ => false) r ds k L = L := by
      intro r
      induction r with
      | nil => intro ds k L; rfl
      | cons x r ih => intro ds k L; cases ds with
        | nil => rfl
        | cons y ds => simp [envL, ih]
    rw [none_all]
    exact find_ext_eq h3
  | o :: r, e :: ds, k, i + 1, L, o', h1, h2, h3, h4, h5 => by
    simp only [envL]
    exact find_at r ds (k + 1) i _ o' (by simpa using h1) (by simpa using h2) h3 (by rw [show k + 1 + i = k + (i + 1) by omega]; exact h4)
      (fun j o'' hj hl hd => by have := h5 (j + 1) o'' (by omega) (by simpa using hl) hd; rwa [show k + 1 + j = k + (j + 1) by omega])
def maskOf (acc : List Nat) (o : Oper) : Nat := o.after.toList.foldl (fun s e => if Region.binds .any e then s ||| 2 ^ e.on ||| acc.getD e.on 0 else s) 0
def masks : List Oper → List Nat → List Nat
  | [], acc => acc
  | o :: r, acc => masks r (acc ++ [maskOf acc o])
def slotsOf (ops : List Oper) (o : Oper) : List Nat :=
  (o.op.operands.toList.filterMap fun | .tmp t => some t | _ => none) ++ (match o.guard with
   | some (g, _) => ((ops[g]?).bind (·.dst)).toList
   | none => [])
/-- Downward closed under the edges that bind. -/
def Closed (ops : List Oper) (S : Nat → Bool) : Prop := ∀ j o, ops[j]? = some o → S j = true → ∀ e ∈ o.after, Region.binds .any e = true → S e.on = true
def MaskOk (ops : List Oper) (acc : List Nat) : Prop := ∀ (j m : Nat), acc[j]? = some m → ∀ i, m.testBit i = true → ∀ S, Closed ops S → S j = true → S i = true
theorem foldl_mask (acc : List Nat) (i : Nat) : ∀ (es : List Edge) (s : Nat), (es.foldl (fun s e => if Region.binds .any e then s ||| 2 ^ e.on ||| acc.getD e.on 0 else s) s).testBit i = true →
    s.testBit i = true ∨ ∃ e ∈ es, Region.binds .any e = true ∧ (e.on = i ∨ (acc.getD e.on 0).testBit i = true)
  | [], s, h => .inl h
  | e :: es, s, h => by
    simp only [List.foldl_cons] at h
    rcases foldl_mask acc i es _ h with h | ⟨e', h1, h2, h3⟩
    · split at h
      · rename_i hb
        simp only [Nat.testBit_or, Bool.or_eq_true] at h
        rcases h with (h | h) | h
        · exact .inl h
        · refine .inr ⟨e, by simp, hb, .inl ?_⟩
          have := Nat.testBit_two_pow (n := e.on) (m := i)
          rw [this] at h
          simpa using h
        · exact .inr ⟨e, by simp, hb, .inr h⟩
      · exact .inl h
    · exact .inr ⟨e', by simp [h1], h2, h3⟩
theorem masks_ok (all : List Oper) : ∀ (r : List Oper) (acc : List Nat), (∀ j, r[j]? = all[acc.length + j]?) → MaskOk all acc → MaskOk all (masks r acc)
  | [], acc, _, h => h
  | o :: r, acc, hr, h => by
    simp only [masks]
    refine masks_ok all r _ (fun j => by have := hr (j + 1); simpa [Nat.add_assoc, Nat.add_comm 1 j] using this) ?_
    intro j m hj i hi S hS hSj
    rw [List.getElem?_append] at hj
    split at hj
    · exact h j m hj i hi S hS hSj
    · rename_i hge
      have hj0 : j - acc.length = 0 := by
        cases hk : j - acc.length with
        | zero => rfl
        | succ n => rw [hk] at hj; simp at hj
      rw [hj0] at hj
      simp at hj
      subst hj
      have hje : j = acc.length := by omega
      have ho : all[j]? = some o := by have := hr 0; simp at this; rw [hje]; exact this.symm
      rcases foldl_mask acc i _ 0 hi with h0 | ⟨e, h1, h2, h3⟩
      · simp at h0
      · have hSe := hS j o ho hSj e (by simpa using h1) h2
        rcases h3 with h3 | h3
        · rw [← h3]; exact hSe
        · cases hacc : acc[e.on]? with
          | none => rw [List.getD_eq_getElem?_getD, hacc] at h3; simp at h3
          | some m' =>
            rw [List.getD_eq_getElem?_getD, hacc] at h3
            exact h e.on m' hacc i h3 S hS hSe
/-- The region's check: the first k operations flow; the others stand in the text's order behind all. -/
def flowB (ops : List Oper) (k : Nat) : Bool :=
  let M := masks ops []
  ops.zipIdx.all fun (o, i) =>
    (o.after.toList.all fun e => !Region.binds .any e || Nat.blt e.on i) &&
    (ops.zipIdx.all fun (o', j) => (Nat.beq i j) ||
      (match o'.dst with
       | none => true
       | some t => !((slotsOf ops o).contains t || o.dst == some t) || (if Nat.blt j i then (M.getD i 0).testBit j else (M.getD j 0).testBit i))) &&
    (Nat.blt i k || (List.range i).all fun j => (M.getD i 0).testBit j) &&
    (match o.op with | .defer _ => false | _ => true)
structure FlowOk (ops : List Oper) (k : Nat) : Prop where
  edge : ∀ i o, ops[i]? = some o → ∀ e ∈ o.after, Region.binds .any e = true → e.on < i
  names : ∀ i o j o' t, ops[i]? = some o → ops[j]? = some o' → i ≠ j → o'.dst = some t → (t ∈ slotsOf ops o ∨ o.dst = some t) → ∀ S, Closed ops S → (j < i → S i = true → S j = true) ∧ (i < j → S j = true → S i = true)
  tail : ∀ i o, ops[i]? = some o → k ≤ i → ∀ j, j < i → ∀ S, Closed ops S → S i = true → S j = true
theorem flow_ok {ops : List Oper} {k : Nat} (h : flowB ops k = true) : FlowOk ops k := by
  have hM : MaskOk ops (masks ops []) := masks_ok ops ops [] (fun j => by simp) (fun j m hj => by simp at hj)
  have use : ∀ i j S, Closed ops S → ((masks ops []).getD i 0).testBit j = true → S i = true → S j = true := by
    intro i j S hS hb hi
    cases hacc : (masks ops [])[i]? with
    | none => rw [List.getD_eq_getElem?_getD, hacc] at hb; simp at hb
    | some m => rw [List.getD_eq_getElem?_getD, hacc] at hb; exact hM i m hacc j hb S hS hi
  unfold flowB at h
  simp only [List.all_eq_true] at h
  have at_ : ∀ i o, ops[i]? = some o → (o, i) ∈ ops.zipIdx := fun i o hi => List.mem_zipIdx_iff_getElem?.2 (by simpa using hi)
  refine ⟨fun i o hi e he hb => ?_, fun i o j o' t hi hj hne hd ht S hS => ?_, fun i o hi hk j hji S hS hSi => ?_⟩
  · have := h _ (at_ i o hi)
    simp only [Bool.and_eq_true, List.all_eq_true] at this
    have := this.1.1.1 e (by simpa using he)
    simp only [hb, Bool.not_true, Bool.false_or] at this
    exact Nat.le_of_ble_eq_true this
  · have := h _ (at_ i o hi)
    simp only [Bool.and_eq_true, List.all_eq_true] at this
    have := this.1.1.2 _ (at_ j o' hj)
    have hb : Nat.beq i j = false := by
      cases hb : Nat.beq i j with
      | true => exact absurd (Nat.eq_of_beq_eq_true hb) hne
      | false => rfl
    simp only [hb, Bool.false_or, hd] at this
    have hc : ((slotsOf ops o).contains t || o.dst == some t) = true := by
      rcases ht with ht | ht
      · simp [ht]
      · simp [ht]
    rw [hc] at this
    simp only [Bool.not_true, Bool.false_or] at this
    constructor
    · intro hlt hSi
      have hbl : Nat.blt j i = true := by simp [Nat.blt_eq, hlt]
      rw [hbl, if_pos rfl] at this
      exact use i j S hS this hSi
    · intro hlt hSj
      have hbl : Nat.blt j i = false := by
        cases hx : Nat.blt j i with
        | true => have := Nat.le_of_ble_eq_true hx; omega
        | false => rfl
      rw [hbl, if_neg (by simp)] at this
      exact use j i S hS this hSj
  · have := h _ (at_ i o hi)
    simp only [Bool.and_eq_true, List.all_eq_true] at this
    have := this.1.2
    have hbl : Nat.blt i k = false := by
      cases hx : Nat.blt i k with
      | true => have := Nat.le_of_ble_eq_true hx; omega
      | false => rfl
    simp only [hbl, Bool.false_or, List.all_eq_true] at this
    exact use i j S hS (this j (by simpa using hji)) hSi
end Go.V
set_option linter.unusedVariables false
set_option linter.unusedSimpArgs false
namespace Go.V
/-- One operation among those that flow. -/
def Step (P : Program) (ops : List Oper) (o : Oper) (L : Env) (ms : List Asrt) (d : D) : Prop := match o.guard with
  | none => OpP P o (Env.only (slotsOf ops o) L) ms d
  | some (j, want) => ∃ t u, (ops[j]?).bind (·.dst) = some t ∧ Env.find L t = some (.v u) ∧ ((∃ b, u = .bool b ∧ ((b = want ∧ OpP P o (Env.only (slotsOf ops o) L) ms d) ∨ (b = !want ∧ d = .v undef))) ∨ (u = undef ∧ d = .v undef))
def dstOk (o : Oper) (N : Nat) : Prop := match o.dst with
  | some t => Nat.blt t N = true
  | none => True
def GD (Γ : Ctx) (P : Program) (ops tail : List Oper) (ms : List Asrt) (K : KT) : List Oper → Env → Prop
  | [], L => GO Γ P ops.toArray tail L ms K
  | o :: r, L => ∃ d, dstOk o Γ.N ∧ Step P ops o L ms d ∧ GD Γ P ops tail ms K r (ext o d L)
section
variable {Γ : Ctx} {P : Program} {L : Env} {ms : List Asrt} {K : KT} {l : List Oper} {k : Nat}
theorem envL_take : ∀ (i : Nat) (l : List Oper) (ds : List D) (k0 : Nat) (L : Env), envL (fun j => decide (j < k0 + i)) l ds k0 L = envL (fun _ => true) (l.take i) (ds.take i) k0 L
  | 0, l, ds, k0, L => by
    have : ∀ (l : List Oper) (ds : List D) (k1 : Nat) (L : Env), k0 ≤ k1 → envL (fun j => decide (j < k0 + 0)) l ds k1 L = L := by
      intro l
      induction l with
      | nil => intro ds k1 L _; rfl
      | cons o r ih =>
        intro ds k1 L hk
        cases ds with
        | nil => rfl
        | cons d ds =>
          simp only [envL]
          have : decide (k1 < k0 + 0) = false := by simp; omega
          simp only [this]
          exact ih ds (k1 + 1) L (by omega)
    simpa [envL] using this l ds k0 L (Nat.le_refl _)
  | i + 1, [], ds, k0, L => by simp [envL]
  | i + 1, o :: r, [], k0, L => by simp [envL]
  | i + 1, o :: r, d :: ds, k0, L => by
    simp only [envL, List.take_succ_cons]
    have h : decide (k0 < k0 + (i + 1)) = true := by simp
    have := envL_take i r ds (k0 + 1) (ext o d L)
    rw [if_pos h, if_pos trivial, ← this, show k0 + (i + 1) = k0 + 1 + i by omega]
theorem gd_list {ops tail : List Oper} : ∀ (l : List Oper) (L : Env), GD Γ P ops tail ms K l L → ∃ ds : List D, ds.length = l.length ∧
    (∀ (i : Nat) o d, l[i]? = some o → ds[i]? = some d → dstOk o Γ.N ∧ Step P ops o (envL (fun _ => true) (l.take i) (ds.take i) 0 L) ms d) ∧ GO Γ P ops.toArray tail (envL (fun _ => true) l ds 0 L) ms K
  | [], L, h => ⟨[], rfl, fun i o d hi => by simp at hi, h⟩
  | o :: r, L, h => by
    obtain ⟨d, h1, h2, h3⟩ := h
    obtain ⟨ds, e1, e2, e3⟩ := gd_list r _ h3
    have shift : ∀ (r : List Oper) (ds : List D) (k k' : Nat) (L : Env), envL (fun _ => true) r ds k L = envL (fun _ => true) r ds k' L := by
      intro r
      induction r with
      | nil => intro ds k k' L; rfl
      | cons x r ih => intro ds k k' L; cases ds with
        | nil => rfl
        | cons y ds => simp only [envL]; exact ih _ _ _ _
    refine ⟨d :: ds, by simp [e1], fun i o' d' hi hd => ?_, ?_⟩
    · cases i with
      | zero => simp at hi hd; subst hi hd; exact ⟨h1, by simpa [envL] using h2⟩
      | succ i =>
        obtain ⟨a1, a2⟩ := e2 i o' d' (by simpa using hi) (by simpa using hd)
        refine ⟨a1, ?_⟩
        simp only [List.take_succ_cons, envL, if_true]
        rw [shift _ _ _ 0]
        exact a2
    · simp only [envL, if_true]
      rw [shift _ _ _ 0]
      exact e3
theorem only_mem : ∀ {ks : List Nat} {L : Env} {t : Nat} {d : D}, Env.find (Env.only ks L) t = some d → t ∈ ks ∧ Env.find L t = some d
  | [], L, t, d, h => by simp [Env.only, Env.find] at h
  | s :: ks, L, t, d, h => by
    simp only [Env.only] at h
    cases hf : Env.find L s with
    | none => rw [hf] at h; obtain ⟨a, b⟩ := only_mem h; exact ⟨by simp [a], b⟩
    | some e =>
      rw [hf] at h
      simp only [Env.find] at h
      cases hb : Nat.beq s t with
      | true =>
        rw [hb] at h
        have := Nat.eq_of_beq_eq_true hb
        subst this
        simp only [Option.some.injEq] at h
        subst h
        exact ⟨by simp, hf⟩
      | false => rw [hb] at h; obtain ⟨a, b⟩ := only_mem h; exact ⟨by simp [a], b⟩
theorem getD_set (listed : Array Bool) (i j : Nat) (hi : i < listed.size) : (listed.setIfInBounds i true).getD j false = (listed.getD j false || decide (j = i)) := by
  simp only [Array.getD_eq_getD_getElem?, Array.getElem?_setIfInBounds]
  by_cases h : i = j
  · subst h; simp [hi]
  · have : ¬ j = i := fun e => h e.symm
    simp [h, this]
theorem closed_set {listed : Array Bool} {i : Nat} (hs : listed.size = l.length) (hi : i < l.length) (hc : Closed l (fun j => listed.getD j false)) (hpre : ∀ o, l[i]? = some o → ∀ e ∈ o.after, Region.binds .any e = true → listed.getD e.on false = true) :
    Closed l (fun j => (listed.setIfInBounds i true).getD j false) := by
  intro j o hj hS e he hb
  have hS : (listed.setIfInBounds i true).getD j false = true := hS
  show (listed.setIfInBounds i true).getD e.on false = true
  rw [getD_set _ _ _ (by omega)] at hS ⊢
  by_cases h : j = i
  · subst h; simp [hpre o hj e he hb]
  · have hS' : listed.getD j false = true := by simpa only [h, decide_false, Bool.or_false] using hS
    have := hc j o hj hS' e he hb
    simp only [this, Bool.true_or]
theorem ready_mem {ops : Array Oper} {listed : Array Bool} {i : Nat} (h : i ∈ (List.range ops.size).filter (fun i => !listed.getD i true && ((ops[i]?).map (·.after.all fun e => !Region.binds .any e || listed.getD e.on false)).getD false)) :
    i < ops.size ∧ listed.getD i true = false ∧ ∀ o, ops[i]? = some o → ∀ e ∈ o.after, Region.binds .any e = true → listed.getD e.on false = true := by
  simp only [List.mem_filter, List.mem_range, Bool.and_eq_true, Bool.not_eq_true'] at h
  obtain ⟨h1, h2, h3⟩ := h
  refine ⟨h1, h2, fun o ho e he hb => ?_⟩
  rw [ho] at h3
  simp only [Option.map_some, Option.getD_some, Array.all_eq_true'] at h3
  have := h3 e he
  simpa [hb] using this
theorem phase2 (hf : FlowOk l k) : ∀ (m fuel t : Nat) (listed : Array Bool), k ≤ m → m ≤ l.length → l.length - m ≤ fuel → listed.size = l.length → (∀ j, listed.getD j false = decide (j < m)) →
    Region.linearise.go .any l.toArray fuel t listed [] = List.range' m (l.length - m) := by
  intro m fuel
  induction fuel generalizing m with
  | zero => intro t listed hk hm hfu hs hl; have : l.length - m = 0 := by omega
            simp [Region.linearise.go, this]
  | succ fuel ih =>
    intro t listed hk hm hfu hs hl
    have hready : (List.range l.toArray.size).filter (fun i => !listed.getD i true && ((l.toArray[i]?).map (·.after.all fun e => !Region.binds .any e || listed.getD e.on false)).getD false) = if m < l.length then [m] else [] := by
      have hp : ∀ i, i < l.length → (!listed.getD i true && ((l.toArray[i]?).map (·.after.all fun e => !Region.binds .any e || listed.getD e.on false)).getD false) = decide (i = m) := by
        intro i hi
        have hgt : listed.getD i true = listed.getD i false := by simp [Array.getD, hs, hi]
        have ho : l.toArray[i]? = some l[i] := by simp [hi]
        have ho' : l[i]? = some l[i] := by simp [hi]
        rw [hgt, hl i, ho]
        simp only [Option.map_some, Option.getD_some]
        by_cases h1 : i < m
        · have : ¬ i = m := by omega
          simp [h1, this]
        · by_cases h2 : i = m
          · subst h2
            simp only [h1, decide_false, Bool.not_false, Bool.true_and, decide_true, Array.all_eq_true']
            intro e he
            by_cases hb : Region.binds .any e = true
            · have := hf.edge i _ ho' e he hb
              simp only [hb, Bool.not_true, Bool.false_or, hl]
              simp; omega
            · simp [hb]
          · simp only [h1, decide_false, Bool.not_false, Bool.true_and, h2]
            rw [Bool.eq_false_iff]
            intro hall
            simp only [Array.all_eq_true'] at hall
            have hc : Closed l (fun j => decide (j < m) || decide (j = i)) := by
              intro j o hj hS e he hb
              by_cases hji : j = i
              · subst hji
                rw [ho'] at hj
                simp only [Option.some.injEq] at hj
                subst hj
                have := hall e he
                simp only [hb, Bool.not_true, Bool.false_or, hl] at this
                simp [this]
              · have hjm : j < m := by simpa [hji] using hS
                have := hf.edge j o hj e he hb
                simp; left; omega
            have := hf.tail i _ ho' (by omega) m (by omega) _ hc (by simp)
            simp at this
            omega
      have hcongr : (List.range l.toArray.size).filter (fun i => !listed.getD i true && ((l.toArray[i]?).map (·.after.all fun e => !Region.binds .any e || listed.getD e.on false)).getD false) = (List.range l.length).filter (fun i => i == m) := by
        rw [List.size_toArray]
        refine List.filter_congr fun i hi => ?_
        rw [hp i (by simpa using hi)]
        by_cases h : i = m <;> simp [h]
      rw [hcongr, List.filter_beq]
      split
      · rename_i hlt
        have : List.count m (List.range l.length) = 1 := by
          have hnd : (List.range l.length).Nodup := List.nodup_range
          rw [hnd.count]; simp [hlt]
        rw [this]; rfl
      · rename_i hlt
        have : List.count m (List.range l.length) = 0 := by
          rw [List.count_eq_zero]; simpa using hlt
        rw [this]; rfl
    by_cases hlt : m < l.length
    · rw [if_pos hlt] at hready
      have := ih (m + 1) (t / 1) (listed.setIfInBounds m true) (by omega) (by omega) (by omega) (by simp [hs]) (fun j => by
        rw [getD_set _ _ _ (by omega), hl]
        by_cases h1 : j < m
        · have : j < m + 1 := by omega
          simp [h1, this]
        · by_cases h2 : j = m
          · subst h2; simp
          · have : ¬ j < m + 1 := by omega
            simp [h1, h2, this])
      have e : l.length - m = (l.length - (m + 1)) + 1 := by omega
      rw [e, List.range'_succ, ← this]
      conv => lhs; unfold Region.linearise.go
      simp only [hready]
      simp only [List.length_singleton, Nat.mod_one, List.getElem?_cons_zero]
      rw [linearise_go_acc]
      rfl
    · rw [if_neg hlt] at hready
      have e : l.length - m = 0 := by omega
      rw [e]
      unfold Region.linearise.go
      simp only [hready]
      simp
end
end Go.V
set_option linter.unusedVariables false
set_option linter.unusedSimpArgs false
namespace Go.V
section
variable {Γ : Ctx} {P : Program} {L : Env} {ms : List Asrt} {K : KT} {l : List Oper} {k : Nat}
theorem draw_main (hf : FlowOk l k) (hnd : ∀ (i : Nat) o, l[i]? = some o → ∀ c, o.op ≠ .defer c) (ds : List D) (hlen : ds.length = k) (hkl : k ≤ l.length)
    (hstep : ∀ (i : Nat) o d, i < k → l[i]? = some o → ds[i]? = some d → dstOk o Γ.N ∧ Step P l o (envL (fun j => decide (j < i)) l ds 0 L) ms d)
    (htail : GO Γ P l.toArray (l.drop k) (envL (fun j => decide (j < k)) l ds 0 L) ms K) :
    ∀ (fuel : Nat) (listed : Array Bool) (t : Nat) (a : Act) (w : World), listed.size = l.length → Closed l (fun j => listed.getD j false) → (∀ i, k ≤ i → listed.getD i false = false) →
      ((List.range l.length).filter (fun i => !listed.getD i false)).length ≤ fuel → Models Γ (envL (fun j => listed.getD j false) l ds 0 L) ms a w →
      wpOpsIn (FR Γ.round) 0 P l.toArray (Post Γ K) (Region.linearise.go .any l.toArray fuel t listed []) a w := by
  intro fuel
  induction fuel with
  | zero =>
    intro listed t a w hs hc hk hfu m
    -- nothing is left
    have hnone : ∀ i, i < l.length → listed.getD i false = true := by
      intro i hi
      cases hb : listed.getD i false with
      | true => rfl
      | false =>
        have : i ∈ (List.range l.length).filter (fun i => !listed.getD i false) := by simp only [List.mem_filter, List.mem_range]; exact ⟨hi, by simp only [hb, Bool.not_false]⟩
        have := List.length_pos_of_mem this
        omega
    have hkn : k = l.length := by
      rcases Nat.lt_or_ge k l.length with h | h
      · have h1 := hnone k h; have h2 := hk k (Nat.le_refl _); rw [h1] at h2; cases h2
      · omega
    have he : envL (fun j => listed.getD j false) l ds 0 L = envL (fun j => decide (j < k)) l ds 0 L := by
      have : ∀ (l' : List Oper) (ds : List D) (k0 : Nat) (L : Env), k0 + l'.length ≤ l.length → envL (fun j => listed.getD j false) l' ds k0 L = envL (fun j => decide (j < k)) l' ds k0 L := by
        intro l'
        induction l' with
        | nil => intro ds k0 L _; rfl
        | cons o r ih =>
          intro ds k0 L hle
          cases ds with
          | nil => rfl
          | cons d ds =>
            simp only [envL]
            simp at hle
            have e1 : listed.getD k0 false = true := hnone k0 (by omega)
            have e2 : decide (k0 < k) = true := by simp; omega
            rw [if_pos e1, if_pos e2]
            exact ih ds (k0 + 1) _ (by omega)
      exact this l ds 0 L (by omega)
    have hdrop : l.drop k = [] := by rw [hkn]; simp
    rw [hdrop] at htail
    have := htail a w (he ▸ m)
    simp only [wpListIn] at this
    simpa [Region.linearise.go, wpOpsIn] using this
  | succ fuel ih =>
    intro listed t a w hs hc hk hfu m
    by_cases hall : ∀ i, i < k → listed.getD i false = true
    · -- the operations that flow are done
      have hl : ∀ j, listed.getD j false = decide (j < k) := by
        intro j
        by_cases h : j < k
        · rw [hall j h]; simp [h]
        · rw [hk j (by omega)]; simp [h]
      have hcount : l.length - k ≤ fuel + 1 := by
        have h2 : ((List.range l.length).filter (fun i => !listed.getD i false)).length = l.length - k := by
          have e : (List.range l.length) = List.range k ++ (List.range (l.length - k)).map (k + ·) := by
            rw [← List.range_add]; congr 1; omega
          rw [e, List.filter_append]
          have e1 : (List.range k).filter (fun i => !listed.getD i false) = [] := by
            rw [List.filter_eq_nil_iff]; intro i hi; rw [hl i]; simp at hi; simp [hi]
          have e2 : ((List.range (l.length - k)).map (k + ·)).filter (fun i => !listed.getD i false) = (List.range (l.length - k)).map (k + ·) := by
            rw [List.filter_eq_self]; intro i hi; simp at hi; obtain ⟨j, _, rfl⟩ := hi; rw [hl]; simp
          rw [e1, e2]; simp
        omega
      rw [phase2 hf k (fuel + 1) t listed (Nat.le_refl _) hkl hcount hs hl]
      have hw := wpOpsIn_eq_wpListIn (F := FR Γ.round) (n := 0) (P := P) (ops := l.toArray) (Q := Post Γ K) (l.drop k) k (fun j => by simp)
      rw [List.length_drop] at hw
      rw [hw]
      have he : (fun j => listed.getD j false) = (fun j => decide (j < k)) := funext hl
      exact htail a w (he ▸ m)
    · -- one of those that flow
      simp only [Region.linearise.go]
      change wpOpsIn (FR Γ.round) 0 P l.toArray (Post Γ K) (match (Region.ready .any l.toArray listed)[t % (Region.ready .any l.toArray listed).length]? with
        | some i => Region.linearise.go .any l.toArray fuel (t / (Region.ready .any l.toArray listed).length) (listed.setIfInBounds i true) [i]
        | none => [].reverse) a w
      obtain ⟨i0, hi0⟩ : ∃ i, i < k ∧ listed.getD i false = false := by
        refine Classical.byContradiction fun hno => hall fun i hi => ?_
        cases hb : listed.getD i false with
        | true => rfl
        | false => exact absurd ⟨i, hi, hb⟩ hno
      have hne : Region.ready .any l.toArray listed ≠ [] := by
        -- the least that is left is ready
        have key : ∀ n i, i ≤ n → i < l.length → listed.getD i false = false → Region.ready .any l.toArray listed ≠ [] := by
          intro n
          induction n with
          | zero =>
            intro i hin hil hb hnil
            have : i ∈ Region.ready .any l.toArray listed := by
              simp only [Region.ready, List.mem_filter, List.mem_range, List.size_toArray]
              refine ⟨hil, ?_⟩
              have hgt : listed.getD i true = false := by simp [Array.getD, hs, hil] at hb ⊢; exact hb
              simp only [hgt, Bool.not_false, Bool.true_and]
              have ho : l.toArray[i]? = some l[i] := by simp [hil]
              rw [ho]
              simp only [Option.map_some, Option.getD_some, Array.all_eq_true']
              intro e he
              by_cases hbd : Region.binds .any e = true
              · have := hf.edge i l[i] (by simp [hil]) e he hbd; omega
              · simp [hbd]
            rw [hnil] at this; cases this
          | succ n ihn =>
            intro i hin hil hb hnil
            by_cases hex : ∃ j, j < i ∧ listed.getD j false = false
            · obtain ⟨j, hj, hjb⟩ := hex
              exact ihn j (by omega) (by omega) hjb hnil
            · have : i ∈ Region.ready .any l.toArray listed := by
                simp only [Region.ready, List.mem_filter, List.mem_range, List.size_toArray]
                refine ⟨hil, ?_⟩
                have hgt : listed.getD i true = false := by simp [Array.getD, hs, hil] at hb ⊢; exact hb
                simp only [hgt, Bool.not_false, Bool.true_and]
                have ho : l.toArray[i]? = some l[i] := by simp [hil]
                rw [ho]
                simp only [Option.map_some, Option.getD_some, Array.all_eq_true']
                intro e he
                by_cases hbd : Region.binds .any e = true
                · have hlt := hf.edge i l[i] (by simp [hil]) e he hbd
                  cases hbe : listed.getD e.on false with
                  | true => simp
                  | false => exact absurd ⟨e.on, hlt, hbe⟩ hex
                · simp [hbd]
              rw [hnil] at this; cases this
        exact key i0 i0 (Nat.le_refl _) (by omega) hi0.2
      cases hsel : (Region.ready .any l.toArray listed)[t % (Region.ready .any l.toArray listed).length]? with
      | none =>
        exfalso
        have hpos : 0 < (Region.ready .any l.toArray listed).length := List.length_pos_iff.2 hne
        have := Nat.mod_lt t hpos
        rw [List.getElem?_eq_none_iff] at hsel
        omega
      | some i =>
        simp only []
        rw [linearise_go_acc, List.reverse_singleton, List.singleton_append]
        have hmem : i ∈ Region.ready .any l.toArray listed := List.mem_of_getElem? hsel
        obtain ⟨hi1, hi2, hi3⟩ := ready_mem (ops := l.toArray) (listed := listed) hmem
        simp only [List.size_toArray] at hi1
        have hunl : listed.getD i false = false := by simp [Array.getD, hs, hi1] at hi2 ⊢; exact hi2
        obtain ⟨o, ho⟩ : ∃ o, l[i]? = some o := ⟨l[i], by simp [hi1]⟩
        have hcs := closed_set (l := l) hs hi1 hc (fun o' ho' => hi3 o' (by simpa using ho'))
        have hik : i < k := by
          rcases Nat.lt_or_ge i k with h | h
          · exact h
          · have h1 := hf.tail i o ho h i0 (by omega) _ hcs (by rw [getD_set _ _ _ (by omega)]; simp)
            rw [getD_set _ _ _ (by omega)] at h1
            have hne' : ¬ i0 = i := by omega
            rw [hi0.2] at h1
            simp [hne'] at h1
        obtain ⟨d, hd⟩ : ∃ d, ds[i]? = some d := ⟨ds[i]'(by omega), by simp⟩
        obtain ⟨hdst, hst⟩ := hstep i o d hik ho hd
        -- what the operation looks at is as in the text's order
        have agree : ∀ s, s ∈ slotsOf l o → Env.find (envL (fun j => listed.getD j false) l ds 0 L) s = Env.find (envL (fun j => decide (j < i)) l ds 0 L) s := by
          intro s hsl
          refine find_congr l ds 0 L L (fun j o' hj hd' => ?_) rfl
          simp only [Nat.zero_add]
          by_cases hji : j = i
          · subst hji; rw [hunl]; simp
          · have hn := hf.names i o j o' s ho hj (fun e => hji e.symm) hd' (.inl hsl)
            by_cases hlt : j < i
            · have h1 := (hn _ hcs).1 hlt (by rw [getD_set _ _ _ (by omega)]; simp)
              rw [getD_set _ _ _ (by omega)] at h1
              simp only [hji, decide_false, Bool.or_false] at h1
              rw [h1]; simp [hlt]
            · cases hb : listed.getD j false with
              | true => have h1 := (hn _ hc).2 (by omega) hb; rw [hunl] at h1; cases h1
              | false => simp [hlt]
        have hsub : ∀ H, EnvOk H (envL (fun j => listed.getD j false) l ds 0 L) a.tmps → EnvOk H (Env.only (slotsOf l o) (envL (fun j => decide (j < i)) l ds 0 L)) a.tmps := by
          intro H he s d' hfnd
          obtain ⟨h1, h2⟩ := only_mem hfnd
          exact he s d' (by rw [agree s h1]; exact h2)
        have hcnt : ((List.range l.length).filter (fun j => !(listed.setIfInBounds i true).getD j false)).length ≤ fuel := by
          have hlt : ((List.range l.length).filter (fun j => !(listed.setIfInBounds i true).getD j false)).length < ((List.range l.length).filter (fun j => !listed.getD j false)).length := by
            have hp : ∀ j, (!(listed.setIfInBounds i true).getD j false) = (decide (j ≠ i) && !listed.getD j false) := by
              intro j
              rw [getD_set _ _ _ (by omega)]
              by_cases h : j = i <;> simp [h]
            have e1 : (List.range l.length).filter (fun j => !(listed.setIfInBounds i true).getD j false) = ((List.range l.length).filter (fun j => !listed.getD j false)).filter (fun j => decide (j ≠ i)) := by
              rw [List.filter_filter]; exact List.filter_congr fun j _ => hp j
            rw [e1]
            have hmem' : i ∈ (List.range l.length).filter (fun j => !listed.getD j false) := by
              simp only [List.mem_filter, List.mem_range]; exact ⟨hi1, by rw [hunl]; rfl⟩
            have := List.length_filter_lt_length_iff_exists (l := (List.range l.length).filter (fun j => !listed.getD j false)) (p := fun j => decide (j ≠ i))
            exact this.2 ⟨i, hmem', by simp⟩
          omega
        -- the frame behind it
        have next : ∀ (v : Value) (w' : World) (H H' : PH) (marks : List Nat), PH.le Γ.H0 H → EnvOk H (envL (fun j => listed.getD j false) l ds 0 L) a.tmps → a.defers = marks.map markD → PH.le H H' → HeapOk H' (ms ++ (marks.map markA ++ Γ.fr)) w' → Conc H' d v → SameOut w w' →
            wpOpsIn (FR Γ.round) 0 P l.toArray (Post Γ K) (Region.linearise.go .any l.toArray fuel (t / (Region.ready .any l.toArray listed).length) (listed.setIfInBounds i true) []) (a.put o.dst v) w' := by
          intro v w' H H' marks hle henv hdf hl hok' hcv hso
          refine ih (listed.setIfInBounds i true) _ _ _ (by simp [hs]) hcs (fun j hj => ?_) hcnt ?_
          · rw [getD_set _ _ _ (by omega), hk j hj]
            have : ¬ j = i := by omega
            simp [this]
          · refine ⟨⟨H', marks, PH.le_trans hle hl, hok', ?_, by cases o.dst <;> simpa [Act.put] using hdf⟩, by cases o.dst <;> simp [Act.put, m.size], m.same.trans hso⟩
            intro s d' hfnd
            have hS : (fun j => (listed.setIfInBounds i true).getD j false) = fun j => (listed.getD j false || decide (j = i)) := funext fun j => getD_set _ _ _ (by omega)
            rw [hS] at hfnd
            by_cases hds : o.dst = some s
            · have hat := find_at (S := fun j => (listed.getD j false || decide (j = i))) l ds 0 i L o ho hd hds (by simp) (fun j o' hj hlo hd' => by
                simp only [Nat.zero_add]
                have hn := hf.names i o j o' s ho hlo (by omega) hd' (.inr hds)
                cases hb : listed.getD j false with
                | true => have h1 := (hn _ hc).2 hj hb; rw [hunl] at h1; cases h1
                | false => have : ¬ j = i := by omega
                           simp [this])
              rw [hat] at hfnd
              simp only [Option.some.injEq] at hfnd
              subst hfnd
              have hsz : s < a.tmps.size := by
                have := hdst
                simp only [dstOk, hds] at this
                have := Nat.le_of_ble_eq_true this
                rw [m.size]; exact this
              simp only [hds, Act.put]
              simpa [Array.getD, hsz] using hcv
            · have hcg : Env.find (envL (fun j => (listed.getD j false || decide (j = i))) l ds 0 L) s = Env.find (envL (fun j => listed.getD j false) l ds 0 L) s := by
                refine find_congr l ds 0 L L (fun j o' hj hd' => ?_) rfl
                simp only [Nat.zero_add]
                have : ¬ j = i := fun e => by subst e; rw [ho] at hj; simp only [Option.some.injEq] at hj; subst hj; exact hds hd'
                simp [this]
              rw [hcg] at hfnd
              have h1 := (henv s d' hfnd).mono hl
              have h2 : (a.put o.dst v).tmps.getD s undef = a.tmps.getD s undef := by
                cases hod : o.dst with
                | none => rfl
                | some q =>
                  have hq : q ≠ s := fun e => hds (by rw [hod, e])
                  simp [Act.put, Array.getD_eq_getD_getElem?, Array.getElem?_setIfInBounds, hq]
              rw [h2]
              exact h1
        have ho' : l.toArray[i]? = some o := by simpa using ho
        simp only [wpOpsIn, ho']
        obtain ⟨H, marks, hle, hok, henv, hdf⟩ := m.ex
        unfold Step at hst
        cases hg : o.guard with
        | none =>
          rw [hg] at hst
          simp only at hst
          simp only [Region.wanted, hg, if_true]
          refine hst Γ.round H (marks.map markA ++ Γ.fr) a w hok (hsub H henv) _ _ ?_
          rintro v d' ms' w' H' ⟨rfl, rfl⟩ hl hok' hcv hso
          exact next v w' H H' marks hle henv hdf hl hok' hcv hso
        | some q =>
          obtain ⟨j, want⟩ := q
          rw [hg] at hst
          simp only at hst
          obtain ⟨s, u, h1, h2, h3⟩ := hst
          have hss : s ∈ slotsOf l o := by simp [slotsOf, hg, h1]
          have hfnd : Env.find (envL (fun j => listed.getD j false) l ds 0 L) s = some (.v u) := by rw [agree s hss]; exact h2
          rcases h3 with ⟨b, hu, h3⟩ | ⟨hu, h4⟩
          rotate_left
          · subst hu
            have hy : yielded l.toArray a.tmps j = none := by
              have h := conc_v.1 (henv s _ hfnd)
              simp only [yielded, show (l.toArray[j]?).bind (·.dst) = some s by simpa using h1, Option.bind_some]
              cases hq : a.tmps[s]? with
              | none => rfl
              | some v =>
                have hv : v = undef := by
                  rw [Array.getD_eq_getD_getElem?, hq] at h
                  exact h
                subst hv
                rfl
            simp only [Region.wanted, hg, hy]
            rw [if_neg (by cases want <;> simp)]
            refine ⟨fun _ _ => trivial, ?_⟩
            exact next undef w H H marks hle henv hdf (PH.le_refl H) hok (by rw [h4]; exact conc_v.2 rfl) (SameOut.refl w)
          subst hu
          have hy := yielded_of (ops := l.toArray) m (j := j) (t := s) (b := b) (by simpa using h1) hfnd
          simp only [Region.wanted, hg, hy]
          rcases h3 with ⟨h3, h4⟩ | ⟨h3, h4⟩
          · have hbq : (some b == some want) = true := by rw [h3]; simp
            rw [if_pos hbq]
            refine h4 Γ.round H (marks.map markA ++ Γ.fr) a w hok (hsub H henv) _ _ ?_
            rintro v d' ms' w' H' ⟨rfl, rfl⟩ hl hok' hcv hso
            exact next v w' H H' marks hle henv hdf hl hok' hcv hso
          · have hbq : (some b == some want) = false := by rw [h3]; cases want <;> rfl
            rw [if_neg (by rw [hbq]; simp)]
            refine ⟨fun _ _ => trivial, ?_⟩
            exact next undef w H H marks hle henv hdf (PH.le_refl H) hok (by rw [h4]; exact conc_v.2 rfl) (SameOut.refl w)
/-- A region that draws its order: its first k operations flow, the others stand behind them in the text's order. -/
theorem g_draw {id : Nat} (k : Nat) (hm : P.follows .mixedOrders = true) (hf : flowB l k = true) (h : GD Γ P l (l.drop k) ms K (l.take k) L) : G Γ P (.region id l.toArray true) L ms K := by
  intro a w m
  refine wpIn_region_draw fun t => ?_
  simp only [Region.schedule, hm, Bool.true_or, if_true]
  have hfo := flow_ok hf
  obtain ⟨ds, e1, e2, e3⟩ := gd_list _ _ h
  -- at most as many as there are
  have htk : l.take k = l.take (min k l.length) := by
    rcases Nat.le_total k l.length with h | h
    · rw [Nat.min_eq_left h]
    · rw [Nat.min_eq_right h, List.take_of_length_le h, List.take_of_length_le (Nat.le_refl _)]
  have hdk : l.drop k = l.drop (min k l.length) := by
    rcases Nat.le_total k l.length with h | h
    · rw [Nat.min_eq_left h]
    · rw [Nat.min_eq_right h, List.drop_of_length_le h, List.drop_of_length_le (Nat.le_refl _)]
  rw [htk] at e1 e2 e3
  rw [hdk] at e3
  have hlen : ds.length = min k l.length := by rw [e1]; simp
  have hfo' : FlowOk l (min k l.length) := ⟨hfo.edge, hfo.names, fun i o hi hki => hfo.tail i o hi (by
    have : i < l.length := (List.getElem?_eq_some_iff.1 hi).1
    omega)⟩
  have hnd : ∀ (i : Nat) o, l[i]? = some o → ∀ c, o.op ≠ .defer c := by
    intro i o hi c hc
    unfold flowB at hf
    simp only [List.all_eq_true] at hf
    have := hf _ (List.mem_zipIdx_iff_getElem?.2 (by simpa using hi) : (o, i) ∈ l.zipIdx)
    simp only [hc, Bool.and_false] at this
    exact absurd this (by simp)
  have conv : ∀ i, i ≤ min k l.length → envL (fun _ => true) ((l.take (min k l.length)).take i) (ds.take i) 0 L = envL (fun j => decide (j < i)) l ds 0 L := by
    intro i hi
    rw [List.take_take, Nat.min_eq_left hi]
    have := envL_take i l ds 0 L
    simp only [Nat.zero_add] at this
    exact this.symm
  refine draw_main (L := L) (ms := ms) hfo' hnd ds hlen (Nat.min_le_right _ _) ?_ ?_ l.toArray.size (Array.replicate l.toArray.size false) t a { w with drawn := w.drawn + 1 } (by simp) ?_ ?_ ?_ ?_
  · intro i o d hi ho hd
    have ho' : (l.take (min k l.length))[i]? = some o := by rw [List.getElem?_take, if_pos hi]; exact ho
    obtain ⟨a1, a2⟩ := e2 i o d ho' hd
    exact ⟨a1, by rw [← conv i (by omega)]; exact a2⟩
  · have h1 := envL_take (min k l.length) l ds 0 L
    simp only [Nat.zero_add] at h1
    rw [h1, List.take_of_length_le (l := ds) (by omega)]
    exact e3
  · intro j o hj hS
    simp [Array.getD] at hS
  · intro i _; simp [Array.getD]
  · have := List.length_filter_le (fun i => !(Array.replicate l.toArray.size false).getD i false) (List.range l.length)
    simpa using this
  · have he : envL (fun j => (Array.replicate l.toArray.size false).getD j false) l ds 0 L = L := by
      have : ∀ (l' : List Oper) (ds : List D) (k0 : Nat) (L : Env), envL (fun j => (Array.replicate l.toArray.size false).getD j false) l' ds k0 L = L := by
        intro l'
        induction l' with
        | nil => intro ds k0 L; rfl
        | cons o r ih =>
          intro ds k0 L
          cases ds with
          | nil => rfl
          | cons d ds =>
            simp only [envL]
            have e : ((Array.replicate l.toArray.size false).getD k0 false = true) = False := by simp [Array.getD]
            simp only [e, if_false]
            exact ih ds (k0 + 1) L
      exact this l ds 0 L
    rw [he]
    obtain ⟨H, marks, hle, hok, henv, hdf⟩ := m.ex
    exact ⟨⟨H, marks, hle, hok.drew _, henv, hdf⟩, m.size, m.same.trans ⟨rfl, rfl, rfl, Nat.le_refl _⟩⟩
theorem gd_nil {ops tail : List Oper} (h : GO Γ P ops.toArray tail L ms K) : GD Γ P ops tail ms K [] L := h
theorem gd_p {ops tail r : List Oper} {o : Oper} {d : D} {i : Nat} (hg : o.guard = none) (hd : o.dst = some i) (hi : Nat.blt i Γ.N = true) (h : OpP P o (Env.only (slotsOf ops o) L) ms d) (k : GD Γ P ops tail ms K r ((i, d) :: L)) : GD Γ P ops tail ms K (o :: r) L := by
  refine ⟨d, by simp only [dstOk, hd]; exact hi, by simp only [Step, hg]; exact h, ?_⟩
  simp only [ext, hd]; exact k
theorem gd_want {ops tail r : List Oper} {o : Oper} {d : D} {i j t : Nat} {b want : Bool} (hg : o.guard = some (j, want)) (hj : (ops[j]?).bind (·.dst) = some t) (hf : Env.find L t = some (.v (.bool b))) (hb : b = want) (hd : o.dst = some i) (hi : Nat.blt i Γ.N = true)
    (h : OpP P o (Env.only (slotsOf ops o) L) ms d) (k : GD Γ P ops tail ms K r ((i, d) :: L)) : GD Γ P ops tail ms K (o :: r) L := by
  refine ⟨d, by simp only [dstOk, hd]; exact hi, by simp only [Step, hg]; exact ⟨t, _, hj, hf, .inl ⟨b, rfl, .inl ⟨hb, h⟩⟩⟩, ?_⟩
  simp only [ext, hd]; exact k
theorem gd_skip {ops tail r : List Oper} {o : Oper} {i j t : Nat} {b want : Bool} (hg : o.guard = some (j, want)) (hj : (ops[j]?).bind (·.dst) = some t) (hf : Env.find L t = some (.v (.bool b))) (hb : b = !want) (hd : o.dst = some i) (hi : Nat.blt i Γ.N = true)
    (k : GD Γ P ops tail ms K r ((i, .v undef) :: L)) : GD Γ P ops tail ms K (o :: r) L := by
  refine ⟨.v undef, by simp only [dstOk, hd]; exact hi, by simp only [Step, hg]; exact ⟨t, _, hj, hf, .inl ⟨b, rfl, .inr ⟨hb, trivial⟩⟩⟩, ?_⟩
  simp only [ext, hd]; exact k
end
end Go.V
set_option linter.unusedVariables false
set_option linter.unusedSimpArgs false
namespace Go.V
/-- The cells of a list's elements, one behind the other. -/
def ListEnc (H : PH) {α : Type} (f : α → D) (sz : Nat) (l : List α) (us : List Value) : Prop :=
  us.length = l.length * sz ∧ ∀ (i : Nat) x, l[i]? = some x → ∃ ws, Enc H (f x) ws ∧ ws.length = sz ∧ ∀ (k : Nat) u, ws[k]? = some u → us[i * sz + k]? = some u
theorem ListEnc.mono {H H' : PH} (h : PH.le H H') {α : Type} {f : α → D} {sz : Nat} {l : List α} {us : List Value} (e : ListEnc H f sz l us) : ListEnc H' f sz l us :=
  ⟨e.1, fun i x hx => let ⟨ws, a, b, c⟩ := e.2 i x hx; ⟨ws, Enc.mono h _ _ a, b, c⟩⟩
theorem ListEnc.append {H : PH} {α : Type} {f : α → D} {sz : Nat} {l l' : List α} {us us' : List Value} (e : ListEnc H f sz l us) (e' : ListEnc H f sz l' us') : ListEnc H f sz (l ++ l') (us ++ us') := by
  refine ⟨by rw [List.length_append, e.1, e'.1, List.length_append, Nat.add_mul], fun i x hx => ?_⟩
  rw [List.getElem?_append] at hx
  split at hx
  · rename_i hlt
    obtain ⟨ws, a, b, c⟩ := e.2 i x hx
    refine ⟨ws, a, b, fun k u hk => ?_⟩
    have hkl : k < sz := by rw [← b]; exact (List.getElem?_eq_some_iff.1 hk).1
    have : i * sz + k < us.length := by
      rw [e.1]
      calc i * sz + k < i * sz + sz := by omega
        _ = (i + 1) * sz := by rw [Nat.add_mul]; omega
        _ ≤ l.length * sz := Nat.mul_le_mul_right _ hlt
    rw [List.getElem?_append_left this]
    exact c k u hk
  · rename_i hge
    obtain ⟨ws, a, b, c⟩ := e'.2 _ x hx
    refine ⟨ws, a, b, fun k u hk => ?_⟩
    have hi : i * sz = l.length * sz + (i - l.length) * sz := by rw [← Nat.add_mul]; congr 1; omega
    rw [List.getElem?_append_right (by rw [e.1]; omega), e.1, show i * sz + k - l.length * sz = (i - l.length) * sz + k by omega]
    exact c k u hk
theorem list_cells {H : PH} {α : Type} {f : α → D} {sz : Nat} {l : List α} {b off : Nat} (h : ∀ (i : Nat) x, l[i]? = some x → ∃ us, Enc H (f x) us ∧ us.length = sz ∧ ∀ (k : Nat) u, us[k]? = some u → H b (off + i * sz + k) = some u) :
    ∃ us, ListEnc H f sz l us ∧ ∀ (k : Nat) u, us[k]? = some u → H b (off + k) = some u := by
  have hall : ∀ j, j < l.length * sz → ∃ u, H b (off + j) = some u := by
    intro j hj
    have hsz : 0 < sz := by
      rcases Nat.eq_zero_or_pos sz with h0 | h0
      · subst h0; simp at hj
      · exact h0
    have hi : j / sz < l.length := (Nat.div_lt_iff_lt_mul hsz).2 hj
    obtain ⟨us, _, e2, e3⟩ := h (j / sz) l[j / sz] (by simp [hi])
    have hk : j % sz < us.length := by rw [e2]; exact Nat.mod_lt _ hsz
    have := e3 (j % sz) us[j % sz] (by simp [hk])
    rw [Nat.add_assoc, show j / sz * sz + j % sz = j by rw [Nat.mul_comm]; exact Nat.div_add_mod j sz] at this
    exact ⟨_, this⟩
  refine ⟨(List.range (l.length * sz)).map (fun j => (H b (off + j)).getD undef), ⟨by simp, fun i x hx => ?_⟩, fun k u hk => ?_⟩
  · obtain ⟨us, e1, e2, e3⟩ := h i x hx
    refine ⟨us, e1, e2, fun k u hk => ?_⟩
    have hlt : i < l.length := (List.getElem?_eq_some_iff.1 hx).1
    have hkl : k < sz := by rw [← e2]; exact (List.getElem?_eq_some_iff.1 hk).1
    have : i * sz + k < l.length * sz := by
      calc i * sz + k < i * sz + sz := by omega
        _ = (i + 1) * sz := by rw [Nat.add_mul]; omega
        _ ≤ l.length * sz := Nat.mul_le_mul_right _ hlt
    have h3 := e3 k u hk
    rw [Nat.add_assoc] at h3
    simp [List.getElem?_map, List.getElem?_range, this, h3]
  · have hlt : k < l.length * sz := by have := (List.getElem?_eq_some_iff.1 hk).1; simpa using this
    obtain ⟨u', hu'⟩ := hall k hlt
    rw [List.getElem?_map, List.getElem?_range hlt] at hk
    simp only [Option.map_some, Option.some.injEq] at hk
    rw [hu'] at hk
    simp only [Option.getD_some] at hk
    rw [← hk]; exact hu'
/-- A slice of one's own making: its elements stay; the room behind them may still be written. -/
def row (a : Option Addr) (cap : Nat) (T : TypeId) (sz : Nat) {α : Type} (f : α → D) (l : List α) : Asrt where
  blocks := match a with | some x => [x.block] | none => []
  ok := fun H h => l.length ≤ cap ∧ cap ≤ maxLen ∧ ((a = none ∧ l = [] ∧ cap = 0) ∨ ∃ (b : Nat) (vs us : List Value), a = some ⟨b, 0, none⟩ ∧ h b = some (.cells vs.toArray T (0, 0)) ∧ vs.length = cap * sz ∧ ListEnc H f sz l us ∧ vs.take (l.length * sz) = us ∧
    (∀ (k : Nat) u, us[k]? = some u → H b k = some u) ∧ ∀ o, l.length * sz ≤ o → H b o = none)
  stable := by
    rintro H H' h h' e hle ⟨h1, h2, h3⟩
    refine ⟨h1, h2, ?_⟩
    rcases h3 with h3 | ⟨b, vs, us, ha, hb, hl, he, ht, hp, hn⟩
    · exact .inl h3
    · subst ha
      have := e b (by simp)
      exact .inr ⟨b, vs, us, rfl, by rw [this.2]; exact hb, hl, he.mono hle, ht, fun k u hk => hle _ _ _ (hp k u hk), fun o ho => by rw [this.1]; exact hn o ho⟩
theorem row_conc {H : PH} {as : List Asrt} {w : World} {a : Option Addr} {cap : Nat} {T : TypeId} {sz : Nat} {α : Type} {f : α → D} {l : List α} (hok : HeapOk H as w) (hm : row a cap T sz f l ∈ as) : Conc H (.list sz f l) (.slice a l.length cap) := by
  obtain ⟨h1, h2, h3⟩ := hok.ok _ hm
  rw [conc_enc (by rfl)]
  simp only [Enc]
  refine ⟨a, cap, rfl, h1, h2, ?_⟩
  rcases h3 with ⟨_, h3, _⟩ | ⟨b, vs, us, ha, hb, hl, he, ht, hp, hn⟩
  · exact .inl h3
  · refine .inr ⟨b, 0, ha, fun i x hx => ?_⟩
    obtain ⟨ws, e1, e2, e3⟩ := he.2 i x hx
    exact ⟨ws, e1, e2, fun k u hk => by rw [Nat.zero_add]; exact hp _ _ (e3 k u hk)⟩
section
variable {Γ : Ctx} {P : Program} {L : Env} {ms : List Asrt} {K : KT} {ops : Array Oper} {l : List Oper} {dst : Option Nat} {ty : TypeId} {pos : String} {after : Array Edge} {g : Option (Nat × Bool)} {d d' : D} {x y : Operand} {t t' : TypeId}
/-- A nil slice is a row of one's own. -/
theorem refines_newrow {T : TypeId} {sz : Nat} {α : Type} {f : α → D} : Refines L ms L (row none 0 T sz f ([] : List α) :: ms) := by
  intro Γ a w m
  obtain ⟨H, marks, hle, hok, henv, hdf⟩ := m.ex
  refine ⟨⟨H, marks, hle, ?_, henv, hdf⟩, m.size, m.same⟩
  refine ⟨hok.sub, by simpa [row] using hok.nodup, fun A hA b hb => ?_, fun A hA => ?_⟩
  · rcases List.mem_cons.1 hA with rfl | hA
    · simp [row] at hb
    · exact hok.lt A hA b hb
  · rcases List.mem_cons.1 hA with rfl | hA
    · exact ⟨by simp, by simp [maxLen], .inl ⟨rfl, rfl, rfl⟩⟩
    · exact hok.ok A hA
theorem perm_fr {ms : List Asrt} {k : Nat} {A : Asrt} {fr : List Asrt} (hk : ms[k]? = some A) : (ms ++ fr).Perm (A :: (ms.eraseIdx k ++ fr)) := by
  rw [← List.cons_append]; exact (perm_at ms k _ hk).append_right fr
theorem perm_fr' {ms : List Asrt} {k : Nat} {A A' : Asrt} {fr : List Asrt} (hk : ms[k]? = some A) : (A' :: (ms.eraseIdx k ++ fr)).Perm (ms.set k A' ++ fr) := by
  rw [← List.cons_append]; exact (perm_set ms k _ _ hk).append_right fr
theorem HeapOk.tail {H : PH} {A : Asrt} {as : List Asrt} {w : World} (h : HeapOk H (A :: as) w) : HeapOk H as w := HeapOk.drop (as := [A]) h
/-- A new block, in part to stay, in part of one's own. -/
theorem HeapOk.part {H : PH} {as : List Asrt} {w : World} (h : HeapOk H as w) {cells us : List Value} {T : TypeId} {A : Asrt} (hp : ∀ (k : Nat) u, us[k]? = some u → cells[k]? = some u) (hb : A.blocks = [w.heap.size])
    (hok : A.ok (H.add w.heap.size us) (fun b => (w.alloc (.cells cells.toArray T)).heap[b]?)) : HeapOk (H.add w.heap.size us) (A :: as) (w.alloc (.cells cells.toArray T)) ∧ PH.le H (H.add w.heap.size us) := by
  have hle : PH.le H (H.add w.heap.size us) := by
    intro b o v hv
    simp only [PH.add]
    by_cases hb : b = w.heap.size
    · subst hb; rw [h.none_new _ _ (Nat.le_refl _)] at hv; cases hv
    · rw [if_neg hb]; exact hv
  refine ⟨⟨fun b o v hv => ?_, ?_, fun B hB b hbB => ?_, fun B hB => ?_⟩, hle⟩
  · simp only [PH.add] at hv
    by_cases hb : b = w.heap.size
    · subst hb
      rw [if_pos rfl] at hv
      simp only [World.cell?, heap_alloc_new]
      simpa using hp _ _ hv
    · rw [if_neg hb] at hv
      exact cell_alloc_old (h.sub b o v hv)
  · simp only [List.flatMap_cons, hb, List.cons_append, List.nil_append, List.nodup_cons]
    refine ⟨fun hm => ?_, h.nodup⟩
    obtain ⟨B, hB, hm⟩ := List.mem_flatMap.1 hm
    exact Nat.lt_irrefl _ (h.lt B hB _ hm)
  · rcases List.mem_cons.1 hB with rfl | hB
    · rw [hb] at hbB; simp at hbB; subst hbB; rw [size_alloc']; omega
    · have := h.lt B hB b hbB; rw [size_alloc']; omega
  · rcases List.mem_cons.1 hB with rfl | hB
    · exact hok
    · refine B.stable H _ (fun b => w.heap[b]?) _ ?_ hle (h.ok B hB)
      intro b hbB
      have hlt := h.lt B hB b hbB
      exact ⟨fun o => by simp only [PH.add]; rw [if_neg (by omega)], heap_alloc_old _ _ _ hlt⟩
/-- What the elements' cells are. -/
theorem listEnc_one {H : PH} {α : Type} {f : α → D} {sz : Nat} {l : List α} {us : List Value} (e : ListEnc H f sz l us) (hfl : ∀ x, flat (f x).cs = true) (hst : ∀ x, storableL (f x).cs = true) : ∀ u ∈ us, u.oneCell' = true := by
  intro u hu
  obtain ⟨j, hj⟩ := List.getElem?_of_mem hu
  have hlt : j < us.length := (List.getElem?_eq_some_iff.1 hj).1
  rw [e.1] at hlt
  have hsz : 0 < sz := by
    rcases Nat.eq_zero_or_pos sz with h0 | h0
    · subst h0; simp at hlt
    · exact h0
  have hi : j / sz < l.length := (Nat.div_lt_iff_lt_mul hsz).2 hlt
  obtain ⟨ws, e1, e2, e3⟩ := e.2 (j / sz) l[j / sz] (by simp [hi])
  have hk : j % sz < ws.length := by rw [e2]; exact Nat.mod_lt _ hsz
  have h3 := e3 (j % sz) ws[j % sz] (by simp [hk])
  rw [show j / sz * sz + j % sz = j by rw [Nat.mul_comm]; exact Nat.div_add_mod j sz, hj] at h3
  simp only [Option.some.injEq] at h3
  have hm : u ∈ ws := by rw [h3]; exact List.getElem_mem hk
  have he : EncL H (f l[j / sz]).cs ws := by
    cases hf : f l[j / sz] with
    | agg cs => rw [hf] at e1; simpa [Enc, D.cs] using e1
    | _ => rw [hf] at e1; simp only [D.cs, EncL]; exact ⟨ws, [], by simp, e1, rfl⟩
  exact encL_oneCell _ _ (hfl _) (hst _) he u hm
/-- 'append' onto a row of one's own. -/
theorem o_append {a : Option Addr} {cap n : Nat} {e : TypeId} {sz : Nat} {α : Type} {f : α → D} {xs zs : List α} {i : TypeInfo} {z : Value} (k : Nat) (ht : P.underlying t = some (.slice e)) (hi : P.info? e = some i) (hz : i.zero = some z) (hsz : i.size = sz) (hzs : z.cells.size = sz)
    (hx : Env.ev L x = some (.v (.slice a n cap))) (hk : ms[k]? = some (row a cap e sz f xs)) (hn : xs.length = n) (hy : Env.ev L y = some (.list sz f zs)) (hfl : ∀ x, flat (f x).cs = true) (hst : ∀ x, storableL (f x).cs = true)
    (hb : (xs.length + zs.length) * i.bytes ≤ 140737488355328) (h63 : xs.length + zs.length ≤ maxLen) :
    OpT P ⟨dst, .call ⟨.builtin .append, #[x, y], #[t, t]⟩, ty, pos, after, g⟩ L ms (fun d' ms' => ∃ a' cap', d' = .v (.slice a' (xs ++ zs).length cap') ∧ ms' = ms.set k (row a' cap' e sz f (xs ++ zs))) := by
  subst hn
  subst hsz
  refine .val (by simp) fun H fr act w hok henv => ?_
  have hok1 := hok.perm (perm_fr hk)
  obtain ⟨r1, r2, r3⟩ := hok1.ok _ (List.mem_cons_self ..)
  obtain ⟨ya, yc, hyv, y1, y2, y3⟩ := enc_list (henv.ev hy)
  have hrun : ∀ {v : Value} {w' : World}, (Builtin.append_ #[t, t] ty #[.slice a xs.length cap, .slice ya zs.length yc]).run P w = .ok v w' →
      (execOp act.eval ⟨dst, .call ⟨.builtin .append, #[x, y], #[t, t]⟩, ty, pos, after, g⟩).run P w = .ok (.value v) w' := by
    intro v w' h
    simp [execOp, resolve, invoke, builtin, ev_v henv hx, hyv, Sem.run, h]
  have h63' : xs.length + zs.length ≤ 9223372036854775807 := by simpa [maxLen] using h63
  by_cases hz0 : zs = []
  · -- nothing comes
    subst hz0
    have hr : (Builtin.append_ #[t, t] ty #[.slice a xs.length cap, .slice ya 0 yc]).run P w = .ok (.slice a xs.length cap) w := by
      have hf : (Builtin.firstCells i.size 0 (.slice ya 0 yc)).run P w = .ok #[] w := by
        cases ya with
        | none => simp [Builtin.firstCells, Sem.run]
        | some q => simp [Builtin.firstCells, loadCells, loadCellsFrom, Sem.run]
      cases a with
      | none => simp [Builtin.append_, run_underlying ht, sizeOf, typeInfo, hi, Builtin.lenOf, r1, hf, Sem.run]
      | some q => simp [Builtin.append_, run_underlying ht, sizeOf, typeInfo, hi, Builtin.lenOf, r1, hf, storeCells, Sem.run]
    refine ⟨.slice a xs.length cap, .v (.slice a (xs ++ ([] : List α)).length cap), ms.set k (row a cap e i.size f (xs ++ ([] : List α))), w, H, hrun hr, ⟨a, cap, rfl, rfl⟩, PH.le_refl H, ?_, conc_v.2 (by simp), SameOut.refl w⟩
    simp only [List.append_nil]
    have : ms.set k (row a cap e i.size f xs) = ms := by
      apply List.ext_getElem?
      intro j
      by_cases hj : k = j
      · subst hj
        have hlt := (List.getElem?_eq_some_iff.1 hk).1
        rw [List.getElem?_set_self hlt, hk]
      · rw [List.getElem?_set_ne hj]
    rw [this]
    exact hok
  · rcases y3 with y3 | ⟨yb, yo, hya, hyel⟩
    · exact absurd y3 hz0
    · subst hya
      obtain ⟨us, ue, uh⟩ := list_cells hyel
      have hpos : 0 < zs.length := List.length_pos_iff.2 hz0
      have hnews : ∀ j v, us[j]? = some v → w.cell? ((⟨yb, yo, none⟩ : Addr).add j) = some v := fun j v hj => by rw [add_zero']; exact hok.sub _ _ _ (uh j v hj)
      have hone := listEnc_one ue hfl hst
      -- behind a new block
      have grown : ∀ (old : Nat) (olds : List Value), ListEnc H f i.size xs olds → (Builtin.append_ #[t, t] ty #[.slice a xs.length cap, .slice (some ⟨yb, yo, none⟩) zs.length yc]).run P w =
          .ok (.slice (some ⟨w.heap.size, 0, none⟩) (xs.length + zs.length) (grownCap w (xs.length + zs.length) old e)) (w.drew.alloc (.cells (olds.toArray ++ us.toArray ++ Builtin.zeroCells z.cells (grownCap w (xs.length + zs.length) old e - (xs.length + zs.length))) e)) →
          ∃ v d ms' w' H', (execOp act.eval ⟨dst, .call ⟨.builtin .append, #[x, y], #[t, t]⟩, ty, pos, after, g⟩).run P w = .ok (.value v) w' ∧ (∃ a' cap', d = .v (.slice a' (xs ++ zs).length cap') ∧ ms' = ms.set k (row a' cap' e i.size f (xs ++ zs))) ∧
            PH.le H H' ∧ HeapOk H' (ms' ++ fr) w' ∧ Conc H' d v ∧ SameOut w w' := by
        intro old olds ole hr
        have hge := grownCap_ge w (xs.length + zs.length) old e
        have hcm : grownCap w (xs.length + zs.length) old e ≤ maxLen := grownCap_le_maxLen w (xs.length + zs.length) old e h63
        have hsplit : (olds.toArray ++ us.toArray ++ Builtin.zeroCells z.cells (grownCap w (xs.length + zs.length) old e - (xs.length + zs.length))) = ((olds ++ us) ++ (Builtin.zeroCells z.cells (grownCap w (xs.length + zs.length) old e - (xs.length + zs.length))).toList).toArray := by
          apply Array.ext'; simp
        rw [hsplit] at hr
        have hd : HeapOk H (ms.eraseIdx k ++ fr) w.drew := (hok1.tail).drew _
        have hlen : (olds ++ us).length = (xs ++ zs).length * i.size := by rw [List.length_append, ole.1, ue.1, List.length_append, Nat.add_mul]
        have hpart := hd.part (cells := (olds ++ us) ++ (Builtin.zeroCells z.cells (grownCap w (xs.length + zs.length) old e - (xs.length + zs.length))).toList) (us := olds ++ us) (T := e)
          (A := row (some ⟨w.heap.size, 0, none⟩) (grownCap w (xs.length + zs.length) old e) e i.size f (xs ++ zs)) (fun j u hj => by
            rw [List.getElem?_append_left (List.getElem?_eq_some_iff.1 hj).1]; exact hj) rfl ?_
        · refine ⟨_, _, _, _, _, hrun hr, ⟨_, _, rfl, rfl⟩, hpart.2, hpart.1.perm (perm_fr' hk), conc_v.2 (by simp), ?_⟩
          exact ⟨rfl, rfl, rfl, by have := size_alloc' w.drew (.cells ((olds ++ us) ++ (Builtin.zeroCells z.cells (grownCap w (xs.length + zs.length) old e - (xs.length + zs.length))).toList).toArray e); rw [this]; show w.heap.size ≤ w.heap.size + 1; omega⟩
        · have hle : PH.le H (H.add w.drew.heap.size (olds ++ us)) := by
            intro b o v hv
            simp only [PH.add]
            by_cases hb : b = w.drew.heap.size
            · subst hb; rw [hd.none_new _ _ (Nat.le_refl _)] at hv; cases hv
            · rw [if_neg hb]; exact hv
          refine ⟨by simpa using hge, hcm, .inr ⟨w.heap.size, _, olds ++ us, rfl, heap_alloc_new w.drew _, ?_, (ole.append ue).mono hle, ?_, ?_, ?_⟩⟩
          · have hzl : (Builtin.zeroCells z.cells (grownCap w (xs.length + zs.length) old e - (xs.length + zs.length))).toList.length = (grownCap w (xs.length + zs.length) old e - (xs.length + zs.length)) * z.cells.size := by rw [Array.length_toList, size_zeroCells]
            rw [List.length_append, hlen, hzl, hzs, ← Nat.add_mul]
            congr 1
            simp only [List.length_append]
            omega
          · rw [← hlen]; exact List.take_left
          · intro j u hj
            show (H.add w.heap.size (olds ++ us)) w.heap.size j = some u
            simp [PH.add, hj]
          · intro o ho
            show (H.add w.heap.size (olds ++ us)) w.heap.size o = none
            simp only [PH.add, if_pos]
            rw [List.getElem?_eq_none (by omega)]
      rcases r3 with ⟨ha, hxs, hcap⟩ | ⟨b, vs, os, ha, hbk, hvl, ole, htake, hH, hnone⟩
      · subst ha hxs hcap
        have hr := run_append_nil (P := P) w t ty e i z ht hi hz ⟨yb, yo, none⟩ zs.length yc us ue.1 hnews hpos (by simp at h63'; omega) (by simp at hb; omega)

        refine grown 0 [] ⟨by simp, fun i x hx => by simp at hx⟩ ?_
        simpa using hr
      · subst ha
        by_cases hroom : xs.length + zs.length ≤ cap
        · -- there is room
          have hfit : xs.length * i.size + us.length ≤ vs.toArray.size := by
            simp only [List.size_toArray, hvl, ue.1, ← Nat.add_mul]; exact Nat.mul_le_mul_right _ hroom
          have hr := run_append_room (P := P) w t ty e i ht hi b xs.length cap vs.toArray hbk ⟨yb, yo, none⟩ zs.length yc us ue.1 hnews hone hroom hfit
          let H' : PH := fun b' o => if b' = b then (os ++ us)[o]? else H b' o
          have hosl : os.length = xs.length * i.size := ole.1
          have hle : PH.le H H' := by
            intro b' o v hv
            show (if b' = b then (os ++ us)[o]? else H b' o) = some v
            by_cases hb' : b' = b
            · subst hb'
              rw [if_pos rfl]
              by_cases ho : o < xs.length * i.size
              · have : os[o]? = some os[o] := by simp [hosl, ho]
                have h2 := hH o _ this
                rw [hv] at h2
                rw [List.getElem?_append_left (by omega), this]
                exact h2.symm
              · rw [hnone o (by omega)] at hv; cases hv
            · rw [if_neg hb']; exact hv
          have hlt : b < w.heap.size := hok1.lt _ (by simp : row (some ⟨b, 0, none⟩) cap e i.size f xs ∈ _) b (by simp [row])
          have hnew : (vs.toArray.toList.take (xs.length * i.size) ++ us ++ vs.toArray.toList.drop (xs.length * i.size + us.length)) = (os ++ us) ++ vs.drop (xs.length * i.size + us.length) := by
            simp only [htake]
          rw [hnew] at hr
          have hupd : HeapOk H' (row (some ⟨b, 0, none⟩) cap e i.size f (xs ++ zs) :: (ms.eraseIdx k ++ fr)) (w.setRow b ((os ++ us) ++ vs.drop (xs.length * i.size + us.length)).toArray) := by
            have hbnew : (w.setRow b ((os ++ us) ++ vs.drop (xs.length * i.size + us.length)).toArray).heap[b]? = some (.cells ((os ++ us) ++ vs.drop (xs.length * i.size + us.length)).toArray e (0, 0)) := by
              simp [World.setRow, Array.getElem?_modify, hbk]
            refine hok1.upd rfl (by simp [World.setRow]) ?_ ?_ hle ?_ ?_
            · intro b' _ hn
              have : b ≠ b' := fun e => hn (by simp [row, e])
              simp [World.setRow, Array.getElem?_modify, this]
            · intro b' o _ hn
              have : b' ≠ b := fun e => hn (by simp [row, e])
              show (if b' = b then (os ++ us)[o]? else H b' o) = H b' o
              rw [if_neg this]
            · intro b' o v hb' hv
              have hv : (if b' = b then (os ++ us)[o]? else H b' o) = some v := hv
              by_cases hbb : b' = b
              · subst hbb
                rw [if_pos rfl] at hv
                simp only [World.cell?, hbnew]
                rw [show (Option.isSome (none : Option Nat)) = false from rfl]
                simp only [Bool.false_eq_true, if_false]
                rw [List.getElem?_toArray, List.getElem?_append_left (List.getElem?_eq_some_iff.1 hv).1]
                exact hv
              · rw [if_neg hbb] at hv
                rcases hb' with hb' | hb'
                · simp [row] at hb'; exact absurd hb' hbb
                · rw [hok.none_new _ _ hb'] at hv; cases hv
            · refine ⟨by simpa using hroom, r2, .inr ⟨b, _, os ++ us, rfl, hbnew, ?_, (ole.append ue).mono hle, ?_, ?_, ?_⟩⟩
              · simp only [List.length_append, List.length_drop, hosl, hvl, ue.1]
                have : (xs.length + zs.length) * i.size ≤ cap * i.size := Nat.mul_le_mul_right _ hroom
                rw [Nat.add_mul] at this
                omega
              · have : (os ++ us).length = (xs ++ zs).length * i.size := by rw [List.length_append, hosl, ue.1, List.length_append, Nat.add_mul]
                rw [← this]; exact List.take_left
              · intro j u hj
                show (if b = b then (os ++ us)[j]? else H b j) = some u
                rw [if_pos rfl]; exact hj
              · intro o ho
                show (if b = b then (os ++ us)[o]? else H b o) = none
                rw [if_pos rfl, List.getElem?_eq_none]
                rw [List.length_append, hosl, ue.1]
                rw [List.length_append, Nat.add_mul] at ho
                exact ho

          refine ⟨_, _, _, _, H', hrun hr, ⟨_, _, rfl, rfl⟩, hle, hupd.perm (perm_fr' hk), conc_v.2 (by simp), ⟨rfl, rfl, rfl, by simp [World.setRow]⟩⟩
        · have holds : ∀ j v, os[j]? = some v → w.cell? ((⟨b, 0, none⟩ : Addr).add j) = some v := fun j v hj => by
            rw [add_zero', Nat.zero_add]; exact hok.sub _ _ _ (hH j v hj)
          have hr := run_append_grow (P := P) w t ty e i z ht hi hz ⟨b, 0, none⟩ xs.length cap os ole.1 holds ⟨yb, yo, none⟩ zs.length yc us ue.1 hnews (by omega) (by omega) (growslice_fits (by omega) hb)

          exact grown cap os ole hr
end
end Go.V
set_option linter.unusedVariables false
set_option linter.unusedSimpArgs false
namespace Go.V
section
variable {P : Program} {fn : Func} {L : Env} {ms ms' drop : List Asrt} {d : D}
def resSem (tmps : Array Value) : ResultVar → Sem Value
  | .tmp t => pure (tmps.getD t undef)
  | .cell a t => do loadVar t (← asAddr (tmps.getD a undef))
/-- One result. -/
def RetVal (P : Program) (L : Env) (ms : List Asrt) : ResultVar → D → Prop
  | .tmp t, d => Env.find L t = some d
  | .cell a ty, d => ∃ (k b T : Nat) (cs : List D), Env.find L a = some (.v (.pointer (some ⟨b, 0, none⟩))) ∧ ms[k]? = some (box b T cs) ∧ flat cs = true ∧
      ((∃ sz, (∀ w, (isAgg ty).run P w = .ok true w) ∧ (∀ w, (sizeOf ty).run P w = .ok sz w) ∧ cs.length = sz ∧ d = .agg cs) ∨ ((∀ w, (isAgg ty).run P w = .ok false w) ∧ cs[0]? = some d))
theorem ret_tmp {t : Nat} (h : Env.find L t = some d) : RetVal P L ms (.tmp t) d := h
theorem ret_cell {a ty : Nat} {b T : Nat} {cs : List D} {sz : Nat} (k : Nat) (ha : Env.find L a = some (.v (.pointer (some ⟨b, 0, none⟩)))) (hk : ms[k]? = some (box b T cs)) (hf : flat cs = true) (hag : ∀ w, (isAgg ty).run P w = .ok true w)
    (hs : ∀ w, (sizeOf ty).run P w = .ok sz w) (hl : cs.length = sz) : RetVal P L ms (.cell a ty) (.agg cs) := ⟨k, b, T, cs, ha, hk, hf, .inl ⟨sz, hag, hs, hl, rfl⟩⟩
theorem ret_cell1 {a ty : Nat} {b T : Nat} {cs : List D} (k : Nat) (ha : Env.find L a = some (.v (.pointer (some ⟨b, 0, none⟩)))) (hk : ms[k]? = some (box b T cs)) (hf : flat cs = true) (hag : ∀ w, (isAgg ty).run P w = .ok false w)
    (hd : cs[0]? = some d) : RetVal P L ms (.cell a ty) d := ⟨k, b, T, cs, ha, hk, hf, .inr ⟨hag, hd⟩⟩
theorem retVal_run {H : PH} {tmps : Array Value} {w : World} (hok : HeapOk H ms w) (henv : EnvOk H L tmps) {r : ResultVar} (h : RetVal P L ms r d) :
    ∃ v, (resSem tmps r).run P w = .ok v w ∧ Conc H d v := by
  cases r with
  | tmp t => exact ⟨_, rfl, henv t d h⟩
  | cell a ty =>
    obtain ⟨k, b, T, cs, ha, hk, hf, hc⟩ := h
    obtain ⟨vs, h1, h2, h3⟩ := box_cells hok hk
    have hv := conc_v.1 (henv a _ ha)
    obtain ⟨h4, h5⟩ := EncL.get cs vs h2 hf
    rcases hc with ⟨sz, hag, hs, hl, rfl⟩ | ⟨hag, hd⟩
    · have hl' := run_loadCells_list (P := P) w ⟨b, 0, none⟩ vs (fun j v hj => by rw [add_zero']; simp [World.cell?, h1, hj])
      rw [show vs.length = sz by omega] at hl'
      exact ⟨.agg vs.toArray, by simp [resSem, hv, asAddr, loadVar, hag, hs, hl', Sem.run], conc_agg.2 ⟨vs, rfl, h2⟩⟩
    · obtain ⟨u, h6, h7⟩ := h5 0 d hd
      have hc : w.cell? ⟨b, 0, none⟩ = some u := by simp [World.cell?, h1, h6]
      exact ⟨u, by simp [resSem, hv, asAddr, loadVar, hag, load, Sem.run, hc], (conc_enc (flat_get cs 0 d hf hd)).2 h7⟩
/-- Several results. -/
def RetVals (P : Program) (L : Env) (ms : List Asrt) : List ResultVar → List D → Prop
  | [], ds => ds = []
  | r :: rs, d :: ds => RetVal P L ms r d ∧ RetVals P L ms rs ds
  | _ :: _, [] => False
theorem retVals_run {H : PH} {tmps : Array Value} {w : World} (hok : HeapOk H ms w) (henv : EnvOk H L tmps) : ∀ (rs : List ResultVar) (ds : List D), RetVals P L ms rs ds →
    ∃ vs, (rs.mapM (resSem tmps)).run P w = .ok vs w ∧ ConcL H ds vs ∧ vs.length = rs.length
  | [], ds, h => by simp only [RetVals] at h; subst h; exact ⟨[], by simp [Sem.run, pure], by simp [ConcL], rfl⟩
  | r :: rs, [], h => by simp [RetVals] at h
  | r :: rs, d :: ds, h => by
    obtain ⟨v, h1, h2⟩ := retVal_run hok henv h.1
    obtain ⟨vs, h3, h4, h5⟩ := retVals_run hok henv rs ds h.2
    refine ⟨v :: vs, ?_, ?_, by simp [h5]⟩
    · rw [List.mapM_cons]
      simp only [Sem.run_bind, h1, Result.andThen_ok, h3]
      rfl
    · simp only [ConcL]; exact ⟨v, vs, rfl, h2, h4⟩
theorem results_list {rs : List ResultVar} (hr : fn.results = rs.toArray) {tmps : Array Value} {w : World} {vs : List Value}
    (h : (rs.mapM (resSem tmps)).run P w = .ok vs w) :
    (results fn tmps).run P w = .ok (if h : vs.toArray.size = 1 then vs.toArray[0] else .tuple vs.toArray) w := by
  have e : results fn tmps = (do let vs ← fn.results.mapM (resSem tmps); pure (if h : vs.size = 1 then vs[0] else .tuple vs)) := by
    unfold results
    have : (fun (r : ResultVar) => (match r with | .tmp t => (pure (tmps.getD t undef) : Sem Value) | .cell a t => do loadVar t (← asAddr (tmps.getD a undef)))) = resSem tmps := by
      funext r; cases r <;> rfl
    rw [← this]
    rfl
  rw [e, hr, List.mapM_toArray]
  simp only [Sem.run_bind, Sem.run_map, h, Result.andThen_ok]
  rfl
theorem ret_one' {r : ResultVar} (hr : fn.results = #[r]) (h : RetVal P L ms r d) (p : ms.Perm (drop ++ ms')) : RetSem P fn L ms d ms' :=
  .perm p fun H tmps w hok henv => by
    obtain ⟨v, h1, h2⟩ := retVal_run hok henv h
    have h3 : ([r].mapM (resSem tmps)).run P w = .ok [v] w := by
      rw [List.mapM_cons, List.mapM_nil]
      simp only [Sem.run_bind, h1, Result.andThen_ok]
      rfl
    exact ⟨v, results_list (rs := [r]) hr h3, h2⟩
theorem ret_many {rs : List ResultVar} {ds : List D} (hr : fn.results = rs.toArray) (hl : rs.length ≠ 1) (h : RetVals P L ms rs ds) (p : ms.Perm (drop ++ ms')) : RetSem P fn L ms (.tup ds) ms' :=
  .perm p fun H tmps w hok henv => by
    obtain ⟨vs, h1, h2, h3⟩ := retVals_run hok henv rs ds h
    refine ⟨.tuple vs.toArray, ?_, ?_⟩
    · rw [results_list hr h1, dif_neg (by simp [h3, hl])]
    · rw [conc_enc (by rfl)]; simp only [Enc]; exact ⟨vs, rfl, h2⟩
/-- The end of a function that leaves nothing. -/
theorem retK {R : D → List Asrt → Prop} (h : RetSem P fn L ms d ms') (hR : R d ms') : RetK P fn R .ret L ms := ⟨.inl rfl, d, ms', h, hR⟩
theorem retKn {R : D → List Asrt → Prop} (h : RetSem P fn L ms d ms') (hR : R d ms') : RetK P fn R .normal L ms := ⟨.inr rfl, d, ms', h, hR⟩
theorem perm_drop (ms : List Asrt) : ms.Perm (ms ++ []) := by simp
end
section
variable {P : Program} {L : Env} {ms : List Asrt} {dst : Option Nat} {ty : TypeId} {pos : String} {after : Array Edge} {g : Option (Nat × Bool)} {d d' : D} {x y : Operand} {t t' : TypeId}
def enumO : Nat → List Operand → List (Nat × Operand)
  | _, [] => []
  | i, x :: r => (i, x) :: enumO (i + 1) r
theorem fill_slice {H : PH} {a : Act} (henv : EnvOk H L a.tmps) (sz : Nat) : ∀ (xs : List Operand) (ds : List D) (k : Nat) (vs : List Value), evL L xs = some ds → (∀ d ∈ ds, d.storable = true ∧ d.cs.length = sz ∧ flat d.cs = true) → vs.length = (k + xs.length) * sz →
    ∃ us, Instr.fill (fun i => some (i * sz, sz)) vs.toArray ((enumO k xs).map fun p => (p.1, a.eval p.2)) = some (vs.take (k * sz) ++ us).toArray ∧ us.length = ds.length * sz ∧
      ∀ (i : Nat) d, ds[i]? = some d → ∃ ws, EncL H d.cs ws ∧ ws.length = sz ∧ ∀ (k : Nat) u, ws[k]? = some u → us[i * sz + k]? = some u
  | [], ds, k, vs, h, _, hl => by
    simp only [evL, Option.some.injEq] at h
    subst h
    refine ⟨[], ?_, by simp, fun i d hi => by simp at hi⟩
    simp only [enumO, List.map_nil, Instr.fill]
    rw [List.take_of_length_le (by rw [hl]; simp)]
    simp
  | x :: xs, ds, k, vs, h, hd, hl => by
    simp only [evL] at h
    split at h
    · rename_i d ds' h1 h2
      simp only [Option.some.injEq] at h
      subst h
      obtain ⟨c1, c2, c3⟩ := hd d (by simp)
      have hv := conc_cs (henv.ev h1) c1
      have hvl := (EncL.get _ _ hv c3).1
      have hsz : (a.eval x).cells.size = sz := by rw [← Array.length_toList, hvl, c2]
      have hin : k * sz + sz ≤ vs.length := by
        rw [hl]
        calc k * sz + sz = (k + 1) * sz := by rw [Nat.add_mul]; omega
          _ ≤ (k + (x :: xs).length) * sz := Nat.mul_le_mul_right _ (by simp)
      have hvl2 : (a.eval x).cells.toList.length = sz := by rw [hvl, c2]
      obtain ⟨us, k1, k2, k3⟩ := fill_slice henv sz xs ds' (k + 1) (vs.take (k * sz) ++ ((a.eval x).cells.toList ++ vs.drop (k * sz + (a.eval x).cells.toList.length))) h2 (fun d hd' => hd d (by simp [hd'])) (by
        simp only [List.length_append, List.length_take, List.length_drop, hvl2]
        rw [hl, Nat.min_eq_left (by rw [hl] at hin; omega)]
        rw [show k + 1 + xs.length = k + (x :: xs).length by simp; omega]
        rw [hl] at hin
        omega)
      refine ⟨(a.eval x).cells.toList ++ us, ?_, by simp [k2, hsz, Nat.add_mul]; omega, fun i e hi => ?_⟩
      · simp only [enumO, List.map_cons, Instr.fill]
        have hno : (decide ((a.eval x).cells.size ≠ sz) || decide (k * sz + (a.eval x).cells.size > vs.toArray.size)) = false := by simp [hsz]; omega
        rw [hno, if_neg (by simp)]
        have := fill_one (a.eval x).cells.toList (k * sz) vs (by rw [hvl2]; exact hin)
        simp only [Array.toArray_toList] at this
        rw [this, k1]
        congr 2
        have e1 : (k + 1) * sz = (vs.take (k * sz) ++ (a.eval x).cells.toList).length := by
          simp only [List.length_append, List.length_take, hvl2]; rw [Nat.min_eq_left (by omega), Nat.add_mul]; omega
        rw [← List.append_assoc (vs.take (k * sz)), e1, List.take_left, List.append_assoc]
      · cases i with
        | zero =>
          simp at hi; subst hi
          refine ⟨(a.eval x).cells.toList, hv, hvl2, fun k u hk => ?_⟩
          rw [Nat.zero_mul, Nat.zero_add, List.getElem?_append_left (List.getElem?_eq_some_iff.1 hk).1]
          exact hk
        | succ i =>
          obtain ⟨ws, a1, a2, a3⟩ := k3 i e (by simpa using hi)
          refine ⟨ws, a1, a2, fun k u hk => ?_⟩
          rw [List.getElem?_append_right (by rw [hvl2, Nat.add_mul]; omega), hvl2, show (i + 1) * sz + k - sz = i * sz + k by rw [Nat.add_mul]; omega]
          exact a3 k u hk
    · cases h
theorem enc_cs {H : PH} {ws : List Value} (h : EncL H d.cs ws) : Enc H d ws := by
  cases d with
  | agg cs => simpa [Enc, D.cs] using h
  | _ =>
    simp only [D.cs, EncL] at h
    obtain ⟨a, r, rfl, e, rfl⟩ := h
    simpa using e
/-- A slice literal that is never written again: its elements are f of xs. -/
theorem buildSlice_run {H : PH} {a : Act} {w : World} {e : TypeId} {sz : Nat} {z : Value} {xs : List Operand} {α : Type} {f : α → D} {l : List α} (hu : ∀ w, (underlying t).run P w = .ok (.slice e) w) (hs : ∀ w, (sizeOf e).run P w = .ok sz w) (hz : ∀ w, (zeroValue e).run P w = .ok z w) (hzs : z.cells.size = sz) (hsz : Nat.blt 0 sz = true)
    (henv : EnvOk H L a.tmps) (hev : evL L xs = some (l.map f)) (hst : ∀ x, (f x).storable = true ∧ (f x).cs.length = sz ∧ flat (f x).cs = true) (hlen : xs.length * sz ≤ 16777216) :
    ∃ us, (execOp a.eval ⟨dst, .buildSlice t xs.length (enumO 0 xs).toArray, ty, pos, after, g⟩).run P w = .ok (.value (.slice (some ⟨w.heap.size, 0, none⟩) l.length l.length)) (w.alloc (.cells us.toArray e)) ∧ ListEnc H f sz l us := by
  have hxl : xs.length = l.length := by
    have : ∀ (xs : List Operand) (ds : List D), evL L xs = some ds → xs.length = ds.length := by
      intro xs
      induction xs with
      | nil => intro ds h; simp only [evL, Option.some.injEq] at h; subst h; rfl
      | cons x xs ih =>
        intro ds h
        simp only [evL] at h
        split at h
        · rename_i d ds' h1 h2
          simp only [Option.some.injEq] at h
          subst h
          simp [ih _ h2]
        · cases h
    rw [this xs _ hev]; simp
  have hsz := Nat.le_of_ble_eq_true hsz
  let base : List Value := (List.range (xs.length * sz)).map fun i => z.cells[i % z.cells.size]!
  obtain ⟨us, h1, h2, h3⟩ := fill_slice henv sz xs (l.map f) 0 base hev (fun d hd => by
    obtain ⟨x, _, rfl⟩ := List.mem_map.1 hd; exact hst x) (by simp [base])
  simp only [Nat.zero_mul, List.take_zero, List.nil_append] at h1
  refine ⟨us, ?_, by rw [h2]; simp, fun i x hx => ?_⟩
  · have hno : ¬ (16777216 < xs.length * sz) := by omega
    have hzr : (Array.range (xs.length * sz)).map (fun i => z.cells[i % z.cells.size]!) = base.toArray := by
      apply Array.ext'; simp [base, Array.toList_range]
    by_cases h0 : xs.length * sz = 0
    · have hx0 : xs = [] := by
        have : xs.length = 0 := by
          rcases Nat.mul_eq_zero.1 h0 with h | h
          · exact h
          · omega
        exact List.length_eq_zero_iff.1 this
      subst hx0
      have hl0 : l = [] := List.length_eq_zero_iff.1 (by simpa using hxl.symm)
      subst hl0
      have hus : us = [] := List.length_eq_zero_iff.1 (by simpa using h2)
      subst hus
      simp [execOp, Instr.buildSlice, hu, hs, Sem.run, enumO, Instr.fill, newRow, newObj]
      rw [show Array.map (fun (_ : Nat) => (default : Value)) (Array.range 0) = #[] by apply Array.ext' ; simp [Array.toList_range]]
    · simp only [execOp, Instr.buildSlice, Sem.run_bind, hu, hs, Result.andThen_ok]
      have hgt : ¬ (xs.length * sz > 2 ^ 24) := by omega
      rw [if_neg hgt]
      simp only [Sem.run_bind, h0, if_false, hz, Result.andThen_ok, Sem.run_pure]
      have hm : (Array.map (fun x => (x.fst, a.eval x.snd)) (enumO 0 xs).toArray).toList = (enumO 0 xs).map fun p => (p.1, a.eval p.2) := by simp
      rw [hm, hzr, h1]
      simp [newRow, newObj, Sem.run, hxl]
  · obtain ⟨ws, a1, a2, a3⟩ := h3 i (f x) (by rw [List.getElem?_map, hx]; rfl)
    exact ⟨ws, enc_cs a1, a2, a3⟩
theorem o_buildSlice {e : TypeId} {sz : Nat} {z : Value} {xs : List Operand} {α : Type} {f : α → D} {l : List α} (hu : ∀ w, (underlying t).run P w = .ok (.slice e) w) (hs : ∀ w, (sizeOf e).run P w = .ok sz w) (hz : ∀ w, (zeroValue e).run P w = .ok z w) (hzs : z.cells.size = sz) (hsz : Nat.blt 0 sz = true)
    (hev : evL L xs = some (l.map f)) (hst : ∀ x, (f x).storable = true ∧ (f x).cs.length = sz ∧ flat (f x).cs = true) (hlen : Nat.ble (xs.length * sz) 16777216 = true) : OpP P ⟨dst, .buildSlice t xs.length (enumO 0 xs).toArray, ty, pos, after, g⟩ L ms (.list sz f l) := by
  refine .val (by simp) fun H fr a w hok henv => ?_
  have hlen := Nat.le_of_ble_eq_true hlen
  obtain ⟨us, h1, h2⟩ := buildSlice_run (dst := dst) (ty := ty) (pos := pos) (after := after) (g := g) (w := w) hu hs hz hzs hsz henv hev hst hlen
  obtain ⟨h3, h4⟩ := hok.persist us e
  refine ⟨_, .list sz f l, ms, _, _, h1, ⟨rfl, rfl⟩, h4, h3, ?_, sameOut_alloc _ _⟩
  rw [conc_enc (by rfl)]
  simp only [Enc]
  have hll : l.length ≤ maxLen := by
    have hsz := Nat.le_of_ble_eq_true hsz
    have : l.length ≤ l.length * sz := Nat.le_mul_of_pos_right _ (by omega)
    have hxl : (l.map f).length = xs.length := by
      have : ∀ (xs : List Operand) (ds : List D), evL L xs = some ds → ds.length = xs.length := by
        intro xs
        induction xs with
        | nil => intro ds h; simp only [evL, Option.some.injEq] at h; subst h; rfl
        | cons x xs ih =>
          intro ds h
          simp only [evL] at h
          split at h
          · rename_i d ds' h1 h2
            simp only [Option.some.injEq] at h
            subst h
            simp [ih _ h2]
          · cases h
      exact this xs _ hev
    rw [List.length_map] at hxl
    rw [hxl] at this ⊢
    simp only [maxLen]; omega
  refine ⟨_, _, rfl, Nat.le_refl _, hll, .inr ⟨w.heap.size, 0, rfl, fun i x hx => ?_⟩⟩
  obtain ⟨ws, e1, e2, e3⟩ := h2.2 i x hx
  exact ⟨ws, Enc.mono h4 _ _ e1, e2, fun k u hk => by
    have := e3 k u hk
    simp only [PH.add, if_pos, Nat.zero_add]; exact this⟩
/-- A slice literal that is appended to. -/
theorem o_buildSlice_row {e : TypeId} {sz : Nat} {z : Value} {xs : List Operand} {α : Type} {f : α → D} {l : List α} (hu : ∀ w, (underlying t).run P w = .ok (.slice e) w) (hs : ∀ w, (sizeOf e).run P w = .ok sz w) (hz : ∀ w, (zeroValue e).run P w = .ok z w) (hzs : z.cells.size = sz) (hsz : Nat.blt 0 sz = true)
    (hev : evL L xs = some (l.map f)) (hst : ∀ x, (f x).storable = true ∧ (f x).cs.length = sz ∧ flat (f x).cs = true) (hlen : Nat.ble (xs.length * sz) 16777216 = true) (hll : l.length ≤ maxLen) :
    OpT P ⟨dst, .buildSlice t xs.length (enumO 0 xs).toArray, ty, pos, after, g⟩ L ms (fun d' ms' => ∃ a, d' = .v (.slice a l.length l.length) ∧ ms' = row a l.length e sz f l :: ms) := by
  refine .val (by simp) fun H fr a w hok henv => ?_
  have hlen := Nat.le_of_ble_eq_true hlen
  obtain ⟨us, h1, h2⟩ := buildSlice_run (dst := dst) (ty := ty) (pos := pos) (after := after) (g := g) (w := w) hu hs hz hzs hsz henv hev hst hlen
  have hp := hok.part (cells := us) (us := us) (T := e) (A := row (some ⟨w.heap.size, 0, none⟩) l.length e sz f l) (fun k u h => h) rfl ?_
  · exact ⟨_, _, _, _, _, h1, ⟨_, rfl, rfl⟩, hp.2, hp.1, conc_v.2 rfl, sameOut_alloc _ _⟩
  · have hle : PH.le H (H.add w.heap.size us) := by
      intro b o v hv
      simp only [PH.add]
      by_cases hb : b = w.heap.size
      · subst hb; rw [hok.none_new _ _ (Nat.le_refl _)] at hv; cases hv
      · rw [if_neg hb]; exact hv
    refine ⟨Nat.le_refl _, hll, .inr ⟨w.heap.size, us, us, rfl, heap_alloc_new _ _, h2.1, h2.mono hle, by rw [← h2.1]; exact List.take_length, fun k u hk => by simp [PH.add, hk], fun o ho => ?_⟩⟩
    simp only [PH.add, if_pos]
    rw [List.getElem?_eq_none (by rw [h2.1]; exact ho)]
end
end Go.V
set_option linter.unusedVariables false
set_option linter.unusedSimpArgs false
namespace Go.V
section
variable {Γ : Ctx} {P : Program} {L L' : Env} {ms : List Asrt} {K : KT} {x : Operand}
/-- What is known is told otherwise. -/
def RefE (ms : List Asrt) (L L' : Env) : Prop := ∀ t d', Env.find L' t = some d' → ∃ d, Env.find L t = some d ∧ (∀ x, d' = .v x → d = d') ∧ ∀ H fr w u, HeapOk H (ms ++ fr) w → Conc H d u → Conc H d' u
theorem RefE.refines (h : RefE ms L L') : Refines L ms L' ms := by
  intro Γ a w m
  obtain ⟨H, marks, hle, hok, henv, hdf⟩ := m.ex
  refine ⟨⟨H, marks, hle, hok, fun t d' ht => ?_, hdf⟩, m.size, m.same⟩
  obtain ⟨d, h1, _, h2⟩ := h t d' ht
  exact h2 H _ w _ hok (henv t d h1)
theorem RefE.ext {o : Oper} {d : D} (h : RefE ms L L') : RefE ms (ext o d L) (ext o d L') := by
  intro t d' ht
  by_cases hd : o.dst = some t
  · rw [find_ext_eq hd] at ht ⊢
    simp only [Option.some.injEq] at ht
    subst ht
    exact ⟨d, rfl, fun _ _ => rfl, fun _ _ _ _ _ c => c⟩
  · rw [find_ext_ne hd] at ht ⊢
    exact h t d' ht
theorem peekE {i : Nat} {a : Option Addr} {cap n : Nat} {T : TypeId} {sz : Nat} {α : Type} {f : α → D} {xs : List α} (k : Nat) (hf : Env.find L i = some (.v (.slice a n cap))) (hk : ms[k]? = some (row a cap T sz f xs)) (hn : xs.length = n) : RefE ms L ((i, .list sz f xs) :: L) := by
  subst hn
  intro t d' ht
  simp only [Env.find] at ht
  cases hb : Nat.beq i t with
  | true =>
    rw [hb] at ht
    have := Nat.eq_of_beq_eq_true hb
    subst this
    simp only [Option.some.injEq] at ht
    subst ht
    refine ⟨_, hf, (fun b e => (by cases e)), fun H fr w u hok c => ?_⟩
    rw [conc_v.1 c]
    exact row_conc (T := T) hok (List.mem_append_left _ (List.mem_of_getElem? hk))
  | false => rw [hb] at ht; exact ⟨d', ht, fun _ _ => rfl, fun _ _ _ _ _ c => c⟩
theorem g_cond_true {c : Operand} {y z : Code} {b : Bool} (hc : Env.ev L c = some (.v (.bool b))) (hb : b = true) (h : G Γ P y L ms K) : G Γ P (.cond c y z) L ms K :=
  g_cond hc (fun _ => h) (fun e => by rw [hb] at e; cases e)
theorem g_cond_false {c : Operand} {y z : Code} {b : Bool} (hc : Env.ev L c = some (.v (.bool b))) (hb : b = false) (h : G Γ P z L ms K) : G Γ P (.cond c y z) L ms K :=
  g_cond hc (fun e => by rw [hb] at e; cases e) (fun _ => h)
end
end Go.V
set_option linter.unusedVariables false
set_option linter.unusedSimpArgs false
namespace Go.V
/-- A function value, called. -/
def CallV (P : Program) (v : Value) (vs : List Value) (w : World) (R : Ending → World → Prop) : Prop :=
  ∃ fn first caps, v = .func fn first caps ∧
    ((∃ f, fn = .func f ∧ (∀ args w, (callFunc f args).run P w = .ok (.enter f args) w) ∧ Calls P f (first ++ vs.toArray ++ caps) w R) ∨
     (∃ l g tmps assign body, fn = .yield l ∧ (Instr.yield l (first ++ vs.toArray)).run P w = .ok (.round l g tmps assign body) w ∧ RoundIn (FR none) 0 P l g tmps assign body w R))
/-- A function value's contract. -/
def FV (P : Program) (fv : D) (args : List D) (ms : List Asrt) (R : D → List Asrt → Prop) : Prop :=
  ∀ (H : PH) (fr : List Asrt) (w : World) (v : Value) (vs : List Value), HeapOk H (ms ++ fr) w → Conc H fv v → ConcL H args vs →
    CallV P v vs w (fun e w' => ∃ v d ms' H', e = .returned v ∧ R d ms' ∧ PH.le H H' ∧ HeapOk H' (ms' ++ fr) w' ∧ Conc H' d v ∧ SameOut w w')
theorem concL_append {H : PH} : ∀ (as bs : List D) (us vs : List Value), ConcL H as us → ConcL H bs vs → ConcL H (as ++ bs) (us ++ vs)
  | [], bs, us, vs, e, e' => by simp only [ConcL] at e; subst e; exact e'
  | a :: as, bs, us, vs, e, e' => by
    simp only [ConcL] at e
    obtain ⟨u, r, rfl, hx, hr⟩ := e
    simp only [List.cons_append, ConcL]
    exact ⟨u, r ++ vs, rfl, hx, concL_append as bs r vs hr e'⟩
section
variable {P : Program} {L : Env} {ms : List Asrt} {dst : Option Nat} {ty : TypeId} {pos : String} {after : Array Edge} {g : Option (Nat × Bool)} {d d' : D} {x y : Operand} {t t' : TypeId} {R : D → List Asrt → Prop}
theorem Fn.mono {f : FuncId} {args : List D} {R' : D → List Asrt → Prop} (h : Fn P f args ms R) (k : ∀ d ms, R d ms → R' d ms) : Fn P f args ms R' := by
  intro H fr w vs hok ha
  refine (h H fr w vs hok ha).mono ?_
  rintro e w' ⟨v, d, ms', H', he, hR, rest⟩
  exact ⟨v, d, ms', H', he, k _ _ hR, rest⟩
theorem fv_clo {f : FuncId} {fs cs args : List D} (hc : ∀ args w, (callFunc f args).run P w = .ok (.enter f args) w) (h : Fn P f (fs ++ args ++ cs) ms R) : FV P (.clo (.func f) fs cs) args ms R := by
  intro H fr w v vs hok hv ha
  rw [conc_enc (by rfl)] at hv
  simp only [Enc] at hv
  obtain ⟨us, ws, hvv, h1, h2⟩ := hv
  simp only [List.cons.injEq, and_true] at hvv
  refine ⟨_, _, _, hvv, .inl ⟨f, rfl, hc, ?_⟩⟩
  have := h H fr w ((us ++ vs) ++ ws) hok (concL_append _ _ _ _ (concL_append _ _ _ _ h1 ha) h2)
  simpa using this
theorem fv_func {f : FuncId} {args : List D} (hc : ∀ args w, (callFunc f args).run P w = .ok (.enter f args) w) (h : Fn P f args ms R) : FV P (.v (.func (.func f) #[] #[])) args ms R := by
  intro H fr w v vs hok hv ha
  refine ⟨_, _, _, conc_v.1 hv, .inl ⟨f, rfl, hc, ?_⟩⟩
  have := h H fr w vs hok ha
  simpa using this
theorem FV.mono {fv : D} {args : List D} {R' : D → List Asrt → Prop} (h : FV P fv args ms R) (k : ∀ d ms, R d ms → R' d ms) : FV P fv args ms R' := by
  intro H fr w v vs hok hv ha
  obtain ⟨fn, first, caps, e, h1⟩ := h H fr w v vs hok hv ha
  refine ⟨fn, first, caps, e, ?_⟩
  rcases h1 with ⟨f, e1, e2, e3⟩ | ⟨l, g, tmps, as, b, e1, e2, e3⟩
  · refine .inl ⟨f, e1, e2, e3.mono ?_⟩
    rintro e w' ⟨v, d, ms', H', he, hR, rest⟩
    exact ⟨v, d, ms', H', he, k _ _ hR, rest⟩
  · refine .inr ⟨l, g, tmps, as, b, e1, e2, e3.mono ?_⟩
    rintro e w' ⟨v, d, ms', H', he, hR, rest⟩
    exact ⟨v, d, ms', H', he, k _ _ hR, rest⟩
/-- What is owned beside stays. -/
theorem FV.frame {fv : D} {args : List D} {rest : List Asrt} (h : FV P fv args ms R) : FV P fv args (ms ++ rest) (fun d ms' => ∃ ms₁, R d ms₁ ∧ ms' = ms₁ ++ rest) := by
  intro H fr w v vs hok hv ha
  obtain ⟨fn, first, caps, e, h1⟩ := h H (rest ++ fr) w v vs (by rw [← List.append_assoc]; exact hok) hv ha
  refine ⟨fn, first, caps, e, ?_⟩
  rcases h1 with ⟨f, e1, e2, e3⟩ | ⟨l, g, tmps, as, b, e1, e2, e3⟩
  · refine .inl ⟨f, e1, e2, e3.mono ?_⟩
    rintro e w' ⟨v, d, ms', H', he, hR, a1, a2, a3⟩
    exact ⟨v, d, _, H', he, ⟨ms', hR, rfl⟩, a1, by rw [List.append_assoc]; exact a2, a3⟩
  · refine .inr ⟨l, g, tmps, as, b, e1, e2, e3.mono ?_⟩
    rintro e w' ⟨v, d, ms', H', he, hR, a1, a2, a3⟩
    exact ⟨v, d, _, H', he, ⟨ms', hR, rfl⟩, a1, by rw [List.append_assoc]; exact a2, a3⟩
/-- A call of a function value. -/
theorem o_callv {args : List Operand} {ats : Array TypeId} {ds : List D} {fv : D} {ms₁ rest : List Asrt} (hx : Env.ev L x = some fv) (hev : evL L args = some ds)
    (hsplit : ms.Perm (ms₁ ++ rest)) (hf : FV P fv ds ms₁ R) : OpT P ⟨dst, .call ⟨.value x, args.toArray, ats⟩, ty, pos, after, g⟩ L ms (fun d ms' => ∃ ms₁', R d ms₁' ∧ ms' = ms₁' ++ rest) := by
  intro ro H fr a w hok henv next Q hn
  have hok' : HeapOk H (ms₁ ++ (rest ++ fr)) w := by rw [← List.append_assoc]; exact hok.perm (hsplit.append_right fr)
  obtain ⟨fn, first, caps, e, h1⟩ := hf H (rest ++ fr) w _ _ hok' (henv.ev hx) (evL_conc henv args ds hev)
  have fin : ∀ e w'', (∃ v d ms' H', e = Ending.returned v ∧ R d ms' ∧ PH.le H H' ∧ HeapOk H' (ms' ++ (rest ++ fr)) w'' ∧ Conc H' d v ∧ SameOut w w'') → ∃ v, e = .returned v ∧ next (a.put dst v) w'' := by
    rintro e w'' ⟨v, d, ms', H', rfl, hR, hle, hok'', hcc, hs⟩
    exact ⟨v, rfl, hn v d _ w'' H' ⟨ms', hR, rfl⟩ hle (by rw [List.append_assoc]; exact hok'') hcc hs⟩
  rcases h1 with ⟨f, e1, e2, e3⟩ | ⟨l, g', tmps, as, b, e1, e2, e3⟩
  · refine op_enter (w' := w) (by simp) ?_ e3 fin
    subst e1
    simp [execOp, resolve, e, Deferred.ofValue, invoke, Sem.run, e2, Sem.run_bind]
  · refine ⟨fun _ _ => trivial, ?_⟩
    rw [Oper.semAt_eq _ _ _ (by simp)]
    have : (execOp a.eval ⟨dst, .call ⟨.value x, args.toArray, ats⟩, ty, pos, after, g⟩).run P w = .ok (.round l g' tmps as b) w := by
      subst e1
      simp [execOp, resolve, e, Deferred.ofValue, invoke, Sem.run, Sem.run_bind]
      simpa [Sem.run] using e2
    rw [this]
    refine ⟨by simp, ?_⟩
    have e4 : RoundIn (FR ro) 0 P l g' tmps as b w _ := e3
    refine RoundIn.mono e4 ?_
    intro e w'' he
    obtain ⟨v, rfl, hv⟩ := fin e w'' he
    exact hv
/-- A function value that captures. -/
theorem o_makeFunc {fn : Go.Fn} {fs cs : List Operand} {ds es : List D} (h1 : evL L fs = some ds) (h2 : evL L cs = some es) : OpP P ⟨dst, .makeFunc fn fs.toArray cs.toArray, ty, pos, after, g⟩ L ms (.clo fn ds es) := by
  refine .pure (by simp) fun H fr a w hok henv => ?_
  refine ⟨.func fn (fs.map a.eval).toArray (cs.map a.eval).toArray, by simp [execOp, Instr.makeFunc, Sem.run], ?_⟩
  rw [conc_enc (by rfl)]
  simp only [Enc]
  exact ⟨_, _, rfl, evL_conc henv _ _ h1, evL_conc henv _ _ h2⟩
end
/-- What the heap's persistent part is known to hold. -/
def fact (p : PH → Prop) (h : ∀ H H', PH.le H H' → p H → p H') : Asrt where
  blocks := []
  ok := fun H _ => p H
  stable := fun H H' _ _ _ hle o => h H H' hle o
def recX (l : Nat) (r : Loop) : Asrt where
  blocks := [l]
  ok := fun H h => h l = some (.loop r)
  stable := fun H H' h h' e _ o => by rw [(e l (by simp)).2]; exact o
/-- An iterator yields xs, one by one, and nothing else. -/
def Iter (P : Program) (gf : FuncId) (caps : List D) (xs : List (List D)) : Prop :=
  ∀ (y : D), (y.storable = true ∧ y.isAgg = false) → ∀ (J : Nat → List Asrt → Prop) (Jx : List Asrt → Prop),
    (∀ k ds ms, xs[k]? = some ds → J k ms → FV P y ds ms (fun r ms' => (r = .bool true ∧ J (k + 1) ms') ∨ (r = .bool false ∧ Jx ms'))) →
    ∀ ms, J 0 ms → Fn P gf (y :: caps) ms (fun _ ms' => J xs.length ms' ∨ Jx ms')
theorem HeapOk.put {H : PH} {A A' : Asrt} {as : List Asrt} {w : World} {l : Nat} {o o' : Obj} (h : HeapOk H (A :: as) w) (hb : A.blocks = [l]) (hb' : A'.blocks = [l]) (ho : w.heap[l]? = some o) (hno : o.isCells = false)
    (hok : A'.ok H (fun b => (w.putObj l o').heap[b]?)) : HeapOk H (A' :: as) (w.putObj l o') := by
  refine h.upd (hb'.trans hb.symm) (by simp) (fun b _ hn => World.putObj_heap_other (fun e => hn (by rw [hb, e]; simp))) (fun _ _ _ _ => rfl) (PH.le_refl H) ?_ hok
  intro b off v hbb hv
  exfalso
  rcases hbb with hbb | hbb
  · rw [hb] at hbb
    simp at hbb
    subst hbb
    have := h.sub b off v hv
    simp only [World.cell?, ho] at this
    cases o <;> simp_all [Obj.isCells]
  · rw [h.none_new b off hbb] at hv; cases hv
theorem sameOut_put (w : World) (l : Nat) (o : Obj) : SameOut w (w.putObj l o) := ⟨rfl, rfl, rfl, by simp⟩
theorem HeapOk.app {H : PH} {as bs : List Asrt} {w : World} (h : HeapOk H (as ++ bs) w) : HeapOk H (bs ++ as) w := h.perm List.perm_append_comm
theorem perm_two (x y : Asrt) (ms fr : List Asrt) : (x :: y :: (ms ++ fr)).Perm (ms ++ (x :: y :: fr)) := by
  have : (x :: y :: (ms ++ fr)) = [x, y] ++ (ms ++ fr) := rfl
  rw [this]
  have : (ms ++ (x :: y :: fr)) = ms ++ ([x, y] ++ fr) := rfl
  rw [this, ← List.append_assoc, ← List.append_assoc]
  exact (List.perm_append_comm).append_right _
theorem perm_mid (ms mk : List Asrt) (x : Asrt) (fr : List Asrt) : (ms ++ (mk ++ (x :: fr))).Perm (x :: (ms ++ (mk ++ fr))) := by
  rw [← List.append_assoc, ← List.append_assoc]; exact List.perm_middle
theorem perm_out (x : Asrt) (ms mk : List Asrt) (y : Asrt) (fr : List Asrt) : (x :: (ms ++ (mk ++ (y :: fr)))).Perm (mk ++ ((x :: y :: ms) ++ fr)) := by
  have h1 : (ms ++ (mk ++ (y :: fr))).Perm (y :: (ms ++ (mk ++ fr))) := perm_mid ms mk y fr
  have h2 : (ms ++ (mk ++ fr)).Perm (mk ++ (ms ++ fr)) := by
    rw [← List.append_assoc, ← List.append_assoc]; exact (List.perm_append_comm).append_right _
  refine ((h1.cons x).trans ((h2.cons y).cons x)).trans ?_
  exact perm_two x y mk (ms ++ fr)
section
variable {Γ : Ctx} {P : Program} {L : Env} {ms : List Asrt} {K : KT}
theorem enter_any {H : PH} {fr : List Asrt} {w : World} {a : Act} (ro : Option Nat) (hround : ∀ l, ro = some l → ∃ r, w.heap[l]? = some (.loop r)) (hok : HeapOk H fr w) (fn : FuncId) (ps : Array Tmp) (assign body : Code) :
    ∃ (l : Nat) (marksN : List Nat) (W1 : World) (D : Nat), (Instr.enterLoop fn a.tmps ps assign body ro).run P w = .ok (l, marksN.map markD) W1 ∧
      HeapOk H (recX l { state := .ready, pending := none, fn, tmps := a.tmps, params := ps, assign, body, defers := D } :: (marksN.map markA ++ fr)) W1 ∧ SameOut w W1 := by
  cases ro with
  | none =>
    refine ⟨w.heap.size + 1, [w.heap.size], _, w.heap.size, run_enterLoop_outer _ _ _ _ _, ?_, (sameOut_alloc _ _).trans (sameOut_alloc _ _)⟩
    have h1 : HeapOk H (markA w.heap.size :: fr) (w.alloc (.deferred (some []))) := hok.own rfl (by simp only [markA]; exact heap_alloc_new _ _)
    have h2 := h1.own (o := .loop { state := .ready, pending := none, fn, tmps := a.tmps, params := ps, assign, body, defers := w.heap.size })
      (A := recX (w.heap.size + 1) { state := .ready, pending := none, fn, tmps := a.tmps, params := ps, assign, body, defers := w.heap.size })
      (by rw [size_alloc']; rfl) (by
        simp only [recX]
        have := heap_alloc_new (w.alloc (.deferred (some []))) (.loop { state := .ready, pending := none, fn, tmps := a.tmps, params := ps, assign, body, defers := w.heap.size })
        rw [size_alloc'] at this
        exact this)
    exact h2
  | some l₀ =>
    obtain ⟨r₀, hr₀⟩ := hround l₀ rfl
    refine ⟨w.heap.size, [], _, r₀.defers, run_enterLoop_inner hr₀ _ _ _ _ _, ?_, sameOut_alloc _ _⟩
    exact hok.own rfl (by simp only [recX]; exact heap_alloc_new _ _)
theorem calls_in {f : FuncId} {args : Array Value} {w : World} {R : Ending → World → Prop} {n : Nat} (h : Calls P f args w R) (ro : Option Nat) : CallsIn (FR ro) n P f args w R :=
  callsIn_wide.2 h
/-- A round's parameters. -/
def bindPs : List Nat → List D → Env → Env
  | p :: ps, d :: ds, L => bindPs ps ds ((p, d) :: L)
  | _, _, L => L
theorem bind_ok {H : PH} : ∀ (ps : List Nat) (ds : List D) (vs : List Value) (L : Env) (tmps : Array Value), (∀ p ∈ ps, p < tmps.size) → ps.length = ds.length → ConcL H ds vs → EnvOk H L tmps →
    EnvOk H (bindPs ps ds L) ((ps.zip vs).foldl (fun t (p : Nat × Value) => t.setIfInBounds p.1 p.2) tmps)
  | [], ds, vs, L, tmps, _, hl, h, e => by
    cases ds with
    | nil => simpa [bindPs] using e
    | cons => simp at hl
  | p :: ps, [], vs, L, tmps, _, hl, _, _ => by simp at hl
  | p :: ps, d :: ds, vs, L, tmps, hp, hl, h, e => by
    simp only [ConcL] at h
    obtain ⟨u, r, rfl, hd, hr⟩ := h
    simp only [bindPs, List.zip_cons_cons, List.foldl_cons]
    exact bind_ok ps ds r _ _ (fun q hq => by rw [Array.size_setIfInBounds]; exact hp q (by simp [hq])) (by simpa using hl) hr (e.put (hp p (by simp)) hd)
theorem fold_size : ∀ (l : List (Nat × Value)) (tmps : Array Value), (l.foldl (fun t (p : Nat × Value) => t.setIfInBounds p.1 p.2) tmps).size = tmps.size
  | [], _ => rfl
  | p :: l, tmps => by rw [List.foldl_cons, fold_size l]; simp
/-- A range over a function that yields xs. -/
theorem g_rangeFunc {g : Operand} {ps : List Nat} {assign body : Code} {gf : FuncId} {caps : List D} (xs : List (List D)) (J : Nat → List Asrt → Prop)
    (hg : Env.ev L g = some (.clo (.func gf) [] caps)) (hc : ∀ args w, (callFunc gf args).run P w = .ok (.enter gf args) w) (hit : Iter P gf caps xs) (h0 : J 0 ms)
    (hlen : ∀ ds ∈ xs, ds.length = ps.length) (hps : ps.all (fun p => Nat.blt p Γ.N) = true)
    (round : ∀ (Γ' : Ctx) (k : Nat) (ds : List D) (ms' : List Asrt), Γ'.N = Γ.N → xs[k]? = some ds → J k ms' →
      G Γ' P assign (bindPs ps ds L) ms' (KT.then (fun L' ms'' => ∀ Γ'' : Ctx, Γ''.N = Γ.N → G Γ'' P body L' ms'' (fun e _ ms3 => match e with | .normal => J (k + 1) ms3 | .ret => K .ret L ms3 | .exit id => K (.exit id) L ms3 | _ => False)) (fun _ _ _ => False)))
    (hdone : ∀ ms', J xs.length ms' → K .normal L ms') : G Γ P (.rangeFunc g ps.toArray assign body) L ms K := by
  intro a w m
  obtain ⟨H, marks, hle, hok, henv, hdf⟩ := m.ex
  refine wpIn_rangeFunc ?_
  intro fn hfn
  have hgv := henv.ev hg
  rw [conc_enc (by rfl)] at hgv
  simp only [Enc] at hgv
  obtain ⟨us, ws, hvv, hus, hws⟩ := hgv
  simp only [ConcL] at hus
  subst hus
  simp only [List.cons.injEq, and_true] at hvv
  obtain ⟨l, marksN, W1, D, hent, hok1, hs1⟩ := enter_any (P := P) (H := H) (a := a) Γ.round (fun l hl => by
    obtain ⟨A, hA, h⟩ := Γ.hround l hl
    exact h H _ (hok.ok A (by simp [hA]))) hok fn ps.toArray assign body
  refine ⟨l, marksN.map markD, W1, { target := .fn (.func gf) ws.toArray, args := #[.func (.yield l) #[] #[]] }, W1, gf, #[.func (.yield l) #[] #[]] ++ ws.toArray, W1, hent, ?_, fun _ _ => trivial, ?_, by simp, ?_⟩
  · simp only [resolve, hvv]
    simp [Deferred.ofValue, Sem.run, Act.eval]
  · simp [invoke, Sem.run, hc]
  · obtain ⟨rec, hrec⟩ : ∃ rec : LoopState → Option Code → Loop, rec = fun st pe => { state := st, pending := pe, fn := fn, tmps := a.tmps, params := ps.toArray, assign := assign, body := body, defers := D } := ⟨_, rfl⟩
    have hrec0 : ({ state := .ready, pending := none, fn := fn, tmps := a.tmps, params := ps.toArray, assign := assign, body := body, defers := D } : Loop) = rec .ready none := by rw [hrec]
    rw [hrec0] at hok1
    let fA := fact (fun H' => EnvOk H' L a.tmps ∧ PH.le H H') (fun A B hl h => ⟨h.1.mono hl, PH.le_trans h.2 hl⟩)
    -- the iterator's contract
    have key := hit (.v (.func (.yield l) #[] #[])) ⟨rfl, rfl⟩ (fun k ms' => ∃ ms, J k ms ∧ ms' = recX l (rec .ready none) :: fA :: ms)
      (fun ms' => ∃ ms c, (match c with | .ret => K .ret L ms | .exit id => K (.exit id) L ms | _ => False) ∧ ms' = recX l (rec .done (some c)) :: fA :: ms) ?_
      (recX l (rec .ready none) :: fA :: ms) ⟨ms, h0, rfl⟩
    · have hokF : HeapOk H ((recX l (rec .ready none) :: fA :: ms) ++ (marksN.map markA ++ (marks.map markA ++ Γ.fr))) W1 := by
        have hp : (recX l (rec .ready none) :: (marksN.map markA ++ (ms ++ (marks.map markA ++ Γ.fr)))).Perm ((recX l (rec .ready none) :: ms) ++ (marksN.map markA ++ (marks.map markA ++ Γ.fr))) := by
          rw [List.cons_append]
          refine List.Perm.cons _ ?_
          rw [← List.append_assoc (marksN.map markA), ← List.append_assoc ms]
          exact (List.perm_append_comm).append_right _
        have h2 := hok1.perm hp
        refine ⟨h2.sub, ?_, ?_, ?_⟩
        · have := h2.nodup
          simp only [List.cons_append, List.flatMap_cons] at this ⊢
          simpa [fA, fact] using this
        · intro A hA b hb
          simp only [List.cons_append, List.mem_cons] at hA
          rcases hA with rfl | rfl | hA
          · exact h2.lt (recX l (rec .ready none)) (by simp) b hb
          · simp [fA, fact] at hb
          · exact h2.lt A (by simp at hA ⊢; grind) b hb
        · intro A hA
          simp only [List.cons_append, List.mem_cons] at hA
          rcases hA with rfl | rfl | hA
          · exact h2.ok (recX l (rec .ready none)) (by simp)
          · exact ⟨henv, PH.le_refl H⟩
          · exact h2.ok A (by simp at hA ⊢; grind)
      have hcall := key H _ W1 (.func (.yield l) #[] #[] :: ws) hokF (by simp only [ConcL]; exact ⟨_, _, rfl, ⟨_, by simp only [Enc], rfl⟩, hws⟩)
      rw [show (Value.func (.yield l) #[] #[] :: ws).toArray = #[Value.func (.yield l) #[] #[]] ++ ws.toArray by simp] at hcall
      refine CallsIn.mono (calls_in hcall Γ.round) ?_
      rintro e w3 ⟨v, d, ms', H', rfl, hR, hle', hok', _, hs3⟩
      have fin : ∀ (st : LoopState) (pe : Option Code) (ms2 : List Asrt), st ≠ .busy → ms' = recX l (rec st pe) :: fA :: ms2 →
          ∃ w4, (Instr.endLoop l).run P w3 = .ok pe w4 ∧ Models Γ L ms2 { a with defers := marksN.map markD ++ a.defers } w4 := by
        rintro st pe ms2 hst rfl
        have hl : w3.heap[l]? = some (.loop (rec st pe)) := hok'.ok (recX l (rec st pe)) (by simp)
        have hE := run_endLoop (P := P) hl (by rw [hrec]; exact hst)
        have hp : (rec st pe).pending = pe := by rw [hrec]
        have hE' : (Instr.endLoop l).run P w3 = .ok pe (w3.putObj l (.loop { rec st pe with state := .exhausted })) := by
          rw [hE]; congr 1
        refine ⟨_, hE', ?_⟩
        obtain ⟨f1, f2⟩ : EnvOk H' L a.tmps ∧ PH.le H H' := hok'.ok fA (by simp)
        have h4 := hok'.put (A' := recX l { rec st pe with state := .exhausted }) (o' := .loop { rec st pe with state := .exhausted }) rfl rfl hl rfl (by
          simp only [recX]; exact World.putObj_heap_same (Array.getElem?_eq_some_iff.1 hl).1)
        have h5 : HeapOk H' (ms2 ++ (marksN.map markA ++ (marks.map markA ++ Γ.fr))) (w3.putObj l (.loop { rec st pe with state := .exhausted })) := by
          have : HeapOk H' ([recX l { rec st pe with state := .exhausted }, fA] ++ (ms2 ++ (marksN.map markA ++ (marks.map markA ++ Γ.fr)))) (w3.putObj l (.loop { rec st pe with state := .exhausted })) := by simpa using h4
          exact this.drop
        refine ⟨⟨H', marksN ++ marks, PH.le_trans hle f2, ?_, f1, ?_⟩, m.size, ((m.same.trans hs1).trans hs3).trans (sameOut_put _ _ _)⟩
        · rw [List.map_append, List.append_assoc]; exact h5
        · simp [hdf]
      rcases hR with ⟨ms2, hJ, e2⟩ | ⟨ms2, c, hK, e2⟩
      · obtain ⟨w4, h1, h2⟩ := fin _ _ ms2 (by simp) e2
        exact ⟨none, w4, h1, L, ms2, hdone ms2 hJ, h2⟩
      · obtain ⟨w4, h1, h2⟩ := fin _ _ ms2 (by simp) e2
        refine ⟨some c, w4, h1, ?_⟩
        cases c with
        | ret => exact wpIn_ret ⟨L, ms2, hK, h2⟩
        | exit id => exact wpIn_exit ⟨L, ms2, hK, h2⟩
        | _ => exact hK.elim
    · -- one round
      rintro k ds ms' hx ⟨ms2, hJ, rfl⟩
      intro H2 fr2 W v vs hok2 hv hvs
      have hl : W.heap[l]? = some (.loop (rec .ready none)) := hok2.ok (recX l (rec .ready none)) (by simp)
      obtain ⟨f1, f2⟩ : EnvOk H2 L a.tmps ∧ PH.le H H2 := hok2.ok fA (by simp)
      have hdl : ds.length = ps.length := hlen ds (List.mem_of_getElem? hx)
      have hvl : vs.length = ps.length := by rw [ConcL.length ds vs hvs, hdl]
      refine ⟨_, _, _, conc_v.1 hv, .inr ⟨l, fn, (ps.zip vs).foldl (fun t (p : Nat × Value) => t.setIfInBounds p.1 p.2) a.tmps, assign, body, rfl, ?_, ?_⟩⟩
      · have hy := run_yield (P := P) (args := vs.toArray) hl (by rw [hrec]; simp [hvl])
        rw [hrec] at hy
        rw [show (#[] : Array Value) ++ vs.toArray = vs.toArray by simp]
        rw [hy]
        congr 2
        rw [← Array.foldl_toList]
        simp
      · have hN1 : ∀ p ∈ ps, p < a.tmps.size := fun p hp => by
          rw [m.size]; exact Nat.le_of_ble_eq_true (List.all_eq_true.1 hps p hp)
        let Γ1 : Ctx := ⟨H2, recX l (rec .ready none) :: fA :: fr2, Γ.N, some l, W, fun l' e => by
          cases e; exact ⟨recX l (rec .ready none), by simp, fun H h o => ⟨_, o⟩⟩⟩
        have hM1 : Models Γ1 (bindPs ps ds L) ms2 { tmps := (ps.zip vs).foldl (fun t (p : Nat × Value) => t.setIfInBounds p.1 p.2) a.tmps, defers := [] } W := by
          refine ⟨⟨H2, [], PH.le_refl _, hok2.perm ?_, bind_ok ps ds vs L _ hN1 hdl.symm hvs f1, rfl⟩, by simp only [fold_size]; exact m.size, SameOut.refl _⟩
          simp only [List.map_nil, List.nil_append, Γ1, List.cons_append]
          exact (perm_two _ _ _ _)
        refine roundIn_of_wpIn (F := FR none) trivial ?_
        refine wpIn_mono (round Γ1 k ds ms2 rfl hx hJ _ W hM1) ?_
        rintro e a1 w1 ⟨L', ms'', k', m'⟩
        cases e with
        | normal =>
          obtain ⟨H3, marks', hle3, hok3, henv3, hdf3⟩ := m'.ex
          have hl1 : w1.heap[l]? = some (.loop (rec .ready none)) := hok3.ok (recX l (rec .ready none)) (by simp [Γ1])
          have hst : (rec .ready none).state = .ready := by rw [hrec]
          refine ⟨_, run_beginRound hl1 hst, ?_⟩
          obtain ⟨w2, hw2⟩ : ∃ w2, w1.putObj l (.loop { rec .ready none with state := .busy }) = w2 := ⟨_, rfl⟩
          have hb2 : w2.heap[l]? = some (.loop { rec .ready none with state := .busy }) := by
            rw [← hw2]; exact World.putObj_heap_same (Array.getElem?_eq_some_iff.1 hl1).1
          let Γ2 : Ctx := ⟨H3, recX l { rec .ready none with state := .busy } :: fA :: fr2, Γ.N, some l, w2, fun l' e => by
            cases e; exact ⟨recX l { rec .ready none with state := .busy }, by simp, fun H h o => ⟨_, o⟩⟩⟩
          have hok4 : HeapOk H3 (ms'' ++ (marks'.map markA ++ Γ2.fr)) w2 := by
            have h1 := hok3.perm (perm_mid ms'' (marks'.map markA) (recX l (rec .ready none)) (fA :: fr2))
            have h2 := h1.put (A' := recX l { rec .ready none with state := .busy }) (o' := .loop { rec .ready none with state := .busy }) rfl rfl hl1 rfl (by
              simp only [recX]; rw [hw2]; exact hb2)
            rw [hw2] at h2
            exact h2.perm (perm_mid ms'' (marks'.map markA) _ (fA :: fr2)).symm
          have hs2 : SameOut w1 w2 := by rw [← hw2]; exact sameOut_put _ _ _
          rw [hw2]
          refine wpIn_mono (k' Γ2 rfl a1 w2 ⟨⟨H3, marks', PH.le_refl _, hok4, henv3, hdf3⟩, m'.size, SameOut.refl _⟩) ?_
          rintro e a3 w3 ⟨L3, ms3, k3, m3⟩
          obtain ⟨H4, marks4, hle4, hok5, henv4, hdf4⟩ := m3.ex
          have fin : ∀ (jump : Option Code), ∃ w4, (Instr.endRound l jump).run P w3 = .ok (.bool jump.isNone) w4 ∧ HeapOk H4 ((recX l (rec (if jump.isNone then .ready else .done) jump) :: fA :: ms3) ++ fr2) w4 ∧ SameOut w3 w4 := by
            intro jump
            have hl3 : w3.heap[l]? = some (.loop { rec .ready none with state := .busy }) := hok5.ok (recX l { rec .ready none with state := .busy }) (by simp [Γ2])
            have hr : ({ ({ rec .ready none with state := .busy } : Loop) with state := if jump.isNone then .ready else .done, pending := jump } : Loop) = rec (if jump.isNone then .ready else .done) jump := by rw [hrec]
            have hE := run_endRound (P := P) jump hl3
            rw [hr] at hE
            refine ⟨_, hE, ?_, sameOut_put _ _ _⟩
            have h1 := hok5.perm (perm_mid ms3 (marks4.map markA) _ (fA :: fr2))
            have h2 := h1.put (A' := recX l (rec (if jump.isNone then .ready else .done) jump)) (o' := .loop (rec (if jump.isNone then .ready else .done) jump)) rfl rfl hl3 rfl (by
              simp only [recX]; exact World.putObj_heap_same (Array.getElem?_eq_some_iff.1 hl3).1)
            have h3 := h2.perm (perm_out _ ms3 (marks4.map markA) fA fr2)
            exact h3.drop
          have le4 : PH.le H2 H4 := PH.le_trans hle3 hle4
          have hs3 : SameOut W w3 := (m'.same.trans hs2).trans m3.same
          cases e with
          | normal =>
            obtain ⟨w4, h1, h2, h3⟩ := fin none
            exact ⟨_, w4, h1, _, _, _, H4, rfl, .inl ⟨rfl, ms3, k3, rfl⟩, le4, h2, conc_v.2 rfl, hs3.trans h3⟩
          | ret =>
            obtain ⟨w4, h1, h2, h3⟩ := fin (some .ret)
            exact ⟨_, w4, h1, _, _, _, H4, rfl, .inr ⟨rfl, ms3, .ret, k3, rfl⟩, le4, h2, conc_v.2 rfl, hs3.trans h3⟩
          | exit id =>
            obtain ⟨w4, h1, h2, h3⟩ := fin (some (.exit id))
            exact ⟨_, w4, h1, _, _, _, H4, rfl, .inr ⟨rfl, ms3, .exit id, k3, rfl⟩, le4, h2, conc_v.2 rfl, hs3.trans h3⟩
          | goto t => exact k3.elim
          | panic ch => exact k3.elim
          | outgrown => exact k3.elim
        | exit id => exact k'.elim
        | goto t => exact k'.elim
        | ret => exact k'.elim
        | panic ch => exact k'.elim
        | outgrown => exact k'.elim
end
end Go.V
set_option linter.unusedVariables false
set_option linter.unusedSimpArgs false
namespace Go.V
section
variable {P : Program} {L : Env} {ms : List Asrt} {dst : Option Nat} {ty : TypeId} {pos : String} {after : Array Edge} {g : Option (Nat × Bool)} {d d' : D} {x y : Operand} {t t' : TypeId} {R : D → List Asrt → Prop}
inductive EK | int | bool | str
/-- Data of one cell, compared. -/
def eqD1 : EK → D → D → Option Bool
  | .int, .v (.int k a), .v (.int k' b) => if k = k' then some (a == b) else none
  | .bool, .v (.bool a), .v (.bool b) => some (a == b)
  | .str, .v (.string a), .v (.string b) => some (a.data.toList == b.data.toList)
  | _, _, _ => none
def eqDs : List EK → List D → List D → Option Bool
  | [], [], [] => some true
  | k :: ks, c :: cs, d :: ds => match eqD1 k c d, eqDs ks cs ds with
    | some a, some b => some (a && b)
    | _, _ => none
  | _, _, _ => none
def EKOk (P : Program) (t : TypeId) : EK → Prop
  | .int => ∃ k, P.underlying t = some (.int k)
  | .bool => P.underlying t = some .bool
  | .str => P.underlying t = some .string
/-- Fields of one cell each, that can be compared. -/
def EqFields (P : Program) : List Field → Nat → List EK → Prop
  | [], _, [] => True
  | f :: r, off, k :: ks => f.name ≠ "_" ∧ f.offset = off ∧ (∀ w, (isAgg f.type).run P w = .ok false w) ∧ EKOk P f.type k ∧ EqFields P r (off + 1) ks
  | _, _, _ => False
theorem run_part {off : Nat} {xs : Array Value} {v : Value} {w : World} (ha : ∀ w, (isAgg t).run P w = .ok false w) (h : xs[off]? = some v) : (part t xs off).run P w = .ok v w := by
  simp [part, ha, h, Sem.run]
theorem toList_data (b : ByteArray) : b.toList = b.data.toList := by rw [ByteArray.toList_eq]
theorem eq_fields {H : PH} (d : Nat) : ∀ (fs : List Field) (off : Nat) (ks : List EK) (cs ds : List D) (xs ys pre pre' : List Value) (b : Bool) (w : World), EqFields P fs off ks → EncL H cs xs → EncL H ds ys → pre.length = off → pre'.length = off → eqDs ks cs ds = some b →
    (Op.eqFields (d + 1) (pre ++ xs).toArray (pre' ++ ys).toArray fs).run P w = .ok b w
  | [], off, [], cs, ds, xs, ys, pre, pre', b, w, _, hx, hy, _, _, hb => by
    cases cs with
    | nil =>
      cases ds with
      | nil => simp [eqDs] at hb; subst hb; simp [Op.eqFields, Sem.run]
      | cons => simp [eqDs] at hb
    | cons => simp [eqDs] at hb
  | [], off, _ :: _, cs, ds, xs, ys, pre, pre', b, w, hf, _, _, _, _, _ => by simp [EqFields] at hf
  | _ :: _, off, [], cs, ds, xs, ys, pre, pre', b, w, hf, _, _, _, _, _ => by simp [EqFields] at hf
  | f :: fs, off, k :: ks, [], ds, xs, ys, pre, pre', b, w, _, hx, hy, _, _, hb => by cases ds <;> simp [eqDs] at hb
  | f :: fs, off, k :: ks, c :: cs, [], xs, ys, pre, pre', b, w, _, hx, hy, _, _, hb => by simp [eqDs] at hb
  | f :: fs, off, k :: ks, c :: cs, e :: ds, xs, ys, pre, pre', b, w, hf, hx, hy, hp, hp', hb => by
    obtain ⟨h1, h2, h3, h4, h5⟩ := hf
    simp only [eqDs] at hb
    split at hb
    · rename_i b1 b2 e1 e2
      simp only [Option.some.injEq] at hb
      simp only [EncL] at hx hy
      obtain ⟨u, xs, rfl, x1, x2⟩ := hx
      obtain ⟨v, ys, rfl, y1, y2⟩ := hy
      have key : ∃ u' v', u = [u'] ∧ v = [v'] ∧ ∀ w, (Op.equalIn (d + 1) f.type u' v').run P w = .ok b1 w := by
        unfold eqD1 at e1
        split at e1
        · rename_i k m k' n
          split at e1
          · rename_i hk
            subst hk
            simp only [Option.some.injEq] at e1
            simp only [Enc] at x1 y1
            refine ⟨_, _, x1, y1, fun w => ?_⟩
            obtain ⟨k2, h4⟩ := h4
            rw [run_equalIn_int w d _ _ k2 m n h4, e1]
          · cases e1
        · simp only [Option.some.injEq] at e1
          simp only [Enc] at x1 y1
          exact ⟨_, _, x1, y1, fun w => by rw [run_equalIn_bool' w d _ _ _ h4, e1]⟩
        · simp only [Option.some.injEq] at e1
          simp only [Enc] at x1 y1
          exact ⟨_, _, x1, y1, fun w => by rw [run_equalIn_string w d _ _ _ h4, toList_data, toList_data, e1]⟩
        · cases e1
      obtain ⟨u, v, rfl, rfl, key⟩ := key
      have g1 : (pre ++ ([u] ++ xs)).toArray[f.offset]? = some u := by simp [h2, ← hp]
      have g2 : (pre' ++ ([v] ++ ys)).toArray[f.offset]? = some v := by simp [h2, ← hp']
      rw [Op.eqFields, if_pos h1]
      simp only [Sem.run_bind, run_part h3 g1, run_part h3 g2, Result.andThen_ok, key]
      cases b1 with
      | false => simp [Sem.run, ← hb]
      | true =>
        have ih := eq_fields d fs (off + 1) ks cs ds xs ys (pre ++ [u]) (pre' ++ [v]) b2 w h5 x2 y2 (by simp [hp]) (by simp [hp']) e2
        simp only [List.append_assoc] at ih
        simp only [Bool.not_true, Bool.false_eq_true, if_false]
        rw [ih, ← hb]; simp
    · cases hb
theorem eq_agg {H : PH} {fs : Array Field} {cs ds : List D} {xs ys : List Value} {ks : List EK} {b : Bool} (w : World) (hu : P.underlying t = some (.struct fs)) (hst : P.stoodInHeld t = false) (hf : EqFields P fs.toList 0 ks) (hx : EncL H cs xs) (hy : EncL H ds ys) (hb : eqDs ks cs ds = some b) :
    (Op.equalIn 10000 t (.agg xs.toArray) (.agg ys.toArray)).run P w = .ok b w := by
  have hfs : P.fieldsOf t = fs := by simp [Program.fieldsOf, hu]
  have h := run_equalIn_struct w 9999 t xs.toArray ys.toArray (by rw [hfs]; exact hu) hst
  rw [hfs] at h
  have := eq_fields 9998 fs.toList 0 ks cs ds xs ys [] [] b w hf hx hy rfl rfl hb
  simp only [List.nil_append] at this
  exact h.trans this
theorem o_neqagg {fs : Array Field} {cs ds : List D} {ks : List EK} {b : Bool} (hu : P.underlying t = some (.struct fs)) (hst : P.stoodInHeld t = false) (hg : P.eqGuardType P.depth t = false) (hf : EqFields P fs.toList 0 ks) (hx : Env.ev L x = some (.agg cs)) (hy : Env.ev L y = some (.agg ds)) (hb : eqDs ks cs ds = some b) :
    OpP P ⟨dst, .binOp .neq t x y t', ty, pos, after, g⟩ L ms (.v (.bool (!b))) := by
  refine .pure (by simp) fun H fr a w _ henv => ⟨.bool (!b), ?_, conc_v.2 rfl⟩
  obtain ⟨xs, e1, e2⟩ := conc_agg.1 (henv.ev hx)
  obtain ⟨ys, e3, e4⟩ := conc_agg.1 (henv.ev hy)
  simp only [execOp, e1, e3, Sem.run_bind, run_eqGuard_agg w .neq t x y _ _ hg, Result.andThen_ok, run_neq_struct, eq_agg w hu hst hf e2 e4 hb, Sem.run_pure]
end
section
variable {Γ : Ctx} {P : Program} {L : Env} {ms : List Asrt} {K : KT}
/-- A range over a function that yields xs. -/
theorem g_range {g : Operand} {ps : List Nat} {assign body : Code} {gf : FuncId} {caps : List D} (xs : List (List D)) (J : Nat → List Asrt → Prop)
    (hg : Env.ev L g = some (.clo (.func gf) [] caps)) (hc : ∀ args w, (callFunc gf args).run P w = .ok (.enter gf args) w) (hit : Iter P gf caps xs) (h0 : J 0 ms)
    (hlen : ∀ ds ∈ xs, ds.length = ps.length) (hps : ps.all (fun p => Nat.blt p Γ.N) = true)
    (round : ∀ (H0 : PH) (fr : List Asrt) (ro : Option Nat) (w0 : World) hr (k : Nat) (ds : List D) (ms' : List Asrt), xs[k]? = some ds → J k ms' →
      G ⟨H0, fr, Γ.N, ro, w0, hr⟩ P assign (bindPs ps ds L) ms' (KT.then (fun L' ms'' => ∀ (H0 : PH) (fr : List Asrt) (ro : Option Nat) (w0 : World) hr, G ⟨H0, fr, Γ.N, ro, w0, hr⟩ P body L' ms'' (fun e _ ms3 => match e with | .normal => (∃ junk ms4, ms3 = junk ++ ms4 ∧ J (k + 1) ms4) | .ret => K .ret L ms3 | .exit id => K (.exit id) L ms3 | _ => False)) (fun _ _ _ => False)))
    (hdone : ∀ ms', J xs.length ms' → K .normal L ms') : G Γ P (.rangeFunc g ps.toArray assign body) L ms K := by
  refine g_rangeFunc xs J hg hc hit h0 hlen hps ?_ hdone
  intro Γ' k ds ms' hN hx hJ
  obtain ⟨H0, fr, N, ro, w0, hr⟩ := Γ'
  simp only at hN
  subst hN
  refine g_mono (round H0 fr ro w0 hr k ds ms' hx hJ) ?_
  intro e L' ms'' k'
  cases e with
  | normal =>
    intro Γ'' hN'
    obtain ⟨H0', fr', N', ro', w0', hr'⟩ := Γ''
    simp only at hN'
    subst hN'
    intro a w m
    refine wpIn_mono (k' H0' fr' ro' w0' hr' a w m) ?_
    rintro e a' w' ⟨L3, ms3, k3, m3⟩
    cases e with
    | normal =>
      obtain ⟨junk, ms4, rfl, hJ'⟩ := k3
      exact ⟨L3, ms4, hJ', refines_junk junk _ _ _ m3⟩
    | _ => exact ⟨L3, ms3, k3, m3⟩
  | _ => exact k'
end
end Go.V
set_option linter.unusedVariables false
set_option linter.unusedSimpArgs false
namespace Go.V
section
variable {Γ : Ctx} {P : Program} {L : Env} {ms : List Asrt} {K : KT} {ops : Array Oper} {o : Oper} {rest l : List Oper} {i : Nat}
theorem yielded_undef {a : Act} {w : World} {j t : Nat} (m : Models Γ L ms a w) (hj : (ops[j]?).bind (·.dst) = some t) (hf : Env.find L t = some (.v undef)) : yielded ops a.tmps j = none := by
  obtain ⟨H, marks, hle, hok, henv, hdf⟩ := m.ex
  have h := conc_v.1 (henv t _ hf)
  simp only [yielded, hj, Option.bind_some]
  cases hq : a.tmps[t]? with
  | none => rfl
  | some v =>
    have hv : v = undef := by
      rw [Array.getD_eq_getD_getElem?, hq] at h
      exact h
    subst hv
    rfl
/-- What hangs on something that was not carried out is not carried out. -/
theorem go_skipu {j t : Nat} {want : Bool} (hg : o.guard = some (j, want)) (hj : (ops[j]?).bind (·.dst) = some t) (hf : Env.find L t = some (.v undef))
    (hd : o.dst = some i) (hi : Nat.blt i Γ.N = true) (k : GO Γ P ops rest ((i, .v undef) :: L) ms K) : GO Γ P ops (o :: rest) L ms K := by
  intro a w m
  have hy := yielded_undef (ops := ops) m hj hf
  simp only [wpListIn, Region.wanted, hg, hy]
  rw [show ((none : Option Bool) == some want) = false from rfl]
  simp only [Bool.false_eq_true, if_false]
  refine ⟨fun _ _ => trivial, ?_⟩
  obtain ⟨H, marks, hle, hok, henv, hdf⟩ := m.ex
  rw [hd]
  exact k _ _ (m.next hle hok henv hdf hi (conc_v.2 rfl) (SameOut.refl w))
/-- A call of a function value, with all that is owned. -/
theorem o_callva {dst : Option Nat} {ty : TypeId} {pos : String} {after : Array Edge} {g : Option (Nat × Bool)} {x : Operand} {R : D → List Asrt → Prop} {args : List Operand} {ats : Array TypeId} {ds : List D} {fv : D} (hx : Env.ev L x = some fv) (hev : evL L args = some ds)
    (hf : FV P fv ds ms R) : OpT P ⟨dst, .call ⟨.value x, args.toArray, ats⟩, ty, pos, after, g⟩ L ms R := by
  have := o_callv (P := P) (L := L) (ms := ms) (dst := dst) (ty := ty) (pos := pos) (after := after) (g := g) (ats := ats) (ms₁ := ms) (rest := []) hx hev (by simp) hf
  intro ro H fr a w hok henv next Q hn
  refine this ro H fr a w hok henv next Q ?_
  rintro v d' ms' w' H' ⟨ms₁', hR, rfl⟩ hle hok' hc' hs
  exact hn v d' _ w' H' (by rw [List.append_nil]; exact hR) hle hok' hc' hs
theorem perm_none (ms : List Asrt) : ms.Perm ([] ++ ms) := by simp
/-- Two ways that meet behind n operations, told anew by what stays (L1) and by what slot p holds. -/
theorem go_or (L1 : Env) (n : Nat) (p : Nat) {t : Nat} {b c : Bool} (hs : SubEnv L1 L) (hb : Env.find L t = some (.v (.bool b)))
    (h1 : b = false → GO Γ P ops (l.drop n) ((p, .v (.bool c)) :: L1) ms K → GO Γ P ops l L ms K)
    (h2 : b = true → GO Γ P ops (l.drop n) ((p, .v (.bool true)) :: L1) ms K → GO Γ P ops l L ms K)
    (k : GO Γ P ops (l.drop n) ((p, .v (.bool (b || c))) :: L1) ms K) : GO Γ P ops l L ms K := by
  cases b with
  | true => exact h2 rfl k
  | false => exact h1 rfl (by simpa using k)
theorem go_and (L1 : Env) (n : Nat) (p : Nat) {t : Nat} {b c : Bool} (hs : SubEnv L1 L) (hb : Env.find L t = some (.v (.bool b)))
    (h1 : b = true → GO Γ P ops (l.drop n) ((p, .v (.bool c)) :: L1) ms K → GO Γ P ops l L ms K)
    (h2 : b = false → GO Γ P ops (l.drop n) ((p, .v (.bool false)) :: L1) ms K → GO Γ P ops l L ms K)
    (k : GO Γ P ops (l.drop n) ((p, .v (.bool (b && c))) :: L1) ms K) : GO Γ P ops l L ms K := by
  cases b with
  | false => exact h2 rfl k
  | true => exact h1 rfl (by simpa using k)
theorem o_pickT {x y z : Operand} {d : D} {b : Bool} {dst : Option Nat} {ty : TypeId} {pos : String} {after : Array Edge} {g : Option (Nat × Bool)} (hc : Env.ev L x = some (.v (.bool b))) (hb : b = true) (hy : Env.ev L y = some d) : OpP P ⟨dst, .pick x y z, ty, pos, after, g⟩ L ms d := by
  subst hb
  exact .pure (by simp) fun H fr a w _ henv => ⟨a.eval y, by simp [execOp, ev_v henv hc, asBool, Sem.run], henv.ev hy⟩
theorem o_pickF {x y z : Operand} {d : D} {b : Bool} {dst : Option Nat} {ty : TypeId} {pos : String} {after : Array Edge} {g : Option (Nat × Bool)} (hc : Env.ev L x = some (.v (.bool b))) (hb : b = false) (hy : Env.ev L z = some d) : OpP P ⟨dst, .pick x y z, ty, pos, after, g⟩ L ms d := by
  subst hb
  exact .pure (by simp) fun H fr a w _ henv => ⟨a.eval z, by simp [execOp, ev_v henv hc, asBool, Sem.run], henv.ev hy⟩
/-- The two ways' end. -/
theorem go_meet {L1 L' : Env} {p : Nat} {d : D} (h : GO Γ P ops l ((p, d) :: L1) ms K) (hp : Env.find L' p = some d) (hs : SubEnv L1 L') : GO Γ P ops l L' ms K :=
  go_conv (refines_sub (L := L') (L' := (p, d) :: L1) ⟨hp, hs⟩) h
end
end Go.V
set_option linter.unusedVariables false
set_option linter.unusedSimpArgs false
namespace Go.V
open Go.ChangeShapes Go.WideShapes Go.ChangeAt Go.RowKit
/-- The cells that lie in a world. -/
def Hof (w : World) : PH := fun b o => w.cell? ⟨b, o, none⟩
/-- What is read at a type stands for a datum that Q holds of. -/
def OpensD (P : Program) (t : TypeId) (Q : D → Prop) : Prop :=
  ∀ (H : Type) (enc : TypeId × Value → H) (w : World) (sp : Nat → Bool) (held : Bool) (fuel : Nat) (cs : List Value) (x : DataW H × List MemPlace), DataW.trod enc P w 0 sp held fuel t cs = some x → ∃ d, Q d ∧ Enc (Hof w) d cs
section
variable {P : Program} {t e : TypeId} {Q Q' : D → Prop}
theorem OpensD.imp (h : OpensD P t Q) (k : ∀ d, Q d → Q' d) : OpensD P t Q' := fun H enc w sp held fuel cs x hx => let ⟨d, a, b⟩ := h H enc w sp held fuel cs x hx; ⟨d, k d a, b⟩
theorem opens_int {k : IntKind} (ht : P.underlying t = some (.int k)) : OpensD P t (fun d => ∃ n, (Lit.int k n).wf = true ∧ d = .v (.int k n)) := by
  intro H enc w sp held fuel cs x hx
  obtain ⟨n, rfl, _, h⟩ := DataW.trod_int ht hx
  exact ⟨_, ⟨n, h, rfl⟩, by simp [Enc]⟩
theorem opens_string (ht : P.underlying t = some .string) : OpensD P t (fun d => ∃ s : List UInt8, s.length ≤ maxLen ∧ d = .str s) := by
  intro H enc w sp held fuel cs x hx
  obtain ⟨s, rfl, _, hs⟩ := DataW.trod_string ht hx
  exact ⟨_, ⟨s.data.toList, hs, rfl⟩, by simp [Enc]⟩
theorem cells_get {w : World} {base : Nat} {a : Addr} {n : Nat} {us : List Value} (h : w.cells? base a n = some us) : us.length = n ∧ ∀ (k : Nat) u, us[k]? = some u → w.cell? (a.add k) = some u := by
  unfold World.cells? at h
  split at h
  · have hl := mapM_some_length h
    simp at hl
    refine ⟨hl, fun k u hk => ?_⟩
    have hlt : k < n := by rw [← hl]; exact (List.getElem?_eq_some_iff.1 hk).1
    have := mapM_some_get h k k (by simp [hlt])
    rw [this, hk]
  · cases h
theorem cell_spot {w : World} {a : Addr} {u : Value} (h : w.cell? a = some u) : a.spot = none := by
  unfold World.cell? at h
  split at h
  · split at h
    · cases h
    · rename_i hs; simpa using hs
  · cases h
theorem opens_slice {α : Type} {f : α → D} {ok : α → Prop} {sz : Nat} (ht : P.underlying t = some (.slice e)) (hsz : P.cellsOf e = sz) (h0 : 0 < sz) (he : OpensD P e (fun d => ∃ a, ok a ∧ d = f a)) :
    OpensD P t (fun d => ∃ l : List α, l.length ≤ maxLen ∧ (∀ a ∈ l, ok a) ∧ d = .list sz f l) := by
  intro H enc w sp held fuel cs x hx
  rcases DataW.trod_slice ht hx with ⟨rfl, _⟩ | ⟨a, len, cap, elems, rest, n, _, rfl, _, _, hlc, hcap, hel, hget, _, _⟩
  · exact ⟨_, ⟨[], by simp, by simp, rfl⟩, by simp only [Enc]; exact ⟨none, 0, by simp, by simp, by simp [maxLen], by simp⟩⟩
  · rw [hsz] at hget
    have key : ∀ i : Fin len, ∃ (y : α) (us : List Value), ok y ∧ w.cells? 0 (a.add (i * sz)) sz = some us ∧ Enc (Hof w) (f y) us := by
      intro i
      have := hget i i.2
      rw [List.getElem?_eq_getElem (by rw [hel]; exact i.2)] at this
      simp only [Option.bind_eq_some_iff] at this
      obtain ⟨us, h1, h2⟩ := this
      obtain ⟨d, ⟨y, hy, rfl⟩, h3⟩ := he H enc w sp held n us _ h2
      exact ⟨y, us, hy, h1, h3⟩
    let g : Fin len → α := fun i => Classical.choose (key i)
    have hg : ∀ i : Fin len, ∃ us : List Value, ok (g i) ∧ w.cells? 0 (a.add (i * sz)) sz = some us ∧ Enc (Hof w) (f (g i)) us := fun i => Classical.choose_spec (key i)
    refine ⟨.list sz f (List.ofFn g), ⟨List.ofFn g, by simp; omega, ?_, rfl⟩, ?_⟩
    · intro y hy
      obtain ⟨i, rfl⟩ := (List.mem_ofFn).1 hy
      obtain ⟨us, h1, _⟩ := hg i
      exact h1
    · simp only [Enc, List.length_ofFn]
      refine ⟨some a, cap, rfl, hlc, hcap, ?_⟩
      rcases Nat.eq_zero_or_pos len with h0' | hpos
      · left; subst h0'; simp
      · right
        have hspot : a.spot = none := by
          obtain ⟨us, _, h2, _⟩ := hg ⟨0, hpos⟩
          obtain ⟨h3, h4⟩ := cells_get h2
          have := h4 0 us[0] (by rw [List.getElem?_eq_getElem (by omega)])
          simpa [Addr.add] using cell_spot this
        obtain ⟨b, off, spot⟩ := a
        simp only at hspot
        subst hspot
        refine ⟨b, off, rfl, fun i y hy => ?_⟩
        have hi : i < len := by
          have := (List.getElem?_eq_some_iff.1 hy).1; simpa using this
        have hgi : g ⟨i, hi⟩ = y := by
          rw [List.getElem?_eq_getElem (by simpa using hi)] at hy
          simpa using hy
        obtain ⟨us, _, h2, h3⟩ := hg ⟨i, hi⟩
        rw [hgi] at h3
        obtain ⟨h4, h5⟩ := cells_get h2
        refine ⟨us, h3, h4, fun k u hk => ?_⟩
        have := h5 k u hk
        unfold Hof
        have ea : (Addr.add (Addr.add ⟨b, off, none⟩ (i * sz)) k) = ⟨b, off + i * sz + k, none⟩ := by
          unfold Addr.add; split <;> split <;> simp_all
        simp only at this
        rw [ea] at this
        exact this
/-- A struct's fields, one behind another. -/
def FieldsOpen (P : Program) : List Field → Nat → Nat → List (D → Prop) → Prop
  | [], off, n, [] => off = n
  | f :: r, off, n, Q :: Qs => f.offset = off ∧ OpensD P f.type Q ∧ FieldsOpen P r (off + P.cellsOf f.type) n Qs
  | _, _, _, _ => False
def AllQ : List (D → Prop) → List D → Prop
  | [], [] => True
  | Q :: Qs, d :: ds => Q d ∧ AllQ Qs ds
  | _, _ => False
theorem fields_open {H : Type} {enc : TypeId × Value → H} {w : World} {sp : Nat → Bool} {held : Bool} {n : Nat} {cs : List Value} : ∀ (fs : List Field) (off : Nat) (Qs : List (D → Prop)), FieldsOpen P fs off cs.length Qs →
    (∀ f ∈ fs, ∃ x, DataW.trod enc P w 0 sp held n f.type ((cs.drop f.offset).take (P.cellsOf f.type)) = some x) → ∃ ds, AllQ Qs ds ∧ EncL (Hof w) ds (cs.drop off)
  | [], off, [], h, _ => by
    simp only [FieldsOpen] at h
    exact ⟨[], trivial, by simp [EncL, h]⟩
  | [], _, _ :: _, h, _ => by simp [FieldsOpen] at h
  | _ :: _, _, [], h, _ => by simp [FieldsOpen] at h
  | f :: fs, off, Q :: Qs, h, hx => by
    obtain ⟨h1, h2, h3⟩ := h
    obtain ⟨ds, k1, k2⟩ := fields_open fs _ Qs h3 (fun g hg => hx g (by simp [hg]))
    obtain ⟨x, hx1⟩ := hx f (by simp)
    obtain ⟨d, hd, he⟩ := h2 H enc w sp held n _ x hx1
    refine ⟨d :: ds, ⟨hd, k1⟩, ?_⟩
    simp only [EncL]
    refine ⟨_, _, ?_, he, k2⟩
    subst h1
    rw [← List.drop_drop, List.take_append_drop]
theorem opens_struct {fs : Array Field} {Qs : List (D → Prop)} (ht : P.underlying t = some (.struct fs)) (hf : FieldsOpen P fs.toList 0 (P.cellsOf t) Qs) : OpensD P t (fun d => ∃ ds, AllQ Qs ds ∧ d = .agg ds) := by
  intro H enc w sp held fuel cs x hx
  obtain ⟨xs, n, _, _, hl, hlen, hget⟩ := DataW.trod_struct ht hx
  obtain ⟨ds, h1, h2⟩ := fields_open (P := P) (enc := enc) (w := w) (sp := sp) (held := held) (n := n) (cs := cs) fs.toList 0 Qs (by rw [hl]; exact hf) (fun f hf => by
    obtain ⟨i, hi, hfi⟩ := List.getElem_of_mem hf
    have := hget i f (by simpa using (List.getElem?_eq_some_iff.2 ⟨hi, hfi⟩))
    rw [List.getElem?_eq_getElem (by rw [hlen]; simpa using hi)] at this
    exact ⟨_, this⟩)
  exact ⟨.agg ds, ⟨ds, h1, rfl⟩, by simp only [Enc]; simpa using h2⟩
/-- An argument. -/
theorem opens_arg {H : Type} {enc : TypeId × Value → H} {w : World} {sp : Nat → Bool} {held : Bool} {r : Reach} {b0 : Nat} {v : Value} {x : DataW H} {ps : List MemPlace} (ho : OpensD P t Q) (hag : ∀ d, Q d → d.isAgg = (match P.underlying t with | some (.struct _) | some (.array _ _) => true | _ => false)) (hval : Value.okWide P w r b0 t v) (hd : DataW.Trod enc P w 0 sp held t v x ps) :
    ∃ d, Q d ∧ Conc (Hof w) d v := by
  obtain ⟨fuel, hf⟩ := hd
  obtain ⟨d, h1, h2⟩ := ho H enc w sp held fuel _ _ hf
  refine ⟨d, h1, ?_⟩
  have h3 := hag d h1
  unfold Value.okWide at hval
  split at hval
  · rename_i e; rw [e] at h3
    obtain ⟨cs, rfl, _⟩ := hval
    cases d <;> simp [D.isAgg] at h3
    rw [conc_agg]
    simp only [Enc, Value.cells] at h2
    exact ⟨cs.toList, by simp, h2⟩
  · rename_i e; rw [e] at h3
    obtain ⟨cs, rfl, _⟩ := hval
    cases d <;> simp [D.isAgg] at h3
    rw [conc_agg]
    simp only [Enc, Value.cells] at h2
    exact ⟨cs.toList, by simp, h2⟩
  · rename_i e1 e2
    have h4 : d.isAgg = false := by
      rw [h3]; split
      · rename_i e; exact absurd e (by intro e; exact e1 _ e)
      · rename_i e; exact absurd e (by intro e; exact e2 _ _ e)
      · rfl
    rw [conc_enc h4]
    have hv : v.cells.toList = [v] := by
      cases v with
      | agg cs => simp [Cell.okWide, Cell.ok] at hval
      | _ => simp [Value.cells]
    rw [hv] at h2; exact h2
/-- All that lies in a world lies as it lay. -/
def oldA (w : World) : Asrt where
  blocks := List.range w.heap.size
  ok := fun _ h => ∀ b, b < w.heap.size → h b = w.heap[b]?
  stable := fun H H' h h' e _ o b hb => by rw [(e b (by simpa using hb)).2]; exact o b hb
theorem heapOk_old (w : World) : HeapOk (Hof w) ([] ++ [oldA w]) w := by
  refine ⟨fun b o v h => h, ?_, ?_, ?_⟩
  · simp [oldA, List.nodup_range]
  · intro A hA b hb; simp at hA; subst hA; simpa [oldA] using hb
  · intro A hA; simp at hA; subst hA; exact fun b _ => rfl
theorem law_calls {f : FuncId} {args : List D} {vs : List Value} {b : Bool} {W : World} (h : Fn0 P f args (.bool b)) (hargs : ConcL (Hof W) args vs) :
    Calls P f vs.toArray W (fun e W' => e = .returned (.bool b) ∧ Below W.heap.size W W') := by
  refine (h (Hof W) [oldA W] W vs (heapOk_old W) hargs).mono ?_
  rintro e w' ⟨v, d, ms', H', rfl, rfl, hle, hok, hc, hs⟩
  refine ⟨by rw [conc_v.1 hc], hs.os, hs.tape, hs.output, hs.size, ?_⟩
  exact hok.ok (oldA W) (by simp)
theorem Trod_all_stays (hl : laidOutB P = true) {H : Type} {enc : TypeId × Value → H} {W W' : World} {sp' : Nat → Bool} : ∀ {ts : List TypeId} {vs : List Value} {ds : List (DataW H)} {ps : List MemPlace}, (∀ t ∈ ts, P.readableRec t = true ∧ t < P.types.size) →
    DataW.TrodAll enc P W 0 (fun _ => true) true ts vs ds ps → (∀ p ∈ ps, W.sameAt W' p) → (∀ p ∈ ps, sp' p.block = true) → DataW.TrodAll enc P W' 0 sp' true ts vs ds ps
  | [], vs, ds, ps, _, h, _, _ => by
    obtain ⟨rfl, rfl, rfl⟩ := trodAll_nil h
    exact rfl
  | t :: ts, vs, ds, ps, ht, h, hs, hsp => by
    obtain ⟨v, vs', d, ds', p, q, rfl, rfl, rfl, h1, h2⟩ := trodAll_cons h
    exact ⟨p, q, WideElems.Trod_stays hl (ht t (by simp)).1 (ht t (by simp)).2 h1 (fun x hx => hs x (by simp [hx])) (fun x hx => hsp x (by simp [hx])),
      Trod_all_stays hl (fun t' h' => ht t' (by simp [h'])) h2 (fun x hx => hs x (by simp [hx])) (fun x hx => hsp x (by simp [hx])), rfl⟩
/-- What a law leaves. -/
theorem law_post {H : Type} {enc : TypeId × Value → H} {f : Func} {s : ChangeSpec} {apart handsOn : Bool} {W W' : World} {args : Array Value} {ds gs : List (DataW H)} {before : List MemPlace} {bt : TypeId} (hl : laidOutB P = true)
    (hW : DataW.Whole enc P f.params.toList s.vars apart W args.toList ds gs before) (hv : s.vars = []) (hr : f.resultTypes = #[bt]) (hb : P.underlying bt = some .bool)
    (hres : (s.fn H (ds ++ gs)).results = [.lit (.bool true)]) (hargs : (s.fn H (ds ++ gs)).args = ds) (hvs : (s.fn H (ds ++ gs)).vars = [])
    (hrd : ∀ t ∈ f.params.toList, P.readableRec t = true ∧ t < P.types.size) (bel : Below W.heap.size W W') : s.post enc P f apart true handsOn false W args (.bool true) W' := by
  have hW' := hW
  obtain ⟨p, q, hA, hV, rfl, hfz, hnd⟩ := hW
  have hlt : ∀ x ∈ p ++ q, x.block < W.heap.size := fun x hx => hW'.lt x hx
  rw [hv] at hV
  obtain ⟨rfl, rfl⟩ := trodVars_none hV
  refine ⟨ds, [], p ++ [], [], p, [], hW', ?_, ?_, ?_, bel.frame _, fun h => by cases h⟩
  · rw [hres, hr]
    exact trodAll_mk1 (shut_bool hb _)
  · rw [hargs]
    exact Trod_all_stays hl hrd hA (fun x hx => bel.same (hlt x (by simp [hx]))) (fun x hx => by simpa using hlt x (by simp [hx]))
  · rw [hvs, hv]; rfl
end
end Go.V
set_option linter.unusedVariables false
set_option linter.unusedSimpArgs false
namespace Go.V
section
variable {P : Program} {L : Env} {ms : List Asrt} {dst : Option Nat} {ty : TypeId} {pos : String} {after : Array Edge} {g : Option (Nat × Bool)} {d d' : D} {x y : Operand} {t t' : TypeId}
end
end Go.V
set_option linter.unusedVariables false
set_option linter.unusedSimpArgs false
namespace Go.V
section
variable {P : Program} {L : Env} {ms : List Asrt} {dst : Option Nat} {ty : TypeId} {pos : String} {after : Array Edge} {g : Option (Nat × Bool)} {d d' : D} {x y : Operand} {t t' e : TypeId}
end
end Go.V
set_option linter.unusedVariables false
set_option linter.unusedSimpArgs false
namespace Go.V
section
variable {α β γ δ : Type}
/-- Something must hold, or there is no answer. -/
def grd (p : Prop) [Decidable p] (k : Option α) : Option α := if p then k else none
theorem grd_some {p : Prop} [Decidable p] {k : Option α} {r : α} (h : grd p k = some r) : p ∧ k = some r := by
  unfold grd at h
  split at h
  · exact ⟨by assumption, h⟩
  · cases h
theorem grd_pos {p : Prop} [Decidable p] {k : Option α} (h : p) : grd p k = k := if_pos h
theorem bind_some {m : Option α} {k : α → Option β} {r : β} (h : m.bind k = some r) : ∃ x, m = some x ∧ k x = some r := by
  cases m with
  | none => cases h
  | some x => exact ⟨x, rfl, h⟩
theorem bind_of {m : Option α} {k : α → Option β} {x : α} (h : m = some x) : m.bind k = k x := by rw [h]; rfl
theorem cond_t {c : Bool} {a b : Option α} {r : α} (hc : c = true) (h : (bif c then a else b) = some r) : a = some r := by subst hc; exact h
theorem cond_f {c : Bool} {a b : Option α} {r : α} (hc : c = false) (h : (bif c then a else b) = some r) : b = some r := by subst hc; exact h
theorem cond_split {c : Bool} {a b : Option α} {r : α} (h : (bif c then a else b) = some r) : (c = true ∧ a = some r) ∨ (c = false ∧ b = some r) := by
  cases c with
  | true => exact .inl ⟨rfl, h⟩
  | false => exact .inr ⟨rfl, h⟩
theorem some_eq {x y : α} (h : some x = some y) : x = y := Option.some.inj h
/-- What a part of the code ends with: an end of the whole, or what it goes on with. -/
inductive Out (R S : Type) where
  | ret (r : R)
  | go (s : S)
def Out.on {R S : Type} (o : Out R S) (f : R → Option γ) (g : S → Option γ) : Option γ := match o with
  | .ret r => f r
  | .go s => g s
theorem on_ret {R S : Type} {f : R → Option γ} {g : S → Option γ} {r : R} {z : γ} (h : (Out.ret r).on f g = some z) : f r = some z := h
theorem on_go {R S : Type} {f : R → Option γ} {g : S → Option γ} {s : S} {z : γ} (h : (Out.go s).on f g = some z) : g s = some z := h
theorem go_on {R S : Type} {f : R → Option γ} {g : S → Option γ} {s : S} : (Out.go s).on f g = g s := rfl
/-- As many rounds as no machine makes. -/
def FU : Nat := 18446744073709551616
abbrev InR (n : Int) : Prop := -9223372036854775808 ≤ n ∧ n ≤ 9223372036854775807
def idx (l : List α) (i : Int) : Option α := if 0 ≤ i then l[i.toNat]? else none
theorem idx_some {l : List α} {i : Int} {x : α} (h : idx l i = some x) : 0 ≤ i ∧ l[i.toNat]? = some x := by
  unfold idx at h
  split at h
  · exact ⟨by assumption, h⟩
  · cases h
theorem idx_nat (l : List α) (i : Nat) : idx l (i : Int) = l[i]? := by unfold idx; rw [if_pos (by omega)]; rfl
def sli (l : List α) (lo hi : Int) : Option (List α) := if 0 ≤ lo ∧ lo ≤ hi ∧ hi ≤ l.length then some ((l.take hi.toNat).drop lo.toNat) else none
theorem sli_some {l : List α} {lo hi : Int} {x : List α} (h : sli l lo hi = some x) : 0 ≤ lo ∧ lo ≤ hi ∧ hi ≤ l.length ∧ (l.take hi.toNat).drop lo.toNat = x := by
  unfold sli at h
  split at h
  · rename_i hh
    exact ⟨hh.1, hh.2.1, hh.2.2, some_eq h⟩
  · cases h
theorem sli_nat (l : List α) (lo hi : Nat) (h : lo ≤ hi) (h2 : hi ≤ l.length) : sli l lo hi = some ((l.take hi).drop lo) := by
  unfold sli; rw [if_pos (by omega)]; simp
end
/-- What stays owned, at its places. -/
def FixOk : List Asrt → List (Nat × Asrt) → Prop
  | _, [] => True
  | ms, (i, A) :: r => ms[i]? = some A ∧ FixOk ms r
def nthF (F : List (Nat × Asrt)) (i : Nat) : Asrt := match F[i]? with | some p => p.2 | none => markA 0
section
variable {Γ : Ctx} {P : Program} {L : Env} {ms : List Asrt} {K : KT}
/-- A loop whose rounds are a model's. -/
theorem g_loop_m {c : Code} {S Hid O : Type} {φ : Nat → S → Option O} {n0 : Nat} {st0 : S} {o : O} (L1 : Env) (F : List (Nat × Asrt)) (mod : S → Hid → Env) (own : List (Nat × Asrt) → S → Hid → List Asrt) (hid0 : Hid) (hm : φ n0 st0 = some o) (hz : ∀ st, φ 0 st = none)
    (hs : SubEnv L1 L) (hF : FixOk ms F) (r0 : SubEnv (mod st0 hid0) L) (o0 : own F st0 hid0 = ms)
    (round : ∀ n st hid, φ (n + 1) st = some o → G Γ P c (mod st hid ++ L1) (own F st hid) (KT.then (fun L' ms' => ∃ st' hid', φ n st' = some o ∧ SubEnv (mod st' hid') L' ∧ SubEnv L1 L' ∧ ∃ junk, ms' = junk ++ own F st' hid') K)) : G Γ P (.loop c) L ms K := by
  refine g_loop_k L1 (fun (s : Nat × S × Hid) => φ s.1 s.2.1 = some o) (fun s => mod s.2.1 s.2.2) (fun s => own F s.2.1 s.2.2) (fun s => s.1) (n0, st0, hid0) hm hs r0 o0 ?_
  rintro ⟨n, st, hid⟩ hI
  cases n with
  | zero => exact absurd (hI.symm.trans (hz st)) (by simp)
  | succ n =>
    refine g_mono (round n st hid hI) ?_
    intro e L' ms' k
    cases e with
    | normal =>
      obtain ⟨st', hid', h1, h2, h3, h4⟩ := k
      exact ⟨(n, st', hid'), h1, Nat.lt_succ_self n, h2, h3, h4⟩
    | _ => exact k
/-- Ways that meet. -/
theorem g_cut_m {c : Code} {S Hid : Type} (L1 : Env) (F : List (Nat × Asrt)) (mod : S → Hid → Env) (own : List (Nat × Asrt) → S → Hid → List Asrt) (inv : S → Prop) (hs : SubEnv L1 L) (hF : FixOk ms F)
    (h : G Γ P c L ms (KT.then (fun L' ms' => ∃ st hid, inv st ∧ SubEnv (mod st hid) L' ∧ SubEnv L1 L' ∧ ∃ junk, ms' = junk ++ own F st hid) K))
    (k : ∀ st hid, inv st → K .normal (mod st hid ++ L1) (own F st hid)) : G Γ P c L ms K :=
  g_cut L1 (fun (s : S × Hid) => inv s.1) (fun s => mod s.1 s.2) (fun s => own F s.1 s.2)
    (g_mono h (by
      intro e L' ms' k'
      cases e with
      | normal =>
        obtain ⟨st, hid, h1, h2, h3, h4⟩ := k'
        exact ⟨(st, hid), h1, h2, h3, h4⟩
      | _ => exact k'))
    (fun s hi => k s.1 s.2 hi)
theorem g_norm {c : Code} {L' : Env} {ms' : List Asrt} (hL : L = L') (hm : ms = ms') (h : G Γ P c L' ms' K) : G Γ P c L ms K := by subst hL hm; exact h
theorem k_norm {e : Exit} {L' : Env} {ms' : List Asrt} (hL : L = L') (hm : ms = ms') (h : K e L' ms') : K e L ms := by subst hL hm; exact h
/-- Two ways that meet behind n operations. -/
theorem go_two {ops : Array Oper} {l : List Oper} (L1 : Env) (n : Nat) (p : Nat) (c : Bool) {t : Nat} {b : Bool} (hs : SubEnv L1 L) (hb : Env.find L t = some (.v (.bool b)))
    (h1 : b = true → GO Γ P ops (l.drop n) ((p, .v (.bool c)) :: L1) ms K → GO Γ P ops l L ms K)
    (h2 : b = false → GO Γ P ops (l.drop n) ((p, .v (.bool c)) :: L1) ms K → GO Γ P ops l L ms K)
    (k : GO Γ P ops (l.drop n) ((p, .v (.bool c)) :: L1) ms K) : GO Γ P ops l L ms K := by
  cases b with
  | true => exact h1 rfl k
  | false => exact h2 rfl k
end
section
variable {P : Program} {L L' : Env} {ms : List Asrt} {o : Oper} {d : D}
/-- An operation, with what is known told otherwise. -/
theorem OpP.view (h : RefE ms L L') (hp : OpP P o L' ms d) : OpP P o L ms d := by
  intro ro H fr a w hok henv
  refine hp ro H fr a w hok fun t d' ht => ?_
  obtain ⟨e, h1, _, h2⟩ := h t d' ht
  exact h2 H fr w _ hok (henv t e h1)
theorem OpT.view {R : D → List Asrt → Prop} (h : RefE ms L L') (hp : OpT P o L' ms R) : OpT P o L ms R := by
  intro ro H fr a w hok henv
  refine hp ro H fr a w hok fun t d' ht => ?_
  obtain ⟨e, h1, _, h2⟩ := h t d' ht
  exact h2 H fr w _ hok (henv t e h1)
theorem nilE {i sz : Nat} {α : Type} {f : α → D} (hf : Env.find L i = some (.v (.slice none 0 0))) : RefE ms L ((i, .list sz f []) :: L) := by
  intro t d' ht
  simp only [Env.find] at ht
  cases hb : Nat.beq i t with
  | true =>
    rw [hb] at ht
    have := Nat.eq_of_beq_eq_true hb
    subst this
    simp only [Option.some.injEq] at ht
    subst ht
    refine ⟨_, hf, (fun b e => (by cases e)), fun H fr w u hok c => ?_⟩
    rw [conc_v.1 c, conc_enc (by rfl)]
    simp only [Enc]
    exact ⟨none, 0, by simp, by simp, by simp [maxLen], by simp⟩
  | false => rw [hb] at ht; exact ⟨d', ht, fun _ _ => rfl, fun _ _ _ _ _ c => c⟩
/-- What is known of some data says also this of them. -/
def EntL : List D → List D → Prop
  | [], [] => True
  | d :: ds, e :: es => (∀ H u, Conc H d u → Conc H e u) ∧ EntL ds es
  | _, _ => False
theorem ent_rfl {d : D} : ∀ (H : PH) (u : Value), Conc H d u → Conc H d u := fun _ _ h => h
theorem ent_nil {sz : Nat} {α : Type} {f : α → D} : ∀ (H : PH) (u : Value), Conc H (.v (.slice none 0 0)) u → Conc H (.list sz f []) u := by
  intro H u c
  rw [conc_v.1 c, conc_enc (by rfl)]
  simp only [Enc]
  exact ⟨none, 0, by simp, by simp, by simp [maxLen], by simp⟩
theorem EntL.conc {H : PH} : ∀ {ds es : List D} {us : List Value}, EntL ds es → ConcL H ds us → ConcL H es us
  | [], [], _, _, h => h
  | d :: ds, e :: es, us, he, h => by
    simp only [ConcL] at h ⊢
    obtain ⟨u, r, rfl, h1, h2⟩ := h
    exact ⟨u, r, rfl, he.1 H u h1, EntL.conc he.2 h2⟩
  | [], _ :: _, _, he, _ => he.elim
  | _ :: _, [], _, he, _ => he.elim
theorem Fn.ent {f : FuncId} {ds es : List D} {R : D → List Asrt → Prop} (h : Fn P f es ms R) (he : EntL ds es) : Fn P f ds ms R :=
  fun H fr w vs hok hargs => h H fr w vs hok (he.conc hargs)
end
end Go.V
set_option linter.unusedVariables false
set_option linter.unusedSimpArgs false
namespace Go.V
theorem app_len {n k : Nat} (h : n * k ≤ 140737488355328) (hk : Nat.ble 1 k = true) : n ≤ maxLen := by
  have h1 := Nat.le_of_ble_eq_true hk
  have h2 : n * 1 ≤ n * k := Nat.mul_le_mul_left n h1
  simp only [maxLen]; omega
section
variable {P : Program} {L : Env} {ms : List Asrt} {dst : Option Nat} {ty : TypeId} {pos : String} {after : Array Edge} {g : Option (Nat × Bool)} {d d' : D} {x y : Operand} {t t' : TypeId}
theorem o_index_m {k : IntKind} {m : List UInt8} {n : Int} {c : UInt8} (hu : ∀ w, (underlying t).run P w = .ok .string w) (hx : Env.ev L x = some (.str m)) (hy : Env.ev L y = some (.v (.int k n)))
    (h : idx m n = some c) : OpP P ⟨dst, .index t x y, ty, pos, after, g⟩ L ms (.u8 c) := o_index hu hx hy (idx_some h).1 (idx_some h).2
theorem o_indexAddr_m {α : Type} {sz : Nat} {f : α → D} {l : List α} {e : TypeId} {k : IntKind} {n : Int} {z : α} (hu : ∀ w, (underlying t).run P w = .ok (.slice e) w) (hs : ∀ w, (sizeOf e).run P w = .ok sz w) (hx : Env.ev L x = some (.list sz f l))
    (hy : Env.ev L y = some (.v (.int k n))) (h : idx l n = some z) : OpP P ⟨dst, .indexAddr t x y, ty, pos, after, g⟩ L ms (.ref (f z)) := o_indexAddr hu hs hx hy (idx_some h).1 (idx_some h).2
def evZ (L : Env) (o : Option Operand) (dflt z : Int) : Prop := match o with
  | none => z = dflt
  | some x => ∃ k, Env.ev L x = some (.v (.int k z))
theorem evZ_N {o : Option Operand} {dflt : Nat} {z : Int} (h : evZ L o dflt z) (h0 : 0 ≤ z) : evN L o dflt z.toNat := by
  cases o with
  | none => simp only [evZ] at h; subst h; simp [evN]
  | some x => obtain ⟨k, hk⟩ := h; exact evN_some hk h0
theorem o_slice_m {α : Type} {sz : Nat} {f : α → D} {m r : List α} {lo hi : Option Operand} {l h : Int} {e : TypeId} (hu : ∀ w, (underlying t).run P w = .ok (.slice e) w) (hz : ∀ w, (sizeOf e).run P w = .ok sz w) (hx : Env.ev L x = some (.list sz f m))
    (hl : evZ L lo (0 : Nat) l) (hh : evZ L hi (m.length : Nat) h) (hs : sli m l h = some r) : OpP P ⟨dst, .slice t x lo hi none, ty, pos, after, g⟩ L ms (.list sz f r) := by
  obtain ⟨h1, h2, h3, rfl⟩ := sli_some hs
  exact o_slice hu hz hx (evZ_N hl h1) (evZ_N hh (by omega)) (by omega) (by omega)
end
end Go.V
set_option linter.unusedVariables false
set_option linter.unusedSimpArgs false
namespace Go.V
section
variable {α β : Type}
theorem bnd {m : Option α} {k : α → Option β} {x : α} {r : Option β} (h : m = some x) (h2 : k x = r) : m.bind k = r := by rw [h]; exact h2
theorem idx_c0 {a : α} {l : List α} : idx (a :: l) 0 = some a := rfl
theorem sli_take {l : List α} {k : Nat} (h : k ≤ l.length) : sli l 0 (k : Int) = some (l.take k) := by
  have := sli_nat l 0 k (by omega) h
  simpa using this
theorem sli_from {l t : List α} {i : Nat} (h : l.drop i = t) (hi : i ≤ l.length) : sli l (i : Int) (l.length : Int) = some t := by
  have := sli_nat l i l.length hi (by omega)
  rw [this, List.take_length, h]
theorem drop_c {l r : List α} {k : Nat} {b : α} (h : l.drop k = b :: r) : l.drop (k + 1) = r := by
  have := congrArg (·.drop 1) h; simpa [Nat.add_comm] using this
theorem drop_len {l t : List α} {k : Nat} (h : l.drop k = t) (hk : k ≤ l.length) : l.length = k + t.length := by
  subst h; simp; omega
end
end Go.V
set_option linter.unusedVariables false
set_option linter.unusedSimpArgs false
namespace Go.V
/-- A slice of one's own whose elements may be written. -/
def arr (a : Option Addr) (m cap : Nat) (T : TypeId) (sz : Nat) {α : Type} (f : α → D) (l : List α) : Asrt where
  blocks := match a with | some x => [x.block] | none => []
  ok := fun H h => l.length = m ∧ l.length ≤ cap ∧ cap ≤ maxLen ∧ ((a = none ∧ l = [] ∧ cap = 0) ∨ ∃ (b : Nat) (vs us : List Value), a = some ⟨b, 0, none⟩ ∧ h b = some (.cells vs.toArray T (0, 0)) ∧ vs.length = cap * sz ∧ ListEnc H f sz l us ∧ vs.take (l.length * sz) = us ∧ ∀ o, H b o = none)
  stable := by
    rintro H H' h h' e hle ⟨h0, h1, h2, h3⟩
    refine ⟨h0, h1, h2, ?_⟩
    rcases h3 with h3 | ⟨b, vs, us, ha, hb, hl, he, ht, hn⟩
    · exact .inl h3
    · subst ha
      have := e b (by simp)
      exact .inr ⟨b, vs, us, rfl, by rw [this.2]; exact hb, hl, he.mono hle, ht, fun o => by rw [this.1]; exact hn o⟩
/-- An address within. -/
def apt (a : Option Addr) (n : Nat) : Option Addr := match a with
  | some x => some (x.add n)
  | none => none
section
variable {P : Program} {L : Env} {ms : List Asrt} {dst : Option Nat} {ty : TypeId} {pos : String} {after : Array Edge} {g : Option (Nat × Bool)} {d d' : D} {x y : Operand} {t t' : TypeId}
theorem arr_cells {H : PH} {as : List Asrt} {w : World} {a : Option Addr} {m cap : Nat} {T : TypeId} {sz : Nat} {α : Type} {f : α → D} {l : List α} {k n : Nat} {z : α} (hok : HeapOk H as w) (hk : as[k]? = some (arr a m cap T sz f l)) (hz : l[n]? = some z) :
    ∃ (b : Nat) (vs us ws : List Value), a = some ⟨b, 0, none⟩ ∧ w.heap[b]? = some (.cells vs.toArray T (0, 0)) ∧ vs.length = cap * sz ∧ ListEnc H f sz l us ∧ vs.take (l.length * sz) = us ∧ (∀ o, H b o = none) ∧ Enc H (f z) ws ∧ ws.length = sz ∧ (∀ (j : Nat) u, ws[j]? = some u → vs[n * sz + j]? = some u) ∧ n * sz + sz ≤ l.length * sz ∧ l.length * sz ≤ vs.length := by
  obtain ⟨h0, h1, h2, h3⟩ := hok.ok _ (List.mem_of_getElem? hk)
  have hlt := (List.getElem?_eq_some_iff.1 hz).1
  rcases h3 with ⟨_, h3, _⟩ | ⟨b, vs, us, ha, hb, hl, he, ht, hn⟩
  · subst h3; simp at hlt
  · obtain ⟨ws, e1, e2, e3⟩ := he.2 n z hz
    have hin : n * sz + sz ≤ l.length * sz := by
      calc n * sz + sz = (n + 1) * sz := by rw [Nat.add_mul]; omega
        _ ≤ l.length * sz := Nat.mul_le_mul_right _ hlt
    refine ⟨b, vs, us, ws, ha, hb, hl, he, ht, hn, e1, e2, fun j u hj => ?_, hin, by rw [hl]; exact Nat.mul_le_mul_right _ h1⟩
    have h4 := e3 j u hj
    rw [← ht, List.getElem?_take] at h4
    split at h4
    · exact h4
    · cases h4
theorem o_indexAddr_arr {α : Type} {sz : Nat} {f : α → D} {l : List α} {e : TypeId} {ik : IntKind} {a : Option Addr} {m cap : Nat} {n : Int} {z : α} (k : Nat) (hu : ∀ w, (underlying t).run P w = .ok (.slice e) w) (hs : ∀ w, (sizeOf e).run P w = .ok sz w) (hx : Env.ev L x = some (.v (.slice a m cap))) (hk : ms[k]? = some (arr a m cap e sz f l))
    (hy : Env.ev L y = some (.v (.int ik n))) (h : idx l n = some z) : OpP P ⟨dst, .indexAddr t x y, ty, pos, after, g⟩ L ms (.v (.pointer (apt a (n.toNat * sz)))) := by
  refine .pure (by simp) fun H fr act w hok henv => ?_
  obtain ⟨h0, hz⟩ := idx_some h
  obtain ⟨b, vs, us, ws, ha, _⟩ := arr_cells hok (getElem?_app hk) hz
  have hlt := (List.getElem?_eq_some_iff.1 hz).1
  have hm : l.length = m := (hok.ok _ (List.mem_of_getElem? (getElem?_app (r := fr) hk))).1
  subst ha hm
  have hb : ¬ n < 0 := by omega
  have hb2 : ¬ ((l.length : Int) ≤ n) := by omega
  refine ⟨.pointer (some ((⟨b, 0, none⟩ : Addr).add (n.toNat * sz))), ?_, conc_v.2 rfl⟩
  simp [execOp, Instr.indexAt, asIntOf, ev_v henv hx, ev_v henv hy, hu, hs, h0, hb, hb2, Sem.run, hlt]
theorem o_fieldAddr_apt {a : Option Addr} {o n off sz : Nat} {ag : Bool} {b : Nat} {α : Type} {f : α → D} {l : List α} {T sz' m cap : Nat} {i : Nat} {z : α} (k : Nat) (hf : FieldIs P t n off sz ag) (hx : Env.ev L x = some (.v (.pointer (apt a o)))) (hk : ms[k]? = some (arr a m cap T sz' f l)) (hz : l[i]? = some z) : OpP P ⟨dst, .fieldAddr t x n, ty, pos, after, g⟩ L ms (.v (.pointer (apt a (o + off)))) := by
  refine .pure (by simp) fun H fr act w hok henv => ?_
  obtain ⟨b, vs, us, ws, ha, _⟩ := arr_cells hok (getElem?_app hk) hz
  subst ha
  obtain ⟨fs, ff, h1, h2, h3, h4, h5, h6⟩ := hf.ex
  have hx' : Env.ev L x = some (.v (.pointer (some ⟨b, o, none⟩))) := by rw [hx]; simp [apt, add_zero']
  refine ⟨.pointer (some ⟨b, o + off, none⟩), ?_, conc_v.2 (by simp [apt, add_zero'])⟩
  simp [execOp, Instr.fieldAt, Instr.sureAddr, ev_v henv hx', h1, h2, fieldPlace, h4, h5, h3, Sem.run, add_zero']
/-- A cell of an element, read. -/
theorem o_load_arr {α : Type} {sz : Nat} {f : α → D} {l : List α} {T : TypeId} {a : Option Addr} {m cap i o off : Nat} {z : α} (k : Nat) (ha : ∀ w, (isAgg t).run P w = .ok false w) (hx : Env.ev L x = some (.v (.pointer (apt a o)))) (hk : ms[k]? = some (arr a m cap T sz f l)) (hz : l[i]? = some z) (ho : o = i * sz + off) (hf : flat (f z).cs = true) (hd : (f z).cs[off]? = some d) :
    OpP P ⟨dst, .load t x, ty, pos, after, g⟩ L ms d := by
  refine .pure (by simp) fun H fr act w hok henv => ?_
  obtain ⟨b, vs, us, ws, hab, hb, hl, he, ht, hn, e1, e2, e3, e4, e5⟩ := arr_cells hok (getElem?_app hk) hz
  subst hab ho
  have hx' : Env.ev L x = some (.v (.pointer (some ⟨b, i * sz + off, none⟩))) := by rw [hx]; simp [apt, add_zero']
  have ecs : EncL H (f z).cs ws := by
    cases hfz : f z with
    | agg cs => rw [hfz] at e1; simpa [Enc, D.cs] using e1
    | _ => rw [hfz] at e1; simp only [D.cs, EncL]; exact ⟨ws, [], by simp, e1, rfl⟩
  obtain ⟨h3, h4⟩ := EncL.get _ _ ecs hf
  obtain ⟨u, h5, h6⟩ := h4 off d hd
  have hc : w.cell? ⟨b, i * sz + off, none⟩ = some u := by simp [World.cell?, hb, e3 _ _ h5]
  exact ⟨u, by simp [execOp, Instr.loadAt, Instr.sureAddr, ev_v henv hx', loadVar, ha, load, Sem.run, hc], (conc_enc (flat_get _ off d hf hd)).2 h6⟩
theorem listEnc_set {H : PH} {α : Type} {f : α → D} {sz : Nat} {l : List α} {us ws' : List Value} {i : Nat} {z' : α} (e : ListEnc H f sz l us) (hi : i < l.length) (hw : Enc H (f z') ws') (hwl : ws'.length = sz) : ListEnc H f sz (l.set i z') (us.take (i * sz) ++ (ws' ++ us.drop (i * sz + sz))) := by
  have hin : i * sz + sz ≤ l.length * sz := by
    calc i * sz + sz = (i + 1) * sz := by rw [Nat.add_mul]; omega
      _ ≤ l.length * sz := Nat.mul_le_mul_right _ hi
  have hul := e.1
  refine ⟨by simp only [List.length_append, List.length_take, List.length_drop, List.length_set, hwl, hul]; omega, fun j x hx => ?_⟩
  by_cases hj : j = i
  · subst hj
    rw [List.getElem?_set_self hi] at hx
    simp only [Option.some.injEq] at hx
    subst hx
    refine ⟨ws', hw, hwl, fun q u hq => ?_⟩
    have hql := (List.getElem?_eq_some_iff.1 hq).1
    have h1 : (us.take (j * sz)).length = j * sz := by rw [List.length_take, hul]; omega
    rw [List.getElem?_append_right (by omega), h1, show j * sz + q - j * sz = q by omega, List.getElem?_append_left hql]
    exact hq
  · rw [List.getElem?_set_ne (fun h => hj h.symm)] at hx
    obtain ⟨ws, a, b, c⟩ := e.2 j x hx
    refine ⟨ws, a, b, fun q u hq => ?_⟩
    have hql := (List.getElem?_eq_some_iff.1 hq).1
    have h2 := c q u hq
    have h1 : (us.take (i * sz)).length = i * sz := by rw [List.length_take, hul]; omega
    rcases Nat.lt_or_gt_of_ne hj with hlt | hgt
    · have : j * sz + sz ≤ i * sz := by
        calc j * sz + sz = (j + 1) * sz := by rw [Nat.add_mul]; omega
          _ ≤ i * sz := Nat.mul_le_mul_right _ hlt
      rw [List.getElem?_append_left (by omega), List.getElem?_take, if_pos (by omega)]
      exact h2
    · have : i * sz + sz ≤ j * sz := by
        calc i * sz + sz = (i + 1) * sz := by rw [Nat.add_mul]; omega
          _ ≤ j * sz := Nat.mul_le_mul_right _ hgt
      rw [List.getElem?_append_right (by omega), h1, List.getElem?_append_right (by omega), List.getElem?_drop]
      rw [show i * sz + sz + (j * sz + q - i * sz - ws'.length) = j * sz + q by omega]
      exact h2
/-- An element, or a part of it, written. -/
theorem o_store_arr {α : Type} {sz s : Nat} {f : α → D} {l : List α} {T : TypeId} {a : Option Addr} {m cap i o off : Nat} {z z' : α} (k : Nat) (hs : ∀ w, (sizeOf t).run P w = .ok s w) (hx : Env.ev L x = some (.v (.pointer (apt a o)))) (hk : ms[k]? = some (arr a m cap T sz f l)) (hz : l[i]? = some z) (ho : o = i * sz + off)
    (hy : Env.ev L y = some d) (hd : flat d.cs = true) (hst : d.storable = true) (hst2 : storableL d.cs = true) (hsz : d.cs.length = s) (hl : off + s ≤ sz) (hf : flat (f z).cs = true) (hz' : (f z').cs = putCs off d.cs (f z).cs) :
    OpT P ⟨dst, .store t x y, ty, pos, after, g⟩ L ms (fun _ ms' => ms' = ms.set k (arr a m cap T sz f (l.set i z'))) := by
  refine .skip (by simp) fun H fr act w hok henv => ?_
  have hok1 := hok.perm (perm_fr hk)
  obtain ⟨b, vs, us, ws, hab, hb, hvl, he, ht, hn, e1, e2, e3, e4, e5⟩ := arr_cells (k := 0) hok1 rfl hz
  obtain ⟨r0, r1, r2, _⟩ := hok1.ok _ (List.mem_cons_self ..)
  have hlt := (List.getElem?_eq_some_iff.1 hz).1
  subst hab ho
  have hx' : Env.ev L x = some (.v (.pointer (some ⟨b, i * sz + off, none⟩))) := by rw [hx]; simp [apt, add_zero']
  have hv := conc_cs (henv.ev hy) hst
  have hvl2 := (EncL.get _ _ hv hd).1
  have hone := encL_oneCell _ _ hd hst2 hv
  have hvsz : vs.length = cap * sz := hvl
  have hin : i * sz + off + (act.eval y).cells.toList.length ≤ vs.length := by rw [hvl2, hsz]; omega
  have hrun := run_storeCells_at (P := P) b (i * sz + off) T (act.eval y).cells.toList 0 vs.toArray w hb (by simp only [List.size_toArray]; omega) hone
  let nvs : List Value := vs.take (i * sz + off) ++ ((act.eval y).cells.toList ++ vs.drop (i * sz + off + (act.eval y).cells.toList.length))
  have hnl : nvs.length = vs.length := by simp only [nvs, List.length_append, List.length_take, List.length_drop]; omega
  have ecs : EncL H (f z).cs ws := by
    cases hfz : f z with
    | agg cs => rw [hfz] at e1; simpa [Enc, D.cs] using e1
    | _ => rw [hfz] at e1; simp only [D.cs, EncL]; exact ⟨ws, [], by simp, e1, rfl⟩
  let ws' : List Value := ws.take off ++ ((act.eval y).cells.toList ++ ws.drop (off + d.cs.length))
  have ew' : Enc H (f z') ws' := by
    refine enc_cs ?_
    rw [hz']
    unfold putCs
    have := encL_append _ _ _ _ (encL_take _ _ hf ecs off) (encL_append _ _ _ _ hv (encL_drop _ _ hf ecs (off + d.cs.length)))
    exact this
  have hwl' : ws'.length = sz := by simp only [ws', List.length_append, List.length_take, List.length_drop, e2, hvl2, hsz]; omega
  have hul : us.length = l.length * sz := he.1
  have hnew : nvs.take ((l.set i z').length * sz) = us.take (i * sz) ++ (ws' ++ us.drop (i * sz + sz)) := by
    rw [List.length_set]
    apply List.ext_getElem?
    intro j
    have hwv : ∀ q, q < sz → vs[i * sz + q]? = ws[q]? := fun q hq => by
      have : ws[q]? = some ws[q] := by simp [e2, hq]
      rw [this]; exact e3 q _ this
    have huv : ∀ q, q < l.length * sz → vs[q]? = us[q]? := fun q hq => by rw [← ht, List.getElem?_take, if_pos hq]
    rw [List.getElem?_take]
    by_cases hj : j < l.length * sz
    · rw [if_pos hj]
      have h1 : (us.take (i * sz)).length = i * sz := by rw [List.length_take, hul]; omega
      have h2 : (vs.take (i * sz + off)).length = i * sz + off := by rw [List.length_take]; omega
      have h3 : (ws.take off).length = off := by rw [List.length_take, e2]; omega
      by_cases c1 : j < i * sz
      · rw [List.getElem?_append_left (by omega), List.getElem?_append_left (by omega), List.getElem?_take, if_pos (by omega), List.getElem?_take, if_pos c1]
        exact huv j hj
      · rw [List.getElem?_append_right (l₁ := us.take (i * sz)) (by omega), h1]
        by_cases c2 : j < i * sz + sz
        · rw [List.getElem?_append_left (l₁ := ws') (by omega)]
          by_cases c3 : j < i * sz + off
          · rw [List.getElem?_append_left (by omega), List.getElem?_take, if_pos c3, List.getElem?_append_left (by omega), List.getElem?_take, if_pos (by omega)]
            have := hwv (j - i * sz) (by omega)
            rw [show i * sz + (j - i * sz) = j by omega] at this
            exact this
          · rw [List.getElem?_append_right (l₁ := vs.take (i * sz + off)) (by omega), h2, List.getElem?_append_right (l₁ := ws.take off) (by omega), h3]
            rw [show j - i * sz - off = j - (i * sz + off) by omega]
            by_cases c4 : j - (i * sz + off) < (act.eval y).cells.toList.length
            · rw [List.getElem?_append_left c4, List.getElem?_append_left c4]
            · rw [List.getElem?_append_right (by omega), List.getElem?_append_right (by omega), List.getElem?_drop, List.getElem?_drop]
              have := hwv (j - i * sz) (by omega)
              rw [show i * sz + off + (act.eval y).cells.toList.length + (j - (i * sz + off) - (act.eval y).cells.toList.length) = i * sz + (j - i * sz) by omega, show off + d.cs.length + (j - (i * sz + off) - (act.eval y).cells.toList.length) = j - i * sz by omega]
              exact this
        · rw [List.getElem?_append_right (l₁ := ws') (by omega), List.getElem?_append_right (by omega), h2, List.getElem?_append_right (by rw [hvl2, hsz]; omega), List.getElem?_drop, List.getElem?_drop, hwl']
          rw [show i * sz + off + (act.eval y).cells.toList.length + (j - (i * sz + off) - (act.eval y).cells.toList.length) = j by omega, show i * sz + sz + (j - i * sz - sz) = j by omega]
          exact huv j hj
    · rw [if_neg hj, List.getElem?_eq_none]
      simp only [List.length_append, List.length_take, List.length_drop, hwl', hul]
      omega
  have hbnew : (w.setRow b nvs.toArray).heap[b]? = some (.cells nvs.toArray T (0, 0)) := by simp [World.setRow, Array.getElem?_modify, hb]
  refine ⟨_, w.setRow b nvs.toArray, H, ?_, rfl, PH.le_refl H, ?_, ⟨rfl, rfl, rfl, by simp [World.setRow]⟩⟩
  · have hcs : (act.eval y).cells.size = s := by rw [← Array.length_toList, hvl2, hsz]
    have e2' : (vs.take (i * sz + off + 0) ++ (act.eval y).cells.toList ++ vs.drop (i * sz + off + 0 + (act.eval y).cells.toList.length)) = nvs := by simp [nvs]
    simp only [] at hrun
    rw [e2'] at hrun
    simp only [execOp, Instr.storeAt, Instr.sureAddr, ev_v henv hx', storeVar, Sem.run_bind, Sem.run_pure, Result.andThen_ok, hs, hcs, ne_eq, not_true_eq_false, if_false, hrun]
  · refine HeapOk.perm (perm_fr' hk) ?_
    refine hok1.upd rfl (by simp [World.setRow]) ?_ (fun _ _ _ _ => rfl) (PH.le_refl H) ?_ ?_
    · intro b' _ hn'
      have : b ≠ b' := fun e => hn' (by simp [arr, e])
      simp [World.setRow, Array.getElem?_modify, this]
    · intro b' o v hb' hv'
      rcases hb' with hb' | hb'
      · simp [arr] at hb'; subst hb'; rw [hn] at hv'; cases hv'
      · rw [hok1.none_new _ _ hb'] at hv'; cases hv'
    · exact ⟨by rw [List.length_set]; exact r0, by rw [List.length_set]; exact r1, r2, .inr ⟨b, nvs, _, rfl, hbnew, by rw [hnl]; exact hvl, listEnc_set he hlt ew' hwl', hnew, hn⟩⟩
end
end Go.V
