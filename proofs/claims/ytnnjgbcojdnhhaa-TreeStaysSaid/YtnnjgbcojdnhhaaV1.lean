/-
  A small program logic over the kit's 'wpIn' at the wide fence: what a value stands for is told by abstract data (D), what is never written again by a persistent heap (PH), what a call may still write by assertions over blocks of its own (Asrt).
-/
import Derived.WalkKit
import Derived.RangeFuncLeaves
set_option linter.unusedVariables false
set_option linter.unusedSimpArgs false
namespace Go.V

/-! ### Data and how they are encoded -/
abbrev PH := Nat → Nat → Option Value
def PH.le (H H' : PH) : Prop := ∀ b o v, H b o = some v → H' b o = some v
theorem PH.le_refl (H : PH) : PH.le H H := fun _ _ _ h => h
theorem PH.le_trans {A B C : PH} (h : PH.le A B) (k : PH.le B C) : PH.le A C := fun b o v x => k b o v (h b o v x)

inductive D : Type 1
  | v (x : Value)
  | list {α : Type} (sz : Nat) (f : α → D) (l : List α)
  | agg (cs : List D)
  | ref (x : D)
  | tup (ds : List D)
  | clo (fn : Fn) (first caps : List D)
instance : Inhabited D := ⟨.v undef⟩

def D.isAgg : D → Bool
  | .agg _ => true
  | _ => false
def D.val (d : D) (vs : List Value) (u : Value) : Prop := match d with | .agg _ => u = .agg vs.toArray | _ => vs = [u]
@[reducible] def D.i64 (n : Int) : D := .v (.int .i64 n)
@[reducible] def D.u8 (n : UInt8) : D := .v (.int .u8 n.toNat)
@[reducible] def D.bool (b : Bool) : D := .v (.bool b)
@[reducible] def D.str (s : List UInt8) : D := .v (.string ⟨s.toArray⟩)

mutual
def Enc (H : PH) : D → List Value → Prop
  | .v x, vs => vs = [x]
  | .list sz f l, vs => ∃ a cap, vs = [.slice a l.length cap] ∧ l.length ≤ cap ∧ cap ≤ maxLen ∧
      (l = [] ∨ ∃ b off, a = some ⟨b, off, none⟩ ∧ ∀ i x, l[i]? = some x → ∃ us, Enc H (f x) us ∧ us.length = sz ∧ ∀ k u, us[k]? = some u → H b (off + i * sz + k) = some u)
  | .agg cs, vs => EncL H cs vs
  | .ref x, vs => ∃ b off us, vs = [.pointer (some ⟨b, off, none⟩)] ∧ Enc H x us ∧ ∀ k u, us[k]? = some u → H b (off + k) = some u
  | .tup ds, vs => ∃ us, vs = [.tuple us.toArray] ∧ ConcL H ds us
  | .clo fn fs cs, vs => ∃ us ws, vs = [.func fn us.toArray ws.toArray] ∧ ConcL H fs us ∧ ConcL H cs ws
def EncL (H : PH) : List D → List Value → Prop
  | [], vs => vs = []
  | c :: cs, vs => ∃ a r, vs = a ++ r ∧ Enc H c a ∧ EncL H cs r
def ConcL (H : PH) : List D → List Value → Prop
  | [], us => us = []
  | d :: ds, us => ∃ u r, us = u :: r ∧ (∃ vs, Enc H d vs ∧ d.val vs u) ∧ ConcL H ds r
end
/-- A value stands for a datum. -/
def Conc (H : PH) (d : D) (u : Value) : Prop := ∃ vs, Enc H d vs ∧ d.val vs u

mutual
theorem Enc.mono {H H' : PH} (h : PH.le H H') : ∀ (d : D) (vs : List Value), Enc H d vs → Enc H' d vs
  | .v x, vs, e => by simpa [Enc] using e
  | .list sz f l, vs, e => by
    simp only [Enc] at e ⊢
    obtain ⟨a, cap, hv, h1, h2, h3⟩ := e
    refine ⟨a, cap, hv, h1, h2, ?_⟩
    rcases h3 with h3 | ⟨b, off, ha, hx⟩
    · exact .inl h3
    · refine .inr ⟨b, off, ha, fun i x hi => ?_⟩
      obtain ⟨us, e1, e2, e3⟩ := hx i x hi
      exact ⟨us, Enc.mono h (f x) us e1, e2, fun k u hk => h _ _ _ (e3 k u hk)⟩
  | .agg cs, vs, e => by simp only [Enc] at e ⊢; exact EncL.mono h cs vs e
  | .ref x, vs, e => by
    simp only [Enc] at e ⊢
    obtain ⟨b, off, us, hv, e1, e2⟩ := e
    exact ⟨b, off, us, hv, Enc.mono h x us e1, fun k u hk => h _ _ _ (e2 k u hk)⟩
  | .tup ds, vs, e => by
    simp only [Enc] at e ⊢
    obtain ⟨us, hv, e1⟩ := e
    exact ⟨us, hv, ConcL.mono h ds us e1⟩
  | .clo fn fs cs, vs, e => by
    simp only [Enc] at e ⊢
    obtain ⟨us, ws, hv, e1, e2⟩ := e
    exact ⟨us, ws, hv, ConcL.mono h fs us e1, ConcL.mono h cs ws e2⟩
theorem EncL.mono {H H' : PH} (h : PH.le H H') : ∀ (cs : List D) (vs : List Value), EncL H cs vs → EncL H' cs vs
  | [], vs, e => by simpa [EncL] using e
  | c :: cs, vs, e => by
    simp only [EncL] at e ⊢
    obtain ⟨a, r, hv, e1, e2⟩ := e
    exact ⟨a, r, hv, Enc.mono h c a e1, EncL.mono h cs r e2⟩
theorem ConcL.mono {H H' : PH} (h : PH.le H H') : ∀ (ds : List D) (us : List Value), ConcL H ds us → ConcL H' ds us
  | [], vs, e => by simpa [ConcL] using e
  | d :: ds, us, e => by
    simp only [ConcL] at e ⊢
    obtain ⟨u, r, hv, ⟨vs, e1, e2⟩, e3⟩ := e
    exact ⟨u, r, hv, ⟨vs, Enc.mono h d vs e1, e2⟩, ConcL.mono h ds r e3⟩
end
theorem Conc.mono {H H' : PH} (h : PH.le H H') {d : D} {u : Value} (e : Conc H d u) : Conc H' d u :=
  let ⟨vs, a, b⟩ := e; ⟨vs, Enc.mono h d vs a, b⟩

mutual
def D.width : D → Nat
  | .agg cs => widthL cs
  | .v _ | .list .. | .ref _ | .tup _ | .clo .. => 1
def widthL : List D → Nat
  | [] => 0
  | c :: cs => c.width + widthL cs
end
mutual
theorem Enc.width {H : PH} : ∀ (d : D) (vs : List Value), Enc H d vs → vs.length = d.width
  | .v x, vs, e => by simp only [Enc] at e; subst e; rfl
  | .list sz f l, vs, e => by simp only [Enc] at e; obtain ⟨a, cap, hv, _⟩ := e; subst hv; rfl
  | .agg cs, vs, e => by simp only [Enc] at e; simpa [D.width] using EncL.width cs vs e
  | .ref x, vs, e => by simp only [Enc] at e; obtain ⟨b, off, us, hv, _⟩ := e; subst hv; rfl
  | .tup ds, vs, e => by simp only [Enc] at e; obtain ⟨us, hv, _⟩ := e; subst hv; rfl
  | .clo fn fs cs, vs, e => by simp only [Enc] at e; obtain ⟨us, ws, hv, _⟩ := e; subst hv; rfl
theorem EncL.width {H : PH} : ∀ (cs : List D) (vs : List Value), EncL H cs vs → vs.length = widthL cs
  | [], vs, e => by simp only [EncL] at e; subst e; rfl
  | c :: cs, vs, e => by
    simp only [EncL] at e
    obtain ⟨a, r, hv, e1, e2⟩ := e
    subst hv
    simp [widthL, Enc.width c a e1, EncL.width cs r e2]
end
theorem ConcL.length {H : PH} : ∀ (ds : List D) (us : List Value), ConcL H ds us → us.length = ds.length
  | [], us, e => by simp only [ConcL] at e; subst e; rfl
  | d :: ds, us, e => by
    simp only [ConcL] at e
    obtain ⟨u, r, hv, _, e3⟩ := e
    subst hv
    simp [ConcL.length ds r e3]
theorem conc_v {H : PH} {x u : Value} : Conc H (.v x) u ↔ u = x := by
  constructor
  · rintro ⟨vs, e, hv⟩; simp only [Enc] at e; subst e; simpa [D.val] using hv.symm
  · rintro rfl; exact ⟨[u], by simp [Enc], by simp [D.val]⟩
theorem conc_enc {H : PH} {d : D} {u : Value} (h : d.isAgg = false) : Conc H d u ↔ Enc H d [u] := by
  constructor
  · rintro ⟨vs, e, hv⟩
    cases d <;> simp_all [D.isAgg, D.val]
  · intro e
    exact ⟨[u], e, by cases d <;> simp_all [D.isAgg, D.val]⟩
theorem conc_agg {H : PH} {cs : List D} {u : Value} : Conc H (.agg cs) u ↔ ∃ vs, u = .agg vs.toArray ∧ EncL H cs vs := by
  constructor
  · rintro ⟨vs, e, hv⟩; simp only [Enc] at e; exact ⟨vs, hv, e⟩
  · rintro ⟨vs, rfl, e⟩; exact ⟨vs, by simpa [Enc] using e, rfl⟩
theorem Enc.cells {H : PH} {d : D} {u : Value} (h : Conc H d u) : d.isAgg = true ∨ Enc H d [u] := by
  by_cases h' : d.isAgg = true
  · exact .inl h'
  · exact .inr ((conc_enc (by simpa using h')).1 h)

/-! ### What a call may still write -/
structure Asrt where
  blocks : List Nat
  ok : PH → (Nat → Option Obj) → Prop
  stable : ∀ H H' h h', (∀ b, b ∈ blocks → (∀ o, H' b o = H b o) ∧ h' b = h b) → PH.le H H' → ok H h → ok H' h'

structure HeapOk (H : PH) (as : List Asrt) (w : World) : Prop where
  sub : ∀ b o v, H b o = some v → w.cell? ⟨b, o, none⟩ = some v
  nodup : (as.flatMap (·.blocks)).Nodup
  lt : ∀ A ∈ as, ∀ b ∈ A.blocks, b < w.heap.size
  ok : ∀ A ∈ as, A.ok H (fun b => w.heap[b]?)

structure SameOut (w w' : World) : Prop where
  os : w'.os = w.os
  output : w'.output = w.output
  tape : w'.tape = w.tape
  size : w.heap.size ≤ w'.heap.size
theorem SameOut.refl (w : World) : SameOut w w := ⟨rfl, rfl, rfl, Nat.le_refl _⟩
theorem SameOut.trans {a b c : World} (h : SameOut a b) (k : SameOut b c) : SameOut a c :=
  ⟨k.os.trans h.os, k.output.trans h.output, k.tape.trans h.tape, Nat.le_trans h.size k.size⟩

theorem HeapOk.perm {H : PH} {as bs : List Asrt} {w : World} (p : as.Perm bs) (h : HeapOk H as w) : HeapOk H bs w :=
  ⟨h.sub, (List.Perm.nodup_iff (p.flatMap_right _)).1 h.nodup, fun A hA => h.lt A (p.mem_iff.2 hA), fun A hA => h.ok A (p.mem_iff.2 hA)⟩
theorem HeapOk.drop {H : PH} {as bs : List Asrt} {w : World} (h : HeapOk H (as ++ bs) w) : HeapOk H bs w :=
  ⟨h.sub, by have := h.nodup; rw [List.flatMap_append] at this; exact (List.nodup_append.1 this).2.1,
   fun A hA => h.lt A (by simp [hA]), fun A hA => h.ok A (by simp [hA])⟩
theorem HeapOk.drew {H : PH} {as : List Asrt} {w : World} (h : HeapOk H as w) (n : Nat) : HeapOk H as { w with drawn := n } := ⟨h.sub, h.nodup, h.lt, h.ok⟩

/-! ### Frames -/
abbrev Env := List (Nat × D)
def Env.find : Env → Nat → Option D
  | [], _ => none
  | (i, d) :: L, t => match Nat.beq i t with | true => some d | false => Env.find L t
def Env.ev (L : Env) : Operand → Option D
  | .tmp t => Env.find L t
  | .const x => some (.v x)
  | .global g => some (.v (.pointer (some ⟨g, 0, none⟩)))
  | .func f => some (.v (.func (.func f) #[] #[]))
def EnvOk (H : PH) (L : Env) (tmps : Array Value) : Prop := ∀ t d, Env.find L t = some d → Conc H d (tmps.getD t undef)
theorem EnvOk.mono {H H' : PH} (h : PH.le H H') {L : Env} {tmps : Array Value} (e : EnvOk H L tmps) : EnvOk H' L tmps := fun t d k => (e t d k).mono h
theorem EnvOk.put {H : PH} {L : Env} {tmps : Array Value} {i : Nat} {d : D} {v : Value} (e : EnvOk H L tmps) (hi : i < tmps.size) (hd : Conc H d v) : EnvOk H ((i, d) :: L) (tmps.setIfInBounds i v) := by
  intro t d' h
  simp only [Env.find] at h
  cases hb : Nat.beq i t with
  | true =>
    rw [hb] at h
    have : i = t := Nat.eq_of_beq_eq_true hb
    subst this
    simp only [Option.some.injEq] at h
    subst h
    simpa [Array.getD, hi] using hd
  | false =>
    rw [hb] at h
    have hne : i ≠ t := Nat.ne_of_beq_eq_false hb
    have := e t d' h
    have e2 : (tmps.setIfInBounds i v).getD t undef = tmps.getD t undef := by
      simp [Array.getD_eq_getD_getElem?, Array.getElem?_setIfInBounds, hne]
    rw [e2]
    exact this
theorem EnvOk.ev {H : PH} {L : Env} {a : Act} (e : EnvOk H L a.tmps) {x : Operand} {d : D} (h : Env.ev L x = some d) : Conc H d (a.eval x) := by
  cases x with
  | tmp t => exact e t d h
  | const v => simp only [Env.ev, Option.some.injEq] at h; subst h; exact conc_v.2 rfl
  | global g => simp only [Env.ev, Option.some.injEq] at h; subst h; exact conc_v.2 rfl
  | func f => simp only [Env.ev, Option.some.injEq] at h; subst h; exact conc_v.2 rfl

/-- Which fence: whether the code runs in a round of a range over a function. -/
def FR (ro : Option Nat) : Fence := { Fence.wide with round := ro }
theorem FR_none : FR none = Fence.wide := rfl
theorem FR_some (l : Nat) : FR (some l) = Fence.wide.inRound l := rfl
@[simp] theorem FR_fn (ro : Option Nat) (f : Nat) : (FR ro).fn f = True := rfl
@[simp] theorem FR_depth (ro : Option Nat) : (FR ro).depth = none := rfl
@[simp] theorem FR_round (ro : Option Nat) : (FR ro).round = ro := rfl

/-- The mark of a range over a function among a frame's deferred calls. -/
def markD (r : Nat) : Deferred := { target := .collected r, args := #[] }
def markA (r : Nat) : Asrt where
  blocks := [r]
  ok := fun _ h => h r = some (.deferred (some []))
  stable := fun H H' h h' e _ o => by rw [(e r (by simp)).2]; exact o

structure Ctx where
  H0 : PH
  fr : List Asrt
  N : Nat
  round : Option Nat
  w0 : World
  hround : ∀ l, round = some l → ∃ A ∈ fr, ∀ H h, A.ok H h → ∃ r, h l = some (.loop r)

/-- A frame and a world are as (L, ms) tells. -/
structure Models (Γ : Ctx) (L : Env) (ms : List Asrt) (a : Act) (w : World) : Prop where

  ex : ∃ (H : PH) (marks : List Nat), PH.le Γ.H0 H ∧ HeapOk H (ms ++ (marks.map markA ++ Γ.fr)) w ∧ EnvOk H L a.tmps ∧ a.defers = marks.map markD
  size : a.tmps.size = Γ.N
  same : SameOut Γ.w0 w

abbrev KT := Exit → Env → List Asrt → Prop
def Post (Γ : Ctx) (K : KT) : Exit → Act → World → Prop := fun e a w => ∃ L ms, K e L ms ∧ Models Γ L ms a w

/-- The code, begun at (L, ms), ends in K. -/
def G (Γ : Ctx) (P : Program) (c : Code) (L : Env) (ms : List Asrt) (K : KT) : Prop :=
  ∀ a w, Models Γ L ms a w → c.wpIn (FR Γ.round) 0 P (Post Γ K) a w
/-- The operations that are left, in order. -/
def GO (Γ : Ctx) (P : Program) (ops : Array Oper) (l : List Oper) (L : Env) (ms : List Asrt) (K : KT) : Prop :=
  ∀ a w, Models Γ L ms a w → wpListIn (FR Γ.round) 0 P ops (Post Γ K) l a w

def KT.then (next : Env → List Asrt → Prop) (K : KT) : KT
  | .normal, L, ms => next L ms
  | e, L, ms => K e L ms
def KT.block (id : Nat) (K : KT) : KT
  | .exit id', L, ms => if id' = id then K .normal L ms else K (.exit id') L ms
  | e, L, ms => K e L ms

section rules
variable {Γ : Ctx} {P : Program} {L : Env} {ms : List Asrt} {K : KT}
theorem g_mono {c : Code} {K' : KT} (h : G Γ P c L ms K) (hk : ∀ e L ms, K e L ms → K' e L ms) : G Γ P c L ms K' :=
  fun a w m => wpIn_mono (h a w m) fun e a w ⟨L, ms, k, m⟩ => ⟨L, ms, hk _ _ _ k, m⟩
theorem g_skip (h : K .normal L ms) : G Γ P .skip L ms K := fun a w m => wpIn_skip ⟨L, ms, h, m⟩
theorem g_exit {id : Nat} (h : K (.exit id) L ms) : G Γ P (.exit id) L ms K := fun a w m => wpIn_exit ⟨L, ms, h, m⟩
theorem g_ret (h : K .ret L ms) : G Γ P .ret L ms K := fun a w m => wpIn_ret ⟨L, ms, h, m⟩
theorem g_seq {x y : Code} (h : G Γ P x L ms (KT.then (fun L ms => G Γ P y L ms K) K)) : G Γ P (.seq x y) L ms K := by
  intro a w m
  refine wpIn_seq (wpIn_mono (h a w m) ?_)
  rintro e a' w' ⟨L', ms', k, m'⟩
  cases e with
  | normal => exact k a' w' m'
  | _ => exact ⟨L', ms', k, m'⟩
theorem g_block {id : Nat} {c : Code} (h : G Γ P c L ms (KT.block id K)) : G Γ P (.block id c) L ms K := by
  intro a w m
  refine wpIn_block (wpIn_mono (h a w m) ?_)
  rintro e a' w' ⟨L', ms', k, m'⟩
  cases e with
  | exit id' =>
    simp only [KT.block] at k
    simp only [Exit.inBlock]
    by_cases hid : id' = id
    · rw [if_pos hid] at k ⊢; exact ⟨L', ms', k, m'⟩
    · rw [if_neg hid] at k ⊢; exact ⟨L', ms', k, m'⟩
  | _ => exact ⟨L', ms', k, m'⟩
theorem Models.conc {Γ : Ctx} {L : Env} {ms : List Asrt} {a : Act} {w : World} (m : Models Γ L ms a w) {x : Operand} {v : Value} (h : Env.ev L x = some (.v v)) : a.eval x = v := by
  obtain ⟨H, marks, _, _, e, _⟩ := m.ex
  exact conc_v.1 (e.ev h)
theorem g_cond {c : Operand} {x y : Code} {b : Bool} (hc : Env.ev L c = some (.v (.bool b))) (ht : b = true → G Γ P x L ms K) (hf : b = false → G Γ P y L ms K) :
    G Γ P (.cond c x y) L ms K :=
  fun a w m => wpIn_cond_split (m.conc hc) (fun h => ht h a w m) (fun h => hf h a w m)
/-- What is known is forgotten in part. -/
def Refines (L : Env) (ms : List Asrt) (L' : Env) (ms' : List Asrt) : Prop := ∀ Γ a w, Models Γ L ms a w → Models Γ L' ms' a w
theorem g_conv {c : Code} {L' : Env} {ms' : List Asrt} (r : Refines L ms L' ms') (h : G Γ P c L' ms' K) : G Γ P c L ms K := fun a w m => h a w (r Γ a w m)
theorem go_conv {ops : Array Oper} {l : List Oper} {L' : Env} {ms' : List Asrt} (r : Refines L ms L' ms') (h : GO Γ P ops l L' ms' K) : GO Γ P ops l L ms K := fun a w m => h a w (r Γ a w m)
/-- A loop: at each round's head the frame and what is owned are of a family. -/
theorem g_loop {c : Code} {σ : Type 1} (inv : σ → Prop) (env : σ → Env) (own : σ → List Asrt) (μ : σ → Nat) (s₀ : σ) (h₀ : inv s₀) (r₀ : Refines L ms (env s₀) (own s₀))
    (round : ∀ s, inv s → G Γ P c (env s) (own s) (KT.then (fun L ms => ∃ s', inv s' ∧ μ s' < μ s ∧ Refines L ms (env s') (own s')) K)) : G Γ P (.loop c) L ms K := by
  have key : ∀ n s, μ s = n → inv s → ∀ a w, Models Γ (env s) (own s) a w → ∀ (b : Frame) (k : List Item) (cs : List Frame), b.roundOf = (FR Γ.round).round → (FR Γ.round).fn b.fn → (FR Γ.round).room (cs.length + 1 + 0) →
      ∃ e a' w', Post Γ K e a' w' ∧ ArrivesIn (Machine.fenced P (FR Γ.round)) P (lone (b.atR a (.code c :: .inLoop c :: k)) cs w) b k cs e a' w' := by
    intro n
    induction n using Nat.strongRecOn with
    | _ n ih =>
      intro s hn hI a w m b k cs hro hb hr
      obtain ⟨e, a₁, w₁, hq, harr⟩ := round s hI a w m b (.inLoop c :: k) cs hro hb hr
      obtain ⟨L', ms', k', m'⟩ := hq
      cases e with
      | normal =>
        obtain ⟨s', hi, hlt, r⟩ := k'
        obtain ⟨e₂, a₂, w₂, hq₂, harr₂⟩ := ih (μ s') (hn ▸ hlt) s' rfl hi a₁ w₁ (r Γ a₁ w₁ m') b k cs hro hb hr
        exact ⟨e₂, a₂, w₂, hq₂, .of_steps (StepsIn.trans harr (.one (fenced_calm hb hr rfl) stepR_inLoop)) harr₂⟩
      | exit id => exact ⟨_, a₁, w₁, ⟨L', ms', k', m'⟩, .pass (x := .inLoop c) rfl (fun _ _ => .inl (by simp)) harr⟩
      | goto l => exact ⟨_, a₁, w₁, ⟨L', ms', k', m'⟩, .pass (x := .inLoop c) rfl (fun _ _ => .inl (by simp)) harr⟩
      | ret => exact ⟨_, a₁, w₁, ⟨L', ms', k', m'⟩, .pass (x := .inLoop c) rfl (fun _ _ => .inl (by simp)) harr⟩
      | panic ch => exact ⟨_, a₁, w₁, ⟨L', ms', k', m'⟩, .pass (x := .inLoop c) rfl (fun _ _ => .inl (by simp)) harr⟩
      | outgrown => exact ⟨_, a₁, w₁, ⟨L', ms', k', m'⟩, .pass (x := .inLoop c) rfl (fun _ _ => .inl (by simp)) harr⟩
  intro a w m b k cs hro hb hr
  obtain ⟨e, a', w', hq, harr⟩ := key _ s₀ rfl h₀ a w (r₀ Γ a w m) b k cs hro hb hr
  exact ⟨e, a', w', hq, .of_steps (.one (fenced_calm hb hr rfl) stepR_loop) harr⟩
end rules
end Go.V
