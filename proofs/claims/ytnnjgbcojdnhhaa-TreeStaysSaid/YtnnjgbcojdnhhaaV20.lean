/- Models: plain functions that say what the code does; the walk goes along them. -/
import Derived.Test.YtnnjgbcojdnhhaaV19
set_option linter.unusedVariables false
set_option linter.unusedSimpArgs false
namespace Go.V
section
variable {α β γ δ : Type}
/-- Something must hold, or there is no answer. -/
def grd (p : Prop) [Decidable p] (k : Option α) : Option α := if p then k else none
theorem grd_some {p : Prop} [Decidable p] {k : Option α} {r : α} (h : grd p k = some r) : p ∧ k = some r := by
  unfold grd at h
  split at h
  · exact ⟨by assumption, h⟩
  · cases h
theorem grd_pos {p : Prop} [Decidable p] {k : Option α} (h : p) : grd p k = k := if_pos h
theorem bind_some {m : Option α} {k : α → Option β} {r : β} (h : m.bind k = some r) : ∃ x, m = some x ∧ k x = some r := by
  cases m with
  | none => cases h
  | some x => exact ⟨x, rfl, h⟩
def bind2 {α₁ α₂ : Type} (m : Option (α₁ × α₂)) (k : α₁ → α₂ → Option β) : Option β := m.bind fun x => k x.1 x.2
def bind3 {α₁ α₂ α₃ : Type} (m : Option (α₁ × α₂ × α₃)) (k : α₁ → α₂ → α₃ → Option β) : Option β := m.bind fun x => k x.1 x.2.1 x.2.2
def bind4 {α₁ α₂ α₃ α₄ : Type} (m : Option (α₁ × α₂ × α₃ × α₄)) (k : α₁ → α₂ → α₃ → α₄ → Option β) : Option β := m.bind fun x => k x.1 x.2.1 x.2.2.1 x.2.2.2
theorem bind2_some {α₁ α₂ : Type} {m : Option (α₁ × α₂)} {k : α₁ → α₂ → Option β} {r : β} (h : bind2 m k = some r) : ∃ x y, m = some (x, y) ∧ k x y = some r := by
  obtain ⟨⟨x, y⟩, h1, h2⟩ := bind_some h
  exact ⟨x, y, h1, h2⟩
theorem bind3_some {α₁ α₂ α₃ : Type} {m : Option (α₁ × α₂ × α₃)} {k : α₁ → α₂ → α₃ → Option β} {r : β} (h : bind3 m k = some r) : ∃ x y z, m = some (x, y, z) ∧ k x y z = some r := by
  obtain ⟨⟨x, y, z⟩, h1, h2⟩ := bind_some h
  exact ⟨x, y, z, h1, h2⟩
theorem bind4_some {α₁ α₂ α₃ α₄ : Type} {m : Option (α₁ × α₂ × α₃ × α₄)} {k : α₁ → α₂ → α₃ → α₄ → Option β} {r : β} (h : bind4 m k = some r) : ∃ x y z u, m = some (x, y, z, u) ∧ k x y z u = some r := by
  obtain ⟨⟨x, y, z, u⟩, h1, h2⟩ := bind_some h
  exact ⟨x, y, z, u, h1, h2⟩
theorem bind_of {m : Option α} {k : α → Option β} {x : α} (h : m = some x) : m.bind k = k x := by rw [h]; rfl
theorem bind2_of {α₁ α₂ : Type} {m : Option (α₁ × α₂)} {k : α₁ → α₂ → Option β} {x : α₁} {y : α₂} (h : m = some (x, y)) : bind2 m k = k x y := by rw [h]; rfl
theorem bind3_of {α₁ α₂ α₃ : Type} {m : Option (α₁ × α₂ × α₃)} {k : α₁ → α₂ → α₃ → Option β} {x : α₁} {y : α₂} {z : α₃} (h : m = some (x, y, z)) : bind3 m k = k x y z := by rw [h]; rfl
theorem bind4_of {α₁ α₂ α₃ α₄ : Type} {m : Option (α₁ × α₂ × α₃ × α₄)} {k : α₁ → α₂ → α₃ → α₄ → Option β} {x : α₁} {y : α₂} {z : α₃} {u : α₄} (h : m = some (x, y, z, u)) : bind4 m k = k x y z u := by rw [h]; rfl
theorem bind_ss {x : α} {k : α → Option β} : (some x).bind k = k x := rfl
theorem bind2_ss {α₁ α₂ : Type} {k : α₁ → α₂ → Option β} {x : α₁} {y : α₂} : bind2 (some (x, y)) k = k x y := rfl
theorem bind3_ss {α₁ α₂ α₃ : Type} {k : α₁ → α₂ → α₃ → Option β} {x : α₁} {y : α₂} {z : α₃} : bind3 (some (x, y, z)) k = k x y z := rfl
theorem bind4_ss {α₁ α₂ α₃ α₄ : Type} {k : α₁ → α₂ → α₃ → α₄ → Option β} {x : α₁} {y : α₂} {z : α₃} {u : α₄} : bind4 (some (x, y, z, u)) k = k x y z u := rfl
theorem cond_t {c : Bool} {a b : Option α} {r : α} (hc : c = true) (h : (bif c then a else b) = some r) : a = some r := by subst hc; exact h
theorem cond_f {c : Bool} {a b : Option α} {r : α} (hc : c = false) (h : (bif c then a else b) = some r) : b = some r := by subst hc; exact h
theorem cond_split {c : Bool} {a b : Option α} {r : α} (h : (bif c then a else b) = some r) : (c = true ∧ a = some r) ∨ (c = false ∧ b = some r) := by
  cases c with
  | true => exact .inl ⟨rfl, h⟩
  | false => exact .inr ⟨rfl, h⟩
theorem some_eq {x y : α} (h : some x = some y) : x = y := Option.some.inj h
/-- What a part of the code ends with: an end of the whole, or what it goes on with. -/
inductive Out (R S : Type) where
  | ret (r : R)
  | go (s : S)
def Out.on {R S : Type} (o : Out R S) (f : R → Option γ) (g : S → Option γ) : Option γ := match o with
  | .ret r => f r
  | .go s => g s
theorem on_ret {R S : Type} {f : R → Option γ} {g : S → Option γ} {r : R} {z : γ} (h : (Out.ret r).on f g = some z) : f r = some z := h
theorem on_go {R S : Type} {f : R → Option γ} {g : S → Option γ} {s : S} {z : γ} (h : (Out.go s).on f g = some z) : g s = some z := h
theorem ret_on {R S : Type} {f : R → Option γ} {g : S → Option γ} {r : R} : (Out.ret r).on f g = f r := rfl
theorem go_on {R S : Type} {f : R → Option γ} {g : S → Option γ} {s : S} : (Out.go s).on f g = g s := rfl
/-- As many rounds as no machine makes. -/
def FU : Nat := 18446744073709551616
abbrev InR (n : Int) : Prop := -9223372036854775808 ≤ n ∧ n ≤ 9223372036854775807
def idx (l : List α) (i : Int) : Option α := if 0 ≤ i then l[i.toNat]? else none
theorem idx_some {l : List α} {i : Int} {x : α} (h : idx l i = some x) : 0 ≤ i ∧ l[i.toNat]? = some x := by
  unfold idx at h
  split at h
  · exact ⟨by assumption, h⟩
  · cases h
theorem idx_nat (l : List α) (i : Nat) : idx l (i : Int) = l[i]? := by unfold idx; rw [if_pos (by omega)]; rfl
def sli (l : List α) (lo hi : Int) : Option (List α) := if 0 ≤ lo ∧ lo ≤ hi ∧ hi ≤ l.length then some ((l.take hi.toNat).drop lo.toNat) else none
theorem sli_some {l : List α} {lo hi : Int} {x : List α} (h : sli l lo hi = some x) : 0 ≤ lo ∧ lo ≤ hi ∧ hi ≤ l.length ∧ (l.take hi.toNat).drop lo.toNat = x := by
  unfold sli at h
  split at h
  · rename_i hh
    exact ⟨hh.1, hh.2.1, hh.2.2, some_eq h⟩
  · cases h
theorem sli_nat (l : List α) (lo hi : Nat) (h : lo ≤ hi) (h2 : hi ≤ l.length) : sli l lo hi = some ((l.take hi).drop lo) := by
  unfold sli; rw [if_pos (by omega)]; simp
/-- A byte out of a number. -/
def toU8 (n : Int) : UInt8 := UInt8.ofNat (n % 256).toNat
theorem toU8_w (n : Int) : IntKind.u8.wrap n = ((toU8 n).toNat : Int) := by
  simp only [IntKind.wrap, IntKind.bits, IntKind.signed, toU8, UInt8.toNat_ofNat']
  simp
  omega
theorem u8_add_w (a b : UInt8) : IntKind.u8.wrap ((a.toNat : Int) + b.toNat) = ((a + b).toNat : Int) := by
  simp only [IntKind.wrap, IntKind.bits, IntKind.signed, UInt8.toNat_add]
  simp
theorem u8_sub_w (a b : UInt8) : IntKind.u8.wrap ((a.toNat : Int) - b.toNat) = ((a - b).toNat : Int) := by
  have h1 := a.toNat_lt
  have h2 := b.toNat_lt
  simp only [IntKind.wrap, IntKind.bits, IntKind.signed, UInt8.toNat_sub]
  simp
  omega
theorem u8_div_w (a b : UInt8) : IntKind.u8.wrap ((a.toNat : Int).tdiv b.toNat) = ((a / b).toNat : Int) := by
  have h1 := a.toNat_lt
  rw [wrap_u8, UInt8.toNat_div]
  · rfl
  · have : (a.toNat : Int).tdiv b.toNat = ((a.toNat / b.toNat : Nat) : Int) := rfl
    rw [this]
    have h2 := Nat.div_le_self a.toNat b.toNat
    exact ⟨Int.natCast_nonneg _, Int.ofNat_lt.2 (Nat.lt_of_le_of_lt h2 h1)⟩
theorem i64_u8 (a : UInt8) : IntKind.i64.wrap (a.toNat : Int) = a.toNat := i64_id (by have := a.toNat_lt; omega)
end
/-- What stays owned, at its places. -/
def FixOk : List Asrt → List (Nat × Asrt) → Prop
  | _, [] => True
  | ms, (i, A) :: r => ms[i]? = some A ∧ FixOk ms r
def nthF (F : List (Nat × Asrt)) (i : Nat) : Asrt := match F[i]? with | some p => p.2 | none => markA 0
section
variable {Γ : Ctx} {P : Program} {L : Env} {ms : List Asrt} {K : KT}
/-- A loop whose rounds are a model's. -/
theorem g_loop_m {c : Code} {S Hid O : Type} {φ : Nat → S → Option O} {n0 : Nat} {st0 : S} {o : O} (L1 : Env) (F : List (Nat × Asrt)) (mod : S → Hid → Env) (own : List (Nat × Asrt) → S → Hid → List Asrt) (hid0 : Hid) (hm : φ n0 st0 = some o) (hz : ∀ st, φ 0 st = none)
    (hs : SubEnv L1 L) (hF : FixOk ms F) (r0 : SubEnv (mod st0 hid0) L) (o0 : own F st0 hid0 = ms)
    (round : ∀ n st hid, φ (n + 1) st = some o → G Γ P c (mod st hid ++ L1) (own F st hid) (KT.then (fun L' ms' => ∃ st' hid', φ n st' = some o ∧ SubEnv (mod st' hid') L' ∧ SubEnv L1 L' ∧ ∃ junk, ms' = junk ++ own F st' hid') K)) : G Γ P (.loop c) L ms K := by
  refine g_loop_k L1 (fun (s : Nat × S × Hid) => φ s.1 s.2.1 = some o) (fun s => mod s.2.1 s.2.2) (fun s => own F s.2.1 s.2.2) (fun s => s.1) (n0, st0, hid0) hm hs r0 o0 ?_
  rintro ⟨n, st, hid⟩ hI
  cases n with
  | zero => exact absurd (hI.symm.trans (hz st)) (by simp)
  | succ n =>
    refine g_mono (round n st hid hI) ?_
    intro e L' ms' k
    cases e with
    | normal =>
      obtain ⟨st', hid', h1, h2, h3, h4⟩ := k
      exact ⟨(n, st', hid'), h1, Nat.lt_succ_self n, h2, h3, h4⟩
    | _ => exact k
/-- Ways that meet. -/
theorem g_cut_m {c : Code} {S Hid : Type} (L1 : Env) (F : List (Nat × Asrt)) (mod : S → Hid → Env) (own : List (Nat × Asrt) → S → Hid → List Asrt) (inv : S → Prop) (hs : SubEnv L1 L) (hF : FixOk ms F)
    (h : G Γ P c L ms (KT.then (fun L' ms' => ∃ st hid, inv st ∧ SubEnv (mod st hid) L' ∧ SubEnv L1 L' ∧ ∃ junk, ms' = junk ++ own F st hid) K))
    (k : ∀ st hid, inv st → K .normal (mod st hid ++ L1) (own F st hid)) : G Γ P c L ms K :=
  g_cut L1 (fun (s : S × Hid) => inv s.1) (fun s => mod s.1 s.2) (fun s => own F s.1 s.2)
    (g_mono h (by
      intro e L' ms' k'
      cases e with
      | normal =>
        obtain ⟨st, hid, h1, h2, h3, h4⟩ := k'
        exact ⟨(st, hid), h1, h2, h3, h4⟩
      | _ => exact k'))
    (fun s hi => k s.1 s.2 hi)
theorem g_norm {c : Code} {L' : Env} {ms' : List Asrt} (hL : L = L') (hm : ms = ms') (h : G Γ P c L' ms' K) : G Γ P c L ms K := by subst hL hm; exact h
theorem k_norm {e : Exit} {L' : Env} {ms' : List Asrt} (hL : L = L') (hm : ms = ms') (h : K e L' ms') : K e L ms := by subst hL hm; exact h
/-- Two ways that meet behind n operations. -/
theorem go_two {ops : Array Oper} {l : List Oper} (L1 : Env) (n : Nat) (p : Nat) (c : Bool) {t : Nat} {b : Bool} (hs : SubEnv L1 L) (hb : Env.find L t = some (.v (.bool b)))
    (h1 : b = true → GO Γ P ops (l.drop n) ((p, .v (.bool c)) :: L1) ms K → GO Γ P ops l L ms K)
    (h2 : b = false → GO Γ P ops (l.drop n) ((p, .v (.bool c)) :: L1) ms K → GO Γ P ops l L ms K)
    (k : GO Γ P ops (l.drop n) ((p, .v (.bool c)) :: L1) ms K) : GO Γ P ops l L ms K := by
  cases b with
  | true => exact h1 rfl k
  | false => exact h2 rfl k
end
section
variable {P : Program} {L L' : Env} {ms : List Asrt} {o : Oper} {d : D}
/-- An operation, with what is known told otherwise. -/
theorem OpP.view (h : RefE ms L L') (hp : OpP P o L' ms d) : OpP P o L ms d := by
  intro ro H fr a w hok henv
  refine hp ro H fr a w hok fun t d' ht => ?_
  obtain ⟨e, h1, _, h2⟩ := h t d' ht
  exact h2 H fr w _ hok (henv t e h1)
theorem OpT.view {R : D → List Asrt → Prop} (h : RefE ms L L') (hp : OpT P o L' ms R) : OpT P o L ms R := by
  intro ro H fr a w hok henv
  refine hp ro H fr a w hok fun t d' ht => ?_
  obtain ⟨e, h1, _, h2⟩ := h t d' ht
  exact h2 H fr w _ hok (henv t e h1)
theorem nilE {i sz : Nat} {α : Type} {f : α → D} (hf : Env.find L i = some (.v (.slice none 0 0))) : RefE ms L ((i, .list sz f []) :: L) := by
  intro t d' ht
  simp only [Env.find] at ht
  cases hb : Nat.beq i t with
  | true =>
    rw [hb] at ht
    have := Nat.eq_of_beq_eq_true hb
    subst this
    simp only [Option.some.injEq] at ht
    subst ht
    refine ⟨_, hf, (fun b e => (by cases e)), fun H fr w u hok c => ?_⟩
    rw [conc_v.1 c, conc_enc (by rfl)]
    simp only [Enc]
    exact ⟨none, 0, by simp, by simp, by simp [maxLen], by simp⟩
  | false => rw [hb] at ht; exact ⟨d', ht, fun _ _ => rfl, fun _ _ _ _ _ c => c⟩
/-- What is known of some data says also this of them. -/
def EntL : List D → List D → Prop
  | [], [] => True
  | d :: ds, e :: es => (∀ H u, Conc H d u → Conc H e u) ∧ EntL ds es
  | _, _ => False
theorem ent_rfl {d : D} : ∀ (H : PH) (u : Value), Conc H d u → Conc H d u := fun _ _ h => h
theorem ent_nil {sz : Nat} {α : Type} {f : α → D} : ∀ (H : PH) (u : Value), Conc H (.v (.slice none 0 0)) u → Conc H (.list sz f []) u := by
  intro H u c
  rw [conc_v.1 c, conc_enc (by rfl)]
  simp only [Enc]
  exact ⟨none, 0, by simp, by simp, by simp [maxLen], by simp⟩
theorem EntL.conc {H : PH} : ∀ {ds es : List D} {us : List Value}, EntL ds es → ConcL H ds us → ConcL H es us
  | [], [], _, _, h => h
  | d :: ds, e :: es, us, he, h => by
    simp only [ConcL] at h ⊢
    obtain ⟨u, r, rfl, h1, h2⟩ := h
    exact ⟨u, r, rfl, he.1 H u h1, EntL.conc he.2 h2⟩
  | [], _ :: _, _, he, _ => he.elim
  | _ :: _, [], _, he, _ => he.elim
theorem Fn.ent {f : FuncId} {ds es : List D} {R : D → List Asrt → Prop} (h : Fn P f es ms R) (he : EntL ds es) : Fn P f ds ms R :=
  fun H fr w vs hok hargs => h H fr w vs hok (he.conc hargs)
end
end Go.V
