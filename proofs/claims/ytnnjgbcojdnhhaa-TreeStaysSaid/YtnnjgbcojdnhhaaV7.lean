/- Loops; what is known of integers. -/
import Derived.Test.YtnnjgbcojdnhhaaV6
set_option linter.unusedVariables false
set_option linter.unusedSimpArgs false
namespace Go.V
/-- Each entry of the first is found in the second. -/
def SubEnv : Env → Env → Prop
  | [], _ => True
  | (i, d) :: r, L => Env.find L i = some d ∧ SubEnv r L
theorem SubEnv.find : ∀ {A L : Env} {t : Nat} {d : D}, SubEnv A L → Env.find A t = some d → Env.find L t = some d
  | [], L, t, d, _, h => by simp [Env.find] at h
  | (i, e) :: A, L, t, d, s, h => by
    simp only [Env.find] at h
    cases hb : Nat.beq i t with
    | true =>
      rw [hb] at h
      have : i = t := Nat.eq_of_beq_eq_true hb
      subst this
      simp only [Option.some.injEq] at h
      subst h
      exact s.1
    | false => rw [hb] at h; exact SubEnv.find s.2 h
/-- The entries of some slots. -/
def Env.only : List Nat → Env → Env
  | [], _ => []
  | t :: ks, L => match Env.find L t with
    | some d => (t, d) :: Env.only ks L
    | none => Env.only ks L
def OnlyOk : List Nat → Env → Env → Prop
  | [], _, _ => True
  | t :: ks, L, L' => Env.find L' t = Env.find L t ∧ OnlyOk ks L L'
theorem only_sub : ∀ {ks : List Nat} {L L' : Env}, OnlyOk ks L L' → SubEnv (Env.only ks L) L'
  | [], L, L', _ => trivial
  | t :: ks, L, L', h => by
    simp only [Env.only]
    cases hf : Env.find L t with
    | none => exact only_sub h.2
    | some d => exact ⟨by rw [h.1, hf], only_sub h.2⟩
theorem onlyOk_refl : ∀ (ks : List Nat) (L : Env), OnlyOk ks L L
  | [], _ => trivial
  | t :: ks, L => ⟨rfl, onlyOk_refl ks L⟩
theorem SubEnv.append : ∀ {A B L : Env}, SubEnv A L → SubEnv B L → SubEnv (A ++ B) L
  | [], _, _, _, h => h
  | (i, d) :: A, B, L, h, k => ⟨h.1, SubEnv.append h.2 k⟩
theorem refines_sub {L L' : Env} {ms : List Asrt} (h : SubEnv L' L) : Refines L ms L' ms := by
  intro Γ a w m
  obtain ⟨H, marks, hle, hok, henv, hdf⟩ := m.ex
  exact ⟨⟨H, marks, hle, hok, fun t d ht => henv t d (h.find ht), hdf⟩, m.size, m.same⟩
/-- What is owned is forgotten in part. -/
theorem refines_junk {L : Env} {ms : List Asrt} (junk : List Asrt) : Refines L (junk ++ ms) L ms := by
  intro Γ a w m
  obtain ⟨H, marks, hle, hok, henv, hdf⟩ := m.ex
  rw [List.append_assoc] at hok
  exact ⟨⟨H, marks, hle, hok.drop, henv, hdf⟩, m.size, m.same⟩
theorem Refines.trans {L L' L'' : Env} {ms ms' ms'' : List Asrt} (h : Refines L ms L' ms') (k : Refines L' ms' L'' ms'') : Refines L ms L'' ms'' := fun Γ a w m => k Γ a w (h Γ a w m)
section
variable {Γ : Ctx} {P : Program} {L : Env} {ms : List Asrt} {K : KT}
theorem g_loop' {c : Code} {σ : Type _} (inv : σ → Prop) (env : σ → Env) (own : σ → List Asrt) (μ : σ → Nat) (s₀ : σ) (h₀ : inv s₀) (r₀ : Refines L ms (env s₀) (own s₀))
    (round : ∀ s, inv s → G Γ P c (env s) (own s) (KT.then (fun L ms => ∃ s', inv s' ∧ μ s' < μ s ∧ Refines L ms (env s') (own s')) K)) : G Γ P (.loop c) L ms K := by
  have key : ∀ n s, μ s = n → inv s → ∀ a w, Models Γ (env s) (own s) a w → ∀ (b : Frame) (k : List Item) (cs : List Frame), b.roundOf = (FR Γ.round).round → (FR Γ.round).fn b.fn → (FR Γ.round).room (cs.length + 1 + 0) →
      ∃ e a' w', Post Γ K e a' w' ∧ ArrivesIn (Machine.fenced P (FR Γ.round)) P (lone (b.atR a (.code c :: .inLoop c :: k)) cs w) b k cs e a' w' := by
    intro n
    induction n using Nat.strongRecOn with
    | _ n ih =>
      intro s hn hI a w m b k cs hro hb hr
      obtain ⟨e, a₁, w₁, hq, harr⟩ := round s hI a w m b (.inLoop c :: k) cs hro hb hr
      obtain ⟨L', ms', k', m'⟩ := hq
      cases e with
      | normal =>
        obtain ⟨s', hi, hlt, r⟩ := k'
        obtain ⟨e₂, a₂, w₂, hq₂, harr₂⟩ := ih (μ s') (hn ▸ hlt) s' rfl hi a₁ w₁ (r Γ a₁ w₁ m') b k cs hro hb hr
        exact ⟨e₂, a₂, w₂, hq₂, .of_steps (StepsIn.trans harr (.one (fenced_calm hb hr rfl) stepR_inLoop)) harr₂⟩
      | exit id => exact ⟨_, a₁, w₁, ⟨L', ms', k', m'⟩, .pass (x := .inLoop c) rfl (fun _ _ => .inl (by simp)) harr⟩
      | goto l => exact ⟨_, a₁, w₁, ⟨L', ms', k', m'⟩, .pass (x := .inLoop c) rfl (fun _ _ => .inl (by simp)) harr⟩
      | ret => exact ⟨_, a₁, w₁, ⟨L', ms', k', m'⟩, .pass (x := .inLoop c) rfl (fun _ _ => .inl (by simp)) harr⟩
      | panic ch => exact ⟨_, a₁, w₁, ⟨L', ms', k', m'⟩, .pass (x := .inLoop c) rfl (fun _ _ => .inl (by simp)) harr⟩
      | outgrown => exact ⟨_, a₁, w₁, ⟨L', ms', k', m'⟩, .pass (x := .inLoop c) rfl (fun _ _ => .inl (by simp)) harr⟩
  intro a w m b k cs hro hb hr
  obtain ⟨e, a', w', hq, harr⟩ := key _ s₀ rfl h₀ a w (r₀ Γ a w m) b k cs hro hb hr
  exact ⟨e, a', w', hq, .of_steps (.one (fenced_calm hb hr rfl) stepR_loop) harr⟩
/-- A loop: L1: what stays; mod: what turns. -/
theorem g_loop_k {c : Code} {σ : Type _} (L1 : Env) (inv : σ → Prop) (mod : σ → Env) (own : σ → List Asrt) (μ : σ → Nat) (s₀ : σ) (h₀ : inv s₀) (hs : SubEnv L1 L) (r₀ : SubEnv (mod s₀) L) (o₀ : own s₀ = ms)
    (round : ∀ s, inv s → G Γ P c (mod s ++ L1) (own s) (KT.then (fun L' ms' => ∃ s', inv s' ∧ μ s' < μ s ∧ SubEnv (mod s') L' ∧ SubEnv L1 L' ∧ ∃ junk, ms' = junk ++ own s') K)) : G Γ P (.loop c) L ms K := by
  subst o₀
  refine g_loop' inv (fun s => mod s ++ L1) own μ s₀ h₀ (refines_sub (r₀.append hs)) fun s hs => g_mono (round s hs) ?_
  intro e L' ms' k
  cases e with
  | normal =>
    obtain ⟨s', h1, h2, h3, h4, junk, h5⟩ := k
    subst h5
    exact ⟨s', h1, h2, (refines_junk _).trans (refines_sub (h3.append h4))⟩
  | _ => exact k
/-- Ways that meet again: behind a block all that is known is of a family. -/
theorem g_cut {c : Code} {σ : Type _} (L1 : Env) (inv : σ → Prop) (mod : σ → Env) (own : σ → List Asrt)
    (h : G Γ P c L ms (KT.then (fun L' ms' => ∃ s, inv s ∧ SubEnv (mod s) L' ∧ SubEnv L1 L' ∧ ∃ junk, ms' = junk ++ own s) K))
    (k : ∀ s, inv s → K .normal (mod s ++ L1) (own s)) : G Γ P c L ms K := by
  intro a w m
  refine wpIn_mono (h a w m) ?_
  rintro e a' w' ⟨L', ms', k', m'⟩
  cases e with
  | normal =>
    obtain ⟨s, h1, h2, h3, junk, h4⟩ := k'
    subst h4
    exact ⟨_, _, k s h1, (refines_junk junk).trans (refines_sub (h2.append h3)) Γ a' w' m'⟩
  | _ => exact ⟨L', ms', k', m'⟩
end
theorem i64_id {n : Int} (h : -9223372036854775808 ≤ n ∧ n ≤ 9223372036854775807) : IntKind.i64.wrap n = n := IntWalk.i64_in n h
theorem int_eq {k : IntKind} {a b : Int} (h : a = b) : (some (D.v (.int k a))) = some (D.v (.int k b)) := by rw [h]
theorem of_dec {p : Prop} [Decidable p] {b : Bool} (h : decide p = true) : p := of_decide_eq_true h
theorem wrap_u8 {n : Int} (h : 0 ≤ n ∧ n < 256) : IntKind.u8.wrap n = n := by
  simp only [IntKind.wrap, IntKind.bits, IntKind.signed]
  simp
  omega
end Go.V
