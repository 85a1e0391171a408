/- Iterators and ranges over them, along models. -/
import Derived.Test.YtnnjgbcojdnhhaaV33
set_option linter.unusedVariables false
set_option linter.unusedSimpArgs false
namespace Go.V
section
variable {Γ : Ctx} {P : Program} {L : Env} {ms : List Asrt} {K : KT}
/-- A loop whose rounds are a model's; what the model answers hangs on what is hidden. -/
theorem g_loop_y {c : Code} {S Hid O : Type} {φ : Nat → S → Option O} {n0 : Nat} {st0 : S} {o0' : O} (oo : Hid → O) (L1 : Env) (F : List (Nat × Asrt)) (mod : S → Hid → Env) (own : List (Nat × Asrt) → S → Hid → List Asrt) (hid0 : Hid) (hm : φ n0 st0 = some o0') (ho : oo hid0 = o0') (hz : ∀ st, φ 0 st = none)
    (hs : SubEnv L1 L) (hF : FixOk ms F) (r0 : SubEnv (mod st0 hid0) L) (o0 : own F st0 hid0 = ms)
    (round : ∀ n st hid, φ (n + 1) st = some (oo hid) → G Γ P c (mod st hid ++ L1) (own F st hid) (KT.then (fun L' ms' => ∃ st' hid', φ n st' = some (oo hid') ∧ SubEnv (mod st' hid') L' ∧ SubEnv L1 L' ∧ ∃ junk, ms' = junk ++ own F st' hid') K)) : G Γ P (.loop c) L ms K := by
  subst ho
  refine g_loop_k L1 (fun (s : Nat × S × Hid) => φ s.1 s.2.1 = some (oo s.2.2)) (fun s => mod s.2.1 s.2.2) (fun s => own F s.2.1 s.2.2) (fun s => s.1) (n0, st0, hid0) hm hs r0 o0 ?_
  rintro ⟨n, st, hid⟩ hI
  cases n with
  | zero => exact absurd (hI.symm.trans (hz st)) (by simp)
  | succ n =>
    refine g_mono (round n st hid hI) ?_
    intro e L' ms' k
    cases e with
    | normal =>
      obtain ⟨st', hid', h1, h2, h3, h4⟩ := k
      exact ⟨(n, st', hid'), h1, Nat.lt_succ_self n, h2, h3, h4⟩
    | _ => exact k
theorem yield_at {α : Type} {x : α} {ys xs : List α} {k : Nat} (h : some (x :: ys) = some (xs.drop k)) : xs[k]? = some x ∧ k + 1 ≤ xs.length ∧ xs.drop (k + 1) = ys := by
  have h := (Option.some.inj h).symm
  have hl : k < xs.length := by
    have := congrArg List.length h
    simp at this; omega
  exact ⟨by have := congrArg (·[0]?) h; simpa using this, hl, by have := congrArg (·.drop 1) h; simpa [Nat.add_comm] using this⟩
theorem yield_end {α : Type} {xs : List α} {k : Nat} {J : Nat → List Asrt → Prop} {tl : List Asrt} (h : some ([] : List α) = some (xs.drop k)) (hk : k ≤ xs.length) (hJ : J k tl) {β : Type _} (e : α → β) : J (xs.map e).length tl := by
  have h := (Option.some.inj h).symm
  have : xs.length ≤ k := by simpa using h
  have : k = xs.length := by omega
  subst this; rw [List.length_map]; exact hJ
theorem map_at {α : Type _} {β : Type _} {e : α → β} {xs : List α} {k : Nat} {x : α} (h : xs[k]? = some x) : (xs.map e)[k]? = some (e x) := by rw [List.getElem?_map, h]; rfl
end
section
variable {P : Program} {L : Env} {dst : Option Nat} {ty : TypeId} {pos : String} {after : Array Edge} {g : Option (Nat × Bool)} {x : Operand}
/-- A call of yield: what is one's own stays, the consumer's part turns. -/
theorem o_yield {args : List Operand} {ats : Array TypeId} {ds : List D} {y : D} (own tl : List Asrt) {J : Nat → List Asrt → Prop} {Jx : List Asrt → Prop} {k : Nat} (hx : Env.ev L x = some y) (hev : evL L args = some ds)
    (hf : FV P y ds tl (fun r ms' => (r = .bool true ∧ J (k + 1) ms') ∨ (r = .bool false ∧ Jx ms'))) :
    OpT P ⟨dst, .call ⟨.value x, args.toArray, ats⟩, ty, pos, after, g⟩ L (own ++ tl) (fun d ms' => ∃ b tl', d = .bool b ∧ ms' = own ++ tl' ∧ (b = true → J (k + 1) tl') ∧ (b = false → Jx tl')) := by
  have := o_callv (P := P) (L := L) (ms := own ++ tl) (dst := dst) (ty := ty) (pos := pos) (after := after) (g := g) (ats := ats) (ms₁ := tl) (rest := own) hx hev List.perm_append_comm hf
  intro ro H fr a w hok henv next Q hn
  refine this ro H fr a w hok henv next Q ?_
  rintro v d ms' w' H' ⟨ms₁', hR, rfl⟩ hle hok' hc' hs
  have hp : HeapOk H' ((own ++ ms₁') ++ fr) w' := hok'.perm ((List.perm_append_comm).append_right fr)
  rcases hR with ⟨rfl, h⟩ | ⟨rfl, h⟩
  · exact hn v _ _ w' H' ⟨true, ms₁', rfl, rfl, fun _ => h, fun e => by cases e⟩ hle hp hc' hs
  · exact hn v _ _ w' H' ⟨false, ms₁', rfl, rfl, (fun e => by cases e), fun _ => h⟩ hle hp hc' hs
end
section
variable {Γ : Ctx} {P : Program} {L : Env} {ms : List Asrt} {K : KT}
/-- A range over a function whose rounds are a model's. -/
theorem g_range_m {g : Operand} {ps : List Nat} {assign body : Code} {gf : FuncId} {caps : List D} {X S Hid O : Type} {φ : List X → S → Option O} {xs : List X} {st0 : S} {o : O} (e : X → List D) (F : List (Nat × Asrt)) (own : List (Nat × Asrt) → S → Hid → List Asrt) (hid0 : Hid) (hm : φ xs st0 = some o)
    (hF : FixOk ms F) (o0 : own F st0 hid0 = ms) (hg : Env.ev L g = some (.clo (.func gf) [] caps)) (hc : ∀ args w, (callFunc gf args).run P w = .ok (.enter gf args) w) (hit : Iter P gf caps (xs.map e))
    (hlen : ∀ x, (e x).length = ps.length) (hps : ps.all (fun p => Nat.blt p Γ.N) = true)
    (round : ∀ (H0 : PH) (fr : List Asrt) (ro : Option Nat) (w0 : World) hr (x : X) (r : List X) (st : S) (hid : Hid), φ (x :: r) st = some o →
      G ⟨H0, fr, Γ.N, ro, w0, hr⟩ P assign (bindPs ps (e x) L) (own F st hid) (KT.then (fun L' ms'' => ∀ (H0 : PH) (fr : List Asrt) (ro : Option Nat) (w0 : World) hr, G ⟨H0, fr, Γ.N, ro, w0, hr⟩ P body L' ms'' (fun e _ ms3 => match e with | .normal => (∃ st' hid', φ r st' = some o ∧ ∃ junk, ms3 = junk ++ own F st' hid') | .ret => K .ret L ms3 | .exit id => K (.exit id) L ms3 | _ => False)) (fun _ _ _ => False)))
    (hdone : ∀ st hid, φ [] st = some o → K .normal L (own F st hid)) : G Γ P (.rangeFunc g ps.toArray assign body) L ms K := by
  refine g_range (xs.map e) (fun k ms' => k ≤ xs.length ∧ ∃ st hid, φ (xs.drop k) st = some o ∧ ms' = own F st hid) hg hc hit ⟨Nat.zero_le _, st0, hid0, by simpa using hm, o0.symm⟩ (by intro ds hds; obtain ⟨x, _, rfl⟩ := List.mem_map.1 hds; exact hlen x) hps ?_ ?_
  · rintro H0 fr ro w0 hr k ds ms' hx ⟨hk, st, hid, h1, h2⟩
    subst h2
    rw [List.getElem?_map] at hx
    obtain ⟨x, hx1, rfl⟩ := Option.map_eq_some_iff.1 hx
    obtain ⟨hlt, hx2⟩ := List.getElem?_eq_some_iff.1 hx1
    have hd : xs.drop k = x :: xs.drop (k + 1) := by rw [← hx2]; exact (List.getElem_cons_drop ..).symm
    rw [hd] at h1
    refine g_mono (round H0 fr ro w0 hr x _ st hid h1) ?_
    intro e' L' ms'' k'
    cases e' with
    | normal =>
      intro H0' fr' ro' w0' hr'
      refine g_mono (k' H0' fr' ro' w0' hr') ?_
      intro e2 L3 ms3 k3
      cases e2 with
      | normal =>
        obtain ⟨st', hid', a, junk, rfl⟩ := k3
        exact ⟨junk, _, rfl, hlt, st', hid', a, rfl⟩
      | _ => exact k3
    | _ => exact k'
  · rintro ms' ⟨_, st, hid, h1, h2⟩
    subst h2
    exact hdone st hid (by simpa using h1)
end
end Go.V
