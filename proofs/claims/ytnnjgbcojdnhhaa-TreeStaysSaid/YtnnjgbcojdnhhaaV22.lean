/- A strings.Builder as one thing. -/
import Derived.Test.YtnnjgbcojdnhhaaV21
set_option linter.unusedVariables false
set_option linter.unusedSimpArgs false
namespace Go.V
def bld (b : Nat) (T u : TypeId) (a : Option Addr) (l : List UInt8) : Asrt where
  blocks := b :: (match a with | some x => [x.block] | none => [])
  ok := fun H h => ∃ (p : Option Addr) (cap : Nat), (p = none ∨ p = some ⟨b, 0, none⟩) ∧ (l = [] → a = none) ∧ (box b T [.v (.pointer p), .v (.slice a l.length cap)]).ok H h ∧ (row a cap u 1 D.u8 l).ok H h
  stable := by
    rintro H H' h h' e hle ⟨p, cap, h1, h2, h3, h4⟩
    refine ⟨p, cap, h1, h2, (box b T _).stable H H' h h' (fun b' hb => e b' ?_) hle h3, (row a cap u 1 D.u8 l).stable H H' h h' (fun b' hb => e b' ?_) hle h4⟩
    · simp only [box] at hb; exact List.mem_cons.2 (.inl (List.mem_singleton.1 hb))
    · simp only [row] at hb; exact List.mem_cons.2 (.inr hb)
section
variable {P : Program} {H : PH} {as : List Asrt} {w : World} {b : Nat} {T u : TypeId} {a : Option Addr} {l : List UInt8}
theorem bld_open (h : HeapOk H (bld b T u a l :: as) w) : ∃ (p : Option Addr) (cap : Nat), (p = none ∨ p = some ⟨b, 0, none⟩) ∧ (l = [] → a = none) ∧ HeapOk H (box b T [.v (.pointer p), .v (.slice a l.length cap)] :: row a cap u 1 D.u8 l :: as) w := by
  obtain ⟨p, cap, h1, h2, h3, h4⟩ := h.ok _ (List.mem_cons_self ..)
  refine ⟨p, cap, h1, h2, h.sub, ?_, ?_, ?_⟩
  · exact h.nodup
  · intro A hA b' hb'
    rcases List.mem_cons.1 hA with rfl | hA
    · exact h.lt _ (List.mem_cons_self ..) b' (by simp only [box] at hb'; simp only [bld]; exact List.mem_cons.2 (.inl (List.mem_singleton.1 hb')))
    · rcases List.mem_cons.1 hA with rfl | hA
      · exact h.lt _ (List.mem_cons_self ..) b' (by simp only [row] at hb'; simp only [bld]; exact List.mem_cons.2 (.inr hb'))
      · exact h.lt A (by simp [hA]) b' hb'
  · intro A hA
    rcases List.mem_cons.1 hA with rfl | hA
    · exact h3
    · rcases List.mem_cons.1 hA with rfl | hA
      · exact h4
      · exact h.ok A (by simp [hA])
theorem bld_shut {p : Option Addr} {cap : Nat} (hp : p = none ∨ p = some ⟨b, 0, none⟩) (hl : l = [] → a = none) (h : HeapOk H (box b T [.v (.pointer p), .v (.slice a l.length cap)] :: row a cap u 1 D.u8 l :: as) w) : HeapOk H (bld b T u a l :: as) w := by
  refine ⟨h.sub, ?_, ?_, ?_⟩
  · exact h.nodup
  · intro A hA b' hb'
    rcases List.mem_cons.1 hA with rfl | hA
    · simp only [bld] at hb'
      rcases List.mem_cons.1 hb' with rfl | hb'
      · exact h.lt (box b' T _) (List.mem_cons_self ..) b' (by simp [box])
      · exact h.lt (row a cap u 1 D.u8 l) (by simp) b' (by simp only [row]; exact hb')
    · exact h.lt A (by simp [hA]) b' hb'
  · intro A hA
    rcases List.mem_cons.1 hA with rfl | hA
    · exact ⟨p, cap, hp, hl, h.ok _ (List.mem_cons_self ..), h.ok (row a cap u 1 D.u8 l) (by simp)⟩
    · exact h.ok A (by simp [hA])
/-- A contract over a builder, out of one over its parts. -/
theorem fn_bld {f : FuncId} {args : List D} {Q : D → Prop} {l' : List UInt8} (h : ∀ (p : Option Addr) (cap : Nat), (p = none ∨ p = some ⟨b, 0, none⟩) → (l = [] → a = none) →
    Fn P f args [box b T [.v (.pointer p), .v (.slice a l.length cap)], row a cap u 1 D.u8 l] (fun d ms' => ∃ p' a' cap', ms' = [box b T [.v (.pointer p'), .v (.slice a' l'.length cap')], row a' cap' u 1 D.u8 l'] ∧ (p' = none ∨ p' = some ⟨b, 0, none⟩) ∧ (l' = [] → a' = none) ∧ Q d)) :
    Fn P f args [bld b T u a l] (fun d ms' => Q d ∧ ∃ a', ms' = [bld b T u a' l']) := by
  intro H fr w vs hok hargs
  obtain ⟨p, cap, h1, h2, h3⟩ := bld_open hok
  refine (h p cap h1 h2 H fr w vs h3 hargs).mono ?_
  rintro e w' ⟨v, d, ms', H', he, ⟨p', a', cap', rfl, hp', hl', hQ⟩, hle, hok', hc, hs⟩
  exact ⟨v, d, _, H', he, ⟨hQ, a', rfl⟩, hle, bld_shut hp' hl' hok', hc, hs⟩
theorem fn_bld_end {f : FuncId} {args : List D} {Q : D → Prop} (h : ∀ (p : Option Addr) (cap : Nat), (p = none ∨ p = some ⟨b, 0, none⟩) → (l = [] → a = none) →
    Fn P f args [box b T [.v (.pointer p), .v (.slice a l.length cap)], row a cap u 1 D.u8 l] (fun d ms' => Q d ∧ ms' = [])) : Fn P f args [bld b T u a l] (fun d ms' => Q d ∧ ms' = []) := by
  intro H fr w vs hok hargs
  obtain ⟨p, cap, h1, h2, h3⟩ := bld_open hok
  exact h p cap h1 h2 H fr w vs h3 hargs
theorem refines_bld {L : Env} {ms : List Asrt} : Refines L (row none 0 u 1 D.u8 ([] : List UInt8) :: box b T [.v (.pointer none), .v (.slice none 0 0)] :: ms) L (bld b T u none [] :: ms) := by
  intro Γ act w m
  obtain ⟨H, marks, hle, hok, henv, hdf⟩ := m.ex
  exact ⟨⟨H, marks, hle, bld_shut (.inl rfl) (fun _ => rfl) (hok.perm (List.Perm.swap ..)), henv, hdf⟩, m.size, m.same⟩
/-- A call that takes one thing that is owned, out of its place. -/
theorem o_call_at {L : Env} {ms : List Asrt} {dst : Option Nat} {ty : TypeId} {pos : String} {after : Array Edge} {g : Option (Nat × Bool)} {f : FuncId} {args : List Operand} {ats : Array TypeId} {ds : List D} {A : Asrt} {R : D → List Asrt → Prop} (k : Nat) (hc : ∀ args w, (callFunc f args).run P w = .ok (.enter f args) w) (hev : evL L args = some ds)
    (hk : ms[k]? = some A) (hf : Fn P f ds [A] R) {S : D → List Asrt → Prop} (hS : ∀ d ms', R d ms' → (∀ B, ms' = [B] → S d (ms.set k B)) ∧ (ms' = [] → S d (ms.eraseIdx k)) ∧ (ms' = [] ∨ ∃ B, ms' = [B])) :
    OpT P ⟨dst, .call ⟨.value (.func f), args.toArray, ats⟩, ty, pos, after, g⟩ L ms S := by
  have := o_call (P := P) (L := L) (ms := ms) (dst := dst) (ty := ty) (pos := pos) (after := after) (g := g) (ats := ats) (ms₁ := [A]) (rest := ms.eraseIdx k) hc hev (perm_at ms k A hk) hf
  intro ro H fr act w hok henv next Q hn
  refine this ro H fr act w hok henv next Q ?_
  rintro v d ms' w' H' ⟨ms₁, hR, rfl⟩ hle hok' hc' hs
  obtain ⟨s1, s2, s3⟩ := hS d ms₁ hR
  rcases s3 with rfl | ⟨B, rfl⟩
  · exact hn v d _ w' H' (s2 rfl) hle hok' hc' hs
  · refine hn v d _ w' H' (s1 B rfl) hle ?_ hc' hs
    exact hok'.perm (List.Perm.append_right fr (perm_set ms k A B hk))
theorem o_call_bld {L : Env} {ms : List Asrt} {dst : Option Nat} {ty : TypeId} {pos : String} {after : Array Edge} {g : Option (Nat × Bool)} {f : FuncId} {args : List Operand} {ats : Array TypeId} {ds : List D} {l' : List UInt8} {Q : D → Prop} (k : Nat) (hc : ∀ args w, (callFunc f args).run P w = .ok (.enter f args) w) (hev : evL L args = some ds)
    (hk : ms[k]? = some (bld b T u a l)) (hf : Fn P f ds [bld b T u a l] (fun d ms' => Q d ∧ ∃ a', ms' = [bld b T u a' l'])) : OpT P ⟨dst, .call ⟨.value (.func f), args.toArray, ats⟩, ty, pos, after, g⟩ L ms (fun d ms' => ∃ a', Q d ∧ ms' = ms.set k (bld b T u a' l')) :=
  o_call_at k hc hev hk hf fun d ms' h => by
    obtain ⟨hQ, a', rfl⟩ := h
    refine ⟨fun B e => ?_, fun e => by simp at e, .inr ⟨_, rfl⟩⟩
    simp only [List.cons.injEq, and_true] at e
    exact ⟨a', hQ, by rw [e]⟩
theorem o_call_bld_end {L : Env} {ms : List Asrt} {dst : Option Nat} {ty : TypeId} {pos : String} {after : Array Edge} {g : Option (Nat × Bool)} {f : FuncId} {args : List Operand} {ats : Array TypeId} {ds : List D} {Q : D → Prop} (k : Nat) (hc : ∀ args w, (callFunc f args).run P w = .ok (.enter f args) w) (hev : evL L args = some ds)
    (hk : ms[k]? = some (bld b T u a l)) (hf : Fn P f ds [bld b T u a l] (fun d ms' => Q d ∧ ms' = [])) : OpT P ⟨dst, .call ⟨.value (.func f), args.toArray, ats⟩, ty, pos, after, g⟩ L ms (fun d ms' => Q d ∧ ms' = ms.eraseIdx k) :=
  o_call_at k hc hev hk hf fun d ms' h => by
    obtain ⟨hQ, rfl⟩ := h
    exact ⟨fun B e => by simp at e, fun _ => ⟨hQ, rfl⟩, .inl rfl⟩
end
end Go.V
