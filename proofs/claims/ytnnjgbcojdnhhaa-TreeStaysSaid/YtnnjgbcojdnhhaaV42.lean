/- Calls that take several things of one's own, out of their places and back. -/
import Derived.Test.YtnnjgbcojdnhhaaV41
set_option linter.unusedVariables false
set_option linter.unusedSimpArgs false
namespace Go.V
/-- Nothing. -/
def em : Asrt where
  blocks := []
  ok := fun _ _ => True
  stable := fun _ _ _ _ _ _ _ => trivial
theorem HeapOk.em_in {H : PH} {as : List Asrt} {w : World} (h : HeapOk H as w) : HeapOk H (em :: as) w :=
  ⟨h.sub, h.nodup, fun A hA b hb => by
    rcases List.mem_cons.1 hA with rfl | hA
    · simp [em] at hb
    · exact h.lt A hA b hb, fun A hA => by
    rcases List.mem_cons.1 hA with rfl | hA
    · trivial
    · exact h.ok A hA⟩
theorem HeapOk.em_out {H : PH} {as : List Asrt} {w : World} (h : HeapOk H (em :: as) w) : HeapOk H as w := HeapOk.drop (as := [em]) h
theorem take_em {H : PH} {ms fr : List Asrt} {w : World} {k : Nat} {A : Asrt} (hk : ms[k]? = some A) (h : HeapOk H (ms ++ fr) w) : HeapOk H (A :: (ms.set k em ++ fr)) w := by
  have h1 := (h.perm (perm_fr hk)).em_in
  have h2 : HeapOk H (A :: (em :: (ms.eraseIdx k ++ fr))) w := h1.perm (List.Perm.swap ..)
  exact h2.perm (List.Perm.cons _ (perm_fr' hk))
theorem put_em {H : PH} {ms fr : List Asrt} {w : World} {k : Nat} {A : Asrt} (hk : ms[k]? = some em) (h : HeapOk H (A :: (ms ++ fr)) w) : HeapOk H (ms.set k A ++ fr) w := by
  have h1 : HeapOk H (A :: (em :: (ms.eraseIdx k ++ fr))) w := h.perm (List.Perm.cons _ (perm_fr hk))
  have h2 : HeapOk H (A :: (ms.eraseIdx k ++ fr)) w := (h1.perm (List.Perm.swap ..)).em_out
  exact h2.perm (perm_fr' hk)
def putL (ms : List Asrt) : List Nat → List Asrt → List Asrt
  | k :: ks, A :: As => putL (ms.set k A) ks As
  | _, _ => ms
def ems (ks : List Nat) : List Asrt := ks.map fun _ => em
theorem putL_get {k : Nat} : ∀ (ks : List Nat) (As ms : List Asrt), k ∉ ks → (putL ms ks As)[k]? = ms[k]?
  | [], _, _, _ => by simp [putL]
  | _ :: _, [], _, _ => by simp [putL]
  | j :: ks, A :: As, ms, h => by
    simp only [List.mem_cons, not_or] at h
    rw [putL, putL_get ks As _ h.2, List.getElem?_set_ne (fun e => h.1 e.symm)]
theorem putL_set {k : Nat} {B : Asrt} : ∀ (ks : List Nat) (As ms : List Asrt), k ∉ ks → (putL ms ks As).set k B = putL (ms.set k B) ks As
  | [], _, _, _ => by simp [putL]
  | _ :: _, [], _, _ => by simp [putL]
  | j :: ks, A :: As, ms, h => by
    simp only [List.mem_cons, not_or] at h
    rw [putL, putL_set ks As _ h.2, putL]
    rw [List.set_comm _ _ (fun e => h.1 e.symm)]
theorem take_all {H : PH} {w : World} : ∀ (ks : List Nat) (As ms fr : List Asrt), ks.Nodup → As.length = ks.length → (∀ i : Nat, i < ks.length → ∃ k A, ks[i]? = some k ∧ As[i]? = some A ∧ ms[k]? = some A) → HeapOk H (ms ++ fr) w → HeapOk H (As ++ (putL ms ks (ems ks) ++ fr)) w
  | [], [], ms, fr, _, _, _, h => by simpa [putL] using h
  | [], _ :: _, _, _, _, hl, _, _ => by simp at hl
  | k :: ks, [], _, _, _, hl, _, _ => by simp at hl
  | k :: ks, A :: As, ms, fr, hn, hl, hg, h => by
    rw [List.nodup_cons] at hn
    obtain ⟨k', A', e1, e2, e3⟩ := hg 0 (by simp)
    simp only [List.getElem?_cons_zero, Option.some.injEq] at e1 e2
    subst e1 e2
    have h1 := take_em e3 h
    have h2 : HeapOk H (ms.set k em ++ (A :: fr)) w := h1.perm (List.perm_middle.symm)
    have h3 := take_all ks As (ms.set k em) (A :: fr) hn.2 (by simpa using hl) (fun i hi => by
      obtain ⟨k', A', e1, e2, e4⟩ := hg (i + 1) (by simpa using hi)
      simp only [List.getElem?_cons_succ] at e1 e2
      refine ⟨k', A', e1, e2, ?_⟩
      have hne : k ≠ k' := fun e => hn.1 (by rw [e]; exact List.mem_of_getElem? e1)
      rw [List.getElem?_set_ne hne]
      exact e4) h2
    have e5 : putL ms (k :: ks) (ems (k :: ks)) = putL (ms.set k em) ks (ems ks) := rfl
    rw [e5]
    refine h3.perm ?_
    have p1 : (putL (ms.set k em) ks (ems ks) ++ (A :: fr)).Perm (A :: (putL (ms.set k em) ks (ems ks) ++ fr)) := List.perm_middle
    have p2 := (p1.append_left As).trans (List.perm_middle (a := A) (l₁ := As))
    simpa using p2
theorem put_all {H : PH} {w : World} : ∀ (ks : List Nat) (As ms fr : List Asrt), ks.Nodup → As.length = ks.length → (∀ k ∈ ks, k < ms.length) → HeapOk H (As ++ (putL ms ks (ems ks) ++ fr)) w → HeapOk H (putL ms ks As ++ fr) w
  | [], [], ms, fr, _, _, _, h => by simpa [putL] using h
  | [], _ :: _, _, _, _, hl, _, _ => by simp at hl
  | k :: ks, [], _, _, _, hl, _, _ => by simp at hl
  | k :: ks, A :: As, ms, fr, hn, hl, hb, h => by
    rw [List.nodup_cons] at hn
    have e5 : putL ms (k :: ks) (ems (k :: ks)) = putL (ms.set k em) ks (ems ks) := rfl
    rw [e5] at h
    have h1 : HeapOk H (As ++ (putL (ms.set k em) ks (ems ks) ++ (A :: fr))) w := by
      refine h.perm ?_
      have p1 : (putL (ms.set k em) ks (ems ks) ++ (A :: fr)).Perm (A :: (putL (ms.set k em) ks (ems ks) ++ fr)) := List.perm_middle
      have p2 := (p1.append_left As).trans (List.perm_middle (a := A) (l₁ := As))
      simpa using p2.symm
    have h2 := put_all ks As (ms.set k em) (A :: fr) hn.2 (by simpa using hl) (fun k' hk' => by simpa using hb k' (by simp [hk'])) h1
    have h3 : HeapOk H (A :: (putL (ms.set k em) ks As ++ fr)) w := h2.perm List.perm_middle
    have hk : (putL (ms.set k em) ks As)[k]? = some em := by
      rw [putL_get ks As _ hn.1, List.getElem?_set_self (hb k (by simp))]
    have h4 := put_em hk h3
    rw [putL_set ks As _ hn.1] at h4
    simpa [putL] using h4
def ownB : List Nat → List Nat → Nat → Bool
  | [], _, _ => true
  | k :: ks, seen, n => Nat.blt k n && !(seen.contains k) && ownB ks (k :: seen) n
theorem ownB_ok : ∀ (ks seen : List Nat) (n : Nat), ownB ks seen n = true → ks.Nodup ∧ (∀ k ∈ ks, k < n) ∧ ∀ k ∈ ks, k ∉ seen
  | [], _, _, _ => ⟨List.nodup_nil, by simp, by simp⟩
  | k :: ks, seen, n, h => by
    simp only [ownB, Bool.and_eq_true, Bool.not_eq_true'] at h
    obtain ⟨⟨h1, h2⟩, h3⟩ := h
    obtain ⟨a, b, c⟩ := ownB_ok ks (k :: seen) n h3
    refine ⟨List.nodup_cons.2 ⟨fun hm => c k hm (by simp), a⟩, fun j hj => ?_, fun j hj => ?_⟩
    · rcases List.mem_cons.1 hj with rfl | hj
      · exact Nat.le_of_ble_eq_true h1
      · exact b j hj
    · rcases List.mem_cons.1 hj with rfl | hj
      · intro hm
        rw [List.contains_iff_mem.2 hm] at h2; cases h2
      · exact fun hm => c j hj (by simp [hm])
def getL (ms : List Asrt) : List Nat → List Asrt → Prop
  | [], [] => True
  | k :: ks, A :: As => ms[k]? = some A ∧ getL ms ks As
  | _, _ => False
theorem getL_ok {ms : List Asrt} : ∀ (ks : List Nat) (As : List Asrt), getL ms ks As → As.length = ks.length ∧ ∀ i : Nat, i < ks.length → ∃ k A, ks[i]? = some k ∧ As[i]? = some A ∧ ms[k]? = some A
  | [], [], _ => ⟨rfl, fun i hi => by simp at hi⟩
  | k :: ks, A :: As, ⟨h1, h2⟩ => by
    obtain ⟨a, b⟩ := getL_ok ks As h2
    refine ⟨by simp [a], fun i hi => ?_⟩
    cases i with
    | zero => exact ⟨k, A, rfl, rfl, h1⟩
    | succ i => exact b i (by simpa using hi)
  | [], _ :: _, h => h.elim
  | _ :: _, [], h => h.elim
section
variable {P : Program} {L : Env} {ms : List Asrt} {dst : Option Nat} {ty : TypeId} {pos : String} {after : Array Edge} {g : Option (Nat × Bool)} {d d' : D} {x y z : Operand} {t t' : TypeId} {R : D → List Asrt → Prop}
theorem o_call_own {f : FuncId} {args : List Operand} {ats : Array TypeId} {ds : List D} {As : List Asrt} (ks : List Nat) (hc : ∀ args w, (callFunc f args).run P w = .ok (.enter f args) w) (hev : evL L args = some ds) (hb : ownB ks [] ms.length = true) (hg : getL ms ks As) (hf : Fn P f ds As R) (hl : ∀ d ms', R d ms' → ms'.length = ks.length) :
    OpT P ⟨dst, .call ⟨.value (.func f), args.toArray, ats⟩, ty, pos, after, g⟩ L ms (fun d ms' => ∃ ms₁, R d ms₁ ∧ ms' = putL ms ks ms₁) := by
  obtain ⟨b1, b2, _⟩ := ownB_ok ks [] _ hb
  obtain ⟨g1, g2⟩ := getL_ok ks As hg
  intro ro H fr a w hok henv next Q hn
  have hok' := take_all ks As ms fr b1 g1 g2 hok
  have := o_call (P := P) (L := L) (ms := As ++ putL ms ks (ems ks)) (dst := dst) (ty := ty) (pos := pos) (after := after) (g := g) (ats := ats) (ms₁ := As) (rest := putL ms ks (ems ks)) hc hev (List.Perm.refl _) hf
  refine this ro H fr a w (by rw [List.append_assoc]; exact hok') henv next Q ?_
  rintro v d ms' w' H' ⟨ms₁, hR, rfl⟩ hle hok2 hc2 hs
  rw [List.append_assoc] at hok2
  exact hn v d _ w' H' ⟨ms₁, hR, rfl⟩ hle (put_all ks ms₁ ms fr b1 (hl d ms₁ hR) b2 hok2) hc2 hs
theorem o_callv_own {args : List Operand} {ats : Array TypeId} {ds : List D} {fv : D} {As : List Asrt} (ks : List Nat) (hx : Env.ev L x = some fv) (hev : evL L args = some ds) (hb : ownB ks [] ms.length = true) (hg : getL ms ks As) (hf : FV P fv ds As R) (hl : ∀ d ms', R d ms' → ms'.length = ks.length) :
    OpT P ⟨dst, .call ⟨.value x, args.toArray, ats⟩, ty, pos, after, g⟩ L ms (fun d ms' => ∃ ms₁, R d ms₁ ∧ ms' = putL ms ks ms₁) := by
  obtain ⟨b1, b2, _⟩ := ownB_ok ks [] _ hb
  obtain ⟨g1, g2⟩ := getL_ok ks As hg
  intro ro H fr a w hok henv next Q hn
  have hok' := take_all ks As ms fr b1 g1 g2 hok
  have := o_callv (P := P) (L := L) (ms := As ++ putL ms ks (ems ks)) (dst := dst) (ty := ty) (pos := pos) (after := after) (g := g) (ats := ats) (ms₁ := As) (rest := putL ms ks (ems ks)) hx hev (List.Perm.refl _) hf
  refine this ro H fr a w (by rw [List.append_assoc]; exact hok') henv next Q ?_
  rintro v d ms' w' H' ⟨ms₁, hR, rfl⟩ hle hok2 hc2 hs
  rw [List.append_assoc] at hok2
  exact hn v d _ w' H' ⟨ms₁, hR, rfl⟩ hle (put_all ks ms₁ ms fr b1 (hl d ms₁ hR) b2 hok2) hc2 hs
end
theorem permA {ms As rest : List Asrt} {A : Asrt} (k : Nat) (h : ms[k]? = some A) (p : (ms.eraseIdx k).Perm (rest ++ As)) : ms.Perm (rest ++ (A :: As)) :=
  (perm_at ms k A h).trans ((List.Perm.cons A p).trans List.perm_middle.symm)
theorem permN {ms : List Asrt} : ms.Perm (ms ++ []) := by simp
end Go.V
