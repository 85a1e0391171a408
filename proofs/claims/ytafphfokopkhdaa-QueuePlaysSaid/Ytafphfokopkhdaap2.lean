/- Part 2 of the proof: a program logic, what the functions compute, and what these answer; no condition. -/
import Derived.Test.Ytafphfokopkhdaap1
import Derived.Laws.RangeString
import Derived.Lib.Bytealg
import Derived.Sort.OwnSortedInts
import Derived.Lib.SlicesCompact
import Derived.Conc.LoneSelectN
import Derived.Conc.LoneSelect
set_option linter.unusedVariables false
set_option linter.unusedSimpArgs false
namespace Go.V
section
variable {α β S O R : Type}
open Classical in
/-- A loop that ends at the first that is not so. -/
theorem loop_all {l : List α} {φ : Nat → Int → Option (Out R Unit)} (r : R) (q : Nat → α → Prop)
    (step : ∀ n (i : Nat) x, l[i]? = some x → i < l.length → (q i x → φ (n + 1) (i : Int) = φ n ((i : Int) + 1)) ∧ (¬ q i x → φ (n + 1) (i : Int) = some (.ret r)))
    (stop : ∀ n, φ (n + 1) (l.length : Int) = some (.go ())) (hl : l.length < FU) :
    φ FU 0 = some (if (∀ i x, l[i]? = some x → q i x) then .go () else .ret r) := by
  have key : ∀ n (i : Nat), i ≤ l.length → l.length - i < n → φ n (i : Int) = some (if (∀ j x, i ≤ j → l[j]? = some x → q j x) then .go () else .ret r) := by
    intro n
    induction n with
    | zero => intro i _ h; omega
    | succ n ih =>
      intro i hi hn
      by_cases h : i = l.length
      · subst h
        rw [stop, if_pos]
        intro j x hj hx
        have := (List.getElem?_eq_some_iff.1 hx).1
        omega
      · have hi' : i < l.length := by omega
        have hx : l[i]? = some l[i] := List.getElem?_eq_getElem hi'
        obtain ⟨h1, h2⟩ := step n i l[i] hx hi'
        by_cases hq : q i l[i]
        · rw [h1 hq]
          have := ih (i + 1) (by omega) (by omega)
          rw [show ((i : Int) + 1) = ((i + 1 : Nat) : Int) by simp, this]
          congr 2
          apply propext
          constructor
          · intro h3 j x hj hx2
            by_cases hji : j = i
            · subst hji
              rw [hx] at hx2
              exact Option.some.inj hx2 ▸ hq
            · exact h3 j x (by omega) hx2
          · intro h3 j x hj hx2
            exact h3 j x (by omega) hx2
        · rw [h2 hq, if_neg]
          intro h3
          exact hq (h3 i _ (Nat.le_refl _) hx)
  have := key FU 0 (by omega) (by omega)
  rw [show ((0 : Nat) : Int) = 0 from rfl] at this
  rw [this]
  congr 2
  apply propext
  exact ⟨fun h j x hx => h j x (Nat.zero_le _) hx, fun h j x _ hx => h j x hx⟩
theorem getI {l : List α} {i : Nat} {x : α} (h : l[i]? = some x) : idx l (i : Int) = some x := by rw [idx_nat, h]
end
end Go.V
set_option linter.unusedVariables false
set_option linter.unusedSimpArgs false
namespace Go.V
section
variable {nx : Int → List Int} {N : Nat}
end
section
variable {α β S O R : Type}
/-- A loop along a list. -/
theorem loop_rng {l : List α} {φ : Nat → Int → S → Option O} (I : Nat → S → Prop) (Post : O → Prop)
    (step : ∀ n (i : Nat) x s, l[i]? = some x → i < l.length → I i s → (∃ s', φ (n + 1) (i : Int) s = φ n ((i : Int) + 1) s' ∧ I (i + 1) s') ∨ (∃ o, φ (n + 1) (i : Int) s = some o ∧ Post o))
    (stop : ∀ n s, I l.length s → ∃ o, φ (n + 1) (l.length : Int) s = some o ∧ Post o) (hl : l.length < FU) : ∀ s, I 0 s → ∃ o, φ FU 0 s = some o ∧ Post o := by
  have key : ∀ n (i : Nat) s, i ≤ l.length → l.length - i < n → I i s → ∃ o, φ n (i : Int) s = some o ∧ Post o := by
    intro n
    induction n with
    | zero => intro i s _ h; omega
    | succ n ih =>
      intro i s hi hn hI
      by_cases h : i = l.length
      · subst h; exact stop n s hI
      · have hi' : i < l.length := by omega
        rcases step n i l[i] s (List.getElem?_eq_getElem hi') hi' hI with ⟨s', h1, h2⟩ | ⟨o, h1, h2⟩
        · obtain ⟨o, h3, h4⟩ := ih (i + 1) s' (by omega) (by omega) h2
          exact ⟨o, by rw [h1]; exact h3, h4⟩
        · exact ⟨o, h1, h2⟩
  intro s hI
  exact key FU 0 s (by omega) (by omega) hI
end
end Go.V
set_option linter.unusedVariables false
set_option linter.unusedSimpArgs false
namespace Go.V
section
variable {P : Program} {L : Env} {ms : List Asrt} {dst : Option Nat} {ty : TypeId} {pos : String} {after : Array Edge} {g : Option (Nat × Bool)} {d d' : D} {x y : Operand} {t t' : TypeId}
end
section
variable {P : Program} {L : Env} {ms : List Asrt} {o : Oper}
theorem OpT.own {msA msB : List Asrt} (h : OpT P o L ms (fun _ ms' => ms' = msA)) (hc : ∀ (H : PH) (fr : List Asrt) (w : World), HeapOk H (msA ++ fr) w → HeapOk H (msB ++ fr) w) : OpT P o L ms (fun _ ms' => ms' = msB) := by
  intro ro H fr a w hok henv next Q hn
  refine h ro H fr a w hok henv next Q ?_
  rintro v d ms' w' H' rfl hle hok' hc' hs
  exact hn v d _ w' H' rfl hle (hc H' fr w' hok') hc' hs
end
section
variable {L : Env} {ms : List Asrt}
end
end Go.V
set_option linter.unusedVariables false
set_option linter.unusedSimpArgs false
namespace Go.V
section
variable {α β : Type} [DecidableEq α]
end
/-- The entries of a map. -/
def MapOk {α β : Type} (fk : α → Value) (fv : β → D) (H : PH) : List (α × β) → List MapEntry → Prop
  | [], [] => True
  | (a, b) :: l, e :: es => e.key = fk a ∧ Conc H (fv b) e.val ∧ MapOk fk fv H l es
  | _, _ => False
theorem MapOk.mono {α β : Type} {fk : α → Value} {fv : β → D} {H H' : PH} (h : PH.le H H') : ∀ (l : List (α × β)) (es : List MapEntry), MapOk fk fv H l es → MapOk fk fv H' l es
  | [], [], _ => trivial
  | (a, b) :: l, e :: es, ⟨h1, h2, h3⟩ => ⟨h1, h2.mono h, MapOk.mono h l es h3⟩
  | [], _ :: _, x => x.elim
  | _ :: _, [], x => x.elim
section
variable {α β : Type} [DecidableEq α] {fk : α → Value} {fv : β → D} {H : PH}
end
section
variable {P : Program} {L : Env} {ms : List Asrt} {dst : Option Nat} {ty : TypeId} {pos : String} {after : Array Edge} {g : Option (Nat × Bool)} {d d' : D} {x y z : Operand} {t t' : TypeId} {α β : Type}
variable [DecidableEq α]
end
end Go.V
set_option linter.unusedVariables false
set_option linter.unusedSimpArgs false
namespace Go.V
/-- Nothing. -/
def em : Asrt where
  blocks := []
  ok := fun _ _ => True
  stable := fun _ _ _ _ _ _ _ => trivial
theorem HeapOk.em_in {H : PH} {as : List Asrt} {w : World} (h : HeapOk H as w) : HeapOk H (em :: as) w :=
  ⟨h.sub, h.nodup, fun A hA b hb => by
    rcases List.mem_cons.1 hA with rfl | hA
    · simp [em] at hb
    · exact h.lt A hA b hb, fun A hA => by
    rcases List.mem_cons.1 hA with rfl | hA
    · trivial
    · exact h.ok A hA⟩
theorem HeapOk.em_out {H : PH} {as : List Asrt} {w : World} (h : HeapOk H (em :: as) w) : HeapOk H as w := HeapOk.drop (as := [em]) h
theorem take_em {H : PH} {ms fr : List Asrt} {w : World} {k : Nat} {A : Asrt} (hk : ms[k]? = some A) (h : HeapOk H (ms ++ fr) w) : HeapOk H (A :: (ms.set k em ++ fr)) w := by
  have h1 := (h.perm (perm_fr hk)).em_in
  have h2 : HeapOk H (A :: (em :: (ms.eraseIdx k ++ fr))) w := h1.perm (List.Perm.swap ..)
  exact h2.perm (List.Perm.cons _ (perm_fr' hk))
theorem put_em {H : PH} {ms fr : List Asrt} {w : World} {k : Nat} {A : Asrt} (hk : ms[k]? = some em) (h : HeapOk H (A :: (ms ++ fr)) w) : HeapOk H (ms.set k A ++ fr) w := by
  have h1 : HeapOk H (A :: (em :: (ms.eraseIdx k ++ fr))) w := h.perm (List.Perm.cons _ (perm_fr hk))
  have h2 : HeapOk H (A :: (ms.eraseIdx k ++ fr)) w := (h1.perm (List.Perm.swap ..)).em_out
  exact h2.perm (perm_fr' hk)
def putL (ms : List Asrt) : List Nat → List Asrt → List Asrt
  | k :: ks, A :: As => putL (ms.set k A) ks As
  | _, _ => ms
def ems (ks : List Nat) : List Asrt := ks.map fun _ => em
theorem putL_get {k : Nat} : ∀ (ks : List Nat) (As ms : List Asrt), k ∉ ks → (putL ms ks As)[k]? = ms[k]?
  | [], _, _, _ => by simp [putL]
  | _ :: _, [], _, _ => by simp [putL]
  | j :: ks, A :: As, ms, h => by
    simp only [List.mem_cons, not_or] at h
    rw [putL, putL_get ks As _ h.2, List.getElem?_set_ne (fun e => h.1 e.symm)]
theorem putL_set {k : Nat} {B : Asrt} : ∀ (ks : List Nat) (As ms : List Asrt), k ∉ ks → (putL ms ks As).set k B = putL (ms.set k B) ks As
  | [], _, _, _ => by simp [putL]
  | _ :: _, [], _, _ => by simp [putL]
  | j :: ks, A :: As, ms, h => by
    simp only [List.mem_cons, not_or] at h
    rw [putL, putL_set ks As _ h.2, putL]
    rw [List.set_comm _ _ (fun e => h.1 e.symm)]
theorem take_all {H : PH} {w : World} : ∀ (ks : List Nat) (As ms fr : List Asrt), ks.Nodup → As.length = ks.length → (∀ i : Nat, i < ks.length → ∃ k A, ks[i]? = some k ∧ As[i]? = some A ∧ ms[k]? = some A) → HeapOk H (ms ++ fr) w → HeapOk H (As ++ (putL ms ks (ems ks) ++ fr)) w
  | [], [], ms, fr, _, _, _, h => by simpa [putL] using h
  | [], _ :: _, _, _, _, hl, _, _ => by simp at hl
  | k :: ks, [], _, _, _, hl, _, _ => by simp at hl
  | k :: ks, A :: As, ms, fr, hn, hl, hg, h => by
    rw [List.nodup_cons] at hn
    obtain ⟨k', A', e1, e2, e3⟩ := hg 0 (by simp)
    simp only [List.getElem?_cons_zero, Option.some.injEq] at e1 e2
    subst e1 e2
    have h1 := take_em e3 h
    have h2 : HeapOk H (ms.set k em ++ (A :: fr)) w := h1.perm (List.perm_middle.symm)
    have h3 := take_all ks As (ms.set k em) (A :: fr) hn.2 (by simpa using hl) (fun i hi => by
      obtain ⟨k', A', e1, e2, e4⟩ := hg (i + 1) (by simpa using hi)
      simp only [List.getElem?_cons_succ] at e1 e2
      refine ⟨k', A', e1, e2, ?_⟩
      have hne : k ≠ k' := fun e => hn.1 (by rw [e]; exact List.mem_of_getElem? e1)
      rw [List.getElem?_set_ne hne]
      exact e4) h2
    have e5 : putL ms (k :: ks) (ems (k :: ks)) = putL (ms.set k em) ks (ems ks) := rfl
    rw [e5]
    refine h3.perm ?_
    have p1 : (putL (ms.set k em) ks (ems ks) ++ (A :: fr)).Perm (A :: (putL (ms.set k em) ks (ems ks) ++ fr)) := List.perm_middle
    have p2 := (p1.append_left As).trans (List.perm_middle (a := A) (l₁ := As))
    simpa using p2
theorem put_all {H : PH} {w : World} : ∀ (ks : List Nat) (As ms fr : List Asrt), ks.Nodup → As.length = ks.length → (∀ k ∈ ks, k < ms.length) → HeapOk H (As ++ (putL ms ks (ems ks) ++ fr)) w → HeapOk H (putL ms ks As ++ fr) w
  | [], [], ms, fr, _, _, _, h => by simpa [putL] using h
  | [], _ :: _, _, _, _, hl, _, _ => by simp at hl
  | k :: ks, [], _, _, _, hl, _, _ => by simp at hl
  | k :: ks, A :: As, ms, fr, hn, hl, hb, h => by
    rw [List.nodup_cons] at hn
    have e5 : putL ms (k :: ks) (ems (k :: ks)) = putL (ms.set k em) ks (ems ks) := rfl
    rw [e5] at h
    have h1 : HeapOk H (As ++ (putL (ms.set k em) ks (ems ks) ++ (A :: fr))) w := by
      refine h.perm ?_
      have p1 : (putL (ms.set k em) ks (ems ks) ++ (A :: fr)).Perm (A :: (putL (ms.set k em) ks (ems ks) ++ fr)) := List.perm_middle
      have p2 := (p1.append_left As).trans (List.perm_middle (a := A) (l₁ := As))
      simpa using p2.symm
    have h2 := put_all ks As (ms.set k em) (A :: fr) hn.2 (by simpa using hl) (fun k' hk' => by simpa using hb k' (by simp [hk'])) h1
    have h3 : HeapOk H (A :: (putL (ms.set k em) ks As ++ fr)) w := h2.perm List.perm_middle
    have hk : (putL (ms.set k em) ks As)[k]? = some em := by
      rw [putL_get ks As _ hn.1, List.getElem?_set_self (hb k (by simp))]
    have h4 := put_em hk h3
    rw [putL_set ks As _ hn.1] at h4
    simpa [putL] using h4
def ownB : List Nat → List Nat → Nat → Bool
  | [], _, _ => true
  | k :: ks, seen, n => Nat.blt k n && !(seen.contains k) && ownB ks (k :: seen) n
theorem ownB_ok : ∀ (ks seen : List Nat) (n : Nat), ownB ks seen n = true → ks.Nodup ∧ (∀ k ∈ ks, k < n) ∧ ∀ k ∈ ks, k ∉ seen
  | [], _, _, _ => ⟨List.nodup_nil, by simp, by simp⟩
  | k :: ks, seen, n, h => by
    simp only [ownB, Bool.and_eq_true, Bool.not_eq_true'] at h
    obtain ⟨⟨h1, h2⟩, h3⟩ := h
    obtain ⟨a, b, c⟩ := ownB_ok ks (k :: seen) n h3
    refine ⟨List.nodup_cons.2 ⟨fun hm => c k hm (by simp), a⟩, fun j hj => ?_, fun j hj => ?_⟩
    · rcases List.mem_cons.1 hj with rfl | hj
      · exact Nat.le_of_ble_eq_true h1
      · exact b j hj
    · rcases List.mem_cons.1 hj with rfl | hj
      · intro hm
        rw [List.contains_iff_mem.2 hm] at h2; cases h2
      · exact fun hm => c j hj (by simp [hm])
def getL (ms : List Asrt) : List Nat → List Asrt → Prop
  | [], [] => True
  | k :: ks, A :: As => ms[k]? = some A ∧ getL ms ks As
  | _, _ => False
theorem getL_ok {ms : List Asrt} : ∀ (ks : List Nat) (As : List Asrt), getL ms ks As → As.length = ks.length ∧ ∀ i : Nat, i < ks.length → ∃ k A, ks[i]? = some k ∧ As[i]? = some A ∧ ms[k]? = some A
  | [], [], _ => ⟨rfl, fun i hi => by simp at hi⟩
  | k :: ks, A :: As, ⟨h1, h2⟩ => by
    obtain ⟨a, b⟩ := getL_ok ks As h2
    refine ⟨by simp [a], fun i hi => ?_⟩
    cases i with
    | zero => exact ⟨k, A, rfl, rfl, h1⟩
    | succ i => exact b i (by simpa using hi)
  | [], _ :: _, h => h.elim
  | _ :: _, [], h => h.elim
section
variable {P : Program} {L : Env} {ms : List Asrt} {dst : Option Nat} {ty : TypeId} {pos : String} {after : Array Edge} {g : Option (Nat × Bool)} {d d' : D} {x y z : Operand} {t t' : TypeId} {R : D → List Asrt → Prop}
theorem o_call_own {f : FuncId} {args : List Operand} {ats : Array TypeId} {ds : List D} {As : List Asrt} (ks : List Nat) (hc : ∀ args w, (callFunc f args).run P w = .ok (.enter f args) w) (hev : evL L args = some ds) (hb : ownB ks [] ms.length = true) (hg : getL ms ks As) (hf : Fn P f ds As R) (hl : ∀ d ms', R d ms' → ms'.length = ks.length) :
    OpT P ⟨dst, .call ⟨.value (.func f), args.toArray, ats⟩, ty, pos, after, g⟩ L ms (fun d ms' => ∃ ms₁, R d ms₁ ∧ ms' = putL ms ks ms₁) := by
  obtain ⟨b1, b2, _⟩ := ownB_ok ks [] _ hb
  obtain ⟨g1, g2⟩ := getL_ok ks As hg
  intro ro H fr a w hok henv next Q hn
  have hok' := take_all ks As ms fr b1 g1 g2 hok
  have := o_call (P := P) (L := L) (ms := As ++ putL ms ks (ems ks)) (dst := dst) (ty := ty) (pos := pos) (after := after) (g := g) (ats := ats) (ms₁ := As) (rest := putL ms ks (ems ks)) hc hev (List.Perm.refl _) hf
  refine this ro H fr a w (by rw [List.append_assoc]; exact hok') henv next Q ?_
  rintro v d ms' w' H' ⟨ms₁, hR, rfl⟩ hle hok2 hc2 hs
  rw [List.append_assoc] at hok2
  exact hn v d _ w' H' ⟨ms₁, hR, rfl⟩ hle (put_all ks ms₁ ms fr b1 (hl d ms₁ hR) b2 hok2) hc2 hs
end
theorem permA {ms As rest : List Asrt} {A : Asrt} (k : Nat) (h : ms[k]? = some A) (p : (ms.eraseIdx k).Perm (rest ++ As)) : ms.Perm (rest ++ (A :: As)) :=
  (perm_at ms k A h).trans ((List.Perm.cons A p).trans List.perm_middle.symm)
theorem permN {ms : List Asrt} : ms.Perm (ms ++ []) := by simp
end Go.V
set_option linter.unusedVariables false
set_option linter.unusedSimpArgs false
namespace Go.V
section
variable {Γ : Ctx} {P : Program} {L : Env} {ms : List Asrt} {K : KT} {l : List Oper}
end
theorem getL_n {ms : List Asrt} : getL ms [] [] := trivial
theorem getL_c {ms As : List Asrt} {A : Asrt} {k : Nat} {ks : List Nat} (h : ms[k]? = some A) (t : getL ms ks As) : getL ms (k :: ks) (A :: As) := ⟨h, t⟩
end Go.V
set_option linter.unusedVariables false
set_option linter.unusedSimpArgs false
namespace Go.V
open Go.ChangeShapes Go.WideShapes Go.ChangeAt Go.RowKit
/-- What is read at a type, none of whose parts weighs too much, stands for a datum that Q holds of. -/
def OpensW (P : Program) (t : TypeId) (Q : D → Prop) : Prop :=
  ∀ (H : Type) (enc : TypeId × Value → H) (w : World) (sp : Nat → Bool) (held : Bool) (fuel : Nat) (cs : List Value) (x : DataW H × List MemPlace), DataW.trod enc P w 0 sp held fuel t cs = some x → (∀ n ∈ x.1.weights P t, n ≤ 140737488351232) → ∃ d, Q d ∧ Enc (Hof w) d cs
section
variable {P : Program} {t e : TypeId} {Q Q' : D → Prop}
theorem OpensW.imp (h : OpensW P t Q) (k : ∀ d, Q d → Q' d) : OpensW P t Q' := fun H enc w sp held fuel cs x hx hw => let ⟨d, a, b⟩ := h H enc w sp held fuel cs x hx hw; ⟨d, k d a, b⟩
theorem OpensD.w (h : OpensD P t Q) : OpensW P t Q := fun H enc w sp held fuel cs x hx _ => h H enc w sp held fuel cs x hx
end
end Go.V
set_option linter.unusedVariables false
set_option linter.unusedSimpArgs false
namespace Go.V
open Go.Conc (solo rcase scase)
def chn (c cap : Nat) {α : Type} (f : α → D) (l : List α) : Asrt where
  blocks := [c]
  ok := fun H h => ∃ (s r : Nat) (vs : List Value), h c = some (.chan cap vs.toArray false s r false) ∧ ConcL H (l.map f) vs
  stable := fun H H' h h' e hle ⟨s, r, vs, h1, h2⟩ => ⟨s, r, vs, by rw [(e c (by simp)).2]; exact h1, ConcL.mono hle _ vs h2⟩
section
variable {P : Program} {L : Env} {ms : List Asrt} {dst : Option Nat} {ty : TypeId} {pos : String} {after : Array Edge} {g : Option (Nat × Bool)} {d : D} {x y : Operand} {t e : TypeId} {α : Type} {f : α → D} {c cap : Nat} {l : List α}
theorem chn_at {H : PH} {as : List Asrt} {w : World} {k : Nat} (hok : HeapOk H as w) (hk : as[k]? = some (chn c cap f l)) : ∃ (s r : Nat) (vs : List Value), w.heap[c]? = some (.chan cap vs.toArray false s r false) ∧ ConcL H (l.map f) vs ∧ c < w.heap.size := by
  have hm := List.mem_of_getElem? hk
  obtain ⟨s, r, vs, h1, h2⟩ := hok.ok _ hm
  exact ⟨s, r, vs, h1, h2, hok.lt _ hm c (by simp [chn])⟩
theorem o_makeChan {dir : ChanDir} {i : TypeInfo} {m : Int} (ht : P.underlying t = some (.chan dir e)) (hi : P.info? e = some i) (hx : Env.ev L x = some (.v (.int .i64 m))) (h0 : 0 ≤ m) (h63 : m ≤ 9223372036854775807) (hb : (i.bytes : Int) * m ≤ 281474976710544) :
    OpT P ⟨dst, .makeChan t x, ty, pos, after, g⟩ L ms (fun d' ms' => ∃ c, d' = .v (.chan (some c)) ∧ ms' = chn c m.toNat f ([] : List α) :: ms) := by
  refine .val (by simp) fun H fr a w hok henv => ?_
  obtain ⟨n, rfl⟩ := Int.eq_ofNat_of_zero_le h0
  refine ⟨.chan (some w.heap.size), _, _, w.alloc (.chan n #[] false 0 0 false), H, ?_, ⟨w.heap.size, rfl, rfl⟩, PH.le_refl H, ?_, conc_v.2 rfl, sameOut_alloc _ _⟩
  · simp only [execOp, ev_v henv hx, Sem.run_bind, Sem.run_pure, Result.andThen_ok, Go.Conc.run_makeChan ht hi .i64 n h63 hb]
  · rw [Int.toNat_natCast]
    exact hok.own (A := chn w.heap.size n f ([] : List α)) rfl ⟨0, 0, [], heap_alloc_new _ _, by simp [ConcL]⟩
theorem o_len_chn {dir : ChanDir} (k : Nat) (ht : P.underlying t = some (.chan dir e)) (hx : Env.ev L x = some (.v (.chan (some c)))) (hk : ms[k]? = some (chn c cap f l)) :
    OpP P ⟨dst, .call ⟨.builtin .len, #[x], #[t]⟩, ty, pos, after, g⟩ L ms (.v (.int .i64 l.length)) := by
  refine .val (by simp) fun H fr a w hok henv => ?_
  obtain ⟨s, r, vs, h1, h2, h3⟩ := chn_at hok (getElem?_app hk)
  refine ⟨.int .i64 l.length, _, _, w, H, ?_, ⟨rfl, rfl⟩, PH.le_refl H, hok, conc_v.2 rfl, SameOut.refl w⟩
  have hl : vs.length = l.length := by rw [ConcL.length _ _ h2]; simp
  have := Go.Conc.run_len_chan (P := P) t ty ht h1
  simp only [execOp, resolve, invoke, builtin, List.map_toArray, List.map_cons, List.map_nil, ev_v henv hx]
  simp only [Sem.run_bind, Sem.run_pure, Result.andThen_ok, this]
  simp [goInt, hl]
theorem o_cap_chn {dir : ChanDir} (k : Nat) (ht : P.underlying t = some (.chan dir e)) (hx : Env.ev L x = some (.v (.chan (some c)))) (hk : ms[k]? = some (chn c cap f l)) :
    OpP P ⟨dst, .call ⟨.builtin .cap, #[x], #[t]⟩, ty, pos, after, g⟩ L ms (.v (.int .i64 cap)) := by
  refine .val (by simp) fun H fr a w hok henv => ?_
  obtain ⟨s, r, vs, h1, h2, h3⟩ := chn_at hok (getElem?_app hk)
  refine ⟨.int .i64 cap, _, _, w, H, ?_, ⟨rfl, rfl⟩, PH.le_refl H, hok, conc_v.2 rfl, SameOut.refl w⟩
  have := Go.Conc.run_cap_chan (P := P) t ty ht h1
  simp only [execOp, resolve, invoke, builtin, List.map_toArray, List.map_cons, List.map_nil, ev_v henv hx]
  simp only [Sem.run_bind, Sem.run_pure, Result.andThen_ok, this]
  simp [goInt]
theorem chn_upd {H : PH} {as : List Asrt} {w : World} {l' : List α} {vs : List Value} {s r : Nat} (hok : HeapOk H (chn c cap f l :: as) w) (e : ConcL H (l'.map f) vs) : HeapOk H (chn c cap f l' :: as) (w.setChan c cap vs.toArray false s r false) := by
  obtain ⟨s0, r0, vs0, h1, h2, h3⟩ := chn_at (k := 0) hok rfl
  refine hok.upd rfl (by simp [World.setChan]) ?_ (fun _ _ _ _ => rfl) (PH.le_refl H) ?_ ?_
  · intro b' _ hn
    have : c ≠ b' := fun e => hn (by simp [chn, e])
    simp only [World.setChan]
    rw [Array.getElem?_setIfInBounds_ne this]
  · intro b' o v hb hv
    rcases hb with hb | hb
    · simp [chn] at hb; subst hb
      have := hok.sub _ _ _ hv
      simp [World.cell?, h1] at this
    · rw [hok.none_new _ _ hb] at hv; cases hv
  · exact ⟨s, r, vs, Go.Conc.heap_setChan _ _ _ _ _ _ _ _ h3, e⟩
/-- A select, carried out where (L, ms) holds. -/
def SelT (P : Program) (o : Oper) (L : Env) (ms : List Asrt) (R : D → List Asrt → Prop) : Prop :=
  ∀ (ro : Option Nat) (H : PH) (fr : List Asrt) (a : Act) (w : World), HeapOk H (ms ++ fr) w → EnvOk H L a.tmps →
    ∃ v d ms' w' H', R d ms' ∧ PH.le H H' ∧ HeapOk H' (ms' ++ fr) w' ∧ Conc H' d v ∧ SameOut w w' ∧
      ∀ (b : Frame) (ops : Array Oper) (rest : List Nat) (k : List Item) (cs : List Frame), b.roundOf = ro → ops[0]? = some o →
        step P (lone (b.atR a (.inRegion ops (0 :: rest) :: k)) cs w) = .next (lone (b.atR (a.put o.dst v) (.inRegion ops rest :: k)) cs w')
theorem g_sel {Γ : Ctx} {K : KT} {R : D → List Asrt → Prop} {id i : Nat} {o : Oper} {rest : List Oper} (hd : o.dst = some i) (hi : Nat.blt i Γ.N = true) (h : SelT P o L ms R) (hab : ∀ w ρ, o.about P w ρ = none)
    (k : ∀ d ms', R d ms' → GO Γ P (o :: rest).toArray rest ((i, d) :: L) ms' K) : G Γ P (.region id (o :: rest).toArray false) L ms K := by
  intro a w m b kk cs hro hb hr
  obtain ⟨H, marks, hle, hok, henv, hdf⟩ := m.ex
  obtain ⟨v, d, ms', w', H', hR, hl, hok', hc, hs, hstep⟩ := h Γ.round H (marks.map markA ++ Γ.fr) a w hok henv
  have m' := m.next (ms' := ms') (PH.le_trans hle hl) hok' (henv.mono hl) hdf hi hc hs
  have hgo := k d ms' hR _ _ m'
  have e := wpOpsIn_eq_wpListIn (F := FR Γ.round) (n := 0) (P := P) (ops := (o :: rest).toArray) (Q := Post Γ K) rest 1 (fun j => by simp [Nat.add_comm 1 j])
  rw [← e] at hgo
  obtain ⟨e', a', w'', hq, harr⟩ := wp_opsIn _ _ _ hgo b kk cs hro hb hr
  have h0 : (o :: rest).toArray[0]? = some o := by simp
  have st := hstep b (o :: rest).toArray (List.range' 1 rest.length) kk cs hro h0
  rw [hd] at st
  have hrg : List.range (o :: rest).toArray.size = 0 :: List.range' 1 rest.length := by
    rw [List.range_eq_range']; simp [List.range'_succ]
  have sr := stepR_region (P := P) (b := b) (a := a) (k := kk) (cs := cs) (w := w) (id := id) (ops := (o :: rest).toArray)
  rw [hrg] at sr
  exact ⟨e', a', w'', hq, .of_steps (.head (fenced_calm hb hr rfl) sr (.one (fenced_oper hb hr h0 (fun f hf => by rw [hab] at hf; cases hf)) st)) harr⟩
/-- What an operation that communicates comes to, of the machine's own making. -/
theorem comm_step {o : Oper} {b : Frame} {a : Act} {ops : Array Oper} {rest : List Nat} {k : List Item} {cs : List Frame} {w : World} {cases : Array CommCase} (ho : ops[0]? = some o) (hg : o.guard = none) (hnd : ∀ c, o.op ≠ .defer c)
    (hrun : (execOp a.eval o).run P w = .ok (.comm cases false .select) w) : ∃ es, stepG P true (Go.Conc.G (b.atR a (.inRegion ops (0 :: rest) :: k)) cs) w = .comm (Go.Conc.G (b.atR a (.inRegion ops (0 :: rest) :: k)) cs) cases false .select w es := by
  have hg2 := stepGR_op (P := P) (b := b) (a := a) (k := k) (cs := cs) (w := w) (ops := ops) (rest := rest) ho (by simp [Region.wanted, hg])
  rw [Oper.semAt_eq _ _ _ hnd] at hg2
  unfold Go.Conc.G
  rw [hg2]
  simp only [stepG.apply, Sem.runT_eq, hrun, if_true, GStep.after]
  exact ⟨_, rfl⟩
theorem fin_at {o : Oper} {b : Frame} {a : Act} {ops : Array Oper} {rest : List Nat} {k : List Item} (ho : ops[0]? = some o) (v : Value) : (b.atR a (.inRegion ops (0 :: rest) :: k)).finish v = b.atR (a.put o.dst v) (.inRegion ops rest :: k) := by
  rw [Frame.finish_atR, ho]; rfl
theorem conc_tup {H : PH} {ds : List D} {us : List Value} (h : ConcL H ds us) : Conc H (.tup ds) (.tuple us.toArray) := ⟨[.tuple us.toArray], by simp only [Enc]; exact ⟨us, rfl, h⟩, by simp [D.val]⟩
theorem concL_cons {H : PH} {d : D} {ds : List D} {u : Value} {us : List Value} (h : Conc H d u) (hs : ConcL H ds us) : ConcL H (d :: ds) (u :: us) := by
  simp only [ConcL]; exact ⟨u, us, rfl, h, hs⟩
theorem concL_nil {H : PH} : ConcL H [] [] := by simp [ConcL]
/-- A receive, or the default. -/
theorem s_recv {z : Value} (k : Nat) (hz : ∀ w, (zeroValue e).run P w = .ok z w) (hx : Env.ev L x = some (.v (.chan (some c)))) (hk : ms[k]? = some (chn c cap f l)) :
    SelT P ⟨dst, .select #[⟨x, none, e⟩] false, ty, pos, after, none⟩ L ms (fun d' ms' => (l = [] ∧ d' = .tup [.i64 (-1), .bool false, .v z] ∧ ms' = ms) ∨ ∃ q r, l = q :: r ∧ d' = .tup [.i64 0, .bool true, f q] ∧ ms' = ms.set k (chn c cap f r)) := by
  intro ro H fr a w hok henv
  obtain ⟨s, r, vs, h1, h2, h3⟩ := chn_at hok (getElem?_app hk)
  have hrun : (execOp a.eval (⟨dst, .select #[⟨x, none, e⟩] false, ty, pos, after, none⟩ : Oper)).run P w = .ok (.comm #[rcase c z] false .select) w := by
    have hxv := ev_v henv hx
    simp [execOp, hz, hxv, rcase]
  cases l with
  | nil =>
    have hvs : vs = [] := by simpa [ConcL] using h2
    subst hvs
    refine ⟨.tuple #[goInt (-1), .bool false, z], .tup [.i64 (-1), .bool false, .v z], ms, w, H, .inl ⟨rfl, rfl, rfl⟩, PH.le_refl H, hok, conc_tup (concL_cons (conc_v.2 rfl) (concL_cons (conc_v.2 rfl) (concL_cons (conc_v.2 rfl) concL_nil))), SameOut.refl w, ?_⟩
    intro b ops rest kk cs hro ho
    obtain ⟨es, hg⟩ := comm_step (P := P) (b := b) (rest := rest) (k := kk) (cs := cs) ho rfl (by simp) hrun
    have := Go.Conc.step_lone_select_default hg h1
    rw [fin_at ho] at this
    exact this
  | cons q l =>
    simp only [List.map_cons, ConcL] at h2
    obtain ⟨u, us, rfl, hq, hr⟩ := h2
    have p1 : (ms ++ fr).Perm (chn c cap f (q :: l) :: (ms.eraseIdx k ++ fr)) := by
      rw [← List.cons_append]; exact (perm_at ms k _ hk).append_right fr
    have p2 : (chn c cap f l :: (ms.eraseIdx k ++ fr)).Perm (ms.set k (chn c cap f l) ++ fr) := by
      rw [← List.cons_append]; exact (perm_set ms k _ _ hk).append_right fr
    refine ⟨.tuple #[goInt 0, .bool true, u], .tup [.i64 0, .bool true, f q], _, w.setChan c cap us.toArray false s (r + 1) false, H, .inr ⟨q, l, rfl, rfl, rfl⟩, PH.le_refl H, (chn_upd (hok.perm p1) hr).perm p2,
      conc_tup (concL_cons (conc_v.2 rfl) (concL_cons (conc_v.2 rfl) (concL_cons hq concL_nil))), ⟨rfl, rfl, rfl, by simp [World.setChan]⟩, ?_⟩
    intro b ops rest kk cs hro ho
    obtain ⟨es, hg⟩ := comm_step (P := P) (b := b) (rest := rest) (k := kk) (cs := cs) ho rfl (by simp) hrun
    have := Go.Conc.step_lone_select_recv_buf hg h1 (by simp)
    rw [fin_at ho] at this
    rw [Go.Conc.lone_eq_solo, Go.Conc.lone_eq_solo]; simpa using this
/-- A send, or the default. -/
theorem s_send {z : Value} {q : α} (k : Nat) (hz : ∀ w, (zeroValue e).run P w = .ok z w) (hx : Env.ev L x = some (.v (.chan (some c)))) (hy : Env.ev L y = some (f q)) (hk : ms[k]? = some (chn c cap f l)) :
    SelT P ⟨dst, .select #[⟨x, some y, e⟩] false, ty, pos, after, none⟩ L ms (fun d' ms' => (cap ≤ l.length ∧ d' = .tup [.i64 (-1), .bool false] ∧ ms' = ms) ∨ (l.length < cap ∧ d' = .tup [.i64 0, .bool false] ∧ ms' = ms.set k (chn c cap f (l ++ [q])))) := by
  intro ro H fr a w hok henv
  obtain ⟨s, r, vs, h1, h2, h3⟩ := chn_at hok (getElem?_app hk)
  have hl : vs.length = l.length := by rw [ConcL.length _ _ h2]; simp
  have hq := henv.ev hy
  have hrun : (execOp a.eval (⟨dst, .select #[⟨x, some y, e⟩] false, ty, pos, after, none⟩ : Oper)).run P w = .ok (.comm #[scase c (a.eval y) z] false .select) w := by
    have hxv := ev_v henv hx
    simp [execOp, hz, hxv, scase]
  by_cases hc : cap ≤ l.length
  · refine ⟨.tuple #[goInt (-1), .bool false], .tup [.i64 (-1), .bool false], ms, w, H, .inl ⟨hc, rfl, rfl⟩, PH.le_refl H, hok, conc_tup (concL_cons (conc_v.2 rfl) (concL_cons (conc_v.2 rfl) concL_nil)), SameOut.refl w, ?_⟩
    intro b ops rest kk cs hro ho
    obtain ⟨es, hg⟩ := comm_step (P := P) (b := b) (rest := rest) (k := kk) (cs := cs) ho rfl (by simp) hrun
    have := Go.Conc.step_lone_select_send_full hg h1 (by simp; omega)
    rw [fin_at ho] at this
    exact this
  · have p1 : (ms ++ fr).Perm (chn c cap f l :: (ms.eraseIdx k ++ fr)) := by
      rw [← List.cons_append]; exact (perm_at ms k _ hk).append_right fr
    have p2 : (chn c cap f (l ++ [q]) :: (ms.eraseIdx k ++ fr)).Perm (ms.set k (chn c cap f (l ++ [q])) ++ fr) := by
      rw [← List.cons_append]; exact (perm_set ms k _ _ hk).append_right fr
    have happ : ∀ (ds : List D) (us : List Value), ConcL H ds us → ConcL H (ds ++ [f q]) (us ++ [a.eval y]) := by
      intro ds
      induction ds with
      | nil => intro us h; simp only [ConcL] at h; subst h; exact concL_cons hq concL_nil
      | cons d ds ih =>
        intro us h
        simp only [ConcL] at h
        obtain ⟨u, us', rfl, h4, h5⟩ := h
        exact concL_cons h4 (ih _ h5)
    refine ⟨.tuple #[goInt 0, .bool false], .tup [.i64 0, .bool false], _, w.setChan c cap (vs ++ [a.eval y]).toArray false (s + 1) r false, H, .inr ⟨by omega, rfl, rfl⟩, PH.le_refl H, (chn_upd (hok.perm p1) (by rw [List.map_append]; exact happ _ _ h2)).perm p2,
      conc_tup (concL_cons (conc_v.2 rfl) (concL_cons (conc_v.2 rfl) concL_nil)), ⟨rfl, rfl, rfl, by simp [World.setChan]⟩, ?_⟩
    intro b ops rest kk cs hro ho
    obtain ⟨es, hg⟩ := comm_step (P := P) (b := b) (rest := rest) (k := kk) (cs := cs) ho rfl (by simp) hrun
    have := Go.Conc.step_lone_select_send_room hg h1 (by simp; omega)
    rw [fin_at ho] at this
    rw [Go.Conc.lone_eq_solo, Go.Conc.lone_eq_solo]; simpa using this
/-- A select whose outcome is known. -/
theorem g_selp {Γ : Ctx} {K : KT} {id i : Nat} {o : Oper} {rest : List Oper} {ms' : List Asrt} (hd : o.dst = some i) (hi : Nat.blt i Γ.N = true) (h : SelT P o L ms (fun d' m' => d' = d ∧ m' = ms')) (hab : ∀ w ρ, o.about P w ρ = none)
    (k : GO Γ P (o :: rest).toArray rest ((i, d) :: L) ms' K) : G Γ P (.region id (o :: rest).toArray false) L ms K :=
  g_sel hd hi h hab (by rintro _ _ ⟨rfl, rfl⟩; exact k)
theorem SelT.mono {o : Oper} {R R' : D → List Asrt → Prop} (h : SelT P o L ms R) (hr : ∀ d ms', R d ms' → R' d ms') : SelT P o L ms R' := by
  intro ro H fr a w hok henv
  obtain ⟨v, d, ms', w', H', hR, rest⟩ := h ro H fr a w hok henv
  exact ⟨v, d, ms', w', H', hr _ _ hR, rest⟩
theorem s_recv_none {z : Value} (k : Nat) (hz : ∀ w, (zeroValue e).run P w = .ok z w) (hx : Env.ev L x = some (.v (.chan (some c)))) (hk : ms[k]? = some (chn c cap f l)) (hl : l.isEmpty = true) :
    SelT P ⟨dst, .select #[⟨x, none, e⟩] false, ty, pos, after, none⟩ L ms (fun d' ms' => d' = .tup [.i64 (-1), .bool false, .v z] ∧ ms' = ms) :=
  (s_recv k hz hx hk).mono fun d ms' h => by
    rcases h with ⟨_, h1, h2⟩ | ⟨q, r, h1, _⟩
    · exact ⟨h1, h2⟩
    · subst h1; cases hl
theorem s_recv_some {z : Value} {q : α} {r : List α} (k : Nat) (hz : ∀ w, (zeroValue e).run P w = .ok z w) (hx : Env.ev L x = some (.v (.chan (some c)))) (hk : ms[k]? = some (chn c cap f l)) (h1 : idx l 0 = some q) (h2 : sli l 1 (l.length : Int) = some r) :
    SelT P ⟨dst, .select #[⟨x, none, e⟩] false, ty, pos, after, none⟩ L ms (fun d' ms' => d' = .tup [.i64 0, .bool true, f q] ∧ ms' = ms.set k (chn c cap f r)) :=
  (s_recv k hz hx hk).mono fun d ms' h => by
    rcases h with ⟨h3, _⟩ | ⟨q', r', h3, h4, h5⟩
    · subst h3; simp [idx] at h1
    · subst h3
      have e1 : q' = q := by simpa [idx] using h1
      have e2 : r' = r := by
        obtain ⟨_, _, _, h6⟩ := sli_some h2
        rw [← h6]; simp
      subst e1 e2
      exact ⟨h4, h5⟩
theorem s_send_full {z : Value} {q : α} (k : Nat) (hz : ∀ w, (zeroValue e).run P w = .ok z w) (hx : Env.ev L x = some (.v (.chan (some c)))) (hy : Env.ev L y = some (f q)) (hk : ms[k]? = some (chn c cap f l)) (hl : decide (cap ≤ l.length) = true) :
    SelT P ⟨dst, .select #[⟨x, some y, e⟩] false, ty, pos, after, none⟩ L ms (fun d' ms' => d' = .tup [.i64 (-1), .bool false] ∧ ms' = ms) :=
  (s_send k hz hx hy hk).mono fun d ms' h => by
    rw [decide_eq_true_eq] at hl
    rcases h with ⟨_, h1, h2⟩ | ⟨h1, _⟩
    · exact ⟨h1, h2⟩
    · omega
theorem s_send_room {z : Value} {q : α} (k : Nat) (hz : ∀ w, (zeroValue e).run P w = .ok z w) (hx : Env.ev L x = some (.v (.chan (some c)))) (hy : Env.ev L y = some (f q)) (hk : ms[k]? = some (chn c cap f l)) (hl : decide (cap ≤ l.length) = false) :
    SelT P ⟨dst, .select #[⟨x, some y, e⟩] false, ty, pos, after, none⟩ L ms (fun d' ms' => d' = .tup [.i64 0, .bool false] ∧ ms' = ms.set k (chn c cap f (l ++ [q]))) :=
  (s_send k hz hx hy hk).mono fun d ms' h => by
    rw [decide_eq_false_iff_not] at hl
    rcases h with ⟨h1, _⟩ | ⟨_, h1, h2⟩
    · omega
    · exact ⟨h1, h2⟩
end
end Go.V
