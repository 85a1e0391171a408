/- Part 2 of the proof: a program logic, what the functions compute, and what these answer; no condition. -/
import Derived.Test.Ytafphfokopkhdaap1
import Derived.Laws.RangeString
import Derived.Lib.Bytealg
import Derived.Sort.OwnSortedInts
import Derived.Lib.SlicesCompact
import Derived.Conc.LoneSelectN
import Derived.Conc.LoneSelect
import Derived.Test.YtafphfokopkhdaaProg
set_option linter.unusedVariables false
set_option linter.unusedSimpArgs false
namespace Go.V
section
variable {α β S O R : Type}
open Classical in
/-- A loop that ends at the first that is not so. -/
theorem loop_all {l : List α} {φ : Nat → Int → Option (Out R Unit)} (r : R) (q : Nat → α → Prop)
    (step : ∀ n (i : Nat) x, l[i]? = some x → i < l.length → (q i x → φ (n + 1) (i : Int) = φ n ((i : Int) + 1)) ∧ (¬ q i x → φ (n + 1) (i : Int) = some (.ret r)))
    (stop : ∀ n, φ (n + 1) (l.length : Int) = some (.go ())) (hl : l.length < FU) :
    φ FU 0 = some (if (∀ i x, l[i]? = some x → q i x) then .go () else .ret r) := by
  have key : ∀ n (i : Nat), i ≤ l.length → l.length - i < n → φ n (i : Int) = some (if (∀ j x, i ≤ j → l[j]? = some x → q j x) then .go () else .ret r) := by
    intro n
    induction n with
    | zero => intro i _ h; omega
    | succ n ih =>
      intro i hi hn
      by_cases h : i = l.length
      · subst h
        rw [stop, if_pos]
        intro j x hj hx
        have := (List.getElem?_eq_some_iff.1 hx).1
        omega
      · have hi' : i < l.length := by omega
        have hx : l[i]? = some l[i] := List.getElem?_eq_getElem hi'
        obtain ⟨h1, h2⟩ := step n i l[i] hx hi'
        by_cases hq : q i l[i]
        · rw [h1 hq]
          have := ih (i + 1) (by omega) (by omega)
          rw [show ((i : Int) + 1) = ((i + 1 : Nat) : Int) by simp, this]
          congr 2
          apply propext
          constructor
          · intro h3 j x hj hx2
            by_cases hji : j = i
            · subst hji
              rw [hx] at hx2
              exact Option.some.inj hx2 ▸ hq
            · exact h3 j x (by omega) hx2
          · intro h3 j x hj hx2
            exact h3 j x (by omega) hx2
        · rw [h2 hq, if_neg]
          intro h3
          exact hq (h3 i _ (Nat.le_refl _) hx)
  have := key FU 0 (by omega) (by omega)
  rw [show ((0 : Nat) : Int) = 0 from rfl] at this
  rw [this]
  congr 2
  apply propext
  exact ⟨fun h j x hx => h j x (Nat.zero_le _) hx, fun h j x _ hx => h j x hx⟩
theorem getI {l : List α} {i : Nat} {x : α} (h : l[i]? = some x) : idx l (i : Int) = some x := by rw [idx_nat, h]
end
end Go.V
set_option linter.unusedVariables false
set_option linter.unusedSimpArgs false
namespace Go.V
section
variable {nx : Int → List Int} {N : Nat}
end
section
variable {α β S O R : Type}
/-- A loop along a list. -/
theorem loop_rng {l : List α} {φ : Nat → Int → S → Option O} (I : Nat → S → Prop) (Post : O → Prop)
    (step : ∀ n (i : Nat) x s, l[i]? = some x → i < l.length → I i s → (∃ s', φ (n + 1) (i : Int) s = φ n ((i : Int) + 1) s' ∧ I (i + 1) s') ∨ (∃ o, φ (n + 1) (i : Int) s = some o ∧ Post o))
    (stop : ∀ n s, I l.length s → ∃ o, φ (n + 1) (l.length : Int) s = some o ∧ Post o) (hl : l.length < FU) : ∀ s, I 0 s → ∃ o, φ FU 0 s = some o ∧ Post o := by
  have key : ∀ n (i : Nat) s, i ≤ l.length → l.length - i < n → I i s → ∃ o, φ n (i : Int) s = some o ∧ Post o := by
    intro n
    induction n with
    | zero => intro i s _ h; omega
    | succ n ih =>
      intro i s hi hn hI
      by_cases h : i = l.length
      · subst h; exact stop n s hI
      · have hi' : i < l.length := by omega
        rcases step n i l[i] s (List.getElem?_eq_getElem hi') hi' hI with ⟨s', h1, h2⟩ | ⟨o, h1, h2⟩
        · obtain ⟨o, h3, h4⟩ := ih (i + 1) s' (by omega) (by omega) h2
          exact ⟨o, by rw [h1]; exact h3, h4⟩
        · exact ⟨o, h1, h2⟩
  intro s hI
  exact key FU 0 s (by omega) (by omega) hI
end
end Go.V
set_option linter.unusedVariables false
set_option linter.unusedSimpArgs false
namespace Go.V
section
variable {P : Program} {L : Env} {ms : List Asrt} {dst : Option Nat} {ty : TypeId} {pos : String} {after : Array Edge} {g : Option (Nat × Bool)} {d d' : D} {x y : Operand} {t t' : TypeId}
end
section
variable {P : Program} {L : Env} {ms : List Asrt} {o : Oper}
theorem OpT.own {msA msB : List Asrt} (h : OpT P o L ms (fun _ ms' => ms' = msA)) (hc : ∀ (H : PH) (fr : List Asrt) (w : World), HeapOk H (msA ++ fr) w → HeapOk H (msB ++ fr) w) : OpT P o L ms (fun _ ms' => ms' = msB) := by
  intro ro H fr a w hok henv next Q hn
  refine h ro H fr a w hok henv next Q ?_
  rintro v d ms' w' H' rfl hle hok' hc' hs
  exact hn v d _ w' H' rfl hle (hc H' fr w' hok') hc' hs
end
section
variable {L : Env} {ms : List Asrt}
end
end Go.V
set_option linter.unusedVariables false
set_option linter.unusedSimpArgs false
namespace Go.V
section
variable {α β : Type} [DecidableEq α]
end
/-- The entries of a map. -/
def MapOk {α β : Type} (fk : α → Value) (fv : β → D) (H : PH) : List (α × β) → List MapEntry → Prop
  | [], [] => True
  | (a, b) :: l, e :: es => e.key = fk a ∧ Conc H (fv b) e.val ∧ MapOk fk fv H l es
  | _, _ => False
theorem MapOk.mono {α β : Type} {fk : α → Value} {fv : β → D} {H H' : PH} (h : PH.le H H') : ∀ (l : List (α × β)) (es : List MapEntry), MapOk fk fv H l es → MapOk fk fv H' l es
  | [], [], _ => trivial
  | (a, b) :: l, e :: es, ⟨h1, h2, h3⟩ => ⟨h1, h2.mono h, MapOk.mono h l es h3⟩
  | [], _ :: _, x => x.elim
  | _ :: _, [], x => x.elim
section
variable {α β : Type} [DecidableEq α] {fk : α → Value} {fv : β → D} {H : PH}
end
section
variable {P : Program} {L : Env} {ms : List Asrt} {dst : Option Nat} {ty : TypeId} {pos : String} {after : Array Edge} {g : Option (Nat × Bool)} {d d' : D} {x y z : Operand} {t t' : TypeId} {α β : Type}
variable [DecidableEq α]
end
end Go.V
set_option linter.unusedVariables false
set_option linter.unusedSimpArgs false
namespace Go.V
/-- Nothing. -/
def em : Asrt where
  blocks := []
  ok := fun _ _ => True
  stable := fun _ _ _ _ _ _ _ => trivial
theorem HeapOk.em_in {H : PH} {as : List Asrt} {w : World} (h : HeapOk H as w) : HeapOk H (em :: as) w :=
  ⟨h.sub, h.nodup, fun A hA b hb => by
    rcases List.mem_cons.1 hA with rfl | hA
    · simp [em] at hb
    · exact h.lt A hA b hb, fun A hA => by
    rcases List.mem_cons.1 hA with rfl | hA
    · trivial
    · exact h.ok A hA⟩
theorem HeapOk.em_out {H : PH} {as : List Asrt} {w : World} (h : HeapOk H (em :: as) w) : HeapOk H as w := HeapOk.drop (as := [em]) h
theorem take_em {H : PH} {ms fr : List Asrt} {w : World} {k : Nat} {A : Asrt} (hk : ms[k]? = some A) (h : HeapOk H (ms ++ fr) w) : HeapOk H (A :: (ms.set k em ++ fr)) w := by
  have h1 := (h.perm (perm_fr hk)).em_in
  have h2 : HeapOk H (A :: (em :: (ms.eraseIdx k ++ fr))) w := h1.perm (List.Perm.swap ..)
  exact h2.perm (List.Perm.cons _ (perm_fr' hk))
theorem put_em {H : PH} {ms fr : List Asrt} {w : World} {k : Nat} {A : Asrt} (hk : ms[k]? = some em) (h : HeapOk H (A :: (ms ++ fr)) w) : HeapOk H (ms.set k A ++ fr) w := by
  have h1 : HeapOk H (A :: (em :: (ms.eraseIdx k ++ fr))) w := h.perm (List.Perm.cons _ (perm_fr hk))
  have h2 : HeapOk H (A :: (ms.eraseIdx k ++ fr)) w := (h1.perm (List.Perm.swap ..)).em_out
  exact h2.perm (perm_fr' hk)
def putL (ms : List Asrt) : List Nat → List Asrt → List Asrt
  | k :: ks, A :: As => putL (ms.set k A) ks As
  | _, _ => ms
def ems (ks : List Nat) : List Asrt := ks.map fun _ => em
theorem putL_get {k : Nat} : ∀ (ks : List Nat) (As ms : List Asrt), k ∉ ks → (putL ms ks As)[k]? = ms[k]?
  | [], _, _, _ => by simp [putL]
  | _ :: _, [], _, _ => by simp [putL]
  | j :: ks, A :: As, ms, h => by
    simp only [List.mem_cons, not_or] at h
    rw [putL, putL_get ks As _ h.2, List.getElem?_set_ne (fun e => h.1 e.symm)]
theorem putL_set {k : Nat} {B : Asrt} : ∀ (ks : List Nat) (As ms : List Asrt), k ∉ ks → (putL ms ks As).set k B = putL (ms.set k B) ks As
  | [], _, _, _ => by simp [putL]
  | _ :: _, [], _, _ => by simp [putL]
  | j :: ks, A :: As, ms, h => by
    simp only [List.mem_cons, not_or] at h
    rw [putL, putL_set ks As _ h.2, putL]
    rw [List.set_comm _ _ (fun e => h.1 e.symm)]
theorem take_all {H : PH} {w : World} : ∀ (ks : List Nat) (As ms fr : List Asrt), ks.Nodup → As.length = ks.length → (∀ i : Nat, i < ks.length → ∃ k A, ks[i]? = some k ∧ As[i]? = some A ∧ ms[k]? = some A) → HeapOk H (ms ++ fr) w → HeapOk H (As ++ (putL ms ks (ems ks) ++ fr)) w
  | [], [], ms, fr, _, _, _, h => by simpa [putL] using h
  | [], _ :: _, _, _, _, hl, _, _ => by simp at hl
  | k :: ks, [], _, _, _, hl, _, _ => by simp at hl
  | k :: ks, A :: As, ms, fr, hn, hl, hg, h => by
    rw [List.nodup_cons] at hn
    obtain ⟨k', A', e1, e2, e3⟩ := hg 0 (by simp)
    simp only [List.getElem?_cons_zero, Option.some.injEq] at e1 e2
    subst e1 e2
    have h1 := take_em e3 h
    have h2 : HeapOk H (ms.set k em ++ (A :: fr)) w := h1.perm (List.perm_middle.symm)
    have h3 := take_all ks As (ms.set k em) (A :: fr) hn.2 (by simpa using hl) (fun i hi => by
      obtain ⟨k', A', e1, e2, e4⟩ := hg (i + 1) (by simpa using hi)
      simp only [List.getElem?_cons_succ] at e1 e2
      refine ⟨k', A', e1, e2, ?_⟩
      have hne : k ≠ k' := fun e => hn.1 (by rw [e]; exact List.mem_of_getElem? e1)
      rw [List.getElem?_set_ne hne]
      exact e4) h2
    have e5 : putL ms (k :: ks) (ems (k :: ks)) = putL (ms.set k em) ks (ems ks) := rfl
    rw [e5]
    refine h3.perm ?_
    have p1 : (putL (ms.set k em) ks (ems ks) ++ (A :: fr)).Perm (A :: (putL (ms.set k em) ks (ems ks) ++ fr)) := List.perm_middle
    have p2 := (p1.append_left As).trans (List.perm_middle (a := A) (l₁ := As))
    simpa using p2
theorem put_all {H : PH} {w : World} : ∀ (ks : List Nat) (As ms fr : List Asrt), ks.Nodup → As.length = ks.length → (∀ k ∈ ks, k < ms.length) → HeapOk H (As ++ (putL ms ks (ems ks) ++ fr)) w → HeapOk H (putL ms ks As ++ fr) w
  | [], [], ms, fr, _, _, _, h => by simpa [putL] using h
  | [], _ :: _, _, _, _, hl, _, _ => by simp at hl
  | k :: ks, [], _, _, _, hl, _, _ => by simp at hl
  | k :: ks, A :: As, ms, fr, hn, hl, hb, h => by
    rw [List.nodup_cons] at hn
    have e5 : putL ms (k :: ks) (ems (k :: ks)) = putL (ms.set k em) ks (ems ks) := rfl
    rw [e5] at h
    have h1 : HeapOk H (As ++ (putL (ms.set k em) ks (ems ks) ++ (A :: fr))) w := by
      refine h.perm ?_
      have p1 : (putL (ms.set k em) ks (ems ks) ++ (A :: fr)).Perm (A :: (putL (ms.set k em) ks (ems ks) ++ fr)) := List.perm_middle
      have p2 := (p1.append_left As).trans (List.perm_middle (a := A) (l₁ := As))
      simpa using p2.symm
    have h2 := put_all ks As (ms.set k em) (A :: fr) hn.2 (by simpa using hl) (fun k' hk' => by simpa using hb k' (by simp [hk'])) h1
    have h3 : HeapOk H (A :: (putL (ms.set k em) ks As ++ fr)) w := h2.perm List.perm_middle
    have hk : (putL (ms.set k em) ks As)[k]? = some em := by
      rw [putL_get ks As _ hn.1, List.getElem?_set_self (hb k (by simp))]
    have h4 := put_em hk h3
    rw [putL_set ks As _ hn.1] at h4
    simpa [putL] using h4
def ownB : List Nat → List Nat → Nat → Bool
  | [], _, _ => true
  | k :: ks, seen, n => Nat.blt k n && !(seen.contains k) && ownB ks (k :: seen) n
theorem ownB_ok : ∀ (ks seen : List Nat) (n : Nat), ownB ks seen n = true → ks.Nodup ∧ (∀ k ∈ ks, k < n) ∧ ∀ k ∈ ks, k ∉ seen
  | [], _, _, _ => ⟨List.nodup_nil, by simp, by simp⟩
  | k :: ks, seen, n, h => by
    simp only [ownB, Bool.and_eq_true, Bool.not_eq_true'] at h
    obtain ⟨⟨h1, h2⟩, h3⟩ := h
    obtain ⟨a, b, c⟩ := ownB_ok ks (k :: seen) n h3
    refine ⟨List.nodup_cons.2 ⟨fun hm => c k hm (by simp), a⟩, fun j hj => ?_, fun j hj => ?_⟩
    · rcases List.mem_cons.1 hj with rfl | hj
      · exact Nat.le_of_ble_eq_true h1
      · exact b j hj
    · rcases List.mem_cons.1 hj with rfl | hj
      · intro hm
        rw [List.contains_iff_mem.2 hm] at h2; cases h2
      · exact fun hm => c j hj (by simp [hm])
def getL (ms : List Asrt) : List Nat → List Asrt → Prop
  | [], [] => True
  | k :: ks, A :: As => ms[k]? = some A ∧ getL ms ks As
  | _, _ => False
theorem getL_ok {ms : List Asrt} : ∀ (ks : List Nat) (As : List Asrt), getL ms ks As → As.length = ks.length ∧ ∀ i : Nat, i < ks.length → ∃ k A, ks[i]? = some k ∧ As[i]? = some A ∧ ms[k]? = some A
  | [], [], _ => ⟨rfl, fun i hi => by simp at hi⟩
  | k :: ks, A :: As, ⟨h1, h2⟩ => by
    obtain ⟨a, b⟩ := getL_ok ks As h2
    refine ⟨by simp [a], fun i hi => ?_⟩
    cases i with
    | zero => exact ⟨k, A, rfl, rfl, h1⟩
    | succ i => exact b i (by simpa using hi)
  | [], _ :: _, h => h.elim
  | _ :: _, [], h => h.elim
section
variable {P : Program} {L : Env} {ms : List Asrt} {dst : Option Nat} {ty : TypeId} {pos : String} {after : Array Edge} {g : Option (Nat × Bool)} {d d' : D} {x y z : Operand} {t t' : TypeId} {R : D → List Asrt → Prop}
theorem o_call_own {f : FuncId} {args : List Operand} {ats : Array TypeId} {ds : List D} {As : List Asrt} (ks : List Nat) (hc : ∀ args w, (callFunc f args).run P w = .ok (.enter f args) w) (hev : evL L args = some ds) (hb : ownB ks [] ms.length = true) (hg : getL ms ks As) (hf : Fn P f ds As R) (hl : ∀ d ms', R d ms' → ms'.length = ks.length) :
    OpT P ⟨dst, .call ⟨.value (.func f), args.toArray, ats⟩, ty, pos, after, g⟩ L ms (fun d ms' => ∃ ms₁, R d ms₁ ∧ ms' = putL ms ks ms₁) := by
  obtain ⟨b1, b2, _⟩ := ownB_ok ks [] _ hb
  obtain ⟨g1, g2⟩ := getL_ok ks As hg
  intro ro H fr a w hok henv next Q hn
  have hok' := take_all ks As ms fr b1 g1 g2 hok
  have := o_call (P := P) (L := L) (ms := As ++ putL ms ks (ems ks)) (dst := dst) (ty := ty) (pos := pos) (after := after) (g := g) (ats := ats) (ms₁ := As) (rest := putL ms ks (ems ks)) hc hev (List.Perm.refl _) hf
  refine this ro H fr a w (by rw [List.append_assoc]; exact hok') henv next Q ?_
  rintro v d ms' w' H' ⟨ms₁, hR, rfl⟩ hle hok2 hc2 hs
  rw [List.append_assoc] at hok2
  exact hn v d _ w' H' ⟨ms₁, hR, rfl⟩ hle (put_all ks ms₁ ms fr b1 (hl d ms₁ hR) b2 hok2) hc2 hs
end
theorem permA {ms As rest : List Asrt} {A : Asrt} (k : Nat) (h : ms[k]? = some A) (p : (ms.eraseIdx k).Perm (rest ++ As)) : ms.Perm (rest ++ (A :: As)) :=
  (perm_at ms k A h).trans ((List.Perm.cons A p).trans List.perm_middle.symm)
theorem permN {ms : List Asrt} : ms.Perm (ms ++ []) := by simp
end Go.V
set_option linter.unusedVariables false
set_option linter.unusedSimpArgs false
namespace Go.V
section
variable {Γ : Ctx} {P : Program} {L : Env} {ms : List Asrt} {K : KT} {l : List Oper}
end
theorem getL_n {ms : List Asrt} : getL ms [] [] := trivial
theorem getL_c {ms As : List Asrt} {A : Asrt} {k : Nat} {ks : List Nat} (h : ms[k]? = some A) (t : getL ms ks As) : getL ms (k :: ks) (A :: As) := ⟨h, t⟩
end Go.V
set_option linter.unusedVariables false
set_option linter.unusedSimpArgs false
namespace Go.V
open Go.ChangeShapes Go.WideShapes Go.ChangeAt Go.RowKit
/-- What is read at a type, none of whose parts weighs too much, stands for a datum that Q holds of. -/
def OpensW (P : Program) (t : TypeId) (Q : D → Prop) : Prop :=
  ∀ (H : Type) (enc : TypeId × Value → H) (w : World) (sp : Nat → Bool) (held : Bool) (fuel : Nat) (cs : List Value) (x : DataW H × List MemPlace), DataW.trod enc P w 0 sp held fuel t cs = some x → (∀ n ∈ x.1.weights P t, n ≤ 140737488351232) → ∃ d, Q d ∧ Enc (Hof w) d cs
section
variable {P : Program} {t e : TypeId} {Q Q' : D → Prop}
theorem OpensW.imp (h : OpensW P t Q) (k : ∀ d, Q d → Q' d) : OpensW P t Q' := fun H enc w sp held fuel cs x hx hw => let ⟨d, a, b⟩ := h H enc w sp held fuel cs x hx hw; ⟨d, k d a, b⟩
theorem OpensD.w (h : OpensD P t Q) : OpensW P t Q := fun H enc w sp held fuel cs x hx _ => h H enc w sp held fuel cs x hx
end
end Go.V
set_option linter.unusedVariables false
set_option linter.unusedSimpArgs false
namespace Go.V
open Go.Conc (solo rcase scase)
def chn (c cap : Nat) {α : Type} (f : α → D) (l : List α) : Asrt where
  blocks := [c]
  ok := fun H h => ∃ (s r : Nat) (vs : List Value), h c = some (.chan cap vs.toArray false s r false) ∧ ConcL H (l.map f) vs
  stable := fun H H' h h' e hle ⟨s, r, vs, h1, h2⟩ => ⟨s, r, vs, by rw [(e c (by simp)).2]; exact h1, ConcL.mono hle _ vs h2⟩
section
variable {P : Program} {L : Env} {ms : List Asrt} {dst : Option Nat} {ty : TypeId} {pos : String} {after : Array Edge} {g : Option (Nat × Bool)} {d : D} {x y : Operand} {t e : TypeId} {α : Type} {f : α → D} {c cap : Nat} {l : List α}
theorem chn_at {H : PH} {as : List Asrt} {w : World} {k : Nat} (hok : HeapOk H as w) (hk : as[k]? = some (chn c cap f l)) : ∃ (s r : Nat) (vs : List Value), w.heap[c]? = some (.chan cap vs.toArray false s r false) ∧ ConcL H (l.map f) vs ∧ c < w.heap.size := by
  have hm := List.mem_of_getElem? hk
  obtain ⟨s, r, vs, h1, h2⟩ := hok.ok _ hm
  exact ⟨s, r, vs, h1, h2, hok.lt _ hm c (by simp [chn])⟩
theorem o_makeChan {dir : ChanDir} {i : TypeInfo} {m : Int} (ht : P.underlying t = some (.chan dir e)) (hi : P.info? e = some i) (hx : Env.ev L x = some (.v (.int .i64 m))) (h0 : 0 ≤ m) (h63 : m ≤ 9223372036854775807) (hb : (i.bytes : Int) * m ≤ 281474976710544) :
    OpT P ⟨dst, .makeChan t x, ty, pos, after, g⟩ L ms (fun d' ms' => ∃ c, d' = .v (.chan (some c)) ∧ ms' = chn c m.toNat f ([] : List α) :: ms) := by
  refine .val (by simp) fun H fr a w hok henv => ?_
  obtain ⟨n, rfl⟩ := Int.eq_ofNat_of_zero_le h0
  refine ⟨.chan (some w.heap.size), _, _, w.alloc (.chan n #[] false 0 0 false), H, ?_, ⟨w.heap.size, rfl, rfl⟩, PH.le_refl H, ?_, conc_v.2 rfl, sameOut_alloc _ _⟩
  · simp only [execOp, ev_v henv hx, Sem.run_bind, Sem.run_pure, Result.andThen_ok, Go.Conc.run_makeChan ht hi .i64 n h63 hb]
  · rw [Int.toNat_natCast]
    exact hok.own (A := chn w.heap.size n f ([] : List α)) rfl ⟨0, 0, [], heap_alloc_new _ _, by simp [ConcL]⟩
theorem o_len_chn {dir : ChanDir} (k : Nat) (ht : P.underlying t = some (.chan dir e)) (hx : Env.ev L x = some (.v (.chan (some c)))) (hk : ms[k]? = some (chn c cap f l)) :
    OpP P ⟨dst, .call ⟨.builtin .len, #[x], #[t]⟩, ty, pos, after, g⟩ L ms (.v (.int .i64 l.length)) := by
  refine .val (by simp) fun H fr a w hok henv => ?_
  obtain ⟨s, r, vs, h1, h2, h3⟩ := chn_at hok (getElem?_app hk)
  refine ⟨.int .i64 l.length, _, _, w, H, ?_, ⟨rfl, rfl⟩, PH.le_refl H, hok, conc_v.2 rfl, SameOut.refl w⟩
  have hl : vs.length = l.length := by rw [ConcL.length _ _ h2]; simp
  have := Go.Conc.run_len_chan (P := P) t ty ht h1
  simp only [execOp, resolve, invoke, builtin, List.map_toArray, List.map_cons, List.map_nil, ev_v henv hx]
  simp only [Sem.run_bind, Sem.run_pure, Result.andThen_ok, this]
  simp [goInt, hl]
theorem o_cap_chn {dir : ChanDir} (k : Nat) (ht : P.underlying t = some (.chan dir e)) (hx : Env.ev L x = some (.v (.chan (some c)))) (hk : ms[k]? = some (chn c cap f l)) :
    OpP P ⟨dst, .call ⟨.builtin .cap, #[x], #[t]⟩, ty, pos, after, g⟩ L ms (.v (.int .i64 cap)) := by
  refine .val (by simp) fun H fr a w hok henv => ?_
  obtain ⟨s, r, vs, h1, h2, h3⟩ := chn_at hok (getElem?_app hk)
  refine ⟨.int .i64 cap, _, _, w, H, ?_, ⟨rfl, rfl⟩, PH.le_refl H, hok, conc_v.2 rfl, SameOut.refl w⟩
  have := Go.Conc.run_cap_chan (P := P) t ty ht h1
  simp only [execOp, resolve, invoke, builtin, List.map_toArray, List.map_cons, List.map_nil, ev_v henv hx]
  simp only [Sem.run_bind, Sem.run_pure, Result.andThen_ok, this]
  simp [goInt]
theorem chn_upd {H : PH} {as : List Asrt} {w : World} {l' : List α} {vs : List Value} {s r : Nat} (hok : HeapOk H (chn c cap f l :: as) w) (e : ConcL H (l'.map f) vs) : HeapOk H (chn c cap f l' :: as) (w.setChan c cap vs.toArray false s r false) := by
  obtain ⟨s0, r0, vs0, h1, h2, h3⟩ := chn_at (k := 0) hok rfl
  refine hok.upd rfl (by simp [World.setChan]) ?_ (fun _ _ _ _ => rfl) (PH.le_refl H) ?_ ?_
  · intro b' _ hn
    have : c ≠ b' := fun e => hn (by simp [chn, e])
    simp only [World.setChan]
    rw [Array.getElem?_setIfInBounds_ne this]
  · intro b' o v hb hv
    rcases hb with hb | hb
    · simp [chn] at hb; subst hb
      have := hok.sub _ _ _ hv
      simp [World.cell?, h1] at this
    · rw [hok.none_new _ _ hb] at hv; cases hv
  · exact ⟨s, r, vs, Go.Conc.heap_setChan _ _ _ _ _ _ _ _ h3, e⟩
/-- A select, carried out where (L, ms) holds. -/
def SelT (P : Program) (o : Oper) (L : Env) (ms : List Asrt) (R : D → List Asrt → Prop) : Prop :=
  ∀ (ro : Option Nat) (H : PH) (fr : List Asrt) (a : Act) (w : World), HeapOk H (ms ++ fr) w → EnvOk H L a.tmps →
    ∃ v d ms' w' H', R d ms' ∧ PH.le H H' ∧ HeapOk H' (ms' ++ fr) w' ∧ Conc H' d v ∧ SameOut w w' ∧
      ∀ (b : Frame) (ops : Array Oper) (rest : List Nat) (k : List Item) (cs : List Frame), b.roundOf = ro → ops[0]? = some o →
        step P (lone (b.atR a (.inRegion ops (0 :: rest) :: k)) cs w) = .next (lone (b.atR (a.put o.dst v) (.inRegion ops rest :: k)) cs w')
theorem g_sel {Γ : Ctx} {K : KT} {R : D → List Asrt → Prop} {id i : Nat} {o : Oper} {rest : List Oper} (hd : o.dst = some i) (hi : Nat.blt i Γ.N = true) (h : SelT P o L ms R) (hab : ∀ w ρ, o.about P w ρ = none)
    (k : ∀ d ms', R d ms' → GO Γ P (o :: rest).toArray rest ((i, d) :: L) ms' K) : G Γ P (.region id (o :: rest).toArray false) L ms K := by
  intro a w m b kk cs hro hb hr
  obtain ⟨H, marks, hle, hok, henv, hdf⟩ := m.ex
  obtain ⟨v, d, ms', w', H', hR, hl, hok', hc, hs, hstep⟩ := h Γ.round H (marks.map markA ++ Γ.fr) a w hok henv
  have m' := m.next (ms' := ms') (PH.le_trans hle hl) hok' (henv.mono hl) hdf hi hc hs
  have hgo := k d ms' hR _ _ m'
  have e := wpOpsIn_eq_wpListIn (F := FR Γ.round) (n := 0) (P := P) (ops := (o :: rest).toArray) (Q := Post Γ K) rest 1 (fun j => by simp [Nat.add_comm 1 j])
  rw [← e] at hgo
  obtain ⟨e', a', w'', hq, harr⟩ := wp_opsIn _ _ _ hgo b kk cs hro hb hr
  have h0 : (o :: rest).toArray[0]? = some o := by simp
  have st := hstep b (o :: rest).toArray (List.range' 1 rest.length) kk cs hro h0
  rw [hd] at st
  have hrg : List.range (o :: rest).toArray.size = 0 :: List.range' 1 rest.length := by
    rw [List.range_eq_range']; simp [List.range'_succ]
  have sr := stepR_region (P := P) (b := b) (a := a) (k := kk) (cs := cs) (w := w) (id := id) (ops := (o :: rest).toArray)
  rw [hrg] at sr
  exact ⟨e', a', w'', hq, .of_steps (.head (fenced_calm hb hr rfl) sr (.one (fenced_oper hb hr h0 (fun f hf => by rw [hab] at hf; cases hf)) st)) harr⟩
/-- What an operation that communicates comes to, of the machine's own making. -/
theorem comm_step {o : Oper} {b : Frame} {a : Act} {ops : Array Oper} {rest : List Nat} {k : List Item} {cs : List Frame} {w : World} {cases : Array CommCase} (ho : ops[0]? = some o) (hg : o.guard = none) (hnd : ∀ c, o.op ≠ .defer c)
    (hrun : (execOp a.eval o).run P w = .ok (.comm cases false .select) w) : ∃ es, stepG P true (Go.Conc.G (b.atR a (.inRegion ops (0 :: rest) :: k)) cs) w = .comm (Go.Conc.G (b.atR a (.inRegion ops (0 :: rest) :: k)) cs) cases false .select w es := by
  have hg2 := stepGR_op (P := P) (b := b) (a := a) (k := k) (cs := cs) (w := w) (ops := ops) (rest := rest) ho (by simp [Region.wanted, hg])
  rw [Oper.semAt_eq _ _ _ hnd] at hg2
  unfold Go.Conc.G
  rw [hg2]
  simp only [stepG.apply, Sem.runT_eq, hrun, if_true, GStep.after]
  exact ⟨_, rfl⟩
theorem fin_at {o : Oper} {b : Frame} {a : Act} {ops : Array Oper} {rest : List Nat} {k : List Item} (ho : ops[0]? = some o) (v : Value) : (b.atR a (.inRegion ops (0 :: rest) :: k)).finish v = b.atR (a.put o.dst v) (.inRegion ops rest :: k) := by
  rw [Frame.finish_atR, ho]; rfl
theorem conc_tup {H : PH} {ds : List D} {us : List Value} (h : ConcL H ds us) : Conc H (.tup ds) (.tuple us.toArray) := ⟨[.tuple us.toArray], by simp only [Enc]; exact ⟨us, rfl, h⟩, by simp [D.val]⟩
theorem concL_cons {H : PH} {d : D} {ds : List D} {u : Value} {us : List Value} (h : Conc H d u) (hs : ConcL H ds us) : ConcL H (d :: ds) (u :: us) := by
  simp only [ConcL]; exact ⟨u, us, rfl, h, hs⟩
theorem concL_nil {H : PH} : ConcL H [] [] := by simp [ConcL]
/-- A receive, or the default. -/
theorem s_recv {z : Value} (k : Nat) (hz : ∀ w, (zeroValue e).run P w = .ok z w) (hx : Env.ev L x = some (.v (.chan (some c)))) (hk : ms[k]? = some (chn c cap f l)) :
    SelT P ⟨dst, .select #[⟨x, none, e⟩] false, ty, pos, after, none⟩ L ms (fun d' ms' => (l = [] ∧ d' = .tup [.i64 (-1), .bool false, .v z] ∧ ms' = ms) ∨ ∃ q r, l = q :: r ∧ d' = .tup [.i64 0, .bool true, f q] ∧ ms' = ms.set k (chn c cap f r)) := by
  intro ro H fr a w hok henv
  obtain ⟨s, r, vs, h1, h2, h3⟩ := chn_at hok (getElem?_app hk)
  have hrun : (execOp a.eval (⟨dst, .select #[⟨x, none, e⟩] false, ty, pos, after, none⟩ : Oper)).run P w = .ok (.comm #[rcase c z] false .select) w := by
    have hxv := ev_v henv hx
    simp [execOp, hz, hxv, rcase]
  cases l with
  | nil =>
    have hvs : vs = [] := by simpa [ConcL] using h2
    subst hvs
    refine ⟨.tuple #[goInt (-1), .bool false, z], .tup [.i64 (-1), .bool false, .v z], ms, w, H, .inl ⟨rfl, rfl, rfl⟩, PH.le_refl H, hok, conc_tup (concL_cons (conc_v.2 rfl) (concL_cons (conc_v.2 rfl) (concL_cons (conc_v.2 rfl) concL_nil))), SameOut.refl w, ?_⟩
    intro b ops rest kk cs hro ho
    obtain ⟨es, hg⟩ := comm_step (P := P) (b := b) (rest := rest) (k := kk) (cs := cs) ho rfl (by simp) hrun
    have := Go.Conc.step_lone_select_default hg h1
    rw [fin_at ho] at this
    exact this
  | cons q l =>
    simp only [List.map_cons, ConcL] at h2
    obtain ⟨u, us, rfl, hq, hr⟩ := h2
    have p1 : (ms ++ fr).Perm (chn c cap f (q :: l) :: (ms.eraseIdx k ++ fr)) := by
      rw [← List.cons_append]; exact (perm_at ms k _ hk).append_right fr
    have p2 : (chn c cap f l :: (ms.eraseIdx k ++ fr)).Perm (ms.set k (chn c cap f l) ++ fr) := by
      rw [← List.cons_append]; exact (perm_set ms k _ _ hk).append_right fr
    refine ⟨.tuple #[goInt 0, .bool true, u], .tup [.i64 0, .bool true, f q], _, w.setChan c cap us.toArray false s (r + 1) false, H, .inr ⟨q, l, rfl, rfl, rfl⟩, PH.le_refl H, (chn_upd (hok.perm p1) hr).perm p2,
      conc_tup (concL_cons (conc_v.2 rfl) (concL_cons (conc_v.2 rfl) (concL_cons hq concL_nil))), ⟨rfl, rfl, rfl, by simp [World.setChan]⟩, ?_⟩
    intro b ops rest kk cs hro ho
    obtain ⟨es, hg⟩ := comm_step (P := P) (b := b) (rest := rest) (k := kk) (cs := cs) ho rfl (by simp) hrun
    have := Go.Conc.step_lone_select_recv_buf hg h1 (by simp)
    rw [fin_at ho] at this
    rw [Go.Conc.lone_eq_solo, Go.Conc.lone_eq_solo]; simpa using this
/-- A send, or the default. -/
theorem s_send {z : Value} {q : α} (k : Nat) (hz : ∀ w, (zeroValue e).run P w = .ok z w) (hx : Env.ev L x = some (.v (.chan (some c)))) (hy : Env.ev L y = some (f q)) (hk : ms[k]? = some (chn c cap f l)) :
    SelT P ⟨dst, .select #[⟨x, some y, e⟩] false, ty, pos, after, none⟩ L ms (fun d' ms' => (cap ≤ l.length ∧ d' = .tup [.i64 (-1), .bool false] ∧ ms' = ms) ∨ (l.length < cap ∧ d' = .tup [.i64 0, .bool false] ∧ ms' = ms.set k (chn c cap f (l ++ [q])))) := by
  intro ro H fr a w hok henv
  obtain ⟨s, r, vs, h1, h2, h3⟩ := chn_at hok (getElem?_app hk)
  have hl : vs.length = l.length := by rw [ConcL.length _ _ h2]; simp
  have hq := henv.ev hy
  have hrun : (execOp a.eval (⟨dst, .select #[⟨x, some y, e⟩] false, ty, pos, after, none⟩ : Oper)).run P w = .ok (.comm #[scase c (a.eval y) z] false .select) w := by
    have hxv := ev_v henv hx
    simp [execOp, hz, hxv, scase]
  by_cases hc : cap ≤ l.length
  · refine ⟨.tuple #[goInt (-1), .bool false], .tup [.i64 (-1), .bool false], ms, w, H, .inl ⟨hc, rfl, rfl⟩, PH.le_refl H, hok, conc_tup (concL_cons (conc_v.2 rfl) (concL_cons (conc_v.2 rfl) concL_nil)), SameOut.refl w, ?_⟩
    intro b ops rest kk cs hro ho
    obtain ⟨es, hg⟩ := comm_step (P := P) (b := b) (rest := rest) (k := kk) (cs := cs) ho rfl (by simp) hrun
    have := Go.Conc.step_lone_select_send_full hg h1 (by simp; omega)
    rw [fin_at ho] at this
    exact this
  · have p1 : (ms ++ fr).Perm (chn c cap f l :: (ms.eraseIdx k ++ fr)) := by
      rw [← List.cons_append]; exact (perm_at ms k _ hk).append_right fr
    have p2 : (chn c cap f (l ++ [q]) :: (ms.eraseIdx k ++ fr)).Perm (ms.set k (chn c cap f (l ++ [q])) ++ fr) := by
      rw [← List.cons_append]; exact (perm_set ms k _ _ hk).append_right fr
    have happ : ∀ (ds : List D) (us : List Value), ConcL H ds us → ConcL H (ds ++ [f q]) (us ++ [a.eval y]) := by
      intro ds
      induction ds with
      | nil => intro us h; simp only [ConcL] at h; subst h; exact concL_cons hq concL_nil
      | cons d ds ih =>
        intro us h
        simp only [ConcL] at h
        obtain ⟨u, us', rfl, h4, h5⟩ := h
        exact concL_cons h4 (ih _ h5)
    refine ⟨.tuple #[goInt 0, .bool false], .tup [.i64 0, .bool false], _, w.setChan c cap (vs ++ [a.eval y]).toArray false (s + 1) r false, H, .inr ⟨by omega, rfl, rfl⟩, PH.le_refl H, (chn_upd (hok.perm p1) (by rw [List.map_append]; exact happ _ _ h2)).perm p2,
      conc_tup (concL_cons (conc_v.2 rfl) (concL_cons (conc_v.2 rfl) concL_nil)), ⟨rfl, rfl, rfl, by simp [World.setChan]⟩, ?_⟩
    intro b ops rest kk cs hro ho
    obtain ⟨es, hg⟩ := comm_step (P := P) (b := b) (rest := rest) (k := kk) (cs := cs) ho rfl (by simp) hrun
    have := Go.Conc.step_lone_select_send_room hg h1 (by simp; omega)
    rw [fin_at ho] at this
    rw [Go.Conc.lone_eq_solo, Go.Conc.lone_eq_solo]; simpa using this
/-- A select whose outcome is known. -/
theorem g_selp {Γ : Ctx} {K : KT} {id i : Nat} {o : Oper} {rest : List Oper} {ms' : List Asrt} (hd : o.dst = some i) (hi : Nat.blt i Γ.N = true) (h : SelT P o L ms (fun d' m' => d' = d ∧ m' = ms')) (hab : ∀ w ρ, o.about P w ρ = none)
    (k : GO Γ P (o :: rest).toArray rest ((i, d) :: L) ms' K) : G Γ P (.region id (o :: rest).toArray false) L ms K :=
  g_sel hd hi h hab (by rintro _ _ ⟨rfl, rfl⟩; exact k)
theorem SelT.mono {o : Oper} {R R' : D → List Asrt → Prop} (h : SelT P o L ms R) (hr : ∀ d ms', R d ms' → R' d ms') : SelT P o L ms R' := by
  intro ro H fr a w hok henv
  obtain ⟨v, d, ms', w', H', hR, rest⟩ := h ro H fr a w hok henv
  exact ⟨v, d, ms', w', H', hr _ _ hR, rest⟩
theorem s_recv_none {z : Value} (k : Nat) (hz : ∀ w, (zeroValue e).run P w = .ok z w) (hx : Env.ev L x = some (.v (.chan (some c)))) (hk : ms[k]? = some (chn c cap f l)) (hl : l.isEmpty = true) :
    SelT P ⟨dst, .select #[⟨x, none, e⟩] false, ty, pos, after, none⟩ L ms (fun d' ms' => d' = .tup [.i64 (-1), .bool false, .v z] ∧ ms' = ms) :=
  (s_recv k hz hx hk).mono fun d ms' h => by
    rcases h with ⟨_, h1, h2⟩ | ⟨q, r, h1, _⟩
    · exact ⟨h1, h2⟩
    · subst h1; cases hl
theorem s_recv_some {z : Value} {q : α} {r : List α} (k : Nat) (hz : ∀ w, (zeroValue e).run P w = .ok z w) (hx : Env.ev L x = some (.v (.chan (some c)))) (hk : ms[k]? = some (chn c cap f l)) (h1 : idx l 0 = some q) (h2 : sli l 1 (l.length : Int) = some r) :
    SelT P ⟨dst, .select #[⟨x, none, e⟩] false, ty, pos, after, none⟩ L ms (fun d' ms' => d' = .tup [.i64 0, .bool true, f q] ∧ ms' = ms.set k (chn c cap f r)) :=
  (s_recv k hz hx hk).mono fun d ms' h => by
    rcases h with ⟨h3, _⟩ | ⟨q', r', h3, h4, h5⟩
    · subst h3; simp [idx] at h1
    · subst h3
      have e1 : q' = q := by simpa [idx] using h1
      have e2 : r' = r := by
        obtain ⟨_, _, _, h6⟩ := sli_some h2
        rw [← h6]; simp
      subst e1 e2
      exact ⟨h4, h5⟩
theorem s_send_full {z : Value} {q : α} (k : Nat) (hz : ∀ w, (zeroValue e).run P w = .ok z w) (hx : Env.ev L x = some (.v (.chan (some c)))) (hy : Env.ev L y = some (f q)) (hk : ms[k]? = some (chn c cap f l)) (hl : decide (cap ≤ l.length) = true) :
    SelT P ⟨dst, .select #[⟨x, some y, e⟩] false, ty, pos, after, none⟩ L ms (fun d' ms' => d' = .tup [.i64 (-1), .bool false] ∧ ms' = ms) :=
  (s_send k hz hx hy hk).mono fun d ms' h => by
    rw [decide_eq_true_eq] at hl
    rcases h with ⟨_, h1, h2⟩ | ⟨h1, _⟩
    · exact ⟨h1, h2⟩
    · omega
theorem s_send_room {z : Value} {q : α} (k : Nat) (hz : ∀ w, (zeroValue e).run P w = .ok z w) (hx : Env.ev L x = some (.v (.chan (some c)))) (hy : Env.ev L y = some (f q)) (hk : ms[k]? = some (chn c cap f l)) (hl : decide (cap ≤ l.length) = false) :
    SelT P ⟨dst, .select #[⟨x, some y, e⟩] false, ty, pos, after, none⟩ L ms (fun d' ms' => d' = .tup [.i64 0, .bool false] ∧ ms' = ms.set k (chn c cap f (l ++ [q]))) :=
  (s_send k hz hx hy hk).mono fun d ms' h => by
    rw [decide_eq_false_iff_not] at hl
    rcases h with ⟨h1, _⟩ | ⟨_, h1, h2⟩
    · omega
    · exact ⟨h1, h2⟩
end
end Go.V
set_option linter.unusedVariables false
set_option linter.unusedSimpArgs false
set_option maxRecDepth 100000
set_option maxHeartbeats 2000000
namespace Go.Proofs.Ytafphfokopkhdaa
open Go.V
theorem Try_mixed : Try.prog.follows .mixedOrders = true := by kernel_rfl
structure ApiTField where
  name : (List UInt8)
  at_ : Int
def ApiTField.d (x : ApiTField) : D := .agg [.str x.name, .i64 x.at_]
structure ApiTNode where
  kind : Int
  a : Int
  b : Int
  l : (List ApiTField)
def ApiTNode.d (x : ApiTNode) : D := .agg [.i64 x.kind, .i64 x.a, .i64 x.b, .list 2 ApiTField.d x.l]
structure AutoEdge where
  name : (List UInt8)
  to_ : Int
def AutoEdge.d (x : AutoEdge) : D := .agg [.str x.name, .i64 x.to_]
theorem pl_110 : ∀ fs, (∀ w, (underlying 110).run Try.prog w = .ok (.struct fs) w) → placesOf Try.prog fs [(0, 1), (1, 1)] := by
  intro fs h w
  have := (h w).symm.trans (Try.runUnderlying110 w)
  simp only [Result.ok.injEq, TypeDesc.struct.injEq, and_true] at this
  subst this
  simp [Try.sizeOf108, Try.sizeOf28, Sem.run]
structure QueueQueueInt where
  first : (Nat × List Int)
  more : (List Int)
def m_qi_New (room1 : Int)  : Option QueueQueueInt :=
  grd (0 ≤ (if 64 < (if 0 > room1 then 0 else room1) then 64 else (if 0 > room1 then 0 else room1))) <|
  grd ((if 64 < (if 0 > room1 then 0 else room1) then 64 else (if 0 > room1 then 0 else room1)) ≤ 9223372036854775807) <|
  grd ((8 : Int) * (if 64 < (if 0 > room1 then 0 else room1) then 64 else (if 0 > room1 then 0 else room1)) ≤ 281474976710544) <|
  some (⟨(((if 64 < (if 0 > room1 then 0 else room1) then 64 else (if 0 > room1 then 0 else room1))).toNat, ([] : List Int)), ([] : List Int)⟩ : QueueQueueInt)
theorem w_qi_New {room1 : Int}  {s_1 : QueueQueueInt} (hm : m_qi_New room1 = some s_1) : Go.V.Fn Try.prog 12 [.i64 room1] [] (fun d ms' => ∃ b_s_1 c_s_1c0 a_s_1c1 cap_s_1c1, d = .v (.pointer (some ⟨b_s_1, 0, none⟩)) ∧ ms' = [box b_s_1 110 [.v (.chan (some c_s_1c0)), .v (.slice a_s_1c1 s_1.more.length cap_s_1c1)], chn c_s_1c0 s_1.first.1 D.i64 s_1.first.2, que a_s_1c1 cap_s_1c1 3 1 D.i64 s_1.more]) := by
  unfold m_qi_New at hm
  refine fn_intro Try.func12 rfl Try.ntmps12 rfl fun H0 fr w0 => ?_
  refine g_seq ?_
  refine g_region ?_
  refine go_p rfl rfl rfl (o_assign rfl) ?_
  refine go_nil ?_
  refine g_seq ?_
  refine g_region ?_
  refine go_p rfl rfl rfl (o_move rfl) ?_
  refine go_p rfl rfl rfl (o_max rfl rfl) ?_
  refine go_p rfl rfl rfl (o_min rfl rfl) ?_
  obtain ⟨hg1, hm⟩ := grd_some hm
  obtain ⟨hg2, hm⟩ := grd_some hm
  obtain ⟨hg3, hm⟩ := grd_some hm
  refine go_op rfl rfl rfl (o_makeChan (f := D.i64) Try.underlying108 Try.type3 rfl hg1 hg2 hg3) ?_
  rintro _ _ ⟨c_r1, rfl, rfl⟩
  refine go_p rfl rfl rfl (o_build (zs := [.v (.chan none), .v (.slice none 0 0)]) Try.runUnderlying110 Try.zeroValue110 (pl_110 _ Try.runUnderlying110) rfl rfl rfl rfl) ?_
  refine go_op rfl rfl rfl (o_box_own rfl rfl rfl) ?_
  rintro _ _ ⟨b1, rfl, rfl⟩
  refine go_conv (refines_newrow (T := 3) (sz := 1) (f := D.i64)) ?_
  refine go_p rfl rfl rfl (o_assign rfl) ?_
  refine go_nil ?_
  refine g_conv (refines_que 0 rfl rfl) ?_
  refine g_ret ?_
  obtain rfl := some_eq hm
  exact retK (ret_one' rfl (ret_tmp rfl) (permA 1 rfl (permA 1 rfl (permA 0 rfl permN)))) ⟨_, _, _, _, rfl, rfl⟩
theorem fi_110_1 : FieldIs Try.prog 110 1 1 1 false := ⟨⟨_, _, Try.runUnderlying110, rfl, rfl, Try.sizeOf28, by decide, Try.isAgg28⟩⟩
theorem fi_110_0 : FieldIs Try.prog 110 0 0 1 false := ⟨⟨_, _, Try.runUnderlying110, rfl, rfl, Try.sizeOf108, by decide, Try.isAgg108⟩⟩
def m_qi_fill_l1  : Nat → ((Nat × List Int) × (List Int)) → Option QueueQueueInt
  | 0, _ => none
  | n + 1, (ch1, l1) =>
    bif (decide (0 < (l1.length : Int))) then
      (idx l1 0).bind fun x1 =>
      bif (decide (ch1.1 ≤ ch1.2.length)) then
        some (⟨ch1, l1⟩ : QueueQueueInt)
      else
        (sli l1 1 (l1.length : Int)).bind fun l2 =>
        m_qi_fill_l1 n ((ch1.1, (ch1.2 ++ [x1])), l2)
    else
      some (⟨ch1, l1⟩ : QueueQueueInt)
def m_qi_fill (q1 : QueueQueueInt)  : Option QueueQueueInt :=
  m_qi_fill_l1 FU (q1.first, q1.more)
theorem w_qi_fill {q1 : QueueQueueInt}  {s_1 : QueueQueueInt} {b_q0 : Nat} {c_q0c0 : Nat} {a_q0c1 : Option Addr} {cap_q0c1 : Nat} (hm : m_qi_fill q1 = some s_1) : Go.V.Fn Try.prog 69 [.v (.pointer (some ⟨b_q0, 0, none⟩))] [box b_q0 110 [.v (.chan (some c_q0c0)), .v (.slice a_q0c1 q1.more.length cap_q0c1)], chn c_q0c0 q1.first.1 D.i64 q1.first.2, que a_q0c1 cap_q0c1 3 1 D.i64 q1.more] (fun d ms' => ∃ c_s_1c0 a_s_1c1 cap_s_1c1, d = .tup [] ∧ ms' = [box b_q0 110 [.v (.chan (some c_s_1c0)), .v (.slice a_s_1c1 s_1.more.length cap_s_1c1)], chn c_s_1c0 s_1.first.1 D.i64 s_1.first.2, que a_s_1c1 cap_s_1c1 3 1 D.i64 s_1.more]) := by
  unfold m_qi_fill at hm
  refine fn_intro Try.func69 rfl Try.ntmps69 rfl fun H0 fr w0 => ?_
  refine g_block ?_
  refine g_loop_m [(0, _)] [] (fun (st : ((Nat × List Int) × (List Int))) (hid : Nat × (Option Addr × Nat)) => match st, hid with | (ch1, l1), (c_q0c0, (a_q0c1, cap_q0c1)) => []) (fun F (st : ((Nat × List Int) × (List Int))) (hid : Nat × (Option Addr × Nat)) => match st, hid with | (ch1, l1), (c_q0c0, (a_q0c1, cap_q0c1)) => [box b_q0 110 [.v (.chan (some c_q0c0)), .v (.slice a_q0c1 l1.length cap_q0c1)], chn c_q0c0 ch1.1 D.i64 ch1.2, que a_q0c1 cap_q0c1 3 1 D.i64 l1]) (_, (_, _)) hm (fun _ => rfl) ⟨rfl, trivial⟩ trivial trivial rfl ?_
  rintro n ⟨ch1, l1⟩ ⟨c_q0c0, ⟨a_q0c1, cap_q0c1⟩⟩ hm
  rw [m_qi_fill_l1] at hm
  refine g_norm (L' := [(0, _)]) (ms' := [box b_q0 110 [.v (.chan (some c_q0c0)), .v (.slice a_q0c1 l1.length cap_q0c1)], chn c_q0c0 ch1.1 D.i64 ch1.2, que a_q0c1 cap_q0c1 3 1 D.i64 l1]) rfl rfl ?_
  refine g_seq ?_
  refine g_seq ?_
  refine g_region ?_
  refine go_p rfl rfl rfl (o_move rfl) ?_
  refine go_p rfl rfl rfl (o_nilCheck_box rfl) ?_
  refine go_p rfl rfl rfl (o_fieldAddr_box fi_110_1 rfl) ?_
  refine go_p rfl rfl rfl (o_load_box 0 Try.isAgg28 rfl rfl rfl rfl) ?_
  refine go_p rfl rfl rfl (.view (peekQ (i := 5) 2 rfl rfl rfl) (o_len Try.runUnderlying28 rfl)) ?_
  refine go_p rfl rfl rfl (o_cmp rfl rfl rfl) ?_
  refine go_nil ?_
  refine g_cond rfl (fun hc1 => ?_) (fun hc1 => ?_)
  · replace hm := cond_t hc1 hm
    refine g_skip ?_
    refine g_block ?_
    refine g_seq ?_
    refine g_seq ?_
    refine g_region ?_
    refine go_p rfl rfl rfl (o_move rfl) ?_
    refine go_p rfl rfl rfl (o_nilCheck_box rfl) ?_
    refine go_p rfl rfl rfl (o_fieldAddr_box fi_110_0 rfl) ?_
    refine go_p rfl rfl rfl (o_load_box 0 Try.isAgg108 rfl rfl rfl rfl) ?_
    refine go_nil ?_
    refine g_region ?_
    refine go_p rfl rfl rfl (o_move rfl) ?_
    refine go_p rfl rfl rfl (o_nilCheck_box rfl) ?_
    refine go_p rfl rfl rfl (o_fieldAddr_box fi_110_1 rfl) ?_
    refine go_p rfl rfl rfl (o_load_box 0 Try.isAgg28 rfl rfl rfl rfl) ?_
    obtain ⟨x1, hx1, hm⟩ := bind_some hm
    refine go_p rfl rfl rfl (.view (peekQ (i := 15) 2 rfl rfl rfl) (o_indexAddr_m Try.runUnderlying28 Try.sizeOf3 rfl rfl hx1)) ?_
    refine go_p rfl rfl rfl (o_load Try.isAgg3 rfl rfl) ?_
    refine go_nil ?_
    refine g_seq ?_
    rcases cond_split hm with ⟨hc2, hm⟩ | ⟨hc2, hm⟩
    · skip
      refine g_selp rfl rfl (s_send_full (q := x1) 1 Try.zeroValue3 rfl rfl rfl hc2) (fun _ _ => rfl) ?_
      refine go_ms (ms' := [box b_q0 110 [_, _], _, _]) rfl ?_
      refine go_p rfl rfl rfl (o_extract rfl rfl) ?_
      refine go_p rfl rfl rfl (o_cmp rfl rfl rfl) ?_
      refine go_nil ?_
      refine g_block ?_
      refine g_cond_false rfl rfl ?_
      refine g_ret ?_
      obtain rfl := some_eq hm
      exact retK (ret_none rfl (permA 0 rfl (permA 0 rfl (permA 0 rfl permN)))) ⟨_, _, _, rfl, rfl⟩
    · skip
      refine g_selp rfl rfl (s_send_room (q := x1) 1 Try.zeroValue3 rfl rfl rfl hc2) (fun _ _ => rfl) ?_
      refine go_ms (ms' := [box b_q0 110 [_, _], _, _]) rfl ?_
      refine go_p rfl rfl rfl (o_extract rfl rfl) ?_
      refine go_p rfl rfl rfl (o_cmp rfl rfl rfl) ?_
      refine go_nil ?_
      refine g_block ?_
      refine g_cond_true rfl rfl ?_
      refine g_region ?_
      refine go_p rfl rfl rfl (o_move rfl) ?_
      refine go_p rfl rfl rfl (o_move rfl) ?_
      refine go_p rfl rfl rfl (o_nilCheck_box rfl) ?_
      refine go_p rfl rfl rfl (o_fieldAddr_box fi_110_1 rfl) ?_
      refine go_p rfl rfl rfl (o_load_box 0 Try.isAgg28 rfl rfl rfl rfl) ?_
      obtain ⟨l2, hx2, hm⟩ := bind_some hm
      refine go_op rfl rfl rfl (o_slice_que 2 Try.runUnderlying28 Try.sizeOf3 rfl rfl rfl rfl hx2) ?_
      rintro _ _ ⟨a_q0c1, cap_q0c1, rfl, rfl⟩
      refine go_p rfl rfl rfl (o_nilCheck_box rfl) ?_
      refine go_p rfl rfl rfl (o_fieldAddr_box fi_110_1 rfl) ?_
      refine go_u rfl rfl (o_store_box 0 Try.sizeOf28 rfl rfl rfl rfl rfl rfl rfl rfl (Nat.le_of_ble_eq_true rfl)) ?_
      rintro _ _ rfl
      refine go_ms (ms' := [box b_q0 110 [_, _], _, _]) rfl ?_
      refine go_nil ?_
      exact ⟨_, (_, (_, _)), hm, trivial, ⟨rfl, trivial⟩, [], rfl⟩
  · replace hm := cond_f hc1 hm
    refine g_exit ?_
    obtain rfl := some_eq hm
    exact retKn (ret_none rfl (permA 0 rfl (permA 0 rfl (permA 0 rfl permN)))) ⟨_, _, _, rfl, rfl⟩
def m_qi_Push (q1 : QueueQueueInt) (l1 : (List Int))  : Option QueueQueueInt :=
  grd ((q1.more.length + l1.length) * 8 ≤ 140737488355328) <|
  (m_qi_fill (⟨q1.first, (q1.more ++ l1)⟩ : QueueQueueInt)).bind fun s1 =>
  some (⟨s1.first, s1.more⟩ : QueueQueueInt)
theorem w_qi_Push {q1 : QueueQueueInt} {l1 : (List Int)}  {s_1 : QueueQueueInt} {b_q0 : Nat} {c_q0c0 : Nat} {a_q0c1 : Option Addr} {cap_q0c1 : Nat} (hm : m_qi_Push q1 l1 = some s_1) : Go.V.Fn Try.prog 20 [.v (.pointer (some ⟨b_q0, 0, none⟩)), .list 1 D.i64 l1] [box b_q0 110 [.v (.chan (some c_q0c0)), .v (.slice a_q0c1 q1.more.length cap_q0c1)], chn c_q0c0 q1.first.1 D.i64 q1.first.2, que a_q0c1 cap_q0c1 3 1 D.i64 q1.more] (fun d ms' => ∃ c_s_1c0 a_s_1c1 cap_s_1c1, d = .tup [] ∧ ms' = [box b_q0 110 [.v (.chan (some c_s_1c0)), .v (.slice a_s_1c1 s_1.more.length cap_s_1c1)], chn c_s_1c0 s_1.first.1 D.i64 s_1.first.2, que a_s_1c1 cap_s_1c1 3 1 D.i64 s_1.more]) := by
  unfold m_qi_Push at hm
  refine fn_intro Try.func20 rfl Try.ntmps20 rfl fun H0 fr w0 => ?_
  refine g_seq ?_
  refine g_seq ?_
  refine g_region ?_
  refine go_p rfl rfl rfl (o_move rfl) ?_
  refine go_p rfl rfl rfl (o_eqnil Try.runUnderlying23 rfl nilP_ptr rfl) ?_
  refine go_nil ?_
  refine g_cond_false rfl rfl ?_
  refine g_skip ?_
  refine g_seq ?_
  refine g_region ?_
  refine go_p rfl rfl rfl (o_move rfl) ?_
  refine go_p rfl rfl rfl (o_move rfl) ?_
  refine go_p rfl rfl rfl (o_nilCheck_box rfl) ?_
  refine go_p rfl rfl rfl (o_fieldAddr_box fi_110_1 rfl) ?_
  refine go_p rfl rfl rfl (o_load_box 0 Try.isAgg28 rfl rfl rfl rfl) ?_
  refine go_p rfl rfl rfl (o_move rfl) ?_
  obtain ⟨hg1, hm⟩ := grd_some hm
  refine go_op rfl rfl rfl (o_append_que (a := _) 2 Try.underlying28 Try.type3 rfl rfl rfl rfl rfl rfl rfl (fun _ => rfl) (fun _ => rfl) hg1 (app_len hg1 rfl)) ?_
  rintro _ _ ⟨a_q0c1, cap_q0c1, rfl, rfl⟩
  refine go_ms (ms' := [box b_q0 110 [_, _], _, _]) rfl ?_
  refine go_p rfl rfl rfl (o_nilCheck_box rfl) ?_
  refine go_p rfl rfl rfl (o_fieldAddr_box fi_110_1 rfl) ?_
  refine go_u rfl rfl (o_store_box 0 Try.sizeOf28 rfl rfl rfl rfl rfl rfl rfl rfl (Nat.le_of_ble_eq_true rfl)) ?_
  rintro _ _ rfl
  refine go_ms (ms' := [box b_q0 110 [_, _], _, _]) rfl ?_
  refine go_nil ?_
  refine g_region ?_
  refine go_p rfl rfl rfl (o_move rfl) ?_
  obtain ⟨s1, hx2, hm⟩ := bind_some hm
  refine go_op rfl rfl rfl (o_call_own [0, 1, 2] Try.call69 rfl rfl (getL_c rfl (getL_c rfl (getL_c rfl getL_n))) (w_qi_fill hx2) (by rintro _ _ ⟨_, _, _, rfl, rfl⟩; rfl)) ?_
  rintro _ _ ⟨_, ⟨c_q0c0, a_q0c1, cap_q0c1, rfl, rfl⟩, rfl⟩
  refine go_ms (ms' := [box b_q0 110 [_, _], _, _]) rfl ?_
  refine go_nil ?_
  obtain rfl := some_eq hm
  exact retKn (ret_none rfl (permA 0 rfl (permA 0 rfl (permA 0 rfl permN)))) ⟨_, _, _, rfl, rfl⟩
def m_qi_Pop (q1 : QueueQueueInt)  : Option (Int × Bool × QueueQueueInt) :=
  bif q1.first.2.isEmpty then
    bif (decide ((q1.more.length : Int) = 0)) then
      some (0, false, (⟨q1.first, q1.more⟩ : QueueQueueInt))
    else
      (idx q1.more 0).bind fun x1 =>
      (sli q1.more 1 (q1.more.length : Int)).bind fun l1 =>
      some (x1, true, (⟨q1.first, l1⟩ : QueueQueueInt))
  else
    (idx q1.first.2 0).bind fun x2 =>
    (sli q1.first.2 1 (q1.first.2.length : Int)).bind fun l2 =>
    (m_qi_fill (⟨(q1.first.1, l2), q1.more⟩ : QueueQueueInt)).bind fun s1 =>
    some (x2, true, (⟨s1.first, s1.more⟩ : QueueQueueInt))
theorem w_qi_Pop {q1 : QueueQueueInt}  {r_1 : Int} {r_2 : Bool} {s_1 : QueueQueueInt} {b_q0 : Nat} {c_q0c0 : Nat} {a_q0c1 : Option Addr} {cap_q0c1 : Nat} (hm : m_qi_Pop q1 = some (r_1, r_2, s_1)) : Go.V.Fn Try.prog 16 [.v (.pointer (some ⟨b_q0, 0, none⟩))] [box b_q0 110 [.v (.chan (some c_q0c0)), .v (.slice a_q0c1 q1.more.length cap_q0c1)], chn c_q0c0 q1.first.1 D.i64 q1.first.2, que a_q0c1 cap_q0c1 3 1 D.i64 q1.more] (fun d ms' => ∃ c_s_1c0 a_s_1c1 cap_s_1c1, d = .tup [.i64 r_1, .bool r_2] ∧ ms' = [box b_q0 110 [.v (.chan (some c_s_1c0)), .v (.slice a_s_1c1 s_1.more.length cap_s_1c1)], chn c_s_1c0 s_1.first.1 D.i64 s_1.first.2, que a_s_1c1 cap_s_1c1 3 1 D.i64 s_1.more]) := by
  unfold m_qi_Pop at hm
  refine fn_intro Try.func16 rfl Try.ntmps16 rfl fun H0 fr w0 => ?_
  refine g_seq ?_
  refine g_region ?_
  refine go_p rfl rfl rfl (o_assign rfl) ?_
  refine go_p rfl rfl rfl (o_assign rfl) ?_
  refine go_nil ?_
  refine g_seq ?_
  refine g_region ?_
  refine go_p rfl rfl rfl (o_assign rfl) ?_
  refine go_nil ?_
  refine g_seq ?_
  refine g_seq ?_
  refine g_region ?_
  refine go_p rfl rfl rfl (o_move rfl) ?_
  refine go_p rfl rfl rfl (o_eqnil Try.runUnderlying23 rfl nilP_ptr rfl) ?_
  refine go_nil ?_
  refine g_cond_false rfl rfl ?_
  refine g_skip ?_
  refine g_seq ?_
  refine g_seq ?_
  refine g_region ?_
  refine go_p rfl rfl rfl (o_move rfl) ?_
  refine go_p rfl rfl rfl (o_nilCheck_box rfl) ?_
  refine go_p rfl rfl rfl (o_fieldAddr_box fi_110_0 rfl) ?_
  refine go_p rfl rfl rfl (o_load_box 0 Try.isAgg108 rfl rfl rfl rfl) ?_
  refine go_nil ?_
  refine g_seq ?_
  rcases cond_split hm with ⟨hc1, hm⟩ | ⟨hc1, hm⟩
  · skip
    refine g_selp rfl rfl (s_recv_none 1 Try.zeroValue3 rfl rfl hc1) (fun _ _ => rfl) ?_
    refine go_ms (ms' := [box b_q0 110 [_, _], _, _]) rfl ?_
    refine go_p rfl rfl rfl (o_extract rfl rfl) ?_
    refine go_p rfl rfl rfl (o_cmp rfl rfl rfl) ?_
    refine go_nil ?_
    refine g_block ?_
    refine g_cond_false rfl rfl ?_
    refine g_skip ?_
    refine g_seq ?_
    refine g_seq ?_
    refine g_region ?_
    refine go_p rfl rfl rfl (o_move rfl) ?_
    refine go_p rfl rfl rfl (o_nilCheck_box rfl) ?_
    refine go_p rfl rfl rfl (o_fieldAddr_box fi_110_1 rfl) ?_
    refine go_p rfl rfl rfl (o_load_box 0 Try.isAgg28 rfl rfl rfl rfl) ?_
    refine go_p rfl rfl rfl (.view (peekQ (i := 24) 2 rfl rfl rfl) (o_len Try.runUnderlying28 rfl)) ?_
    refine go_p rfl rfl rfl (o_cmp rfl rfl rfl) ?_
    refine go_nil ?_
    refine g_cond rfl (fun hc2 => ?_) (fun hc2 => ?_)
    · replace hm := cond_t hc2 hm
      refine g_seq ?_
      refine g_region ?_
      refine go_p rfl rfl rfl (o_move rfl) ?_
      refine go_p rfl rfl rfl (o_assign rfl) ?_
      refine go_p rfl rfl rfl (o_assign rfl) ?_
      refine go_nil ?_
      refine g_ret ?_
      have hq1 := some_eq hm
      obtain ⟨rfl, hq2⟩ := Prod.mk.inj hq1
      obtain ⟨rfl, rfl⟩ := Prod.mk.inj hq2
      exact retK (ret_many (ds := [_, _]) rfl (by decide) ⟨ret_tmp rfl, ⟨ret_tmp rfl, rfl⟩⟩ (permA 0 rfl (permA 0 rfl (permA 0 rfl permN)))) ⟨_, _, _, rfl, rfl⟩
    · replace hm := cond_f hc2 hm
      refine g_skip ?_
      refine g_seq ?_
      refine g_region ?_
      refine go_p rfl rfl rfl (o_move rfl) ?_
      refine go_p rfl rfl rfl (o_nilCheck_box rfl) ?_
      refine go_p rfl rfl rfl (o_fieldAddr_box fi_110_1 rfl) ?_
      refine go_p rfl rfl rfl (o_load_box 0 Try.isAgg28 rfl rfl rfl rfl) ?_
      obtain ⟨x1, hx1, hm⟩ := bind_some hm
      refine go_p rfl rfl rfl (.view (peekQ (i := 31) 2 rfl rfl rfl) (o_indexAddr_m Try.runUnderlying28 Try.sizeOf3 rfl rfl hx1)) ?_
      refine go_p rfl rfl rfl (o_load Try.isAgg3 rfl rfl) ?_
      refine go_p rfl rfl rfl (o_assign rfl) ?_
      refine go_nil ?_
      refine g_seq ?_
      refine g_region ?_
      refine go_p rfl rfl rfl (o_move rfl) ?_
      refine go_p rfl rfl rfl (o_move rfl) ?_
      refine go_p rfl rfl rfl (o_nilCheck_box rfl) ?_
      refine go_p rfl rfl rfl (o_fieldAddr_box fi_110_1 rfl) ?_
      refine go_p rfl rfl rfl (o_load_box 0 Try.isAgg28 rfl rfl rfl rfl) ?_
      obtain ⟨l1, hx2, hm⟩ := bind_some hm
      refine go_op rfl rfl rfl (o_slice_que 2 Try.runUnderlying28 Try.sizeOf3 rfl rfl rfl rfl hx2) ?_
      rintro _ _ ⟨a_q0c1, cap_q0c1, rfl, rfl⟩
      refine go_p rfl rfl rfl (o_nilCheck_box rfl) ?_
      refine go_p rfl rfl rfl (o_fieldAddr_box fi_110_1 rfl) ?_
      refine go_u rfl rfl (o_store_box 0 Try.sizeOf28 rfl rfl rfl rfl rfl rfl rfl rfl (Nat.le_of_ble_eq_true rfl)) ?_
      rintro _ _ rfl
      refine go_ms (ms' := [box b_q0 110 [_, _], _, _]) rfl ?_
      refine go_nil ?_
      refine g_seq ?_
      refine g_region ?_
      refine go_p rfl rfl rfl (o_move rfl) ?_
      refine go_p rfl rfl rfl (o_assign rfl) ?_
      refine go_p rfl rfl rfl (o_assign rfl) ?_
      refine go_nil ?_
      refine g_ret ?_
      have hq1 := some_eq hm
      obtain ⟨rfl, hq2⟩ := Prod.mk.inj hq1
      obtain ⟨rfl, rfl⟩ := Prod.mk.inj hq2
      exact retK (ret_many (ds := [_, _]) rfl (by decide) ⟨ret_tmp rfl, ⟨ret_tmp rfl, rfl⟩⟩ (permA 0 rfl (permA 0 rfl (permA 0 rfl permN)))) ⟨_, _, _, rfl, rfl⟩
  · skip
    obtain ⟨x2, hx3, hm⟩ := bind_some hm
    obtain ⟨l2, hx4, hm⟩ := bind_some hm
    refine g_selp rfl rfl (s_recv_some 1 Try.zeroValue3 rfl rfl hx3 hx4) (fun _ _ => rfl) ?_
    refine go_ms (ms' := [box b_q0 110 [_, _], _, _]) rfl ?_
    refine go_p rfl rfl rfl (o_extract rfl rfl) ?_
    refine go_p rfl rfl rfl (o_cmp rfl rfl rfl) ?_
    refine go_nil ?_
    refine g_block ?_
    refine g_cond_true rfl rfl ?_
    refine g_seq ?_
    refine g_region ?_
    refine go_p rfl rfl rfl (o_extract rfl rfl) ?_
    refine go_p rfl rfl rfl (o_assign rfl) ?_
    refine go_nil ?_
    refine g_seq ?_
    refine g_region ?_
    refine go_p rfl rfl rfl (o_move rfl) ?_
    obtain ⟨s1, hx5, hm⟩ := bind_some hm
    refine go_op rfl rfl rfl (o_call_own [0, 1, 2] Try.call69 rfl rfl (getL_c rfl (getL_c rfl (getL_c rfl getL_n))) (w_qi_fill hx5) (by rintro _ _ ⟨_, _, _, rfl, rfl⟩; rfl)) ?_
    rintro _ _ ⟨_, ⟨c_q0c0, a_q0c1, cap_q0c1, rfl, rfl⟩, rfl⟩
    refine go_ms (ms' := [box b_q0 110 [_, _], _, _]) rfl ?_
    refine go_nil ?_
    refine g_seq ?_
    refine g_region ?_
    refine go_p rfl rfl rfl (o_move rfl) ?_
    refine go_p rfl rfl rfl (o_assign rfl) ?_
    refine go_p rfl rfl rfl (o_assign rfl) ?_
    refine go_nil ?_
    refine g_ret ?_
    have hq1 := some_eq hm
    obtain ⟨rfl, hq2⟩ := Prod.mk.inj hq1
    obtain ⟨rfl, rfl⟩ := Prod.mk.inj hq2
    exact retK (ret_many (ds := [_, _]) rfl (by decide) ⟨ret_tmp rfl, ⟨ret_tmp rfl, rfl⟩⟩ (permA 0 rfl (permA 0 rfl (permA 0 rfl permN)))) ⟨_, _, _, rfl, rfl⟩
def m_qi_Len (q1 : QueueQueueInt)  : Option Int :=
  grd (InR ((q1.first.2.length : Int) + (q1.more.length : Int))) <|
  some ((q1.first.2.length : Int) + (q1.more.length : Int))
theorem w_qi_Len {q1 : QueueQueueInt}  {r_1 : Int} {b_q0 : Nat} {c_q0c0 : Nat} {a_q0c1 : Option Addr} {cap_q0c1 : Nat} (hm : m_qi_Len q1 = some r_1) : Go.V.Fn Try.prog 21 [.v (.pointer (some ⟨b_q0, 0, none⟩))] [box b_q0 110 [.v (.chan (some c_q0c0)), .v (.slice a_q0c1 q1.more.length cap_q0c1)], chn c_q0c0 q1.first.1 D.i64 q1.first.2, que a_q0c1 cap_q0c1 3 1 D.i64 q1.more] (fun d ms' => d = .i64 r_1 ∧ ms' = [box b_q0 110 [.v (.chan (some c_q0c0)), .v (.slice a_q0c1 q1.more.length cap_q0c1)], chn c_q0c0 q1.first.1 D.i64 q1.first.2, que a_q0c1 cap_q0c1 3 1 D.i64 q1.more]) := by
  unfold m_qi_Len at hm
  refine fn_intro Try.func21 rfl Try.ntmps21 rfl fun H0 fr w0 => ?_
  refine g_seq ?_
  refine g_region ?_
  refine go_p rfl rfl rfl (o_assign rfl) ?_
  refine go_nil ?_
  refine g_seq ?_
  refine g_seq ?_
  refine g_region ?_
  refine go_p rfl rfl rfl (o_move rfl) ?_
  refine go_p rfl rfl rfl (o_eqnil Try.runUnderlying23 rfl nilP_ptr rfl) ?_
  refine go_nil ?_
  refine g_cond_false rfl rfl ?_
  refine g_skip ?_
  refine g_seq ?_
  obtain ⟨hg1, hm⟩ := grd_some hm
  refine g_draw 12 Try_mixed (by decide +kernel) ?_
  refine gd_p rfl rfl rfl (o_move rfl) ?_
  refine gd_p rfl rfl rfl (o_nilCheck_box rfl) ?_
  refine gd_p rfl rfl rfl (o_fieldAddr_box fi_110_0 rfl) ?_
  refine gd_p rfl rfl rfl (o_load_box 0 Try.isAgg108 rfl rfl rfl rfl) ?_
  refine gd_p rfl rfl rfl (o_len_chn 1 Try.underlying108 rfl rfl) ?_
  refine gd_p rfl rfl rfl (o_move rfl) ?_
  refine gd_p rfl rfl rfl (o_nilCheck_box rfl) ?_
  refine gd_p rfl rfl rfl (o_fieldAddr_box fi_110_1 rfl) ?_
  refine gd_p rfl rfl rfl (o_load_box 0 Try.isAgg28 rfl rfl rfl rfl) ?_
  refine gd_p rfl rfl rfl (.view (peekQ (i := 13) 2 rfl rfl rfl) (o_len Try.runUnderlying28 rfl)) ?_
  refine gd_p rfl rfl rfl (o_add rfl rfl (i64_id hg1)) ?_
  refine gd_p rfl rfl rfl (o_assign rfl) ?_
  refine gd_nil ?_
  refine go_nil ?_
  refine g_ret ?_
  obtain rfl := some_eq hm
  exact retK (ret_one' rfl (ret_tmp rfl) (permA 0 rfl (permA 0 rfl (permA 0 rfl permN)))) ⟨rfl, rfl⟩
def m_qi_Room (q1 : QueueQueueInt)  : Option Int :=
  some (q1.first.1 : Int)
theorem w_qi_Room {q1 : QueueQueueInt}  {r_1 : Int} {b_q0 : Nat} {c_q0c0 : Nat} {a_q0c1 : Option Addr} {cap_q0c1 : Nat} (hm : m_qi_Room q1 = some r_1) : Go.V.Fn Try.prog 14 [.v (.pointer (some ⟨b_q0, 0, none⟩))] [box b_q0 110 [.v (.chan (some c_q0c0)), .v (.slice a_q0c1 q1.more.length cap_q0c1)], chn c_q0c0 q1.first.1 D.i64 q1.first.2, que a_q0c1 cap_q0c1 3 1 D.i64 q1.more] (fun d ms' => d = .i64 r_1 ∧ ms' = [box b_q0 110 [.v (.chan (some c_q0c0)), .v (.slice a_q0c1 q1.more.length cap_q0c1)], chn c_q0c0 q1.first.1 D.i64 q1.first.2, que a_q0c1 cap_q0c1 3 1 D.i64 q1.more]) := by
  unfold m_qi_Room at hm
  refine fn_intro Try.func14 rfl Try.ntmps14 rfl fun H0 fr w0 => ?_
  refine g_seq ?_
  refine g_region ?_
  refine go_p rfl rfl rfl (o_assign rfl) ?_
  refine go_nil ?_
  refine g_seq ?_
  refine g_seq ?_
  refine g_region ?_
  refine go_p rfl rfl rfl (o_move rfl) ?_
  refine go_p rfl rfl rfl (o_eqnil Try.runUnderlying23 rfl nilP_ptr rfl) ?_
  refine go_nil ?_
  refine g_cond_false rfl rfl ?_
  refine g_skip ?_
  refine g_seq ?_
  refine g_region ?_
  refine go_p rfl rfl rfl (o_move rfl) ?_
  refine go_p rfl rfl rfl (o_nilCheck_box rfl) ?_
  refine go_p rfl rfl rfl (o_fieldAddr_box fi_110_0 rfl) ?_
  refine go_p rfl rfl rfl (o_load_box 0 Try.isAgg108 rfl rfl rfl rfl) ?_
  refine go_p rfl rfl rfl (o_cap_chn 1 Try.underlying108 rfl rfl) ?_
  refine go_p rfl rfl rfl (o_assign rfl) ?_
  refine go_nil ?_
  refine g_ret ?_
  obtain rfl := some_eq hm
  exact retK (ret_one' rfl (ret_tmp rfl) (permA 0 rfl (permA 0 rfl (permA 0 rfl permN)))) ⟨rfl, rfl⟩
def m_qi_Drain_l1  : Nat → ((List Int) × (Nat × List Int) × (List Int)) → Option ((List Int) × QueueQueueInt)
  | 0, _ => none
  | n + 1, (l1, ch1, l2) =>
    (m_qi_Pop (⟨ch1, l2⟩ : QueueQueueInt)).bind fun (x1, x2, s1) =>
    bif (!x2) then
      some (l1, (⟨s1.first, s1.more⟩ : QueueQueueInt))
    else
      grd ((l1.length + ([x1] : List _).length) * 8 ≤ 140737488355328) <|
      m_qi_Drain_l1 n ((l1 ++ [x1]), s1.first, s1.more)
def m_qi_Drain (q1 : QueueQueueInt)  : Option ((List Int) × QueueQueueInt) :=
  m_qi_Drain_l1 FU ([], q1.first, q1.more)
theorem w_qi_Drain {q1 : QueueQueueInt}  {r_1 : (List Int)} {s_1 : QueueQueueInt} {b_q0 : Nat} {c_q0c0 : Nat} {a_q0c1 : Option Addr} {cap_q0c1 : Nat} (hm : m_qi_Drain q1 = some (r_1, s_1)) : Go.V.Fn Try.prog 19 [.v (.pointer (some ⟨b_q0, 0, none⟩))] [box b_q0 110 [.v (.chan (some c_q0c0)), .v (.slice a_q0c1 q1.more.length cap_q0c1)], chn c_q0c0 q1.first.1 D.i64 q1.first.2, que a_q0c1 cap_q0c1 3 1 D.i64 q1.more] (fun d ms' => ∃ c_s_1c0 a_s_1c1 cap_s_1c1, d = .list 1 D.i64 r_1 ∧ ms' = [box b_q0 110 [.v (.chan (some c_s_1c0)), .v (.slice a_s_1c1 s_1.more.length cap_s_1c1)], chn c_s_1c0 s_1.first.1 D.i64 s_1.first.2, que a_s_1c1 cap_s_1c1 3 1 D.i64 s_1.more]) := by
  unfold m_qi_Drain at hm
  refine fn_intro Try.func19 rfl Try.ntmps19 rfl fun H0 fr w0 => ?_
  refine g_seq ?_
  refine g_region ?_
  refine go_p rfl rfl rfl (o_assign rfl) ?_
  refine go_conv (nilE (i := 2) (sz := 1) (f := D.i64) rfl).refines ?_
  refine go_nil ?_
  refine g_seq ?_
  refine g_region ?_
  refine go_p rfl rfl rfl (o_assign rfl) ?_
  refine go_conv (refines_newrow (T := 3) (sz := 1) (f := D.i64)) ?_
  refine go_nil ?_
  refine g_block ?_
  refine g_loop_m [(0, _)] [] (fun (st : ((List Int) × (Nat × List Int) × (List Int))) (hid : (Option Addr × Nat) × Nat × (Option Addr × Nat)) => match st, hid with | (l1, ch1, l2), ((a_r1, cap_r1), c_q0c0, (a_q0c1, cap_q0c1)) => [(3, .v (.slice a_r1 l1.length cap_r1))]) (fun F (st : ((List Int) × (Nat × List Int) × (List Int))) (hid : (Option Addr × Nat) × Nat × (Option Addr × Nat)) => match st, hid with | (l1, ch1, l2), ((a_r1, cap_r1), c_q0c0, (a_q0c1, cap_q0c1)) => [row a_r1 cap_r1 3 1 D.i64 l1, box b_q0 110 [.v (.chan (some c_q0c0)), .v (.slice a_q0c1 l2.length cap_q0c1)], chn c_q0c0 ch1.1 D.i64 ch1.2, que a_q0c1 cap_q0c1 3 1 D.i64 l2]) ((_, _), _, (_, _)) hm (fun _ => rfl) ⟨rfl, trivial⟩ trivial ⟨rfl, trivial⟩ rfl ?_
  rintro n ⟨l1, ch1, l2⟩ ⟨⟨a_r1, cap_r1⟩, c_q0c0, ⟨a_q0c1, cap_q0c1⟩⟩ hm
  rw [m_qi_Drain_l1] at hm
  refine g_norm (L' := [(3, .v (.slice a_r1 l1.length cap_r1)), (0, _)]) (ms' := [row a_r1 cap_r1 3 1 D.i64 l1, box b_q0 110 [.v (.chan (some c_q0c0)), .v (.slice a_q0c1 l2.length cap_q0c1)], chn c_q0c0 ch1.1 D.i64 ch1.2, que a_q0c1 cap_q0c1 3 1 D.i64 l2]) rfl rfl ?_
  refine g_block ?_
  refine g_seq ?_
  refine g_region ?_
  refine go_p rfl rfl rfl (o_move rfl) ?_
  obtain ⟨⟨x1, x2, s1⟩, hx1, hm⟩ := bind_some hm
  refine go_op rfl rfl rfl (o_call_own [1, 2, 3] Try.call16 rfl rfl (getL_c rfl (getL_c rfl (getL_c rfl getL_n))) (w_qi_Pop hx1) (by rintro _ _ ⟨_, _, _, rfl, rfl⟩; rfl)) ?_
  rintro _ _ ⟨_, ⟨c_q0c0, a_q0c1, cap_q0c1, rfl, rfl⟩, rfl⟩
  refine go_ms (ms' := [_, box b_q0 110 [_, _], _, _]) rfl ?_
  refine go_p rfl rfl rfl (o_move rfl) ?_
  refine go_p rfl rfl rfl (o_extract rfl rfl) ?_
  refine go_p rfl rfl rfl (o_extract rfl rfl) ?_
  refine go_p rfl rfl rfl (o_assign rfl) ?_
  refine go_p rfl rfl rfl (o_assign rfl) ?_
  refine go_nil ?_
  refine g_seq ?_
  refine g_seq ?_
  refine g_region ?_
  refine go_p rfl rfl rfl (o_move rfl) ?_
  refine go_p rfl rfl rfl (o_not rfl) ?_
  refine go_nil ?_
  refine g_cond rfl (fun hc1 => ?_) (fun hc1 => ?_)
  · replace hm := cond_t hc1 hm
    refine g_seq ?_
    refine g_region ?_
    refine go_p rfl rfl rfl (o_move rfl) ?_
    refine go_p rfl rfl rfl (o_assign rfl) ?_
    refine go_nil ?_
    refine g_conv (peekE (i := 2) 0 rfl rfl rfl).refines ?_
    refine g_ret ?_
    have hq1 := some_eq hm
    obtain ⟨rfl, rfl⟩ := Prod.mk.inj hq1
    exact retK (ret_one' rfl (ret_tmp rfl) (permA 1 rfl (permA 1 rfl (permA 1 rfl permN)))) ⟨_, _, _, rfl, rfl⟩
  · replace hm := cond_f hc1 hm
    refine g_skip ?_
    refine g_region ?_
    refine go_p rfl rfl rfl (o_move rfl) ?_
    refine go_p rfl rfl rfl (o_move rfl) ?_
    refine go_p rfl rfl rfl (o_buildSlice (xs := [_]) (f := D.i64) (l := [_]) Try.runUnderlying28 Try.sizeOf3 Try.zeroValue3 rfl rfl rfl (fun _ => ⟨rfl, rfl, rfl⟩) rfl) ?_
    obtain ⟨hg2, hm⟩ := grd_some hm
    refine go_op rfl rfl rfl (o_append (a := _) 0 Try.underlying28 Try.type3 rfl rfl rfl rfl rfl rfl rfl (fun _ => rfl) (fun _ => rfl) hg2 (app_len hg2 rfl)) ?_
    rintro _ _ ⟨a_r1, cap_r1, rfl, rfl⟩
    refine go_ms (ms' := [_, box b_q0 110 [_, _], _, _]) rfl ?_
    refine go_p rfl rfl rfl (o_assign rfl) ?_
    refine go_nil ?_
    exact ⟨_, ((_, _), _, (_, _)), hm, ⟨rfl, trivial⟩, ⟨rfl, trivial⟩, [], rfl⟩
theorem pl_30 : ∀ fs, (∀ w, (underlying 30).run Try.prog w = .ok (.struct fs) w) → placesOf Try.prog fs [(0, 1), (1, 1)] := by
  intro fs h w
  have := (h w).symm.trans (Try.runUnderlying30 w)
  simp only [Result.ok.injEq, TypeDesc.struct.injEq, and_true] at this
  subst this
  simp [Try.sizeOf28, Try.sizeOf3, Sem.run]
structure Syntagmaref18Row where
  l : (List Int)
  room : Int
def Syntagmaref18Row.d (x : Syntagmaref18Row) : D := .agg [.list 1 D.i64 x.l, .i64 x.room]
def m_ref18_New (room1 : Int)  : Option Syntagmaref18Row :=
  some (⟨([] : List Int), (if 64 < (if 0 > room1 then 0 else room1) then 64 else (if 0 > room1 then 0 else room1))⟩ : Syntagmaref18Row)
theorem w_ref18_New {room1 : Int}  {s_1 : Syntagmaref18Row} (hm : m_ref18_New room1 = some s_1) : Go.V.Fn Try.prog 13 [.i64 room1] [] (fun d ms' => ∃ b_s_1 a_s_1c0 cap_s_1c0, d = .v (.pointer (some ⟨b_s_1, 0, none⟩)) ∧ ms' = [box b_s_1 30 [.v (.slice a_s_1c0 s_1.l.length cap_s_1c0), .i64 s_1.room], row a_s_1c0 cap_s_1c0 3 1 D.i64 s_1.l]) := by
  unfold m_ref18_New at hm
  refine fn_intro Try.func13 rfl Try.ntmps13 rfl fun H0 fr w0 => ?_
  refine g_seq ?_
  refine g_region ?_
  refine go_p rfl rfl rfl (o_assign rfl) ?_
  refine go_nil ?_
  refine g_seq ?_
  refine g_region ?_
  refine go_p rfl rfl rfl (o_move rfl) ?_
  refine go_p rfl rfl rfl (o_max rfl rfl) ?_
  refine go_p rfl rfl rfl (o_min rfl rfl) ?_
  refine go_p rfl rfl rfl (o_build (zs := [.v (.slice none 0 0), .v (.int .i64 0)]) Try.runUnderlying30 Try.zeroValue30 (pl_30 _ Try.runUnderlying30) rfl rfl rfl rfl) ?_
  refine go_op rfl rfl rfl (o_box_own rfl rfl rfl) ?_
  rintro _ _ ⟨b1, rfl, rfl⟩
  refine go_conv (refines_newrow (T := 3) (sz := 1) (f := D.i64)) ?_
  refine go_p rfl rfl rfl (o_assign rfl) ?_
  refine go_nil ?_
  refine g_ret ?_
  obtain rfl := some_eq hm
  exact retK (ret_one' rfl (ret_tmp rfl) (permA 1 rfl (permA 0 rfl permN))) ⟨_, _, _, rfl, rfl⟩
theorem fi_30_0 : FieldIs Try.prog 30 0 0 1 false := ⟨⟨_, _, Try.runUnderlying30, rfl, rfl, Try.sizeOf28, by decide, Try.isAgg28⟩⟩
def m_ref18_Pop (q1 : Syntagmaref18Row)  : Option (Int × Bool × Syntagmaref18Row) :=
  bif (decide ((q1.l.length : Int) = 0)) then
    some (0, false, (⟨q1.l, q1.room⟩ : Syntagmaref18Row))
  else
    (idx q1.l 0).bind fun x1 =>
    (sli q1.l 1 (q1.l.length : Int)).bind fun l1 =>
    grd ((0 + l1.length) * 8 ≤ 140737488355328) <|
    some (x1, true, (⟨([] ++ l1), q1.room⟩ : Syntagmaref18Row))
theorem w_ref18_Pop {q1 : Syntagmaref18Row}  {r_1 : Int} {r_2 : Bool} {s_1 : Syntagmaref18Row} {b_q0 : Nat} {a_q0c0 : Option Addr} {cap_q0c0 : Nat} (hm : m_ref18_Pop q1 = some (r_1, r_2, s_1)) : Go.V.Fn Try.prog 17 [.v (.pointer (some ⟨b_q0, 0, none⟩))] [box b_q0 30 [.v (.slice a_q0c0 q1.l.length cap_q0c0), .i64 q1.room], row a_q0c0 cap_q0c0 3 1 D.i64 q1.l] (fun d ms' => ∃ a_s_1c0 cap_s_1c0, d = .tup [.i64 r_1, .bool r_2] ∧ ms' = [box b_q0 30 [.v (.slice a_s_1c0 s_1.l.length cap_s_1c0), .i64 s_1.room], row a_s_1c0 cap_s_1c0 3 1 D.i64 s_1.l]) := by
  unfold m_ref18_Pop at hm
  refine fn_intro Try.func17 rfl Try.ntmps17 rfl fun H0 fr w0 => ?_
  refine g_seq ?_
  refine g_region ?_
  refine go_p rfl rfl rfl (o_assign rfl) ?_
  refine go_p rfl rfl rfl (o_assign rfl) ?_
  refine go_nil ?_
  refine g_seq ?_
  refine g_seq ?_
  refine g_region ?_
  refine go_p rfl rfl rfl (o_move rfl) ?_
  refine go_p rfl rfl rfl (o_nilCheck_box rfl) ?_
  refine go_p rfl rfl rfl (o_fieldAddr_box fi_30_0 rfl) ?_
  refine go_p rfl rfl rfl (o_load_box 0 Try.isAgg28 rfl rfl rfl rfl) ?_
  refine go_p rfl rfl rfl (.view (peekE (i := 8) 1 rfl rfl rfl) (o_len Try.runUnderlying28 rfl)) ?_
  refine go_p rfl rfl rfl (o_cmp rfl rfl rfl) ?_
  refine go_nil ?_
  refine g_cond rfl (fun hc1 => ?_) (fun hc1 => ?_)
  · replace hm := cond_t hc1 hm
    refine g_seq ?_
    refine g_region ?_
    refine go_p rfl rfl rfl (o_assign rfl) ?_
    refine go_p rfl rfl rfl (o_assign rfl) ?_
    refine go_nil ?_
    refine g_ret ?_
    have hq1 := some_eq hm
    obtain ⟨rfl, hq2⟩ := Prod.mk.inj hq1
    obtain ⟨rfl, rfl⟩ := Prod.mk.inj hq2
    exact retK (ret_many (ds := [_, _]) rfl (by decide) ⟨ret_tmp rfl, ⟨ret_tmp rfl, rfl⟩⟩ (permA 0 rfl (permA 0 rfl permN))) ⟨_, _, rfl, rfl⟩
  · replace hm := cond_f hc1 hm
    refine g_skip ?_
    refine g_seq ?_
    refine g_region ?_
    refine go_p rfl rfl rfl (o_move rfl) ?_
    refine go_p rfl rfl rfl (o_nilCheck_box rfl) ?_
    refine go_p rfl rfl rfl (o_fieldAddr_box fi_30_0 rfl) ?_
    refine go_p rfl rfl rfl (o_load_box 0 Try.isAgg28 rfl rfl rfl rfl) ?_
    obtain ⟨x1, hx1, hm⟩ := bind_some hm
    refine go_p rfl rfl rfl (.view (peekE (i := 14) 1 rfl rfl rfl) (o_indexAddr_m Try.runUnderlying28 Try.sizeOf3 rfl rfl hx1)) ?_
    refine go_p rfl rfl rfl (o_load Try.isAgg3 rfl rfl) ?_
    refine go_p rfl rfl rfl (o_assign rfl) ?_
    refine go_nil ?_
    refine g_seq ?_
    refine g_region ?_
    refine go_p rfl rfl rfl (o_move rfl) ?_
    refine go_op rfl rfl rfl (o_buildSlice_row (xs := []) (f := D.i64) (l := []) Try.runUnderlying28 Try.sizeOf3 Try.zeroValue3 rfl rfl rfl (fun _ => ⟨rfl, rfl, rfl⟩) rfl (by simp [maxLen])) ?_
    rintro _ _ ⟨a_r1, rfl, rfl⟩
    refine go_p rfl rfl rfl (o_move rfl) ?_
    refine go_p rfl rfl rfl (o_nilCheck_box rfl) ?_
    refine go_p rfl rfl rfl (o_fieldAddr_box fi_30_0 rfl) ?_
    refine go_p rfl rfl rfl (o_load_box 1 Try.isAgg28 rfl rfl rfl rfl) ?_
    obtain ⟨l1, hx2, hm⟩ := bind_some hm
    refine go_p rfl rfl rfl (.view (peekE (i := 22) 2 rfl rfl rfl) (o_slice_m Try.runUnderlying28 Try.sizeOf3 rfl ⟨_, rfl⟩ rfl hx2)) ?_
    obtain ⟨hg3, hm⟩ := grd_some hm
    refine go_op rfl rfl rfl (o_append (a := _) 0 Try.underlying28 Try.type3 rfl rfl rfl rfl rfl rfl rfl (fun _ => rfl) (fun _ => rfl) hg3 (app_len hg3 rfl)) ?_
    rintro _ _ ⟨a_r1, cap_r1, rfl, rfl⟩
    refine go_ms (ms' := [_, box b_q0 30 [_, _], _]) rfl ?_
    refine go_p rfl rfl rfl (o_nilCheck_box rfl) ?_
    refine go_p rfl rfl rfl (o_fieldAddr_box fi_30_0 rfl) ?_
    refine go_u rfl rfl (o_store_box 1 Try.sizeOf28 rfl rfl rfl rfl rfl rfl rfl rfl (Nat.le_of_ble_eq_true rfl)) ?_
    rintro _ _ rfl
    refine go_ms (ms' := [_, box b_q0 30 [_, _], _]) rfl ?_
    refine go_conv (refines_shift 0 2 rfl rfl rfl rfl) ?_
    refine go_nil ?_
    refine g_seq ?_
    refine g_region ?_
    refine go_p rfl rfl rfl (o_move rfl) ?_
    refine go_p rfl rfl rfl (o_assign rfl) ?_
    refine go_p rfl rfl rfl (o_assign rfl) ?_
    refine go_nil ?_
    refine g_ret ?_
    have hq1 := some_eq hm
    obtain ⟨rfl, hq2⟩ := Prod.mk.inj hq1
    obtain ⟨rfl, rfl⟩ := Prod.mk.inj hq2
    exact retK (ret_many (ds := [_, _]) rfl (by decide) ⟨ret_tmp rfl, ⟨ret_tmp rfl, rfl⟩⟩ (permA 0 rfl (permA 0 rfl permN))) ⟨_, _, rfl, rfl⟩
def m_syntagmabase_Among (x1 : Int) (n1 : Int) : Option Int :=
  bif (decide (n1 < 1)) then
    some 0
  else
    grd ((IntKind.u64.wrap n1) ≠ 0) <|
    some (IntKind.i64.wrap (Int.tmod (IntKind.u64.wrap x1) (IntKind.u64.wrap n1)))
theorem w_syntagmabase_Among {x1 : Int} {n1 : Int} {r_1 : Int} (hm : m_syntagmabase_Among x1 n1 = some r_1) : Fn0 Try.prog 15 [.i64 x1, .i64 n1] (.i64 r_1) := by
  unfold m_syntagmabase_Among at hm
  refine fn_intro Try.func15 rfl Try.ntmps15 rfl fun H0 fr w0 => ?_
  refine g_seq ?_
  refine g_region ?_
  refine go_p rfl rfl rfl (o_assign rfl) ?_
  refine go_nil ?_
  refine g_seq ?_
  refine g_seq ?_
  refine g_region ?_
  refine go_p rfl rfl rfl (o_move rfl) ?_
  refine go_p rfl rfl rfl (o_cmp rfl rfl rfl) ?_
  refine go_nil ?_
  refine g_cond rfl (fun hc1 => ?_) (fun hc1 => ?_)
  · replace hm := cond_t hc1 hm
    refine g_seq ?_
    refine g_region ?_
    refine go_p rfl rfl rfl (o_assign rfl) ?_
    refine go_nil ?_
    refine g_ret ?_
    exact retK (ret_one' rfl (ret_tmp rfl) (perm_drop _)) (congrArg (fun (p : Int) => (.i64 p : D)) (some_eq hm))
  · replace hm := cond_f hc1 hm
    refine g_skip ?_
    refine g_seq ?_
    refine g_region ?_
    refine go_p rfl rfl rfl (o_move rfl) ?_
    refine go_p rfl rfl rfl (o_conv Try.runUnderlying3 Try.runUnderlying111 rfl rfl) ?_
    refine go_p rfl rfl rfl (o_move rfl) ?_
    refine go_p rfl rfl rfl (o_conv Try.runUnderlying3 Try.runUnderlying111 rfl rfl) ?_
    obtain ⟨hg1, hm⟩ := grd_some hm
    refine go_p rfl rfl rfl (o_rem rfl rfl hg1) ?_
    refine go_p rfl rfl rfl (o_conv Try.runUnderlying111 Try.runUnderlying3 rfl rfl) ?_
    refine go_p rfl rfl rfl (o_assign rfl) ?_
    refine go_nil ?_
    refine g_ret ?_
    exact retK (ret_one' rfl (ret_tmp rfl) (perm_drop _)) (congrArg (fun (p : Int) => (.i64 p : D)) (some_eq hm))
def m_syntagmabase_SameInts_l1 (a1 : (List Int)) (b1 : (List Int)) : Nat → Int → Option (Out Bool Unit)
  | 0, _ => none
  | n + 1, i1 =>
    bif (decide (i1 < (a1.length : Int))) then
      (idx a1 i1).bind fun x1 =>
      (idx b1 i1).bind fun x2 =>
      bif (!decide (x1 = x2)) then
        some (Out.ret false)
      else
        grd (InR (i1 + 1)) <|
        m_syntagmabase_SameInts_l1 a1 b1 n (i1 + 1)
    else
      some (Out.go (()))
def m_syntagmabase_SameInts (a1 : (List Int)) (b1 : (List Int)) : Option Bool :=
  bif (!decide ((a1.length : Int) = (b1.length : Int))) then
    some false
  else
    ((m_syntagmabase_SameInts_l1 a1 b1 FU 0 : Option (Out Bool Unit))).bind (fun oo => oo.on (fun r1 => some r1) (fun _ =>
    some true))
theorem w_syntagmabase_SameInts {a1 : (List Int)} {b1 : (List Int)} {r_1 : Bool} (hm : m_syntagmabase_SameInts a1 b1 = some r_1) : Fn0 Try.prog 18 [.list 1 D.i64 a1, .list 1 D.i64 b1] (.bool r_1) := by
  unfold m_syntagmabase_SameInts at hm
  refine fn_intro Try.func18 rfl Try.ntmps18 rfl fun H0 fr w0 => ?_
  refine g_seq ?_
  refine g_region ?_
  refine go_p rfl rfl rfl (o_assign rfl) ?_
  refine go_nil ?_
  refine g_seq ?_
  refine g_seq ?_
  refine g_region ?_
  refine go_p rfl rfl rfl (o_move rfl) ?_
  refine go_p rfl rfl rfl (o_len Try.runUnderlying28 rfl) ?_
  refine go_p rfl rfl rfl (o_move rfl) ?_
  refine go_p rfl rfl rfl (o_len Try.runUnderlying28 rfl) ?_
  refine go_p rfl rfl rfl (o_cmp rfl rfl rfl) ?_
  refine go_nil ?_
  refine g_cond rfl (fun hc1 => ?_) (fun hc1 => ?_)
  · replace hm := cond_t hc1 hm
    refine g_seq ?_
    refine g_region ?_
    refine go_p rfl rfl rfl (o_assign rfl) ?_
    refine go_nil ?_
    refine g_ret ?_
    exact retK (ret_one' rfl (ret_tmp rfl) (perm_drop _)) (congrArg (fun (p : Bool) => (.bool p : D)) (some_eq hm))
  · replace hm := cond_f hc1 hm
    refine g_skip ?_
    refine g_seq ?_
    refine g_seq ?_
    refine g_region ?_
    refine go_p rfl rfl rfl (o_assign rfl) ?_
    refine go_nil ?_
    obtain ⟨o_1, hj1, hm1⟩ := bind_some hm
    refine g_cut_m [] [] (fun (st : Unit) (hid : Unit) => match st, hid with | _, _ => []) (fun F (st : Unit) (hid : Unit) => match st, hid with | _, _ => []) (fun st => Out.go (st) = o_1) trivial trivial ?_ ?_
    · skip
      refine g_block ?_
      refine g_loop_m [(0, _), (1, _)] [] (fun (st : Int) (hid : Unit) => match st, hid with | i1, _ => [(5, .i64 i1)]) (fun F (st : Int) (hid : Unit) => match st, hid with | i1, _ => []) () hj1 (fun _ => rfl) ⟨rfl, rfl, trivial⟩ trivial ⟨rfl, trivial⟩ rfl ?_
      rintro n i1 _ hj1
      rw [m_syntagmabase_SameInts_l1] at hj1
      refine g_norm (L' := [(5, .i64 i1), (0, _), (1, _)]) (ms' := []) rfl rfl ?_
      refine g_seq ?_
      refine g_seq ?_
      refine g_region ?_
      refine go_p rfl rfl rfl (o_move rfl) ?_
      refine go_p rfl rfl rfl (o_move rfl) ?_
      refine go_p rfl rfl rfl (o_len Try.runUnderlying28 rfl) ?_
      refine go_p rfl rfl rfl (o_cmp rfl rfl rfl) ?_
      refine go_nil ?_
      refine g_cond rfl (fun hc2 => ?_) (fun hc2 => ?_)
      · replace hj1 := cond_t hc2 hj1
        refine g_skip ?_
        refine g_seq ?_
        refine g_block ?_
        refine g_seq ?_
        obtain ⟨x1, hx1, hj1⟩ := bind_some hj1
        obtain ⟨x2, hx2, hj1⟩ := bind_some hj1
        refine g_draw 9 Try_mixed (by decide +kernel) ?_
        refine gd_p rfl rfl rfl (o_move rfl) ?_
        refine gd_p rfl rfl rfl (o_move rfl) ?_
        refine gd_p rfl rfl rfl (o_indexAddr_m Try.runUnderlying28 Try.sizeOf3 rfl rfl hx1) ?_
        refine gd_p rfl rfl rfl (o_load Try.isAgg3 rfl rfl) ?_
        refine gd_p rfl rfl rfl (o_move rfl) ?_
        refine gd_p rfl rfl rfl (o_move rfl) ?_
        refine gd_p rfl rfl rfl (o_indexAddr_m Try.runUnderlying28 Try.sizeOf3 rfl rfl hx2) ?_
        refine gd_p rfl rfl rfl (o_load Try.isAgg3 rfl rfl) ?_
        refine gd_p rfl rfl rfl (o_cmp rfl rfl rfl) ?_
        refine gd_nil ?_
        refine go_nil ?_
        refine g_cond rfl (fun hc3 => ?_) (fun hc3 => ?_)
        · replace hj1 := cond_t hc3 hj1
          refine g_seq ?_
          refine g_region ?_
          refine go_p rfl rfl rfl (o_assign rfl) ?_
          refine go_nil ?_
          refine g_ret ?_
          obtain rfl := some_eq hj1
          replace hm1 := on_ret hm1
          exact retK (ret_one' rfl (ret_tmp rfl) (perm_drop _)) (congrArg (fun (p : Bool) => (.bool p : D)) (some_eq hm1))
        · replace hj1 := cond_f hc3 hj1
          refine g_skip ?_
          refine g_region ?_
          refine go_p rfl rfl rfl (o_move rfl) ?_
          obtain ⟨hg3, hj1⟩ := grd_some hj1
          refine go_p rfl rfl rfl (o_add rfl rfl (i64_id hg3)) ?_
          refine go_p rfl rfl rfl (o_assign rfl) ?_
          refine go_nil ?_
          exact ⟨_, (), hj1, ⟨rfl, trivial⟩, ⟨rfl, rfl, trivial⟩, [], rfl⟩
      · replace hj1 := cond_f hc2 hj1
        refine g_exit ?_
        exact ⟨_, (), some_eq hj1, trivial, trivial, [], rfl⟩
    · rintro _ _ hst
      subst hst
      replace hm1 := on_go hm1
      refine k_norm (L' := []) (ms' := []) rfl rfl ?_
      refine g_seq ?_
      refine g_region ?_
      refine go_p rfl rfl rfl (o_assign rfl) ?_
      refine go_nil ?_
      refine g_ret ?_
      exact retK (ret_one' rfl (ret_tmp rfl) (perm_drop _)) (congrArg (fun (p : Bool) => (.bool p : D)) (some_eq hm1))
def m_syntagmalaw18_works  : Option Bool :=
  (m_qi_New 1).bind fun s1 =>
  (m_qi_Push (⟨s1.first, s1.more⟩ : QueueQueueInt) [1, 2]).bind fun s2 =>
  (m_qi_Pop (⟨s2.first, s2.more⟩ : QueueQueueInt)).bind fun (x1, x2, s3) =>
  (m_qi_Push (⟨s3.first, s3.more⟩ : QueueQueueInt) [3]).bind fun s4 =>
  bif (x2 && (decide (x1 = 1))) then ((m_qi_Drain (⟨s4.first, s4.more⟩ : QueueQueueInt)).bind fun (x3, s5) =>
  (m_syntagmabase_SameInts x3 [2, 3]).bind fun x4 =>
  (bif x4 then ((m_qi_Len (⟨s5.first, s5.more⟩ : QueueQueueInt)).bind fun x5 =>
  some (decide (x5 = 0))) else (some false)).bind fun p1 =>
  (bif p1 then ((m_qi_Room (⟨s5.first, s5.more⟩ : QueueQueueInt)).bind fun x6 =>
  some (decide (x6 = 1))) else (some false)).bind fun p2 =>
  some p2) else (some false)
theorem w_syntagmalaw18_works  {r_1 : Bool} (hm : m_syntagmalaw18_works = some r_1) : Fn0 Try.prog 22 [] (.bool r_1) := by
  unfold m_syntagmalaw18_works at hm
  refine fn_intro Try.func22 rfl Try.ntmps22 rfl fun H0 fr w0 => ?_
  refine g_seq ?_
  refine g_region ?_
  refine go_p rfl rfl rfl (o_assign rfl) ?_
  refine go_nil ?_
  refine g_seq ?_
  refine g_region ?_
  obtain ⟨s1, hx1, hm⟩ := bind_some hm
  refine go_op rfl rfl rfl (o_call (ms₁ := []) Try.call12 rfl (List.Perm.refl _) (w_qi_New hx1)) ?_
  rintro _ _ ⟨_, ⟨b1, c_r1, a_r2, cap_r2, rfl, rfl⟩, rfl⟩
  refine go_p rfl rfl rfl (o_assign rfl) ?_
  refine go_nil ?_
  refine g_seq ?_
  refine g_region ?_
  refine go_p rfl rfl rfl (o_move rfl) ?_
  refine go_p rfl rfl rfl (o_buildSlice (xs := [_, _]) (f := D.i64) (l := [_, _]) Try.runUnderlying28 Try.sizeOf3 Try.zeroValue3 rfl rfl rfl (fun _ => ⟨rfl, rfl, rfl⟩) rfl) ?_
  obtain ⟨s2, hx2, hm⟩ := bind_some hm
  refine go_op rfl rfl rfl (o_call_own [0, 1, 2] Try.call20 rfl rfl (getL_c rfl (getL_c rfl (getL_c rfl getL_n))) (w_qi_Push hx2) (by rintro _ _ ⟨_, _, _, rfl, rfl⟩; rfl)) ?_
  rintro _ _ ⟨_, ⟨c_r1, a_r2, cap_r2, rfl, rfl⟩, rfl⟩
  refine go_ms (ms' := [box b1 110 [_, _], _, _]) rfl ?_
  refine go_nil ?_
  refine g_seq ?_
  refine g_region ?_
  refine go_p rfl rfl rfl (o_move rfl) ?_
  obtain ⟨⟨x1, x2, s3⟩, hx3, hm⟩ := bind_some hm
  refine go_op rfl rfl rfl (o_call_own [0, 1, 2] Try.call16 rfl rfl (getL_c rfl (getL_c rfl (getL_c rfl getL_n))) (w_qi_Pop hx3) (by rintro _ _ ⟨_, _, _, rfl, rfl⟩; rfl)) ?_
  rintro _ _ ⟨_, ⟨c_r1, a_r2, cap_r2, rfl, rfl⟩, rfl⟩
  refine go_ms (ms' := [box b1 110 [_, _], _, _]) rfl ?_
  refine go_p rfl rfl rfl (o_move rfl) ?_
  refine go_p rfl rfl rfl (o_extract rfl rfl) ?_
  refine go_p rfl rfl rfl (o_extract rfl rfl) ?_
  refine go_p rfl rfl rfl (o_assign rfl) ?_
  refine go_p rfl rfl rfl (o_assign rfl) ?_
  refine go_nil ?_
  refine g_seq ?_
  refine g_region ?_
  refine go_p rfl rfl rfl (o_move rfl) ?_
  refine go_p rfl rfl rfl (o_buildSlice (xs := [_]) (f := D.i64) (l := [_]) Try.runUnderlying28 Try.sizeOf3 Try.zeroValue3 rfl rfl rfl (fun _ => ⟨rfl, rfl, rfl⟩) rfl) ?_
  obtain ⟨s4, hx4, hm⟩ := bind_some hm
  refine go_op rfl rfl rfl (o_call_own [0, 1, 2] Try.call20 rfl rfl (getL_c rfl (getL_c rfl (getL_c rfl getL_n))) (w_qi_Push hx4) (by rintro _ _ ⟨_, _, _, rfl, rfl⟩; rfl)) ?_
  rintro _ _ ⟨_, ⟨c_r1, a_r2, cap_r2, rfl, rfl⟩, rfl⟩
  refine go_ms (ms' := [box b1 110 [_, _], _, _]) rfl ?_
  refine go_nil ?_
  refine g_seq ?_
  refine g_region ?_
  refine go_p rfl rfl rfl (o_move rfl) ?_
  refine go_p rfl rfl rfl (o_move rfl) ?_
  apply go_and [(1, _)] 3 20 (t := 17) ⟨rfl, trivial⟩ rfl
  · intro hg_1 hk1
    refine go_wantp rfl rfl rfl hg_1 rfl rfl (o_move rfl) ?_
    refine go_wantp rfl rfl rfl hg_1 rfl rfl (o_cmp rfl rfl rfl) ?_
    refine go_p rfl rfl rfl (o_pickT rfl hg_1 rfl) ?_
    exact go_meet hk1 (rfl) ⟨rfl, trivial⟩
  · intro hg_1 hk1
    refine go_skip rfl rfl rfl hg_1 rfl rfl ?_
    refine go_skip rfl rfl rfl hg_1 rfl rfl ?_
    refine go_p rfl rfl rfl (o_pickF rfl hg_1 rfl) ?_
    exact go_meet hk1 (rfl) ⟨rfl, trivial⟩
  refine go_p rfl rfl rfl (o_move rfl) ?_
  rcases cond_split hm with ⟨hg_2, hm⟩ | ⟨hg_2, hm⟩
  · skip
    refine go_wantp rfl rfl rfl hg_2 rfl rfl (o_move rfl) ?_
    obtain ⟨⟨x3, s5⟩, hx5, hm⟩ := bind_some hm
    refine go_want rfl rfl rfl hg_2 rfl rfl (o_call_own [0, 1, 2] Try.call19 rfl rfl (getL_c rfl (getL_c rfl (getL_c rfl getL_n))) (w_qi_Drain hx5) (by rintro _ _ ⟨_, _, _, rfl, rfl⟩; rfl)) ?_
    rintro _ _ ⟨_, ⟨c_r1, a_r2, cap_r2, rfl, rfl⟩, rfl⟩
    refine go_ms (ms' := [box b1 110 [_, _], _, _]) rfl ?_
    refine go_wantp rfl rfl rfl hg_2 rfl rfl (o_buildSlice (xs := [_, _]) (f := D.i64) (l := [_, _]) Try.runUnderlying28 Try.sizeOf3 Try.zeroValue3 rfl rfl rfl (fun _ => ⟨rfl, rfl, rfl⟩) rfl) ?_
    obtain ⟨x4, hx6, hm⟩ := bind_some hm
    refine go_wantp rfl rfl rfl hg_2 rfl rfl (o_call0 Try.call18 rfl (w_syntagmabase_SameInts hx6)) ?_
    refine go_p rfl rfl rfl (o_pickT rfl hg_2 rfl) ?_
    refine go_p rfl rfl rfl (o_move rfl) ?_
    obtain ⟨p1, hp_3, hm⟩ := bind_some hm
    refine go_two [(1, _)] 4 31 p1 (t := 27) ⟨rfl, trivial⟩ rfl (fun hg_3 hk3 => ?_) (fun hg_3 hk3 => ?_) ?_
    · replace hp_3 := cond_t hg_3 hp_3
      refine go_wantp rfl rfl rfl hg_3 rfl rfl (o_move rfl) ?_
      obtain ⟨x5, hx7, hp_3⟩ := bind_some hp_3
      refine go_want rfl rfl rfl hg_3 rfl rfl (o_call_own [0, 1, 2] Try.call21 rfl rfl (getL_c rfl (getL_c rfl (getL_c rfl getL_n))) (w_qi_Len hx7) (by rintro _ _ ⟨rfl, rfl⟩; rfl)) ?_
      rintro _ _ ⟨_, ⟨rfl, rfl⟩, rfl⟩
      refine go_ms (ms' := [box b1 110 [_, _], _, _]) rfl ?_
      refine go_wantp rfl rfl rfl hg_3 rfl rfl (o_cmp rfl rfl rfl) ?_
      refine go_p rfl rfl rfl (o_pickT rfl hg_3 rfl) ?_
      exact go_meet hk3 (congrArg (fun b => some (D.bool b)) (some_eq hp_3)) ⟨rfl, trivial⟩
    · replace hp_3 := cond_f hg_3 hp_3
      refine go_skip rfl rfl rfl hg_3 rfl rfl ?_
      refine go_skip rfl rfl rfl hg_3 rfl rfl ?_
      refine go_skip rfl rfl rfl hg_3 rfl rfl ?_
      refine go_p rfl rfl rfl (o_pickF rfl hg_3 rfl) ?_
      exact go_meet hk3 (congrArg (fun b => some (D.bool b)) (some_eq hp_3)) ⟨rfl, trivial⟩
    refine go_p rfl rfl rfl (o_move rfl) ?_
    obtain ⟨p2, hp_4, hm⟩ := bind_some hm
    refine go_two [] 4 36 p2 (t := 32) trivial rfl (fun hg_4 hk4 => ?_) (fun hg_4 hk4 => ?_) ?_
    · replace hp_4 := cond_t hg_4 hp_4
      refine go_wantp rfl rfl rfl hg_4 rfl rfl (o_move rfl) ?_
      obtain ⟨x6, hx8, hp_4⟩ := bind_some hp_4
      refine go_want rfl rfl rfl hg_4 rfl rfl (o_call_own [0, 1, 2] Try.call14 rfl rfl (getL_c rfl (getL_c rfl (getL_c rfl getL_n))) (w_qi_Room hx8) (by rintro _ _ ⟨rfl, rfl⟩; rfl)) ?_
      rintro _ _ ⟨_, ⟨rfl, rfl⟩, rfl⟩
      refine go_ms (ms' := [box b1 110 [_, _], _, _]) rfl ?_
      refine go_wantp rfl rfl rfl hg_4 rfl rfl (o_cmp rfl rfl rfl) ?_
      refine go_p rfl rfl rfl (o_pickT rfl hg_4 rfl) ?_
      exact go_meet hk4 (congrArg (fun b => some (D.bool b)) (some_eq hp_4)) trivial
    · replace hp_4 := cond_f hg_4 hp_4
      refine go_skip rfl rfl rfl hg_4 rfl rfl ?_
      refine go_skip rfl rfl rfl hg_4 rfl rfl ?_
      refine go_skip rfl rfl rfl hg_4 rfl rfl ?_
      refine go_p rfl rfl rfl (o_pickF rfl hg_4 rfl) ?_
      exact go_meet hk4 (congrArg (fun b => some (D.bool b)) (some_eq hp_4)) trivial
    refine go_p rfl rfl rfl (o_assign rfl) ?_
    refine go_nil ?_
    refine g_ret ?_
    exact retK (ret_one' rfl (ret_tmp rfl) (perm_drop _)) (congrArg (fun (p : Bool) => (.bool p : D)) (some_eq hm))
  · skip
    refine go_skip rfl rfl rfl hg_2 rfl rfl ?_
    refine go_skip rfl rfl rfl hg_2 rfl rfl ?_
    refine go_skip rfl rfl rfl hg_2 rfl rfl ?_
    refine go_skip rfl rfl rfl hg_2 rfl rfl ?_
    refine go_p rfl rfl rfl (o_pickF rfl hg_2 rfl) ?_
    refine go_p rfl rfl rfl (o_move rfl) ?_
    refine go_skip rfl rfl rfl rfl rfl rfl ?_
    refine go_skip rfl rfl rfl rfl rfl rfl ?_
    refine go_skip rfl rfl rfl rfl rfl rfl ?_
    refine go_p rfl rfl rfl (o_pickF rfl rfl rfl) ?_
    refine go_p rfl rfl rfl (o_move rfl) ?_
    refine go_skip rfl rfl rfl rfl rfl rfl ?_
    refine go_skip rfl rfl rfl rfl rfl rfl ?_
    refine go_skip rfl rfl rfl rfl rfl rfl ?_
    refine go_p rfl rfl rfl (o_pickF rfl rfl rfl) ?_
    refine go_p rfl rfl rfl (o_assign rfl) ?_
    refine go_nil ?_
    refine g_ret ?_
    exact retK (ret_one' rfl (ret_tmp rfl) (perm_drop _)) (congrArg (fun (p : Bool) => (.bool p : D)) (some_eq hm))
structure Syntagmalaw18Act where
  do_ : Int
  n_ : Int
def Syntagmalaw18Act.d (x : Syntagmalaw18Act) : D := .agg [.i64 x.do_, .i64 x.n_]
theorem fi_30_1 : FieldIs Try.prog 30 1 1 1 false := ⟨⟨_, _, Try.runUnderlying30, rfl, rfl, Try.sizeOf3, by decide, Try.isAgg3⟩⟩
theorem fi_32_0 : FieldIs Try.prog 32 0 0 1 false := ⟨⟨_, _, Try.runUnderlying32, rfl, rfl, Try.sizeOf3, by decide, Try.isAgg3⟩⟩
theorem fi_32_1 : FieldIs Try.prog 32 1 1 1 false := ⟨⟨_, _, Try.runUnderlying32, rfl, rfl, Try.sizeOf3, by decide, Try.isAgg3⟩⟩
def m_syntagmalaw18_QueuePlays_l1 (acts1 : (List Syntagmalaw18Act)) : Nat → (Int × Int × (List Int) × (Nat × List Int) × (List Int)) → Option (Out Bool (Int × (List Int) × (Nat × List Int) × (List Int)))
  | 0, _ => none
  | n + 1, (i1, z2, l3, ch2, l4) =>
    bif ((decide (i1 < (acts1.length : Int))) && (decide (i1 < 200))) then
      (idx acts1 i1).bind fun x2 =>
      (m_syntagmabase_Among x2.do_ 5).bind fun x3 =>
      ((bif (decide (x3 = 2)) then
        (m_qi_Pop (⟨ch2, l4⟩ : QueueQueueInt)).bind fun (x4, x5, s3) =>
        (m_ref18_Pop (⟨l3, z2⟩ : Syntagmaref18Row)).bind fun (x6, x7, s4) =>
        bif ((!decide (x4 = x6)) || (!(x5 == x7))) then
          some (Out.ret false)
        else
          some (Out.go ((s4.room, s4.l, s3.first, s3.more)))
      else
        bif (decide (x3 = 3)) then
          (m_qi_Drain (⟨ch2, l4⟩ : QueueQueueInt)).bind fun (x8, s5) =>
          (m_syntagmabase_SameInts x8 l3).bind fun x9 =>
          bif (!x9) then
            some (Out.ret false)
          else
            some (Out.go ((z2, ([] : List Int), s5.first, s5.more)))
        else
          bif (decide (x3 = 4)) then
            (m_qi_Push (⟨ch2, l4⟩ : QueueQueueInt) [x2.n_, x2.n_, i1]).bind fun s6 =>
            grd ((l3.length + ([x2.n_, x2.n_, i1] : List _).length) * 8 ≤ 140737488355328) <|
            some (Out.go ((z2, (l3 ++ [x2.n_, x2.n_, i1]), s6.first, s6.more)))
          else
            (m_qi_Push (⟨ch2, l4⟩ : QueueQueueInt) [x2.n_]).bind fun s7 =>
            grd ((l3.length + ([x2.n_] : List _).length) * 8 ≤ 140737488355328) <|
            some (Out.go ((z2, (l3 ++ [x2.n_]), s7.first, s7.more))) : Option (Out Bool (Int × (List Int) × (Nat × List Int) × (List Int))))).bind (fun oo => oo.on (fun r1 => some (Out.ret r1)) (fun (z3, l5, ch3, l6) =>
      (m_qi_Len (⟨ch3, l6⟩ : QueueQueueInt)).bind fun x10 =>
      bif (!decide (x10 = (l5.length : Int))) then
        some (Out.ret false)
      else
        grd (InR (i1 + 1)) <|
        m_syntagmalaw18_QueuePlays_l1 acts1 n ((i1 + 1), z3, l5, ch3, l6)))
    else
      some (Out.go ((z2, l3, ch2, l4)))
def m_syntagmalaw18_QueuePlays (room1 : Int) (acts1 : (List Syntagmalaw18Act)) : Option Bool :=
  (m_qi_New room1).bind fun s1 =>
  (m_ref18_New room1).bind fun s2 =>
  (m_qi_Room (⟨s1.first, s1.more⟩ : QueueQueueInt)).bind fun x1 =>
  bif (!decide (x1 = s2.room)) then
    some false
  else
    ((m_syntagmalaw18_QueuePlays_l1 acts1 FU (0, s2.room, s2.l, s1.first, s1.more) : Option (Out Bool (Int × (List Int) × (Nat × List Int) × (List Int))))).bind (fun oo => oo.on (fun r2 => some r2) (fun (z1, l1, ch1, l2) =>
    (m_qi_Drain (⟨ch1, l2⟩ : QueueQueueInt)).bind fun (x11, s8) =>
    (m_syntagmabase_SameInts x11 l1).bind fun x12 =>
    bif x12 then ((m_syntagmalaw18_works).bind fun x13 =>
    some x13) else (some false)))
theorem w_syntagmalaw18_QueuePlays {room1 : Int} {acts1 : (List Syntagmalaw18Act)} {r_1 : Bool} (hm : m_syntagmalaw18_QueuePlays room1 acts1 = some r_1) : Fn0 Try.prog 3 [.i64 room1, .list 2 Syntagmalaw18Act.d acts1] (.bool r_1) := by
  unfold m_syntagmalaw18_QueuePlays at hm
  refine fn_intro Try.func3 rfl Try.ntmps3 rfl fun H0 fr w0 => ?_
  refine g_seq ?_
  refine g_region ?_
  refine go_p rfl rfl rfl (o_assign rfl) ?_
  refine go_nil ?_
  refine g_seq ?_
  refine g_region ?_
  refine go_p rfl rfl rfl (o_move rfl) ?_
  obtain ⟨s1, hx1, hm⟩ := bind_some hm
  refine go_op rfl rfl rfl (o_call (ms₁ := []) Try.call12 rfl (List.Perm.refl _) (w_qi_New hx1)) ?_
  rintro _ _ ⟨_, ⟨b1, c_r1, a_r2, cap_r2, rfl, rfl⟩, rfl⟩
  refine go_p rfl rfl rfl (o_move rfl) ?_
  obtain ⟨s2, hx2, hm⟩ := bind_some hm
  refine go_op rfl rfl rfl (o_call (ms₁ := []) Try.call13 rfl (List.Perm.refl _) (w_ref18_New hx2)) ?_
  rintro _ _ ⟨_, ⟨b2, a_r3, cap_r3, rfl, rfl⟩, rfl⟩
  refine go_p rfl rfl rfl (o_assign rfl) ?_
  refine go_p rfl rfl rfl (o_assign rfl) ?_
  refine go_nil ?_
  refine g_seq ?_
  refine g_seq ?_
  obtain ⟨x1, hx3, hm⟩ := bind_some hm
  refine g_draw_c [1, 6] [2, 3, 4, 5] [5] Try_mixed (by decide +kernel) (by decide +kernel) rfl ?_
  refine gde_p rfl rfl rfl rfl rfl rfl (o_move rfl) ?_
  refine gde_e rfl ?_
  refine gde_p rfl rfl rfl rfl rfl rfl (o_move rfl) ?_
  refine gde_p rfl rfl rfl rfl rfl rfl (o_nilCheck_box rfl) ?_
  refine gde_p rfl rfl rfl rfl rfl rfl (o_fieldAddr_box fi_30_1 rfl) ?_
  refine gde_f rfl rfl rfl rfl rfl (o_load_box 0 Try.isAgg3 rfl rfl rfl rfl) ?_
  refine gde_e rfl ?_
  refine gde_nil ?_
  refine gde2_t rfl rfl rfl rfl (o_call_own [2, 3, 4] Try.call14 rfl rfl (getL_c rfl (getL_c rfl (getL_c rfl getL_n))) (w_qi_Room hx3) (by rintro _ _ ⟨rfl, rfl⟩; rfl)) ?_
  rintro _ _ ⟨_, ⟨rfl, rfl⟩, rfl⟩
  show _ ∧ GDE2 _ _ _ _ _ _ _ _ ([box b2 30 [_, _], _, box b1 110 [_, _], _, _])
  refine ⟨⟨trivial, o_load_box 0 Try.isAgg3 rfl rfl rfl rfl⟩, ?_⟩
  refine gde2_t rfl rfl rfl rfl (o_cmp rfl rfl rfl) ?_
  rintro _ _ ⟨rfl, rfl⟩
  refine ⟨⟨trivial, o_load_box 0 Try.isAgg3 rfl rfl rfl rfl⟩, ?_⟩
  refine gde2_nil ?_
  refine g_cond rfl (fun hc1 => ?_) (fun hc1 => ?_)
  · replace hm := cond_t hc1 hm
    refine g_seq ?_
    refine g_region ?_
    refine go_p rfl rfl rfl (o_assign rfl) ?_
    refine go_nil ?_
    refine g_ret ?_
    exact retK (ret_one' rfl (ret_tmp rfl) (perm_drop _)) (congrArg (fun (p : Bool) => (.bool p : D)) (some_eq hm))
  · replace hm := cond_f hc1 hm
    refine g_skip ?_
    refine g_seq ?_
    refine g_seq ?_
    refine g_region ?_
    refine go_p rfl rfl rfl (o_assign rfl) ?_
    refine go_nil ?_
    obtain ⟨o_1, hj1, hm1⟩ := bind_some hm
    refine g_cut_m [(5, _), (6, _)] [] (fun (st : (Int × (List Int) × (Nat × List Int) × (List Int))) (hid : (Option Addr × Nat) × Nat × (Option Addr × Nat)) => match st, hid with | (z1, l1, ch1, l2), ((a_r3, cap_r3), c_r1, (a_r2, cap_r2)) => []) (fun F (st : (Int × (List Int) × (Nat × List Int) × (List Int))) (hid : (Option Addr × Nat) × Nat × (Option Addr × Nat)) => match st, hid with | (z1, l1, ch1, l2), ((a_r3, cap_r3), c_r1, (a_r2, cap_r2)) => [box b2 30 [.v (.slice a_r3 l1.length cap_r3), .i64 z1], row a_r3 cap_r3 3 1 D.i64 l1, box b1 110 [.v (.chan (some c_r1)), .v (.slice a_r2 l2.length cap_r2)], chn c_r1 ch1.1 D.i64 ch1.2, que a_r2 cap_r2 3 1 D.i64 l2]) (fun st => Out.go (st) = o_1) ⟨rfl, rfl, trivial⟩ trivial ?_ ?_
    · skip
      refine g_block ?_
      refine g_loop_m [(1, _), (5, _), (6, _)] [] (fun (st : (Int × Int × (List Int) × (Nat × List Int) × (List Int))) (hid : (Option Addr × Nat) × Nat × (Option Addr × Nat)) => match st, hid with | (i1, z2, l3, ch2, l4), ((a_r3, cap_r3), c_r1, (a_r2, cap_r2)) => [(7, .i64 i1)]) (fun F (st : (Int × Int × (List Int) × (Nat × List Int) × (List Int))) (hid : (Option Addr × Nat) × Nat × (Option Addr × Nat)) => match st, hid with | (i1, z2, l3, ch2, l4), ((a_r3, cap_r3), c_r1, (a_r2, cap_r2)) => [box b2 30 [.v (.slice a_r3 l3.length cap_r3), .i64 z2], row a_r3 cap_r3 3 1 D.i64 l3, box b1 110 [.v (.chan (some c_r1)), .v (.slice a_r2 l4.length cap_r2)], chn c_r1 ch2.1 D.i64 ch2.2, que a_r2 cap_r2 3 1 D.i64 l4]) ((_, _), _, (_, _)) hj1 (fun _ => rfl) ⟨rfl, rfl, rfl, trivial⟩ trivial ⟨rfl, trivial⟩ rfl ?_
      rintro n ⟨i1, z2, l3, ch2, l4⟩ ⟨⟨a_r3, cap_r3⟩, c_r1, ⟨a_r2, cap_r2⟩⟩ hj1
      rw [m_syntagmalaw18_QueuePlays_l1] at hj1
      refine g_norm (L' := [(7, .i64 i1), (1, _), (5, _), (6, _)]) (ms' := [box b2 30 [.v (.slice a_r3 l3.length cap_r3), .i64 z2], row a_r3 cap_r3 3 1 D.i64 l3, box b1 110 [.v (.chan (some c_r1)), .v (.slice a_r2 l4.length cap_r2)], chn c_r1 ch2.1 D.i64 ch2.2, que a_r2 cap_r2 3 1 D.i64 l4]) rfl rfl ?_
      refine g_seq ?_
      refine g_seq ?_
      refine g_region ?_
      refine go_p rfl rfl rfl (o_move rfl) ?_
      refine go_p rfl rfl rfl (o_move rfl) ?_
      refine go_p rfl rfl rfl (o_len Try.runUnderlying22 rfl) ?_
      refine go_p rfl rfl rfl (o_cmp rfl rfl rfl) ?_
      refine go_p rfl rfl rfl (o_move rfl) ?_
      apply go_and [(1, _), (5, _), (6, _), (7, _)] 3 31 (t := 28) ⟨rfl, rfl, rfl, rfl, trivial⟩ rfl
      · intro hg_1 hk1
        refine go_wantp rfl rfl rfl hg_1 rfl rfl (o_move rfl) ?_
        refine go_wantp rfl rfl rfl hg_1 rfl rfl (o_cmp rfl rfl rfl) ?_
        refine go_p rfl rfl rfl (o_pickT rfl hg_1 rfl) ?_
        exact go_meet hk1 (rfl) ⟨rfl, rfl, rfl, rfl, trivial⟩
      · intro hg_1 hk1
        refine go_skip rfl rfl rfl hg_1 rfl rfl ?_
        refine go_skip rfl rfl rfl hg_1 rfl rfl ?_
        refine go_p rfl rfl rfl (o_pickF rfl hg_1 rfl) ?_
        exact go_meet hk1 (rfl) ⟨rfl, rfl, rfl, rfl, trivial⟩
      refine go_nil ?_
      refine g_cond rfl (fun hc2 => ?_) (fun hc2 => ?_)
      · replace hj1 := cond_t hc2 hj1
        refine g_skip ?_
        refine g_seq ?_
        refine g_block ?_
        refine g_seq ?_
        refine g_region ?_
        refine go_p rfl rfl rfl (o_move rfl) ?_
        refine go_p rfl rfl rfl (o_move rfl) ?_
        obtain ⟨x2, hx4, hj1⟩ := bind_some hj1
        refine go_p rfl rfl rfl (o_indexAddr_m Try.runUnderlying22 Try.sizeOf32 rfl rfl hx4) ?_
        refine go_p rfl rfl rfl (o_load_agg Try.isAgg32 Try.sizeOf32 rfl rfl) ?_
        refine go_op rfl rfl rfl (o_alloc_own Try.zeroValue32 (cs := [.i64 0, .i64 0]) rfl) ?_
        rintro _ _ ⟨b3, rfl, rfl⟩
        refine go_u rfl rfl (o_store_box 0 Try.sizeOf32 rfl rfl rfl rfl rfl rfl rfl rfl (Nat.le_of_ble_eq_true rfl)) ?_
        rintro _ _ rfl
        refine go_ms (ms' := [box b3 32 [_, _], box b2 30 [_, _], _, box b1 110 [_, _], _, _]) rfl ?_
        refine go_nil ?_
        refine g_seq ?_
        refine g_seq ?_
        refine g_region ?_
        refine go_p rfl rfl rfl (o_fieldAddr_box fi_32_0 rfl) ?_
        refine go_p rfl rfl rfl (o_load_box 0 Try.isAgg3 rfl rfl rfl rfl) ?_
        obtain ⟨x3, hx5, hj1⟩ := bind_some hj1
        refine go_p rfl rfl rfl (o_call0 Try.call15 rfl (w_syntagmabase_Among hx5)) ?_
        refine go_nil ?_
        obtain ⟨o_2, hj2, hm2⟩ := bind_some hj1
        refine g_cut_m [(1, _), (5, _), (6, _), (7, _)] [(0, _)] (fun (st : (Int × (List Int) × (Nat × List Int) × (List Int))) (hid : (Option Addr × Nat) × Nat × (Option Addr × Nat)) => match st, hid with | (z3, l5, ch3, l6), ((a_r3, cap_r3), c_r1, (a_r2, cap_r2)) => []) (fun F (st : (Int × (List Int) × (Nat × List Int) × (List Int))) (hid : (Option Addr × Nat) × Nat × (Option Addr × Nat)) => match st, hid with | (z3, l5, ch3, l6), ((a_r3, cap_r3), c_r1, (a_r2, cap_r2)) => [(nthF F 0), box b2 30 [.v (.slice a_r3 l5.length cap_r3), .i64 z3], row a_r3 cap_r3 3 1 D.i64 l5, box b1 110 [.v (.chan (some c_r1)), .v (.slice a_r2 l6.length cap_r2)], chn c_r1 ch3.1 D.i64 ch3.2, que a_r2 cap_r2 3 1 D.i64 l6]) (fun st => Out.go (st) = o_2) ⟨rfl, rfl, rfl, rfl, trivial⟩ ⟨rfl, trivial⟩ ?_ ?_
        · skip
          refine g_block ?_
          refine g_seq ?_
          refine g_region ?_
          refine go_p rfl rfl rfl (o_cmp rfl rfl rfl) ?_
          refine go_p rfl rfl rfl (o_assign rfl) ?_
          refine go_nil ?_
          refine g_cond rfl (fun hc3 => ?_) (fun hc3 => ?_)
          · replace hj2 := cond_t hc3 hj2
            refine g_seq ?_
            refine g_region ?_
            refine go_p rfl rfl rfl (o_move rfl) ?_
            obtain ⟨⟨x4, x5, s3⟩, hx6, hj2⟩ := bind_some hj2
            refine go_op rfl rfl rfl (o_call_own [3, 4, 5] Try.call16 rfl rfl (getL_c rfl (getL_c rfl (getL_c rfl getL_n))) (w_qi_Pop hx6) (by rintro _ _ ⟨_, _, _, rfl, rfl⟩; rfl)) ?_
            rintro _ _ ⟨_, ⟨c_r1, a_r2, cap_r2, rfl, rfl⟩, rfl⟩
            refine go_ms (ms' := [box b3 32 [_, _], box b2 30 [_, _], _, box b1 110 [_, _], _, _]) rfl ?_
            refine go_p rfl rfl rfl (o_move rfl) ?_
            refine go_p rfl rfl rfl (o_extract rfl rfl) ?_
            refine go_p rfl rfl rfl (o_extract rfl rfl) ?_
            refine go_p rfl rfl rfl (o_assign rfl) ?_
            refine go_p rfl rfl rfl (o_assign rfl) ?_
            refine go_nil ?_
            refine g_seq ?_
            refine g_region ?_
            refine go_p rfl rfl rfl (o_move rfl) ?_
            obtain ⟨⟨x6, x7, s4⟩, hx7, hj2⟩ := bind_some hj2
            refine go_op rfl rfl rfl (o_call_own [1, 2] Try.call17 rfl rfl (getL_c rfl (getL_c rfl getL_n)) (w_ref18_Pop hx7) (by rintro _ _ ⟨_, _, rfl, rfl⟩; rfl)) ?_
            rintro _ _ ⟨_, ⟨a_r3, cap_r3, rfl, rfl⟩, rfl⟩
            refine go_ms (ms' := [box b3 32 [_, _], box b2 30 [_, _], _, box b1 110 [_, _], _, _]) rfl ?_
            refine go_p rfl rfl rfl (o_move rfl) ?_
            refine go_p rfl rfl rfl (o_extract rfl rfl) ?_
            refine go_p rfl rfl rfl (o_extract rfl rfl) ?_
            refine go_p rfl rfl rfl (o_assign rfl) ?_
            refine go_p rfl rfl rfl (o_assign rfl) ?_
            refine go_nil ?_
            refine g_seq ?_
            refine g_region ?_
            refine go_p rfl rfl rfl (o_move rfl) ?_
            refine go_p rfl rfl rfl (o_move rfl) ?_
            refine go_p rfl rfl rfl (o_cmp rfl rfl rfl) ?_
            refine go_p rfl rfl rfl (o_move rfl) ?_
            apply go_or [(1, _), (5, _), (6, _), (7, _)] 4 76 (t := 72) ⟨rfl, rfl, rfl, rfl, trivial⟩ rfl
            · intro hg_2 hk2
              refine go_wantp rfl rfl rfl hg_2 rfl rfl (o_move rfl) ?_
              refine go_wantp rfl rfl rfl hg_2 rfl rfl (o_move rfl) ?_
              refine go_wantp rfl rfl rfl hg_2 rfl rfl (o_neqb Try.runUnderlying4 rfl rfl) ?_
              refine go_p rfl rfl rfl (o_pickF rfl hg_2 rfl) ?_
              exact go_meet hk2 (rfl) ⟨rfl, rfl, rfl, rfl, trivial⟩
            · intro hg_2 hk2
              refine go_skip rfl rfl rfl hg_2 rfl rfl ?_
              refine go_skip rfl rfl rfl hg_2 rfl rfl ?_
              refine go_skip rfl rfl rfl hg_2 rfl rfl ?_
              refine go_p rfl rfl rfl (o_pickT rfl hg_2 rfl) ?_
              exact go_meet hk2 (rfl) ⟨rfl, rfl, rfl, rfl, trivial⟩
            refine go_nil ?_
            refine g_cond rfl (fun hc4 => ?_) (fun hc4 => ?_)
            · replace hj2 := cond_t hc4 hj2
              refine g_seq ?_
              refine g_region ?_
              refine go_p rfl rfl rfl (o_assign rfl) ?_
              refine go_nil ?_
              refine g_ret ?_
              obtain rfl := some_eq hj2
              replace hm2 := on_ret hm2
              obtain rfl := some_eq hm2
              replace hm1 := on_ret hm1
              exact retK (ret_one' rfl (ret_tmp rfl) (perm_drop _)) (congrArg (fun (p : Bool) => (.bool p : D)) (some_eq hm1))
            · replace hj2 := cond_f hc4 hj2
              refine g_skip ?_
              exact ⟨_, ((_, _), _, (_, _)), some_eq hj2, trivial, ⟨rfl, rfl, rfl, rfl, trivial⟩, [], rfl⟩
          · replace hj2 := cond_f hc3 hj2
            refine g_seq ?_
            refine g_region ?_
            refine go_p rfl rfl rfl (o_cmp rfl rfl rfl) ?_
            refine go_p rfl rfl rfl (o_assign rfl) ?_
            refine go_nil ?_
            refine g_cond rfl (fun hc5 => ?_) (fun hc5 => ?_)
            · replace hj2 := cond_t hc5 hj2
              refine g_seq ?_
              refine g_seq ?_
              obtain ⟨⟨x8, s5⟩, hx8, hj2⟩ := bind_some hj2
              obtain ⟨x9, hx9, hj2⟩ := bind_some hj2
              refine g_draw_c [1, 6, 7] [2, 3, 4, 5] [5] Try_mixed (by decide +kernel) (by decide +kernel) rfl ?_
              refine gde_p rfl rfl rfl rfl rfl rfl (o_move rfl) ?_
              refine gde_e rfl ?_
              refine gde_p rfl rfl rfl rfl rfl rfl (o_move rfl) ?_
              refine gde_p rfl rfl rfl rfl rfl rfl (o_nilCheck_box rfl) ?_
              refine gde_p rfl rfl rfl rfl rfl rfl (o_fieldAddr_box fi_30_0 rfl) ?_
              refine gde_f rfl rfl rfl rfl rfl (o_load_box 1 Try.isAgg28 rfl rfl rfl rfl) ?_
              refine gde_e rfl ?_
              refine gde_e rfl ?_
              refine gde_nil ?_
              refine gde2_t rfl rfl rfl rfl (o_call_own [3, 4, 5] Try.call19 rfl rfl (getL_c rfl (getL_c rfl (getL_c rfl getL_n))) (w_qi_Drain hx8) (by rintro _ _ ⟨_, _, _, rfl, rfl⟩; rfl)) ?_
              rintro _ _ ⟨_, ⟨c_r1, a_r2, cap_r2, rfl, rfl⟩, rfl⟩
              show _ ∧ GDE2 _ _ _ _ _ _ _ _ ([box b3 32 [_, _], box b2 30 [_, _], _, box b1 110 [_, _], _, _])
              refine ⟨⟨trivial, o_load_box 1 Try.isAgg28 rfl rfl rfl rfl⟩, ?_⟩
              refine gde2_t rfl rfl rfl rfl (.view (peekE (i := 84) 2 rfl rfl rfl) (o_call0 Try.call18 rfl (w_syntagmabase_SameInts hx9))) ?_
              rintro _ _ ⟨rfl, rfl⟩
              refine ⟨⟨trivial, o_load_box 1 Try.isAgg28 rfl rfl rfl rfl⟩, ?_⟩
              refine gde2_t rfl rfl rfl rfl (o_not rfl) ?_
              rintro _ _ ⟨rfl, rfl⟩
              refine ⟨⟨trivial, o_load_box 1 Try.isAgg28 rfl rfl rfl rfl⟩, ?_⟩
              refine gde2_nil ?_
              refine g_cond rfl (fun hc6 => ?_) (fun hc6 => ?_)
              · replace hj2 := cond_t hc6 hj2
                refine g_seq ?_
                refine g_region ?_
                refine go_p rfl rfl rfl (o_assign rfl) ?_
                refine go_nil ?_
                refine g_ret ?_
                obtain rfl := some_eq hj2
                replace hm2 := on_ret hm2
                obtain rfl := some_eq hm2
                replace hm1 := on_ret hm1
                exact retK (ret_one' rfl (ret_tmp rfl) (perm_drop _)) (congrArg (fun (p : Bool) => (.bool p : D)) (some_eq hm1))
              · replace hj2 := cond_f hc6 hj2
                refine g_skip ?_
                refine g_region ?_
                refine go_p rfl rfl rfl (o_move rfl) ?_
                refine go_p rfl rfl rfl (o_nilCheck_box rfl) ?_
                refine go_p rfl rfl rfl (o_fieldAddr_box fi_30_0 rfl) ?_
                refine go_u rfl rfl (o_store_box 1 Try.sizeOf28 rfl rfl rfl rfl rfl rfl rfl rfl (Nat.le_of_ble_eq_true rfl)) ?_
                rintro _ _ rfl
                refine go_conv (refines_newrow (T := 3) (sz := 1) (f := D.i64)) ?_
                refine go_ms (ms' := [_, box b3 32 [_, _], box b2 30 [_, _], _, box b1 110 [_, _], _, _]) rfl ?_
                refine go_conv (refines_shift 0 3 rfl rfl rfl rfl) ?_
                refine go_nil ?_
                exact ⟨_, ((_, _), _, (_, _)), some_eq hj2, trivial, ⟨rfl, rfl, rfl, rfl, trivial⟩, [], rfl⟩
            · replace hj2 := cond_f hc5 hj2
              refine g_seq ?_
              refine g_region ?_
              refine go_p rfl rfl rfl (o_cmp rfl rfl rfl) ?_
              refine go_p rfl rfl rfl (o_assign rfl) ?_
              refine go_nil ?_
              refine g_cond rfl (fun hc7 => ?_) (fun hc7 => ?_)
              · replace hj2 := cond_t hc7 hj2
                refine g_seq ?_
                refine g_region ?_
                refine go_p rfl rfl rfl (o_move rfl) ?_
                refine go_p rfl rfl rfl (o_fieldAddr_box fi_32_1 rfl) ?_
                refine go_p rfl rfl rfl (o_load_box 0 Try.isAgg3 rfl rfl rfl rfl) ?_
                refine go_p rfl rfl rfl (o_fieldAddr_box fi_32_1 rfl) ?_
                refine go_p rfl rfl rfl (o_load_box 0 Try.isAgg3 rfl rfl rfl rfl) ?_
                refine go_p rfl rfl rfl (o_move rfl) ?_
                refine go_p rfl rfl rfl (o_buildSlice (xs := [_, _, _]) (f := D.i64) (l := [_, _, _]) Try.runUnderlying28 Try.sizeOf3 Try.zeroValue3 rfl rfl rfl (fun _ => ⟨rfl, rfl, rfl⟩) rfl) ?_
                obtain ⟨s6, hx10, hj2⟩ := bind_some hj2
                refine go_op rfl rfl rfl (o_call_own [3, 4, 5] Try.call20 rfl rfl (getL_c rfl (getL_c rfl (getL_c rfl getL_n))) (w_qi_Push hx10) (by rintro _ _ ⟨_, _, _, rfl, rfl⟩; rfl)) ?_
                rintro _ _ ⟨_, ⟨c_r1, a_r2, cap_r2, rfl, rfl⟩, rfl⟩
                refine go_ms (ms' := [box b3 32 [_, _], box b2 30 [_, _], _, box b1 110 [_, _], _, _]) rfl ?_
                refine go_nil ?_
                obtain ⟨hg11, hj2⟩ := grd_some hj2
                refine g_draw_c [11, 14] [0, 12, 13] [] Try_mixed (by decide +kernel) (by decide +kernel) rfl ?_
                refine gde_p rfl rfl rfl rfl rfl rfl (o_move rfl) ?_
                refine gde_p rfl rfl rfl rfl rfl rfl (o_move rfl) ?_
                refine gde_p rfl rfl rfl rfl rfl rfl (o_nilCheck_box rfl) ?_
                refine gde_p rfl rfl rfl rfl rfl rfl (o_fieldAddr_box fi_30_0 rfl) ?_
                refine gde_p rfl rfl rfl rfl rfl rfl (o_load_box 1 Try.isAgg28 rfl rfl rfl rfl) ?_
                refine gde_p rfl rfl rfl rfl rfl rfl (o_fieldAddr_box fi_32_1 rfl) ?_
                refine gde_p rfl rfl rfl rfl rfl rfl (o_load_box 0 Try.isAgg3 rfl rfl rfl rfl) ?_
                refine gde_p rfl rfl rfl rfl rfl rfl (o_fieldAddr_box fi_32_1 rfl) ?_
                refine gde_p rfl rfl rfl rfl rfl rfl (o_load_box 0 Try.isAgg3 rfl rfl rfl rfl) ?_
                refine gde_p rfl rfl rfl rfl rfl rfl (o_move rfl) ?_
                refine gde_p rfl rfl rfl rfl rfl rfl (o_buildSlice (xs := [_, _, _]) (f := D.i64) (l := [_, _, _]) Try.runUnderlying28 Try.sizeOf3 Try.zeroValue3 rfl rfl rfl (fun _ => ⟨rfl, rfl, rfl⟩) rfl) ?_
                refine gde_e rfl ?_
                refine gde_p rfl rfl rfl rfl rfl rfl (o_nilCheck_box rfl) ?_
                refine gde_p rfl rfl rfl rfl rfl rfl (o_fieldAddr_box fi_30_0 rfl) ?_
                refine gde_e rfl ?_
                refine gde_nil ?_
                refine gde2_t rfl rfl rfl rfl (o_append (a := _) 2 Try.underlying28 Try.type3 rfl rfl rfl rfl rfl rfl rfl (fun _ => rfl) (fun _ => rfl) hg11 (app_len hg11 rfl)) ?_
                rintro _ _ ⟨a_r3, cap_r3, rfl, rfl⟩
                refine ⟨(trivial : True), ?_⟩
                refine gde2_u rfl rfl rfl (o_store_box 1 Try.sizeOf28 rfl rfl rfl rfl rfl rfl rfl rfl (Nat.le_of_ble_eq_true rfl)) ?_
                rintro _ _ rfl
                refine ⟨(trivial : True), ?_⟩
                refine gde2_nil ?_
                exact ⟨_, ((_, _), _, (_, _)), some_eq hj2, trivial, ⟨rfl, rfl, rfl, rfl, trivial⟩, [], rfl⟩
              · replace hj2 := cond_f hc7 hj2
                refine g_seq ?_
                refine g_region ?_
                refine go_p rfl rfl rfl (o_move rfl) ?_
                refine go_p rfl rfl rfl (o_fieldAddr_box fi_32_1 rfl) ?_
                refine go_p rfl rfl rfl (o_load_box 0 Try.isAgg3 rfl rfl rfl rfl) ?_
                refine go_p rfl rfl rfl (o_buildSlice (xs := [_]) (f := D.i64) (l := [_]) Try.runUnderlying28 Try.sizeOf3 Try.zeroValue3 rfl rfl rfl (fun _ => ⟨rfl, rfl, rfl⟩) rfl) ?_
                obtain ⟨s7, hx12, hj2⟩ := bind_some hj2
                refine go_op rfl rfl rfl (o_call_own [3, 4, 5] Try.call20 rfl rfl (getL_c rfl (getL_c rfl (getL_c rfl getL_n))) (w_qi_Push hx12) (by rintro _ _ ⟨_, _, _, rfl, rfl⟩; rfl)) ?_
                rintro _ _ ⟨_, ⟨c_r1, a_r2, cap_r2, rfl, rfl⟩, rfl⟩
                refine go_ms (ms' := [box b3 32 [_, _], box b2 30 [_, _], _, box b1 110 [_, _], _, _]) rfl ?_
                refine go_nil ?_
                obtain ⟨hg13, hj2⟩ := grd_some hj2
                refine g_draw_c [8, 11] [0, 9, 10] [] Try_mixed (by decide +kernel) (by decide +kernel) rfl ?_
                refine gde_p rfl rfl rfl rfl rfl rfl (o_move rfl) ?_
                refine gde_p rfl rfl rfl rfl rfl rfl (o_move rfl) ?_
                refine gde_p rfl rfl rfl rfl rfl rfl (o_nilCheck_box rfl) ?_
                refine gde_p rfl rfl rfl rfl rfl rfl (o_fieldAddr_box fi_30_0 rfl) ?_
                refine gde_p rfl rfl rfl rfl rfl rfl (o_load_box 1 Try.isAgg28 rfl rfl rfl rfl) ?_
                refine gde_p rfl rfl rfl rfl rfl rfl (o_fieldAddr_box fi_32_1 rfl) ?_
                refine gde_p rfl rfl rfl rfl rfl rfl (o_load_box 0 Try.isAgg3 rfl rfl rfl rfl) ?_
                refine gde_p rfl rfl rfl rfl rfl rfl (o_buildSlice (xs := [_]) (f := D.i64) (l := [_]) Try.runUnderlying28 Try.sizeOf3 Try.zeroValue3 rfl rfl rfl (fun _ => ⟨rfl, rfl, rfl⟩) rfl) ?_
                refine gde_e rfl ?_
                refine gde_p rfl rfl rfl rfl rfl rfl (o_nilCheck_box rfl) ?_
                refine gde_p rfl rfl rfl rfl rfl rfl (o_fieldAddr_box fi_30_0 rfl) ?_
                refine gde_e rfl ?_
                refine gde_nil ?_
                refine gde2_t rfl rfl rfl rfl (o_append (a := _) 2 Try.underlying28 Try.type3 rfl rfl rfl rfl rfl rfl rfl (fun _ => rfl) (fun _ => rfl) hg13 (app_len hg13 rfl)) ?_
                rintro _ _ ⟨a_r3, cap_r3, rfl, rfl⟩
                refine ⟨(trivial : True), ?_⟩
                refine gde2_u rfl rfl rfl (o_store_box 1 Try.sizeOf28 rfl rfl rfl rfl rfl rfl rfl rfl (Nat.le_of_ble_eq_true rfl)) ?_
                rintro _ _ rfl
                refine ⟨(trivial : True), ?_⟩
                refine gde2_nil ?_
                exact ⟨_, ((_, _), _, (_, _)), some_eq hj2, trivial, ⟨rfl, rfl, rfl, rfl, trivial⟩, [], rfl⟩
        · rintro ⟨z3, l5, ch3, l6⟩ ⟨⟨a_r3, cap_r3⟩, c_r1, ⟨a_r2, cap_r2⟩⟩ hst
          subst hst
          replace hm2 := on_go hm2
          refine k_norm (L' := [(1, _), (5, _), (6, _), (7, _)]) (ms' := [_, box b2 30 [.v (.slice a_r3 l5.length cap_r3), .i64 z3], row a_r3 cap_r3 3 1 D.i64 l5, box b1 110 [.v (.chan (some c_r1)), .v (.slice a_r2 l6.length cap_r2)], chn c_r1 ch3.1 D.i64 ch3.2, que a_r2 cap_r2 3 1 D.i64 l6]) rfl rfl ?_
          refine g_seq ?_
          obtain ⟨x10, hx14, hm2⟩ := bind_some hm2
          refine g_draw_c [1, 7] [2, 3, 4, 5, 6] [5, 6] Try_mixed (by decide +kernel) (by decide +kernel) rfl ?_
          refine gde_p rfl rfl rfl rfl rfl rfl (o_move rfl) ?_
          refine gde_e rfl ?_
          refine gde_p rfl rfl rfl rfl rfl rfl (o_move rfl) ?_
          refine gde_p rfl rfl rfl rfl rfl rfl (o_nilCheck_box rfl) ?_
          refine gde_p rfl rfl rfl rfl rfl rfl (o_fieldAddr_box fi_30_0 rfl) ?_
          refine gde_f rfl rfl rfl rfl rfl (o_load_box 1 Try.isAgg28 rfl rfl rfl rfl) ?_
          refine gde_f rfl rfl rfl rfl rfl (.view (peekE (i := 119) 2 rfl rfl rfl) (o_len Try.runUnderlying28 rfl)) ?_
          refine gde_e rfl ?_
          refine gde_nil ?_
          refine gde2_t rfl rfl rfl rfl (o_call_own [3, 4, 5] Try.call21 rfl rfl (getL_c rfl (getL_c rfl (getL_c rfl getL_n))) (w_qi_Len hx14) (by rintro _ _ ⟨rfl, rfl⟩; rfl)) ?_
          rintro _ _ ⟨_, ⟨rfl, rfl⟩, rfl⟩
          show _ ∧ GDE2 _ _ _ _ _ _ _ _ ([box b3 32 [_, _], box b2 30 [_, _], _, box b1 110 [_, _], _, _])
          refine ⟨⟨⟨trivial, o_load_box 1 Try.isAgg28 rfl rfl rfl rfl⟩, .view (peekE (i := 119) 2 rfl rfl rfl) (o_len Try.runUnderlying28 rfl)⟩, ?_⟩
          refine gde2_t rfl rfl rfl rfl (o_cmp rfl rfl rfl) ?_
          rintro _ _ ⟨rfl, rfl⟩
          refine ⟨⟨⟨trivial, o_load_box 1 Try.isAgg28 rfl rfl rfl rfl⟩, .view (peekE (i := 119) 2 rfl rfl rfl) (o_len Try.runUnderlying28 rfl)⟩, ?_⟩
          refine gde2_nil ?_
          refine g_cond rfl (fun hc8 => ?_) (fun hc8 => ?_)
          · replace hm2 := cond_t hc8 hm2
            refine g_seq ?_
            refine g_region ?_
            refine go_p rfl rfl rfl (o_assign rfl) ?_
            refine go_nil ?_
            refine g_ret ?_
            obtain rfl := some_eq hm2
            replace hm1 := on_ret hm1
            exact retK (ret_one' rfl (ret_tmp rfl) (perm_drop _)) (congrArg (fun (p : Bool) => (.bool p : D)) (some_eq hm1))
          · replace hm2 := cond_f hc8 hm2
            refine g_skip ?_
            refine g_region ?_
            refine go_p rfl rfl rfl (o_move rfl) ?_
            obtain ⟨hg15, hm2⟩ := grd_some hm2
            refine go_p rfl rfl rfl (o_add rfl rfl (i64_id hg15)) ?_
            refine go_p rfl rfl rfl (o_assign rfl) ?_
            refine go_nil ?_
            exact ⟨_, ((_, _), _, (_, _)), hm2, ⟨rfl, trivial⟩, ⟨rfl, rfl, rfl, trivial⟩, [_], rfl⟩
      · replace hj1 := cond_f hc2 hj1
        refine g_exit ?_
        exact ⟨_, ((_, _), _, (_, _)), some_eq hj1, trivial, ⟨rfl, rfl, trivial⟩, [], rfl⟩
    · rintro ⟨z1, l1, ch1, l2⟩ ⟨⟨a_r3, cap_r3⟩, c_r1, ⟨a_r2, cap_r2⟩⟩ hst
      subst hst
      replace hm1 := on_go hm1
      refine k_norm (L' := [(5, _), (6, _)]) (ms' := [box b2 30 [.v (.slice a_r3 l1.length cap_r3), .i64 z1], row a_r3 cap_r3 3 1 D.i64 l1, box b1 110 [.v (.chan (some c_r1)), .v (.slice a_r2 l2.length cap_r2)], chn c_r1 ch1.1 D.i64 ch1.2, que a_r2 cap_r2 3 1 D.i64 l2]) rfl rfl ?_
      refine g_seq ?_
      obtain ⟨⟨x11, s8⟩, hx16, hm1⟩ := bind_some hm1
      obtain ⟨x12, hx17, hm1⟩ := bind_some hm1
      rcases cond_split hm1 with ⟨hg_3, hm1⟩ | ⟨hg_3, hm1⟩
      ·
        skip
        obtain ⟨x13, hx18, hm1⟩ := bind_some hm1
        refine g_draw_c [1, 6, 7, 8, 9, 10] [2, 3, 4, 5] [5] Try_mixed (by decide +kernel) (by decide +kernel) rfl ?_
        refine gde_p rfl rfl rfl rfl rfl rfl (o_move rfl) ?_
        refine gde_e rfl ?_
        refine gde_p rfl rfl rfl rfl rfl rfl (o_move rfl) ?_
        refine gde_p rfl rfl rfl rfl rfl rfl (o_nilCheck_box rfl) ?_
        refine gde_p rfl rfl rfl rfl rfl rfl (o_fieldAddr_box fi_30_0 rfl) ?_
        refine gde_f rfl rfl rfl rfl rfl (o_load_box 0 Try.isAgg28 rfl rfl rfl rfl) ?_
        refine gde_e rfl ?_
        refine gde_e rfl ?_
        refine gde_e rfl ?_
        refine gde_e rfl ?_
        refine gde_e rfl ?_
        refine gde_nil ?_
        refine gde2_t rfl rfl rfl rfl (o_call_own [2, 3, 4] Try.call19 rfl rfl (getL_c rfl (getL_c rfl (getL_c rfl getL_n))) (w_qi_Drain hx16) (by rintro _ _ ⟨_, _, _, rfl, rfl⟩; rfl)) ?_
        rintro _ _ ⟨_, ⟨c_r1, a_r2, cap_r2, rfl, rfl⟩, rfl⟩
        show _ ∧ GDE2 _ _ _ _ _ _ _ _ ([box b2 30 [_, _], _, box b1 110 [_, _], _, _])
        refine ⟨⟨trivial, o_load_box 0 Try.isAgg28 rfl rfl rfl rfl⟩, ?_⟩
        refine gde2_t rfl rfl rfl rfl (.view (peekE (i := 127) 1 rfl rfl rfl) (o_call0 Try.call18 rfl (w_syntagmabase_SameInts hx17))) ?_
        rintro _ _ ⟨rfl, rfl⟩
        refine ⟨⟨trivial, o_load_box 0 Try.isAgg28 rfl rfl rfl rfl⟩, ?_⟩
        refine gde2_t rfl rfl rfl rfl (o_move rfl) ?_
        rintro _ _ ⟨rfl, rfl⟩
        refine ⟨⟨trivial, o_load_box 0 Try.isAgg28 rfl rfl rfl rfl⟩, ?_⟩
        refine gde2_want rfl rfl rfl rfl hg_3 rfl rfl (o_call0 Try.call22 rfl (w_syntagmalaw18_works hx18)) ?_
        rintro _ _ ⟨rfl, rfl⟩
        refine ⟨⟨trivial, o_load_box 0 Try.isAgg28 rfl rfl rfl rfl⟩, ?_⟩
        refine gde2_t rfl rfl rfl rfl (o_pickT rfl hg_3 rfl) ?_
        rintro _ _ ⟨rfl, rfl⟩
        refine ⟨⟨trivial, o_load_box 0 Try.isAgg28 rfl rfl rfl rfl⟩, ?_⟩
        refine gde2_t rfl rfl rfl rfl (o_assign rfl) ?_
        rintro _ _ ⟨rfl, rfl⟩
        refine ⟨⟨trivial, o_load_box 0 Try.isAgg28 rfl rfl rfl rfl⟩, ?_⟩
        refine gde2_nil ?_
        refine g_ret ?_
        exact retK (ret_one' rfl (ret_tmp rfl) (perm_drop _)) (congrArg (fun (p : Bool) => (.bool p : D)) (some_eq hm1))
      ·
        skip
        refine g_draw_c [1, 6, 7, 8, 9, 10] [2, 3, 4, 5] [5] Try_mixed (by decide +kernel) (by decide +kernel) rfl ?_
        refine gde_p rfl rfl rfl rfl rfl rfl (o_move rfl) ?_
        refine gde_e rfl ?_
        refine gde_p rfl rfl rfl rfl rfl rfl (o_move rfl) ?_
        refine gde_p rfl rfl rfl rfl rfl rfl (o_nilCheck_box rfl) ?_
        refine gde_p rfl rfl rfl rfl rfl rfl (o_fieldAddr_box fi_30_0 rfl) ?_
        refine gde_f rfl rfl rfl rfl rfl (o_load_box 0 Try.isAgg28 rfl rfl rfl rfl) ?_
        refine gde_e rfl ?_
        refine gde_e rfl ?_
        refine gde_e rfl ?_
        refine gde_e rfl ?_
        refine gde_e rfl ?_
        refine gde_nil ?_
        refine gde2_t rfl rfl rfl rfl (o_call_own [2, 3, 4] Try.call19 rfl rfl (getL_c rfl (getL_c rfl (getL_c rfl getL_n))) (w_qi_Drain hx16) (by rintro _ _ ⟨_, _, _, rfl, rfl⟩; rfl)) ?_
        rintro _ _ ⟨_, ⟨c_r1, a_r2, cap_r2, rfl, rfl⟩, rfl⟩
        show _ ∧ GDE2 _ _ _ _ _ _ _ _ ([box b2 30 [_, _], _, box b1 110 [_, _], _, _])
        refine ⟨⟨trivial, o_load_box 0 Try.isAgg28 rfl rfl rfl rfl⟩, ?_⟩
        refine gde2_t rfl rfl rfl rfl (.view (peekE (i := 127) 1 rfl rfl rfl) (o_call0 Try.call18 rfl (w_syntagmabase_SameInts hx17))) ?_
        rintro _ _ ⟨rfl, rfl⟩
        refine ⟨⟨trivial, o_load_box 0 Try.isAgg28 rfl rfl rfl rfl⟩, ?_⟩
        refine gde2_t rfl rfl rfl rfl (o_move rfl) ?_
        rintro _ _ ⟨rfl, rfl⟩
        refine ⟨⟨trivial, o_load_box 0 Try.isAgg28 rfl rfl rfl rfl⟩, ?_⟩
        refine gde2_skip rfl rfl rfl rfl hg_3 rfl rfl ?_
        refine gde2_t rfl rfl rfl rfl (o_pickF rfl hg_3 rfl) ?_
        rintro _ _ ⟨rfl, rfl⟩
        refine ⟨⟨trivial, o_load_box 0 Try.isAgg28 rfl rfl rfl rfl⟩, ?_⟩
        refine gde2_t rfl rfl rfl rfl (o_assign rfl) ?_
        rintro _ _ ⟨rfl, rfl⟩
        refine ⟨⟨trivial, o_load_box 0 Try.isAgg28 rfl rfl rfl rfl⟩, ?_⟩
        refine gde2_nil ?_
        refine g_ret ?_
        exact retK (ret_one' rfl (ret_tmp rfl) (perm_drop _)) (congrArg (fun (p : Bool) => (.bool p : D)) (some_eq hm1))
end Go.Proofs.Ytafphfokopkhdaa
set_option linter.unusedVariables false
set_option linter.unusedSimpArgs false
set_option maxRecDepth 100000
namespace Go.Proofs.Ytafphfokopkhdaa
open Go.V
open Classical
theorem FUv : FU = 18446744073709551616 := rfl
theorem bt (b c : Bool) : (bif b then some true else some c : Option Bool) = some (b || c) := by cases b <;> rfl
theorem sameInts_eq (a b : List Int) (h : a.length ≤ 3000) : m_syntagmabase_SameInts a b = some (decide (a = b)) := by
  unfold m_syntagmabase_SameInts
  simp only [Bool.cond_eq_ite, Bool.not_eq_true', decide_eq_false_iff_not]
  by_cases hl : a.length = b.length
  · rw [if_neg (by omega)]
    refine bnd (loop_all (φ := m_syntagmabase_SameInts_l1 a b) (l := a) false (fun i x => b[i]? = some x) ?_ ?_ (by rw [FUv]; omega)) ?_
    · intro n i x hx hi
      simp only [m_syntagmabase_SameInts_l1]
      have hy : b[i]? = some b[i] := List.getElem?_eq_getElem (by omega)
      rw [decide_eq_true (by omega), cond_true, getI hx, Option.bind_some, getI hy, Option.bind_some, hy]
      simp only [Bool.cond_eq_ite, Bool.not_eq_true', decide_eq_false_iff_not]
      constructor
      · intro h; rw [if_neg (by simpa using (Option.some.inj h).symm), grd_pos (by omega)]
      · intro h; rw [if_pos (by intro h2; exact h (by rw [h2]))]
    · intro n
      simp only [m_syntagmabase_SameInts_l1]
      rw [decide_eq_false (by omega), cond_false]
    · by_cases h3 : a = b
      · subst h3
        rw [if_pos (fun i x h => h), decide_eq_true rfl]; rfl
      · rw [if_neg, decide_eq_false h3]; rfl
        intro h4
        refine h3 (List.ext_getElem? fun i => ?_)
        by_cases hi : i < a.length
        · rw [h4 i a[i] (List.getElem?_eq_getElem hi), List.getElem?_eq_getElem hi]
        · rw [List.getElem?_eq_none (by omega), List.getElem?_eq_none (by omega)]
  · rw [if_pos (by omega), decide_eq_false (fun h => hl (by rw [h]))]
theorem sli_tl {α : Type} (x : α) (l : List α) : sli (x :: l) 1 (((x :: l).length : Nat) : Int) = some l := by
  have h := sli_nat (x :: l) 1 (x :: l).length (by simp) (Nat.le_refl _)
  rw [List.take_length] at h
  exact h
def roomN (r : Int) : Nat := (if 64 < (if 0 > r then 0 else r) then 64 else (if 0 > r then 0 else r)).toNat
theorem room_b (r : Int) : 0 ≤ (if 64 < (if 0 > r then 0 else r) then 64 else (if 0 > r then 0 else r)) ∧ (if 64 < (if 0 > r then 0 else r) then 64 else (if 0 > r then 0 else r)) ≤ 64 := by
  split <;> split <;> omega
theorem room_i (r : Int) : (if 64 < (if 0 > r then 0 else r) then 64 else (if 0 > r then 0 else r)) = ((roomN r : Nat) : Int) := by
  unfold roomN
  rw [Int.toNat_of_nonneg (room_b r).1]
def qiS (c : Nat) (l : List Int) : QueueQueueInt := ⟨(c, l.take c), l.drop c⟩
theorem qi_fill_l (c : Nat) : ∀ (n : Nat) (buf more : List Int), more.length < n → buf.length ≤ c → m_qi_fill_l1 n ((c, buf), more) = some (qiS c (buf ++ more))
  | 0, buf, more, h, _ => by omega
  | n + 1, buf, [], _, hb => by
    simp only [m_qi_fill_l1]
    rw [decide_eq_false (by simp), cond_false]
    unfold qiS
    rw [List.append_nil, List.take_of_length_le hb, List.drop_eq_nil_of_le hb]
  | n + 1, buf, x :: more, h, hb => by
    simp only [m_qi_fill_l1]
    rw [decide_eq_true (by simp only [List.length_cons]; omega), cond_true, idx_c0, Option.bind_some]
    by_cases hc : c ≤ buf.length
    · rw [decide_eq_true hc, cond_true]
      unfold qiS
      have hl : buf.length = c := by omega
      rw [List.take_left' hl, List.drop_left' hl]
    · rw [decide_eq_false hc, cond_false, sli_tl, Option.bind_some, qi_fill_l c n (buf ++ [x]) more (by simp only [List.length_cons] at h; omega) (by simp only [List.length_append, List.length_cons, List.length_nil]; omega), List.append_assoc]
      rfl
theorem qi_fill_eq (c : Nat) (buf more : List Int) (h : more.length ≤ 1000000) (hb : buf.length ≤ c) : m_qi_fill ⟨(c, buf), more⟩ = some (qiS c (buf ++ more)) := qi_fill_l c FU buf more (by rw [FUv]; omega) hb
theorem qi_push (c : Nat) (l k : List Int) (h : l.length + k.length ≤ 1000) : m_qi_Push (qiS c l) k = some (qiS c (l ++ k)) := by
  unfold m_qi_Push
  rw [grd_pos (by show ((l.drop c).length + k.length) * 8 ≤ _; rw [List.length_drop]; omega), show m_qi_fill ⟨(qiS c l).first, (qiS c l).more ++ k⟩ = _ from qi_fill_eq c (l.take c) (l.drop c ++ k) (by rw [List.length_append, List.length_drop]; omega) (by rw [List.length_take]; omega), Option.bind_some, ← List.append_assoc, List.take_append_drop]
theorem qi_pop_nil (c : Nat) : m_qi_Pop (qiS c []) = some (0, false, qiS c []) := by
  unfold m_qi_Pop
  rw [show (qiS c []).first.2 = [] from List.take_nil, show (qiS c []).more = [] from List.drop_nil]
  rw [show (([] : List Int).isEmpty) = true from rfl, cond_true, decide_eq_true (by rfl), cond_true]
  unfold qiS
  rw [List.take_nil, List.drop_nil]
theorem qi_pop_cons (c : Nat) (x : Int) (l : List Int) (h : l.length ≤ 1000) : m_qi_Pop (qiS c (x :: l)) = some (x, true, qiS c l) := by
  unfold m_qi_Pop
  cases c with
  | zero =>
    rw [show (qiS 0 (x :: l)).first.2 = [] from rfl, show (qiS 0 (x :: l)).more = x :: l from rfl, show (([] : List Int).isEmpty) = true from rfl, cond_true, decide_eq_false (by simp only [List.length_cons]; omega), cond_false, idx_c0, Option.bind_some, sli_tl, Option.bind_some]
    rfl
  | succ k =>
    rw [show (qiS (k + 1) (x :: l)).first.2 = x :: l.take k from rfl, show (qiS (k + 1) (x :: l)).more = l.drop k from rfl, show (x :: l.take k).isEmpty = false from rfl, cond_false, idx_c0, Option.bind_some, sli_tl, Option.bind_some, show (qiS (k + 1) (x :: l)).first.1 = k + 1 from rfl, qi_fill_eq _ _ _ (by rw [List.length_drop]; omega) (by rw [List.length_take]; omega), Option.bind_some, List.take_append_drop]
theorem qi_new (r : Int) : m_qi_New r = some (qiS (roomN r) []) := by
  unfold m_qi_New
  obtain ⟨h1, h2⟩ := room_b r
  rw [grd_pos h1, grd_pos (by omega), grd_pos (by omega)]
  unfold qiS roomN
  rw [List.take_nil, List.drop_nil]
theorem qi_len (c : Nat) (l : List Int) (h : l.length ≤ 1000) : m_qi_Len (qiS c l) = some (l.length : Int) := by
  unfold m_qi_Len
  have h2 : (qiS c l).first.2.length + (qiS c l).more.length = l.length := by
    show (l.take c).length + (l.drop c).length = _
    rw [List.length_take, List.length_drop]; omega
  rw [grd_pos (by omega)]
  congr 1; omega
theorem qi_drain_l (c : Nat) : ∀ (n : Nat) (l acc : List Int), l.length < n → acc.length + l.length ≤ 1000 → m_qi_Drain_l1 n (acc, (qiS c l).first, (qiS c l).more) = some (acc ++ l, qiS c [])
  | 0, l, acc, h, _ => by omega
  | n + 1, [], acc, _, _ => by
    simp only [m_qi_Drain_l1]
    rw [show m_qi_Pop ⟨(qiS c []).first, (qiS c []).more⟩ = _ from qi_pop_nil c, Option.bind_some]
    dsimp only
    rw [Bool.not_false, cond_true, List.append_nil]
  | n + 1, x :: l, acc, h, h2 => by
    simp only [List.length_cons] at h h2
    simp only [m_qi_Drain_l1]
    rw [show m_qi_Pop ⟨(qiS c (x :: l)).first, (qiS c (x :: l)).more⟩ = _ from qi_pop_cons c x l (by omega), Option.bind_some]
    dsimp only
    rw [Bool.not_true, cond_false, grd_pos (by simp only [List.length_cons, List.length_nil]; omega), qi_drain_l c n l (acc ++ [x]) (by omega) (by simp only [List.length_append, List.length_cons, List.length_nil]; omega), List.append_assoc]
    rfl
theorem qi_drain (c : Nat) (l : List Int) (h : l.length ≤ 1000) : m_qi_Drain ⟨(qiS c l).first, (qiS c l).more⟩ = some (l, qiS c []) := qi_drain_l c FU l [] (by rw [FUv]; omega) (by simp only [List.length_nil]; omega)
theorem works18 : m_syntagmalaw18_works = some true := by kernel_rfl
theorem among5 (x : Int) : ∃ k, m_syntagmabase_Among x 5 = some k := by
  unfold m_syntagmabase_Among
  rw [decide_eq_false (by omega), cond_false, grd_pos (by decide)]
  exact ⟨_, rfl⟩
theorem ref18_pop_nil (z : Int) : m_ref18_Pop ⟨[], z⟩ = some (0, false, ⟨[], z⟩) := rfl
theorem ref18_pop_cons (x : Int) (l : List Int) (z : Int) (h : l.length ≤ 1000) : m_ref18_Pop ⟨x :: l, z⟩ = some (x, true, ⟨l, z⟩) := by
  unfold m_ref18_Pop
  dsimp only
  rw [decide_eq_false (by simp only [List.length_cons]; omega), cond_false, idx_c0, Option.bind_some, sli_tl, Option.bind_some, grd_pos (by omega)]
  rfl
def PlayI (c : Nat) (i : Nat) (s : Int × List Int × (Nat × List Int) × List Int) : Prop := s.2.1.length ≤ 3 * i ∧ s.2.2.1 = (qiS c s.2.1).first ∧ s.2.2.2 = (qiS c s.2.1).more
theorem play_loop (c : Nat) (acts : List Syntagmalaw18Act) (z : Int) : ∃ o, m_syntagmalaw18_QueuePlays_l1 acts FU (0, z, [], (qiS c []).first, (qiS c []).more) = some o ∧ ∃ z' l, o = Out.go (z', l, (qiS c l).first, (qiS c l).more) ∧ l.length ≤ 600 := by
  refine loop_rng (φ := fun n i s => m_syntagmalaw18_QueuePlays_l1 acts n (i, s)) (l := acts.take 200) (PlayI c) (fun o => ∃ z' l, o = Out.go (z', l, (qiS c l).first, (qiS c l).more) ∧ l.length ≤ 600) ?_ ?_ (by rw [FUv, List.length_take]; omega) (z, [], (qiS c []).first, (qiS c []).more) ⟨by simp, rfl, rfl⟩
  · rintro n i a ⟨z, l, ch, l4⟩ hx hi ⟨h1, h2, h3⟩
    simp only at h1 h2 h3
    subst h2 h3
    have hi2 : i < 200 ∧ i < acts.length := by rw [List.length_take] at hi; omega
    have hx2 : acts[i]? = some a := by rw [List.getElem?_take, if_pos hi2.1] at hx; exact hx
    left
    have tail : ∀ (z' : Int) (l' : List Int), l'.length ≤ 3 * (i + 1) → ∃ s', ((m_qi_Len (⟨(qiS c l').first, (qiS c l').more⟩ : QueueQueueInt)).bind fun x10 =>
        bif (!decide (x10 = (l'.length : Int))) then
          some (Out.ret false)
        else
          grd (InR ((i : Int) + 1)) <|
          m_syntagmalaw18_QueuePlays_l1 acts n (((i : Int) + 1), z', l', (qiS c l').first, (qiS c l').more)) = m_syntagmalaw18_QueuePlays_l1 acts n ((i : Int) + 1, s') ∧ PlayI c (i + 1) s' := by
      intro z' l' hl
      refine ⟨(z', l', (qiS c l').first, (qiS c l').more), ?_, hl, rfl, rfl⟩
      rw [show m_qi_Len (⟨(qiS c l').first, (qiS c l').more⟩ : QueueQueueInt) = _ from qi_len c l' (by omega), Option.bind_some, decide_eq_true rfl, Bool.not_true, cond_false, grd_pos (by omega)]
    obtain ⟨k, hk⟩ := among5 a.do_
    simp only [m_syntagmalaw18_QueuePlays_l1]
    rw [decide_eq_true (show (i : Int) < (acts.length : Int) by omega), decide_eq_true (show (i : Int) < 200 by omega), Bool.and_self, cond_true, getI hx2, Option.bind_some, hk, Option.bind_some]
    by_cases h2 : k = 2
    · rw [decide_eq_true h2, cond_true]
      cases l with
      | nil =>
        rw [show m_qi_Pop ⟨(qiS c []).first, (qiS c []).more⟩ = _ from qi_pop_nil c, Option.bind_some]
        dsimp only
        rw [ref18_pop_nil, Option.bind_some]
        dsimp only
        rw [show ((!decide ((0 : Int) = 0)) || (!(false == false))) = false by decide, cond_false, Option.bind_some, go_on]
        exact tail z [] (by simp)
      | cons x l =>
        simp only [List.length_cons] at h1
        rw [show m_qi_Pop ⟨(qiS c (x :: l)).first, (qiS c (x :: l)).more⟩ = _ from qi_pop_cons c x l (by omega), Option.bind_some]
        dsimp only
        rw [ref18_pop_cons x l z (by omega), Option.bind_some]
        dsimp only
        rw [decide_eq_true rfl, show ((!true) || (!(true == true))) = false by decide, cond_false, Option.bind_some, go_on]
        exact tail z l (by omega)
    · rw [decide_eq_false h2, cond_false]
      by_cases h3 : k = 3
      · rw [decide_eq_true h3, cond_true, qi_drain c l (by omega), Option.bind_some]
        dsimp only
        rw [sameInts_eq l l (by omega), Option.bind_some, decide_eq_true rfl, Bool.not_true, cond_false, Option.bind_some, go_on]
        exact tail z [] (by simp)
      · rw [decide_eq_false h3, cond_false]
        by_cases h4 : k = 4
        · rw [decide_eq_true h4, cond_true, show m_qi_Push (⟨(qiS c l).first, (qiS c l).more⟩ : QueueQueueInt) [a.n_, a.n_, (i : Int)] = _ from qi_push c l _ (by simp only [List.length_cons, List.length_nil]; omega), Option.bind_some, grd_pos (by simp only [List.length_cons, List.length_nil]; omega), Option.bind_some, go_on]
          exact tail z (l ++ [a.n_, a.n_, (i : Int)]) (by simp only [List.length_append, List.length_cons, List.length_nil]; omega)
        · rw [decide_eq_false h4, cond_false, show m_qi_Push (⟨(qiS c l).first, (qiS c l).more⟩ : QueueQueueInt) [a.n_] = _ from qi_push c l _ (by simp only [List.length_cons, List.length_nil]; omega), Option.bind_some, grd_pos (by simp only [List.length_cons, List.length_nil]; omega), Option.bind_some, go_on]
          exact tail z (l ++ [a.n_]) (by simp only [List.length_append, List.length_cons, List.length_nil]; omega)
  · rintro n ⟨z, l, ch, l4⟩ ⟨h1, h2, h3⟩
    simp only at h1 h2 h3
    subst h2 h3
    refine ⟨_, ?_, z, l, rfl, by rw [List.length_take] at h1; omega⟩
    simp only [m_syntagmalaw18_QueuePlays_l1]
    rw [show (decide (((acts.take 200).length : Int) < (acts.length : Int)) && decide (((acts.take 200).length : Int) < 200)) = false by
      rw [Bool.and_eq_false_iff, decide_eq_false_iff_not, decide_eq_false_iff_not, List.length_take]; omega, cond_false]
theorem ref18_new (room : Int) : m_ref18_New room = some ⟨[], (roomN room : Int)⟩ := by
  unfold m_ref18_New
  rw [room_i]
theorem law_QueuePlays (room : Int) (acts : List Syntagmalaw18Act) : m_syntagmalaw18_QueuePlays room acts = some true := by
  unfold m_syntagmalaw18_QueuePlays
  rw [qi_new, Option.bind_some, ref18_new, Option.bind_some, show m_qi_Room (⟨(qiS (roomN room) []).first, (qiS (roomN room) []).more⟩ : QueueQueueInt) = some (roomN room : Int) from rfl, Option.bind_some]
  dsimp only
  rw [decide_eq_true rfl, Bool.not_true, cond_false]
  obtain ⟨o, e1, z, l, rfl, hl⟩ := play_loop (roomN room) acts (roomN room : Int)
  rw [e1, Option.bind_some, go_on]
  dsimp only
  rw [qi_drain (roomN room) l (by omega), Option.bind_some]
  dsimp only
  rw [sameInts_eq l l (by omega), Option.bind_some, decide_eq_true rfl, cond_true, works18]
  rfl
end Go.Proofs.Ytafphfokopkhdaa
