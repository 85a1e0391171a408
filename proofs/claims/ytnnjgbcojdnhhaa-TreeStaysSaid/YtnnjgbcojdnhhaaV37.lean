/- Ranges over texts. -/
import Derived.Test.YtnnjgbcojdnhhaaV34
import Derived.Test.YtnnjgbcojdnhhaaV36
import Derived.Laws.RangeString
set_option linter.unusedVariables false
set_option linter.unusedSimpArgs false
namespace Go.V
/-- A text that is gone through: the place. -/
def sit (b : Nat) (s : List UInt8) (p : Nat) : Asrt where
  blocks := [b]
  ok := fun H h => h b = some (.stringIter ⟨s.toArray⟩ p) ∧ ∀ o, H b o = none
  stable := by
    rintro H H' h h' e hle ⟨h1, h2⟩
    have := e b (by simp)
    exact ⟨by rw [this.2]; exact h1, fun o => by rw [this.1]; exact h2 o⟩
def runeAt (s : List UInt8) (p : Nat) : Int := ((Utf8.decode ⟨s.toArray⟩ p).1 : Int)
def nextPos (s : List UInt8) (p : Nat) : Nat := if p < s.length then p + (Utf8.decode ⟨s.toArray⟩ p).2 else p
def nextD (s : List UInt8) (p : Nat) : D := if p < s.length then .tup [.bool true, .i64 p, .v (.int .i32 (runeAt s p))] else .tup [.bool false]
section
variable {P : Program} {L : Env} {ms : List Asrt} {dst : Option Nat} {ty : TypeId} {pos : String} {after : Array Edge} {g : Option (Nat × Bool)} {d d' : D} {x y : Operand} {t t' : TypeId}
theorem o_range_str {s : List UInt8} (hu : P.underlying t = some .string) (hx : Env.ev L x = some (.str s)) :
    OpT P ⟨dst, .range t x, ty, pos, after, g⟩ L ms (fun d ms' => ∃ b, d = .v (.pointer (some ⟨b, 0, none⟩)) ∧ ms' = sit b s 0 :: ms) := by
  refine .val (by simp) fun H fr a w hok henv => ?_
  refine ⟨.pointer (some ⟨w.heap.size, 0, none⟩), _, _, w.alloc (.stringIter ⟨s.toArray⟩ 0), H, ?_, ⟨w.heap.size, rfl, rfl⟩, PH.le_refl H, ?_, conc_v.2 rfl, sameOut_alloc _ _⟩
  · simp only [execOp, ev_v henv hx, Sem.run_bind, run_range_string w t _ hu, Result.andThen_ok, Sem.run_pure]; rfl
  · exact hok.own (A := sit w.heap.size s 0) rfl ⟨heap_alloc_new _ _, fun o => hok.none_new _ _ (Nat.le_refl _)⟩
theorem o_next_str {b p : Nat} {s : List UInt8} (k : Nat) (hx : Env.ev L x = some (.v (.pointer (some ⟨b, 0, none⟩)))) (hk : ms[k]? = some (sit b s p)) :
    OpT P ⟨dst, .next x true, ty, pos, after, g⟩ L ms (fun d ms' => d = nextD s p ∧ ms' = ms.set k (sit b s (nextPos s p))) := by
  refine .val (by simp) fun H fr a w hok henv => ?_
  have hok1 := hok.perm (perm_fr hk)
  obtain ⟨ho, hn⟩ := hok1.ok _ (List.mem_cons_self ..)
  have hsz : (⟨s.toArray⟩ : ByteArray).size = s.length := by simp [ByteArray.size]
  by_cases hp : p < s.length
  · refine ⟨.tuple #[.bool true, .int .i64 p, .int .i32 (runeAt s p)], nextD s p, _, { w with heap := w.heap.setIfInBounds b (.stringIter ⟨s.toArray⟩ (nextPos s p)) }, H, ?_, ⟨rfl, rfl⟩, PH.le_refl H, ?_, ?_, ⟨rfl, rfl, rfl, by simp⟩⟩
    · simp only [nextPos, if_pos hp, runeAt]
      simp only [execOp, ev_v henv hx, Instr.next, getObj, setObj, Sem.run_bind, Sem.run, ho, Result.andThen]
      simp [hsz, hp, goInt, Sem.run, ho]
    · refine HeapOk.perm (perm_fr' hk) ?_
      refine hok1.upd rfl (by simp) ?_ (fun _ _ _ _ => rfl) (PH.le_refl H) ?_ ?_
      · intro b' _ hn'
        have : b ≠ b' := fun e => hn' (by simp [sit, e])
        simp [Array.getElem?_setIfInBounds_ne this]
      · intro b' o v hb' hv'
        rcases hb' with hb' | hb'
        · simp [sit] at hb'; subst hb'; rw [hn] at hv'; cases hv'
        · rw [hok1.none_new _ _ hb'] at hv'; cases hv'
      · refine ⟨?_, hn⟩
        have hlt : b < w.heap.size := hok1.lt _ (List.mem_cons_self ..) b (by simp [sit])
        simp [hlt]
    · rw [conc_enc (by unfold nextD; rw [if_pos hp]; rfl)]
      unfold nextD
      rw [if_pos hp]
      simp only [Enc]
      refine ⟨[.bool true, .int .i64 p, .int .i32 (runeAt s p)], rfl, ?_⟩
      simp only [ConcL]
      exact ⟨_, _, rfl, conc_v.2 rfl, _, _, rfl, conc_v.2 rfl, _, _, rfl, conc_v.2 rfl, rfl⟩
  · refine ⟨.tuple #[.bool false], nextD s p, _, w, H, ?_, ⟨rfl, rfl⟩, PH.le_refl H, ?_, ?_, SameOut.refl w⟩
    · simp only [execOp, ev_v henv hx, Instr.next, getObj, setObj, Sem.run_bind, Sem.run, ho, Result.andThen]
      simp [hsz, hp, goInt, Sem.run, ho]
    · have : nextPos s p = p := by unfold nextPos; rw [if_neg hp]
      rw [this]
      have : ms.set k (sit b s p) = ms := by
        apply List.ext_getElem?
        intro i
        by_cases hi : k = i
        · subst hi; rw [List.getElem?_set_self (List.getElem?_eq_some_iff.1 hk).1, hk]
        · rw [List.getElem?_set_ne hi]
      rw [this]; exact hok
    · rw [conc_enc (by unfold nextD; rw [if_neg hp]; rfl)]
      unfold nextD
      rw [if_neg hp]
      simp only [Enc]
      refine ⟨[.bool false], rfl, ?_⟩
      simp only [ConcL]
      exact ⟨_, _, rfl, conc_v.2 rfl, rfl⟩
theorem o_next0 {s : List UInt8} {p : Nat} (hx : Env.ev L x = some (nextD s p)) : OpP P ⟨dst, .extract x 0, ty, pos, after, g⟩ L ms (.bool (decide (p < s.length))) := by
  by_cases hp : p < s.length
  · rw [decide_eq_true hp]
    unfold nextD at hx
    rw [if_pos hp] at hx
    exact o_extract hx rfl
  · rw [decide_eq_false hp]
    unfold nextD at hx
    rw [if_neg hp] at hx
    exact o_extract hx rfl
theorem o_next1 {s : List UInt8} {p : Nat} (hx : Env.ev L x = some (nextD s p)) (hp : decide (p < s.length) = true) : OpP P ⟨dst, .extract x 1, ty, pos, after, g⟩ L ms (.i64 (p : Int)) := by
  unfold nextD at hx
  rw [if_pos (of_decide_eq_true hp)] at hx
  exact o_extract hx rfl
theorem o_next2 {s : List UInt8} {p : Nat} (hx : Env.ev L x = some (nextD s p)) (hp : decide (p < s.length) = true) : OpP P ⟨dst, .extract x 2, ty, pos, after, g⟩ L ms (.v (.int .i32 (runeAt s p))) := by
  unfold nextD at hx
  rw [if_pos (of_decide_eq_true hp)] at hx
  exact o_extract hx rfl
end
section
variable {P : Program} {L : Env} {ms : List Asrt} {o : Oper}
theorem OpT.own {msA msB : List Asrt} (h : OpT P o L ms (fun _ ms' => ms' = msA)) (hc : ∀ (H : PH) (fr : List Asrt) (w : World), HeapOk H (msA ++ fr) w → HeapOk H (msB ++ fr) w) : OpT P o L ms (fun _ ms' => ms' = msB) := by
  intro ro H fr a w hok henv next Q hn
  refine h ro H fr a w hok henv next Q ?_
  rintro v d ms' w' H' rfl hle hok' hc' hs
  exact hn v d _ w' H' rfl hle (hc H' fr w' hok') hc' hs
theorem heap_cell {b : Nat} {T : TypeId} {cs cs' : List D} {d d' : D} (k q : Nat) (hk : ms[k]? = some (box b T cs)) (hq : cs[q]? = some d) (h : ∀ H us, Enc H d us → Enc H d' us) {ms' : List Asrt} (hcs : cs.set q d' = cs') (hms : ms.set k (box b T cs') = ms') :
    ∀ (H : PH) (fr : List Asrt) (w : World), HeapOk H (ms ++ fr) w → HeapOk H (ms' ++ fr) w := by
  subst hms hcs
  intro H fr w hok
  have hok1 := hok.perm (perm_fr hk)
  obtain ⟨vs, h1, h2, h3⟩ := hok1.ok _ (List.mem_cons_self ..)
  have hup : HeapOk H (box b T (cs.set q d') :: (ms.eraseIdx k ++ fr)) w :=
    hok1.upd rfl (Nat.le_refl _) (fun _ _ _ => rfl) (fun _ _ _ _ => rfl) (PH.le_refl H) (fun b o v _ hv => hok1.sub b o v hv) ⟨vs, h1, encL_set cs vs q d d' h2 hq (h H), h3⟩
  exact hup.perm (perm_fr' hk)
end
section
variable {L : Env} {ms : List Asrt}
/-- A box's cell with a slice of one's own: told as a list. -/
theorem refines_cellrow {b : Nat} {T T2 : TypeId} {cs cs' : List D} {a : Option Addr} {cap n : Nat} {sz : Nat} {α : Type} {f : α → D} {xs : List α} (k q k2 : Nat) (hk : ms[k]? = some (box b T cs)) (hq : cs[q]? = some (.v (.slice a n cap))) (hk2 : ms[k2]? = some (row a cap T2 sz f xs)) (hn : xs.length = n) {ms' : List Asrt} (hcs : cs.set q (.list sz f xs) = cs') (hms : ms.set k (box b T cs') = ms') : Refines L ms L ms' := by
  subst hms hcs hn
  intro Γ act w m
  obtain ⟨H, marks, hle, hok, henv, hdf⟩ := m.ex
  have he := row_enc (T := T2) hok (List.mem_append_left _ (List.mem_of_getElem? hk2))
  have hok1 := hok.perm (perm_fr hk)
  obtain ⟨vs, h1, h2, h3⟩ := hok1.ok _ (List.mem_cons_self ..)
  have hup : HeapOk H (box b T (cs.set q (.list sz f xs)) :: (ms.eraseIdx k ++ (marks.map markA ++ Γ.fr))) w :=
    hok1.upd rfl (Nat.le_refl _) (fun _ _ _ => rfl) (fun _ _ _ _ => rfl) (PH.le_refl H) (fun b o v _ hv => hok1.sub b o v hv) ⟨vs, h1, encL_set cs vs q _ _ h2 hq he, h3⟩
  exact ⟨⟨H, marks, hle, hup.perm (perm_fr' hk), henv, hdf⟩, m.size, m.same⟩
end
end Go.V
