/- Slices against nil; appended zeros; ranges over functions along models. -/
import Derived.Test.YtnnjgbcojdnhhaaV26
import Derived.Laws.Cover3
set_option linter.unusedVariables false
set_option linter.unusedSimpArgs false
namespace Go.V
section
variable {P : Program} {L : Env} {ms : List Asrt} {dst : Option Nat} {ty : TypeId} {pos : String} {after : Array Edge} {g : Option (Nat × Bool)} {d d' : D} {x y : Operand} {t t' : TypeId}
/-- A list, compared with nil: if it is nil it is empty. -/
theorem o_eqnil_slice {α : Type} {sz : Nat} {f : α → D} {l : List α} {e : TypeId} (hu : P.underlying t = some (.slice e)) (hx : Env.ev L x = some (.list sz f l)) (hy : Env.ev L y = some (.v (.slice none 0 0))) :
    OpT P ⟨dst, .binOp .eql t x y t', ty, pos, after, g⟩ L ms (fun d ms' => ∃ b, d = .bool b ∧ ms' = ms ∧ (b = true → l = [])) := by
  refine .val (by simp) fun H fr act w hok henv => ?_
  obtain ⟨a, cap, hv, h1, h2, h3⟩ := enc_list (henv.ev hx)
  refine ⟨.bool a.isNone, _, ms, w, H, ?_, ⟨a.isNone, rfl, rfl, fun h => ?_⟩, PH.le_refl H, hok, conc_v.2 rfl, SameOut.refl w⟩
  · simp [execOp, hv, ev_v henv hy, eqGuard, binOp, Sem.run, run_equal_slice_nil w t e a _ _ hu]
  · rcases h3 with h3 | ⟨b, off, ha, _⟩
    · exact h3
    · rw [ha] at h; cases h
theorem refines_newarr {T : TypeId} {sz : Nat} {α : Type} {f : α → D} : Refines L ms L (arr none 0 0 T sz f ([] : List α) :: ms) := by
  intro Γ a w m
  obtain ⟨H, marks, hle, hok, henv, hdf⟩ := m.ex
  refine ⟨⟨H, marks, hle, ?_, henv, hdf⟩, m.size, m.same⟩
  refine ⟨hok.sub, by simpa [arr] using hok.nodup, fun A hA b hb => ?_, fun A hA => ?_⟩
  · rcases List.mem_cons.1 hA with rfl | hA
    · simp [arr] at hb
    · exact hok.lt A hA b hb
  · rcases List.mem_cons.1 hA with rfl | hA
    · exact ⟨rfl, by simp, by simp [maxLen], .inl ⟨rfl, rfl, rfl⟩⟩
    · exact hok.ok A hA
/-- append(nil, make(..)...): room, of which nothing is used yet. -/
theorem o_append_zeros {e tn : TypeId} {sz : Nat} {α : Type} {f : α → D} {i : TypeInfo} {z : Value} {kn ik : IntKind} {n : Nat} (ht : P.underlying t = some (.slice e)) (htn : P.underlying tn = some (.int kn)) (hi : P.info? e = some i) (hz : i.zero = some z) (hsz : i.size = sz) (hzs : z.cells.size = sz) (h0 : 0 < sz)
    (hx : Env.ev L x = some (.v (.slice none 0 0))) (hy : Env.ev L y = some (.v (.int ik n))) (hn : 0 < n) (hb : n * i.bytes ≤ 140737488355328) (hb0 : 0 < i.bytes) :
    OpT P ⟨dst, .call ⟨.builtin .append, #[x, y], #[t, tn]⟩, ty, pos, after, g⟩ L ms (fun d' ms' => ∃ a cap, n ≤ cap ∧ d' = .v (.slice a n cap) ∧ ms' = row a cap e sz f ([] : List α) :: ms) := by
  subst hsz
  refine .val (by simp) fun H fr act w hok henv => ?_
  have hnb : n ≤ n * i.bytes := Nat.le_mul_of_pos_right _ hb0
  have hr := Lib.run_append_nil_zeros (P := P) w t tn ty e i z ik kn ht htn hi hz n hn h0 (by omega) (by omega)
  have hge : n ≤ grownCap w n 0 e := grownCap_ge w n 0 e
  have hcm : grownCap w n 0 e ≤ maxLen := grownCap_le_maxLen w n 0 e (by simp only [maxLen]; omega)
  let cells : List Value := (Builtin.zeroCells z.cells n ++ Builtin.zeroCells z.cells (grownCap w n 0 e - n)).toList
  have hcells : (Builtin.zeroCells z.cells n ++ Builtin.zeroCells z.cells (grownCap w n 0 e - n)) = cells.toArray := by simp [cells]
  rw [hcells] at hr
  have hd : HeapOk H (ms ++ fr) w.drew := hok.drew _
  have hown := hd.own (o := .cells cells.toArray e) (A := row (some ⟨w.heap.size, 0, none⟩) (grownCap w n 0 e) e i.size f ([] : List α)) rfl ?_
  · refine ⟨_, _, _, _, H, ?_, ⟨some ⟨w.heap.size, 0, none⟩, grownCap w n 0 e, hge, rfl, rfl⟩, PH.le_refl H, hown, conc_v.2 rfl, ?_⟩
    · simp [execOp, resolve, invoke, builtin, ev_v henv hx, ev_v henv hy, Sem.run, hr]
    · exact ⟨rfl, rfl, rfl, by have := size_alloc' w.drew (.cells cells.toArray e); rw [this]; show w.heap.size ≤ w.heap.size + 1; omega⟩
  · refine ⟨by simp, hcm, .inr ⟨w.heap.size, cells, [], rfl, heap_alloc_new w.drew _, ?_, ⟨by simp, fun q x hq => by simp at hq⟩, by simp, fun q u hq => by simp at hq, fun o _ => hok.none_new _ _ (Nat.le_refl _)⟩⟩
    have h1 : (Builtin.zeroCells z.cells n).size = n * z.cells.size := size_zeroCells _ _
    have h2 : (Builtin.zeroCells z.cells (grownCap w n 0 e - n)).size = (grownCap w n 0 e - n) * z.cells.size := size_zeroCells _ _
    simp only [cells, Array.length_toList, Array.size_append, h1, h2, hzs]
    rw [← Nat.add_mul]
    congr 1
    omega
theorem o_append_zeros_i {e tn : TypeId} {sz : Nat} {α : Type} {f : α → D} {i : TypeInfo} {z : Value} {kn ik : IntKind} {n : Int} (ht : P.underlying t = some (.slice e)) (htn : P.underlying tn = some (.int kn)) (hi : P.info? e = some i) (hz : i.zero = some z) (hsz : i.size = sz) (hzs : z.cells.size = sz) (h0 : Nat.ble 1 sz = true)
    (hx : Env.ev L x = some (.v (.slice none 0 0))) (hy : Env.ev L y = some (.v (.int ik n))) (hn : 0 < n) (hb : n.toNat * i.bytes ≤ 140737488355328) (hb0 : Nat.ble 1 i.bytes = true) :
    OpT P ⟨dst, .call ⟨.builtin .append, #[x, y], #[t, tn]⟩, ty, pos, after, g⟩ L ms (fun d' ms' => ∃ a cap, n.toNat ≤ cap ∧ d' = .v (.slice a n.toNat cap) ∧ ms' = row a cap e sz f ([] : List α) :: ms) :=
  o_append_zeros ht htn hi hz hsz hzs (Nat.le_of_ble_eq_true h0) hx (ik := ik) (by rw [hy, Int.toNat_of_nonneg (Int.le_of_lt hn)]) (by omega) hb (Nat.le_of_ble_eq_true hb0)
/-- A slice of one's own, cut at its beginning. -/
theorem o_slice_raw {sz : Nat} {a : Option Addr} {n cap h : Nat} {e : TypeId} {ik : IntKind} {hi : Operand} (hu : ∀ w, (underlying t).run P w = .ok (.slice e) w) (hs : ∀ w, (sizeOf e).run P w = .ok sz w) (hx : Env.ev L x = some (.v (.slice a n cap))) (hh : Env.ev L hi = some (.v (.int ik (h : Int)))) (h1 : h ≤ cap) (h3 : n ≤ cap) :
    OpP P ⟨dst, .slice t x none (some hi) none, ty, pos, after, g⟩ L ms (.v (.slice a h cap)) := by
  refine .pure (by simp) fun H fr act w _ henv => ?_
  have hb := bounds_run (P := P) (isS := true) (w := w) (len := n) (cap := cap) (l := 0) (h := h) (lo := none) (hi := some (.int ik (h : Int))) rfl ⟨ik, rfl⟩ (Nat.zero_le _) h1 h3
  refine ⟨.slice a h cap, ?_, conc_v.2 rfl⟩
  by_cases hc : cap = 0
  · subst hc; simp [execOp, Instr.sliceAt, Instr.slice, ev_v henv hx, ev_v henv hh, hu, Sem.run, hb, hs]
  · have hz : a.map (·.add 0) = a := by
      cases a with
      | none => rfl
      | some q => simp [Addr.add]
    have hc' : ¬ (0 = cap) := fun e => hc e.symm
    cases a with
    | none => simp [execOp, Instr.sliceAt, Instr.slice, ev_v henv hx, ev_v henv hh, hu, Sem.run, hb, hs, hc]
    | some q =>
      have hq : q.add 0 = q := by simpa using hz
      simp [execOp, Instr.sliceAt, Instr.slice, ev_v henv hx, ev_v henv hh, hu, Sem.run, hb, hs, hc, hq]
end
end Go.V
