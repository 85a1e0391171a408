/- Arrays in boxes: slices of them, copies into them. -/
import Derived.Test.YtnnjgbcojdnhhaaV43
set_option linter.unusedVariables false
set_option linter.unusedSimpArgs false
namespace Go.V
section
variable {P : Program} {L : Env} {ms : List Asrt} {dst : Option Nat} {ty : TypeId} {pos : String} {after : Array Edge} {g : Option (Nat × Bool)} {d d' : D} {x y z : Operand} {t t' : TypeId}
/-- A slice of a whole array. -/
theorem o_slice_box {b off n sz : Nat} {e : TypeId} (hu : ∀ w, (underlying t).run P w = .ok (.array n e) w) (hs : ∀ w, (sizeOf e).run P w = .ok sz w) (hx : Env.ev L x = some (.v (.pointer (some ⟨b, off, none⟩)))) :
    OpP P ⟨dst, .slice t x none none none, ty, pos, after, g⟩ L ms (.v (.slice (some ⟨b, off, none⟩) n n)) := by
  refine .pure (by simp) fun H fr a w hok henv => ⟨.slice (some ⟨b, off, none⟩) n n, ?_, conc_v.2 rfl⟩
  by_cases hn : n = 0
  · simp [execOp, Instr.sliceAt, Instr.sliceBounds, Instr.sureAddr, ev_v henv hx, hu, hs, Sem.run, hn]
  · simp [execOp, Instr.sliceAt, Instr.sliceBounds, Instr.sureAddr, ev_v henv hx, hu, hs, Sem.run, add_zero']
theorem o_indexAddr_box {b off n sz : Nat} {e : TypeId} {k : IntKind} {i : Int} (hu : ∀ w, (underlying t).run P w = .ok (.array n e) w) (hs : ∀ w, (sizeOf e).run P w = .ok sz w) (hx : Env.ev L x = some (.v (.pointer (some ⟨b, off, none⟩)))) (hy : Env.ev L y = some (.v (.int k i))) (h0 : 0 ≤ i) (h1 : i < n) (hn : 1 < n) :
    OpP P ⟨dst, .indexAddr t x y, ty, pos, after, g⟩ L ms (.v (.pointer (some ⟨b, off + i.toNat * sz, none⟩))) := by
  refine .pure (by simp) fun H fr a w hok henv => ⟨.pointer (some ⟨b, off + i.toNat * sz, none⟩), ?_, conc_v.2 rfl⟩
  simp [execOp, Instr.indexAt, Instr.sureAddr, asIntOf, ev_v henv hx, ev_v henv hy, hu, hs, Sem.run, h0, h1, add_zero']
/-- A value of an array type that is all zeros. -/
theorem o_build_zero {n : Nat} {e : TypeId} {cs : List D} {vs : List Value} {sz : Nat} (hu : ∀ w, (underlying t).run P w = .ok (.array n e) w) (hs : ∀ w, (sizeOf e).run P w = .ok sz w) (hz : ∀ w, (zeroValue t).run P w = .ok (.agg vs.toArray) w) (hc : ∀ H, EncL H cs vs) :
    OpP P ⟨dst, .build t #[], ty, pos, after, g⟩ L ms (.agg cs) := by
  refine .pure (by simp) fun H fr a w hok henv => ⟨.agg vs.toArray, ?_, conc_agg.2 ⟨vs, rfl, hc H⟩⟩
  simp [execOp, Instr.build, Instr.fill, hu, hs, hz, Sem.run, Value.cells]
/-- A copy into an array that lies in a box, from its beginning. -/
theorem o_copy_box {b n : Nat} {T e : TypeId} {cs cs' : List D} {α : Type} {f : α → D} {l : List α} {t2 : TypeId} (k : Nat) (hu : ∀ w, (underlying t).run P w = .ok (.slice e) w) (hs : ∀ w, (sizeOf e).run P w = .ok 1 w) (hx : Env.ev L x = some (.v (.slice (some ⟨b, 0, none⟩) n n))) (hk : ms[k]? = some (box b T cs)) (hn : cs.length = n) (hfl : flat cs = true)
    (hy : Env.ev L y = some (.list 1 f l)) (hff : ∀ x, flat (f x).cs = true) (hfs : ∀ x, storableL (f x).cs = true) (hfa : ∀ x, (f x).isAgg = false) (hcs : (l.take n).map f ++ cs.drop (min l.length n) = cs') :
    OpT P ⟨dst, .call ⟨.builtin .copy, #[x, y], #[t, t2]⟩, ty, pos, after, g⟩ L ms (fun d ms' => d = .i64 ((min l.length n : Nat) : Int) ∧ ms' = ms.set k (box b T cs')) := by
  subst hn hcs
  refine .val (by simp) fun H fr a w hok henv => ?_
  obtain ⟨vs, h1, h2, h3⟩ := box_cells hok (getElem?_app hk)
  obtain ⟨h4, h5⟩ := EncL.get cs vs h2 hfl
  obtain ⟨a', cap, hv, _, _, hel⟩ := enc_list (henv.ev hy)
  -- the cells of what is copied
  have hus : ∃ us : List Value, us.length = min l.length cs.length ∧ EncL H ((l.take cs.length).map f) us ∧ (∀ u ∈ us, u.oneCell' = true) ∧ ∀ w', (∀ b o v, H b o = some v → w'.cell? ⟨b, o, none⟩ = some v) → (Builtin.firstCells 1 (min l.length cs.length) (.slice a' l.length cap)).run P w' = .ok us.toArray w' := by
    rcases hel with rfl | ⟨b2, off2, rfl, hel⟩
    · refine ⟨[], by simp, by simp [EncL], by simp, fun w' _ => ?_⟩
      cases a' with
      | none => simp [Builtin.firstCells, Sem.run]
      | some q => simp [Builtin.firstCells, loadCells, loadCellsFrom, Sem.run]
    · obtain ⟨us, ue, uh⟩ := list_cells hel
      have ulen : us.length = l.length := by simpa using ue.1
      have hone := listEnc_one ue hff hfs
      refine ⟨us.take cs.length, by simp [ulen]; omega, ?_, fun u hu => hone u (List.mem_of_mem_take hu), fun w' hw' => ?_⟩
      · have key : ∀ (l : List α) (us : List Value), us.length = l.length → (∀ (i : Nat) x, l[i]? = some x → ∃ u, us[i]? = some u ∧ Enc H (f x) [u]) → EncL H (l.map f) us := by
          intro l
          induction l with
          | nil => intro us hl _; simp at hl; subst hl; simp [EncL]
          | cons x l ih =>
            intro us hl hg
            rcases us with _ | ⟨u, us⟩
            · simp at hl
            · simp only [List.map_cons, EncL]
              obtain ⟨u', e1, e2⟩ := hg 0 x rfl
              simp only [List.getElem?_cons_zero, Option.some.injEq] at e1
              subst e1
              exact ⟨[u], us, rfl, e2, ih us (by simpa using hl) fun i y hy => by simpa using hg (i + 1) y (by simpa using hy)⟩
        refine key _ _ (by simp [ulen]) fun i x hx => ?_
        rw [List.getElem?_take] at hx
        split at hx
        · rename_i hi
          obtain ⟨ws, e1, e2, e3⟩ := ue.2 i x hx
          obtain ⟨u, rfl⟩ := enc_one (hfa x) e1
          exact ⟨u, by rw [List.getElem?_take, if_pos hi]; simpa using e3 0 u rfl, e1⟩
        · cases hx
      · have hcell : ∀ j v, (us.take cs.length)[j]? = some v → w'.cell? ((⟨b2, off2, none⟩ : Addr).add j) = some v := fun j v hj => by
          rw [add_zero']
          rw [List.getElem?_take] at hj
          split at hj
          · exact hw' _ _ _ (uh j v hj)
          · cases hj
        have hl := run_loadCells_list (P := P) w' ⟨b2, off2, none⟩ (us.take cs.length) hcell
        have hm : (us.take cs.length).length = min l.length cs.length := by simp [ulen]; omega
        rw [hm] at hl
        simpa [Builtin.firstCells, Sem.run] using hl
  obtain ⟨us, u1, u2, u3, u4⟩ := hus
  have hrun := run_storeCells_at (P := P) b 0 T us 0 vs.toArray w h1 (by simp only [List.size_toArray]; omega) u3
  have hvl : vs.length = cs.length := h4
  refine ⟨.int .i64 ((min l.length cs.length : Nat) : Int), _, _, w.setRow b (us ++ vs.drop (min l.length cs.length)).toArray, H, ?_, ⟨rfl, rfl⟩, PH.le_refl H, ?_, conc_v.2 rfl, ⟨rfl, rfl, rfl, by simp [World.setRow]⟩⟩
  · have e2 : (vs.take (0 + 0) ++ us ++ vs.drop (0 + 0 + us.length)) = us ++ vs.drop (min l.length cs.length) := by simp [u1]
    simp only [] at hrun
    rw [e2] at hrun
    have hf := u4 w (fun b o v hv => hok.sub b o v hv)
    have hmin : Nat.min l.length cs.length = min l.length cs.length := rfl
    simp [execOp, resolve, invoke, builtin, Builtin.copy_, ev_v henv hx, hv, hu, hs, Builtin.lenOf, Sem.run_bind, hmin, hf, hrun, Sem.run, goInt]
  · have p1 : (ms ++ fr).Perm (box b T cs :: (ms.eraseIdx k ++ fr)) := perm_fr hk
    refine HeapOk.perm (perm_fr' hk) ?_
    refine box_upd (hok.perm p1) ?_
    exact encL_append _ _ _ _ u2 (encL_drop _ _ hfl h2 _)
end
theorem copy3 (l : List Int) (a b c : Int) : (l.take 3).map (fun n => D.i64 n) ++ [D.i64 a, D.i64 b, D.i64 c].drop (min l.length 3) = [D.i64 ((l[0]?).getD a), D.i64 ((l[1]?).getD b), D.i64 ((l[2]?).getD c)] := by
  rcases l with _ | ⟨x, _ | ⟨y, _ | ⟨z, r⟩⟩⟩
  · rfl
  · rfl
  · rfl
  · simp
end Go.V
