/- 'append' onto arrays of one's own. -/
import Derived.Test.YtnnjgbcojdnhhaaV42
set_option linter.unusedVariables false
set_option linter.unusedSimpArgs false
namespace Go.V
section
variable {P : Program} {L : Env} {ms : List Asrt} {dst : Option Nat} {ty : TypeId} {pos : String} {after : Array Edge} {g : Option (Nat × Bool)} {d d' : D} {x y : Operand} {t t' : TypeId}
/-- 'append' onto an array of one's own. -/
theorem o_append_own {a : Option Addr} {cap n : Nat} {e : TypeId} {sz : Nat} {α : Type} {f : α → D} {xs zs : List α} {i : TypeInfo} {z : Value} (k : Nat) (ht : P.underlying t = some (.slice e)) (hi : P.info? e = some i) (hz : i.zero = some z) (hsz : i.size = sz) (hzs : z.cells.size = sz)
    (hx : Env.ev L x = some (.v (.slice a n cap))) (hk : ms[k]? = some (arr a n cap e sz f xs)) (hy : Env.ev L y = some (.list sz f zs)) (hfl : ∀ x, flat (f x).cs = true) (hst : ∀ x, storableL (f x).cs = true)
    (hb : (xs.length + zs.length) * i.bytes ≤ 140737488355328) (h63 : xs.length + zs.length ≤ maxLen) :
    OpT P ⟨dst, .call ⟨.builtin .append, #[x, y], #[t, t]⟩, ty, pos, after, g⟩ L ms (fun d' ms' => ∃ a' m' cap', d' = .v (.slice a' m' cap') ∧ ms' = ms.set k (arr a' m' cap' e sz f (xs ++ zs))) := by
  subst hsz
  refine .val (by simp) fun H fr act w hok henv => ?_
  have hok1 := hok.perm (perm_fr hk)
  obtain ⟨r0, r1, r2, r3⟩ := hok1.ok _ (List.mem_cons_self ..)
  subst r0
  obtain ⟨ya, yc, hyv, y1, y2, y3⟩ := enc_list (henv.ev hy)
  have hrun : ∀ {v : Value} {w' : World}, (Builtin.append_ #[t, t] ty #[.slice a xs.length cap, .slice ya zs.length yc]).run P w = .ok v w' →
      (execOp act.eval ⟨dst, .call ⟨.builtin .append, #[x, y], #[t, t]⟩, ty, pos, after, g⟩).run P w = .ok (.value v) w' := by
    intro v w' h
    simp [execOp, resolve, invoke, builtin, ev_v henv hx, hyv, Sem.run, h]
  have h63' : xs.length + zs.length ≤ 9223372036854775807 := by simpa [maxLen] using h63
  by_cases hz0 : zs = []
  · -- nothing comes
    subst hz0
    have hr : (Builtin.append_ #[t, t] ty #[.slice a xs.length cap, .slice ya 0 yc]).run P w = .ok (.slice a xs.length cap) w := by
      have hf : (Builtin.firstCells i.size 0 (.slice ya 0 yc)).run P w = .ok #[] w := by
        cases ya with
        | none => simp [Builtin.firstCells, Sem.run]
        | some q => simp [Builtin.firstCells, loadCells, loadCellsFrom, Sem.run]
      cases a with
      | none => simp [Builtin.append_, run_underlying ht, sizeOf, typeInfo, hi, Builtin.lenOf, r1, hf, Sem.run]
      | some q => simp [Builtin.append_, run_underlying ht, sizeOf, typeInfo, hi, Builtin.lenOf, r1, hf, storeCells, Sem.run]
    refine ⟨.slice a xs.length cap, .v (.slice a xs.length cap), ms.set k (arr a xs.length cap e i.size f (xs ++ ([] : List α))), w, H, hrun hr, ⟨a, _, cap, rfl, rfl⟩, PH.le_refl H, ?_, conc_v.2 rfl, SameOut.refl w⟩
    simp only [List.append_nil]
    have : ms.set k (arr a xs.length cap e i.size f xs) = ms := by
      apply List.ext_getElem?
      intro j
      by_cases hj : k = j
      · subst hj
        have hlt := (List.getElem?_eq_some_iff.1 hk).1
        rw [List.getElem?_set_self hlt, hk]
      · rw [List.getElem?_set_ne hj]
    rw [this]
    exact hok
  · rcases y3 with y3 | ⟨yb, yo, hya, hyel⟩
    · exact absurd y3 hz0
    · subst hya
      obtain ⟨us, ue, uh⟩ := list_cells hyel
      have hpos : 0 < zs.length := List.length_pos_iff.2 hz0
      have hnews : ∀ j v, us[j]? = some v → w.cell? ((⟨yb, yo, none⟩ : Addr).add j) = some v := fun j v hj => by rw [add_zero']; exact hok.sub _ _ _ (uh j v hj)
      have hone := listEnc_one ue hfl hst
      -- behind a new block
      have grown : ∀ (old : Nat) (olds : List Value), ListEnc H f i.size xs olds → (Builtin.append_ #[t, t] ty #[.slice a xs.length cap, .slice (some ⟨yb, yo, none⟩) zs.length yc]).run P w =
          .ok (.slice (some ⟨w.heap.size, 0, none⟩) (xs.length + zs.length) (grownCap w (xs.length + zs.length) old e)) (w.drew.alloc (.cells (olds.toArray ++ us.toArray ++ Builtin.zeroCells z.cells (grownCap w (xs.length + zs.length) old e - (xs.length + zs.length))) e)) →
          ∃ v d ms' w' H', (execOp act.eval ⟨dst, .call ⟨.builtin .append, #[x, y], #[t, t]⟩, ty, pos, after, g⟩).run P w = .ok (.value v) w' ∧ (∃ a' m' cap', d = .v (.slice a' m' cap') ∧ ms' = ms.set k (arr a' m' cap' e i.size f (xs ++ zs))) ∧
            PH.le H H' ∧ HeapOk H' (ms' ++ fr) w' ∧ Conc H' d v ∧ SameOut w w' := by
        intro old olds ole hr
        have hge := grownCap_ge w (xs.length + zs.length) old e
        have hcm : grownCap w (xs.length + zs.length) old e ≤ maxLen := grownCap_le_maxLen w (xs.length + zs.length) old e h63
        have hsplit : (olds.toArray ++ us.toArray ++ Builtin.zeroCells z.cells (grownCap w (xs.length + zs.length) old e - (xs.length + zs.length))) = ((olds ++ us) ++ (Builtin.zeroCells z.cells (grownCap w (xs.length + zs.length) old e - (xs.length + zs.length))).toList).toArray := by
          apply Array.ext'; simp
        rw [hsplit] at hr
        have hd : HeapOk H (ms.eraseIdx k ++ fr) w.drew := (hok1.tail).drew _
        have hlen : (olds ++ us).length = (xs ++ zs).length * i.size := by rw [List.length_append, ole.1, ue.1, List.length_append, Nat.add_mul]
        have hown := hd.own (o := .cells ((olds ++ us) ++ (Builtin.zeroCells z.cells (grownCap w (xs.length + zs.length) old e - (xs.length + zs.length))).toList).toArray e (0, 0))
          (A := arr (some ⟨w.heap.size, 0, none⟩) (xs.length + zs.length) (grownCap w (xs.length + zs.length) old e) e i.size f (xs ++ zs)) rfl ?_
        · refine ⟨_, _, _, _, H, hrun hr, ⟨_, _, _, rfl, rfl⟩, PH.le_refl H, hown.perm (perm_fr' hk), conc_v.2 rfl, ?_⟩
          exact ⟨rfl, rfl, rfl, by have := size_alloc' w.drew (.cells ((olds ++ us) ++ (Builtin.zeroCells z.cells (grownCap w (xs.length + zs.length) old e - (xs.length + zs.length))).toList).toArray e); rw [this]; show w.heap.size ≤ w.heap.size + 1; omega⟩
        · refine ⟨by simp, by simpa using hge, hcm, .inr ⟨w.heap.size, _, olds ++ us, rfl, heap_alloc_new w.drew _, ?_, ole.append ue, ?_, ?_⟩⟩
          · have hzl : (Builtin.zeroCells z.cells (grownCap w (xs.length + zs.length) old e - (xs.length + zs.length))).toList.length = (grownCap w (xs.length + zs.length) old e - (xs.length + zs.length)) * z.cells.size := by rw [Array.length_toList, size_zeroCells]
            rw [List.length_append, hlen, hzl, hzs, ← Nat.add_mul]
            congr 1
            simp only [List.length_append]
            omega
          · rw [← hlen]; exact List.take_left
          · intro o
            exact hd.none_new _ _ (Nat.le_refl _)
      rcases r3 with ⟨ha, hxs, hcap⟩ | ⟨b, vs, os, ha, hbk, hvl, ole, htake, hnone⟩
      · subst ha hxs hcap
        have hr := run_append_nil (P := P) w t ty e i z ht hi hz ⟨yb, yo, none⟩ zs.length yc us ue.1 hnews hpos (by simp at h63'; omega) (by simp at hb; omega)

        refine grown 0 [] ⟨by simp, fun i x hx => by simp at hx⟩ ?_
        simpa using hr
      · subst ha
        by_cases hroom : xs.length + zs.length ≤ cap
        · -- there is room
          have hfit : xs.length * i.size + us.length ≤ vs.toArray.size := by
            simp only [List.size_toArray, hvl, ue.1, ← Nat.add_mul]; exact Nat.mul_le_mul_right _ hroom
          have hr := run_append_room (P := P) w t ty e i ht hi b xs.length cap vs.toArray hbk ⟨yb, yo, none⟩ zs.length yc us ue.1 hnews hone hroom hfit
          have hosl : os.length = xs.length * i.size := ole.1
          have hlt : b < w.heap.size := hok1.lt _ (by simp : arr (some ⟨b, 0, none⟩) xs.length cap e i.size f xs ∈ _) b (by simp [arr])
          have hnew : (vs.toArray.toList.take (xs.length * i.size) ++ us ++ vs.toArray.toList.drop (xs.length * i.size + us.length)) = (os ++ us) ++ vs.drop (xs.length * i.size + us.length) := by
            simp only [htake]
          rw [hnew] at hr
          have hupd : HeapOk H (arr (some ⟨b, 0, none⟩) (xs.length + zs.length) cap e i.size f (xs ++ zs) :: (ms.eraseIdx k ++ fr)) (w.setRow b ((os ++ us) ++ vs.drop (xs.length * i.size + us.length)).toArray) := by
            have hbnew : (w.setRow b ((os ++ us) ++ vs.drop (xs.length * i.size + us.length)).toArray).heap[b]? = some (.cells ((os ++ us) ++ vs.drop (xs.length * i.size + us.length)).toArray e (0, 0)) := by
              simp [World.setRow, Array.getElem?_modify, hbk]
            refine hok1.upd rfl (by simp [World.setRow]) ?_ (fun _ _ _ _ => rfl) (PH.le_refl H) ?_ ?_
            · intro b' _ hn
              have : b ≠ b' := fun e => hn (by simp [arr, e])
              simp [World.setRow, Array.getElem?_modify, this]
            · intro b' o v hb' hv
              rcases hb' with hb' | hb'
              · simp [arr] at hb'; subst hb'; rw [hnone] at hv; cases hv
              · rw [hok.none_new _ _ hb'] at hv; cases hv
            · refine ⟨by simp, by simpa using hroom, r2, .inr ⟨b, _, os ++ us, rfl, hbnew, ?_, ole.append ue, ?_, hnone⟩⟩
              · simp only [List.length_append, List.length_drop, hosl, hvl, ue.1]
                have : (xs.length + zs.length) * i.size ≤ cap * i.size := Nat.mul_le_mul_right _ hroom
                rw [Nat.add_mul] at this
                omega
              · have : (os ++ us).length = (xs ++ zs).length * i.size := by rw [List.length_append, hosl, ue.1, List.length_append, Nat.add_mul]
                rw [← this]; exact List.take_left
          refine ⟨_, _, _, _, H, hrun hr, ⟨_, _, _, rfl, rfl⟩, PH.le_refl H, hupd.perm (perm_fr' hk), conc_v.2 rfl, ⟨rfl, rfl, rfl, by simp [World.setRow]⟩⟩
        · have holds : ∀ j v, os[j]? = some v → w.cell? ((⟨b, 0, none⟩ : Addr).add j) = some v := fun j v hj => by
            
            rw [add_zero', Nat.zero_add]
            have hjl := (List.getElem?_eq_some_iff.1 hj).1
            rw [ole.1] at hjl
            have h2 : vs[j]? = some v := by rw [← htake, List.getElem?_take, if_pos hjl] at hj; exact hj
            simp [World.cell?, hbk, h2]
          have hr := run_append_grow (P := P) w t ty e i z ht hi hz ⟨b, 0, none⟩ xs.length cap os ole.1 holds ⟨yb, yo, none⟩ zs.length yc us ue.1 hnews (by omega) (by omega) (growslice_fits (by omega) hb)

          exact grown cap os ole hr
end
end Go.V
