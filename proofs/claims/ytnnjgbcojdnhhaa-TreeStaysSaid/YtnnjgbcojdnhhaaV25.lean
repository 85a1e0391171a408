/- Arrays of one's own that are written in place. -/
import Derived.Test.YtnnjgbcojdnhhaaV23
import Derived.Laws.MakeOwn
import Derived.Lib.AppendZeros
set_option linter.unusedVariables false
set_option linter.unusedSimpArgs false
namespace Go.V
/-- A slice of one's own whose elements may be written. -/
def arr (a : Option Addr) (m cap : Nat) (T : TypeId) (sz : Nat) {α : Type} (f : α → D) (l : List α) : Asrt where
  blocks := match a with | some x => [x.block] | none => []
  ok := fun H h => l.length = m ∧ l.length ≤ cap ∧ cap ≤ maxLen ∧ ((a = none ∧ l = [] ∧ cap = 0) ∨ ∃ (b : Nat) (vs us : List Value), a = some ⟨b, 0, none⟩ ∧ h b = some (.cells vs.toArray T (0, 0)) ∧ vs.length = cap * sz ∧ ListEnc H f sz l us ∧ vs.take (l.length * sz) = us ∧ ∀ o, H b o = none)
  stable := by
    rintro H H' h h' e hle ⟨h0, h1, h2, h3⟩
    refine ⟨h0, h1, h2, ?_⟩
    rcases h3 with h3 | ⟨b, vs, us, ha, hb, hl, he, ht, hn⟩
    · exact .inl h3
    · subst ha
      have := e b (by simp)
      exact .inr ⟨b, vs, us, rfl, by rw [this.2]; exact hb, hl, he.mono hle, ht, fun o => by rw [this.1]; exact hn o⟩
/-- An address within. -/
def apt (a : Option Addr) (n : Nat) : Option Addr := match a with
  | some x => some (x.add n)
  | none => none
section
variable {P : Program} {L : Env} {ms : List Asrt} {dst : Option Nat} {ty : TypeId} {pos : String} {after : Array Edge} {g : Option (Nat × Bool)} {d d' : D} {x y : Operand} {t t' : TypeId}
theorem arr_cells {H : PH} {as : List Asrt} {w : World} {a : Option Addr} {m cap : Nat} {T : TypeId} {sz : Nat} {α : Type} {f : α → D} {l : List α} {k n : Nat} {z : α} (hok : HeapOk H as w) (hk : as[k]? = some (arr a m cap T sz f l)) (hz : l[n]? = some z) :
    ∃ (b : Nat) (vs us ws : List Value), a = some ⟨b, 0, none⟩ ∧ w.heap[b]? = some (.cells vs.toArray T (0, 0)) ∧ vs.length = cap * sz ∧ ListEnc H f sz l us ∧ vs.take (l.length * sz) = us ∧ (∀ o, H b o = none) ∧ Enc H (f z) ws ∧ ws.length = sz ∧ (∀ (j : Nat) u, ws[j]? = some u → vs[n * sz + j]? = some u) ∧ n * sz + sz ≤ l.length * sz ∧ l.length * sz ≤ vs.length := by
  obtain ⟨h0, h1, h2, h3⟩ := hok.ok _ (List.mem_of_getElem? hk)
  have hlt := (List.getElem?_eq_some_iff.1 hz).1
  rcases h3 with ⟨_, h3, _⟩ | ⟨b, vs, us, ha, hb, hl, he, ht, hn⟩
  · subst h3; simp at hlt
  · obtain ⟨ws, e1, e2, e3⟩ := he.2 n z hz
    have hin : n * sz + sz ≤ l.length * sz := by
      calc n * sz + sz = (n + 1) * sz := by rw [Nat.add_mul]; omega
        _ ≤ l.length * sz := Nat.mul_le_mul_right _ hlt
    refine ⟨b, vs, us, ws, ha, hb, hl, he, ht, hn, e1, e2, fun j u hj => ?_, hin, by rw [hl]; exact Nat.mul_le_mul_right _ h1⟩
    have h4 := e3 j u hj
    rw [← ht, List.getElem?_take] at h4
    split at h4
    · exact h4
    · cases h4
theorem o_indexAddr_arr {α : Type} {sz : Nat} {f : α → D} {l : List α} {e : TypeId} {ik : IntKind} {a : Option Addr} {m cap : Nat} {n : Int} {z : α} (k : Nat) (hu : ∀ w, (underlying t).run P w = .ok (.slice e) w) (hs : ∀ w, (sizeOf e).run P w = .ok sz w) (hx : Env.ev L x = some (.v (.slice a m cap))) (hk : ms[k]? = some (arr a m cap e sz f l))
    (hy : Env.ev L y = some (.v (.int ik n))) (h : idx l n = some z) : OpP P ⟨dst, .indexAddr t x y, ty, pos, after, g⟩ L ms (.v (.pointer (apt a (n.toNat * sz)))) := by
  refine .pure (by simp) fun H fr act w hok henv => ?_
  obtain ⟨h0, hz⟩ := idx_some h
  obtain ⟨b, vs, us, ws, ha, _⟩ := arr_cells hok (getElem?_app hk) hz
  have hlt := (List.getElem?_eq_some_iff.1 hz).1
  have hm : l.length = m := (hok.ok _ (List.mem_of_getElem? (getElem?_app (r := fr) hk))).1
  subst ha hm
  have hb : ¬ n < 0 := by omega
  have hb2 : ¬ ((l.length : Int) ≤ n) := by omega
  refine ⟨.pointer (some ((⟨b, 0, none⟩ : Addr).add (n.toNat * sz))), ?_, conc_v.2 rfl⟩
  simp [execOp, Instr.indexAt, asIntOf, ev_v henv hx, ev_v henv hy, hu, hs, h0, hb, hb2, Sem.run, hlt]
theorem o_fieldAddr_apt {a : Option Addr} {o n off sz : Nat} {ag : Bool} {b : Nat} {α : Type} {f : α → D} {l : List α} {T sz' m cap : Nat} {i : Nat} {z : α} (k : Nat) (hf : FieldIs P t n off sz ag) (hx : Env.ev L x = some (.v (.pointer (apt a o)))) (hk : ms[k]? = some (arr a m cap T sz' f l)) (hz : l[i]? = some z) : OpP P ⟨dst, .fieldAddr t x n, ty, pos, after, g⟩ L ms (.v (.pointer (apt a (o + off)))) := by
  refine .pure (by simp) fun H fr act w hok henv => ?_
  obtain ⟨b, vs, us, ws, ha, _⟩ := arr_cells hok (getElem?_app hk) hz
  subst ha
  obtain ⟨fs, ff, h1, h2, h3, h4, h5, h6⟩ := hf.ex
  have hx' : Env.ev L x = some (.v (.pointer (some ⟨b, o, none⟩))) := by rw [hx]; simp [apt, add_zero']
  refine ⟨.pointer (some ⟨b, o + off, none⟩), ?_, conc_v.2 (by simp [apt, add_zero'])⟩
  simp [execOp, Instr.fieldAt, Instr.sureAddr, ev_v henv hx', h1, h2, fieldPlace, h4, h5, h3, Sem.run, add_zero']
/-- A cell of an element, read. -/
theorem o_load_arr {α : Type} {sz : Nat} {f : α → D} {l : List α} {T : TypeId} {a : Option Addr} {m cap i o off : Nat} {z : α} (k : Nat) (ha : ∀ w, (isAgg t).run P w = .ok false w) (hx : Env.ev L x = some (.v (.pointer (apt a o)))) (hk : ms[k]? = some (arr a m cap T sz f l)) (hz : l[i]? = some z) (ho : o = i * sz + off) (hf : flat (f z).cs = true) (hd : (f z).cs[off]? = some d) :
    OpP P ⟨dst, .load t x, ty, pos, after, g⟩ L ms d := by
  refine .pure (by simp) fun H fr act w hok henv => ?_
  obtain ⟨b, vs, us, ws, hab, hb, hl, he, ht, hn, e1, e2, e3, e4, e5⟩ := arr_cells hok (getElem?_app hk) hz
  subst hab ho
  have hx' : Env.ev L x = some (.v (.pointer (some ⟨b, i * sz + off, none⟩))) := by rw [hx]; simp [apt, add_zero']
  have ecs : EncL H (f z).cs ws := by
    cases hfz : f z with
    | agg cs => rw [hfz] at e1; simpa [Enc, D.cs] using e1
    | _ => rw [hfz] at e1; simp only [D.cs, EncL]; exact ⟨ws, [], by simp, e1, rfl⟩
  obtain ⟨h3, h4⟩ := EncL.get _ _ ecs hf
  obtain ⟨u, h5, h6⟩ := h4 off d hd
  have hc : w.cell? ⟨b, i * sz + off, none⟩ = some u := by simp [World.cell?, hb, e3 _ _ h5]
  exact ⟨u, by simp [execOp, Instr.loadAt, Instr.sureAddr, ev_v henv hx', loadVar, ha, load, Sem.run, hc], (conc_enc (flat_get _ off d hf hd)).2 h6⟩
/-- An element, read whole. -/
theorem o_load_arr_agg {α : Type} {sz : Nat} {f : α → D} {l : List α} {T : TypeId} {a : Option Addr} {m cap i o : Nat} {z : α} {cs : List D} (k : Nat) (ha : ∀ w, (isAgg t).run P w = .ok true w) (hs : ∀ w, (sizeOf t).run P w = .ok sz w) (hx : Env.ev L x = some (.v (.pointer (apt a o)))) (hk : ms[k]? = some (arr a m cap T sz f l)) (hz : l[i]? = some z) (ho : o = i * sz) (hf : f z = .agg cs) :
    OpP P ⟨dst, .load t x, ty, pos, after, g⟩ L ms (f z) := by
  refine .pure (by simp) fun H fr act w hok henv => ?_
  obtain ⟨b, vs, us, ws, hab, hb, hl, he, ht, hn, e1, e2, e3, e4, e5⟩ := arr_cells hok (getElem?_app hk) hz
  subst hab ho
  have hx' : Env.ev L x = some (.v (.pointer (some ⟨b, i * sz, none⟩))) := by rw [hx]; simp [apt, add_zero']
  have hl' := run_loadCells_list (P := P) w ⟨b, i * sz, none⟩ ws (fun j v hj => by rw [add_zero']; simp [World.cell?, hb, e3 j v hj])
  rw [e2] at hl'
  rw [hf] at e1 ⊢
  refine ⟨.agg ws.toArray, by simp [execOp, Instr.loadAt, Instr.sureAddr, ev_v henv hx', loadVar, ha, hs, hl', Sem.run], conc_agg.2 ⟨_, rfl, by simpa [Enc] using e1⟩⟩
theorem listEnc_set {H : PH} {α : Type} {f : α → D} {sz : Nat} {l : List α} {us ws' : List Value} {i : Nat} {z' : α} (e : ListEnc H f sz l us) (hi : i < l.length) (hw : Enc H (f z') ws') (hwl : ws'.length = sz) : ListEnc H f sz (l.set i z') (us.take (i * sz) ++ (ws' ++ us.drop (i * sz + sz))) := by
  have hin : i * sz + sz ≤ l.length * sz := by
    calc i * sz + sz = (i + 1) * sz := by rw [Nat.add_mul]; omega
      _ ≤ l.length * sz := Nat.mul_le_mul_right _ hi
  have hul := e.1
  refine ⟨by simp only [List.length_append, List.length_take, List.length_drop, List.length_set, hwl, hul]; omega, fun j x hx => ?_⟩
  by_cases hj : j = i
  · subst hj
    rw [List.getElem?_set_self hi] at hx
    simp only [Option.some.injEq] at hx
    subst hx
    refine ⟨ws', hw, hwl, fun q u hq => ?_⟩
    have hql := (List.getElem?_eq_some_iff.1 hq).1
    have h1 : (us.take (j * sz)).length = j * sz := by rw [List.length_take, hul]; omega
    rw [List.getElem?_append_right (by omega), h1, show j * sz + q - j * sz = q by omega, List.getElem?_append_left hql]
    exact hq
  · rw [List.getElem?_set_ne (fun h => hj h.symm)] at hx
    obtain ⟨ws, a, b, c⟩ := e.2 j x hx
    refine ⟨ws, a, b, fun q u hq => ?_⟩
    have hql := (List.getElem?_eq_some_iff.1 hq).1
    have h2 := c q u hq
    have h1 : (us.take (i * sz)).length = i * sz := by rw [List.length_take, hul]; omega
    rcases Nat.lt_or_gt_of_ne hj with hlt | hgt
    · have : j * sz + sz ≤ i * sz := by
        calc j * sz + sz = (j + 1) * sz := by rw [Nat.add_mul]; omega
          _ ≤ i * sz := Nat.mul_le_mul_right _ hlt
      rw [List.getElem?_append_left (by omega), List.getElem?_take, if_pos (by omega)]
      exact h2
    · have : i * sz + sz ≤ j * sz := by
        calc i * sz + sz = (i + 1) * sz := by rw [Nat.add_mul]; omega
          _ ≤ j * sz := Nat.mul_le_mul_right _ hgt
      rw [List.getElem?_append_right (by omega), h1, List.getElem?_append_right (by omega), List.getElem?_drop]
      rw [show i * sz + sz + (j * sz + q - i * sz - ws'.length) = j * sz + q by omega]
      exact h2
/-- An element, or a part of it, written. -/
theorem o_store_arr {α : Type} {sz s : Nat} {f : α → D} {l : List α} {T : TypeId} {a : Option Addr} {m cap i o off : Nat} {z z' : α} (k : Nat) (hs : ∀ w, (sizeOf t).run P w = .ok s w) (hx : Env.ev L x = some (.v (.pointer (apt a o)))) (hk : ms[k]? = some (arr a m cap T sz f l)) (hz : l[i]? = some z) (ho : o = i * sz + off)
    (hy : Env.ev L y = some d) (hd : flat d.cs = true) (hst : d.storable = true) (hst2 : storableL d.cs = true) (hsz : d.cs.length = s) (hl : off + s ≤ sz) (hf : flat (f z).cs = true) (hz' : (f z').cs = putCs off d.cs (f z).cs) :
    OpT P ⟨dst, .store t x y, ty, pos, after, g⟩ L ms (fun _ ms' => ms' = ms.set k (arr a m cap T sz f (l.set i z'))) := by
  refine .skip (by simp) fun H fr act w hok henv => ?_
  have hok1 := hok.perm (perm_fr hk)
  obtain ⟨b, vs, us, ws, hab, hb, hvl, he, ht, hn, e1, e2, e3, e4, e5⟩ := arr_cells (k := 0) hok1 rfl hz
  obtain ⟨r0, r1, r2, _⟩ := hok1.ok _ (List.mem_cons_self ..)
  have hlt := (List.getElem?_eq_some_iff.1 hz).1
  subst hab ho
  have hx' : Env.ev L x = some (.v (.pointer (some ⟨b, i * sz + off, none⟩))) := by rw [hx]; simp [apt, add_zero']
  have hv := conc_cs (henv.ev hy) hst
  have hvl2 := (EncL.get _ _ hv hd).1
  have hone := encL_oneCell _ _ hd hst2 hv
  have hvsz : vs.length = cap * sz := hvl
  have hin : i * sz + off + (act.eval y).cells.toList.length ≤ vs.length := by rw [hvl2, hsz]; omega
  have hrun := run_storeCells_at (P := P) b (i * sz + off) T (act.eval y).cells.toList 0 vs.toArray w hb (by simp only [List.size_toArray]; omega) hone
  let nvs : List Value := vs.take (i * sz + off) ++ ((act.eval y).cells.toList ++ vs.drop (i * sz + off + (act.eval y).cells.toList.length))
  have hnl : nvs.length = vs.length := by simp only [nvs, List.length_append, List.length_take, List.length_drop]; omega
  have ecs : EncL H (f z).cs ws := by
    cases hfz : f z with
    | agg cs => rw [hfz] at e1; simpa [Enc, D.cs] using e1
    | _ => rw [hfz] at e1; simp only [D.cs, EncL]; exact ⟨ws, [], by simp, e1, rfl⟩
  let ws' : List Value := ws.take off ++ ((act.eval y).cells.toList ++ ws.drop (off + d.cs.length))
  have ew' : Enc H (f z') ws' := by
    refine enc_cs ?_
    rw [hz']
    unfold putCs
    have := encL_append _ _ _ _ (encL_take _ _ hf ecs off) (encL_append _ _ _ _ hv (encL_drop _ _ hf ecs (off + d.cs.length)))
    exact this
  have hwl' : ws'.length = sz := by simp only [ws', List.length_append, List.length_take, List.length_drop, e2, hvl2, hsz]; omega
  have hul : us.length = l.length * sz := he.1
  have hnew : nvs.take ((l.set i z').length * sz) = us.take (i * sz) ++ (ws' ++ us.drop (i * sz + sz)) := by
    rw [List.length_set]
    apply List.ext_getElem?
    intro j
    have hwv : ∀ q, q < sz → vs[i * sz + q]? = ws[q]? := fun q hq => by
      have : ws[q]? = some ws[q] := by simp [e2, hq]
      rw [this]; exact e3 q _ this
    have huv : ∀ q, q < l.length * sz → vs[q]? = us[q]? := fun q hq => by rw [← ht, List.getElem?_take, if_pos hq]
    rw [List.getElem?_take]
    by_cases hj : j < l.length * sz
    · rw [if_pos hj]
      have h1 : (us.take (i * sz)).length = i * sz := by rw [List.length_take, hul]; omega
      have h2 : (vs.take (i * sz + off)).length = i * sz + off := by rw [List.length_take]; omega
      have h3 : (ws.take off).length = off := by rw [List.length_take, e2]; omega
      by_cases c1 : j < i * sz
      · rw [List.getElem?_append_left (by omega), List.getElem?_append_left (by omega), List.getElem?_take, if_pos (by omega), List.getElem?_take, if_pos c1]
        exact huv j hj
      · rw [List.getElem?_append_right (l₁ := us.take (i * sz)) (by omega), h1]
        by_cases c2 : j < i * sz + sz
        · rw [List.getElem?_append_left (l₁ := ws') (by omega)]
          by_cases c3 : j < i * sz + off
          · rw [List.getElem?_append_left (by omega), List.getElem?_take, if_pos c3, List.getElem?_append_left (by omega), List.getElem?_take, if_pos (by omega)]
            have := hwv (j - i * sz) (by omega)
            rw [show i * sz + (j - i * sz) = j by omega] at this
            exact this
          · rw [List.getElem?_append_right (l₁ := vs.take (i * sz + off)) (by omega), h2, List.getElem?_append_right (l₁ := ws.take off) (by omega), h3]
            rw [show j - i * sz - off = j - (i * sz + off) by omega]
            by_cases c4 : j - (i * sz + off) < (act.eval y).cells.toList.length
            · rw [List.getElem?_append_left c4, List.getElem?_append_left c4]
            · rw [List.getElem?_append_right (by omega), List.getElem?_append_right (by omega), List.getElem?_drop, List.getElem?_drop]
              have := hwv (j - i * sz) (by omega)
              rw [show i * sz + off + (act.eval y).cells.toList.length + (j - (i * sz + off) - (act.eval y).cells.toList.length) = i * sz + (j - i * sz) by omega, show off + d.cs.length + (j - (i * sz + off) - (act.eval y).cells.toList.length) = j - i * sz by omega]
              exact this
        · rw [List.getElem?_append_right (l₁ := ws') (by omega), List.getElem?_append_right (by omega), h2, List.getElem?_append_right (by rw [hvl2, hsz]; omega), List.getElem?_drop, List.getElem?_drop, hwl']
          rw [show i * sz + off + (act.eval y).cells.toList.length + (j - (i * sz + off) - (act.eval y).cells.toList.length) = j by omega, show i * sz + sz + (j - i * sz - sz) = j by omega]
          exact huv j hj
    · rw [if_neg hj, List.getElem?_eq_none]
      simp only [List.length_append, List.length_take, List.length_drop, hwl', hul]
      omega
  have hbnew : (w.setRow b nvs.toArray).heap[b]? = some (.cells nvs.toArray T (0, 0)) := by simp [World.setRow, Array.getElem?_modify, hb]
  refine ⟨_, w.setRow b nvs.toArray, H, ?_, rfl, PH.le_refl H, ?_, ⟨rfl, rfl, rfl, by simp [World.setRow]⟩⟩
  · have hcs : (act.eval y).cells.size = s := by rw [← Array.length_toList, hvl2, hsz]
    have e2' : (vs.take (i * sz + off + 0) ++ (act.eval y).cells.toList ++ vs.drop (i * sz + off + 0 + (act.eval y).cells.toList.length)) = nvs := by simp [nvs]
    simp only [] at hrun
    rw [e2'] at hrun
    simp only [execOp, Instr.storeAt, Instr.sureAddr, ev_v henv hx', storeVar, Sem.run_bind, Sem.run_pure, Result.andThen_ok, hs, hcs, ne_eq, not_true_eq_false, if_false, hrun]
  · refine HeapOk.perm (perm_fr' hk) ?_
    refine hok1.upd rfl (by simp [World.setRow]) ?_ (fun _ _ _ _ => rfl) (PH.le_refl H) ?_ ?_
    · intro b' _ hn'
      have : b ≠ b' := fun e => hn' (by simp [arr, e])
      simp [World.setRow, Array.getElem?_modify, this]
    · intro b' o v hb' hv'
      rcases hb' with hb' | hb'
      · simp [arr] at hb'; subst hb'; rw [hn] at hv'; cases hv'
      · rw [hok1.none_new _ _ hb'] at hv'; cases hv'
    · exact ⟨by rw [List.length_set]; exact r0, by rw [List.length_set]; exact r1, r2, .inr ⟨b, nvs, _, rfl, hbnew, by rw [hnl]; exact hvl, listEnc_set he hlt ew' hwl', hnew, hn⟩⟩
end
end Go.V
