/- A slice of one's own that is cut at its beginning and appended to. -/
import Derived.Test.YtnnjgbcojdnhhaaV32
set_option linter.unusedVariables false
set_option linter.unusedSimpArgs false
namespace Go.V
def que (a : Option Addr) (cap : Nat) (T : TypeId) (sz : Nat) {α : Type} (f : α → D) (l : List α) : Asrt where
  blocks := match a with | some x => [x.block] | none => []
  ok := fun H h => l.length ≤ cap ∧ cap ≤ maxLen ∧ ((a = none ∧ l = [] ∧ cap = 0) ∨ ∃ (b off : Nat) (vs us : List Value), a = some ⟨b, off, none⟩ ∧ h b = some (.cells vs.toArray T (0, 0)) ∧ off + cap * sz ≤ vs.length ∧ ListEnc H f sz l us ∧
    (∀ (k : Nat) u, us[k]? = some u → H b (off + k) = some u) ∧ ∀ o, off + l.length * sz ≤ o → o < off + cap * sz → H b o = none)
  stable := by
    rintro H H' h h' e hle ⟨h1, h2, h3⟩
    refine ⟨h1, h2, ?_⟩
    rcases h3 with h3 | ⟨b, off, vs, us, ha, hb, hl, he, hp, hn⟩
    · exact .inl h3
    · subst ha
      have := e b (by simp)
      exact .inr ⟨b, off, vs, us, rfl, by rw [this.2]; exact hb, hl, he.mono hle, fun k u hk => hle _ _ _ (hp k u hk), fun o ho ho2 => by rw [this.1]; exact hn o ho ho2⟩
section
variable {P : Program} {L : Env} {ms : List Asrt} {dst : Option Nat} {ty : TypeId} {pos : String} {after : Array Edge} {g : Option (Nat × Bool)} {d : D} {x y : Operand} {t : TypeId} {α : Type} {f : α → D} {sz cap n : Nat} {T e : TypeId} {a : Option Addr} {l : List α}
theorem que_conc {H : PH} {as : List Asrt} {w : World} (hok : HeapOk H as w) (hm : que a cap T sz f l ∈ as) : Conc H (.list sz f l) (.slice a l.length cap) := by
  obtain ⟨h1, h2, h3⟩ := hok.ok _ hm
  rw [conc_enc (by rfl)]
  simp only [Enc]
  refine ⟨a, cap, rfl, h1, h2, ?_⟩
  rcases h3 with ⟨_, h3, _⟩ | ⟨b, off, vs, us, ha, hb, hl, he, hp, hn⟩
  · exact .inl h3
  · refine .inr ⟨b, off, ha, fun i x hx => ?_⟩
    obtain ⟨ws, e1, e2, e3⟩ := he.2 i x hx
    exact ⟨ws, e1, e2, fun k u hk => by rw [Nat.add_assoc]; exact hp _ _ (e3 k u hk)⟩
theorem peekQ {i : Nat} (k : Nat) (hf : Env.find L i = some (.v (.slice a n cap))) (hk : ms[k]? = some (que a cap T sz f l)) (hn : l.length = n) : RefE ms L ((i, .list sz f l) :: L) := by
  subst hn
  intro t d' ht
  simp only [Env.find] at ht
  cases hb : Nat.beq i t with
  | true =>
    rw [hb] at ht
    have := Nat.eq_of_beq_eq_true hb
    subst this
    simp only [Option.some.injEq] at ht
    subst ht
    refine ⟨_, hf, (fun b e => (by cases e)), fun H fr w u hok c => ?_⟩
    rw [conc_v.1 c]
    exact que_conc (T := T) hok (List.mem_append_left _ (List.mem_of_getElem? hk))
  | false => rw [hb] at ht; exact ⟨d', ht, fun _ _ => rfl, fun _ _ _ _ _ c => c⟩
theorem refines_que (k : Nat) (hk : ms[k]? = some (row a cap T sz f l)) {ms' : List Asrt} (hms : ms.set k (que a cap T sz f l) = ms') : Refines L ms L ms' := by
  subst hms
  intro Γ act w mm
  obtain ⟨H, marks, hle, hok, henv, hdf⟩ := mm.ex
  have hok1 := hok.perm (perm_fr hk)
  obtain ⟨h1, h2, h3⟩ := hok1.ok _ (List.mem_cons_self ..)
  have hup : HeapOk H (que a cap T sz f l :: (ms.eraseIdx k ++ (marks.map markA ++ Γ.fr))) w := by
    refine hok1.upd rfl (Nat.le_refl _) (fun _ _ _ => rfl) (fun _ _ _ _ => rfl) (PH.le_refl H) (fun b o v _ hv => hok1.sub b o v hv) ⟨h1, h2, ?_⟩
    rcases h3 with h3 | ⟨b, vs, us, ha, hb, hl, he, ht, hp, hn⟩
    · exact .inl h3
    · exact .inr ⟨b, 0, vs, us, ha, hb, by omega, he, fun k u hk => by rw [Nat.zero_add]; exact hp k u hk, fun o ho _ => hn o (by omega)⟩
  exact ⟨⟨H, marks, hle, hup.perm (perm_fr' hk), henv, hdf⟩, mm.size, mm.same⟩
theorem listEnc_drop {H : PH} {us : List Value} (e : ListEnc H f sz l us) (m : Nat) : ListEnc H f sz (l.drop m) (us.drop (m * sz)) := by
  refine ⟨by rw [List.length_drop, List.length_drop, e.1, Nat.sub_mul], fun i x hx => ?_⟩
  rw [List.getElem?_drop] at hx
  obtain ⟨ws, a, b, c⟩ := e.2 _ x hx
  refine ⟨ws, a, b, fun k u hk => ?_⟩
  have := c k u hk
  rw [List.getElem?_drop, show m * sz + (i * sz + k) = (m + i) * sz + k by rw [Nat.add_mul]; omega]
  exact this
/-- Cut at the beginning. -/
theorem o_slice_que {lo : Operand} {ik : IntKind} {m : Int} {r : List α} (k : Nat) (hu : ∀ w, (underlying t).run P w = .ok (.slice e) w) (hs : ∀ w, (sizeOf e).run P w = .ok sz w) (hx : Env.ev L x = some (.v (.slice a n cap))) (hk : ms[k]? = some (que a cap T sz f l)) (hn : l.length = n)
    (hlo : Env.ev L lo = some (.v (.int ik m))) (h : sli l m (l.length : Int) = some r) :
    OpT P ⟨dst, .slice t x (some lo) none none, ty, pos, after, g⟩ L ms (fun d' ms' => ∃ a' cap', d' = .v (.slice a' r.length cap') ∧ ms' = ms.set k (que a' cap' T sz f r)) := by
  subst hn
  obtain ⟨h0, h1, _, hr⟩ := sli_some h
  simp only [Int.toNat_natCast, List.take_length] at hr
  subst hr
  refine .val (by simp) fun H fr act w hok henv => ?_
  have hok1 := hok.perm (perm_fr hk)
  obtain ⟨r1, r2, r3⟩ := hok1.ok _ (List.mem_cons_self ..)
  have hml : m.toNat ≤ l.length := by omega
  have hb := bounds_run (P := P) (isS := true) (w := w) (len := l.length) (cap := cap) (l := m.toNat) (h := l.length) (lo := some (.int ik m)) (hi := none) ⟨ik, by rw [Int.toNat_of_nonneg h0]⟩ rfl hml r1 r1
  refine ⟨.slice (if cap = m.toNat then a else a.map (·.add (m.toNat * sz))) (l.length - m.toNat) (cap - m.toNat), .v (.slice (if cap = m.toNat then a else a.map (·.add (m.toNat * sz))) (l.drop m.toNat).length (cap - m.toNat)), _, w, H, by simp [execOp, Instr.sliceAt, Instr.slice, ev_v henv hx, ev_v henv hlo, hu, Sem.run, hb, hs], ⟨_, _, rfl, rfl⟩, PH.le_refl H, ?_, conc_v.2 (by simp), SameOut.refl w⟩
  refine HeapOk.perm (perm_fr' hk) ?_
  have hbl : (que (if cap = m.toNat then a else a.map (·.add (m.toNat * sz))) (cap - m.toNat) T sz f (l.drop m.toNat)).blocks = (que a cap T sz f l).blocks := by
    by_cases hc : cap = m.toNat
    · rw [if_pos hc]; rfl
    · rw [if_neg hc]
      rcases r3 with ⟨h', _⟩ | ⟨b, off, vs, us, ha, _⟩
      · subst h'; rfl
      · subst ha; simp [que, add_zero']
  refine hok1.upd hbl (Nat.le_refl _) (fun _ _ _ => rfl) (fun _ _ _ _ => rfl) (PH.le_refl H) (fun b o v _ hv => hok1.sub b o v hv) ⟨by simp; omega, by omega, ?_⟩
  by_cases hc : cap = m.toNat
  · rw [if_pos hc]
    have hnil : l.drop m.toNat = [] := by rw [List.drop_eq_nil_iff]; omega
    rcases r3 with ⟨h', _, _⟩ | ⟨b, off, vs, us, ha, hbk, hl, he, hp, hno⟩
    · exact .inl ⟨h', hnil, by omega⟩
    · refine .inr ⟨b, off, vs, [], ha, hbk, by rw [hc]; simp; omega, by rw [hnil]; exact ⟨by simp, fun i x hx => by simp at hx⟩, fun k u hk => by simp at hk, fun o ho ho2 => ?_⟩
      rw [hc] at ho2
      simp at ho2
      omega
  · rw [if_neg hc]
    rcases r3 with ⟨h', h2, h3⟩ | ⟨b, off, vs, us, ha, hbk, hl, he, hp, hno⟩
    · subst h2; simp at hml; omega
    · subst ha
      have e1 : (m.toNat + (cap - m.toNat)) * sz = cap * sz := by congr 1; omega
      have e2 : (m.toNat + (l.length - m.toNat)) * sz = l.length * sz := by congr 1; omega
      rw [Nat.add_mul] at e1 e2
      refine .inr ⟨b, off + m.toNat * sz, vs, us.drop (m.toNat * sz), by simp [add_zero'], hbk, by omega, listEnc_drop he _, fun k u hk => ?_, fun o ho ho2 => hno o ?_ ?_⟩
      · rw [List.getElem?_drop] at hk
        have := hp _ u hk
        rw [show off + m.toNat * sz + k = off + (m.toNat * sz + k) by omega]
        exact this
      · rw [List.length_drop] at ho; omega
      · omega
theorem run_append_room_off {w : World} (t ty e : TypeId) (i : TypeInfo) (ht : P.underlying t = some (.slice e)) (hi : P.info? e = some i)
    (g off sLen sCap : Nat) (cur : Array Value) (hg : w.heap[g]? = some (.cells cur e (0, 0)))
    (a : Addr) (m c : Nat) (news : List Value) (hl : news.length = m * i.size) (hnews : ∀ j u, news[j]? = some u → w.cell? (a.add j) = some u) (h1 : ∀ u ∈ news, u.oneCell' = true)
    (hroom : sLen + m ≤ sCap) (hfit : off + sLen * i.size + news.length ≤ cur.size) :
    (Builtin.append_ #[t, t] ty #[.slice (some ⟨g, off, none⟩) sLen sCap, .slice (some a) m c]).run P w =
      .ok (.slice (some ⟨g, off, none⟩) (sLen + m) sCap) (w.setRow g (cur.toList.take (off + sLen * i.size) ++ news ++ cur.toList.drop (off + sLen * i.size + news.length)).toArray) := by
  have hf := run_firstCells_some (P := P) w i.size m a m c news hl hnews
  have hst := run_storeCells_at P g (off + sLen * i.size) e news 0 cur w hg (by simpa using hfit) h1
  simp only [Nat.add_zero] at hst
  simp [Builtin.append_, run_underlying ht, sizeOf, typeInfo, hi, Builtin.lenOf, hroom, hf, add_zero', hst]
/-- Appended to. -/
theorem o_append_que {i : TypeInfo} {z : Value} {zs : List α} (k : Nat) (ht : P.underlying t = some (.slice e)) (hi : P.info? e = some i) (hz : i.zero = some z) (hsz : i.size = sz) (hzs : z.cells.size = sz)
    (hx : Env.ev L x = some (.v (.slice a n cap))) (hk : ms[k]? = some (que a cap e sz f l)) (hn : l.length = n) (hy : Env.ev L y = some (.list sz f zs)) (hfl : ∀ x, flat (f x).cs = true) (hst : ∀ x, storableL (f x).cs = true)
    (hb : (l.length + zs.length) * i.bytes ≤ 140737488355328) (h63 : l.length + zs.length ≤ maxLen) :
    OpT P ⟨dst, .call ⟨.builtin .append, #[x, y], #[t, t]⟩, ty, pos, after, g⟩ L ms (fun d' ms' => ∃ a' cap', d' = .v (.slice a' (l ++ zs).length cap') ∧ ms' = ms.set k (que a' cap' e sz f (l ++ zs))) := by
  subst hn
  subst hsz
  refine .val (by simp) fun H fr act w hok henv => ?_
  have hok1 := hok.perm (perm_fr hk)
  obtain ⟨r1, r2, r3⟩ := hok1.ok _ (List.mem_cons_self ..)
  obtain ⟨ya, yc, hyv, y1, y2, y3⟩ := enc_list (henv.ev hy)
  have hrun : ∀ {v : Value} {w' : World}, (Builtin.append_ #[t, t] ty #[.slice a l.length cap, .slice ya zs.length yc]).run P w = .ok v w' →
      (execOp act.eval ⟨dst, .call ⟨.builtin .append, #[x, y], #[t, t]⟩, ty, pos, after, g⟩).run P w = .ok (.value v) w' := by
    intro v w' h
    simp [execOp, resolve, invoke, builtin, ev_v henv hx, hyv, Sem.run, h]
  have h63' : l.length + zs.length ≤ 9223372036854775807 := by simpa [maxLen] using h63
  by_cases hz0 : zs = []
  · subst hz0
    have hr : (Builtin.append_ #[t, t] ty #[.slice a l.length cap, .slice ya 0 yc]).run P w = .ok (.slice a l.length cap) w := by
      have hf : (Builtin.firstCells i.size 0 (.slice ya 0 yc)).run P w = .ok #[] w := by
        cases ya with
        | none => simp [Builtin.firstCells, Sem.run]
        | some q => simp [Builtin.firstCells, loadCells, loadCellsFrom, Sem.run]
      cases a with
      | none => simp [Builtin.append_, run_underlying ht, sizeOf, typeInfo, hi, Builtin.lenOf, r1, hf, Sem.run]
      | some q => simp [Builtin.append_, run_underlying ht, sizeOf, typeInfo, hi, Builtin.lenOf, r1, hf, storeCells, Sem.run]
    refine ⟨.slice a l.length cap, .v (.slice a (l ++ ([] : List α)).length cap), _, w, H, hrun hr, ⟨a, cap, rfl, rfl⟩, PH.le_refl H, ?_, conc_v.2 (by simp), SameOut.refl w⟩
    simp only [List.append_nil]
    exact HeapOk.perm (perm_fr' hk) hok1
  · rcases y3 with y3 | ⟨yb, yo, hya, hyel⟩
    · exact absurd y3 hz0
    · subst hya
      obtain ⟨us, ue, uh⟩ := list_cells hyel
      have hpos : 0 < zs.length := List.length_pos_iff.2 hz0
      have hnews : ∀ j v, us[j]? = some v → w.cell? ((⟨yb, yo, none⟩ : Addr).add j) = some v := fun j v hj => by rw [add_zero']; exact hok.sub _ _ _ (uh j v hj)
      have hone := listEnc_one ue hfl hst
      have grown : ∀ (old : Nat) (olds : List Value), ListEnc H f i.size l olds → (Builtin.append_ #[t, t] ty #[.slice a l.length cap, .slice (some ⟨yb, yo, none⟩) zs.length yc]).run P w =
          .ok (.slice (some ⟨w.heap.size, 0, none⟩) (l.length + zs.length) (grownCap w (l.length + zs.length) old e)) (w.drew.alloc (.cells (olds.toArray ++ us.toArray ++ Builtin.zeroCells z.cells (grownCap w (l.length + zs.length) old e - (l.length + zs.length))) e)) →
          ∃ v d ms' w' H', (execOp act.eval ⟨dst, .call ⟨.builtin .append, #[x, y], #[t, t]⟩, ty, pos, after, g⟩).run P w = .ok (.value v) w' ∧ (∃ a' cap', d = .v (.slice a' (l ++ zs).length cap') ∧ ms' = ms.set k (que a' cap' e i.size f (l ++ zs))) ∧
            PH.le H H' ∧ HeapOk H' (ms' ++ fr) w' ∧ Conc H' d v ∧ SameOut w w' := by
        intro old olds ole hr
        have hge := grownCap_ge w (l.length + zs.length) old e
        have hcm : grownCap w (l.length + zs.length) old e ≤ maxLen := grownCap_le_maxLen w (l.length + zs.length) old e h63
        have hsplit : (olds.toArray ++ us.toArray ++ Builtin.zeroCells z.cells (grownCap w (l.length + zs.length) old e - (l.length + zs.length))) = ((olds ++ us) ++ (Builtin.zeroCells z.cells (grownCap w (l.length + zs.length) old e - (l.length + zs.length))).toList).toArray := by
          apply Array.ext'; simp
        rw [hsplit] at hr
        have hd : HeapOk H (ms.eraseIdx k ++ fr) w.drew := (hok1.tail).drew _
        have hlen : (olds ++ us).length = (l ++ zs).length * i.size := by rw [List.length_append, ole.1, ue.1, List.length_append, Nat.add_mul]
        have hpart := hd.part (cells := (olds ++ us) ++ (Builtin.zeroCells z.cells (grownCap w (l.length + zs.length) old e - (l.length + zs.length))).toList) (us := olds ++ us) (T := e)
          (A := que (some ⟨w.heap.size, 0, none⟩) (grownCap w (l.length + zs.length) old e) e i.size f (l ++ zs)) (fun j u hj => by
            rw [List.getElem?_append_left (List.getElem?_eq_some_iff.1 hj).1]; exact hj) rfl ?_
        · refine ⟨_, _, _, _, _, hrun hr, ⟨_, _, rfl, rfl⟩, hpart.2, hpart.1.perm (perm_fr' hk), conc_v.2 (by simp), ?_⟩
          exact ⟨rfl, rfl, rfl, by have := size_alloc' w.drew (.cells ((olds ++ us) ++ (Builtin.zeroCells z.cells (grownCap w (l.length + zs.length) old e - (l.length + zs.length))).toList).toArray e); rw [this]; show w.heap.size ≤ w.heap.size + 1; omega⟩
        · have hle : PH.le H (H.add w.drew.heap.size (olds ++ us)) := by
            intro b o v hv
            simp only [PH.add]
            by_cases hb : b = w.drew.heap.size
            · subst hb; rw [hd.none_new _ _ (Nat.le_refl _)] at hv; cases hv
            · rw [if_neg hb]; exact hv
          refine ⟨by simpa using hge, hcm, .inr ⟨w.heap.size, 0, _, olds ++ us, rfl, heap_alloc_new w.drew _, ?_, (ole.append ue).mono hle, ?_, ?_⟩⟩
          · have hzl : (Builtin.zeroCells z.cells (grownCap w (l.length + zs.length) old e - (l.length + zs.length))).toList.length = (grownCap w (l.length + zs.length) old e - (l.length + zs.length)) * z.cells.size := by rw [Array.length_toList, size_zeroCells]
            rw [List.length_append, hlen, hzl, hzs, ← Nat.add_mul, Nat.zero_add]
            refine Nat.mul_le_mul_right _ ?_
            simp only [List.length_append]
            omega
          · intro j u hj
            show (H.add w.heap.size (olds ++ us)) w.heap.size (0 + j) = some u
            simp [PH.add, hj]
          · intro o ho _
            show (H.add w.heap.size (olds ++ us)) w.heap.size o = none
            simp only [PH.add, if_pos]
            rw [List.getElem?_eq_none]
            rw [hlen]; omega
      rcases r3 with ⟨ha, hxs, hcap⟩ | ⟨b, off, vs, os, ha, hbk, hvl, ole, hH, hnone⟩
      · subst ha hxs hcap
        have hr := run_append_nil (P := P) w t ty e i z ht hi hz ⟨yb, yo, none⟩ zs.length yc us ue.1 hnews hpos (by simp at h63'; omega) (by simp at hb; omega)
        refine grown 0 [] ⟨by simp, fun i x hx => by simp at hx⟩ ?_
        simpa using hr
      · subst ha
        by_cases hroom : l.length + zs.length ≤ cap
        · have hmul : (l.length + zs.length) * i.size ≤ cap * i.size := Nat.mul_le_mul_right _ hroom
          have hosl : os.length = l.length * i.size := ole.1
          have hul : us.length = zs.length * i.size := ue.1
          rw [Nat.add_mul] at hmul
          have hfit : off + l.length * i.size + us.length ≤ vs.toArray.size := by simp only [List.size_toArray]; omega
          have hr := run_append_room_off (P := P) (w := w) t ty e i ht hi b off l.length cap vs.toArray hbk ⟨yb, yo, none⟩ zs.length yc us ue.1 hnews hone hroom hfit
          let p := off + l.length * i.size
          let nvs : List Value := vs.take p ++ us ++ vs.drop (p + us.length)
          have hpl : p + us.length ≤ vs.length := by simpa using hfit
          let H' : PH := fun b' o => if b' = b ∧ p ≤ o ∧ o < p + us.length then us[o - p]? else H b' o
          have hle : PH.le H H' := by
            intro b' o v hv
            show (if b' = b ∧ p ≤ o ∧ o < p + us.length then us[o - p]? else H b' o) = some v
            split
            · rename_i hc
              obtain ⟨rfl, hc1, hc2⟩ := hc
              rw [hnone o hc1 (by omega)] at hv; cases hv
            · exact hv
          have hbnew : (w.setRow b nvs.toArray).heap[b]? = some (.cells nvs.toArray e (0, 0)) := by simp [World.setRow, Array.getElem?_modify, hbk]
          have hnl : nvs.length = vs.length := by simp only [nvs, List.length_append, List.length_take, List.length_drop]; omega
          have htk : (vs.take p).length = p := by rw [List.length_take]; omega
          have hin : ∀ o, p ≤ o → o < p + us.length → nvs[o]? = us[o - p]? := fun o h1 h2 => by
            simp only [nvs]
            rw [List.getElem?_append_left (by rw [List.length_append, htk]; exact h2), List.getElem?_append_right (by omega), htk]
          have hout : ∀ o, ¬ (p ≤ o ∧ o < p + us.length) → nvs[o]? = vs[o]? := fun o h => by
            simp only [nvs]
            by_cases h1 : o < p
            · rw [List.getElem?_append_left (by rw [List.length_append, htk]; omega), List.getElem?_append_left (by omega), List.getElem?_take, if_pos h1]
            · rw [List.getElem?_append_right (by rw [List.length_append, htk]; omega), List.length_append, htk, List.getElem?_drop, show p + us.length + (o - (p + us.length)) = o by omega]
          have hupd : HeapOk H' (que (some ⟨b, off, none⟩) cap e i.size f (l ++ zs) :: (ms.eraseIdx k ++ fr)) (w.setRow b nvs.toArray) := by
            refine hok1.upd rfl (by simp [World.setRow]) ?_ ?_ hle ?_ ?_
            · intro b' _ hn
              have : b ≠ b' := fun e => hn (by simp [que, e])
              simp [World.setRow, Array.getElem?_modify, this]
            · intro b' o _ hn
              have : b' ≠ b := fun e => hn (by simp [que, e])
              show (if b' = b ∧ p ≤ o ∧ o < p + us.length then us[o - p]? else H b' o) = H b' o
              rw [if_neg (fun h => this h.1)]
            · intro b' o v hb' hv
              have hv2 : (if b' = b ∧ p ≤ o ∧ o < p + us.length then us[o - p]? else H b' o) = some v := hv
              have hcell : ∀ o v, nvs[o]? = some v → (w.setRow b nvs.toArray).cell? ⟨b, o, none⟩ = some v := fun o v h => by
                simp only [World.cell?, hbnew]
                rw [show (Option.isSome (none : Option Nat)) = false from rfl]
                simp only [Bool.false_eq_true, if_false]
                rw [List.getElem?_toArray]; exact h
              by_cases hc : b' = b ∧ p ≤ o ∧ o < p + us.length
              · rw [if_pos hc] at hv2
                obtain ⟨rfl, hc1, hc2⟩ := hc
                exact hcell o v (by rw [hin o hc1 hc2]; exact hv2)
              · rw [if_neg hc] at hv2
                rcases hb' with hb' | hb'
                · simp [que] at hb'
                  subst hb'
                  have hold := hok1.sub b' o v hv2
                  simp only [World.cell?, hbk] at hold
                  rw [show (Option.isSome (none : Option Nat)) = false from rfl] at hold
                  simp only [Bool.false_eq_true, if_false] at hold
                  rw [List.getElem?_toArray] at hold
                  exact hcell o v (by rw [hout o (fun h => hc ⟨rfl, h⟩)]; exact hold)
                · rw [hok.none_new _ _ hb'] at hv2; cases hv2
            · refine ⟨by simpa using hroom, r2, .inr ⟨b, off, _, os ++ us, rfl, hbnew, by rw [hnl]; exact hvl, (ole.append ue).mono hle, ?_, ?_⟩⟩
              · intro j u hj
                show (if b = b ∧ p ≤ off + j ∧ off + j < p + us.length then us[off + j - p]? else H b (off + j)) = some u
                by_cases hjo : j < os.length
                · rw [List.getElem?_append_left hjo] at hj
                  rw [if_neg (by intro h; omega)]
                  exact hH j u hj
                · have hjl := (List.getElem?_eq_some_iff.1 hj).1
                  rw [List.length_append] at hjl
                  rw [List.getElem?_append_right (by omega)] at hj
                  rw [if_pos ⟨rfl, by omega, by omega⟩, show off + j - p = j - os.length by omega]
                  exact hj
              · intro o ho ho2
                show (if b = b ∧ p ≤ o ∧ o < p + us.length then us[o - p]? else H b o) = none
                rw [List.length_append, Nat.add_mul] at ho
                rw [if_neg (by intro h; omega)]
                exact hnone o (by omega) ho2
          exact ⟨_, _, _, _, H', hrun hr, ⟨_, _, rfl, rfl⟩, hle, hupd.perm (perm_fr' hk), conc_v.2 (by simp), ⟨rfl, rfl, rfl, by simp [World.setRow]⟩⟩
        · have holds : ∀ j v, os[j]? = some v → w.cell? ((⟨b, off, none⟩ : Addr).add j) = some v := fun j v hj => by
            rw [add_zero']; exact hok.sub _ _ _ (hH j v hj)
          have hr := run_append_grow (P := P) w t ty e i z ht hi hz ⟨b, off, none⟩ l.length cap os ole.1 holds ⟨yb, yo, none⟩ zs.length yc us ue.1 hnews (by omega) (by omega) (growslice_fits (by omega) hb)
          exact grown cap os ole hr
end
end Go.V
