/- Slices that a call appends to; what a function hands back. -/
import Derived.Test.YtnnjgbcojdnhhaaV10
import Derived.Laws.AppendOwn
set_option linter.unusedVariables false
set_option linter.unusedSimpArgs false
namespace Go.V
/-- The cells of a list's elements, one behind the other. -/
def ListEnc (H : PH) {α : Type} (f : α → D) (sz : Nat) (l : List α) (us : List Value) : Prop :=
  us.length = l.length * sz ∧ ∀ (i : Nat) x, l[i]? = some x → ∃ ws, Enc H (f x) ws ∧ ws.length = sz ∧ ∀ (k : Nat) u, ws[k]? = some u → us[i * sz + k]? = some u
theorem ListEnc.mono {H H' : PH} (h : PH.le H H') {α : Type} {f : α → D} {sz : Nat} {l : List α} {us : List Value} (e : ListEnc H f sz l us) : ListEnc H' f sz l us :=
  ⟨e.1, fun i x hx => let ⟨ws, a, b, c⟩ := e.2 i x hx; ⟨ws, Enc.mono h _ _ a, b, c⟩⟩
theorem ListEnc.append {H : PH} {α : Type} {f : α → D} {sz : Nat} {l l' : List α} {us us' : List Value} (e : ListEnc H f sz l us) (e' : ListEnc H f sz l' us') : ListEnc H f sz (l ++ l') (us ++ us') := by
  refine ⟨by rw [List.length_append, e.1, e'.1, List.length_append, Nat.add_mul], fun i x hx => ?_⟩
  rw [List.getElem?_append] at hx
  split at hx
  · rename_i hlt
    obtain ⟨ws, a, b, c⟩ := e.2 i x hx
    refine ⟨ws, a, b, fun k u hk => ?_⟩
    have hkl : k < sz := by rw [← b]; exact (List.getElem?_eq_some_iff.1 hk).1
    have : i * sz + k < us.length := by
      rw [e.1]
      calc i * sz + k < i * sz + sz := by omega
        _ = (i + 1) * sz := by rw [Nat.add_mul]; omega
        _ ≤ l.length * sz := Nat.mul_le_mul_right _ hlt
    rw [List.getElem?_append_left this]
    exact c k u hk
  · rename_i hge
    obtain ⟨ws, a, b, c⟩ := e'.2 _ x hx
    refine ⟨ws, a, b, fun k u hk => ?_⟩
    have hi : i * sz = l.length * sz + (i - l.length) * sz := by rw [← Nat.add_mul]; congr 1; omega
    rw [List.getElem?_append_right (by rw [e.1]; omega), e.1, show i * sz + k - l.length * sz = (i - l.length) * sz + k by omega]
    exact c k u hk
theorem list_cells {H : PH} {α : Type} {f : α → D} {sz : Nat} {l : List α} {b off : Nat} (h : ∀ (i : Nat) x, l[i]? = some x → ∃ us, Enc H (f x) us ∧ us.length = sz ∧ ∀ (k : Nat) u, us[k]? = some u → H b (off + i * sz + k) = some u) :
    ∃ us, ListEnc H f sz l us ∧ ∀ (k : Nat) u, us[k]? = some u → H b (off + k) = some u := by
  have hall : ∀ j, j < l.length * sz → ∃ u, H b (off + j) = some u := by
    intro j hj
    have hsz : 0 < sz := by
      rcases Nat.eq_zero_or_pos sz with h0 | h0
      · subst h0; simp at hj
      · exact h0
    have hi : j / sz < l.length := (Nat.div_lt_iff_lt_mul hsz).2 hj
    obtain ⟨us, _, e2, e3⟩ := h (j / sz) l[j / sz] (by simp [hi])
    have hk : j % sz < us.length := by rw [e2]; exact Nat.mod_lt _ hsz
    have := e3 (j % sz) us[j % sz] (by simp [hk])
    rw [Nat.add_assoc, show j / sz * sz + j % sz = j by rw [Nat.mul_comm]; exact Nat.div_add_mod j sz] at this
    exact ⟨_, this⟩
  refine ⟨(List.range (l.length * sz)).map (fun j => (H b (off + j)).getD undef), ⟨by simp, fun i x hx => ?_⟩, fun k u hk => ?_⟩
  · obtain ⟨us, e1, e2, e3⟩ := h i x hx
    refine ⟨us, e1, e2, fun k u hk => ?_⟩
    have hlt : i < l.length := (List.getElem?_eq_some_iff.1 hx).1
    have hkl : k < sz := by rw [← e2]; exact (List.getElem?_eq_some_iff.1 hk).1
    have : i * sz + k < l.length * sz := by
      calc i * sz + k < i * sz + sz := by omega
        _ = (i + 1) * sz := by rw [Nat.add_mul]; omega
        _ ≤ l.length * sz := Nat.mul_le_mul_right _ hlt
    have h3 := e3 k u hk
    rw [Nat.add_assoc] at h3
    simp [List.getElem?_map, List.getElem?_range, this, h3]
  · have hlt : k < l.length * sz := by have := (List.getElem?_eq_some_iff.1 hk).1; simpa using this
    obtain ⟨u', hu'⟩ := hall k hlt
    rw [List.getElem?_map, List.getElem?_range hlt] at hk
    simp only [Option.map_some, Option.some.injEq] at hk
    rw [hu'] at hk
    simp only [Option.getD_some] at hk
    rw [← hk]; exact hu'

/-- A slice of one's own making: its elements stay; the room behind them may still be written. -/
def row (a : Option Addr) (cap : Nat) (T : TypeId) (sz : Nat) {α : Type} (f : α → D) (l : List α) : Asrt where
  blocks := match a with | some x => [x.block] | none => []
  ok := fun H h => l.length ≤ cap ∧ cap ≤ maxLen ∧ ((a = none ∧ l = [] ∧ cap = 0) ∨ ∃ (b : Nat) (vs us : List Value), a = some ⟨b, 0, none⟩ ∧ h b = some (.cells vs.toArray T (0, 0)) ∧ vs.length = cap * sz ∧ ListEnc H f sz l us ∧ vs.take (l.length * sz) = us ∧
    (∀ (k : Nat) u, us[k]? = some u → H b k = some u) ∧ ∀ o, l.length * sz ≤ o → H b o = none)
  stable := by
    rintro H H' h h' e hle ⟨h1, h2, h3⟩
    refine ⟨h1, h2, ?_⟩
    rcases h3 with h3 | ⟨b, vs, us, ha, hb, hl, he, ht, hp, hn⟩
    · exact .inl h3
    · subst ha
      have := e b (by simp)
      exact .inr ⟨b, vs, us, rfl, by rw [this.2]; exact hb, hl, he.mono hle, ht, fun k u hk => hle _ _ _ (hp k u hk), fun o ho => by rw [this.1]; exact hn o ho⟩
theorem row_conc {H : PH} {as : List Asrt} {w : World} {a : Option Addr} {cap : Nat} {T : TypeId} {sz : Nat} {α : Type} {f : α → D} {l : List α} (hok : HeapOk H as w) (hm : row a cap T sz f l ∈ as) : Conc H (.list sz f l) (.slice a l.length cap) := by
  obtain ⟨h1, h2, h3⟩ := hok.ok _ hm
  rw [conc_enc (by rfl)]
  simp only [Enc]
  refine ⟨a, cap, rfl, h1, h2, ?_⟩
  rcases h3 with ⟨_, h3, _⟩ | ⟨b, vs, us, ha, hb, hl, he, ht, hp, hn⟩
  · exact .inl h3
  · refine .inr ⟨b, 0, ha, fun i x hx => ?_⟩
    obtain ⟨ws, e1, e2, e3⟩ := he.2 i x hx
    exact ⟨ws, e1, e2, fun k u hk => by rw [Nat.zero_add]; exact hp _ _ (e3 k u hk)⟩
section
variable {Γ : Ctx} {P : Program} {L : Env} {ms : List Asrt} {K : KT} {ops : Array Oper} {l : List Oper} {dst : Option Nat} {ty : TypeId} {pos : String} {after : Array Edge} {g : Option (Nat × Bool)} {d d' : D} {x y : Operand} {t t' : TypeId}
/-- A nil slice is a row of one's own. -/
theorem refines_newrow {T : TypeId} {sz : Nat} {α : Type} {f : α → D} : Refines L ms L (row none 0 T sz f ([] : List α) :: ms) := by
  intro Γ a w m
  obtain ⟨H, marks, hle, hok, henv, hdf⟩ := m.ex
  refine ⟨⟨H, marks, hle, ?_, henv, hdf⟩, m.size, m.same⟩
  refine ⟨hok.sub, by simpa [row] using hok.nodup, fun A hA b hb => ?_, fun A hA => ?_⟩
  · rcases List.mem_cons.1 hA with rfl | hA
    · simp [row] at hb
    · exact hok.lt A hA b hb
  · rcases List.mem_cons.1 hA with rfl | hA
    · exact ⟨by simp, by simp [maxLen], .inl ⟨rfl, rfl, rfl⟩⟩
    · exact hok.ok A hA
/-- A row of one's own, read. -/
theorem refines_peek {i : Nat} {a : Option Addr} {cap n : Nat} {T : TypeId} {sz : Nat} {α : Type} {f : α → D} {xs : List α} (k : Nat) (hf : Env.find L i = some (.v (.slice a n cap))) (hk : ms[k]? = some (row a cap T sz f xs)) (hn : xs.length = n) :
    Refines L ms ((i, .list sz f xs) :: L) ms := by
  subst hn
  intro Γ a w m
  obtain ⟨H, marks, hle, hok, henv, hdf⟩ := m.ex
  refine ⟨⟨H, marks, hle, hok, fun s d hs => ?_, hdf⟩, m.size, m.same⟩
  simp only [Env.find] at hs
  cases hb : Nat.beq i s with
  | true =>
    rw [hb] at hs
    have := Nat.eq_of_beq_eq_true hb
    subst this
    simp only [Option.some.injEq] at hs
    subst hs
    have h1 := conc_v.1 (henv i _ hf)
    rw [h1]
    exact row_conc (T := T) hok (List.mem_append_left _ (List.mem_of_getElem? hk))
  | false => rw [hb] at hs; exact henv s d hs
theorem perm_fr {ms : List Asrt} {k : Nat} {A : Asrt} {fr : List Asrt} (hk : ms[k]? = some A) : (ms ++ fr).Perm (A :: (ms.eraseIdx k ++ fr)) := by
  rw [← List.cons_append]; exact (perm_at ms k _ hk).append_right fr
theorem perm_fr' {ms : List Asrt} {k : Nat} {A A' : Asrt} {fr : List Asrt} (hk : ms[k]? = some A) : (A' :: (ms.eraseIdx k ++ fr)).Perm (ms.set k A' ++ fr) := by
  rw [← List.cons_append]; exact (perm_set ms k _ _ hk).append_right fr
theorem HeapOk.tail {H : PH} {A : Asrt} {as : List Asrt} {w : World} (h : HeapOk H (A :: as) w) : HeapOk H as w := HeapOk.drop (as := [A]) h
/-- A new block, in part to stay, in part of one's own. -/
theorem HeapOk.part {H : PH} {as : List Asrt} {w : World} (h : HeapOk H as w) {cells us : List Value} {T : TypeId} {A : Asrt} (hp : ∀ (k : Nat) u, us[k]? = some u → cells[k]? = some u) (hb : A.blocks = [w.heap.size])
    (hok : A.ok (H.add w.heap.size us) (fun b => (w.alloc (.cells cells.toArray T)).heap[b]?)) : HeapOk (H.add w.heap.size us) (A :: as) (w.alloc (.cells cells.toArray T)) ∧ PH.le H (H.add w.heap.size us) := by
  have hle : PH.le H (H.add w.heap.size us) := by
    intro b o v hv
    simp only [PH.add]
    by_cases hb : b = w.heap.size
    · subst hb; rw [h.none_new _ _ (Nat.le_refl _)] at hv; cases hv
    · rw [if_neg hb]; exact hv
  refine ⟨⟨fun b o v hv => ?_, ?_, fun B hB b hbB => ?_, fun B hB => ?_⟩, hle⟩
  · simp only [PH.add] at hv
    by_cases hb : b = w.heap.size
    · subst hb
      rw [if_pos rfl] at hv
      simp only [World.cell?, heap_alloc_new]
      simpa using hp _ _ hv
    · rw [if_neg hb] at hv
      exact cell_alloc_old (h.sub b o v hv)
  · simp only [List.flatMap_cons, hb, List.cons_append, List.nil_append, List.nodup_cons]
    refine ⟨fun hm => ?_, h.nodup⟩
    obtain ⟨B, hB, hm⟩ := List.mem_flatMap.1 hm
    exact Nat.lt_irrefl _ (h.lt B hB _ hm)
  · rcases List.mem_cons.1 hB with rfl | hB
    · rw [hb] at hbB; simp at hbB; subst hbB; rw [size_alloc']; omega
    · have := h.lt B hB b hbB; rw [size_alloc']; omega
  · rcases List.mem_cons.1 hB with rfl | hB
    · exact hok
    · refine B.stable H _ (fun b => w.heap[b]?) _ ?_ hle (h.ok B hB)
      intro b hbB
      have hlt := h.lt B hB b hbB
      exact ⟨fun o => by simp only [PH.add]; rw [if_neg (by omega)], heap_alloc_old _ _ _ hlt⟩
/-- What the elements' cells are. -/
theorem listEnc_one {H : PH} {α : Type} {f : α → D} {sz : Nat} {l : List α} {us : List Value} (e : ListEnc H f sz l us) (hfl : ∀ x, flat (f x).cs = true) (hst : ∀ x, storableL (f x).cs = true) : ∀ u ∈ us, u.oneCell' = true := by
  intro u hu
  obtain ⟨j, hj⟩ := List.getElem?_of_mem hu
  have hlt : j < us.length := (List.getElem?_eq_some_iff.1 hj).1
  rw [e.1] at hlt
  have hsz : 0 < sz := by
    rcases Nat.eq_zero_or_pos sz with h0 | h0
    · subst h0; simp at hlt
    · exact h0
  have hi : j / sz < l.length := (Nat.div_lt_iff_lt_mul hsz).2 hlt
  obtain ⟨ws, e1, e2, e3⟩ := e.2 (j / sz) l[j / sz] (by simp [hi])
  have hk : j % sz < ws.length := by rw [e2]; exact Nat.mod_lt _ hsz
  have h3 := e3 (j % sz) ws[j % sz] (by simp [hk])
  rw [show j / sz * sz + j % sz = j by rw [Nat.mul_comm]; exact Nat.div_add_mod j sz, hj] at h3
  simp only [Option.some.injEq] at h3
  have hm : u ∈ ws := by rw [h3]; exact List.getElem_mem hk
  have he : EncL H (f l[j / sz]).cs ws := by
    cases hf : f l[j / sz] with
    | agg cs => rw [hf] at e1; simpa [Enc, D.cs] using e1
    | _ => rw [hf] at e1; simp only [D.cs, EncL]; exact ⟨ws, [], by simp, e1, rfl⟩
  exact encL_oneCell _ _ (hfl _) (hst _) he u hm

/-- 'append' onto a row of one's own. -/
theorem o_append {a : Option Addr} {cap n : Nat} {e : TypeId} {sz : Nat} {α : Type} {f : α → D} {xs zs : List α} {i : TypeInfo} {z : Value} (k : Nat) (ht : P.underlying t = some (.slice e)) (hi : P.info? e = some i) (hz : i.zero = some z) (hsz : i.size = sz) (hzs : z.cells.size = sz)
    (hx : Env.ev L x = some (.v (.slice a n cap))) (hk : ms[k]? = some (row a cap e sz f xs)) (hn : xs.length = n) (hy : Env.ev L y = some (.list sz f zs)) (hfl : ∀ x, flat (f x).cs = true) (hst : ∀ x, storableL (f x).cs = true)
    (hb : (xs.length + zs.length) * i.bytes ≤ 140737488355328) (h63 : xs.length + zs.length ≤ maxLen) :
    OpT P ⟨dst, .call ⟨.builtin .append, #[x, y], #[t, t]⟩, ty, pos, after, g⟩ L ms (fun d' ms' => ∃ a' cap', d' = .v (.slice a' (xs ++ zs).length cap') ∧ ms' = ms.set k (row a' cap' e sz f (xs ++ zs))) := by
  subst hn
  subst hsz
  refine .val (by simp) fun H fr act w hok henv => ?_
  have hok1 := hok.perm (perm_fr hk)
  obtain ⟨r1, r2, r3⟩ := hok1.ok _ (List.mem_cons_self ..)
  obtain ⟨ya, yc, hyv, y1, y2, y3⟩ := enc_list (henv.ev hy)
  have hrun : ∀ {v : Value} {w' : World}, (Builtin.append_ #[t, t] ty #[.slice a xs.length cap, .slice ya zs.length yc]).run P w = .ok v w' →
      (execOp act.eval ⟨dst, .call ⟨.builtin .append, #[x, y], #[t, t]⟩, ty, pos, after, g⟩).run P w = .ok (.value v) w' := by
    intro v w' h
    simp [execOp, resolve, invoke, builtin, ev_v henv hx, hyv, Sem.run, h]
  have h63' : xs.length + zs.length ≤ 9223372036854775807 := by simpa [maxLen] using h63
  by_cases hz0 : zs = []
  · -- nothing comes
    subst hz0
    have hr : (Builtin.append_ #[t, t] ty #[.slice a xs.length cap, .slice ya 0 yc]).run P w = .ok (.slice a xs.length cap) w := by
      have hf : (Builtin.firstCells i.size 0 (.slice ya 0 yc)).run P w = .ok #[] w := by
        cases ya with
        | none => simp [Builtin.firstCells, Sem.run]
        | some q => simp [Builtin.firstCells, loadCells, loadCellsFrom, Sem.run]
      cases a with
      | none => simp [Builtin.append_, run_underlying ht, sizeOf, typeInfo, hi, Builtin.lenOf, r1, hf, Sem.run]
      | some q => simp [Builtin.append_, run_underlying ht, sizeOf, typeInfo, hi, Builtin.lenOf, r1, hf, storeCells, Sem.run]
    refine ⟨.slice a xs.length cap, .v (.slice a (xs ++ ([] : List α)).length cap), ms.set k (row a cap e i.size f (xs ++ ([] : List α))), w, H, hrun hr, ⟨a, cap, rfl, rfl⟩, PH.le_refl H, ?_, conc_v.2 (by simp), SameOut.refl w⟩
    simp only [List.append_nil]
    have : ms.set k (row a cap e i.size f xs) = ms := by
      apply List.ext_getElem?
      intro j
      by_cases hj : k = j
      · subst hj
        have hlt := (List.getElem?_eq_some_iff.1 hk).1
        rw [List.getElem?_set_self hlt, hk]
      · rw [List.getElem?_set_ne hj]
    rw [this]
    exact hok
  · rcases y3 with y3 | ⟨yb, yo, hya, hyel⟩
    · exact absurd y3 hz0
    · subst hya
      obtain ⟨us, ue, uh⟩ := list_cells hyel
      have hpos : 0 < zs.length := List.length_pos_iff.2 hz0
      have hnews : ∀ j v, us[j]? = some v → w.cell? ((⟨yb, yo, none⟩ : Addr).add j) = some v := fun j v hj => by rw [add_zero']; exact hok.sub _ _ _ (uh j v hj)
      have hone := listEnc_one ue hfl hst
      -- behind a new block
      have grown : ∀ (old : Nat) (olds : List Value), ListEnc H f i.size xs olds → (Builtin.append_ #[t, t] ty #[.slice a xs.length cap, .slice (some ⟨yb, yo, none⟩) zs.length yc]).run P w =
          .ok (.slice (some ⟨w.heap.size, 0, none⟩) (xs.length + zs.length) (grownCap w (xs.length + zs.length) old e)) (w.drew.alloc (.cells (olds.toArray ++ us.toArray ++ Builtin.zeroCells z.cells (grownCap w (xs.length + zs.length) old e - (xs.length + zs.length))) e)) →
          ∃ v d ms' w' H', (execOp act.eval ⟨dst, .call ⟨.builtin .append, #[x, y], #[t, t]⟩, ty, pos, after, g⟩).run P w = .ok (.value v) w' ∧ (∃ a' cap', d = .v (.slice a' (xs ++ zs).length cap') ∧ ms' = ms.set k (row a' cap' e i.size f (xs ++ zs))) ∧
            PH.le H H' ∧ HeapOk H' (ms' ++ fr) w' ∧ Conc H' d v ∧ SameOut w w' := by
        intro old olds ole hr
        have hge := grownCap_ge w (xs.length + zs.length) old e
        have hcm : grownCap w (xs.length + zs.length) old e ≤ maxLen := grownCap_le_maxLen w (xs.length + zs.length) old e h63
        have hsplit : (olds.toArray ++ us.toArray ++ Builtin.zeroCells z.cells (grownCap w (xs.length + zs.length) old e - (xs.length + zs.length))) = ((olds ++ us) ++ (Builtin.zeroCells z.cells (grownCap w (xs.length + zs.length) old e - (xs.length + zs.length))).toList).toArray := by
          apply Array.ext'; simp
        rw [hsplit] at hr
        have hd : HeapOk H (ms.eraseIdx k ++ fr) w.drew := (hok1.tail).drew _
        have hlen : (olds ++ us).length = (xs ++ zs).length * i.size := by rw [List.length_append, ole.1, ue.1, List.length_append, Nat.add_mul]
        have hpart := hd.part (cells := (olds ++ us) ++ (Builtin.zeroCells z.cells (grownCap w (xs.length + zs.length) old e - (xs.length + zs.length))).toList) (us := olds ++ us) (T := e)
          (A := row (some ⟨w.heap.size, 0, none⟩) (grownCap w (xs.length + zs.length) old e) e i.size f (xs ++ zs)) (fun j u hj => by
            rw [List.getElem?_append_left (List.getElem?_eq_some_iff.1 hj).1]; exact hj) rfl ?_
        · refine ⟨_, _, _, _, _, hrun hr, ⟨_, _, rfl, rfl⟩, hpart.2, hpart.1.perm (perm_fr' hk), conc_v.2 (by simp), ?_⟩
          exact ⟨rfl, rfl, rfl, by have := size_alloc' w.drew (.cells ((olds ++ us) ++ (Builtin.zeroCells z.cells (grownCap w (xs.length + zs.length) old e - (xs.length + zs.length))).toList).toArray e); rw [this]; show w.heap.size ≤ w.heap.size + 1; omega⟩
        · have hle : PH.le H (H.add w.drew.heap.size (olds ++ us)) := by
            intro b o v hv
            simp only [PH.add]
            by_cases hb : b = w.drew.heap.size
            · subst hb; rw [hd.none_new _ _ (Nat.le_refl _)] at hv; cases hv
            · rw [if_neg hb]; exact hv
          refine ⟨by simpa using hge, hcm, .inr ⟨w.heap.size, _, olds ++ us, rfl, heap_alloc_new w.drew _, ?_, (ole.append ue).mono hle, ?_, ?_, ?_⟩⟩
          · have hzl : (Builtin.zeroCells z.cells (grownCap w (xs.length + zs.length) old e - (xs.length + zs.length))).toList.length = (grownCap w (xs.length + zs.length) old e - (xs.length + zs.length)) * z.cells.size := by rw [Array.length_toList, size_zeroCells]
            rw [List.length_append, hlen, hzl, hzs, ← Nat.add_mul]
            congr 1
            simp only [List.length_append]
            omega
          · rw [← hlen]; exact List.take_left
          · intro j u hj
            show (H.add w.heap.size (olds ++ us)) w.heap.size j = some u
            simp [PH.add, hj]
          · intro o ho
            show (H.add w.heap.size (olds ++ us)) w.heap.size o = none
            simp only [PH.add, if_pos]
            rw [List.getElem?_eq_none (by omega)]
      rcases r3 with ⟨ha, hxs, hcap⟩ | ⟨b, vs, os, ha, hbk, hvl, ole, htake, hH, hnone⟩
      · subst ha hxs hcap
        have hr := run_append_nil (P := P) w t ty e i z ht hi hz ⟨yb, yo, none⟩ zs.length yc us ue.1 hnews hpos (by simp at h63'; omega) (by simp at hb; omega)

        refine grown 0 [] ⟨by simp, fun i x hx => by simp at hx⟩ ?_
        simpa using hr
      · subst ha
        by_cases hroom : xs.length + zs.length ≤ cap
        · -- there is room
          have hfit : xs.length * i.size + us.length ≤ vs.toArray.size := by
            simp only [List.size_toArray, hvl, ue.1, ← Nat.add_mul]; exact Nat.mul_le_mul_right _ hroom
          have hr := run_append_room (P := P) w t ty e i ht hi b xs.length cap vs.toArray hbk ⟨yb, yo, none⟩ zs.length yc us ue.1 hnews hone hroom hfit
          let H' : PH := fun b' o => if b' = b then (os ++ us)[o]? else H b' o
          have hosl : os.length = xs.length * i.size := ole.1
          have hle : PH.le H H' := by
            intro b' o v hv
            show (if b' = b then (os ++ us)[o]? else H b' o) = some v
            by_cases hb' : b' = b
            · subst hb'
              rw [if_pos rfl]
              by_cases ho : o < xs.length * i.size
              · have : os[o]? = some os[o] := by simp [hosl, ho]
                have h2 := hH o _ this
                rw [hv] at h2
                rw [List.getElem?_append_left (by omega), this]
                exact h2.symm
              · rw [hnone o (by omega)] at hv; cases hv
            · rw [if_neg hb']; exact hv
          have hlt : b < w.heap.size := hok1.lt _ (by simp : row (some ⟨b, 0, none⟩) cap e i.size f xs ∈ _) b (by simp [row])
          have hnew : (vs.toArray.toList.take (xs.length * i.size) ++ us ++ vs.toArray.toList.drop (xs.length * i.size + us.length)) = (os ++ us) ++ vs.drop (xs.length * i.size + us.length) := by
            simp only [htake]
          rw [hnew] at hr
          have hupd : HeapOk H' (row (some ⟨b, 0, none⟩) cap e i.size f (xs ++ zs) :: (ms.eraseIdx k ++ fr)) (w.setRow b ((os ++ us) ++ vs.drop (xs.length * i.size + us.length)).toArray) := by
            have hbnew : (w.setRow b ((os ++ us) ++ vs.drop (xs.length * i.size + us.length)).toArray).heap[b]? = some (.cells ((os ++ us) ++ vs.drop (xs.length * i.size + us.length)).toArray e (0, 0)) := by
              simp [World.setRow, Array.getElem?_modify, hbk]
            refine hok1.upd rfl (by simp [World.setRow]) ?_ ?_ hle ?_ ?_
            · intro b' _ hn
              have : b ≠ b' := fun e => hn (by simp [row, e])
              simp [World.setRow, Array.getElem?_modify, this]
            · intro b' o _ hn
              have : b' ≠ b := fun e => hn (by simp [row, e])
              show (if b' = b then (os ++ us)[o]? else H b' o) = H b' o
              rw [if_neg this]
            · intro b' o v hb' hv
              have hv : (if b' = b then (os ++ us)[o]? else H b' o) = some v := hv
              by_cases hbb : b' = b
              · subst hbb
                rw [if_pos rfl] at hv
                simp only [World.cell?, hbnew]
                rw [show (Option.isSome (none : Option Nat)) = false from rfl]
                simp only [Bool.false_eq_true, if_false]
                rw [List.getElem?_toArray, List.getElem?_append_left (List.getElem?_eq_some_iff.1 hv).1]
                exact hv
              · rw [if_neg hbb] at hv
                rcases hb' with hb' | hb'
                · simp [row] at hb'; exact absurd hb' hbb
                · rw [hok.none_new _ _ hb'] at hv; cases hv
            · refine ⟨by simpa using hroom, r2, .inr ⟨b, _, os ++ us, rfl, hbnew, ?_, (ole.append ue).mono hle, ?_, ?_, ?_⟩⟩
              · simp only [List.length_append, List.length_drop, hosl, hvl, ue.1]
                have : (xs.length + zs.length) * i.size ≤ cap * i.size := Nat.mul_le_mul_right _ hroom
                rw [Nat.add_mul] at this
                omega
              · have : (os ++ us).length = (xs ++ zs).length * i.size := by rw [List.length_append, hosl, ue.1, List.length_append, Nat.add_mul]
                rw [← this]; exact List.take_left
              · intro j u hj
                show (if b = b then (os ++ us)[j]? else H b j) = some u
                rw [if_pos rfl]; exact hj
              · intro o ho
                show (if b = b then (os ++ us)[o]? else H b o) = none
                rw [if_pos rfl, List.getElem?_eq_none]
                rw [List.length_append, hosl, ue.1]
                rw [List.length_append, Nat.add_mul] at ho
                exact ho

          refine ⟨_, _, _, _, H', hrun hr, ⟨_, _, rfl, rfl⟩, hle, hupd.perm (perm_fr' hk), conc_v.2 (by simp), ⟨rfl, rfl, rfl, by simp [World.setRow]⟩⟩
        · have holds : ∀ j v, os[j]? = some v → w.cell? ((⟨b, 0, none⟩ : Addr).add j) = some v := fun j v hj => by
            rw [add_zero', Nat.zero_add]; exact hok.sub _ _ _ (hH j v hj)
          have hr := run_append_grow (P := P) w t ty e i z ht hi hz ⟨b, 0, none⟩ xs.length cap os ole.1 holds ⟨yb, yo, none⟩ zs.length yc us ue.1 hnews (by omega) (by omega) (growslice_fits (by omega) hb)

          exact grown cap os ole hr
end
end Go.V
