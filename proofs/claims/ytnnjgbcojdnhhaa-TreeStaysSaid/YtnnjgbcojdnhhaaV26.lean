/- Making arrays; rows out of arrays; function values as models. -/
import Derived.Test.YtnnjgbcojdnhhaaV25
set_option linter.unusedVariables false
set_option linter.unusedSimpArgs false
namespace Go.V
section
variable {P : Program} {L L' : Env} {ms : List Asrt} {dst : Option Nat} {ty : TypeId} {pos : String} {after : Array Edge} {g : Option (Nat × Bool)} {d d' : D} {x y : Operand} {t t' : TypeId}
theorem madeCells_one (z : Array Value) (sz n : Nat) (hz : z.size = sz) (h0 : 0 < sz) (i : Nat) (hi : i < n) (j : Nat) (hj : j < sz) : (madeCells z (n * sz)).toList[i * sz + j]? = z.toList[j]? := by
  have hin : i * sz + j < n * sz := by
    calc i * sz + j < i * sz + sz := by omega
      _ = (i + 1) * sz := by rw [Nat.add_mul]; omega
      _ ≤ n * sz := Nat.mul_le_mul_right _ hi
  subst hz
  have hm : (i * z.size + j) % z.size = j := by rw [Nat.mul_comm, Nat.mul_add_mod]; exact Nat.mod_eq_of_lt hj
  simp [madeCells, Array.toList_range, List.getElem?_map, List.getElem?_range, hin, hm, hj]
/-- make, for a number of elements: all zero. -/
theorem o_makeSlice {e : TypeId} {sz : Nat} {z : Value} {i : TypeInfo} {α : Type} {f : α → D} {z0 : α} {n : Int} {ik : IntKind} (ht : P.underlying t = some (.slice e)) (hi : P.info? e = some i) (hz : i.zero = some z) (hsz : i.size = sz) (hzs : z.cells.size = sz) (h0 : 0 < sz)
    (hx : Env.ev L x = some (.v (.int ik n))) (hm : zmatch (f z0).cs z.cells.toList = true) (hn : 0 ≤ n) (hb : n.toNat * i.bytes ≤ 140737488355328) (hb0 : 0 < i.bytes) :
    OpT P ⟨dst, .makeSlice t x x, ty, pos, after, g⟩ L ms (fun d ms' => ∃ a m cap, d = .v (.slice a m cap) ∧ ms' = arr a m cap e sz f (List.replicate n.toNat z0) :: ms) := by
  refine .val (by simp) fun H fr act w hok henv => ?_
  subst hsz
  have hnb : n.toNat ≤ n.toNat * i.bytes := Nat.le_mul_of_pos_right _ hb0
  have hbI : (i.bytes : Int) * n ≤ 281474976710656 := by
    have : (i.bytes : Int) * n = ((n.toNat * i.bytes : Nat) : Int) := by rw [Int.natCast_mul, Int.toNat_of_nonneg hn, Int.mul_comm]
    rw [this]; omega
  have hr := run_make (P := P) w t e i z ht hi hz ik ik n n hn (Int.le_refl _) hbI (by omega)
  have hown := hok.own (o := .cells (madeCells z.cells (n.toNat * i.size)) e) (A := arr (some ⟨w.heap.size, 0, none⟩) n.toNat n.toNat e i.size f (List.replicate n.toNat z0)) rfl ?_
  · refine ⟨.slice (some ⟨w.heap.size, 0, none⟩) n.toNat n.toNat, .v (.slice (some ⟨w.heap.size, 0, none⟩) n.toNat n.toNat), _, _, H, by simp [execOp, ev_v henv hx, hr, Sem.run], ⟨_, _, _, rfl, rfl⟩, PH.le_refl H, hown, conc_v.2 (by simp), sameOut_alloc _ _⟩
  · have hsz := size_madeCells z.cells (n.toNat * i.size)
    refine ⟨by simp, by simp, by simp only [maxLen]; omega, .inr ⟨w.heap.size, (madeCells z.cells (n.toNat * i.size)).toList, (madeCells z.cells (n.toNat * i.size)).toList, rfl, ?_, ?_, ⟨?_, ?_⟩, ?_, fun o => hok.none_new _ _ (Nat.le_refl _)⟩⟩
    · show (w.alloc _).heap[w.heap.size]? = _
      rw [heap_alloc_new]
    · rw [Array.length_toList, hsz]
    · rw [Array.length_toList, hsz]; simp
    · intro q x hq
      rw [List.getElem?_replicate] at hq
      split at hq
      · rename_i hqn
        simp only [Option.some.injEq] at hq
        subst hq
        refine ⟨z.cells.toList, enc_cs (zmatch_enc _ _ hm).1, by rw [Array.length_toList, hzs], fun j u hj => ?_⟩
        rw [madeCells_one z.cells i.size n.toNat hzs h0 q hqn j (by rw [← hzs, ← Array.length_toList]; exact (List.getElem?_eq_some_iff.1 hj).1)]
        exact hj
      · cases hq
    · rw [List.length_replicate, List.take_of_length_le (by rw [Array.length_toList, hsz]; exact Nat.le_refl _)]
/-- An array that is not written any more is a row. -/
theorem refines_thaw {a : Option Addr} {m cap : Nat} {T : TypeId} {sz : Nat} {α : Type} {f : α → D} {l : List α} (k : Nat) (hk : ms[k]? = some (arr a m cap T sz f l)) {ms' : List Asrt} (hms : ms.set k (row a cap T sz f l) = ms') : Refines L ms L ms' := by
  subst hms
  intro Γ act w mm
  obtain ⟨H, marks, hle, hok, henv, hdf⟩ := mm.ex
  have hok1 := hok.perm (perm_fr hk)
  obtain ⟨h0, h1, h2, h3⟩ := hok1.ok _ (List.mem_cons_self ..)
  rcases h3 with ⟨ha, hl, hc⟩ | ⟨b, vs, us, ha, hb, hvl, he, ht, hn⟩
  · have hup : HeapOk H (row a cap T sz f l :: (ms.eraseIdx k ++ (marks.map markA ++ Γ.fr))) w :=
      hok1.upd rfl (Nat.le_refl _) (fun _ _ _ => rfl) (fun _ _ _ _ => rfl) (PH.le_refl H) (fun b o v _ hv => hok1.sub b o v hv) ⟨h1, h2, .inl ⟨ha, hl, hc⟩⟩
    exact ⟨⟨H, marks, hle, hup.perm (perm_fr' hk), henv, hdf⟩, mm.size, mm.same⟩
  · subst ha
    let H' : PH := fun b' o => if b' = b then us[o]? else H b' o
    have hle' : PH.le H H' := by
      intro b' o v hv
      show (if b' = b then us[o]? else H b' o) = some v
      by_cases hb' : b' = b
      · subst hb'; rw [hn] at hv; cases hv
      · rw [if_neg hb']; exact hv
    have huv : ∀ (o : Nat) u, us[o]? = some u → vs[o]? = some u := fun o u h => by
      rw [← ht, List.getElem?_take] at h
      split at h
      · exact h
      · cases h
    have hup : HeapOk H' (row (some ⟨b, 0, none⟩) cap T sz f l :: (ms.eraseIdx k ++ (marks.map markA ++ Γ.fr))) w := by
      refine hok1.upd rfl (Nat.le_refl _) (fun _ _ _ => rfl) ?_ hle' ?_ ⟨h1, h2, .inr ⟨b, vs, us, rfl, hb, hvl, he.mono hle', ht, ?_, ?_⟩⟩
      · intro b' o _ hnb
        have : b' ≠ b := fun e => hnb (by simp [arr, e])
        show (if b' = b then us[o]? else H b' o) = H b' o
        rw [if_neg this]
      · intro b' o v _ hv
        have hv : (if b' = b then us[o]? else H b' o) = some v := hv
        by_cases hbb : b' = b
        · subst hbb
          rw [if_pos rfl] at hv
          simp [World.cell?, hb, huv _ _ hv]
        · rw [if_neg hbb] at hv; exact hok1.sub b' o v hv
      · intro j u hj
        show (if b = b then us[j]? else H b j) = some u
        rw [if_pos rfl]; exact hj
      · intro o ho
        show (if b = b then us[o]? else H b o) = none
        rw [if_pos rfl, List.getElem?_eq_none (by rw [he.1]; exact ho)]
    exact ⟨⟨H', marks, PH.le_trans hle hle', hup.perm (perm_fr' hk), henv.mono hle', hdf⟩, mm.size, mm.same⟩
theorem arr_len {Γ : Ctx} {a : Option Addr} {m cap : Nat} {T : TypeId} {sz : Nat} {α : Type} {f : α → D} {l : List α} {act : Act} {w : World} (k : Nat) (hk : ms[k]? = some (arr a m cap T sz f l)) (mm : Models Γ L ms act w) : l.length = m := by
  obtain ⟨H, marks, hle, hok, henv, hdf⟩ := mm.ex
  exact (hok.ok _ (List.mem_append_left _ (List.mem_of_getElem? hk))).1
theorem go_thaw {Γ : Ctx} {K : KT} {ops : Array Oper} {r : List Oper} {a : Option Addr} {m cap : Nat} {T : TypeId} {sz : Nat} {α : Type} {f : α → D} {l : List α} (k : Nat) (hk : ms[k]? = some (arr a m cap T sz f l)) {ms' : List Asrt} (hms : ms.set k (row a cap T sz f l) = ms') (h : l.length = m → GO Γ P ops r L ms' K) : GO Γ P ops r L ms K :=
  fun act w mm => h (arr_len k hk mm) act w (refines_thaw k hk hms Γ act w mm)
theorem g_thaw {Γ : Ctx} {K : KT} {c : Code} {a : Option Addr} {m cap : Nat} {T : TypeId} {sz : Nat} {α : Type} {f : α → D} {l : List α} (k : Nat) (hk : ms[k]? = some (arr a m cap T sz f l)) {ms' : List Asrt} (hms : ms.set k (row a cap T sz f l) = ms') (h : l.length = m → G Γ P c L ms' K) : G Γ P c L ms K :=
  fun act w mm => h (arr_len k hk mm) act w (refines_thaw k hk hms Γ act w mm)
/-- A copy of a list, as an array of one's own. -/
theorem o_append_arr {a : Option Addr} {e : TypeId} {sz : Nat} {α : Type} {f : α → D} {zs : List α} {i : TypeInfo} {z : Value} {n cap : Nat} (k : Nat) (ht : P.underlying t = some (.slice e)) (hi : P.info? e = some i) (hz : i.zero = some z) (hsz : i.size = sz) (hzs : z.cells.size = sz)
    (hx : Env.ev L x = some (.v (.slice a n cap))) (hn : n = 0) (hcap : cap = 0) (hk : ms[k]? = some (row a cap e sz f ([] : List α))) (hy : Env.ev L y = some (.list sz f zs))
    (hb : zs.length * i.bytes ≤ 140737488355328) (h63 : zs.length ≤ maxLen) :
    OpT P ⟨dst, .call ⟨.builtin .append, #[x, y], #[t, t]⟩, ty, pos, after, g⟩ L ms (fun d' ms' => ∃ a' cap', d' = .v (.slice a' zs.length cap') ∧ ms' = ms.set k (arr a' zs.length cap' e sz f zs)) := by
  subst hn hcap hsz
  refine .val (by simp) fun H fr act w hok henv => ?_
  have hok1 := hok.perm (perm_fr hk)
  obtain ⟨r1, r2, r3⟩ := hok1.ok _ (List.mem_cons_self ..)
  obtain ⟨ya, yc, hyv, y1, y2, y3⟩ := enc_list (henv.ev hy)
  have hrun : ∀ {v : Value} {w' : World}, (Builtin.append_ #[t, t] ty #[.slice a 0 0, .slice ya zs.length yc]).run P w = .ok v w' →
      (execOp act.eval ⟨dst, .call ⟨.builtin .append, #[x, y], #[t, t]⟩, ty, pos, after, g⟩).run P w = .ok (.value v) w' := by
    intro v w' h
    simp [execOp, resolve, invoke, builtin, ev_v henv hx, hyv, Sem.run, h]
  have h63' : zs.length ≤ 9223372036854775807 := by simpa [maxLen] using h63
  by_cases hz0 : zs = []
  · subst hz0
    have hr : (Builtin.append_ #[t, t] ty #[.slice a 0 0, .slice ya 0 yc]).run P w = .ok (.slice a 0 0) w := by
      have hf : (Builtin.firstCells i.size 0 (.slice ya 0 yc)).run P w = .ok #[] w := by
        cases ya with
        | none => simp [Builtin.firstCells, Sem.run]
        | some q => simp [Builtin.firstCells, loadCells, loadCellsFrom, Sem.run]
      cases a with
      | none => simp [Builtin.append_, run_underlying ht, sizeOf, typeInfo, hi, Builtin.lenOf, hf, Sem.run]
      | some q => simp [Builtin.append_, run_underlying ht, sizeOf, typeInfo, hi, Builtin.lenOf, hf, storeCells, Sem.run]
    refine ⟨.slice a 0 0, _, _, w, H, hrun hr, ⟨a, 0, rfl, rfl⟩, PH.le_refl H, ?_, conc_v.2 (by simp), SameOut.refl w⟩
    refine HeapOk.perm (perm_fr' hk) ?_
    refine hok1.upd (A' := arr a 0 0 e i.size f ([] : List α)) rfl (Nat.le_refl _) (fun _ _ _ => rfl) (fun _ _ _ _ => rfl) (PH.le_refl H) (fun b o v _ hv => hok1.sub b o v hv) ⟨rfl, r1, r2, ?_⟩
    rcases r3 with r3 | ⟨b, vs, us, h1, h2, h3, h4, h5, h6, h7⟩
    · exact .inl r3
    · exact .inr ⟨b, vs, us, h1, h2, h3, h4, h5, fun o => h7 o (by simp)⟩
  · rcases y3 with y3 | ⟨yb, yo, hya, hyel⟩
    · exact absurd y3 hz0
    · subst hya
      obtain ⟨us, ue, uh⟩ := list_cells hyel
      have hpos : 0 < zs.length := List.length_pos_iff.2 hz0
      have hnews : ∀ j v, us[j]? = some v → w.cell? ((⟨yb, yo, none⟩ : Addr).add j) = some v := fun j v hj => by rw [add_zero']; exact hok.sub _ _ _ (uh j v hj)
      have hr : (Builtin.append_ #[t, t] ty #[.slice a 0 0, .slice (some ⟨yb, yo, none⟩) zs.length yc]).run P w =
          .ok (.slice (some ⟨w.heap.size, 0, none⟩) zs.length (grownCap w zs.length 0 e)) (w.drew.alloc (.cells (us.toArray ++ Builtin.zeroCells z.cells (grownCap w zs.length 0 e - zs.length)) e)) := by
        rcases r3 with ⟨ha, _, _⟩ | ⟨b, vs, us', ha, hbk, hvl, ole, htake, hH, hnone⟩
        · subst ha
          exact run_append_nil (P := P) w t ty e i z ht hi hz ⟨yb, yo, none⟩ zs.length yc us ue.1 hnews hpos (by omega) (by omega)
        · subst ha
          have hus' : us' = [] := List.length_eq_zero_iff.1 (by rw [ole.1]; simp)
          subst hus'
          have hvs : vs = [] := List.length_eq_zero_iff.1 (by rw [hvl]; simp)
          subst hvs
          have := run_append_grow (P := P) w t ty e i z ht hi hz ⟨b, 0, none⟩ 0 0 [] (by simp) (fun j v hj => by simp at hj) ⟨yb, yo, none⟩ zs.length yc us ue.1 hnews (by omega) (by omega) (by rw [Nat.zero_add, nextslicecap_zero hpos]; omega)
          simpa using this
      have hge : zs.length ≤ grownCap w zs.length 0 e := grownCap_ge w zs.length 0 e
      have hcm : grownCap w zs.length 0 e ≤ maxLen := grownCap_le_maxLen w zs.length 0 e (by simp only [maxLen]; omega)
      let cells : List Value := us ++ (Builtin.zeroCells z.cells (grownCap w zs.length 0 e - zs.length)).toList
      have hcells : (us.toArray ++ Builtin.zeroCells z.cells (grownCap w zs.length 0 e - zs.length)) = cells.toArray := by apply Array.ext'; simp [cells]
      rw [hcells] at hr
      have hd : HeapOk H (ms.eraseIdx k ++ fr) w.drew := (hok1.tail).drew _
      have hown := hd.own (o := .cells cells.toArray e) (A := arr (some ⟨w.heap.size, 0, none⟩) zs.length (grownCap w zs.length 0 e) e i.size f zs) rfl ?_
      · refine ⟨_, _, _, _, H, hrun hr, ⟨_, _, rfl, rfl⟩, PH.le_refl H, hown.perm (perm_fr' hk), conc_v.2 rfl, ?_⟩
        exact ⟨rfl, rfl, rfl, by have := size_alloc' w.drew (.cells cells.toArray e); rw [this]; show w.heap.size ≤ w.heap.size + 1; omega⟩
      · refine ⟨rfl, hge, hcm, .inr ⟨w.heap.size, cells, us, rfl, heap_alloc_new w.drew _, ?_, ue, ?_, fun o => hok.none_new _ _ (Nat.le_refl _)⟩⟩
        · have hzl : (Builtin.zeroCells z.cells (grownCap w zs.length 0 e - zs.length)).toList.length = (grownCap w zs.length 0 e - zs.length) * z.cells.size := by rw [Array.length_toList, size_zeroCells]
          simp only [cells]
          rw [List.length_append, ue.1, hzl, hzs, ← Nat.add_mul]
          congr 1
          omega
        · simp only [cells]
          rw [← ue.1]; exact List.take_left
/-! ### Structs whose parts are rows -/
theorem encL_set {H : PH} : ∀ (cs : List D) (vs : List Value) (q : Nat) (d d' : D), EncL H cs vs → cs[q]? = some d → (∀ us, Enc H d us → Enc H d' us) → EncL H (cs.set q d') vs
  | [], vs, q, d, d', e, hq, h => by simp at hq
  | c :: cs, vs, 0, d, d', e, hq, h => by
    simp only [List.getElem?_cons_zero, Option.some.injEq] at hq
    subst hq
    simp only [EncL, List.set_cons_zero] at e ⊢
    obtain ⟨a, r, h1, h2, h3⟩ := e
    exact ⟨a, r, h1, h a h2, h3⟩
  | c :: cs, vs, q + 1, d, d', e, hq, h => by
    simp only [List.getElem?_cons_succ] at hq
    simp only [EncL, List.set_cons_succ] at e ⊢
    obtain ⟨a, r, h1, h2, h3⟩ := e
    exact ⟨a, r, h1, h2, encL_set cs r q d d' h3 hq h⟩
theorem row_enc {H : PH} {as : List Asrt} {w : World} {a : Option Addr} {cap : Nat} {T : TypeId} {sz : Nat} {α : Type} {f : α → D} {l : List α} (hok : HeapOk H as w) (hm : row a cap T sz f l ∈ as) : ∀ us, Enc H (.v (.slice a l.length cap)) us → Enc H (.list sz f l) us := by
  intro us h
  simp only [Enc] at h
  subst h
  exact (conc_enc (by rfl)).1 (row_conc hok hm)
theorem peekAggE {i q : Nat} {cs cs' : List D} {a : Option Addr} {cap n : Nat} {T : TypeId} {sz : Nat} {α : Type} {f : α → D} {xs : List α} (k : Nat) (hf : Env.find L i = some (.agg cs)) (hq : cs[q]? = some (.v (.slice a n cap))) (hk : ms[k]? = some (row a cap T sz f xs)) (hn : xs.length = n) (hcs : cs.set q (.list sz f xs) = cs') : RefE ms L ((i, .agg cs') :: L) := by
  subst hn hcs
  intro t d' ht
  simp only [Env.find] at ht
  cases hb : Nat.beq i t with
  | true =>
    rw [hb] at ht
    have := Nat.eq_of_beq_eq_true hb
    subst this
    simp only [Option.some.injEq] at ht
    subst ht
    refine ⟨_, hf, (fun b e => (by cases e)), fun H fr w u hok c => ?_⟩
    obtain ⟨vs, e1, e2⟩ := conc_agg.1 c
    exact conc_agg.2 ⟨vs, e1, encL_set cs vs q _ _ e2 hq (row_enc (T := T) hok (List.mem_append_left _ (List.mem_of_getElem? hk)))⟩
  | false => rw [hb] at ht; exact ⟨d', ht, fun _ _ => rfl, fun _ _ _ _ _ c => c⟩
theorem nil_enc {sz : Nat} {α : Type} {f : α → D} : ∀ (H : PH) (us : List Value), Enc H (.v (.slice none 0 0)) us → Enc H (.list sz f ([] : List α)) us := by
  intro H us h
  simp only [Enc] at h ⊢
  subst h
  exact ⟨none, 0, by simp, by simp, by simp [maxLen], by simp⟩
theorem nilAggE {i q : Nat} {cs cs' : List D} {sz : Nat} {α : Type} {f : α → D} (hf : Env.find L i = some (.agg cs)) (hq : cs[q]? = some (.v (.slice none 0 0))) (hcs : cs.set q (.list sz f ([] : List α)) = cs') : RefE ms L ((i, .agg cs') :: L) := by
  subst hcs
  intro t d' ht
  simp only [Env.find] at ht
  cases hb : Nat.beq i t with
  | true =>
    rw [hb] at ht
    have := Nat.eq_of_beq_eq_true hb
    subst this
    simp only [Option.some.injEq] at ht
    subst ht
    refine ⟨_, hf, (fun b e => (by cases e)), fun H fr w u hok c => ?_⟩
    obtain ⟨vs, e1, e2⟩ := conc_agg.1 c
    exact conc_agg.2 ⟨vs, e1, encL_set cs vs q _ _ e2 hq (nil_enc H)⟩
  | false => rw [hb] at ht; exact ⟨d', ht, fun _ _ => rfl, fun _ _ _ _ _ c => c⟩
/-- A box's cell, told otherwise. -/
theorem refines_cell {b : Nat} {T : TypeId} {cs cs' : List D} {d d' : D} (k q : Nat) (hk : ms[k]? = some (box b T cs)) (hq : cs[q]? = some d) (h : ∀ H us, Enc H d us → Enc H d' us) {ms' : List Asrt} (hcs : cs.set q d' = cs') (hms : ms.set k (box b T cs') = ms') : Refines L ms L ms' := by
  subst hms hcs
  intro Γ act w m
  obtain ⟨H, marks, hle, hok, henv, hdf⟩ := m.ex
  have hok1 := hok.perm (perm_fr hk)
  obtain ⟨vs, h1, h2, h3⟩ := hok1.ok _ (List.mem_cons_self ..)
  have hup : HeapOk H (box b T (cs.set q d') :: (ms.eraseIdx k ++ (marks.map markA ++ Γ.fr))) w :=
    hok1.upd rfl (Nat.le_refl _) (fun _ _ _ => rfl) (fun _ _ _ _ => rfl) (PH.le_refl H) (fun b o v _ hv => hok1.sub b o v hv) ⟨vs, h1, encL_set cs vs q d d' h2 hq (h H), h3⟩
  exact ⟨⟨H, marks, hle, hup.perm (perm_fr' hk), henv, hdf⟩, m.size, m.same⟩
/-- Something owned in the place of something that is needed no more. -/
theorem refines_shift {A : Asrt} (k j : Nat) (hk : ms[k]? = some A) (hj : Nat.blt j ms.length = true) (hne : Nat.beq k j = false) {ms' : List Asrt} (hms : (ms.set j A).eraseIdx k = ms') : Refines L ms L ms' := by
  subst hms
  have hj := Nat.le_of_ble_eq_true hj
  have hne : k ≠ j := fun e => by rw [e] at hne; simp at hne
  intro Γ act w m
  obtain ⟨H, marks, hle, hok, henv, hdf⟩ := m.ex
  have hjj : ms[j]? = some ms[j] := by simp
  have p1 : ms.Perm (ms[j] :: ms.eraseIdx j) := perm_at ms j _ hjj
  have p2 : (A :: ms.eraseIdx j).Perm (ms.set j A) := perm_set ms j _ A hjj
  have hk2 : (ms.set j A)[k]? = some A := by rw [List.getElem?_set_ne (fun e => hne e.symm)]; exact hk
  have p3 : (ms.set j A).Perm (A :: (ms.set j A).eraseIdx k) := perm_at _ k A hk2
  have p4 : (ms.eraseIdx j).Perm ((ms.set j A).eraseIdx k) := (p2.trans p3).cons_inv
  have hok2 : HeapOk H ((ms[j] :: (ms.set j A).eraseIdx k) ++ (marks.map markA ++ Γ.fr)) w := hok.perm ((p1.trans (p4.cons _)).append_right _)
  exact ⟨⟨H, marks, hle, hok2.tail, henv, hdf⟩, m.size, m.same⟩
/-! ### Slices of one's own, as they are -/
theorem o_len_raw {a : Option Addr} {n cap : Nat} {e : TypeId} (hu : ∀ w, (underlying t).run P w = .ok (.slice e) w) (hx : Env.ev L x = some (.v (.slice a n cap))) : OpP P ⟨dst, .call ⟨.builtin .len, #[x], #[t]⟩, ty, pos, after, g⟩ L ms (.i64 n) :=
  .pure (by simp) fun H fr act w _ henv => ⟨.int .i64 n, by simp [execOp, resolve, invoke, builtin, Builtin.len_, ev_v henv hx, hu, Sem.run, goInt], conc_v.2 rfl⟩
theorem o_cap_raw {a : Option Addr} {n cap : Nat} {e : TypeId} (hu : ∀ w, (underlying t).run P w = .ok (.slice e) w) (hx : Env.ev L x = some (.v (.slice a n cap))) : OpP P ⟨dst, .call ⟨.builtin .cap, #[x], #[t]⟩, ty, pos, after, g⟩ L ms (.i64 cap) :=
  .pure (by simp) fun H fr act w _ henv => ⟨.int .i64 cap, by simp [execOp, resolve, invoke, builtin, Builtin.cap_, ev_v henv hx, hu, Sem.run, goInt], conc_v.2 rfl⟩
/-! ### Function values -/
/-- A pure call of a function value. -/
theorem o_callv0 {args : List Operand} {ats : Array TypeId} {ds : List D} {fv : D} (hx : Env.ev L x = some fv) (hev : evL L args = some ds) (hf : FV P fv ds [] (fun d' _ => d' = d)) :
    OpP P ⟨dst, .call ⟨.value x, args.toArray, ats⟩, ty, pos, after, g⟩ L ms d := by
  have hf' : FV P fv ds [] (fun d' ms' => d' = d ∧ ms' = []) := by
    intro H fr w v vs hok hv hargs
    have := hf H fr w v vs hok hv hargs
    obtain ⟨fn, first, caps, e, h1⟩ := this
    refine ⟨fn, first, caps, e, ?_⟩
    rcases h1 with ⟨f, e1, e2, e3⟩ | ⟨l, g', tmps, as, b, e1, e2, e3⟩
    · refine .inl ⟨f, e1, e2, e3.mono ?_⟩
      rintro e w' ⟨v, d', ms', H', he, hd, hle, hok', hc, hs⟩
      exact ⟨v, d', [], H', he, ⟨hd, rfl⟩, hle, by simpa using hok'.drop, hc, hs⟩
    · refine .inr ⟨l, g', tmps, as, b, e1, e2, RoundIn.mono e3 ?_⟩
      rintro e w' ⟨v, d', ms', H', he, hd, hle, hok', hc, hs⟩
      exact ⟨v, d', [], H', he, ⟨hd, rfl⟩, hle, by simpa using hok'.drop, hc, hs⟩
  have := o_callv (P := P) (L := L) (ms := ms) (dst := dst) (ty := ty) (pos := pos) (after := after) (g := g) (ats := ats) (ms₁ := []) (rest := ms) hx hev (List.Perm.refl ms) hf'
  intro ro H fr a w hok henv next Q hn
  refine this ro H fr a w hok henv next Q ?_
  rintro v d' ms' w' H' ⟨ms₁', ⟨rfl, rfl⟩, rfl⟩ hle hok' hc' hs
  exact hn v d' _ w' H' ⟨rfl, rfl⟩ hle hok' hc' hs
/-- A function value does what a model says. -/
def FunOk1 (P : Program) (fv : D) {α β : Type} (e : α → D) (r : β → D) (p : α → Option β) : Prop := ∀ x y, p x = some y → FV P fv [e x] [] (fun d _ => d = r y)
def FunOk2 (P : Program) (fv : D) {α γ β : Type} (e : α → D) (e' : γ → D) (r : β → D) (p : α → γ → Option β) : Prop := ∀ x x' y, p x x' = some y → FV P fv [e x, e' x'] [] (fun d _ => d = r y)
end
end Go.V
