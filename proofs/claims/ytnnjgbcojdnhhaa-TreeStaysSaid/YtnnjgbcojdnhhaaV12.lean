/- What a function hands back; slice literals; function values. -/
import Derived.Test.YtnnjgbcojdnhhaaV11
set_option linter.unusedVariables false
set_option linter.unusedSimpArgs false
namespace Go.V
section
variable {P : Program} {fn : Func} {L : Env} {ms ms' drop : List Asrt} {d : D}
def resSem (tmps : Array Value) : ResultVar → Sem Value
  | .tmp t => pure (tmps.getD t undef)
  | .cell a t => do loadVar t (← asAddr (tmps.getD a undef))
/-- One result. -/
def RetVal (P : Program) (L : Env) (ms : List Asrt) : ResultVar → D → Prop
  | .tmp t, d => Env.find L t = some d
  | .cell a ty, d => ∃ (k b T : Nat) (cs : List D), Env.find L a = some (.v (.pointer (some ⟨b, 0, none⟩))) ∧ ms[k]? = some (box b T cs) ∧ flat cs = true ∧
      ((∃ sz, (∀ w, (isAgg ty).run P w = .ok true w) ∧ (∀ w, (sizeOf ty).run P w = .ok sz w) ∧ cs.length = sz ∧ d = .agg cs) ∨ ((∀ w, (isAgg ty).run P w = .ok false w) ∧ cs[0]? = some d))
theorem ret_tmp {t : Nat} (h : Env.find L t = some d) : RetVal P L ms (.tmp t) d := h
theorem ret_cell {a ty : Nat} {b T : Nat} {cs : List D} {sz : Nat} (k : Nat) (ha : Env.find L a = some (.v (.pointer (some ⟨b, 0, none⟩)))) (hk : ms[k]? = some (box b T cs)) (hf : flat cs = true) (hag : ∀ w, (isAgg ty).run P w = .ok true w)
    (hs : ∀ w, (sizeOf ty).run P w = .ok sz w) (hl : cs.length = sz) : RetVal P L ms (.cell a ty) (.agg cs) := ⟨k, b, T, cs, ha, hk, hf, .inl ⟨sz, hag, hs, hl, rfl⟩⟩
theorem ret_cell1 {a ty : Nat} {b T : Nat} {cs : List D} (k : Nat) (ha : Env.find L a = some (.v (.pointer (some ⟨b, 0, none⟩)))) (hk : ms[k]? = some (box b T cs)) (hf : flat cs = true) (hag : ∀ w, (isAgg ty).run P w = .ok false w)
    (hd : cs[0]? = some d) : RetVal P L ms (.cell a ty) d := ⟨k, b, T, cs, ha, hk, hf, .inr ⟨hag, hd⟩⟩
theorem retVal_run {H : PH} {tmps : Array Value} {w : World} (hok : HeapOk H ms w) (henv : EnvOk H L tmps) {r : ResultVar} (h : RetVal P L ms r d) :
    ∃ v, (resSem tmps r).run P w = .ok v w ∧ Conc H d v := by
  cases r with
  | tmp t => exact ⟨_, rfl, henv t d h⟩
  | cell a ty =>
    obtain ⟨k, b, T, cs, ha, hk, hf, hc⟩ := h
    obtain ⟨vs, h1, h2, h3⟩ := box_cells hok hk
    have hv := conc_v.1 (henv a _ ha)
    obtain ⟨h4, h5⟩ := EncL.get cs vs h2 hf
    rcases hc with ⟨sz, hag, hs, hl, rfl⟩ | ⟨hag, hd⟩
    · have hl' := run_loadCells_list (P := P) w ⟨b, 0, none⟩ vs (fun j v hj => by rw [add_zero']; simp [World.cell?, h1, hj])
      rw [show vs.length = sz by omega] at hl'
      exact ⟨.agg vs.toArray, by simp [resSem, hv, asAddr, loadVar, hag, hs, hl', Sem.run], conc_agg.2 ⟨vs, rfl, h2⟩⟩
    · obtain ⟨u, h6, h7⟩ := h5 0 d hd
      have hc : w.cell? ⟨b, 0, none⟩ = some u := by simp [World.cell?, h1, h6]
      exact ⟨u, by simp [resSem, hv, asAddr, loadVar, hag, load, Sem.run, hc], (conc_enc (flat_get cs 0 d hf hd)).2 h7⟩
/-- Several results. -/
def RetVals (P : Program) (L : Env) (ms : List Asrt) : List ResultVar → List D → Prop
  | [], ds => ds = []
  | r :: rs, d :: ds => RetVal P L ms r d ∧ RetVals P L ms rs ds
  | _ :: _, [] => False
theorem retVals_run {H : PH} {tmps : Array Value} {w : World} (hok : HeapOk H ms w) (henv : EnvOk H L tmps) : ∀ (rs : List ResultVar) (ds : List D), RetVals P L ms rs ds →
    ∃ vs, (rs.mapM (resSem tmps)).run P w = .ok vs w ∧ ConcL H ds vs ∧ vs.length = rs.length
  | [], ds, h => by simp only [RetVals] at h; subst h; exact ⟨[], by simp [Sem.run, pure], by simp [ConcL], rfl⟩
  | r :: rs, [], h => by simp [RetVals] at h
  | r :: rs, d :: ds, h => by
    obtain ⟨v, h1, h2⟩ := retVal_run hok henv h.1
    obtain ⟨vs, h3, h4, h5⟩ := retVals_run hok henv rs ds h.2
    refine ⟨v :: vs, ?_, ?_, by simp [h5]⟩
    · rw [List.mapM_cons]
      simp only [Sem.run_bind, h1, Result.andThen_ok, h3]
      rfl
    · simp only [ConcL]; exact ⟨v, vs, rfl, h2, h4⟩
theorem results_list {rs : List ResultVar} (hr : fn.results = rs.toArray) {tmps : Array Value} {w : World} {vs : List Value}
    (h : (rs.mapM (resSem tmps)).run P w = .ok vs w) :
    (results fn tmps).run P w = .ok (if h : vs.toArray.size = 1 then vs.toArray[0] else .tuple vs.toArray) w := by
  have e : results fn tmps = (do let vs ← fn.results.mapM (resSem tmps); pure (if h : vs.size = 1 then vs[0] else .tuple vs)) := by
    unfold results
    have : (fun (r : ResultVar) => (match r with | .tmp t => (pure (tmps.getD t undef) : Sem Value) | .cell a t => do loadVar t (← asAddr (tmps.getD a undef)))) = resSem tmps := by
      funext r; cases r <;> rfl
    rw [← this]
    rfl
  rw [e, hr, List.mapM_toArray]
  simp only [Sem.run_bind, Sem.run_map, h, Result.andThen_ok]
  rfl
theorem ret_one' {r : ResultVar} (hr : fn.results = #[r]) (h : RetVal P L ms r d) (p : ms.Perm (drop ++ ms')) : RetSem P fn L ms d ms' :=
  .perm p fun H tmps w hok henv => by
    obtain ⟨v, h1, h2⟩ := retVal_run hok henv h
    have h3 : ([r].mapM (resSem tmps)).run P w = .ok [v] w := by
      rw [List.mapM_cons, List.mapM_nil]
      simp only [Sem.run_bind, h1, Result.andThen_ok]
      rfl
    exact ⟨v, results_list (rs := [r]) hr h3, h2⟩
theorem ret_many {rs : List ResultVar} {ds : List D} (hr : fn.results = rs.toArray) (hl : rs.length ≠ 1) (h : RetVals P L ms rs ds) (p : ms.Perm (drop ++ ms')) : RetSem P fn L ms (.tup ds) ms' :=
  .perm p fun H tmps w hok henv => by
    obtain ⟨vs, h1, h2, h3⟩ := retVals_run hok henv rs ds h
    refine ⟨.tuple vs.toArray, ?_, ?_⟩
    · rw [results_list hr h1, dif_neg (by simp [h3, hl])]
    · rw [conc_enc (by rfl)]; simp only [Enc]; exact ⟨vs, rfl, h2⟩
/-- The end of a function that leaves nothing. -/
theorem retK {R : D → List Asrt → Prop} (h : RetSem P fn L ms d ms') (hR : R d ms') : RetK P fn R .ret L ms := ⟨.inl rfl, d, ms', h, hR⟩
theorem retKn {R : D → List Asrt → Prop} (h : RetSem P fn L ms d ms') (hR : R d ms') : RetK P fn R .normal L ms := ⟨.inr rfl, d, ms', h, hR⟩
theorem perm_drop (ms : List Asrt) : ms.Perm (ms ++ []) := by simp
end
section
variable {P : Program} {L : Env} {ms : List Asrt} {dst : Option Nat} {ty : TypeId} {pos : String} {after : Array Edge} {g : Option (Nat × Bool)} {d d' : D} {x y : Operand} {t t' : TypeId}
/-! ### Slice literals -/
def enumO : Nat → List Operand → List (Nat × Operand)
  | _, [] => []
  | i, x :: r => (i, x) :: enumO (i + 1) r
theorem fill_slice {H : PH} {a : Act} (henv : EnvOk H L a.tmps) (sz : Nat) : ∀ (xs : List Operand) (ds : List D) (k : Nat) (vs : List Value), evL L xs = some ds → (∀ d ∈ ds, d.storable = true ∧ d.cs.length = sz ∧ flat d.cs = true) → vs.length = (k + xs.length) * sz →
    ∃ us, Instr.fill (fun i => some (i * sz, sz)) vs.toArray ((enumO k xs).map fun p => (p.1, a.eval p.2)) = some (vs.take (k * sz) ++ us).toArray ∧ us.length = ds.length * sz ∧
      ∀ (i : Nat) d, ds[i]? = some d → ∃ ws, EncL H d.cs ws ∧ ws.length = sz ∧ ∀ (k : Nat) u, ws[k]? = some u → us[i * sz + k]? = some u
  | [], ds, k, vs, h, _, hl => by
    simp only [evL, Option.some.injEq] at h
    subst h
    refine ⟨[], ?_, by simp, fun i d hi => by simp at hi⟩
    simp only [enumO, List.map_nil, Instr.fill]
    rw [List.take_of_length_le (by rw [hl]; simp)]
    simp
  | x :: xs, ds, k, vs, h, hd, hl => by
    simp only [evL] at h
    split at h
    · rename_i d ds' h1 h2
      simp only [Option.some.injEq] at h
      subst h
      obtain ⟨c1, c2, c3⟩ := hd d (by simp)
      have hv := conc_cs (henv.ev h1) c1
      have hvl := (EncL.get _ _ hv c3).1
      have hsz : (a.eval x).cells.size = sz := by rw [← Array.length_toList, hvl, c2]
      have hin : k * sz + sz ≤ vs.length := by
        rw [hl]
        calc k * sz + sz = (k + 1) * sz := by rw [Nat.add_mul]; omega
          _ ≤ (k + (x :: xs).length) * sz := Nat.mul_le_mul_right _ (by simp)
      have hvl2 : (a.eval x).cells.toList.length = sz := by rw [hvl, c2]
      obtain ⟨us, k1, k2, k3⟩ := fill_slice henv sz xs ds' (k + 1) (vs.take (k * sz) ++ ((a.eval x).cells.toList ++ vs.drop (k * sz + (a.eval x).cells.toList.length))) h2 (fun d hd' => hd d (by simp [hd'])) (by
        simp only [List.length_append, List.length_take, List.length_drop, hvl2]
        rw [hl, Nat.min_eq_left (by rw [hl] at hin; omega)]
        rw [show k + 1 + xs.length = k + (x :: xs).length by simp; omega]
        rw [hl] at hin
        omega)
      refine ⟨(a.eval x).cells.toList ++ us, ?_, by simp [k2, hsz, Nat.add_mul]; omega, fun i e hi => ?_⟩
      · simp only [enumO, List.map_cons, Instr.fill]
        have hno : (decide ((a.eval x).cells.size ≠ sz) || decide (k * sz + (a.eval x).cells.size > vs.toArray.size)) = false := by simp [hsz]; omega
        rw [hno, if_neg (by simp)]
        have := fill_one (a.eval x).cells.toList (k * sz) vs (by rw [hvl2]; exact hin)
        simp only [Array.toArray_toList] at this
        rw [this, k1]
        congr 2
        have e1 : (k + 1) * sz = (vs.take (k * sz) ++ (a.eval x).cells.toList).length := by
          simp only [List.length_append, List.length_take, hvl2]; rw [Nat.min_eq_left (by omega), Nat.add_mul]; omega
        rw [← List.append_assoc (vs.take (k * sz)), e1, List.take_left, List.append_assoc]
      · cases i with
        | zero =>
          simp at hi; subst hi
          refine ⟨(a.eval x).cells.toList, hv, hvl2, fun k u hk => ?_⟩
          rw [Nat.zero_mul, Nat.zero_add, List.getElem?_append_left (List.getElem?_eq_some_iff.1 hk).1]
          exact hk
        | succ i =>
          obtain ⟨ws, a1, a2, a3⟩ := k3 i e (by simpa using hi)
          refine ⟨ws, a1, a2, fun k u hk => ?_⟩
          rw [List.getElem?_append_right (by rw [hvl2, Nat.add_mul]; omega), hvl2, show (i + 1) * sz + k - sz = i * sz + k by rw [Nat.add_mul]; omega]
          exact a3 k u hk
    · cases h
theorem enc_cs {H : PH} {ws : List Value} (h : EncL H d.cs ws) : Enc H d ws := by
  cases d with
  | agg cs => simpa [Enc, D.cs] using h
  | _ =>
    simp only [D.cs, EncL] at h
    obtain ⟨a, r, rfl, e, rfl⟩ := h
    simpa using e
/-- A slice literal that is never written again: its elements are f of xs. -/
theorem buildSlice_run {H : PH} {a : Act} {w : World} {e : TypeId} {sz : Nat} {z : Value} {xs : List Operand} {α : Type} {f : α → D} {l : List α} (hu : ∀ w, (underlying t).run P w = .ok (.slice e) w) (hs : ∀ w, (sizeOf e).run P w = .ok sz w) (hz : ∀ w, (zeroValue e).run P w = .ok z w) (hzs : z.cells.size = sz) (hsz : Nat.blt 0 sz = true)
    (henv : EnvOk H L a.tmps) (hev : evL L xs = some (l.map f)) (hst : ∀ x, (f x).storable = true ∧ (f x).cs.length = sz ∧ flat (f x).cs = true) (hlen : xs.length * sz ≤ 16777216) :
    ∃ us, (execOp a.eval ⟨dst, .buildSlice t xs.length (enumO 0 xs).toArray, ty, pos, after, g⟩).run P w = .ok (.value (.slice (some ⟨w.heap.size, 0, none⟩) l.length l.length)) (w.alloc (.cells us.toArray e)) ∧ ListEnc H f sz l us := by
  have hxl : xs.length = l.length := by
    have : ∀ (xs : List Operand) (ds : List D), evL L xs = some ds → xs.length = ds.length := by
      intro xs
      induction xs with
      | nil => intro ds h; simp only [evL, Option.some.injEq] at h; subst h; rfl
      | cons x xs ih =>
        intro ds h
        simp only [evL] at h
        split at h
        · rename_i d ds' h1 h2
          simp only [Option.some.injEq] at h
          subst h
          simp [ih _ h2]
        · cases h
    rw [this xs _ hev]; simp
  have hsz := Nat.le_of_ble_eq_true hsz
  let base : List Value := (List.range (xs.length * sz)).map fun i => z.cells[i % z.cells.size]!
  obtain ⟨us, h1, h2, h3⟩ := fill_slice henv sz xs (l.map f) 0 base hev (fun d hd => by
    obtain ⟨x, _, rfl⟩ := List.mem_map.1 hd; exact hst x) (by simp [base])
  simp only [Nat.zero_mul, List.take_zero, List.nil_append] at h1
  refine ⟨us, ?_, by rw [h2]; simp, fun i x hx => ?_⟩
  · have hno : ¬ (16777216 < xs.length * sz) := by omega
    have hzr : (Array.range (xs.length * sz)).map (fun i => z.cells[i % z.cells.size]!) = base.toArray := by
      apply Array.ext'; simp [base, Array.toList_range]
    by_cases h0 : xs.length * sz = 0
    · have hx0 : xs = [] := by
        have : xs.length = 0 := by
          rcases Nat.mul_eq_zero.1 h0 with h | h
          · exact h
          · omega
        exact List.length_eq_zero_iff.1 this
      subst hx0
      have hl0 : l = [] := List.length_eq_zero_iff.1 (by simpa using hxl.symm)
      subst hl0
      have hus : us = [] := List.length_eq_zero_iff.1 (by simpa using h2)
      subst hus
      simp [execOp, Instr.buildSlice, hu, hs, Sem.run, enumO, Instr.fill, newRow, newObj]
      rw [show Array.map (fun (_ : Nat) => (default : Value)) (Array.range 0) = #[] by apply Array.ext' ; simp [Array.toList_range]]
    · simp only [execOp, Instr.buildSlice, Sem.run_bind, hu, hs, Result.andThen_ok]
      have hgt : ¬ (xs.length * sz > 2 ^ 24) := by omega
      rw [if_neg hgt]
      simp only [Sem.run_bind, h0, if_false, hz, Result.andThen_ok, Sem.run_pure]
      have hm : (Array.map (fun x => (x.fst, a.eval x.snd)) (enumO 0 xs).toArray).toList = (enumO 0 xs).map fun p => (p.1, a.eval p.2) := by simp
      rw [hm, hzr, h1]
      simp [newRow, newObj, Sem.run, hxl]
  · obtain ⟨ws, a1, a2, a3⟩ := h3 i (f x) (by rw [List.getElem?_map, hx]; rfl)
    exact ⟨ws, enc_cs a1, a2, a3⟩
theorem o_buildSlice {e : TypeId} {sz : Nat} {z : Value} {xs : List Operand} {α : Type} {f : α → D} {l : List α} (hu : ∀ w, (underlying t).run P w = .ok (.slice e) w) (hs : ∀ w, (sizeOf e).run P w = .ok sz w) (hz : ∀ w, (zeroValue e).run P w = .ok z w) (hzs : z.cells.size = sz) (hsz : Nat.blt 0 sz = true)
    (hev : evL L xs = some (l.map f)) (hst : ∀ x, (f x).storable = true ∧ (f x).cs.length = sz ∧ flat (f x).cs = true) (hlen : Nat.ble (xs.length * sz) 16777216 = true) : OpP P ⟨dst, .buildSlice t xs.length (enumO 0 xs).toArray, ty, pos, after, g⟩ L ms (.list sz f l) := by
  refine .val (by simp) fun H fr a w hok henv => ?_
  have hlen := Nat.le_of_ble_eq_true hlen
  obtain ⟨us, h1, h2⟩ := buildSlice_run (dst := dst) (ty := ty) (pos := pos) (after := after) (g := g) (w := w) hu hs hz hzs hsz henv hev hst hlen
  obtain ⟨h3, h4⟩ := hok.persist us e
  refine ⟨_, .list sz f l, ms, _, _, h1, ⟨rfl, rfl⟩, h4, h3, ?_, sameOut_alloc _ _⟩
  rw [conc_enc (by rfl)]
  simp only [Enc]
  have hll : l.length ≤ maxLen := by
    have hsz := Nat.le_of_ble_eq_true hsz
    have : l.length ≤ l.length * sz := Nat.le_mul_of_pos_right _ (by omega)
    have hxl : (l.map f).length = xs.length := by
      have : ∀ (xs : List Operand) (ds : List D), evL L xs = some ds → ds.length = xs.length := by
        intro xs
        induction xs with
        | nil => intro ds h; simp only [evL, Option.some.injEq] at h; subst h; rfl
        | cons x xs ih =>
          intro ds h
          simp only [evL] at h
          split at h
          · rename_i d ds' h1 h2
            simp only [Option.some.injEq] at h
            subst h
            simp [ih _ h2]
          · cases h
      exact this xs _ hev
    rw [List.length_map] at hxl
    rw [hxl] at this ⊢
    simp only [maxLen]; omega
  refine ⟨_, _, rfl, Nat.le_refl _, hll, .inr ⟨w.heap.size, 0, rfl, fun i x hx => ?_⟩⟩
  obtain ⟨ws, e1, e2, e3⟩ := h2.2 i x hx
  exact ⟨ws, Enc.mono h4 _ _ e1, e2, fun k u hk => by
    have := e3 k u hk
    simp only [PH.add, if_pos, Nat.zero_add]; exact this⟩
/-- A slice literal that is appended to. -/
theorem o_buildSlice_row {e : TypeId} {sz : Nat} {z : Value} {xs : List Operand} {α : Type} {f : α → D} {l : List α} (hu : ∀ w, (underlying t).run P w = .ok (.slice e) w) (hs : ∀ w, (sizeOf e).run P w = .ok sz w) (hz : ∀ w, (zeroValue e).run P w = .ok z w) (hzs : z.cells.size = sz) (hsz : Nat.blt 0 sz = true)
    (hev : evL L xs = some (l.map f)) (hst : ∀ x, (f x).storable = true ∧ (f x).cs.length = sz ∧ flat (f x).cs = true) (hlen : Nat.ble (xs.length * sz) 16777216 = true) (hll : l.length ≤ maxLen) :
    OpT P ⟨dst, .buildSlice t xs.length (enumO 0 xs).toArray, ty, pos, after, g⟩ L ms (fun d' ms' => ∃ a, d' = .v (.slice a l.length l.length) ∧ ms' = row a l.length e sz f l :: ms) := by
  refine .val (by simp) fun H fr a w hok henv => ?_
  have hlen := Nat.le_of_ble_eq_true hlen
  obtain ⟨us, h1, h2⟩ := buildSlice_run (dst := dst) (ty := ty) (pos := pos) (after := after) (g := g) (w := w) hu hs hz hzs hsz henv hev hst hlen
  have hp := hok.part (cells := us) (us := us) (T := e) (A := row (some ⟨w.heap.size, 0, none⟩) l.length e sz f l) (fun k u h => h) rfl ?_
  · exact ⟨_, _, _, _, _, h1, ⟨_, rfl, rfl⟩, hp.2, hp.1, conc_v.2 rfl, sameOut_alloc _ _⟩
  · have hle : PH.le H (H.add w.heap.size us) := by
      intro b o v hv
      simp only [PH.add]
      by_cases hb : b = w.heap.size
      · subst hb; rw [hok.none_new _ _ (Nat.le_refl _)] at hv; cases hv
      · rw [if_neg hb]; exact hv
    refine ⟨Nat.le_refl _, hll, .inr ⟨w.heap.size, us, us, rfl, heap_alloc_new _ _, h2.1, h2.mono hle, by rw [← h2.1]; exact List.take_length, fun k u hk => by simp [PH.add, hk], fun o ho => ?_⟩⟩
    simp only [PH.add, if_pos]
    rw [List.getElem?_eq_none (by rw [h2.1]; exact ho)]
end
end Go.V
