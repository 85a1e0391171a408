/- The operations' rules: one's own blocks, literals, calls. -/
import Derived.Test.YtnnjgbcojdnhhaaV4
import Derived.Laws.CopyRow
set_option linter.unusedVariables false
set_option linter.unusedSimpArgs false
namespace Go.V
section ops
variable {P : Program} {L : Env} {ms : List Asrt} {dst : Option Nat} {ty : TypeId} {pos : String} {after : Array Edge} {g : Option (Nat × Bool)} {d d' : D} {x y : Operand} {t t' : TypeId}

/-! ### One's own block, read and written -/
theorem box_cells {H : PH} {as : List Asrt} {w : World} {b : Nat} {T : TypeId} {cs : List D} {k : Nat} (hok : HeapOk H as w) (hk : as[k]? = some (box b T cs)) :
    ∃ vs, w.heap[b]? = some (.cells vs.toArray T (0, 0)) ∧ EncL H cs vs ∧ ∀ o, H b o = none :=
  hok.ok _ (List.mem_of_getElem? hk)
theorem getElem?_app {α : Type _} {l r : List α} {k : Nat} {x : α} (h : l[k]? = some x) : (l ++ r)[k]? = some x := by
  obtain ⟨h1, h2⟩ := List.getElem?_eq_some_iff.1 h
  rw [List.getElem?_append_left h1]; exact h
theorem o_load_box {b off : Nat} {T : TypeId} {cs : List D} (k : Nat) (ha : ∀ w, (isAgg t).run P w = .ok false w) (hx : Env.ev L x = some (.v (.pointer (some ⟨b, off, none⟩)))) (hk : ms[k]? = some (box b T cs)) (hf : flat cs = true) (hd : cs[off]? = some d) :
    OpP P ⟨dst, .load t x, ty, pos, after, g⟩ L ms d := by
  refine .pure (by simp) fun H fr a w hok henv => ?_
  obtain ⟨vs, h1, h2, _⟩ := box_cells hok (getElem?_app hk)
  obtain ⟨h3, h4⟩ := EncL.get cs vs h2 hf
  obtain ⟨u, h5, h6⟩ := h4 off d hd
  have hc : w.cell? ⟨b, off, none⟩ = some u := by simp [World.cell?, h1, h5]
  exact ⟨u, by simp [execOp, Instr.loadAt, Instr.sureAddr, ev_v henv hx, loadVar, ha, load, Sem.run, hc], (conc_enc (flat_get cs off d hf hd)).2 h6⟩
theorem o_load_box_agg {b off sz : Nat} {T : TypeId} {cs ds : List D} (k : Nat) (ha : ∀ w, (isAgg t).run P w = .ok true w) (hs : ∀ w, (sizeOf t).run P w = .ok sz w) (hx : Env.ev L x = some (.v (.pointer (some ⟨b, off, none⟩)))) (hk : ms[k]? = some (box b T cs)) (hf : flat cs = true)
    (hd : (cs.drop off).take sz = ds) (hl : off + sz ≤ cs.length) : OpP P ⟨dst, .load t x, ty, pos, after, g⟩ L ms (.agg ds) := by
  refine .pure (by simp) fun H fr a w hok henv => ?_
  obtain ⟨vs, h1, h2, _⟩ := box_cells hok (getElem?_app hk)
  obtain ⟨h3, h4⟩ := EncL.get cs vs h2 hf
  have hl' := run_loadCells_list (P := P) w ⟨b, off, none⟩ ((vs.drop off).take sz) (fun j v hj => by
    rw [add_zero']
    rw [List.getElem?_take] at hj
    split at hj
    · rw [List.getElem?_drop] at hj; simp [World.cell?, h1, hj]
    · cases hj)
  have hlen : ((vs.drop off).take sz).length = sz := by simp; omega
  rw [hlen] at hl'
  refine ⟨.agg ((vs.drop off).take sz).toArray, by simp [execOp, Instr.loadAt, Instr.sureAddr, ev_v henv hx, loadVar, ha, hs, hl', Sem.run], conc_agg.2 ⟨_, rfl, ?_⟩⟩
  subst hd
  refine EncL.of_get _ _ (flat_take _ _ (flat_drop _ _ hf)) (by simp [h3]) fun k c hk => ?_
  rw [List.getElem?_take] at hk
  split at hk
  · rename_i hlt
    rw [List.getElem?_drop] at hk
    obtain ⟨u, h5, h6⟩ := h4 _ _ hk
    exact ⟨u, by rw [List.getElem?_take, if_pos hlt, List.getElem?_drop]; exact h5, h6⟩
  · cases hk
theorem o_fieldAddr_box {b o n off sz : Nat} {ag : Bool} (hf : FieldIs P t n off sz ag) (hx : Env.ev L x = some (.v (.pointer (some ⟨b, o, none⟩)))) : OpP P ⟨dst, .fieldAddr t x n, ty, pos, after, g⟩ L ms (.v (.pointer (some ⟨b, o + off, none⟩))) := by
  refine .pure (by simp) fun H fr a w hok henv => ?_
  obtain ⟨fs, f, h1, h2, h3, h4, h5, h6⟩ := hf.ex
  exact ⟨_, by simp [execOp, Instr.fieldAt, Instr.sureAddr, ev_v henv hx, h1, h2, fieldPlace, h4, h5, h3, Sem.run, add_zero'], conc_v.2 rfl⟩

/-- The cells of a datum. -/
def D.cs : D → List D
  | .agg cs => cs
  | d => [d]
theorem conc_cs {H : PH} {v : Value} (h : Conc H d v) (hs : d.storable = true) : EncL H d.cs v.cells.toList := by
  have e := conc_cells h (storable_one h hs)
  cases d with
  | agg cs => simpa [Enc, D.cs] using e
  | _ => simp only [D.cs, EncL]; exact ⟨_, [], by simp, e, rfl⟩
def storableL : List D → Bool
  | [] => true
  | c :: cs => c.storable && storableL cs
theorem enc_oneCell {H : PH} {c : D} {u : Value} (hn : c.isAgg = false) (hs : c.storable = true) (e : Enc H c [u]) : u.oneCell' = true := by
  rcases storable_one ((conc_enc hn).2 e) hs with h | h
  · exact h
  · rw [hn] at h; cases h
theorem encL_oneCell {H : PH} : ∀ (cs : List D) (vs : List Value), flat cs = true → storableL cs = true → EncL H cs vs → ∀ v ∈ vs, v.oneCell' = true
  | [], vs, _, _, e => by simp only [EncL] at e; subst e; simp
  | c :: cs, vs, hf, hs, e => by
    simp only [EncL] at e
    obtain ⟨a, r, hv, e1, e2⟩ := e
    obtain ⟨h1, h2⟩ := flat_cons hf
    simp only [storableL, Bool.and_eq_true] at hs
    obtain ⟨u, rfl⟩ := enc_one h1 e1
    subst hv
    intro v hv
    simp at hv
    rcases hv with rfl | hv
    · exact enc_oneCell h1 hs.1 e1
    · exact encL_oneCell cs r h2 hs.2 e2 v hv
theorem encL_append {H : PH} : ∀ (as bs : List D) (us vs : List Value), EncL H as us → EncL H bs vs → EncL H (as ++ bs) (us ++ vs)
  | [], bs, us, vs, e, e' => by simp only [EncL] at e; subst e; exact e'
  | a :: as, bs, us, vs, e, e' => by
    simp only [EncL] at e
    obtain ⟨p, r, hv, e1, e2⟩ := e
    subst hv
    simp only [List.cons_append, EncL, List.append_assoc]
    exact ⟨p, r ++ vs, rfl, e1, encL_append as bs r vs e2 e'⟩
theorem encL_drop {H : PH} (cs : List D) (vs : List Value) (hf : flat cs = true) (e : EncL H cs vs) (n : Nat) : EncL H (cs.drop n) (vs.drop n) := by
  obtain ⟨h1, h2⟩ := EncL.get cs vs e hf
  refine EncL.of_get _ _ (flat_drop _ _ hf) (by simp [h1]) fun k c hk => ?_
  rw [List.getElem?_drop] at hk
  obtain ⟨u, h3, h4⟩ := h2 _ _ hk
  exact ⟨u, by rw [List.getElem?_drop]; exact h3, h4⟩
theorem encL_take {H : PH} (cs : List D) (vs : List Value) (hf : flat cs = true) (e : EncL H cs vs) (n : Nat) : EncL H (cs.take n) (vs.take n) := by
  obtain ⟨h1, h2⟩ := EncL.get cs vs e hf
  refine EncL.of_get _ _ (flat_take _ _ hf) (by simp [h1]) fun k c hk => ?_
  rw [List.getElem?_take] at hk
  split at hk
  · rename_i hlt
    obtain ⟨u, h3, h4⟩ := h2 _ _ hk
    exact ⟨u, by rw [List.getElem?_take, if_pos hlt]; exact h3, h4⟩
  · cases hk
/-- What a store makes of a block's cells. -/
def putCs (off : Nat) (ds cs : List D) : List D := cs.take off ++ (ds ++ cs.drop (off + ds.length))
theorem box_upd {H : PH} {as : List Asrt} {w : World} {b : Nat} {T : TypeId} {cs cs' : List D} {us : List Value} (hok : HeapOk H (box b T cs :: as) w) (e : EncL H cs' us) :
    HeapOk H (box b T cs' :: as) (w.setRow b us.toArray) := by
  obtain ⟨vs, h1, h2, h3⟩ := box_cells (k := 0) hok rfl
  have hlt : b < w.heap.size := hok.lt (box b T cs) (by simp) b (by simp [box])
  refine hok.upd rfl (by simp [World.setRow]) ?_ (fun _ _ _ _ => rfl) (PH.le_refl H) ?_ ?_
  · intro b' _ hn
    have : b ≠ b' := fun e => hn (by simp [box, e])
    simp [World.setRow, Array.getElem?_modify, this]
  · intro b' o v hb hv
    rcases hb with hb | hb
    · simp [box] at hb; subst hb; rw [h3] at hv; cases hv
    · rw [hok.none_new _ _ hb] at hv; cases hv
  · refine ⟨us, ?_, e, h3⟩
    show (w.setRow b us.toArray).heap[b]? = _
    simp [World.setRow, Array.getElem?_modify, h1]
theorem o_store_box {b off sz : Nat} {T : TypeId} {cs : List D} (k : Nat) (hs : ∀ w, (sizeOf t).run P w = .ok sz w) (hx : Env.ev L x = some (.v (.pointer (some ⟨b, off, none⟩)))) (hk : ms[k]? = some (box b T cs)) (hf : flat cs = true)
    (hy : Env.ev L y = some d) (hd : flat d.cs = true) (hst : d.storable = true) (hst2 : storableL d.cs = true) (hsz : d.cs.length = sz) (hl : off + sz ≤ cs.length) :
    OpT P ⟨dst, .store t x y, ty, pos, after, g⟩ L ms (fun _ ms' => ms' = ms.set k (box b T (putCs off d.cs cs))) := by
  refine .skip (by simp) fun H fr a w hok henv => ?_
  obtain ⟨vs, h1, h2, h3⟩ := box_cells hok (getElem?_app hk)
  obtain ⟨h4, h5⟩ := EncL.get cs vs h2 hf
  have hv := conc_cs (henv.ev hy) hst
  have hvl := (EncL.get _ _ hv hd).1
  have hone := encL_oneCell _ _ hd hst2 hv
  have hrun := run_storeCells_at (P := P) b off T (a.eval y).cells.toList 0 vs.toArray w h1 (by simp only [List.size_toArray]; omega) hone
  refine ⟨_, w.setRow b (vs.take off ++ ((a.eval y).cells.toList ++ vs.drop (off + (a.eval y).cells.toList.length))).toArray, H, ?_, rfl, PH.le_refl H, ?_, ⟨rfl, rfl, rfl, by simp [World.setRow]⟩⟩
  · have hcs : (a.eval y).cells.size = sz := by rw [← Array.length_toList, hvl, hsz]
    have e2 : (vs.take (off + 0) ++ (a.eval y).cells.toList ++ vs.drop (off + 0 + (a.eval y).cells.toList.length)) = vs.take off ++ ((a.eval y).cells.toList ++ vs.drop (off + (a.eval y).cells.toList.length)) := by simp
    simp only [] at hrun
    rw [e2] at hrun
    simp only [execOp, Instr.storeAt, Instr.sureAddr, ev_v henv hx, storeVar, Sem.run_bind, Sem.run_pure, Result.andThen_ok, hs, hcs, ne_eq, not_true_eq_false, if_false, hrun]
  · have p1 : (ms ++ fr).Perm (box b T cs :: (ms.eraseIdx k ++ fr)) := by
      rw [← List.cons_append]; exact (perm_at ms k _ hk).append_right fr
    have p2 : (box b T (putCs off d.cs cs) :: (ms.eraseIdx k ++ fr)).Perm (ms.set k (box b T (putCs off d.cs cs)) ++ fr) := by
      rw [← List.cons_append]; exact (perm_set ms k _ _ hk).append_right fr
    refine (box_upd (hok.perm p1) ?_).perm p2
    unfold putCs
    rw [hvl]
    exact encL_append _ _ _ _ (encL_take _ _ hf h2 _) (encL_append _ _ _ _ hv (encL_drop _ _ hf h2 _))

/-! ### Literals -/
/-- A zero value's cells, told as data. -/
def zmatch1 : D → Value → Bool
  | .v (.int k n), .int k' n' => k == k' && n == n'
  | .v (.bool b), .bool b' => b == b'
  | .v (.string s), .string s' => s.data.toList.isEmpty && s'.data.toList.isEmpty
  | .v (.pointer none), .pointer none => true
  | .v (.map none), .map none => true
  | .v (.chan none), .chan none => true
  | .v .nilFunc, .nilFunc => true
  | .v .nilIface, .nilIface => true
  | .list _ _ l, .slice none 0 0 => l.isEmpty
  | .v (.slice none 0 0), .slice none 0 0 => true
  | _, _ => false
def zmatch : List D → List Value → Bool
  | [], [] => true
  | d :: ds, v :: vs => zmatch1 d v && zmatch ds vs
  | _, _ => false
theorem zmatch1_enc {H : PH} {d : D} {v : Value} (h : zmatch1 d v = true) : Enc H d [v] ∧ d.isAgg = false := by
  unfold zmatch1 at h
  split at h <;> simp_all [Enc, D.isAgg]
  · rename_i s s'
    have : s.data.toList = s'.data.toList := by simp [h.1, h.2]
    have := Array.ext' this
    cases s; cases s'; simp_all
  · exact ⟨none, 0, by simp, by omega⟩
theorem zmatch_enc {H : PH} : ∀ (ds : List D) (vs : List Value), zmatch ds vs = true → EncL H ds vs ∧ flat ds = true
  | [], [], _ => by simp [EncL, flat]
  | d :: ds, v :: vs, h => by
    simp only [zmatch, Bool.and_eq_true] at h
    obtain ⟨h1, h2⟩ := zmatch1_enc (H := H) h.1
    obtain ⟨h3, h4⟩ := zmatch_enc (H := H) ds vs h.2
    refine ⟨by simp only [EncL]; exact ⟨[v], vs, by simp, h1, h3⟩, ?_⟩
    cases d <;> simp_all [flat, D.isAgg]
  | [], _ :: _, h => by simp [zmatch] at h
  | _ :: _, [], h => by simp [zmatch] at h
/-- A new variable with its zero value, of one's own. -/
theorem o_alloc_own {z : Value} {cs : List D} (hz : ∀ w, (zeroValue t).run P w = .ok z w) (hm : zmatch cs z.cells.toList = true) :
    OpT P ⟨dst, .alloc t, ty, pos, after, g⟩ L ms (fun d' ms' => ∃ b, d' = .v (.pointer (some ⟨b, 0, none⟩)) ∧ ms' = box b t cs :: ms) := by
  refine .val (by simp) fun H fr a w hok henv => ?_
  refine ⟨.pointer (some ⟨w.heap.size, 0, none⟩), _, _, w.alloc (.cells z.cells.toList.toArray t), H, ?_, ⟨w.heap.size, rfl, rfl⟩, PH.le_refl H, ?_, conc_v.2 rfl, sameOut_alloc _ _⟩
  · simp [execOp, Instr.alloc, hz, newVar, newRow, newObj, Sem.run]
  · exact hok.own (A := box w.heap.size t cs) rfl ⟨_, heap_alloc_new _ _, (zmatch_enc _ _ hm).1, fun o => hok.none_new _ _ (Nat.le_refl _)⟩

/-- The fields' places. -/
def placesOf (P : Program) (fs : Array Field) (pl : List (Nat × Nat)) : Prop := ∀ w, (Array.mapM (fun (f : Field) => Functor.map (Prod.mk f.offset) (sizeOf f.type)) fs : Sem (Array (Nat × Nat))).run P w = .ok pl.toArray w
/-- What 'build' makes of the parts. -/
def fillD (pl : List (Nat × Nat)) (cs : List D) : List (Nat × D) → Option (List D)
  | [] => some cs
  | (i, d) :: r => match pl[i]? with
    | some (off, sz) => if d.cs.length = sz ∧ off + sz ≤ cs.length ∧ flat d.cs = true then fillD pl (putCs off d.cs cs) r else none
    | none => none
end ops
end Go.V
