/- Texts appended to bytes; builders; functions of the library that are given. -/
import Derived.Test.YtnnjgbcojdnhhaaV17
import Derived.Lib.AppendStr
import Derived.Lib.UnsafeStr
import Derived.Lib.Builder
import Derived.Laws.Externs
import Derived.LaidEql
set_option linter.unusedVariables false
set_option linter.unusedSimpArgs false
namespace Go.V
section
variable {P : Program} {L : Env} {ms : List Asrt} {dst : Option Nat} {ty : TypeId} {pos : String} {after : Array Edge} {g : Option (Nat × Bool)} {d d' : D} {x y : Operand} {t t' : TypeId}
/-- A text's bytes, appended to a row of bytes of one's own. -/
theorem o_append_str {a : Option Addr} {cap n : Nat} {e u' : TypeId} {xs zs : List UInt8} {i : TypeInfo} (k : Nat) (ht : P.underlying t = some (.slice e)) (hu : P.underlying u' = some .string) (hi : P.info? e = some i) (hz : i.zero = some (.int .u8 0)) (hsz : i.size = 1) (hby : i.bytes = 1)
    (hx : Env.ev L x = some (.v (.slice a n cap))) (hk : ms[k]? = some (row a cap e 1 D.u8 xs)) (hn : xs.length = n) (hy : Env.ev L y = some (.str zs))
    (hb : xs.length + zs.length ≤ 140737488355328) (h63 : xs.length + zs.length ≤ maxLen) :
    OpT P ⟨dst, .call ⟨.builtin .append, #[x, y], #[t, u']⟩, ty, pos, after, g⟩ L ms (fun d' ms' => ∃ a' cap', d' = .v (.slice a' (xs ++ zs).length cap') ∧ ms' = ms.set k (row a' cap' e 1 D.u8 (xs ++ zs))) := by
  subst hn
  refine .val (by simp) fun H fr act w hok henv => ?_
  have hok1 := hok.perm (perm_fr hk)
  obtain ⟨r1, r2, r3⟩ := hok1.ok _ (List.mem_cons_self ..)
  have hyv := ev_v henv hy
  have hrun : ∀ {v : Value} {w' : World}, (Builtin.append_ #[t, u'] ty #[.slice a xs.length cap, .string ⟨zs.toArray⟩]).run P w = .ok v w' →
      (execOp act.eval ⟨dst, .call ⟨.builtin .append, #[x, y], #[t, u']⟩, ty, pos, after, g⟩).run P w = .ok (.value v) w' := by
    intro v w' h
    simp [execOp, resolve, invoke, builtin, ev_v henv hx, hyv, Sem.run, h]
  have h63' : xs.length + zs.length ≤ 9223372036854775807 := by simpa [maxLen] using h63
  by_cases hz0 : zs = []
  · -- nothing comes
    subst hz0
    have hr : (Builtin.append_ #[t, u'] ty #[.slice a xs.length cap, .string ⟨([] : List UInt8).toArray⟩]).run P w = .ok (.slice a xs.length cap) w := by
      have hf := Lib.run_firstCells_string (P := P) w 1 ⟨([] : List UInt8).toArray⟩
      have hs0 : (ByteArray.mk ([] : List UInt8).toArray).size = 0 := rfl
      have hc0 : Lib.strCells ⟨([] : List UInt8).toArray⟩ = [] := rfl
      rw [hs0, hc0] at hf
      cases a with
      | none => simp [Builtin.append_, run_underlying ht, run_underlying hu, sizeOf, typeInfo, hi, hsz, Builtin.lenOf, r1, Sem.run, hs0]; simp [hf, Sem.run, Builtin.firstCells]
      | some q => simp [Builtin.append_, run_underlying ht, run_underlying hu, sizeOf, typeInfo, hi, hsz, Builtin.lenOf, r1, Sem.run, hs0, Builtin.firstCells, storeCells]
    refine ⟨.slice a xs.length cap, .v (.slice a (xs ++ ([] : List UInt8)).length cap), ms.set k (row a cap e 1 D.u8 (xs ++ ([] : List UInt8))), w, H, hrun hr, ⟨a, cap, rfl, rfl⟩, PH.le_refl H, ?_, conc_v.2 (by simp), SameOut.refl w⟩
    simp only [List.append_nil]
    have : ms.set k (row a cap e 1 D.u8 xs) = ms := by
      apply List.ext_getElem?
      intro j
      by_cases hj : k = j
      · subst hj
        have hlt := (List.getElem?_eq_some_iff.1 hk).1
        rw [List.getElem?_set_self hlt, hk]
      · rw [List.getElem?_set_ne hj]
    rw [this]
    exact hok
  · · have hss : (ByteArray.mk zs.toArray).size = zs.length := rfl
      obtain ⟨us, hus⟩ : ∃ us, us = Lib.strCells ⟨zs.toArray⟩ := ⟨_, rfl⟩
      have husl : us.length = zs.length := by rw [hus]; simp [Lib.strCells]
      have ue : ListEnc H D.u8 1 zs us := by
        refine ⟨by rw [husl]; omega, fun i x hx => ⟨[.int .u8 x.toNat], by simp [Enc], rfl, fun k u hk => ?_⟩⟩
        have hk0 : k = 0 := by have := (List.getElem?_eq_some_iff.1 hk).1; simpa using this
        subst hk0
        simp at hk; subst hk
        rw [hus]; simp [Lib.strCells, hx]
      have hpos : 0 < zs.length := List.length_pos_iff.2 hz0
      -- behind a new block
      have grown : ∀ (old : Nat) (olds : List Value), ListEnc H D.u8 1 xs olds → (Builtin.append_ #[t, u'] ty #[.slice a xs.length cap, .string ⟨zs.toArray⟩]).run P w =
          .ok (.slice (some ⟨w.heap.size, 0, none⟩) (xs.length + zs.length) (grownCap w (xs.length + zs.length) old e)) (w.drew.alloc (.cells (olds.toArray ++ us.toArray ++ Builtin.zeroCells (Value.int .u8 0).cells (grownCap w (xs.length + zs.length) old e - (xs.length + zs.length))) e)) →
          ∃ v d ms' w' H', (execOp act.eval ⟨dst, .call ⟨.builtin .append, #[x, y], #[t, u']⟩, ty, pos, after, g⟩).run P w = .ok (.value v) w' ∧ (∃ a' cap', d = .v (.slice a' (xs ++ zs).length cap') ∧ ms' = ms.set k (row a' cap' e 1 D.u8 (xs ++ zs))) ∧
            PH.le H H' ∧ HeapOk H' (ms' ++ fr) w' ∧ Conc H' d v ∧ SameOut w w' := by
        intro old olds ole hr
        have hge := grownCap_ge w (xs.length + zs.length) old e
        have hcm : grownCap w (xs.length + zs.length) old e ≤ maxLen := grownCap_le_maxLen w (xs.length + zs.length) old e h63
        have hsplit : (olds.toArray ++ us.toArray ++ Builtin.zeroCells (Value.int .u8 0).cells (grownCap w (xs.length + zs.length) old e - (xs.length + zs.length))) = ((olds ++ us) ++ (Builtin.zeroCells (Value.int .u8 0).cells (grownCap w (xs.length + zs.length) old e - (xs.length + zs.length))).toList).toArray := by
          apply Array.ext'; simp
        rw [hsplit] at hr
        have hd : HeapOk H (ms.eraseIdx k ++ fr) w.drew := (hok1.tail).drew _
        have hlen : (olds ++ us).length = (xs ++ zs).length * 1 := by rw [List.length_append, ole.1, ue.1, List.length_append, Nat.add_mul]
        have hpart := hd.part (cells := (olds ++ us) ++ (Builtin.zeroCells (Value.int .u8 0).cells (grownCap w (xs.length + zs.length) old e - (xs.length + zs.length))).toList) (us := olds ++ us) (T := e)
          (A := row (some ⟨w.heap.size, 0, none⟩) (grownCap w (xs.length + zs.length) old e) e 1 D.u8 (xs ++ zs)) (fun j u hj => by
            rw [List.getElem?_append_left (List.getElem?_eq_some_iff.1 hj).1]; exact hj) rfl ?_
        · refine ⟨_, _, _, _, _, hrun hr, ⟨_, _, rfl, rfl⟩, hpart.2, hpart.1.perm (perm_fr' hk), conc_v.2 (by simp), ?_⟩
          exact ⟨rfl, rfl, rfl, by have := size_alloc' w.drew (.cells ((olds ++ us) ++ (Builtin.zeroCells (Value.int .u8 0).cells (grownCap w (xs.length + zs.length) old e - (xs.length + zs.length))).toList).toArray e); rw [this]; show w.heap.size ≤ w.heap.size + 1; omega⟩
        · have hle : PH.le H (H.add w.drew.heap.size (olds ++ us)) := by
            intro b o v hv
            simp only [PH.add]
            by_cases hb : b = w.drew.heap.size
            · subst hb; rw [hd.none_new _ _ (Nat.le_refl _)] at hv; cases hv
            · rw [if_neg hb]; exact hv
          refine ⟨by simpa using hge, hcm, .inr ⟨w.heap.size, _, olds ++ us, rfl, heap_alloc_new w.drew _, ?_, (ole.append ue).mono hle, ?_, ?_, ?_⟩⟩
          · have hzl : (Builtin.zeroCells (Value.int .u8 0).cells (grownCap w (xs.length + zs.length) old e - (xs.length + zs.length))).toList.length = (grownCap w (xs.length + zs.length) old e - (xs.length + zs.length)) * (Value.int .u8 0).cells.size := by rw [Array.length_toList, size_zeroCells]
            rw [List.length_append, hlen, hzl, show (Value.int .u8 0).cells.size = 1 from rfl, ← Nat.add_mul]
            congr 1
            simp only [List.length_append]
            omega
          · rw [← hlen]; exact List.take_left
          · intro j u hj
            show (H.add w.heap.size (olds ++ us)) w.heap.size j = some u
            simp [PH.add, hj]
          · intro o ho
            show (H.add w.heap.size (olds ++ us)) w.heap.size o = none
            simp only [PH.add, if_pos]
            rw [List.getElem?_eq_none (by omega)]
      rcases r3 with ⟨ha, hxs, hcap⟩ | ⟨b, vs, os, ha, hbk, hvl, ole, htake, hH, hnone⟩
      · subst ha hxs hcap
        have hr := run_append_nil_string (P := P) w t u' ty e i (.int .u8 0) ht hu hi hz ⟨zs.toArray⟩ (by rw [hss]; omega) (by rw [hss]; simp at h63'; omega) (by rw [hss, hby]; simp at hb; omega)
        have e1 : ((ByteArray.mk zs.toArray).data.map fun b => Value.int .u8 b.toNat) = us.toArray := by
          rw [hus]; apply Array.ext'; simp [Lib.strCells]
        rw [e1, hss] at hr
        refine grown 0 [] ⟨by simp, fun i x hx => by simp at hx⟩ ?_
        simpa using hr
      · subst ha
        by_cases hroom : xs.length + zs.length ≤ cap
        · -- there is room
          have hfit : xs.length * 1 + us.length ≤ vs.toArray.size := by
            simp only [List.size_toArray, hvl, ue.1, ← Nat.add_mul]; exact Nat.mul_le_mul_right _ hroom
          have hr := Lib.run_append_room_string (P := P) w t u' ty e i ht hu hi hsz b xs.length cap vs.toArray hbk ⟨zs.toArray⟩ hroom (by rw [hss]; simpa [husl] using hfit)
          rw [← hus, hss, ← husl] at hr
          let H' : PH := fun b' o => if b' = b then (os ++ us)[o]? else H b' o
          have hosl : os.length = xs.length * 1 := ole.1
          have hle : PH.le H H' := by
            intro b' o v hv
            show (if b' = b then (os ++ us)[o]? else H b' o) = some v
            by_cases hb' : b' = b
            · subst hb'
              rw [if_pos rfl]
              by_cases ho : o < xs.length * 1
              · have : os[o]? = some os[o] := by simp [hosl, ho]
                have h2 := hH o _ this
                rw [hv] at h2
                rw [List.getElem?_append_left (by omega), this]
                exact h2.symm
              · rw [hnone o (by omega)] at hv; cases hv
            · rw [if_neg hb']; exact hv
          have hlt : b < w.heap.size := hok1.lt _ (by simp : row (some ⟨b, 0, none⟩) cap e 1 D.u8 xs ∈ _) b (by simp [row])
          have hnew : (vs.toArray.toList.take (xs.length * 1) ++ us ++ vs.toArray.toList.drop (xs.length * 1 + us.length)) = (os ++ us) ++ vs.drop (xs.length * 1 + us.length) := by
            simp only [htake]
          rw [show vs.toArray.toList.take xs.length ++ us ++ vs.toArray.toList.drop (xs.length + us.length) = (os ++ us) ++ vs.drop (xs.length * 1 + us.length) by simpa using hnew] at hr
          have hupd : HeapOk H' (row (some ⟨b, 0, none⟩) cap e 1 D.u8 (xs ++ zs) :: (ms.eraseIdx k ++ fr)) (w.setRow b ((os ++ us) ++ vs.drop (xs.length * 1 + us.length)).toArray) := by
            have hbnew : (w.setRow b ((os ++ us) ++ vs.drop (xs.length * 1 + us.length)).toArray).heap[b]? = some (.cells ((os ++ us) ++ vs.drop (xs.length * 1 + us.length)).toArray e (0, 0)) := by
              simp [World.setRow, Array.getElem?_modify, hbk]
            refine hok1.upd rfl (by simp [World.setRow]) ?_ ?_ hle ?_ ?_
            · intro b' _ hn
              have : b ≠ b' := fun e => hn (by simp [row, e])
              simp [World.setRow, Array.getElem?_modify, this]
            · intro b' o _ hn
              have : b' ≠ b := fun e => hn (by simp [row, e])
              show (if b' = b then (os ++ us)[o]? else H b' o) = H b' o
              rw [if_neg this]
            · intro b' o v hb' hv
              have hv : (if b' = b then (os ++ us)[o]? else H b' o) = some v := hv
              by_cases hbb : b' = b
              · subst hbb
                rw [if_pos rfl] at hv
                simp only [World.cell?, hbnew]
                rw [show (Option.isSome (none : Option Nat)) = false from rfl]
                simp only [Bool.false_eq_true, if_false]
                rw [List.getElem?_toArray, List.getElem?_append_left (List.getElem?_eq_some_iff.1 hv).1]
                exact hv
              · rw [if_neg hbb] at hv
                rcases hb' with hb' | hb'
                · simp [row] at hb'; exact absurd hb' hbb
                · rw [hok.none_new _ _ hb'] at hv; cases hv
            · refine ⟨by simpa using hroom, r2, .inr ⟨b, _, os ++ us, rfl, hbnew, ?_, (ole.append ue).mono hle, ?_, ?_, ?_⟩⟩
              · simp only [List.length_append, List.length_drop, hosl, hvl, ue.1]
                have : (xs.length + zs.length) * 1 ≤ cap * 1 := Nat.mul_le_mul_right _ hroom
                rw [Nat.add_mul] at this
                omega
              · have : (os ++ us).length = (xs ++ zs).length * 1 := by rw [List.length_append, hosl, ue.1, List.length_append, Nat.add_mul]
                rw [← this]; exact List.take_left
              · intro j u hj
                show (if b = b then (os ++ us)[j]? else H b j) = some u
                rw [if_pos rfl]; exact hj
              · intro o ho
                show (if b = b then (os ++ us)[o]? else H b o) = none
                rw [if_pos rfl, List.getElem?_eq_none]
                rw [List.length_append, hosl, ue.1]
                rw [List.length_append, Nat.add_mul] at ho
                exact ho

          refine ⟨_, _, _, _, H', hrun hr, ⟨_, _, rfl, rfl⟩, hle, hupd.perm (perm_fr' hk), conc_v.2 (by simp [husl]), ⟨rfl, rfl, rfl, by simp [World.setRow]⟩⟩
        · have holds : ∀ j v, os[j]? = some v → w.cell? ((⟨b, 0, none⟩ : Addr).add j) = some v := fun j v hj => by
            rw [add_zero', Nat.zero_add]; exact hok.sub _ _ _ (hH j v hj)
          have hr := Lib.run_append_grow_string (P := P) w t u' ty e i (.int .u8 0) ht hu hi hz ⟨b, 0, none⟩ xs.length cap os (by rw [hsz]; exact ole.1) holds ⟨zs.toArray⟩ (by rw [hss]; omega) (by rw [hss]; omega) (by rw [hss, hby]; exact growslice_fits (by omega) (by omega))
          rw [← hus, hss] at hr
          exact grown cap os ole hr
/-- A call of a named function, with all that is owned. -/
theorem o_calla {f : FuncId} {args : List Operand} {ats : Array TypeId} {ds : List D} {R : D → List Asrt → Prop} (hc : ∀ args w, (callFunc f args).run P w = .ok (.enter f args) w) (hev : evL L args = some ds)
    (hf : Fn P f ds ms R) : OpT P ⟨dst, .call ⟨.value (.func f), args.toArray, ats⟩, ty, pos, after, g⟩ L ms R := by
  have := o_call (P := P) (L := L) (ms := ms) (dst := dst) (ty := ty) (pos := pos) (after := after) (g := g) (ats := ats) (ms₁ := ms) (rest := []) hc hev (by simp) hf
  intro ro H fr a w hok henv next Q hn
  refine this ro H fr a w hok henv next Q ?_
  rintro v d' ms' w' H' ⟨ms₁', hR, rfl⟩ hle hok' hc' hs
  exact hn v d' _ w' H' (by rw [List.append_nil]; exact hR) hle hok' hc' hs
theorem nilP_opt (p : Option Addr) : NilP (.v (.pointer p)) p.isNone := by
  cases p with
  | none => exact nilP_nil
  | some a => exact nilP_ptr
/-! ### Pointers as unsafe ones -/
theorem box_shape {H : PH} {as : List Asrt} {w : World} {b : Nat} {T : TypeId} {cs : List D} {k : Nat} (hok : HeapOk H as w) (hk : as[k]? = some (box b T cs)) (hf : flat cs = true) : w.shape? b = some (T, cs.length) := by
  obtain ⟨vs, h1, h2, _⟩ := box_cells hok hk
  obtain ⟨h3, _⟩ := EncL.get cs vs h2 hf
  simp [World.shape?, h1, h3]
theorem o_to_unsafe {e : TypeId} {j : TypeInfo} {b off : Nat} {T : TypeId} {cs : List D} (k : Nat) (hs : P.underlying t = some (.pointer e)) (hd : P.underlying t' = some .unsafePointer) (he : P.info? e = some j) (hj : j.size ≠ 0)
    (hx : Env.ev L x = some (.v (.pointer (some ⟨b, off, none⟩)))) (hk : ms[k]? = some (box b T cs)) (hf : flat cs = true) (hoff : Nat.blt off cs.length = true) : OpP P ⟨dst, .convert t t' x, ty, pos, after, g⟩ L ms (.v (.pointer (some ⟨b, off, none⟩))) := by
  refine .pure (by simp) fun H fr a w hok henv => ⟨_, ?_, conc_v.2 rfl⟩
  have hsh := box_shape hok (getElem?_app hk) hf
  have := Lib.run_to_unsafe (P := P) (w := w) ⟨b, off, none⟩ hs hd he hj hsh (Nat.le_of_ble_eq_true hoff)
  simp only [execOp, ev_v henv hx, Sem.run_bind, this, Result.andThen_ok, Sem.run_pure]
theorem o_from_unsafe {u : TypeId} {j : TypeInfo} {b off n : Nat} {T : TypeId} {cs : List D} (k : Nat) (hs : P.underlying t = some .unsafePointer) (hd : P.underlying t' = some (.pointer u)) (hu : P.info? u = some j)
    (hx : Env.ev L x = some (.v (.pointer (some ⟨b, off, none⟩)))) (hk : ms[k]? = some (box b T cs)) (hf : flat cs = true) (hn : cs.length = n) (hlies : liesAt P P.depth T (n / P.cellsOf T) off u 1 = true) : OpP P ⟨dst, .convert t t' x, ty, pos, after, g⟩ L ms (.v (.pointer (some ⟨b, off, none⟩))) := by
  subst hn
  refine .pure (by simp) fun H fr a w hok henv => ⟨_, ?_, conc_v.2 rfl⟩
  have hsh := box_shape hok (getElem?_app hk) hf
  have := Lib.run_from_unsafe (P := P) (w := w) ⟨b, off, none⟩ hs hd hu hsh hlies
  simp only [execOp, ev_v henv hx, Sem.run_bind, this, Result.andThen_ok, Sem.run_pure]
/-- A function of the library that the model carries out itself. -/
theorem o_extern {f : FuncId} {e : Array Value → Sem Value} {args : List Operand} {ats : Array TypeId} {ds : List D} (hc : ∀ args w, (callFunc f args).run P w = ((e args).run P w).andThen fun v w' => .ok (.value v) w') (hev : evL L args = some ds)
    (h : ∀ H w vs, ConcL H ds vs → ∃ v, (e vs.toArray).run P w = .ok v w ∧ Conc H d v) : OpP P ⟨dst, .call ⟨.value (.func f), args.toArray, ats⟩, ty, pos, after, g⟩ L ms d := by
  refine .pure (by simp) fun H fr a w hok henv => ?_
  obtain ⟨v, h1, h2⟩ := h H w _ (evL_conc henv args ds hev)
  refine ⟨v, ?_, h2⟩
  simp [execOp, resolve, Act.eval, Deferred.ofValue, invoke, Sem.run, hc, Sem.run_bind]
  rw [h1]; rfl
/-- An address, compared with itself. -/
theorem eq_same {e : TypeId} {a : Addr} {sz : Nat} {w : World} (hu : ∀ w, (underlying t).run P w = .ok (.pointer e) w) (hs : ∀ w, (sizeOf e).run P w = .ok sz w) (hsz : sz ≠ 0) : (Op.equal t (.pointer (some a)) (.pointer (some a))).run P w = .ok true w := by
  unfold Op.equal Op.maxDepth
  rw [show (10000 : Nat) = 9999 + 1 from rfl, Op.equalIn]
  simp only [Sem.run_bind, hu, Result.andThen_ok, hs, hsz, ne_eq, not_false_eq_true, if_true, run_sameAddr_same]
theorem o_neqsame {e : TypeId} {a : Addr} {sz : Nat} (hu : ∀ w, (underlying t).run P w = .ok (.pointer e) w) (hs : ∀ w, (sizeOf e).run P w = .ok sz w) (hsz : sz ≠ 0) (hx : Env.ev L x = some (.v (.pointer (some a)))) (hy : Env.ev L y = some (.v (.pointer (some a)))) :
    OpP P ⟨dst, .binOp .neq t x y t', ty, pos, after, g⟩ L ms (.v (.bool false)) :=
  .pure (by simp) fun H fr act w _ henv => ⟨.bool false, by simp [execOp, ev_v henv hx, ev_v henv hy, eqGuard, binOp, Sem.run_bind, eq_same hu hs hsz, Sem.run_pure], conc_v.2 rfl⟩
/-! ### A text over bytes that are one's own -/
theorem o_usd {a : Option Addr} {n cap : Nat} {T sz : Nat} {α : Type} {f : α → D} {xs : List α} {ts : Array TypeId} (k : Nat) (hx : Env.ev L x = some (.v (.slice a n cap))) (hk : ms[k]? = some (row a cap T sz f xs)) (h : xs = [] → a = none) :
    OpP P ⟨dst, .call ⟨.builtin .unsafeSliceData, #[x], ts⟩, ty, pos, after, g⟩ L ms (.v (.pointer a)) := by
  refine .pure (by simp) fun H fr act w hok henv => ⟨.pointer a, ?_, conc_v.2 rfl⟩
  obtain ⟨r1, r2, r3⟩ := hok.ok _ (List.mem_of_getElem? (getElem?_app (r := fr) hk))
  have key : (Builtin.unsafeSliceData_ ts ty #[.slice a n cap]).run P w = .ok (.pointer a) w := by
    cases a with
    | none => exact Lib.run_unsafeSliceData_nil _ _ _ _ _
    | some q =>
      refine Lib.run_unsafeSliceData_row _ _ _ _ _ _ ?_
      intro h0
      have : xs = [] := List.length_eq_zero_iff.1 (by omega)
      exact absurd (h this) (by simp)
  simp [execOp, resolve, invoke, builtin, ev_v henv hx, Sem.run_bind, Sem.run_pure, key]
theorem HeapOk.freeze {H : PH} {as : List Asrt} {A : Asrt} {w : World} {b n : Nat} (h : HeapOk H (A :: as) w) (hb : b ∈ A.blocks) : HeapOk H as (w.freeze ⟨b, 0, none⟩ n) ∧ SameOut w (w.freeze ⟨b, 0, none⟩ n) := by
  unfold World.freeze
  split
  · exact ⟨h.tail, SameOut.refl w⟩
  · have hnd := h.nodup
    simp only [List.flatMap_cons] at hnd
    have hdisj := (List.nodup_append.1 hnd).2.2
    refine ⟨⟨fun b' o v hv => ?_, h.tail.nodup, fun B hB b' hb' => by simp only [Array.size_modify]; exact h.lt B (by simp [hB]) b' hb', fun B hB => ?_⟩, ⟨rfl, rfl, rfl, by simp⟩⟩
    · have := h.sub b' o v hv
      simp only [World.cell?] at this ⊢
      simp only [Array.getElem?_modify]
      by_cases hbb : b = b'
      · subst hbb
        simp only [if_true]
        cases hq : w.heap[b]? with
        | none => rw [hq] at this; simp at this
        | some q =>
          rw [hq] at this
          cases q <;> simp_all
      · simp only [hbb, if_false]; exact this
    · refine B.stable H H (fun b => w.heap[b]?) _ ?_ (PH.le_refl H) (h.ok B (by simp [hB]))
      intro b' hb'
      refine ⟨fun _ => rfl, ?_⟩
      have hne : b ≠ b' := fun e => hdisj b hb b' (List.mem_flatMap.2 ⟨B, hB, hb'⟩) e
      simp [Array.getElem?_modify, hne]
/-- unsafe.String over all of a row of bytes; the row is one's own no longer. -/
theorem o_unsafeString {a : Option Addr} {cap : Nat} {pt it e : TypeId} {xs : List UInt8} (k : Nat) (hp : P.underlying pt = some (.pointer e)) (hc : P.cellsOf e = 1) (hx : Env.ev L x = some (.v (.pointer a))) (hy : Env.ev L y = some (.v (.int .i64 xs.length)))
    (hk : ms[k]? = some (row a cap e 1 D.u8 xs)) (h : xs = [] → a = none) :
    OpT P ⟨dst, .call ⟨.builtin .unsafeString, #[x, y], #[pt, it]⟩, ty, pos, after, g⟩ L ms (fun d' ms' => d' = .str xs ∧ ms' = ms.eraseIdx k) := by
  refine .val (by simp) fun H fr act w hok henv => ?_
  have hok1 := hok.perm (perm_fr hk)
  obtain ⟨r1, r2, r3⟩ := hok1.ok _ (List.mem_cons_self ..)
  have hrun : ∀ {v : Value} {w' : World}, (Builtin.unsafeString_ #[pt, it] ty #[.pointer a, .int .i64 xs.length]).run P w = .ok v w' →
      (execOp act.eval ⟨dst, .call ⟨.builtin .unsafeString, #[x, y], #[pt, it]⟩, ty, pos, after, g⟩).run P w = .ok (.value v) w' := by
    intro v w' h
    simp [execOp, resolve, invoke, builtin, ev_v henv hx, ev_v henv hy, Sem.run_bind, Sem.run_pure, h]
  rcases r3 with ⟨ha, hxs, hcap⟩ | ⟨b, vs, us, ha, hbk, hvl, ule, htake, hH, hnone⟩
  · subst ha hxs
    exact ⟨_, _, _, w, H, hrun (Lib.run_unsafeString_none _ _ _ _ _), ⟨rfl, rfl⟩, PH.le_refl H, hok1.tail, conc_v.2 rfl, SameOut.refl w⟩
  · subst ha
    have h0 : xs ≠ [] := fun e => by have := h e; simp at this
    have hsh : w.shape? b = some (e, cap) := by simp [World.shape?, hbk, hvl]
    have hr := Lib.run_unsafeString_row (P := P) w pt it ty e hp hc b cap hsh xs h0 r1 (by simp [maxLen] at r2; omega) (fun j x hx => by
      rw [add_zero', Nat.zero_add]
      refine hok.sub _ _ _ (hH j _ ?_)
      obtain ⟨ws, e1, e2, e3⟩ := ule.2 j x hx
      simp only [Enc] at e1
      subst e1
      have := e3 0 (.int .u8 x.toNat) rfl
      simpa using this)
    obtain ⟨f1, f2⟩ := hok1.freeze (b := b) (n := xs.length) (by simp [row])
    exact ⟨_, _, _, _, H, hrun hr, ⟨rfl, rfl⟩, PH.le_refl H, f1, conc_v.2 rfl, f2⟩
end
end Go.V
