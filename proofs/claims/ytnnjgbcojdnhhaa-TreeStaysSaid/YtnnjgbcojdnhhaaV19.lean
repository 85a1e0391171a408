/- Bytes as a text. -/
import Derived.Test.YtnnjgbcojdnhhaaV18
import Derived.Laws.BytesString
set_option linter.unusedVariables false
set_option linter.unusedSimpArgs false
namespace Go.V
section
variable {P : Program} {L : Env} {ms : List Asrt} {dst : Option Nat} {ty : TypeId} {pos : String} {after : Array Edge} {g : Option (Nat × Bool)} {d d' : D} {x y : Operand} {t t' e : TypeId}
theorem fold_bytes : ∀ (l : List UInt8) (acc : ByteArray), (l.map (fun c => (c.toNat : Int))).foldl (fun r n => r.push (UInt8.ofNat n.toNat)) acc = acc ++ ⟨l.toArray⟩
  | [], acc => by apply ByteArray.ext; simp [ByteArray.data_append]
  | c :: l, acc => by
    simp only [List.map_cons, List.foldl_cons]
    rw [fold_bytes l]
    apply ByteArray.ext
    simp [ByteArray.data_append]
/-- Bytes to a text. -/
theorem o_bytes_str {l : List UInt8} (hs : P.underlying t = some (.slice e)) (he : P.underlying e = some (.int .u8)) (hd : P.underlying t' = some .string) (hx : Env.ev L x = some (.list 1 D.u8 l)) :
    OpP P ⟨dst, .convert t t' x, ty, pos, after, g⟩ L ms (.str l) := by
  refine .pure (by simp) fun H fr a w hok henv => ⟨_, ?_, conc_v.2 rfl⟩
  obtain ⟨q, cap, hv, h1, h2, h3⟩ := enc_list (henv.ev hx)
  have hc : (Conv.bytesToString (a.eval x)).run P w = .ok (.string ⟨l.toArray⟩) w := by
    rw [hv]
    cases q with
    | none =>
      rcases h3 with rfl | ⟨b, off, hq, _⟩
      · rfl
      · cases hq
    | some q =>
      have hl : (loadCells q l.length).run P w = .ok ((l.map (fun c => (c.toNat : Int))).map (Value.int .u8)).toArray w := by
        rcases h3 with rfl | ⟨b, off, hq, hx⟩
        · simp [loadCells, loadCellsFrom, Sem.run]
        · simp only [Option.some.injEq] at hq
          subst hq
          have := run_loadCells_list (P := P) w ⟨b, off, none⟩ ((l.map (fun c => (c.toNat : Int))).map (Value.int .u8)) (fun j v hj => by
            simp only [List.getElem?_map, Option.map_eq_some_iff] at hj
            obtain ⟨_, ⟨c, hc, rfl⟩, rfl⟩ := hj
            obtain ⟨us, e1, e2, e3⟩ := hx j c hc
            simp only [Enc] at e1
            subst e1
            rw [add_zero']
            have := hok.sub _ _ _ (e3 0 _ rfl)
            simpa using this)
          simpa using this
      rw [run_bytesToString w q l.length cap _ hl, fold_bytes]
      congr 2
  have hcv : (convert t t' (a.eval x)).run P w = .ok (.string ⟨l.toArray⟩) w := by
    rw [hv] at hc ⊢
    exact (run_convert_bytes_string w t t' e _ _ _ hs he hd).trans hc
  simp only [execOp, Sem.run_bind, hcv, Result.andThen_ok, Sem.run_pure]
end
end Go.V
