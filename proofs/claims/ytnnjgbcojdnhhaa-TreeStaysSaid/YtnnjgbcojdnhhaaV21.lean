/- Operations along models. -/
import Derived.Test.YtnnjgbcojdnhhaaV20
set_option linter.unusedVariables false
set_option linter.unusedSimpArgs false
namespace Go.V
theorem app_len {n k : Nat} (h : n * k ≤ 140737488355328) (hk : Nat.ble 1 k = true) : n ≤ maxLen := by
  have h1 := Nat.le_of_ble_eq_true hk
  have h2 : n * 1 ≤ n * k := Nat.mul_le_mul_left n h1
  simp only [maxLen]; omega
section
variable {P : Program} {L : Env} {ms : List Asrt} {dst : Option Nat} {ty : TypeId} {pos : String} {after : Array Edge} {g : Option (Nat × Bool)} {d d' : D} {x y : Operand} {t t' : TypeId}
theorem o_index_m {k : IntKind} {m : List UInt8} {n : Int} {c : UInt8} (hu : ∀ w, (underlying t).run P w = .ok .string w) (hx : Env.ev L x = some (.str m)) (hy : Env.ev L y = some (.v (.int k n)))
    (h : idx m n = some c) : OpP P ⟨dst, .index t x y, ty, pos, after, g⟩ L ms (.u8 c) := o_index hu hx hy (idx_some h).1 (idx_some h).2
theorem o_indexAddr_m {α : Type} {sz : Nat} {f : α → D} {l : List α} {e : TypeId} {k : IntKind} {n : Int} {z : α} (hu : ∀ w, (underlying t).run P w = .ok (.slice e) w) (hs : ∀ w, (sizeOf e).run P w = .ok sz w) (hx : Env.ev L x = some (.list sz f l))
    (hy : Env.ev L y = some (.v (.int k n))) (h : idx l n = some z) : OpP P ⟨dst, .indexAddr t x y, ty, pos, after, g⟩ L ms (.ref (f z)) := o_indexAddr hu hs hx hy (idx_some h).1 (idx_some h).2
def evZ (L : Env) (o : Option Operand) (dflt z : Int) : Prop := match o with
  | none => z = dflt
  | some x => ∃ k, Env.ev L x = some (.v (.int k z))
theorem evZ_N {o : Option Operand} {dflt : Nat} {z : Int} (h : evZ L o dflt z) (h0 : 0 ≤ z) : evN L o dflt z.toNat := by
  cases o with
  | none => simp only [evZ] at h; subst h; simp [evN]
  | some x => obtain ⟨k, hk⟩ := h; exact evN_some hk h0
theorem o_slice_str_m {m r : List UInt8} {lo hi : Option Operand} {l h : Int} (hu : ∀ w, (underlying t).run P w = .ok .string w) (hx : Env.ev L x = some (.str m)) (hl : evZ L lo (0 : Nat) l) (hh : evZ L hi (m.length : Nat) h) (hs : sli m l h = some r) :
    OpP P ⟨dst, .slice t x lo hi none, ty, pos, after, g⟩ L ms (.str r) := by
  obtain ⟨h1, h2, h3, rfl⟩ := sli_some hs
  exact o_slice_str hu hx (evZ_N hl h1) (evZ_N hh (by omega)) (by omega) (by omega)
theorem o_slice_m {α : Type} {sz : Nat} {f : α → D} {m r : List α} {lo hi : Option Operand} {l h : Int} {e : TypeId} (hu : ∀ w, (underlying t).run P w = .ok (.slice e) w) (hz : ∀ w, (sizeOf e).run P w = .ok sz w) (hx : Env.ev L x = some (.list sz f m))
    (hl : evZ L lo (0 : Nat) l) (hh : evZ L hi (m.length : Nat) h) (hs : sli m l h = some r) : OpP P ⟨dst, .slice t x lo hi none, ty, pos, after, g⟩ L ms (.list sz f r) := by
  obtain ⟨h1, h2, h3, rfl⟩ := sli_some hs
  exact o_slice hu hz hx (evZ_N hl h1) (evZ_N hh (by omega)) (by omega) (by omega)
theorem o_rem_u8 (a b : UInt8) (hx : Env.ev L x = some (.u8 a)) (hy : Env.ev L y = some (.u8 b)) (hn : (b.toNat : Int) ≠ 0) : OpP P ⟨dst, .binOp .rem t x y t', ty, pos, after, g⟩ L ms (.u8 (a % b)) := by
  have := o_rem (P := P) (ms := ms) (dst := dst) (t := t) (t' := t') (ty := ty) (pos := pos) (after := after) (g := g) hx hy hn
  have e : ((a % b).toNat : Int) = (a.toNat : Int).tmod b.toNat := by rw [UInt8.toNat_mod]; rfl
  rw [D.u8, e]
  exact this
theorem o_call0e {f : FuncId} {args : List Operand} {ats : Array TypeId} {ds ds' : List D} (hc : ∀ args w, (callFunc f args).run P w = .ok (.enter f args) w) (hev : evL L args = some ds') (hf : Fn0 P f ds d) (he : EntL ds' ds) :
    OpP P ⟨dst, .call ⟨.value (.func f), args.toArray, ats⟩, ty, pos, after, g⟩ L ms d := o_call0 hc hev (Fn.ent hf he)
end
end Go.V
