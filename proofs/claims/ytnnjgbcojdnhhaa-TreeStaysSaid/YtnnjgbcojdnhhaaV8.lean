/- Regions that draw their order: whatever the order, the frame ends as in the text's own. -/
import Derived.Test.YtnnjgbcojdnhhaaV7
import Derived.OrdersIn
set_option linter.unusedVariables false
set_option linter.unusedSimpArgs false
namespace Go.V
def ext (o : Oper) (d : D) (L : Env) : Env := match o.dst with
  | some t => (t, d) :: L
  | none => L
def envL (S : Nat → Bool) : List Oper → List D → Nat → Env → Env
  | o :: r, d :: ds, k, L => envL S r ds (k + 1) (if S k then ext o d L else L)
  | _, _, _, L => L
theorem find_ext_ne {o : Oper} {d : D} {L : Env} {t : Nat} (h : o.dst ≠ some t) : Env.find (ext o d L) t = Env.find L t := by
  unfold ext
  cases hd : o.dst with
  | none => rfl
  | some i =>
    have hne : i ≠ t := fun e => h (by rw [hd, e])
    simp only [Env.find]
    have : Nat.beq i t = false := by
      cases hb : Nat.beq i t with
      | true => exact absurd (Nat.eq_of_beq_eq_true hb) hne
      | false => rfl
    rw [this]
theorem find_ext_eq {o : Oper} {d : D} {L : Env} {t : Nat} (h : o.dst = some t) : Env.find (ext o d L) t = some d := by
  unfold ext
  rw [h]
  simp only [Env.find]
  have : Nat.beq t t = true := by simp
  rw [this]
theorem find_congr {S S' : Nat → Bool} {t : Nat} : ∀ (l : List Oper) (ds : List D) (k : Nat) (L L' : Env), (∀ j o, l[j]? = some o → o.dst = some t → S (k + j) = S' (k + j)) → Env.find L t = Env.find L' t →
    Env.find (envL S l ds k L) t = Env.find (envL S' l ds k L') t
  | [], ds, k, L, L', _, h => by simpa [envL] using h
  | o :: r, [], k, L, L', _, h => by simpa [envL] using h
  | o :: r, d :: ds, k, L, L', hs, h => by
    simp only [envL]
    refine find_congr r ds (k + 1) _ _ (fun j o' hj hd => by have := hs (j + 1) o' (by simpa using hj) hd; rwa [show k + 1 + j = k + (j + 1) by omega]) ?_
    by_cases hd : o.dst = some t
    · have := hs 0 o (by simp) hd
      rw [Nat.add_zero] at this
      rw [this]
      split
      · rw [find_ext_eq hd, find_ext_eq hd]
      · exact h
    · split <;> split <;> simp [find_ext_ne hd, h]
theorem find_at {S : Nat → Bool} {t : Nat} {d : D} : ∀ (l : List Oper) (ds : List D) (k i : Nat) (L : Env) (o : Oper), l[i]? = some o → ds[i]? = some d → o.dst = some t → S (k + i) = true →
    (∀ j o', i < j → l[j]? = some o' → o'.dst = some t → S (k + j) = false) → Env.find (envL S l ds k L) t = some d
  | [], ds, k, i, L, o, h, _, _, _, _ => by simp at h
  | o :: r, [], k, i, L, o', _, h, _, _, _ => by simp at h
  | o :: r, e :: ds, k, 0, L, o', h1, h2, h3, h4, h5 => by
    simp at h1 h2
    subst h1 h2
    simp only [envL]
    rw [Nat.add_zero] at h4
    rw [h4, if_pos rfl]
    have hc : Env.find (envL S r ds (k + 1) (ext o e L)) t = Env.find (envL (fun _ => false) r ds (k + 1) (ext o e L)) t :=
      find_congr r ds (k + 1) _ _ (fun j o'' hj hd => by have := h5 (j + 1) o'' (by omega) (by simpa using hj) hd; rwa [show k + 1 + j = k + (j + 1) by omega]) rfl
    rw [hc]
    have none_all : ∀ (r : List Oper) (ds : List D) (k : Nat) (L : Env), envL (fun _ => false) r ds k L = L := by
      intro r
      induction r with
      | nil => intro ds k L; rfl
      | cons x r ih => intro ds k L; cases ds with
        | nil => rfl
        | cons y ds => simp [envL, ih]
    rw [none_all]
    exact find_ext_eq h3
  | o :: r, e :: ds, k, i + 1, L, o', h1, h2, h3, h4, h5 => by
    simp only [envL]
    exact find_at r ds (k + 1) i _ o' (by simpa using h1) (by simpa using h2) h3 (by rw [show k + 1 + i = k + (i + 1) by omega]; exact h4)
      (fun j o'' hj hl hd => by have := h5 (j + 1) o'' (by omega) (by simpa using hl) hd; rwa [show k + 1 + j = k + (j + 1) by omega])

/-! ### The order -/
def maskOf (acc : List Nat) (o : Oper) : Nat := o.after.toList.foldl (fun s e => if Region.binds .any e then s ||| 2 ^ e.on ||| acc.getD e.on 0 else s) 0
def masks : List Oper → List Nat → List Nat
  | [], acc => acc
  | o :: r, acc => masks r (acc ++ [maskOf acc o])
def slotsOf (ops : List Oper) (o : Oper) : List Nat :=
  (o.op.operands.toList.filterMap fun | .tmp t => some t | _ => none) ++ (match o.guard with
   | some (g, _) => ((ops[g]?).bind (·.dst)).toList
   | none => [])
/-- Downward closed under the edges that bind. -/
def Closed (ops : List Oper) (S : Nat → Bool) : Prop := ∀ j o, ops[j]? = some o → S j = true → ∀ e ∈ o.after, Region.binds .any e = true → S e.on = true
def MaskOk (ops : List Oper) (acc : List Nat) : Prop := ∀ (j m : Nat), acc[j]? = some m → ∀ i, m.testBit i = true → ∀ S, Closed ops S → S j = true → S i = true
theorem foldl_mask (acc : List Nat) (i : Nat) : ∀ (es : List Edge) (s : Nat), (es.foldl (fun s e => if Region.binds .any e then s ||| 2 ^ e.on ||| acc.getD e.on 0 else s) s).testBit i = true →
    s.testBit i = true ∨ ∃ e ∈ es, Region.binds .any e = true ∧ (e.on = i ∨ (acc.getD e.on 0).testBit i = true)
  | [], s, h => .inl h
  | e :: es, s, h => by
    simp only [List.foldl_cons] at h
    rcases foldl_mask acc i es _ h with h | ⟨e', h1, h2, h3⟩
    · split at h
      · rename_i hb
        simp only [Nat.testBit_or, Bool.or_eq_true] at h
        rcases h with (h | h) | h
        · exact .inl h
        · refine .inr ⟨e, by simp, hb, .inl ?_⟩
          have := Nat.testBit_two_pow (n := e.on) (m := i)
          rw [this] at h
          simpa using h
        · exact .inr ⟨e, by simp, hb, .inr h⟩
      · exact .inl h
    · exact .inr ⟨e', by simp [h1], h2, h3⟩
theorem masks_ok (all : List Oper) : ∀ (r : List Oper) (acc : List Nat), (∀ j, r[j]? = all[acc.length + j]?) → MaskOk all acc → MaskOk all (masks r acc)
  | [], acc, _, h => h
  | o :: r, acc, hr, h => by
    simp only [masks]
    refine masks_ok all r _ (fun j => by have := hr (j + 1); simpa [Nat.add_assoc, Nat.add_comm 1 j] using this) ?_
    intro j m hj i hi S hS hSj
    rw [List.getElem?_append] at hj
    split at hj
    · exact h j m hj i hi S hS hSj
    · rename_i hge
      have hj0 : j - acc.length = 0 := by
        cases hk : j - acc.length with
        | zero => rfl
        | succ n => rw [hk] at hj; simp at hj
      rw [hj0] at hj
      simp at hj
      subst hj
      have hje : j = acc.length := by omega
      have ho : all[j]? = some o := by have := hr 0; simp at this; rw [hje]; exact this.symm
      rcases foldl_mask acc i _ 0 hi with h0 | ⟨e, h1, h2, h3⟩
      · simp at h0
      · have hSe := hS j o ho hSj e (by simpa using h1) h2
        rcases h3 with h3 | h3
        · rw [← h3]; exact hSe
        · cases hacc : acc[e.on]? with
          | none => rw [List.getD_eq_getElem?_getD, hacc] at h3; simp at h3
          | some m' =>
            rw [List.getD_eq_getElem?_getD, hacc] at h3
            exact h e.on m' hacc i h3 S hS hSe
/-- The region's check: the first k operations flow; the others stand in the text's order behind all. -/
def flowB (ops : List Oper) (k : Nat) : Bool :=
  let M := masks ops []
  ops.zipIdx.all fun (o, i) =>
    (o.after.toList.all fun e => !Region.binds .any e || Nat.blt e.on i) &&
    (ops.zipIdx.all fun (o', j) => (Nat.beq i j) ||
      (match o'.dst with
       | none => true
       | some t => !((slotsOf ops o).contains t || o.dst == some t) || (if Nat.blt j i then (M.getD i 0).testBit j else (M.getD j 0).testBit i))) &&
    (Nat.blt i k || (List.range i).all fun j => (M.getD i 0).testBit j) &&
    (match o.op with | .defer _ => false | _ => true)
structure FlowOk (ops : List Oper) (k : Nat) : Prop where
  edge : ∀ i o, ops[i]? = some o → ∀ e ∈ o.after, Region.binds .any e = true → e.on < i
  names : ∀ i o j o' t, ops[i]? = some o → ops[j]? = some o' → i ≠ j → o'.dst = some t → (t ∈ slotsOf ops o ∨ o.dst = some t) → ∀ S, Closed ops S → (j < i → S i = true → S j = true) ∧ (i < j → S j = true → S i = true)
  tail : ∀ i o, ops[i]? = some o → k ≤ i → ∀ j, j < i → ∀ S, Closed ops S → S i = true → S j = true
theorem flow_ok {ops : List Oper} {k : Nat} (h : flowB ops k = true) : FlowOk ops k := by
  have hM : MaskOk ops (masks ops []) := masks_ok ops ops [] (fun j => by simp) (fun j m hj => by simp at hj)
  have use : ∀ i j S, Closed ops S → ((masks ops []).getD i 0).testBit j = true → S i = true → S j = true := by
    intro i j S hS hb hi
    cases hacc : (masks ops [])[i]? with
    | none => rw [List.getD_eq_getElem?_getD, hacc] at hb; simp at hb
    | some m => rw [List.getD_eq_getElem?_getD, hacc] at hb; exact hM i m hacc j hb S hS hi
  unfold flowB at h
  simp only [List.all_eq_true] at h
  have at_ : ∀ i o, ops[i]? = some o → (o, i) ∈ ops.zipIdx := fun i o hi => List.mem_zipIdx_iff_getElem?.2 (by simpa using hi)
  refine ⟨fun i o hi e he hb => ?_, fun i o j o' t hi hj hne hd ht S hS => ?_, fun i o hi hk j hji S hS hSi => ?_⟩
  · have := h _ (at_ i o hi)
    simp only [Bool.and_eq_true, List.all_eq_true] at this
    have := this.1.1.1 e (by simpa using he)
    simp only [hb, Bool.not_true, Bool.false_or] at this
    exact Nat.le_of_ble_eq_true this
  · have := h _ (at_ i o hi)
    simp only [Bool.and_eq_true, List.all_eq_true] at this
    have := this.1.1.2 _ (at_ j o' hj)
    have hb : Nat.beq i j = false := by
      cases hb : Nat.beq i j with
      | true => exact absurd (Nat.eq_of_beq_eq_true hb) hne
      | false => rfl
    simp only [hb, Bool.false_or, hd] at this
    have hc : ((slotsOf ops o).contains t || o.dst == some t) = true := by
      rcases ht with ht | ht
      · simp [ht]
      · simp [ht]
    rw [hc] at this
    simp only [Bool.not_true, Bool.false_or] at this
    constructor
    · intro hlt hSi
      have hbl : Nat.blt j i = true := by simp [Nat.blt_eq, hlt]
      rw [hbl, if_pos rfl] at this
      exact use i j S hS this hSi
    · intro hlt hSj
      have hbl : Nat.blt j i = false := by
        cases hx : Nat.blt j i with
        | true => have := Nat.le_of_ble_eq_true hx; omega
        | false => rfl
      rw [hbl, if_neg (by simp)] at this
      exact use j i S hS this hSj
  · have := h _ (at_ i o hi)
    simp only [Bool.and_eq_true, List.all_eq_true] at this
    have := this.1.2
    have hbl : Nat.blt i k = false := by
      cases hx : Nat.blt i k with
      | true => have := Nat.le_of_ble_eq_true hx; omega
      | false => rfl
    simp only [hbl, Bool.false_or, List.all_eq_true] at this
    exact use i j S hS (this j (by simpa using hji)) hSi
end Go.V
