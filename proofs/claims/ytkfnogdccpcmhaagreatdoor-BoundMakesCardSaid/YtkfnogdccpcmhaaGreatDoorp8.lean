/- Part 8 of the proof: a program logic, what the functions compute, and what these answer; no condition. -/
import Derived.Test.YtkfnogdccpcmhaaGreatDoorp7
set_option linter.unusedVariables false
set_option linter.unusedSimpArgs false
set_option maxRecDepth 100000
namespace Go.Proofs.YtkfnogdccpcmhaaGreatDoor
open Go.V
open Classical
def latB (k : Int) : Bool := decide (k = 9) || decide (k = 10)
def endk (L : List ANd) : Nat -> Nat -> Bool
 | 0, _ => false
 | k + 1, i => match L[i]? with
  | some n => !latB n.kind || (endk L k n.a.toNat && endk L k n.b.toNat)
  | none => false
theorem JX (L : List ANd) : ∀ (k i : Nat), endk L k i = true -> endk L (k + 1) i = true
 | 0, i, h => by simp [endk] at h
 | k + 1, i, h => by
  unfold endk at h ⊢
  cases hq : L[i]? with
  | none => rw [hq] at h; exact h
  | some n =>
   rw [hq] at h
   simp only at h ⊢
   cases hl : latB n.kind
   ·rfl
   ·rw [hl] at h
    simp only [Bool.not_true, Bool.false_or, Bool.and_eq_true] at h ⊢;exact ⟨JX L k _ h.1, JX L k _ h.2⟩
theorem EC {L : List ANd} {k m i : Nat} (hkm : k <= m) (h : endk L k i = true) : endk L m i = true := by
 induction hkm with
 | refl => exact h
 | step _ ih => exact JX L _ _ ih
def Ends (L : List ANd) (i : Nat) : Prop := ∃ k, endk L k i = true
def D6 (L : List ANd) : Prop := ∀ i, i < L.length -> Ends L i
def InL (L : List ANd) : Prop := ∀ n ∈ L, ∀ k ∈ kidsL n, 0 <= k /\ k < (L.length : Int)
theorem Fk {n : ANd} (h : latB n.kind = true) : kidsL n = [n.a, n.b] := by
 unfold kidsL
 have : pB n.kind = true := by
  unfold latB at h; unfold pB
  rw [Bool.or_eq_true, decide_eq_true_eq, decide_eq_true_eq] at h
  rcases h with h | h <;> rw [h] <;> rfl
 rw [this]; rfl
theorem Nu {L : List ANd} {i : Nat} {n : ANd} (hi : L[i]? = some n) (h : latB n.kind = true -> Ends L n.a.toNat /\ Ends L n.b.toNat) : Ends L i := by
 cases hl : latB n.kind with
 | false => exact ⟨1, by simp [endk, hi, hl]⟩
 | true =>
  obtain ⟨⟨k1, h1⟩, ⟨k2, h2⟩⟩ := h hl;exact ⟨max k1 k2 + 1, by simp [endk, hi, hl, EC (Nat.le_max_left k1 k2) h1, EC (Nat.le_max_right k1 k2) h2]⟩
def cnd (L : List ANd) (l : List Bool) (i : Nat) : Bool := match L[i]? with
 | some n => !latB n.kind || (l.getD n.a.toNat false && l.getD n.b.toNat false)
 | none => false
theorem count_set {l : List Bool} {i : Nat} (h : l[i]? = some false) : (l.set i true).count true = l.count true + 1 := by
 have hi := (List.getElem?_eq_some_iff.1 h).1
 have h2 := (List.getElem?_eq_some_iff.1 h).2
 rw [List.count_set hi, h2]
 simp
theorem TL {L : List ANd} {l : List Bool} {i : Nat} {n : ANd} (hR : InL L) (hl : l.length = L.length) (hi : L[i]? = some n) {β : Type} (K : Bool -> Option β) :
  ((bif ((!decide (n.kind = 9)) && (!decide (n.kind = 10))) then (some true) else ((idx l n.a).bind fun x4 => (bif x4 then ((idx l n.b).bind fun x5 => some x5) else (some false)).bind fun p2 => some p2)).bind K) = K (cnd L l i) := by
 have e : ((!decide (n.kind = 9)) && (!decide (n.kind = 10))) = !latB n.kind := by unfold latB; rw [Bool.not_or]
 rw [e];unfold cnd;rw [hi]
 simp only
 cases hb : latB n.kind with
 | false => simp
 | true =>
  have hk := hR n (List.mem_of_getElem? hi)
  rw [Fk hb] at hk;obtain ⟨a0, a1⟩ := hk n.a (by simp);obtain ⟨b0, b1⟩ := hk n.b (by simp)
  have ha : l[n.a.toNat]? = some (l[n.a.toNat]'(by omega)) := List.getElem?_eq_getElem (by omega)
  have hb2 : l[n.b.toNat]? = some (l[n.b.toNat]'(by omega)) := List.getElem?_eq_getElem (by omega)
  have ia : idx l n.a = some (l[n.a.toNat]'(by omega)) := by rw [<- ha]; unfold idx; rw [if_pos a0]
  have ib : idx l n.b = some (l[n.b.toNat]'(by omega)) := by rw [<- hb2]; unfold idx; rw [if_pos b0]
  rw [Bool.not_true, cF_, ia, oB, ib, oB, List.getD_eq_getElem?_getD, List.getD_eq_getElem?_getD, ha, hb2]
  cases l[n.a.toNat]'(by omega) <;> simp
theorem pass {t : ATy} (hR : InL t.l) (hlen : t.l.length <= 2001) (l0 : List Bool) (h0 : l0.length = t.l.length) (hs : ∀ i : Nat, l0[i]? = some true -> Ends t.l i) :
  ∃ m l, De t FU (false, 0, l0) = some (m, l) /\ l.length = t.l.length /\ (∀ i : Nat, l[i]? = some true -> Ends t.l i) /\ (m = false -> l = l0 /\ ∀ j, j < t.l.length -> cnd t.l l0 j = true -> l0[j]? = some true) /\ (m = true -> l0.count true < l.count true) := by
 obtain ⟨o, h1, h2⟩ := AU (φ := fun n i (s : Bool × List Bool) => De t n (s.1, i, s.2)) (l := t.l)
  (fun i s => s.2.length = t.l.length /\ (∀ i : Nat, s.2[i]? = some true -> Ends t.l i) /\ l0.count true <= s.2.count true /\ (s.1 = false -> s.2 = l0 /\ ∀ j, j < i -> cnd t.l l0 j = true -> l0[j]? = some true) /\ (s.1 = true -> l0.count true < s.2.count true))
  (fun o : Bool × List Bool => o.2.length = t.l.length /\ (∀ i : Nat, o.2[i]? = some true -> Ends t.l i) /\ (o.1 = false -> o.2 = l0 /\ ∀ j, j < t.l.length -> cnd t.l l0 j = true -> l0[j]? = some true) /\ (o.1 = true -> l0.count true < o.2.count true))
  (by
   rintro n i x ⟨m, l⟩ hx hi ⟨i1, i2, i3, i4, i5⟩
   simp only at i1 i2 i3 i4 i5
   left
   simp only [De];rw [dT (show (i : Int) < t.l.length by omega), cT, getI hx, oB, TL hR i1 hx]
   have hy : l[i]? = some (l[i]'(by omega)) := List.getElem?_eq_getElem (by omega)
   cases hc : cnd t.l l i with
   | false =>
    refine ⟨(m, l), by rw [cF_, oB, cF_, Ab (by omega)], i1, i2, i3, fun hm => ⟨(i4 hm).1, fun j hj hcj => ?_⟩, i5⟩
    by_cases hji : j = i
    ·subst hji; rw [<- (i4 hm).1, hc] at hcj; cases hcj
    ·exact (i4 hm).2 j (by omega) hcj
   | true =>
    rw [cT, getI hy, oB, oB]
    cases hv : l[i]'(by omega) with
    | true =>
     refine ⟨(m, l), by rw [Bool.not_true, cF_, Ab (by omega)], i1, i2, i3, fun hm => ⟨(i4 hm).1, fun j hj hcj => ?_⟩, i5⟩
     by_cases hji : j = i
     ·subst hji; rw [<- (i4 hm).1, hy, hv]
     ·exact (i4 hm).2 j (by omega) hcj
    | false =>
     rw [hv] at hy
     have hct := count_set hy
     refine ⟨(true, l.set i true), by rw [Bool.not_false, cT, oB, Ab (by omega), Int.toNat_natCast], by simpa using i1, fun j hj => ?_, by simp only; omega, fun h => (by cases h), fun _ => by simp only; omega⟩
     simp only at hj
     rw [List.getElem?_set] at hj
     by_cases hji : i = j
     ·subst hji
      refine Nu hx fun hlat => ?_
      have hk := hR x (List.mem_of_getElem? hx)
      rw [Fk hlat] at hk;unfold cnd at hc;rw [hx] at hc;simp only [hlat, Bool.not_true, Bool.false_or, Bool.and_eq_true] at hc;rw [List.getD_eq_getElem?_getD, List.getD_eq_getElem?_getD] at hc
      constructor
      ·refine i2 _ ?_
       cases hq : l[x.a.toNat]? with
       | none => rw [hq] at hc; simp at hc
       | some v => rw [hq] at hc; simp at hc; rw [hc.1]
      ·refine i2 _ ?_
       cases hq : l[x.b.toNat]? with
       | none => rw [hq] at hc; simp at hc
       | some v => rw [hq] at hc; simp at hc; rw [hc.2]
     ·rw [if_neg hji] at hj; exact i2 j hj)
  (by
   rintro n ⟨m, l⟩ ⟨i1, i2, i3, i4, i5⟩;refine ⟨(m, l), ?_, i1, i2, i4, i5⟩;simp only [De];rw [dF (by omega), cF_]) (by rw [FUv]; omega) (false, l0) ⟨h0, hs, Nat.le_refl _, fun _ => ⟨rfl, fun j hj => by omega⟩, fun h => by cases h⟩
 obtain ⟨a, b, c, d⟩ := h2;exact ⟨o.1, o.2, h1, a, b, c, d⟩
theorem H1 {L : List ANd} {l : List Bool} (hl : l.length = L.length) (hR : InL L) (hc : ∀ j, j < L.length -> cnd L l j = true -> l[j]? = some true) : ∀ (k i : Nat), i < L.length -> endk L k i = true -> l[i]? = some true
 | 0, i, _, h => by simp [endk] at h
 | k + 1, i, hi, h => by
  refine hc i hi ?_;unfold endk at h;unfold cnd
  have hx : L[i]? = some L[i] := List.getElem?_eq_getElem hi
  rw [hx] at h ⊢
  simp only at h ⊢
  cases hlat : latB (L[i]).kind with
  | false => rfl
  | true =>
   have hk := hR L[i] (List.getElem_mem hi)
   rw [Fk hlat] at hk;obtain ⟨a0, a1⟩ := hk (L[i]).a (by simp);obtain ⟨b0, b1⟩ := hk (L[i]).b (by simp);rw [hlat] at h;simp only [Bool.not_true, Bool.false_or, Bool.and_eq_true] at h ⊢
   have e1 := H1 hl hR hc k _ (by omega) h.1
   have e2 := H1 hl hR hc k _ (by omega) h.2
   rw [List.getD_eq_getElem?_getD, List.getD_eq_getElem?_getD, e1, e2]; exact ⟨rfl, rfl⟩
theorem TN {t : ATy} (hR : InL t.l) (hlen : t.l.length <= 2001) :
  ∃ l, DU t FU (true, List.replicate t.l.length false) = some l /\ l.length = t.l.length /\ ∀ i, i < t.l.length -> (l[i]? = some true ↔ Ends t.l i) := by
 obtain ⟨l, h1, h2, h3, h4⟩ := Ov (φ := DU t) (fun s => 2 * (t.l.length - s.2.count true) + (if s.1 = true then 1 else 0))
  (fun s => s.2.length = t.l.length /\ (∀ i : Nat, s.2[i]? = some true -> Ends t.l i) /\ (s.1 = false -> ∀ j, j < t.l.length -> cnd t.l s.2 j = true -> s.2[j]? = some true))
  (fun l => l.length = t.l.length /\ (∀ i : Nat, l[i]? = some true -> Ends t.l i) /\ ∀ j, j < t.l.length -> cnd t.l l j = true -> l[j]? = some true)
  (by
   rintro n ⟨m, l⟩ ⟨i1, i2, i3⟩
   simp only at i1 i2 i3
   cases m with
   | false => exact .inr ⟨l, ⟨i1, i2, i3 rfl⟩, by simp only [DU]; rfl⟩
   | true =>
    obtain ⟨m, l', e1, e2, e3, e4, e5⟩ := pass hR hlen l i1 i2;refine .inl ⟨(m, l'), ⟨e2, e3, fun hm => ?_⟩, ?_, ?_⟩
    ·simp only at hm ⊢
     obtain ⟨rfl, h⟩ := e4 hm; exact h
    ·have hc1 : l'.count true <= t.l.length := by rw [<- e2]; exact List.count_le_length
     cases m with
     | false => obtain ⟨rfl, _⟩ := e4 rfl; simp
     | true => have := e5 rfl; simp; omega
    ·simp only [DU]
     rw [cT, e1, oB])
  FU (true, List.replicate t.l.length false) ⟨by simp, fun i hi => by rw [List.getElem?_replicate] at hi; split at hi <;> simp at hi, fun h => by cases h⟩ (by rw [FUv]; simp only [List.count_replicate]; simp; omega)
 exact ⟨l, h1, h2, fun i hi => ⟨h3 i, fun ⟨k, hk⟩ => H1 h2 hR h4 k i hi hk⟩⟩
theorem PL (l : List Bool) (h : l.length <= 2001) : DR l FU 0 = some (if (∀ b ∈ l, b = true) then .go () else .ret 4) := by
 rw [FY (φ := DR l) (l := l) 4 (fun _ b => b = true) ?_ ?_ (by rw [FUv]; omega)]
 ·have e : (∀ (i : Nat) (x : Bool), l[i]? = some x -> x = true) ↔ ∀ b ∈ l, b = true := ⟨fun h b hb => by obtain ⟨i, hi⟩ := List.getElem?_of_mem hb; exact h i b hi, fun h i x hx => h x (List.mem_of_getElem? hx)⟩
  by_cases h2 : ∀ b ∈ l, b = true
  ·rw [if_pos (e.2 h2), if_pos h2]
  ·rw [if_neg (fun h3 => h2 (e.1 h3)), if_neg h2]
 ·intro n i x hx hi
  simp only [DR];rw [dT (show (i : Int) < l.length by omega), cT, getI hx, oB]
  cases x
  ·exact ⟨fun h => (by cases h), fun _ => by rw [Bool.not_false, cT]⟩
  ·exact ⟨fun _ => by rw [Bool.not_true, cF_, Ab (by omega)], fun h => absurd Uj h⟩
 ·intro n
  simp only [DR];rw [dF (by omega), cF_]
end Go.Proofs.YtkfnogdccpcmhaaGreatDoor
namespace Go.Proofs.YtkfnogdccpcmhaaGreatDoor
open Go.V
open Classical
def ColOk (z : List Int) : Prop := ∀ c ∈ z, c = 0 \/ c = 1 \/ c = 2
theorem Lf {z : List Int} {i : Nat} {c d : Int} (h : z[i]? = some c) : (z.set i d).count 0 + (if c = 0 then 1 else 0) = z.count 0 + (if d = 0 then 1 else 0) := by
 have hi := (List.getElem?_eq_some_iff.1 h).1
 have h2 := (List.getElem?_eq_some_iff.1 h).2
 have hc : c = 0 -> 0 < z.count 0 := fun e => List.count_pos_iff.2 (by rw [<- e]; exact List.mem_of_getElem? h)
 rw [List.count_set hi, h2]
 by_cases h0 : c = 0
 ·have := hc h0
  subst h0
  simp
  split <;> omega
 ·rw [if_neg h0]
  have : (c == 0) = false := by simp [h0]
  rw [this]
  simp
theorem MQ {z : List Int} {i : Nat} {d : Int} (h : ColOk z) (hd : d = 0 \/ d = 1 \/ d = 2) : ColOk (z.set i d) := by
 intro c hc
 rcases List.mem_or_eq_of_mem_set hc with h2 | h2
 ·exact h c h2
 ·rw [h2]; exact hd
theorem Jf {L : List ANd} {i : Nat} : ∀ m, endk L m i = true -> ∃ k, k < m /\ endk L (k + 1) i = true /\ endk L k i = false
 | 0, h => by simp [endk] at h
 | m + 1, h => by
  cases hq : endk L m i with
  | false => exact ⟨m, Nat.lt_succ_self m, h, hq⟩
  | true =>
   obtain ⟨k, h1, h2, h3⟩ := Jf m hq;exact ⟨k, by omega, h2, h3⟩
theorem PV {L : List ANd} {k m i : Nat} (hkm : k <= m) (h : endk L m i = false) : endk L k i = false := by
 cases hq : endk L k i with
 | false => rfl
 | true => rw [EC hkm hq] at h; cases h
structure WalkOk (L : List ANd) (i : Nat) (z : List Int) (b : Bool) (z' : List Int) : Prop where
 len : z'.length = L.length
 col : ColOk z'
 wh : z'.count 0 <= z.count 0
 yes : b = true -> Ends L i /\ (∀ j : Nat, z'[j]? = some 2 -> Ends L j) /\ ∀ j : Nat, z'[j]? = some 1 ↔ z[j]? = some 1
 no : b = false -> ∀ m, endk L m i = true -> (∀ j : Nat, z[j]? = some 1 -> endk L m j = false) -> False
theorem Qa {t : ATy} (hR : InL t.l) (hN : ∀ n ∈ t.l, NB n) (hlen : t.l.length <= 2001) : ∀ (n : Nat) (i : Nat) (z : List Int), i < t.l.length -> z.length = t.l.length -> ColOk z -> z.count 0 < n -> (∀ j : Nat, z[j]? = some 2 -> Ends t.l j) ->
  ∃ b z', AZ t n (i : Int) z = some (b, z') /\ WalkOk t.l i z b z'
 | 0, i, z, _, _, _, h, _ => by omega
 | n + 1, i, z, hi, hz, hc, hw, hb => by
  have hx : t.l[i]? = some t.l[i] := List.getElem?_eq_getElem hi
  have hy : z[i]? = some (z[i]'(by omega)) := List.getElem?_eq_getElem (by omega)
  have hcz := hc _ (List.mem_of_getElem? hy)
  show ∃ b z', BG (AZ t n) (i : Int) z t = some (b, z') /\ _
  unfold BG;rw [getI hx, oB, show Eq (t.l[i]).kind = some (latB (t.l[i]).kind) from rfl, oB, getI hy, oB, oB, oB]
  generalize hn : t.l[i] = nd at *
  generalize z[i]'(by omega) = c at *
  cases hlat : latB nd.kind with
  | false =>
   refine ⟨true, z, by rw [Bool.not_false, cT, oB, cT], hz, hc, Nat.le_refl _, fun _ => ⟨Nu hx fun h => (by rw [hlat] at h; cases h), hb, fun j => Iff.rfl⟩, fun h => by cases h⟩
  | true =>
   rw [Bool.not_true, cF_, oB]
   by_cases h2 : c = 2
   ·refine ⟨true, z, by rw [dT h2, cT], hz, hc, Nat.le_refl _, fun _ => ⟨hb i (by rw [hy, h2]), hb, fun j => Iff.rfl⟩, fun h => by cases h⟩
   rw [dF h2, cF_]
   by_cases h1 : c = 1
   ·refine ⟨false, z, by rw [dT h1, cT], hz, hc, Nat.le_refl _, fun h => (by cases h), fun _ m hm hg => ?_⟩
    rw [hg i (by rw [hy, h1])] at hm; cases hm
   rw [dF h1, cF_]
   have h0 : c = 0 := by omega
   subst h0
   have hNd : NB nd := by rw [<- hn]; exact hN _ (List.getElem_mem hi)
   rw [oB, No _ hNd, oB, Int.toNat_natCast]
   have hk : ∀ k ∈ kidsL nd, 0 <= k /\ k < (t.l.length : Int) := hR nd (List.mem_of_getElem? hx)
   have hkl := GR nd hNd
   have hwz := Lf (d := 1) hy
   simp at hwz
   have hz1 : (z.set i 1).length = t.l.length := by simpa using hz
   have gr1 : ∀ j : Nat, (z.set i 1)[j]? = some 1 ↔ (j = i \/ z[j]? = some 1) := by
    intro j
    rw [List.getElem?_set]
    by_cases hji : i = j
    ·subst hji; simp; omega
    ·rw [if_neg hji]; exact ⟨.inr, fun h => h.elim (fun e => absurd e.symm hji) id⟩
   obtain ⟨o, e1, e2⟩ := AU (φ := fun m q s => A5 (AZ t n) (kidsL nd) m (q, s)) (l := kidsL nd)
    (fun q s => s.length = t.l.length /\ ColOk s /\ s.count 0 <= (z.set i 1).count 0 /\ (∀ j : Nat, s[j]? = some 2 -> Ends t.l j) /\ (∀ j : Nat, s[j]? = some 1 ↔ (z.set i 1)[j]? = some 1) /\ ∀ (p : Nat) k, p < q -> (kidsL nd)[p]? = some k -> Ends t.l k.toNat)
    (fun o => (∃ s, o = Out.ret (false, s) /\ s.length = t.l.length /\ ColOk s /\ s.count 0 <= (z.set i 1).count 0 /\ ∀ m, endk t.l m i = true -> (∀ j : Nat, z[j]? = some 1 -> endk t.l m j = false) -> False) \/
     (∃ s, o = Out.go s /\ s.length = t.l.length /\ ColOk s /\ s.count 0 <= (z.set i 1).count 0 /\ (∀ j : Nat, s[j]? = some 2 -> Ends t.l j) /\ (∀ j : Nat, s[j]? = some 1 ↔ (z.set i 1)[j]? = some 1) /\ ∀ k ∈ kidsL nd, Ends t.l k.toNat))
    (by
     rintro m q k s hkq hq ⟨s1, s2, s3, s4, s5, s6⟩;obtain ⟨k0, k1⟩ := hk k (List.mem_of_getElem? hkq);obtain ⟨b, z', w1, w2⟩ := Qa hR hN hlen n k.toNat s (by omega) s1 s2 (by omega) s4;rw [Int.toNat_of_nonneg k0] at w1;simp only [A5];rw [dT (show (q : Int) < (kidsL nd).length by omega), cT, getI hkq, oB, w1, oB]
     dsimp only
     cases b with
     | true =>
      obtain ⟨y1, y2, y3⟩ := w2.yes Uj;refine .inl ⟨z', by rw [Bool.not_true, cF_, Ab (by omega)], w2.len, w2.col, Nat.le_trans w2.wh s3, y2, fun j => (y3 j).trans (s5 j), fun p k' hp hk' => ?_⟩
      by_cases hpq : p = q
      ·subst hpq; rw [hkq] at hk'; cases hk'; exact y1
      ·exact s6 p k' (by omega) hk'
     | false =>
      refine .inr ⟨_, by rw [Bool.not_false, cT], .inl ⟨z', rfl, w2.len, w2.col, Nat.le_trans w2.wh s3, fun m hm hg => ?_⟩⟩;obtain ⟨r, r1, r2, r3⟩ := Jf m hm;refine w2.no Uj r ?_ fun j hj => ?_
      ·unfold endk at r2
       rw [hx] at r2;simp only [hlat, Bool.not_true, Bool.false_or, Bool.and_eq_true] at r2
       have := List.mem_of_getElem? hkq
       rw [Fk hlat] at this;simp only [List.mem_cons, List.not_mem_nil, or_false] at this
       rcases this with rfl | rfl
       ·exact r2.1
       ·exact r2.2
      ·rcases (gr1 j).1 ((s5 j).1 hj) with rfl | hj
       ·exact r3
       ·exact PV (by omega) (hg j hj))
    (by
     rintro m s ⟨s1, s2, s3, s4, s5, s6⟩;refine ⟨Out.go s, ?_, .inr ⟨s, rfl, s1, s2, s3, s4, s5, fun k hk' => ?_⟩⟩
     ·simp only [A5]
      rw [dF (by omega), cF_]
     ·obtain ⟨p, hp⟩ := List.getElem?_of_mem hk'
      exact s6 p k (getLt hp) hp)
    (by rw [FUv]; omega) (z.set i 1) ⟨hz1, MQ hc (by omega), Nat.le_refl _, fun j hj => (by
     rw [List.getElem?_set] at hj
     by_cases hji : i = j
     ·rw [if_pos hji] at hj; split at hj <;> simp at hj
     ·rw [if_neg hji] at hj; exact hb j hj), fun j => Iff.rfl, fun p k hp => by omega⟩
   rw [e1, oB]
   rcases e2 with ⟨s, rfl, s1, s2, s3, s4⟩ | ⟨s, rfl, s1, s2, s3, s4, s5, s6⟩
   ·exact ⟨false, s, rfl, s1, s2, by omega, fun h => (by cases h), fun _ => s4⟩
   ·have hsi : s[i]? = some 1 := (s5 i).2 ((gr1 i).2 (.inl rfl))
    have hws := Lf (d := 2) hsi
    simp at hws
    have hE : Ends t.l i := Nu hx fun _ => by
     rw [Fk hlat] at s6;exact ⟨s6 _ (by simp), s6 _ (by simp)⟩
    refine ⟨true, s.set i 2, by show (idx s (i : Int)).bind _ = _; rw [getI hsi, oB], by simpa using s1, MQ s2 (by omega), by omega, fun _ => ⟨hE, fun j hj => ?_, fun j => ?_⟩, fun h => by cases h⟩
    ·rw [List.getElem?_set] at hj
     by_cases hji : i = j
     ·subst hji; exact hE
     ·rw [if_neg hji] at hj; exact s4 j hj
    ·rw [List.getElem?_set]
     by_cases hji : i = j
     ·subst hji; rw [if_pos rfl, hy]; split <;> simp
     ·rw [if_neg hji, s5 j, gr1 j]
      exact ⟨fun h => h.elim (fun e => absurd e.symm hji) id, .inr⟩
theorem K5 {t : ATy} (hR : InL t.l) (hN : ∀ n ∈ t.l, NB n) (hlen : t.l.length <= 2001) : B9 t = some (decide (D6 t.l)) := by
 unfold B9;rw [Ab (by omega), Ab (by omega), Int.toNat_natCast];obtain ⟨o, e1, e2⟩ := AU (φ := fun m q s => Bn t m (q, s)) (l := t.l)
  (fun q s => s.length = t.l.length /\ ColOk s /\ (∀ j : Nat, s[j]? = some 2 -> Ends t.l j) /\ (∀ j : Nat, ¬ s[j]? = some 1) /\ ∀ p, p < q -> Ends t.l p)
  (fun o => (o = Out.ret false /\ ¬ D6 t.l) \/ ∃ s, o = Out.go s /\ D6 t.l)
  (by
   rintro m q nd s hnd hq ⟨s1, s2, s3, s4, s5⟩;obtain ⟨b, z', w1, w2⟩ := Qa hR hN hlen FU q s hq s1 s2 (by have := List.count_le_length (a := (0 : Int)) (l := s); rw [FUv]; omega) s3;simp only [Bn];rw [dT (show (q : Int) < t.l.length by omega), cT, w1, oB]
   dsimp only
   cases b with
   | true =>
    obtain ⟨y1, y2, y3⟩ := w2.yes Uj;refine .inl ⟨z', by rw [Bool.not_true, cF_, Ab (by omega)], w2.len, w2.col, y2, fun j hj => s4 j ((y3 j).1 hj), fun p hp => ?_⟩
    by_cases hpq : p = q
    ·subst hpq; exact y1
    ·exact s5 p (by omega)
   | false =>
    refine .inr ⟨_, by rw [Bool.not_false, cT], .inl ⟨rfl, fun hA => ?_⟩⟩;obtain ⟨k, hk⟩ := hA q hq;exact w2.no Uj k hk fun j hj => absurd hj (s4 j))
  (by
   rintro m s ⟨s1, s2, s3, s4, s5⟩;refine ⟨Out.go s, ?_, .inr ⟨s, rfl, s5⟩⟩;simp only [Bn];rw [dF (by omega), cF_])
  (by rw [FUv]; omega) (List.replicate t.l.length 0) ⟨by simp, fun c hc => (by rw [List.mem_replicate] at hc; exact .inl hc.2), fun j hj => (by rw [List.getElem?_replicate] at hj; split at hj <;> simp at hj), fun j hj => (by rw [List.getElem?_replicate] at hj; split at hj <;> simp at hj), fun p hp => by omega⟩
 rw [e1, oB]
 rcases e2 with ⟨rfl, h⟩ | ⟨s, rfl, h⟩
 ·rw [dF h]; rfl
 ·rw [dT h]; rfl
end Go.Proofs.YtkfnogdccpcmhaaGreatDoor
namespace Go.Proofs.YtkfnogdccpcmhaaGreatDoor
open Go.V
open Classical
def Bg (L : List ANd) : Prop := ∀ n ∈ L, Bi n L.length = true
theorem JW {n : ANd} {all : Int} (h : Bi n all = true) : ∀ k ∈ kidsL n, 0 <= k /\ k < all := by
 intro k hk
 unfold Bi at h;simp only [Bool.and_eq_true, Bool.not_eq_true', decide_eq_false_iff_not] at h
 have h2 := h.2.2.2.2.2
 have : inB all k = false := by
  cases hq : inB all k with
  | false => rfl
  | true => exact absurd ⟨k, hk, hq⟩ h2
 unfold inB at this;rw [Bool.or_eq_false_iff, decide_eq_false_iff_not, decide_eq_false_iff_not] at this
 omega
theorem AD {L : List ANd} (h : Bg L) : InL L := fun n hn k hk => JW (h n hn) k hk
theorem RF (t : ATy) (hlen : t.l.length <= 2001) (hN : ∀ n ∈ t.l, NB n) : Ox t.l (fun y0 => C1 y0 t) = some (!decide (Bg t.l)) := by
 unfold Ox PX;rw [FN (φ := G1 t.l (fun y0 => C1 y0 t)) (l := t.l) (fun i => (i : Int)) (fun n => !Bi n t.l.length) ?_ ?_ (by rw [FUv]; omega)]
 ·rw [oB]
  cases hf : t.l.findIdx? (fun n => !Bi n t.l.length) with
  | none =>
   have : Bg t.l := by
    intro n hn
    have := List.findIdx?_eq_none_iff.1 hf n hn
    simpa using this
   rw [dT this]; rfl
  | some i =>
   obtain ⟨hi, h1, _⟩ := List.findIdx?_eq_some_iff_getElem.1 hf
   have : ¬ Bg t.l := fun h => by
    rw [h _ (List.getElem_mem hi)] at h1; cases h1
   rw [dF this]
   show some (decide (0 <= (i : Int))) = some true
   rw [dT (by omega)]
 ·intro n i x hx hi
  simp only [G1];rw [dT (show (i : Int) < t.l.length by omega), cT, getI hx, oB, show C1 x t = some (!Bi x t.l.length) by unfold C1; rw [Sb _ _ (hN x (List.mem_of_getElem? hx)), oB], oB];exact ⟨fun hq => by rw [hq, cF_, Ab (by omega)], fun hq => by rw [hq, cT]⟩
 ·intro n
  simp only [G1];rw [dF (by omega), cF_]
theorem Rh (t : ATy) (hlen : t.l.length <= 2001) (hN : ∀ n ∈ t.l, NB n) : DI t FU 0 = some (if Bg t.l then .go () else .ret 4) := by
 rw [FY (φ := DI t) (l := t.l) 4 (fun _ n => Bi n t.l.length = true) ?_ ?_ (by rw [FUv]; omega)]
 ·have e : (∀ (i : Nat) (x : ANd), t.l[i]? = some x -> Bi x t.l.length = true) ↔ Bg t.l := ⟨fun h b hb => by obtain ⟨i, hi⟩ := List.getElem?_of_mem hb; exact h i b hi, fun h i x hx => h x (List.mem_of_getElem? hx)⟩
  by_cases h2 : Bg t.l
  ·rw [if_pos (e.2 h2), if_pos h2]
  ·rw [if_neg (fun h3 => h2 (e.1 h3)), if_neg h2]
 ·intro n i x hx hi
  simp only [DI];rw [dT (show (i : Int) < t.l.length by omega), cT, getI hx, oB, QZ _ _ (hN x (List.mem_of_getElem? hx)), oB]
  cases Bi x t.l.length
  ·exact ⟨fun h => (by cases h), fun _ => by rw [Bool.not_false, cT]⟩
  ·exact ⟨fun _ => by rw [Bool.not_true, cF_, Ab (by omega)], fun h => absurd Uj h⟩
 ·intro n
  simp only [DI];rw [dF (by omega), cF_]
noncomputable def mayT (L : List ANd) (root : Int) : Int := if L.length = 0 \/ 2000 < L.length then 8 else if root < 0 \/ (L.length : Int) <= root then 4 else if Bg L /\ D6 L then 0 else 4
theorem K2 (t : ATy) (hlen : t.l.length <= 2001) (hN : ∀ n ∈ t.l, NB n) : Bt t = some (mayT t.l t.root) := by
 unfold Bt mayT
 by_cases h0 : t.l.length = 0 \/ 2000 < t.l.length
 ·rw [if_pos h0, show (decide ((t.l.length : Int) = 0) || decide (2000 < (t.l.length : Int))) = true by rw [Bool.or_eq_true, decide_eq_true_eq, decide_eq_true_eq]; omega, cT]
 rw [if_neg h0, dF (by omega), dF (by omega), Bool.or_false, cF_]
 by_cases hr : t.root < 0 \/ (t.l.length : Int) <= t.root
 ·rw [if_pos hr, show (decide (t.root < 0) || decide ((t.l.length : Int) <= t.root)) = true by rw [Bool.or_eq_true, decide_eq_true_eq, decide_eq_true_eq]; exact hr, cT]
 rw [if_neg hr, dF (by omega), dF (by omega), Bool.or_false, cF_, RF t hlen hN, oB]
 by_cases hA : Bg t.l
 ·rw [dT hA, Bool.not_true, cF_, K5 (AD hA) hN hlen, oB]
  by_cases hE : D6 t.l
  ·rw [dT hE, if_pos ⟨hA, hE⟩]; rfl
  ·rw [dF hE, if_neg (fun h => hE h.2)]; rfl
 ·rw [dF hA, Bool.not_false, cT, if_neg (fun h => hA h.1)]; rfl
theorem P9 (t : ATy) (hlen : t.l.length <= 2001) (hN : ∀ n ∈ t.l, NB n) : GW t = some (mayT t.l t.root) := by
 unfold GW mayT
 by_cases h0 : t.l.length = 0 \/ 2000 < t.l.length
 ·rw [if_pos h0, show (decide ((t.l.length : Int) < 1) || decide (2000 < (t.l.length : Int))) = true by rw [Bool.or_eq_true, decide_eq_true_eq, decide_eq_true_eq]; omega, cT]
 rw [if_neg h0, dF (by omega), dF (by omega), Bool.or_false, cF_]
 by_cases hr : t.root < 0 \/ (t.l.length : Int) <= t.root
 ·rw [if_pos hr, show (decide (t.root < 0) || decide ((t.l.length : Int) <= t.root)) = true by rw [Bool.or_eq_true, decide_eq_true_eq, decide_eq_true_eq]; exact hr, cT]
 rw [if_neg hr, dF (by omega), dF (by omega), Bool.or_false, cF_, Rh t hlen hN, oB]
 by_cases hA : Bg t.l
 ·rw [if_pos hA]
  show grd _ _ = _
  rw [Ab (by omega), Ab (by omega), Int.toNat_natCast];obtain ⟨l, l1, l2, l3⟩ := TN (AD hA) hlen;rw [l1, oB, PL l (by omega), oB]
  have e : (∀ b ∈ l, b = true) ↔ D6 t.l := by
   constructor
   ·intro h i hi
    have hx : l[i]? = some (l[i]'(by omega)) := List.getElem?_eq_getElem (by omega)
    rw [h _ (List.getElem_mem (by omega))] at hx;exact (l3 i hi).1 hx
   ·intro h b hb
    obtain ⟨i, hi⟩ := List.getElem?_of_mem hb
    have hlt := getLt hi
    have := (l3 i (by omega)).2 (h i (by omega))
    rw [hi] at this; exact Option.some.inj this
  by_cases hE : D6 t.l
  ·rw [if_pos (e.2 hE), if_pos ⟨hA, hE⟩]; rfl
  ·rw [if_neg (fun h => hE (e.1 h)), if_neg (fun h => hE h.2)]; rfl
 ·rw [if_neg hA, if_neg (fun h => hA h.1)]; rfl
theorem En {L : List ANd} {r : Int} (h : mayT L r = 0) : 0 < L.length /\ L.length <= 2000 /\ 0 <= r /\ r < L.length /\ Bg L /\ D6 L := by
 unfold mayT at h
 split at h
 ·omega
 ·split at h
  ·omega
  ·split at h
   ·rename_i h1 h2 h3; exact ⟨by omega, by omega, by omega, by omega, h3.1, h3.2⟩
   ·omega
end Go.Proofs.YtkfnogdccpcmhaaGreatDoor
namespace Go.Proofs.YtkfnogdccpcmhaaGreatDoor
open Go.V
open Classical
theorem Pl (s : List Int) (h : s.length <= 1000) : O7 s = some s.reverse := by
 unfold O7;rw [Ab (by omega)];obtain ⟨o, e1, e2⟩ := Ov (φ := GJ) (fun st => (st.2.1 + 1 - st.1).toNat)
  (fun st => 0 <= st.1 /\ -1 <= st.2.1 /\ st.1 + st.2.1 = (s.length : Int) - 1 /\ st.1 <= st.2.1 + 2 /\ st.2.2.length = s.length /\ ∀ k : Nat, k < s.length -> st.2.2[k]? = if (k : Int) < st.1 \/ st.2.1 < (k : Int) then s.reverse[k]? else s[k]?)
  (fun o => o = s.reverse)
  (by
   rintro n ⟨i, j, l⟩ ⟨h0, h1, h2, h3, h4, h5⟩
   simp only at h0 h1 h2 h3 h4 h5
   by_cases hij : i < j
   ·left
    obtain ⟨a, rfl⟩ := Int.eq_ofNat_of_zero_le h0;obtain ⟨b, rfl⟩ := Int.eq_ofNat_of_zero_le (show 0 <= j by omega)
    have ha : a < s.length := by omega
    have hb : b < s.length := by omega
    have la : l[a]? = some s[a] := by rw [h5 a ha, if_neg (by omega), List.getElem?_eq_getElem ha]
    have lb : l[b]? = some s[b] := by rw [h5 b hb, if_neg (by omega), List.getElem?_eq_getElem hb]
    have lb2 : (l.set a s[b])[b]? = some s[b] := by rw [List.getElem?_set_ne (by omega)]; exact lb
    refine ⟨((a : Int) + 1, (b : Int) - 1, (l.set a s[b]).set b s[a]), ⟨by simp only; omega, by simp only; omega, by simp only; omega, by simp only; omega, by simpa using h4, fun k hk => ?_⟩, by simp only; omega, ?_⟩
    ·simp only
     by_cases hkb : k = b
     ·subst hkb
      rw [List.getElem?_set_self (by simp; omega), if_pos (by omega), List.getElem?_reverse hk, List.getElem?_eq_getElem (by omega)]
      congr 2; omega
     ·rw [List.getElem?_set_ne (by omega)]
      by_cases hka : k = a
      ·subst hka
       rw [List.getElem?_set_self (by omega), if_pos (by omega), List.getElem?_reverse hk, List.getElem?_eq_getElem (by omega)]
       congr 2; omega
      ·rw [List.getElem?_set_ne (by omega), h5 k hk]
       by_cases hc : (k : Int) < a \/ (b : Int) < k
       ·rw [if_pos hc, if_pos (by omega)]
       ·rw [if_neg hc, if_neg (by omega)]
    ·simp only [GJ]
     rw [dT hij, cT, getI lb, oB, getI la, oB, oB, oB, Int.toNat_natCast, Int.toNat_natCast, getI lb2, oB, Ab (by omega), Ab (by omega)]
   ·right
    refine ⟨l, ?_, by simp only [GJ]; rw [dF hij, cF_]⟩;refine List.ext_getElem? fun k => ?_
    by_cases hk : k < s.length
    ·rw [h5 k hk]
     split
     ·rfl
     ·rw [List.getElem?_reverse hk]; congr 1; omega
    ·rw [List.getElem?_eq_none (by omega), List.getElem?_eq_none (by simp; omega)])
  FU (0, (s.length : Int) - 1, s) ⟨by simp only; omega, by simp only; omega, by simp only; omega, by simp only; omega, rfl, fun k hk => by simp only; rw [if_neg (by omega)]⟩ (by rw [FUv]; simp only; omega)
 rw [e1, e2]
def kat (L : List ANd) (i : Int) : List Int := match L[i.toNat]? with
 | some n => kidsL n
 | none => []
noncomputable def dfs (K : Int -> List Int) : Nat -> List Int -> List Int -> List Int
 | 0, _, out => out
 | _ + 1, [], out => out
 | n + 1, x :: s, out => if x ∈ out then dfs K n s out else dfs K n (K x ++ s) (out ++ [x])
theorem Ow (f g : Nat -> Nat) (i : Nat) : ∀ l : List Nat, l.Nodup -> i ∈ l -> (∀ j ∈ l, j ≠ i -> f j = g j) -> (l.map f).sum + g i = (l.map g).sum + f i
 | [], _, h, _ => by simp at h
 | j :: l, hn, hi, he => by
  rw [List.nodup_cons] at hn;simp only [List.map_cons, List.sum_cons]
  by_cases hji : j = i
  ·subst hji
   have : l.map f = l.map g := List.map_congr_left fun k hk => he k (by simp [hk]) (fun e => hn.1 (e ▸ hk))
   rw [this]; omega
  ·have := Ow f g i l hn.2 (by simpa [Ne.symm hji] using hi) (fun k hk => he k (by simp [hk]))
   have := he j (by simp) hji
   omega
noncomputable def wt (K : Int -> List Int) (len : Nat) (out : List Int) : Nat := ((List.range len).map (fun (i : Nat) => if (i : Int) ∈ out then 0 else (K (i : Int)).length)).sum
theorem SA {K : Int -> List Int} {len : Nat} {out : List Int} {i : Nat} (hi : i < len) (ho : ¬ (i : Int) ∈ out) : wt K len (out ++ [(i : Int)]) + (K i).length = wt K len out := by
 have := Ow (fun (j : Nat) => if (j : Int) ∈ out ++ [(i : Int)] then 0 else (K (j : Int)).length) (fun (j : Nat) => if (j : Int) ∈ out then 0 else (K (j : Int)).length) i (List.range len) List.nodup_range (List.mem_range.2 hi) (fun j _ hj => by
  have e : ((j : Int) ∈ out ++ [(i : Int)]) ↔ (j : Int) ∈ out := by simp; omega
  by_cases h : (j : Int) ∈ out
  ·rw [if_pos h, if_pos (e.2 h)]
  ·rw [if_neg h, if_neg (fun h2 => h (e.1 h2))])
 rw [if_neg ho, if_pos (by simp)] at this;unfold wt; omega
theorem Px {L : List ANd} (hR : InL L) : ∀ i k, k ∈ kat L i -> 0 <= k /\ k < (L.length : Int) := by
 intro i k hk
 unfold kat at hk
 cases hq : L[i.toNat]? with
 | none => rw [hq] at hk; simp at hk
 | some n => rw [hq] at hk; exact hR n (List.mem_of_getElem? hq) k hk
theorem P7 {L : List ANd} (hN : ∀ n ∈ L, NB n) (i : Int) : (kat L i).length <= 40 := by
 unfold kat
 cases hq : L[i.toNat]? with
 | none => simp
 | some n => exact GR n (hN n (List.mem_of_getElem? hq))
theorem lastI (s : List Int) (x : Int) : idx (s ++ [x]) (((s ++ [x]).length : Int) - 1) = some x := by
 rw [show (((s ++ [x]).length : Int) - 1) = (s.length : Int) by simp];exact getI (by simp)
theorem initI (s : List Int) (x : Int) : sli (s ++ [x]) 0 (((s ++ [x]).length : Int) - 1) = some s := by
 rw [show (((s ++ [x]).length : Int) - 1) = (s.length : Int) by simp, GG (by simp)]
 simp
end Go.Proofs.YtkfnogdccpcmhaaGreatDoor
namespace Go.Proofs.YtkfnogdccpcmhaaGreatDoor
open Go.V
open Classical
noncomputable def AM (L : List ANd) (root : Int) : List Int := dfs (kat L) FU [root] []
theorem MN (f : Nat -> Nat) (c : Nat) : ∀ l : List Nat, (∀ j ∈ l, f j <= c) -> (l.map f).sum <= l.length * c
 | [], _ => by simp
 | j :: l, h => by
  have h1 := MN f c l (fun k hk => h k (by simp [hk]))
  have h2 := h j (by simp)
  simp only [List.map_cons, List.sum_cons, List.length_cons, Nat.add_mul]
  omega
theorem Ok {L : List ANd} (hN : ∀ n ∈ L, NB n) (out : List Int) : wt (kat L) L.length out <= L.length * 40 := by
 have := MN (fun (i : Nat) => if (i : Int) ∈ out then 0 else (kat L (i : Int)).length) 40 (List.range L.length) (fun j _ => by
  split
  ·omega
  ·exact P7 hN _)
 rw [List.length_range] at this;exact this
theorem J8 {K : Int -> List Int} {D : Int -> Prop} (hK : ∀ x, D x -> ∀ k ∈ K x, D k) : ∀ (n : Nat) (s out : List Int), (∀ x ∈ s, D x) -> (∀ x ∈ out, D x) -> out.Nodup -> (∀ x ∈ dfs K n s out, D x) /\ (dfs K n s out).Nodup
 | 0, s, out, _, ho, hn => ⟨ho, hn⟩
 | n + 1, [], out, _, ho, hn => ⟨ho, hn⟩
 | n + 1, x :: s, out, hs, ho, hn => by
  unfold dfs
  split
  ·exact J8 hK n s out (fun y hy => hs y (by simp [hy])) ho hn
  ·rename_i hx
   have hDx := hs x (by simp)
   refine J8 hK n _ _ (fun y hy => ?_) (fun y hy => ?_) ?_
   ·rcases List.mem_append.1 hy with hy | hy
    ·exact hK x hDx y hy
    ·exact hs y (by simp [hy])
   ·rcases List.mem_append.1 hy with hy | hy
    ·exact ho y hy
    ·simp at hy; subst hy; exact hDx
   ·rw [List.nodup_append]
    refine ⟨hn, by simp, fun a ha b hb e => ?_⟩
    simp at hb
    subst hb e;exact hx ha
theorem Ie : ∀ (m : Nat) (l : List Int), l.Nodup -> (∀ x ∈ l, 0 <= x /\ x < (m : Int)) -> l.length <= m
 | 0, l, _, h => by
  cases l with
  | nil => simp
  | cons a l => have := h a (by simp); omega
 | m + 1, l, hn, h => by
  have h1 := Ie m (l.erase (m : Int)) (hn.erase _) (fun x hx => by
   have h2 := h x (List.mem_of_mem_erase hx)
   have h3 : x ≠ (m : Int) := fun e => by rw [e] at hx; exact absurd hx (by rw [hn.mem_erase_iff]; simp)
   omega)
  have := List.length_erase_le (a := (m : Int)) (l := l)
  have h4 : l.length <= (l.erase (m : Int)).length + 1 := by rw [List.length_erase]; split <;> omega
  omega
theorem CC {L : List ANd} (hR : InL L) {root : Int} (h0 : 0 <= root) (h1 : root < (L.length : Int)) : (∀ x ∈ AM L root, 0 <= x /\ x < (L.length : Int)) /\ (AM L root).Nodup /\ (AM L root).length <= L.length := by
 obtain ⟨a, b⟩ := J8 (K := kat L) (D := fun x => 0 <= x /\ x < (L.length : Int)) (fun x _ k hk => Px hR x k hk) FU [root] [] (fun x hx => by simp at hx; subst hx; exact ⟨h0, h1⟩) (by simp) (by simp);exact ⟨a, b, Ie _ _ b a⟩
theorem LF : ∀ (a b : List Int), a.Pairwise (· < ·) -> b.Pairwise (· < ·) -> (∀ x, x ∈ a ↔ x ∈ b) -> a = b
 | [], [], _, _, _ => rfl
 | [], y :: b, _, _, h => by have := (h y).2 (by simp); simp at this
 | x :: a, [], _, _, h => by have := (h x).1 (by simp); simp at this
 | x :: a, y :: b, ha, hb, h => by
  rw [List.pairwise_cons] at ha hb
  have hxy : x = y := by
   have h1 := (h x).1 (by simp)
   have h2 := (h y).2 (by simp)
   rcases List.mem_cons.1 h1 with h1 | h1
   ·exact h1
   ·rcases List.mem_cons.1 h2 with h2 | h2
    ·exact h2.symm
    ·have := hb.1 x h1; have := ha.1 y h2; omega
  subst hxy
  congr 1
  refine LF a b ha.2 hb.2 fun z => ?_
  have h1 := h z
  simp only [List.mem_cons] at h1
  constructor
  ·intro hz
   rcases h1.1 (.inr hz) with e | e
   ·have := ha.1 z hz; omega
   ·exact e
  ·intro hz
   rcases h1.2 (.inr hz) with e | e
   ·have := hb.1 z hz; omega
   ·exact e
theorem JT {d : Array Int} (hd : ∀ i j, i < j -> j < d.size -> d[i]! <= d[j]!) : ∀ m, m <= d.size -> (Lib.compactUpTo d m).Pairwise (· < ·) /\ (∀ x, x ∈ Lib.compactUpTo d m ↔ ∃ j, j < m /\ d[j]! = x) /\ ∀ x ∈ Lib.compactUpTo d m, 0 < m /\ x <= d[m - 1]!
 | 0, _ => by simp [Lib.compactUpTo]
 | m + 1, hm => by
  obtain ⟨h1, h2, h3⟩ := JT hd m (by omega);rw [Lib.compactUpTo_succ]
  by_cases hk : Lib.keeps d m = true
  ·rw [if_pos hk]
   have hk2 : m = 0 \/ d[m]! ≠ d[m - 1]! := by simpa [Lib.keeps] using hk
   have hlt : ∀ x ∈ Lib.compactUpTo d m, x < d[m]! := by
    intro x hx
    obtain ⟨h4, h5⟩ := h3 x hx
    have h6 := hd (m - 1) m (by omega) (by omega)
    rcases hk2 with h7 | h7
    ·omega
    ·omega
   refine ⟨?_, fun x => ?_, fun x hx => ⟨by omega, ?_⟩⟩
   ·rw [List.pairwise_append]
    exact ⟨h1, by simp, fun a ha b hb => by simp at hb; subst hb; exact hlt a ha⟩
   ·rw [List.mem_append, h2 x]
    simp only [List.mem_cons, List.not_mem_nil, or_false]
    constructor
    ·rintro (⟨j, hj, e⟩ | e)
     ·exact ⟨j, by omega, e⟩
     ·exact ⟨m, by omega, e.symm⟩
    ·rintro ⟨j, hj, e⟩
     by_cases hjm : j = m
     ·subst hjm; exact .inr e.symm
     ·exact .inl ⟨j, by omega, e⟩
   ·rw [Nat.add_sub_cancel]
    rcases List.mem_append.1 hx with hx | hx
    ·exact Int.le_of_lt (hlt x hx)
    ·simp at hx; omega
  ·have hk' : Lib.keeps d m = false := by simpa using hk
   rw [hk']
   have hk2 : 0 < m /\ d[m]! = d[m - 1]! := by
    have : ¬ (m = 0 \/ d[m]! ≠ d[m - 1]!) := by simpa [Lib.keeps] using hk'
    omega
   simp only [Bool.false_eq_true, if_false, List.append_nil];refine ⟨h1, fun x => ?_, fun x hx => ⟨by omega, ?_⟩⟩
   ·rw [h2 x]
    constructor
    ·rintro ⟨j, hj, e⟩; exact ⟨j, by omega, e⟩
    ·rintro ⟨j, hj, e⟩
     by_cases hjm : j = m
     ·subst hjm; exact ⟨j - 1, by omega, by rw [<- hk2.2]; exact e⟩
     ·exact ⟨j, by omega, e⟩
   ·rw [Nat.add_sub_cancel]
    have := (h3 x hx).2
    omega
theorem HF {l : List Int} (h : l.Pairwise (· <= ·)) : (Lib.compact l).Pairwise (· < ·) /\ ∀ x, x ∈ Lib.compact l ↔ x ∈ l := by
 have hget : ∀ j, j < l.length -> l.toArray[j]! = l[j]! := fun j _ => by simp
 obtain ⟨h1, h2, _⟩ := JT (d := l.toArray) (fun i j hij hj => by
  simp at hj
  have := List.pairwise_iff_getElem.1 h i j (by omega) hj hij
  simpa [hj, show i < l.length by omega] using this) l.length (by simp)
 refine ⟨h1, fun x => (h2 x).trans ?_⟩
 constructor
 ·rintro ⟨j, hj, e⟩
  rw [<- e]; simp [hj]
 ·intro hx
  obtain ⟨j, hj, e⟩ := List.getElem_of_mem hx;exact ⟨j, hj, by simp [hj, e]⟩
theorem Jq (l : List Int) : (List.mergeSort l fun x y => decide (x <= y)).Pairwise (· <= ·) := by
 have := List.pairwise_mergeSort (le := fun x y : Int => decide (x <= y)) (fun a b c h1 h2 => by simp at *; omega) (fun a b => by simp; omega) l
 exact this.imp (fun h => by simpa using h)
end Go.Proofs.YtkfnogdccpcmhaaGreatDoor
namespace Go.Proofs.YtkfnogdccpcmhaaGreatDoor
open Go.V
open Classical
theorem O2 : ∀ n : Nat, (List.range n).Pairwise (· < ·)
 | 0 => by simp
 | n + 1 => by
  rw [List.range_succ, List.pairwise_append];exact ⟨O2 n, by simp, fun a ha b hb => by simp at ha hb; omega⟩
end Go.Proofs.YtkfnogdccpcmhaaGreatDoor
namespace Go.Proofs.YtkfnogdccpcmhaaGreatDoor
open Go.V
open Classical
def Au (f : Int -> Int) (n : ANd) : ANd := ⟨n.kind, bif pB n.kind then f n.a else n.a, bif pB n.kind then f n.b else n.b, n.l.map (fun x => ⟨x.name, f x.at_⟩)⟩
theorem LG (n : ANd) (p : Int -> Option Int) (f : Int -> Int) (h : NB n) (h1 : pB n.kind = true -> p n.a = some (f n.a) /\ p n.b = some (f n.b)) (h2 : ∀ x ∈ n.l, p x.at_ = some (f x.at_)) : C2 n p = some (Au f n) := by
 unfold C2 Au;unfold NB at h;rw [show CB n.kind = some (pB n.kind) from rfl, oB]
 have key : ∀ z1 z2 z3, BQ p n.l FU (0, n.l, z1, z2, z3) = some (n.l.map (fun x => ⟨x.name, f x.at_⟩), z1, z2, z3) := by
  intro z1 z2 z3
  refine N5 (φ := fun k i s => BQ p n.l k (i, s, z1, z2, z3)) (l := n.l) (fun x => ⟨x.name, f x.at_⟩) (fun s => (s, z1, z2, z3)) ?_ ?_ (by rw [FUv]; omega)
  ·intro k i x s hx hi hs hsx
   simp only [BQ];rw [dT (show (i : Int) < n.l.length by omega), cT, getI hsx, oB, h2 x (List.mem_of_getElem? hx), oB, oB, Ab (by omega), Int.toNat_natCast]
  ·intro k s hs
   simp only [BQ];rw [dF (by omega), cF_]
 cases hp : pB n.kind with
 | true =>
  obtain ⟨ha, hb⟩ := h1 hp;rw [cT, ha, oB, hb, oB, oB]
  dsimp only
  rw [Ab (by omega), key, oB]; rfl
 | false =>
  rw [cF_, oB]
  dsimp only
  rw [Ab (by omega), key, oB]; rfl
theorem Jd {n : ANd} {all : Int} (h : Bi n all = true) (hw : wB n.kind = false) : n.l = [] := by
 unfold Bi at h;simp only [Bool.and_eq_true, Bool.not_eq_true'] at h
 have h2 := h.2.2.2.1
 rw [hw, Bool.not_false, Bool.true_and, decide_eq_false_iff_not] at h2;exact List.length_eq_zero_iff.1 (by omega)
theorem Rz {k : Int} (h : wB k = true) : pB k = false := by
 unfold wB at h; unfold pB
 rw [Bool.or_eq_true, decide_eq_true_eq, decide_eq_true_eq] at h
 rcases h with h | h <;> rw [h] <;> rfl
theorem Gc {n : ANd} {all : Int} (h : Bi n all = true) : (pB n.kind = true -> (0 <= n.a /\ n.a < all) /\ (0 <= n.b /\ n.b < all)) /\ ∀ x ∈ n.l, 0 <= x.at_ /\ x.at_ < all := by
 have hk := JW h
 unfold kidsL at hk
 constructor
 ·intro hp
  rw [hp, cT] at hk;exact ⟨hk n.a (by simp), hk n.b (by simp)⟩
 ·intro x hx
  cases hw : wB n.kind with
  | false => rw [Jd h hw] at hx; simp at hx
  | true =>
   rw [Rz hw, cF_, hw, cT] at hk;exact hk x.at_ (List.mem_map.2 ⟨x, hx, rfl⟩)
noncomputable def AS (a b : ATy) : ATy := ⟨a.l ++ b.l.map (Au (fun k => k + (a.l.length : Int))), a.root⟩
theorem Rr (a b : ATy) (ha : a.l.length <= 4001) (hb : b.l.length <= 2001) (hN : ∀ n ∈ b.l, NB n) (hR : Bg b.l) : Em a b = some (AS a b, (a.l.length : Int)) := by
 unfold Em;rw [Ab (by omega)];rw [CF (φ := fun n i s => Cg a b n (i, a.root, s)) (l := b.l) (Au (fun k => k + (a.l.length : Int))) (fun s => (a.root, s)) a.l.length ?_ ?_ (by rw [FUv]; omega) a.l rfl]
 ·rfl
 ·intro n i x s hx hi hs
  have hr := Gc (hR x (List.mem_of_getElem? hx))
  simp only [Cg];rw [dT (show (i : Int) < b.l.length by omega), cT, getI hx, oB, show (⟨x.kind, x.a, x.b, x.l⟩ : ANd) = x from rfl, LG x _ (fun k => k + (a.l.length : Int)) (hN x (List.mem_of_getElem? hx)) (fun hp => by
   obtain ⟨⟨a0, a1⟩, b0, b1⟩ := hr.1 hp;unfold BK;rw [Ab (by omega), Ab (by omega)]; exact ⟨rfl, rfl⟩) (fun y hy => by
   obtain ⟨y0, y1⟩ := hr.2 y hy;unfold BK;rw [Ab (by omega)]), oB, Ab (by simp only [List.length_cons, List.length_nil]; omega), Ab (by omega)]
 ·intro n s hs
  simp only [Cg];rw [dF (by omega), cF_]
theorem Mw (a b : ATy) (ha : a.l.length <= 4001) (hb : b.l.length <= 2001) (hN : ∀ n ∈ b.l, NB n) (hR : Bg b.l) : Ge a b = some (AS a b, (a.l.length : Int)) := by
 unfold Ge;rw [Ab (by omega), List.nil_append];rw [CF (φ := fun n i s => DA a b n (i, a.root, s)) (l := b.l) (Au (fun k => k + (a.l.length : Int))) (fun s => (a.root, s)) a.l.length ?_ ?_ (by rw [FUv]; omega) a.l rfl]
 ·rfl
 ·intro n i x s hx hi hs
  have hr := Gc (hR x (List.mem_of_getElem? hx))
  have hNx := hN x (List.mem_of_getElem? hx)
  unfold NB at hNx
  have key : C0 a x.l FU (0, []) = some (x.l.map (fun y => ⟨y.name, y.at_ + (a.l.length : Int)⟩)) := by
   rw [CF (φ := fun n i s => C0 a x.l n (i, s)) (l := x.l) (fun y => (⟨y.name, y.at_ + (a.l.length : Int)⟩ : AFd)) id 0 ?_ ?_ (by rw [FUv]; omega) [] rfl]
   ·rfl
   ·intro n i y s hy hi hs
    obtain ⟨y0, y1⟩ := hr.2 y (List.mem_of_getElem? hy);simp only [C0];rw [dT (show (i : Int) < x.l.length by omega), cT, getI hy, oB, oB, Ab (by omega), Ab (by simp only [List.length_cons, List.length_nil]; omega), Ab (by omega)]
   ·intro n s hs
    simp only [C0];rw [dF (by omega), cF_]; rfl
  simp only [DA];rw [dT (show (i : Int) < b.l.length by omega), cT, getI hx, oB]
  change ((bif pB x.kind then _ else _ : Option (Int × Int × Int × (List AFd))).bind _) = _
  unfold Au
  cases hp : pB x.kind with
  | true =>
   obtain ⟨⟨a0, a1⟩, b0, b1⟩ := hr.1 hp;rw [cT, Ab (by omega), Ab (by omega), oB]
   dsimp only
   rw [key, oB, Ab (by simp only [List.length_cons, List.length_nil]; omega), Ab (by omega)]
   rfl
  | false =>
   rw [cF_, oB]
   dsimp only
   rw [key, oB, Ab (by simp only [List.length_cons, List.length_nil]; omega), Ab (by omega)]
   rfl
 ·intro n s hs
  simp only [DA];rw [dF (by omega), cF_]
theorem node_ext {x y : ANd} : x = y ↔ x.kind = y.kind /\ x.a = y.a /\ x.b = y.b /\ x.l = y.l := by
 obtain ⟨a, b, c, d⟩ := x;obtain ⟨a', b', c', d'⟩ := y
 simp
theorem MH {n : ANd} {f : Int -> Int} (h : NB n) : NB (Au f n) := by unfold NB Au at *; simpa using h
theorem QO {a b : ATy} (ha : ∀ n ∈ a.l, NB n) (hb : ∀ n ∈ b.l, NB n) : ∀ n ∈ (AS a b).l, NB n := by
 intro n hn
 rcases List.mem_append.1 hn with hn | hn
 ·exact ha n hn
 ·obtain ⟨m, hm, rfl⟩ := List.mem_map.1 hn
  exact MH (hb m hm)
end Go.Proofs.YtkfnogdccpcmhaaGreatDoor
namespace Go.Proofs.YtkfnogdccpcmhaaGreatDoor
open Go.V
open Classical
def In (t : ATy) (i : Int) : Prop := 0 <= i /\ i < (t.l.length : Int)
def nd (t : ATy) (i : Int) : ANd := (t.l[i.toNat]?).getD ⟨0, 0, 0, []⟩
theorem Lw {t : ATy} {i : Int} (h : In t i) : t.l[i.toNat]? = some (nd t i) := by
 unfold nd
 have h1 : i.toNat < t.l.length := by have := h.1; have := h.2; omega
 rw [List.getElem?_eq_getElem h1]; rfl
theorem Fw {t : ATy} {i : Int} (h : In t i) : nd t i ∈ t.l := List.mem_of_getElem? (Lw h)
def cs (l : List Int) : List Int := Lib.compact (List.mergeSort l fun x y => decide (x <= y))
theorem mem_cs {l : List Int} {x : Int} : x ∈ cs l ↔ x ∈ l := by
 unfold cs;rw [(HF (Jq l)).2 x, List.mem_mergeSort]
theorem Bk (l : List Int) : (cs l).Pairwise (· < ·) := (HF (Jq l)).1
theorem Qn {l m : List Int} (h : l.Pairwise (· < ·)) (hm : ∀ x, x ∈ l ↔ x ∈ m) : l = cs m := LF l (cs m) h (Bk m) (fun x => by rw [hm x, mem_cs])
def wsum (w : Int -> Nat) : List Int -> Nat
 | [] => 0
 | x :: l => w x + wsum w l
theorem Lb (w : Int -> Nat) : ∀ l m : List Int, wsum w (l ++ m) = wsum w l + wsum w m
 | [], m => by simp [wsum]
 | x :: l, m => by simp only [List.cons_append, wsum, Lb w l m]; omega
theorem J4 {w : Int -> Nat} {l m : List Int} (h : l.Perm m) : wsum w l = wsum w m := by
 induction h with
 | nil => rfl
 | cons x _ ih => simp only [wsum, ih]
 | swap x y l => simp only [wsum]; omega
 | trans _ _ a b => exact a.trans b
theorem O4 (w : Int -> Nat) : ∀ s l : List Int, s.Nodup -> (∀ x ∈ s, x ∈ l) -> wsum w s <= wsum w l
 | [], l, _, _ => Nat.zero_le _
 | x :: s, l, hn, h => by
  obtain ⟨h1, h2⟩ := List.nodup_cons.1 hn
  have hp := List.perm_cons_erase (h x (by simp))
  have := O4 w s (l.erase x) h2 (fun y hy => (List.mem_erase_of_ne (fun e => h1 (by rw [<- e]; exact hy))).2 (h y (by simp [hy])))
  rw [J4 hp];simp only [wsum]; omega
theorem PZ (w : Int -> Nat) (l : List Int) : wsum w (cs l) <= wsum w l := O4 w (cs l) l ((Bk l).imp (fun h => by omega)) (fun x hx => mem_cs.1 hx)
structure OkT (t : ATy) : Prop where
 right : Bg t.l
 ends : D6 t.l
theorem OkT.kind {t : ATy} (h : OkT t) {i : Int} (hi : In t i) : 1 <= (nd t i).kind /\ (nd t i).kind <= 11 := by
 have := h.right _ (Fw hi)
 unfold Bi at this;simp only [Bool.and_eq_true, Bool.not_eq_true', Bool.or_eq_false_iff, decide_eq_false_iff_not] at this
 have := this.1; omega
theorem OkT.kids {t : ATy} (h : OkT t) {i : Int} (hi : In t i) {k : Int} (hk : k ∈ kidsL (nd t i)) : In t k := AD h.right _ (Fw hi) k hk
theorem OkT.pair {t : ATy} (h : OkT t) {i : Int} (hi : In t i) (hk : (nd t i).kind = 6 \/ (nd t i).kind = 9 \/ (nd t i).kind = 10) : In t (nd t i).a /\ In t (nd t i).b := by
 have h1 : kidsL (nd t i) = [(nd t i).a, (nd t i).b] := by
  unfold kidsL pB
  rcases hk with hk | hk | hk <;> rw [hk] <;> rfl
 exact ⟨h.kids hi (by rw [h1]; simp), h.kids hi (by rw [h1]; simp)⟩
theorem OkT.at_ {t : ATy} (h : OkT t) {i : Int} (hi : In t i) {f : AFd} (hf : f ∈ (nd t i).l) : In t f.at_ := (Gc (h.right _ (Fw hi))).2 f hf
theorem OkT.weight {t : ATy} (h : OkT t) : ∃ w : Int -> Nat, ∀ i, In t i -> latB (nd t i).kind = true -> w (nd t i).a + w (nd t i).b < w i := by
 have key : ∀ i : Nat, ∃ r : Nat, i < t.l.length -> endk t.l (r + 1) i = true /\ endk t.l r i = false := by
  intro i
  by_cases hi : i < t.l.length
  ·obtain ⟨m, hm⟩ := h.ends i hi
   obtain ⟨k, _, h1, h2⟩ := Jf m hm;exact ⟨k, fun _ => ⟨h1, h2⟩⟩
  ·exact ⟨0, fun h => absurd h hi⟩
 obtain ⟨r, hr⟩ := Classical.axiomOfChoice key;refine ⟨fun i => 3 ^ r i.toNat, fun i hi hl => ?_⟩
 have hil : i.toNat < t.l.length := by have := hi.1; have := hi.2; omega
 have hp : In t (nd t i).a /\ In t (nd t i).b := h.pair hi (by unfold latB at hl; simp only [Bool.or_eq_true, decide_eq_true_eq] at hl; exact .inr hl)
 obtain ⟨h1, h2⟩ := hr i.toNat hil
 have hlt : ∀ k : Int, In t k -> endk t.l (r i.toNat) k.toNat = true -> r k.toNat < r i.toNat := by
  intro k hk he
  have hkl : k.toNat < t.l.length := by have := hk.1; have := hk.2; omega
  rcases Nat.lt_or_ge (r k.toNat) (r i.toNat) with h3 | h3
  ·exact h3
  ·have := EC h3 he; rw [(hr _ hkl).2] at this; cases this
 have h3 : endk t.l (r i.toNat) (nd t i).a.toNat = true /\ endk t.l (r i.toNat) (nd t i).b.toNat = true := by
  unfold endk at h1;rw [Lw hi] at h1;simp only [hl, Bool.not_true, Bool.false_or, Bool.and_eq_true] at h1;exact h1
 have ha := hlt _ hp.1 h3.1
 have hb := hlt _ hp.2 h3.2
 obtain ⟨m, hm⟩ : ∃ m, r i.toNat = m + 1 := ⟨r i.toNat - 1, by omega⟩
 have h4 : 3 ^ r (nd t i).a.toNat <= 3 ^ m := Nat.pow_le_pow_right (by omega) (by omega)
 have h5 : 3 ^ r (nd t i).b.toNat <= 3 ^ m := Nat.pow_le_pow_right (by omega) (by omega)
 have h6 : 3 ^ (m + 1) = 3 * 3 ^ m := by rw [Nat.pow_succ]; omega
 have h7 : 0 < 3 ^ m := Nat.pow_pos (by omega)
 show 3 ^ r (nd t i).a.toNat + 3 ^ r (nd t i).b.toNat < 3 ^ r i.toNat
 rw [hm, h6]; omega
def atN (n : ANd) (s : List UInt8) : Option Int := (n.l.find? fun f => decide (f.name = s)).map (·.at_)
theorem Qt {n : ANd} {s : List UInt8} {k : Int} (h : atN n s = some k) : ∃ f ∈ n.l, f.name = s /\ f.at_ = k := by
 unfold atN at h
 cases hq : n.l.find? fun f => decide (f.name = s) with
 | none => rw [hq] at h; cases h
 | some f => rw [hq] at h; exact ⟨f, List.mem_of_find?_eq_some hq, by simpa using List.find?_some hq, by simpa using h⟩
theorem Se {n : ANd} {s : List UInt8} : atN n s ≠ none ↔ s ∈ n.l.map (·.name) := by
 unfold atN
 constructor
 ·intro h
  cases hq : n.l.find? fun f => decide (f.name = s) with
  | none => rw [hq] at h; exact absurd rfl h
  | some f => exact List.mem_map.2 ⟨f, List.mem_of_find?_eq_some hq, by simpa using List.find?_some hq⟩
 ·intro h hq
  obtain ⟨f, hf, rfl⟩ := List.mem_map.1 h;rw [Option.map_eq_none_iff, List.find?_eq_none] at hq
  simpa using hq f hf
def AL (t : ATy) (l : List Int) (s : List UInt8) : List Int := l.filterMap fun i => atN (nd t i) s
def Dj (t : ATy) : List Int -> List (List UInt8)
 | [] => []
 | i :: l => ((nd t i).l.map (·.name)).filter fun s => (i :: l).all fun j => (atN (nd t j) s).isSome
def ofK (t : ATy) (l : List Int) (k : Int) : List Int := l.filter fun i => decide ((nd t i).kind = k)
def latA (t : ATy) (l : List Int) : Option (ANd × List Int) := (l.findIdx? fun i => latB (nd t i).kind).map fun k => (nd t (l.getD k 0), l.take k ++ l.drop (k + 1))
def openA (t : ATy) (q : BSq) : Option (List BSq) := match latA t q.left with
 | some (n, rest) => some (if n.kind = 10 then [⟨cs (rest ++ [n.a, n.b]), q.right⟩] else [⟨cs (rest ++ [n.a]), q.right⟩, ⟨cs (rest ++ [n.b]), q.right⟩])
 | none => match latA t q.right with
  | some (n, rest) => some (if n.kind = 9 then [⟨q.left, cs (rest ++ [n.a, n.b])⟩] else [⟨q.left, cs (rest ++ [n.a])⟩, ⟨q.left, cs (rest ++ [n.b])⟩])
  | none => none
def badA (t : ATy) (l r : List Int) (s : List UInt8) : Bool := (AL t l s).isEmpty || (AL t r s).isEmpty
def allA (t : ATy) (k : Int) (l r : List Int) : List (List UInt8) := if k = 7 then Dj t r else if k = 8 then Dj t l else []
def Cb (t : ATy) (k : Int) (l r : List Int) : Bool × List BSq :=
 if k ≠ 8 /\ r = [] then (true, []) else
 if k = 6 then (false, [⟨cs (r.map fun i => (nd t i).a), cs (l.map fun i => (nd t i).a)⟩, ⟨cs (l.map fun i => (nd t i).b), cs (r.map fun i => (nd t i).b)⟩]) else
 if (allA t k l r).any (badA t l r) then (true, []) else (false, (allA t k l r).map fun s => ⟨cs (AL t l s), cs (AL t r s)⟩)
def CQ (t : ATy) (l : List Int) : List Int := [3, 4, 5, 6, 7, 8].filter fun k => l.any fun i => decide ((nd t i).kind = k)
def DG (t : ATy) (q : BSq) : Bool × List BSq := match CQ t q.left with
 | [] => (true, [])
 | [k] => Cb t k (ofK t q.left k) (ofK t q.right k)
 | _ => (false, [])
def endA (t : ATy) (q : BSq) : Bool := (q.left.any fun i => decide ((nd t i).kind = 2)) || (q.right.any fun i => decide ((nd t i).kind = 1))
def FX (t : ATy) (q : BSq) : Bool := q.left.any fun i => q.right.any fun j => decide ((nd t i).kind = 11) && decide ((nd t j).kind = 11) && decide ((nd t i).a = (nd t j).a)
def AX (t : ATy) (q : BSq) : Bool × List BSq :=
 if endA t q = true then (false, []) else match openA t q with
 | some l => (false, l)
 | none => if FX t q = true then (false, []) else DG t q
theorem D8 {t : ATy} {l rest : List Int} {n : ANd} (h : latA t l = some (n, rest)) : ∃ i, n = nd t i /\ latB n.kind = true /\ l.Perm (i :: rest) := by
 unfold latA at h
 cases hq : l.findIdx? fun i => latB (nd t i).kind with
 | none => rw [hq] at h; cases h
 | some k =>
  rw [hq] at h;simp only [Option.map_some, Option.some.injEq, Prod.mk.injEq] at h;obtain ⟨rfl, rfl⟩ := h;rw [List.findIdx?_eq_some_iff_getElem] at hq;obtain ⟨hk, h1, _⟩ := hq
  have e : l.getD k 0 = l[k] := by rw [List.getD_eq_getElem?_getD, List.getElem?_eq_getElem hk]; rfl
  refine ⟨l[k], by rw [e], by rw [e]; exact h1, ?_⟩
  have e2 : l = l.take k ++ l[k] :: l.drop (k + 1) := by rw [<- List.drop_eq_getElem_cons hk, List.take_append_drop]
  have h3 := List.perm_middle (a := l[k]) (l₁ := l.take k) (l₂ := l.drop (k + 1))
  rw [<- e2] at h3;exact h3
theorem GV {t : ATy} {l : List Int} (h : latA t l = none) : ∀ i ∈ l, latB (nd t i).kind = false := by
 unfold latA at h;rw [Option.map_eq_none_iff, List.findIdx?_eq_none_iff] at h
 intro i hi
 simpa using h i hi
theorem mem_names {t : ATy} {l : List Int} {s : List UInt8} : s ∈ Dj t l ↔ l ≠ [] /\ ∀ i ∈ l, atN (nd t i) s ≠ none := by
 cases l with
 | nil => simp [Dj]
 | cons i l =>
  unfold Dj;rw [List.mem_filter, <- Se, List.all_eq_true]
  constructor
  ·rintro ⟨_, h2⟩
   exact ⟨by simp, fun j hj => by have := h2 j hj; cases hq : atN (nd t j) s with
    | none => rw [hq] at this; cases this
    | some _ => simp⟩
  ·rintro ⟨_, h2⟩
   exact ⟨h2 i (by simp), fun j hj => by have := h2 j hj; cases hq : atN (nd t j) s with
    | none => exact absurd hq this
    | some _ => rfl⟩
theorem mem_parts {t : ATy} {l : List Int} {s : List UInt8} {k : Int} : k ∈ AL t l s ↔ ∃ i ∈ l, atN (nd t i) s = some k := by unfold AL; rw [List.mem_filterMap]
theorem mem_ofK {t : ATy} {l : List Int} {k i : Int} : i ∈ ofK t l k ↔ i ∈ l /\ (nd t i).kind = k := by unfold ofK; rw [List.mem_filter, decide_eq_true_eq]
theorem mem_kinds {t : ATy} {l : List Int} {k : Int} : k ∈ CQ t l ↔ (3 <= k /\ k <= 8) /\ ∃ i ∈ l, (nd t i).kind = k := by
 unfold CQ;rw [List.mem_filter, List.any_eq_true];simp only [List.mem_cons, List.not_mem_nil, or_false, decide_eq_true_eq]
 constructor
 ·rintro ⟨h1, h2⟩; exact ⟨by omega, h2⟩
 ·rintro ⟨h1, h2⟩; exact ⟨by omega, h2⟩
theorem Kt (t : ATy) (l : List Int) : (CQ t l).Nodup := by unfold CQ; exact List.Nodup.sublist List.filter_sublist (by decide)
inductive Pt
 | tag (S : Int -> Prop) (k : Int)
 | dom (S : Int -> Prop) (q : Pt)
 | cod (S : Int -> Prop) (q : Pt)
 | absent (S : Int -> Prop) (s : List UInt8)
 | field (S : Int -> Prop) (s : List UInt8) (q : Pt)
 | hasc (S : Int -> Prop) (s : List UInt8)
 | case (S : Int -> Prop) (s : List UInt8) (q : Pt)
def Pt.vars : Pt -> Int -> Prop
 | .tag S _ => S
 | .dom S _ => S
 | .cod S _ => S
 | .absent S _ => S
 | .field S _ _ => S
 | .hasc S _ => S
 | .case S _ _ => S
def Pt.kind : Pt -> Int
 | .tag _ k => k
 | .dom _ _ => 6
 | .cod _ _ => 6
 | .absent _ _ => 7
 | .field _ _ _ => 7
 | .hasc _ _ => 8
 | .case _ _ _ => 8
def Pt.size : Pt -> Nat
 | .tag _ _ => 0
 | .dom _ q => q.size + 1
 | .cod _ q => q.size + 1
 | .absent _ _ => 0
 | .field _ _ q => q.size + 1
 | .hasc _ _ => 0
 | .case _ _ q => q.size + 1
inductive La (t : ATy) (S : Int -> Prop) (D : ANd -> Prop) : Int -> Prop
 | top {i : Int} : (nd t i).kind = 1 -> La t S D i
 | inl {i : Int} : (nd t i).kind = 9 -> La t S D (nd t i).a -> La t S D i
 | inr {i : Int} : (nd t i).kind = 9 -> La t S D (nd t i).b -> La t S D i
 | both {i : Int} : (nd t i).kind = 10 -> La t S D (nd t i).a -> La t S D (nd t i).b -> La t S D i
 | var {i : Int} : (nd t i).kind = 11 -> S (nd t i).a -> La t S D i
 | head {i : Int} : 3 <= (nd t i).kind -> (nd t i).kind <= 8 -> D (nd t i) -> La t S D i
def hdP (t : ATy) : Pt -> ANd -> Prop
 | .tag _ k, x => x.kind = k /\ k ≠ 8
 | .dom _ q, x => x.kind = 6 /\ ¬ La t q.vars (hdP t q) x.a
 | .cod _ q, x => x.kind = 6 /\ La t q.vars (hdP t q) x.b
 | .absent _ s, x => x.kind = 7 /\ atN x s = none
 | .field _ s q, x => x.kind = 7 /\ ∀ k, atN x s = some k -> La t q.vars (hdP t q) k
 | .hasc _ s, x => x.kind = 8 /\ atN x s ≠ none
 | .case _ s q, x => x.kind = 8 /\ ∃ k, atN x s = some k /\ La t q.vars (hdP t q) k
def Sat (t : ATy) (p : Pt) (i : Int) : Prop := La t p.vars (hdP t p) i
theorem Ls {t : ATy} {p : Pt} {x : ANd} (h : hdP t p x) : x.kind = p.kind := by
 cases p <;> exact h.1
section
variable {t : ATy} {S : Int -> Prop} {D : ANd -> Prop} {i : Int}
theorem TP (h : (nd t i).kind = 1) : La t S D i := .top h
theorem TR (h : (nd t i).kind = 2) : ¬ La t S D i := by intro h2; cases h2 <;> omega
theorem IJ (h : (nd t i).kind = 9) : La t S D i ↔ La t S D (nd t i).a \/ La t S D (nd t i).b := by
 constructor
 ·intro h2
  cases h2 with
  | inl _ h3 => exact .inl h3
  | inr _ h3 => exact .inr h3
  | top h3 => omega
  | both h3 _ _ => omega
  | var h3 _ => omega
  | head h3 h4 _ => omega
 ·rintro (h2 | h2)
  ·exact .inl h h2
  ·exact .inr h h2
theorem Jk (h : (nd t i).kind = 10) : La t S D i ↔ La t S D (nd t i).a /\ La t S D (nd t i).b := by
 constructor
 ·intro h2
  cases h2 with
  | both _ h3 h4 => exact ⟨h3, h4⟩
  | inl h3 _ => omega
  | inr h3 _ => omega
  | top h3 => omega
  | var h3 _ => omega
  | head h3 h4 _ => omega
 ·rintro ⟨h2, h3⟩; exact .both h h2 h3
theorem R2 (h : (nd t i).kind = 11) : La t S D i ↔ S (nd t i).a := by
 constructor
 ·intro h2
  cases h2 with
  | var _ h3 => exact h3
  | both h3 _ _ => omega
  | inl h3 _ => omega
  | inr h3 _ => omega
  | top h3 => omega
  | head h3 h4 _ => omega
 ·intro h2; exact .var h h2
theorem FA (h : 3 <= (nd t i).kind) (h' : (nd t i).kind <= 8) : La t S D i ↔ D (nd t i) := by
 constructor
 ·intro h2
  cases h2 with
  | head _ _ h3 => exact h3
  | both h3 _ _ => omega
  | inl h3 _ => omega
  | inr h3 _ => omega
  | top h3 => omega
  | var h3 _ => omega
 ·intro h2; exact .head h h' h2
end
def CE (t : ATy) (p : Pt) (q : BSq) : Prop := (∀ i ∈ q.left, Sat t p i) /\ ∀ i ∈ q.right, ¬ Sat t p i
def InQ (t : ATy) (q : BSq) : Prop := (∀ i ∈ q.left, In t i) /\ ∀ i ∈ q.right, In t i
structure BB (t : ATy) (q : BSq) : Prop where
 bot : ∀ i ∈ q.left, (nd t i).kind ≠ 2
 top : ∀ i ∈ q.right, (nd t i).kind ≠ 1
 latL : ∀ i ∈ q.left, latB (nd t i).kind = false
 latR : ∀ i ∈ q.right, latB (nd t i).kind = false
 share : ∀ i ∈ q.left, ∀ j ∈ q.right, (nd t i).kind = 11 -> (nd t j).kind = 11 -> (nd t i).a ≠ (nd t j).a
theorem Pi {k : Int} (h : latB k = false) : k ≠ 9 /\ k ≠ 10 := by
 unfold latB at h;simp only [Bool.or_eq_false_iff, decide_eq_false_iff_not] at h;exact h
theorem Fe {k : Int} (h : latB k = true) : k = 9 \/ k = 10 := by
 unfold latB at h
 simpa only [Bool.or_eq_true, decide_eq_true_eq] using h
def SV (t : ATy) (q : BSq) : Int -> Prop := fun v => ∃ i ∈ q.left, (nd t i).kind = 11 /\ (nd t i).a = v
theorem KE {t : ATy} {q : BSq} {p : Pt} (hO : OkT t) (hq : InQ t q) (hC : BB t q) (hS : p.vars = SV t q)
  (hL : ∀ i ∈ q.left, 3 <= (nd t i).kind -> (nd t i).kind <= 8 -> hdP t p (nd t i)) (hR : ∀ i ∈ q.right, 3 <= (nd t i).kind -> (nd t i).kind <= 8 -> ¬ hdP t p (nd t i)) : CE t p q := by
 constructor
 ·intro i hi
  have hk := hO.kind (hq.1 i hi)
  have h2 := hC.bot i hi
  have h3 := Pi (hC.latL i hi)
  by_cases h1 : (nd t i).kind = 1
  ·exact .top h1
  ·by_cases h11 : (nd t i).kind = 11
   ·refine .var h11 ?_
    rw [hS]; exact ⟨i, hi, h11, rfl⟩
   ·exact .head (by omega) (by omega) (hL i hi (by omega) (by omega))
 ·intro i hi hs
  have h1 := hC.top i hi
  have h3 := Pi (hC.latR i hi)
  unfold Sat at hs
  cases hs with
  | top h => exact h1 h
  | inl h _ => exact h3.1 h
  | inr h _ => exact h3.1 h
  | both h _ _ => exact h3.2 h
  | var h h4 =>
   rw [hS] at h4;obtain ⟨j, hj, hj1, hj2⟩ := h4;exact hC.share j hj i hi hj1 h hj2
  | head h4 h5 h6 => exact hR i hi h4 h5 h6
theorem MT {t : ATy} {l : List Int} (h : CQ t l = []) : ∀ i ∈ l, 3 <= (nd t i).kind -> (nd t i).kind <= 8 -> False := by
 intro i hi h1 h2
 have := (mem_kinds (t := t) (l := l)).2 ⟨⟨h1, h2⟩, i, hi, rfl⟩
 rw [h] at this; cases this
theorem FJ {t : ATy} {l : List Int} {k : Int} (h : CQ t l = [k]) : (3 <= k /\ k <= 8) /\ (∃ i ∈ l, (nd t i).kind = k) /\ ∀ i ∈ l, 3 <= (nd t i).kind -> (nd t i).kind <= 8 -> (nd t i).kind = k := by
 have h0 := (mem_kinds (t := t) (l := l) (k := k)).1 (by rw [h]; simp)
 refine ⟨h0.1, h0.2, fun i hi h1 h2 => ?_⟩
 have := (mem_kinds (t := t) (l := l)).2 ⟨⟨h1, h2⟩, i, hi, rfl⟩
 rw [h] at this; simpa using this
theorem QV {t : ATy} {l m : List Int} {a b : Int} (h : CQ t l = a :: b :: m) : ∃ i ∈ l, ∃ j ∈ l, (3 <= (nd t i).kind /\ (nd t i).kind <= 8) /\ (3 <= (nd t j).kind /\ (nd t j).kind <= 8) /\ (nd t i).kind ≠ (nd t j).kind := by
 have ha := (mem_kinds (t := t) (l := l) (k := a)).1 (by rw [h]; simp)
 have hb := (mem_kinds (t := t) (l := l) (k := b)).1 (by rw [h]; simp)
 have hn := Kt t l
 rw [h] at hn
 have hab : a ≠ b := fun e => by subst e; exact (List.nodup_cons.1 hn).1 (by simp)
 obtain ⟨i, hi, rfl⟩ := ha.2;obtain ⟨j, hj, rfl⟩ := hb.2;exact ⟨i, hi, j, hj, ha.1, hb.1, hab⟩
theorem OA {t : ATy} {l r : List Int} {s : List UInt8} (h : badA t l r s = true) : (∀ i ∈ l, atN (nd t i) s = none) \/ ∀ i ∈ r, atN (nd t i) s = none := by
 unfold badA at h;rw [Bool.or_eq_true, List.isEmpty_iff, List.isEmpty_iff] at h
 have key : ∀ l : List Int, AL t l s = [] -> ∀ i ∈ l, atN (nd t i) s = none := by
  intro l hl i hi
  cases hq : atN (nd t i) s with
  | none => rfl
  | some k => have := (mem_parts (t := t) (l := l)).2 ⟨i, hi, hq⟩; rw [hl] at this; cases this
 exact h.imp (key l) (key r)
theorem R8 {t : ATy} {l r : List Int} {s : List UInt8} (h : (∀ i ∈ l, atN (nd t i) s = none) \/ ∀ i ∈ r, atN (nd t i) s = none) : badA t l r s = true := by
 unfold badA;rw [Bool.or_eq_true, List.isEmpty_iff, List.isEmpty_iff]
 have key : ∀ l : List Int, (∀ i ∈ l, atN (nd t i) s = none) -> AL t l s = [] := by
  intro l hl
  rw [List.eq_nil_iff_forall_not_mem]
  intro k hk
  obtain ⟨i, hi, h2⟩ := mem_parts.1 hk;rw [hl i hi] at h2; cases h2
 exact h.imp (key l) (key r)
theorem Rj {t : ATy} {q : BSq} {k : Int} (hO : OkT t) (hq : InQ t q) (hC : BB t q) (hk : CQ t q.left = [k]) (h : (Cb t k (ofK t q.left k) (ofK t q.right k)).1 = true) : ∃ p, CE t p q := by
 obtain ⟨h0, ⟨i0, hi0, hk0⟩, h1⟩ := FJ hk;unfold Cb at h
 split at h
 ·rename_i hr
  refine ⟨.tag (SV t q) k, KE hO hq hC Uj (fun i hi h3 h8 => ⟨h1 i hi h3 h8, hr.1⟩) (fun i hi h3 h8 hd => ?_)⟩
  have := mem_ofK.2 ⟨hi, hd.1⟩
  rw [hr.2] at this; cases this
 ·rename_i hr
  split at h
  ·cases h
  ·split at h
   ·rename_i h2
    rw [List.any_eq_true] at h2;obtain ⟨s, hs, hb⟩ := h2;unfold allA at hs
    split at hs
    ·rename_i h7; subst h7
     obtain ⟨hne, hall⟩ := mem_names.1 hs
     rcases OA hb with hb | hb
     ·refine ⟨.absent (SV t q) s, KE hO hq hC Uj (fun i hi h3 h8 => ⟨h1 i hi h3 h8, hb i (mem_ofK.2 ⟨hi, h1 i hi h3 h8⟩)⟩) (fun i hi h3 h8 hd => ?_)⟩
      exact hall i (mem_ofK.2 ⟨hi, hd.1⟩) hd.2
     ·exfalso
      cases hq' : ofK t q.right 7 with
      | nil => exact hne hq'
      | cons j m => exact hall j (by rw [hq']; simp) (hb j (by rw [hq']; simp))
    ·split at hs
     ·rename_i h8; subst h8
      obtain ⟨hne, hall⟩ := mem_names.1 hs
      rcases OA hb with hb | hb
      ·exfalso
       exact hall i0 (mem_ofK.2 ⟨hi0, hk0⟩) (hb i0 (mem_ofK.2 ⟨hi0, hk0⟩))
      ·refine ⟨.hasc (SV t q) s, KE hO hq hC Uj (fun i hi h3 h8 => ⟨h1 i hi h3 h8, hall i (mem_ofK.2 ⟨hi, h1 i hi h3 h8⟩)⟩) (fun i hi h3 h8 hd => ?_)⟩
       exact hd.2 (hb i (mem_ofK.2 ⟨hi, hd.1⟩))
     ·cases hs
   ·cases h
theorem RC {t : ATy} {q s : BSq} {k : Int} {p : Pt} (hO : OkT t) (hq : InQ t q) (hC : BB t q) (hk : CQ t q.left = [k]) (hs : s ∈ (Cb t k (ofK t q.left k) (ofK t q.right k)).2) (hp : CE t p s) : ∃ p, CE t p q := by
 obtain ⟨h0, ⟨i0, hi0, hk0⟩, h1⟩ := FJ hk;unfold Cb at hs
 split at hs
 ·cases hs
 ·rename_i hr
  split at hs
  ·rename_i h6; subst h6
   simp only [List.mem_cons, List.not_mem_nil, or_false] at hs
   rcases hs with rfl | rfl
   ·refine ⟨.dom (SV t q) p, KE hO hq hC Uj (fun i hi h3 h8 => ⟨h1 i hi h3 h8, ?_⟩) (fun i hi h3 h8 hd => ?_)⟩
    ·exact hp.2 _ (mem_cs.2 (List.mem_map.2 ⟨i, mem_ofK.2 ⟨hi, h1 i hi h3 h8⟩, rfl⟩))
    ·exact hd.2 (hp.1 _ (mem_cs.2 (List.mem_map.2 ⟨i, mem_ofK.2 ⟨hi, hd.1⟩, rfl⟩)))
   ·refine ⟨.cod (SV t q) p, KE hO hq hC Uj (fun i hi h3 h8 => ⟨h1 i hi h3 h8, ?_⟩) (fun i hi h3 h8 hd => ?_)⟩
    ·exact hp.1 _ (mem_cs.2 (List.mem_map.2 ⟨i, mem_ofK.2 ⟨hi, h1 i hi h3 h8⟩, rfl⟩))
    ·exact hp.2 _ (mem_cs.2 (List.mem_map.2 ⟨i, mem_ofK.2 ⟨hi, hd.1⟩, rfl⟩)) hd.2
  ·split at hs
   ·cases hs
   ·rename_i hb
    obtain ⟨n, hn, rfl⟩ := List.mem_map.1 hs;unfold allA at hn
    split at hn
    ·rename_i h7; subst h7
     obtain ⟨hne, hall⟩ := mem_names.1 hn;refine ⟨.field (SV t q) n p, KE hO hq hC Uj (fun i hi h3 h8 => ⟨h1 i hi h3 h8, fun k hk => ?_⟩) (fun i hi h3 h8 hd => ?_)⟩
     ·exact hp.1 _ (mem_cs.2 (mem_parts.2 ⟨i, mem_ofK.2 ⟨hi, h1 i hi h3 h8⟩, hk⟩))
     ·have hi2 := mem_ofK.2 ⟨hi, hd.1⟩
      cases hq2 : atN (nd t i) n with
      | none => exact hall i hi2 hq2
      | some k => exact hp.2 _ (mem_cs.2 (mem_parts.2 ⟨i, hi2, hq2⟩)) (hd.2 k hq2)
    ·split at hn
     ·rename_i h8; subst h8
      obtain ⟨hne, hall⟩ := mem_names.1 hn;refine ⟨.case (SV t q) n p, KE hO hq hC Uj (fun i hi h3 h8 => ⟨h1 i hi h3 h8, ?_⟩) (fun i hi h3 h8 hd => ?_)⟩
      ·have hi2 := mem_ofK.2 ⟨hi, h1 i hi h3 h8⟩
       cases hq2 : atN (nd t i) n with
       | none => exact absurd hq2 (hall i hi2)
       | some k => exact ⟨k, rfl, hp.1 _ (mem_cs.2 (mem_parts.2 ⟨i, hi2, hq2⟩))⟩
      ·obtain ⟨k, hk2, hk3⟩ := hd.2
       exact hp.2 _ (mem_cs.2 (mem_parts.2 ⟨i, mem_ofK.2 ⟨hi, hd.1⟩, hk2⟩)) hk3
     ·cases hn
theorem J2 {t : ATy} {q : BSq} (h1 : ¬ endA t q = true) (h2 : openA t q = none) (h3 : ¬ FX t q = true) : BB t q := by
 unfold endA at h1;unfold openA at h2;unfold FX at h3;rw [Bool.or_eq_true, List.any_eq_true, List.any_eq_true] at h1;simp only [List.any_eq_true, Bool.and_eq_true, decide_eq_true_eq] at h1 h3
 have hL : latA t q.left = none := by
  cases hq : latA t q.left with
  | none => rfl
  | some x => rw [hq] at h2; cases h2
 have hR : latA t q.right = none := by
  cases hq : latA t q.right with
  | none => rfl
  | some x => rw [hL, hq] at h2; cases h2
 exact ⟨fun i hi h => h1 (.inl ⟨i, hi, h⟩), fun i hi h => h1 (.inr ⟨i, hi, h⟩), GV hL, GV hR, fun i hi j hj h4 h5 h6 => h3 ⟨i, hi, j, hj, ⟨h4, h5⟩, h6⟩⟩
theorem RE {t : ATy} {q : BSq} (hO : OkT t) (hq : InQ t q) (h : (AX t q).1 = true) : ∃ p, CE t p q := by
 unfold AX at h
 split at h
 ·cases h
 ·rename_i h1
  split at h
  ·cases h
  ·rename_i h2
   split at h
   ·cases h
   ·rename_i h3
    have hC := J2 h1 h2 h3
    unfold DG at h
    split at h
    ·rename_i hk
     exact ⟨.tag (SV t q) 0, KE hO hq hC Uj (fun i hi h3 h8 => (MT hk i hi h3 h8).elim) (fun i hi h3 h8 hd => by have := hd.1; omega)⟩
    ·rename_i k hk
     exact Rj hO hq hC hk h
    ·cases h
theorem SP {t : ATy} {q s : BSq} {l : List BSq} {p : Pt} (h : openA t q = some l) (hs : s ∈ l) (hp : CE t p s) : CE t p q := by
 unfold openA at h
 split at h
 ·rename_i n rest hl
  obtain ⟨i, rfl, hk, hpm⟩ := D8 hl
  cases h
  have key : Sat t p i -> (∀ j ∈ rest, Sat t p j) -> (∀ j ∈ q.right, ¬ Sat t p j) -> CE t p q := fun h1 h2 h3 => ⟨fun j hj => by rcases List.mem_cons.1 (hpm.mem_iff.1 hj) with rfl | h; exact h1; exact h2 j h, h3⟩
  split at hs
  ·rename_i h10
   simp only [List.mem_singleton] at hs; subst hs
   exact key ((Jk h10).2 ⟨hp.1 _ (mem_cs.2 (by simp)), hp.1 _ (mem_cs.2 (by simp))⟩) (fun j hj => hp.1 _ (mem_cs.2 (by simp [hj]))) hp.2
  ·rename_i h10
   have h9 : (nd t i).kind = 9 := (Fe hk).resolve_right h10
   simp only [List.mem_cons, List.not_mem_nil, or_false] at hs
   rcases hs with rfl | rfl
   ·exact key ((IJ h9).2 (.inl (hp.1 _ (mem_cs.2 (by simp))))) (fun j hj => hp.1 _ (mem_cs.2 (by simp [hj]))) hp.2
   ·exact key ((IJ h9).2 (.inr (hp.1 _ (mem_cs.2 (by simp))))) (fun j hj => hp.1 _ (mem_cs.2 (by simp [hj]))) hp.2
 ·split at h
  ·rename_i n rest hl
   obtain ⟨i, rfl, hk, hpm⟩ := D8 hl
   cases h
   have key : ¬ Sat t p i -> (∀ j ∈ rest, ¬ Sat t p j) -> (∀ j ∈ q.left, Sat t p j) -> CE t p q := fun h1 h2 h3 => ⟨h3, fun j hj => by rcases List.mem_cons.1 (hpm.mem_iff.1 hj) with rfl | h; exact h1; exact h2 j h⟩
   split at hs
   ·rename_i h9
    simp only [List.mem_singleton] at hs; subst hs
    exact key (fun h => ((IJ h9).1 h).elim (hp.2 _ (mem_cs.2 (by simp))) (hp.2 _ (mem_cs.2 (by simp)))) (fun j hj => hp.2 _ (mem_cs.2 (by simp [hj]))) hp.1
   ·rename_i h9
    have h10 : (nd t i).kind = 10 := (Fe hk).resolve_left h9
    simp only [List.mem_cons, List.not_mem_nil, or_false] at hs
    rcases hs with rfl | rfl
    ·exact key (fun h => hp.2 _ (mem_cs.2 (by simp)) ((Jk h10).1 h).1) (fun j hj => hp.2 _ (mem_cs.2 (by simp [hj]))) hp.1
    ·exact key (fun h => hp.2 _ (mem_cs.2 (by simp)) ((Jk h10).1 h).2) (fun j hj => hp.2 _ (mem_cs.2 (by simp [hj]))) hp.1
  ·cases h
theorem SO {t : ATy} {q s : BSq} {p : Pt} (hO : OkT t) (hq : InQ t q) (hs : s ∈ (AX t q).2) (hp : CE t p s) : ∃ p, CE t p q := by
 unfold AX at hs
 split at hs
 ·cases hs
 ·rename_i h1
  split at hs
  ·rename_i l h2
   exact ⟨p, SP h2 hs hp⟩
  ·rename_i h2
   split at hs
   ·cases hs
   ·rename_i h3
    have hC := J2 h1 h2 h3
    unfold DG at hs
    split at hs
    ·cases hs
    ·rename_i k hk
     exact RC hO hq hC hk hs hp
    ·cases hs
def wq (w : Int -> Nat) (q : BSq) : Nat := wsum w q.left + wsum w q.right
theorem QK {t : ATy} {q : BSq} {l : List BSq} {p : Pt} {w : Int -> Nat} (hw : ∀ i, In t i -> latB (nd t i).kind = true -> w (nd t i).a + w (nd t i).b < w i) (hq : InQ t q) (h : openA t q = some l) (hp : CE t p q) : ∃ s ∈ l, CE t p s /\ wq w s < wq w q := by
 unfold openA at h
 split at h
 ·rename_i n rest hl
  obtain ⟨i, rfl, hk, hpm⟩ := D8 hl
  cases h
  have hi : i ∈ q.left := hpm.mem_iff.2 (by simp)
  have hrest : ∀ j ∈ rest, Sat t p j := fun j hj => hp.1 j (hpm.mem_iff.2 (by simp [hj]))
  have hwi := hw i (hq.1 i hi) hk
  have hwl : wsum w q.left = w i + wsum w rest := by rw [J4 hpm]; rfl
  have h2 : ∀ m : List Int, (∀ j ∈ m, Sat t p j) -> wsum w m < w i -> CE t p ⟨cs (rest ++ m), q.right⟩ /\ wq w ⟨cs (rest ++ m), q.right⟩ < wq w q := by
   intro m hm hwm
   refine ⟨⟨fun j hj => ?_, hp.2⟩, ?_⟩
   ·rcases List.mem_append.1 (mem_cs.1 hj) with h | h
    ·exact hrest j h
    ·exact hm j h
   ·have := PZ w (rest ++ m)
    rw [Lb] at this;simp only [wq]
    omega
  split
  ·rename_i h10
   have hs := (Jk h10).1 (hp.1 i hi)
   have := h2 [(nd t i).a, (nd t i).b] (fun j hj => by simp at hj; rcases hj with rfl | rfl; exact hs.1; exact hs.2) (by simp only [wsum]; omega)
   exact ⟨_, by simp, this⟩
  ·rename_i h10
   have h9 : (nd t i).kind = 9 := (Fe hk).resolve_right h10
   rcases (IJ h9).1 (hp.1 i hi) with hs | hs
   ·have := h2 [(nd t i).a] (fun j hj => by simp at hj; subst hj; exact hs) (by simp only [wsum]; omega)
    exact ⟨_, by simp, this⟩
   ·have := h2 [(nd t i).b] (fun j hj => by simp at hj; subst hj; exact hs) (by simp only [wsum]; omega)
    exact ⟨⟨cs (rest ++ [(nd t i).b]), q.right⟩, by simp, this⟩
 ·split at h
  ·rename_i n rest hl
   obtain ⟨i, rfl, hk, hpm⟩ := D8 hl
   cases h
   have hi : i ∈ q.right := hpm.mem_iff.2 (by simp)
   have hrest : ∀ j ∈ rest, ¬ Sat t p j := fun j hj => hp.2 j (hpm.mem_iff.2 (by simp [hj]))
   have hwi := hw i (hq.2 i hi) hk
   have hwl : wsum w q.right = w i + wsum w rest := by rw [J4 hpm]; rfl
   have h2 : ∀ m : List Int, (∀ j ∈ m, ¬ Sat t p j) -> wsum w m < w i -> CE t p ⟨q.left, cs (rest ++ m)⟩ /\ wq w ⟨q.left, cs (rest ++ m)⟩ < wq w q := by
    intro m hm hwm
    refine ⟨⟨hp.1, fun j hj => ?_⟩, ?_⟩
    ·rcases List.mem_append.1 (mem_cs.1 hj) with h | h
     ·exact hrest j h
     ·exact hm j h
    ·have := PZ w (rest ++ m)
     rw [Lb] at this;simp only [wq]
     omega
   have hs := hp.2 i hi
   split
   ·rename_i h9
    have := h2 [(nd t i).a, (nd t i).b] (fun j hj => by
     simp at hj
     rcases hj with rfl | rfl
     ·exact fun h => hs ((IJ h9).2 (.inl h))
     ·exact fun h => hs ((IJ h9).2 (.inr h))) (by simp only [wsum]; omega)
    exact ⟨_, by simp, this⟩
   ·rename_i h9
    have h10 : (nd t i).kind = 10 := (Fe hk).resolve_left h9
    by_cases ha : Sat t p (nd t i).a
    ·have := h2 [(nd t i).b] (fun j hj => by simp at hj; subst hj; exact fun h => hs ((Jk h10).2 ⟨ha, h⟩)) (by simp only [wsum]; omega)
     exact ⟨⟨q.left, cs (rest ++ [(nd t i).b])⟩, by simp, this⟩
    ·have := h2 [(nd t i).a] (fun j hj => by simp at hj; subst hj; exact ha) (by simp only [wsum]; omega)
     exact ⟨_, by simp, this⟩
  ·cases h
theorem Rx {t : ATy} {q : BSq} {p : Pt} {k : Int} (hk : CQ t q.left = [k]) (hp : CE t p q) : k = p.kind /\ (3 <= k /\ k <= 8) /\ (∃ i, i ∈ ofK t q.left k) /\ (∀ i ∈ ofK t q.left k, hdP t p (nd t i)) /\ ∀ i ∈ ofK t q.right k, ¬ hdP t p (nd t i) := by
 obtain ⟨h0, ⟨i0, hi0, hk0⟩, h1⟩ := FJ hk
 have hd : ∀ i ∈ ofK t q.left k, hdP t p (nd t i) := fun i hi => by
  obtain ⟨h2, h3⟩ := mem_ofK.1 hi;exact (FA (by omega) (by omega)).1 (hp.1 i h2)
 refine ⟨?_, h0, ⟨i0, mem_ofK.2 ⟨hi0, hk0⟩⟩, hd, fun i hi hh => ?_⟩
 ·rw [<- Ls (hd i0 (mem_ofK.2 ⟨hi0, hk0⟩)), hk0]
 ·obtain ⟨h2, h3⟩ := mem_ofK.1 hi
  exact hp.2 i h2 ((FA (by omega) (by omega)).2 hh)
theorem Pb {t : ATy} {p : Pt} {l r : List Int} (h0 : 3 <= p.kind /\ p.kind <= 8) (hne : ∃ i, i ∈ l) (hK : ∀ i ∈ r, (nd t i).kind = p.kind) (hL : ∀ i ∈ l, hdP t p (nd t i)) (hR : ∀ i ∈ r, ¬ hdP t p (nd t i)) :
  (Cb t p.kind l r).1 = true \/ ∃ s ∈ (Cb t p.kind l r).2, ∃ p', CE t p' s /\ p'.size < p.size := by
 by_cases hr : p.kind ≠ 8 /\ r = []
 ·left; unfold Cb; rw [if_pos hr]
 have hnil : p.kind ≠ 8 -> r ≠ [] := fun h h2 => hr ⟨h, h2⟩
 cases p with
 | tag S k =>
  exfalso
  by_cases h8 : k = 8
  ·obtain ⟨i, hi⟩ := hne
   exact (hL i hi).2 h8
  ·cases r with
   | nil => exact hnil h8 rfl
   | cons j m => exact hR j (by simp) ⟨hK j (by simp), h8⟩
 | dom S p =>
  right
  refine ⟨⟨cs (r.map fun i => (nd t i).a), cs (l.map fun i => (nd t i).a)⟩, by unfold Cb; rw [if_neg hr]; simp [Pt.kind], p, ⟨fun x hx => ?_, fun x hx => ?_⟩, by simp [Pt.size]⟩
  ·obtain ⟨i, hi, rfl⟩ := List.mem_map.1 (mem_cs.1 hx)
   exact Classical.byContradiction fun h => hR i hi ⟨hK i hi, h⟩
  ·obtain ⟨i, hi, rfl⟩ := List.mem_map.1 (mem_cs.1 hx)
   exact (hL i hi).2
 | cod S p =>
  right
  refine ⟨⟨cs (l.map fun i => (nd t i).b), cs (r.map fun i => (nd t i).b)⟩, by unfold Cb; rw [if_neg hr]; simp [Pt.kind], p, ⟨fun x hx => ?_, fun x hx => ?_⟩, by simp [Pt.size]⟩
  ·obtain ⟨i, hi, rfl⟩ := List.mem_map.1 (mem_cs.1 hx)
   exact (hL i hi).2
  ·obtain ⟨i, hi, rfl⟩ := List.mem_map.1 (mem_cs.1 hx)
   exact fun h => hR i hi ⟨hK i hi, h⟩
 | absent S s =>
  left
  have hs : s ∈ Dj t r := mem_names.2 ⟨hnil (by simp [Pt.kind]), fun i hi h => hR i hi ⟨hK i hi, h⟩⟩
  unfold Cb;rw [if_neg hr, if_neg (by simp [Pt.kind]), if_pos (List.any_eq_true.2 ⟨s, by simp [allA, Pt.kind, hs], R8 (.inl fun i hi => (hL i hi).2)⟩)]
 | field S s p =>
  have hex : ∀ i ∈ r, ∃ k, atN (nd t i) s = some k /\ ¬ Sat t p k := fun i hi => Classical.byContradiction fun h => hR i hi ⟨hK i hi, fun k hk => Classical.byContradiction fun h2 => h ⟨k, hk, h2⟩⟩
  have hs : s ∈ Dj t r := mem_names.2 ⟨hnil (by simp [Pt.kind]), fun i hi h => by obtain ⟨k, hk, _⟩ := hex i hi; rw [h] at hk; cases hk⟩
  by_cases hb : (allA t (Pt.field S s p).kind l r).any (badA t l r) = true
  ·left; unfold Cb; rw [if_neg hr, if_neg (by simp [Pt.kind]), if_pos hb]
  ·right
   refine ⟨⟨cs (AL t l s), cs (AL t r s)⟩, ?_, p, ⟨fun x hx => ?_, fun x hx => ?_⟩, by simp [Pt.size]⟩
   ·unfold Cb; rw [if_neg hr, if_neg (by simp [Pt.kind]), if_neg hb]
    exact List.mem_map.2 ⟨s, by simp [allA, Pt.kind, hs], rfl⟩
   ·obtain ⟨i, hi, hk⟩ := mem_parts.1 (mem_cs.1 hx)
    exact (hL i hi).2 x hk
   ·obtain ⟨i, hi, hk⟩ := mem_parts.1 (mem_cs.1 hx)
    obtain ⟨k, hk2, hk3⟩ := hex i hi;rw [hk] at hk2; cases hk2
    exact hk3
 | hasc S s =>
  left
  obtain ⟨i0, hi0⟩ := hne
  have hs : s ∈ Dj t l := mem_names.2 ⟨fun e => (by rw [e] at hi0; cases hi0), fun i hi => (hL i hi).2⟩
  have hn : ∀ i ∈ r, atN (nd t i) s = none := fun i hi => by
   cases hq : atN (nd t i) s with
   | none => rfl
   | some k => exact absurd ⟨hK i hi, by rw [hq]; simp⟩ (hR i hi)
  unfold Cb;rw [if_neg hr, if_neg (by simp [Pt.kind]), if_pos (List.any_eq_true.2 ⟨s, by simp [allA, Pt.kind, hs], R8 (.inr hn)⟩)]
 | case S s p =>
  obtain ⟨i0, hi0⟩ := hne
  have hs : s ∈ Dj t l := mem_names.2 ⟨fun e => (by rw [e] at hi0; cases hi0), fun i hi h => by obtain ⟨k, hk, _⟩ := (hL i hi).2; rw [h] at hk; cases hk⟩
  by_cases hb : (allA t (Pt.case S s p).kind l r).any (badA t l r) = true
  ·left; unfold Cb; rw [if_neg hr, if_neg (by simp [Pt.kind]), if_pos hb]
  ·right
   refine ⟨⟨cs (AL t l s), cs (AL t r s)⟩, ?_, p, ⟨fun x hx => ?_, fun x hx => ?_⟩, by simp [Pt.size]⟩
   ·unfold Cb; rw [if_neg hr, if_neg (by simp [Pt.kind]), if_neg hb]
    exact List.mem_map.2 ⟨s, by simp [allA, Pt.kind, hs], rfl⟩
   ·obtain ⟨i, hi, hk⟩ := mem_parts.1 (mem_cs.1 hx)
    obtain ⟨k, hk2, hk3⟩ := (hL i hi).2;rw [hk] at hk2; cases hk2
    exact hk3
   ·obtain ⟨i, hi, hk⟩ := mem_parts.1 (mem_cs.1 hx)
    exact fun h => hR i hi ⟨hK i hi, x, hk, h⟩
theorem IG {t : ATy} {q : BSq} {p : Pt} {w : Int -> Nat} (hO : OkT t) (hw : ∀ i, In t i -> latB (nd t i).kind = true -> w (nd t i).a + w (nd t i).b < w i) (hq : InQ t q) (hp : CE t p q) :
  (AX t q).1 = true \/ ∃ s ∈ (AX t q).2, ∃ p', CE t p' s /\ (p'.size < p.size \/ (p'.size = p.size /\ wq w s < wq w q)) := by
 have h1 : ¬ endA t q = true := by
  unfold endA;rw [Bool.or_eq_true, List.any_eq_true, List.any_eq_true];rintro (⟨i, hi, h⟩ | ⟨i, hi, h⟩)
  ·exact TR (of_decide_eq_true h) (hp.1 i hi)
  ·exact hp.2 i hi (TP (of_decide_eq_true h))
 unfold AX;rw [if_neg h1]
 cases h2 : openA t q with
 | some l =>
  right
  obtain ⟨s, hs, h3, h4⟩ := QK hw hq h2 hp;exact ⟨s, hs, p, h3, .inr ⟨rfl, h4⟩⟩
 | none =>
  have h3 : ¬ FX t q = true := by
   unfold FX;simp only [List.any_eq_true, Bool.and_eq_true, decide_eq_true_eq];rintro ⟨i, hi, j, hj, ⟨h4, h5⟩, h6⟩
   have := (R2 h4).1 (hp.1 i hi)
   rw [h6] at this;exact hp.2 j hj ((R2 h5).2 this)
  simp only [if_neg h3];unfold DG
  cases hk : CQ t q.left with
  | nil => left; rfl
  | cons k m =>
   cases m with
   | nil =>
    obtain ⟨rfl, h5, h6, h7, h8⟩ := Rx hk hp
    rcases Pb h5 h6 (fun i hi => (mem_ofK.1 hi).2) h7 h8 with h | ⟨s, hs, p', h9, h10⟩
    ·left; exact h
    ·right; exact ⟨s, hs, p', h9, .inl h10⟩
   | cons b m =>
    exfalso
    obtain ⟨i, hi, j, hj, h5, h6, h7⟩ := QV hk
    have e1 := Ls ((FA h5.1 h5.2).1 (hp.1 i hi))
    have e2 := Ls ((FA h6.1 h6.2).1 (hp.1 j hj))
    exact h7 (e1.trans e2.symm)
structure Kept (t : ATy) (A : Int -> Prop) : Prop where
 inn : ∀ i, A i -> In t i
 pair : ∀ i, A i -> (nd t i).kind = 6 \/ (nd t i).kind = 9 \/ (nd t i).kind = 10 -> A (nd t i).a /\ A (nd t i).b
 fld : ∀ i, A i -> ∀ f ∈ (nd t i).l, A f.at_
theorem Kept.all {t : ATy} (hO : OkT t) : Kept t (In t) := ⟨fun _ h => h, fun _ h hk => hO.pair h hk, fun _ h _ hf => hO.at_ h hf⟩
def InAB (A B : Int -> Prop) (q : BSq) : Prop := (∀ i ∈ q.left, A i) /\ ∀ i ∈ q.right, B i
theorem Kept.parts {t : ATy} {A : Int -> Prop} (hA : Kept t A) {l : List Int} (h : ∀ i ∈ l, A i) (s : List UInt8) : ∀ i ∈ cs (AL t l s), A i := fun k hk => by
 obtain ⟨i, hi, h2⟩ := mem_parts.1 (mem_cs.1 hk);obtain ⟨f, hf, _, rfl⟩ := Qt h2;exact hA.fld i (h i hi) f hf
theorem Hd {t : ATy} {A B : Int -> Prop} (hA : Kept t A) (hB : Kept t B) {q s : BSq} (hq : InAB A B q) (hs : s ∈ (AX t q).2) : InAB A B s \/ InAB B A s := by
 unfold AX at hs
 split at hs
 ·cases hs
 ·split at hs
  ·rename_i l h2
   left
   unfold openA at h2
   split at h2
   ·rename_i n rest hl
    obtain ⟨i, rfl, hk, hpm⟩ := D8 hl
    cases h2
    have hi : A i := hq.1 i (hpm.mem_iff.2 (by simp))
    have hp := hA.pair i hi (.inr (Fe hk))
    have hrest : ∀ j ∈ rest, A j := fun j hj => hq.1 j (hpm.mem_iff.2 (by simp [hj]))
    have h2 : ∀ m : List Int, (∀ j ∈ m, A j) -> InAB A B ⟨cs (rest ++ m), q.right⟩ := fun m hm => ⟨fun j hj => by
     rcases List.mem_append.1 (mem_cs.1 hj) with h | h
     ·exact hrest j h
     ·exact hm j h, hq.2⟩
    split at hs
    ·simp only [List.mem_singleton] at hs; subst hs
     exact h2 _ (fun j hj => by simp at hj; rcases hj with rfl | rfl; exact hp.1; exact hp.2)
    ·simp only [List.mem_cons, List.not_mem_nil, or_false] at hs
     rcases hs with rfl | rfl
     ·exact h2 _ (fun j hj => by simp at hj; subst hj; exact hp.1)
     ·exact h2 _ (fun j hj => by simp at hj; subst hj; exact hp.2)
   ·split at h2
    ·rename_i n rest hl
     obtain ⟨i, rfl, hk, hpm⟩ := D8 hl
     cases h2
     have hi : B i := hq.2 i (hpm.mem_iff.2 (by simp))
     have hp := hB.pair i hi (.inr (Fe hk))
     have hrest : ∀ j ∈ rest, B j := fun j hj => hq.2 j (hpm.mem_iff.2 (by simp [hj]))
     have h2 : ∀ m : List Int, (∀ j ∈ m, B j) -> InAB A B ⟨q.left, cs (rest ++ m)⟩ := fun m hm => ⟨hq.1, fun j hj => by
      rcases List.mem_append.1 (mem_cs.1 hj) with h | h
      ·exact hrest j h
      ·exact hm j h⟩
     split at hs
     ·simp only [List.mem_singleton] at hs; subst hs
      exact h2 _ (fun j hj => by simp at hj; rcases hj with rfl | rfl; exact hp.1; exact hp.2)
     ·simp only [List.mem_cons, List.not_mem_nil, or_false] at hs
      rcases hs with rfl | rfl
      ·exact h2 _ (fun j hj => by simp at hj; subst hj; exact hp.1)
      ·exact h2 _ (fun j hj => by simp at hj; subst hj; exact hp.2)
    ·cases h2
  ·split at hs
   ·cases hs
   ·unfold DG at hs
    split at hs
    ·cases hs
    ·rename_i k hk
     have hL : ∀ i ∈ ofK t q.left k, A i := fun i hi => hq.1 i (mem_ofK.1 hi).1
     have hR : ∀ i ∈ ofK t q.right k, B i := fun i hi => hq.2 i (mem_ofK.1 hi).1
     unfold Cb at hs
     split at hs
     ·cases hs
     ·split at hs
      ·rename_i h6; subst h6
       simp only [List.mem_cons, List.not_mem_nil, or_false] at hs
       rcases hs with rfl | rfl
       ·right
        refine ⟨fun x hx => ?_, fun x hx => ?_⟩ <;> obtain ⟨i, hi, rfl⟩ := List.mem_map.1 (mem_cs.1 hx)
        ·exact (hB.pair i (hR i hi) (.inl (mem_ofK.1 hi).2)).1
        ·exact (hA.pair i (hL i hi) (.inl (mem_ofK.1 hi).2)).1
       ·left
        refine ⟨fun x hx => ?_, fun x hx => ?_⟩ <;> obtain ⟨i, hi, rfl⟩ := List.mem_map.1 (mem_cs.1 hx)
        ·exact (hA.pair i (hL i hi) (.inl (mem_ofK.1 hi).2)).2
        ·exact (hB.pair i (hR i hi) (.inl (mem_ofK.1 hi).2)).2
      ·split at hs
       ·cases hs
       ·obtain ⟨n, hn, rfl⟩ := List.mem_map.1 hs
        left
        exact ⟨hA.parts hL n, hB.parts hR n⟩
    ·cases hs
inductive Rch (t : ATy) (q : BSq) : BSq -> Prop
 | refl : Rch t q q
 | step {s s' : BSq} : Rch t q s -> s' ∈ (AX t s).2 -> Rch t q s'
theorem Rch.head {t : ATy} {q s s' : BSq} (h1 : s ∈ (AX t q).2) (h : Rch t s s') : Rch t q s' := by
 induction h with
 | refl => exact .step .refl h1
 | step _ h2 ih => exact .step ih h2
theorem HT {t : ATy} (hO : OkT t) {q s : BSq} (hq : InQ t q) (hs : s ∈ (AX t q).2) : InQ t s := (Hd (Kept.all hO) (Kept.all hO) hq hs).elim id id
theorem Rch.inQ {t : ATy} (hO : OkT t) {q s : BSq} (hq : InQ t q) (h : Rch t q s) : InQ t s := by
 induction h with
 | refl => exact hq
 | step _ h2 ih => exact HT hO ih h2
theorem R5 {t : ATy} (hO : OkT t) {w : Int -> Nat} (hw : ∀ i, In t i -> latB (nd t i).kind = true -> w (nd t i).a + w (nd t i).b < w i) : ∀ (n m : Nat) (q : BSq) (p : Pt), p.size <= n -> wq w q <= m -> InQ t q -> CE t p q -> ∃ s, Rch t q s /\ (AX t s).1 = true := by
 intro n
 induction n with
 | zero =>
  intro m
  induction m with
  | zero =>
   intro q p h1 h2 hq hp
   rcases IG hO hw hq hp with h | ⟨s, _, p', _, h⟩
   ·exact ⟨q, .refl, h⟩
   ·omega
  | succ m ih =>
   intro q p h1 h2 hq hp
   rcases IG hO hw hq hp with h | ⟨s, hs, p', hp', h⟩
   ·exact ⟨q, .refl, h⟩
   ·obtain ⟨s', h3, h4⟩ := ih s p' (by omega) (by omega) (HT hO hq hs) hp'
    exact ⟨s', h3.head hs, h4⟩
 | succ n ihn =>
  intro m
  induction m with
  | zero =>
   intro q p h1 h2 hq hp
   rcases IG hO hw hq hp with h | ⟨s, hs, p', hp', h⟩
   ·exact ⟨q, .refl, h⟩
   ·obtain ⟨s', h3, h4⟩ := ihn (wq w s) s p' (by omega) (Nat.le_refl _) (HT hO hq hs) hp'
    exact ⟨s', h3.head hs, h4⟩
  | succ m ih =>
   intro q p h1 h2 hq hp
   rcases IG hO hw hq hp with h | ⟨s, hs, p', hp', h⟩
   ·exact ⟨q, .refl, h⟩
   ·by_cases h5 : p'.size <= n
    ·obtain ⟨s', h3, h4⟩ := ihn (wq w s) s p' h5 (Nat.le_refl _) (HT hO hq hs) hp'
     exact ⟨s', h3.head hs, h4⟩
    ·obtain ⟨s', h3, h4⟩ := ih s p' (by omega) (by omega) (HT hO hq hs) hp'
     exact ⟨s', h3.head hs, h4⟩
theorem RJ {t : ATy} (hO : OkT t) {q s : BSq} (h : Rch t q s) (hq : InQ t q) (hs : ∃ p, CE t p s) : ∃ p, CE t p q := by
 induction h with
 | refl => exact hs
 | step h1 h2 ih =>
  obtain ⟨p, hp⟩ := hs;exact ih (SO hO (h1.inQ hO hq) h2 hp)
def Valid (t : ATy) (q : BSq) : Prop := ∀ p, ¬ CE t p q
theorem M0 {t : ATy} (hO : OkT t) {q : BSq} (hq : InQ t q) : (∀ s, Rch t q s -> (AX t s).1 = false) ↔ Valid t q := by
 obtain ⟨w, hw⟩ := hO.weight
 constructor
 ·intro h p hp
  obtain ⟨s, h1, h2⟩ := R5 hO hw p.size (wq w q) q p (Nat.le_refl _) (Nat.le_refl _) hq hp;rw [h s h1] at h2; cases h2
 ·intro h s hs
  cases h1 : (AX t s).1 with
  | false => rfl
  | true =>
   obtain ⟨p, hp⟩ := RJ hO hs hq (RE hO (hs.inQ hO hq) h1);exact absurd hp (h p)
end Go.Proofs.YtkfnogdccpcmhaaGreatDoor
namespace Go.Proofs.YtkfnogdccpcmhaaGreatDoor
open Go.V
open Classical
theorem takeS {α : Type} {l : List α} {i : Nat} {x : α} (h : l[i]? = some x) : l.take (i + 1) = l.take i ++ [x] := by
 have hi := (List.getElem?_eq_some_iff.1 h).1
 rw [List.take_succ_eq_append_getElem hi];rw [List.getElem?_eq_getElem hi] at h;rw [Option.some.inj h]
theorem getN {t : ATy} {i : Int} (h : In t i) : idx t.l i = some (nd t i) := by unfold idx; rw [if_pos h.1, Lw h]
theorem Ng {t : ATy} {i : Int} (h : In t i) : A8 t i = some (nd t i).kind := by unfold A8; rw [getN h]; rfl
theorem Oz (l : List Int) (f : Int -> Option Bool) (g : Int -> Bool) (h : ∀ x ∈ l, f x = some (g x)) (hl : l.length <= 1000000) : K7 l f = some (match l.findIdx? g with | some i => (i : Int) | none => -1) := by
 unfold K7;rw [FN (φ := EL l f) (l := l) (fun i => (i : Int)) g ?_ ?_ (by rw [FUv]; omega)]
 ·rw [oB]
  cases hf : l.findIdx? g with
  | none => rfl
  | some i => rfl
 ·intro n i x hx hi
  simp only [EL];rw [dT (show (i : Int) < l.length by omega), cT, getI hx, oB, h x (List.mem_of_getElem? hx), oB];exact ⟨fun hq => by rw [hq, cF_, Ab (by omega)], fun hq => by rw [hq, cT]⟩
 ·intro n
  simp only [EL];rw [dF (by omega), cF_]
theorem Kn (l : List Int) (f : Int -> Option Bool) (g : Int -> Bool) (h : ∀ x ∈ l, f x = some (g x)) (hl : l.length <= 1000000) : Jl l f = some (l.any g) := by
 unfold Jl;rw [Oz l f g h hl, oB]
 cases hf : l.findIdx? g with
 | none =>
  have : l.any g = false := by
   rw [List.any_eq_false]
   intro x hx
   have := List.findIdx?_eq_none_iff.1 hf x hx
   simp [this]
  rw [this]; rfl
 | some i =>
  obtain ⟨hi, h1, _⟩ := List.findIdx?_eq_some_iff_getElem.1 hf
  have : l.any g = true := List.any_eq_true.2 ⟨l[i], List.getElem_mem hi, h1⟩
  rw [this]
  show some (decide (0 <= (i : Int))) = some true
  rw [dT (by omega)]
theorem Sp {t : ATy} {l : List Int} (h : ∀ i ∈ l, In t i) (hl : l.length <= 1000) (k : Int) : BS t l k = some (l.any fun i => decide ((nd t i).kind = k)) := by
 unfold BS;rw [Kn l _ (fun i => decide ((nd t i).kind = k)) (fun x hx => by unfold Cz; rw [Ng (h x hx)]; rfl) (by omega)]
 rfl
theorem LA {t : ATy} {l : List Int} (h : ∀ i ∈ l, In t i) (hl : l.length <= 1000) : Bj t l = some (match latA t l with | some (n, rest) => (n, rest, true) | none => (⟨0, 0, 0, []⟩, [], false)) := by
 unfold Bj;rw [Oz l _ (fun i => latB (nd t i).kind) (fun x hx => by
  unfold BW;rw [Ng (h x hx), oB];unfold latB
  cases decide ((nd t x).kind = 9) <;> rfl) (by omega), oB]
 unfold latA
 cases hf : l.findIdx? (fun i => latB (nd t i).kind) with
 | none => rfl
 | some i =>
  obtain ⟨hi, h1, _⟩ := List.findIdx?_eq_some_iff_getElem.1 hf
  have hx : l[i]? = some l[i] := List.getElem?_eq_getElem hi
  have e : l.getD i 0 = l[i] := by rw [List.getD_eq_getElem?_getD, hx]; rfl
  simp only [Option.map_some];rw [dF (by omega), cF_, getI hx, oB, getN (h _ (List.getElem_mem hi)), oB, Ab (by omega), Ab (by constructor <;> omega), Ab (by omega), Ab (by omega), Ab (by omega), Ab (by rintro rfl; cases hi), e]
  congr 3
theorem QC (ls : List (List Int)) (h : ls.length <= 3) (h2 : ∀ l ∈ ls, l.length <= 2000) : Oo ls = some ls.flatten := by
 have hm : ∀ {i : Nat} {x : List Int}, ls[i]? = some x -> x.length <= 2000 := fun hx => h2 _ (List.mem_of_getElem? hx)
 unfold Oo
 have e1 := J3 (φ := fun n i s => G3 ls n (s, i)) (l := ls) (fun i s => 0 <= s /\ s <= 2000 * i) (fun _ s x => s + (x.length : Int)) id (by
  intro n i x s hx hi hI
  have hm := hm hx
  simp only [G3];rw [dT (by omega), cT, getI hx, oB, Ab (by omega), dF (by omega), cF_, Ab (by omega)];exact ⟨rfl, by omega⟩) (by
  intro n s hI
  simp only [G3];rw [dF (by omega), cF_]; rfl) (by rw [FUv]; omega) (fun _ t s => t.foldl (fun s x => s + (x.length : Int)) s) (fun _ _ => rfl) (fun _ _ _ _ => rfl) 0 (by omega)
 have e2 := J3 (φ := fun n i s => GU ls n (i, s)) (l := ls) (fun i s => s.length <= 2000 * i) (fun _ s x => s ++ x) id (by
  intro n i x s hx hi hI
  have hm := hm hx
  simp only [GU];rw [dT (by omega), cT, getI hx, oB, Ab (by omega), Ab (by omega)];exact ⟨rfl, by simp; omega⟩) (by
  intro n s hI
  simp only [GU];rw [dF (by omega), cF_]; rfl) (by rw [FUv]; omega) (fun _ t s => s ++ t.flatten) (by simp) (by simp) [] (by simp)
 rw [e1.1, oB]
 have e3 := e1.2
 rw [id, Ab (by omega), Ab (by omega)];rw [e2.1]; rfl
theorem I3 {l : List Int} (h : l.length <= 1000000) : AK l = some (cs l) := by
 unfold AK;rw [Ab (by omega), Ab (by omega)]; rfl
theorem ID {l m : List Int} (h : l.length <= 1000) (h2 : m.length <= 1000) : BX l m = some (cs (l ++ m)) := by
 unfold BX;rw [QC [l, m] (by simp) (by simp; omega), oB, I3 (by simp; omega)]
 simp
theorem Ob {t : ATy} {l rest : List Int} {n : ANd} (h : latA t l = some (n, rest)) : rest.length <= l.length := by
 obtain ⟨i, _, _, hp⟩ := D8 h
 have := hp.length_eq
 simp at this; omega
theorem Qz {t : ATy} {q : BSq} (hq : InQ t q) (h1 : q.left.length <= 500) (h2 : q.right.length <= 500) : BM t q = some (match openA t q with | some l => (⟨l, false⟩, true) | none => (⟨[], false⟩, false)) := by
 unfold BM openA;rw [LA hq.1 (by omega), oB]
 cases hl : latA t q.left with
 | some x =>
  obtain ⟨n, rest⟩ := x
  have := Ob hl
  simp only [cT]
  by_cases h10 : n.kind = 10
  ·rw [dT h10, cT, ID (by omega) (by simp), if_pos h10]; rfl
  ·rw [dF h10, cF_, ID (by omega) (by simp), oB, ID (by omega) (by simp), if_neg h10]; rfl
 | none =>
  simp only [cF_];rw [LA hq.2 (by omega), oB]
  cases hr : latA t q.right with
  | some x =>
   obtain ⟨n, rest⟩ := x
   have := Ob hr
   simp only [cT]
   by_cases h9 : n.kind = 9
   ·rw [dT h9, cT, ID (by omega) (by simp), if_pos h9]; rfl
   ·rw [dF h9, cF_, ID (by omega) (by simp), oB, ID (by omega) (by simp), if_neg h9]; rfl
  | none => simp only [cF_]
theorem Rk {t : ATy} {q : BSq} (hq : InQ t q) (h1 : q.left.length <= 500) (h2 : q.right.length <= 500) : BN t q = some (FX t q) := by
 unfold BN;obtain ⟨o, e1, e2⟩ := AU (φ := fun n i s => AV t q n (i, s)) (l := q.left) (fun i s => ∀ v, (mget s v).getD false = (q.left.take i).any fun j => decide ((nd t j).kind = 11) && decide ((nd t j).a = v)) (fun o => ∀ v, (mget o v).getD false = q.left.any fun j => decide ((nd t j).kind = 11) && decide ((nd t j).a = v))
  (by
   intro n i x s hx hi hI
   left
   simp only [AV];rw [dT (show (i : Int) < (q.left.length : Int) by omega), cT, getI hx, oB, getN (hq.1 _ (List.mem_of_getElem? hx)), oB]
   by_cases h11 : (nd t x).kind = 11
   ·rw [dT h11, cT, Ab (by constructor <;> omega)]
    refine ⟨_, rfl, fun v => ?_⟩;rw [takeS hx, List.any_append, JH, <- hI v]
    by_cases hv : v = (nd t x).a
    ·subst hv; simp [h11]
    ·rw [if_neg hv]; simp [h11, show ¬ (nd t x).a = v from fun e => hv e.symm]
   ·rw [dF h11, cF_, Ab (by constructor <;> omega)]
    refine ⟨_, rfl, fun v => ?_⟩;rw [takeS hx, List.any_append, <- hI v]
    simp [h11])
  (by
   intro n s hI
   simp only [AV];rw [dF (by omega), cF_];exact ⟨s, rfl, by simpa using hI⟩) (by rw [FUv]; omega) [] (by intro v; simp [mget])
 rw [e1, oB];rw [Kn q.right _ (fun j => decide ((nd t j).kind = 11) && (mget o (nd t j).a).getD false) (fun x hx => by
  unfold B5;rw [getN (hq.2 _ hx)]; rfl) (by omega), oB]
 congr 1
 unfold FX;rw [Bool.eq_iff_iff];simp only [List.any_eq_true, Bool.and_eq_true, decide_eq_true_eq, e2]
 constructor
 ·rintro ⟨j, hj, h3, i, hi, h4, h5⟩; exact ⟨i, hi, j, hj, ⟨h4, h3⟩, h5⟩
 ·rintro ⟨i, hi, j, hj, ⟨h4, h3⟩, h5⟩; exact ⟨j, hj, h3, i, hi, h4, h5⟩
theorem QG {l : List Int} {k : Int} (hn : l.Nodup) (h : ∀ x, x ∈ l ↔ x = k) : l = [k] := by
 cases l with
 | nil => have := (h k).2 rfl; cases this
 | cons a m =>
  have ha := (h a).1 (by simp)
  subst ha
  cases m with
  | nil => rfl
  | cons b m =>
   have hb := (h b).1 (by simp)
   subst hb;exact absurd (List.nodup_cons.1 hn).1 (by simp)
def Pe (t : ATy) (l : List Int) (k : Int) : Prop := (k = 0 /\ ∀ i ∈ l, 3 <= (nd t i).kind -> (nd t i).kind <= 8 -> False) \/ ((3 <= k /\ k <= 8) /\ (∃ i ∈ l, (nd t i).kind = k) /\ ∀ i ∈ l, 3 <= (nd t i).kind -> (nd t i).kind <= 8 -> (nd t i).kind = k)
theorem N2 {t : ATy} {l : List Int} {k : Int} (h : Pe t l k) : (k = 0 /\ CQ t l = []) \/ (3 <= k /\ CQ t l = [k]) := by
 rcases h with ⟨h1, h2⟩ | ⟨h1, h2, h3⟩
 ·left
  refine ⟨h1, ?_⟩;rw [List.eq_nil_iff_forall_not_mem]
  intro x hx
  obtain ⟨h4, i, hi, rfl⟩ := mem_kinds.1 hx;exact h2 i hi h4.1 h4.2
 ·right
  refine ⟨h1.1, QG (Kt t l) (fun x => ⟨fun hx => ?_, fun hx => ?_⟩)⟩
  ·obtain ⟨h4, i, hi, rfl⟩ := mem_kinds.1 hx
   exact h3 i hi h4.1 h4.2
  ·subst hx; exact mem_kinds.2 ⟨h1, h2⟩
theorem Sj {t : ATy} {l : List Int} (hO : OkT t) (h : ∀ i ∈ l, In t i) (hb : ∀ i ∈ l, (nd t i).kind ≠ 2) (hla : ∀ i ∈ l, latB (nd t i).kind = false) (hl : l.length <= 500) :
  ∃ k more, B1 t l = some (k, more) /\ (more = true -> ∃ a b m, CQ t l = a :: b :: m) /\ (more = false -> (k = 0 /\ CQ t l = []) \/ (3 <= k /\ CQ t l = [k])) := by
 unfold B1;obtain ⟨o, e1, e2⟩ := AU (φ := fun n i s => A1 t l n (s, i)) (l := l) (fun i k => Pe t (l.take i) k) (fun o => (∃ k, o = Out.go k /\ Pe t l k) \/ (∃ k a b m, o = Out.ret (k, true) /\ CQ t l = a :: b :: m))
  (by
   intro n i x k hx hi hI
   have hxm := List.mem_of_getElem? hx
   have hk := hO.kind (h x hxm)
   have h2 := hb x hxm
   have h3 := Pi (hla x hxm)
   simp only [A1];rw [dT (show (i : Int) < (l.length : Int) by omega), cT, getI hx, oB, Ng (h x hxm), oB]
   by_cases hv : (nd t x).kind = 11 \/ (nd t x).kind = 1
   ·left
    rw [show (decide ((nd t x).kind = 11) || decide ((nd t x).kind = 1)) = true by simpa using hv, cT, Ab (by constructor <;> omega)];refine ⟨_, rfl, ?_⟩;rw [takeS hx]
    rcases hI with ⟨h4, h5⟩ | ⟨h4, ⟨j, hj, h5⟩, h6⟩
    ·left
     refine ⟨h4, fun j hj h6 h7 => ?_⟩
     rcases List.mem_append.1 hj with hj | hj
     ·exact h5 j hj h6 h7
     ·simp at hj; subst hj; omega
    ·right
     refine ⟨h4, ⟨j, by simp [hj], h5⟩, fun j hj h7 h8 => ?_⟩
     rcases List.mem_append.1 hj with hj | hj
     ·exact h6 j hj h7 h8
     ·simp at hj; subst hj; omega
   ·rw [show (decide ((nd t x).kind = 11) || decide ((nd t x).kind = 1)) = false by simpa using hv, cF_]
    have hx38 : 3 <= (nd t x).kind /\ (nd t x).kind <= 8 := by omega
    by_cases hc : k ≠ 0 /\ (nd t x).kind ≠ k
    ·right
     rw [show ((!decide (k = 0)) && (!decide ((nd t x).kind = k))) = true by simpa using hc, cT];refine ⟨_, rfl, .inr ?_⟩
     rcases hI with ⟨h4, _⟩ | ⟨h4, ⟨j, hj, h5⟩, _⟩
     ·exact absurd h4 hc.1
     ·cases hkk : CQ t l with
      | nil => exact (MT hkk x hxm hx38.1 hx38.2).elim
      | cons a m =>
       cases m with
       | nil =>
        obtain ⟨_, _, h7⟩ := FJ hkk
        have e1 := h7 x hxm hx38.1 hx38.2
        have e2 := h7 j (List.mem_of_mem_take hj) (by omega) (by omega)
        omega
       | cons b m => exact ⟨k, a, b, m, rfl, rfl⟩
    ·left
     rw [show ((!decide (k = 0)) && (!decide ((nd t x).kind = k))) = false by
      by_cases h0 : k = 0
      ·simp [h0]
      ·simp [h0]; exact Classical.byContradiction fun h => hc ⟨h0, h⟩, cF_, Ab (by constructor <;> omega)]
     refine ⟨_, rfl, .inr ⟨hx38, ⟨x, by rw [takeS hx]; simp, rfl⟩, fun j hj h7 h8 => ?_⟩⟩;rw [takeS hx] at hj
     rcases List.mem_append.1 hj with hj | hj
     ·rcases hI with ⟨h4, h5⟩ | ⟨h4, _, h6⟩
      ·exact (h5 j hj h7 h8).elim
      ·have := h6 j hj h7 h8
       have : k = (nd t x).kind := Classical.byContradiction fun h => hc ⟨by omega, fun e => h e.symm⟩
       omega
     ·simp at hj; subst hj; rfl)
  (by
   intro n k hI
   simp only [A1];rw [dF (by omega), cF_];exact ⟨_, rfl, .inl ⟨k, rfl, by simpa using hI⟩⟩) (by rw [FUv]; omega) 0 (.inl ⟨rfl, by simp⟩)
 rw [e1, oB]
 rcases e2 with ⟨k, rfl, h4⟩ | ⟨k, a, b, m, rfl, h4⟩
 ·exact ⟨k, false, rfl, fun h => (by cases h), fun _ => N2 h4⟩
 ·exact ⟨k, true, rfl, fun _ => ⟨a, b, m, h4⟩, fun h => (by cases h)⟩
theorem TF (t : ATy) (x : Int) : kAt t x = (nd t x).kind := by
 unfold kAt nd
 cases t.l[x.toNat]? <;> rfl
theorem Qf {t : ATy} {l : List Int} (h : ∀ i ∈ l, In t i) (hl : l.length <= 500) (k : Int) : BI t l k = some (ofK t l k) := by
 unfold BI;rw [Ab (by omega), Ab (show ∀ x ∈ l, 0 <= x /\ x < (t.l.length : Int) from h)]
 congr 1
 unfold keepK ofK
 congr 1
 funext x
 rw [TF, Bool.not_not]
theorem Q5 {t : ATy} {l r : List Int} (hq : InQ t ⟨l, r⟩) (h1 : l.length <= 500) (h2 : r.length <= 500) (hr : r ≠ []) :
  Bv t ⟨l, r⟩ = some ⟨[⟨cs (r.map fun i => (nd t i).a), cs (l.map fun i => (nd t i).a)⟩, ⟨cs (l.map fun i => (nd t i).b), cs (r.map fun i => (nd t i).b)⟩], false⟩ := by
 unfold Bv;rw [dF (by have := List.length_pos_iff.2 hr; simp only; omega), cF_];obtain ⟨o, e1, e2⟩ := AU (φ := fun n i s => A7 t ⟨l, r⟩ n (i, s)) (l := l) (fun i s => s = ([], (l.take i).map (fun i => (nd t i).b), (l.take i).map (fun i => (nd t i).a), [])) (fun o => o = ([], l.map (fun i => (nd t i).b), l.map (fun i => (nd t i).a), []))
  (by
   rintro n i x s hx hi rfl
   left
   have hxm := List.mem_of_getElem? hx
   have hti : (l.take i).length <= 500 := by rw [List.length_take]; omega
   simp only [A7];rw [dT (show (i : Int) < (l.length : Int) by omega), cT, getI hx, oB, getN (hq.1 x hxm), oB, Ab (by simp only [List.length_map, List.length_cons, List.length_nil]; omega), oB, Ab (by simp only [List.length_map, List.length_cons, List.length_nil]; omega), Ab (by constructor <;> omega)];refine ⟨_, rfl, ?_⟩;rw [takeS hx]; simp)
  (by
   rintro n s rfl;simp only [A7];rw [dF (by omega), cF_];exact ⟨_, rfl, by simp⟩) (by rw [FUv]; omega) ([], [], [], []) (by simp)
 rw [e1, oB, e2];obtain ⟨o, e3, e4⟩ := AU (φ := fun n i s => A6 t ⟨l, r⟩ n (i, s)) (l := r) (fun i s => s = ((r.take i).map (fun i => (nd t i).b), l.map (fun i => (nd t i).b), l.map (fun i => (nd t i).a), (r.take i).map (fun i => (nd t i).a))) (fun o => o = (r.map (fun i => (nd t i).b), l.map (fun i => (nd t i).b), l.map (fun i => (nd t i).a), r.map (fun i => (nd t i).a)))
  (by
   rintro n i x s hx hi rfl
   left
   have hxm := List.mem_of_getElem? hx
   have hti : (r.take i).length <= 500 := by rw [List.length_take]; omega
   simp only [A6];rw [dT (show (i : Int) < (r.length : Int) by omega), cT, getI hx, oB, getN (hq.2 x hxm), oB, Ab (by simp only [List.length_map, List.length_cons, List.length_nil]; omega), oB, Ab (by simp only [List.length_map, List.length_cons, List.length_nil]; omega), Ab (by constructor <;> omega)];refine ⟨_, rfl, ?_⟩;rw [takeS hx]; simp)
  (by
   rintro n s rfl;simp only [A6];rw [dF (by omega), cF_];exact ⟨_, rfl, by simp⟩) (by rw [FUv]; omega) ([], l.map (fun i => (nd t i).b), l.map (fun i => (nd t i).a), []) (by simp)
 simp only
 rw [e3, oB, e4]
 simp only
 rw [I3 (by simp; omega), oB, I3 (by simp; omega), oB, I3 (by simp; omega), oB, I3 (by simp; omega), oB]
end Go.Proofs.YtkfnogdccpcmhaaGreatDoor
namespace Go.Proofs.YtkfnogdccpcmhaaGreatDoor
open Go.V
open Classical
theorem MM {α β : Type} [DecidableEq α] {l : List (α × β)} {k : α} {v : β} : (mset l k v).map (·.1) = if k ∈ l.map (·.1) then l.map (·.1) else l.map (·.1) ++ [k] := by
 induction l with
 | nil => simp [mset]
 | cons p l ih =>
  obtain ⟨a, b⟩ := p;simp only [mset]
  by_cases h : k = a
  ·subst h; simp
  ·rw [if_neg h]
   simp only [List.map_cons, ih, List.mem_cons, h, false_or]
   split <;> simp
theorem PS {α β : Type} [DecidableEq α] {l : List (α × β)} {k : α} {v : β} (h : (l.map (·.1)).Nodup) : ((mset l k v).map (·.1)).Nodup := by
 rw [MM]
 split
 ·exact h
 ·rename_i hk
  rw [List.nodup_append];exact ⟨h, by simp, fun a ha b hb e => by simp at hb; subst hb e; exact hk ha⟩
theorem RX {α β : Type} [DecidableEq α] {l : List (α × β)} {k : α} {v : β} : (mset l k v).length <= l.length + 1 := by
 have := congrArg List.length (MM (l := l) (k := k) (v := v))
 rw [List.length_map] at this;rw [this]
 split <;> simp
theorem Rl {α β : Type} [DecidableEq α] {l : List (α × β)} (h : (l.map (·.1)).Nodup) {k : α} {v : β} : (k, v) ∈ l ↔ mget l k = some v := by
 induction l with
 | nil => simp [mget]
 | cons p l ih =>
  obtain ⟨a, b⟩ := p;simp only [List.map_cons, List.nodup_cons] at h
  have ih := ih h.2
  simp only [mget, List.mem_cons]
  by_cases hk : k = a
  ·subst hk
   rw [if_pos rfl]
   constructor
   ·rintro (e | e)
    ·rw [(Prod.mk.inj e).2]
    ·exact absurd (List.mem_map.2 ⟨_, e, rfl⟩) h.1
   ·intro e; left; rw [Option.some.inj e]
  ·rw [if_neg hk, <- ih]
   constructor
   ·rintro (e | e)
    ·exact absurd (Prod.mk.inj e).1 hk
    ·exact e
   ·exact .inr
theorem Kz : ∀ x : List UInt8, Op.bytesLess x x = false
 | [] => rfl
 | a :: x => by
  unfold Op.bytesLess;rw [Kz x]
  have : ¬ a < a := by intro h; exact absurd (UInt8.lt_iff_toNat_lt.1 h) (Nat.lt_irrefl _)
  simp [this]
theorem LU : ∀ x y z : List UInt8, Op.bytesLess x y = true -> Op.bytesLess y z = true -> Op.bytesLess x z = true
 | x, y, [], _, h => by cases y <;> cases h
 | [], _, _ :: _, _, _ => rfl
 | a :: x, [], c :: z, h, _ => by cases h
 | a :: x, b :: y, c :: z, h1, h2 => by
  unfold Op.bytesLess at h1 h2 ⊢;simp only [Bool.or_eq_true, Bool.and_eq_true, decide_eq_true_eq, beq_iff_eq, UInt8.lt_iff_toNat_lt] at h1 h2 ⊢
  rcases h1 with h1 | ⟨rfl, h1⟩
  ·rcases h2 with h2 | ⟨rfl, h2⟩
   ·left; omega
   ·left; exact h1
  ·rcases h2 with h2 | ⟨rfl, h2⟩
   ·left; exact h2
   ·right; exact ⟨rfl, LU x y z h1 h2⟩
theorem Sn {n : ANd} (h : Ev n) : ∀ (j i : Nat) (x y : AFd), i < j -> n.l[i]? = some x -> n.l[j]? = some y -> Op.bytesLess x.name y.name = true := by
 intro j
 induction j with
 | zero => intro i x y h1; omega
 | succ j ih =>
  intro i x y h1 hx hy
  have hj : j < n.l.length := by have := (List.getElem?_eq_some_iff.1 hy).1; omega
  have h3 := (h (j + 1) y hy).2 (by omega) n.l[j] (by rw [Nat.add_sub_cancel]; exact List.getElem?_eq_getElem hj)
  by_cases h4 : i = j
  ·subst h4
   rw [List.getElem?_eq_getElem hj] at hx;rw [<- Option.some.inj hx]; exact h3
  ·exact LU _ _ _ (ih i x _ (by omega) hx (List.getElem?_eq_getElem hj)) h3
theorem Ku {n : ANd} (h : Ev n) : (n.l.map (·.name)).Nodup := by
 unfold List.Nodup;rw [List.pairwise_iff_getElem]
 intro i j hi hj hij e
 rw [List.length_map] at hi hj
 have := Sn h j i n.l[i] n.l[j] hij (List.getElem?_eq_getElem hi) (List.getElem?_eq_getElem hj)
 rw [List.getElem_map, List.getElem_map] at e;rw [e, Kz] at this
 cases this
theorem KC {n : ANd} {all : Int} (h : Bi n all = true) : Ev n := by
 unfold Bi at h;simp only [Bool.and_eq_true, decide_eq_true_eq] at h;exact h.2.2.2.2.1.1
def fld (L : List AFd) (s : List UInt8) : List Int := (L.filter fun f => decide (f.name = s)).map (·.at_)
theorem Qm {s : List UInt8} : ∀ L : List AFd, (L.map (·.name)).Nodup -> fld L s = ((L.find? fun f => decide (f.name = s)).map (·.at_)).toList
 | [], _ => rfl
 | f :: L, h => by
  rw [List.map_cons, List.nodup_cons] at h;unfold fld
  by_cases hf : f.name = s
  ·rw [List.filter_cons_of_pos (by simpa using hf), List.find?_cons_of_pos (by simpa using hf)]
   have : L.filter (fun f => decide (f.name = s)) = [] := by
    rw [List.filter_eq_nil_iff]
    intro g hg hgs
    exact h.1 (List.mem_map.2 ⟨g, hg, by rw [hf]; simpa using hgs⟩)
   rw [this]; rfl
  ·rw [List.filter_cons_of_neg (by simpa using hf), List.find?_cons_of_neg (by simpa using hf)]
   exact Qm L h.2
def FP (t : ATy) (l : List Int) (s : List UInt8) : List Int := l.flatMap fun i => fld (nd t i).l s
theorem Rv {t : ATy} (hO : OkT t) (s : List UInt8) : ∀ l : List Int, (∀ i ∈ l, In t i) -> FP t l s = AL t l s
 | [], _ => rfl
 | i :: l, h => by
  have h1 := Rv hO s l (fun j hj => h j (by simp [hj]))
  have h2 := Qm (s := s) _ (Ku (KC (hO.right _ (Fw (h i (by simp))))))
  unfold FP AL at h1 ⊢;rw [List.flatMap_cons, h1, h2, List.filterMap_cons];unfold atN
  cases ((nd t i).l.find? fun f => decide (f.name = s)).map (·.at_) <;> rfl
structure MI (M : List (List UInt8 × List Int)) (f : List UInt8 -> List Int) (n : Nat) : Prop where
 nodup : (M.map (·.1)).Nodup
 get : ∀ s, mget M s = if f s = [] then none else some (f s)
 len : M.length <= n
 flen : ∀ s, (f s).length <= n
theorem MI.getD {M : List (List UInt8 × List Int)} {f : List UInt8 -> List Int} {n : Nat} (h : MI M f n) (s : List UInt8) : (mget M s).getD [] = f s := by
 rw [h.get s]
 by_cases hs : f s = []
 ·rw [if_pos hs, hs]; rfl
 ·rw [if_neg hs]; rfl
theorem Ot {x : ANd} (hx : NB x) {M : List (List UInt8 × List Int)} {f : List UInt8 -> List Int} {n : Nat} (hn : n <= 1000000) (h : MI M f n) : ∃ M', Ew x FU (0, M) = some M' /\ MI M' (fun s => f s ++ fld x.l s) (n + x.l.length) := by
 have hx40 : x.l.length <= 40 := hx
 obtain ⟨o, e1, e2⟩ := AU (φ := fun n i s => Ew x n (i, s)) (l := x.l) (fun i M => MI M (fun s => f s ++ fld (x.l.take i) s) (n + i)) (fun M => MI M (fun s => f s ++ fld x.l s) (n + x.l.length))
  (by
   intro m i y M hy hi hI
   left
   have hl := hI.flen y.name
   simp only [Ew];rw [dT (show (i : Int) < (x.l.length : Int) by omega), cT, getI hy, oB, hI.getD, Ab (by simp only [List.length_cons, List.length_nil]; omega), Ab (by constructor <;> omega)];refine ⟨_, rfl, ⟨PS hI.nodup, fun s => ?_, ?_, fun s => ?_⟩⟩
   ·rw [JH]
    by_cases hs : s = y.name
    ·subst hs
     rw [if_pos rfl, takeS hy]
     have e : fld (x.l.take i ++ [y]) y.name = fld (x.l.take i) y.name ++ [y.at_] := by unfold fld; rw [List.filter_append, List.map_append]; simp
     rw [e, <- List.append_assoc, if_neg (by simp)]
    ·rw [if_neg hs, hI.get s, takeS hy]
     have e : fld (x.l.take i ++ [y]) s = fld (x.l.take i) s := by unfold fld; rw [List.filter_append, List.map_append]; simp [show ¬ y.name = s from fun e => hs e.symm]
     rw [e]
   ·have := RX (l := M) (k := y.name) (v := (f y.name ++ fld (x.l.take i) y.name) ++ [y.at_])
    have := hI.len
    omega
   ·have h2 : (fld (x.l.take (i + 1)) s).length <= (fld (x.l.take i) s).length + 1 := by
     rw [takeS hy]; unfold fld; rw [List.filter_append, List.map_append, List.length_append, List.length_map, List.length_map]
     have := List.length_filter_le (fun f => decide (f.name = s)) [y]
     simp only [List.length_cons, List.length_nil] at this
     omega
    have := hI.flen s
    simp only [List.length_append] at this ⊢
    omega)
  (by
   intro m M hI
   simp only [Ew];rw [dF (by omega), cF_];exact ⟨M, rfl, by simpa using hI⟩) (by rw [FUv]; omega) M (by simpa [fld] using h)
 exact ⟨o, e1, e2⟩
theorem N0 {t : ATy} (hN : ∀ n ∈ t.l, NB n) {l : List Int} (h : ∀ i ∈ l, In t i) (hl : l.length <= 500) : ∃ M, Iu t l = some M /\ MI M (FP t l) 20000 := by
 unfold Iu;obtain ⟨o, e1, e2⟩ := AU (φ := fun n i s => Fa t l n (i, s)) (l := l) (fun i M => MI M (FP t (l.take i)) (40 * i)) (fun M => MI M (FP t l) 20000)
  (by
   intro m i x M hx hi hI
   left
   have hxi := h x (List.mem_of_getElem? hx)
   obtain ⟨M', h1, h2⟩ := Ot (hN _ (Fw hxi)) (by omega) hI;simp only [Fa];rw [dT (show (i : Int) < (l.length : Int) by omega), cT, getI hx, oB, getN hxi, oB, h1, oB, Ab (by constructor <;> omega)];refine ⟨_, rfl, ?_⟩
   have h40 : (nd t x).l.length <= 40 := hN _ (Fw hxi)
   have e : FP t (l.take (i + 1)) = fun s => FP t (l.take i) s ++ fld (nd t x).l s := by
    funext s; rw [takeS hx]; unfold FP; rw [List.flatMap_append]; simp
   rw [e];exact ⟨h2.nodup, h2.get, by have := h2.len; omega, fun s => by have := h2.flen s; omega⟩)
  (by
   intro m M hI
   simp only [Fa];rw [dF (by omega), cF_];rw [List.take_length] at hI;exact ⟨M, rfl, hI.nodup, hI.get, by have := hI.len; omega, fun s => by have := hI.flen s; omega⟩) (by rw [FUv]; omega) [] ⟨by simp, fun s => by simp [mget, FP], by simp, fun s => by simp [FP]⟩
 exact ⟨o, by rw [e1]; rfl, e2⟩
theorem Qk {Ml Mr Ma : List (List UInt8 × List Int)} {fl fr fa : List UInt8 -> List Int} (hl : MI Ml fl 20000) (hr : MI Mr fr 20000) (ha : MI Ma fa 20000) (n : Nat) (hn : 0 < n) :
  ∃ r, H9 Ml Mr Ma (n : Int) = some r /\ (r.fails = true ↔ ∃ s, n <= (fa s).length /\ (fl s = [] \/ fr s = [])) /\ (r.fails = true -> r.to_ = []) /\ (r.fails = false -> ∀ q, q ∈ r.to_ ↔ ∃ s, n <= (fa s).length /\ q = ⟨cs (fl s), cs (fr s)⟩) := by
 have hmem : ∀ e, e ∈ Ma ↔ (e.2 = fa e.1 /\ fa e.1 ≠ []) := by
  rintro ⟨s, v⟩;rw [Rl ha.nodup, ha.get s]
  by_cases hs : fa s = []
  ·rw [if_pos hs]; simp [hs]
  ·rw [if_neg hs]; simp only [Option.some.injEq]; exact ⟨fun e => ⟨e.symm, hs⟩, fun e => e.1.symm⟩
 have hE : ∀ e ∈ Ma, wideE Ml Mr (n : Int) e = if (fa e.1).length < n then some none else if fl e.1 = [] \/ fr e.1 = [] then some (some none) else some (some (some ⟨cs (fl e.1), cs (fr e.1)⟩)) := by
  intro e he
  obtain ⟨h1, h2⟩ := (hmem e).1 he;unfold wideE;rw [hl.getD, hr.getD, h1]
  have h3 := hl.flen e.1
  have h4 := hr.flen e.1
  by_cases hc : (fa e.1).length < n
  ·rw [if_pos (by omega), if_pos hc]
  ·rw [if_neg (by omega), if_neg hc]
   by_cases hd : fl e.1 = [] \/ fr e.1 = []
   ·rw [if_pos (by rw [List.length_eq_zero_iff, List.length_eq_zero_iff]; exact hd), if_pos hd]
   ·rw [if_neg (by rw [List.length_eq_zero_iff, List.length_eq_zero_iff]; exact hd), if_neg hd, I3 (by omega), oB, I3 (by omega), oB]
 have hlen := ha.len
 unfold H9;rw [if_pos ⟨by omega, fun e he => by rw [hE e he]; split; rfl; split <;> rfl⟩]
 have hbad : (∃ e ∈ Ma, wideE Ml Mr (n : Int) e = some (some none)) ↔ ∃ s, n <= (fa s).length /\ (fl s = [] \/ fr s = []) := by
  constructor
  ·rintro ⟨e, he, h1⟩
   rw [hE e he] at h1
   by_cases hc : (fa e.1).length < n
   ·rw [if_pos hc] at h1; cases h1
   ·rw [if_neg hc] at h1
    by_cases hd : fl e.1 = [] \/ fr e.1 = []
    ·exact ⟨e.1, by omega, hd⟩
    ·rw [if_neg hd] at h1; cases h1
  ·rintro ⟨s, h1, h2⟩
   have hne : fa s ≠ [] := fun e => by rw [e] at h1; simp at h1; omega
   have he : (s, fa s) ∈ Ma := (hmem _).2 ⟨rfl, hne⟩
   refine ⟨_, he, ?_⟩;rw [hE _ he, if_neg (by simp only; omega), if_pos h2]
 by_cases hb : ∃ e ∈ Ma, wideE Ml Mr (n : Int) e = some (some none)
 ·rw [if_pos hb]
  exact ⟨_, rfl, ⟨fun _ => hbad.1 hb, fun _ => rfl⟩, fun _ => rfl, fun h => (by cases h)⟩
 ·rw [if_neg hb]
  refine ⟨_, rfl, ⟨fun h => (by cases h), fun h => absurd (hbad.2 h) hb⟩, fun h => (by cases h), fun _ q => ?_⟩;simp only [List.mem_filterMap]
  constructor
  ·rintro ⟨e, he, h1⟩
   unfold wideQ at h1;rw [hE e he] at h1
   by_cases hc : (fa e.1).length < n
   ·rw [if_pos hc] at h1; cases h1
   ·rw [if_neg hc] at h1
    by_cases hd : fl e.1 = [] \/ fr e.1 = []
    ·rw [if_pos hd] at h1; cases h1
    ·rw [if_neg hd] at h1
     exact ⟨e.1, by omega, (Option.some.inj h1).symm⟩
  ·rintro ⟨s, h1, rfl⟩
   have hne : fa s ≠ [] := fun e => by rw [e] at h1; simp at h1; omega
   have he : (s, fa s) ∈ Ma := (hmem _).2 ⟨rfl, hne⟩
   refine ⟨_, he, ?_⟩;unfold wideQ;rw [hE _ he, if_neg (by simp only; omega), if_neg (fun h => hb (hbad.2 ⟨s, h1, h⟩))]
theorem PJ {f : Int -> Option Int} : ∀ l : List Int, (l.filterMap f).length <= l.length /\ (l.length <= (l.filterMap f).length ↔ ∀ i ∈ l, f i ≠ none)
 | [] => by simp
 | i :: l => by
  obtain ⟨h1, h2⟩ := PJ (f := f) l;rw [List.filterMap_cons]
  cases hi : f i with
  | none => simp only [List.length_cons, List.mem_cons, forall_eq_or_imp, hi]; exact ⟨by omega, ⟨fun h => by omega, fun h => absurd rfl h.1⟩⟩
  | some k =>
   simp only [List.length_cons, List.mem_cons, forall_eq_or_imp, hi];exact ⟨by omega, by rw [<- h2]; simp⟩
theorem Iz {t : ATy} {l : List Int} (hne : l ≠ []) {s : List UInt8} : l.length <= (AL t l s).length ↔ s ∈ Dj t l := by
 rw [mem_names];unfold AL;rw [(PJ l).2]
 simp [hne]
theorem Qg {t : ATy} {l r : List Int} {s : List UInt8} : badA t l r s = true ↔ AL t l s = [] \/ AL t r s = [] := by
 unfold badA;rw [Bool.or_eq_true, List.isEmpty_iff, List.isEmpty_iff]
theorem Rc {t : ATy} {q : BSq} (hO : OkT t) (hN : ∀ n ∈ t.l, NB n) (hq : InQ t q) (h1 : q.left.length <= 500) (h2 : q.right.length <= 500) (hb : ∀ i ∈ q.left, (nd t i).kind ≠ 2) (hla : ∀ i ∈ q.left, latB (nd t i).kind = false) :
  ∃ r, BO t q = some r /\ r.fails = (DG t q).1 /\ ∀ s, s ∈ r.to_ ↔ s ∈ (DG t q).2 := by
 unfold BO;obtain ⟨k, more, e1, e2, e3⟩ := Sj hO hq.1 hb hla h1;rw [e1, oB]
 simp only
 cases more with
 | true =>
  obtain ⟨a, b, m, e4⟩ := e2 Uj;rw [cT];refine ⟨_, rfl, ?_⟩;unfold DG; rw [e4]; simp
 | false =>
  rw [cF_]
  rcases e3 rfl with ⟨hk, e4⟩ | ⟨hk, e4⟩
  ·rw [dT hk, cT]
   refine ⟨_, rfl, ?_⟩;unfold DG; rw [e4]; simp
  ·rw [dF (by omega), cF_]
   have hL : ∀ i ∈ ofK t q.left k, In t i := fun i hi => hq.1 i (mem_ofK.1 hi).1
   have hR : ∀ i ∈ ofK t q.right k, In t i := fun i hi => hq.2 i (mem_ofK.1 hi).1
   have hll : (ofK t q.left k).length <= 500 := Nat.le_trans (List.length_filter_le _ _) h1
   have hrl : (ofK t q.right k).length <= 500 := Nat.le_trans (List.length_filter_le _ _) h2
   rw [Qf hq.1 h1, oB, Qf hq.2 h2, oB];obtain ⟨Ml, e5, e6⟩ := N0 hN hL hll;obtain ⟨Mr, e7, e8⟩ := N0 hN hR hrl;rw [e5, oB, e7, oB];rw [show FP t (ofK t q.left k) = AL t (ofK t q.left k) from funext (fun s => Rv hO s _ hL)] at e6;rw [show FP t (ofK t q.right k) = AL t (ofK t q.right k) from funext (fun s => Rv hO s _ hR)] at e8
   have hcl : DG t q = Cb t k (ofK t q.left k) (ofK t q.right k) := by unfold DG; rw [e4]
   rw [hcl];obtain ⟨_, ⟨i0, hi0, hk0⟩, _⟩ := FJ e4
   have hlne : ofK t q.left k ≠ [] := fun e => by have := mem_ofK.2 ⟨hi0, hk0⟩; rw [e] at this; cases this
   generalize ofK t q.left k = l at *
   generalize ofK t q.right k = r at *
   unfold Cb
   by_cases h6 : k = 6
   ·subst h6
    rw [dT rfl, cT]
    by_cases hr : r = []
    ·rw [if_pos ⟨by omega, hr⟩]
     unfold Bv;rw [hr, dT (by simp), cT];exact ⟨_, rfl, rfl, fun s => Iff.rfl⟩
    ·rw [if_neg (fun h => hr h.2), if_pos rfl, Q5 ⟨hL, hR⟩ hll hrl hr]
     exact ⟨_, rfl, rfl, fun s => Iff.rfl⟩
   ·rw [dF h6, cF_]
    by_cases h7 : k = 7
    ·subst h7
     rw [dT rfl, cT]
     by_cases hr : r = []
     ·rw [if_pos ⟨by omega, hr⟩, hr, dT (by simp), cT]
      exact ⟨_, rfl, rfl, fun s => Iff.rfl⟩
     ·rw [if_neg (fun h => hr h.2), if_neg (by omega), dF (by have := List.length_pos_iff.2 hr; omega), cF_]
      obtain ⟨a, e9, e10, e11, e12⟩ := Qk e6 e8 e8 r.length (List.length_pos_iff.2 hr);rw [e9, oB];refine ⟨a, rfl, ?_⟩
      have hall : allA t 7 l r = Dj t r := by unfold allA; simp
      rw [hall]
      have hbb : (Dj t r).any (badA t l r) = a.fails := by
       rw [Bool.eq_iff_iff, e10, List.any_eq_true];simp only [Qg, Iz hr]
      cases hf : a.fails with
      | true => rw [if_pos (by rw [hbb, hf]), e11 hf]; exact ⟨rfl, fun s => Iff.rfl⟩
      | false =>
       rw [if_neg (by rw [hbb, hf]; simp)];refine ⟨rfl, fun s => ?_⟩;rw [e12 hf, List.mem_map];simp only [Iz hr];exact ⟨fun ⟨n, hn, e⟩ => ⟨n, hn, e.symm⟩, fun ⟨n, hn, e⟩ => ⟨n, hn, e.symm⟩⟩
    ·rw [dF h7, cF_]
     by_cases h8 : k = 8
     ·subst h8
      rw [dT rfl, cT, if_neg (fun h => h.1 Uj), if_neg (by omega)];obtain ⟨a, e9, e10, e11, e12⟩ := Qk e6 e8 e6 l.length (List.length_pos_iff.2 hlne);rw [e9, oB];refine ⟨a, rfl, ?_⟩
      have hall : allA t 8 l r = Dj t l := by unfold allA; simp
      rw [hall]
      have hbb : (Dj t l).any (badA t l r) = a.fails := by
       rw [Bool.eq_iff_iff, e10, List.any_eq_true];simp only [Qg, Iz hlne]
      cases hf : a.fails with
      | true => rw [if_pos (by rw [hbb, hf]), e11 hf]; exact ⟨rfl, fun s => Iff.rfl⟩
      | false =>
       rw [if_neg (by rw [hbb, hf]; simp)];refine ⟨rfl, fun s => ?_⟩;rw [e12 hf, List.mem_map];simp only [Iz hlne];exact ⟨fun ⟨n, hn, e⟩ => ⟨n, hn, e.symm⟩, fun ⟨n, hn, e⟩ => ⟨n, hn, e.symm⟩⟩
     ·rw [dF h8, cF_]
      refine ⟨_, rfl, ?_⟩
      have hall : allA t k l r = [] := by unfold allA; rw [if_neg h7, if_neg h8]
      by_cases hr : r = []
      ·rw [if_pos ⟨h8, hr⟩, hr]; exact ⟨rfl, fun s => Iff.rfl⟩
      ·rw [if_neg (fun h => hr h.2), if_neg h6, hall]
       refine ⟨?_, fun s => Iff.rfl⟩
       simp [hr]
theorem Ru {t : ATy} {q : BSq} (hO : OkT t) (hN : ∀ n ∈ t.l, NB n) (hq : InQ t q) (h1 : q.left.length <= 500) (h2 : q.right.length <= 500) :
  ∃ r, AJ t q = some r /\ r.fails = (AX t q).1 /\ ∀ s, s ∈ r.to_ ↔ s ∈ (AX t q).2 := by
 unfold AJ;rw [Sp hq.1 (by omega), oB, Sp hq.2 (by omega)]
 have he : (bif (q.left.any fun i => decide ((nd t i).kind = 2)) then (some true) else ((some (q.right.any fun i => decide ((nd t i).kind = 1))).bind fun x2 => some x2)) = some (endA t q) := by
  unfold endA
  cases q.left.any fun i => decide ((nd t i).kind = 2) <;> rfl
 rw [he, oB];unfold AX
 cases h3 : endA t q with
 | true => rw [cT, if_pos rfl]; exact ⟨_, rfl, rfl, fun s => Iff.rfl⟩
 | false =>
  rw [cF_, if_neg (by simp), Qz hq h1 h2, oB]
  cases h4 : openA t q with
  | some l => simp only [cT]; exact ⟨_, rfl, rfl, fun s => Iff.rfl⟩
  | none =>
   simp only [cF_];rw [Rk hq h1 h2, oB]
   cases h5 : FX t q with
   | true => rw [cT, if_pos rfl]; exact ⟨_, rfl, rfl, fun s => Iff.rfl⟩
   | false =>
    rw [cF_, if_neg (by simp)]
    have hC := J2 (t := t) (q := q) (by rw [h3]; simp) h4 (by rw [h5]; simp)
    obtain ⟨r, e1, e2, e3⟩ := Rc hO hN hq h1 h2 hC.bot hC.latL;rw [e1, oB];exact ⟨r, rfl, e2, e3⟩
end Go.Proofs.YtkfnogdccpcmhaaGreatDoor
namespace Go.Proofs.YtkfnogdccpcmhaaGreatDoor
open Go.V
open Classical
def dd (x : Int) : List UInt8 := Lib.decDigits x.toNat
theorem NR {a b : Nat} (ha : a < 256) (hb : b < 256) (h : UInt8.ofNat a = UInt8.ofNat b) : a = b := by
 have := congrArg UInt8.toNat h
 rw [UInt8.toNat_ofNat', UInt8.toNat_ofNat'] at this
 omega
theorem RU {u : Nat} (h : u < 100) : Lib.decDigits u = if u < 10 then [UInt8.ofNat (48 + u)] else [UInt8.ofNat (48 + u / 10), UInt8.ofNat (48 + u % 10)] := by
 rw [Lib.decDigits]
 by_cases h1 : u < 10
 ·rw [dif_pos h1, if_pos h1]
 ·rw [dif_neg h1, if_neg h1, Lib.decDigits, dif_pos (by omega)]; rfl
theorem TB {x y : Int} (hx : 0 <= x /\ x < 100) (hy : 0 <= y /\ y < 100) (h : dd x = dd y) : x = y := by
 unfold dd at h;rw [RU (by omega), RU (by omega)] at h
 have key : x.toNat = y.toNat := by
  split at h
  ·split at h
   ·have := NR (by omega) (by omega) (List.cons.inj h).1; omega
   ·cases (List.cons.inj h).2
  ·split at h
   ·cases (List.cons.inj h).2
   ·have h1 := NR (by omega) (by omega) (List.cons.inj h).1
    have h2 := NR (by omega) (by omega) (List.cons.inj (List.cons.inj h).2).1
    omega
 omega
theorem M8 {x : Int} (hx : 0 <= x /\ x < 100) : dd x ≠ [] /\ (dd x).length <= 2 /\ ∀ c ∈ dd x, c ≠ 32 /\ c ≠ 124 := by
 have key : ∀ n : Nat, 48 <= n -> n < 58 -> UInt8.ofNat n ≠ 32 /\ UInt8.ofNat n ≠ 124 := by
  intro n h1 h2
  constructor <;> intro e <;> have := congrArg UInt8.toNat e <;> rw [UInt8.toNat_ofNat'] at this
  ·change n % 256 = 32 at this; omega
  ·change n % 256 = 124 at this; omega
 unfold dd;rw [RU (by omega)]
 split
 ·exact ⟨by simp, by simp, fun c hc => by rw [List.mem_singleton] at hc; subst hc; exact key _ (by omega) (by omega)⟩
 ·refine ⟨by simp, by simp, fun c hc => ?_⟩
  simp only [List.mem_cons, List.not_mem_nil, or_false] at hc
  rcases hc with rfl | rfl
  ·exact key _ (by omega) (by omega)
  ·exact key _ (by omega) (by omega)
theorem NV {c : UInt8} : ∀ (a b x y : List UInt8), c ∉ a -> c ∉ b -> a ++ c :: x = b ++ c :: y -> a = b /\ x = y
 | [], [], x, y, _, _, h => ⟨rfl, (List.cons.inj h).2⟩
 | [], d :: b, x, y, _, hb, h => absurd (List.cons.inj h).1 (fun e => hb (by simp [e]))
 | d :: a, [], x, y, ha, _, h => absurd (List.cons.inj h).1 (fun e => ha (by simp [e]))
 | d :: a, e :: b, x, y, ha, hb, h => by
  obtain ⟨h1, h2⟩ := List.cons.inj h;obtain ⟨h3, h4⟩ := NV a b x y (fun h => ha (by simp [h])) (fun h => hb (by simp [h])) h2;exact ⟨by rw [h1, h3], h4⟩
def tl (l : List Int) : List UInt8 := l.flatMap fun y => 32 :: dd y
def tx : List Int -> List UInt8
 | [] => []
 | x :: l => dd x ++ tl l
theorem S8 : ∀ l : List Int, Lib.join (l.map dd) [32] = tx l
 | [] => Lib.join_nil _
 | x :: l => by
  rw [List.map_cons, Lib.join_cons]
  show _ = dd x ++ List.flatMap (fun y => 32 :: dd y) l
  unfold Lib.joinTail;rw [List.flatMap_def, List.map_map]
  rfl
def Low (l : List Int) : Prop := ∀ x ∈ l, 0 <= x /\ x < 100
theorem Sx : ∀ l m : List Int, Low l -> Low m -> tl l = tl m -> l = m
 | [], [], _, _, _ => rfl
 | [], y :: m, _, _, h => by cases h
 | x :: l, [], _, _, h => by cases h
 | x :: l, y :: m, hl, hm, h => by
  have hx := M8 (hl x (by simp))
  have hy := M8 (hm y (by simp))
  have h1 : dd x ++ tl l = dd y ++ tl m := by
   unfold tl at h ⊢;rw [List.flatMap_cons, List.flatMap_cons, List.cons_append, List.cons_append] at h;exact (List.cons.inj h).2
  have h2 : dd x ++ (tl l ++ [32]) = dd y ++ (tl m ++ [32]) := by rw [<- List.append_assoc, <- List.append_assoc, h1]
  have hc : ∀ l : List Int, ∃ z, tl l ++ [32] = 32 :: z := by
   intro l
   cases l with
   | nil => exact ⟨[], rfl⟩
   | cons a l => exact ⟨dd a ++ tl l ++ [32], by unfold tl; rw [List.flatMap_cons]; rfl⟩
  obtain ⟨z1, e1⟩ := hc l;obtain ⟨z2, e2⟩ := hc m;rw [e1, e2] at h2;obtain ⟨h3, h4⟩ := NV _ _ _ _ (fun h => (hx.2.2 _ h).1 rfl) (fun h => (hy.2.2 _ h).1 rfl) h2
  have hxy := TB (hl x (by simp)) (hm y (by simp)) h3
  subst hxy;rw [Sx l m (fun z hz => hl z (by simp [hz])) (fun z hz => hm z (by simp [hz])) (List.append_cancel_left h1)]
theorem Su {l m : List Int} (hl : Low l) (hm : Low m) (h : tx l = tx m) : l = m := by
 refine Sx l m hl hm ?_
 cases l with
 | nil =>
  cases m with
  | nil => rfl
  | cons y m =>
   have := (M8 (hm y (by simp))).1
   unfold tx at h;exact absurd (List.append_eq_nil_iff.1 h.symm).1 this
 | cons x l =>
  cases m with
  | nil =>
   have := (M8 (hl x (by simp))).1
   unfold tx at h;exact absurd (List.append_eq_nil_iff.1 h).1 this
  | cons y m =>
   change dd x ++ tl l = dd y ++ tl m at h
   unfold tl at h ⊢;rw [List.flatMap_cons, List.flatMap_cons, List.cons_append, List.cons_append, h]
theorem OS : ∀ l : List Int, Low l -> (tl l).length <= 3 * l.length /\ (124 : UInt8) ∉ tl l
 | [], _ => by simp [tl]
 | x :: l, h => by
  obtain ⟨h1, h2⟩ := OS l (fun z hz => h z (by simp [hz]));obtain ⟨_, h3, h4⟩ := M8 (h x (by simp))
  have e : tl (x :: l) = 32 :: (dd x ++ tl l) := by unfold tl; rw [List.flatMap_cons]; rfl
  rw [e];refine ⟨by simp only [List.length_cons, List.length_append]; omega, ?_⟩;simp only [List.mem_cons, List.mem_append, not_or];exact ⟨by decide, fun h => (h4 _ h).2 rfl, h2⟩
theorem Ij {l : List Int} (h : Low l) : (tx l).length <= 3 * l.length /\ (124 : UInt8) ∉ tx l := by
 cases l with
 | nil => simp [tx]
 | cons x l =>
  obtain ⟨h1, h2⟩ := OS l (fun z hz => h z (by simp [hz]));obtain ⟨_, h3, h4⟩ := M8 (h x (by simp));unfold tx;refine ⟨by simp only [List.length_cons, List.length_append]; omega, ?_⟩;simp only [List.mem_append, not_or];exact ⟨fun h => (h4 _ h).2 rfl, h2⟩
theorem P4 {l : List Int} (h : Low l) (hl : l.length <= 1000) : D1 l = some (tx l) := by
 unfold D1;rw [Ab (by omega), Ab (by omega)];obtain ⟨o, e1, e2⟩ := AU (φ := fun n i s => Ct l n (i, s)) (l := l) (fun i s => s.length = l.length /\ ∀ j, j < i -> s[j]? = (l[j]?).map dd) (fun o => o = l.map dd)
  (by
   intro n i x s hx hi hI
   left
   have h3 : s[i]? = some (s[i]'(by omega)) := List.getElem?_eq_getElem (by omega)
   simp only [Ct];rw [dT (show (i : Int) < (l.length : Int) by omega), cT, getI hx, oB, Ab (h x (List.mem_of_getElem? hx)), getI h3, oB, Ab (by constructor <;> omega)];refine ⟨_, rfl, by rw [List.length_set]; exact hI.1, fun j hj => ?_⟩;rw [Int.toNat_natCast]
   by_cases hji : j = i
   ·subst hji
    rw [List.getElem?_set_self (by omega), hx]; rfl
   ·rw [List.getElem?_set_ne (by omega)]
    exact hI.2 j (by omega))
  (by
   intro n s hI
   simp only [Ct];rw [dF (by omega), cF_];refine ⟨s, rfl, List.ext_getElem? fun j => ?_⟩;rw [List.getElem?_map]
   by_cases hj : j < l.length
   ·exact hI.2 j hj
   ·rw [List.getElem?_eq_none (by omega), List.getElem?_eq_none (by omega)]; rfl) (by rw [FUv]; omega) (List.replicate ((l.length : Int)).toNat []) ⟨by simp, fun j hj => by omega⟩
 have hf := Ij h
 rw [e1, oB, e2, S8, Ab (by rw [List.length_map]; omega), Ab (by omega)]
def keyS (q : BSq) : List UInt8 := (tx q.left ++ [124]) ++ tx q.right
theorem TO {q : BSq} (h1 : Low q.left) (h2 : Low q.right) (h3 : q.left.length <= 1000) (h4 : q.right.length <= 1000) : AG q = some (keyS q) := by
 have f1 := Ij h1
 have f2 := Ij h2
 unfold AG;rw [P4 h1 h3, oB, Ab (by simp only [List.length_cons, List.length_nil]; omega), P4 h2 h4, oB, Ab (by simp only [List.length_append, List.length_cons, List.length_nil]; omega)]
 rfl
theorem Tk {q s : BSq} (h1 : Low q.left) (h2 : Low q.right) (h3 : Low s.left) (h4 : Low s.right) (h : keyS q = keyS s) : q = s := by
 unfold keyS at h;rw [List.append_assoc, List.append_assoc] at h;obtain ⟨a, b⟩ := NV _ _ _ _ (Ij h1).2 (Ij h3).2 h;obtain ⟨l, r⟩ := q;obtain ⟨l', r'⟩ := s
 have e1 := Su h1 h3 a
 have e2 := Su h2 h4 b
 simp only at e1 e2
 rw [e1, e2]
def subs : List Int -> List (List Int)
 | [] => [[]]
 | x :: l => subs l ++ (subs l).map (x :: ·)
theorem Mf : ∀ l : List Int, (subs l).length = 2 ^ l.length
 | [] => rfl
 | x :: l => by
  unfold subs;rw [List.length_append, List.length_map, Mf l, List.length_cons, Nat.pow_succ]; omega
theorem JQ : ∀ (l s : List Int), s ∈ subs l -> s.Sublist l
 | [], s, h => by simp [subs] at h; subst h; exact List.Sublist.slnil
 | x :: l, s, h => by
  unfold subs at h
  rcases List.mem_append.1 h with h | h
  ·exact (JQ l s h).cons x
  ·obtain ⟨s', h', rfl⟩ := List.mem_map.1 h
   exact (JQ l s' h').cons_cons x
theorem Im : ∀ (P s : List Int), P.Pairwise (· < ·) -> s.Pairwise (· < ·) -> (∀ x ∈ s, x ∈ P) -> s ∈ subs P
 | [], s, _, _, h => by
  cases s with
  | nil => simp [subs]
  | cons x s => exact absurd (h x (by simp)) (by simp)
 | x :: P, [], hP, hs, h => by
  unfold subs;exact List.mem_append_left _ (Im P [] (List.pairwise_cons.1 hP).2 List.Pairwise.nil (by simp))
 | x :: P, y :: s, hP, hs, h => by
  obtain ⟨p1, p2⟩ := List.pairwise_cons.1 hP;obtain ⟨s1, s2⟩ := List.pairwise_cons.1 hs;unfold subs
  by_cases hxy : y = x
  ·subst hxy
   refine List.mem_append_right _ (List.mem_map.2 ⟨s, Im P s p2 s2 (fun z hz => ?_), rfl⟩)
   rcases List.mem_cons.1 (h z (by simp [hz])) with e | e
   ·have := s1 z hz; omega
   ·exact e
  ·have hyP : y ∈ P := (List.mem_cons.1 (h y (by simp))).resolve_left hxy
   have hxy2 := p1 y hyP
   refine List.mem_append_left _ (Im P (y :: s) p2 hs (fun z hz => ?_))
   rcases List.mem_cons.1 (h z hz) with e | e
   ·exfalso
    rcases List.mem_cons.1 hz with e2 | e2
    ·omega
    ·have := s1 z e2; omega
   ·exact e
def UAB (A B : List Int) : List BSq := (subs A).flatMap fun l => (subs B).map fun r => ⟨l, r⟩
theorem Na (c : Nat) : ∀ l : List Nat, (∀ x ∈ l, x = c) -> l.sum = l.length * c
 | [], _ => by simp
 | x :: l, h => by
  rw [List.sum_cons, Na c l (fun y hy => h y (by simp [hy])), h x (by simp), List.length_cons, Nat.succ_mul]; omega
theorem Nl (A B : List Int) : (UAB A B).length = 2 ^ (A.length + B.length) := by
 unfold UAB;rw [List.length_flatMap, Na (2 ^ B.length), List.length_map, Mf, Nat.pow_add]
 intro x hx
 obtain ⟨l, _, rfl⟩ := List.mem_map.1 hx;rw [List.length_map, Mf]
def Srt (q : BSq) : Prop := q.left.Pairwise (· < ·) /\ q.right.Pairwise (· < ·)
theorem D2 {A B : List Int} (hA : A.Pairwise (· < ·)) (hB : B.Pairwise (· < ·)) {q : BSq} : q ∈ UAB A B ↔ Srt q /\ InAB (· ∈ A) (· ∈ B) q := by
 unfold UAB;rw [List.mem_flatMap]
 constructor
 ·rintro ⟨l, hl, h⟩
  obtain ⟨r, hr, rfl⟩ := List.mem_map.1 h
  have h1 := JQ A l hl
  have h2 := JQ B r hr
  exact ⟨⟨hA.sublist h1, hB.sublist h2⟩, fun i hi => h1.subset hi, fun i hi => h2.subset hi⟩
 ·rintro ⟨⟨h1, h2⟩, h3, h4⟩
  exact ⟨q.left, Im A _ hA h1 h3, List.mem_map.2 ⟨q.right, Im B _ hB h2 h4, rfl⟩⟩
theorem HG {t : ATy} {q s : BSq} (hq : Srt q) (hs : s ∈ (AX t q).2) : Srt s := by
 unfold AX at hs
 split at hs
 ·cases hs
 ·split at hs
  ·rename_i l h2
   unfold openA at h2
   split at h2
   ·cases h2
    split at hs
    ·simp only [List.mem_singleton] at hs; subst hs; exact ⟨Bk _, hq.2⟩
    ·simp only [List.mem_cons, List.not_mem_nil, or_false] at hs
     rcases hs with rfl | rfl
     ·exact ⟨Bk _, hq.2⟩
     ·exact ⟨Bk _, hq.2⟩
   ·split at h2
    ·cases h2
     split at hs
     ·simp only [List.mem_singleton] at hs; subst hs; exact ⟨hq.1, Bk _⟩
     ·simp only [List.mem_cons, List.not_mem_nil, or_false] at hs
      rcases hs with rfl | rfl
      ·exact ⟨hq.1, Bk _⟩
      ·exact ⟨hq.1, Bk _⟩
    ·cases h2
  ·split at hs
   ·cases hs
   ·unfold DG at hs
    split at hs
    ·cases hs
    ·unfold Cb at hs
     split at hs
     ·cases hs
     ·split at hs
      ·simp only [List.mem_cons, List.not_mem_nil, or_false] at hs
       rcases hs with rfl | rfl
       ·exact ⟨Bk _, Bk _⟩
       ·exact ⟨Bk _, Bk _⟩
      ·split at hs
       ·cases hs
       ·obtain ⟨n, _, rfl⟩ := List.mem_map.1 hs
        exact ⟨Bk _, Bk _⟩
    ·cases hs
theorem KO {t : ATy} {l : List Int} (h : l.Pairwise (· < ·)) (hi : ∀ i ∈ l, In t i) : l.length <= t.l.length := Ie _ l (h.imp (fun h => by omega)) hi
structure UOk (t : ATy) (q : BSq) (U : List BSq) : Prop where
 mem : q ∈ U
 srt : ∀ s ∈ U, Srt s
 inn : ∀ s ∈ U, InQ t s
 clo : ∀ s ∈ U, ∀ s' ∈ (AX t s).2, s' ∈ U
 len : U.length <= 1000000000000
theorem UOk.rch {t : ATy} {q : BSq} {U : List BSq} (h : UOk t q U) {s : BSq} (hs : Rch t q s) : s ∈ U := by
 induction hs with
 | refl => exact h.mem
 | step _ h2 ih => exact h.clo _ ih _ h2
open Classical in
theorem Sa {t : ATy} {q : BSq} {U : List BSq} (hO : OkT t) (hN : ∀ n ∈ t.l, NB n) (ht : t.l.length <= 99) (hU : UOk t q U) : Hl t q = some (decide (Valid t q)) := by
 have hlen : ∀ s ∈ U, s.left.length <= 99 /\ s.right.length <= 99 := fun s hs => ⟨Nat.le_trans (KO (hU.srt s hs).1 (hU.inn s hs).1) ht, Nat.le_trans (KO (hU.srt s hs).2 (hU.inn s hs).2) ht⟩
 have hlow : ∀ s ∈ U, Low s.left /\ Low s.right := fun s hs => ⟨fun x hx => by have := (hU.inn s hs).1 x hx; exact ⟨this.1, by have := this.2; omega⟩, fun x hx => by have := (hU.inn s hs).2 x hx; exact ⟨this.1, by have := this.2; omega⟩⟩
 have hkey : ∀ s ∈ U, AG s = some (keyS s) := fun s hs => TO (hlow s hs).1 (hlow s hs).2 (by have := (hlen s hs).1; omega) (by have := (hlen s hs).2; omega)
 have hlead : ∀ s ∈ U, ∃ r, AJ t s = some r /\ r.fails = (AX t s).1 /\ ∀ x, x ∈ r.to_ ↔ x ∈ (AX t s).2 := fun s hs => Ru hO hN (hU.inn s hs) (by have := (hlen s hs).1; omega) (by have := (hlen s hs).2; omega)
 refine Ss ⟨U, hU.mem, hU.len, fun s hs => ⟨_, hkey s hs⟩, fun s hs s' hs' h => ?_, fun s hs => ?_, ?_⟩
 ·rw [hkey s hs, hkey s' hs'] at h
  exact Tk (hlow s hs).1 (hlow s hs).2 (hlow s' hs').1 (hlow s' hs').2 (Option.some.inj h)
 ·obtain ⟨r, h1, _, h3⟩ := hlead s hs
  exact ⟨r, h1, fun s' hs' => hU.clo s hs s' ((h3 s').1 hs')⟩
 ·rw [decide_eq_true_eq, <- M0 hO (hU.inn q hU.mem)]
  have hto : ∀ s, Reach t q s -> Rch t q s := by
   intro s hs
   induction hs with
   | refl => exact .refl
   | step _ h2 h3 ih =>
    obtain ⟨r, h4, _, h5⟩ := hlead _ (hU.rch ih);rw [h2] at h4; cases h4
    exact .step ih ((h5 _).1 h3)
  have hof : ∀ s, Rch t q s -> Reach t q s := by
   intro s hs
   induction hs with
   | refl => exact .refl
   | step h1 h2 ih =>
    obtain ⟨r, h4, _, h5⟩ := hlead _ (hU.rch h1);exact .step ih h4 ((h5 _).2 h2)
  constructor
  ·intro h s hs r hr
   obtain ⟨r', h4, h5, _⟩ := hlead s (hU.rch (hto s hs));rw [hr] at h4; cases h4
   rw [h5]; exact h s (hto s hs)
  ·intro h s hs
   obtain ⟨r, h4, h5, _⟩ := hlead s (hU.rch hs);rw [<- h5]; exact h s (hof s hs) r h4
theorem TM {t : ATy} {A B : List Int} (hA : A.Pairwise (· < ·)) (hB : B.Pairwise (· < ·)) (kA : Kept t (· ∈ A)) (kB : Kept t (· ∈ B)) (hl : A.length + B.length <= 38) {q : BSq} (hs : Srt q) (hq : InAB (· ∈ A) (· ∈ B) q) : UOk t q (UAB A B ++ UAB B A) := by
 refine ⟨List.mem_append_left _ ((D2 hA hB).2 ⟨hs, hq⟩), fun s h => ?_, fun s h => ?_, fun s h s' h' => ?_, ?_⟩
 ·rcases List.mem_append.1 h with h | h
  ·exact ((D2 hA hB).1 h).1
  ·exact ((D2 hB hA).1 h).1
 ·rcases List.mem_append.1 h with h | h
  ·have := ((D2 hA hB).1 h).2
   exact ⟨fun i hi => kA.inn i (this.1 i hi), fun i hi => kB.inn i (this.2 i hi)⟩
  ·have := ((D2 hB hA).1 h).2
   exact ⟨fun i hi => kB.inn i (this.1 i hi), fun i hi => kA.inn i (this.2 i hi)⟩
 ·rcases List.mem_append.1 h with h | h
  ·obtain ⟨h1, h2⟩ := (D2 hA hB).1 h
   rcases Hd kA kB h2 h' with h3 | h3
   ·exact List.mem_append_left _ ((D2 hA hB).2 ⟨HG h1 h', h3⟩)
   ·exact List.mem_append_right _ ((D2 hB hA).2 ⟨HG h1 h', h3⟩)
  ·obtain ⟨h1, h2⟩ := (D2 hB hA).1 h
   rcases Hd kB kA h2 h' with h3 | h3
   ·exact List.mem_append_right _ ((D2 hB hA).2 ⟨HG h1 h', h3⟩)
   ·exact List.mem_append_left _ ((D2 hA hB).2 ⟨HG h1 h', h3⟩)
 ·rw [List.length_append, Nl, Nl, Nat.add_comm B.length]
  have := Nat.pow_le_pow_right (show 0 < 2 by omega) hl
  have : (2 : Nat) ^ 38 = 274877906944 := by decide
  omega
def rngI (n : Nat) : List Int := (List.range n).map fun k : Nat => (k : Int)
theorem mem_rngI {n : Nat} {x : Int} : x ∈ rngI n ↔ 0 <= x /\ x < (n : Int) := by
 unfold rngI;rw [List.mem_map]
 constructor
 ·rintro ⟨k, hk, rfl⟩
  have := List.mem_range.1 hk
  omega
 ·rintro ⟨h1, h2⟩
  exact ⟨x.toNat, List.mem_range.2 (by omega), by omega⟩
theorem Ks (n : Nat) : (rngI n).Pairwise (· < ·) := by
 unfold rngI;rw [List.pairwise_map];exact (O2 n).imp (fun h => by omega)
theorem Lc (n : Nat) : (rngI n).length = n := by unfold rngI; rw [List.length_map, List.length_range]
end Go.Proofs.YtkfnogdccpcmhaaGreatDoor
namespace Go.Proofs.YtkfnogdccpcmhaaGreatDoor
open Go.V
open Classical
structure Emb (s t : ATy) (f : Int -> Int) : Prop where
 node : ∀ i, In s i -> nd t (f i) = Au f (nd s i)
theorem Gp (f : Int -> Int) (n : ANd) : (Au f n).kind = n.kind := rfl
theorem AY {f : Int -> Int} {n : ANd} (h : n.kind = 6 \/ n.kind = 9 \/ n.kind = 10) : (Au f n).a = f n.a /\ (Au f n).b = f n.b := by
 unfold Au pB
 rcases h with h | h | h <;> rw [h] <;> exact ⟨rfl, rfl⟩
theorem Je {f : Int -> Int} {n : ANd} (h : n.kind = 11) : (Au f n).a = n.a := by
 unfold Au pB;rw [h]; rfl
theorem He (f : Int -> Int) (n : ANd) (s : List UInt8) : atN (Au f n) s = (atN n s).map f := by
 unfold atN Au;rw [List.find?_map]
 show Option.map _ (Option.map _ (n.l.find? fun x => decide (x.name = s))) = _
 rw [Option.map_map, Option.map_map]; rfl
theorem I2 {s t : ATy} {f : Int -> Int} {S : Int -> Prop} {D D' : ANd -> Prop} (hO : OkT s) (h : Emb s t f) (hD : ∀ i, In s i -> 3 <= (nd s i).kind -> (nd s i).kind <= 8 -> (D' (nd t (f i)) ↔ D (nd s i))) :
  ∀ i, In s i -> (La t S D' (f i) ↔ La s S D i) := by
 intro i hi
 constructor
 ·intro hla
  generalize hj : f i = j at hla
  induction hla generalizing i with
  | top h1 => subst hj; rw [h.node i hi] at h1; exact .top h1
  | inl h1 _ ih =>
   subst hj; rw [h.node i hi] at h1 ih
   have h1 : (nd s i).kind = 9 := h1
   exact .inl h1 (ih _ (hO.pair hi (.inr (.inl h1))).1 (AY (.inr (.inl h1))).1.symm)
  | inr h1 _ ih =>
   subst hj; rw [h.node i hi] at h1 ih
   have h1 : (nd s i).kind = 9 := h1
   exact .inr h1 (ih _ (hO.pair hi (.inr (.inl h1))).2 (AY (.inr (.inl h1))).2.symm)
  | both h1 _ _ ih1 ih2 =>
   subst hj; rw [h.node i hi] at h1 ih1 ih2
   have h1 : (nd s i).kind = 10 := h1
   exact .both h1 (ih1 _ (hO.pair hi (.inr (.inr h1))).1 (AY (.inr (.inr h1))).1.symm) (ih2 _ (hO.pair hi (.inr (.inr h1))).2 (AY (.inr (.inr h1))).2.symm)
  | var h1 h2 =>
   subst hj; rw [h.node i hi] at h1 h2
   have h1 : (nd s i).kind = 11 := h1
   rw [Je h1] at h2;exact .var h1 h2
  | head h1 h2 h3 =>
   subst hj
   have h4 := h.node i hi
   rw [h4] at h1 h2;exact .head h1 h2 ((hD i hi h1 h2).1 h3)
 ·intro hla
  induction hla with
  | top h1 => exact .top (by rw [h.node _ hi]; exact h1)
  | @inl i h1 _ ih =>
   have h4 := h.node i hi
   refine .inl (by rw [h4]; exact h1) ?_;rw [h4, (AY (.inr (.inl h1))).1];exact ih (hO.pair hi (.inr (.inl h1))).1
  | @inr i h1 _ ih =>
   have h4 := h.node i hi
   refine .inr (by rw [h4]; exact h1) ?_;rw [h4, (AY (.inr (.inl h1))).2];exact ih (hO.pair hi (.inr (.inl h1))).2
  | @both i h1 _ _ ih1 ih2 =>
   have h4 := h.node i hi
   refine .both (by rw [h4]; exact h1) ?_ ?_
   ·rw [h4, (AY (.inr (.inr h1))).1]
    exact ih1 (hO.pair hi (.inr (.inr h1))).1
   ·rw [h4, (AY (.inr (.inr h1))).2]
    exact ih2 (hO.pair hi (.inr (.inr h1))).2
  | @var i h1 h2 =>
   have h4 := h.node i hi
   refine .var (by rw [h4]; exact h1) ?_;rw [h4, Je h1]; exact h2
  | @head i h1 h2 h3 =>
   have h4 := h.node i hi
   exact .head (by rw [h4]; exact h1) (by rw [h4]; exact h2) ((hD i hi h1 h2).2 h3)
theorem Nf {t : ATy} (hO : OkT t) {i k : Int} {s : List UInt8} (hi : In t i) (h : atN (nd t i) s = some k) : In t k := by
 obtain ⟨f, hf, _, rfl⟩ := Qt h;exact hO.at_ hi hf
theorem Nm {s t : ATy} {f : Int -> Int} (hO : OkT s) (h : Emb s t f) : ∀ (p : Pt) (i : Int), In s i -> (Sat t p (f i) ↔ Sat s p i) := by
 intro p
 induction p with
 | tag S k =>
  refine I2 hO h fun i hi h1 h2 => ?_;rw [h.node i hi]; exact Iff.rfl
 | dom S q ih =>
  refine I2 hO h fun i hi h1 h2 => ?_;rw [h.node i hi]
  show ((nd s i).kind = 6 /\ ¬ Sat t q (Au f (nd s i)).a) ↔ ((nd s i).kind = 6 /\ ¬ Sat s q (nd s i).a)
  refine and_congr_right fun h6 => ?_;rw [(AY (.inl h6)).1, ih _ (hO.pair hi (.inl h6)).1]
 | cod S q ih =>
  refine I2 hO h fun i hi h1 h2 => ?_;rw [h.node i hi]
  show ((nd s i).kind = 6 /\ Sat t q (Au f (nd s i)).b) ↔ ((nd s i).kind = 6 /\ Sat s q (nd s i).b)
  refine and_congr_right fun h6 => ?_;rw [(AY (.inl h6)).2, ih _ (hO.pair hi (.inl h6)).2]
 | absent S n =>
  refine I2 hO h fun i hi h1 h2 => ?_;rw [h.node i hi]
  show ((nd s i).kind = 7 /\ atN (Au f (nd s i)) n = none) ↔ ((nd s i).kind = 7 /\ atN (nd s i) n = none)
  rw [He, Option.map_eq_none_iff]
 | field S n q ih =>
  refine I2 hO h fun i hi h1 h2 => ?_;rw [h.node i hi]
  show ((nd s i).kind = 7 /\ ∀ k, atN (Au f (nd s i)) n = some k -> Sat t q k) ↔ ((nd s i).kind = 7 /\ ∀ k, atN (nd s i) n = some k -> Sat s q k)
  rw [He]
  cases hq : atN (nd s i) n with
  | none => simp
  | some k =>
   simp only [Option.map_some, Option.some.injEq, forall_eq'];rw [ih k (Nf hO hi hq)]
 | hasc S n =>
  refine I2 hO h fun i hi h1 h2 => ?_;rw [h.node i hi]
  show ((nd s i).kind = 8 /\ atN (Au f (nd s i)) n ≠ none) ↔ ((nd s i).kind = 8 /\ atN (nd s i) n ≠ none)
  rw [He, ne_eq, Option.map_eq_none_iff]
 | case S n q ih =>
  refine I2 hO h fun i hi h1 h2 => ?_;rw [h.node i hi]
  show ((nd s i).kind = 8 /\ ∃ k, atN (Au f (nd s i)) n = some k /\ Sat t q k) ↔ ((nd s i).kind = 8 /\ ∃ k, atN (nd s i) n = some k /\ Sat s q k)
  rw [He]
  cases hq : atN (nd s i) n with
  | none => simp
  | some k =>
   simp only [Option.map_some, Option.some.injEq, exists_eq_left'];rw [ih k (Nf hO hi hq)]
theorem Sc {all all' : Int} (hle : all <= all') {l : List Int} (h : ¬ ∃ k ∈ l, inB all k = true) : ¬ ∃ k ∈ l, inB all' k = true := by
 rintro ⟨k, hk, h2⟩;refine h ⟨k, hk, ?_⟩;unfold inB at h2 ⊢;simp only [Bool.or_eq_true, decide_eq_true_eq] at h2 ⊢
 omega
theorem IU {n : ANd} {all all' : Int} (h : Bi n all = true) (hle : all <= all') : Bi n all' = true := by
 unfold Bi at h ⊢;rw [Bool.and_eq_true, Bool.and_eq_true, Bool.and_eq_true, Bool.and_eq_true, Bool.and_eq_true] at h ⊢;obtain ⟨h1, h2, h3, h4, h5, h6⟩ := h;refine ⟨h1, h2, h3, h4, h5, ?_⟩;rw [Bool.not_eq_true', decide_eq_false_iff_not] at h6 ⊢;exact Sc hle h6
theorem NY {n : ANd} {f : Int -> Int} (h : Ev n) : Ev (Au f n) := by
 intro i x hx
 have hx : (n.l.map fun x => (⟨x.name, f x.at_⟩ : AFd))[i]? = some x := hx
 rw [List.getElem?_map] at hx
 cases hq : n.l[i]? with
 | none => rw [hq] at hx; cases hx
 | some z =>
  rw [hq] at hx; cases hx
  obtain ⟨h1, h2⟩ := h i z hq;refine ⟨h1, fun h0 y hy => ?_⟩
  have hy : (n.l.map fun x => (⟨x.name, f x.at_⟩ : AFd))[i - 1]? = some y := hy
  rw [List.getElem?_map] at hy
  cases hq2 : n.l[i - 1]? with
  | none => rw [hq2] at hy; cases hy
  | some z2 => rw [hq2] at hy; cases hy; exact h2 h0 z2 hq2
theorem PC {n : ANd} {f : Int -> Int} : kidsL (Au f n) = (kidsL n).map f := by
 unfold kidsL;rw [Gp]
 cases hp : pB n.kind
 ·cases wB n.kind
  ·rfl
  ·unfold Au; simp only [cF_, cT, List.map_map]; rfl
 ·unfold Au; simp only [cT, hp, List.map_cons, List.map_nil]
theorem OW {n : ANd} {all all' : Int} {f : Int -> Int} (h : Bi n all = true) (hf : ∀ k, 0 <= k -> k < all -> 0 <= f k /\ f k < all') : Bi (Au f n) all' = true := by
 have hk := JW h
 unfold Bi at h ⊢;rw [Bool.and_eq_true, Bool.and_eq_true, Bool.and_eq_true, Bool.and_eq_true, Bool.and_eq_true] at h ⊢;obtain ⟨h1, h2, h3, h4, h5, h6⟩ := h;refine ⟨h1, ?_, ?_, ?_, ?_, ?_⟩
 ·rw [Gp]
  cases hp : pB n.kind with
  | true => rfl
  | false =>
   rw [hp] at h2;unfold Au; rw [hp]; exact h2
 ·rw [Gp]
  by_cases h11 : n.kind = 11
  ·rw [Je h11]; exact h3
  ·rw [dF h11]; rfl
 ·unfold Au; simp only [List.length_map]; exact h4
 ·rw [Bool.and_eq_true, decide_eq_true_eq] at h5 ⊢
  exact ⟨NY h5.1, by unfold Au; simp only [List.length_map]; exact h5.2⟩
 ·rw [Bool.not_eq_true', decide_eq_false_iff_not, PC]
  rintro ⟨k, hk1, hk2⟩;obtain ⟨k0, hk0, rfl⟩ := List.mem_map.1 hk1
  have := hk k0 hk0
  have := hf k0 this.1 this.2
  unfold inB at hk2;simp only [Bool.or_eq_true, decide_eq_true_eq] at hk2
  omega
theorem DW {A B : List ANd} (hA : InL A) : ∀ (k i : Nat), i < A.length -> endk A k i = true -> endk (A ++ B) k i = true
 | 0, _, _, h => by cases h
 | k + 1, i, hi, h => by
  unfold endk at h ⊢;rw [List.getElem?_append_left hi]
  have hx : A[i]? = some A[i] := List.getElem?_eq_getElem hi
  rw [hx] at h ⊢
  simp only at h ⊢
  cases hl : latB A[i].kind with
  | false => rfl
  | true =>
   rw [hl] at h
   have hk := Fk hl
   have h1 := hA _ (List.getElem_mem hi) A[i].a (by rw [hk]; simp)
   have h2 := hA _ (List.getElem_mem hi) A[i].b (by rw [hk]; simp)
   simp only [Bool.not_true, Bool.false_or, Bool.and_eq_true] at h ⊢;exact ⟨DW hA k _ (by omega) h.1, DW hA k _ (by omega) h.2⟩
theorem I6 {A B : List ANd} (hB : InL B) : ∀ (k i : Nat), i < B.length -> endk B k i = true -> endk (A ++ B.map (Au (· + (A.length : Int)))) k (i + A.length) = true
 | 0, _, _, h => by cases h
 | k + 1, i, hi, h => by
  unfold endk at h ⊢;rw [List.getElem?_append_right (by omega), Nat.add_sub_cancel, List.getElem?_map]
  have hx : B[i]? = some B[i] := List.getElem?_eq_getElem hi
  rw [hx] at h ⊢;simp only [Option.map_some, Gp] at h ⊢
  cases hl : latB B[i].kind with
  | false => rfl
  | true =>
   rw [hl] at h
   have hk := Fk hl
   have h1 := hB _ (List.getElem_mem hi) B[i].a (by rw [hk]; simp)
   have h2 := hB _ (List.getElem_mem hi) B[i].b (by rw [hk]; simp)
   have hab := AY (f := (· + (A.length : Int))) (n := B[i]) (.inr (Fe hl))
   simp only [Bool.not_true, Bool.false_or, Bool.and_eq_true] at h ⊢;rw [hab.1, hab.2, show (B[i].a + (A.length : Int)).toNat = B[i].a.toNat + A.length by omega, show (B[i].b + (A.length : Int)).toNat = B[i].b.toNat + A.length by omega];exact ⟨I6 hB k _ (by omega) h.1, I6 hB k _ (by omega) h.2⟩
end Go.Proofs.YtkfnogdccpcmhaaGreatDoor
namespace Go.Proofs.YtkfnogdccpcmhaaGreatDoor
open Go.V
open Classical
theorem Q3 (n : ANd) : Au (fun k => k) n = n := by
 unfold Au;rw [Bool.cond_self, Bool.cond_self]
 have : n.l.map (fun x => (⟨x.name, x.at_⟩ : AFd)) = n.l := by
  conv => rhs; rw [<- List.map_id n.l]
  rfl
 rw [this]
theorem O8 {a t : ATy} {X : List ANd} (h : t.l = a.l ++ X) : Emb a t (fun k => k) := ⟨fun i hi => by
 rw [Q3]
 have hil : i.toNat < a.l.length := by have := hi.1; have := hi.2; omega
 unfold nd;rw [h, List.getElem?_append_left hil]⟩
theorem ML {a b t : ATy} {X : List ANd} (h : t.l = a.l ++ b.l.map (Au (fun k => k + (a.l.length : Int))) ++ X) : Emb b t (fun k => k + (a.l.length : Int)) := ⟨fun i hi => by
 have hil : i.toNat < b.l.length := by have := hi.1; have := hi.2; omega
 have h1 := Lw hi
 have e : (i + (a.l.length : Int)).toNat = a.l.length + i.toNat := by have := hi.1; omega
 show (t.l[(i + (a.l.length : Int)).toNat]?).getD ⟨0, 0, 0, []⟩ = _
 rw [h, e, List.getElem?_append_left (by rw [List.length_append, List.length_map]; omega), List.getElem?_append_right (by omega), Nat.add_sub_cancel_left, List.getElem?_map, h1]
 rfl⟩
theorem K3 {s t : ATy} {f : Int -> Int} (hO : OkT s) (h : Emb s t f) (hin : ∀ i, In s i -> In t (f i)) : Kept t (fun x => ∃ i, In s i /\ f i = x) := by
 refine ⟨?_, ?_, ?_⟩
 ·rintro _ ⟨i, hi, rfl⟩; exact hin i hi
 ·rintro _ ⟨i, hi, rfl⟩ hk
  rw [h.node i hi] at hk ⊢;obtain ⟨e1, e2⟩ := AY (f := f) (n := nd s i) hk;rw [e1, e2];obtain ⟨h1, h2⟩ := hO.pair hi hk;exact ⟨⟨_, h1, rfl⟩, ⟨_, h2, rfl⟩⟩
 ·rintro _ ⟨i, hi, rfl⟩ g hg
  rw [h.node i hi] at hg;obtain ⟨g0, hg0, rfl⟩ := List.mem_map.1 hg;exact ⟨_, hO.at_ hi hg0, rfl⟩
theorem Kept.congr {t : ATy} {A B : Int -> Prop} (h : Kept t A) (he : ∀ x, A x ↔ B x) : Kept t B := by
 have : A = B := funext fun x => propext (he x)
 rw [<- this]; exact h
theorem A0 (a b : ATy) : (AS a b).l.length = a.l.length + b.l.length := by unfold AS; rw [List.length_append, List.length_map]
theorem HI {a b : ATy} (ha : OkT a) (hb : OkT b) : OkT (AS a b) := by
 refine ⟨fun n hn => ?_, fun i hi => ?_⟩
 ·rw [A0]
  unfold AS at hn
  rcases List.mem_append.1 hn with hn | hn
  ·exact IU (ha.right n hn) (by omega)
  ·obtain ⟨m, hm, rfl⟩ := List.mem_map.1 hn
   exact OW (hb.right m hm) (fun k h1 h2 => by omega)
 ·rw [A0] at hi
  by_cases h : i < a.l.length
  ·obtain ⟨k, hk⟩ := ha.ends i h
   exact ⟨k, DW (AD ha.right) k i h hk⟩
  ·obtain ⟨k, hk⟩ := hb.ends (i - a.l.length) (by omega)
   have := I6 (A := a.l) (AD hb.right) k (i - a.l.length) (by omega) hk
   rw [Nat.sub_add_cancel (by omega)] at this;exact ⟨k, this⟩
def Sub (a b : ATy) : Prop := ∀ p, Sat a p a.root -> Sat b p b.root
structure MayO (a : ATy) : Prop where
 may : mayT a.l a.root = 0
 nb : ∀ n ∈ a.l, NB n
theorem MayO.ok {a : ATy} (h : MayO a) : OkT a := ⟨(En h.may).2.2.2.2.1, (En h.may).2.2.2.2.2⟩
theorem MayO.root {a : ATy} (h : MayO a) : In a a.root := ⟨(En h.may).2.2.1, (En h.may).2.2.2.1⟩
theorem J6 {a b : ATy} {i : Int} (h : In a i) : In (AS a b) i := ⟨h.1, by rw [A0]; have := h.2; omega⟩
theorem JY {a b : ATy} {i : Int} (h : In b i) : In (AS a b) (i + (a.l.length : Int)) := ⟨by have := h.1; omega, by rw [A0]; have := h.2; omega⟩
theorem JR (a b : ATy) : Emb a (AS a b) (fun k => k) := O8 (X := b.l.map (Au (fun k => k + (a.l.length : Int)))) rfl
theorem JN (a b : ATy) : Emb b (AS a b) (fun k => k + (a.l.length : Int)) := ML (X := []) (by rw [List.append_nil]; rfl)
theorem Ip {a b : ATy} (ha : MayO a) (hb : MayO b) : Valid (AS a b) ⟨[a.root], [b.root + (a.l.length : Int)]⟩ ↔ Sub a b := by
 have h1 : ∀ p, Sat (AS a b) p a.root ↔ Sat a p a.root := fun p => Nm ha.ok (JR a b) p a.root ha.root
 have h2 : ∀ p, Sat (AS a b) p (b.root + (a.l.length : Int)) ↔ Sat b p b.root := fun p => Nm hb.ok (JN a b) p b.root hb.root
 constructor
 ·intro h p hp
  refine Classical.byContradiction fun hn => h p ⟨fun i hi => ?_, fun i hi => ?_⟩
  ·rw [List.mem_singleton] at hi; subst hi; exact (h1 p).2 hp
  ·rw [List.mem_singleton] at hi; subst hi; exact fun h3 => hn ((h2 p).1 h3)
 ·intro h p hp
  exact hp.2 _ (by simp) ((h2 p).2 (h p ((h1 p).1 (hp.1 _ (by simp)))))
theorem Mi (n m : Nat) : ((rngI n).map (fun k => k + (m : Int))).Pairwise (· < ·) := by
 rw [List.pairwise_map];exact (Ks n).imp (fun h => by omega)
theorem H8 {a b : ATy} (ha : ∀ n ∈ a.l, NB n) (hb : ∀ n ∈ b.l, NB n) : ∀ n ∈ (AS a b).l, NB n := QO ha hb
theorem Qi {a b : ATy} (ha : MayO a) (hb : MayO b) (hl : a.l.length + b.l.length <= 38) : ∃ U, UOk (AS a b) ⟨[a.root], [b.root + (a.l.length : Int)]⟩ U := by
 have kA : Kept (AS a b) (· ∈ rngI a.l.length) := (K3 ha.ok (JR a b) (fun i hi => J6 hi)).congr (fun x => by
  rw [mem_rngI]
  constructor
  ·rintro ⟨i, hi, rfl⟩; exact hi
  ·intro h; exact ⟨x, h, rfl⟩)
 have kB : Kept (AS a b) (· ∈ (rngI b.l.length).map (fun k => k + (a.l.length : Int))) := (K3 hb.ok (JN a b) (fun i hi => JY hi)).congr (fun x => by
  rw [List.mem_map]
  constructor
  ·rintro ⟨i, hi, rfl⟩; exact ⟨i, mem_rngI.2 hi, rfl⟩
  ·rintro ⟨i, hi, rfl⟩; exact ⟨i, mem_rngI.1 hi, rfl⟩)
 refine ⟨_, TM (Ks _) (Mi _ _) kA kB (by rw [List.length_map, Lc, Lc]; exact hl) ⟨by simp, by simp⟩ ⟨fun i hi => ?_, fun i hi => ?_⟩⟩
 ·rw [List.mem_singleton] at hi; subst hi; exact mem_rngI.2 ha.root
 ·rw [List.mem_singleton] at hi; subst hi; exact List.mem_map.2 ⟨b.root, mem_rngI.2 hb.root, rfl⟩
theorem Ry {a b : ATy} {U : List BSq} (ha : MayO a) (hb : MayO b) (hl : a.l.length + b.l.length <= 99) (hU : UOk (AS a b) ⟨[a.root], [b.root + (a.l.length : Int)]⟩ U) : CZ a b = some (decide (Sub a b)) := by
 unfold CZ
 have hr := hb.root
 rw [Rr a b (by omega) (by omega) hb.nb hb.ok.right, oB]
 simp only
 rw [Ab (by have := hr.1; have := hr.2; constructor <;> omega)];rw [show (⟨(AS a b).l, (AS a b).root⟩ : ATy) = AS a b from rfl, Sa (HI ha.ok hb.ok) (H8 ha.nb hb.nb) (by rw [A0]; exact hl) hU, oB]
 congr 1
 exact decide_eq_decide.2 (Ip ha hb)
theorem OZ {a b : ATy} (ha : MayO a) (hb : MayO b) (hl : a.l.length + b.l.length <= 38) : CZ a b = some (decide (Sub a b)) := by
 obtain ⟨U, hU⟩ := Qi ha hb hl;exact Ry ha hb (by omega) hU
theorem S4 {a b : ATy} (ha : a.l.length <= 2001) (hb : b.l.length <= 2001) (hNa : ∀ n ∈ a.l, NB n) (hNb : ∀ n ∈ b.l, NB n) : Fi a b = some (if mayT a.l a.root = 0 then mayT b.l b.root else mayT a.l a.root) := by
 unfold Fi;rw [K2 a ha hNa, oB]
 by_cases h : mayT a.l a.root = 0
 ·rw [dT h, Bool.not_true, cF_, K2 b hb hNb, if_pos h]; rfl
 ·rw [dF h, Bool.not_false, cT, if_neg h]
def isTag (p : Pt) (k : Int) : Prop := match p with
 | .tag _ k' => k = k'
 | _ => False
theorem Tn {t : ATy} {p : Pt} {x : ANd} {k : Int} (hx : x.kind = k) (hk : 3 <= k /\ k <= 5) : hdP t p x ↔ isTag p k := by
 cases p with
 | tag S k' =>
  show (x.kind = k' /\ k' ≠ 8) ↔ k = k'
  rw [hx];exact ⟨fun h => h.1, fun h => ⟨h, by omega⟩⟩
 | dom S q => exact ⟨fun h => by have := h.1; omega, fun h => h.elim⟩
 | cod S q => exact ⟨fun h => by have := h.1; omega, fun h => h.elim⟩
 | absent S q => exact ⟨fun h => by have := h.1; omega, fun h => h.elim⟩
 | field S s q => exact ⟨fun h => by have := h.1; omega, fun h => h.elim⟩
 | hasc S q => exact ⟨fun h => by have := h.1; omega, fun h => h.elim⟩
 | case S s q => exact ⟨fun h => by have := h.1; omega, fun h => h.elim⟩
theorem Fp {t : ATy} {p : Pt} {i k : Int} (hx : (nd t i).kind = k) (hk : 3 <= k /\ k <= 5) : Sat t p i ↔ isTag p k := (FA (by omega) (by omega)).trans (Tn hx hk)
theorem Oj {t : ATy} {p : Pt} {x : ANd} (hx : x.kind = 6) : hdP t p x ↔ (match p with
  | .tag _ k => k = 6
  | .dom _ q => ¬ Sat t q x.a
  | .cod _ q => Sat t q x.b
  | _ => False) := by
 cases p with
 | tag S k =>
  show (x.kind = k /\ k ≠ 8) ↔ k = 6
  rw [hx];exact ⟨fun h => h.1.symm, fun h => ⟨h.symm, by omega⟩⟩
 | dom S q => exact ⟨fun h => h.2, fun h => ⟨hx, h⟩⟩
 | cod S q => exact ⟨fun h => h.2, fun h => ⟨hx, h⟩⟩
 | absent S q => exact ⟨fun h => by have := h.1; omega, fun h => h.elim⟩
 | field S s q => exact ⟨fun h => by have := h.1; omega, fun h => h.elim⟩
 | hasc S q => exact ⟨fun h => by have := h.1; omega, fun h => h.elim⟩
 | case S s q => exact ⟨fun h => by have := h.1; omega, fun h => h.elim⟩
def leafT (k : Int) : ATy := ⟨[⟨k, 0, 0, []⟩], 0⟩
theorem NU {t : ATy} (hlen : t.l.length <= 2001) (hN : ∀ n ∈ t.l, NB n) (h : Bt t = some 0) : MayO t := ⟨by rw [K2 t hlen hN] at h; exact Option.some.inj h, hN⟩
theorem SR : MayO (leafT 2) := NU (by decide) (by intro n hn; simp [leafT] at hn; subst hn; simp [NB]) (by rfl)
theorem Tp : MayO (leafT 1) := NU (by decide) (by intro n hn; simp [leafT] at hn; subst hn; simp [NB]) (by rfl)
end Go.Proofs.YtkfnogdccpcmhaaGreatDoor
namespace Go.Proofs.YtkfnogdccpcmhaaGreatDoor
open Go.V
open Classical
theorem L8 {t : ATy} {q s : BSq} (hs : s ∈ (AX t q).2) :
  (∃ i rest M, latB (nd t i).kind = true /\ q.left.Perm (i :: rest) /\ s = ⟨cs (rest ++ M), q.right⟩ /\ (((nd t i).kind = 10 /\ M = [(nd t i).a, (nd t i).b]) \/ ((nd t i).kind = 9 /\ (M = [(nd t i).a] \/ M = [(nd t i).b])))) \/
  ((∀ i ∈ q.left, latB (nd t i).kind = false) /\ ∃ i rest M, latB (nd t i).kind = true /\ q.right.Perm (i :: rest) /\ s = ⟨q.left, cs (rest ++ M)⟩ /\ (((nd t i).kind = 9 /\ M = [(nd t i).a, (nd t i).b]) \/ ((nd t i).kind = 10 /\ (M = [(nd t i).a] \/ M = [(nd t i).b])))) \/
  ((∀ i ∈ q.left, latB (nd t i).kind = false) /\ (∀ i ∈ q.right, latB (nd t i).kind = false)) := by
 unfold AX at hs
 split at hs
 ·cases hs
 ·cases hL : latA t q.left with
  | some x =>
   obtain ⟨n, rest⟩ := x
   left
   obtain ⟨i, rfl, hk, hp⟩ := D8 hL;unfold openA at hs;rw [hL] at hs
   simp only at hs
   by_cases h10 : (nd t i).kind = 10
   ·rw [if_pos h10, List.mem_singleton] at hs
    exact ⟨i, rest, _, hk, hp, hs, .inl ⟨h10, rfl⟩⟩
   ·rw [if_neg h10] at hs
    have h9 := (Fe hk).resolve_right h10
    simp only [List.mem_cons, List.not_mem_nil, or_false] at hs
    rcases hs with h | h
    ·exact ⟨i, rest, _, hk, hp, h, .inr ⟨h9, .inl rfl⟩⟩
    ·exact ⟨i, rest, _, hk, hp, h, .inr ⟨h9, .inr rfl⟩⟩
  | none =>
   cases hR : latA t q.right with
   | some x =>
    obtain ⟨n, rest⟩ := x
    right; left
    obtain ⟨i, rfl, hk, hp⟩ := D8 hR;unfold openA at hs;rw [hL, hR] at hs
    simp only at hs
    refine ⟨GV hL, ?_⟩
    by_cases h9 : (nd t i).kind = 9
    ·rw [if_pos h9, List.mem_singleton] at hs
     exact ⟨i, rest, _, hk, hp, hs, .inl ⟨h9, rfl⟩⟩
    ·rw [if_neg h9] at hs
     have h10 := (Fe hk).resolve_left h9
     simp only [List.mem_cons, List.not_mem_nil, or_false] at hs
     rcases hs with h | h
     ·exact ⟨i, rest, _, hk, hp, h, .inr ⟨h10, .inl rfl⟩⟩
     ·exact ⟨i, rest, _, hk, hp, h, .inr ⟨h10, .inr rfl⟩⟩
   | none => exact .inr (.inr ⟨GV hL, GV hR⟩)
def SubP (p : List Int × List Int) (s : BSq) : Prop := (∀ i ∈ s.left, i ∈ p.1) /\ ∀ i ∈ s.right, i ∈ p.2
theorem NP {l rest : List Int} {i : Int} (hs : l.Pairwise (· < ·)) (hp : l.Perm (i :: rest)) : ∀ x ∈ rest, x ∈ l /\ x ≠ i := by
 intro x hx
 have hn : l.Nodup := hs.imp (fun h => by omega)
 have hn2 := hp.nodup hn
 exact ⟨hp.mem_iff.2 (by simp [hx]), fun e => by subst e; exact (List.nodup_cons.1 hn2).1 hx⟩
theorem Ih {rest M l : List Int} {P : Int -> Prop} (h1 : ∀ x ∈ rest, P x) (h2 : ∀ x ∈ M, P x) : ∀ x ∈ cs (rest ++ M), P x := fun x hx => (List.mem_append.1 (mem_cs.1 hx)).elim (h1 x) (h2 x)
section
variable {t : ATy} {r1 r2 j m1 m2 : Int} {la lb lc ra rb rc rd : List Int}
end
end Go.Proofs.YtkfnogdccpcmhaaGreatDoor
namespace Go.Proofs.YtkfnogdccpcmhaaGreatDoor
open Go.V
open Classical
theorem PO (a b : ATy) (ha : a.l.length <= 4001) (hb : b.l.length <= 2001) (hN : ∀ n ∈ b.l, NB n) (hR : Bg b.l) : DM a b = some ((a.l.length : Int), AS a b) := by
 unfold DM;rw [Ab (by omega), List.nil_append];rw [CF (φ := fun n i s => B3 a b n (i, a.root, s)) (l := b.l) (Au (fun k => k + (a.l.length : Int))) (fun s => (a.root, s)) a.l.length ?_ ?_ (by rw [FUv]; omega) a.l rfl]
 ·rfl
 ·intro n i x s hx hi hs
  have hr := Gc (hR x (List.mem_of_getElem? hx))
  have hNx := hN x (List.mem_of_getElem? hx)
  unfold NB at hNx
  have key : BF a x.l FU (0, []) = some (x.l.map (fun y => ⟨y.name, y.at_ + (a.l.length : Int)⟩)) := by
   rw [CF (φ := fun n i s => BF a x.l n (i, s)) (l := x.l) (fun y => (⟨y.name, y.at_ + (a.l.length : Int)⟩ : AFd)) id 0 ?_ ?_ (by rw [FUv]; omega) [] rfl]
   ·rfl
   ·intro n i y s hy hi hs
    obtain ⟨y0, y1⟩ := hr.2 y (List.mem_of_getElem? hy);simp only [BF];rw [dT (show (i : Int) < x.l.length by omega), cT, getI hy, oB, oB, Ab (by omega), Ab (by simp only [List.length_cons, List.length_nil]; omega), Ab (by omega)]
   ·intro n s hs
    simp only [BF];rw [dF (by omega), cF_]; rfl
  simp only [B3];rw [dT (show (i : Int) < b.l.length by omega), cT, getI hx, oB]
  change ((bif pB x.kind then _ else _ : Option (Int × Int × Int × (List AFd))).bind _) = _
  unfold Au
  cases hp : pB x.kind with
  | true =>
   obtain ⟨⟨a0, a1⟩, b0, b1⟩ := hr.1 hp;rw [cT, Ab (by omega), Ab (by omega), oB]
   dsimp only
   rw [key, oB, Ab (by simp only [List.length_cons, List.length_nil]; omega), Ab (by omega)]
   rfl
  | false =>
   rw [cF_, oB]
   dsimp only
   rw [key, oB, Ab (by simp only [List.length_cons, List.length_nil]; omega), Ab (by omega)]
   rfl
 ·intro n s hs
  simp only [B3];rw [dF (by omega), cF_]
section
variable {t : ATy} {r1 r2 j m1 m2 : Int} {la lb lc ra rb rc rd : List Int}
theorem IY : ∀ (S U : List Int), S.Nodup -> (∀ s ∈ S, s ∈ U) -> S.length <= U.length
 | [], U, _, _ => Nat.zero_le _
 | a :: S, U, hn, h => by
  obtain ⟨h1, h2⟩ := List.nodup_cons.1 hn
  have ha : a ∈ U := h a (by simp)
  have := IY S (U.erase a) h2 (fun s hs => (List.mem_erase_of_ne (fun e => h1 (by rw [<- e]; exact hs))).2 (h s (by simp [hs])))
  rw [List.length_erase_of_mem ha] at this
  have := List.length_pos_of_mem ha
  simp only [List.length_cons]
  omega
theorem RY (l : List Int) : (cs l).length <= l.length := IY (cs l) l ((Bk l).imp (fun h => by omega)) (fun x hx => mem_cs.1 hx)
theorem N9 {α : Type} (f : α -> List BSq) (c : Nat) : ∀ l : List α, (∀ x ∈ l, (f x).length <= c) -> (l.flatMap f).length <= l.length * c
 | [], _ => by simp
 | x :: l, h => by
  have h1 := N9 f c l (fun y hy => h y (by simp [hy]))
  have h2 := h x (by simp)
  rw [List.flatMap_cons, List.length_append, List.length_cons, Nat.succ_mul]; omega
end
end Go.Proofs.YtkfnogdccpcmhaaGreatDoor
namespace Go.Proofs.YtkfnogdccpcmhaaGreatDoor
open Go.V
open Classical
noncomputable def withT (k : Int) (a b : ATy) : ATy := ⟨(AS a b).l ++ [⟨k, a.root, b.root + (a.l.length : Int), []⟩], ((AS a b).l.length : Int)⟩
theorem BZ (k : Int) (a b : ATy) : (withT k a b).l.length = a.l.length + b.l.length + 1 := by unfold withT; rw [List.length_append, A0]; rfl
theorem ME (k : Int) (a b : ATy) : (withT k a b).root = ((a.l.length + b.l.length : Nat) : Int) := by unfold withT; simp only; rw [A0]
theorem Oc (k : Int) (a b : ATy) : nd (withT k a b) (withT k a b).root = ⟨k, a.root, b.root + (a.l.length : Int), []⟩ := by
 unfold nd withT
 simp only
 rw [Int.toNat_natCast, List.getElem?_append_right (Nat.le_refl _), Nat.sub_self]
 rfl
theorem Qc (k : Int) (a b : ATy) : Emb a (withT k a b) (fun x => x) := O8 (X := b.l.map (Au (fun x => x + (a.l.length : Int))) ++ [⟨k, a.root, b.root + (a.l.length : Int), []⟩]) (by unfold withT AS; simp only; rw [List.append_assoc])
theorem Qe (k : Int) (a b : ATy) : Emb b (withT k a b) (fun x => x + (a.l.length : Int)) := ML (X := [⟨k, a.root, b.root + (a.l.length : Int), []⟩]) rfl
theorem LE {k : Int} {a b : ATy} {i : Int} (h : In a i) : In (withT k a b) i := ⟨h.1, by rw [BZ]; have := h.2; omega⟩
theorem LC {k : Int} {a b : ATy} {i : Int} (h : In b i) : In (withT k a b) (i + (a.l.length : Int)) := ⟨by have := h.1; omega, by rw [BZ]; have := h.2; omega⟩
theorem GH {k : Int} (hk : k = 9 \/ k = 10) {a b : ATy} (ha : MayO a) (hb : MayO b) (hl : a.l.length + b.l.length <= 100) : MayO (withT k a b) := by
 have hg := HI ha.ok hb.ok
 have hra := ha.root
 have hrb := hb.root
 have hR : Bg (withT k a b).l := by
  intro n hn
  rw [BZ]
  rcases List.mem_append.1 hn with hn | hn
  ·exact IU (hg.right n hn) (by rw [A0]; omega)
  ·rw [List.mem_singleton] at hn
   subst hn
   have h1 := hra.1; have h2 := hra.2; have h3 := hrb.1; have h4 := hrb.2
   have hnm : Ev ⟨k, a.root, b.root + (a.l.length : Int), []⟩ := fun i x hx => by simp at hx
   have hkid : ¬ ∃ q ∈ kidsL ⟨k, a.root, b.root + (a.l.length : Int), []⟩, inB ((a.l.length + b.l.length + 1 : Nat) : Int) q = true := by
    rintro ⟨q, hq, h5⟩
    have e : kidsL ⟨k, a.root, b.root + (a.l.length : Int), []⟩ = [a.root, b.root + (a.l.length : Int)] := by
     unfold kidsL pB
     rcases hk with rfl | rfl <;> rfl
    rw [e] at hq;unfold inB at h5;simp only [Bool.or_eq_true, decide_eq_true_eq] at h5;simp only [List.mem_cons, List.not_mem_nil, or_false] at hq
    rcases hq with rfl | rfl <;> omega
   unfold Bi;rw [dT hnm, dF hkid]
   rcases hk with rfl | rfl <;> rfl
 have hE : D6 (withT k a b).l := by
  intro i hi
  rw [BZ] at hi
  by_cases h : i < (AS a b).l.length
  ·obtain ⟨m, hm⟩ := hg.ends i h
   exact ⟨m, DW (AD hg.right) m i h hm⟩
  ·rw [A0] at h
   have hii : i = a.l.length + b.l.length := by omega
   subst hii
   have h1 := hra.1; have h2 := hra.2; have h3 := hrb.1; have h4 := hrb.2
   have la : a.root.toNat < (AS a b).l.length := by rw [A0]; omega
   have lb : (b.root + (a.l.length : Int)).toNat < (AS a b).l.length := by rw [A0]; omega
   obtain ⟨m1, hm1⟩ := hg.ends _ la;obtain ⟨m2, hm2⟩ := hg.ends _ lb
   have e1 := DW (B := [⟨k, a.root, b.root + (a.l.length : Int), []⟩]) (AD hg.right) m1 _ la hm1
   have e2 := DW (B := [⟨k, a.root, b.root + (a.l.length : Int), []⟩]) (AD hg.right) m2 _ lb hm2
   refine ⟨max m1 m2 + 1, ?_⟩
   have e3 := EC (Nat.le_max_left m1 m2) e1
   have e4 := EC (Nat.le_max_right m1 m2) e2
   unfold endk
   have eq : (withT k a b).l[a.l.length + b.l.length]? = some ⟨k, a.root, b.root + (a.l.length : Int), []⟩ := by
    unfold withT
    simp only
    rw [List.getElem?_append_right (by rw [A0]; omega), A0, Nat.sub_self]; rfl
   rw [eq]
   simp only
   show (!latB k || _) = true
   rw [Bool.or_eq_true, Bool.and_eq_true];exact .inr ⟨e3, e4⟩
 refine ⟨?_, fun n hn => ?_⟩
 ·unfold mayT
  rw [if_neg (by rw [BZ]; omega), if_neg (by rw [BZ, ME]; omega), if_pos ⟨hR, hE⟩]
 ·rcases List.mem_append.1 hn with hn | hn
  ·exact H8 ha.nb hb.nb n hn
  ·rw [List.mem_singleton] at hn; subst hn; simp [NB]
theorem OB (f g : Int -> Int) (n : ANd) : Au g (Au f n) = Au (fun x => g (f x)) n := by
 unfold Au;simp only [List.map_map]
 congr 1
 ·cases pB n.kind <;> rfl
 ·cases pB n.kind <;> rfl
theorem Emb.comp {s t u : ATy} {f g : Int -> Int} (h1 : Emb s t f) (h2 : Emb t u g) (hin : ∀ i, In s i -> In t (f i)) : Emb s u (fun x => g (f x)) := ⟨fun i hi => by
 rw [h2.node _ (hin i hi), h1.node i hi, OB]⟩
theorem HH {s t : ATy} {f : Int -> Int} (hO : OkT s) (h : Emb s t f) (hin : ∀ i, In s i -> In t (f i)) : Kept t (· ∈ (rngI s.l.length).map f) := (K3 hO h hin).congr (fun x => by
 rw [List.mem_map]
 constructor
 ·rintro ⟨i, hi, rfl⟩; exact ⟨i, mem_rngI.2 hi, rfl⟩
 ·rintro ⟨i, hi, rfl⟩; exact ⟨i, mem_rngI.1 hi, rfl⟩)
theorem HO {s : ATy} (h : In s s.root) (f : Int -> Int) : f s.root ∈ (rngI s.l.length).map f := List.mem_map.2 ⟨_, mem_rngI.2 h, rfl⟩
theorem JB (s : ATy) (f : Int -> Int) : ((rngI s.l.length).map f).length = s.l.length := by rw [List.length_map, Lc]
theorem TD {s t : ATy} {f : Int -> Int} (h : Emb s t f) {i : Int} (hi : In s i) {k a b : Int} (hk : k = 9 \/ k = 10) (hn : nd s i = ⟨k, a, b, []⟩) : (nd t (f i)).kind = k /\ (nd t (f i)).a = f a /\ (nd t (f i)).b = f b := by
 rw [h.node i hi, hn]
 have := AY (f := f) (n := ⟨k, a, b, []⟩) (by rcases hk with rfl | rfl; exact .inr (.inl rfl); exact .inr (.inr rfl))
 exact ⟨rfl, this.1, this.2⟩
end Go.Proofs.YtkfnogdccpcmhaaGreatDoor
namespace Go.Proofs.YtkfnogdccpcmhaaGreatDoor
open Go.V
open Classical
theorem setl2 {l1 l3 : List Int} {i : Nat} {v : Int} (hv : l1[i]? = some v) (h3 : l3.length <= 1000000) : ∃ k : Nat, DS l1 (i : Int) l3 FU 0 = some (k : Int) /\ k <= l3.length /\ (∀ j x, j < k -> l3[j]? = some x -> x < v) /\ ∀ x, l3[k]? = some x -> ¬ x < v := by
 obtain ⟨o, e1, k, e2, e3, e4, e5⟩ := AU (φ := fun n k (_ : Unit) => DS l1 (i : Int) l3 n k) (l := l3) (fun k _ => ∀ j x, j < k -> l3[j]? = some x -> x < v) (fun o => ∃ k : Nat, o = (k : Int) /\ k <= l3.length /\ (∀ j x, j < k -> l3[j]? = some x -> x < v) /\ ∀ x, l3[k]? = some x -> ¬ x < v)
  (by
   intro n k x s hx hk hI
   simp only [DS];rw [dT (show (k : Int) < (l3.length : Int) by omega), cT, getI hx, oB, getI hv, oB]
   by_cases hlt : x < v
   ·left
    rw [dT hlt, cT, Ab (by constructor <;> omega)];refine ⟨s, rfl, fun j y hj hy => ?_⟩
    by_cases hjk : j = k
    ·subst hjk; rw [hx] at hy; cases hy; exact hlt
    ·exact hI j y (by omega) hy
   ·right
    rw [dF hlt, cF_];exact ⟨_, rfl, k, rfl, by omega, hI, fun y hy => by rw [hx] at hy; cases hy; exact hlt⟩)
  (by
   intro n s hI
   simp only [DS];rw [dF (by omega), cF_];exact ⟨_, rfl, l3.length, rfl, Nat.le_refl _, hI, fun y hy => by rw [List.getElem?_eq_none (Nat.le_refl _)] at hy; cases hy⟩) (by rw [FUv]; omega) () (by intro j x hj; omega)
 exact ⟨k, by rw [e1, e2], e3, e4, e5⟩
theorem PD {l : List Int} {k : Nat} {v : Int} (h : l.Pairwise (· < ·)) (hk : k <= l.length) (h1 : ∀ j x, j < k -> l[j]? = some x -> x < v) (h2 : ∀ x, l[k]? = some x -> v < x) : (l.take k ++ [v] ++ l.drop k).Pairwise (· < ·) /\ ∀ x, x ∈ l.take k ++ [v] ++ l.drop k ↔ x ∈ l \/ x = v := by
 have e : l = l.take k ++ l.drop k := (List.take_append_drop k l).symm
 have ht : ∀ x ∈ l.take k, x < v := fun x hx => by
  obtain ⟨j, hj⟩ := List.getElem?_of_mem hx
  have hj2 : j < k := by have := (List.getElem?_eq_some_iff.1 hj).1; rw [List.length_take] at this; omega
  rw [List.getElem?_take, if_pos hj2] at hj;exact h1 j x hj2 hj
 have hp := h
 rw [e, List.pairwise_append] at hp
 have hd : ∀ x ∈ l.drop k, v < x := fun x hx => by
  by_cases hkl : k < l.length
  ·have h3 := h2 _ (List.getElem?_eq_getElem hkl)
   rw [List.drop_eq_getElem_cons hkl] at hx
   have h4 := hp.2.1
   rw [List.drop_eq_getElem_cons hkl, List.pairwise_cons] at h4
   rcases List.mem_cons.1 hx with rfl | hx
   ·exact h3
   ·have := h4.1 x hx; omega
  ·rw [List.drop_eq_nil_of_le (by omega)] at hx; cases hx
 refine ⟨?_, fun x => ?_⟩
 ·rw [List.append_assoc, List.pairwise_append]
  refine ⟨hp.1, ?_, fun x hx y hy => ?_⟩
  ·rw [List.cons_append, List.nil_append, List.pairwise_cons]; exact ⟨hd, hp.2.1⟩
  ·rw [List.cons_append, List.nil_append] at hy
   rcases List.mem_cons.1 hy with rfl | hy
   ·exact ht x hx
   ·exact hp.2.2 x hx y hy
 ·have e2 : x ∈ l ↔ x ∈ l.take k \/ x ∈ l.drop k := by
   constructor
   ·intro h; rw [e] at h; exact List.mem_append.1 h
   ·intro h; rw [e]; exact List.mem_append.2 h
  rw [e2];simp only [List.mem_append, List.mem_singleton]
  constructor
  ·rintro ((h | h) | h)
   ·exact .inl (.inl h)
   ·exact .inr h
   ·exact .inl (.inr h)
  ·rintro ((h | h) | h)
   ·exact .inl (.inl h)
   ·exact .inr h
   ·exact .inl (.inr h)
theorem Gv {l : List Int} (hl : l.length <= 100000) : Dt l = some (cs l) := by
 unfold Dt;obtain ⟨o, e1, e2, e3, _⟩ := AU (φ := fun n i s => Dc l n (i, s)) (l := l) (fun i s => s.Pairwise (· < ·) /\ (∀ x, x ∈ s ↔ x ∈ l.take i) /\ s.length <= i) (fun o => o.Pairwise (· < ·) /\ (∀ x, x ∈ o ↔ x ∈ l) /\ o.length <= l.length)
  (by
   rintro n i v s hv hi ⟨h1, h2, h3⟩
   left
   obtain ⟨k, e1, e2, e3, e4⟩ := setl2 hv (l3 := s) (by omega);simp only [Dc];rw [dT (show (i : Int) < (l.length : Int) by omega), cT, e1, oB]
   have hlt : (s.take k).length = k := by rw [List.length_take]; omega
   have hins : (∀ x, s[k]? = some x -> v < x) -> (s.take k ++ [v] ++ s.drop k).Pairwise (· < ·) /\ (∀ x, x ∈ s.take k ++ [v] ++ s.drop k ↔ x ∈ l.take (i + 1)) /\ (s.take k ++ [v] ++ s.drop k).length <= i + 1 := fun h => by
    obtain ⟨a, b⟩ := PD h1 e2 e3 h;refine ⟨a, fun x => by rw [b x, h2 x, takeS hv]; simp, ?_⟩;simp only [List.length_append, List.length_drop, List.length_cons, List.length_nil]; omega
   by_cases hk : k < s.length
   ·have hy : s[k]? = some s[k] := List.getElem?_eq_getElem hk
    rw [dT (show (k : Int) < (s.length : Int) by omega), cT, getI hy, oB, getI hv, oB]
    by_cases he : s[k] = v
    ·rw [dT he, cT, Ab (by constructor <;> omega)]
     refine ⟨_, rfl, h1, fun x => ?_, by omega⟩;rw [h2 x, takeS hv]
     constructor
     ·intro h; exact List.mem_append_left _ h
     ·intro h
      rcases List.mem_append.1 h with h | h
      ·exact h
      ·rw [List.mem_singleton] at h; subst h; exact (h2 _).1 (he ▸ List.getElem_mem hk)
    ·rw [dF he, cF_, GG e2, oB, Ab (by omega), oB, Ab (by simp only [List.nil_append, List.length_cons, List.length_nil]; omega), L4 rfl e2, oB, Ab (by simp only [List.nil_append, List.length_append, List.length_drop, List.length_cons, List.length_nil]; omega), Ab (by constructor <;> omega)]
     exact ⟨_, rfl, hins fun x hx => by have := e4 x hx; rw [hy] at hx; cases hx; omega⟩
   ·rw [dF (by omega), cF_, GG e2, oB, Ab (by omega), getI hv, oB, Ab (by simp only [List.nil_append, List.length_cons, List.length_nil]; omega), L4 rfl e2, oB, Ab (by simp only [List.nil_append, List.length_append, List.length_drop, List.length_cons, List.length_nil]; omega), Ab (by constructor <;> omega)]
    exact ⟨_, rfl, hins fun x hx => by rw [List.getElem?_eq_none (by omega)] at hx; cases hx⟩)
  (by
   rintro n s ⟨h1, h2, h3⟩;simp only [Dc];rw [dF (by omega), cF_];exact ⟨s, rfl, h1, fun x => by rw [h2 x, List.take_length], h3⟩) (by rw [FUv]; omega) [] ⟨List.Pairwise.nil, by simp, by simp⟩
 rw [e1, oB, Qn e2 e3]
theorem Lk (l : List Int) (g : Int -> Bool) : decide (0 <= (match l.findIdx? g with | some i => (i : Int) | none => -1)) = l.any g := by
 cases hf : l.findIdx? g with
 | none =>
  have : l.any g = false := by
   rw [List.any_eq_false]
   intro x hx
   have := List.findIdx?_eq_none_iff.1 hf x hx
   simp [this]
  rw [this]; rfl
 | some i =>
  obtain ⟨hi, h1, _⟩ := List.findIdx?_eq_some_iff_getElem.1 hf;rw [List.any_eq_true.2 ⟨l[i], List.getElem_mem hi, h1⟩];exact dT (by show (0 : Int) <= (i : Int); omega)
theorem LZ {t : ATy} {l : List Int} (h : ∀ i ∈ l, In t i) (hl : l.length <= 1000) (k : Int) : E1 t l k = some (match l.findIdx? (fun i => decide ((nd t i).kind = k)) with | some i => (i : Int) | none => -1) := by
 unfold E1;rw [FN (φ := D9 t l k) (l := l) (fun i => (i : Int)) (fun i => decide ((nd t i).kind = k)) ?_ ?_ (by rw [FUv]; omega)]
 ·rw [oB]
  cases l.findIdx? (fun i => decide ((nd t i).kind = k)) <;> rfl
 ·intro n i x hx hi
  simp only [D9];rw [dT (show (i : Int) < (l.length : Int) by omega), cT, getI hx, oB, getN (h x (List.mem_of_getElem? hx)), oB];exact ⟨fun hq => by rw [hq, cF_, Ab (by constructor <;> omega)], fun hq => by rw [hq, cT]⟩
 ·intro n
  simp only [D9];rw [dF (by omega), cF_]
theorem QL {t : ATy} {l : List Int} (h : ∀ i ∈ l, In t i) (hl : l.length <= 1000) : Ey t l 9 10 = some (match l.findIdx? (fun i => latB (nd t i).kind) with | some i => (i : Int) | none => -1) := by
 unfold Ey;rw [FN (φ := DD t l 9 10) (l := l) (fun i => (i : Int)) (fun i => latB (nd t i).kind) ?_ ?_ (by rw [FUv]; omega)]
 ·rw [oB]
  cases l.findIdx? (fun i => latB (nd t i).kind) <;> rfl
 ·intro n i x hx hi
  simp only [DD];rw [dT (show (i : Int) < (l.length : Int) by omega), cT, getI hx, oB, getN (h x (List.mem_of_getElem? hx)), oB]
  change (latB (nd t x).kind = false -> (bif latB (nd t x).kind then _ else _) = _) /\ (latB (nd t x).kind = true -> (bif latB (nd t x).kind then _ else _) = _)
  exact ⟨fun hq => by rw [hq, cF_, Ab (by constructor <;> omega)], fun hq => by rw [hq, cT]⟩
 ·intro n
  simp only [DD];rw [dF (by omega), cF_]
theorem RW {l m : List Int} {i : Nat} (hi : i < l.length) (hl : l.length <= 1000) (hm : m.length <= 1000) : C9 l (i : Int) m = some (cs (l.take i ++ l.drop (i + 1) ++ m)) := by
 unfold C9;rw [GG (by omega), oB, Ab (by rw [List.length_take]; omega), Ab (by constructor <;> omega), show ((i : Int) + 1) = ((i + 1 : Nat) : Int) by omega, L4 rfl (by omega), oB, Ab (by simp only [List.nil_append, List.length_take, List.length_drop]; omega), Ab (by simp only [List.nil_append, List.length_append, List.length_take, List.length_drop]; omega), List.nil_append, Gv (by simp only [List.length_append, List.length_take, List.length_drop]; omega), oB]
theorem Oa {n : ANd} (h : NB n) (s : List UInt8) : FI n s = some ((atN n s).getD (-1)) := by
 have h40 : n.l.length <= 40 := h
 unfold FI;obtain ⟨o, e1, e2⟩ := AU (φ := fun k i (_ : Unit) => D4 n s k i) (l := n.l) (fun i _ => (n.l.take i).find? (fun f => decide (f.name = s)) = none) (fun o => o.on (fun r => some r) (fun _ => some (-1)) = some ((atN n s).getD (-1)))
  (by
   intro k i x u hx hi hI
   simp only [D4];rw [dT (show (i : Int) < (n.l.length : Int) by omega), cT, getI hx, oB]
   by_cases hs : x.name = s
   ·right
    rw [dT hs, cT, oB];refine ⟨_, rfl, ?_⟩
    have e : n.l = n.l.take i ++ x :: n.l.drop (i + 1) := by
     have hx2 := (List.getElem?_eq_some_iff.1 hx).2
     rw [<- hx2, <- List.drop_eq_getElem_cons hi, List.take_append_drop]
    have : atN n s = some x.at_ := by
     unfold atN;rw [e, List.find?_append, hI, List.find?_cons_of_pos (by simpa using hs)]; rfl
    rw [this]; rfl
   ·left
    rw [dF hs, cF_, Ab (by constructor <;> omega)];refine ⟨u, rfl, ?_⟩;rw [takeS hx, List.find?_append, hI, List.find?_cons_of_neg (by simpa using hs)]; rfl)
  (by
   intro k u hI
   simp only [D4];rw [dF (by omega), cF_];refine ⟨_, rfl, ?_⟩;rw [List.take_length] at hI;unfold atN; rw [hI]; rfl) (by rw [FUv]; omega) () (by simp)
 rw [e1, oB, e2]
theorem JZ {t : ATy} (hO : OkT t) (hN : ∀ n ∈ t.l, NB n) {l : List Int} (h : ∀ i ∈ l, In t i) (hl : l.length <= 1000) (s : List UInt8) : Eu t l s = some (cs (AL t l s)) := by
 unfold Eu
 have hlen : ∀ m : List Int, m.length <= 1000 -> (AL t m s).length <= 1000 := fun m hm => Nat.le_trans (List.length_filterMap_le _ _) hm
 obtain ⟨o, e1, e2⟩ := AU (φ := fun k i q => CS t l s k (i, q)) (l := l) (fun i q => q = AL t (l.take i) s) (fun o => o = AL t l s)
  (by
   rintro k i x q hx hi rfl
   left
   have hxi := h x (List.mem_of_getElem? hx)
   have hl2 := hlen (l.take i) (by rw [List.length_take]; omega)
   simp only [CS];rw [dT (show (i : Int) < (l.length : Int) by omega), cT, getI hx, oB, getN hxi, oB, Oa (hN _ (Fw hxi)), oB]
   have ep : AL t (l.take (i + 1)) s = AL t (l.take i) s ++ (atN (nd t x) s).toList := by
    rw [takeS hx]; unfold AL; rw [List.filterMap_append]
    congr 1
   rw [ep]
   cases ha : atN (nd t x) s with
   | none =>
    rw [show decide (0 <= (none : Option Int).getD (-1)) = false from rfl, cF_, Ab (by constructor <;> omega)];exact ⟨_, rfl, by simp⟩
   | some z =>
    have hz := (Nf hO hxi ha).1
    rw [show (some z).getD (-1) = z from rfl, dT hz, cT, Ab (by simp only [List.length_cons, List.length_nil]; omega), Ab (by constructor <;> omega)];exact ⟨_, rfl, by simp⟩)
  (by
   rintro k q rfl;simp only [CS];rw [dF (by omega), cF_];exact ⟨_, rfl, by rw [List.take_length]⟩) (by rw [FUv]; omega) [] (by simp [AL])
 rw [e1, oB, e2, Gv (by have := hlen l hl; omega), oB]
theorem Ra {t : ATy} (hO : OkT t) (hN : ∀ n ∈ t.l, NB n) {l : List Int} (h : ∀ i ∈ l, In t i) (hl : l.length <= 1000) (s : List UInt8) : EU t l s = some ((AL t l s).length : Int) := by
 unfold EU
 have hlen : ∀ m : List Int, m.length <= 1000 -> (AL t m s).length <= 1000 := fun m hm => Nat.le_trans (List.length_filterMap_le _ _) hm
 obtain ⟨o, e1, e2⟩ := AU (φ := fun k i q => B6 t l s k (q, i)) (l := l) (fun i q => q = ((AL t (l.take i) s).length : Int)) (fun o => o = ((AL t l s).length : Int))
  (by
   rintro k i x q hx hi rfl
   left
   have hxi := h x (List.mem_of_getElem? hx)
   have hl2 := hlen (l.take i) (by rw [List.length_take]; omega)
   simp only [B6];rw [dT (show (i : Int) < (l.length : Int) by omega), cT, getI hx, oB, getN hxi, oB, Oa (hN _ (Fw hxi)), oB]
   have ep : AL t (l.take (i + 1)) s = AL t (l.take i) s ++ (atN (nd t x) s).toList := by
    rw [takeS hx]; unfold AL; rw [List.filterMap_append]
    congr 1
   rw [ep]
   cases ha : atN (nd t x) s with
   | none =>
    rw [show decide (0 <= (none : Option Int).getD (-1)) = false from rfl, cF_, Ab (by constructor <;> omega)];exact ⟨_, rfl, by simp⟩
   | some z =>
    have hz := (Nf hO hxi ha).1
    rw [show (some z).getD (-1) = z from rfl, dT hz, cT, Ab (by constructor <;> omega), Ab (by constructor <;> omega)];exact ⟨_, rfl, by simp⟩)
  (by
   rintro k q rfl;simp only [B6];rw [dF (by omega), cF_];exact ⟨_, rfl, by rw [List.take_length]⟩) (by rw [FUv]; omega) 0 (by simp [AL])
 rw [e1, oB, e2]
theorem RA {t : ATy} {l : List Int} (h : ∀ i ∈ l, In t i) (hl : l.length <= 1000) (k : Int) : Iv t l k = some (ofK t l k) := by
 unfold Iv
 have hlen : ∀ m : List Int, m.length <= 1000 -> (ofK t m k).length <= 1000 := fun m hm => Nat.le_trans (List.length_filter_le _ _) hm
 obtain ⟨o, e1, e2⟩ := AU (φ := fun n i q => Et t l k n (i, q)) (l := l) (fun i q => q = ofK t (l.take i) k) (fun o => o = ofK t l k)
  (by
   rintro n i x q hx hi rfl
   left
   have hxi := h x (List.mem_of_getElem? hx)
   have hl2 := hlen (l.take i) (by rw [List.length_take]; omega)
   simp only [Et];rw [dT (show (i : Int) < (l.length : Int) by omega), cT, getI hx, oB, getN hxi, oB]
   have ep : ofK t (l.take (i + 1)) k = ofK t (l.take i) k ++ (if (nd t x).kind = k then [x] else []) := by
    rw [takeS hx]; unfold ofK; rw [List.filter_append]
    congr 1
    by_cases hk : (nd t x).kind = k
    ·simp [hk]
    ·simp [hk]
   rw [ep]
   by_cases hk : (nd t x).kind = k
   ·rw [dT hk, cT, oB, Ab (by simp only [List.length_cons, List.length_nil]; omega), Ab (by constructor <;> omega), if_pos hk]
    exact ⟨_, rfl, rfl⟩
   ·rw [dF hk, cF_, Ab (by constructor <;> omega), if_neg hk, List.append_nil]
    exact ⟨_, rfl, rfl⟩)
  (by
   rintro n q rfl;simp only [Et];rw [dF (by omega), cF_];exact ⟨_, rfl, by rw [List.take_length]⟩) (by rw [FUv]; omega) [] (by simp [ofK])
 rw [e1, oB, e2]
theorem all_parts {t : ATy} {l : List Int} {s : List UInt8} : (AL t l s).length = l.length ↔ (l.all fun j => (atN (nd t j) s).isSome) = true := by
 obtain ⟨h1, h2⟩ := PJ (f := fun i => atN (nd t i) s) l;unfold AL;rw [List.all_eq_true]
 constructor
 ·intro h j hj
  have := h2.1 (by omega) j hj
  cases hq : atN (nd t j) s with
  | none => exact absurd hq this
  | some _ => rfl
 ·intro h
  have := h2.2 fun j hj => by have := h j hj; cases hq : atN (nd t j) s with
   | none => rw [hq] at this; cases this
   | some _ => simp
  omega
theorem MK {t : ATy} (hO : OkT t) (hN : ∀ n ∈ t.l, NB n) {l : List Int} (h : ∀ i ∈ l, In t i) (hl : l.length <= 1000) (hne : l ≠ []) : DK t l = some (Dj t l) := by
 obtain ⟨a, m, rfl⟩ := List.exists_cons_of_ne_nil hne
 have ha := h a (by simp)
 have h40 : (nd t a).l.length <= 40 := hN _ (Fw ha)
 have hnd := Ku (KC (hO.right _ (Fw ha)))
 unfold DK
 have i0 : idx (a :: m) 0 = some a := rfl
 obtain ⟨o, e1, e2⟩ := AU (φ := fun n i q => CV t (a :: m) n (i, q)) (l := (nd t a).l) (fun i q => q = (((nd t a).l.take i).map (·.name)).filter fun s => (a :: m).all fun j => (atN (nd t j) s).isSome) (fun o => o = Dj t (a :: m))
  (by
   rintro n i x q hx hi rfl
   left
   have hql : ((((nd t a).l.take i).map (·.name)).filter fun s => (a :: m).all fun j => (atN (nd t j) s).isSome).length <= 40 := Nat.le_trans (List.length_filter_le _ _) (by rw [List.length_map, List.length_take]; omega)
   have hnot : x.name ∉ (((nd t a).l.take i).map (·.name)).filter fun s => (a :: m).all fun j => (atN (nd t j) s).isSome := by
    intro hm
    have hm2 := (List.mem_filter.1 hm).1
    have e : (nd t a).l.map (·.name) = ((nd t a).l.take i).map (·.name) ++ x.name :: ((nd t a).l.drop (i + 1)).map (·.name) := by
     have hx2 := (List.getElem?_eq_some_iff.1 hx).2
     rw [<- hx2, <- List.map_cons, <- List.drop_eq_getElem_cons hi, <- List.map_append, List.take_append_drop]
    rw [e, List.nodup_append] at hnd;exact hnd.2.2 _ hm2 _ (List.mem_cons_self) rfl
   simp only [CV];rw [i0, oB, getN ha, oB, dT (show (i : Int) < ((nd t a).l.length : Int) by omega), cT, oB, getN ha, oB, getI hx, oB, JZ hO hN h hl, oB, Ra hO hN h hl, oB, MF _ _ (by omega), dF hnot]
   have hlast : (((nd t a).l.take (i + 1)).map (·.name)).filter (fun s => (a :: m).all fun j => (atN (nd t j) s).isSome) = (((nd t a).l.take i).map (·.name)).filter (fun s => (a :: m).all fun j => (atN (nd t j) s).isSome) ++ (if ((a :: m).all fun j => (atN (nd t j) x.name).isSome) = true then [x.name] else []) := by
    rw [takeS hx, List.map_append, List.filter_append]
    congr 1
    by_cases hk : ((a :: m).all fun j => (atN (nd t j) x.name).isSome) = true
    ·rw [if_pos hk, List.map_cons, List.map_nil, List.filter_cons_of_pos (by exact hk)]; rfl
    ·rw [if_neg hk, List.map_cons, List.map_nil, List.filter_cons_of_neg (by exact hk)]; rfl
   by_cases hall : ((a :: m).all fun j => (atN (nd t j) x.name).isSome) = true
   ·have hlen := all_parts.2 hall
    have hpos : 0 < (cs (AL t (a :: m) x.name)).length := by
     have hp : 0 < (AL t (a :: m) x.name).length := by rw [hlen]; simp
     obtain ⟨y, hy⟩ := List.exists_mem_of_length_pos hp;exact List.length_pos_of_mem (mem_cs.2 hy)
    rw [dT (show (0 : Int) < ((cs (AL t (a :: m) x.name)).length : Int) by omega), cT, oB, dT (by omega), cT, oB, Bool.not_false, oB, cT, Ab (by simp only [List.length_cons, List.length_nil]; omega), Ab (by constructor <;> omega)];exact ⟨_, rfl, by rw [hlast, if_pos hall]⟩
   ·have hlen : ¬ (AL t (a :: m) x.name).length = (a :: m).length := fun e => hall (all_parts.1 e)
    have e0 : ((bif decide (0 < ((cs (AL t (a :: m) x.name)).length : Int)) then some (decide (((AL t (a :: m) x.name).length : Int) = ((a :: m).length : Int))) else some false) : Option Bool) = some false := by
     rw [dF (show ¬ ((AL t (a :: m) x.name).length : Int) = ((a :: m).length : Int) by omega)]
     cases decide (0 < ((cs (AL t (a :: m) x.name)).length : Int)) <;> rfl
    rw [e0, oB, cF_, oB, cF_, Ab (by constructor <;> omega)];exact ⟨_, rfl, by rw [hlast, if_neg hall, List.append_nil]⟩)
  (by
   rintro n q rfl;simp only [CV];rw [i0, oB, getN ha, oB, dF (by omega), cF_];exact ⟨_, rfl, by rw [List.take_length]; rfl⟩) (by rw [FUv]; omega) [] (by simp)
 rw [e1, oB, e2]
end Go.Proofs.YtkfnogdccpcmhaaGreatDoor
namespace Go.Proofs.YtkfnogdccpcmhaaGreatDoor
open Go.V
open Classical
def toS (q : BSq) : RSeq := ⟨q.left, q.right⟩
def ofS (q : RSeq) : BSq := ⟨q.l, q.r⟩
theorem Tg {t : ATy} {l r : List Int} (hL : ∀ i ∈ l, In t i) (hR : ∀ i ∈ r, In t i) (hl : l.length <= 1000) (hr : r.length <= 1000) :
  (CL t l FU (0, [], [], [], [])).bind (fun (l2, l3, l4, l5) => (CR t r FU (0, l2, l3, l4, l5)).bind fun (l10, l11, l12, l13) => some (l10, l11, l12, l13)) = some (r.map (fun i => (nd t i).b), l.map (fun i => (nd t i).b), l.map (fun i => (nd t i).a), r.map (fun i => (nd t i).a)) := by
 obtain ⟨o, e1, e2⟩ := AU (φ := fun n i s => CL t l n (i, s)) (l := l) (fun i s => s = ([], (l.take i).map (fun i => (nd t i).b), (l.take i).map (fun i => (nd t i).a), [])) (fun o => o = ([], l.map (fun i => (nd t i).b), l.map (fun i => (nd t i).a), []))
  (by
   rintro n i x s hx hi rfl
   left
   have hxm := List.mem_of_getElem? hx
   have hti : (l.take i).length <= 1000 := by rw [List.length_take]; omega
   simp only [CL];rw [dT (show (i : Int) < (l.length : Int) by omega), cT, getI hx, oB, getN (hL x hxm), oB, Ab (by simp only [List.length_map, List.length_cons, List.length_nil]; omega), oB, getN (hL x hxm), oB, Ab (by simp only [List.length_map, List.length_cons, List.length_nil]; omega), Ab (by constructor <;> omega)];refine ⟨_, rfl, ?_⟩;rw [takeS hx]; simp)
  (by
   rintro n s rfl;simp only [CL];rw [dF (by omega), cF_];exact ⟨_, rfl, by simp⟩) (by rw [FUv]; omega) ([], [], [], []) (by simp)
 rw [e1, oB, e2];obtain ⟨o, e3, e4⟩ := AU (φ := fun n i s => CR t r n (i, s)) (l := r) (fun i s => s = ((r.take i).map (fun i => (nd t i).b), l.map (fun i => (nd t i).b), l.map (fun i => (nd t i).a), (r.take i).map (fun i => (nd t i).a))) (fun o => o = (r.map (fun i => (nd t i).b), l.map (fun i => (nd t i).b), l.map (fun i => (nd t i).a), r.map (fun i => (nd t i).a)))
  (by
   rintro n i x s hx hi rfl
   left
   have hxm := List.mem_of_getElem? hx
   have hti : (r.take i).length <= 1000 := by rw [List.length_take]; omega
   simp only [CR];rw [dT (show (i : Int) < (r.length : Int) by omega), cT, getI hx, oB, getN (hR x hxm), oB, Ab (by simp only [List.length_map, List.length_cons, List.length_nil]; omega), oB, getN (hR x hxm), oB, Ab (by simp only [List.length_map, List.length_cons, List.length_nil]; omega), Ab (by constructor <;> omega)];refine ⟨_, rfl, ?_⟩;rw [takeS hx]; simp)
  (by
   rintro n s rfl;simp only [CR];rw [dF (by omega), cF_];exact ⟨_, rfl, by simp⟩) (by rw [FUv]; omega) ([], l.map (fun i => (nd t i).b), l.map (fun i => (nd t i).a), []) (by simp)
 simp only
 rw [e3, oB, e4]
theorem SE {R S T : Type} (u : S) (f : R -> Option T) (g : S -> Option T) : (Out.go u : Out R S).on f g = g u := rfl
theorem H6 {α : Type} (l : List α) : decide ((l.length : Int) = 0) = l.isEmpty := by
 cases l with
 | nil => rfl
 | cons a l => exact dF (by simp only [List.length_cons]; omega)
theorem Oy (l : List Int) : (cs l).isEmpty = l.isEmpty := by
 cases h : l with
 | nil =>
  have : cs [] = [] := by rw [List.eq_nil_iff_forall_not_mem]; intro x hx; exact absurd (mem_cs.1 hx) (by simp)
  rw [this]
 | cons a m =>
  have : a ∈ cs (a :: m) := mem_cs.2 (by simp)
  cases hq : cs (a :: m) with
  | nil => rw [hq] at this; cases this
  | cons _ _ => rfl
theorem Q9 {t : ATy} (hO : OkT t) (hN : ∀ n ∈ t.l, NB n) {l r : List Int} (hL : ∀ i ∈ l, In t i) (hR : ∀ i ∈ r, In t i) (hl : l.length <= 1000) (hr : r.length <= 1000) (all : List (List UInt8)) (ha : all.length <= 1000) :
  (CX t l r all FU (0, [])).bind (fun oo => oo.on (fun r2 => some r2) (fun l18 => some (l18, true))) = some (if all.any (badA t l r) = true then ([], false) else (all.map fun s => ⟨cs (AL t l s), cs (AL t r s)⟩, true)) := by
 obtain ⟨o, e1, e2⟩ := AU (φ := fun n i s => CX t l r all n (i, s)) (l := all) (fun i s => s = (all.take i).map (fun s => (⟨cs (AL t l s), cs (AL t r s)⟩ : RSeq)) /\ (all.take i).any (badA t l r) = false) (fun oo => oo.on (fun r2 => some r2) (fun l18 => some (l18, true)) = some (if all.any (badA t l r) = true then ([], false) else (all.map fun s => ⟨cs (AL t l s), cs (AL t r s)⟩, true)))
  (by
   rintro n i x s hx hi ⟨rfl, hb⟩
   have hti : (all.take i).length <= 1000 := by rw [List.length_take]; omega
   simp only [CX];rw [dT (show (i : Int) < (all.length : Int) by omega), cT, getI hx, oB, JZ hO hN hL hl, oB, oB, JZ hO hN hR hr, oB, H6, H6, Oy, Oy]
   change (∃ s', (bif badA t l r x then _ else _) = _ /\ _) \/ (∃ o, (bif badA t l r x then _ else _) = _ /\ _)
   cases hbx : badA t l r x with
   | true =>
    right
    rw [cT];refine ⟨_, rfl, ?_⟩;rw [if_pos (List.any_eq_true.2 ⟨x, List.mem_of_getElem? hx, hbx⟩)]; rfl
   | false =>
    left
    rw [cF_, Ab (by simp only [List.length_map, List.length_cons, List.length_nil]; omega), Ab (by constructor <;> omega)];refine ⟨_, rfl, by rw [takeS hx]; simp, ?_⟩;rw [takeS hx, List.any_append, hb]; simp [hbx])
  (by
   rintro n s ⟨rfl, hb⟩;simp only [CX];rw [dF (by omega), cF_];rw [List.take_length] at hb ⊢;exact ⟨_, rfl, by rw [hb]; rfl⟩) (by rw [FUv]; omega) [] ⟨by simp, by simp⟩
 rw [e1, oB, e2]
theorem Gm {t : ATy} (hN : ∀ n ∈ t.l, NB n) {l : List Int} (h : ∀ i ∈ l, In t i) : (Dj t l).length <= 1000 := by
 cases l with
 | nil => simp [Dj]
 | cons a m =>
  have h40 : (nd t a).l.length <= 40 := hN _ (Fw (h a (by simp)))
  unfold Dj;exact Nat.le_trans (List.length_filter_le _ _) (by rw [List.length_map]; omega)
theorem Rg {t : ATy} (hO : OkT t) (hN : ∀ n ∈ t.l, NB n) {l r : List Int} {k : Int} (hL : ∀ i ∈ l, In t i) (hR : ∀ i ∈ r, In t i) (hl : l.length <= 1000) (hr : r.length <= 1000) (hlne : l ≠ []) :
  F8 t k l r = some ((Cb t k l r).2.map toS, !(Cb t k l r).1) := by
 unfold F8 Cb;rw [H6]
 by_cases h0 : k ≠ 8 /\ r = []
 ·rw [if_pos h0, dF h0.1, h0.2]; rfl
 ·rw [if_neg h0]
  have e0 : ((!decide (k = 8)) && r.isEmpty) = false := by
   by_cases h8 : k = 8
   ·rw [dT h8]; rfl
   ·rw [dF h8]
    cases r with
    | nil => exact absurd ⟨h8, rfl⟩ h0
    | cons _ _ => rfl
  rw [e0, cF_]
  by_cases h6 : k = 6
  ·rw [dT h6, cT, if_pos h6]
   have e1 := Tg hL hR hl hr
   rw [Option.bind_eq_some_iff] at e1;obtain ⟨⟨l2, l3, l4, l5⟩, e2, e3⟩ := e1;rw [Option.bind_eq_some_iff] at e3;obtain ⟨⟨l10, l11, l12, l13⟩, e4, e5⟩ := e3;simp only [Option.some.injEq, Prod.mk.injEq] at e5;obtain ⟨rfl, rfl, rfl, rfl⟩ := e5;rw [e2, oB]
   simp only
   rw [e4, oB]
   simp only
   rw [Gv (by simp; omega), oB, Gv (by simp; omega), oB, Gv (by simp; omega), oB, Gv (by simp; omega), oB]
   rfl
  ·rw [dF h6, cF_, if_neg h6]
   have hrne : k = 7 -> r ≠ [] := fun h7 e => h0 ⟨by omega, e⟩
   have eall : ((bif (decide (k = 7)) then (DK t r).bind fun x13 => some x13 else some [] : Option (List (List UInt8))).bind fun all1 => (bif (decide (k = 8)) then (DK t l).bind fun x14 => some x14 else some all1 : Option (List (List UInt8)))) = some (allA t k l r) := by
    unfold allA
    by_cases h7 : k = 7
    ·rw [dT h7, cT, if_pos h7, MK hO hN hR hr (hrne h7), oB, oB, dF (by omega), cF_]
    ·rw [dF h7, cF_, if_neg h7, oB]
     by_cases h8 : k = 8
     ·rw [dT h8, cT, if_pos h8, MK hO hN hL hl hlne, oB]
     ·rw [dF h8, cF_, if_neg h8]
   have hsm : (allA t k l r).length <= 1000 := by
    unfold allA
    split
    ·exact Gm hN hR
    ·split
     ·exact Gm hN hL
     ·simp
   rw [<- Option.bind_assoc, eall, oB, Q9 hO hN hL hR hl hr _ hsm]
   by_cases hb : (allA t k l r).any (badA t l r) = true
   ·rw [if_pos hb, if_pos hb]; rfl
   ·rw [if_neg hb, if_neg hb]; simp [toS, Function.comp_def]
theorem RZ {t : ATy} {q : BSq} (hq : InQ t q) (h1 : q.left.length <= 500) (h2 : q.right.length <= 500) : CM t (toS q) FU 0 = some (if FX t q = true then .ret ([], true) else .go ()) := by
 have hl2 : ∀ (i : Nat) x, q.left[i]? = some x -> CW t (toS q) (i : Int) FU 0 = some (if (q.right.any fun j => decide ((nd t x).kind = 11) && decide ((nd t j).kind = 11) && decide ((nd t x).a = (nd t j).a)) = true then .ret ([], true) else .go ()) := by
  intro i x hx
  rw [HX (φ := CW t (toS q) (i : Int)) (l := q.right) ([], true) (fun _ j => (decide ((nd t x).kind = 11) && decide ((nd t j).kind = 11) && decide ((nd t x).a = (nd t j).a)) = true) ?_ ?_ (by rw [FUv]; omega)]
  ·congr 1
   have e : (∃ (k : Nat) (j : Int), q.right[k]? = some j /\ (decide ((nd t x).kind = 11) && decide ((nd t j).kind = 11) && decide ((nd t x).a = (nd t j).a)) = true) ↔ (q.right.any fun j => decide ((nd t x).kind = 11) && decide ((nd t j).kind = 11) && decide ((nd t x).a = (nd t j).a)) = true := by
    rw [List.any_eq_true]
    constructor
    ·rintro ⟨k, j, hk, h⟩; exact ⟨j, List.mem_of_getElem? hk, h⟩
    ·rintro ⟨j, hj, h⟩; obtain ⟨k, hk⟩ := List.getElem?_of_mem hj; exact ⟨k, j, hk, h⟩
   by_cases hc : (q.right.any fun j => decide ((nd t x).kind = 11) && decide ((nd t j).kind = 11) && decide ((nd t x).a = (nd t j).a)) = true
   ·rw [if_pos (e.2 hc), if_pos hc]
   ·rw [if_neg (fun h => hc (e.1 h)), if_neg hc]
  ·intro n k j hj hk
   simp only [CW]
   have e1 : idx (toS q).l (i : Int) = some x := getI hx
   have e2 : idx (toS q).r (k : Int) = some j := getI hj
   rw [dT (show (k : Int) < ((toS q).r.length : Int) by show (k : Int) < (q.right.length : Int); omega), cT, e1, oB, getN (hq.1 x (List.mem_of_getElem? hx)), oB, e2, oB, getN (hq.2 j (List.mem_of_getElem? hj)), oB]
   constructor
   ·intro hc; rw [show (decide ((nd t x).kind = 11) && decide ((nd t j).kind = 11) && decide ((nd t x).a = (nd t j).a)) = false by simpa using hc, cF_, Ab (by constructor <;> omega)]
   ·intro hc; rw [hc, cT]
  ·intro n
   simp only [CW];rw [dF (by show ¬ (q.right.length : Int) < (q.right.length : Int); omega), cF_]
 rw [HX (φ := CM t (toS q)) (l := q.left) ([], true) (fun _ x => (q.right.any fun j => decide ((nd t x).kind = 11) && decide ((nd t j).kind = 11) && decide ((nd t x).a = (nd t j).a)) = true) ?_ ?_ (by rw [FUv]; omega)]
 ·congr 1
  unfold FX
  have e : (∃ (k : Nat) (x : Int), q.left[k]? = some x /\ (q.right.any fun j => decide ((nd t x).kind = 11) && decide ((nd t j).kind = 11) && decide ((nd t x).a = (nd t j).a)) = true) ↔ (q.left.any fun x => q.right.any fun j => decide ((nd t x).kind = 11) && decide ((nd t j).kind = 11) && decide ((nd t x).a = (nd t j).a)) = true := by
   rw [List.any_eq_true]
   constructor
   ·rintro ⟨k, j, hk, h⟩; exact ⟨j, List.mem_of_getElem? hk, h⟩
   ·rintro ⟨j, hj, h⟩; obtain ⟨k, hk⟩ := List.getElem?_of_mem hj; exact ⟨k, j, hk, h⟩
  by_cases hc : (q.left.any fun x => q.right.any fun j => decide ((nd t x).kind = 11) && decide ((nd t j).kind = 11) && decide ((nd t x).a = (nd t j).a)) = true
  ·rw [if_pos (e.2 hc), if_pos hc]
  ·rw [if_neg (fun h => hc (e.1 h)), if_neg hc]
 ·intro n i x hx hi
  simp only [CM];rw [dT (show (i : Int) < ((toS q).l.length : Int) by show (i : Int) < (q.left.length : Int); omega), cT, hl2 i x hx, oB]
  constructor
  ·intro hc; rw [if_neg hc]
   rw [SE, Ab (by constructor <;> omega)]
  ·intro hc; rw [if_pos hc]; rfl
 ·intro n
  simp only [CM];rw [dF (by show ¬ (q.left.length : Int) < (q.left.length : Int); omega), cF_]
theorem SI {t : ATy} {q : BSq} (hq : InQ t q) (h1 : q.left.length <= 500) (n : Nat) (i : Int) (hi : 3 <= i /\ i <= 8) (l : List Int) (hl : l.length <= 100) :
  By t (toS q) (n + 1) (i, l) = By t (toS q) n (i + 1, l ++ (if (q.left.any fun j => decide ((nd t j).kind = i)) = true then [i] else [])) := by
 simp only [By];rw [dT hi.2, cT, show (toS q).l = q.left from rfl, LZ hq.1 (by omega), oB, Lk]
 by_cases hc : (q.left.any fun j => decide ((nd t j).kind = i)) = true
 ·rw [hc, cT, Ab (by simp only [List.length_cons, List.length_nil]; omega), Ab (by constructor <;> omega), if_pos rfl]
 ·have hc2 : (q.left.any fun j => decide ((nd t j).kind = i)) = false := by simpa using hc
  rw [hc2, cF_, Ab (by constructor <;> omega), if_neg (by simp), List.append_nil]
theorem QY (p : Int -> Bool) (a : Int) (l : List Int) : List.filter p (a :: l) = (if p a = true then [a] else []) ++ List.filter p l := by
 by_cases h : p a = true
 ·rw [List.filter_cons_of_pos h, if_pos h]; rfl
 ·rw [List.filter_cons_of_neg h, if_neg h]; rfl
def ints (i : Int) : Nat -> List Int
 | 0 => []
 | m + 1 => i :: ints (i + 1) m
theorem Sr {t : ATy} {q : BSq} (hq : InQ t q) (h1 : q.left.length <= 500) : ∀ (m n : Nat) (i : Int) (l : List Int), 3 <= i -> i + m = 9 -> l.length + m <= 100 ->
  By t (toS q) (n + m + 1) (i, l) = some (l ++ (ints i m).filter fun k => q.left.any fun j => decide ((nd t j).kind = k))
 | 0, n, i, l, h3, h9, hl => by
  simp only [By];rw [dF (by omega), cF_]
  simp [ints]
 | m + 1, n, i, l, h3, h9, hl => by
  rw [show n + (m + 1) + 1 = (n + m + 1) + 1 from rfl, SI hq h1 _ i (by omega) l (by omega)]
  have hle : (if (q.left.any fun j => decide ((nd t j).kind = i)) = true then [i] else [] : List Int).length <= 1 := by split <;> simp
  rw [Sr hq h1 m n (i + 1) _ (by omega) (by omega) (by rw [List.length_append]; omega)];rw [show ints i (m + 1) = i :: ints (i + 1) m from rfl, QY, List.append_assoc]
theorem Qy {t : ATy} {q : BSq} (hq : InQ t q) (h1 : q.left.length <= 500) : By t (toS q) FU (3, []) = some (CQ t q.left) := by
 have := Sr hq h1 6 18446744073709551609 3 [] (by omega) (by omega) (by simp)
 rw [show FU = 18446744073709551609 + 6 + 1 from rfl, this, List.nil_append]
 rfl
theorem Qh {t : ATy} {l : List Int} (h : ∀ i ∈ l, In t i) (hl : l.length <= 500) {α : Type} (K : ANd -> (List Int -> Option (List Int)) -> Option α) (Z : Option α) (hK : ∀ n f g, (∀ m : List Int, m.length <= 2 -> f m = g m) -> K n f = K n g) :
  (Ey t l 9 10).bind (fun x3 => bif (decide (0 <= x3)) then (idx l x3).bind fun x4 => (idx t.l x4).bind fun x5 => K x5 (fun m => C9 l x3 m) else Z) = (match latA t l with | some (n, rest) => K n (fun m => some (cs (rest ++ m))) | none => Z) := by
 rw [QL h (by omega), oB];unfold latA
 cases hf : l.findIdx? (fun i => latB (nd t i).kind) with
 | none => rfl
 | some i =>
  obtain ⟨hi, h1, _⟩ := List.findIdx?_eq_some_iff_getElem.1 hf
  have hx : l[i]? = some l[i] := List.getElem?_eq_getElem hi
  have e : l.getD i 0 = l[i] := by rw [List.getD_eq_getElem?_getD, hx]; rfl
  simp only [Option.map_some];rw [dT (by omega), cT, getI hx, oB, getN (h _ (List.getElem_mem hi)), oB, e];exact hK _ _ _ fun m hm => RW hi (by omega) (by omega)
theorem QA {t : ATy} {q : BSq} (hO : OkT t) (hN : ∀ n ∈ t.l, NB n) (hq : InQ t q) (h1 : q.left.length <= 500) (h2 : q.right.length <= 500) : E0 t (toS q) = some ((AX t q).2.map toS, !(AX t q).1) := by
 unfold E0;rw [show (toS q).l = q.left from rfl, show (toS q).r = q.right from rfl, LZ hq.1 (by omega), oB, Lk, LZ hq.2 (by omega), oB, Lk]
 have he : (bif (q.left.any fun i => decide ((nd t i).kind = 2)) then (some true) else (some (q.right.any fun i => decide ((nd t i).kind = 1)) : Option Bool)) = some (endA t q) := by
  unfold endA
  cases q.left.any fun i => decide ((nd t i).kind = 2) <;> rfl
 rw [he, oB];unfold AX
 cases h3 : endA t q with
 | true => rw [cT, if_pos rfl]; rfl
 | false =>
  rw [cF_, if_neg (by simp)]
  have eL := Qh hq.1 h1 (fun x5 f => bif (decide (x5.kind = 10)) then (f [x5.a, x5.b]).bind fun x6 => some ([(⟨x6, q.right⟩ : RSeq)], true) else (f [x5.a]).bind fun x7 => (f [x5.b]).bind fun x8 => some ([(⟨x7, q.right⟩ : RSeq), (⟨x8, q.right⟩ : RSeq)], true))
  have eR := Qh hq.2 h2 (fun x5 f => bif (decide (x5.kind = 9)) then (f [x5.a, x5.b]).bind fun x6 => some ([(⟨q.left, x6⟩ : RSeq)], true) else (f [x5.a]).bind fun x7 => (f [x5.b]).bind fun x8 => some ([(⟨q.left, x7⟩ : RSeq), (⟨q.left, x8⟩ : RSeq)], true))
  refine (eL _ (fun n f g hfg => by rw [hfg _ (by simp), hfg _ (by simp), hfg _ (by simp)])).trans ?_;unfold openA
  cases hl : latA t q.left with
  | some x =>
   obtain ⟨n, rest⟩ := x
   simp only
   by_cases h10 : n.kind = 10
   ·rw [dT h10, cT, oB, if_pos h10]; rfl
   ·rw [dF h10, cF_, oB, oB, if_neg h10]; rfl
  | none =>
   simp only
   refine (eR _ (fun n f g hfg => by rw [hfg _ (by simp), hfg _ (by simp), hfg _ (by simp)])).trans ?_
   cases hr : latA t q.right with
   | some x =>
    obtain ⟨n, rest⟩ := x
    simp only
    by_cases h9 : n.kind = 9
    ·rw [dT h9, cT, oB, if_pos h9]; rfl
    ·rw [dF h9, cF_, oB, oB, if_neg h9]; rfl
   | none =>
    simp only
    rw [RZ hq h1 h2, oB]
    cases h5 : FX t q with
    | true => rw [if_pos rfl, if_pos rfl]; rfl
    | false =>
     rw [if_neg (by simp), if_neg (by simp)]
     show (By t (toS q) FU (3, []) : Option (List Int)).bind _ = _
     rw [Qy hq h1, oB];unfold DG
     cases hk : CQ t q.left with
     | nil => rfl
     | cons k m =>
      cases m with
      | nil =>
       obtain ⟨_, ⟨i0, hi0, hk0⟩, _⟩ := FJ hk
       have hlne : ofK t q.left k ≠ [] := fun e => by have := mem_ofK.2 ⟨hi0, hk0⟩; rw [e] at this; cases this
       have hL : ∀ i ∈ ofK t q.left k, In t i := fun i hi => hq.1 i (mem_ofK.1 hi).1
       have hR : ∀ i ∈ ofK t q.right k, In t i := fun i hi => hq.2 i (mem_ofK.1 hi).1
       have hll : (ofK t q.left k).length <= 500 := Nat.le_trans (List.length_filter_le _ _) h1
       have hrl : (ofK t q.right k).length <= 500 := Nat.le_trans (List.length_filter_le _ _) h2
       simp only [List.length_cons, List.length_nil];rw [dF (by omega), cF_, dF (by omega), cF_, show idx [k] 0 = some k from rfl, oB, oB, RA hq.1 (by omega), oB, oB, RA hq.2 (by omega), oB, Rg hO hN hL hR (by omega) (by omega) hlne, oB]
      | cons b m =>
       simp only [List.length_cons];rw [dF (by omega), cF_, dT (by omega), cT]; rfl
end Go.Proofs.YtkfnogdccpcmhaaGreatDoor
namespace Go.Proofs.YtkfnogdccpcmhaaGreatDoor
open Go.V
open Classical
theorem Sq (a b : RSeq) (h1 : a.l.length <= 3000) (h2 : a.r.length <= 3000) : GI a b = some (decide (a = b)) := by
 obtain ⟨al, ar⟩ := a;obtain ⟨bl, br⟩ := b;unfold GI
 simp only
 rw [Kq _ _ h1, oB]
 by_cases hl : al = bl
 ·rw [dT hl, cT, Kq _ _ h2, oB, oB]
  congr 1
  exact decide_eq_decide.2 ⟨fun h => by have h : ar = br := h; rw [hl, h], fun h => (RSeq.mk.inj h).2⟩
 ·rw [dF hl, cF_, oB]
  congr 1
  exact (dF fun h => hl (RSeq.mk.inj h).1).symm
def SmS (s : RSeq) : Prop := s.l.length <= 3000 /\ s.r.length <= 3000
theorem TS {x4 : List RSeq} {k : Nat} {x : RSeq} (hk : x4[k]? = some x) (l4 : List RSeq) (hs : ∀ s ∈ l4, SmS s) (hl : l4.length <= 2000000000000) : CT x4 (k : Int) l4 FU (false, 0) = some (decide (x ∈ l4)) := by
 obtain ⟨o, e1, e2⟩ := AU (φ := fun n i (b : Bool) => CT x4 (k : Int) l4 n (b, i)) (l := l4) (fun i b => (b = true -> x ∈ l4) /\ (b = false -> x ∉ l4.take i)) (fun o => o = decide (x ∈ l4))
  (by
   rintro n i y b hy hi ⟨h1, h2⟩;simp only [CT];rw [dT (show (i : Int) < (l4.length : Int) by omega)]
   cases b with
   | true =>
    right
    simp only [Bool.not_true, Bool.and_false, cF_];exact ⟨_, rfl, (dT (h1 rfl)).symm⟩
   | false =>
    left
    have hsy := hs y (List.mem_of_getElem? hy)
    rw [Bool.not_false, Bool.and_true, cT, getI hy, oB, getI hk, oB, Sq y x hsy.1 hsy.2, oB, Ab (by constructor <;> omega)];refine ⟨_, rfl, fun h => ?_, fun h hm => ?_⟩
    ·rw [<- of_decide_eq_true h]; exact List.mem_of_getElem? hy
    ·rw [takeS hy] at hm
     rcases List.mem_append.1 hm with hm | hm
     ·exact h2 Uj hm
     ·rw [List.mem_singleton] at hm
      exact of_decide_eq_false h hm.symm)
  (by
   rintro n b ⟨h1, h2⟩;simp only [CT];rw [dF (by omega), Bool.false_and, cF_];refine ⟨b, rfl, ?_⟩
   cases b with
   | true => exact (dT (h1 rfl)).symm
   | false => exact (dF (by have := h2 rfl; rwa [List.take_length] at this)).symm) (by rw [FUv]; omega) false ⟨fun h => by (cases h), fun _ => by simp⟩
 rw [e1, e2]
noncomputable def addS (l x : List RSeq) : List RSeq := x.foldl (fun acc s => if s ∈ acc then acc else acc ++ [s]) l
theorem Qx (l x : List RSeq) (s : RSeq) : addS l (x ++ [s]) = if s ∈ addS l x then addS l x else addS l x ++ [s] := by unfold addS; rw [List.foldl_append]; rfl
theorem Rw (l : List RSeq) : ∀ x : List RSeq, (addS l x).length <= l.length + x.length := by
 intro x
 induction x generalizing l with
 | nil => exact Nat.le_refl _
 | cons s x ih =>
  have := ih (if s ∈ l then l else l ++ [s])
  have e : addS l (s :: x) = addS (if s ∈ l then l else l ++ [s]) x := rfl
  rw [e, List.length_cons]
  split at this <;> rename_i h
  ·rw [if_pos h]; omega
  ·rw [if_neg h]; simp only [List.length_append, List.length_cons, List.length_nil] at this; omega
theorem LW (l : List RSeq) : ∀ x : List RSeq, (∀ s, s ∈ addS l x ↔ s ∈ l \/ s ∈ x) /\ (l.Nodup -> (addS l x).Nodup) /\ ∃ e, addS l x = l ++ e := by
 intro x
 induction x generalizing l with
 | nil => exact ⟨fun s => by simp [addS], fun h => h, [], by simp [addS]⟩
 | cons s x ih =>
  have e : addS l (s :: x) = addS (if s ∈ l then l else l ++ [s]) x := rfl
  rw [e]
  by_cases h : s ∈ l
  ·rw [if_pos h]
   obtain ⟨a, b, c⟩ := ih l;refine ⟨fun y => ?_, b, c⟩;rw [a y, List.mem_cons]
   constructor
   ·rintro (h | h); exact .inl h; exact .inr (.inr h)
   ·rintro (h2 | rfl | h2)
    ·exact .inl h2
    ·exact .inl h
    ·exact .inr h2
  ·rw [if_neg h]
   obtain ⟨a, b, e2, c⟩ := ih (l ++ [s]);refine ⟨fun y => ?_, fun hn => b ?_, [s] ++ e2, by rw [c, List.append_assoc]⟩
   ·rw [a y, List.mem_append, List.mem_singleton, List.mem_cons]
    constructor
    ·rintro ((h | h) | h)
     ·exact .inl h
     ·exact .inr (.inl h)
     ·exact .inr (.inr h)
    ·rintro (h | h | h)
     ·exact .inl (.inl h)
     ·exact .inl (.inr h)
     ·exact .inr h
   ·rw [List.nodup_append]
    exact ⟨hn, by simp, fun a ha b hb e3 => by rw [List.mem_singleton] at hb; subst hb; subst e3; exact h ha⟩
theorem S7 (x4 l4 : List RSeq) (hs : ∀ s ∈ l4, SmS s) (hx : ∀ s ∈ x4, SmS s) (hl : l4.length + x4.length <= 2000000000000) : Cd x4 FU (0, l4) = some (addS l4 x4) := by
 obtain ⟨o, e1, e2⟩ := AU (φ := fun n i q => Cd x4 n (i, q)) (l := x4) (fun i q => q = addS l4 (x4.take i)) (fun o => o = addS l4 x4)
  (by
   rintro n i x q hxi hi rfl
   left
   have hal := Rw l4 (x4.take i)
   rw [List.length_take] at hal
   have hsm : ∀ s ∈ addS l4 (x4.take i), SmS s := fun s h => ((LW l4 (x4.take i)).1 s).1 h |>.elim (hs s) (fun h => hx s (List.mem_of_mem_take h))
   simp only [Cd];rw [dT (show (i : Int) < (x4.length : Int) by omega), cT, TS hxi _ hsm (by omega), oB, takeS hxi, Qx]
   by_cases hm : x ∈ addS l4 (x4.take i)
   ·rw [dT hm, Bool.not_true, cF_, Ab (by constructor <;> omega), if_pos hm]
    exact ⟨_, rfl, rfl⟩
   ·rw [dF hm, Bool.not_false, cT, getI hxi, oB, Ab (by simp only [List.length_cons, List.length_nil]; omega), Ab (by constructor <;> omega), if_neg hm]
    exact ⟨_, rfl, rfl⟩)
  (by
   rintro n q rfl;simp only [Cd];rw [dF (by omega), cF_];exact ⟨_, rfl, by rw [List.take_length]⟩) (by rw [FUv]; omega) l4 (by simp [addS])
 rw [e1, e2]
theorem Rs {t : ATy} (hN : ∀ n ∈ t.l, NB n) {k : Int} {l r : List Int} (hL : ∀ i ∈ l, In t i) (hR : ∀ i ∈ r, In t i) : (allA t k l r).length <= 1000 := by
 unfold allA
 split
 ·exact Gm hN hR
 ·split
  ·exact Gm hN hL
  ·simp
theorem PQ {t : ATy} (hN : ∀ n ∈ t.l, NB n) {q : BSq} (hq : InQ t q) : (AX t q).2.length <= 1000 := by
 unfold AX
 split
 ·simp
 ·split
  ·rename_i l h
   unfold openA at h
   split at h
   ·cases h; split <;> simp
   ·split at h
    ·cases h; split <;> simp
    ·cases h
  ·split
   ·simp
   ·unfold DG
    split
    ·simp
    ·unfold Cb
     split
     ·simp
     ·split
      ·simp
      ·split
       ·simp
       ·rw [List.length_map]
        exact Rs hN (fun i hi => hq.1 i (mem_ofK.1 hi).1) (fun i hi => hq.2 i (mem_ofK.1 hi).1)
    ·simp
theorem LI {t : ATy} {q : BSq} {U : List BSq} (hO : OkT t) (hN : ∀ n ∈ t.l, NB n) (ht : t.l.length <= 99) (hU : UOk t q U) : ∀ (n i : Nat) (all : List RSeq), i <= all.length -> U.length - i < n -> all.Nodup -> (∀ s ∈ all, Rch t q (ofS s)) ->
  (∀ j s, j < i -> all[j]? = some s -> (AX t (ofS s)).1 = false /\ ∀ s' ∈ (AX t (ofS s)).2, toS s' ∈ all) -> toS q ∈ all ->
  ∃ o, DC t n ((i : Int), all) = some o /\ ((o = .ret false /\ ∃ s, Rch t q s /\ (AX t s).1 = true) \/ (∃ l, o = .go l /\ ∀ s, Rch t q s -> (AX t s).1 = false))
 | 0, i, all, _, h, _, _, _, _ => by omega
 | n + 1, i, all, hi, hn, hnd, hr, hp, hqa => by
  have hlen : all.length <= U.length := by
   have h1 : (all.map ofS).Nodup := by
    unfold List.Nodup;rw [List.pairwise_map];exact hnd.imp (fun {a b} h e => h (by have := congrArg toS e; exact this))
   have := Kd (all.map ofS) U h1 (fun s hs => by obtain ⟨x, hx, rfl⟩ := List.mem_map.1 hs; exact hU.rch (hr x hx))
   rwa [List.length_map] at this
  have hUl := hU.len
  have hsml : ∀ s ∈ U, s.left.length <= 99 /\ s.right.length <= 99 := fun s hs => ⟨Nat.le_trans (KO (hU.srt s hs).1 (hU.inn s hs).1) ht, Nat.le_trans (KO (hU.srt s hs).2 (hU.inn s hs).2) ht⟩
  have hsm : ∀ s ∈ all, SmS s := fun s hs => by have := hsml _ (hU.rch (hr s hs)); exact ⟨by have := this.1; show (ofS s).left.length <= 3000; omega, by have := this.2; show (ofS s).right.length <= 3000; omega⟩
  simp only [DC]
  by_cases hie : i = all.length
  ·rw [dF (by omega), cF_]
   refine ⟨_, rfl, .inr ⟨all, rfl, fun s hs => ?_⟩⟩
   have key : ∀ s, Rch t q s -> toS s ∈ all := by
    intro s hs
    induction hs with
    | refl => exact hqa
    | step h1 h2 ih =>
     obtain ⟨j, hj⟩ := List.getElem?_of_mem ih;exact (hp j _ (by have := (List.getElem?_eq_some_iff.1 hj).1; omega) hj).2 _ h2
   obtain ⟨j, hj⟩ := List.getElem?_of_mem (key s hs);exact (hp j _ (by have := (List.getElem?_eq_some_iff.1 hj).1; omega) hj).1
  ·have hil : i < all.length := by omega
   have hx : all[i]? = some all[i] := List.getElem?_eq_getElem hil
   have hxr := hr _ (List.getElem_mem hil)
   have hxU := hU.rch hxr
   have hxs := hsml _ hxU
   rw [dT (by omega), cT, getI hx, oB, show E0 t all[i] = some ((AX t (ofS all[i])).2.map toS, !(AX t (ofS all[i])).1) from QA hO hN (hU.inn _ hxU) (by omega) (by omega), oB];simp only [Bool.not_not]
   cases hf : (AX t (ofS all[i])).1 with
   | true => rw [cT]; exact ⟨_, rfl, .inl ⟨rfl, _, hxr, hf⟩⟩
   | false =>
    rw [cF_]
    have hnew : ∀ s ∈ (AX t (ofS all[i])).2, Rch t q s := fun s hs => .step hxr hs
    have hll := PQ hN (hU.inn _ hxU)
    rw [S7 _ _ hsm (fun s hs => by
     obtain ⟨y, hy, rfl⟩ := List.mem_map.1 hs
     have := hsml _ (hU.rch (hnew y hy))
     exact ⟨by show y.left.length <= 3000; omega, by show y.right.length <= 3000; omega⟩) (by rw [List.length_map]; omega), oB, Ab (by constructor <;> omega)]
    obtain ⟨a1, a2, e, a3⟩ := LW all ((AX t (ofS all[i])).2.map toS)
    have hpre : ∀ j s, j < all.length -> (addS all ((AX t (ofS all[i])).2.map toS))[j]? = some s -> all[j]? = some s := fun j s hj h => by
     rw [a3, List.getElem?_append_left hj] at h; exact h
    exact LI hO hN ht hU n (i + 1) _ (by rw [a3, List.length_append]; omega) (by omega) (a2 hnd) (fun s hs => by
     rcases (a1 s).1 hs with h | h
     ·exact hr s h
     ·obtain ⟨y, hy, rfl⟩ := List.mem_map.1 h; exact hnew y hy) (fun j s hj hjs => by
     have hjs2 := hpre j s (by omega) hjs
     by_cases hji : j = i
     ·subst hji
      rw [hx] at hjs2; cases hjs2
      exact ⟨hf, fun s' hs' => (a1 _).2 (.inr (List.mem_map.2 ⟨s', hs', rfl⟩))⟩
     ·obtain ⟨b1, b2⟩ := hp j s (by omega) hjs2
      exact ⟨b1, fun s' hs' => (a1 _).2 (.inl (b2 s' hs'))⟩) ((a1 _).2 (.inl hqa))
theorem Nd {t : ATy} {l r : List Int} {U : List BSq} (hO : OkT t) (hN : ∀ n ∈ t.l, NB n) (ht : t.l.length <= 99) (hl : l.length <= 1000) (hr : r.length <= 1000) (hU : UOk t ⟨cs l, cs r⟩ U) : Gg t l r = some (decide (Valid t ⟨cs l, cs r⟩)) := by
 unfold Gg;rw [Gv (by omega), oB, Gv (by omega), oB]
 have hUl := hU.len
 obtain ⟨o, e1, h⟩ := LI hO hN ht hU FU 0 [toS ⟨cs l, cs r⟩] (by simp) (by rw [FUv]; omega) (by simp) (fun s hs => by rw [List.mem_singleton] at hs; subst hs; exact .refl) (fun j s hj => by omega) (by simp)
 have e1 : DC t FU (0, [(⟨cs l, cs r⟩ : RSeq)]) = some o := e1
 rw [e1, oB]
 have hv := M0 hO (hU.inn _ hU.mem)
 rcases h with ⟨rfl, s, hs, hf⟩ | ⟨l', rfl, h⟩
 ·have : ¬ Valid t ⟨cs l, cs r⟩ := fun h => by have := hv.2 h s hs; rw [hf] at this; cases this
  rw [dF this]; rfl
 ·rw [dT (hv.1 h)]; rfl
theorem Ig (x : Int) : cs [x] = [x] := (Qn (l := [x]) (m := [x]) (by simp) (fun _ => Iff.rfl)).symm
end Go.Proofs.YtkfnogdccpcmhaaGreatDoor
namespace Go.Proofs.YtkfnogdccpcmhaaGreatDoor
open Go.V
open Classical
theorem Mu {a b : ATy} (ha : MayO a) (hb : MayO b) (hl : a.l.length + b.l.length <= 38) : CY a b = some (decide (Sub a b)) := by
 unfold CY
 have hr := hb.root
 rw [Mw a b (by omega) (by omega) hb.nb hb.ok.right, oB]
 simp only
 rw [Ab (by have := hr.1; have := hr.2; constructor <;> omega)];obtain ⟨U, hU⟩ := Qi ha hb hl;rw [show (⟨(AS a b).l, (AS a b).root⟩ : ATy) = AS a b from rfl, Nd (HI ha.ok hb.ok) (H8 ha.nb hb.nb) (by rw [A0]; omega) (by simp) (by simp) (by rw [Ig, Ig]; exact hU), oB, Ig, Ig]
 congr 1
 exact decide_eq_decide.2 (Ip ha hb)
theorem Si {a b : ATy} (ha : a.l.length <= 2001) (hb : b.l.length <= 2001) (hNa : ∀ n ∈ a.l, NB n) (hNb : ∀ n ∈ b.l, NB n) (hl : mayT a.l a.root = 0 -> mayT b.l b.root = 0 -> a.l.length + b.l.length <= 38) :
  DB a b = some (if mayT a.l a.root = 0 then if mayT b.l b.root = 0 then (decide (Sub a b) && decide (Sub b a), 0) else (false, mayT b.l b.root) else (false, mayT a.l a.root)) := by
 unfold DB;rw [S4 ha hb hNa hNb, oB]
 by_cases h : mayT a.l a.root = 0
 ·rw [if_pos h, if_pos h]
  by_cases h2 : mayT b.l b.root = 0
  ·have hl := hl h h2
   rw [dT h2, Bool.not_true, cF_, OZ ⟨h, hNa⟩ ⟨h2, hNb⟩ hl, oB, OZ ⟨h2, hNb⟩ ⟨h, hNa⟩ (by omega), if_pos h2]
   cases decide (Sub a b) <;> rfl
  ·rw [dF h2, Bool.not_false, cT, if_neg h2]
 ·rw [if_neg h, if_neg h, dF h, Bool.not_false, cT]
end Go.Proofs.YtkfnogdccpcmhaaGreatDoor
