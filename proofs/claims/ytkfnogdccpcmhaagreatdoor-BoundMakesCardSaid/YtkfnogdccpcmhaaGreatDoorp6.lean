/- Part 6 of the proof: a program logic, what the functions compute, and what these answer; no condition. -/
import Derived.Test.YtkfnogdccpcmhaaGreatDoorp5
import Derived.Test.YtkfnogdccpcmhaaGreatDoorProg
set_option linter.unusedVariables false
set_option linter.unusedSimpArgs false
set_option maxRecDepth 100000
set_option maxHeartbeats 2000000
namespace Go.Proofs.YtkfnogdccpcmhaaGreatDoor
open Go.V Tryz
theorem I5 {l : List ANd} (hl : l.length * 48 <= 140737488355328) :
  Go.V.Fn Tryz.prog 74 [.list 4 ANd.d l] [] (fun d ms' => ∃ a cap, d = .v (.slice a l.length cap) /\ ms' = [arr a l.length cap 44 4 ANd.d l]) := by
 refine Ae func74 Uj ntmps74 Uj fun H0 fr w0 => ?_;refine zq8 ?_;refine An Uj Uj Uj (Gy underlying22 Uj Uj) ?_;rintro _ _ ⟨b, rfl, rfl, hb⟩;refine gNl ?_;refine gCd Uj (fun hc1 => ?_) (fun hc1 => ?_)
 ·
  skip
  obtain rfl := hb hc1;refine BL (Db (T := 44) (sz := 4) (f := ANd.d)) ?_;refine zq4 ?_;refine Af ?_;exact retK (AE Uj (Bo Uj) (Dz _)) (⟨none, 0, rfl, rfl⟩)
 ·
  skip
  refine zq3 ?_;refine An Uj Uj Uj (Ax (xs := []) (f := ANd.d) (l := []) runUnderlying22 sizeOf44 zeroValue44 Uj Uj Uj (fun _ => ⟨rfl, rfl, rfl⟩) rfl (by simp [maxLen])) ?_;rintro _ _ ⟨a1, rfl, rfl⟩;refine zq1 ?_;refine An Uj Uj Uj (Hi (a := _) 0 underlying22 type44 Uj Uj Uj Uj Uj Uj Uj Uj hl (AA hl Uj)) ?_;rintro _ _ ⟨a2, cap2, rfl, rfl⟩;refine zq2 ?_;refine Af ?_;exact retK (AE Uj (Bo Uj) (Dz _)) (⟨_, _, rfl, rfl⟩)
theorem K9 {l : List AFd} (hl : l.length * 24 <= 140737488355328) :
  Go.V.Fn Tryz.prog 77 [.list 2 AFd.d l] [] (fun d ms' => ∃ a cap, d = .v (.slice a l.length cap) /\ ms' = [arr a l.length cap 98 2 AFd.d l]) := by
 refine Ae func77 Uj ntmps77 Uj fun H0 fr w0 => ?_;refine zq8 ?_;refine An Uj Uj Uj (Gy underlying42 Uj Uj) ?_;rintro _ _ ⟨b, rfl, rfl, hb⟩;refine gNl ?_;refine gCd Uj (fun hc1 => ?_) (fun hc1 => ?_)
 ·
  skip
  obtain rfl := hb hc1;refine BL (Db (T := 98) (sz := 2) (f := AFd.d)) ?_;refine zq4 ?_;refine Af ?_;exact retK (AE Uj (Bo Uj) (Dz _)) (⟨none, 0, rfl, rfl⟩)
 ·
  skip
  refine zq3 ?_;refine An Uj Uj Uj (Ax (xs := []) (f := AFd.d) (l := []) runUnderlying42 sizeOf98 zeroValue98 Uj Uj Uj (fun _ => ⟨rfl, rfl, rfl⟩) rfl (by simp [maxLen])) ?_;rintro _ _ ⟨a1, rfl, rfl⟩;refine zq1 ?_;refine An Uj Uj Uj (Hi (a := _) 0 underlying42 type98 Uj Uj Uj Uj Uj Uj Uj Uj hl (AA hl Uj)) ?_;rintro _ _ ⟨a2, cap2, rfl, rfl⟩;refine zq2 ?_;refine Af ?_;exact retK (AE Uj (Bo Uj) (Dz _)) (⟨_, _, rfl, rfl⟩)
theorem QT {n : Int} (h0 : 0 <= n) (hb : n.toNat * 8 <= 140737488355328) :
  Go.V.Fn Tryz.prog 94 [.v (.slice none 0 0), .i64 n] [] (fun d ms' => ∃ a cap, d = .v (.slice a 0 cap) /\ ms' = [row a cap 3 1 D.i64 []]) := by
 refine Ae func94 Uj ntmps94 Uj fun H0 fr w0 => ?_;refine zq10 ?_;refine gCd Uj (fun hc1 => ?_) (fun hc1 => ?_)
 ·
  try simp only [decide_eq_true_eq, decide_eq_false_iff_not, Bool.not_eq_true', Bool.not_eq_false', Bool.and_eq_true, Bool.or_eq_true, Bool.and_eq_false_iff, Bool.or_eq_false_iff, Int.not_lt, Int.not_le, ne_eq, Decidable.not_not] at hc1
  omega
 ·
  try simp only [decide_eq_true_eq, decide_eq_false_iff_not, Bool.not_eq_true', Bool.not_eq_false', Bool.and_eq_true, Bool.or_eq_true, Bool.and_eq_false_iff, Bool.or_eq_false_iff, Int.not_lt, Int.not_le, ne_eq, Decidable.not_not] at hc1
  refine zq6 ?_;refine Ah Uj Uj Uj (Is runUnderlying25 Uj) ?_;refine zq1 ?_;refine Ah Uj Uj Uj (IA runUnderlying25 Uj) ?_;refine Ah Uj Uj Uj (LJ Uj Uj (GB (by omega))) ?_;refine Ah Uj Uj Uj (LJ Uj Uj (GB (by omega))) ?_;refine zq7 ?_;refine gCd Uj (fun hc2 => ?_) (fun hc2 => ?_)
  ·
   try simp only [decide_eq_true_eq, decide_eq_false_iff_not, Bool.not_eq_true', Bool.not_eq_false', Bool.and_eq_true, Bool.or_eq_true, Bool.and_eq_false_iff, Bool.or_eq_false_iff, Int.not_lt, Int.not_le, ne_eq, Decidable.not_not] at hc2
   have hn2 : n.toNat <= 140737488355328 := Nat.le_trans (Nat.le_mul_of_pos_right _ (by decide)) hb
   refine zq3 ?_;refine Ah Uj Uj Uj (Is runUnderlying25 Uj) ?_;refine Ah Uj Uj Uj (Gu runUnderlying25 sizeOf3 Uj Uj (Nat.le_refl _) (Nat.le_refl _)) ?_;refine zq1 ?_;refine An Uj Uj Uj (GM (f := D.i64) underlying25 underlying3 type3 Uj Uj Uj Uj Uj Uj (by omega) (by simpa [Tryz.t3] using hb) rfl) ?_;rintro _ _ ⟨a, cap, hcap, rfl, rfl⟩;refine zq1 ?_;refine Ah Uj Uj Uj (IA runUnderlying25 Uj) ?_;refine Ah Uj Uj Uj (Gu runUnderlying25 sizeOf3 Uj Uj (Nat.zero_le _) (hcap)) ?_;refine zq7 ?_;refine Af ?_;exact retK (AE Uj (Bo Uj) (Dz _)) (⟨_, _, rfl, rfl⟩)
  ·
   try simp only [decide_eq_true_eq, decide_eq_false_iff_not, Bool.not_eq_true', Bool.not_eq_false', Bool.and_eq_true, Bool.or_eq_true, Bool.and_eq_false_iff, Bool.or_eq_false_iff, Int.not_lt, Int.not_le, ne_eq, Decidable.not_not] at hc2
   refine BL (AF (T := 3) (sz := 1) (f := D.i64)) ?_;refine zq6 ?_;refine Af ?_;exact retK (AE Uj (Bo Uj) (Dz _)) (⟨none, 0, rfl, rfl⟩)
theorem Hr {l : List Int} (hl : l.length * 8 <= 140737488355328) :
  Go.V.Fn Tryz.prog 97 [.list 1 D.i64 l] [] (fun d ms' => ∃ a cap, d = .v (.slice a l.length cap) /\ ms' = [arr a l.length cap 3 1 D.i64 l]) := by
 refine Ae func97 Uj ntmps97 Uj fun H0 fr w0 => ?_;refine zq8 ?_;refine An Uj Uj Uj (Gy underlying25 Uj Uj) ?_;rintro _ _ ⟨b, rfl, rfl, hb⟩;refine gNl ?_;refine gCd Uj (fun hc1 => ?_) (fun hc1 => ?_)
 ·
  skip
  obtain rfl := hb hc1;refine BL (Db (T := 3) (sz := 1) (f := D.i64)) ?_;refine zq4 ?_;refine Af ?_;exact retK (AE Uj (Bo Uj) (Dz _)) (⟨none, 0, rfl, rfl⟩)
 ·
  skip
  refine zq3 ?_;refine An Uj Uj Uj (Ax (xs := []) (f := D.i64) (l := []) runUnderlying25 sizeOf3 zeroValue3 Uj Uj Uj (fun _ => ⟨rfl, rfl, rfl⟩) rfl (by simp [maxLen])) ?_;rintro _ _ ⟨a1, rfl, rfl⟩;refine zq1 ?_;refine An Uj Uj Uj (Hi (a := _) 0 underlying25 type3 Uj Uj Uj Uj Uj Uj Uj Uj hl (AA hl Uj)) ?_;rintro _ _ ⟨a2, cap2, rfl, rfl⟩;refine zq2 ?_;refine Af ?_;exact retK (AE Uj (Bo Uj) (Dz _)) (⟨_, _, rfl, rfl⟩)
theorem PA {n : Int} (h0 : 0 <= n) (hb : n.toNat * 32 <= 140737488355328) :
  Go.V.Fn Tryz.prog 108 [.v (.slice none 0 0), .i64 n] [] (fun d ms' => ∃ a cap, d = .v (.slice a 0 cap) /\ ms' = [row a cap 24 2 ATy.d []]) := by
 refine Ae func108 Uj ntmps108 Uj fun H0 fr w0 => ?_;refine zq10 ?_;refine gCd Uj (fun hc1 => ?_) (fun hc1 => ?_)
 ·
  try simp only [decide_eq_true_eq, decide_eq_false_iff_not, Bool.not_eq_true', Bool.not_eq_false', Bool.and_eq_true, Bool.or_eq_true, Bool.and_eq_false_iff, Bool.or_eq_false_iff, Int.not_lt, Int.not_le, ne_eq, Decidable.not_not] at hc1
  omega
 ·
  try simp only [decide_eq_true_eq, decide_eq_false_iff_not, Bool.not_eq_true', Bool.not_eq_false', Bool.and_eq_true, Bool.or_eq_true, Bool.and_eq_false_iff, Bool.or_eq_false_iff, Int.not_lt, Int.not_le, ne_eq, Decidable.not_not] at hc1
  refine zq6 ?_;refine Ah Uj Uj Uj (Is runUnderlying53 Uj) ?_;refine zq1 ?_;refine Ah Uj Uj Uj (IA runUnderlying53 Uj) ?_;refine Ah Uj Uj Uj (LJ Uj Uj (GB (by omega))) ?_;refine Ah Uj Uj Uj (LJ Uj Uj (GB (by omega))) ?_;refine zq7 ?_;refine gCd Uj (fun hc2 => ?_) (fun hc2 => ?_)
  ·
   try simp only [decide_eq_true_eq, decide_eq_false_iff_not, Bool.not_eq_true', Bool.not_eq_false', Bool.and_eq_true, Bool.or_eq_true, Bool.and_eq_false_iff, Bool.or_eq_false_iff, Int.not_lt, Int.not_le, ne_eq, Decidable.not_not] at hc2
   have hn2 : n.toNat <= 140737488355328 := Nat.le_trans (Nat.le_mul_of_pos_right _ (by decide)) hb
   refine zq3 ?_;refine Ah Uj Uj Uj (Is runUnderlying53 Uj) ?_;refine Ah Uj Uj Uj (Gu runUnderlying53 sizeOf24 Uj Uj (Nat.le_refl _) (Nat.le_refl _)) ?_;refine zq1 ?_;refine An Uj Uj Uj (GM (f := ATy.d) underlying53 underlying3 type24 Uj Uj Uj Uj Uj Uj (by omega) (by simpa [Tryz.t24] using hb) rfl) ?_;rintro _ _ ⟨a, cap, hcap, rfl, rfl⟩;refine zq1 ?_;refine Ah Uj Uj Uj (IA runUnderlying53 Uj) ?_;refine Ah Uj Uj Uj (Gu runUnderlying53 sizeOf24 Uj Uj (Nat.zero_le _) (hcap)) ?_;refine zq7 ?_;refine Af ?_;exact retK (AE Uj (Bo Uj) (Dz _)) (⟨_, _, rfl, rfl⟩)
  ·
   try simp only [decide_eq_true_eq, decide_eq_false_iff_not, Bool.not_eq_true', Bool.not_eq_false', Bool.and_eq_true, Bool.or_eq_true, Bool.and_eq_false_iff, Bool.or_eq_false_iff, Int.not_lt, Int.not_le, ne_eq, Decidable.not_not] at hc2
   refine BL (AF (T := 24) (sz := 2) (f := ATy.d)) ?_;refine zq6 ?_;refine Af ?_;exact retK (AE Uj (Bo Uj) (Dz _)) (⟨none, 0, rfl, rfl⟩)
def G1 (s1 : (List ANd)) (f1 : (ANd -> Option Bool)) : Nat -> Int -> Option (Out Int Unit)
 | 0, _ => none
 | n + 1, x1 =>
  bif (decide (x1 < (s1.length : Int))) then
   (idx s1 x1).bind fun x2 =>
   (f1 x2).bind fun x3 =>
   bif x3 then
    some (Out.ret x1)
   else
    grd (InR (x1 + 1)) <|
    G1 s1 f1 n (x1 + 1)
  else
   some (Out.go (()))
def PX (s1 : (List ANd)) (f1 : (ANd -> Option Bool)) : Option Int :=
 ((G1 s1 f1 FU 0 : Option (Out Int Unit))).bind (fun oo => oo.on (fun r1 => some r1) (fun _ =>
 some (-1)))
theorem Ui {s1 : (List ANd)} {f1 : (ANd -> Option Bool)} {r_1 : Int} {fv_f1 : D} (hff1 : PG Tryz.prog fv_f1 ANd.d D.bool f1) (hm : PX s1 f1 = some r_1) : Fn0 Tryz.prog 121 [.list 4 ANd.d s1, fv_f1] (.i64 r_1) := by
 unfold PX at hm;refine Ae func121 Uj ntmps121 Uj fun H0 fr w0 => ?_;refine zq11 ?_;obtain ⟨o_1, hj1, hm1⟩ := bS hm;refine Ak [] [] (fun (st : Unit) (hid : Unit) => match st, hid with | _, _ => []) (fun F (st : Unit) (hid : Unit) => match st, hid with | _, _ => []) (fun st => Out.go (st) = o_1) trivial trivial ?_ ?_
 ·refine Aj ?_
  refine Ai [(0, _), (1, _), (7, _)] [] (fun (st : Int) (hid : Unit) => match st, hid with | x1, _ => [(8, .i64 x1)]) (fun F (st : Int) (hid : Unit) => match st, hid with | x1, _ => []) () hj1 (fun _ => rfl) ⟨rfl, rfl, rfl, trivial⟩ trivial ⟨rfl, trivial⟩ rfl ?_;rintro n x1 _ hj1;rw [G1] at hj1;refine Av (L' := [(8, .i64 x1), (0, _), (1, _), (7, _)]) (ms' := []) rfl Uj ?_;refine zq5 ?_;refine zcn hj1 (fun hc1 hj1 => ?_) (fun hc1 hj1 => ?_)
  ·refine zq13 ?_
   obtain ⟨x2, hx1, hj1⟩ := bS hj1;refine zq2 ?_;obtain ⟨x3, hx2, hj1⟩ := bS hj1;refine Ah Uj Uj Uj (GP Uj Uj (hff1 _ _ hx2)) ?_;refine gNl ?_;refine zcn hj1 (fun hc2 hj1 => ?_) (fun hc2 hj1 => ?_)
   ·refine zq5 ?_
    refine Af ?_;obtain rfl := Ad hj1
    replace hm1 := BT hm1
    cases hm1; exact zr1
   ·refine zq2 ?_
    obtain ⟨hg3, hj1⟩ := Aa hj1;refine zq3 ?_;exact ⟨_, (), hj1, ⟨rfl, trivial⟩, ⟨rfl, rfl, rfl, trivial⟩, [], rfl⟩
  ·refine Ap ?_
   exact ⟨_, (), Ad hj1, trivial, trivial, [], rfl⟩
 ·rintro _ _ hst
  subst hst
  replace hm1 := Dq hm1
  refine Aq (L' := []) (ms' := []) rfl Uj ?_;refine zq4 ?_
  cases hm1; exact Af zr1
def Ox (s1 : (List ANd)) (f1 : (ANd -> Option Bool)) : Option Bool :=
 (PX s1 f1).bind fun x1 =>
 some (decide (0 <= x1))
theorem Uc {s1 : (List ANd)} {f1 : (ANd -> Option Bool)} {r_1 : Bool} {fv_f1 : D} (hff1 : PG Tryz.prog fv_f1 ANd.d D.bool f1) (hm : Ox s1 f1 = some r_1) : Fn0 Tryz.prog 89 [.list 4 ANd.d s1, fv_f1] (.bool r_1) := by
 unfold Ox at hm;refine Ae func89 Uj ntmps89 Uj fun H0 fr w0 => ?_;refine zq8 ?_;obtain ⟨x1, hx1, hm⟩ := bS hm;refine zc0 (Ui hff1 hx1) ?_;refine zq3 ?_
 cases hm; exact Af zr1
def EL (s1 : (List Int)) (f1 : (Int -> Option Bool)) : Nat -> Int -> Option (Out Int Unit)
 | 0, _ => none
 | n + 1, x1 =>
  bif (decide (x1 < (s1.length : Int))) then
   (idx s1 x1).bind fun x2 =>
   (f1 x2).bind fun x3 =>
   bif x3 then
    some (Out.ret x1)
   else
    grd (InR (x1 + 1)) <|
    EL s1 f1 n (x1 + 1)
  else
   some (Out.go (()))
def K7 (s1 : (List Int)) (f1 : (Int -> Option Bool)) : Option Int :=
 ((EL s1 f1 FU 0 : Option (Out Int Unit))).bind (fun oo => oo.on (fun r1 => some r1) (fun _ =>
 some (-1)))
theorem Ty {s1 : (List Int)} {f1 : (Int -> Option Bool)} {r_1 : Int} {tl_0 : List Asrt} {fv_f1 : D} (hff1 : NT Tryz.prog fv_f1 D.i64 D.bool tl_0 f1) (hm : K7 s1 f1 = some r_1) : FnT Tryz.prog 93 [.list 1 D.i64 s1, fv_f1] tl_0 (.i64 r_1) := by
 unfold K7 at hm;refine Ae func93 Uj ntmps93 Uj fun H0 fr w0 => ?_;refine zq11 ?_;obtain ⟨o_1, hj1, hm1⟩ := bS hm;refine Ak [] [] (fun (st : Unit) (hid : Unit) => match st, hid with | _, _ => []) (fun F (st : Unit) (hid : Unit) => match st, hid with | _, _ => [] ++ tl_0) (fun st => Out.go (st) = o_1) trivial trivial ?_ ?_
 ·refine Aj ?_
  refine Ai [(0, _), (1, _), (7, _)] [] (fun (st : Int) (hid : Unit) => match st, hid with | x1, _ => [(8, .i64 x1)]) (fun F (st : Int) (hid : Unit) => match st, hid with | x1, _ => [] ++ tl_0) () hj1 (fun _ => rfl) ⟨rfl, rfl, rfl, trivial⟩ trivial ⟨rfl, trivial⟩ rfl ?_;rintro n x1 _ hj1;rw [EL] at hj1;refine Av (L' := [(8, .i64 x1), (0, _), (1, _), (7, _)]) (ms' := [] ++ tl_0) rfl Uj ?_;refine zq5 ?_;refine zcn hj1 (fun hc1 hj1 => ?_) (fun hc1 hj1 => ?_)
  ·refine zq13 ?_
   obtain ⟨x2, hx1, hj1⟩ := bS hj1;refine zq2 ?_;obtain ⟨x3, hx2, hj1⟩ := bS hj1;refine Ah Uj Uj Uj (IE (tl := tl_0) [] rfl Uj Uj (hff1 _ _ hx2)) ?_;refine gNl ?_;refine zcn hj1 (fun hc2 hj1 => ?_) (fun hc2 hj1 => ?_)
   ·refine zq5 ?_
    refine Af ?_;obtain rfl := Ad hj1
    replace hm1 := BT hm1
    exact retK (AE (ms' := tl_0) (drop := []) rfl (Bo Uj) (List.Perm.refl _)) ⟨congrArg (fun (p : Int) => (.i64 p : D)) (Ad hm1), rfl⟩
   ·refine zq2 ?_
    obtain ⟨hg3, hj1⟩ := Aa hj1;refine zq3 ?_;exact ⟨_, (), hj1, ⟨rfl, trivial⟩, ⟨rfl, rfl, rfl, trivial⟩, [], rfl⟩
  ·refine Ap ?_
   exact ⟨_, (), Ad hj1, trivial, trivial, [], rfl⟩
 ·rintro _ _ hst
  subst hst
  replace hm1 := Dq hm1
  refine Aq (L' := []) (ms' := [] ++ tl_0) rfl Uj ?_;refine zq4 ?_;refine Af ?_;exact retK (AE (ms' := tl_0) (drop := []) rfl (Bo Uj) (List.Perm.refl _)) ⟨congrArg (fun (p : Int) => (.i64 p : D)) (Ad hm1), rfl⟩
def Jl (s1 : (List Int)) (f1 : (Int -> Option Bool)) : Option Bool :=
 (K7 s1 f1).bind fun x1 =>
 some (decide (0 <= x1))
theorem R9 {s1 : (List Int)} {f1 : (Int -> Option Bool)} {r_1 : Bool} {tl_0 : List Asrt} {fv_f1 : D} (hff1 : NT Tryz.prog fv_f1 D.i64 D.bool tl_0 f1) (hm : Jl s1 f1 = some r_1) : FnT Tryz.prog 54 [.list 1 D.i64 s1, fv_f1] tl_0 (.bool r_1) := by
 unfold Jl at hm;refine Ae func54 Uj ntmps54 Uj fun H0 fr w0 => ?_;refine zq8 ?_;obtain ⟨x1, hx1, hm⟩ := bS hm;refine Ah Uj Uj Uj (Rb (tl := tl_0) [] rfl call93 Uj (Ty hff1 hx1)) ?_;refine zq3 ?_;refine Af ?_;exact retK (AE (ms' := tl_0) (drop := []) rfl (Bo Uj) (List.Perm.refl _)) ⟨congrArg (fun (p : Bool) => (.bool p : D)) (Ad hm), rfl⟩
def CB (kind1 : Int) : Option Bool :=
 some (((decide (kind1 = 6)) || (decide (kind1 = 9))) || (decide (kind1 = 10)))
theorem G7 {kind1 : Int} {r_1 : Bool} (hm : CB kind1 = some r_1) : Fn0 Tryz.prog 122 [.i64 kind1] (.bool r_1) := by
 unfold CB at hm;refine Ae func122 Uj ntmps122 Uj fun H0 fr w0 => ?_;refine zq9 ?_
 apply BC [(0, _)] 3 8 (t := 5) ⟨rfl, trivial⟩ rfl
 ·intro hg_1 hk1
  refine zq3 ?_;exact zgm hk1
 ·intro hg_1 hk1
  refine zq3 ?_;exact zgm hk1
 refine zq1 ?_
 apply BC [] 3 12 (t := 9) trivial rfl
 ·intro hg_2 hk2
  refine zq3 ?_;exact zgm hk2
 ·intro hg_2 hk2
  refine zq3 ?_;exact zgm hk2
 refine zq2 ?_
 cases hm; exact Af zr1
def D3 (kind1 : Int) : Option Bool :=
 some ((decide (kind1 = 7)) || (decide (kind1 = 8)))
theorem Jy {kind1 : Int} {r_1 : Bool} (hm : D3 kind1 = some r_1) : Fn0 Tryz.prog 123 [.i64 kind1] (.bool r_1) := by
 unfold D3 at hm;refine Ae func123 Uj ntmps123 Uj fun H0 fr w0 => ?_;refine zq9 ?_
 apply BC [] 3 8 (t := 5) trivial rfl
 ·intro hg_1 hk1
  refine zq3 ?_;exact zgm hk1
 ·intro hg_1 hk1
  refine zq3 ?_;exact zgm hk1
 refine zq2 ?_
 cases hm; exact Af zr1
def Cx (c1 : UInt8) : Option Bool :=
 some (((decide (97 <= (c1.toNat : Int))) && (decide ((c1.toNat : Int) <= 122))) || (decide ((c1.toNat : Int) = 95)))
theorem Hm {c1 : UInt8} {r_1 : Bool} (hm : Cx c1 = some r_1) : Fn0 Tryz.prog 116 [.u8 c1] (.bool r_1) := by
 unfold Cx at hm;refine Ae func116 Uj ntmps116 Uj fun H0 fr w0 => ?_;refine zq9 ?_
 apply Bw [(0, _)] 3 8 (t := 5) ⟨rfl, trivial⟩ rfl
 ·intro hg_1 hk1
  refine zq3 ?_;exact zgm hk1
 ·intro hg_1 hk1
  refine zq3 ?_;exact zgm hk1
 refine zq1 ?_
 apply BC [] 3 12 (t := 9) trivial rfl
 ·intro hg_2 hk2
  refine zq3 ?_;exact zgm hk2
 ·intro hg_2 hk2
  refine zq3 ?_;exact zgm hk2
 refine zq2 ?_
 cases hm; exact Af zr1
def Dk (c1 : UInt8) : Option Bool :=
 some ((decide (65 <= (c1.toNat : Int))) && (decide ((c1.toNat : Int) <= 90)))
theorem Hk {c1 : UInt8} {r_1 : Bool} (hm : Dk c1 = some r_1) : Fn0 Tryz.prog 171 [.u8 c1] (.bool r_1) := by
 unfold Dk at hm;refine Ae func171 Uj ntmps171 Uj fun H0 fr w0 => ?_;refine zq9 ?_
 apply Bw [] 3 8 (t := 5) trivial rfl
 ·intro hg_1 hk1
  refine zq3 ?_;exact zgm hk1
 ·intro hg_1 hk1
  refine zq3 ?_;exact zgm hk1
 refine zq2 ?_
 cases hm; exact Af zr1
def Gr (c1 : UInt8) : Option Bool :=
 (Cx c1).bind fun x1 =>
 (bif x1 then (some true) else ((Dk c1).bind fun x2 =>
 some x2)).bind fun p1 =>
 some (p1 || ((decide (48 <= (c1.toNat : Int))) && (decide ((c1.toNat : Int) <= 57))))
theorem N8 {c1 : UInt8} {r_1 : Bool} (hm : Gr c1 = some r_1) : Fn0 Tryz.prog 172 [.u8 c1] (.bool r_1) := by
 unfold Gr at hm;refine Ae func172 Uj ntmps172 Uj fun H0 fr w0 => ?_;refine zq7 ?_;obtain ⟨x1, hx1, hm⟩ := bS hm;refine zc0 (Hm hx1) ?_;refine zq1 ?_;obtain ⟨p1, hp_1, hm⟩ := bS hm;refine AP [(0, _)] 3 8 p1 (t := 5) ⟨rfl, trivial⟩ rfl (fun hg_1 hk1 => ?_) (fun hg_1 hk1 => ?_) ?_
 ·replace hp_1 := AR hg_1 hp_1
  refine zq3 ?_;exact zgb hk1 hp_1
 ·replace hp_1 := AQ hg_1 hp_1
  refine zq1 ?_;obtain ⟨x2, hx2, hp_1⟩ := bS hp_1;refine zcw (Hk hx2) ?_;refine zq1 ?_;exact zgb hk1 hp_1
 refine zq1 ?_
 apply BC [] 7 16 (t := 9) trivial rfl
 ·intro hg_2 hk2
  refine zq3 ?_
  apply Bw [(9, _)] 3 15 (t := 12) ⟨rfl, trivial⟩ rfl
  ·intro hg_3 hk3
   refine zq3 ?_;exact zgm hk3
  ·intro hg_3 hk3
   refine zq3 ?_;exact zgm hk3
  refine zq1 ?_;exact zgm hk2
 ·intro hg_2 hk2
  refine zq7 ?_;exact zgm hk2
 refine zq2 ?_
 cases hm; exact Af zr1
def C4 (s1 : (List UInt8)) : Nat -> Int -> Option Int
 | 0, _ => none
 | n + 1, n2 =>
  (bif (decide (n2 < (s1.length : Int))) then ((idx s1 n2).bind fun c3 =>
  (Gr c3).bind fun x3 =>
  some x3) else (some false)).bind fun p3 =>
  bif p3 then
   grd (InR (n2 + 1)) <|
   C4 s1 n (n2 + 1)
  else
   some n2
def Fo (s1 : (List UInt8)) : Option Int :=
 (bif (decide ((s1 : List UInt8) = ([] : List UInt8))) then (some true) else ((idx s1 0).bind fun c1 =>
 (Cx c1).bind fun x1 =>
 (bif (!x1) then ((idx s1 0).bind fun c2 =>
 (Dk c2).bind fun x2 =>
 some (!x2)) else (some false)).bind fun p2 =>
 some p2)).bind fun p1 =>
 bif p1 then
  some 0
 else
  (C4 s1 FU 1 : Option Int).bind fun n1 =>
  some n1
theorem Oh {s1 : (List UInt8)} {r_1 : Int} (hm : Fo s1 = some r_1) : Fn0 Tryz.prog 142 [.str s1] (.i64 r_1) := by
 unfold Fo at hm;refine Ae func142 Uj ntmps142 Uj fun H0 fr w0 => ?_;refine zq10 ?_;obtain ⟨p1, hp_1, hm⟩ := bS hm;refine AP [(0, _)] 11 17 p1 (t := 6) ⟨rfl, trivial⟩ rfl (fun hg_1 hk1 => ?_) (fun hg_1 hk1 => ?_) ?_
 ·replace hp_1 := AR hg_1 hp_1
  refine zq11 ?_;exact zgb hk1 hp_1
 ·replace hp_1 := AQ hg_1 hp_1
  refine zq1 ?_;obtain ⟨c1, hx1, hp_1⟩ := bS hp_1;refine gWp Uj Uj Uj hg_1 Uj Uj (Ch runUnderlying9 Uj Uj hx1) ?_;obtain ⟨x1, hx2, hp_1⟩ := bS hp_1;refine zcw (Hm hx2) ?_;refine zq2 ?_;obtain ⟨p2, hp_2, hp_1⟩ := bS hp_1;refine AP [(0, _), (6, _)] 5 16 p2 (t := 11) ⟨rfl, rfl, trivial⟩ rfl (fun hg_2 hk2 => ?_) (fun hg_2 hk2 => ?_) ?_
  ·replace hp_2 := AR hg_2 hp_2
   refine zq1 ?_;obtain ⟨c2, hx3, hp_2⟩ := bS hp_2;refine gWp Uj Uj Uj hg_2 Uj Uj (Ch runUnderlying9 Uj Uj hx3) ?_;obtain ⟨x2, hx4, hp_2⟩ := bS hp_2;refine zcw (Hk hx4) ?_;refine zq2 ?_;exact zgb hk2 hp_2
  ·replace hp_2 := AQ hg_2 hp_2
   refine zq5 ?_;exact zgb hk2 hp_2
  refine zq1 ?_;exact zgb hk1 hp_1
 refine gNl ?_;refine zcn hm (fun hc1 hm => ?_) (fun hc1 hm => ?_)
 ·refine zq4 ?_
  cases hm; exact Af zr1
 ·refine zq6 ?_
  obtain ⟨o_1, hj1, hm1⟩ := bS hm;refine Ak [] [] (fun (st : Int) (hid : Unit) => match st, hid with | n1, _ => [(3, .i64 n1)]) (fun F (st : Int) (hid : Unit) => match st, hid with | n1, _ => []) (fun st => st = o_1) trivial trivial ?_ ?_
  ·refine Aj ?_
   refine Ai [(0, _)] [] (fun (st : Int) (hid : Unit) => match st, hid with | n2, _ => [(3, .i64 n2)]) (fun F (st : Int) (hid : Unit) => match st, hid with | n2, _ => []) () hj1 (fun _ => rfl) ⟨rfl, trivial⟩ trivial ⟨rfl, trivial⟩ rfl ?_;rintro n n2 _ hj1;rw [C4] at hj1;refine Av (L' := [(3, .i64 n2), (0, _)]) (ms' := []) rfl Uj ?_;refine zq5 ?_;refine Ah Uj Uj Uj (C5 runUnderlying9 Uj) ?_;refine zq2 ?_;obtain ⟨p3, hp_3, hj1⟩ := bS hj1;refine AP [(0, _), (3, _)] 5 27 p3 (t := 22) ⟨rfl, rfl, trivial⟩ rfl (fun hg_3 hk3 => ?_) (fun hg_3 hk3 => ?_) ?_
   ·replace hp_3 := AR hg_3 hp_3
    refine zq2 ?_;obtain ⟨c3, hx5, hp_3⟩ := bS hp_3;refine gWp Uj Uj Uj hg_3 Uj Uj (Ch runUnderlying9 Uj Uj hx5) ?_;obtain ⟨x3, hx6, hp_3⟩ := bS hp_3;refine zcw (N8 hx6) ?_;refine zq1 ?_;exact zgb hk3 hp_3
   ·replace hp_3 := AQ hg_3 hp_3
    refine zq5 ?_;exact zgb hk3 hp_3
   refine gNl ?_;refine zcn hj1 (fun hc2 hj1 => ?_) (fun hc2 hj1 => ?_)
   ·refine zq4 ?_
    obtain ⟨hg7, hj1⟩ := Aa hj1;refine zq3 ?_;exact ⟨_, (), hj1, ⟨rfl, trivial⟩, ⟨rfl, trivial⟩, [], rfl⟩
   ·refine Ap ?_
    exact ⟨_, (), Ad hj1, ⟨rfl, trivial⟩, trivial, [], rfl⟩
  ·rintro n1 _ hst
   subst hst;refine Aq (L' := [(3, .i64 n1)]) (ms' := []) rfl Uj ?_;refine zq5 ?_
   cases hm1; exact Af zr1
def Ea (s1 : (List UInt8)) : Option Bool :=
 (bif ((!decide ((s1 : List UInt8) = ([] : List UInt8))) && (decide ((s1.length : Int) <= 20))) then ((Fo s1).bind fun x1 =>
 some (decide (x1 = (s1.length : Int)))) else (some false)).bind fun p1 =>
 some p1
theorem Jp {s1 : (List UInt8)} {r_1 : Bool} (hm : Ea s1 = some r_1) : Fn0 Tryz.prog 115 [.str s1] (.bool r_1) := by
 unfold Ea at hm;refine Ae func115 Uj ntmps115 Uj fun H0 fr w0 => ?_;refine zq9 ?_
 apply Bw [(0, _)] 4 9 (t := 5) ⟨rfl, trivial⟩ rfl
 ·intro hg_1 hk1
  refine zq1 ?_;refine gWp Uj Uj Uj hg_1 Uj Uj (C5 runUnderlying9 Uj) ?_;refine zq2 ?_;exact zgm hk1
 ·intro hg_1 hk1
  refine zq4 ?_;exact zgm hk1
 refine zq1 ?_;obtain ⟨p1, hp_2, hm⟩ := bS hm;refine AP [] 6 16 p1 (t := 10) trivial Uj (fun hg_2 hk2 => ?_) (fun hg_2 hk2 => ?_) ?_
 ·replace hp_2 := AR hg_2 hp_2
  refine zq1 ?_;obtain ⟨x1, hx1, hp_2⟩ := bS hp_2;refine zcw (Oh hx1) ?_;refine zq1 ?_;refine gWp Uj Uj Uj hg_2 Uj Uj (C5 runUnderlying9 Uj) ?_;refine zq2 ?_;exact zgb hk2 hp_2
 ·replace hp_2 := AQ hg_2 hp_2
  refine zq6 ?_;exact zgb hk2 hp_2
 refine zq2 ?_
 cases hm; exact Af zr1
def GK (s1 : (List (List UInt8))) (v1 : (List UInt8)) : Nat -> Int -> Option (Out Int Unit)
 | 0, _ => none
 | n + 1, x1 =>
  bif (decide (x1 < (s1.length : Int))) then
   (idx s1 x1).bind fun x2 =>
   bif (decide ((v1 : List UInt8) = x2)) then
    some (Out.ret x1)
   else
    grd (InR (x1 + 1)) <|
    GK s1 v1 n (x1 + 1)
  else
   some (Out.go (()))
def P0 (s1 : (List (List UInt8))) (v1 : (List UInt8)) : Option Int :=
 ((GK s1 v1 FU 0 : Option (Out Int Unit))).bind (fun oo => oo.on (fun r1 => some r1) (fun _ =>
 some (-1)))
theorem Ud {s1 : (List (List UInt8))} {v1 : (List UInt8)} {r_1 : Int} (hm : P0 s1 v1 = some r_1) : Fn0 Tryz.prog 173 [.list 1 D.str s1, .str v1] (.i64 r_1) := by
 unfold P0 at hm;refine Ae func173 Uj ntmps173 Uj fun H0 fr w0 => ?_;refine zq11 ?_;obtain ⟨o_1, hj1, hm1⟩ := bS hm;refine Ak [] [] (fun (st : Unit) (hid : Unit) => match st, hid with | _, _ => []) (fun F (st : Unit) (hid : Unit) => match st, hid with | _, _ => []) (fun st => Out.go (st) = o_1) trivial trivial ?_ ?_
 ·refine Aj ?_
  refine Ai [(0, _), (1, _), (7, _)] [] (fun (st : Int) (hid : Unit) => match st, hid with | x1, _ => [(8, .i64 x1)]) (fun F (st : Int) (hid : Unit) => match st, hid with | x1, _ => []) () hj1 (fun _ => rfl) ⟨rfl, rfl, rfl, trivial⟩ trivial ⟨rfl, trivial⟩ rfl ?_;rintro n x1 _ hj1;rw [GK] at hj1;refine Av (L' := [(8, .i64 x1), (0, _), (1, _), (7, _)]) (ms' := []) rfl Uj ?_;refine zq5 ?_;refine zcn hj1 (fun hc1 hj1 => ?_) (fun hc1 hj1 => ?_)
  ·refine zq13 ?_
   obtain ⟨x2, hx1, hj1⟩ := bS hj1;refine zq4 ?_;refine zcn hj1 (fun hc2 hj1 => ?_) (fun hc2 hj1 => ?_)
   ·refine zq5 ?_
    refine Af ?_;obtain rfl := Ad hj1
    replace hm1 := BT hm1
    cases hm1; exact zr1
   ·refine zq2 ?_
    obtain ⟨hg2, hj1⟩ := Aa hj1;refine zq3 ?_;exact ⟨_, (), hj1, ⟨rfl, trivial⟩, ⟨rfl, rfl, rfl, trivial⟩, [], rfl⟩
  ·refine Ap ?_
   exact ⟨_, (), Ad hj1, trivial, trivial, [], rfl⟩
 ·rintro _ _ hst
  subst hst
  replace hm1 := Dq hm1
  refine Aq (L' := []) (ms' := []) rfl Uj ?_;refine zq4 ?_
  cases hm1; exact Af zr1
def OM (s1 : (List (List UInt8))) (v1 : (List UInt8)) : Option Bool :=
 (P0 s1 v1).bind fun x1 =>
 some (decide (0 <= x1))
theorem T1 {s1 : (List (List UInt8))} {v1 : (List UInt8)} {r_1 : Bool} (hm : OM s1 v1 = some r_1) : Fn0 Tryz.prog 143 [.list 1 D.str s1, .str v1] (.bool r_1) := by
 unfold OM at hm;refine Ae func143 Uj ntmps143 Uj fun H0 fr w0 => ?_;refine zq8 ?_;obtain ⟨x1, hx1, hm⟩ := bS hm;refine zc0 (Ud hx1) ?_;refine zq3 ?_
 cases hm; exact Af zr1
def Er  : Option (List (List UInt8)) :=
 some [([102, 117, 110] : List UInt8), ([108, 101, 116] : List UInt8), ([114, 101, 99] : List UInt8), ([105, 110] : List UInt8), ([105, 102] : List UInt8), ([116, 104, 101, 110] : List UInt8), ([101, 108, 115, 101] : List UInt8), ([99, 97, 115, 101] : List UInt8), ([111, 102] : List UInt8), ([101, 110, 100] : List UInt8), ([116, 114, 117, 101] : List UInt8), ([102, 97, 108, 115, 101] : List UInt8), ([99, 104, 101, 99, 107] : List UInt8), ([97, 115, 107] : List UInt8), ([116, 111, 112] : List UInt8), ([98, 111, 116] : List UInt8), ([105, 110, 116] : List UInt8), ([98, 111, 111, 108] : List UInt8), ([115, 116, 114, 105, 110, 103] : List UInt8), ([109, 117] : List UInt8)]
theorem KG  {r_1 : (List (List UInt8))} (hm : Er = some r_1) : Fn0 Tryz.prog 144 [] (.list 1 D.str r_1) := by
 unfold Er at hm;refine Ae func144 Uj ntmps144 Uj fun H0 fr w0 => ?_;refine zq3 ?_;refine Am (nilE (i := 0) (sz := 1) (f := D.str) rfl).refines ?_;refine zq3 ?_;refine Ah Uj Uj Uj (Ac (xs := [_, _, _, _, _, _, _, _, _, _, _, _, _, _, _, _, _, _, _, _]) (f := D.str) (l := [_, _, _, _, _, _, _, _, _, _, _, _, _, _, _, _, _, _, _, _]) runUnderlying65 sizeOf9 zeroValue9 Uj Uj Uj (fun _ => ⟨rfl, rfl, rfl⟩) rfl) ?_;refine zq2 ?_
 cases hm; exact Af zr1
def EQ (s1 : (List UInt8)) : Option Bool :=
 (Er).bind fun x1 =>
 (OM x1 s1).bind fun x2 =>
 some x2
theorem Ll {s1 : (List UInt8)} {r_1 : Bool} (hm : EQ s1 = some r_1) : Fn0 Tryz.prog 117 [.str s1] (.bool r_1) := by
 unfold EQ at hm;refine Ae func117 Uj ntmps117 Uj fun H0 fr w0 => ?_;refine zq6 ?_;obtain ⟨x1, hx1, hm⟩ := bS hm;refine zc0 (KG hx1) ?_;refine zq1 ?_;obtain ⟨x2, hx2, hm⟩ := bS hm;refine zc0 (T1 hx2) ?_;refine zq2 ?_
 cases hm; exact Af zr1
def EH (s1 : (List UInt8)) : Option Bool :=
 (Ea s1).bind fun x1 =>
 (bif x1 then ((idx s1 0).bind fun c1 =>
 (Cx c1).bind fun x2 =>
 some x2) else (some false)).bind fun p1 =>
 (bif p1 then ((EQ s1).bind fun x3 =>
 some (!x3)) else (some false)).bind fun p2 =>
 some p2
theorem O0 {s1 : (List UInt8)} {r_1 : Bool} (hm : EH s1 = some r_1) : Fn0 Tryz.prog 84 [.str s1] (.bool r_1) := by
 unfold EH at hm;refine Ae func84 Uj ntmps84 Uj fun H0 fr w0 => ?_;refine zq7 ?_;obtain ⟨x1, hx1, hm⟩ := bS hm;refine zc0 (Jp hx1) ?_;refine zq1 ?_;obtain ⟨p1, hp_1, hm⟩ := bS hm;refine AP [(0, _)] 4 9 p1 (t := 5) ⟨rfl, trivial⟩ rfl (fun hg_1 hk1 => ?_) (fun hg_1 hk1 => ?_) ?_
 ·replace hp_1 := AR hg_1 hp_1
  refine zq1 ?_;obtain ⟨c1, hx2, hp_1⟩ := bS hp_1;refine gWp Uj Uj Uj hg_1 Uj Uj (Ch runUnderlying9 Uj Uj hx2) ?_;obtain ⟨x2, hx3, hp_1⟩ := bS hp_1;refine zcw (Hm hx3) ?_;refine zq1 ?_;exact zgb hk1 hp_1
 ·replace hp_1 := AQ hg_1 hp_1
  refine zq4 ?_;exact zgb hk1 hp_1
 refine zq1 ?_;obtain ⟨p2, hp_2, hm⟩ := bS hm;refine AP [] 4 14 p2 (t := 10) trivial Uj (fun hg_2 hk2 => ?_) (fun hg_2 hk2 => ?_) ?_
 ·replace hp_2 := AR hg_2 hp_2
  refine zq1 ?_;obtain ⟨x3, hx4, hp_2⟩ := bS hp_2;refine zcw (Ll hx4) ?_;refine zq2 ?_;exact zgb hk2 hp_2
 ·replace hp_2 := AQ hg_2 hp_2
  refine zq4 ?_;exact zgb hk2 hp_2
 refine zq2 ?_
 cases hm; exact Af zr1
def E8 (s1 : (List UInt8)) : Option Bool :=
 (Ea s1).bind fun x1 =>
 (bif x1 then ((idx s1 0).bind fun c1 =>
 (Dk c1).bind fun x2 =>
 some x2) else (some false)).bind fun p1 =>
 some p1
theorem Pp {s1 : (List UInt8)} {r_1 : Bool} (hm : E8 s1 = some r_1) : Fn0 Tryz.prog 145 [.str s1] (.bool r_1) := by
 unfold E8 at hm;refine Ae func145 Uj ntmps145 Uj fun H0 fr w0 => ?_;refine zq7 ?_;obtain ⟨x1, hx1, hm⟩ := bS hm;refine zc0 (Jp hx1) ?_;refine zq1 ?_;obtain ⟨p1, hp_1, hm⟩ := bS hm;refine AP [] 4 9 p1 (t := 5) trivial Uj (fun hg_1 hk1 => ?_) (fun hg_1 hk1 => ?_) ?_
 ·replace hp_1 := AR hg_1 hp_1
  refine zq1 ?_;obtain ⟨c1, hx2, hp_1⟩ := bS hp_1;refine gWp Uj Uj Uj hg_1 Uj Uj (Ch runUnderlying9 Uj Uj hx2) ?_;obtain ⟨x2, hx3, hp_1⟩ := bS hp_1;refine zcw (Hk hx3) ?_;refine zq1 ?_;exact zgb hk1 hp_1
 ·replace hp_1 := AQ hg_1 hp_1
  refine zq4 ?_;exact zgb hk1 hp_1
 refine zq2 ?_
 cases hm; exact Af zr1
def BV (n1 : ANd) : Nat -> Int -> Option (Out Bool Unit)
 | 0, _ => none
 | n + 1, x1 =>
  bif (decide (x1 < (n1.l.length : Int))) then
   (idx n1.l x1).bind fun x2 =>
   (bif (decide (n1.kind = 7)) then ((EH x2.name).bind fun x3 =>
   some (!x3)) else (some false)).bind fun p1 =>
   (bif p1 then (some true) else ((bif (decide (n1.kind = 8)) then ((E8 x2.name).bind fun x4 =>
   some (!x4)) else (some false)).bind fun p3 =>
   some p3)).bind fun p2 =>
   bif p2 then
    some (Out.ret false)
   else
    bif (decide (0 < x1)) then (grd (InR (x1 - 1)) <|
    (idx n1.l (x1 - 1)).bind fun x5 =>
    bif (!Op.bytesLess x5.name x2.name) then
     some (Out.ret false)
    else
     grd (InR (x1 + 1)) <|
     BV n1 n (x1 + 1)) else (grd (InR (x1 + 1)) <|
    BV n1 n (x1 + 1))
  else
   some (Out.go (()))
def Ej (n1 : ANd) : Option Bool :=
 ((BV n1 FU 0 : Option (Out Bool Unit))).bind (fun oo => oo.on (fun r1 => some r1) (fun _ =>
 some (decide ((n1.l.length : Int) <= 30))))
theorem Mt {n1 : ANd} {r_1 : Bool} (hm : Ej n1 = some r_1) : Fn0 Tryz.prog 124 [ANd.d n1] (.bool r_1) := by
 unfold Ej at hm;refine Ae func124 Uj ntmps124 Uj fun H0 fr w0 => ?_;refine zq13 ?_;obtain ⟨o_1, hj1, hm1⟩ := bS hm;refine Ak [(1, _)] [] (fun (st : Unit) (hid : Unit) => match st, hid with | _, _ => []) (fun F (st : Unit) (hid : Unit) => match st, hid with | _, _ => []) (fun st => Out.go (st) = o_1) ⟨rfl, trivial⟩ trivial ?_ ?_
 ·refine Aj ?_
  refine Ai [(1, _), (6, _), (7, _)] [] (fun (st : Int) (hid : Unit) => match st, hid with | x1, _ => [(8, .i64 x1)]) (fun F (st : Int) (hid : Unit) => match st, hid with | x1, _ => []) () hj1 (fun _ => rfl) ⟨rfl, rfl, rfl, trivial⟩ trivial ⟨rfl, trivial⟩ rfl ?_;rintro n x1 _ hj1;rw [BV] at hj1;refine Av (L' := [(8, .i64 x1), (1, _), (6, _), (7, _)]) (ms' := []) rfl Uj ?_;refine zq5 ?_;refine zcn hj1 (fun hc1 hj1 => ?_) (fun hc1 hj1 => ?_)
  ·refine zq6 ?_
   obtain ⟨x2, hx1, hj1⟩ := bS hj1;refine zq2 ?_;refine PP fun b1 => ?_;refine zq1 ?_;refine zst 0 ?_;refine Ag (ms' := [box b1 98 [_, _]]) rfl ?_;refine zq8 ?_;obtain ⟨p1, hp_1, hj1⟩ := bS hj1;refine AP [(1, _), (3, _), (4, _), (6, _), (7, _), (8, _)] 5 21 p1 (t := 16) ⟨rfl, rfl, rfl, rfl, rfl, rfl, trivial⟩ rfl (fun hg_1 hk1 => ?_) (fun hg_1 hk1 => ?_) ?_
   ·replace hp_1 := AR hg_1 hp_1
    refine zq2 ?_;obtain ⟨x3, hx2, hp_1⟩ := bS hp_1;refine zcw (O0 hx2) ?_;refine zq2 ?_;exact zgb hk1 hp_1
   ·replace hp_1 := AQ hg_1 hp_1
    refine zq5 ?_;exact zgb hk1 hp_1
   refine zq1 ?_;obtain ⟨p2, hp_2, hj1⟩ := bS hj1;refine AP [(1, _), (3, _), (4, _), (6, _), (7, _), (8, _)] 10 32 p2 (t := 22) ⟨rfl, rfl, rfl, rfl, rfl, rfl, trivial⟩ rfl (fun hg_2 hk2 => ?_) (fun hg_2 hk2 => ?_) ?_
   ·replace hp_2 := AR hg_2 hp_2
    refine zq10 ?_;exact zgb hk2 hp_2
   ·replace hp_2 := AQ hg_2 hp_2
    refine zq4 ?_;obtain ⟨p3, hp_3, hp_2⟩ := bS hp_2;refine AP [(1, _), (3, _), (4, _), (6, _), (7, _), (8, _), (22, _)] 5 31 p3 (t := 26) ⟨rfl, rfl, rfl, rfl, rfl, rfl, rfl, trivial⟩ rfl (fun hg_3 hk3 => ?_) (fun hg_3 hk3 => ?_) ?_
    ·replace hp_3 := AR hg_3 hp_3
     refine zq2 ?_;obtain ⟨x4, hx3, hp_3⟩ := bS hp_3;refine zcw (Pp hx3) ?_;refine zq2 ?_;exact zgb hk3 hp_3
    ·replace hp_3 := AQ hg_3 hp_3
     refine zq5 ?_;exact zgb hk3 hp_3
    refine zq1 ?_;exact zgb hk2 hp_2
   refine gNl ?_;refine zcn hj1 (fun hc2 hj1 => ?_) (fun hc2 hj1 => ?_)
   ·refine zq4 ?_
    refine Af ?_;obtain rfl := Ad hj1
    replace hm1 := BT hm1
    cases hm1; exact zr1
   ·refine zq2 ?_
    rcases Cl hj1 with ⟨hg_4, hj1⟩ | ⟨hg_4, hj1⟩
    ·
     skip
     obtain ⟨hg4, hj1⟩ := Aa hj1;obtain ⟨x5, hx5, hj1⟩ := bS hj1;refine zdr 14 ?_;refine zq16 ?_;refine zcn hj1 (fun hc3 hj1 => ?_) (fun hc3 hj1 => ?_)
     ·refine zq4 ?_
      refine Af ?_;obtain rfl := Ad hj1
      replace hm1 := BT hm1
      cases hm1; exact zr1
     ·refine zq2 ?_
      obtain ⟨hg6, hj1⟩ := Aa hj1;refine zq3 ?_;exact ⟨_, (), hj1, ⟨rfl, trivial⟩, ⟨rfl, rfl, rfl, trivial⟩, [_], rfl⟩
    ·
     skip
     refine zdr 14 ?_;refine zq16 ?_;refine DY Uj Uj ?_;refine zq2 ?_;obtain ⟨hg7, hj1⟩ := Aa hj1;refine zq3 ?_;exact ⟨_, (), hj1, ⟨rfl, trivial⟩, ⟨rfl, rfl, rfl, trivial⟩, [_], rfl⟩
  ·refine Ap ?_
   exact ⟨_, (), Ad hj1, trivial, ⟨rfl, trivial⟩, [], rfl⟩
 ·rintro _ _ hst
  subst hst
  replace hm1 := Dq hm1
  refine Aq (L' := [(1, _)]) (ms' := []) rfl Uj ?_;refine zq8 ?_
  cases hm1; exact Af zr1
def Cs (n1 : ANd) : Nat -> (Int × (List Int)) -> Option (List Int)
 | 0, _ => none
 | n + 1, (x3, l2) =>
  bif (decide (x3 < (n1.l.length : Int))) then
   (idx n1.l x3).bind fun x4 =>
   grd ((l2.length + ([x4.at_] : List _).length) * 8 <= 140737488355328) <|
   grd (InR (x3 + 1)) <|
   Cs n1 n ((x3 + 1), (l2 ++ [x4.at_]))
  else
   some l2
def Dp (n1 : ANd) : Option (List Int) :=
 (CB n1.kind).bind fun x1 =>
 bif x1 then
  some [n1.a, n1.b]
 else
  (D3 n1.kind).bind fun x2 =>
  bif x2 then
   (Cs n1 FU (0, []) : Option (List Int)).bind fun l1 =>
   some l1
  else
   some []
theorem Ha {n1 : ANd} {r_1 : (List Int)} (hm : Dp n1 = some r_1) : Fn0 Tryz.prog 125 [ANd.d n1] (.list 1 D.i64 r_1) := by
 unfold Dp at hm;refine Ae func125 Uj ntmps125 Uj fun H0 fr w0 => ?_;refine zq4 ?_;refine Am (nilE (i := 2) (sz := 1) (f := D.i64) rfl).refines ?_;refine zq6 ?_;obtain ⟨x1, hx1, hm⟩ := bS hm;refine zc0 (G7 hx1) ?_;refine gNl ?_;refine zcn hm (fun hc1 hm => ?_) (fun hc1 hm => ?_)
 ·refine zq6 ?_
  refine Ah Uj Uj Uj (Ac (xs := [_, _]) (f := D.i64) (l := [_, _]) runUnderlying25 sizeOf3 zeroValue3 Uj Uj Uj (fun _ => ⟨rfl, rfl, rfl⟩) rfl) ?_;refine zq2 ?_
  cases hm; exact Af zr1
 ·refine zq4 ?_
  refine Am (AF (T := 3) (sz := 1) (f := D.i64)) ?_;refine zq6 ?_;obtain ⟨x2, hx2, hm⟩ := bS hm;refine zc0 (Jy hx2) ?_;refine gNl ?_;refine zcn hm (fun hc2 hm => ?_) (fun hc2 hm => ?_)
  ·refine zq7 ?_
   obtain ⟨o_1, hj1, hm1⟩ := bS hm;refine Ak [] [] (fun (st : (List Int)) (hid : (Option Addr × Nat)) => match st, hid with | l1, (a_r1, cap_r1) => [(3, .v (.slice a_r1 l1.length cap_r1))]) (fun F (st : (List Int)) (hid : (Option Addr × Nat)) => match st, hid with | l1, (a_r1, cap_r1) => [row a_r1 cap_r1 3 1 D.i64 l1]) (fun st => st = o_1) trivial trivial ?_ ?_
   ·refine Aj ?_
    refine Ai [(18, _), (19, _)] [] (fun (st : (Int × (List Int))) (hid : (Option Addr × Nat)) => match st, hid with | (x3, l2), (a_r1, cap_r1) => [(3, .v (.slice a_r1 l2.length cap_r1)), (20, .i64 x3)]) (fun F (st : (Int × (List Int))) (hid : (Option Addr × Nat)) => match st, hid with | (x3, l2), (a_r1, cap_r1) => [row a_r1 cap_r1 3 1 D.i64 l2]) (_, _) hj1 (fun _ => rfl) ⟨rfl, rfl, trivial⟩ trivial ⟨rfl, rfl, trivial⟩ rfl ?_;rintro n ⟨x3, l2⟩ ⟨a_r1, cap_r1⟩ hj1;rw [Cs] at hj1;refine Av (L' := [(3, .v (.slice a_r1 l2.length cap_r1)), (20, .i64 x3), (18, _), (19, _)]) (ms' := [row a_r1 cap_r1 3 1 D.i64 l2]) rfl Uj ?_;refine zq5 ?_;refine zcn hj1 (fun hc3 hj1 => ?_) (fun hc3 hj1 => ?_)
    ·refine zq5 ?_
     obtain ⟨x4, hx3, hj1⟩ := bS hj1;refine zq2 ?_;refine PP fun b1 => ?_;refine zst 0 ?_;refine Ag (ms' := [box b1 98 [_, _], _]) rfl ?_;refine zq5 ?_;refine Ah Uj Uj Uj (Ac (xs := [_]) (f := D.i64) (l := [_]) runUnderlying25 sizeOf3 zeroValue3 Uj Uj Uj (fun _ => ⟨rfl, rfl, rfl⟩) rfl) ?_;obtain ⟨hg4, hj1⟩ := Aa hj1;refine An Uj Uj Uj (AB (a := _) 1 underlying25 type3 Uj Uj Uj Uj Uj Uj Uj (fun _ => rfl) (fun _ => rfl) hg4 (AA hg4 Uj)) ?_;rintro _ _ ⟨a_r1, cap_r1, rfl, rfl⟩;refine Ag (ms' := [box b1 98 [_, _], _]) rfl ?_;refine zq3 ?_;obtain ⟨hg5, hj1⟩ := Aa hj1;refine zq3 ?_;exact ⟨_, (_, _), hj1, ⟨rfl, rfl, trivial⟩, ⟨rfl, rfl, trivial⟩, [_], rfl⟩
    ·refine Ap ?_
     exact ⟨_, (_, _), Ad hj1, ⟨rfl, trivial⟩, trivial, [], rfl⟩
   ·rintro l1 ⟨a_r1, cap_r1⟩ hst
    subst hst;refine Aq (L' := [(3, .v (.slice a_r1 l1.length cap_r1))]) (ms' := [row a_r1 cap_r1 3 1 D.i64 l1]) rfl Uj ?_;refine zq5 ?_;refine BL (peekE (i := 2) 0 rfl Uj Uj).refines ?_
    cases hm1; exact Af zr1
  ·refine zq6 ?_
   refine BL (peekE (i := 2) 0 rfl Uj Uj).refines ?_
   cases hm; exact Af zr1
def Cv (k1 : Int) (c1 : Int) : Option Bool :=
 some ((decide (k1 < 0)) || (decide (c1 <= k1)))
theorem KH {k1 : Int} {c1 : Int} {r_1 : Bool} (hm : Cv k1 c1 = some r_1) : Fn0 Tryz.prog 126 [.i64 k1, .ref (.i64 c1)] (.bool r_1) := by
 unfold Cv at hm;refine Ae func126 Uj ntmps126 Uj fun H0 fr w0 => ?_;refine zq9 ?_
 apply BC [] 4 10 (t := 6) trivial rfl
 ·intro hg_1 hk1
  refine zq4 ?_;exact zgm hk1
 ·intro hg_1 hk1
  refine zq4 ?_;exact zgm hk1
 refine zq2 ?_
 cases hm; exact Af zr1
def Ek (n1 : ANd) (all1 : Int) : Option Bool :=
 bif ((decide (n1.kind < 1)) || (decide (11 < n1.kind))) then
  some false
 else
  (CB n1.kind).bind fun x1 =>
  bif ((!x1) && ((!decide (n1.b = 0)) || ((!decide (n1.kind = 11)) && (!decide (n1.a = 0))))) then
   some false
  else
   bif ((decide (n1.kind = 11)) && ((decide (n1.a < 0)) || (decide (999 < n1.a)))) then
    some false
   else
    (D3 n1.kind).bind fun x2 =>
    (bif ((!x2) && (decide (0 < (n1.l.length : Int)))) then (some true) else ((Ej n1).bind fun x3 =>
    some (!x3))).bind fun p1 =>
    bif p1 then
     some false
    else
     (Dp n1).bind fun x4 =>
     (Jl x4 (fun y0 => Cv y0 all1)).bind fun x5 =>
     some (!x5)
theorem Mj {n1 : ANd} {all1 : Int} {r_1 : Bool} (hm : Ek n1 all1 = some r_1) : Fn0 Tryz.prog 91 [ANd.d n1, .i64 all1] (.bool r_1) := by
 unfold Ek at hm;refine Ae func91 Uj ntmps91 Uj fun H0 fr w0 => ?_;refine zq14 ?_
 apply BC [(2, _), (3, _)] 4 13 (t := 9) ⟨rfl, rfl, trivial⟩ rfl
 ·intro hg_1 hk1
  refine zq4 ?_;exact zgm hk1
 ·intro hg_1 hk1
  refine zq4 ?_;exact zgm hk1
 refine zq2 ?_;refine zcn hm (fun hc1 hm => ?_) (fun hc1 hm => ?_)
 ·refine zq4 ?_
  cases hm; exact Af zr1
 ·refine zq4 ?_
  obtain ⟨x1, hx1, hm⟩ := bS hm;refine zc0 (G7 hx1) ?_;refine zq2 ?_
  apply Bw [(2, _), (3, _)] 14 33 (t := 19) ⟨rfl, rfl, trivial⟩ rfl
  ·intro hg_2 hk2
   refine zq4 ?_
   apply BC [(2, _), (3, _), (19, _)] 9 32 (t := 23) ⟨rfl, rfl, rfl, trivial⟩ rfl
   ·intro hg_3 hk3
    refine zq4 ?_
    apply Bw [(2, _), (3, _), (19, _), (23, _)] 4 31 (t := 27) ⟨rfl, rfl, rfl, rfl, trivial⟩ rfl
    ·intro hg_4 hk4
     refine zq4 ?_;exact zgm hk4
    ·intro hg_4 hk4
     refine zq4 ?_;exact zgm hk4
    refine zq1 ?_;exact zgm hk3
   ·intro hg_3 hk3
    refine zq9 ?_;exact zgm hk3
   refine zq1 ?_;exact zgm hk2
  ·intro hg_2 hk2
   refine zq14 ?_;exact zgm hk2
  refine zq2 ?_;refine zcn hm (fun hc2 hm => ?_) (fun hc2 hm => ?_)
  ·refine zq4 ?_
   cases hm; exact Af zr1
  ·refine zq6 ?_
   apply Bw [(2, _), (3, _)] 9 47 (t := 38) ⟨rfl, rfl, trivial⟩ rfl
   ·intro hg_5 hk5
    refine zq4 ?_
    apply BC [(2, _), (3, _), (38, _)] 4 46 (t := 42) ⟨rfl, rfl, rfl, trivial⟩ rfl
    ·intro hg_6 hk6
     refine zq4 ?_;exact zgm hk6
    ·intro hg_6 hk6
     refine zq4 ?_;exact zgm hk6
    refine zq1 ?_;exact zgm hk5
   ·intro hg_5 hk5
    refine zq9 ?_;exact zgm hk5
   refine zq2 ?_;refine zcn hm (fun hc3 hm => ?_) (fun hc3 hm => ?_)
   ·refine zq4 ?_
    cases hm; exact Af zr1
   ·refine zq4 ?_
    obtain ⟨x2, hx2, hm⟩ := bS hm;refine zc0 (Jy hx2) ?_;refine zq2 ?_
    apply Bw [(2, _), (3, _)] 5 58 (t := 53) ⟨rfl, rfl, trivial⟩ rfl
    ·intro hg_7 hk7
     refine zq5 ?_;exact zgm hk7
    ·intro hg_7 hk7
     refine zq5 ?_;exact zgm hk7
    refine zq1 ?_;obtain ⟨p1, hp_8, hm⟩ := bS hm;refine AP [(2, _), (3, _)] 4 63 p1 (t := 59) ⟨rfl, rfl, trivial⟩ rfl (fun hg_8 hk8 => ?_) (fun hg_8 hk8 => ?_) ?_
    ·replace hp_8 := AR hg_8 hp_8
     refine zq4 ?_;exact zgb hk8 hp_8
    ·replace hp_8 := AQ hg_8 hp_8
     refine zq1 ?_;obtain ⟨x3, hx3, hp_8⟩ := bS hp_8;refine zcw (Mt hx3) ?_;refine zq2 ?_;exact zgb hk8 hp_8
    refine zq2 ?_;refine zcn hm (fun hc4 hm => ?_) (fun hc4 hm => ?_)
    ·refine zq4 ?_
     cases hm; exact Af zr1
    ·refine zq4 ?_
     obtain ⟨x4, hx4, hm⟩ := bS hm;refine zc0 (Ha hx4) ?_;refine Ah Uj Uj Uj (BU Uj Uj) ?_;obtain ⟨x5, hx5, hm⟩ := bS hm;refine Ah Uj Uj Uj (FS [] call54 Uj Uj DF (R9 (fun _ _ h => LX (Ed call126 (KH h))) hx5)) ?_;refine zq3 ?_
     cases hm; exact Af zr1
def C1 (n1 : ANd) (c1 : ATy) : Option Bool :=
 (Ek n1 (c1.l.length : Int)).bind fun x1 =>
 some (!x1)
theorem Mo {n1 : ANd} {c1 : ATy} {r_1 : Bool} (hm : C1 n1 c1 = some r_1) : Fn0 Tryz.prog 90 [ANd.d n1, .ref (ATy.d c1)] (.bool r_1) := by
 unfold C1 at hm;refine Ae func90 Uj ntmps90 Uj fun H0 fr w0 => ?_;refine zq11 ?_;obtain ⟨x1, hx1, hm⟩ := bS hm;refine zc0 (Mj hx1) ?_;refine zq3 ?_
 cases hm; exact Af zr1
def Eq (kind1 : Int) : Option Bool :=
 some ((decide (kind1 = 9)) || (decide (kind1 = 10)))
theorem KM {kind1 : Int} {r_1 : Bool} (hm : Eq kind1 = some r_1) : Fn0 Tryz.prog 128 [.i64 kind1] (.bool r_1) := by
 unfold Eq at hm;refine Ae func128 Uj ntmps128 Uj fun H0 fr w0 => ?_;refine zq9 ?_
 apply BC [] 3 8 (t := 5) trivial rfl
 ·intro hg_1 hk1
  refine zq3 ?_;exact zgm hk1
 ·intro hg_1 hk1
  refine zq3 ?_;exact zgm hk1
 refine zq2 ?_
 cases hm; exact Af zr1
def A5 (self : Int -> (List Int) -> Option (Bool × (List Int))) (x7 : (List Int)) : Nat -> (Int × (List Int)) -> Option (Out (Bool × (List Int)) (List Int))
 | 0, _ => none
 | n + 1, (x8, l2) =>
  bif (decide (x8 < (x7.length : Int))) then
   (idx x7 x8).bind fun x9 =>
   (self x9 l2).bind fun (x10, z2) =>
   bif (!x10) then
    some (Out.ret (false, z2))
   else
    grd (InR (x8 + 1)) <|
    A5 self x7 n ((x8 + 1), z2)
  else
   some (Out.go (l2))
def BG (self : Int -> (List Int) -> Option (Bool × (List Int))) (i1 : Int) (z1 : (List Int)) (c1 : ATy) : Option (Bool × (List Int)) :=
 (idx c1.l i1).bind fun x1 =>
 (Eq x1.kind).bind fun x2 =>
 (bif (!x2) then (some true) else ((idx z1 i1).bind fun x3 =>
 some (decide (x3 = 2)))).bind fun p1 =>
 bif p1 then
  some (true, z1)
 else
  (idx z1 i1).bind fun x4 =>
  bif (decide (x4 = 1)) then
   some (false, z1)
  else
   (idx z1 i1).bind fun x5 =>
   (idx c1.l i1).bind fun x6 =>
   (Dp x6).bind fun x7 =>
   ((A5 self x7 FU (0, (z1.set (i1).toNat 1)) : Option (Out (Bool × (List Int)) (List Int)))).bind (fun oo => oo.on (fun r1 => some r1) (fun l1 =>
   (idx l1 i1).bind fun x11 =>
   some (true, (l1.set (i1).toNat 2))))
def AZ (c1 : ATy) : Nat -> Int -> (List Int) -> Option (Bool × (List Int))
 | 0 => fun _ _ => none
 | n + 1 => fun i1 z1 => BG (AZ c1 n) i1 z1 c1
theorem Ho {c1 : ATy} (self : Int -> (List Int) -> Option (Bool × (List Int))) (hself : ∀ {i1 : Int} {z1 : (List Int)} {r_1 : Bool} {s_1 : (List Int)} {b_q2 : Nat} {a_q2c0 : Option Addr} {m_q2c0 : Nat} {cap_q2c0 : Nat} {b_q3 : Nat}, self i1 z1 = some (r_1, s_1) -> Go.V.Fn Tryz.prog 127 [.i64 i1, .ref (ATy.d c1), .v (.pointer (some ⟨b_q2, 0, none⟩)), .v (.pointer (some ⟨b_q3, 0, none⟩))] [box b_q2 25 [.v (.slice a_q2c0 m_q2c0 cap_q2c0)], arr a_q2c0 m_q2c0 cap_q2c0 3 1 D.i64 z1, box b_q3 72 [.clo (.func 127) [] [.ref (ATy.d c1), .v (.pointer (some ⟨b_q2, 0, none⟩)), .v (.pointer (some ⟨b_q3, 0, none⟩))]]] (fun d ms' => d = .bool r_1 /\ ms' = [box b_q2 25 [.v (.slice a_q2c0 m_q2c0 cap_q2c0)], arr a_q2c0 m_q2c0 cap_q2c0 3 1 D.i64 s_1, box b_q3 72 [.clo (.func 127) [] [.ref (ATy.d c1), .v (.pointer (some ⟨b_q2, 0, none⟩)), .v (.pointer (some ⟨b_q3, 0, none⟩))]]])) {i1 : Int} {z1 : (List Int)} {r_1 : Bool} {s_1 : (List Int)} {b_q2 : Nat} {a_q2c0 : Option Addr} {m_q2c0 : Nat} {cap_q2c0 : Nat} {b_q3 : Nat} (hm : BG self i1 z1 c1 = some (r_1, s_1)) : Go.V.Fn Tryz.prog 127 [.i64 i1, .ref (ATy.d c1), .v (.pointer (some ⟨b_q2, 0, none⟩)), .v (.pointer (some ⟨b_q3, 0, none⟩))] [box b_q2 25 [.v (.slice a_q2c0 m_q2c0 cap_q2c0)], arr a_q2c0 m_q2c0 cap_q2c0 3 1 D.i64 z1, box b_q3 72 [.clo (.func 127) [] [.ref (ATy.d c1), .v (.pointer (some ⟨b_q2, 0, none⟩)), .v (.pointer (some ⟨b_q3, 0, none⟩))]]] (fun d ms' => d = .bool r_1 /\ ms' = [box b_q2 25 [.v (.slice a_q2c0 m_q2c0 cap_q2c0)], arr a_q2c0 m_q2c0 cap_q2c0 3 1 D.i64 s_1, box b_q3 72 [.clo (.func 127) [] [.ref (ATy.d c1), .v (.pointer (some ⟨b_q2, 0, none⟩)), .v (.pointer (some ⟨b_q3, 0, none⟩))]]]) := by
 unfold BG at hm;refine Ae func127 Uj ntmps127 Uj fun H0 fr w0 => ?_;refine zq10 ?_;obtain ⟨x1, hx1, hm⟩ := bS hm;refine zq3 ?_;obtain ⟨x2, hx2, hm⟩ := bS hm;refine zc0 (KM hx2) ?_;refine zq2 ?_;obtain ⟨p1, hp_1, hm⟩ := bS hm;refine AP [(0, _), (1, _), (2, _), (3, _)] 6 22 p1 (t := 16) ⟨rfl, rfl, rfl, rfl, trivial⟩ rfl (fun hg_1 hk1 => ?_) (fun hg_1 hk1 => ?_) ?_
 ·replace hp_1 := AR hg_1 hp_1
  refine zq6 ?_;exact zgb hk1 hp_1
 ·replace hp_1 := AQ hg_1 hp_1
  refine zq2 ?_;obtain ⟨x3, hx3, hp_1⟩ := bS hp_1;refine gWp Uj Uj Uj hg_1 Uj Uj (At 1 runUnderlying25 sizeOf3 Uj Uj Uj hx3) ?_;refine gWp Uj Uj Uj hg_1 Uj Uj (AW (off := 0) 1 isAgg3 Uj Uj (Ao hx3).2 rfl Uj Uj) ?_;refine zq2 ?_;exact zgb hk1 hp_1
 refine gNl ?_;refine zcn hm (fun hc1 hm => ?_) (fun hc1 hm => ?_)
 ·refine zq4 ?_
  refine Af ?_
  have hq1 := Ad hm
  obtain ⟨rfl, rfl⟩ := Prod.mk.inj hq1;exact retK (AE rfl (Bo rfl) (permA 0 rfl (permA 0 rfl (permA 0 rfl permN)))) ⟨rfl, rfl⟩
 ·refine zq6 ?_
  obtain ⟨x4, hx4, hm⟩ := bS hm;refine Ah Uj Uj Uj (At 1 runUnderlying25 sizeOf3 Uj Uj Uj hx4) ?_;refine Ah Uj Uj Uj (AW (off := 0) 1 isAgg3 Uj Uj (Ao hx4).2 rfl Uj Uj) ?_;refine zq2 ?_;refine zcn hm (fun hc2 hm => ?_) (fun hc2 hm => ?_)
  ·refine zq4 ?_
   refine Af ?_
   have hq1 := Ad hm
   obtain ⟨rfl, rfl⟩ := Prod.mk.inj hq1;exact retK (AE rfl (Bo rfl) (permA 0 rfl (permA 0 rfl (permA 0 rfl permN)))) ⟨rfl, rfl⟩
  ·refine zq5 ?_
   obtain ⟨x5, hx5, hm⟩ := bS hm;refine Ah Uj Uj Uj (At 1 runUnderlying25 sizeOf3 Uj Uj Uj hx5) ?_;refine Gk Uj Uj (BD (off := 0) (z' := 1) 1 sizeOf3 Uj Uj (Ao hx5).2 rfl Uj Uj Uj Uj Uj (nB Uj) rfl Uj) ?_;rintro _ _ rfl;refine Ag (ms' := [box b_q2 25 [_], _, box b_q3 72 [_]]) rfl ?_;refine zq7 ?_;obtain ⟨x6, hx6, hm⟩ := bS hm;refine zq2 ?_;obtain ⟨x7, hx7, hm⟩ := bS hm;refine zc0 (Ha hx7) ?_;refine zq3 ?_;obtain ⟨o_1, hj1, hm1⟩ := bS hm;refine Ak [(0, _), (2, _)] [(2, _)] (fun (st : (List Int)) (hid : Unit) => match st, hid with | l1, _ => []) (fun F (st : (List Int)) (hid : Unit) => match st, hid with | l1, _ => [box b_q2 25 [.v (.slice a_q2c0 m_q2c0 cap_q2c0)], arr a_q2c0 m_q2c0 cap_q2c0 3 1 D.i64 l1, (nthF F 0)]) (fun st => Out.go (st) = o_1) ⟨rfl, rfl, trivial⟩ ⟨rfl, trivial⟩ ?_ ?_
   ·refine Aj ?_
    refine Ai [(0, _), (2, _), (3, _), (36, _), (37, _)] [(2, _)] (fun (st : (Int × (List Int))) (hid : Unit) => match st, hid with | (x8, l2), _ => [(38, .i64 x8)]) (fun F (st : (Int × (List Int))) (hid : Unit) => match st, hid with | (x8, l2), _ => [box b_q2 25 [.v (.slice a_q2c0 m_q2c0 cap_q2c0)], arr a_q2c0 m_q2c0 cap_q2c0 3 1 D.i64 l2, (nthF F 0)]) () hj1 (fun _ => rfl) ⟨rfl, rfl, rfl, rfl, rfl, trivial⟩ ⟨rfl, trivial⟩ ⟨rfl, trivial⟩ rfl ?_;rintro n ⟨x8, l2⟩ ⟨⟩ hj1;rw [A5] at hj1;refine Av (L' := [(38, .i64 x8), (0, _), (2, _), (3, _), (36, _), (37, _)]) (ms' := [box b_q2 25 [.v (.slice a_q2c0 m_q2c0 cap_q2c0)], arr a_q2c0 m_q2c0 cap_q2c0 3 1 D.i64 l2, _]) rfl Uj ?_;refine zq5 ?_;refine zcn hj1 (fun hc3 hj1 => ?_) (fun hc3 hj1 => ?_)
    ·refine zq5 ?_
     obtain ⟨x9, hx8, hj1⟩ := bS hj1;refine zq8 ?_;obtain ⟨⟨x10, z2⟩, hx9, hj1⟩ := bS hj1;refine An Uj Uj Uj (Kl [0, 1, 2] rfl Uj Uj (CJ Uj (CJ Uj (CJ Uj DF))) (Ed call127 (hself hx9)) (by rintro _ _ ⟨rfl, rfl⟩; rfl)) ?_;rintro _ _ ⟨_, ⟨rfl, rfl⟩, rfl⟩;refine Ag (ms' := [box b_q2 25 [_], _, box b_q3 72 [_]]) rfl ?_;refine zq2 ?_;refine zcn hj1 (fun hc4 hj1 => ?_) (fun hc4 hj1 => ?_)
     ·refine zq4 ?_
      refine Af ?_;obtain rfl := Ad hj1
      replace hm1 := BT hm1
      have hq1 := Ad hm1
      obtain ⟨rfl, rfl⟩ := Prod.mk.inj hq1;exact retK (AE rfl (Bo rfl) (permA 0 rfl (permA 0 rfl (permA 0 rfl permN)))) ⟨rfl, rfl⟩
     ·refine zq2 ?_
      obtain ⟨hg10, hj1⟩ := Aa hj1;refine zq3 ?_;exact ⟨_, (), hj1, ⟨rfl, trivial⟩, ⟨rfl, rfl, rfl, rfl, rfl, trivial⟩, [], rfl⟩
    ·refine Ap ?_
     exact ⟨_, (), Ad hj1, trivial, ⟨rfl, rfl, trivial⟩, [], rfl⟩
   ·rintro l1 ⟨⟩ hst
    subst hst
    replace hm1 := Dq hm1
    refine Aq (L' := [(0, _), (2, _)]) (ms' := [box b_q2 25 [.v (.slice a_q2c0 m_q2c0 cap_q2c0)], arr a_q2c0 m_q2c0 cap_q2c0 3 1 D.i64 l1, _]) rfl Uj ?_;refine zq4 ?_;obtain ⟨x11, hx11, hm1⟩ := bS hm1;refine Ah Uj Uj Uj (At 1 runUnderlying25 sizeOf3 Uj Uj Uj hx11) ?_;refine Gk Uj Uj (BD (off := 0) (z' := 2) 1 sizeOf3 Uj Uj (Ao hx11).2 rfl Uj Uj Uj Uj Uj (nB Uj) rfl Uj) ?_;rintro _ _ rfl;refine Ag (ms' := [box b_q2 25 [_], _, box b_q3 72 [_]]) rfl ?_;refine zq5 ?_;refine Af ?_
    have hq1 := Ad hm1
    obtain ⟨rfl, rfl⟩ := Prod.mk.inj hq1;exact retK (AE rfl (Bo rfl) (permA 0 rfl (permA 0 rfl (permA 0 rfl permN)))) ⟨rfl, rfl⟩
theorem ET {c1 : ATy} : ∀ (n : Nat) {i1 : Int} {z1 : (List Int)} {r_1 : Bool} {s_1 : (List Int)} {b_q2 : Nat} {a_q2c0 : Option Addr} {m_q2c0 : Nat} {cap_q2c0 : Nat} {b_q3 : Nat}, AZ c1 n i1 z1 = some (r_1, s_1) -> Go.V.Fn Tryz.prog 127 [.i64 i1, .ref (ATy.d c1), .v (.pointer (some ⟨b_q2, 0, none⟩)), .v (.pointer (some ⟨b_q3, 0, none⟩))] [box b_q2 25 [.v (.slice a_q2c0 m_q2c0 cap_q2c0)], arr a_q2c0 m_q2c0 cap_q2c0 3 1 D.i64 z1, box b_q3 72 [.clo (.func 127) [] [.ref (ATy.d c1), .v (.pointer (some ⟨b_q2, 0, none⟩)), .v (.pointer (some ⟨b_q3, 0, none⟩))]]] (fun d ms' => d = .bool r_1 /\ ms' = [box b_q2 25 [.v (.slice a_q2c0 m_q2c0 cap_q2c0)], arr a_q2c0 m_q2c0 cap_q2c0 3 1 D.i64 s_1, box b_q3 72 [.clo (.func 127) [] [.ref (ATy.d c1), .v (.pointer (some ⟨b_q2, 0, none⟩)), .v (.pointer (some ⟨b_q3, 0, none⟩))]]])
 | 0 => by intros; rename_i h; cases h
 | n + 1 => by intros; rename_i h; exact Ho (AZ c1 n) (fun h => ET n h) h
theorem Hy {c1 : ATy} {i1 : Int} {z1 : (List Int)} {r_1 : Bool} {s_1 : (List Int)} {b_q2 : Nat} {a_q2c0 : Option Addr} {m_q2c0 : Nat} {cap_q2c0 : Nat} {b_q3 : Nat} (hm : AZ c1 FU i1 z1 = some (r_1, s_1)) : Go.V.Fn Tryz.prog 127 [.i64 i1, .ref (ATy.d c1), .v (.pointer (some ⟨b_q2, 0, none⟩)), .v (.pointer (some ⟨b_q3, 0, none⟩))] [box b_q2 25 [.v (.slice a_q2c0 m_q2c0 cap_q2c0)], arr a_q2c0 m_q2c0 cap_q2c0 3 1 D.i64 z1, box b_q3 72 [.clo (.func 127) [] [.ref (ATy.d c1), .v (.pointer (some ⟨b_q2, 0, none⟩)), .v (.pointer (some ⟨b_q3, 0, none⟩))]]] (fun d ms' => d = .bool r_1 /\ ms' = [box b_q2 25 [.v (.slice a_q2c0 m_q2c0 cap_q2c0)], arr a_q2c0 m_q2c0 cap_q2c0 3 1 D.i64 s_1, box b_q3 72 [.clo (.func 127) [] [.ref (ATy.d c1), .v (.pointer (some ⟨b_q2, 0, none⟩)), .v (.pointer (some ⟨b_q3, 0, none⟩))]]]) := ET FU hm
def Bn (t1 : ATy) : Nat -> (Int × (List Int)) -> Option (Out Bool (List Int))
 | 0, _ => none
 | n + 1, (x1, l2) =>
  bif (decide (x1 < (t1.l.length : Int))) then
   (AZ t1 FU x1 l2).bind fun (x2, z1) =>
   bif (!x2) then
    some (Out.ret false)
   else
    grd (InR (x1 + 1)) <|
    Bn t1 n ((x1 + 1), z1)
  else
   some (Out.go (l2))
def B9 (t1 : ATy) : Option Bool :=
 grd (0 <= (t1.l.length : Int)) <|
 grd (((t1.l.length : Int)).toNat * 8 <= 140737488355328) <|
 ((Bn t1 FU (0, (List.replicate ((t1.l.length : Int)).toNat (0 : Int))) : Option (Out Bool (List Int)))).bind (fun oo => oo.on (fun r1 => some r1) (fun l1 =>
 some true))
theorem IP {t1 : ATy} {r_1 : Bool} (hm : B9 t1 = some r_1) : Fn0 Tryz.prog 92 [ATy.d t1] (.bool r_1) := by
 unfold B9 at hm;refine Ae func92 Uj ntmps92 Uj fun H0 fr w0 => ?_;refine zq10 ?_;obtain ⟨hg1, hm⟩ := Aa hm;obtain ⟨hg2, hm⟩ := Aa hm;refine An Uj Uj Uj (Fv (f := D.i64) (z0 := 0) underlying25 type3 Uj Uj Uj (nB Uj) rfl Uj hg1 hg2 (nB Uj)) ?_;rintro _ _ ⟨a_r1, m_r1, cap_r1, rfl, rfl⟩;refine TV fun b1 => ?_;refine zst 0 ?_;refine Ag (ms' := [box b1 25 [_], _]) rfl ?_;refine zq3 ?_;refine TU fun b2 => ?_;refine zq3 ?_;refine Ah Uj Uj Uj (BU Uj Uj) ?_;refine zst 0 ?_;refine Ag (ms' := [box b2 72 [_], box b1 25 [_], _]) rfl ?_;refine zq9 ?_;obtain ⟨o_1, hj1, hm1⟩ := bS hm;refine Ak [] [(0, _)] (fun (st : (List Int)) (hid : Unit) => match st, hid with | l1, _ => []) (fun F (st : (List Int)) (hid : Unit) => match st, hid with | l1, _ => [(nthF F 0), box b1 25 [.v (.slice a_r1 m_r1 cap_r1)], arr a_r1 m_r1 cap_r1 3 1 D.i64 l1]) (fun st => Out.go (st) = o_1) trivial ⟨rfl, trivial⟩ ?_ ?_
 ·refine Aj ?_
  refine Ai [(4, _), (13, _)] [(0, _)] (fun (st : (Int × (List Int))) (hid : Unit) => match st, hid with | (x1, l2), _ => [(14, .i64 x1)]) (fun F (st : (Int × (List Int))) (hid : Unit) => match st, hid with | (x1, l2), _ => [(nthF F 0), box b1 25 [.v (.slice a_r1 m_r1 cap_r1)], arr a_r1 m_r1 cap_r1 3 1 D.i64 l2]) () hj1 (fun _ => rfl) ⟨rfl, rfl, trivial⟩ ⟨rfl, trivial⟩ ⟨rfl, trivial⟩ rfl ?_;rintro n ⟨x1, l2⟩ ⟨⟩ hj1;rw [Bn] at hj1;refine Av (L' := [(14, .i64 x1), (4, _), (13, _)]) (ms' := [_, box b1 25 [.v (.slice a_r1 m_r1 cap_r1)], arr a_r1 m_r1 cap_r1 3 1 D.i64 l2]) rfl Uj ?_;refine zq5 ?_;refine zcn hj1 (fun hc1 hj1 => ?_) (fun hc1 hj1 => ?_)
  ·refine zq12 ?_
   obtain ⟨⟨x2, z1⟩, hx3, hj1⟩ := bS hj1;refine An Uj Uj Uj (Kl [1, 2, 0] rfl Uj Uj (CJ Uj (CJ Uj (CJ Uj DF))) (Ed call127 (Hy hx3)) (by rintro _ _ ⟨rfl, rfl⟩; rfl)) ?_;rintro _ _ ⟨_, ⟨rfl, rfl⟩, rfl⟩;refine Ag (ms' := [box b2 72 [_], box b1 25 [_], _]) rfl ?_;refine zq2 ?_;refine zcn hj1 (fun hc2 hj1 => ?_) (fun hc2 hj1 => ?_)
   ·refine zq4 ?_
    refine Af ?_;obtain rfl := Ad hj1
    replace hm1 := BT hm1
    cases hm1; exact zr1
   ·refine zq2 ?_
    obtain ⟨hg4, hj1⟩ := Aa hj1;refine zq3 ?_;exact ⟨_, (), hj1, ⟨rfl, trivial⟩, ⟨rfl, rfl, trivial⟩, [], rfl⟩
  ·refine Ap ?_
   exact ⟨_, (), Ad hj1, trivial, trivial, [], rfl⟩
 ·rintro l1 ⟨⟩ hst
  subst hst
  replace hm1 := Dq hm1
  refine Aq (L' := []) (ms' := [_, box b1 25 [.v (.slice a_r1 m_r1 cap_r1)], arr a_r1 m_r1 cap_r1 3 1 D.i64 l1]) rfl Uj ?_;refine zq4 ?_
  cases hm1; exact Af zr1
def Bt (t1 : ATy) : Option Int :=
 bif ((decide ((t1.l.length : Int) = 0)) || (decide (2000 < (t1.l.length : Int)))) then
  some 8
 else
  bif ((decide (t1.root < 0)) || (decide ((t1.l.length : Int) <= t1.root))) then
   some 4
  else
   (Ox t1.l (fun y0 => C1 y0 t1)).bind fun x1 =>
   (bif x1 then (some true) else ((B9 t1).bind fun x2 =>
   some (!x2))).bind fun p1 =>
   bif p1 then
    some 4
   else
    some 0
theorem EB {t1 : ATy} {r_1 : Int} (hm : Bt t1 = some r_1) : Fn0 Tryz.prog 53 [ATy.d t1] (.i64 r_1) := by
 unfold Bt at hm;refine Ae func53 Uj ntmps53 Uj fun H0 fr w0 => ?_;refine zq14 ?_
 apply BC [(1, _)] 5 13 (t := 8) ⟨rfl, trivial⟩ rfl
 ·intro hg_1 hk1
  refine zq5 ?_;exact zgm hk1
 ·intro hg_1 hk1
  refine zq5 ?_;exact zgm hk1
 refine zq2 ?_;refine zcn hm (fun hc1 hm => ?_) (fun hc1 hm => ?_)
 ·refine zq4 ?_
  cases hm; exact Af zr1
 ·refine zq6 ?_
  apply BC [(1, _)] 7 25 (t := 18) ⟨rfl, trivial⟩ rfl
  ·intro hg_2 hk2
   refine zq7 ?_;exact zgm hk2
  ·intro hg_2 hk2
   refine zq7 ?_;exact zgm hk2
  refine zq2 ?_;refine zcn hm (fun hc2 hm => ?_) (fun hc2 hm => ?_)
  ·refine zq4 ?_
   cases hm; exact Af zr1
  ·refine zq6 ?_
   refine Ah Uj Uj Uj (BU Uj Uj) ?_;obtain ⟨x1, hx1, hm⟩ := bS hm;refine Ah Uj Uj Uj (A2 call89 Uj (Uc (fun _ _ h => Ed call90 (Mo h)) hx1)) ?_;refine zq1 ?_;obtain ⟨p1, hp_3, hm⟩ := bS hm;refine AP [] 4 34 p1 (t := 30) trivial Uj (fun hg_3 hk3 => ?_) (fun hg_3 hk3 => ?_) ?_
   ·replace hp_3 := AR hg_3 hp_3
    refine zq4 ?_;exact zgb hk3 hp_3
   ·replace hp_3 := AQ hg_3 hp_3
    refine zq1 ?_;obtain ⟨x2, hx2, hp_3⟩ := bS hp_3;refine zcw (IP hx2) ?_;refine zq2 ?_;exact zgb hk3 hp_3
   refine gNl ?_;refine zcn hm (fun hc3 hm => ?_) (fun hc3 hm => ?_)
   ·refine zq4 ?_
    cases hm; exact Af zr1
   ·refine zq5 ?_
    cases hm; exact Af zr1
def GJ  : Nat -> (Int × Int × (List Int)) -> Option (List Int)
 | 0, _ => none
 | n + 1, (i1, j1, l1) =>
  bif (decide (i1 < j1)) then
   (idx l1 j1).bind fun x1 =>
   (idx l1 i1).bind fun x2 =>
   (idx l1 i1).bind fun x3 =>
   (idx l1 j1).bind fun x4 =>
   (idx (l1.set (i1).toNat x1) j1).bind fun x5 =>
   grd (InR (i1 + 1)) <|
   grd (InR (j1 - 1)) <|
   GJ n ((i1 + 1), (j1 - 1), ((l1.set (i1).toNat x1).set (j1).toNat x2))
  else
   some l1
def O7 (s1 : (List Int))  : Option (List Int) :=
 grd (InR ((s1.length : Int) - 1)) <|
 GJ FU (0, ((s1.length : Int) - 1), s1)
theorem T9 {s1 : (List Int)}  {s_1 : (List Int)} {a_q0 : Option Addr} {m_q0 cap_q0 : Nat} (hm : O7 s1 = some s_1) : Go.V.Fn Tryz.prog 139 [.v (.slice a_q0 m_q0 cap_q0)] [arr a_q0 m_q0 cap_q0 3 1 D.i64 s1] (fun d ms' => d = .tup [] /\ ms' = [arr a_q0 m_q0 cap_q0 3 1 D.i64 s_1]) := by
 unfold O7 at hm;refine Ae func139 Uj ntmps139 Uj fun H0 fr w0 => ?_;refine zq3 ?_;refine Ah Uj Uj Uj (BR 0 runUnderlying25 Uj Uj) ?_;obtain ⟨hg1, hm⟩ := Aa hm;refine zq5 ?_;refine Ai [(0, _)] [] (fun (st : (Int × Int × (List Int))) (hid : Unit) => match st, hid with | (i1, j1, l1), _ => [(2, .i64 i1), (3, .i64 j1)]) (fun F (st : (Int × Int × (List Int))) (hid : Unit) => match st, hid with | (i1, j1, l1), _ => [arr a_q0 m_q0 cap_q0 3 1 D.i64 l1]) () hm (fun _ => rfl) ⟨rfl, trivial⟩ trivial ⟨rfl, rfl, trivial⟩ rfl ?_;rintro n ⟨i1, j1, l1⟩ ⟨⟩ hm;rw [GJ] at hm;refine Av (L' := [(2, .i64 i1), (3, .i64 j1), (0, _)]) (ms' := [arr a_q0 m_q0 cap_q0 3 1 D.i64 l1]) rfl Uj ?_;refine zq7 ?_;refine zcn hm (fun hc1 hm => ?_) (fun hc1 hm => ?_)
 ·refine zq3 ?_
  obtain ⟨x1, hx2, hm⟩ := bS hm;obtain ⟨x2, hx3, hm⟩ := bS hm;obtain ⟨x3, hx4, hm⟩ := bS hm;obtain ⟨x4, hx5, hm⟩ := bS hm;obtain ⟨x5, hx6, hm⟩ := bS hm;refine Du [13, 15] [2, 3, 14] [14] AC (by decide +kernel) (by decide +kernel) rfl ?_;refine Ar Uj Uj Uj Uj Uj Uj (oMv Uj) ?_;refine Ar Uj Uj Uj Uj Uj Uj (oMv Uj) ?_;refine Ar Uj Uj Uj Uj Uj Uj (oMv Uj) ?_;refine Ar Uj Uj Uj Uj Uj Uj (oMv Uj) ?_;refine Ar Uj Uj Uj Uj Uj Uj (oMv Uj) ?_;refine Ar Uj Uj Uj Uj Uj Uj (oMv Uj) ?_;refine Ar Uj Uj Uj Uj Uj Uj (At 0 runUnderlying25 sizeOf3 Uj Uj Uj hx2) ?_;refine Ar Uj Uj Uj Uj Uj Uj (AW (off := 0) 0 isAgg3 Uj Uj (Ao hx2).2 rfl Uj Uj) ?_;refine Ar Uj Uj Uj Uj Uj Uj (oMv Uj) ?_;refine Ar Uj Uj Uj Uj Uj Uj (oMv Uj) ?_;refine Ar Uj Uj Uj Uj Uj Uj (At 0 runUnderlying25 sizeOf3 Uj Uj Uj hx3) ?_;refine Ar Uj Uj Uj Uj Uj Uj (AW (off := 0) 0 isAgg3 Uj Uj (Ao hx3).2 rfl Uj Uj) ?_;refine Ar Uj Uj Uj Uj Uj Uj (At 0 runUnderlying25 sizeOf3 Uj Uj Uj hx4) ?_;refine Ds Uj ?_;refine MS Uj Uj Uj Uj Uj (E2 0 runUnderlying25 sizeOf3 Uj Uj Uj (by first | exact Hs hx5 | exact Dm (Hs hx5) | exact Dm (Dm (Hs hx5)))) ?_;refine Ds Uj ?_;refine Es ?_;refine Cn Uj Uj Uj (BD (off := 0) (z' := x1) 0 sizeOf3 Uj Uj (Ao hx4).2 rfl Uj Uj Uj Uj Uj (nB Uj) rfl Uj) ?_;rintro _ _ rfl;refine ⟨⟨trivial, E2 0 runUnderlying25 sizeOf3 Uj Uj Uj (by first | exact Hs hx5 | exact Dm (Hs hx5) | exact Dm (Dm (Hs hx5)))⟩, ?_⟩;refine Cn Uj Uj Uj (BD (off := 0) (z' := x2) 0 sizeOf3 Uj Uj (Ao hx6).2 rfl Uj Uj Uj Uj Uj (nB Uj) rfl Uj) ?_;rintro _ _ rfl;refine ⟨⟨trivial, E2 0 runUnderlying25 sizeOf3 Uj Uj Uj (by first | exact Hs hx5 | exact Dm (Hs hx5) | exact Dm (Dm (Hs hx5)))⟩, ?_⟩;refine BH ?_;refine zq2 ?_;obtain ⟨hg7, hm⟩ := Aa hm;refine zq2 ?_;obtain ⟨hg8, hm⟩ := Aa hm;refine zq4 ?_;exact ⟨_, (), hm, ⟨rfl, rfl, trivial⟩, ⟨rfl, trivial⟩, [], rfl⟩
 ·refine Ap ?_
  obtain rfl := Ad hm;exact retKn (HK rfl (permA 0 rfl permN)) ⟨rfl, rfl⟩
def DQ (c1 : ATy) : Nat -> ((List Int) × (List Bool)) -> Option (List Int)
 | 0, _ => none
 | n + 1, (l1, l2) =>
  bif (decide (0 < (l1.length : Int))) then
   grd (InR ((l1.length : Int) - 1)) <|
   (idx l1 ((l1.length : Int) - 1)).bind fun x1 =>
   grd (InR ((l1.length : Int) - 1)) <|
   (sli l1 0 ((l1.length : Int) - 1)).bind fun l3 =>
   (idx l2 x1).bind fun x2 =>
   bif x2 then
    DQ c1 n (l3, l2)
   else
    (idx l2 x1).bind fun x3 =>
    ((idx c1.l x1).bind fun x4 =>
    (Dp x4).bind fun x5 =>
    grd (x5.length * 8 <= 140737488355328) <|
    (O7 x5).bind fun l4 =>
    grd ((l3.length + l4.length) * 8 <= 140737488355328) <|
    DQ c1 n ((l3 ++ l4), (l2.set (x1).toNat true))).bind fun ys => some (x1 :: ys)
  else
   some []
def Hj (c1 : ATy) (c2 : Int) : Option (List Int) :=
 grd (0 <= (c1.l.length : Int)) <|
 grd (((c1.l.length : Int)).toNat * 1 <= 140737488355328) <|
 DQ c1 FU ([c2], (List.replicate ((c1.l.length : Int)).toNat (false : Bool)))
theorem ON {c1 : ATy} {c2 : Int} {xs : (List Int)} (hm : Hj c1 c2 = some xs) : Iter Tryz.prog 138 [.ref (ATy.d c1), .ref (.i64 c2)] (xs.map fun (p : Int) => [.i64 p]) := by
 intro y hys J Jx hy tl_0 hJ_0
 have hk_0 : 0 <= xs.length := Nat.zero_le _
 replace hm : _ = some (xs.drop 0) := hm
 unfold Hj at hm;refine Ae func138 Uj ntmps138 Uj fun H0 fr w0 => ?_;refine zq5 ?_;obtain ⟨hg1, hm⟩ := Aa hm;obtain ⟨hg2, hm⟩ := Aa hm;refine An Uj Uj Uj (Fv (f := D.bool) (z0 := false) underlying77 type4 Uj Uj Uj (nB Uj) rfl Uj hg1 hg2 (nB Uj)) ?_;rintro _ _ ⟨a_r1, m_r1, cap_r1, rfl, rfl⟩;refine zq5 ?_;refine An Uj Uj Uj (Fc (xs := [_]) (f := D.i64) (l := [_]) runUnderlying25 sizeOf3 zeroValue3 Uj Uj Uj (fun _ => ⟨rfl, rfl, rfl⟩) rfl (by simp [maxLen])) ?_;rintro _ _ ⟨a_r2, m_r2, cap_r2, rfl, rfl⟩;refine zq3 ?_;refine R6 (fun (hid : {p : Nat × List Asrt // p.1 <= xs.length /\ J p.1 p.2} × (Option Addr × Nat × Nat) × Unit) => xs.drop hid.1.1.1) [(0, _), (1, _), (4, _)] [] (fun (st : ((List Int) × (List Bool))) (hid : {p : Nat × List Asrt // p.1 <= xs.length /\ J p.1 p.2} × (Option Addr × Nat × Nat) × Unit) => match st, hid with | (l1, l2), (⟨(k_3, tl_3), hk_3, hJ_3⟩, (a_r2, m_r2, cap_r2), _) => [(5, .v (.slice a_r2 m_r2 cap_r2))]) (fun F (st : ((List Int) × (List Bool))) (hid : {p : Nat × List Asrt // p.1 <= xs.length /\ J p.1 p.2} × (Option Addr × Nat × Nat) × Unit) => match st, hid with | (l1, l2), (⟨(k_3, tl_3), hk_3, hJ_3⟩, (a_r2, m_r2, cap_r2), _) => [arr a_r2 m_r2 cap_r2 3 1 D.i64 l1, arr a_r1 m_r1 cap_r1 4 1 D.bool l2] ++ tl_3) (⟨(0, tl_0), hk_0, hJ_0⟩, (_, _, _), ()) hm Uj (fun _ => rfl) ⟨rfl, rfl, rfl, trivial⟩ trivial ⟨rfl, trivial⟩ rfl ?_;rintro n ⟨l1, l2⟩ ⟨⟨⟨k_3, tl_3⟩, hk_3, hJ_3⟩, ⟨a_r2, m_r2, cap_r2⟩, ⟨⟩⟩ hm
 replace hm : _ = some (xs.drop k_3) := hm
 rw [DQ] at hm;refine Av (L' := [(5, .v (.slice a_r2 m_r2 cap_r2)), (0, _), (1, _), (4, _)]) (ms' := [arr a_r2 m_r2 cap_r2 3 1 D.i64 l1, arr a_r1 m_r1 cap_r1 4 1 D.bool l2] ++ tl_3) rfl Uj ?_;refine zq4 ?_;refine Ah Uj Uj Uj (BR 0 runUnderlying25 Uj Uj) ?_;refine zq2 ?_;refine zcn hm (fun hc1 hm => ?_) (fun hc1 hm => ?_)
 ·refine zq6 ?_
  refine Ah Uj Uj Uj (BR 0 runUnderlying25 Uj Uj) ?_;obtain ⟨hg3, hm⟩ := Aa hm;refine zq1 ?_;obtain ⟨x1, hx4, hm⟩ := bS hm;refine Ah Uj Uj Uj (At 0 runUnderlying25 sizeOf3 Uj Uj Uj hx4) ?_;refine Ah Uj Uj Uj (AW (off := 0) 0 isAgg3 Uj Uj (Ao hx4).2 rfl Uj Uj) ?_;refine zq6 ?_;refine Ah Uj Uj Uj (BR 0 runUnderlying25 Uj Uj) ?_;obtain ⟨hg5, hm⟩ := Aa hm;refine zq1 ?_;obtain ⟨l3, hx6, hm⟩ := bS hm;refine An Uj Uj Uj (GC 0 runUnderlying25 sizeOf3 Uj Uj Uj hx6) ?_;rintro _ _ ⟨a_r2, m_r2, cap_r2, rfl, rfl⟩;refine zq7 ?_;obtain ⟨x2, hx7, hm⟩ := bS hm;refine Ah Uj Uj Uj (At 1 runUnderlying77 sizeOf4 Uj Uj Uj hx7) ?_;refine Ah Uj Uj Uj (AW (off := 0) 1 isAgg4 Uj Uj (Ao hx7).2 rfl Uj Uj) ?_;refine gNl ?_;refine zcn hm (fun hc2 hm => ?_) (fun hc2 hm => ?_)
  ·refine Ap ?_
   exact ⟨_, (⟨(k_3, tl_3), hk_3, hJ_3⟩, (_, _, _), ()), hm, ⟨rfl, trivial⟩, ⟨rfl, rfl, rfl, trivial⟩, [], rfl⟩
  ·refine zq5 ?_
   obtain ⟨x3, hx8, hm⟩ := bS hm;refine Ah Uj Uj Uj (At 1 runUnderlying77 sizeOf4 Uj Uj Uj hx8) ?_;refine Gk Uj Uj (BD (off := 0) (z' := true) 1 sizeOf4 Uj Uj (Ao hx8).2 rfl Uj Uj Uj Uj Uj (nB Uj) rfl Uj) ?_;rintro _ _ rfl;refine Ag (ms' := [_, _] ++ tl_3) rfl ?_;refine zq6 ?_;obtain ⟨ys_4, hm, he_4⟩ := bS hm;obtain ⟨hy_4, hk_4, rfl⟩ := Sg he_4;refine An Uj Uj Uj (S9 [_, _] tl_3 Uj Uj (hy k_3 _ tl_3 (TT hy_4) hJ_3)) ?_;rintro _ _ ⟨_ | _, tl_4, rfl, rfl, hJ_4, hs_4⟩
   ·refine zq2 ?_
    refine EG Uj Uj ?_;refine Af ?_;exact retK (HK (ms' := tl_4) (drop := [_, _]) rfl (List.Perm.refl _)) (.inr (hs_4 Uj))
   ·refine zq2 ?_
    refine DY Uj Uj ?_;refine zq6 ?_;obtain ⟨x4, hx9, hm⟩ := bS hm;refine Ah Uj Uj Uj (oIm runUnderlying22 sizeOf44 Uj Uj hx9) ?_;refine zq1 ?_;obtain ⟨x5, hx10, hm⟩ := bS hm;refine zc0 (Ha hx10) ?_;obtain ⟨hg11, hm⟩ := Aa hm;refine An Uj Uj Uj (Cm (ms₁ := []) call97 Uj (List.Perm.refl _) (Hr hg11)) ?_;rintro _ _ ⟨_, ⟨a_r3, cap_r3, rfl, rfl⟩, rfl⟩
    generalize hm_r3 : x5.length = m_r3
    clear hm_r3
    refine zq5 ?_;obtain ⟨l4, hx12, hm⟩ := bS hm;refine An Uj Uj Uj (CU [0] call139 Uj Uj (CJ Uj DF) (T9 hx12) (by rintro _ _ ⟨rfl, rfl⟩; rfl)) ?_;rintro _ _ ⟨_, ⟨rfl, rfl⟩, rfl⟩;refine Ag (ms' := [_, _, _] ++ tl_4) rfl ?_;refine zq4 ?_;refine Gt 0 rfl Uj ?_;rintro rfl;obtain ⟨hg13, hm⟩ := Aa hm;refine An Uj Uj Uj (.view (peekE (i := 49) 0 rfl Uj Uj) (Ca (a := _) 1 underlying25 type3 Uj Uj Uj Uj Uj Uj (fun _ => rfl) (fun _ => rfl) hg13 (AA hg13 Uj))) ?_;rintro _ _ ⟨a_r2, m_r2, cap_r2, rfl, rfl⟩;refine Ag (ms' := [_, _, _] ++ tl_4) rfl ?_;refine zq2 ?_;exact ⟨_, (⟨((k_3 + 1), tl_4), hk_4, (hJ_4 Uj)⟩, (_, _, _), ()), hm, ⟨rfl, trivial⟩, ⟨rfl, rfl, rfl, trivial⟩, [_], rfl⟩
 ·refine Ap ?_
  exact retKn (HK (ms' := tl_3) (drop := [_, _]) rfl (List.Perm.refl _)) (.inl (Q0 hm hk_3 hJ_3 _))
theorem Qq {p0 : ATy} {p1 : Int} :
  Fn0 Tryz.prog 107 [ATy.d p0, .i64 p1] (.clo (.func 138) [] [.ref (ATy.d p0), .ref (.i64 p1)]) := by
 refine Ae func107 Uj ntmps107 Uj fun H0 fr w0 => ?_;refine zq8 ?_;refine Ah Uj Uj Uj (BU Uj Uj) ?_;refine zq2 ?_;refine Af ?_;exact retK (AE Uj (Bo Uj) (E7 _)) (by rfl)
def A8 (s1 : ATy) (i1 : Int) : Option Int :=
 (idx s1.l i1).bind fun x1 =>
 some x1.kind
theorem C3 {s1 : ATy} {i1 : Int} {r_1 : Int} (hm : A8 s1 i1 = some r_1) : Fn0 Tryz.prog 148 [.ref (ATy.d s1), .i64 i1] (.i64 r_1) := by
 unfold A8 at hm;refine Ae func148 Uj ntmps148 Uj fun H0 fr w0 => ?_;refine zq7 ?_;refine Ah Uj Uj Uj (Dl Uj) ?_;refine zq4 ?_;obtain ⟨x1, hx1, hm⟩ := bS hm;refine zq5 ?_
 cases hm; exact Af zr1
def Cz (i1 : Int) (c1 : ATy) (c2 : Int) : Option Bool :=
 (A8 c1 i1).bind fun x1 =>
 some (decide (x1 = c2))
theorem Ik {i1 : Int} {c1 : ATy} {c2 : Int} {r_1 : Bool} (hm : Cz i1 c1 c2 = some r_1) : Fn0 Tryz.prog 147 [.i64 i1, .ref (.ref (ATy.d c1)), .ref (.i64 c2)] (.bool r_1) := by
 unfold Cz at hm;refine Ae func147 Uj ntmps147 Uj fun H0 fr w0 => ?_;refine zq5 ?_;obtain ⟨x1, hx1, hm⟩ := bS hm;refine zdr 6 ?_;refine zq2 ?_;refine zcd (C3 hx1) ?_;refine zq5 ?_
 cases hm; exact Af zr1
def BS (s1 : ATy) (l1 : (List Int)) (kind1 : Int) : Option Bool :=
 (Jl l1 (fun y0 => Cz y0 s1 kind1)).bind fun x1 =>
 some x1
theorem F4 {s1 : ATy} {l1 : (List Int)} {kind1 : Int} {r_1 : Bool} (hm : BS s1 l1 kind1 = some r_1) : Fn0 Tryz.prog 130 [.ref (ATy.d s1), .list 1 D.i64 l1, .i64 kind1] (.bool r_1) := by
 unfold BS at hm;refine Ae func130 Uj ntmps130 Uj fun H0 fr w0 => ?_;refine zq9 ?_;refine Ah Uj Uj Uj (BU Uj Uj) ?_;obtain ⟨x1, hx1, hm⟩ := bS hm;refine Ah Uj Uj Uj (FS [] call54 Uj Uj DF (R9 (fun _ _ h => LX (Ed call147 (Ik h))) hx1)) ?_;refine zq2 ?_
 cases hm; exact Af zr1
def BW (i1 : Int) (c1 : ATy) : Option Bool :=
 (A8 c1 i1).bind fun x1 =>
 (bif (decide (x1 = 9)) then (some true) else ((A8 c1 i1).bind fun x2 =>
 some (decide (x2 = 10)))).bind fun p1 =>
 some p1
theorem Gx {i1 : Int} {c1 : ATy} {r_1 : Bool} (hm : BW i1 c1 = some r_1) : Fn0 Tryz.prog 176 [.i64 i1, .ref (.ref (ATy.d c1))] (.bool r_1) := by
 unfold BW at hm;refine Ae func176 Uj ntmps176 Uj fun H0 fr w0 => ?_;refine zq8 ?_;obtain ⟨x1, hx1, hm⟩ := bS hm;refine zc0 (C3 hx1) ?_;refine zq2 ?_;obtain ⟨p1, hp_1, hm⟩ := bS hm;refine AP [] 5 13 p1 (t := 8) trivial Uj (fun hg_1 hk1 => ?_) (fun hg_1 hk1 => ?_) ?_
 ·replace hp_1 := AR hg_1 hp_1
  refine zq5 ?_;exact zgb hk1 hp_1
 ·replace hp_1 := AQ hg_1 hp_1
  refine zq2 ?_;obtain ⟨x2, hx2, hp_1⟩ := bS hp_1;refine zcw (C3 hx2) ?_;refine zq2 ?_;exact zgb hk1 hp_1
 refine zq2 ?_
 cases hm; exact Af zr1
theorem KB : ∀ fs, (∀ w, (underlying 44).run Tryz.prog w = .ok (.struct fs) w) -> Fq Tryz.prog fs [(0, 1), (1, 1), (2, 1), (3, 1)] := by
 intro fs h w
 have := (h w).symm.trans (runUnderlying44 w)
 simp only [Result.ok.injEq, TypeDesc.struct.injEq, and_true] at this;subst this
 simp [sizeOf3, sizeOf42, Sem.run]
def Bj (s1 : ATy) (l1 : (List Int)) : Option (ANd × (List Int) × Bool) :=
 (K7 l1 (fun y0 => BW y0 s1)).bind fun x1 =>
 bif (decide (x1 < 0)) then
  some ((⟨0, 0, 0, ([] : List AFd)⟩ : ANd), [], false)
 else
  (idx l1 x1).bind fun x2 =>
  (idx s1.l x2).bind fun x3 =>
  grd (l1.length * 8 <= 140737488355328) <|
  grd (InR (x1 + 1)) <|
  grd (0 <= x1) <|
  grd (x1 <= (x1 + 1)) <|
  grd ((x1 + 1) <= (l1.length : Int)) <|
  grd (l1 ≠ []) <|
  some ((⟨x3.kind, x3.a, x3.b, x3.l⟩ : ANd), (List.take (x1).toNat l1 ++ List.drop ((x1 + 1)).toNat l1), true)
theorem EO {s1 : ATy} {l1 : (List Int)} {r_1 : ANd} {r_2 : (List Int)} {r_3 : Bool} (hm : Bj s1 l1 = some (r_1, r_2, r_3)) : Fn0 Tryz.prog 149 [.ref (ATy.d s1), .list 1 D.i64 l1] (.tup [ANd.d r_1, .list 1 D.i64 r_2, .bool r_3]) := by
 unfold Bj at hm;refine Ae func149 Uj ntmps149 Uj fun H0 fr w0 => ?_;refine zq3 ?_;refine DL fun b1 => ?_;refine zq1 ?_;refine Am (nilE (i := 5) (sz := 1) (f := D.i64) rfl).refines ?_;refine zq5 ?_;refine Ah Uj Uj Uj (BU Uj Uj) ?_;obtain ⟨x1, hx1, hm⟩ := bS hm;refine Ah Uj Uj Uj (FS [] call93 Uj Uj DF (Ty (fun _ _ h => LX (Ed call176 (Gx h))) hx1)) ?_;refine zq8 ?_;refine zcn hm (fun hc1 hm => ?_) (fun hc1 hm => ?_)
 ·refine zq2 ?_
  refine Ah Uj Uj Uj (Aw (zs := [.v (.int .i64 0), .v (.int .i64 0), .v (.int .i64 0), .list 2 AFd.d []]) runUnderlying44 zeroValue44 (KB _ runUnderlying44) rfl Uj Uj Uj) ?_;refine zst 0 ?_;refine Ag (ms' := [box b1 44 [_, _, _, _]]) rfl ?_;refine zq1 ?_;refine Am (nilE (i := 5) (sz := 1) (f := D.i64) rfl).refines ?_;refine zq2 ?_
  cases hm; exact Af zr3
 ·refine zq2 ?_
  obtain ⟨x2, hx2, hm⟩ := bS hm;obtain ⟨x3, hx3, hm⟩ := bS hm;obtain ⟨hg4, hm⟩ := Aa hm;obtain ⟨hg5, hm⟩ := Aa hm;obtain ⟨hg6, hm⟩ := Aa hm;obtain ⟨hg7, hm⟩ := Aa hm;obtain ⟨hg8, hm⟩ := Aa hm;obtain ⟨hg9, hm⟩ := Aa hm;refine Du [12, 16, 17, 18] [0, 1, 2, 3, 4, 5, 6, 7, 8, 9, 10, 13, 14, 15, 19] [] AC (by decide +kernel) (by decide +kernel) rfl ?_;refine Ar Uj Uj Uj Uj Uj Uj (Bm isAgg110 Uj Uj) ?_;refine Ar Uj Uj Uj Uj Uj Uj (Dl Uj) ?_;refine Ar Uj Uj Uj Uj Uj Uj (oFa OE Uj Uj Uj) ?_;refine Ar Uj Uj Uj Uj Uj Uj (oFa DH Uj Uj Uj) ?_;refine Ar Uj Uj Uj Uj Uj Uj (Bm isAgg22 Uj Uj) ?_;refine Ar Uj Uj Uj Uj Uj Uj (oMv Uj) ?_;refine Ar Uj Uj Uj Uj Uj Uj (oMv Uj) ?_;refine Ar Uj Uj Uj Uj Uj Uj (oIm runUnderlying25 sizeOf3 Uj Uj hx2) ?_;refine Ar Uj Uj Uj Uj Uj Uj (Bm isAgg3 Uj Uj) ?_;refine Ar Uj Uj Uj Uj Uj Uj (oIm runUnderlying22 sizeOf44 Uj Uj hx3) ?_;refine Ar Uj Uj Uj Uj Uj Uj (Bq isAgg44 sizeOf44 Uj Uj) ?_;refine Ar Uj Uj Uj Uj Uj Uj (oMv Uj) ?_;refine Ds Uj ?_;refine Ar Uj Uj Uj Uj Uj Uj (oMv Uj) ?_;refine Ar Uj Uj Uj Uj Uj Uj (oMv Uj) ?_;refine Ar Uj Uj Uj Uj Uj Uj (RO Uj Uj (GB hg5)) ?_;refine Ds Uj ?_;refine Ds Uj ?_;refine Ds Uj ?_;refine Ar Uj Uj Uj Uj Uj Uj (oAs Uj) ?_;refine Es ?_;refine F6 Uj Uj Uj Uj (Cm (ms₁ := []) call97 Uj (List.Perm.refl _) (Hr hg4)) ?_;rintro _ _ ⟨_, ⟨a_r1, cap_r1, rfl, rfl⟩, rfl⟩
  generalize hm_r1 : l1.length = m_r1
  clear hm_r1
  refine ⟨(trivial : True), ?_⟩;refine F6 Uj Uj Uj Uj (CU [0] call177 Uj Uj (CJ Uj DF) (QS hg6 hg7 hg8 hg9) (by rintro _ _ ⟨_, _, rfl⟩; rfl)) ?_;rintro _ _ ⟨_, ⟨m_r1, rfl, rfl⟩, rfl⟩
  show _ /\ GDE2 _ _ _ _ _ _ _ _ ([_, box b1 44 [_, _, _, _]])
  refine ⟨(trivial : True), ?_⟩;refine Cn Uj Uj Uj (oSb 1 sizeOf44 Uj Uj Uj Uj Uj Uj Uj Uj (nB Uj)) ?_;rintro _ _ rfl;refine ⟨(trivial : True), ?_⟩;refine F6 Uj Uj Uj Uj (oAs Uj) ?_;rintro _ _ ⟨rfl, rfl⟩;refine ⟨(trivial : True), ?_⟩;refine BH ?_;refine Kg 0 rfl Uj ?_;rintro rfl;refine BL (peekE (i := 5) 0 rfl Uj Uj).refines ?_
  cases hm; exact Af zr3
def G3 (slices1 : (List (List Int))) : Nat -> (Int × Int) -> Option Int
 | 0, _ => none
 | n + 1, (size2, x1) =>
  bif (decide (x1 < (slices1.length : Int))) then
   (idx slices1 x1).bind fun x2 =>
   grd (InR (size2 + (x2.length : Int))) <|
   bif (decide ((size2 + (x2.length : Int)) < 0)) then
    none
   else
    grd (InR (x1 + 1)) <|
    G3 slices1 n ((size2 + (x2.length : Int)), (x1 + 1))
  else
   some size2
def GU (slices1 : (List (List Int))) : Nat -> (Int × (List Int)) -> Option (List Int)
 | 0, _ => none
 | n + 1, (x3, l2) =>
  bif (decide (x3 < (slices1.length : Int))) then
   (idx slices1 x3).bind fun x4 =>
   grd ((l2.length + x4.length) * 8 <= 140737488355328) <|
   grd (InR (x3 + 1)) <|
   GU slices1 n ((x3 + 1), (l2 ++ x4))
  else
   some l2
def Oo (slices1 : (List (List Int))) : Option (List Int) :=
 (G3 slices1 FU (0, 0) : Option Int).bind fun size1 =>
 grd (0 <= size1) <|
 grd ((size1).toNat * 8 <= 140737488355328) <|
 (GU slices1 FU (0, ([] : List Int)) : Option (List Int)).bind fun l1 =>
 some l1
theorem T4 {slices1 : (List (List Int))} {r_1 : (List Int)} (hm : Oo slices1 = some r_1) : Fn0 Tryz.prog 55 [.list 1 (D.list 1 D.i64) slices1] (.list 1 D.i64 r_1) := by
 unfold Oo at hm;refine Ae func55 Uj ntmps55 Uj fun H0 fr w0 => ?_;refine zq3 ?_;refine Am (nilE (i := 2) (sz := 1) (f := D.i64) rfl).refines ?_;refine zq12 ?_;obtain ⟨o_1, hj1, hm1⟩ := bS hm;refine Ak [(0, _)] [] (fun (st : Int) (hid : Unit) => match st, hid with | size1, _ => [(3, .i64 size1)]) (fun F (st : Int) (hid : Unit) => match st, hid with | size1, _ => []) (fun st => st = o_1) ⟨rfl, trivial⟩ trivial ?_ ?_
 ·refine Aj ?_
  refine Ai [(0, _), (9, _), (10, _)] [] (fun (st : (Int × Int)) (hid : Unit) => match st, hid with | (size2, x1), _ => [(3, .i64 size2), (11, .i64 x1)]) (fun F (st : (Int × Int)) (hid : Unit) => match st, hid with | (size2, x1), _ => []) () hj1 (fun _ => rfl) ⟨rfl, rfl, rfl, trivial⟩ trivial ⟨rfl, rfl, trivial⟩ rfl ?_;rintro n ⟨size2, x1⟩ _ hj1;rw [G3] at hj1;refine Av (L' := [(3, .i64 size2), (11, .i64 x1), (0, _), (9, _), (10, _)]) (ms' := []) rfl Uj ?_;refine zq5 ?_;refine zcn hj1 (fun hc1 hj1 => ?_) (fun hc1 hj1 => ?_)
  ·refine zq5 ?_
   obtain ⟨x2, hx1, hj1⟩ := bS hj1;refine zq9 ?_;obtain ⟨hg2, hj1⟩ := Aa hj1;refine zq8 ?_;refine zcn hj1 (fun hc2 hj1 => ?_) (fun hc2 hj1 => ?_)
   ·cases hj1
   ·refine zq2 ?_
    obtain ⟨hg3, hj1⟩ := Aa hj1;refine zq3 ?_;exact ⟨_, (), hj1, ⟨rfl, rfl, trivial⟩, ⟨rfl, rfl, rfl, trivial⟩, [], rfl⟩
  ·refine Ap ?_
   exact ⟨_, (), Ad hj1, ⟨rfl, trivial⟩, ⟨rfl, trivial⟩, [], rfl⟩
 ·rintro size1 _ hst
  subst hst;refine Aq (L' := [(3, .i64 size1), (0, _)]) (ms' := []) rfl Uj ?_;refine zq3 ?_;obtain ⟨hg4, hm1⟩ := Aa hm1;obtain ⟨hg5, hm1⟩ := Aa hm1;refine An Uj Uj Uj (Cm (ms₁ := []) call94 Uj (List.Perm.refl _) (QT hg4 hg5)) ?_;rintro _ _ ⟨_, ⟨a_r1, cap_r1, rfl, rfl⟩, rfl⟩;refine zq9 ?_;obtain ⟨o_2, hj2, hm2⟩ := bS hm1;refine Ak [] [] (fun (st : (List Int)) (hid : (Option Addr × Nat)) => match st, hid with | l1, (a_r1, cap_r1) => [(6, .v (.slice a_r1 l1.length cap_r1))]) (fun F (st : (List Int)) (hid : (Option Addr × Nat)) => match st, hid with | l1, (a_r1, cap_r1) => [row a_r1 cap_r1 3 1 D.i64 l1]) (fun st => st = o_2) trivial trivial ?_ ?_
  ·refine Aj ?_
   refine Ai [(25, _), (26, _)] [] (fun (st : (Int × (List Int))) (hid : (Option Addr × Nat)) => match st, hid with | (x3, l2), (a_r1, cap_r1) => [(6, .v (.slice a_r1 l2.length cap_r1)), (27, .i64 x3)]) (fun F (st : (Int × (List Int))) (hid : (Option Addr × Nat)) => match st, hid with | (x3, l2), (a_r1, cap_r1) => [row a_r1 cap_r1 3 1 D.i64 l2]) (_, _) hj2 (fun _ => rfl) ⟨rfl, rfl, trivial⟩ trivial ⟨rfl, rfl, trivial⟩ rfl ?_;rintro n ⟨x3, l2⟩ ⟨a_r1, cap_r1⟩ hj2;rw [GU] at hj2;refine Av (L' := [(6, .v (.slice a_r1 l2.length cap_r1)), (27, .i64 x3), (25, _), (26, _)]) (ms' := [row a_r1 cap_r1 3 1 D.i64 l2]) rfl Uj ?_;refine zq5 ?_;refine zcn hj2 (fun hc3 hj2 => ?_) (fun hc3 hj2 => ?_)
   ·refine zq5 ?_
    obtain ⟨x4, hx6, hj2⟩ := bS hj2;refine zq7 ?_;obtain ⟨hg7, hj2⟩ := Aa hj2;refine An Uj Uj Uj (AB (a := _) 0 underlying25 type3 Uj Uj Uj Uj Uj Uj Uj (fun _ => rfl) (fun _ => rfl) hg7 (AA hg7 Uj)) ?_;rintro _ _ ⟨a_r1, cap_r1, rfl, rfl⟩;refine Ag (ms' := [_]) rfl ?_;refine zq3 ?_;obtain ⟨hg8, hj2⟩ := Aa hj2;refine zq3 ?_;exact ⟨_, (_, _), hj2, ⟨rfl, rfl, trivial⟩, ⟨rfl, rfl, trivial⟩, [], rfl⟩
   ·refine Ap ?_
    exact ⟨_, (_, _), Ad hj2, ⟨rfl, trivial⟩, trivial, [], rfl⟩
  ·rintro l1 ⟨a_r1, cap_r1⟩ hst
   subst hst;refine Aq (L' := [(6, .v (.slice a_r1 l1.length cap_r1))]) (ms' := [row a_r1 cap_r1 3 1 D.i64 l1]) rfl Uj ?_;refine zq5 ?_;refine BL (peekE (i := 2) 0 rfl Uj Uj).refines ?_
   cases hm2; exact Af zr1
def AK (l1 : (List Int)) : Option (List Int) :=
 grd (l1.length * 8 <= 140737488355328) <|
 grd (l1.length < 4611686018427387904) <|
 some (Lib.compact (List.mergeSort l1 fun x y => decide (x <= y)))
theorem CD {l1 : (List Int)} {r_1 : (List Int)} (hm : AK l1 = some r_1) : Fn0 Tryz.prog 58 [.list 1 D.i64 l1] (.list 1 D.i64 r_1) := by
 unfold AK at hm;refine Ae func58 Uj ntmps58 Uj fun H0 fr w0 => ?_;refine zq3 ?_;refine Am (nilE (i := 2) (sz := 1) (f := D.i64) rfl).refines ?_;refine zq4 ?_;obtain ⟨hg1, hm⟩ := Aa hm;refine An Uj Uj Uj (Cm (ms₁ := []) call97 Uj (List.Perm.refl _) (Hr hg1)) ?_;rintro _ _ ⟨_, ⟨a_r1, cap_r1, rfl, rfl⟩, rfl⟩
 generalize hm_r1 : l1.length = m_r1
 clear hm_r1
 refine zq5 ?_;obtain ⟨hg2, hm⟩ := Aa hm;refine An Uj Uj Uj (CU [0] call98 Uj Uj (CJ Uj DF) (P3 hg2) (by rintro _ _ ⟨_, rfl⟩; rfl)) ?_;rintro _ _ ⟨_, ⟨rfl, rfl⟩, rfl⟩;refine Ag (ms' := [_]) rfl ?_;refine zq4 ?_;refine An Uj Uj Uj (CU [0] call99 Uj Uj (CJ Uj DF) Lo (by rintro _ _ ⟨_, _, rfl⟩; rfl)) ?_;rintro _ _ ⟨_, ⟨m_r1, rfl, rfl⟩, rfl⟩;refine Ag (ms' := [_]) rfl ?_;refine zq2 ?_;refine Kg 0 rfl Uj ?_;rintro rfl;refine BL (peekE (i := 2) 0 rfl Uj Uj).refines ?_
 cases hm; exact Af zr1
def BX (l1 : (List Int)) (more1 : (List Int)) : Option (List Int) :=
 (Oo [l1, more1]).bind fun x1 =>
 (AK x1).bind fun x2 =>
 some x2
theorem D7 {l1 : (List Int)} {more1 : (List Int)} {r_1 : (List Int)} (hm : BX l1 more1 = some r_1) : Fn0 Tryz.prog 150 [.list 1 D.i64 l1, .list 1 D.i64 more1] (.list 1 D.i64 r_1) := by
 unfold BX at hm;refine Ae func150 Uj ntmps150 Uj fun H0 fr w0 => ?_;refine zq3 ?_;refine Am (nilE (i := 4) (sz := 1) (f := D.i64) rfl).refines ?_;refine zq5 ?_;refine Ah Uj Uj Uj (Ac (xs := [_, _]) (f := (D.list 1 D.i64)) (l := [_, _]) runUnderlying85 sizeOf25 zeroValue25 Uj Uj Uj (fun _ => ⟨rfl, rfl, rfl⟩) rfl) ?_;obtain ⟨x1, hx1, hm⟩ := bS hm;refine zc0 (T4 hx1) ?_;obtain ⟨x2, hx2, hm⟩ := bS hm;refine zc0 (CD hx2) ?_;refine zq2 ?_
 cases hm; exact Af zr1
theorem Hw : ∀ fs, (∀ w, (underlying 75).run Tryz.prog w = .ok (.struct fs) w) -> Fq Tryz.prog fs [(0, 1), (1, 1)] := by
 intro fs h w
 have := (h w).symm.trans (runUnderlying75 w)
 simp only [Result.ok.injEq, TypeDesc.struct.injEq, and_true] at this;subst this
 simp [sizeOf25, Sem.run]
theorem EA : ∀ fs, (∀ w, (underlying 117).run Tryz.prog w = .ok (.struct fs) w) -> Fq Tryz.prog fs [(0, 1), (1, 1)] := by
 intro fs h w
 have := (h w).symm.trans (runUnderlying117 w)
 simp only [Result.ok.injEq, TypeDesc.struct.injEq, and_true] at this;subst this
 simp [sizeOf112, sizeOf4, Sem.run]
def BM (s1 : ATy) (q1 : BSq) : Option (BAn × Bool) :=
 (Bj s1 q1.left).bind fun (x1, x2, x3) =>
 bif x3 then
  bif (decide (x1.kind = 10)) then
   (BX x2 [x1.a, x1.b]).bind fun x4 =>
   some ((⟨[(⟨x4, q1.right⟩ : BSq)], false⟩ : BAn), true)
  else
   (BX x2 [x1.a]).bind fun x5 =>
   (BX x2 [x1.b]).bind fun x6 =>
   some ((⟨[(⟨x5, q1.right⟩ : BSq), (⟨x6, q1.right⟩ : BSq)], false⟩ : BAn), true)
 else
  (Bj s1 q1.right).bind fun (x7, x8, x9) =>
  bif x9 then
   bif (decide (x7.kind = 9)) then
    (BX x8 [x7.a, x7.b]).bind fun x10 =>
    some ((⟨[(⟨q1.left, x10⟩ : BSq)], false⟩ : BAn), true)
   else
    (BX x8 [x7.a]).bind fun x11 =>
    (BX x8 [x7.b]).bind fun x12 =>
    some ((⟨[(⟨q1.left, x11⟩ : BSq), (⟨q1.left, x12⟩ : BSq)], false⟩ : BAn), true)
  else
   some ((⟨([] : List BSq), false⟩ : BAn), false)
theorem HE {s1 : ATy} {q1 : BSq} {r_1 : BAn} {r_2 : Bool} (hm : BM s1 q1 = some (r_1, r_2)) : Fn0 Tryz.prog 131 [.ref (ATy.d s1), BSq.d q1] (.tup [BAn.d r_1, .bool r_2]) := by
 unfold BM at hm;refine Ae func131 Uj ntmps131 Uj fun H0 fr w0 => ?_;refine zq3 ?_;refine Jr fun b1 => ?_;refine zq8 ?_;obtain ⟨⟨x1, x2, x3⟩, hx1, hm⟩ := bS hm;refine zc0 (EO hx1) ?_;refine zq4 ?_;refine DL fun b2 => ?_;refine zst 0 ?_;refine Ag (ms' := [box b2 44 [_, _, _, _], box b1 117 [_, _]]) rfl ?_;refine zq7 ?_;refine zcn hm (fun hc1 hm => ?_) (fun hc1 hm => ?_)
 ·refine zq7 ?_
  refine zcn hm (fun hc2 hm => ?_) (fun hc2 hm => ?_)
  ·refine AO ?_
   obtain ⟨x4, hx2, hm⟩ := bS hm;refine zdr 12 ?_;refine zq5 ?_;refine Az Uj Uj Uj (Ac (xs := [_, _]) (f := D.i64) (l := [_, _]) runUnderlying25 sizeOf3 zeroValue3 Uj Uj Uj (fun _ => ⟨rfl, rfl, rfl⟩) rfl) ?_;refine zcd (D7 hx2) ?_;refine zq2 ?_;refine Az Uj Uj Uj (Aw (zs := [.list 1 D.i64 [], .list 1 D.i64 []]) runUnderlying75 zeroValue75 (Hw _ runUnderlying75) rfl Uj Uj Uj) ?_;refine Az Uj Uj Uj (Ac (xs := [_]) (f := BSq.d) (l := [(⟨x4, q1.right⟩ : BSq)]) runUnderlying112 sizeOf75 zeroValue75 Uj Uj Uj (fun _ => ⟨rfl, rfl, rfl⟩) rfl) ?_;refine Az Uj Uj Uj (Aw (zs := [.list 2 BSq.d [], .bool false]) runUnderlying117 zeroValue117 (EA _ runUnderlying117) rfl Uj Uj Uj) ?_;refine Cq ?_;refine zst 1 ?_;refine Ag (ms' := [box b2 44 [_, _, _, _], box b1 117 [_, _]]) rfl ?_;refine zq2 ?_
   cases hm; exact Af zr2
  ·refine zq2 ?_
   obtain ⟨x5, hx3, hm⟩ := bS hm;obtain ⟨x6, hx4, hm⟩ := bS hm;refine zdr 18 ?_;refine zq3 ?_;refine Az Uj Uj Uj (Ac (xs := [_]) (f := D.i64) (l := [_]) runUnderlying25 sizeOf3 zeroValue3 Uj Uj Uj (fun _ => ⟨rfl, rfl, rfl⟩) rfl) ?_;refine zcd (D7 hx3) ?_;refine zq2 ?_;refine Az Uj Uj Uj (Aw (zs := [.list 1 D.i64 [], .list 1 D.i64 []]) runUnderlying75 zeroValue75 (Hw _ runUnderlying75) rfl Uj Uj Uj) ?_;refine zq3 ?_;refine Az Uj Uj Uj (Ac (xs := [_]) (f := D.i64) (l := [_]) runUnderlying25 sizeOf3 zeroValue3 Uj Uj Uj (fun _ => ⟨rfl, rfl, rfl⟩) rfl) ?_;refine zcd (D7 hx4) ?_;refine zq2 ?_;refine Az Uj Uj Uj (Aw (zs := [.list 1 D.i64 [], .list 1 D.i64 []]) runUnderlying75 zeroValue75 (Hw _ runUnderlying75) rfl Uj Uj Uj) ?_;refine Az Uj Uj Uj (Ac (xs := [_, _]) (f := BSq.d) (l := [(⟨x5, q1.right⟩ : BSq), (⟨x6, q1.right⟩ : BSq)]) runUnderlying112 sizeOf75 zeroValue75 Uj Uj Uj (fun _ => ⟨rfl, rfl, rfl⟩) rfl) ?_;refine Az Uj Uj Uj (Aw (zs := [.list 2 BSq.d [], .bool false]) runUnderlying117 zeroValue117 (EA _ runUnderlying117) rfl Uj Uj Uj) ?_;refine Cq ?_;refine zst 1 ?_;refine Ag (ms' := [box b2 44 [_, _, _, _], box b1 117 [_, _]]) rfl ?_;refine zq2 ?_
   cases hm; exact Af zr2
 ·refine zq7 ?_
  obtain ⟨⟨x7, x8, x9⟩, hx5, hm⟩ := bS hm;refine zc0 (EO hx5) ?_;refine zq4 ?_;refine DL fun b3 => ?_;refine zst 0 ?_;refine Ag (ms' := [box b3 44 [_, _, _, _], box b2 44 [_, _, _, _], box b1 117 [_, _]]) rfl ?_;refine zq7 ?_;refine zcn hm (fun hc3 hm => ?_) (fun hc3 hm => ?_)
  ·refine zq7 ?_
   refine zcn hm (fun hc4 hm => ?_) (fun hc4 hm => ?_)
   ·refine AO ?_
    obtain ⟨x10, hx6, hm⟩ := bS hm;refine zdr 12 ?_;refine zq7 ?_;refine Az Uj Uj Uj (Ac (xs := [_, _]) (f := D.i64) (l := [_, _]) runUnderlying25 sizeOf3 zeroValue3 Uj Uj Uj (fun _ => ⟨rfl, rfl, rfl⟩) rfl) ?_;refine zcd (D7 hx6) ?_;refine Az Uj Uj Uj (Aw (zs := [.list 1 D.i64 [], .list 1 D.i64 []]) runUnderlying75 zeroValue75 (Hw _ runUnderlying75) rfl Uj Uj Uj) ?_;refine Az Uj Uj Uj (Ac (xs := [_]) (f := BSq.d) (l := [(⟨q1.left, x10⟩ : BSq)]) runUnderlying112 sizeOf75 zeroValue75 Uj Uj Uj (fun _ => ⟨rfl, rfl, rfl⟩) rfl) ?_;refine Az Uj Uj Uj (Aw (zs := [.list 2 BSq.d [], .bool false]) runUnderlying117 zeroValue117 (EA _ runUnderlying117) rfl Uj Uj Uj) ?_;refine Cq ?_;refine zst 2 ?_;refine Ag (ms' := [box b3 44 [_, _, _, _], box b2 44 [_, _, _, _], box b1 117 [_, _]]) rfl ?_;refine zq2 ?_
    cases hm; exact Af zr2
   ·refine zq2 ?_
    obtain ⟨x11, hx7, hm⟩ := bS hm;obtain ⟨x12, hx8, hm⟩ := bS hm;refine zdr 18 ?_;refine zq5 ?_;refine Az Uj Uj Uj (Ac (xs := [_]) (f := D.i64) (l := [_]) runUnderlying25 sizeOf3 zeroValue3 Uj Uj Uj (fun _ => ⟨rfl, rfl, rfl⟩) rfl) ?_;refine zcd (D7 hx7) ?_;refine Az Uj Uj Uj (Aw (zs := [.list 1 D.i64 [], .list 1 D.i64 []]) runUnderlying75 zeroValue75 (Hw _ runUnderlying75) rfl Uj Uj Uj) ?_;refine zq5 ?_;refine Az Uj Uj Uj (Ac (xs := [_]) (f := D.i64) (l := [_]) runUnderlying25 sizeOf3 zeroValue3 Uj Uj Uj (fun _ => ⟨rfl, rfl, rfl⟩) rfl) ?_;refine zcd (D7 hx8) ?_;refine Az Uj Uj Uj (Aw (zs := [.list 1 D.i64 [], .list 1 D.i64 []]) runUnderlying75 zeroValue75 (Hw _ runUnderlying75) rfl Uj Uj Uj) ?_;refine Az Uj Uj Uj (Ac (xs := [_, _]) (f := BSq.d) (l := [(⟨q1.left, x11⟩ : BSq), (⟨q1.left, x12⟩ : BSq)]) runUnderlying112 sizeOf75 zeroValue75 Uj Uj Uj (fun _ => ⟨rfl, rfl, rfl⟩) rfl) ?_;refine Az Uj Uj Uj (Aw (zs := [.list 2 BSq.d [], .bool false]) runUnderlying117 zeroValue117 (EA _ runUnderlying117) rfl Uj Uj Uj) ?_;refine Cq ?_;refine zst 2 ?_;refine Ag (ms' := [box b3 44 [_, _, _, _], box b2 44 [_, _, _, _], box b1 117 [_, _]]) rfl ?_;refine zq2 ?_
    cases hm; exact Af zr2
  ·refine zq3 ?_
   refine Ah Uj Uj Uj (Aw (zs := [.list 2 BSq.d [], .bool false]) runUnderlying117 zeroValue117 (EA _ runUnderlying117) rfl Uj Uj Uj) ?_;refine zst 2 ?_;refine Ag (ms' := [box b3 44 [_, _, _, _], box b2 44 [_, _, _, _], box b1 117 [_, _]]) rfl ?_;refine zq2 ?_
   cases hm; exact Af zr2
def B5 (i1 : Int) (c1 : ATy) (z1 : (List (Int × Bool))) : Option Bool :=
 (idx c1.l i1).bind fun x1 =>
 some ((decide (x1.kind = 11)) && ((mget z1 x1.a).getD (false : Bool)))
theorem G2 {i1 : Int} {c1 : ATy} {z1 : (List (Int × Bool))} {r_1 : Bool} {b_q2 : Nat} (hm : B5 i1 c1 z1 = some r_1) : FnT Tryz.prog 151 [.i64 i1, .ref (.ref (ATy.d c1)), .ref (.v (.map (some b_q2)))] [mp b_q2 kI64 D.bool z1] (.bool r_1) := by
 unfold B5 at hm;refine Ae func151 Uj ntmps151 Uj fun H0 fr w0 => ?_;refine zq7 ?_;refine Ah Uj Uj Uj (Dl Uj) ?_;refine zq4 ?_;obtain ⟨x1, hx1, hm⟩ := bS hm;refine zq2 ?_;refine DL fun b1 => ?_;refine zst 0 ?_;refine Ag (ms' := [box b1 44 [_, _, _, _], _]) rfl ?_;refine zq7 ?_
 apply Bw [] 5 22 (t := 17) trivial rfl
 ·intro hg_1 hk1
  refine zq3 ?_;refine gWp Uj Uj Uj hg_1 Uj Uj (Fu (z0 := (false : Bool)) 1 runUnderlying150 (NE underlying3) zeroValue4 (fun _ => conc_v.2 Uj) rfl Uj Uj) ?_;refine zq1 ?_;exact zgm hk1
 ·intro hg_1 hk1
  refine zq5 ?_;exact zgm hk1
 refine zq2 ?_;refine Af ?_;exact retK (AE (ms' := [_]) (drop := [_]) rfl (Bo Uj) (permA 1 rfl permN)) ⟨congrArg (fun (p : Bool) => (.bool p : D)) (Ad hm), rfl⟩
def AV (s1 : ATy) (q1 : BSq) : Nat -> (Int × (List (Int × Bool))) -> Option (List (Int × Bool))
 | 0, _ => none
 | n + 1, (x1, mm2) =>
  bif (decide (x1 < (q1.left.length : Int))) then
   (idx q1.left x1).bind fun x2 =>
   (idx s1.l x2).bind fun x3 =>
   bif (decide (x3.kind = 11)) then
    grd (InR (x1 + 1)) <|
    AV s1 q1 n ((x1 + 1), (mset mm2 x3.a true))
   else
    grd (InR (x1 + 1)) <|
    AV s1 q1 n ((x1 + 1), mm2)
  else
   some mm2
def BN (s1 : ATy) (q1 : BSq) : Option Bool :=
 (AV s1 q1 FU (0, ([] : List (Int × Bool))) : Option (List (Int × Bool))).bind fun mm1 =>
 (Jl q1.right (fun y0 => B5 y0 s1 mm1)).bind fun x4 =>
 some x4
theorem Hx {s1 : ATy} {q1 : BSq} {r_1 : Bool} (hm : BN s1 q1 = some r_1) : Fn0 Tryz.prog 132 [.ref (ATy.d s1), BSq.d q1] (.bool r_1) := by
 unfold BN at hm;refine Ae func132 Uj ntmps132 Uj fun H0 fr w0 => ?_;refine zq8 ?_;refine An Uj Uj Uj (IM (fk := kI64) (fv := D.bool)) ?_;rintro _ _ ⟨b1, rfl, rfl⟩;refine Tl fun b2 => ?_;refine zst 0 ?_;refine Ag (ms' := [box b2 150 [_], _]) rfl ?_;refine Am (DJ (d := .v (.map (some b1))) 0 5 rfl Uj Uj Uj) ?_;refine zq9 ?_;obtain ⟨o_1, hj1, hm1⟩ := bS hm;refine Ak [(2, _), (3, _), (5, _)] [] (fun (st : (List (Int × Bool))) (hid : Unit) => match st, hid with | mm1, _ => []) (fun F (st : (List (Int × Bool))) (hid : Unit) => match st, hid with | mm1, _ => [mp b1 kI64 D.bool mm1]) (fun st => st = o_1) ⟨rfl, rfl, rfl, trivial⟩ trivial ?_ ?_
 ·refine Aj ?_
  refine Ai [(2, _), (3, _), (5, _), (11, _), (12, _)] [] (fun (st : (Int × (List (Int × Bool)))) (hid : Unit) => match st, hid with | (x1, mm2), _ => [(13, .i64 x1)]) (fun F (st : (Int × (List (Int × Bool)))) (hid : Unit) => match st, hid with | (x1, mm2), _ => [mp b1 kI64 D.bool mm2]) () hj1 (fun _ => rfl) ⟨rfl, rfl, rfl, rfl, rfl, trivial⟩ trivial ⟨rfl, trivial⟩ rfl ?_;rintro n ⟨x1, mm2⟩ _ hj1;rw [AV] at hj1;refine Av (L' := [(13, .i64 x1), (2, _), (3, _), (5, _), (11, _), (12, _)]) (ms' := [mp b1 kI64 D.bool mm2]) rfl Uj ?_;refine zq5 ?_;refine zcn hj1 (fun hc1 hj1 => ?_) (fun hc1 hj1 => ?_)
  ·refine zq5 ?_
   obtain ⟨x2, hx1, hj1⟩ := bS hj1;refine zq7 ?_;refine Ah Uj Uj Uj (Dl Uj) ?_;refine zq4 ?_;obtain ⟨x3, hx2, hj1⟩ := bS hj1;refine zq2 ?_;refine DL fun b3 => ?_;refine zst 0 ?_;refine Ag (ms' := [box b3 44 [_, _, _, _], _]) rfl ?_;refine zq7 ?_;refine zcn hj1 (fun hc2 hj1 => ?_) (fun hc2 hj1 => ?_)
   ·refine zq4 ?_
    refine Gk Uj Uj (Gs (v := true) 1 runUnderlying150 (NE underlying3) rfl Uj Uj Uj) ?_;rintro _ _ rfl;refine zq2 ?_;obtain ⟨hg3, hj1⟩ := Aa hj1;refine zq3 ?_;exact ⟨_, (), hj1, ⟨rfl, trivial⟩, ⟨rfl, rfl, rfl, rfl, rfl, trivial⟩, [_], rfl⟩
   ·refine zq2 ?_
    obtain ⟨hg4, hj1⟩ := Aa hj1;refine zq3 ?_;exact ⟨_, (), hj1, ⟨rfl, trivial⟩, ⟨rfl, rfl, rfl, rfl, rfl, trivial⟩, [_], rfl⟩
  ·refine Ap ?_
   exact ⟨_, (), Ad hj1, trivial, ⟨rfl, rfl, rfl, trivial⟩, [], rfl⟩
 ·rintro mm1 _ hst
  subst hst;refine Aq (L' := [(2, _), (3, _), (5, _)]) (ms' := [mp b1 kI64 D.bool mm1]) rfl Uj ?_;refine zq4 ?_;refine Ah Uj Uj Uj (BU Uj Uj) ?_;obtain ⟨x4, hx5, hm1⟩ := bS hm1;refine Ah Uj Uj Uj (FS [0] call54 Uj Uj (CJ Uj DF) (R9 (fun _ _ h => Ed call151 (G2 h)) hx5)) ?_;refine zq2 ?_
  cases hm1; exact Af zr1
def A1 (s1 : ATy) (l1 : (List Int)) : Nat -> (Int × Int) -> Option (Out (Int × Bool) Int)
 | 0, _ => none
 | n + 1, (kind2, x1) =>
  bif (decide (x1 < (l1.length : Int))) then
   (idx l1 x1).bind fun x2 =>
   (A8 s1 x2).bind fun x3 =>
   bif ((decide (x3 = 11)) || (decide (x3 = 1))) then
    grd (InR (x1 + 1)) <|
    A1 s1 l1 n (kind2, (x1 + 1))
   else
    bif ((!decide (kind2 = 0)) && (!decide (x3 = kind2))) then
     some (Out.ret (kind2, true))
    else
     grd (InR (x1 + 1)) <|
     A1 s1 l1 n (x3, (x1 + 1))
  else
   some (Out.go (kind2))
def B1 (s1 : ATy) (l1 : (List Int)) : Option (Int × Bool) :=
 ((A1 s1 l1 FU (0, 0) : Option (Out (Int × Bool) Int))).bind (fun oo => oo.on (fun r1 => some r1) (fun kind1 =>
 some (kind1, false)))
theorem HS {s1 : ATy} {l1 : (List Int)} {r_1 : Int} {r_2 : Bool} (hm : B1 s1 l1 = some (r_1, r_2)) : Fn0 Tryz.prog 152 [.ref (ATy.d s1), .list 1 D.i64 l1] (.tup [.i64 r_1, .bool r_2]) := by
 unfold B1 at hm;refine Ae func152 Uj ntmps152 Uj fun H0 fr w0 => ?_;refine zq12 ?_;obtain ⟨o_1, hj1, hm1⟩ := bS hm;refine Ak [] [] (fun (st : Int) (hid : Unit) => match st, hid with | kind1, _ => [(4, .i64 kind1)]) (fun F (st : Int) (hid : Unit) => match st, hid with | kind1, _ => []) (fun st => Out.go (st) = o_1) trivial trivial ?_ ?_
 ·refine Aj ?_
  refine Ai [(0, _), (9, _), (10, _)] [] (fun (st : (Int × Int)) (hid : Unit) => match st, hid with | (kind2, x1), _ => [(4, .i64 kind2), (11, .i64 x1)]) (fun F (st : (Int × Int)) (hid : Unit) => match st, hid with | (kind2, x1), _ => []) () hj1 (fun _ => rfl) ⟨rfl, rfl, rfl, trivial⟩ trivial ⟨rfl, rfl, trivial⟩ rfl ?_;rintro n ⟨kind2, x1⟩ _ hj1;rw [A1] at hj1;refine Av (L' := [(4, .i64 kind2), (11, .i64 x1), (0, _), (9, _), (10, _)]) (ms' := []) rfl Uj ?_;refine zq5 ?_;refine zcn hj1 (fun hc1 hj1 => ?_) (fun hc1 hj1 => ?_)
  ·refine zq5 ?_
   obtain ⟨x2, hx1, hj1⟩ := bS hj1;refine zq8 ?_;obtain ⟨x3, hx2, hj1⟩ := bS hj1;refine zc0 (C3 hx2) ?_;refine zq8 ?_
   apply BC [(0, _), (4, _), (8, _), (9, _), (10, _), (11, _)] 3 23 (t := 20) ⟨rfl, rfl, rfl, rfl, rfl, rfl, trivial⟩ rfl
   ·intro hg_1 hk1
    refine zq3 ?_;exact zgm hk1
   ·intro hg_1 hk1
    refine zq3 ?_;exact zgm hk1
   refine gNl ?_;refine zcn hj1 (fun hc2 hj1 => ?_) (fun hc2 hj1 => ?_)
   ·refine Ap ?_
    refine gRg ?_;obtain ⟨hg3, hj1⟩ := Aa hj1;refine zq3 ?_;exact ⟨_, (), hj1, ⟨rfl, rfl, trivial⟩, ⟨rfl, rfl, rfl, trivial⟩, [], rfl⟩
   ·refine zq7 ?_
    apply Bw [(0, _), (4, _), (8, _), (9, _), (10, _), (11, _)] 4 30 (t := 26) ⟨rfl, rfl, rfl, rfl, rfl, rfl, trivial⟩ rfl
    ·intro hg_2 hk2
     refine zq4 ?_;exact zgm hk2
    ·intro hg_2 hk2
     refine zq4 ?_;exact zgm hk2
    refine gNl ?_;refine zcn hj1 (fun hc3 hj1 => ?_) (fun hc3 hj1 => ?_)
    ·refine zq6 ?_
     refine Af ?_;obtain rfl := Ad hj1
     replace hm1 := BT hm1
     cases hm1; exact zr2
    ·refine zq6 ?_
     obtain ⟨hg4, hj1⟩ := Aa hj1;refine zq3 ?_;exact ⟨_, (), hj1, ⟨rfl, rfl, trivial⟩, ⟨rfl, rfl, rfl, trivial⟩, [], rfl⟩
  ·refine Ap ?_
   exact ⟨_, (), Ad hj1, ⟨rfl, trivial⟩, trivial, [], rfl⟩
 ·rintro kind1 _ hst
  subst hst
  replace hm1 := Dq hm1
  refine Aq (L' := [(4, .i64 kind1)]) (ms' := []) rfl Uj ?_;refine zq6 ?_
  cases hm1; exact Af zr2
def A7 (s1 : ATy) (q1 : BSq) : Nat -> (Int × (List Int) × (List Int) × (List Int) × (List Int)) -> Option ((List Int) × (List Int) × (List Int) × (List Int))
 | 0, _ => none
 | n + 1, (x1, l5, l6, l7, l8) =>
  bif (decide (x1 < (q1.left.length : Int))) then
   (idx q1.left x1).bind fun x2 =>
   (idx s1.l x2).bind fun x3 =>
   grd ((l7.length + ([x3.a] : List _).length) * 8 <= 140737488355328) <|
   (idx s1.l x2).bind fun x4 =>
   grd ((l6.length + ([x4.b] : List _).length) * 8 <= 140737488355328) <|
   grd (InR (x1 + 1)) <|
   A7 s1 q1 n ((x1 + 1), l5, (l6 ++ [x4.b]), (l7 ++ [x3.a]), l8)
  else
   some (l5, l6, l7, l8)
def A6 (s1 : ATy) (q1 : BSq) : Nat -> (Int × (List Int) × (List Int) × (List Int) × (List Int)) -> Option ((List Int) × (List Int) × (List Int) × (List Int))
 | 0, _ => none
 | n + 1, (x5, l13, l14, l15, l16) =>
  bif (decide (x5 < (q1.right.length : Int))) then
   (idx q1.right x5).bind fun x6 =>
   (idx s1.l x6).bind fun x7 =>
   grd ((l16.length + ([x7.a] : List _).length) * 8 <= 140737488355328) <|
   (idx s1.l x6).bind fun x8 =>
   grd ((l13.length + ([x8.b] : List _).length) * 8 <= 140737488355328) <|
   grd (InR (x5 + 1)) <|
   A6 s1 q1 n ((x5 + 1), (l13 ++ [x8.b]), l14, l15, (l16 ++ [x7.a]))
  else
   some (l13, l14, l15, l16)
def Bv (s1 : ATy) (q1 : BSq) : Option BAn :=
 bif (decide ((q1.right.length : Int) = 0)) then
  some (⟨([] : List BSq), true⟩ : BAn)
 else
  (A7 s1 q1 FU (0, [], [], [], []) : Option ((List Int) × (List Int) × (List Int) × (List Int))).bind fun (l1, l2, l3, l4) =>
  (A6 s1 q1 FU (0, l1, l2, l3, l4) : Option ((List Int) × (List Int) × (List Int) × (List Int))).bind fun (l9, l10, l11, l12) =>
  (AK l12).bind fun x9 =>
  (AK l11).bind fun x10 =>
  (AK l10).bind fun x11 =>
  (AK l9).bind fun x12 =>
  some (⟨[(⟨x9, x10⟩ : BSq), (⟨x11, x12⟩ : BSq)], false⟩ : BAn)
theorem HC {s1 : ATy} {q1 : BSq} {r_1 : BAn} (hm : Bv s1 q1 = some r_1) : Fn0 Tryz.prog 155 [.ref (ATy.d s1), BSq.d q1] (BAn.d r_1) := by
 unfold Bv at hm;refine Ae func155 Uj ntmps155 Uj fun H0 fr w0 => ?_;refine zq3 ?_;refine Jr fun b1 => ?_;refine zq9 ?_;refine zcn hm (fun hc1 hm => ?_) (fun hc1 hm => ?_)
 ·refine zq2 ?_
  refine Ah Uj Uj Uj (Aw (zs := [.list 2 BSq.d [], .bool false]) runUnderlying117 zeroValue117 (EA _ runUnderlying117) rfl Uj Uj Uj) ?_;refine zst 0 ?_;refine Ag (ms' := [box b1 117 [_, _]]) rfl ?_;refine gNl ?_
  cases hm; exact Af zr1
 ·refine zq3 ?_
  refine Rq fun b2 => ?_;refine Am (AF (T := 3) (sz := 1) (f := D.i64)) ?_;refine Am (AF (T := 3) (sz := 1) (f := D.i64)) ?_;refine Rq fun b3 => ?_;refine Am (AF (T := 3) (sz := 1) (f := D.i64)) ?_;refine Am (AF (T := 3) (sz := 1) (f := D.i64)) ?_;refine zq9 ?_;obtain ⟨o_1, hj1, hm1⟩ := bS hm;refine Ak [(0, _), (3, _), (4, _), (5, _), (6, _)] [(6, _)] (fun (st : ((List Int) × (List Int) × (List Int) × (List Int))) (hid : (Option Addr × Nat) × (Option Addr × Nat) × (Option Addr × Nat) × (Option Addr × Nat)) => match st, hid with | (l1, l2, l3, l4), ((a_r4, cap_r4), (a_r3, cap_r3), (a_r2, cap_r2), (a_r1, cap_r1)) => []) (fun F (st : ((List Int) × (List Int) × (List Int) × (List Int))) (hid : (Option Addr × Nat) × (Option Addr × Nat) × (Option Addr × Nat) × (Option Addr × Nat)) => match st, hid with | (l1, l2, l3, l4), ((a_r4, cap_r4), (a_r3, cap_r3), (a_r2, cap_r2), (a_r1, cap_r1)) => [row a_r4 cap_r4 3 1 D.i64 l1, row a_r3 cap_r3 3 1 D.i64 l2, box b3 75 [.v (.slice a_r3 l2.length cap_r3), .v (.slice a_r4 l1.length cap_r4)], row a_r2 cap_r2 3 1 D.i64 l3, row a_r1 cap_r1 3 1 D.i64 l4, box b2 75 [.v (.slice a_r1 l4.length cap_r1), .v (.slice a_r2 l3.length cap_r2)], (nthF F 0)]) (fun st => st = o_1) ⟨rfl, rfl, rfl, rfl, rfl, trivial⟩ ⟨rfl, trivial⟩ ?_ ?_
  ·refine Aj ?_
   refine Ai [(0, _), (3, _), (4, _), (5, _), (6, _), (17, _), (18, _)] [(6, _)] (fun (st : (Int × (List Int) × (List Int) × (List Int) × (List Int))) (hid : (Option Addr × Nat) × (Option Addr × Nat) × (Option Addr × Nat) × (Option Addr × Nat)) => match st, hid with | (x1, l5, l6, l7, l8), ((a_r4, cap_r4), (a_r3, cap_r3), (a_r2, cap_r2), (a_r1, cap_r1)) => [(19, .i64 x1)]) (fun F (st : (Int × (List Int) × (List Int) × (List Int) × (List Int))) (hid : (Option Addr × Nat) × (Option Addr × Nat) × (Option Addr × Nat) × (Option Addr × Nat)) => match st, hid with | (x1, l5, l6, l7, l8), ((a_r4, cap_r4), (a_r3, cap_r3), (a_r2, cap_r2), (a_r1, cap_r1)) => [row a_r4 cap_r4 3 1 D.i64 l5, row a_r3 cap_r3 3 1 D.i64 l6, box b3 75 [.v (.slice a_r3 l6.length cap_r3), .v (.slice a_r4 l5.length cap_r4)], row a_r2 cap_r2 3 1 D.i64 l7, row a_r1 cap_r1 3 1 D.i64 l8, box b2 75 [.v (.slice a_r1 l8.length cap_r1), .v (.slice a_r2 l7.length cap_r2)], (nthF F 0)]) ((_, _), (_, _), (_, _), (_, _)) hj1 (fun _ => rfl) ⟨rfl, rfl, rfl, rfl, rfl, rfl, rfl, trivial⟩ ⟨rfl, trivial⟩ ⟨rfl, trivial⟩ rfl ?_;rintro n ⟨x1, l5, l6, l7, l8⟩ ⟨⟨a_r4, cap_r4⟩, ⟨a_r3, cap_r3⟩, ⟨a_r2, cap_r2⟩, ⟨a_r1, cap_r1⟩⟩ hj1;rw [A7] at hj1;refine Av (L' := [(19, .i64 x1), (0, _), (3, _), (4, _), (5, _), (6, _), (17, _), (18, _)]) (ms' := [row a_r4 cap_r4 3 1 D.i64 l5, row a_r3 cap_r3 3 1 D.i64 l6, box b3 75 [.v (.slice a_r3 l6.length cap_r3), .v (.slice a_r4 l5.length cap_r4)], row a_r2 cap_r2 3 1 D.i64 l7, row a_r1 cap_r1 3 1 D.i64 l8, box b2 75 [.v (.slice a_r1 l8.length cap_r1), .v (.slice a_r2 l7.length cap_r2)], _]) rfl Uj ?_;refine zq5 ?_;refine zcn hj1 (fun hc2 hj1 => ?_) (fun hc2 hj1 => ?_)
   ·refine zq5 ?_
    obtain ⟨x2, hx1, hj1⟩ := bS hj1;refine Ah Uj Uj Uj (oIm runUnderlying25 sizeOf3 Uj Uj hx1) ?_;refine zq3 ?_;obtain ⟨x3, hx2, hj1⟩ := bS hj1;obtain ⟨hg3, hj1⟩ := Aa hj1;obtain ⟨x4, hx4, hj1⟩ := bS hj1;obtain ⟨hg5, hj1⟩ := Aa hj1;refine E6 3 [12, 25, 27, 29] [13, 14, 15, 16, 17, 18, 19, 20, 21, 22, 23, 24, 26, 28] [14] (by decide +kernel) (by decide +kernel) AC (by decide +kernel) (by decide +kernel) rfl ?_;refine zq3 ?_;refine CH Uj Uj Uj Uj Uj Uj (Dl Uj) ?_;refine zq4 ?_;refine CH Uj Uj Uj Uj Uj Uj (oIm runUnderlying22 sizeOf44 Uj Uj hx2) ?_;refine zq2 ?_;refine CH Uj Uj Uj Uj Uj Uj (Ac (xs := [_]) (f := D.i64) (l := [_]) runUnderlying25 sizeOf3 zeroValue3 Uj Uj Uj (fun _ => ⟨rfl, rfl, rfl⟩) rfl) ?_;refine Co Uj ?_;refine zq1 ?_;refine JL Uj Uj Uj Uj Uj (oLb 2 isAgg25 Uj Uj Uj Uj) ?_;refine zq1 ?_;refine CH Uj Uj Uj Uj Uj Uj (Dl Uj) ?_;refine zq4 ?_;refine CH Uj Uj Uj Uj Uj Uj (oIm runUnderlying22 sizeOf44 Uj Uj hx4) ?_;refine zq2 ?_;refine CH Uj Uj Uj Uj Uj Uj (Ac (xs := [_]) (f := D.i64) (l := [_]) runUnderlying25 sizeOf3 zeroValue3 Uj Uj Uj (fun _ => ⟨rfl, rfl, rfl⟩) rfl) ?_;refine Co Uj ?_;refine zq1 ?_;refine Co Uj ?_;refine zq1 ?_;refine Co Uj ?_;refine Hg ?_;refine Cr Uj Uj Uj Uj (AB (a := _) 3 underlying25 type3 Uj Uj Uj Uj Uj Uj Uj (fun _ => rfl) (fun _ => rfl) hg3 (AA hg3 Uj)) ?_;rintro _ _ ⟨a_r2, cap_r2, rfl, rfl⟩;refine ⟨fun _ => ⟨trivial, oLb 2 isAgg25 Uj Uj Uj rfl⟩, ?_⟩;refine Cr Uj Uj Uj Uj (AB (a := _) 1 underlying25 type3 Uj Uj Uj Uj Uj Uj Uj (fun _ => rfl) (fun _ => rfl) hg5 (AA hg5 Uj)) ?_;rintro _ _ ⟨a_r3, cap_r3, rfl, rfl⟩;refine ⟨fun hc => absurd hc (by decide), ?_⟩;refine Ic Uj Uj Uj (oSb 5 sizeOf25 Uj Uj Uj Uj Uj Uj Uj Uj (nB Uj)) ?_;rintro _ _ rfl;refine ⟨fun hc => absurd hc (by decide), ?_⟩;refine Ic Uj Uj Uj (oSb 2 sizeOf25 Uj Uj Uj Uj Uj Uj Uj Uj (nB Uj)) ?_;rintro _ _ rfl;refine ⟨fun hc => absurd hc (by decide), ?_⟩;refine Gh ?_;refine gRg ?_;obtain ⟨hg6, hj1⟩ := Aa hj1;refine zq3 ?_;exact ⟨_, ((_, _), (_, _), (_, _), (_, _)), hj1, ⟨rfl, trivial⟩, ⟨rfl, rfl, rfl, rfl, rfl, rfl, rfl, trivial⟩, [], rfl⟩
   ·refine Ap ?_
    exact ⟨_, ((_, _), (_, _), (_, _), (_, _)), Ad hj1, trivial, ⟨rfl, rfl, rfl, rfl, rfl, trivial⟩, [], rfl⟩
  ·rintro ⟨l1, l2, l3, l4⟩ ⟨⟨a_r4, cap_r4⟩, ⟨a_r3, cap_r3⟩, ⟨a_r2, cap_r2⟩, ⟨a_r1, cap_r1⟩⟩ hst
   subst hst;refine Aq (L' := [(0, _), (3, _), (4, _), (5, _), (6, _)]) (ms' := [row a_r4 cap_r4 3 1 D.i64 l1, row a_r3 cap_r3 3 1 D.i64 l2, box b3 75 [.v (.slice a_r3 l2.length cap_r3), .v (.slice a_r4 l1.length cap_r4)], row a_r2 cap_r2 3 1 D.i64 l3, row a_r1 cap_r1 3 1 D.i64 l4, box b2 75 [.v (.slice a_r1 l4.length cap_r1), .v (.slice a_r2 l3.length cap_r2)], _]) rfl Uj ?_;refine zq8 ?_;obtain ⟨o_2, hj2, hm2⟩ := bS hm1;refine Ak [(4, _), (5, _), (6, _)] [(6, _)] (fun (st : ((List Int) × (List Int) × (List Int) × (List Int))) (hid : (Option Addr × Nat) × (Option Addr × Nat) × (Option Addr × Nat) × (Option Addr × Nat)) => match st, hid with | (l9, l10, l11, l12), ((a_r4, cap_r4), (a_r3, cap_r3), (a_r2, cap_r2), (a_r1, cap_r1)) => []) (fun F (st : ((List Int) × (List Int) × (List Int) × (List Int))) (hid : (Option Addr × Nat) × (Option Addr × Nat) × (Option Addr × Nat) × (Option Addr × Nat)) => match st, hid with | (l9, l10, l11, l12), ((a_r4, cap_r4), (a_r3, cap_r3), (a_r2, cap_r2), (a_r1, cap_r1)) => [row a_r4 cap_r4 3 1 D.i64 l9, row a_r3 cap_r3 3 1 D.i64 l10, box b3 75 [.v (.slice a_r3 l10.length cap_r3), .v (.slice a_r4 l9.length cap_r4)], row a_r2 cap_r2 3 1 D.i64 l11, row a_r1 cap_r1 3 1 D.i64 l12, box b2 75 [.v (.slice a_r1 l12.length cap_r1), .v (.slice a_r2 l11.length cap_r2)], (nthF F 0)]) (fun st => st = o_2) ⟨rfl, rfl, rfl, trivial⟩ ⟨rfl, trivial⟩ ?_ ?_
   ·refine Aj ?_
    refine Ai [(0, _), (4, _), (5, _), (6, _), (53, _), (54, _)] [(6, _)] (fun (st : (Int × (List Int) × (List Int) × (List Int) × (List Int))) (hid : (Option Addr × Nat) × (Option Addr × Nat) × (Option Addr × Nat) × (Option Addr × Nat)) => match st, hid with | (x5, l13, l14, l15, l16), ((a_r4, cap_r4), (a_r3, cap_r3), (a_r2, cap_r2), (a_r1, cap_r1)) => [(55, .i64 x5)]) (fun F (st : (Int × (List Int) × (List Int) × (List Int) × (List Int))) (hid : (Option Addr × Nat) × (Option Addr × Nat) × (Option Addr × Nat) × (Option Addr × Nat)) => match st, hid with | (x5, l13, l14, l15, l16), ((a_r4, cap_r4), (a_r3, cap_r3), (a_r2, cap_r2), (a_r1, cap_r1)) => [row a_r4 cap_r4 3 1 D.i64 l13, row a_r3 cap_r3 3 1 D.i64 l14, box b3 75 [.v (.slice a_r3 l14.length cap_r3), .v (.slice a_r4 l13.length cap_r4)], row a_r2 cap_r2 3 1 D.i64 l15, row a_r1 cap_r1 3 1 D.i64 l16, box b2 75 [.v (.slice a_r1 l16.length cap_r1), .v (.slice a_r2 l15.length cap_r2)], (nthF F 0)]) ((_, _), (_, _), (_, _), (_, _)) hj2 (fun _ => rfl) ⟨rfl, rfl, rfl, rfl, rfl, rfl, trivial⟩ ⟨rfl, trivial⟩ ⟨rfl, trivial⟩ rfl ?_;rintro n ⟨x5, l13, l14, l15, l16⟩ ⟨⟨a_r4, cap_r4⟩, ⟨a_r3, cap_r3⟩, ⟨a_r2, cap_r2⟩, ⟨a_r1, cap_r1⟩⟩ hj2;rw [A6] at hj2;refine Av (L' := [(55, .i64 x5), (0, _), (4, _), (5, _), (6, _), (53, _), (54, _)]) (ms' := [row a_r4 cap_r4 3 1 D.i64 l13, row a_r3 cap_r3 3 1 D.i64 l14, box b3 75 [.v (.slice a_r3 l14.length cap_r3), .v (.slice a_r4 l13.length cap_r4)], row a_r2 cap_r2 3 1 D.i64 l15, row a_r1 cap_r1 3 1 D.i64 l16, box b2 75 [.v (.slice a_r1 l16.length cap_r1), .v (.slice a_r2 l15.length cap_r2)], _]) rfl Uj ?_;refine zq5 ?_;refine zcn hj2 (fun hc3 hj2 => ?_) (fun hc3 hj2 => ?_)
    ·refine zq5 ?_
     obtain ⟨x6, hx7, hj2⟩ := bS hj2;refine Ah Uj Uj Uj (oIm runUnderlying25 sizeOf3 Uj Uj hx7) ?_;refine zq3 ?_;obtain ⟨x7, hx8, hj2⟩ := bS hj2;obtain ⟨hg9, hj2⟩ := Aa hj2;obtain ⟨x8, hx10, hj2⟩ := bS hj2;obtain ⟨hg11, hj2⟩ := Aa hj2;refine E6 3 [12, 25, 27, 29] [13, 14, 15, 16, 17, 18, 19, 20, 21, 22, 23, 24, 26, 28] [14] (by decide +kernel) (by decide +kernel) AC (by decide +kernel) (by decide +kernel) rfl ?_;refine zq3 ?_;refine CH Uj Uj Uj Uj Uj Uj (Dl Uj) ?_;refine zq4 ?_;refine CH Uj Uj Uj Uj Uj Uj (oIm runUnderlying22 sizeOf44 Uj Uj hx8) ?_;refine zq2 ?_;refine CH Uj Uj Uj Uj Uj Uj (Ac (xs := [_]) (f := D.i64) (l := [_]) runUnderlying25 sizeOf3 zeroValue3 Uj Uj Uj (fun _ => ⟨rfl, rfl, rfl⟩) rfl) ?_;refine Co Uj ?_;refine zq1 ?_;refine JL Uj Uj Uj Uj Uj (oLb 2 isAgg25 Uj Uj Uj Uj) ?_;refine zq1 ?_;refine CH Uj Uj Uj Uj Uj Uj (Dl Uj) ?_;refine zq4 ?_;refine CH Uj Uj Uj Uj Uj Uj (oIm runUnderlying22 sizeOf44 Uj Uj hx10) ?_;refine zq2 ?_;refine CH Uj Uj Uj Uj Uj Uj (Ac (xs := [_]) (f := D.i64) (l := [_]) runUnderlying25 sizeOf3 zeroValue3 Uj Uj Uj (fun _ => ⟨rfl, rfl, rfl⟩) rfl) ?_;refine Co Uj ?_;refine zq1 ?_;refine Co Uj ?_;refine zq1 ?_;refine Co Uj ?_;refine Hg ?_;refine Cr Uj Uj Uj Uj (AB (a := _) 4 underlying25 type3 Uj Uj Uj Uj Uj Uj Uj (fun _ => rfl) (fun _ => rfl) hg9 (AA hg9 Uj)) ?_;rintro _ _ ⟨a_r1, cap_r1, rfl, rfl⟩;refine ⟨fun _ => ⟨trivial, oLb 2 isAgg25 Uj Uj Uj rfl⟩, ?_⟩;refine Cr Uj Uj Uj Uj (AB (a := _) 0 underlying25 type3 Uj Uj Uj Uj Uj Uj Uj (fun _ => rfl) (fun _ => rfl) hg11 (AA hg11 Uj)) ?_;rintro _ _ ⟨a_r4, cap_r4, rfl, rfl⟩;refine ⟨fun hc => absurd hc (by decide), ?_⟩;refine Ic Uj Uj Uj (oSb 5 sizeOf25 Uj Uj Uj Uj Uj Uj Uj Uj (nB Uj)) ?_;rintro _ _ rfl;refine ⟨fun hc => absurd hc (by decide), ?_⟩;refine Ic Uj Uj Uj (oSb 2 sizeOf25 Uj Uj Uj Uj Uj Uj Uj Uj (nB Uj)) ?_;rintro _ _ rfl;refine ⟨fun hc => absurd hc (by decide), ?_⟩;refine Gh ?_;refine gRg ?_;obtain ⟨hg12, hj2⟩ := Aa hj2;refine zq3 ?_;exact ⟨_, ((_, _), (_, _), (_, _), (_, _)), hj2, ⟨rfl, trivial⟩, ⟨rfl, rfl, rfl, rfl, rfl, rfl, trivial⟩, [], rfl⟩
    ·refine Ap ?_
     exact ⟨_, ((_, _), (_, _), (_, _), (_, _)), Ad hj2, trivial, ⟨rfl, rfl, rfl, trivial⟩, [], rfl⟩
   ·rintro ⟨l9, l10, l11, l12⟩ ⟨⟨a_r4, cap_r4⟩, ⟨a_r3, cap_r3⟩, ⟨a_r2, cap_r2⟩, ⟨a_r1, cap_r1⟩⟩ hst
    subst hst;refine Aq (L' := [(4, _), (5, _), (6, _)]) (ms' := [row a_r4 cap_r4 3 1 D.i64 l9, row a_r3 cap_r3 3 1 D.i64 l10, box b3 75 [.v (.slice a_r3 l10.length cap_r3), .v (.slice a_r4 l9.length cap_r4)], row a_r2 cap_r2 3 1 D.i64 l11, row a_r1 cap_r1 3 1 D.i64 l12, box b2 75 [.v (.slice a_r1 l12.length cap_r1), .v (.slice a_r2 l11.length cap_r2)], _]) rfl Uj ?_;refine AO ?_;obtain ⟨x9, hx13, hm2⟩ := bS hm2;obtain ⟨x10, hx14, hm2⟩ := bS hm2;obtain ⟨x11, hx15, hm2⟩ := bS hm2;obtain ⟨x12, hx16, hm2⟩ := bS hm2;refine zdr 16 ?_;refine zq2 ?_;refine Az Uj Uj Uj (.view (peekE (i := 89) 4 rfl Uj Uj) (A2 call58 Uj (CD hx13))) ?_;refine zq2 ?_;refine Az Uj Uj Uj (.view (peekE (i := 92) 3 rfl Uj Uj) (A2 call58 Uj (CD hx14))) ?_;refine Az Uj Uj Uj (Aw (zs := [.list 1 D.i64 [], .list 1 D.i64 []]) runUnderlying75 zeroValue75 (Hw _ runUnderlying75) rfl Uj Uj Uj) ?_;refine zq2 ?_;refine Az Uj Uj Uj (.view (peekE (i := 96) 1 rfl Uj Uj) (A2 call58 Uj (CD hx15))) ?_;refine zq2 ?_;refine Az Uj Uj Uj (.view (peekE (i := 99) 0 rfl Uj Uj) (A2 call58 Uj (CD hx16))) ?_;refine Az Uj Uj Uj (Aw (zs := [.list 1 D.i64 [], .list 1 D.i64 []]) runUnderlying75 zeroValue75 (Hw _ runUnderlying75) rfl Uj Uj Uj) ?_;refine Az Uj Uj Uj (Ac (xs := [_, _]) (f := BSq.d) (l := [(⟨x9, x10⟩ : BSq), (⟨x11, x12⟩ : BSq)]) runUnderlying112 sizeOf75 zeroValue75 Uj Uj Uj (fun _ => ⟨rfl, rfl, rfl⟩) rfl) ?_;refine Az Uj Uj Uj (Aw (zs := [.list 2 BSq.d [], .bool false]) runUnderlying117 zeroValue117 (EA _ runUnderlying117) rfl Uj Uj Uj) ?_;refine Cq ?_;refine zst 6 ?_;refine Ag (ms' := [_, _, box b3 75 [_, _], _, _, box b2 75 [_, _], box b1 117 [_, _]]) rfl ?_;refine gNl ?_
    cases hm2; exact Af zr1
def Ct (l1 : (List Int)) : Nat -> (Int × (List (List UInt8))) -> Option (List (List UInt8))
 | 0, _ => none
 | n + 1, (x1, l3) =>
  bif (decide (x1 < (l1.length : Int))) then
   (idx l1 x1).bind fun x2 =>
   grd (0 <= x2 /\ x2 < 100) <|
   (idx l3 x1).bind fun x3 =>
   grd (InR (x1 + 1)) <|
   Ct l1 n ((x1 + 1), (l3.set (x1).toNat (Lib.decDigits (x2).toNat)))
  else
   some l3
def D1 (l1 : (List Int)) : Option (List UInt8) :=
 grd (0 <= (l1.length : Int)) <|
 grd (((l1.length : Int)).toNat * 16 <= 140737488355328) <|
 (Ct l1 FU (0, (List.replicate ((l1.length : Int)).toNat (([] : List UInt8) : (List UInt8)))) : Option (List (List UInt8))).bind fun l2 =>
 grd (l2.length <= 140737488355328) <|
 grd ((Lib.join l2 ([32] : List UInt8)).length <= 140737488355328) <|
 some (Lib.join l2 ([32] : List UInt8))
theorem JC {l1 : (List Int)} {r_1 : (List UInt8)} (hm : D1 l1 = some r_1) : Fn0 Tryz.prog 146 [.list 1 D.i64 l1] (.str r_1) := by
 unfold D1 at hm;refine Ae func146 Uj ntmps146 Uj fun H0 fr w0 => ?_;refine zq8 ?_;obtain ⟨hg1, hm⟩ := Aa hm;obtain ⟨hg2, hm⟩ := Aa hm;refine An Uj Uj Uj (Fv (f := D.str) (z0 := ([] : List UInt8)) underlying65 type9 Uj Uj Uj (nB Uj) rfl Uj hg1 hg2 (nB Uj)) ?_;rintro _ _ ⟨a_r1, m_r1, cap_r1, rfl, rfl⟩;refine zq9 ?_;obtain ⟨o_1, hj1, hm1⟩ := bS hm;refine Ak [(3, _)] [] (fun (st : (List (List UInt8))) (hid : Unit) => match st, hid with | l2, _ => []) (fun F (st : (List (List UInt8))) (hid : Unit) => match st, hid with | l2, _ => [arr a_r1 m_r1 cap_r1 9 1 D.str l2]) (fun st => st = o_1) ⟨rfl, trivial⟩ trivial ?_ ?_
 ·refine Aj ?_
  refine Ai [(3, _), (9, _), (10, _)] [] (fun (st : (Int × (List (List UInt8)))) (hid : Unit) => match st, hid with | (x1, l3), _ => [(11, .i64 x1)]) (fun F (st : (Int × (List (List UInt8)))) (hid : Unit) => match st, hid with | (x1, l3), _ => [arr a_r1 m_r1 cap_r1 9 1 D.str l3]) () hj1 (fun _ => rfl) ⟨rfl, rfl, rfl, trivial⟩ trivial ⟨rfl, trivial⟩ rfl ?_;rintro n ⟨x1, l3⟩ ⟨⟩ hj1;rw [Ct] at hj1;refine Av (L' := [(11, .i64 x1), (3, _), (9, _), (10, _)]) (ms' := [arr a_r1 m_r1 cap_r1 9 1 D.str l3]) rfl Uj ?_;refine zq5 ?_;refine zcn hj1 (fun hc1 hj1 => ?_) (fun hc1 hj1 => ?_)
  ·refine zq6 ?_
   obtain ⟨x2, hx3, hj1⟩ := bS hj1;refine zq9 ?_;obtain ⟨hg4, hj1⟩ := Aa hj1;refine zc0 (SN hg4) ?_;obtain ⟨x3, hx5, hj1⟩ := bS hj1;refine Ah Uj Uj Uj (At 0 runUnderlying65 sizeOf9 Uj Uj Uj hx5) ?_;refine Gk Uj Uj (BD (off := 0) (z' := (Lib.decDigits (x2).toNat)) 0 sizeOf9 Uj Uj (Ao hx5).2 rfl Uj Uj Uj Uj Uj (nB Uj) rfl Uj) ?_;rintro _ _ rfl;refine Ag (ms' := [_]) rfl ?_;refine zq2 ?_;obtain ⟨hg6, hj1⟩ := Aa hj1;refine zq3 ?_;exact ⟨_, (), hj1, ⟨rfl, trivial⟩, ⟨rfl, rfl, rfl, trivial⟩, [], rfl⟩
  ·refine Ap ?_
   exact ⟨_, (), Ad hj1, trivial, ⟨rfl, trivial⟩, [], rfl⟩
 ·rintro l2 ⟨⟩ hst
  subst hst;refine Aq (L' := [(3, _)]) (ms' := [arr a_r1 m_r1 cap_r1 9 1 D.str l2]) rfl Uj ?_;refine zq3 ?_;refine Gt 0 rfl Uj ?_;rintro rfl;obtain ⟨hg7, hm1⟩ := Aa hm1;obtain ⟨hg8, hm1⟩ := Aa hm1;refine Ah Uj Uj Uj (.view (peekE (i := 22) 0 rfl Uj Uj) (A2 call175 Uj (S0 (s := ([32] : List UInt8)) hg7 hg8))) ?_;refine zq2 ?_
  cases hm1; exact Af zr1
def AG (q1 : BSq) : Option (List UInt8) :=
 (D1 q1.left).bind fun x1 =>
 grd (x1.length + ([124] : List UInt8).length <= 9223372036854775807) <|
 (D1 q1.right).bind fun x2 =>
 grd ((x1 ++ ([124] : List UInt8)).length + x2.length <= 9223372036854775807) <|
 some ((x1 ++ ([124] : List UInt8)) ++ x2)
theorem IO {q1 : BSq} {r_1 : (List UInt8)} (hm : AG q1 = some r_1) : Fn0 Tryz.prog 129 [BSq.d q1] (.str r_1) := by
 unfold AG at hm;refine Ae func129 Uj ntmps129 Uj fun H0 fr w0 => ?_;refine zq6 ?_;obtain ⟨x1, hx1, hm⟩ := bS hm;obtain ⟨hg2, hm⟩ := Aa hm;obtain ⟨x2, hx3, hm⟩ := bS hm;obtain ⟨hg4, hm⟩ := Aa hm;refine zdr 9 ?_;refine zq2 ?_;refine zcd (JC hx1) ?_;refine Az Uj Uj Uj (Tw Uj Uj hg2) ?_;refine zq2 ?_;refine zcd (JC hx3) ?_;refine Az Uj Uj Uj (Tw Uj Uj hg4) ?_;refine zq3 ?_
 cases hm; exact Af zr1
end Go.Proofs.YtkfnogdccpcmhaaGreatDoor
namespace Go.Proofs.YtkfnogdccpcmhaaGreatDoor
open Go.V Tryz
def kAt (t : ATy) (x : Int) : Int := match t.l[x.toNat]? with
 | some n => n.kind
 | none => 0
def keepK (t : ATy) (k : Int) (l : List Int) : List Int := l.filter fun x => !(!decide (kAt t x = k))
section
open Go.Proofs
theorem SG {b1 o1 bk ok b2 o2 b3 o3 len cap x : Nat} {k k0 : Int} {W : World} (h1 : W.cell? ⟨b1, o1, none⟩ = some (.pointer (some ⟨b2, o2, none⟩))) (hk : W.cell? ⟨bk, ok, none⟩ = some (.int .i64 k0)) (h2 : W.cell? ⟨b2, o2, none⟩ = some (.slice (some ⟨b3, o3, none⟩) len cap)) (h3 : W.cell? ⟨b3, o3 + x * 4, none⟩ = some (.int .i64 k)) (hx : x < len) :
  FnGives Tryz.prog 179 #[.pointer (some ⟨b1, o1, none⟩), .pointer (some ⟨bk, ok, none⟩)] #[.int .i64 x] (.bool (!decide (k = k0))) W := by
 have mixed := Om
 unfold FnGives
 show Calls Tryz.prog 179 #[.int .i64 x, .pointer (some ⟨b1, o1, none⟩), .pointer (some ⟨bk, ok, none⟩)] W _
 go_enter func179, ntmps179
 go_wp2
 go_region_calls
 all_goals (try go_wp2)
 all_goals go_ret
 all_goals
  refine ⟨?_, 1, rfl⟩
  have e : (k != k0) = !decide (k = k0) := by by_cases h : k = k0 <;> simp [h]
  simp [Act.put, e]
theorem Of {H : PH} {t : ATy} {k : Int} {lb : List Value} {W : World} (hs : ∀ b o v, H b o = some v -> W.cell? ⟨b, o, none⟩ = some v) (hc : ConcL H [.ref (.ref (ATy.d t)), .ref (.i64 k)] lb) (hne : t.l ≠ []) :
  ∃ b1 o1 bk ok b2 o2 b3 o3 cap, lb = [.pointer (some ⟨b1, o1, none⟩), .pointer (some ⟨bk, ok, none⟩)] /\ W.cell? ⟨b1, o1, none⟩ = some (.pointer (some ⟨b2, o2, none⟩)) /\ W.cell? ⟨bk, ok, none⟩ = some (.int .i64 k) /\ W.cell? ⟨b2, o2, none⟩ = some (.slice (some ⟨b3, o3, none⟩) t.l.length cap) /\
   ∀ (x : Nat) n, t.l[x]? = some n -> W.cell? ⟨b3, o3 + x * 4, none⟩ = some (.int .i64 n.kind) := by
 simp only [ConcL] at hc;obtain ⟨v1, r1, rfl, h1, v2, r2, rfl, h2, rfl⟩ := hc
 have h1 := (AT (by rfl)).1 (show Conc H (.ref (.ref (ATy.d t))) v1 from h1)
 have h2 := (AT (by rfl)).1 (show Conc H (.ref (.i64 k)) v2 from h2)
 simp only [Enc, ATy.d, EncL] at h1 h2;obtain ⟨b1, o1, us, e1, ⟨b2, o2, us2, e2, ⟨ua, ur, eu, ⟨a, cap, e3, hl1, hl2, hl3⟩, _⟩, e5⟩, e6⟩ := h1;obtain ⟨bk, ok, uk, k1, k2, k3⟩ := h2;subst k2 e2 eu e3
 rcases hl3 with h | ⟨b3, o3, rfl, hx⟩
 ·exact absurd h hne
 refine ⟨b1, o1, bk, ok, b2, o2, b3, o3, cap, by simp at e1 k1; simp [e1, k1], ?_, ?_, ?_, fun x n hxn => ?_⟩
 ·have := hs _ _ _ (e6 0 _ rfl); rwa [Nat.add_zero] at this
 ·have := hs _ _ _ (k3 0 _ rfl); rwa [Nat.add_zero] at this
 ·have := hs _ _ _ (e5 0 _ rfl); rwa [Nat.add_zero] at this
 ·obtain ⟨us, q1, q2, q3⟩ := hx x n hxn
  simp only [ANd.d, Enc, EncL] at q1;obtain ⟨p, r, rfl, rfl, _⟩ := q1
  have := hs _ _ _ (q3 0 _ rfl)
  rwa [Nat.add_zero] at this
theorem Mk {a : Option Addr} {m cap : Nat} {l : List Int} {t : ATy} {k : Int} (h : ∀ x ∈ l, 0 <= x /\ x < (t.l.length : Int)) :
  Go.V.Fn Tryz.prog 178 [.v (.slice a m cap), .clo (.func 179) [] [.ref (.ref (ATy.d t)), .ref (.i64 k)]] [arr a m cap 3 1 D.i64 l] (fun d ms' => ∃ m', d = .v (.slice a m' cap) /\ ms' = [arr a m' cap 3 1 D.i64 (keepK t k l)]) := by
 by_cases hne : t.l = []
 ·have hl : l = [] := by
   cases l with
   | nil => rfl
   | cons x l => have := h x (by simp); rw [hne] at this; simp at this; omega
  subst hl
  intro H fr w vs hok hargs
  simp only [ConcL] at hargs;obtain ⟨u, r, rfl, hu, u2, r2, rfl, hu2, rfl⟩ := hargs
  have hu' := conc_v.1 (show Conc H (.v (.slice a m cap)) u from hu)
  subst hu'
  have hm : 0 = m := (hok.ok (arr a m cap 3 1 D.i64 []) (by simp)).1
  subst hm;refine (Fz a cap u2 w).mono ?_;rintro e w' ⟨rfl, rfl⟩;exact ⟨_, _, _, H, rfl, ⟨0, rfl, rfl⟩, PH.le_refl H, hok, conc_v.2 rfl, SameOut.refl w'⟩
 ·have hpos : 0 < t.l.length := List.length_pos_iff.2 hne
  letI : Inhabited (Fin t.l.length) := ⟨⟨0, hpos⟩⟩
  refine Mp (n := t.l.length) (q := fun x => !decide (kAt t x = k)) (fun lb p blk off cap d w hp hpo hH hsz hcap => HV (encF t.l.length) (fun _ => rfl) p 179 lb call179 default (by intro w; rw [show encF t.l.length default = .int .i64 0 from rfl]; exact zeroValue3 w) blk off cap d w hp hpo hH hsz hcap) Fz (fun x H lb W hs hc => ?_) h;obtain ⟨b1, o1, bk, ok, b2, o2, b3, o3, cap', rfl, c1, c2, c3, c4⟩ := Of hs hc hne
  have hx : t.l[x.val]? = some t.l[x.val] := by simp
  have hk : kAt t x.val = t.l[x.val].kind := by unfold kAt; rw [Int.toNat_natCast, hx]
  rw [hk];exact SG c1 c2 c3 (c4 x.val _ hx) x.isLt
end
end Go.Proofs.YtkfnogdccpcmhaaGreatDoor
namespace Go.Proofs.YtkfnogdccpcmhaaGreatDoor
open Go.V Tryz
def Ew (x3 : ANd) : Nat -> (Int × (List ((List UInt8) × (List Int)))) -> Option (List ((List UInt8) × (List Int)))
 | 0, _ => none
 | n + 1, (x4, mm4) =>
  bif (decide (x4 < (x3.l.length : Int))) then
   (idx x3.l x4).bind fun x5 =>
   grd ((((mget mm4 x5.name).getD []).length + ([x5.at_] : List _).length) * 8 <= 140737488355328) <|
   grd (InR (x4 + 1)) <|
   Ew x3 n ((x4 + 1), (mset mm4 x5.name (((mget mm4 x5.name).getD []) ++ [x5.at_])))
  else
   some mm4
def Fa (s1 : ATy) (l1 : (List Int)) : Nat -> (Int × (List ((List UInt8) × (List Int)))) -> Option (List ((List UInt8) × (List Int)))
 | 0, _ => none
 | n + 1, (x1, mm2) =>
  bif (decide (x1 < (l1.length : Int))) then
   (idx l1 x1).bind fun x2 =>
   (idx s1.l x2).bind fun x3 =>
   (Ew x3 FU (0, mm2) : Option (List ((List UInt8) × (List Int)))).bind fun mm3 =>
   grd (InR (x1 + 1)) <|
   Fa s1 l1 n ((x1 + 1), mm3)
  else
   some mm2
def Iu (s1 : ATy) (l1 : (List Int))  : Option (List ((List UInt8) × (List Int))) :=
 (Fa s1 l1 FU (0, ([] : List ((List UInt8) × (List Int)))) : Option (List ((List UInt8) × (List Int)))).bind fun mm1 =>
 some mm1
theorem P2 {s1 : ATy} {l1 : (List Int)}  {s_1 : (List ((List UInt8) × (List Int)))} (hm : Iu s1 l1 = some s_1) : Go.V.Fn Tryz.prog 154 [.ref (ATy.d s1), .list 1 D.i64 l1] [] (fun d ms' => ∃ b_s_1, d = .v (.map (some b_s_1)) /\ ms' = [mp b_s_1 kStr (D.list 1 D.i64) s_1]) := by
 unfold Iu at hm;refine Ae func154 Uj ntmps154 Uj fun H0 fr w0 => ?_;refine zq6 ?_;refine An Uj Uj Uj (IM (fk := kStr) (fv := rawD)) ?_;rintro _ _ ⟨b1, rfl, rfl⟩;refine Am (Nn (T := 3) (sz := 1) (f := D.i64) 0 rfl Uj) ?_;obtain ⟨q_1, hq_1⟩ : ∃ q : (List ((List UInt8) × (List Int × Option Addr × Nat))), q = [] := ⟨_, rfl⟩;rw [<- hq_1]
 clear hq_1
 refine zq9 ?_;obtain ⟨o_1, hj1, hm1⟩ := bS hm;refine Ak [(5, _)] [] (fun (st : (List ((List UInt8) × (List Int)))) (hid : (List ((List UInt8) × (List Int × Option Addr × Nat)))) => match st, hid with | mm1, q_1 => []) (fun F (st : (List ((List UInt8) × (List Int)))) (hid : (List ((List UInt8) × (List Int × Option Addr × Nat)))) => match st, hid with | mm1, q_1 => [mpr b1 kStr 3 1 D.i64 mm1 q_1]) (fun st => st = o_1) ⟨rfl, trivial⟩ trivial ?_ ?_
 ·refine Aj ?_
  refine Ai [(0, _), (5, _), (11, _), (12, _)] [] (fun (st : (Int × (List ((List UInt8) × (List Int))))) (hid : (List ((List UInt8) × (List Int × Option Addr × Nat)))) => match st, hid with | (x1, mm2), q_1 => [(13, .i64 x1)]) (fun F (st : (Int × (List ((List UInt8) × (List Int))))) (hid : (List ((List UInt8) × (List Int × Option Addr × Nat)))) => match st, hid with | (x1, mm2), q_1 => [mpr b1 kStr 3 1 D.i64 mm2 q_1]) _ hj1 (fun _ => rfl) ⟨rfl, rfl, rfl, rfl, trivial⟩ trivial ⟨rfl, trivial⟩ rfl ?_;rintro n ⟨x1, mm2⟩ q_1 hj1;rw [Fa] at hj1;refine Av (L' := [(13, .i64 x1), (0, _), (5, _), (11, _), (12, _)]) (ms' := [mpr b1 kStr 3 1 D.i64 mm2 q_1]) rfl Uj ?_;refine zq5 ?_;refine zcn hj1 (fun hc1 hj1 => ?_) (fun hc1 hj1 => ?_)
  ·refine zq5 ?_
   obtain ⟨x2, hx1, hj1⟩ := bS hj1;refine zq7 ?_;refine Ah Uj Uj Uj (Dl Uj) ?_;refine zq4 ?_;obtain ⟨x3, hx2, hj1⟩ := bS hj1;refine zq6 ?_;obtain ⟨o_2, hj2, hm2⟩ := bS hj1;refine Ak [(0, _), (5, _), (11, _), (12, _), (13, _)] [] (fun (st : (List ((List UInt8) × (List Int)))) (hid : (List ((List UInt8) × (List Int × Option Addr × Nat)))) => match st, hid with | mm3, q_1 => []) (fun F (st : (List ((List UInt8) × (List Int)))) (hid : (List ((List UInt8) × (List Int × Option Addr × Nat)))) => match st, hid with | mm3, q_1 => [mpr b1 kStr 3 1 D.i64 mm3 q_1]) (fun st => st = o_2) ⟨rfl, rfl, rfl, rfl, rfl, trivial⟩ trivial ?_ ?_
   ·refine Aj ?_
    refine Ai [(0, _), (5, _), (11, _), (12, _), (13, _), (25, _), (26, _)] [] (fun (st : (Int × (List ((List UInt8) × (List Int))))) (hid : (List ((List UInt8) × (List Int × Option Addr × Nat)))) => match st, hid with | (x4, mm4), q_1 => [(27, .i64 x4)]) (fun F (st : (Int × (List ((List UInt8) × (List Int))))) (hid : (List ((List UInt8) × (List Int × Option Addr × Nat)))) => match st, hid with | (x4, mm4), q_1 => [mpr b1 kStr 3 1 D.i64 mm4 q_1]) _ hj2 (fun _ => rfl) ⟨rfl, rfl, rfl, rfl, rfl, rfl, rfl, trivial⟩ trivial ⟨rfl, trivial⟩ rfl ?_;rintro n ⟨x4, mm4⟩ q_1 hj2;rw [Ew] at hj2;refine Av (L' := [(27, .i64 x4), (0, _), (5, _), (11, _), (12, _), (13, _), (25, _), (26, _)]) (ms' := [mpr b1 kStr 3 1 D.i64 mm4 q_1]) rfl Uj ?_;refine zq5 ?_;refine zcn hj2 (fun hc2 hj2 => ?_) (fun hc2 hj2 => ?_)
    ·refine zq5 ?_
     obtain ⟨x5, hx3, hj2⟩ := bS hj2;refine zq2 ?_;refine PP fun b2 => ?_;refine zst 0 ?_;refine Ag (ms' := [box b2 98 [_, _], _]) rfl ?_;refine gNl ?_;obtain ⟨hg4, hj2⟩ := Aa hj2;refine Du [6, 10, 11] [0, 1, 2, 7, 8, 9] [2, 8] AC (by decide +kernel) (by decide +kernel) rfl ?_;refine Ar Uj Uj Uj Uj Uj Uj (oMv Uj) ?_;refine Ar Uj Uj Uj Uj Uj Uj (oFb Nw Uj) ?_;refine MS Uj Uj Uj Uj Uj (oLb 0 isAgg9 Uj Uj Uj Uj) ?_;refine Ar Uj Uj Uj Uj Uj Uj (oMv Uj) ?_;refine Ar Uj Uj Uj Uj Uj Uj (oFb Nw Uj) ?_;refine Ar Uj Uj Uj Uj Uj Uj (oLb 0 isAgg9 Uj Uj Uj Uj) ?_;refine Ds Uj ?_;refine Ar Uj Uj Uj Uj Uj Uj (oFb IB Uj) ?_;refine MS Uj Uj Uj Uj Uj (oLb 0 isAgg3 Uj Uj Uj Uj) ?_;refine Ar Uj Uj Uj Uj Uj Uj (Ac (xs := [_]) (f := D.i64) (l := [_]) runUnderlying25 sizeOf3 zeroValue3 Uj Uj Uj (fun _ => ⟨rfl, rfl, rfl⟩) rfl) ?_;refine Ds Uj ?_;refine Ds Uj ?_;refine Es ?_;refine F6 Uj Uj Uj Uj (NA 1 runUnderlying153 (Fx underlying9) zeroValue25 Uj Uj Uj) ?_;rintro _ _ ⟨a_r1, cap_r1, rfl, rfl⟩;refine ⟨⟨⟨trivial, oLb 1 isAgg9 Uj Uj Uj rfl⟩, oLb 1 isAgg3 Uj Uj Uj rfl⟩, ?_⟩;refine F6 Uj Uj Uj Uj (AB (a := _) 0 underlying25 type3 Uj Uj Uj Uj Uj Uj Uj (fun _ => rfl) (fun _ => rfl) hg4 (AA hg4 Uj)) ?_;rintro _ _ ⟨a_r1, cap_r1, rfl, rfl⟩;refine ⟨⟨⟨trivial, oLb 1 isAgg9 Uj Uj Uj rfl⟩, oLb 1 isAgg3 Uj Uj Uj rfl⟩, ?_⟩;refine Cn Uj Uj Uj (Kh [box b2 98 [_, _]] [] runUnderlying153 (Fx underlying9) ((permA 2 rfl (permA 0 rfl permN)).trans List.perm_append_comm) rfl Uj Uj Uj (ms'' := fun q' => [box b2 98 [_, _], mpr _ _ _ _ _ _ q']) rfl) ?_;rintro _ _ ⟨q_1, rfl⟩;refine ⟨⟨⟨trivial, oLb 0 isAgg9 Uj Uj Uj rfl⟩, oLb 0 isAgg3 Uj Uj Uj rfl⟩, ?_⟩;refine BH ?_;refine gRg ?_;obtain ⟨hg5, hj2⟩ := Aa hj2;refine zq3 ?_;exact ⟨_, _, hj2, ⟨rfl, trivial⟩, ⟨rfl, rfl, rfl, rfl, rfl, rfl, rfl, trivial⟩, [_], rfl⟩
    ·refine Ap ?_
     exact ⟨_, _, Ad hj2, trivial, ⟨rfl, rfl, rfl, rfl, rfl, trivial⟩, [], rfl⟩
   ·rintro mm3 q_1 hst
    subst hst;refine Aq (L' := [(0, _), (5, _), (11, _), (12, _), (13, _)]) (ms' := [mpr b1 kStr 3 1 D.i64 mm3 q_1]) rfl Uj ?_;refine gRg ?_;obtain ⟨hg6, hm2⟩ := Aa hm2;refine zq3 ?_;exact ⟨_, _, hm2, ⟨rfl, trivial⟩, ⟨rfl, rfl, rfl, rfl, trivial⟩, [], rfl⟩
  ·refine Ap ?_
   exact ⟨_, _, Ad hj1, trivial, ⟨rfl, trivial⟩, [], rfl⟩
 ·rintro mm1 q_1 hst
  subst hst;refine Aq (L' := [(5, _)]) (ms' := [mpr b1 kStr 3 1 D.i64 mm1 q_1]) rfl Uj ?_;refine zq2 ?_;refine Am (OD 0 rfl Uj) ?_;refine zq3 ?_;refine Af ?_;obtain rfl := Ad hm1;exact retK (AE Uj (Bo Uj) (permA 0 rfl permN)) ⟨_, rfl, rfl⟩
end Go.Proofs.YtkfnogdccpcmhaaGreatDoor
namespace Go.Proofs.YtkfnogdccpcmhaaGreatDoor
open Go.V Tryz
def wideE (l r : List (List UInt8 × List Int)) (n : Int) (e : List UInt8 × List Int) : Option (Option (Option BSq)) :=
 if (e.2.length : Int) < n then some none else
 if ((mget l e.1).getD []).length = 0 \/ ((mget r e.1).getD []).length = 0 then some (some none) else
 (AK ((mget l e.1).getD [])).bind fun x => (AK ((mget r e.1).getD [])).bind fun y => some (some (some ⟨x, y⟩))
def wideQ (l r : List (List UInt8 × List Int)) (n : Int) (e : List UInt8 × List Int) : Option BSq := match wideE l r n e with
 | some (some (some q)) => some q
 | _ => none
open Classical in
noncomputable def H9 (l r all : List (List UInt8 × List Int)) (n : Int) : Option BAn :=
 if all.length <= 1000000000 /\ ∀ e ∈ all, (wideE l r n e).isSome = true then
  if ∃ e ∈ all, wideE l r n e = some (some none) then some ⟨[], true⟩ else some ⟨all.filterMap (wideQ l r n), false⟩
 else none
theorem MJ (l r : List (List UInt8 × List Int)) (n : Int) (q : List (List UInt8 × List Int)) : (q.filterMap (wideQ l r n)).length <= q.length := List.length_filterMap_le _ _
theorem Fr {α : Type} {sz : Nat} {f : α -> D} (H : PH) : Conc H (.list sz f ([] : List α)) (.slice none 0 0) := (AT (by rfl)).2 (SL H _ (by simp [Enc]))
theorem Qb {a b : Nat} (h : decide ((a : Int) = 0) = true) : true = decide (a = 0 \/ b = 0) := by
 have := of_decide_eq_true h
 exact (dT (.inl (by omega))).symm
theorem P1 {a b : Nat} (h : decide ((a : Int) = 0) = false) : decide ((b : Int) = 0) = decide (a = 0 \/ b = 0) := by
 have := of_decide_eq_false h
 by_cases hb : b = 0
 ·rw [dT (by omega), dT (.inr hb)]
 ·rw [dF (by omega), dF (by omega)]
theorem GX : FieldIs Tryz.prog 117 0 0 1 false := ⟨⟨_, _, runUnderlying117, rfl, rfl, sizeOf112, by decide, isAgg112⟩⟩
def wideI (l r all : List (List UInt8 × List Int)) (n : Int) (rest : List (List UInt8 × List Int)) (out : List BSq) : Prop :=
 (∀ e ∈ rest, e ∈ all) /\ (out ++ rest.filterMap (wideQ l r n)).Perm (all.filterMap (wideQ l r n)) /\ (∀ e ∈ all, wideE l r n e = some (some none) -> e ∈ rest) /\ rest.length <= all.length
theorem Hb {l r all : List (List UInt8 × List Int)} {n : Int} {rest : List (List UInt8 × List Int)} {out : List BSq} {i : Nat} {p : List UInt8 × List Int} (h : wideI l r all n rest out) (hi : rest[i]? = some p) (hf : wideE l r n p ≠ some (some none)) : wideI l r all n (rest.eraseIdx i) (out ++ (wideQ l r n p).toList) := by
 obtain ⟨h1, h2, h3, h4⟩ := h
 have hp : rest.Perm (p :: rest.eraseIdx i) := G9 rest i p hi
 refine ⟨fun e he => h1 e (List.mem_of_mem_eraseIdx he), ?_, fun e he hef => ?_, ?_⟩
 ·refine List.Perm.trans ?_ h2
  rw [List.append_assoc];refine List.Perm.append_left _ ?_
  have := (hp.filterMap (wideQ l r n)).symm
  rw [List.filterMap_cons] at this
  cases hq : wideQ l r n p with
  | none => rw [hq] at this; simpa using this
  | some x => rw [hq] at this; simpa using this
 ·have := hp.mem_iff.1 (h3 e he hef)
  rcases List.mem_cons.1 this with rfl | h5
  ·exact absurd hef hf
  ·exact h5
 ·have := hp.length_eq
  simp only [List.length_cons] at this
  omega
theorem Tt {Lm Rm : List (List UInt8 × List Int)} {n : Int} {r_1 : BAn} {bl br : Nat} (hm : H9 Lm Rm Rm n = some r_1) :
  Go.V.Fn Tryz.prog 156 [.v (.map (some bl)), .v (.map (some br)), .v (.map (some br)), .i64 n] [mp bl kStr (D.list 1 D.i64) Lm, mp br kStr (D.list 1 D.i64) Rm] (fun d ms' => ∃ p, p.Perm r_1.to_ /\ d = BAn.d ⟨p, r_1.fails⟩ /\ ms' = [mp bl kStr (D.list 1 D.i64) Lm, mp br kStr (D.list 1 D.i64) Rm]) := by
 unfold H9 at hm
 by_cases hall : Rm.length <= 1000000000 /\ ∀ e ∈ Rm, (wideE Lm Rm n e).isSome = true
 ·rw [if_pos hall] at hm
  obtain ⟨hlen, hall⟩ := hall;refine Ae func156 Uj ntmps156 Uj fun H0 fr w0 => ?_;refine AO (gRg ?_);refine An Uj Uj Uj (Ay zeroValue117 (cs := [.list 2 BSq.d [], .bool false]) rfl) ?_;rintro _ _ ⟨b1, rfl, rfl⟩;refine gNl (AO (gRg ?_));refine An Uj Uj Uj (Ay zeroValue117 (cs := [.v (.slice none 0 0), .bool false]) rfl) ?_;rintro _ _ ⟨b2, rfl, rfl⟩;refine Am (AF (T := 75) (sz := 2) (f := BSq.d)) ?_;refine gNl (AO (AO (gRg ?_)));refine Ah Uj Uj Uj (oMv Uj) ?_;refine An Uj Uj Uj (Kp 4 underlying153 Uj Uj) ?_;rintro _ _ ⟨r5, rfl, rfl⟩;refine gNl (Aj ?_);refine G6 [(0, .v (.map (some bl))), (1, .v (.map (some br))), (3, .i64 n), (8, .v (.pointer (some ⟨b1, 0, none⟩))), (9, .v (.pointer (some ⟨b2, 0, none⟩))), (13, .v (.pointer (some ⟨r5, 0, none⟩)))] (fun (s : List (List UInt8 × List Int) × Option (List UInt8 × List Int) × List BSq × Option Addr × Nat) => wideI Lm Rm Rm n s.1 s.2.2.1) (fun _ => [])
   (fun s => match s with | (rest, last, out, a, cap) => [row a cap 75 2 BSq.d out, box b2 117 [.v (.slice a out.length cap), .bool false], box b1 117 [.list 2 BSq.d ([] : List BSq), .bool false], mp bl kStr (D.list 1 D.i64) Lm, mpi br r5 kStr (D.list 1 D.i64) Rm rest last]) (fun s => s.1.length) (Rm, none, [], none, 0) ⟨fun e he => he, by simp, fun e he _ => he, Nat.le_refl _⟩ ⟨rfl, rfl, rfl, rfl, rfl, rfl, trivial⟩ trivial rfl ?_
  rintro ⟨rest, last, out, a, cap⟩ hI;refine Av (L' := [(0, .v (.map (some bl))), (1, .v (.map (some br))), (3, .i64 n), (8, .v (.pointer (some ⟨b1, 0, none⟩))), (9, .v (.pointer (some ⟨b2, 0, none⟩))), (13, .v (.pointer (some ⟨r5, 0, none⟩)))]) (ms' := [row a cap 75 2 BSq.d out, box b2 117 [.v (.slice a out.length cap), .bool false], box b1 117 [.list 2 BSq.d ([] : List BSq), .bool false], mp bl kStr (D.list 1 D.i64) Lm, mpi br r5 kStr (D.list 1 D.i64) Rm rest last]) rfl Uj ?_;refine AO (gRg ?_);refine An Uj Uj Uj (L5 4 rfl Uj) ?_;rintro _ _ (⟨hr, rfl, rfl⟩ | ⟨i, ⟨kk, vv⟩, hi, rfl, rfl⟩)
  ·subst hr
   refine Ah Uj Uj Uj (Ci Uj Uj) ?_;refine Am (Gn 4 rfl Uj) ?_;refine gNl (AO ?_);refine DY Uj Uj ?_;refine Ap ?_;obtain ⟨h1, h2, h3, h4⟩ := hI;rw [if_neg (by rintro ⟨e, he, hef⟩; exact absurd (h3 e he hef) (by simp))] at hm;obtain rfl := Ad hm;refine AO (gRg ?_);refine Ah Uj Uj Uj (oLg 1 isAgg117 sizeOf117 Uj Uj Uj Uj (nB Uj)) ?_;refine Gk Uj Uj (oSb 2 sizeOf117 Uj Uj Uj Uj Uj Uj Uj Uj (nB Uj)) ?_;rintro _ _ rfl;refine Ag (ms' := [_, box b2 117 [_, _], box b1 117 [_, _], _, _]) rfl ?_;refine Am (Ep 2 0 0 rfl Uj Uj Uj Uj Uj) ?_;refine gNl (Af ?_);exact retK (AE (ms' := [_, _]) (drop := [_, _, _]) rfl (Bb 2 rfl Uj Uj isAgg117 sizeOf117 Uj) (List.Perm.refl _)) ⟨out, by simpa using h2, rfl, rfl⟩
  ·refine Ag (ms' := [row a cap 75 2 BSq.d out, box b2 117 [.v (.slice a out.length cap), .bool false], box b1 117 [.list 2 BSq.d ([] : List BSq), .bool false], mp bl kStr (D.list 1 D.i64) Lm, mpi br r5 kStr (D.list 1 D.i64) Rm (rest.eraseIdx i) (some (kk, vv))]) rfl ?_
   refine Ah Uj Uj Uj (Ci Uj Uj) ?_;refine gNl (AO ?_);refine EG Uj Uj ?_;refine gSp (Aj (AO (gRg ?_)));refine Ah Uj Uj Uj (KA 4 rfl Uj) ?_;refine Ah Uj Uj Uj (Ci Uj Uj) ?_;refine Ah Uj Uj Uj (Ci Uj Uj) ?_;refine Ah Uj Uj Uj (oAs Uj) ?_;refine Ah Uj Uj Uj (oAs Uj) ?_;refine gNl (AO (AO (gRg ?_)));refine Ah Uj Uj Uj (oMv Uj) ?_;refine Ah Uj Uj Uj (EY runUnderlying25 Uj) ?_;refine Ah Uj Uj Uj (oMv Uj) ?_;refine Ah Uj Uj Uj (Jz Uj Uj Uj) ?_;refine gNl ?_
   have hmem : (kk, vv) ∈ Rm := hI.1 _ (List.mem_of_getElem? hi)
   have hsm := hall _ hmem
   refine gCd Uj (fun hc1 => ?_) (fun hc1 => ?_)
   ·have hE : wideE Lm Rm n (kk, vv) = some none := by unfold wideE; rw [if_pos (of_decide_eq_true hc1)]
    have hst := Hb hI hi (by rw [hE]; simp)
    rw [show wideQ Lm Rm n (kk, vv) = none by unfold wideQ; rw [hE]] at hst;refine Ap ?_;exact ⟨(rest.eraseIdx i, some (kk, vv), out, a, cap), by simpa using hst, Jw hi, trivial, ⟨rfl, rfl, rfl, rfl, rfl, rfl, trivial⟩, [], rfl⟩
   ·have hc1' : ¬ ((vv.length : Int) < n) := of_decide_eq_false hc1
    refine gSp ?_
    have hEe : wideE Lm Rm n (kk, vv) = if ((mget Lm kk).getD []).length = 0 \/ ((mget Rm kk).getD []).length = 0 then some (some none) else (AK ((mget Lm kk).getD [])).bind fun x => (AK ((mget Rm kk).getD [])).bind fun y => some (some (some ⟨x, y⟩)) := by unfold wideE; rw [if_neg hc1']
    refine AO (AO (gRg ?_));refine Ah Uj Uj Uj (oMv Uj) ?_;refine Ah Uj Uj Uj (oMv Uj) ?_;refine Ah Uj Uj Uj (Fu (z0 := ([] : List Int)) 3 runUnderlying153 (Fx underlying9) zeroValue25 Fr Uj Uj Uj) ?_;refine Ah Uj Uj Uj (EY runUnderlying25 Uj) ?_;refine Ah Uj Uj Uj (Jz Uj Uj Uj) ?_;refine Ah Uj Uj Uj (oMv Uj) ?_;refine AP [(0, .v (.map (some bl))), (1, .v (.map (some br))), (3, .i64 n), (8, .v (.pointer (some ⟨b1, 0, none⟩))), (9, .v (.pointer (some ⟨b2, 0, none⟩))), (10, .v (kStr kk)), (13, .v (.pointer (some ⟨r5, 0, none⟩)))] 6 34 (decide (((mget Lm kk).getD []).length = 0 \/ ((mget Rm kk).getD []).length = 0)) (t := 28) ⟨rfl, rfl, rfl, rfl, rfl, rfl, rfl, trivial⟩ rfl (fun hg_1 hk1 => ?_) (fun hg_1 hk1 => ?_) ?_
    ·refine gKp Uj Uj Uj hg_1 Uj Uj ?_
     refine gKp Uj Uj Uj hg_1 Uj Uj ?_;refine gKp Uj Uj Uj hg_1 Uj Uj ?_;refine gKp Uj Uj Uj hg_1 Uj Uj ?_;refine gKp Uj Uj Uj hg_1 Uj Uj ?_;refine Ah Uj Uj Uj (NN Uj hg_1 Uj) ?_;exact gMt hk1 (congrArg (fun b => some (D.bool b)) (Qb hg_1)) ⟨rfl, rfl, rfl, rfl, rfl, rfl, rfl, trivial⟩
    ·refine gWp Uj Uj Uj hg_1 Uj Uj (oMv Uj) ?_
     refine gWp Uj Uj Uj hg_1 Uj Uj (oMv Uj) ?_;refine gWp Uj Uj Uj hg_1 Uj Uj (FG (z0 := ([] : List Int)) 4 runUnderlying153 (Fx underlying9) zeroValue25 Fr Uj Uj Uj) ?_;refine gWp Uj Uj Uj hg_1 Uj Uj (EY runUnderlying25 Uj) ?_;refine gWp Uj Uj Uj hg_1 Uj Uj (Jz Uj Uj Uj) ?_;refine Ah Uj Uj Uj (NH Uj hg_1 Uj) ?_;exact gMt hk1 (congrArg (fun b => some (D.bool b)) (P1 hg_1)) ⟨rfl, rfl, rfl, rfl, rfl, rfl, rfl, trivial⟩
    refine gNl ?_;refine gCd Uj (fun hc2 => ?_) (fun hc2 => ?_)
    ·rw [if_pos (of_decide_eq_true hc2)] at hEe
     rw [if_pos ⟨(kk, vv), hmem, hEe⟩] at hm;obtain rfl := Ad hm;refine AO (gRg ?_);refine Ah Uj Uj Uj (Aw (zs := [.list 2 BSq.d [], .bool false]) runUnderlying117 zeroValue117 (EA _ runUnderlying117) rfl Uj Uj Uj) ?_;refine Gk Uj Uj (oSb 2 sizeOf117 Uj Uj Uj Uj Uj Uj Uj Uj (nB Uj)) ?_;rintro _ _ rfl;refine Am (Gn 4 rfl Uj) ?_;refine Ag (ms' := [_, box b2 117 [_, _], box b1 117 [_, _], _, _]) rfl ?_;refine gNl (Af ?_);exact retK (AE (ms' := [_, _]) (drop := [_, _, _]) rfl (Bb 2 rfl Uj Uj isAgg117 sizeOf117 Uj) (List.Perm.refl _)) ⟨[], List.Perm.refl _, rfl, rfl⟩
    ·rw [if_neg (of_decide_eq_false hc2)] at hEe
     rw [hEe] at hsm;obtain ⟨x, hx⟩ : ∃ x, AK ((mget Lm kk).getD []) = some x := by
      cases hq : AK ((mget Lm kk).getD []) with
      | none => rw [hq] at hsm; simp at hsm
      | some x => exact ⟨x, rfl⟩
     rw [hx, oB] at hEe hsm;obtain ⟨y, hy⟩ : ∃ y, AK ((mget Rm kk).getD []) = some y := by
      cases hq : AK ((mget Rm kk).getD []) with
      | none => rw [hq] at hsm; simp at hsm
      | some x => exact ⟨x, rfl⟩
     rw [hy, oB] at hEe
     have hst := Hb hI hi (by rw [hEe]; simp)
     rw [show wideQ Lm Rm n (kk, vv) = some ⟨x, y⟩ by unfold wideQ; rw [hEe]] at hst
     have hol : out.length <= 1000000000 := by
      have h1 : out.length + (rest.filterMap (wideQ Lm Rm n)).length = (Rm.filterMap (wideQ Lm Rm n)).length := by rw [<- List.length_append]; exact hI.2.1.length_eq
      have h2 := MJ Lm Rm n Rm
      omega
     have hg3 : (out.length + ([(⟨x, y⟩ : BSq)] : List _).length) * 48 <= 140737488355328 := by simp only [List.length_cons, List.length_nil]; omega
     refine gSp ?_;refine Ph 12 AC (by decide +kernel) ?_;refine Az Uj Uj Uj (oFb GX Uj) ?_;refine Az Uj Uj Uj (oLb 1 isAgg112 Uj Uj Uj Uj) ?_;refine Az Uj Uj Uj (oMv Uj) ?_;refine Az Uj Uj Uj (oMv Uj) ?_;refine Az Uj Uj Uj (Fu (z0 := ([] : List Int)) 3 runUnderlying153 (Fx underlying9) zeroValue25 Fr Uj Uj Uj) ?_;refine Az Uj Uj Uj (A2 call58 Uj (CD hx)) ?_;refine Az Uj Uj Uj (oMv Uj) ?_;refine Az Uj Uj Uj (oMv Uj) ?_;refine Az Uj Uj Uj (FG (z0 := ([] : List Int)) 4 runUnderlying153 (Fx underlying9) zeroValue25 Fr Uj Uj Uj) ?_;refine Az Uj Uj Uj (A2 call58 Uj (CD hy)) ?_;refine Az Uj Uj Uj (Aw (zs := [.list 1 D.i64 [], .list 1 D.i64 []]) runUnderlying75 zeroValue75 (Hw _ runUnderlying75) rfl Uj Uj Uj) ?_;refine Az Uj Uj Uj (Ac (xs := [_]) (f := BSq.d) (l := [(⟨x, y⟩ : BSq)]) runUnderlying112 sizeOf75 zeroValue75 Uj Uj Uj (fun _ => ⟨rfl, rfl, rfl⟩) rfl) ?_;refine Cq ?_;refine An Uj Uj Uj (AB (a := _) 0 underlying112 type75 Uj Uj Uj Uj Uj Uj Uj (fun _ => rfl) (fun _ => rfl) hg3 (AA hg3 Uj)) ?_;rintro _ _ ⟨a', cap', rfl, rfl⟩;refine Ah Uj Uj Uj (oFb GX Uj) ?_;refine Gk Uj Uj (oSb 1 sizeOf112 Uj Uj Uj Uj Uj Uj Uj Uj (nB Uj)) ?_;rintro _ _ rfl;refine gNl ?_;exact ⟨(rest.eraseIdx i, some (kk, vv), out ++ [⟨x, y⟩], a', cap'), by simpa using hst, Jw hi, trivial, ⟨rfl, rfl, rfl, rfl, rfl, rfl, trivial⟩, [], rfl⟩
 ·rw [if_neg hall] at hm
  cases hm
theorem Te {Lm Rm : List (List UInt8 × List Int)} {n : Int} {r_1 : BAn} {bl br : Nat} (hm : H9 Lm Rm Lm n = some r_1) :
  Go.V.Fn Tryz.prog 156 [.v (.map (some bl)), .v (.map (some br)), .v (.map (some bl)), .i64 n] [mp bl kStr (D.list 1 D.i64) Lm, mp br kStr (D.list 1 D.i64) Rm] (fun d ms' => ∃ p, p.Perm r_1.to_ /\ d = BAn.d ⟨p, r_1.fails⟩ /\ ms' = [mp bl kStr (D.list 1 D.i64) Lm, mp br kStr (D.list 1 D.i64) Rm]) := by
 unfold H9 at hm
 by_cases hall : Lm.length <= 1000000000 /\ ∀ e ∈ Lm, (wideE Lm Rm n e).isSome = true
 ·rw [if_pos hall] at hm
  obtain ⟨hlen, hall⟩ := hall;refine Ae func156 Uj ntmps156 Uj fun H0 fr w0 => ?_;refine AO (gRg ?_);refine An Uj Uj Uj (Ay zeroValue117 (cs := [.list 2 BSq.d [], .bool false]) rfl) ?_;rintro _ _ ⟨b1, rfl, rfl⟩;refine gNl (AO (gRg ?_));refine An Uj Uj Uj (Ay zeroValue117 (cs := [.v (.slice none 0 0), .bool false]) rfl) ?_;rintro _ _ ⟨b2, rfl, rfl⟩;refine Am (AF (T := 75) (sz := 2) (f := BSq.d)) ?_;refine gNl (AO (AO (gRg ?_)));refine Ah Uj Uj Uj (oMv Uj) ?_;refine An Uj Uj Uj (Kp 3 underlying153 Uj Uj) ?_;rintro _ _ ⟨r5, rfl, rfl⟩;refine gNl (Aj ?_);refine G6 [(0, .v (.map (some bl))), (1, .v (.map (some br))), (3, .i64 n), (8, .v (.pointer (some ⟨b1, 0, none⟩))), (9, .v (.pointer (some ⟨b2, 0, none⟩))), (13, .v (.pointer (some ⟨r5, 0, none⟩)))] (fun (s : List (List UInt8 × List Int) × Option (List UInt8 × List Int) × List BSq × Option Addr × Nat) => wideI Lm Rm Lm n s.1 s.2.2.1) (fun _ => [])
   (fun s => match s with | (rest, last, out, a, cap) => [row a cap 75 2 BSq.d out, box b2 117 [.v (.slice a out.length cap), .bool false], box b1 117 [.list 2 BSq.d ([] : List BSq), .bool false], mpi bl r5 kStr (D.list 1 D.i64) Lm rest last, mp br kStr (D.list 1 D.i64) Rm]) (fun s => s.1.length) (Lm, none, [], none, 0) ⟨fun e he => he, by simp, fun e he _ => he, Nat.le_refl _⟩ ⟨rfl, rfl, rfl, rfl, rfl, rfl, trivial⟩ trivial rfl ?_
  rintro ⟨rest, last, out, a, cap⟩ hI;refine Av (L' := [(0, .v (.map (some bl))), (1, .v (.map (some br))), (3, .i64 n), (8, .v (.pointer (some ⟨b1, 0, none⟩))), (9, .v (.pointer (some ⟨b2, 0, none⟩))), (13, .v (.pointer (some ⟨r5, 0, none⟩)))]) (ms' := [row a cap 75 2 BSq.d out, box b2 117 [.v (.slice a out.length cap), .bool false], box b1 117 [.list 2 BSq.d ([] : List BSq), .bool false], mpi bl r5 kStr (D.list 1 D.i64) Lm rest last, mp br kStr (D.list 1 D.i64) Rm]) rfl Uj ?_;refine AO (gRg ?_);refine An Uj Uj Uj (L5 3 rfl Uj) ?_;rintro _ _ (⟨hr, rfl, rfl⟩ | ⟨i, ⟨kk, vv⟩, hi, rfl, rfl⟩)
  ·subst hr
   refine Ah Uj Uj Uj (Ci Uj Uj) ?_;refine Am (Gn 3 rfl Uj) ?_;refine gNl (AO ?_);refine DY Uj Uj ?_;refine Ap ?_;obtain ⟨h1, h2, h3, h4⟩ := hI;rw [if_neg (by rintro ⟨e, he, hef⟩; exact absurd (h3 e he hef) (by simp))] at hm;obtain rfl := Ad hm;refine AO (gRg ?_);refine Ah Uj Uj Uj (oLg 1 isAgg117 sizeOf117 Uj Uj Uj Uj (nB Uj)) ?_;refine Gk Uj Uj (oSb 2 sizeOf117 Uj Uj Uj Uj Uj Uj Uj Uj (nB Uj)) ?_;rintro _ _ rfl;refine Ag (ms' := [_, box b2 117 [_, _], box b1 117 [_, _], _, _]) rfl ?_;refine Am (Ep 2 0 0 rfl Uj Uj Uj Uj Uj) ?_;refine gNl (Af ?_);exact retK (AE (ms' := [_, _]) (drop := [_, _, _]) rfl (Bb 2 rfl Uj Uj isAgg117 sizeOf117 Uj) (List.Perm.refl _)) ⟨out, by simpa using h2, rfl, rfl⟩
  ·refine Ag (ms' := [row a cap 75 2 BSq.d out, box b2 117 [.v (.slice a out.length cap), .bool false], box b1 117 [.list 2 BSq.d ([] : List BSq), .bool false], mpi bl r5 kStr (D.list 1 D.i64) Lm (rest.eraseIdx i) (some (kk, vv)), mp br kStr (D.list 1 D.i64) Rm]) rfl ?_
   refine Ah Uj Uj Uj (Ci Uj Uj) ?_;refine gNl (AO ?_);refine EG Uj Uj ?_;refine gSp (Aj (AO (gRg ?_)));refine Ah Uj Uj Uj (KA 3 rfl Uj) ?_;refine Ah Uj Uj Uj (Ci Uj Uj) ?_;refine Ah Uj Uj Uj (Ci Uj Uj) ?_;refine Ah Uj Uj Uj (oAs Uj) ?_;refine Ah Uj Uj Uj (oAs Uj) ?_;refine gNl (AO (AO (gRg ?_)));refine Ah Uj Uj Uj (oMv Uj) ?_;refine Ah Uj Uj Uj (EY runUnderlying25 Uj) ?_;refine Ah Uj Uj Uj (oMv Uj) ?_;refine Ah Uj Uj Uj (Jz Uj Uj Uj) ?_;refine gNl ?_
   have hmem : (kk, vv) ∈ Lm := hI.1 _ (List.mem_of_getElem? hi)
   have hsm := hall _ hmem
   refine gCd Uj (fun hc1 => ?_) (fun hc1 => ?_)
   ·have hE : wideE Lm Rm n (kk, vv) = some none := by unfold wideE; rw [if_pos (of_decide_eq_true hc1)]
    have hst := Hb hI hi (by rw [hE]; simp)
    rw [show wideQ Lm Rm n (kk, vv) = none by unfold wideQ; rw [hE]] at hst;refine Ap ?_;exact ⟨(rest.eraseIdx i, some (kk, vv), out, a, cap), by simpa using hst, Jw hi, trivial, ⟨rfl, rfl, rfl, rfl, rfl, rfl, trivial⟩, [], rfl⟩
   ·have hc1' : ¬ ((vv.length : Int) < n) := of_decide_eq_false hc1
    refine gSp ?_
    have hEe : wideE Lm Rm n (kk, vv) = if ((mget Lm kk).getD []).length = 0 \/ ((mget Rm kk).getD []).length = 0 then some (some none) else (AK ((mget Lm kk).getD [])).bind fun x => (AK ((mget Rm kk).getD [])).bind fun y => some (some (some ⟨x, y⟩)) := by unfold wideE; rw [if_neg hc1']
    refine AO (AO (gRg ?_));refine Ah Uj Uj Uj (oMv Uj) ?_;refine Ah Uj Uj Uj (oMv Uj) ?_;refine Ah Uj Uj Uj (FG (z0 := ([] : List Int)) 3 runUnderlying153 (Fx underlying9) zeroValue25 Fr Uj Uj Uj) ?_;refine Ah Uj Uj Uj (EY runUnderlying25 Uj) ?_;refine Ah Uj Uj Uj (Jz Uj Uj Uj) ?_;refine Ah Uj Uj Uj (oMv Uj) ?_;refine AP [(0, .v (.map (some bl))), (1, .v (.map (some br))), (3, .i64 n), (8, .v (.pointer (some ⟨b1, 0, none⟩))), (9, .v (.pointer (some ⟨b2, 0, none⟩))), (10, .v (kStr kk)), (13, .v (.pointer (some ⟨r5, 0, none⟩)))] 6 34 (decide (((mget Lm kk).getD []).length = 0 \/ ((mget Rm kk).getD []).length = 0)) (t := 28) ⟨rfl, rfl, rfl, rfl, rfl, rfl, rfl, trivial⟩ rfl (fun hg_1 hk1 => ?_) (fun hg_1 hk1 => ?_) ?_
    ·refine gKp Uj Uj Uj hg_1 Uj Uj ?_
     refine gKp Uj Uj Uj hg_1 Uj Uj ?_;refine gKp Uj Uj Uj hg_1 Uj Uj ?_;refine gKp Uj Uj Uj hg_1 Uj Uj ?_;refine gKp Uj Uj Uj hg_1 Uj Uj ?_;refine Ah Uj Uj Uj (NN Uj hg_1 Uj) ?_;exact gMt hk1 (congrArg (fun b => some (D.bool b)) (Qb hg_1)) ⟨rfl, rfl, rfl, rfl, rfl, rfl, rfl, trivial⟩
    ·refine gWp Uj Uj Uj hg_1 Uj Uj (oMv Uj) ?_
     refine gWp Uj Uj Uj hg_1 Uj Uj (oMv Uj) ?_;refine gWp Uj Uj Uj hg_1 Uj Uj (Fu (z0 := ([] : List Int)) 4 runUnderlying153 (Fx underlying9) zeroValue25 Fr Uj Uj Uj) ?_;refine gWp Uj Uj Uj hg_1 Uj Uj (EY runUnderlying25 Uj) ?_;refine gWp Uj Uj Uj hg_1 Uj Uj (Jz Uj Uj Uj) ?_;refine Ah Uj Uj Uj (NH Uj hg_1 Uj) ?_;exact gMt hk1 (congrArg (fun b => some (D.bool b)) (P1 hg_1)) ⟨rfl, rfl, rfl, rfl, rfl, rfl, rfl, trivial⟩
    refine gNl ?_;refine gCd Uj (fun hc2 => ?_) (fun hc2 => ?_)
    ·rw [if_pos (of_decide_eq_true hc2)] at hEe
     rw [if_pos ⟨(kk, vv), hmem, hEe⟩] at hm;obtain rfl := Ad hm;refine AO (gRg ?_);refine Ah Uj Uj Uj (Aw (zs := [.list 2 BSq.d [], .bool false]) runUnderlying117 zeroValue117 (EA _ runUnderlying117) rfl Uj Uj Uj) ?_;refine Gk Uj Uj (oSb 2 sizeOf117 Uj Uj Uj Uj Uj Uj Uj Uj (nB Uj)) ?_;rintro _ _ rfl;refine Am (Gn 3 rfl Uj) ?_;refine Ag (ms' := [_, box b2 117 [_, _], box b1 117 [_, _], _, _]) rfl ?_;refine gNl (Af ?_);exact retK (AE (ms' := [_, _]) (drop := [_, _, _]) rfl (Bb 2 rfl Uj Uj isAgg117 sizeOf117 Uj) (List.Perm.refl _)) ⟨[], List.Perm.refl _, rfl, rfl⟩
    ·rw [if_neg (of_decide_eq_false hc2)] at hEe
     rw [hEe] at hsm;obtain ⟨x, hx⟩ : ∃ x, AK ((mget Lm kk).getD []) = some x := by
      cases hq : AK ((mget Lm kk).getD []) with
      | none => rw [hq] at hsm; simp at hsm
      | some x => exact ⟨x, rfl⟩
     rw [hx, oB] at hEe hsm;obtain ⟨y, hy⟩ : ∃ y, AK ((mget Rm kk).getD []) = some y := by
      cases hq : AK ((mget Rm kk).getD []) with
      | none => rw [hq] at hsm; simp at hsm
      | some x => exact ⟨x, rfl⟩
     rw [hy, oB] at hEe
     have hst := Hb hI hi (by rw [hEe]; simp)
     rw [show wideQ Lm Rm n (kk, vv) = some ⟨x, y⟩ by unfold wideQ; rw [hEe]] at hst
     have hol : out.length <= 1000000000 := by
      have h1 : out.length + (rest.filterMap (wideQ Lm Rm n)).length = (Lm.filterMap (wideQ Lm Rm n)).length := by rw [<- List.length_append]; exact hI.2.1.length_eq
      have h2 := MJ Lm Rm n Lm
      omega
     have hg3 : (out.length + ([(⟨x, y⟩ : BSq)] : List _).length) * 48 <= 140737488355328 := by simp only [List.length_cons, List.length_nil]; omega
     refine gSp ?_;refine Ph 12 AC (by decide +kernel) ?_;refine Az Uj Uj Uj (oFb GX Uj) ?_;refine Az Uj Uj Uj (oLb 1 isAgg112 Uj Uj Uj Uj) ?_;refine Az Uj Uj Uj (oMv Uj) ?_;refine Az Uj Uj Uj (oMv Uj) ?_;refine Az Uj Uj Uj (FG (z0 := ([] : List Int)) 3 runUnderlying153 (Fx underlying9) zeroValue25 Fr Uj Uj Uj) ?_;refine Az Uj Uj Uj (A2 call58 Uj (CD hx)) ?_;refine Az Uj Uj Uj (oMv Uj) ?_;refine Az Uj Uj Uj (oMv Uj) ?_;refine Az Uj Uj Uj (Fu (z0 := ([] : List Int)) 4 runUnderlying153 (Fx underlying9) zeroValue25 Fr Uj Uj Uj) ?_;refine Az Uj Uj Uj (A2 call58 Uj (CD hy)) ?_;refine Az Uj Uj Uj (Aw (zs := [.list 1 D.i64 [], .list 1 D.i64 []]) runUnderlying75 zeroValue75 (Hw _ runUnderlying75) rfl Uj Uj Uj) ?_;refine Az Uj Uj Uj (Ac (xs := [_]) (f := BSq.d) (l := [(⟨x, y⟩ : BSq)]) runUnderlying112 sizeOf75 zeroValue75 Uj Uj Uj (fun _ => ⟨rfl, rfl, rfl⟩) rfl) ?_;refine Cq ?_;refine An Uj Uj Uj (AB (a := _) 0 underlying112 type75 Uj Uj Uj Uj Uj Uj Uj (fun _ => rfl) (fun _ => rfl) hg3 (AA hg3 Uj)) ?_;rintro _ _ ⟨a', cap', rfl, rfl⟩;refine Ah Uj Uj Uj (oFb GX Uj) ?_;refine Gk Uj Uj (oSb 1 sizeOf112 Uj Uj Uj Uj Uj Uj Uj Uj (nB Uj)) ?_;rintro _ _ rfl;refine gNl ?_;exact ⟨(rest.eraseIdx i, some (kk, vv), out ++ [⟨x, y⟩], a', cap'), by simpa using hst, Jw hi, trivial, ⟨rfl, rfl, rfl, rfl, rfl, rfl, trivial⟩, [], rfl⟩
 ·rw [if_neg hall] at hm
  cases hm
end Go.Proofs.YtkfnogdccpcmhaaGreatDoor
namespace Go.Proofs.YtkfnogdccpcmhaaGreatDoor
open Go.V Tryz
noncomputable def BI (s1 : ATy) (l1 : (List Int)) (kind1 : Int) : Option (List Int) :=
 grd (l1.length * 8 <= 140737488355328) <|
 grd (∀ x ∈ l1, 0 <= x /\ x < (s1.l.length : Int)) <|
 some (keepK s1 kind1 l1)
theorem Fy {s1 : ATy} {l1 : (List Int)} {kind1 : Int} {r_1 : (List Int)} (hm : BI s1 l1 kind1 = some r_1) : Fn0 Tryz.prog 153 [.ref (ATy.d s1), .list 1 D.i64 l1, .i64 kind1] (.list 1 D.i64 r_1) := by
 unfold BI at hm;refine Ae func153 Uj ntmps153 Uj fun H0 fr w0 => ?_;refine zq5 ?_;refine Am (nilE (i := 6) (sz := 1) (f := D.i64) rfl).refines ?_;refine zq4 ?_;obtain ⟨hg1, hm⟩ := Aa hm;refine An Uj Uj Uj (Cm (ms₁ := []) call97 Uj (List.Perm.refl _) (Hr hg1)) ?_;rintro _ _ ⟨_, ⟨a_r1, cap_r1, rfl, rfl⟩, rfl⟩
 generalize hm_r1 : l1.length = m_r1
 clear hm_r1
 refine Ah Uj Uj Uj (BU Uj Uj) ?_;obtain ⟨hg2, hm⟩ := Aa hm;refine An Uj Uj Uj (CU [0] call178 Uj Uj (CJ Uj DF) (Mk hg2) (by rintro _ _ ⟨_, _, rfl⟩; rfl)) ?_;rintro _ _ ⟨_, ⟨m_r1, rfl, rfl⟩, rfl⟩;refine Ag (ms' := [_]) rfl ?_;refine zq2 ?_;refine Kg 0 rfl Uj ?_;rintro rfl;refine BL (peekE (i := 6) 0 rfl Uj Uj).refines ?_
 cases hm; exact Af zr1
noncomputable def BO (s1 : ATy) (q1 : BSq) : Option BAn :=
 (B1 s1 q1.left).bind fun (x1, x2) =>
 bif x2 then
  some (⟨([] : List BSq), false⟩ : BAn)
 else
  bif (decide (x1 = 0)) then
   some (⟨([] : List BSq), true⟩ : BAn)
  else
   (BI s1 q1.left x1).bind fun x3 =>
   (BI s1 q1.right x1).bind fun x4 =>
   (Iu s1 x3).bind fun mm1 =>
   (Iu s1 x4).bind fun mm2 =>
   bif (decide (x1 = 6)) then
    (Bv s1 (⟨x3, x4⟩ : BSq)).bind fun x5 =>
    some (⟨x5.to_, x5.fails⟩ : BAn)
   else
    bif (decide (x1 = 7)) then
     bif (decide ((x4.length : Int) = 0)) then
      some (⟨([] : List BSq), true⟩ : BAn)
     else
      (H9 mm1 mm2 mm2 (x4.length : Int)).bind fun x6 =>
      some x6
    else
     bif (decide (x1 = 8)) then
      (H9 mm1 mm2 mm1 (x3.length : Int)).bind fun x7 =>
      some x7
     else
      some (⟨([] : List BSq), (decide ((x4.length : Int) = 0))⟩ : BAn)
theorem HA {s1 : ATy} {q1 : BSq} {r_1 : BAn} (hm : BO s1 q1 = some r_1) : Go.V.Fn Tryz.prog 133 [.ref (ATy.d s1), BSq.d q1] [] (fun d ms' => ∃ p, p.Perm r_1.to_ /\ d = BAn.d ⟨p, r_1.fails⟩ /\ ms' = []) := by
 unfold BO at hm;refine Ae func133 Uj ntmps133 Uj fun H0 fr w0 => ?_;refine zq2 ?_;refine An Uj Uj Uj (J5 Uj Uj Uj) ?_;rintro _ _ ⟨b1, rfl, rfl⟩;refine Jr fun b2 => ?_;refine zq6 ?_;obtain ⟨⟨x1, x2⟩, hx1, hm⟩ := bS hm;refine zc0 (HS hx1) ?_;refine zq13 ?_;refine zcn hm (fun hc1 hm => ?_) (fun hc1 hm => ?_)
 ·refine zq2 ?_
  refine Ah Uj Uj Uj (Aw (zs := [.list 2 BSq.d [], .bool false]) runUnderlying117 zeroValue117 (EA _ runUnderlying117) rfl Uj Uj Uj) ?_;refine zst 0 ?_;refine Ag (ms' := [box b2 117 [_, _], box b1 75 [_, _]]) rfl ?_;refine gNl (Af ?_);obtain rfl := Ad hm;exact retK (AE (ms' := []) (drop := [_, _]) rfl (Bb 0 rfl Uj Uj isAgg117 sizeOf117 Uj) (DO _)) ⟨_, List.Perm.refl _, rfl, rfl⟩
 ·refine zq6 ?_
  refine zcn hm (fun hc2 hm => ?_) (fun hc2 hm => ?_)
  ·refine zq2 ?_
   refine Ah Uj Uj Uj (Aw (zs := [.list 2 BSq.d [], .bool false]) runUnderlying117 zeroValue117 (EA _ runUnderlying117) rfl Uj Uj Uj) ?_;refine zst 0 ?_;refine Ag (ms' := [box b2 117 [_, _], box b1 75 [_, _]]) rfl ?_;refine gNl (Af ?_);obtain rfl := Ad hm;exact retK (AE (ms' := []) (drop := [_, _]) rfl (Bb 0 rfl Uj Uj isAgg117 sizeOf117 Uj) (DO _)) ⟨_, List.Perm.refl _, rfl, rfl⟩
  ·refine zq2 ?_
   obtain ⟨x3, hx2, hm⟩ := bS hm;obtain ⟨x4, hx3, hm⟩ := bS hm;refine zdr 11 ?_;refine zq4 ?_;refine zcd (Fy hx2) ?_;refine zq4 ?_;refine zcd (Fy hx3) ?_;refine Az Uj Uj Uj (Aw (zs := [.list 1 D.i64 [], .list 1 D.i64 []]) runUnderlying75 zeroValue75 (Hw _ runUnderlying75) rfl Uj Uj Uj) ?_;refine Cq ?_;refine zst 1 ?_;refine Ag (ms' := [box b2 117 [_, _], box b1 75 [_, _]]) rfl ?_;refine zq2 ?_;obtain ⟨mm1, hx4, hm⟩ := bS hm;obtain ⟨mm2, hx5, hm⟩ := bS hm;refine E6 3 [3, 7, 8, 9] [4, 5, 6] [6] (by decide +kernel) (by decide +kernel) AC (by decide +kernel) (by decide +kernel) rfl ?_;refine zq3 ?_;refine Co Uj ?_;refine zq2 ?_;refine JL Uj Uj Uj Uj Uj (oLb 1 isAgg25 Uj Uj Uj Uj) ?_;refine Co Uj ?_;refine Co Uj ?_;refine Co Uj ?_;refine Hg ?_;refine Cr Uj Uj Uj Uj (Cm (ms₁ := []) call154 Uj (List.Perm.refl _) (P2 hx4)) ?_;rintro _ _ ⟨_, ⟨b3, rfl, rfl⟩, rfl⟩;refine ⟨fun _ => ⟨trivial, oLb 2 isAgg25 Uj Uj Uj rfl⟩, ?_⟩;refine Cr Uj Uj Uj Uj (Cm (ms₁ := []) call154 Uj (List.Perm.refl _) (P2 hx5)) ?_;rintro _ _ ⟨_, ⟨b4, rfl, rfl⟩, rfl⟩;refine ⟨fun hc => absurd hc (by decide), ?_⟩;refine Cr Uj Uj Uj Uj (oAs Uj) ?_;rintro _ _ ⟨rfl, rfl⟩;refine ⟨fun hc => absurd hc (by decide), ?_⟩;refine Cr Uj Uj Uj Uj (oAs Uj) ?_;rintro _ _ ⟨rfl, rfl⟩;refine ⟨fun hc => absurd hc (by decide), ?_⟩;refine Gh ?_;refine zq11 ?_;refine zcn hm (fun hc3 hm => ?_) (fun hc3 hm => ?_)
   ·refine zq4 ?_
    obtain ⟨x5, hx6, hm⟩ := bS hm;refine zc0 (HC hx6) ?_;refine zst 2 ?_;refine Ag (ms' := [_, _, box b2 117 [_, _], box b1 75 [_, _]]) rfl ?_;refine gNl (Af ?_);obtain rfl := Ad hm;exact retK (AE (ms' := []) (drop := [_, _, _, _]) rfl (Bb 2 rfl Uj Uj isAgg117 sizeOf117 Uj) (DO _)) ⟨_, List.Perm.refl _, rfl, rfl⟩
   ·refine zq5 ?_
    refine zcn hm (fun hc4 hm => ?_) (fun hc4 hm => ?_)
    ·refine zq8 ?_
     refine zcn hm (fun hc5 hm => ?_) (fun hc5 hm => ?_)
     ·refine zq2 ?_
      refine Ah Uj Uj Uj (Aw (zs := [.list 2 BSq.d [], .bool false]) runUnderlying117 zeroValue117 (EA _ runUnderlying117) rfl Uj Uj Uj) ?_;refine zst 2 ?_;refine Ag (ms' := [_, _, box b2 117 [_, _], box b1 75 [_, _]]) rfl ?_;refine gNl (Af ?_);obtain rfl := Ad hm;exact retK (AE (ms' := []) (drop := [_, _, _, _]) rfl (Bb 2 rfl Uj Uj isAgg117 sizeOf117 Uj) (DO _)) ⟨_, List.Perm.refl _, rfl, rfl⟩
     ·refine zq9 ?_
      obtain ⟨x6, hx7, hm⟩ := bS hm;refine An Uj Uj Uj (Cm (ms₁ := [_, _]) call156 Uj ((permA 1 rfl (permA 0 rfl permN)).trans List.perm_append_comm) (Tt hx7)) ?_;rintro _ _ ⟨_, ⟨p_1, hp_1, rfl, rfl⟩, rfl⟩;refine Ag (ms' := [_, _, box b2 117 [_, _], box b1 75 [_, _]]) rfl ?_;refine zst 2 ?_;refine Ag (ms' := [_, _, box b2 117 [_, _], box b1 75 [_, _]]) rfl ?_;refine gNl (Af ?_);obtain rfl := Ad hm;exact retK (AE (ms' := []) (drop := [_, _, _, _]) rfl (Bb 2 rfl Uj Uj isAgg117 sizeOf117 Uj) (DO _)) ⟨_, hp_1, rfl, rfl⟩
    ·refine zq5 ?_
     refine zcn hm (fun hc6 hm => ?_) (fun hc6 hm => ?_)
     ·refine zq8 ?_
      obtain ⟨x7, hx8, hm⟩ := bS hm;refine An Uj Uj Uj (Cm (ms₁ := [_, _]) call156 Uj ((permA 1 rfl (permA 0 rfl permN)).trans List.perm_append_comm) (Te hx8)) ?_;rintro _ _ ⟨_, ⟨p_2, hp_2, rfl, rfl⟩, rfl⟩;refine Ag (ms' := [_, _, box b2 117 [_, _], box b1 75 [_, _]]) rfl ?_;refine zst 2 ?_;refine Ag (ms' := [_, _, box b2 117 [_, _], box b1 75 [_, _]]) rfl ?_;refine gNl (Af ?_);obtain rfl := Ad hm;exact retK (AE (ms' := []) (drop := [_, _, _, _]) rfl (Bb 2 rfl Uj Uj isAgg117 sizeOf117 Uj) (DO _)) ⟨_, hp_2, rfl, rfl⟩
     ·refine zq7 ?_
      refine Ah Uj Uj Uj (Aw (zs := [.list 2 BSq.d [], .bool false]) runUnderlying117 zeroValue117 (EA _ runUnderlying117) rfl Uj Uj Uj) ?_;refine zst 2 ?_;refine Ag (ms' := [_, _, box b2 117 [_, _], box b1 75 [_, _]]) rfl ?_;refine gNl (Af ?_);obtain rfl := Ad hm;exact retK (AE (ms' := []) (drop := [_, _, _, _]) rfl (Bb 2 rfl Uj Uj isAgg117 sizeOf117 Uj) (DO _)) ⟨_, List.Perm.refl _, rfl, rfl⟩
noncomputable def AJ (s1 : ATy) (q1 : BSq) : Option BAn :=
 (BS s1 q1.left 2).bind fun x1 =>
 (bif x1 then (some true) else ((BS s1 q1.right 1).bind fun x2 =>
 some x2)).bind fun p1 =>
 bif p1 then
  some (⟨([] : List BSq), false⟩ : BAn)
 else
  (BM s1 q1).bind fun (x3, x4) =>
  bif x4 then
   some (⟨x3.to_, x3.fails⟩ : BAn)
  else
   (BN s1 q1).bind fun x5 =>
   bif x5 then
    some (⟨([] : List BSq), false⟩ : BAn)
   else
    (BO s1 q1).bind fun x6 =>
    some x6
theorem Ib {s1 : ATy} {q1 : BSq} {r_1 : BAn} (hm : AJ s1 q1 = some r_1) : Go.V.Fn Tryz.prog 96 [.ref (ATy.d s1), BSq.d q1] [] (fun d ms' => ∃ p, p.Perm r_1.to_ /\ d = BAn.d ⟨p, r_1.fails⟩ /\ ms' = []) := by
 unfold AJ at hm;refine Ae func96 Uj ntmps96 Uj fun H0 fr w0 => ?_;refine zq3 ?_;refine Jr fun b1 => ?_;refine zq7 ?_;obtain ⟨x1, hx1, hm⟩ := bS hm;refine zc0 (F4 hx1) ?_;refine zq1 ?_;obtain ⟨p1, hp_1, hm⟩ := bS hm;refine AP [(0, _), (3, _), (4, _)] 5 16 p1 (t := 11) ⟨rfl, rfl, rfl, trivial⟩ rfl (fun hg_1 hk1 => ?_) (fun hg_1 hk1 => ?_) ?_
 ·replace hp_1 := AR hg_1 hp_1
  refine zq5 ?_;exact zgb hk1 hp_1
 ·replace hp_1 := AQ hg_1 hp_1
  refine zq3 ?_;obtain ⟨x2, hx2, hp_1⟩ := bS hp_1;refine zcw (F4 hx2) ?_;refine zq1 ?_;exact zgb hk1 hp_1
 refine gNl ?_;refine zcn hm (fun hc1 hm => ?_) (fun hc1 hm => ?_)
 ·refine zq2 ?_
  refine Ah Uj Uj Uj (Aw (zs := [.list 2 BSq.d [], .bool false]) runUnderlying117 zeroValue117 (EA _ runUnderlying117) rfl Uj Uj Uj) ?_;refine zst 0 ?_;refine Ag (ms' := [box b1 117 [_, _]]) rfl ?_;refine gNl (Af ?_);obtain rfl := Ad hm;exact retK (AE (ms' := []) (drop := [_]) rfl (Bb 0 rfl Uj Uj isAgg117 sizeOf117 Uj) (DO _)) ⟨_, List.Perm.refl _, rfl, rfl⟩
 ·refine zq6 ?_
  obtain ⟨⟨x3, x4⟩, hx3, hm⟩ := bS hm;refine zc0 (HE hx3) ?_;refine zq3 ?_;refine Jr fun b2 => ?_;refine zst 0 ?_;refine Ag (ms' := [box b2 117 [_, _], box b1 117 [_, _]]) rfl ?_;refine zq6 ?_;refine zcn hm (fun hc2 hm => ?_) (fun hc2 hm => ?_)
  ·refine zq3 ?_
   refine zst 1 ?_;refine Ag (ms' := [box b2 117 [_, _], box b1 117 [_, _]]) rfl ?_;refine gNl (Af ?_);obtain rfl := Ad hm;exact retK (AE (ms' := []) (drop := [_, _]) rfl (Bb 1 rfl Uj Uj isAgg117 sizeOf117 Uj) (DO _)) ⟨_, List.Perm.refl _, rfl, rfl⟩
  ·refine zq6 ?_
   obtain ⟨x5, hx4, hm⟩ := bS hm;refine zc0 (Hx hx4) ?_;refine gNl ?_;refine zcn hm (fun hc3 hm => ?_) (fun hc3 hm => ?_)
   ·refine zq2 ?_
    refine Ah Uj Uj Uj (Aw (zs := [.list 2 BSq.d [], .bool false]) runUnderlying117 zeroValue117 (EA _ runUnderlying117) rfl Uj Uj Uj) ?_;refine zst 1 ?_;refine Ag (ms' := [box b2 117 [_, _], box b1 117 [_, _]]) rfl ?_;refine gNl (Af ?_);obtain rfl := Ad hm;exact retK (AE (ms' := []) (drop := [_, _]) rfl (Bb 1 rfl Uj Uj isAgg117 sizeOf117 Uj) (DO _)) ⟨_, List.Perm.refl _, rfl, rfl⟩
   ·refine zq5 ?_
    obtain ⟨x6, hx5, hm⟩ := bS hm;refine An Uj Uj Uj (Cm (ms₁ := []) call133 Uj (List.Perm.refl _) (HA hx5)) ?_;rintro _ _ ⟨_, ⟨p_1, hp_1, rfl, rfl⟩, rfl⟩;refine zst 1 ?_;refine Ag (ms' := [box b2 117 [_, _], box b1 117 [_, _]]) rfl ?_;refine gNl (Af ?_);obtain rfl := Ad hm;exact retK (AE (ms' := []) (drop := [_, _]) rfl (Bb 1 rfl Uj Uj isAgg117 sizeOf117 Uj) (DO _)) ⟨_, hp_1, rfl, rfl⟩
end Go.Proofs.YtkfnogdccpcmhaaGreatDoor
namespace Go.Proofs.YtkfnogdccpcmhaaGreatDoor
open Go.V Tryz
inductive Reach (t : ATy) (q : BSq) : BSq -> Prop
 | refl : Reach t q q
 | step {s s' : BSq} {r : BAn} : Reach t q s -> AJ t s = some r -> s' ∈ r.to_ -> Reach t q s'
def KN (t : ATy) (q : BSq) (b : Bool) : Prop := ∃ U : List BSq, q ∈ U /\ U.length <= 1000000000000 /\ (∀ s ∈ U, ∃ k, AG s = some k) /\ (∀ s ∈ U, ∀ s' ∈ U, AG s = AG s' -> s = s') /\
 (∀ s ∈ U, ∃ r, AJ t s = some r /\ ∀ s' ∈ r.to_, s' ∈ U) /\ (b = true ↔ ∀ s, Reach t q s -> ∀ r, AJ t s = some r -> r.fails = false)
open Classical in
noncomputable def Hl (t : ATy) (q : BSq) : Option Bool := if KN t q true then some true else if KN t q false then some false else none
theorem Sk {t : ATy} {q : BSq} {b : Bool} (h : Hl t q = some b) : KN t q b := by
 unfold Hl at h
 split at h
 ·rename_i h1; cases h; exact h1
 ·split at h
  ·rename_i h1; cases h; exact h1
  ·cases h
theorem Ss {t : ATy} {q : BSq} {b : Bool} (h : KN t q b) : Hl t q = some b := by
 unfold Hl
 cases b with
 | true => rw [if_pos h]
 | false =>
  rw [if_neg, if_pos h]
  intro h2
  obtain ⟨_, _, _, _, _, _, h3⟩ := h;obtain ⟨_, _, _, _, _, _, h4⟩ := h2;exact absurd (h3.2 (h4.1 rfl)) (by simp)
def OkIn (t : ATy) (S : List BSq) (s : BSq) : Prop := ∃ r, AJ t s = some r /\ r.fails = false /\ ∀ s' ∈ r.to_, s' ∈ S
structure InvS (t : ATy) (q : BSq) (U X : List BSq) (seen : List (List UInt8 × Bool)) (todo S : List BSq) : Prop where
 nodup : S.Nodup
 inU : ∀ s ∈ S, s ∈ U
 reach : ∀ s ∈ S, Reach t q s
 seenE : ∀ k, (mget seen k).getD false = true ↔ ∃ s ∈ S, AG s = some k
 todoE : ∀ s ∈ todo, s ∈ S
 len : todo.length <= S.length
 done : ∀ s ∈ S, s ∉ todo -> s ∉ X -> OkIn t S s
theorem Kd {α : Type} : ∀ (S U : List α), S.Nodup -> (∀ s ∈ S, s ∈ U) -> S.length <= U.length
 | [], U, _, _ => Nat.zero_le _
 | a :: S, U, hn, h => by
  classical
  obtain ⟨h1, h2⟩ := List.nodup_cons.1 hn
  have ha : a ∈ U := h a (by simp)
  have := Kd S (U.erase a) h2 (fun s hs => (List.mem_erase_of_ne (fun e => h1 (by rw [<- e]; exact hs))).2 (h s (by simp [hs])))
  rw [List.length_erase_of_mem ha] at this
  have := List.length_pos_of_mem ha
  simp only [List.length_cons]
  omega
section
variable {t : ATy} {q : BSq} {U X : List BSq} {seen : List (List UInt8 × Bool)} {todo S : List BSq}
theorem InvS.le (h : InvS t q U X seen todo S) : S.length <= U.length := Kd S U h.nodup h.inU
def askS (seen : List (List UInt8 × Bool)) (k : List UInt8) : List (List UInt8 × Bool) := if (mget seen k).getD false = true then seen else mset seen k true
def askT (seen : List (List UInt8 × Bool)) (k : List UInt8) (todo : List BSq) (s : BSq) : List BSq := if (mget seen k).getD false = true then todo else todo ++ [s]
theorem InvS.ask (h : InvS t q U X seen todo S) (hinj : ∀ s ∈ U, ∀ s' ∈ U, AG s = AG s' -> s = s') {s : BSq} {k : List UInt8} (hs : s ∈ U) (hr : Reach t q s) (hk : AG s = some k) :
  InvS t q U X (askS seen k) (askT seen k todo s) (if (mget seen k).getD false = true then S else S ++ [s]) /\ s ∈ (if (mget seen k).getD false = true then S else S ++ [s]) /\
   2 * (U.length - (if (mget seen k).getD false = true then S else S ++ [s]).length) + (askT seen k todo s).length <= 2 * (U.length - S.length) + todo.length /\ ∀ x ∈ S, x ∈ (if (mget seen k).getD false = true then S else S ++ [s]) := by
 unfold askS askT
 by_cases hg : (mget seen k).getD false = true
 ·simp only [if_pos hg]
  obtain ⟨s1, h1, h2⟩ := (h.seenE k).1 hg
  have := hinj s1 (h.inU s1 h1) s hs (by rw [h2, hk])
  subst this;exact ⟨h, h1, Nat.le_refl _, fun x hx => hx⟩
 ·simp only [if_neg hg]
  have hns : s ∉ S := fun hm => hg ((h.seenE k).2 ⟨s, hm, hk⟩)
  have hI : InvS t q U X (mset seen k true) (todo ++ [s]) (S ++ [s]) := by
   refine ⟨?_, ?_, ?_, ?_, ?_, ?_, ?_⟩
   ·rw [List.nodup_append]; exact ⟨h.nodup, by simp, fun a ha b hb e => by simp at hb; subst hb; subst e; exact hns ha⟩
   ·intro x hx; rcases List.mem_append.1 hx with hx | hx
    ·exact h.inU x hx
    ·simp at hx; subst hx; exact hs
   ·intro x hx; rcases List.mem_append.1 hx with hx | hx
    ·exact h.reach x hx
    ·simp at hx; subst hx; exact hr
   ·intro k'
    rw [JH]
    by_cases hkk : k' = k
    ·subst hkk
     simp only [if_true, Option.getD_some, true_iff];exact ⟨s, by simp, hk⟩
    ·rw [if_neg hkk, h.seenE k']
     constructor
     ·rintro ⟨x, hx, hxk⟩; exact ⟨x, by simp [hx], hxk⟩
     ·rintro ⟨x, hx, hxk⟩
      rcases List.mem_append.1 hx with hx | hx
      ·exact ⟨x, hx, hxk⟩
      ·simp at hx; subst hx; rw [hk] at hxk; exact absurd (Option.some.inj hxk).symm hkk
   ·intro x hx; rcases List.mem_append.1 hx with hx | hx
    ·exact List.mem_append_left _ (h.todoE x hx)
    ·exact List.mem_append_right _ hx
   ·have := h.len; simp only [List.length_append, List.length_cons, List.length_nil]; omega
   ·intro x hx hxt hxX
    rcases List.mem_append.1 hx with hx | hx
    ·obtain ⟨r, r1, r2, r3⟩ := h.done x hx (fun e => hxt (List.mem_append_left _ e)) hxX
     exact ⟨r, r1, r2, fun s' hs' => List.mem_append_left _ (r3 s' hs')⟩
    ·exact absurd (List.mem_append_right _ hx) hxt
  have := hI.le
  refine ⟨hI, by simp, ?_, fun x hx => List.mem_append_left _ hx⟩;simp only [List.length_append, List.length_cons, List.length_nil] at this ⊢
  omega
theorem InvS.pop {x : BSq} (h : InvS t q U [] seen (todo ++ [x]) S) : InvS t q U [x] seen todo S :=
 ⟨h.nodup, h.inU, h.reach, h.seenE, fun s hs => h.todoE s (by simp [hs]), by have := h.len; simp at this; omega, fun s hs ht hx => h.done s hs (by simp only [List.mem_append]; rintro (e | e); exact ht e; exact hx e) (by simp)⟩
theorem InvS.close {x : BSq} {r : BAn} (h : InvS t q U [x] seen todo S) (hr : AJ t x = some r) (hf : r.fails = false) (ht : ∀ s' ∈ r.to_, s' ∈ S) : InvS t q U [] seen todo S :=
 ⟨h.nodup, h.inU, h.reach, h.seenE, h.todoE, h.len, fun s hs h1 _ => by
  by_cases e : s = x
  ·subst e; exact ⟨r, hr, hf, ht⟩
  ·exact h.done s hs h1 (by simpa using e)⟩
theorem InvS.all (h : InvS t q U [] seen [] S) (hq : q ∈ S) : ∀ s, Reach t q s -> ∀ r, AJ t s = some r -> r.fails = false := by
 have key : ∀ s, Reach t q s -> s ∈ S := by
  intro s hr
  induction hr with
  | refl => exact hq
  | step h1 h2 h3 ih =>
   obtain ⟨r', r1, _, r3⟩ := h.done _ ih (by simp) (by simp);rw [h2] at r1; cases r1
   exact r3 _ h3
 intro s hr r h2
 obtain ⟨r', r1, r2, _⟩ := h.done _ (key s hr) (by simp) (by simp);rw [h2] at r1; cases r1
 exact r2
end
theorem MY : FieldIs Tryz.prog 114 1 2 1 false := ⟨⟨_, _, runUnderlying114, rfl, rfl, sizeOf111, by decide, isAgg111⟩⟩
theorem ED : FieldIs Tryz.prog 114 2 3 1 false := ⟨⟨_, _, runUnderlying114, rfl, rfl, sizeOf112, by decide, isAgg112⟩⟩
theorem Tu {t : ATy} {s : BSq} {k : List UInt8} {seen : List (List UInt8 × Bool)} {todo : List BSq} {bs bm : Nat} {a : Option Addr} {m cap : Nat} (hk : AG s = some k) (hl : todo.length <= 1000000000000) :
  Go.V.Fn Tryz.prog 95 [.v (.pointer (some ⟨bs, 0, none⟩)), BSq.d s] [boxf bs 114 2 [.list 4 ANd.d t.l, .i64 t.root, .v (.map (some bm)), .v (.slice a m cap)], mp bm kStr D.bool seen, arr a m cap 75 2 BSq.d todo]
   (fun d ms' => d = .tup [] /\ ∃ a' m' cap', ms' = [boxf bs 114 2 [.list 4 ANd.d t.l, .i64 t.root, .v (.map (some bm)), .v (.slice a' m' cap')], mp bm kStr D.bool (askS seen k), arr a' m' cap' 75 2 BSq.d (askT seen k todo s)]) := by
 refine Ae func95 Uj ntmps95 Uj fun H0 fr w0 => ?_;refine AO (gRg ?_);refine Ah Uj Uj Uj (Qv Uj Uj) ?_;refine gNl (AO (gRg ?_));refine Ah Uj Uj Uj (Bq isAgg75 sizeOf75 Uj Uj) ?_;refine Ah Uj Uj Uj (A2 call129 Uj (IO hk)) ?_;refine Ah Uj Uj Uj (oAs Uj) ?_;refine gNl (AO (gRg ?_));refine Ah Uj Uj Uj (oMv Uj) ?_;refine Ah Uj Uj Uj (Bx Uj) ?_;refine Ah Uj Uj Uj (oFb MY Uj) ?_;refine Ah Uj Uj Uj (Dd 0 isAgg111 Uj Uj Uj Uj) ?_;refine Ah Uj Uj Uj (oMv Uj) ?_;refine Ah Uj Uj Uj (Fu (z0 := (false : Bool)) 1 runUnderlying111 (Fx underlying9) zeroValue4 (fun _ => conc_v.2 Uj) rfl Uj Uj) ?_;refine Ah Uj Uj Uj (Tv Uj) ?_;refine gNl ?_;refine gCd Uj (fun hc1 => ?_) (fun hc1 => ?_)
 ·have hg : ¬ ((mget seen k).getD false = true) := by simpa using hc1
  have e1 : askS seen k = mset seen k true := if_neg hg
  have e2 : askT seen k todo s = todo ++ [s] := if_neg hg
  refine AO (gRg ?_);refine Ah Uj Uj Uj (oMv Uj) ?_;refine Ah Uj Uj Uj (Bx Uj) ?_;refine Ah Uj Uj Uj (oFb MY Uj) ?_;refine Ah Uj Uj Uj (Dd 0 isAgg111 Uj Uj Uj Uj) ?_;refine Ah Uj Uj Uj (oMv Uj) ?_;refine Gk Uj Uj (Gs (v := true) 1 runUnderlying111 (Fx underlying9) rfl Uj Uj Uj) ?_;rintro _ _ rfl;refine Ag (ms' := [_, _, _]) rfl ?_;refine gNl ?_
  have hg3 : (todo.length + ([(⟨s.left, s.right⟩ : BSq)] : List _).length) * 48 <= 140737488355328 := by simp only [List.length_cons, List.length_nil]; omega
  refine Du [7, 10] [0, 8, 9] [] AC (by decide +kernel) (by decide +kernel) rfl ?_;refine Ar Uj Uj Uj Uj Uj Uj (oMv Uj) ?_;refine Ar Uj Uj Uj Uj Uj Uj (oMv Uj) ?_;refine Ar Uj Uj Uj Uj Uj Uj (Bx Uj) ?_;refine Ar Uj Uj Uj Uj Uj Uj (oFb ED Uj) ?_;refine Ar Uj Uj Uj Uj Uj Uj (Dd 0 isAgg112 Uj Uj Uj Uj) ?_;refine Ar Uj Uj Uj Uj Uj Uj (Bq isAgg75 sizeOf75 Uj Uj) ?_;refine Ar Uj Uj Uj Uj Uj Uj (Ac (xs := [_]) (f := BSq.d) (l := [(⟨s.left, s.right⟩ : BSq)]) runUnderlying112 sizeOf75 zeroValue75 Uj Uj Uj (fun _ => ⟨rfl, rfl, rfl⟩) rfl) ?_;refine Ds Uj ?_;refine Ar Uj Uj Uj Uj Uj Uj (Bx Uj) ?_;refine Ar Uj Uj Uj Uj Uj Uj (oFb ED Uj) ?_;refine Ds Uj ?_;refine Es ?_;refine F6 Uj Uj Uj Uj (Ca (a := _) 2 underlying112 type75 Uj Uj Uj Uj Uj Uj (fun _ => rfl) (fun _ => rfl) hg3 (AA hg3 Uj)) ?_;rintro _ _ ⟨a', m', cap', rfl, rfl⟩;refine ⟨trivial, ?_⟩;refine Cn Uj Uj Uj (Jj 0 (by decide) sizeOf112 Uj Uj Uj Uj Uj Uj Uj Uj (nB Uj)) ?_;rintro _ _ rfl;refine ⟨trivial, ?_⟩;refine BH ?_;exact retKn (HK (ms' := [_, _, _]) (drop := []) rfl (List.Perm.refl _)) ⟨rfl, a', m', cap', by rw [e1, e2]; rfl⟩
 ·have hg : (mget seen k).getD false = true := by simpa using hc1
  have e1 : askS seen k = seen := if_pos hg
  have e2 : askT seen k todo s = todo := if_pos hg
  refine gSp ?_;exact retKn (HK (ms' := [_, _, _]) (drop := []) rfl (List.Perm.refl _)) ⟨rfl, a, m, cap, by rw [e1, e2]⟩
theorem QE : FieldIs Tryz.prog 117 1 1 1 false := ⟨⟨_, _, runUnderlying117, rfl, rfl, sizeOf4, by decide, isAgg4⟩⟩
theorem Tc : ∀ fs, (∀ w, (underlying 114).run Tryz.prog w = .ok (.struct fs) w) -> Fq Tryz.prog fs [(0, 2), (2, 1), (3, 1)] := by
 intro fs h w
 have := (h w).symm.trans (runUnderlying114 w)
 simp only [Result.ok.injEq, TypeDesc.struct.injEq, and_true] at this;subst this
 simp [sizeOf24, sizeOf111, sizeOf112, Sem.run]
theorem lastS (l : List BSq) (x : BSq) : idx (l ++ [x]) (((l ++ [x]).length : Int) - 1) = some x := by
 have e : ((l ++ [x]).length : Int) - 1 = (l.length : Int) := by simp
 rw [e];unfold idx;rw [if_pos (by omega)]
 simp
theorem initS (l : List BSq) (x : BSq) : sli (l ++ [x]) 0 (((l ++ [x]).length : Int) - 1) = some l := by
 have e : ((l ++ [x]).length : Int) - 1 = (l.length : Int) := by simp
 rw [e];unfold sli;rw [if_pos ⟨Int.le_refl _, by omega, by simp; omega⟩]
 simp
theorem SH {t : ATy} {q : BSq} {b : Bool} (hm : Hl t q = some b) : Fn0 Tryz.prog 57 [ATy.d t, BSq.d q] (.bool b) := by
 obtain ⟨U, hqU, hUl, hkey, hinj, hlead, hb⟩ := Sk hm;refine Ae func57 Uj ntmps57 Uj fun H0 fr w0 => ?_;refine AO (gRg ?_);refine Ah Uj Uj Uj (Qv Uj Uj) ?_;refine Ah Uj Uj Uj (Qv Uj Uj) ?_;refine Ah Uj Uj Uj (oAs Uj) ?_;refine gNl (AO (gRg ?_));refine Ah Uj Uj Uj (Bq isAgg24 sizeOf24 Uj Uj) ?_;refine An Uj Uj Uj (IM (fk := kStr) (fv := D.bool)) ?_;rintro _ _ ⟨bm, rfl, rfl⟩;refine Ah Uj Uj Uj (Aw (zs := [.list 4 ANd.d [], .v (.int .i64 0), .v (.map none), .v (.slice none 0 0)]) runUnderlying114 zeroValue114 (Tc _ runUnderlying114) rfl Uj Uj Uj) ?_;refine An Uj Uj Uj (J5 Uj Uj Uj) ?_;rintro _ _ ⟨bs, rfl, rfl⟩;refine Am (Db (T := 75) (sz := 2) (f := BSq.d)) ?_;refine Ag (ms' := [_, box bs 114 [.list 4 ANd.d t.l, .i64 t.root, .v (.map (some bm)), .v (.slice none 0 0)], _]) rfl ?_;refine Am (Nq 1 2 rfl Uj) ?_;refine Ah Uj Uj Uj (oAs Uj) ?_;refine gNl ?_;refine BL (ND (ms' := [boxf bs 114 2 [.list 4 ANd.d t.l, .i64 t.root, .v (.map (some bm)), .v (.slice none 0 0)], mp bm kStr D.bool [], arr none 0 0 75 2 BSq.d []]) (List.perm_append_comm (l₁ := [arr none 0 0 75 2 BSq.d []]) (l₂ := [_, _]))) ?_;obtain ⟨k0, hk0⟩ := hkey q hqU
 have hI0 : InvS t q U [] [] [] [] := ⟨List.nodup_nil, by simp, by simp, by simp [mget], by simp, Nat.le_refl _, by simp⟩
 obtain ⟨hI1, hq1, _, _⟩ := hI0.ask hinj hqU .refl hk0;refine AO (gRg ?_);refine Ah Uj Uj Uj (oMv Uj) ?_;refine Ah Uj Uj Uj (Bq isAgg75 sizeOf75 Uj Uj) ?_;refine An Uj Uj Uj (CU [0, 1, 2] call95 Uj Uj (CJ Uj (CJ Uj (CJ Uj DF))) (Tu (s := q) hk0 (Nat.zero_le _)) (by rintro _ _ ⟨rfl, _, _, _, rfl⟩; rfl)) ?_;rintro _ _ ⟨_, ⟨rfl, a, m, cap, rfl⟩, rfl⟩;refine Ag (ms' := [boxf bs 114 2 [_, _, _, _], _, _]) rfl ?_;refine gNl (AO (Aj ?_));refine G6 [(5, .v (.pointer (some ⟨bs, 0, none⟩)))] (fun (s : (List (List UInt8 × Bool) × List BSq × List BSq × Option Addr × Nat × Nat)) => match s with | (seen, todo, S, a, m, cap) => InvS t q U [] seen todo S /\ q ∈ S) (fun _ => [])
  (fun s => match s with | (seen, todo, S, a, m, cap) => [boxf bs 114 2 [.list 4 ANd.d t.l, .i64 t.root, .v (.map (some bm)), .v (.slice a m cap)], mp bm kStr D.bool seen, arr a m cap 75 2 BSq.d todo]) (fun s => 2 * (U.length - s.2.2.1.length) + s.2.1.length) (askS [] k0, askT [] k0 [] q, _, a, m, cap) ⟨hI1, hq1⟩ ⟨rfl, trivial⟩ trivial rfl ?_
 rintro ⟨seen, todo, S, a, m, cap⟩ ⟨hI, hqS⟩;refine Av (L' := [(5, .v (.pointer (some ⟨bs, 0, none⟩)))]) (ms' := [boxf bs 114 2 [.list 4 ANd.d t.l, .i64 t.root, .v (.map (some bm)), .v (.slice a m cap)], mp bm kStr D.bool seen, arr a m cap 75 2 BSq.d todo]) rfl Uj ?_;refine AO (AO (gRg ?_));refine Ah Uj Uj Uj (oMv Uj) ?_;refine Ah Uj Uj Uj (Bx Uj) ?_;refine Ah Uj Uj Uj (oFb ED Uj) ?_;refine Ah Uj Uj Uj (Dd 0 isAgg112 Uj Uj Uj Uj) ?_;refine Ah Uj Uj Uj (BR 2 runUnderlying112 Uj Uj) ?_;refine Ah Uj Uj Uj (Jz Uj Uj Uj) ?_;refine gNl ?_;refine gCd Uj (fun hc1 => ?_) (fun hc1 => ?_)
 rotate_left
 ·have h0 : todo = [] := by
   have := of_decide_eq_false hc1
   exact List.length_eq_zero_iff.1 (by omega)
  subst h0;refine Ap ?_
  have hbt : b = true := hb.2 (hI.all hqS)
  subst hbt;refine AO (gRg ?_);refine Ah Uj Uj Uj (oAs Uj) ?_;refine gNl (Af ?_);exact retK (AE Uj (Bo Uj) (E7 _)) rfl
 ·refine gSp ?_
  obtain ⟨todo0, x, rfl⟩ : ∃ l x, todo = l ++ [x] := by
   have := of_decide_eq_true hc1
   have hne : todo ≠ [] := by rintro rfl; simp at this
   exact ⟨todo.dropLast, todo.getLast hne, (List.dropLast_concat_getLast hne).symm⟩
  have hxS : x ∈ S := hI.todoE x (by simp)
  have hlt : ((todo0 ++ [x]).length : Int) <= 1000000000000 := by have := hI.len; have := hI.le; omega
  have hg1 : InR (((todo0 ++ [x]).length : Int) - 1) := by constructor <;> omega
  obtain ⟨r, hr, hrU⟩ := hlead x (hI.inU x hxS);refine Aj (AO ?_);refine LB 13 [12] AC (by decide +kernel) (by decide +kernel) rfl (by decide +kernel) ?_;refine Cp Uj Uj Uj Uj (oMv Uj) ?_;refine Cp Uj Uj Uj Uj (Bx Uj) ?_;refine Cp Uj Uj Uj Uj (oFb ED Uj) ?_;refine Cp Uj Uj Uj Uj (Dd 0 isAgg112 Uj Uj Uj Uj) ?_;refine Cp Uj Uj Uj Uj (oMv Uj) ?_;refine Cp Uj Uj Uj Uj (Bx Uj) ?_;refine Cp Uj Uj Uj Uj (oFb ED Uj) ?_;refine Cp Uj Uj Uj Uj (Dd 0 isAgg112 Uj Uj Uj Uj) ?_;refine Cp Uj Uj Uj Uj (BR 2 runUnderlying112 Uj Uj) ?_;refine Cp Uj Uj Uj Uj (LJ Uj Uj (GB hg1)) ?_;refine Cp Uj Uj Uj Uj (At 2 runUnderlying112 sizeOf75 Uj Uj Uj (lastS todo0 x)) ?_;refine Cp Uj Uj Uj Uj (L6 2 isAgg75 sizeOf75 Uj Uj (Ao (lastS todo0 x)).2 rfl Uj) ?_;refine Ki (R := fun d A => ∃ b, d = .v (.pointer (some ⟨b, 0, none⟩)) /\ A = box b 75 [.list 1 D.i64 [], .list 1 D.i64 []]) rfl Uj Uj (OpT.mono (Ay zeroValue75 (cs := [.list 1 D.i64 [], .list 1 D.i64 []]) rfl) (by rintro d ms' ⟨b, rfl, rfl⟩; exact ⟨_, ⟨b, rfl, rfl⟩, rfl⟩)) ?_;refine Ni ?_;rintro _ _ ⟨bn, rfl, rfl⟩;refine Gk Uj Uj (oSb 0 sizeOf75 Uj Uj Uj Uj Uj Uj Uj Uj (nB Uj)) ?_;rintro _ _ rfl;refine Ag (ms' := [box bn 75 [.list 1 D.i64 x.left, .list 1 D.i64 x.right], _, _, _]) rfl ?_;refine gNl (AO ?_);refine Du [11, 14] [0, 12, 13] [] AC (by decide +kernel) (by decide +kernel) rfl ?_;refine Ar Uj Uj Uj Uj Uj Uj (oMv Uj) ?_;refine Ar Uj Uj Uj Uj Uj Uj (oMv Uj) ?_;refine Ar Uj Uj Uj Uj Uj Uj (Bx Uj) ?_;refine Ar Uj Uj Uj Uj Uj Uj (oFb ED Uj) ?_;refine Ar Uj Uj Uj Uj Uj Uj (Dd 1 isAgg112 Uj Uj Uj Uj) ?_;refine Ar Uj Uj Uj Uj Uj Uj (oMv Uj) ?_;refine Ar Uj Uj Uj Uj Uj Uj (Bx Uj) ?_;refine Ar Uj Uj Uj Uj Uj Uj (oFb ED Uj) ?_;refine Ar Uj Uj Uj Uj Uj Uj (Dd 1 isAgg112 Uj Uj Uj Uj) ?_;refine Ar Uj Uj Uj Uj Uj Uj (BR 3 runUnderlying112 Uj Uj) ?_;refine Ar Uj Uj Uj Uj Uj Uj (LJ Uj Uj (GB hg1)) ?_;refine Ds Uj ?_;refine Ar Uj Uj Uj Uj Uj Uj (Bx Uj) ?_;refine Ar Uj Uj Uj Uj Uj Uj (oFb ED Uj) ?_;refine Ds Uj ?_;refine Es ?_;refine F6 Uj Uj Uj Uj (GC 3 runUnderlying112 sizeOf75 Uj Uj Uj (initS todo0 x)) ?_;rintro _ _ ⟨a2, m2, cap2, rfl, rfl⟩;refine ⟨trivial, ?_⟩;refine Cn Uj Uj Uj (Jj 1 (by decide) sizeOf112 Uj Uj Uj Uj Uj Uj Uj Uj (nB Uj)) ?_;rintro _ _ rfl;refine ⟨trivial, ?_⟩
  refine BH ?_;refine AO (gRg ?_);refine Ag (ms' := [box bn 75 [.list 1 D.i64 x.left, .list 1 D.i64 x.right], boxf bs 114 2 [.list 4 ANd.d t.l, .i64 t.root, .v (.map (some bm)), .v (.slice a2 m2 cap2)], mp bm kStr D.bool seen, arr a2 m2 cap2 75 2 BSq.d todo0]) rfl ?_;refine Ah Uj Uj Uj (oMv Uj) ?_;refine Ah Uj Uj Uj (oLg 0 isAgg75 sizeOf75 Uj Uj Uj Uj (nB Uj)) ?_;refine An Uj Uj Uj (.view (peekF (i := 49) (d := ATy.d t) 1 rfl Uj Uj Uj) (Cm (ms₁ := []) call96 Uj (List.Perm.refl _) (Ib hr))) ?_;rintro _ _ ⟨_, ⟨p, hp, rfl, rfl⟩, rfl⟩;refine An Uj Uj Uj (Ay zeroValue117 (cs := [.list 2 BSq.d [], .bool false]) rfl) ?_;rintro _ _ ⟨ba, rfl, rfl⟩;refine Gk Uj Uj (oSb 0 sizeOf117 Uj Uj Uj Uj Uj Uj Uj Uj (nB Uj)) ?_;rintro _ _ rfl;refine Ag (ms' := [box ba 117 [.list 2 BSq.d p, .bool r.fails], box bn 75 [.list 1 D.i64 x.left, .list 1 D.i64 x.right], boxf bs 114 2 [.list 4 ANd.d t.l, .i64 t.root, .v (.map (some bm)), .v (.slice a2 m2 cap2)], mp bm kStr D.bool seen, arr a2 m2 cap2 75 2 BSq.d todo0]) rfl ?_;refine gNl (AO (AO (gRg ?_)));refine Ah Uj Uj Uj (oFb QE Uj) ?_;refine Ah Uj Uj Uj (oLb 0 isAgg4 Uj Uj Uj Uj) ?_;refine gNl ?_
  have hpU : ∀ s' ∈ p, s' ∈ U := fun s' hs' => hrU s' (hp.mem_iff.1 hs')
  have hpR : ∀ s' ∈ p, Reach t q s' := fun s' hs' => .step (hI.reach x hxS) hr (hp.mem_iff.1 hs')
  refine gCd Uj (fun hc2 => ?_) (fun hc2 => ?_)
  ·have hbf : b = false := by
    cases b with
    | false => rfl
    | true => have := hb.1 rfl x (hI.reach x hxS) r hr; rw [this] at hc2; cases hc2
   subst hbf;refine AO (gRg ?_);refine Ah Uj Uj Uj (oAs Uj) ?_;refine gNl (Af ?_);exact retK (AE Uj (Bo Uj) (E7 _)) rfl
  ·refine gSp ?_
   refine AO (gRg ?_);refine Ah Uj Uj Uj (oFb GX Uj) ?_;refine Ah Uj Uj Uj (oLb 0 isAgg112 Uj Uj Uj Uj) ?_;refine Ah Uj Uj Uj (EY runUnderlying112 Uj) ?_;refine Ah Uj Uj Uj (oMv Uj) ?_;refine gNl ?_;refine Q6 (i := 55) rfl fun hpl => ?_;refine Aj ?_;refine G6 [(5, .v (.pointer (some ⟨bs, 0, none⟩))), (55, .list 2 BSq.d p), (56, .i64 p.length)] (fun (s : Nat × (List (List UInt8 × Bool) × List BSq × List BSq × Option Addr × Nat × Nat)) => match s with | (i, seen', todo', S', a', m', cap') => InvS t q U [x] seen' todo' S' /\ (∀ y ∈ S, y ∈ S') /\ (∀ y ∈ p.take i, y ∈ S') /\ i <= p.length /\ 2 * (U.length - S'.length) + todo'.length <= 2 * (U.length - S.length) + todo0.length) (fun s => [(57, .i64 (s.1 : Int))])
    (fun s => match s with | (i, seen', todo', S', a', m', cap') => [box ba 117 [.list 2 BSq.d p, .bool r.fails], box bn 75 [.list 1 D.i64 x.left, .list 1 D.i64 x.right], boxf bs 114 2 [.list 4 ANd.d t.l, .i64 t.root, .v (.map (some bm)), .v (.slice a' m' cap')], mp bm kStr D.bool seen', arr a' m' cap' 75 2 BSq.d todo']) (fun s => p.length - s.1) (0, seen, todo0, S, a2, m2, cap2) ⟨hI.pop, fun y hy => hy, by simp, Nat.zero_le _, Nat.le_refl _⟩ ⟨rfl, rfl, rfl, trivial⟩ ⟨rfl, trivial⟩ rfl ?_
   rintro ⟨i, seen', todo', S', a', m', cap'⟩ ⟨hJ, hS, htk, hil, hms⟩;refine Av (L' := [(57, .i64 (i : Int)), (5, .v (.pointer (some ⟨bs, 0, none⟩))), (55, .list 2 BSq.d p), (56, .i64 p.length)]) (ms' := [box ba 117 [.list 2 BSq.d p, .bool r.fails], box bn 75 [.list 1 D.i64 x.left, .list 1 D.i64 x.right], boxf bs 114 2 [.list 4 ANd.d t.l, .i64 t.root, .v (.map (some bm)), .v (.slice a' m' cap')], mp bm kStr D.bool seen', arr a' m' cap' 75 2 BSq.d todo']) rfl Uj ?_;refine AO (gRg ?_);refine Ah Uj Uj Uj (Jz Uj Uj Uj) ?_;refine gNl (AO ?_);refine gCd Uj (fun hc3 => ?_) (fun hc3 => ?_)
   rotate_left
   ·have hie : i = p.length := by have := of_decide_eq_false hc3; omega
    subst hie;rw [List.take_length] at htk;refine Ap ?_
    have hK := hJ.close hr hc2 (fun s' hs' => htk s' (hp.mem_iff.2 hs'))
    exact ⟨(seen', todo', S', a', m', cap'), ⟨hK, hS q hqS⟩, by simp only [List.length_append, List.length_cons, List.length_nil] at hms ⊢; omega, trivial, ⟨rfl, trivial⟩, [_, _], rfl⟩
   ·have hlt2 : i < p.length := by have := of_decide_eq_true hc3; omega
    obtain ⟨y, hy⟩ : ∃ y, p[i]? = some y := ⟨p[i], by simp [hlt2]⟩
    have hym : y ∈ p := List.mem_of_getElem? hy
    have hyi : idx p (i : Int) = some y := by unfold idx; rw [if_pos (by omega), Int.toNat_natCast]; exact hy
    obtain ⟨ky, hky⟩ := hkey y (hpU y hym);obtain ⟨hA, hyS, hmu, hmo⟩ := hJ.ask hinj (hpU y hym) (hpR y hym) hky
    have htl : todo'.length <= 1000000000000 := by have := hJ.len; have := hJ.le; omega
    have hg4 : InR ((i : Int) + 1) := by simp only [maxLen] at hpl; constructor <;> omega
    refine gSp (AO (Aj (AO (gRg ?_))));refine Ah Uj Uj Uj (oIm runUnderlying112 sizeOf75 Uj Uj hyi) ?_;refine Ah Uj Uj Uj (Bq isAgg75 sizeOf75 Uj Uj) ?_;refine An Uj Uj Uj (Ay zeroValue75 (cs := [.list 1 D.i64 [], .list 1 D.i64 []]) rfl) ?_;rintro _ _ ⟨b9, rfl, rfl⟩;refine Gk Uj Uj (oSb 0 sizeOf75 Uj Uj Uj Uj Uj Uj Uj Uj (nB Uj)) ?_;rintro _ _ rfl;refine Ag (ms' := [box b9 75 [.list 1 D.i64 y.left, .list 1 D.i64 y.right], box ba 117 [_, _], box bn 75 [_, _], boxf bs 114 2 [_, _, _, _], _, _]) rfl ?_;refine gNl (gRg ?_);refine Ah Uj Uj Uj (oMv Uj) ?_;refine Ah Uj Uj Uj (oLg 0 isAgg75 sizeOf75 Uj Uj Uj Uj (nB Uj)) ?_;refine An Uj Uj Uj (CU [3, 4, 5] call95 Uj Uj (CJ Uj (CJ Uj (CJ Uj DF))) (Tu (s := y) hky htl) (by rintro _ _ ⟨rfl, _, _, _, rfl⟩; rfl)) ?_;rintro _ _ ⟨_, ⟨rfl, a4, m4, cap4, rfl⟩, rfl⟩;refine Ag (ms' := [box b9 75 [_, _], box ba 117 [_, _], box bn 75 [_, _], boxf bs 114 2 [_, _, _, _], _, _]) rfl ?_;refine gNl (gRg ?_);refine Ah Uj Uj Uj (RO Uj Uj (GB hg4)) ?_;refine Ah Uj Uj Uj (oMv Uj) ?_;refine gNl ?_
    have htk' : p.take (i + 1) = p.take i ++ [y] := by rw [List.take_add_one, hy]; rfl
    refine ⟨(i + 1, askS seen' ky, askT seen' ky todo' y, _, a4, m4, cap4), ⟨hA, fun z hz => hmo z (hS z hz), fun z hz => ?_, hlt2, Nat.le_trans hmu hms⟩, by simp only; omega, ⟨rfl, trivial⟩, ⟨rfl, rfl, rfl, trivial⟩, [_], rfl⟩;rw [htk'] at hz
    rcases List.mem_append.1 hz with hz | hz
    ·exact hmo z (htk z hz)
    ·simp at hz; subst hz; exact hyS
end Go.Proofs.YtkfnogdccpcmhaaGreatDoor
