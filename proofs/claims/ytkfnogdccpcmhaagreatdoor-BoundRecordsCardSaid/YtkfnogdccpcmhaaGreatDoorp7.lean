/- Part 7 of the proof: a program logic, what the functions compute, and what these answer; no condition. -/
import Derived.Test.YtkfnogdccpcmhaaGreatDoorp6
import Derived.Test.YtkfnogdccpcmhaaGreatDoorProg
set_option linter.unusedVariables false
set_option linter.unusedSimpArgs false
set_option maxRecDepth 100000
set_option maxHeartbeats 2000000
namespace Go.Proofs.YtkfnogdccpcmhaaGreatDoor
open Go.V Tryz
theorem IZ {l:List ANd} (hl:l.length*48<=140737488355328) :
  Go.V.Fn Tryz.prog 74 [.list 4 ANd.d l] [] (fun d ms'=>∃ a cap,d = .v (.slice a l.length cap)/\ms'=[arr a l.length cap 44 4 ANd.d l]):=by
 refine Ad func74 rfl ntmps74 rfl fun H0 fr w0=>?_;refine zq8 ?_;refine Av rfl rfl rfl (Gx underlying22 rfl rfl) ?_;rintro _ _ ⟨b,rfl,rfl,hb⟩;refine gNl ?_;refine gCd rfl (fun hc1=>?_) (fun hc1=>?_)
 ·
  skip
  obtain rfl:=hb hc1;refine BA (Cm (T:=44) (sz:=4) (f:=ANd.d)) ?_;refine zq4 ?_;refine Ae ?_;exact retK (AC rfl (Bh rfl) (Dy _)) (⟨none,0,rfl,rfl⟩)
 ·
  skip
  refine zq3 ?_;refine Av rfl rfl rfl (Aq (xs:=[]) (f:=ANd.d) (l:=[]) runUnderlying22 sizeOf44 zeroValue44 rfl rfl rfl (fun _=>⟨rfl,rfl,rfl⟩) rfl (by simp [maxLen])) ?_;rintro _ _ ⟨a1,rfl,rfl⟩;refine zq1 ?_;refine Av rfl rfl rfl (G9 (a:=_) 0 underlying22 type44 rfl rfl rfl rfl rfl rfl rfl rfl hl (A2 hl rfl)) ?_;rintro _ _ ⟨a2,cap2,rfl,rfl⟩;refine zq2 ?_;refine Ae ?_;exact retK (AC rfl (Bh rfl) (Dy _)) (⟨_,_,rfl,rfl⟩)
theorem L6 {l:List AFd} (hl:l.length*24<=140737488355328) :
  Go.V.Fn Tryz.prog 77 [.list 2 AFd.d l] [] (fun d ms'=>∃ a cap,d = .v (.slice a l.length cap)/\ms'=[arr a l.length cap 98 2 AFd.d l]):=by
 refine Ad func77 rfl ntmps77 rfl fun H0 fr w0=>?_;refine zq8 ?_;refine Av rfl rfl rfl (Gx underlying42 rfl rfl) ?_;rintro _ _ ⟨b,rfl,rfl,hb⟩;refine gNl ?_;refine gCd rfl (fun hc1=>?_) (fun hc1=>?_)
 ·
  skip
  obtain rfl:=hb hc1;refine BA (Cm (T:=98) (sz:=2) (f:=AFd.d)) ?_;refine zq4 ?_;refine Ae ?_;exact retK (AC rfl (Bh rfl) (Dy _)) (⟨none,0,rfl,rfl⟩)
 ·
  skip
  refine zq3 ?_;refine Av rfl rfl rfl (Aq (xs:=[]) (f:=AFd.d) (l:=[]) runUnderlying42 sizeOf98 zeroValue98 rfl rfl rfl (fun _=>⟨rfl,rfl,rfl⟩) rfl (by simp [maxLen])) ?_;rintro _ _ ⟨a1,rfl,rfl⟩;refine zq1 ?_;refine Av rfl rfl rfl (G9 (a:=_) 0 underlying42 type98 rfl rfl rfl rfl rfl rfl rfl rfl hl (A2 hl rfl)) ?_;rintro _ _ ⟨a2,cap2,rfl,rfl⟩;refine zq2 ?_;refine Ae ?_;exact retK (AC rfl (Bh rfl) (Dy _)) (⟨_,_,rfl,rfl⟩)
theorem QK {n:Int} (h0:0<=n) (hb:n.toNat*8<=140737488355328) :
  Go.V.Fn Tryz.prog 94 [.v (.slice none 0 0),.i64 n] [] (fun d ms'=>∃ a cap,d = .v (.slice a 0 cap)/\ms'=[row a cap 3 1 D.i64 []]):=by
 refine Ad func94 rfl ntmps94 rfl fun H0 fr w0=>?_;refine zq10 ?_;refine gCd rfl (fun hc1=>?_) (fun hc1=>?_)
 ·
  try simp only [decide_eq_true_eq,decide_eq_false_iff_not,Bool.not_eq_true',Bool.not_eq_false',Bool.and_eq_true,Bool.or_eq_true,Bool.and_eq_false_iff,Bool.or_eq_false_iff,Int.not_lt,Int.not_le,ne_eq,Decidable.not_not] at hc1
  omega
 ·
  try simp only [decide_eq_true_eq,decide_eq_false_iff_not,Bool.not_eq_true',Bool.not_eq_false',Bool.and_eq_true,Bool.or_eq_true,Bool.and_eq_false_iff,Bool.or_eq_false_iff,Int.not_lt,Int.not_le,ne_eq,Decidable.not_not] at hc1
  refine zq6 ?_;refine Af rfl rfl rfl (IK runUnderlying25 rfl) ?_;refine zq1 ?_;refine Af rfl rfl rfl (ID runUnderlying25 rfl) ?_;refine Af rfl rfl rfl (Lv rfl rfl (Gw (by omega))) ?_;refine Af rfl rfl rfl (Lv rfl rfl (Gw (by omega))) ?_;refine zq7 ?_;refine gCd rfl (fun hc2=>?_) (fun hc2=>?_)
  ·
   try simp only [decide_eq_true_eq,decide_eq_false_iff_not,Bool.not_eq_true',Bool.not_eq_false',Bool.and_eq_true,Bool.or_eq_true,Bool.and_eq_false_iff,Bool.or_eq_false_iff,Int.not_lt,Int.not_le,ne_eq,Decidable.not_not] at hc2
   have hn2:n.toNat<=140737488355328:=Nat.le_trans (Nat.le_mul_of_pos_right _ (by decide)) hb
   refine zq3 ?_;refine Af rfl rfl rfl (IK runUnderlying25 rfl) ?_;refine Af rfl rfl rfl (Gr runUnderlying25 sizeOf3 rfl rfl (Nat.le_refl _) (Nat.le_refl _)) ?_;refine zq1 ?_;refine Av rfl rfl rfl (GC (f:=D.i64) underlying25 underlying3 type3 rfl rfl rfl rfl rfl rfl (by omega) (by simpa [Tryz.t3] using hb) rfl) ?_;rintro _ _ ⟨a,cap,hcap,rfl,rfl⟩;refine zq1 ?_;refine Af rfl rfl rfl (ID runUnderlying25 rfl) ?_;refine Af rfl rfl rfl (Gr runUnderlying25 sizeOf3 rfl rfl (Nat.zero_le _) (hcap)) ?_;refine zq7 ?_;refine Ae ?_;exact retK (AC rfl (Bh rfl) (Dy _)) (⟨_,_,rfl,rfl⟩)
  ·
   try simp only [decide_eq_true_eq,decide_eq_false_iff_not,Bool.not_eq_true',Bool.not_eq_false',Bool.and_eq_true,Bool.or_eq_true,Bool.and_eq_false_iff,Bool.or_eq_false_iff,Int.not_lt,Int.not_le,ne_eq,Decidable.not_not] at hc2
   refine BA (AB (T:=3) (sz:=1) (f:=D.i64)) ?_;refine zq6 ?_;refine Ae ?_;exact retK (AC rfl (Bh rfl) (Dy _)) (⟨none,0,rfl,rfl⟩)
theorem Hs {l:List Int} (hl:l.length*8<=140737488355328) :
  Go.V.Fn Tryz.prog 97 [.list 1 D.i64 l] [] (fun d ms'=>∃ a cap,d = .v (.slice a l.length cap)/\ms'=[arr a l.length cap 3 1 D.i64 l]):=by
 refine Ad func97 rfl ntmps97 rfl fun H0 fr w0=>?_;refine zq8 ?_;refine Av rfl rfl rfl (Gx underlying25 rfl rfl) ?_;rintro _ _ ⟨b,rfl,rfl,hb⟩;refine gNl ?_;refine gCd rfl (fun hc1=>?_) (fun hc1=>?_)
 ·
  skip
  obtain rfl:=hb hc1;refine BA (Cm (T:=3) (sz:=1) (f:=D.i64)) ?_;refine zq4 ?_;refine Ae ?_;exact retK (AC rfl (Bh rfl) (Dy _)) (⟨none,0,rfl,rfl⟩)
 ·
  skip
  refine zq3 ?_;refine Av rfl rfl rfl (Aq (xs:=[]) (f:=D.i64) (l:=[]) runUnderlying25 sizeOf3 zeroValue3 rfl rfl rfl (fun _=>⟨rfl,rfl,rfl⟩) rfl (by simp [maxLen])) ?_;rintro _ _ ⟨a1,rfl,rfl⟩;refine zq1 ?_;refine Av rfl rfl rfl (G9 (a:=_) 0 underlying25 type3 rfl rfl rfl rfl rfl rfl rfl rfl hl (A2 hl rfl)) ?_;rintro _ _ ⟨a2,cap2,rfl,rfl⟩;refine zq2 ?_;refine Ae ?_;exact retK (AC rfl (Bh rfl) (Dy _)) (⟨_,_,rfl,rfl⟩)
theorem O8 {n:Int} (h0:0<=n) (hb:n.toNat*32<=140737488355328) :
  Go.V.Fn Tryz.prog 108 [.v (.slice none 0 0),.i64 n] [] (fun d ms'=>∃ a cap,d = .v (.slice a 0 cap)/\ms'=[row a cap 24 2 ATy.d []]):=by
 refine Ad func108 rfl ntmps108 rfl fun H0 fr w0=>?_;refine zq10 ?_;refine gCd rfl (fun hc1=>?_) (fun hc1=>?_)
 ·
  try simp only [decide_eq_true_eq,decide_eq_false_iff_not,Bool.not_eq_true',Bool.not_eq_false',Bool.and_eq_true,Bool.or_eq_true,Bool.and_eq_false_iff,Bool.or_eq_false_iff,Int.not_lt,Int.not_le,ne_eq,Decidable.not_not] at hc1
  omega
 ·
  try simp only [decide_eq_true_eq,decide_eq_false_iff_not,Bool.not_eq_true',Bool.not_eq_false',Bool.and_eq_true,Bool.or_eq_true,Bool.and_eq_false_iff,Bool.or_eq_false_iff,Int.not_lt,Int.not_le,ne_eq,Decidable.not_not] at hc1
  refine zq6 ?_;refine Af rfl rfl rfl (IK runUnderlying53 rfl) ?_;refine zq1 ?_;refine Af rfl rfl rfl (ID runUnderlying53 rfl) ?_;refine Af rfl rfl rfl (Lv rfl rfl (Gw (by omega))) ?_;refine Af rfl rfl rfl (Lv rfl rfl (Gw (by omega))) ?_;refine zq7 ?_;refine gCd rfl (fun hc2=>?_) (fun hc2=>?_)
  ·
   try simp only [decide_eq_true_eq,decide_eq_false_iff_not,Bool.not_eq_true',Bool.not_eq_false',Bool.and_eq_true,Bool.or_eq_true,Bool.and_eq_false_iff,Bool.or_eq_false_iff,Int.not_lt,Int.not_le,ne_eq,Decidable.not_not] at hc2
   have hn2:n.toNat<=140737488355328:=Nat.le_trans (Nat.le_mul_of_pos_right _ (by decide)) hb
   refine zq3 ?_;refine Af rfl rfl rfl (IK runUnderlying53 rfl) ?_;refine Af rfl rfl rfl (Gr runUnderlying53 sizeOf24 rfl rfl (Nat.le_refl _) (Nat.le_refl _)) ?_;refine zq1 ?_;refine Av rfl rfl rfl (GC (f:=ATy.d) underlying53 underlying3 type24 rfl rfl rfl rfl rfl rfl (by omega) (by simpa [Tryz.t24] using hb) rfl) ?_;rintro _ _ ⟨a,cap,hcap,rfl,rfl⟩;refine zq1 ?_;refine Af rfl rfl rfl (ID runUnderlying53 rfl) ?_;refine Af rfl rfl rfl (Gr runUnderlying53 sizeOf24 rfl rfl (Nat.zero_le _) (hcap)) ?_;refine zq7 ?_;refine Ae ?_;exact retK (AC rfl (Bh rfl) (Dy _)) (⟨_,_,rfl,rfl⟩)
  ·
   try simp only [decide_eq_true_eq,decide_eq_false_iff_not,Bool.not_eq_true',Bool.not_eq_false',Bool.and_eq_true,Bool.or_eq_true,Bool.and_eq_false_iff,Bool.or_eq_false_iff,Int.not_lt,Int.not_le,ne_eq,Decidable.not_not] at hc2
   refine BA (AB (T:=24) (sz:=2) (f:=ATy.d)) ?_;refine zq6 ?_;refine Ae ?_;exact retK (AC rfl (Bh rfl) (Dy _)) (⟨none,0,rfl,rfl⟩)
def GY (s1:(List ANd)) (f1:(ANd->Option Bool)):Nat->Int->Option (Out Int Unit)
 | 0,_=>none
 | n+1,x1 =>
  bif (decide (x1<(s1.length:Int))) then
   (idx s1 x1).bind fun x2 =>
   (f1 x2).bind fun x3 =>
   bif x3 then
    some (Out.ret x1)
   else
    grd (InR (x1+1)) <|
    GY s1 f1 n (x1+1)
  else
   some (Out.go (()))
def PL (s1:(List ANd)) (f1:(ANd->Option Bool)):Option Int:=
 ((GY s1 f1 FU 0:Option (Out Int Unit))).bind (fun oo=>oo.on (fun r1=>some r1) (fun _ =>
 some (-1)))
theorem Uk {s1:(List ANd)} {f1:(ANd->Option Bool)} {r_1:Int} {fv_f1:D} (hff1:OY Tryz.prog fv_f1 ANd.d D.bool f1) (hm:PL s1 f1=some r_1):Fn0 Tryz.prog 121 [.list 4 ANd.d s1,fv_f1] (.i64 r_1):=by
 unfold PL at hm;refine Ad func121 rfl ntmps121 rfl fun H0 fr w0=>?_;refine zq11 ?_;obtain ⟨o_1,hj1,hm1⟩:=bS hm;refine Ak [] [] (fun (st:Unit) (hid:Unit)=>match st,hid with | _,_=>[]) (fun F (st:Unit) (hid:Unit)=>match st,hid with | _,_=>[]) (fun st=>Out.go (st)=o_1) trivial trivial ?_ ?_
 ·refine Aj ?_
  refine Ai [(0,_),(1,_),(7,_)] [] (fun (st:Int) (hid:Unit)=>match st,hid with | x1,_=>[(8,.i64 x1)]) (fun F (st:Int) (hid:Unit)=>match st,hid with | x1,_=>[]) () hj1 (fun _=>rfl) ⟨rfl,rfl,rfl,trivial⟩ trivial ⟨rfl,trivial⟩ rfl ?_;rintro n x1 _ hj1;rw [GY] at hj1;refine Ar (L':=[(8,.i64 x1),(0,_),(1,_),(7,_)]) (ms':=[]) rfl rfl ?_;refine zq5 ?_;refine zcn hj1 (fun hc1 hj1=>?_) (fun hc1 hj1=>?_)
  ·refine zq13 ?_
   obtain ⟨x2,hx1,hj1⟩:=bS hj1;refine zq2 ?_;obtain ⟨x3,hx2,hj1⟩:=bS hj1;refine Af rfl rfl rfl (GV rfl rfl (hff1 _ _ hx2)) ?_;refine gNl ?_;refine zcn hj1 (fun hc2 hj1=>?_) (fun hc2 hj1=>?_)
   ·refine zq5 ?_
    refine Ae ?_;obtain rfl:=Ac hj1
    replace hm1:=BJ hm1
    cases hm1;exact zr1
   ·refine zq2 ?_
    obtain ⟨hg3,hj1⟩:=Aa hj1;refine zq3 ?_;exact ⟨_,(),hj1,⟨rfl,trivial⟩,⟨rfl,rfl,rfl,trivial⟩,[],rfl⟩
  ·refine Ao ?_
   exact ⟨_,(),Ac hj1,trivial,trivial,[],rfl⟩
 ·rintro _ _ hst
  subst hst
  replace hm1:=Dh hm1
  refine An (L':=[]) (ms':=[]) rfl rfl ?_;refine zq4 ?_
  cases hm1;exact Ae zr1
def N5 (s1:(List ANd)) (f1:(ANd->Option Bool)):Option Bool:=
 (PL s1 f1).bind fun x1 =>
 some (decide (0<=x1))
theorem Uw {s1:(List ANd)} {f1:(ANd->Option Bool)} {r_1:Bool} {fv_f1:D} (hff1:OY Tryz.prog fv_f1 ANd.d D.bool f1) (hm:N5 s1 f1=some r_1):Fn0 Tryz.prog 89 [.list 4 ANd.d s1,fv_f1] (.bool r_1):=by
 unfold N5 at hm;refine Ad func89 rfl ntmps89 rfl fun H0 fr w0=>?_;refine zq8 ?_;obtain ⟨x1,hx1,hm⟩:=bS hm;refine zc0 (Uk hff1 hx1) ?_;refine zq3 ?_
 cases hm;exact Ae zr1
def EW (s1:(List Int)) (f1:(Int->Option Bool)):Nat->Int->Option (Out Int Unit)
 | 0,_=>none
 | n+1,x1 =>
  bif (decide (x1<(s1.length:Int))) then
   (idx s1 x1).bind fun x2 =>
   (f1 x2).bind fun x3 =>
   bif x3 then
    some (Out.ret x1)
   else
    grd (InR (x1+1)) <|
    EW s1 f1 n (x1+1)
  else
   some (Out.go (()))
def LK (s1:(List Int)) (f1:(Int->Option Bool)):Option Int:=
 ((EW s1 f1 FU 0:Option (Out Int Unit))).bind (fun oo=>oo.on (fun r1=>some r1) (fun _ =>
 some (-1)))
theorem TH {s1:(List Int)} {f1:(Int->Option Bool)} {r_1:Int} {tl_0:List Asrt} {fv_f1:D} (hff1:Nc Tryz.prog fv_f1 D.i64 D.bool tl_0 f1) (hm:LK s1 f1=some r_1):FnT Tryz.prog 93 [.list 1 D.i64 s1,fv_f1] tl_0 (.i64 r_1):=by
 unfold LK at hm;refine Ad func93 rfl ntmps93 rfl fun H0 fr w0=>?_;refine zq11 ?_;obtain ⟨o_1,hj1,hm1⟩:=bS hm;refine Ak [] [] (fun (st:Unit) (hid:Unit)=>match st,hid with | _,_=>[]) (fun F (st:Unit) (hid:Unit)=>match st,hid with | _,_=>[]++tl_0) (fun st=>Out.go (st)=o_1) trivial trivial ?_ ?_
 ·refine Aj ?_
  refine Ai [(0,_),(1,_),(7,_)] [] (fun (st:Int) (hid:Unit)=>match st,hid with | x1,_=>[(8,.i64 x1)]) (fun F (st:Int) (hid:Unit)=>match st,hid with | x1,_=>[]++tl_0) () hj1 (fun _=>rfl) ⟨rfl,rfl,rfl,trivial⟩ trivial ⟨rfl,trivial⟩ rfl ?_;rintro n x1 _ hj1;rw [EW] at hj1;refine Ar (L':=[(8,.i64 x1),(0,_),(1,_),(7,_)]) (ms':=[]++tl_0) rfl rfl ?_;refine zq5 ?_;refine zcn hj1 (fun hc1 hj1=>?_) (fun hc1 hj1=>?_)
  ·refine zq13 ?_
   obtain ⟨x2,hx1,hj1⟩:=bS hj1;refine zq2 ?_;obtain ⟨x3,hx2,hj1⟩:=bS hj1;refine Af rfl rfl rfl (Zq (tl:=tl_0) [] rfl rfl rfl (hff1 _ _ hx2)) ?_;refine gNl ?_;refine zcn hj1 (fun hc2 hj1=>?_) (fun hc2 hj1=>?_)
   ·refine zq5 ?_
    refine Ae ?_;obtain rfl:=Ac hj1
    replace hm1:=BJ hm1
    exact retK (AC (ms':=tl_0) (drop:=[]) rfl (Bh rfl) (List.Perm.refl _)) ⟨congrArg (fun (p:Int)=>(.i64 p:D)) (Ac hm1),rfl⟩
   ·refine zq2 ?_
    obtain ⟨hg3,hj1⟩:=Aa hj1;refine zq3 ?_;exact ⟨_,(),hj1,⟨rfl,trivial⟩,⟨rfl,rfl,rfl,trivial⟩,[],rfl⟩
  ·refine Ao ?_
   exact ⟨_,(),Ac hj1,trivial,trivial,[],rfl⟩
 ·rintro _ _ hst
  subst hst
  replace hm1:=Dh hm1
  refine An (L':=[]) (ms':=[]++tl_0) rfl rfl ?_;refine zq4 ?_;refine Ae ?_;exact retK (AC (ms':=tl_0) (drop:=[]) rfl (Bh rfl) (List.Perm.refl _)) ⟨congrArg (fun (p:Int)=>(.i64 p:D)) (Ac hm1),rfl⟩
def Jq (s1:(List Int)) (f1:(Int->Option Bool)):Option Bool:=
 (LK s1 f1).bind fun x1 =>
 some (decide (0<=x1))
theorem Sm {s1:(List Int)} {f1:(Int->Option Bool)} {r_1:Bool} {tl_0:List Asrt} {fv_f1:D} (hff1:Nc Tryz.prog fv_f1 D.i64 D.bool tl_0 f1) (hm:Jq s1 f1=some r_1):FnT Tryz.prog 54 [.list 1 D.i64 s1,fv_f1] tl_0 (.bool r_1):=by
 unfold Jq at hm;refine Ad func54 rfl ntmps54 rfl fun H0 fr w0=>?_;refine zq8 ?_;obtain ⟨x1,hx1,hm⟩:=bS hm;refine Af rfl rfl rfl (QA (tl:=tl_0) [] rfl call93 rfl (TH hff1 hx1)) ?_;refine zq3 ?_;refine Ae ?_;exact retK (AC (ms':=tl_0) (drop:=[]) rfl (Bh rfl) (List.Perm.refl _)) ⟨congrArg (fun (p:Bool)=>(.bool p:D)) (Ac hm),rfl⟩
def CK (kind1:Int):Option Bool:=
 some (((decide (kind1=6))||(decide (kind1=9)))||(decide (kind1=10)))
theorem Ht {kind1:Int} {r_1:Bool} (hm:CK kind1=some r_1):Fn0 Tryz.prog 122 [.i64 kind1] (.bool r_1):=by
 unfold CK at hm;refine Ad func122 rfl ntmps122 rfl fun H0 fr w0=>?_;refine zq9 ?_
 apply Bt [(0,_)] 3 8 (t:=5) ⟨rfl,trivial⟩ rfl
 ·intro hg_1 hk1
  refine zq3 ?_;exact zgm hk1
 ·intro hg_1 hk1
  refine zq3 ?_;exact zgm hk1
 refine zq1 ?_
 apply Bt [] 3 12 (t:=9) trivial rfl
 ·intro hg_2 hk2
  refine zq3 ?_;exact zgm hk2
 ·intro hg_2 hk2
  refine zq3 ?_;exact zgm hk2
 refine zq2 ?_
 cases hm;exact Ae zr1
def Ea (kind1:Int):Option Bool:=
 some ((decide (kind1=7))||(decide (kind1=8)))
theorem JP {kind1:Int} {r_1:Bool} (hm:Ea kind1=some r_1):Fn0 Tryz.prog 123 [.i64 kind1] (.bool r_1):=by
 unfold Ea at hm;refine Ad func123 rfl ntmps123 rfl fun H0 fr w0=>?_;refine zq9 ?_
 apply Bt [] 3 8 (t:=5) trivial rfl
 ·intro hg_1 hk1
  refine zq3 ?_;exact zgm hk1
 ·intro hg_1 hk1
  refine zq3 ?_;exact zgm hk1
 refine zq2 ?_
 cases hm;exact Ae zr1
def CC (c1:UInt8):Option Bool:=
 some (((decide (97<=(c1.toNat:Int)))&&(decide ((c1.toNat:Int)<=122)))||(decide ((c1.toNat:Int)=95)))
theorem Hf {c1:UInt8} {r_1:Bool} (hm:CC c1=some r_1):Fn0 Tryz.prog 116 [.u8 c1] (.bool r_1):=by
 unfold CC at hm;refine Ad func116 rfl ntmps116 rfl fun H0 fr w0=>?_;refine zq9 ?_
 apply Bo [(0,_)] 3 8 (t:=5) ⟨rfl,trivial⟩ rfl
 ·intro hg_1 hk1
  refine zq3 ?_;exact zgm hk1
 ·intro hg_1 hk1
  refine zq3 ?_;exact zgm hk1
 refine zq1 ?_
 apply Bt [] 3 12 (t:=9) trivial rfl
 ·intro hg_2 hk2
  refine zq3 ?_;exact zgm hk2
 ·intro hg_2 hk2
  refine zq3 ?_;exact zgm hk2
 refine zq2 ?_
 cases hm;exact Ae zr1
def Dk (c1:UInt8):Option Bool:=
 some ((decide (65<=(c1.toNat:Int)))&&(decide ((c1.toNat:Int)<=90)))
theorem Ha {c1:UInt8} {r_1:Bool} (hm:Dk c1=some r_1):Fn0 Tryz.prog 171 [.u8 c1] (.bool r_1):=by
 unfold Dk at hm;refine Ad func171 rfl ntmps171 rfl fun H0 fr w0=>?_;refine zq9 ?_
 apply Bo [] 3 8 (t:=5) trivial rfl
 ·intro hg_1 hk1
  refine zq3 ?_;exact zgm hk1
 ·intro hg_1 hk1
  refine zq3 ?_;exact zgm hk1
 refine zq2 ?_
 cases hm;exact Ae zr1
def Gs (c1:UInt8):Option Bool:=
 (CC c1).bind fun x1 =>
 (bif x1 then (some true) else ((Dk c1).bind fun x2 =>
 some x2)).bind fun p1 =>
 some (p1||((decide (48<=(c1.toNat:Int)))&&(decide ((c1.toNat:Int)<=57))))
theorem NO {c1:UInt8} {r_1:Bool} (hm:Gs c1=some r_1):Fn0 Tryz.prog 172 [.u8 c1] (.bool r_1):=by
 unfold Gs at hm;refine Ad func172 rfl ntmps172 rfl fun H0 fr w0=>?_;refine zq7 ?_;obtain ⟨x1,hx1,hm⟩:=bS hm;refine zc0 (Hf hx1) ?_;refine zq1 ?_;obtain ⟨p1,hp_1,hm⟩:=bS hm;refine AL [(0,_)] 3 8 p1 (t:=5) ⟨rfl,trivial⟩ rfl (fun hg_1 hk1=>?_) (fun hg_1 hk1=>?_) ?_
 ·replace hp_1:=AO hg_1 hp_1
  refine zq3 ?_;exact zgb hk1 hp_1
 ·replace hp_1:=AP hg_1 hp_1
  refine zq1 ?_;obtain ⟨x2,hx2,hp_1⟩:=bS hp_1;refine zcw (Ha hx2) ?_;refine zq1 ?_;exact zgb hk1 hp_1
 refine zq1 ?_
 apply Bt [] 7 16 (t:=9) trivial rfl
 ·intro hg_2 hk2
  refine zq3 ?_
  apply Bo [(9,_)] 3 15 (t:=12) ⟨rfl,trivial⟩ rfl
  ·intro hg_3 hk3
   refine zq3 ?_;exact zgm hk3
  ·intro hg_3 hk3
   refine zq3 ?_;exact zgm hk3
  refine zq1 ?_;exact zgm hk2
 ·intro hg_2 hk2
  refine zq7 ?_;exact zgm hk2
 refine zq2 ?_
 cases hm;exact Ae zr1
def C7 (s1:(List UInt8)):Nat->Int->Option Int
 | 0,_=>none
 | n+1,n2 =>
  (bif (decide (n2<(s1.length:Int))) then ((idx s1 n2).bind fun c3 =>
  (Gs c3).bind fun x3 =>
  some x3) else (some false)).bind fun p3 =>
  bif p3 then
   grd (InR (n2+1)) <|
   C7 s1 n (n2+1)
  else
   some n2
def Fl (s1:(List UInt8)):Option Int:=
 (bif (decide ((s1:List UInt8)=([]:List UInt8))) then (some true) else ((idx s1 0).bind fun c1 =>
 (CC c1).bind fun x1 =>
 (bif (!x1) then ((idx s1 0).bind fun c2 =>
 (Dk c2).bind fun x2 =>
 some (!x2)) else (some false)).bind fun p2 =>
 some p2)).bind fun p1 =>
 bif p1 then
  some 0
 else
  (C7 s1 FU 1:Option Int).bind fun n1 =>
  some n1
theorem OE {s1:(List UInt8)} {r_1:Int} (hm:Fl s1=some r_1):Fn0 Tryz.prog 142 [.str s1] (.i64 r_1):=by
 unfold Fl at hm;refine Ad func142 rfl ntmps142 rfl fun H0 fr w0=>?_;refine zq10 ?_;obtain ⟨p1,hp_1,hm⟩:=bS hm;refine AL [(0,_)] 11 17 p1 (t:=6) ⟨rfl,trivial⟩ rfl (fun hg_1 hk1=>?_) (fun hg_1 hk1=>?_) ?_
 ·replace hp_1:=AO hg_1 hp_1
  refine zq11 ?_;exact zgb hk1 hp_1
 ·replace hp_1:=AP hg_1 hp_1
  refine zq1 ?_;obtain ⟨c1,hx1,hp_1⟩:=bS hp_1;refine gWp rfl rfl rfl hg_1 rfl rfl (Cf runUnderlying9 rfl rfl hx1) ?_;obtain ⟨x1,hx2,hp_1⟩:=bS hp_1;refine zcw (Hf hx2) ?_;refine zq2 ?_;obtain ⟨p2,hp_2,hp_1⟩:=bS hp_1;refine AL [(0,_),(6,_)] 5 16 p2 (t:=11) ⟨rfl,rfl,trivial⟩ rfl (fun hg_2 hk2=>?_) (fun hg_2 hk2=>?_) ?_
  ·replace hp_2:=AO hg_2 hp_2
   refine zq1 ?_;obtain ⟨c2,hx3,hp_2⟩:=bS hp_2;refine gWp rfl rfl rfl hg_2 rfl rfl (Cf runUnderlying9 rfl rfl hx3) ?_;obtain ⟨x2,hx4,hp_2⟩:=bS hp_2;refine zcw (Ha hx4) ?_;refine zq2 ?_;exact zgb hk2 hp_2
  ·replace hp_2:=AP hg_2 hp_2
   refine zq5 ?_;exact zgb hk2 hp_2
  refine zq1 ?_;exact zgb hk1 hp_1
 refine gNl ?_;refine zcn hm (fun hc1 hm=>?_) (fun hc1 hm=>?_)
 ·refine zq4 ?_
  cases hm;exact Ae zr1
 ·refine zq6 ?_
  obtain ⟨o_1,hj1,hm1⟩:=bS hm;refine Ak [] [] (fun (st:Int) (hid:Unit)=>match st,hid with | n1,_=>[(3,.i64 n1)]) (fun F (st:Int) (hid:Unit)=>match st,hid with | n1,_=>[]) (fun st=>st=o_1) trivial trivial ?_ ?_
  ·refine Aj ?_
   refine Ai [(0,_)] [] (fun (st:Int) (hid:Unit)=>match st,hid with | n2,_=>[(3,.i64 n2)]) (fun F (st:Int) (hid:Unit)=>match st,hid with | n2,_=>[]) () hj1 (fun _=>rfl) ⟨rfl,trivial⟩ trivial ⟨rfl,trivial⟩ rfl ?_;rintro n n2 _ hj1;rw [C7] at hj1;refine Ar (L':=[(3,.i64 n2),(0,_)]) (ms':=[]) rfl rfl ?_;refine zq5 ?_;refine Af rfl rfl rfl (Dd runUnderlying9 rfl) ?_;refine zq2 ?_;obtain ⟨p3,hp_3,hj1⟩:=bS hj1;refine AL [(0,_),(3,_)] 5 27 p3 (t:=22) ⟨rfl,rfl,trivial⟩ rfl (fun hg_3 hk3=>?_) (fun hg_3 hk3=>?_) ?_
   ·replace hp_3:=AO hg_3 hp_3
    refine zq2 ?_;obtain ⟨c3,hx5,hp_3⟩:=bS hp_3;refine gWp rfl rfl rfl hg_3 rfl rfl (Cf runUnderlying9 rfl rfl hx5) ?_;obtain ⟨x3,hx6,hp_3⟩:=bS hp_3;refine zcw (NO hx6) ?_;refine zq1 ?_;exact zgb hk3 hp_3
   ·replace hp_3:=AP hg_3 hp_3
    refine zq5 ?_;exact zgb hk3 hp_3
   refine gNl ?_;refine zcn hj1 (fun hc2 hj1=>?_) (fun hc2 hj1=>?_)
   ·refine zq4 ?_
    obtain ⟨hg7,hj1⟩:=Aa hj1;refine zq3 ?_;exact ⟨_,(),hj1,⟨rfl,trivial⟩,⟨rfl,trivial⟩,[],rfl⟩
   ·refine Ao ?_
    exact ⟨_,(),Ac hj1,⟨rfl,trivial⟩,trivial,[],rfl⟩
  ·rintro n1 _ hst
   subst hst;refine An (L':=[(3,.i64 n1)]) (ms':=[]) rfl rfl ?_;refine zq5 ?_
   cases hm1;exact Ae zr1
def D8 (s1:(List UInt8)):Option Bool:=
 (bif ((!decide ((s1:List UInt8)=([]:List UInt8)))&&(decide ((s1.length:Int)<=20))) then ((Fl s1).bind fun x1 =>
 some (decide (x1=(s1.length:Int)))) else (some false)).bind fun p1 =>
 some p1
theorem Jr {s1:(List UInt8)} {r_1:Bool} (hm:D8 s1=some r_1):Fn0 Tryz.prog 115 [.str s1] (.bool r_1):=by
 unfold D8 at hm;refine Ad func115 rfl ntmps115 rfl fun H0 fr w0=>?_;refine zq9 ?_
 apply Bo [(0,_)] 4 9 (t:=5) ⟨rfl,trivial⟩ rfl
 ·intro hg_1 hk1
  refine zq1 ?_;refine gWp rfl rfl rfl hg_1 rfl rfl (Dd runUnderlying9 rfl) ?_;refine zq2 ?_;exact zgm hk1
 ·intro hg_1 hk1
  refine zq4 ?_;exact zgm hk1
 refine zq1 ?_;obtain ⟨p1,hp_2,hm⟩:=bS hm;refine AL [] 6 16 p1 (t:=10) trivial rfl (fun hg_2 hk2=>?_) (fun hg_2 hk2=>?_) ?_
 ·replace hp_2:=AO hg_2 hp_2
  refine zq1 ?_;obtain ⟨x1,hx1,hp_2⟩:=bS hp_2;refine zcw (OE hx1) ?_;refine zq1 ?_;refine gWp rfl rfl rfl hg_2 rfl rfl (Dd runUnderlying9 rfl) ?_;refine zq2 ?_;exact zgb hk2 hp_2
 ·replace hp_2:=AP hg_2 hp_2
  refine zq6 ?_;exact zgb hk2 hp_2
 refine zq2 ?_
 cases hm;exact Ae zr1
def GW (s1:(List (List UInt8))) (v1:(List UInt8)):Nat->Int->Option (Out Int Unit)
 | 0,_=>none
 | n+1,x1 =>
  bif (decide (x1<(s1.length:Int))) then
   (idx s1 x1).bind fun x2 =>
   bif (decide ((v1:List UInt8)=x2)) then
    some (Out.ret x1)
   else
    grd (InR (x1+1)) <|
    GW s1 v1 n (x1+1)
  else
   some (Out.go (()))
def PV (s1:(List (List UInt8))) (v1:(List UInt8)):Option Int:=
 ((GW s1 v1 FU 0:Option (Out Int Unit))).bind (fun oo=>oo.on (fun r1=>some r1) (fun _ =>
 some (-1)))
theorem Uj {s1:(List (List UInt8))} {v1:(List UInt8)} {r_1:Int} (hm:PV s1 v1=some r_1):Fn0 Tryz.prog 173 [.list 1 D.str s1,.str v1] (.i64 r_1):=by
 unfold PV at hm;refine Ad func173 rfl ntmps173 rfl fun H0 fr w0=>?_;refine zq11 ?_;obtain ⟨o_1,hj1,hm1⟩:=bS hm;refine Ak [] [] (fun (st:Unit) (hid:Unit)=>match st,hid with | _,_=>[]) (fun F (st:Unit) (hid:Unit)=>match st,hid with | _,_=>[]) (fun st=>Out.go (st)=o_1) trivial trivial ?_ ?_
 ·refine Aj ?_
  refine Ai [(0,_),(1,_),(7,_)] [] (fun (st:Int) (hid:Unit)=>match st,hid with | x1,_=>[(8,.i64 x1)]) (fun F (st:Int) (hid:Unit)=>match st,hid with | x1,_=>[]) () hj1 (fun _=>rfl) ⟨rfl,rfl,rfl,trivial⟩ trivial ⟨rfl,trivial⟩ rfl ?_;rintro n x1 _ hj1;rw [GW] at hj1;refine Ar (L':=[(8,.i64 x1),(0,_),(1,_),(7,_)]) (ms':=[]) rfl rfl ?_;refine zq5 ?_;refine zcn hj1 (fun hc1 hj1=>?_) (fun hc1 hj1=>?_)
  ·refine zq13 ?_
   obtain ⟨x2,hx1,hj1⟩:=bS hj1;refine zq4 ?_;refine zcn hj1 (fun hc2 hj1=>?_) (fun hc2 hj1=>?_)
   ·refine zq5 ?_
    refine Ae ?_;obtain rfl:=Ac hj1
    replace hm1:=BJ hm1
    cases hm1;exact zr1
   ·refine zq2 ?_
    obtain ⟨hg2,hj1⟩:=Aa hj1;refine zq3 ?_;exact ⟨_,(),hj1,⟨rfl,trivial⟩,⟨rfl,rfl,rfl,trivial⟩,[],rfl⟩
  ·refine Ao ?_
   exact ⟨_,(),Ac hj1,trivial,trivial,[],rfl⟩
 ·rintro _ _ hst
  subst hst
  replace hm1:=Dh hm1
  refine An (L':=[]) (ms':=[]) rfl rfl ?_;refine zq4 ?_
  cases hm1;exact Ae zr1
def Od (s1:(List (List UInt8))) (v1:(List UInt8)):Option Bool:=
 (PV s1 v1).bind fun x1 =>
 some (decide (0<=x1))
theorem Uv {s1:(List (List UInt8))} {v1:(List UInt8)} {r_1:Bool} (hm:Od s1 v1=some r_1):Fn0 Tryz.prog 143 [.list 1 D.str s1,.str v1] (.bool r_1):=by
 unfold Od at hm;refine Ad func143 rfl ntmps143 rfl fun H0 fr w0=>?_;refine zq8 ?_;obtain ⟨x1,hx1,hm⟩:=bS hm;refine zc0 (Uj hx1) ?_;refine zq3 ?_
 cases hm;exact Ae zr1
def Du  : Option (List (List UInt8)):=
 some [([102,117,110]:List UInt8),([108,101,116]:List UInt8),([114,101,99]:List UInt8),([105,110]:List UInt8),([105,102]:List UInt8),([116,104,101,110]:List UInt8),([101,108,115,101]:List UInt8),([99,97,115,101]:List UInt8),([111,102]:List UInt8),([101,110,100]:List UInt8),([116,114,117,101]:List UInt8),([102,97,108,115,101]:List UInt8),([99,104,101,99,107]:List UInt8),([97,115,107]:List UInt8),([116,111,112]:List UInt8),([98,111,116]:List UInt8),([105,110,116]:List UInt8),([98,111,111,108]:List UInt8),([115,116,114,105,110,103]:List UInt8),([109,117]:List UInt8)]
theorem KB  {r_1:(List (List UInt8))} (hm:Du=some r_1):Fn0 Tryz.prog 144 [] (.list 1 D.str r_1):=by
 unfold Du at hm;refine Ad func144 rfl ntmps144 rfl fun H0 fr w0=>?_;refine zq3 ?_;refine Al (nilE (i:=0) (sz:=1) (f:=D.str) rfl).refines ?_;refine zq3 ?_;refine Af rfl rfl rfl (Ax (xs:=[_,_,_,_,_,_,_,_,_,_,_,_,_,_,_,_,_,_,_,_]) (f:=D.str) (l:=[_,_,_,_,_,_,_,_,_,_,_,_,_,_,_,_,_,_,_,_]) runUnderlying65 sizeOf9 zeroValue9 rfl rfl rfl (fun _=>⟨rfl,rfl,rfl⟩) rfl) ?_;refine zq2 ?_
 cases hm;exact Ae zr1
def EN (s1:(List UInt8)):Option Bool:=
 (Du).bind fun x1 =>
 (Od x1 s1).bind fun x2 =>
 some x2
theorem Lk {s1:(List UInt8)} {r_1:Bool} (hm:EN s1=some r_1):Fn0 Tryz.prog 117 [.str s1] (.bool r_1):=by
 unfold EN at hm;refine Ad func117 rfl ntmps117 rfl fun H0 fr w0=>?_;refine zq6 ?_;obtain ⟨x1,hx1,hm⟩:=bS hm;refine zc0 (KB hx1) ?_;refine zq1 ?_;obtain ⟨x2,hx2,hm⟩:=bS hm;refine zc0 (Uv hx2) ?_;refine zq2 ?_
 cases hm;exact Ae zr1
def DL (s1:(List UInt8)):Option Bool:=
 (D8 s1).bind fun x1 =>
 (bif x1 then ((idx s1 0).bind fun c1 =>
 (CC c1).bind fun x2 =>
 some x2) else (some false)).bind fun p1 =>
 (bif p1 then ((EN s1).bind fun x3 =>
 some (!x3)) else (some false)).bind fun p2 =>
 some p2
theorem Ki {s1:(List UInt8)} {r_1:Bool} (hm:DL s1=some r_1):Fn0 Tryz.prog 84 [.str s1] (.bool r_1):=by
 unfold DL at hm;refine Ad func84 rfl ntmps84 rfl fun H0 fr w0=>?_;refine zq7 ?_;obtain ⟨x1,hx1,hm⟩:=bS hm;refine zc0 (Jr hx1) ?_;refine zq1 ?_;obtain ⟨p1,hp_1,hm⟩:=bS hm;refine AL [(0,_)] 4 9 p1 (t:=5) ⟨rfl,trivial⟩ rfl (fun hg_1 hk1=>?_) (fun hg_1 hk1=>?_) ?_
 ·replace hp_1:=AO hg_1 hp_1
  refine zq1 ?_;obtain ⟨c1,hx2,hp_1⟩:=bS hp_1;refine gWp rfl rfl rfl hg_1 rfl rfl (Cf runUnderlying9 rfl rfl hx2) ?_;obtain ⟨x2,hx3,hp_1⟩:=bS hp_1;refine zcw (Hf hx3) ?_;refine zq1 ?_;exact zgb hk1 hp_1
 ·replace hp_1:=AP hg_1 hp_1
  refine zq4 ?_;exact zgb hk1 hp_1
 refine zq1 ?_;obtain ⟨p2,hp_2,hm⟩:=bS hm;refine AL [] 4 14 p2 (t:=10) trivial rfl (fun hg_2 hk2=>?_) (fun hg_2 hk2=>?_) ?_
 ·replace hp_2:=AO hg_2 hp_2
  refine zq1 ?_;obtain ⟨x3,hx4,hp_2⟩:=bS hp_2;refine zcw (Lk hx4) ?_;refine zq2 ?_;exact zgb hk2 hp_2
 ·replace hp_2:=AP hg_2 hp_2
  refine zq4 ?_;exact zgb hk2 hp_2
 refine zq2 ?_
 cases hm;exact Ae zr1
def EY (s1:(List UInt8)):Option Bool:=
 (D8 s1).bind fun x1 =>
 (bif x1 then ((idx s1 0).bind fun c1 =>
 (Dk c1).bind fun x2 =>
 some x2) else (some false)).bind fun p1 =>
 some p1
theorem PB {s1:(List UInt8)} {r_1:Bool} (hm:EY s1=some r_1):Fn0 Tryz.prog 145 [.str s1] (.bool r_1):=by
 unfold EY at hm;refine Ad func145 rfl ntmps145 rfl fun H0 fr w0=>?_;refine zq7 ?_;obtain ⟨x1,hx1,hm⟩:=bS hm;refine zc0 (Jr hx1) ?_;refine zq1 ?_;obtain ⟨p1,hp_1,hm⟩:=bS hm;refine AL [] 4 9 p1 (t:=5) trivial rfl (fun hg_1 hk1=>?_) (fun hg_1 hk1=>?_) ?_
 ·replace hp_1:=AO hg_1 hp_1
  refine zq1 ?_;obtain ⟨c1,hx2,hp_1⟩:=bS hp_1;refine gWp rfl rfl rfl hg_1 rfl rfl (Cf runUnderlying9 rfl rfl hx2) ?_;obtain ⟨x2,hx3,hp_1⟩:=bS hp_1;refine zcw (Ha hx3) ?_;refine zq1 ?_;exact zgb hk1 hp_1
 ·replace hp_1:=AP hg_1 hp_1
  refine zq4 ?_;exact zgb hk1 hp_1
 refine zq2 ?_
 cases hm;exact Ae zr1
def BR (n1:ANd):Nat->Int->Option (Out Bool Unit)
 | 0,_=>none
 | n+1,x1 =>
  bif (decide (x1<(n1.l.length:Int))) then
   (idx n1.l x1).bind fun x2 =>
   (bif (decide (n1.kind=7)) then ((DL x2.name).bind fun x3 =>
   some (!x3)) else (some false)).bind fun p1 =>
   (bif p1 then (some true) else ((bif (decide (n1.kind=8)) then ((EY x2.name).bind fun x4 =>
   some (!x4)) else (some false)).bind fun p3 =>
   some p3)).bind fun p2 =>
   bif p2 then
    some (Out.ret false)
   else
    bif (decide (0<x1)) then (grd (InR (x1 - 1)) <|
    (idx n1.l (x1 - 1)).bind fun x5 =>
    bif (!Op.bytesLess x5.name x2.name) then
     some (Out.ret false)
    else
     grd (InR (x1+1)) <|
     BR n1 n (x1+1)) else (grd (InR (x1+1)) <|
    BR n1 n (x1+1))
  else
   some (Out.go (()))
def En (n1:ANd):Option Bool:=
 ((BR n1 FU 0:Option (Out Bool Unit))).bind (fun oo=>oo.on (fun r1=>some r1) (fun _ =>
 some (decide ((n1.l.length:Int)<=30))))
theorem Mj {n1:ANd} {r_1:Bool} (hm:En n1=some r_1):Fn0 Tryz.prog 124 [ANd.d n1] (.bool r_1):=by
 unfold En at hm;refine Ad func124 rfl ntmps124 rfl fun H0 fr w0=>?_;refine zq13 ?_;obtain ⟨o_1,hj1,hm1⟩:=bS hm;refine Ak [(1,_)] [] (fun (st:Unit) (hid:Unit)=>match st,hid with | _,_=>[]) (fun F (st:Unit) (hid:Unit)=>match st,hid with | _,_=>[]) (fun st=>Out.go (st)=o_1) ⟨rfl,trivial⟩ trivial ?_ ?_
 ·refine Aj ?_
  refine Ai [(1,_),(6,_),(7,_)] [] (fun (st:Int) (hid:Unit)=>match st,hid with | x1,_=>[(8,.i64 x1)]) (fun F (st:Int) (hid:Unit)=>match st,hid with | x1,_=>[]) () hj1 (fun _=>rfl) ⟨rfl,rfl,rfl,trivial⟩ trivial ⟨rfl,trivial⟩ rfl ?_;rintro n x1 _ hj1;rw [BR] at hj1;refine Ar (L':=[(8,.i64 x1),(1,_),(6,_),(7,_)]) (ms':=[]) rfl rfl ?_;refine zq5 ?_;refine zcn hj1 (fun hc1 hj1=>?_) (fun hc1 hj1=>?_)
  ·refine zq6 ?_
   obtain ⟨x2,hx1,hj1⟩:=bS hj1;refine zq2 ?_;refine Pa fun b1=>?_;refine zq1 ?_;refine zst 0 ?_;refine Ag (ms':=[box b1 98 [_,_]]) rfl ?_;refine zq8 ?_;obtain ⟨p1,hp_1,hj1⟩:=bS hj1;refine AL [(1,_),(3,_),(4,_),(6,_),(7,_),(8,_)] 5 21 p1 (t:=16) ⟨rfl,rfl,rfl,rfl,rfl,rfl,trivial⟩ rfl (fun hg_1 hk1=>?_) (fun hg_1 hk1=>?_) ?_
   ·replace hp_1:=AO hg_1 hp_1
    refine zq2 ?_;obtain ⟨x3,hx2,hp_1⟩:=bS hp_1;refine zcw (Ki hx2) ?_;refine zq2 ?_;exact zgb hk1 hp_1
   ·replace hp_1:=AP hg_1 hp_1
    refine zq5 ?_;exact zgb hk1 hp_1
   refine zq1 ?_;obtain ⟨p2,hp_2,hj1⟩:=bS hj1;refine AL [(1,_),(3,_),(4,_),(6,_),(7,_),(8,_)] 10 32 p2 (t:=22) ⟨rfl,rfl,rfl,rfl,rfl,rfl,trivial⟩ rfl (fun hg_2 hk2=>?_) (fun hg_2 hk2=>?_) ?_
   ·replace hp_2:=AO hg_2 hp_2
    refine zq10 ?_;exact zgb hk2 hp_2
   ·replace hp_2:=AP hg_2 hp_2
    refine zq4 ?_;obtain ⟨p3,hp_3,hp_2⟩:=bS hp_2;refine AL [(1,_),(3,_),(4,_),(6,_),(7,_),(8,_),(22,_)] 5 31 p3 (t:=26) ⟨rfl,rfl,rfl,rfl,rfl,rfl,rfl,trivial⟩ rfl (fun hg_3 hk3=>?_) (fun hg_3 hk3=>?_) ?_
    ·replace hp_3:=AO hg_3 hp_3
     refine zq2 ?_;obtain ⟨x4,hx3,hp_3⟩:=bS hp_3;refine zcw (PB hx3) ?_;refine zq2 ?_;exact zgb hk3 hp_3
    ·replace hp_3:=AP hg_3 hp_3
     refine zq5 ?_;exact zgb hk3 hp_3
    refine zq1 ?_;exact zgb hk2 hp_2
   refine gNl ?_;refine zcn hj1 (fun hc2 hj1=>?_) (fun hc2 hj1=>?_)
   ·refine zq4 ?_
    refine Ae ?_;obtain rfl:=Ac hj1
    replace hm1:=BJ hm1
    cases hm1;exact zr1
   ·refine zq2 ?_
    rcases Cj hj1 with ⟨hg_4,hj1⟩ | ⟨hg_4,hj1⟩
    ·
     skip
     obtain ⟨hg4,hj1⟩:=Aa hj1;obtain ⟨x5,hx5,hj1⟩:=bS hj1;refine zdr 14 ?_;refine zq16 ?_;refine zcn hj1 (fun hc3 hj1=>?_) (fun hc3 hj1=>?_)
     ·refine zq4 ?_
      refine Ae ?_;obtain rfl:=Ac hj1
      replace hm1:=BJ hm1
      cases hm1;exact zr1
     ·refine zq2 ?_
      obtain ⟨hg6,hj1⟩:=Aa hj1;refine zq3 ?_;exact ⟨_,(),hj1,⟨rfl,trivial⟩,⟨rfl,rfl,rfl,trivial⟩,[_],rfl⟩
    ·
     skip
     refine zdr 14 ?_;refine zq16 ?_;refine D3 rfl rfl ?_;refine zq2 ?_;obtain ⟨hg7,hj1⟩:=Aa hj1;refine zq3 ?_;exact ⟨_,(),hj1,⟨rfl,trivial⟩,⟨rfl,rfl,rfl,trivial⟩,[_],rfl⟩
  ·refine Ao ?_
   exact ⟨_,(),Ac hj1,trivial,⟨rfl,trivial⟩,[],rfl⟩
 ·rintro _ _ hst
  subst hst
  replace hm1:=Dh hm1
  refine An (L':=[(1,_)]) (ms':=[]) rfl rfl ?_;refine zq8 ?_
  cases hm1;exact Ae zr1
def Cy (n1:ANd):Nat->(Int×(List Int))->Option (List Int)
 | 0,_=>none
 | n+1,(x3,l2) =>
  bif (decide (x3<(n1.l.length:Int))) then
   (idx n1.l x3).bind fun x4 =>
   grd ((l2.length+([x4.at_]:List _).length)*8<=140737488355328) <|
   grd (InR (x3+1)) <|
   Cy n1 n ((x3+1),(l2++[x4.at_]))
  else
   some l2
def Dn (n1:ANd):Option (List Int):=
 (CK n1.kind).bind fun x1 =>
 bif x1 then
  some [n1.a,n1.b]
 else
  (Ea n1.kind).bind fun x2 =>
  bif x2 then
   (Cy n1 FU (0,[]):Option (List Int)).bind fun l1 =>
   some l1
  else
   some []
theorem Hx {n1:ANd} {r_1:(List Int)} (hm:Dn n1=some r_1):Fn0 Tryz.prog 125 [ANd.d n1] (.list 1 D.i64 r_1):=by
 unfold Dn at hm;refine Ad func125 rfl ntmps125 rfl fun H0 fr w0=>?_;refine zq4 ?_;refine Al (nilE (i:=2) (sz:=1) (f:=D.i64) rfl).refines ?_;refine zq6 ?_;obtain ⟨x1,hx1,hm⟩:=bS hm;refine zc0 (Ht hx1) ?_;refine gNl ?_;refine zcn hm (fun hc1 hm=>?_) (fun hc1 hm=>?_)
 ·refine zq6 ?_
  refine Af rfl rfl rfl (zs2 D.i64) ?_;refine zq2 ?_
  cases hm;exact Ae zr1
 ·refine zq4 ?_
  refine Al (AB (T:=3) (sz:=1) (f:=D.i64)) ?_;refine zq6 ?_;obtain ⟨x2,hx2,hm⟩:=bS hm;refine zc0 (JP hx2) ?_;refine gNl ?_;refine zcn hm (fun hc2 hm=>?_) (fun hc2 hm=>?_)
  ·refine zq7 ?_
   obtain ⟨o_1,hj1,hm1⟩:=bS hm;refine Ak [] [] (fun (st:(List Int)) (hid:(Option Addr×Nat))=>match st,hid with | l1,(a_r1,cap_r1)=>[(3,.v (.slice a_r1 l1.length cap_r1))]) (fun F (st:(List Int)) (hid:(Option Addr×Nat))=>match st,hid with | l1,(a_r1,cap_r1)=>[row a_r1 cap_r1 3 1 D.i64 l1]) (fun st=>st=o_1) trivial trivial ?_ ?_
   ·refine Aj ?_
    refine Ai [(18,_),(19,_)] [] (fun (st:(Int×(List Int))) (hid:(Option Addr×Nat))=>match st,hid with | (x3,l2),(a_r1,cap_r1)=>[(3,.v (.slice a_r1 l2.length cap_r1)),(20,.i64 x3)]) (fun F (st:(Int×(List Int))) (hid:(Option Addr×Nat))=>match st,hid with | (x3,l2),(a_r1,cap_r1)=>[row a_r1 cap_r1 3 1 D.i64 l2]) (_,_) hj1 (fun _=>rfl) ⟨rfl,rfl,trivial⟩ trivial ⟨rfl,rfl,trivial⟩ rfl ?_;rintro n ⟨x3,l2⟩ ⟨a_r1,cap_r1⟩ hj1;rw [Cy] at hj1;refine Ar (L':=[(3,.v (.slice a_r1 l2.length cap_r1)),(20,.i64 x3),(18,_),(19,_)]) (ms':=[row a_r1 cap_r1 3 1 D.i64 l2]) rfl rfl ?_;refine zq5 ?_;refine zcn hj1 (fun hc3 hj1=>?_) (fun hc3 hj1=>?_)
    ·refine zq5 ?_
     obtain ⟨x4,hx3,hj1⟩:=bS hj1;refine zq2 ?_;refine Pa fun b1=>?_;refine zst 0 ?_;refine Ag (ms':=[box b1 98 [_,_],_]) rfl ?_;refine zq5 ?_;refine Af rfl rfl rfl (zs1 D.i64) ?_;obtain ⟨hg4,hj1⟩:=Aa hj1;refine zap 1 hg4 fun a_r1 cap_r1=>?_;refine Ag (ms':=[box b1 98 [_,_],_]) rfl ?_;refine zq3 ?_;obtain ⟨hg5,hj1⟩:=Aa hj1;refine zq3 ?_;exact ⟨_,(_,_),hj1,⟨rfl,rfl,trivial⟩,⟨rfl,rfl,trivial⟩,[_],rfl⟩
    ·refine Ao ?_
     exact ⟨_,(_,_),Ac hj1,⟨rfl,trivial⟩,trivial,[],rfl⟩
   ·rintro l1 ⟨a_r1,cap_r1⟩ hst
    subst hst;refine An (L':=[(3,.v (.slice a_r1 l1.length cap_r1))]) (ms':=[row a_r1 cap_r1 3 1 D.i64 l1]) rfl rfl ?_;refine zq5 ?_;refine BA (peekE (i:=2) 0 rfl rfl rfl).refines ?_
    cases hm1;exact Ae zr1
  ·refine zq6 ?_
   refine BA (peekE (i:=2) 0 rfl rfl rfl).refines ?_
   cases hm;exact Ae zr1
def CB (k1:Int) (c1:Int):Option Bool:=
 some ((decide (k1<0))||(decide (c1<=k1)))
theorem KG {k1:Int} {c1:Int} {r_1:Bool} (hm:CB k1 c1=some r_1):Fn0 Tryz.prog 126 [.i64 k1,.ref (.i64 c1)] (.bool r_1):=by
 unfold CB at hm;refine Ad func126 rfl ntmps126 rfl fun H0 fr w0=>?_;refine zq9 ?_
 apply Bt [] 4 10 (t:=6) trivial rfl
 ·intro hg_1 hk1
  refine zq4 ?_;exact zgm hk1
 ·intro hg_1 hk1
  refine zq4 ?_;exact zgm hk1
 refine zq2 ?_
 cases hm;exact Ae zr1
def Ep (n1:ANd) (all1:Int):Option Bool:=
 bif ((decide (n1.kind<1))||(decide (11<n1.kind))) then
  some false
 else
  (CK n1.kind).bind fun x1 =>
  bif ((!x1)&&((!decide (n1.b=0))||((!decide (n1.kind=11))&&(!decide (n1.a=0))))) then
   some false
  else
   bif ((decide (n1.kind=11))&&((decide (n1.a<0))||(decide (999<n1.a)))) then
    some false
   else
    (Ea n1.kind).bind fun x2 =>
    (bif ((!x2)&&(decide (0<(n1.l.length:Int)))) then (some true) else ((En n1).bind fun x3 =>
    some (!x3))).bind fun p1 =>
    bif p1 then
     some false
    else
     (Dn n1).bind fun x4 =>
     (Jq x4 (fun y0=>CB y0 all1)).bind fun x5 =>
     some (!x5)
theorem Mg {n1:ANd} {all1:Int} {r_1:Bool} (hm:Ep n1 all1=some r_1):Fn0 Tryz.prog 91 [ANd.d n1,.i64 all1] (.bool r_1):=by
 unfold Ep at hm;refine Ad func91 rfl ntmps91 rfl fun H0 fr w0=>?_;refine zq14 ?_
 apply Bt [(2,_),(3,_)] 4 13 (t:=9) ⟨rfl,rfl,trivial⟩ rfl
 ·intro hg_1 hk1
  refine zq4 ?_;exact zgm hk1
 ·intro hg_1 hk1
  refine zq4 ?_;exact zgm hk1
 refine zq2 ?_;refine zcn hm (fun hc1 hm=>?_) (fun hc1 hm=>?_)
 ·refine zq4 ?_
  cases hm;exact Ae zr1
 ·refine zq4 ?_
  obtain ⟨x1,hx1,hm⟩:=bS hm;refine zc0 (Ht hx1) ?_;refine zq2 ?_
  apply Bo [(2,_),(3,_)] 14 33 (t:=19) ⟨rfl,rfl,trivial⟩ rfl
  ·intro hg_2 hk2
   refine zq4 ?_
   apply Bt [(2,_),(3,_),(19,_)] 9 32 (t:=23) ⟨rfl,rfl,rfl,trivial⟩ rfl
   ·intro hg_3 hk3
    refine zq4 ?_
    apply Bo [(2,_),(3,_),(19,_),(23,_)] 4 31 (t:=27) ⟨rfl,rfl,rfl,rfl,trivial⟩ rfl
    ·intro hg_4 hk4
     refine zq4 ?_;exact zgm hk4
    ·intro hg_4 hk4
     refine zq4 ?_;exact zgm hk4
    refine zq1 ?_;exact zgm hk3
   ·intro hg_3 hk3
    refine zq9 ?_;exact zgm hk3
   refine zq1 ?_;exact zgm hk2
  ·intro hg_2 hk2
   refine zq14 ?_;exact zgm hk2
  refine zq2 ?_;refine zcn hm (fun hc2 hm=>?_) (fun hc2 hm=>?_)
  ·refine zq4 ?_
   cases hm;exact Ae zr1
  ·refine zq6 ?_
   apply Bo [(2,_),(3,_)] 9 47 (t:=38) ⟨rfl,rfl,trivial⟩ rfl
   ·intro hg_5 hk5
    refine zq4 ?_
    apply Bt [(2,_),(3,_),(38,_)] 4 46 (t:=42) ⟨rfl,rfl,rfl,trivial⟩ rfl
    ·intro hg_6 hk6
     refine zq4 ?_;exact zgm hk6
    ·intro hg_6 hk6
     refine zq4 ?_;exact zgm hk6
    refine zq1 ?_;exact zgm hk5
   ·intro hg_5 hk5
    refine zq9 ?_;exact zgm hk5
   refine zq2 ?_;refine zcn hm (fun hc3 hm=>?_) (fun hc3 hm=>?_)
   ·refine zq4 ?_
    cases hm;exact Ae zr1
   ·refine zq4 ?_
    obtain ⟨x2,hx2,hm⟩:=bS hm;refine zc0 (JP hx2) ?_;refine zq2 ?_
    apply Bo [(2,_),(3,_)] 5 58 (t:=53) ⟨rfl,rfl,trivial⟩ rfl
    ·intro hg_7 hk7
     refine zq5 ?_;exact zgm hk7
    ·intro hg_7 hk7
     refine zq5 ?_;exact zgm hk7
    refine zq1 ?_;obtain ⟨p1,hp_8,hm⟩:=bS hm;refine AL [(2,_),(3,_)] 4 63 p1 (t:=59) ⟨rfl,rfl,trivial⟩ rfl (fun hg_8 hk8=>?_) (fun hg_8 hk8=>?_) ?_
    ·replace hp_8:=AO hg_8 hp_8
     refine zq4 ?_;exact zgb hk8 hp_8
    ·replace hp_8:=AP hg_8 hp_8
     refine zq1 ?_;obtain ⟨x3,hx3,hp_8⟩:=bS hp_8;refine zcw (Mj hx3) ?_;refine zq2 ?_;exact zgb hk8 hp_8
    refine zq2 ?_;refine zcn hm (fun hc4 hm=>?_) (fun hc4 hm=>?_)
    ·refine zq4 ?_
     cases hm;exact Ae zr1
    ·refine zq4 ?_
     obtain ⟨x4,hx4,hm⟩:=bS hm;refine zc0 (Hx hx4) ?_;refine Af rfl rfl rfl (BC rfl rfl) ?_;obtain ⟨x5,hx5,hm⟩:=bS hm;refine Af rfl rfl rfl (Gd [] call54 rfl rfl DG (Sm (fun _ _ h=>K7 (Em call126 (KG h))) hx5)) ?_;refine zq3 ?_
     cases hm;exact Ae zr1
def CR (n1:ANd) (c1:ATy):Option Bool:=
 (Ep n1 (c1.l.length:Int)).bind fun x1 =>
 some (!x1)
theorem Mh {n1:ANd} {c1:ATy} {r_1:Bool} (hm:CR n1 c1=some r_1):Fn0 Tryz.prog 90 [ANd.d n1,.ref (ATy.d c1)] (.bool r_1):=by
 unfold CR at hm;refine Ad func90 rfl ntmps90 rfl fun H0 fr w0=>?_;refine zq11 ?_;obtain ⟨x1,hx1,hm⟩:=bS hm;refine zc0 (Mg hx1) ?_;refine zq3 ?_
 cases hm;exact Ae zr1
def Ew (kind1:Int):Option Bool:=
 some ((decide (kind1=9))||(decide (kind1=10)))
theorem KD {kind1:Int} {r_1:Bool} (hm:Ew kind1=some r_1):Fn0 Tryz.prog 128 [.i64 kind1] (.bool r_1):=by
 unfold Ew at hm;refine Ad func128 rfl ntmps128 rfl fun H0 fr w0=>?_;refine zq9 ?_
 apply Bt [] 3 8 (t:=5) trivial rfl
 ·intro hg_1 hk1
  refine zq3 ?_;exact zgm hk1
 ·intro hg_1 hk1
  refine zq3 ?_;exact zgm hk1
 refine zq2 ?_
 cases hm;exact Ae zr1
def A7 (self:Int->(List Int)->Option (Bool×(List Int))) (x7:(List Int)):Nat->(Int×(List Int))->Option (Out (Bool×(List Int)) (List Int))
 | 0,_=>none
 | n+1,(x8,l2) =>
  bif (decide (x8<(x7.length:Int))) then
   (idx x7 x8).bind fun x9 =>
   (self x9 l2).bind fun (x10,z2) =>
   bif (!x10) then
    some (Out.ret (false,z2))
   else
    grd (InR (x8+1)) <|
    A7 self x7 n ((x8+1),z2)
  else
   some (Out.go (l2))
def Bz (self:Int->(List Int)->Option (Bool×(List Int))) (i1:Int) (z1:(List Int)) (c1:ATy):Option (Bool×(List Int)):=
 (idx c1.l i1).bind fun x1 =>
 (Ew x1.kind).bind fun x2 =>
 (bif (!x2) then (some true) else ((idx z1 i1).bind fun x3 =>
 some (decide (x3=2)))).bind fun p1 =>
 bif p1 then
  some (true,z1)
 else
  (idx z1 i1).bind fun x4 =>
  bif (decide (x4=1)) then
   some (false,z1)
  else
   (idx z1 i1).bind fun x5 =>
   (idx c1.l i1).bind fun x6 =>
   (Dn x6).bind fun x7 =>
   ((A7 self x7 FU (0,(z1.set (i1).toNat 1)):Option (Out (Bool×(List Int)) (List Int)))).bind (fun oo=>oo.on (fun r1=>some r1) (fun l1 =>
   (idx l1 i1).bind fun x11 =>
   some (true,(l1.set (i1).toNat 2))))
def AZ (c1:ATy):Nat->Int->(List Int)->Option (Bool×(List Int))
 | 0=>fun _ _=>none
 | n+1=>fun i1 z1=>Bz (AZ c1 n) i1 z1 c1
theorem Hq {c1:ATy} (self:Int->(List Int)->Option (Bool×(List Int))) (hself:∀ {i1:Int} {z1:(List Int)} {r_1:Bool} {s_1:(List Int)} {b_q2:Nat} {a_q2c0:Option Addr} {m_q2c0:Nat} {cap_q2c0:Nat} {b_q3:Nat},self i1 z1=some (r_1,s_1)->Go.V.Fn Tryz.prog 127 [.i64 i1,.ref (ATy.d c1),.v (.pointer (some ⟨b_q2,0,none⟩)),.v (.pointer (some ⟨b_q3,0,none⟩))] [box b_q2 25 [.v (.slice a_q2c0 m_q2c0 cap_q2c0)],arr a_q2c0 m_q2c0 cap_q2c0 3 1 D.i64 z1,box b_q3 72 [.clo (.func 127) [] [.ref (ATy.d c1),.v (.pointer (some ⟨b_q2,0,none⟩)),.v (.pointer (some ⟨b_q3,0,none⟩))]]] (fun d ms'=>d = .bool r_1/\ms'=[box b_q2 25 [.v (.slice a_q2c0 m_q2c0 cap_q2c0)],arr a_q2c0 m_q2c0 cap_q2c0 3 1 D.i64 s_1,box b_q3 72 [.clo (.func 127) [] [.ref (ATy.d c1),.v (.pointer (some ⟨b_q2,0,none⟩)),.v (.pointer (some ⟨b_q3,0,none⟩))]]])) {i1:Int} {z1:(List Int)} {r_1:Bool} {s_1:(List Int)} {b_q2:Nat} {a_q2c0:Option Addr} {m_q2c0:Nat} {cap_q2c0:Nat} {b_q3:Nat} (hm:Bz self i1 z1 c1=some (r_1,s_1)):Go.V.Fn Tryz.prog 127 [.i64 i1,.ref (ATy.d c1),.v (.pointer (some ⟨b_q2,0,none⟩)),.v (.pointer (some ⟨b_q3,0,none⟩))] [box b_q2 25 [.v (.slice a_q2c0 m_q2c0 cap_q2c0)],arr a_q2c0 m_q2c0 cap_q2c0 3 1 D.i64 z1,box b_q3 72 [.clo (.func 127) [] [.ref (ATy.d c1),.v (.pointer (some ⟨b_q2,0,none⟩)),.v (.pointer (some ⟨b_q3,0,none⟩))]]] (fun d ms'=>d = .bool r_1/\ms'=[box b_q2 25 [.v (.slice a_q2c0 m_q2c0 cap_q2c0)],arr a_q2c0 m_q2c0 cap_q2c0 3 1 D.i64 s_1,box b_q3 72 [.clo (.func 127) [] [.ref (ATy.d c1),.v (.pointer (some ⟨b_q2,0,none⟩)),.v (.pointer (some ⟨b_q3,0,none⟩))]]]):=by
 unfold Bz at hm;refine Ad func127 rfl ntmps127 rfl fun H0 fr w0=>?_;refine zq10 ?_;obtain ⟨x1,hx1,hm⟩:=bS hm;refine zq3 ?_;obtain ⟨x2,hx2,hm⟩:=bS hm;refine zc0 (KD hx2) ?_;refine zq2 ?_;obtain ⟨p1,hp_1,hm⟩:=bS hm;refine AL [(0,_),(1,_),(2,_),(3,_)] 6 22 p1 (t:=16) ⟨rfl,rfl,rfl,rfl,trivial⟩ rfl (fun hg_1 hk1=>?_) (fun hg_1 hk1=>?_) ?_
 ·replace hp_1:=AO hg_1 hp_1
  refine zq6 ?_;exact zgb hk1 hp_1
 ·replace hp_1:=AP hg_1 hp_1
  refine zq2 ?_;obtain ⟨x3,hx3,hp_1⟩:=bS hp_1;refine gWp rfl rfl rfl hg_1 rfl rfl (Ap 1 runUnderlying25 sizeOf3 rfl rfl rfl hx3) ?_;refine gWp rfl rfl rfl hg_1 rfl rfl (AV (off:=0) 1 isAgg3 rfl rfl (Am hx3).2 rfl rfl rfl) ?_;refine zq2 ?_;exact zgb hk1 hp_1
 refine gNl ?_;refine zcn hm (fun hc1 hm=>?_) (fun hc1 hm=>?_)
 ·refine zq4 ?_
  refine Ae ?_
  have hq1:=Ac hm
  obtain ⟨rfl,rfl⟩:=Prod.mk.inj hq1;exact retK (AC rfl (Bh rfl) (permA 0 rfl (permA 0 rfl (permA 0 rfl permN)))) ⟨rfl,rfl⟩
 ·refine zq6 ?_
  obtain ⟨x4,hx4,hm⟩:=bS hm;refine Af rfl rfl rfl (Ap 1 runUnderlying25 sizeOf3 rfl rfl rfl hx4) ?_;refine Af rfl rfl rfl (AV (off:=0) 1 isAgg3 rfl rfl (Am hx4).2 rfl rfl rfl) ?_;refine zq2 ?_;refine zcn hm (fun hc2 hm=>?_) (fun hc2 hm=>?_)
  ·refine zq4 ?_
   refine Ae ?_
   have hq1:=Ac hm
   obtain ⟨rfl,rfl⟩:=Prod.mk.inj hq1;exact retK (AC rfl (Bh rfl) (permA 0 rfl (permA 0 rfl (permA 0 rfl permN)))) ⟨rfl,rfl⟩
  ·refine zq5 ?_
   obtain ⟨x5,hx5,hm⟩:=bS hm;refine Af rfl rfl rfl (Ap 1 runUnderlying25 sizeOf3 rfl rfl rfl hx5) ?_;refine Gk rfl rfl (Bx (off:=0) (z':=1) 1 sizeOf3 rfl rfl (Am hx5).2 rfl rfl rfl rfl rfl rfl (nB rfl) rfl rfl) ?_;rintro _ _ rfl;refine Ag (ms':=[box b_q2 25 [_],_,box b_q3 72 [_]]) rfl ?_;refine zq7 ?_;obtain ⟨x6,hx6,hm⟩:=bS hm;refine zq2 ?_;obtain ⟨x7,hx7,hm⟩:=bS hm;refine zc0 (Hx hx7) ?_;refine zq3 ?_;obtain ⟨o_1,hj1,hm1⟩:=bS hm;refine Ak [(0,_),(2,_)] [(2,_)] (fun (st:(List Int)) (hid:Unit)=>match st,hid with | l1,_=>[]) (fun F (st:(List Int)) (hid:Unit)=>match st,hid with | l1,_=>[box b_q2 25 [.v (.slice a_q2c0 m_q2c0 cap_q2c0)],arr a_q2c0 m_q2c0 cap_q2c0 3 1 D.i64 l1,(nthF F 0)]) (fun st=>Out.go (st)=o_1) ⟨rfl,rfl,trivial⟩ ⟨rfl,trivial⟩ ?_ ?_
   ·refine Aj ?_
    refine Ai [(0,_),(2,_),(3,_),(36,_),(37,_)] [(2,_)] (fun (st:(Int×(List Int))) (hid:Unit)=>match st,hid with | (x8,l2),_=>[(38,.i64 x8)]) (fun F (st:(Int×(List Int))) (hid:Unit)=>match st,hid with | (x8,l2),_=>[box b_q2 25 [.v (.slice a_q2c0 m_q2c0 cap_q2c0)],arr a_q2c0 m_q2c0 cap_q2c0 3 1 D.i64 l2,(nthF F 0)]) () hj1 (fun _=>rfl) ⟨rfl,rfl,rfl,rfl,rfl,trivial⟩ ⟨rfl,trivial⟩ ⟨rfl,trivial⟩ rfl ?_;rintro n ⟨x8,l2⟩ ⟨⟩ hj1;rw [A7] at hj1;refine Ar (L':=[(38,.i64 x8),(0,_),(2,_),(3,_),(36,_),(37,_)]) (ms':=[box b_q2 25 [.v (.slice a_q2c0 m_q2c0 cap_q2c0)],arr a_q2c0 m_q2c0 cap_q2c0 3 1 D.i64 l2,_]) rfl rfl ?_;refine zq5 ?_;refine zcn hj1 (fun hc3 hj1=>?_) (fun hc3 hj1=>?_)
    ·refine zq5 ?_
     obtain ⟨x9,hx8,hj1⟩:=bS hj1;refine zq8 ?_;obtain ⟨⟨x10,z2⟩,hx9,hj1⟩:=bS hj1;refine Av rfl rfl rfl (Kw [0,1,2] rfl rfl rfl (C3 rfl (C3 rfl (C3 rfl DG))) (Em call127 (hself hx9)) (by rintro _ _ ⟨rfl,rfl⟩;rfl)) ?_;rintro _ _ ⟨_,⟨rfl,rfl⟩,rfl⟩;refine Ag (ms':=[box b_q2 25 [_],_,box b_q3 72 [_]]) rfl ?_;refine zq2 ?_;refine zcn hj1 (fun hc4 hj1=>?_) (fun hc4 hj1=>?_)
     ·refine zq4 ?_
      refine Ae ?_;obtain rfl:=Ac hj1
      replace hm1:=BJ hm1
      have hq1:=Ac hm1
      obtain ⟨rfl,rfl⟩:=Prod.mk.inj hq1;exact retK (AC rfl (Bh rfl) (permA 0 rfl (permA 0 rfl (permA 0 rfl permN)))) ⟨rfl,rfl⟩
     ·refine zq2 ?_
      obtain ⟨hg10,hj1⟩:=Aa hj1;refine zq3 ?_;exact ⟨_,(),hj1,⟨rfl,trivial⟩,⟨rfl,rfl,rfl,rfl,rfl,trivial⟩,[],rfl⟩
    ·refine Ao ?_
     exact ⟨_,(),Ac hj1,trivial,⟨rfl,rfl,trivial⟩,[],rfl⟩
   ·rintro l1 ⟨⟩ hst
    subst hst
    replace hm1:=Dh hm1
    refine An (L':=[(0,_),(2,_)]) (ms':=[box b_q2 25 [.v (.slice a_q2c0 m_q2c0 cap_q2c0)],arr a_q2c0 m_q2c0 cap_q2c0 3 1 D.i64 l1,_]) rfl rfl ?_;refine zq4 ?_;obtain ⟨x11,hx11,hm1⟩:=bS hm1;refine Af rfl rfl rfl (Ap 1 runUnderlying25 sizeOf3 rfl rfl rfl hx11) ?_;refine Gk rfl rfl (Bx (off:=0) (z':=2) 1 sizeOf3 rfl rfl (Am hx11).2 rfl rfl rfl rfl rfl rfl (nB rfl) rfl rfl) ?_;rintro _ _ rfl;refine Ag (ms':=[box b_q2 25 [_],_,box b_q3 72 [_]]) rfl ?_;refine zq5 ?_;refine Ae ?_
    have hq1:=Ac hm1
    obtain ⟨rfl,rfl⟩:=Prod.mk.inj hq1;exact retK (AC rfl (Bh rfl) (permA 0 rfl (permA 0 rfl (permA 0 rfl permN)))) ⟨rfl,rfl⟩
theorem EO {c1:ATy}:∀ (n:Nat) {i1:Int} {z1:(List Int)} {r_1:Bool} {s_1:(List Int)} {b_q2:Nat} {a_q2c0:Option Addr} {m_q2c0:Nat} {cap_q2c0:Nat} {b_q3:Nat},AZ c1 n i1 z1=some (r_1,s_1)->Go.V.Fn Tryz.prog 127 [.i64 i1,.ref (ATy.d c1),.v (.pointer (some ⟨b_q2,0,none⟩)),.v (.pointer (some ⟨b_q3,0,none⟩))] [box b_q2 25 [.v (.slice a_q2c0 m_q2c0 cap_q2c0)],arr a_q2c0 m_q2c0 cap_q2c0 3 1 D.i64 z1,box b_q3 72 [.clo (.func 127) [] [.ref (ATy.d c1),.v (.pointer (some ⟨b_q2,0,none⟩)),.v (.pointer (some ⟨b_q3,0,none⟩))]]] (fun d ms'=>d = .bool r_1/\ms'=[box b_q2 25 [.v (.slice a_q2c0 m_q2c0 cap_q2c0)],arr a_q2c0 m_q2c0 cap_q2c0 3 1 D.i64 s_1,box b_q3 72 [.clo (.func 127) [] [.ref (ATy.d c1),.v (.pointer (some ⟨b_q2,0,none⟩)),.v (.pointer (some ⟨b_q3,0,none⟩))]]])
 | 0=>by intros;rename_i h;cases h
 | n+1=>by intros;rename_i h;exact Hq (AZ c1 n) (fun h=>EO n h) h
theorem HF {c1:ATy} {i1:Int} {z1:(List Int)} {r_1:Bool} {s_1:(List Int)} {b_q2:Nat} {a_q2c0:Option Addr} {m_q2c0:Nat} {cap_q2c0:Nat} {b_q3:Nat} (hm:AZ c1 FU i1 z1=some (r_1,s_1)):Go.V.Fn Tryz.prog 127 [.i64 i1,.ref (ATy.d c1),.v (.pointer (some ⟨b_q2,0,none⟩)),.v (.pointer (some ⟨b_q3,0,none⟩))] [box b_q2 25 [.v (.slice a_q2c0 m_q2c0 cap_q2c0)],arr a_q2c0 m_q2c0 cap_q2c0 3 1 D.i64 z1,box b_q3 72 [.clo (.func 127) [] [.ref (ATy.d c1),.v (.pointer (some ⟨b_q2,0,none⟩)),.v (.pointer (some ⟨b_q3,0,none⟩))]]] (fun d ms'=>d = .bool r_1/\ms'=[box b_q2 25 [.v (.slice a_q2c0 m_q2c0 cap_q2c0)],arr a_q2c0 m_q2c0 cap_q2c0 3 1 D.i64 s_1,box b_q3 72 [.clo (.func 127) [] [.ref (ATy.d c1),.v (.pointer (some ⟨b_q2,0,none⟩)),.v (.pointer (some ⟨b_q3,0,none⟩))]]]):=EO FU hm
def Bi (t1:ATy):Nat->(Int×(List Int))->Option (Out Bool (List Int))
 | 0,_=>none
 | n+1,(x1,l2) =>
  bif (decide (x1<(t1.l.length:Int))) then
   (AZ t1 FU x1 l2).bind fun (x2,z1) =>
   bif (!x2) then
    some (Out.ret false)
   else
    grd (InR (x1+1)) <|
    Bi t1 n ((x1+1),z1)
  else
   some (Out.go (l2))
def B9 (t1:ATy):Option Bool:=
 grd (0<=(t1.l.length:Int)) <|
 grd (((t1.l.length:Int)).toNat*8<=140737488355328) <|
 ((Bi t1 FU (0,(List.replicate ((t1.l.length:Int)).toNat (0:Int))):Option (Out Bool (List Int)))).bind (fun oo=>oo.on (fun r1=>some r1) (fun l1 =>
 some true))
theorem IQ {t1:ATy} {r_1:Bool} (hm:B9 t1=some r_1):Fn0 Tryz.prog 92 [ATy.d t1] (.bool r_1):=by
 unfold B9 at hm;refine Ad func92 rfl ntmps92 rfl fun H0 fr w0=>?_;refine zq10 ?_;obtain ⟨hg1,hm⟩:=Aa hm;obtain ⟨hg2,hm⟩:=Aa hm;refine Av rfl rfl rfl (Fh (f:=D.i64) (z0:=0) underlying25 type3 rfl rfl rfl (nB rfl) rfl rfl hg1 hg2 (nB rfl)) ?_;rintro _ _ ⟨a_r1,m_r1,cap_r1,rfl,rfl⟩;refine T5 fun b1=>?_;refine zst 0 ?_;refine Ag (ms':=[box b1 25 [_],_]) rfl ?_;refine zq3 ?_;refine T1 fun b2=>?_;refine zq3 ?_;refine Af rfl rfl rfl (BC rfl rfl) ?_;refine zst 0 ?_;refine Ag (ms':=[box b2 72 [_],box b1 25 [_],_]) rfl ?_;refine zq9 ?_;obtain ⟨o_1,hj1,hm1⟩:=bS hm;refine Ak [] [(0,_)] (fun (st:(List Int)) (hid:Unit)=>match st,hid with | l1,_=>[]) (fun F (st:(List Int)) (hid:Unit)=>match st,hid with | l1,_=>[(nthF F 0),box b1 25 [.v (.slice a_r1 m_r1 cap_r1)],arr a_r1 m_r1 cap_r1 3 1 D.i64 l1]) (fun st=>Out.go (st)=o_1) trivial ⟨rfl,trivial⟩ ?_ ?_
 ·refine Aj ?_
  refine Ai [(4,_),(13,_)] [(0,_)] (fun (st:(Int×(List Int))) (hid:Unit)=>match st,hid with | (x1,l2),_=>[(14,.i64 x1)]) (fun F (st:(Int×(List Int))) (hid:Unit)=>match st,hid with | (x1,l2),_=>[(nthF F 0),box b1 25 [.v (.slice a_r1 m_r1 cap_r1)],arr a_r1 m_r1 cap_r1 3 1 D.i64 l2]) () hj1 (fun _=>rfl) ⟨rfl,rfl,trivial⟩ ⟨rfl,trivial⟩ ⟨rfl,trivial⟩ rfl ?_;rintro n ⟨x1,l2⟩ ⟨⟩ hj1;rw [Bi] at hj1;refine Ar (L':=[(14,.i64 x1),(4,_),(13,_)]) (ms':=[_,box b1 25 [.v (.slice a_r1 m_r1 cap_r1)],arr a_r1 m_r1 cap_r1 3 1 D.i64 l2]) rfl rfl ?_;refine zq5 ?_;refine zcn hj1 (fun hc1 hj1=>?_) (fun hc1 hj1=>?_)
  ·refine zq12 ?_
   obtain ⟨⟨x2,z1⟩,hx3,hj1⟩:=bS hj1;refine Av rfl rfl rfl (Kw [1,2,0] rfl rfl rfl (C3 rfl (C3 rfl (C3 rfl DG))) (Em call127 (HF hx3)) (by rintro _ _ ⟨rfl,rfl⟩;rfl)) ?_;rintro _ _ ⟨_,⟨rfl,rfl⟩,rfl⟩;refine Ag (ms':=[box b2 72 [_],box b1 25 [_],_]) rfl ?_;refine zq2 ?_;refine zcn hj1 (fun hc2 hj1=>?_) (fun hc2 hj1=>?_)
   ·refine zq4 ?_
    refine Ae ?_;obtain rfl:=Ac hj1
    replace hm1:=BJ hm1
    cases hm1;exact zr1
   ·refine zq2 ?_
    obtain ⟨hg4,hj1⟩:=Aa hj1;refine zq3 ?_;exact ⟨_,(),hj1,⟨rfl,trivial⟩,⟨rfl,rfl,trivial⟩,[],rfl⟩
  ·refine Ao ?_
   exact ⟨_,(),Ac hj1,trivial,trivial,[],rfl⟩
 ·rintro l1 ⟨⟩ hst
  subst hst
  replace hm1:=Dh hm1
  refine An (L':=[]) (ms':=[_,box b1 25 [.v (.slice a_r1 m_r1 cap_r1)],arr a_r1 m_r1 cap_r1 3 1 D.i64 l1]) rfl rfl ?_;refine zq4 ?_
  cases hm1;exact Ae zr1
def Bp (t1:ATy):Option Int:=
 bif ((decide ((t1.l.length:Int)=0))||(decide (2000<(t1.l.length:Int)))) then
  some 8
 else
  bif ((decide (t1.root<0))||(decide ((t1.l.length:Int)<=t1.root))) then
   some 4
  else
   (N5 t1.l (fun y0=>CR y0 t1)).bind fun x1 =>
   (bif x1 then (some true) else ((B9 t1).bind fun x2 =>
   some (!x2))).bind fun p1 =>
   bif p1 then
    some 4
   else
    some 0
theorem EJ {t1:ATy} {r_1:Int} (hm:Bp t1=some r_1):Fn0 Tryz.prog 53 [ATy.d t1] (.i64 r_1):=by
 unfold Bp at hm;refine Ad func53 rfl ntmps53 rfl fun H0 fr w0=>?_;refine zq14 ?_
 apply Bt [(1,_)] 5 13 (t:=8) ⟨rfl,trivial⟩ rfl
 ·intro hg_1 hk1
  refine zq5 ?_;exact zgm hk1
 ·intro hg_1 hk1
  refine zq5 ?_;exact zgm hk1
 refine zq2 ?_;refine zcn hm (fun hc1 hm=>?_) (fun hc1 hm=>?_)
 ·refine zq4 ?_
  cases hm;exact Ae zr1
 ·refine zq6 ?_
  apply Bt [(1,_)] 7 25 (t:=18) ⟨rfl,trivial⟩ rfl
  ·intro hg_2 hk2
   refine zq7 ?_;exact zgm hk2
  ·intro hg_2 hk2
   refine zq7 ?_;exact zgm hk2
  refine zq2 ?_;refine zcn hm (fun hc2 hm=>?_) (fun hc2 hm=>?_)
  ·refine zq4 ?_
   cases hm;exact Ae zr1
  ·refine zq6 ?_
   refine Af rfl rfl rfl (BC rfl rfl) ?_;obtain ⟨x1,hx1,hm⟩:=bS hm;refine Af rfl rfl rfl (AY call89 rfl (Uw (fun _ _ h=>Em call90 (Mh h)) hx1)) ?_;refine zq1 ?_;obtain ⟨p1,hp_3,hm⟩:=bS hm;refine AL [] 4 34 p1 (t:=30) trivial rfl (fun hg_3 hk3=>?_) (fun hg_3 hk3=>?_) ?_
   ·replace hp_3:=AO hg_3 hp_3
    refine zq4 ?_;exact zgb hk3 hp_3
   ·replace hp_3:=AP hg_3 hp_3
    refine zq1 ?_;obtain ⟨x2,hx2,hp_3⟩:=bS hp_3;refine zcw (IQ hx2) ?_;refine zq2 ?_;exact zgb hk3 hp_3
   refine gNl ?_;refine zcn hm (fun hc3 hm=>?_) (fun hc3 hm=>?_)
   ·refine zq4 ?_
    cases hm;exact Ae zr1
   ·refine zq5 ?_
    cases hm;exact Ae zr1
def G4  : Nat->(Int×Int×(List Int))->Option (List Int)
 | 0,_=>none
 | n+1,(i1,j1,l1) =>
  bif (decide (i1<j1)) then
   (idx l1 j1).bind fun x1 =>
   (idx l1 i1).bind fun x2 =>
   (idx l1 i1).bind fun x3 =>
   (idx l1 j1).bind fun x4 =>
   (idx (l1.set (i1).toNat x1) j1).bind fun x5 =>
   grd (InR (i1+1)) <|
   grd (InR (j1 - 1)) <|
   G4 n ((i1+1),(j1 - 1),((l1.set (i1).toNat x1).set (j1).toNat x2))
  else
   some l1
def OL (s1:(List Int))  : Option (List Int):=
 grd (InR ((s1.length:Int) - 1)) <|
 G4 FU (0,((s1.length:Int) - 1),s1)
theorem Ur {s1:(List Int)}  {s_1:(List Int)} {a_q0:Option Addr} {m_q0 cap_q0:Nat} (hm:OL s1=some s_1):Go.V.Fn Tryz.prog 139 [.v (.slice a_q0 m_q0 cap_q0)] [arr a_q0 m_q0 cap_q0 3 1 D.i64 s1] (fun d ms'=>d = .tup []/\ms'=[arr a_q0 m_q0 cap_q0 3 1 D.i64 s_1]):=by
 unfold OL at hm;refine Ad func139 rfl ntmps139 rfl fun H0 fr w0=>?_;refine zq3 ?_;refine Af rfl rfl rfl (BP 0 runUnderlying25 rfl rfl) ?_;obtain ⟨hg1,hm⟩:=Aa hm;refine zq5 ?_;refine Ai [(0,_)] [] (fun (st:(Int×Int×(List Int))) (hid:Unit)=>match st,hid with | (i1,j1,l1),_=>[(2,.i64 i1),(3,.i64 j1)]) (fun F (st:(Int×Int×(List Int))) (hid:Unit)=>match st,hid with | (i1,j1,l1),_=>[arr a_q0 m_q0 cap_q0 3 1 D.i64 l1]) () hm (fun _=>rfl) ⟨rfl,trivial⟩ trivial ⟨rfl,rfl,trivial⟩ rfl ?_;rintro n ⟨i1,j1,l1⟩ ⟨⟩ hm;rw [G4] at hm;refine Ar (L':=[(2,.i64 i1),(3,.i64 j1),(0,_)]) (ms':=[arr a_q0 m_q0 cap_q0 3 1 D.i64 l1]) rfl rfl ?_;refine zq7 ?_;refine zcn hm (fun hc1 hm=>?_) (fun hc1 hm=>?_)
 ·refine zq3 ?_
  obtain ⟨x1,hx2,hm⟩:=bS hm;obtain ⟨x2,hx3,hm⟩:=bS hm;obtain ⟨x3,hx4,hm⟩:=bS hm;obtain ⟨x4,hx5,hm⟩:=bS hm;obtain ⟨x5,hx6,hm⟩:=bS hm;refine DS [13,15] [2,3,14] [14] AA (by decide +kernel) (by decide +kernel) rfl ?_;refine Au rfl rfl rfl rfl rfl rfl (oMv rfl) ?_;refine Au rfl rfl rfl rfl rfl rfl (oMv rfl) ?_;refine Au rfl rfl rfl rfl rfl rfl (oMv rfl) ?_;refine Au rfl rfl rfl rfl rfl rfl (oMv rfl) ?_;refine Au rfl rfl rfl rfl rfl rfl (oMv rfl) ?_;refine Au rfl rfl rfl rfl rfl rfl (oMv rfl) ?_;refine Au rfl rfl rfl rfl rfl rfl (Ap 0 runUnderlying25 sizeOf3 rfl rfl rfl hx2) ?_;refine Au rfl rfl rfl rfl rfl rfl (AV (off:=0) 0 isAgg3 rfl rfl (Am hx2).2 rfl rfl rfl) ?_;refine Au rfl rfl rfl rfl rfl rfl (oMv rfl) ?_;refine Au rfl rfl rfl rfl rfl rfl (oMv rfl) ?_;refine Au rfl rfl rfl rfl rfl rfl (Ap 0 runUnderlying25 sizeOf3 rfl rfl rfl hx3) ?_;refine Au rfl rfl rfl rfl rfl rfl (AV (off:=0) 0 isAgg3 rfl rfl (Am hx3).2 rfl rfl rfl) ?_;refine Au rfl rfl rfl rfl rfl rfl (Ap 0 runUnderlying25 sizeOf3 rfl rfl rfl hx4) ?_;refine DU rfl ?_;refine MF rfl rfl rfl rfl rfl (E3 0 runUnderlying25 sizeOf3 rfl rfl rfl (by first | exact G8 hx5 | exact Dt (G8 hx5) | exact Dt (Dt (G8 hx5)))) ?_;refine DU rfl ?_;refine EQ ?_;refine Cv rfl rfl rfl (Bx (off:=0) (z':=x1) 0 sizeOf3 rfl rfl (Am hx4).2 rfl rfl rfl rfl rfl rfl (nB rfl) rfl rfl) ?_;rintro _ _ rfl;refine ⟨⟨trivial,E3 0 runUnderlying25 sizeOf3 rfl rfl rfl (by first | exact G8 hx5 | exact Dt (G8 hx5) | exact Dt (Dt (G8 hx5)))⟩,?_⟩;refine Cv rfl rfl rfl (Bx (off:=0) (z':=x2) 0 sizeOf3 rfl rfl (Am hx6).2 rfl rfl rfl rfl rfl rfl (nB rfl) rfl rfl) ?_;rintro _ _ rfl;refine ⟨⟨trivial,E3 0 runUnderlying25 sizeOf3 rfl rfl rfl (by first | exact G8 hx5 | exact Dt (G8 hx5) | exact Dt (Dt (G8 hx5)))⟩,?_⟩;refine BL ?_;refine zq2 ?_;obtain ⟨hg7,hm⟩:=Aa hm;refine zq2 ?_;obtain ⟨hg8,hm⟩:=Aa hm;refine zq4 ?_;exact ⟨_,(),hm,⟨rfl,rfl,trivial⟩,⟨rfl,trivial⟩,[],rfl⟩
 ·refine Ao ?_
  obtain rfl:=Ac hm;exact retKn (HN rfl (permA 0 rfl permN)) ⟨rfl,rfl⟩
def DK (c1:ATy):Nat->((List Int)×(List Bool))->Option (List Int)
 | 0,_=>none
 | n+1,(l1,l2) =>
  bif (decide (0<(l1.length:Int))) then
   grd (InR ((l1.length:Int) - 1)) <|
   (idx l1 ((l1.length:Int) - 1)).bind fun x1 =>
   grd (InR ((l1.length:Int) - 1)) <|
   (sli l1 0 ((l1.length:Int) - 1)).bind fun l3 =>
   (idx l2 x1).bind fun x2 =>
   bif x2 then
    DK c1 n (l3,l2)
   else
    (idx l2 x1).bind fun x3 =>
    ((idx c1.l x1).bind fun x4 =>
    (Dn x4).bind fun x5 =>
    grd (x5.length*8<=140737488355328) <|
    (OL x5).bind fun l4 =>
    grd ((l3.length+l4.length)*8<=140737488355328) <|
    DK c1 n ((l3++l4),(l2.set (x1).toNat true))).bind fun ys=>some (x1::ys)
  else
   some []
def Hm (c1:ATy) (c2:Int):Option (List Int):=
 grd (0<=(c1.l.length:Int)) <|
 grd (((c1.l.length:Int)).toNat*1<=140737488355328) <|
 DK c1 FU ([c2],(List.replicate ((c1.l.length:Int)).toNat (false:Bool)))
theorem Oy {c1:ATy} {c2:Int} {xs:(List Int)} (hm:Hm c1 c2=some xs):Iter Tryz.prog 138 [.ref (ATy.d c1),.ref (.i64 c2)] (xs.map fun (p:Int)=>[.i64 p]):=by
 intro y hys J Jx hy tl_0 hJ_0
 have hk_0:0<=xs.length:=Nat.zero_le _
 replace hm:_=some (xs.drop 0):=hm
 unfold Hm at hm;refine Ad func138 rfl ntmps138 rfl fun H0 fr w0=>?_;refine zq5 ?_;obtain ⟨hg1,hm⟩:=Aa hm;obtain ⟨hg2,hm⟩:=Aa hm;refine Av rfl rfl rfl (Fh (f:=D.bool) (z0:=false) underlying77 type4 rfl rfl rfl (nB rfl) rfl rfl hg1 hg2 (nB rfl)) ?_;rintro _ _ ⟨a_r1,m_r1,cap_r1,rfl,rfl⟩;refine zq5 ?_;refine Av rfl rfl rfl (E8 (xs:=[_]) (f:=D.i64) (l:=[_]) runUnderlying25 sizeOf3 zeroValue3 rfl rfl rfl (fun _=>⟨rfl,rfl,rfl⟩) rfl (by simp [maxLen])) ?_;rintro _ _ ⟨a_r2,m_r2,cap_r2,rfl,rfl⟩;refine zq3 ?_;refine R9 (fun (hid:{p:Nat×List Asrt // p.1<=xs.length/\J p.1 p.2}×(Option Addr×Nat×Nat)×Unit)=>xs.drop hid.1.1.1) [(0,_),(1,_),(4,_)] [] (fun (st:((List Int)×(List Bool))) (hid:{p:Nat×List Asrt // p.1<=xs.length/\J p.1 p.2}×(Option Addr×Nat×Nat)×Unit)=>match st,hid with | (l1,l2),(⟨(k_3,tl_3),hk_3,hJ_3⟩,(a_r2,m_r2,cap_r2),_)=>[(5,.v (.slice a_r2 m_r2 cap_r2))]) (fun F (st:((List Int)×(List Bool))) (hid:{p:Nat×List Asrt // p.1<=xs.length/\J p.1 p.2}×(Option Addr×Nat×Nat)×Unit)=>match st,hid with | (l1,l2),(⟨(k_3,tl_3),hk_3,hJ_3⟩,(a_r2,m_r2,cap_r2),_)=>[arr a_r2 m_r2 cap_r2 3 1 D.i64 l1,arr a_r1 m_r1 cap_r1 4 1 D.bool l2]++tl_3) (⟨(0,tl_0),hk_0,hJ_0⟩,(_,_,_),()) hm rfl (fun _=>rfl) ⟨rfl,rfl,rfl,trivial⟩ trivial ⟨rfl,trivial⟩ rfl ?_;rintro n ⟨l1,l2⟩ ⟨⟨⟨k_3,tl_3⟩,hk_3,hJ_3⟩,⟨a_r2,m_r2,cap_r2⟩,⟨⟩⟩ hm
 replace hm:_=some (xs.drop k_3):=hm
 rw [DK] at hm;refine Ar (L':=[(5,.v (.slice a_r2 m_r2 cap_r2)),(0,_),(1,_),(4,_)]) (ms':=[arr a_r2 m_r2 cap_r2 3 1 D.i64 l1,arr a_r1 m_r1 cap_r1 4 1 D.bool l2]++tl_3) rfl rfl ?_;refine zq4 ?_;refine Af rfl rfl rfl (BP 0 runUnderlying25 rfl rfl) ?_;refine zq2 ?_;refine zcn hm (fun hc1 hm=>?_) (fun hc1 hm=>?_)
 ·refine zq6 ?_
  refine Af rfl rfl rfl (BP 0 runUnderlying25 rfl rfl) ?_;obtain ⟨hg3,hm⟩:=Aa hm;refine zq1 ?_;obtain ⟨x1,hx4,hm⟩:=bS hm;refine Af rfl rfl rfl (Ap 0 runUnderlying25 sizeOf3 rfl rfl rfl hx4) ?_;refine Af rfl rfl rfl (AV (off:=0) 0 isAgg3 rfl rfl (Am hx4).2 rfl rfl rfl) ?_;refine zq6 ?_;refine Af rfl rfl rfl (BP 0 runUnderlying25 rfl rfl) ?_;obtain ⟨hg5,hm⟩:=Aa hm;refine zq1 ?_;obtain ⟨l3,hx6,hm⟩:=bS hm;refine Av rfl rfl rfl (GA 0 runUnderlying25 sizeOf3 rfl rfl rfl hx6) ?_;rintro _ _ ⟨a_r2,m_r2,cap_r2,rfl,rfl⟩;refine zq7 ?_;obtain ⟨x2,hx7,hm⟩:=bS hm;refine Af rfl rfl rfl (Ap 1 runUnderlying77 sizeOf4 rfl rfl rfl hx7) ?_;refine Af rfl rfl rfl (AV (off:=0) 1 isAgg4 rfl rfl (Am hx7).2 rfl rfl rfl) ?_;refine gNl ?_;refine zcn hm (fun hc2 hm=>?_) (fun hc2 hm=>?_)
  ·refine Ao ?_
   exact ⟨_,(⟨(k_3,tl_3),hk_3,hJ_3⟩,(_,_,_),()),hm,⟨rfl,trivial⟩,⟨rfl,rfl,rfl,trivial⟩,[],rfl⟩
  ·refine zq5 ?_
   obtain ⟨x3,hx8,hm⟩:=bS hm;refine Af rfl rfl rfl (Ap 1 runUnderlying77 sizeOf4 rfl rfl rfl hx8) ?_;refine Gk rfl rfl (Bx (off:=0) (z':=true) 1 sizeOf4 rfl rfl (Am hx8).2 rfl rfl rfl rfl rfl rfl (nB rfl) rfl rfl) ?_;rintro _ _ rfl;refine Ag (ms':=[_,_]++tl_3) rfl ?_;refine zq6 ?_;obtain ⟨ys_4,hm,he_4⟩:=bS hm;obtain ⟨hy_4,hk_4,rfl⟩:=RK he_4;refine Av rfl rfl rfl (SG [_,_] tl_3 rfl rfl (hy k_3 _ tl_3 (T8 hy_4) hJ_3)) ?_;rintro _ _ ⟨_ | _,tl_4,rfl,rfl,hJ_4,hs_4⟩
   ·refine zq2 ?_
    refine HU rfl rfl ?_;refine Ae ?_;exact retK (HN (ms':=tl_4) (drop:=[_,_]) rfl (List.Perm.refl _)) (.inr (hs_4 rfl))
   ·refine zq2 ?_
    refine D3 rfl rfl ?_;refine zq6 ?_;obtain ⟨x4,hx9,hm⟩:=bS hm;refine Af rfl rfl rfl (oIm runUnderlying22 sizeOf44 rfl rfl hx9) ?_;refine zq1 ?_;obtain ⟨x5,hx10,hm⟩:=bS hm;refine zc0 (Hx hx10) ?_;obtain ⟨hg11,hm⟩:=Aa hm;refine Av rfl rfl rfl (B7 (ms₁:=[]) call97 rfl (List.Perm.refl _) (Hs hg11)) ?_;rintro _ _ ⟨_,⟨a_r3,cap_r3,rfl,rfl⟩,rfl⟩
    generalize hm_r3:x5.length=m_r3
    clear hm_r3
    refine zq5 ?_;obtain ⟨l4,hx12,hm⟩:=bS hm;refine Av rfl rfl rfl (C1 [0] call139 rfl rfl (C3 rfl DG) (Ur hx12) (by rintro _ _ ⟨rfl,rfl⟩;rfl)) ?_;rintro _ _ ⟨_,⟨rfl,rfl⟩,rfl⟩;refine Ag (ms':=[_,_,_]++tl_4) rfl ?_;refine zq4 ?_;refine Gu 0 rfl rfl ?_;rintro rfl;obtain ⟨hg13,hm⟩:=Aa hm;refine Av rfl rfl rfl (.view (peekE (i:=49) 0 rfl rfl rfl) (Ca (a:=_) 1 underlying25 type3 rfl rfl rfl rfl rfl rfl (fun _=>rfl) (fun _=>rfl) hg13 (A2 hg13 rfl))) ?_;rintro _ _ ⟨a_r2,m_r2,cap_r2,rfl,rfl⟩;refine Ag (ms':=[_,_,_]++tl_4) rfl ?_;refine zq2 ?_;exact ⟨_,(⟨((k_3+1),tl_4),hk_4,(hJ_4 rfl)⟩,(_,_,_),()),hm,⟨rfl,trivial⟩,⟨rfl,rfl,rfl,trivial⟩,[_],rfl⟩
 ·refine Ao ?_
  exact retKn (HN (ms':=tl_3) (drop:=[_,_]) rfl (List.Perm.refl _)) (.inl (Ra hm hk_3 hJ_3 _))
theorem PR {p0:ATy} {p1:Int} :
  Fn0 Tryz.prog 107 [ATy.d p0,.i64 p1] (.clo (.func 138) [] [.ref (ATy.d p0),.ref (.i64 p1)]):=by
 refine Ad func107 rfl ntmps107 rfl fun H0 fr w0=>?_;refine zq8 ?_;refine Af rfl rfl rfl (BC rfl rfl) ?_;refine zq2 ?_;refine Ae ?_;exact retK (AC rfl (Bh rfl) (E6 _)) (by rfl)
def A8 (s1:ATy) (i1:Int):Option Int:=
 (idx s1.l i1).bind fun x1 =>
 some x1.kind
theorem C4 {s1:ATy} {i1:Int} {r_1:Int} (hm:A8 s1 i1=some r_1):Fn0 Tryz.prog 148 [.ref (ATy.d s1),.i64 i1] (.i64 r_1):=by
 unfold A8 at hm;refine Ad func148 rfl ntmps148 rfl fun H0 fr w0=>?_;refine zq7 ?_;refine Af rfl rfl rfl (Ds rfl) ?_;refine zq4 ?_;obtain ⟨x1,hx1,hm⟩:=bS hm;refine zq5 ?_
 cases hm;exact Ae zr1
def CH (i1:Int) (c1:ATy) (c2:Int):Option Bool:=
 (A8 c1 i1).bind fun x1 =>
 some (decide (x1=c2))
theorem Ib {i1:Int} {c1:ATy} {c2:Int} {r_1:Bool} (hm:CH i1 c1 c2=some r_1):Fn0 Tryz.prog 147 [.i64 i1,.ref (.ref (ATy.d c1)),.ref (.i64 c2)] (.bool r_1):=by
 unfold CH at hm;refine Ad func147 rfl ntmps147 rfl fun H0 fr w0=>?_;refine zq5 ?_;obtain ⟨x1,hx1,hm⟩:=bS hm;refine zdr 6 ?_;refine zq2 ?_;refine zcd (C4 hx1) ?_;refine zq5 ?_
 cases hm;exact Ae zr1
def BO (s1:ATy) (l1:(List Int)) (kind1:Int):Option Bool:=
 (Jq l1 (fun y0=>CH y0 s1 kind1)).bind fun x1 =>
 some x1
theorem Gi {s1:ATy} {l1:(List Int)} {kind1:Int} {r_1:Bool} (hm:BO s1 l1 kind1=some r_1):Fn0 Tryz.prog 130 [.ref (ATy.d s1),.list 1 D.i64 l1,.i64 kind1] (.bool r_1):=by
 unfold BO at hm;refine Ad func130 rfl ntmps130 rfl fun H0 fr w0=>?_;refine zq9 ?_;refine Af rfl rfl rfl (BC rfl rfl) ?_;obtain ⟨x1,hx1,hm⟩:=bS hm;refine Af rfl rfl rfl (Gd [] call54 rfl rfl DG (Sm (fun _ _ h=>K7 (Em call147 (Ib h))) hx1)) ?_;refine zq2 ?_
 cases hm;exact Ae zr1
def BU (i1:Int) (c1:ATy):Option Bool:=
 (A8 c1 i1).bind fun x1 =>
 (bif (decide (x1=9)) then (some true) else ((A8 c1 i1).bind fun x2 =>
 some (decide (x2=10)))).bind fun p1 =>
 some p1
theorem Gv {i1:Int} {c1:ATy} {r_1:Bool} (hm:BU i1 c1=some r_1):Fn0 Tryz.prog 176 [.i64 i1,.ref (.ref (ATy.d c1))] (.bool r_1):=by
 unfold BU at hm;refine Ad func176 rfl ntmps176 rfl fun H0 fr w0=>?_;refine zq8 ?_;obtain ⟨x1,hx1,hm⟩:=bS hm;refine zc0 (C4 hx1) ?_;refine zq2 ?_;obtain ⟨p1,hp_1,hm⟩:=bS hm;refine AL [] 5 13 p1 (t:=8) trivial rfl (fun hg_1 hk1=>?_) (fun hg_1 hk1=>?_) ?_
 ·replace hp_1:=AO hg_1 hp_1
  refine zq5 ?_;exact zgb hk1 hp_1
 ·replace hp_1:=AP hg_1 hp_1
  refine zq2 ?_;obtain ⟨x2,hx2,hp_1⟩:=bS hp_1;refine zcw (C4 hx2) ?_;refine zq2 ?_;exact zgb hk1 hp_1
 refine zq2 ?_
 cases hm;exact Ae zr1
def Bf (s1:ATy) (l1:(List Int)):Option (ANd×(List Int)×Bool):=
 (LK l1 (fun y0=>BU y0 s1)).bind fun x1 =>
 bif (decide (x1<0)) then
  some ((⟨0,0,0,([]:List AFd)⟩:ANd),[],false)
 else
  (idx l1 x1).bind fun x2 =>
  (idx s1.l x2).bind fun x3 =>
  grd (l1.length*8<=140737488355328) <|
  grd (InR (x1+1)) <|
  grd (0<=x1) <|
  grd (x1<=(x1+1)) <|
  grd ((x1+1)<=(l1.length:Int)) <|
  grd (l1≠[]) <|
  some ((⟨x3.kind,x3.a,x3.b,x3.l⟩:ANd),(List.take (x1).toNat l1++List.drop ((x1+1)).toNat l1),true)
theorem ES {s1:ATy} {l1:(List Int)} {r_1:ANd} {r_2:(List Int)} {r_3:Bool} (hm:Bf s1 l1=some (r_1,r_2,r_3)):Fn0 Tryz.prog 149 [.ref (ATy.d s1),.list 1 D.i64 l1] (.tup [ANd.d r_1,.list 1 D.i64 r_2,.bool r_3]):=by
 unfold Bf at hm;refine Ad func149 rfl ntmps149 rfl fun H0 fr w0=>?_;refine zq3 ?_;refine Dq fun b1=>?_;refine zq1 ?_;refine Al (nilE (i:=5) (sz:=1) (f:=D.i64) rfl).refines ?_;refine zq5 ?_;refine Af rfl rfl rfl (BC rfl rfl) ?_;obtain ⟨x1,hx1,hm⟩:=bS hm;refine Af rfl rfl rfl (Gd [] call93 rfl rfl DG (TH (fun _ _ h=>K7 (Em call176 (Gv h))) hx1)) ?_;refine zq8 ?_;refine zcn hm (fun hc1 hm=>?_) (fun hc1 hm=>?_)
 ·refine zq2 ?_
  refine Af rfl rfl rfl zb44a ?_;refine zst 0 ?_;refine Ag (ms':=[box b1 44 [_,_,_,_]]) rfl ?_;refine zq1 ?_;refine Al (nilE (i:=5) (sz:=1) (f:=D.i64) rfl).refines ?_;refine zq2 ?_
  cases hm;exact Ae zr3
 ·refine zq2 ?_
  obtain ⟨x2,hx2,hm⟩:=bS hm;obtain ⟨x3,hx3,hm⟩:=bS hm;obtain ⟨hg4,hm⟩:=Aa hm;obtain ⟨hg5,hm⟩:=Aa hm;obtain ⟨hg6,hm⟩:=Aa hm;obtain ⟨hg7,hm⟩:=Aa hm;obtain ⟨hg8,hm⟩:=Aa hm;obtain ⟨hg9,hm⟩:=Aa hm;refine DS [12,16,17,18] [0,1,2,3,4,5,6,7,8,9,10,13,14,15,19] [] AA (by decide +kernel) (by decide +kernel) rfl ?_;refine Au rfl rfl rfl rfl rfl rfl (Bg isAgg110 rfl rfl) ?_;refine Au rfl rfl rfl rfl rfl rfl (Ds rfl) ?_;refine Au rfl rfl rfl rfl rfl rfl (oFa N2 rfl rfl rfl) ?_;refine Au rfl rfl rfl rfl rfl rfl (oFa DI rfl rfl rfl) ?_;refine Au rfl rfl rfl rfl rfl rfl (Bg isAgg22 rfl rfl) ?_;refine Au rfl rfl rfl rfl rfl rfl (oMv rfl) ?_;refine Au rfl rfl rfl rfl rfl rfl (oMv rfl) ?_;refine Au rfl rfl rfl rfl rfl rfl (oIm runUnderlying25 sizeOf3 rfl rfl hx2) ?_;refine Au rfl rfl rfl rfl rfl rfl (Bg isAgg3 rfl rfl) ?_;refine Au rfl rfl rfl rfl rfl rfl (oIm runUnderlying22 sizeOf44 rfl rfl hx3) ?_;refine Au rfl rfl rfl rfl rfl rfl (Bu isAgg44 sizeOf44 rfl rfl) ?_;refine Au rfl rfl rfl rfl rfl rfl (oMv rfl) ?_;refine DU rfl ?_;refine Au rfl rfl rfl rfl rfl rfl (oMv rfl) ?_;refine Au rfl rfl rfl rfl rfl rfl (oMv rfl) ?_;refine Au rfl rfl rfl rfl rfl rfl (RX rfl rfl (Gw hg5)) ?_;refine DU rfl ?_;refine DU rfl ?_;refine DU rfl ?_;refine Au rfl rfl rfl rfl rfl rfl (oAs rfl) ?_;refine EQ ?_;refine GB rfl rfl rfl rfl (B7 (ms₁:=[]) call97 rfl (List.Perm.refl _) (Hs hg4)) ?_;rintro _ _ ⟨_,⟨a_r1,cap_r1,rfl,rfl⟩,rfl⟩
  generalize hm_r1:l1.length=m_r1
  clear hm_r1
  refine ⟨(trivial:True),?_⟩;refine GB rfl rfl rfl rfl (C1 [0] call177 rfl rfl (C3 rfl DG) (QC hg6 hg7 hg8 hg9) (by rintro _ _ ⟨_,_,rfl⟩;rfl)) ?_;rintro _ _ ⟨_,⟨m_r1,rfl,rfl⟩,rfl⟩
  show _/\GDE2 _ _ _ _ _ _ _ _ ([_,box b1 44 [_,_,_,_]])
  refine ⟨(trivial:True),?_⟩;refine Cv rfl rfl rfl (oSb 1 sizeOf44 rfl rfl rfl rfl rfl rfl rfl rfl (nB rfl)) ?_;rintro _ _ rfl;refine ⟨(trivial:True),?_⟩;refine GB rfl rfl rfl rfl (oAs rfl) ?_;rintro _ _ ⟨rfl,rfl⟩;refine ⟨(trivial:True),?_⟩;refine BL ?_;refine IW 0 rfl rfl ?_;rintro rfl;refine BA (peekE (i:=5) 0 rfl rfl rfl).refines ?_
  cases hm;exact Ae zr3
def GE (slices1:(List (List Int))):Nat->(Int×Int)->Option Int
 | 0,_=>none
 | n+1,(size2,x1) =>
  bif (decide (x1<(slices1.length:Int))) then
   (idx slices1 x1).bind fun x2 =>
   grd (InR (size2+(x2.length:Int))) <|
   bif (decide ((size2+(x2.length:Int))<0)) then
    none
   else
    grd (InR (x1+1)) <|
    GE slices1 n ((size2+(x2.length:Int)),(x1+1))
  else
   some size2
def G5 (slices1:(List (List Int))):Nat->(Int×(List Int))->Option (List Int)
 | 0,_=>none
 | n+1,(x3,l2) =>
  bif (decide (x3<(slices1.length:Int))) then
   (idx slices1 x3).bind fun x4 =>
   grd ((l2.length+x4.length)*8<=140737488355328) <|
   grd (InR (x3+1)) <|
   G5 slices1 n ((x3+1),(l2++x4))
  else
   some l2
def Ox (slices1:(List (List Int))):Option (List Int):=
 (GE slices1 FU (0,0):Option Int).bind fun size1 =>
 grd (0<=size1) <|
 grd ((size1).toNat*8<=140737488355328) <|
 (G5 slices1 FU (0,([]:List Int)):Option (List Int)).bind fun l1 =>
 some l1
theorem Um {slices1:(List (List Int))} {r_1:(List Int)} (hm:Ox slices1=some r_1):Fn0 Tryz.prog 55 [.list 1 (D.list 1 D.i64) slices1] (.list 1 D.i64 r_1):=by
 unfold Ox at hm;refine Ad func55 rfl ntmps55 rfl fun H0 fr w0=>?_;refine zq3 ?_;refine Al (nilE (i:=2) (sz:=1) (f:=D.i64) rfl).refines ?_;refine zq12 ?_;obtain ⟨o_1,hj1,hm1⟩:=bS hm;refine Ak [(0,_)] [] (fun (st:Int) (hid:Unit)=>match st,hid with | size1,_=>[(3,.i64 size1)]) (fun F (st:Int) (hid:Unit)=>match st,hid with | size1,_=>[]) (fun st=>st=o_1) ⟨rfl,trivial⟩ trivial ?_ ?_
 ·refine Aj ?_
  refine Ai [(0,_),(9,_),(10,_)] [] (fun (st:(Int×Int)) (hid:Unit)=>match st,hid with | (size2,x1),_=>[(3,.i64 size2),(11,.i64 x1)]) (fun F (st:(Int×Int)) (hid:Unit)=>match st,hid with | (size2,x1),_=>[]) () hj1 (fun _=>rfl) ⟨rfl,rfl,rfl,trivial⟩ trivial ⟨rfl,rfl,trivial⟩ rfl ?_;rintro n ⟨size2,x1⟩ _ hj1;rw [GE] at hj1;refine Ar (L':=[(3,.i64 size2),(11,.i64 x1),(0,_),(9,_),(10,_)]) (ms':=[]) rfl rfl ?_;refine zq5 ?_;refine zcn hj1 (fun hc1 hj1=>?_) (fun hc1 hj1=>?_)
  ·refine zq5 ?_
   obtain ⟨x2,hx1,hj1⟩:=bS hj1;refine zq9 ?_;obtain ⟨hg2,hj1⟩:=Aa hj1;refine zq8 ?_;refine zcn hj1 (fun hc2 hj1=>?_) (fun hc2 hj1=>?_)
   ·cases hj1
   ·refine zq2 ?_
    obtain ⟨hg3,hj1⟩:=Aa hj1;refine zq3 ?_;exact ⟨_,(),hj1,⟨rfl,rfl,trivial⟩,⟨rfl,rfl,rfl,trivial⟩,[],rfl⟩
  ·refine Ao ?_
   exact ⟨_,(),Ac hj1,⟨rfl,trivial⟩,⟨rfl,trivial⟩,[],rfl⟩
 ·rintro size1 _ hst
  subst hst;refine An (L':=[(3,.i64 size1),(0,_)]) (ms':=[]) rfl rfl ?_;refine zq3 ?_;obtain ⟨hg4,hm1⟩:=Aa hm1;obtain ⟨hg5,hm1⟩:=Aa hm1;refine Av rfl rfl rfl (B7 (ms₁:=[]) call94 rfl (List.Perm.refl _) (QK hg4 hg5)) ?_;rintro _ _ ⟨_,⟨a_r1,cap_r1,rfl,rfl⟩,rfl⟩;refine zq9 ?_;obtain ⟨o_2,hj2,hm2⟩:=bS hm1;refine Ak [] [] (fun (st:(List Int)) (hid:(Option Addr×Nat))=>match st,hid with | l1,(a_r1,cap_r1)=>[(6,.v (.slice a_r1 l1.length cap_r1))]) (fun F (st:(List Int)) (hid:(Option Addr×Nat))=>match st,hid with | l1,(a_r1,cap_r1)=>[row a_r1 cap_r1 3 1 D.i64 l1]) (fun st=>st=o_2) trivial trivial ?_ ?_
  ·refine Aj ?_
   refine Ai [(25,_),(26,_)] [] (fun (st:(Int×(List Int))) (hid:(Option Addr×Nat))=>match st,hid with | (x3,l2),(a_r1,cap_r1)=>[(6,.v (.slice a_r1 l2.length cap_r1)),(27,.i64 x3)]) (fun F (st:(Int×(List Int))) (hid:(Option Addr×Nat))=>match st,hid with | (x3,l2),(a_r1,cap_r1)=>[row a_r1 cap_r1 3 1 D.i64 l2]) (_,_) hj2 (fun _=>rfl) ⟨rfl,rfl,trivial⟩ trivial ⟨rfl,rfl,trivial⟩ rfl ?_;rintro n ⟨x3,l2⟩ ⟨a_r1,cap_r1⟩ hj2;rw [G5] at hj2;refine Ar (L':=[(6,.v (.slice a_r1 l2.length cap_r1)),(27,.i64 x3),(25,_),(26,_)]) (ms':=[row a_r1 cap_r1 3 1 D.i64 l2]) rfl rfl ?_;refine zq5 ?_;refine zcn hj2 (fun hc3 hj2=>?_) (fun hc3 hj2=>?_)
   ·refine zq5 ?_
    obtain ⟨x4,hx6,hj2⟩:=bS hj2;refine zq7 ?_;obtain ⟨hg7,hj2⟩:=Aa hj2;refine zap 0 hg7 fun a_r1 cap_r1=>?_;refine Ag (ms':=[_]) rfl ?_;refine zq3 ?_;obtain ⟨hg8,hj2⟩:=Aa hj2;refine zq3 ?_;exact ⟨_,(_,_),hj2,⟨rfl,rfl,trivial⟩,⟨rfl,rfl,trivial⟩,[],rfl⟩
   ·refine Ao ?_
    exact ⟨_,(_,_),Ac hj2,⟨rfl,trivial⟩,trivial,[],rfl⟩
  ·rintro l1 ⟨a_r1,cap_r1⟩ hst
   subst hst;refine An (L':=[(6,.v (.slice a_r1 l1.length cap_r1))]) (ms':=[row a_r1 cap_r1 3 1 D.i64 l1]) rfl rfl ?_;refine zq5 ?_;refine BA (peekE (i:=2) 0 rfl rfl rfl).refines ?_
   cases hm2;exact Ae zr1
def AF (l1:(List Int)):Option (List Int):=
 grd (l1.length*8<=140737488355328) <|
 grd (l1.length<4611686018427387904) <|
 some (Lib.compact (List.mergeSort l1 fun x y=>decide (x<=y)))
theorem CF {l1:(List Int)} {r_1:(List Int)} (hm:AF l1=some r_1):Fn0 Tryz.prog 58 [.list 1 D.i64 l1] (.list 1 D.i64 r_1):=by
 unfold AF at hm;refine Ad func58 rfl ntmps58 rfl fun H0 fr w0=>?_;refine zq3 ?_;refine Al (nilE (i:=2) (sz:=1) (f:=D.i64) rfl).refines ?_;refine zq4 ?_;obtain ⟨hg1,hm⟩:=Aa hm;refine Av rfl rfl rfl (B7 (ms₁:=[]) call97 rfl (List.Perm.refl _) (Hs hg1)) ?_;rintro _ _ ⟨_,⟨a_r1,cap_r1,rfl,rfl⟩,rfl⟩
 generalize hm_r1:l1.length=m_r1
 clear hm_r1
 refine zq5 ?_;obtain ⟨hg2,hm⟩:=Aa hm;refine Av rfl rfl rfl (C1 [0] call98 rfl rfl (C3 rfl DG) (Qc hg2) (by rintro _ _ ⟨_,rfl⟩;rfl)) ?_;rintro _ _ ⟨_,⟨rfl,rfl⟩,rfl⟩;refine Ag (ms':=[_]) rfl ?_;refine zq4 ?_;refine Av rfl rfl rfl (C1 [0] call99 rfl rfl (C3 rfl DG) LU (by rintro _ _ ⟨_,_,rfl⟩;rfl)) ?_;rintro _ _ ⟨_,⟨m_r1,rfl,rfl⟩,rfl⟩;refine Ag (ms':=[_]) rfl ?_;refine zq2 ?_;refine IW 0 rfl rfl ?_;rintro rfl;refine BA (peekE (i:=2) 0 rfl rfl rfl).refines ?_
 cases hm;exact Ae zr1
def BV (l1:(List Int)) (more1:(List Int)):Option (List Int):=
 (Ox [l1,more1]).bind fun x1 =>
 (AF x1).bind fun x2 =>
 some x2
theorem Ec {l1:(List Int)} {more1:(List Int)} {r_1:(List Int)} (hm:BV l1 more1=some r_1):Fn0 Tryz.prog 150 [.list 1 D.i64 l1,.list 1 D.i64 more1] (.list 1 D.i64 r_1):=by
 unfold BV at hm;refine Ad func150 rfl ntmps150 rfl fun H0 fr w0=>?_;refine zq3 ?_;refine Al (nilE (i:=4) (sz:=1) (f:=D.i64) rfl).refines ?_;refine zq5 ?_;refine Af rfl rfl rfl (zs2 (D.list 1 D.i64)) ?_;obtain ⟨x1,hx1,hm⟩:=bS hm;refine zc0 (Um hx1) ?_;obtain ⟨x2,hx2,hm⟩:=bS hm;refine zc0 (CF hx2) ?_;refine zq2 ?_
 cases hm;exact Ae zr1
def BK (s1:ATy) (q1:BSq):Option (BAn×Bool):=
 (Bf s1 q1.left).bind fun (x1,x2,x3) =>
 bif x3 then
  bif (decide (x1.kind=10)) then
   (BV x2 [x1.a,x1.b]).bind fun x4 =>
   some ((⟨[(⟨x4,q1.right⟩:BSq)],false⟩:BAn),true)
  else
   (BV x2 [x1.a]).bind fun x5 =>
   (BV x2 [x1.b]).bind fun x6 =>
   some ((⟨[(⟨x5,q1.right⟩:BSq),(⟨x6,q1.right⟩:BSq)],false⟩:BAn),true)
 else
  (Bf s1 q1.right).bind fun (x7,x8,x9) =>
  bif x9 then
   bif (decide (x7.kind=9)) then
    (BV x8 [x7.a,x7.b]).bind fun x10 =>
    some ((⟨[(⟨q1.left,x10⟩:BSq)],false⟩:BAn),true)
   else
    (BV x8 [x7.a]).bind fun x11 =>
    (BV x8 [x7.b]).bind fun x12 =>
    some ((⟨[(⟨q1.left,x11⟩:BSq),(⟨q1.left,x12⟩:BSq)],false⟩:BAn),true)
  else
   some ((⟨([]:List BSq),false⟩:BAn),false)
theorem HE {s1:ATy} {q1:BSq} {r_1:BAn} {r_2:Bool} (hm:BK s1 q1=some (r_1,r_2)):Fn0 Tryz.prog 131 [.ref (ATy.d s1),BSq.d q1] (.tup [BAn.d r_1,.bool r_2]):=by
 unfold BK at hm;refine Ad func131 rfl ntmps131 rfl fun H0 fr w0=>?_;refine zq3 ?_;refine JR fun b1=>?_;refine zq8 ?_;obtain ⟨⟨x1,x2,x3⟩,hx1,hm⟩:=bS hm;refine zc0 (ES hx1) ?_;refine zq4 ?_;refine Dq fun b2=>?_;refine zst 0 ?_;refine Ag (ms':=[box b2 44 [_,_,_,_],box b1 117 [_,_]]) rfl ?_;refine zq7 ?_;refine zcn hm (fun hc1 hm=>?_) (fun hc1 hm=>?_)
 ·refine zq7 ?_
  refine zcn hm (fun hc2 hm=>?_) (fun hc2 hm=>?_)
  ·refine AQ ?_
   obtain ⟨x4,hx2,hm⟩:=bS hm;refine zdr 12 ?_;refine zq5 ?_;refine Aw rfl rfl rfl (zs2 D.i64) ?_;refine zcd (Ec hx2) ?_;refine zq2 ?_;refine Aw rfl rfl rfl zb75a ?_;refine Aw rfl rfl rfl (Ax (xs:=[_]) (f:=BSq.d) (l:=[(⟨x4,q1.right⟩:BSq)]) runUnderlying112 sizeOf75 zeroValue75 rfl rfl rfl (fun _=>⟨rfl,rfl,rfl⟩) rfl) ?_;refine Aw rfl rfl rfl E0 ?_;refine Cu ?_;refine zst 1 ?_;refine Ag (ms':=[box b2 44 [_,_,_,_],box b1 117 [_,_]]) rfl ?_;refine zq2 ?_
   cases hm;exact Ae zr2
  ·refine zq2 ?_
   obtain ⟨x5,hx3,hm⟩:=bS hm;obtain ⟨x6,hx4,hm⟩:=bS hm;refine zdr 18 ?_;refine zq3 ?_;refine Aw rfl rfl rfl (zs1 D.i64) ?_;refine zcd (Ec hx3) ?_;refine zq2 ?_;refine Aw rfl rfl rfl zb75a ?_;refine zq3 ?_;refine Aw rfl rfl rfl (zs1 D.i64) ?_;refine zcd (Ec hx4) ?_;refine zq2 ?_;refine Aw rfl rfl rfl zb75a ?_;refine Aw rfl rfl rfl (Ax (xs:=[_,_]) (f:=BSq.d) (l:=[(⟨x5,q1.right⟩:BSq),(⟨x6,q1.right⟩:BSq)]) runUnderlying112 sizeOf75 zeroValue75 rfl rfl rfl (fun _=>⟨rfl,rfl,rfl⟩) rfl) ?_;refine Aw rfl rfl rfl E0 ?_;refine Cu ?_;refine zst 1 ?_;refine Ag (ms':=[box b2 44 [_,_,_,_],box b1 117 [_,_]]) rfl ?_;refine zq2 ?_
   cases hm;exact Ae zr2
 ·refine zq7 ?_
  obtain ⟨⟨x7,x8,x9⟩,hx5,hm⟩:=bS hm;refine zc0 (ES hx5) ?_;refine zq4 ?_;refine Dq fun b3=>?_;refine zst 0 ?_;refine Ag (ms':=[box b3 44 [_,_,_,_],box b2 44 [_,_,_,_],box b1 117 [_,_]]) rfl ?_;refine zq7 ?_;refine zcn hm (fun hc3 hm=>?_) (fun hc3 hm=>?_)
  ·refine zq7 ?_
   refine zcn hm (fun hc4 hm=>?_) (fun hc4 hm=>?_)
   ·refine AQ ?_
    obtain ⟨x10,hx6,hm⟩:=bS hm;refine zdr 12 ?_;refine zq7 ?_;refine Aw rfl rfl rfl (zs2 D.i64) ?_;refine zcd (Ec hx6) ?_;refine Aw rfl rfl rfl zb75a ?_;refine Aw rfl rfl rfl (Ax (xs:=[_]) (f:=BSq.d) (l:=[(⟨q1.left,x10⟩:BSq)]) runUnderlying112 sizeOf75 zeroValue75 rfl rfl rfl (fun _=>⟨rfl,rfl,rfl⟩) rfl) ?_;refine Aw rfl rfl rfl E0 ?_;refine Cu ?_;refine zst 2 ?_;refine Ag (ms':=[box b3 44 [_,_,_,_],box b2 44 [_,_,_,_],box b1 117 [_,_]]) rfl ?_;refine zq2 ?_
    cases hm;exact Ae zr2
   ·refine zq2 ?_
    obtain ⟨x11,hx7,hm⟩:=bS hm;obtain ⟨x12,hx8,hm⟩:=bS hm;refine zdr 18 ?_;refine zq5 ?_;refine Aw rfl rfl rfl (zs1 D.i64) ?_;refine zcd (Ec hx7) ?_;refine Aw rfl rfl rfl zb75a ?_;refine zq5 ?_;refine Aw rfl rfl rfl (zs1 D.i64) ?_;refine zcd (Ec hx8) ?_;refine Aw rfl rfl rfl zb75a ?_;refine Aw rfl rfl rfl (Ax (xs:=[_,_]) (f:=BSq.d) (l:=[(⟨q1.left,x11⟩:BSq),(⟨q1.left,x12⟩:BSq)]) runUnderlying112 sizeOf75 zeroValue75 rfl rfl rfl (fun _=>⟨rfl,rfl,rfl⟩) rfl) ?_;refine Aw rfl rfl rfl E0 ?_;refine Cu ?_;refine zst 2 ?_;refine Ag (ms':=[box b3 44 [_,_,_,_],box b2 44 [_,_,_,_],box b1 117 [_,_]]) rfl ?_;refine zq2 ?_
    cases hm;exact Ae zr2
  ·refine zq3 ?_
   refine Af rfl rfl rfl E0 ?_;refine zst 2 ?_;refine Ag (ms':=[box b3 44 [_,_,_,_],box b2 44 [_,_,_,_],box b1 117 [_,_]]) rfl ?_;refine zq2 ?_
   cases hm;exact Ae zr2
def B2 (i1:Int) (c1:ATy) (z1:(List (Int×Bool))):Option Bool:=
 (idx c1.l i1).bind fun x1 =>
 some ((decide (x1.kind=11))&&((mget z1 x1.a).getD (false:Bool)))
theorem G1 {i1:Int} {c1:ATy} {z1:(List (Int×Bool))} {r_1:Bool} {b_q2:Nat} (hm:B2 i1 c1 z1=some r_1):FnT Tryz.prog 151 [.i64 i1,.ref (.ref (ATy.d c1)),.ref (.v (.map (some b_q2)))] [mp b_q2 kI64 D.bool z1] (.bool r_1):=by
 unfold B2 at hm;refine Ad func151 rfl ntmps151 rfl fun H0 fr w0=>?_;refine zq7 ?_;refine Af rfl rfl rfl (Ds rfl) ?_;refine zq4 ?_;obtain ⟨x1,hx1,hm⟩:=bS hm;refine zq2 ?_;refine Dq fun b1=>?_;refine zst 0 ?_;refine Ag (ms':=[box b1 44 [_,_,_,_],_]) rfl ?_;refine zq7 ?_
 apply Bo [] 5 22 (t:=17) trivial rfl
 ·intro hg_1 hk1
  refine zq3 ?_;refine gWp rfl rfl rfl hg_1 rfl rfl (Fq (z0:=(false:Bool)) 1 runUnderlying150 (ND underlying3) zeroValue4 (fun _=>conc_v.2 rfl) rfl rfl rfl) ?_;refine zq1 ?_;exact zgm hk1
 ·intro hg_1 hk1
  refine zq5 ?_;exact zgm hk1
 refine zq2 ?_;refine Ae ?_;exact retK (AC (ms':=[_]) (drop:=[_]) rfl (Bh rfl) (permA 1 rfl permN)) ⟨congrArg (fun (p:Bool)=>(.bool p:D)) (Ac hm),rfl⟩
def AX (s1:ATy) (q1:BSq):Nat->(Int×(List (Int×Bool)))->Option (List (Int×Bool))
 | 0,_=>none
 | n+1,(x1,mm2) =>
  bif (decide (x1<(q1.left.length:Int))) then
   (idx q1.left x1).bind fun x2 =>
   (idx s1.l x2).bind fun x3 =>
   bif (decide (x3.kind=11)) then
    grd (InR (x1+1)) <|
    AX s1 q1 n ((x1+1),(mset mm2 x3.a true))
   else
    grd (InR (x1+1)) <|
    AX s1 q1 n ((x1+1),mm2)
  else
   some mm2
def BN (s1:ATy) (q1:BSq):Option Bool:=
 (AX s1 q1 FU (0,([]:List (Int×Bool))):Option (List (Int×Bool))).bind fun mm1 =>
 (Jq q1.right (fun y0=>B2 y0 s1 mm1)).bind fun x4 =>
 some x4
theorem HH {s1:ATy} {q1:BSq} {r_1:Bool} (hm:BN s1 q1=some r_1):Fn0 Tryz.prog 132 [.ref (ATy.d s1),BSq.d q1] (.bool r_1):=by
 unfold BN at hm;refine Ad func132 rfl ntmps132 rfl fun H0 fr w0=>?_;refine zq8 ?_;refine Av rfl rfl rfl (Iv (fk:=kI64) (fv:=D.bool)) ?_;rintro _ _ ⟨b1,rfl,rfl⟩;refine Ti fun b2=>?_;refine zst 0 ?_;refine Ag (ms':=[box b2 150 [_],_]) rfl ?_;refine Al (DN (d := .v (.map (some b1))) 0 5 rfl rfl rfl rfl) ?_;refine zq9 ?_;obtain ⟨o_1,hj1,hm1⟩:=bS hm;refine Ak [(2,_),(3,_),(5,_)] [] (fun (st:(List (Int×Bool))) (hid:Unit)=>match st,hid with | mm1,_=>[]) (fun F (st:(List (Int×Bool))) (hid:Unit)=>match st,hid with | mm1,_=>[mp b1 kI64 D.bool mm1]) (fun st=>st=o_1) ⟨rfl,rfl,rfl,trivial⟩ trivial ?_ ?_
 ·refine Aj ?_
  refine Ai [(2,_),(3,_),(5,_),(11,_),(12,_)] [] (fun (st:(Int×(List (Int×Bool)))) (hid:Unit)=>match st,hid with | (x1,mm2),_=>[(13,.i64 x1)]) (fun F (st:(Int×(List (Int×Bool)))) (hid:Unit)=>match st,hid with | (x1,mm2),_=>[mp b1 kI64 D.bool mm2]) () hj1 (fun _=>rfl) ⟨rfl,rfl,rfl,rfl,rfl,trivial⟩ trivial ⟨rfl,trivial⟩ rfl ?_;rintro n ⟨x1,mm2⟩ _ hj1;rw [AX] at hj1;refine Ar (L':=[(13,.i64 x1),(2,_),(3,_),(5,_),(11,_),(12,_)]) (ms':=[mp b1 kI64 D.bool mm2]) rfl rfl ?_;refine zq5 ?_;refine zcn hj1 (fun hc1 hj1=>?_) (fun hc1 hj1=>?_)
  ·refine zq5 ?_
   obtain ⟨x2,hx1,hj1⟩:=bS hj1;refine zq7 ?_;refine Af rfl rfl rfl (Ds rfl) ?_;refine zq4 ?_;obtain ⟨x3,hx2,hj1⟩:=bS hj1;refine zq2 ?_;refine Dq fun b3=>?_;refine zst 0 ?_;refine Ag (ms':=[box b3 44 [_,_,_,_],_]) rfl ?_;refine zq7 ?_;refine zcn hj1 (fun hc2 hj1=>?_) (fun hc2 hj1=>?_)
   ·refine zq4 ?_
    refine Gk rfl rfl (Gt (v:=true) 1 runUnderlying150 (ND underlying3) rfl rfl rfl rfl) ?_;rintro _ _ rfl;refine zq2 ?_;obtain ⟨hg3,hj1⟩:=Aa hj1;refine zq3 ?_;exact ⟨_,(),hj1,⟨rfl,trivial⟩,⟨rfl,rfl,rfl,rfl,rfl,trivial⟩,[_],rfl⟩
   ·refine zq2 ?_
    obtain ⟨hg4,hj1⟩:=Aa hj1;refine zq3 ?_;exact ⟨_,(),hj1,⟨rfl,trivial⟩,⟨rfl,rfl,rfl,rfl,rfl,trivial⟩,[_],rfl⟩
  ·refine Ao ?_
   exact ⟨_,(),Ac hj1,trivial,⟨rfl,rfl,rfl,trivial⟩,[],rfl⟩
 ·rintro mm1 _ hst
  subst hst;refine An (L':=[(2,_),(3,_),(5,_)]) (ms':=[mp b1 kI64 D.bool mm1]) rfl rfl ?_;refine zq4 ?_;refine Af rfl rfl rfl (BC rfl rfl) ?_;obtain ⟨x4,hx5,hm1⟩:=bS hm1;refine Af rfl rfl rfl (Gd [0] call54 rfl rfl (C3 rfl DG) (Sm (fun _ _ h=>Em call151 (G1 h)) hx5)) ?_;refine zq2 ?_
  cases hm1;exact Ae zr1
def A0 (s1:ATy) (l1:(List Int)):Nat->(Int×Int)->Option (Out (Int×Bool) Int)
 | 0,_=>none
 | n+1,(kind2,x1) =>
  bif (decide (x1<(l1.length:Int))) then
   (idx l1 x1).bind fun x2 =>
   (A8 s1 x2).bind fun x3 =>
   bif ((decide (x3=11))||(decide (x3=1))) then
    grd (InR (x1+1)) <|
    A0 s1 l1 n (kind2,(x1+1))
   else
    bif ((!decide (kind2=0))&&(!decide (x3=kind2))) then
     some (Out.ret (kind2,true))
    else
     grd (InR (x1+1)) <|
     A0 s1 l1 n (x3,(x1+1))
  else
   some (Out.go (kind2))
def BZ (s1:ATy) (l1:(List Int)):Option (Int×Bool):=
 ((A0 s1 l1 FU (0,0):Option (Out (Int×Bool) Int))).bind (fun oo=>oo.on (fun r1=>some r1) (fun kind1 =>
 some (kind1,false)))
theorem Ig {s1:ATy} {l1:(List Int)} {r_1:Int} {r_2:Bool} (hm:BZ s1 l1=some (r_1,r_2)):Fn0 Tryz.prog 152 [.ref (ATy.d s1),.list 1 D.i64 l1] (.tup [.i64 r_1,.bool r_2]):=by
 unfold BZ at hm;refine Ad func152 rfl ntmps152 rfl fun H0 fr w0=>?_;refine zq12 ?_;obtain ⟨o_1,hj1,hm1⟩:=bS hm;refine Ak [] [] (fun (st:Int) (hid:Unit)=>match st,hid with | kind1,_=>[(4,.i64 kind1)]) (fun F (st:Int) (hid:Unit)=>match st,hid with | kind1,_=>[]) (fun st=>Out.go (st)=o_1) trivial trivial ?_ ?_
 ·refine Aj ?_
  refine Ai [(0,_),(9,_),(10,_)] [] (fun (st:(Int×Int)) (hid:Unit)=>match st,hid with | (kind2,x1),_=>[(4,.i64 kind2),(11,.i64 x1)]) (fun F (st:(Int×Int)) (hid:Unit)=>match st,hid with | (kind2,x1),_=>[]) () hj1 (fun _=>rfl) ⟨rfl,rfl,rfl,trivial⟩ trivial ⟨rfl,rfl,trivial⟩ rfl ?_;rintro n ⟨kind2,x1⟩ _ hj1;rw [A0] at hj1;refine Ar (L':=[(4,.i64 kind2),(11,.i64 x1),(0,_),(9,_),(10,_)]) (ms':=[]) rfl rfl ?_;refine zq5 ?_;refine zcn hj1 (fun hc1 hj1=>?_) (fun hc1 hj1=>?_)
  ·refine zq5 ?_
   obtain ⟨x2,hx1,hj1⟩:=bS hj1;refine zq8 ?_;obtain ⟨x3,hx2,hj1⟩:=bS hj1;refine zc0 (C4 hx2) ?_;refine zq8 ?_
   apply Bt [(0,_),(4,_),(8,_),(9,_),(10,_),(11,_)] 3 23 (t:=20) ⟨rfl,rfl,rfl,rfl,rfl,rfl,trivial⟩ rfl
   ·intro hg_1 hk1
    refine zq3 ?_;exact zgm hk1
   ·intro hg_1 hk1
    refine zq3 ?_;exact zgm hk1
   refine gNl ?_;refine zcn hj1 (fun hc2 hj1=>?_) (fun hc2 hj1=>?_)
   ·refine Ao ?_
    refine gRg ?_;obtain ⟨hg3,hj1⟩:=Aa hj1;refine zq3 ?_;exact ⟨_,(),hj1,⟨rfl,rfl,trivial⟩,⟨rfl,rfl,rfl,trivial⟩,[],rfl⟩
   ·refine zq7 ?_
    apply Bo [(0,_),(4,_),(8,_),(9,_),(10,_),(11,_)] 4 30 (t:=26) ⟨rfl,rfl,rfl,rfl,rfl,rfl,trivial⟩ rfl
    ·intro hg_2 hk2
     refine zq4 ?_;exact zgm hk2
    ·intro hg_2 hk2
     refine zq4 ?_;exact zgm hk2
    refine gNl ?_;refine zcn hj1 (fun hc3 hj1=>?_) (fun hc3 hj1=>?_)
    ·refine zq6 ?_
     refine Ae ?_;obtain rfl:=Ac hj1
     replace hm1:=BJ hm1
     cases hm1;exact zr2
    ·refine zq6 ?_
     obtain ⟨hg4,hj1⟩:=Aa hj1;refine zq3 ?_;exact ⟨_,(),hj1,⟨rfl,rfl,trivial⟩,⟨rfl,rfl,rfl,trivial⟩,[],rfl⟩
  ·refine Ao ?_
   exact ⟨_,(),Ac hj1,⟨rfl,trivial⟩,trivial,[],rfl⟩
 ·rintro kind1 _ hst
  subst hst
  replace hm1:=Dh hm1
  refine An (L':=[(4,.i64 kind1)]) (ms':=[]) rfl rfl ?_;refine zq6 ?_
  cases hm1;exact Ae zr2
def A6 (s1:ATy) (q1:BSq):Nat->(Int×(List Int)×(List Int)×(List Int)×(List Int))->Option ((List Int)×(List Int)×(List Int)×(List Int))
 | 0,_=>none
 | n+1,(x1,l5,l6,l7,l8) =>
  bif (decide (x1<(q1.left.length:Int))) then
   (idx q1.left x1).bind fun x2 =>
   (idx s1.l x2).bind fun x3 =>
   grd ((l7.length+([x3.a]:List _).length)*8<=140737488355328) <|
   (idx s1.l x2).bind fun x4 =>
   grd ((l6.length+([x4.b]:List _).length)*8<=140737488355328) <|
   grd (InR (x1+1)) <|
   A6 s1 q1 n ((x1+1),l5,(l6++[x4.b]),(l7++[x3.a]),l8)
  else
   some (l5,l6,l7,l8)
def A5 (s1:ATy) (q1:BSq):Nat->(Int×(List Int)×(List Int)×(List Int)×(List Int))->Option ((List Int)×(List Int)×(List Int)×(List Int))
 | 0,_=>none
 | n+1,(x5,l13,l14,l15,l16) =>
  bif (decide (x5<(q1.right.length:Int))) then
   (idx q1.right x5).bind fun x6 =>
   (idx s1.l x6).bind fun x7 =>
   grd ((l16.length+([x7.a]:List _).length)*8<=140737488355328) <|
   (idx s1.l x6).bind fun x8 =>
   grd ((l13.length+([x8.b]:List _).length)*8<=140737488355328) <|
   grd (InR (x5+1)) <|
   A5 s1 q1 n ((x5+1),(l13++[x8.b]),l14,l15,(l16++[x7.a]))
  else
   some (l13,l14,l15,l16)
def Bq (s1:ATy) (q1:BSq):Option BAn:=
 bif (decide ((q1.right.length:Int)=0)) then
  some (⟨([]:List BSq),true⟩:BAn)
 else
  (A6 s1 q1 FU (0,[],[],[],[]):Option ((List Int)×(List Int)×(List Int)×(List Int))).bind fun (l1,l2,l3,l4) =>
  (A5 s1 q1 FU (0,l1,l2,l3,l4):Option ((List Int)×(List Int)×(List Int)×(List Int))).bind fun (l9,l10,l11,l12) =>
  (AF l12).bind fun x9 =>
  (AF l11).bind fun x10 =>
  (AF l10).bind fun x11 =>
  (AF l9).bind fun x12 =>
  some (⟨[(⟨x9,x10⟩:BSq),(⟨x11,x12⟩:BSq)],false⟩:BAn)
theorem HB {s1:ATy} {q1:BSq} {r_1:BAn} (hm:Bq s1 q1=some r_1):Fn0 Tryz.prog 155 [.ref (ATy.d s1),BSq.d q1] (BAn.d r_1):=by
 unfold Bq at hm;refine Ad func155 rfl ntmps155 rfl fun H0 fr w0=>?_;refine zq3 ?_;refine JR fun b1=>?_;refine zq9 ?_;refine zcn hm (fun hc1 hm=>?_) (fun hc1 hm=>?_)
 ·refine zq2 ?_
  refine Af rfl rfl rfl E0 ?_;refine zst 0 ?_;refine Ag (ms':=[box b1 117 [_,_]]) rfl ?_;refine gNl ?_
  cases hm;exact Ae zr1
 ·refine zq3 ?_
  refine Rn fun b2=>?_;refine Al (AB (T:=3) (sz:=1) (f:=D.i64)) ?_;refine Al (AB (T:=3) (sz:=1) (f:=D.i64)) ?_;refine Rn fun b3=>?_;refine Al (AB (T:=3) (sz:=1) (f:=D.i64)) ?_;refine Al (AB (T:=3) (sz:=1) (f:=D.i64)) ?_;refine zq9 ?_;obtain ⟨o_1,hj1,hm1⟩:=bS hm;refine Ak [(0,_),(3,_),(4,_),(5,_),(6,_)] [(6,_)] (fun (st:((List Int)×(List Int)×(List Int)×(List Int))) (hid:(Option Addr×Nat)×(Option Addr×Nat)×(Option Addr×Nat)×(Option Addr×Nat))=>match st,hid with | (l1,l2,l3,l4),((a_r4,cap_r4),(a_r3,cap_r3),(a_r2,cap_r2),(a_r1,cap_r1))=>[]) (fun F (st:((List Int)×(List Int)×(List Int)×(List Int))) (hid:(Option Addr×Nat)×(Option Addr×Nat)×(Option Addr×Nat)×(Option Addr×Nat))=>match st,hid with | (l1,l2,l3,l4),((a_r4,cap_r4),(a_r3,cap_r3),(a_r2,cap_r2),(a_r1,cap_r1))=>[row a_r4 cap_r4 3 1 D.i64 l1,row a_r3 cap_r3 3 1 D.i64 l2,box b3 75 [.v (.slice a_r3 l2.length cap_r3),.v (.slice a_r4 l1.length cap_r4)],row a_r2 cap_r2 3 1 D.i64 l3,row a_r1 cap_r1 3 1 D.i64 l4,box b2 75 [.v (.slice a_r1 l4.length cap_r1),.v (.slice a_r2 l3.length cap_r2)],(nthF F 0)]) (fun st=>st=o_1) ⟨rfl,rfl,rfl,rfl,rfl,trivial⟩ ⟨rfl,trivial⟩ ?_ ?_
  ·refine Aj ?_
   refine Ai [(0,_),(3,_),(4,_),(5,_),(6,_),(17,_),(18,_)] [(6,_)] (fun (st:(Int×(List Int)×(List Int)×(List Int)×(List Int))) (hid:(Option Addr×Nat)×(Option Addr×Nat)×(Option Addr×Nat)×(Option Addr×Nat))=>match st,hid with | (x1,l5,l6,l7,l8),((a_r4,cap_r4),(a_r3,cap_r3),(a_r2,cap_r2),(a_r1,cap_r1))=>[(19,.i64 x1)]) (fun F (st:(Int×(List Int)×(List Int)×(List Int)×(List Int))) (hid:(Option Addr×Nat)×(Option Addr×Nat)×(Option Addr×Nat)×(Option Addr×Nat))=>match st,hid with | (x1,l5,l6,l7,l8),((a_r4,cap_r4),(a_r3,cap_r3),(a_r2,cap_r2),(a_r1,cap_r1))=>[row a_r4 cap_r4 3 1 D.i64 l5,row a_r3 cap_r3 3 1 D.i64 l6,box b3 75 [.v (.slice a_r3 l6.length cap_r3),.v (.slice a_r4 l5.length cap_r4)],row a_r2 cap_r2 3 1 D.i64 l7,row a_r1 cap_r1 3 1 D.i64 l8,box b2 75 [.v (.slice a_r1 l8.length cap_r1),.v (.slice a_r2 l7.length cap_r2)],(nthF F 0)]) ((_,_),(_,_),(_,_),(_,_)) hj1 (fun _=>rfl) ⟨rfl,rfl,rfl,rfl,rfl,rfl,rfl,trivial⟩ ⟨rfl,trivial⟩ ⟨rfl,trivial⟩ rfl ?_;rintro n ⟨x1,l5,l6,l7,l8⟩ ⟨⟨a_r4,cap_r4⟩,⟨a_r3,cap_r3⟩,⟨a_r2,cap_r2⟩,⟨a_r1,cap_r1⟩⟩ hj1;rw [A6] at hj1;refine Ar (L':=[(19,.i64 x1),(0,_),(3,_),(4,_),(5,_),(6,_),(17,_),(18,_)]) (ms':=[row a_r4 cap_r4 3 1 D.i64 l5,row a_r3 cap_r3 3 1 D.i64 l6,box b3 75 [.v (.slice a_r3 l6.length cap_r3),.v (.slice a_r4 l5.length cap_r4)],row a_r2 cap_r2 3 1 D.i64 l7,row a_r1 cap_r1 3 1 D.i64 l8,box b2 75 [.v (.slice a_r1 l8.length cap_r1),.v (.slice a_r2 l7.length cap_r2)],_]) rfl rfl ?_;refine zq5 ?_;refine zcn hj1 (fun hc2 hj1=>?_) (fun hc2 hj1=>?_)
   ·refine zq5 ?_
    obtain ⟨x2,hx1,hj1⟩:=bS hj1;refine Af rfl rfl rfl (oIm runUnderlying25 sizeOf3 rfl rfl hx1) ?_;refine zq3 ?_;obtain ⟨x3,hx2,hj1⟩:=bS hj1;obtain ⟨hg3,hj1⟩:=Aa hj1;obtain ⟨x4,hx4,hj1⟩:=bS hj1;obtain ⟨hg5,hj1⟩:=Aa hj1;refine EZ 3 [12,25,27,29] [13,14,15,16,17,18,19,20,21,22,23,24,26,28] [14] (by decide +kernel) (by decide +kernel) AA (by decide +kernel) (by decide +kernel) rfl ?_;refine zq3 ?_;refine CL rfl rfl rfl rfl rfl rfl (Ds rfl) ?_;refine zq4 ?_;refine CL rfl rfl rfl rfl rfl rfl (oIm runUnderlying22 sizeOf44 rfl rfl hx2) ?_;refine zq2 ?_;refine CL rfl rfl rfl rfl rfl rfl (zs1 D.i64) ?_;refine Cs rfl ?_;refine zq1 ?_;refine Jl rfl rfl rfl rfl rfl (oLb 2 isAgg25 rfl rfl rfl rfl) ?_;refine zq1 ?_;refine CL rfl rfl rfl rfl rfl rfl (Ds rfl) ?_;refine zq4 ?_;refine CL rfl rfl rfl rfl rfl rfl (oIm runUnderlying22 sizeOf44 rfl rfl hx4) ?_;refine zq2 ?_;refine CL rfl rfl rfl rfl rfl rfl (zs1 D.i64) ?_;refine Cs rfl ?_;refine zq1 ?_;refine Cs rfl ?_;refine zq1 ?_;refine Cs rfl ?_;refine Hj ?_;refine Ct rfl rfl rfl rfl (Bw (a:=_) 3 underlying25 type3 rfl rfl rfl rfl rfl rfl rfl (fun _=>rfl) (fun _=>rfl) hg3 (A2 hg3 rfl)) ?_;rintro _ _ ⟨a_r2,cap_r2,rfl,rfl⟩;refine ⟨fun _=>⟨trivial,oLb 2 isAgg25 rfl rfl rfl rfl⟩,?_⟩;refine Ct rfl rfl rfl rfl (Bw (a:=_) 1 underlying25 type3 rfl rfl rfl rfl rfl rfl rfl (fun _=>rfl) (fun _=>rfl) hg5 (A2 hg5 rfl)) ?_;rintro _ _ ⟨a_r3,cap_r3,rfl,rfl⟩;refine ⟨fun hc=>absurd hc (by decide),?_⟩;refine HS rfl rfl rfl (oSb 5 sizeOf25 rfl rfl rfl rfl rfl rfl rfl rfl (nB rfl)) ?_;rintro _ _ rfl;refine ⟨fun hc=>absurd hc (by decide),?_⟩;refine HS rfl rfl rfl (oSb 2 sizeOf25 rfl rfl rfl rfl rfl rfl rfl rfl (nB rfl)) ?_;rintro _ _ rfl;refine ⟨fun hc=>absurd hc (by decide),?_⟩;refine Ge ?_;refine gRg ?_;obtain ⟨hg6,hj1⟩:=Aa hj1;refine zq3 ?_;exact ⟨_,((_,_),(_,_),(_,_),(_,_)),hj1,⟨rfl,trivial⟩,⟨rfl,rfl,rfl,rfl,rfl,rfl,rfl,trivial⟩,[],rfl⟩
   ·refine Ao ?_
    exact ⟨_,((_,_),(_,_),(_,_),(_,_)),Ac hj1,trivial,⟨rfl,rfl,rfl,rfl,rfl,trivial⟩,[],rfl⟩
  ·rintro ⟨l1,l2,l3,l4⟩ ⟨⟨a_r4,cap_r4⟩,⟨a_r3,cap_r3⟩,⟨a_r2,cap_r2⟩,⟨a_r1,cap_r1⟩⟩ hst
   subst hst;refine An (L':=[(0,_),(3,_),(4,_),(5,_),(6,_)]) (ms':=[row a_r4 cap_r4 3 1 D.i64 l1,row a_r3 cap_r3 3 1 D.i64 l2,box b3 75 [.v (.slice a_r3 l2.length cap_r3),.v (.slice a_r4 l1.length cap_r4)],row a_r2 cap_r2 3 1 D.i64 l3,row a_r1 cap_r1 3 1 D.i64 l4,box b2 75 [.v (.slice a_r1 l4.length cap_r1),.v (.slice a_r2 l3.length cap_r2)],_]) rfl rfl ?_;refine zq8 ?_;obtain ⟨o_2,hj2,hm2⟩:=bS hm1;refine Ak [(4,_),(5,_),(6,_)] [(6,_)] (fun (st:((List Int)×(List Int)×(List Int)×(List Int))) (hid:(Option Addr×Nat)×(Option Addr×Nat)×(Option Addr×Nat)×(Option Addr×Nat))=>match st,hid with | (l9,l10,l11,l12),((a_r4,cap_r4),(a_r3,cap_r3),(a_r2,cap_r2),(a_r1,cap_r1))=>[]) (fun F (st:((List Int)×(List Int)×(List Int)×(List Int))) (hid:(Option Addr×Nat)×(Option Addr×Nat)×(Option Addr×Nat)×(Option Addr×Nat))=>match st,hid with | (l9,l10,l11,l12),((a_r4,cap_r4),(a_r3,cap_r3),(a_r2,cap_r2),(a_r1,cap_r1))=>[row a_r4 cap_r4 3 1 D.i64 l9,row a_r3 cap_r3 3 1 D.i64 l10,box b3 75 [.v (.slice a_r3 l10.length cap_r3),.v (.slice a_r4 l9.length cap_r4)],row a_r2 cap_r2 3 1 D.i64 l11,row a_r1 cap_r1 3 1 D.i64 l12,box b2 75 [.v (.slice a_r1 l12.length cap_r1),.v (.slice a_r2 l11.length cap_r2)],(nthF F 0)]) (fun st=>st=o_2) ⟨rfl,rfl,rfl,trivial⟩ ⟨rfl,trivial⟩ ?_ ?_
   ·refine Aj ?_
    refine Ai [(0,_),(4,_),(5,_),(6,_),(53,_),(54,_)] [(6,_)] (fun (st:(Int×(List Int)×(List Int)×(List Int)×(List Int))) (hid:(Option Addr×Nat)×(Option Addr×Nat)×(Option Addr×Nat)×(Option Addr×Nat))=>match st,hid with | (x5,l13,l14,l15,l16),((a_r4,cap_r4),(a_r3,cap_r3),(a_r2,cap_r2),(a_r1,cap_r1))=>[(55,.i64 x5)]) (fun F (st:(Int×(List Int)×(List Int)×(List Int)×(List Int))) (hid:(Option Addr×Nat)×(Option Addr×Nat)×(Option Addr×Nat)×(Option Addr×Nat))=>match st,hid with | (x5,l13,l14,l15,l16),((a_r4,cap_r4),(a_r3,cap_r3),(a_r2,cap_r2),(a_r1,cap_r1))=>[row a_r4 cap_r4 3 1 D.i64 l13,row a_r3 cap_r3 3 1 D.i64 l14,box b3 75 [.v (.slice a_r3 l14.length cap_r3),.v (.slice a_r4 l13.length cap_r4)],row a_r2 cap_r2 3 1 D.i64 l15,row a_r1 cap_r1 3 1 D.i64 l16,box b2 75 [.v (.slice a_r1 l16.length cap_r1),.v (.slice a_r2 l15.length cap_r2)],(nthF F 0)]) ((_,_),(_,_),(_,_),(_,_)) hj2 (fun _=>rfl) ⟨rfl,rfl,rfl,rfl,rfl,rfl,trivial⟩ ⟨rfl,trivial⟩ ⟨rfl,trivial⟩ rfl ?_;rintro n ⟨x5,l13,l14,l15,l16⟩ ⟨⟨a_r4,cap_r4⟩,⟨a_r3,cap_r3⟩,⟨a_r2,cap_r2⟩,⟨a_r1,cap_r1⟩⟩ hj2;rw [A5] at hj2;refine Ar (L':=[(55,.i64 x5),(0,_),(4,_),(5,_),(6,_),(53,_),(54,_)]) (ms':=[row a_r4 cap_r4 3 1 D.i64 l13,row a_r3 cap_r3 3 1 D.i64 l14,box b3 75 [.v (.slice a_r3 l14.length cap_r3),.v (.slice a_r4 l13.length cap_r4)],row a_r2 cap_r2 3 1 D.i64 l15,row a_r1 cap_r1 3 1 D.i64 l16,box b2 75 [.v (.slice a_r1 l16.length cap_r1),.v (.slice a_r2 l15.length cap_r2)],_]) rfl rfl ?_;refine zq5 ?_;refine zcn hj2 (fun hc3 hj2=>?_) (fun hc3 hj2=>?_)
    ·refine zq5 ?_
     obtain ⟨x6,hx7,hj2⟩:=bS hj2;refine Af rfl rfl rfl (oIm runUnderlying25 sizeOf3 rfl rfl hx7) ?_;refine zq3 ?_;obtain ⟨x7,hx8,hj2⟩:=bS hj2;obtain ⟨hg9,hj2⟩:=Aa hj2;obtain ⟨x8,hx10,hj2⟩:=bS hj2;obtain ⟨hg11,hj2⟩:=Aa hj2;refine EZ 3 [12,25,27,29] [13,14,15,16,17,18,19,20,21,22,23,24,26,28] [14] (by decide +kernel) (by decide +kernel) AA (by decide +kernel) (by decide +kernel) rfl ?_;refine zq3 ?_;refine CL rfl rfl rfl rfl rfl rfl (Ds rfl) ?_;refine zq4 ?_;refine CL rfl rfl rfl rfl rfl rfl (oIm runUnderlying22 sizeOf44 rfl rfl hx8) ?_;refine zq2 ?_;refine CL rfl rfl rfl rfl rfl rfl (zs1 D.i64) ?_;refine Cs rfl ?_;refine zq1 ?_;refine Jl rfl rfl rfl rfl rfl (oLb 2 isAgg25 rfl rfl rfl rfl) ?_;refine zq1 ?_;refine CL rfl rfl rfl rfl rfl rfl (Ds rfl) ?_;refine zq4 ?_;refine CL rfl rfl rfl rfl rfl rfl (oIm runUnderlying22 sizeOf44 rfl rfl hx10) ?_;refine zq2 ?_;refine CL rfl rfl rfl rfl rfl rfl (zs1 D.i64) ?_;refine Cs rfl ?_;refine zq1 ?_;refine Cs rfl ?_;refine zq1 ?_;refine Cs rfl ?_;refine Hj ?_;refine Ct rfl rfl rfl rfl (Bw (a:=_) 4 underlying25 type3 rfl rfl rfl rfl rfl rfl rfl (fun _=>rfl) (fun _=>rfl) hg9 (A2 hg9 rfl)) ?_;rintro _ _ ⟨a_r1,cap_r1,rfl,rfl⟩;refine ⟨fun _=>⟨trivial,oLb 2 isAgg25 rfl rfl rfl rfl⟩,?_⟩;refine Ct rfl rfl rfl rfl (Bw (a:=_) 0 underlying25 type3 rfl rfl rfl rfl rfl rfl rfl (fun _=>rfl) (fun _=>rfl) hg11 (A2 hg11 rfl)) ?_;rintro _ _ ⟨a_r4,cap_r4,rfl,rfl⟩;refine ⟨fun hc=>absurd hc (by decide),?_⟩;refine HS rfl rfl rfl (oSb 5 sizeOf25 rfl rfl rfl rfl rfl rfl rfl rfl (nB rfl)) ?_;rintro _ _ rfl;refine ⟨fun hc=>absurd hc (by decide),?_⟩;refine HS rfl rfl rfl (oSb 2 sizeOf25 rfl rfl rfl rfl rfl rfl rfl rfl (nB rfl)) ?_;rintro _ _ rfl;refine ⟨fun hc=>absurd hc (by decide),?_⟩;refine Ge ?_;refine gRg ?_;obtain ⟨hg12,hj2⟩:=Aa hj2;refine zq3 ?_;exact ⟨_,((_,_),(_,_),(_,_),(_,_)),hj2,⟨rfl,trivial⟩,⟨rfl,rfl,rfl,rfl,rfl,rfl,trivial⟩,[],rfl⟩
    ·refine Ao ?_
     exact ⟨_,((_,_),(_,_),(_,_),(_,_)),Ac hj2,trivial,⟨rfl,rfl,rfl,trivial⟩,[],rfl⟩
   ·rintro ⟨l9,l10,l11,l12⟩ ⟨⟨a_r4,cap_r4⟩,⟨a_r3,cap_r3⟩,⟨a_r2,cap_r2⟩,⟨a_r1,cap_r1⟩⟩ hst
    subst hst;refine An (L':=[(4,_),(5,_),(6,_)]) (ms':=[row a_r4 cap_r4 3 1 D.i64 l9,row a_r3 cap_r3 3 1 D.i64 l10,box b3 75 [.v (.slice a_r3 l10.length cap_r3),.v (.slice a_r4 l9.length cap_r4)],row a_r2 cap_r2 3 1 D.i64 l11,row a_r1 cap_r1 3 1 D.i64 l12,box b2 75 [.v (.slice a_r1 l12.length cap_r1),.v (.slice a_r2 l11.length cap_r2)],_]) rfl rfl ?_;refine AQ ?_;obtain ⟨x9,hx13,hm2⟩:=bS hm2;obtain ⟨x10,hx14,hm2⟩:=bS hm2;obtain ⟨x11,hx15,hm2⟩:=bS hm2;obtain ⟨x12,hx16,hm2⟩:=bS hm2;refine zdr 16 ?_;refine zq2 ?_;refine Aw rfl rfl rfl (.view (peekE (i:=89) 4 rfl rfl rfl) (AY call58 rfl (CF hx13))) ?_;refine zq2 ?_;refine Aw rfl rfl rfl (.view (peekE (i:=92) 3 rfl rfl rfl) (AY call58 rfl (CF hx14))) ?_;refine Aw rfl rfl rfl zb75a ?_;refine zq2 ?_;refine Aw rfl rfl rfl (.view (peekE (i:=96) 1 rfl rfl rfl) (AY call58 rfl (CF hx15))) ?_;refine zq2 ?_;refine Aw rfl rfl rfl (.view (peekE (i:=99) 0 rfl rfl rfl) (AY call58 rfl (CF hx16))) ?_;refine Aw rfl rfl rfl zb75a ?_;refine Aw rfl rfl rfl (Ax (xs:=[_,_]) (f:=BSq.d) (l:=[(⟨x9,x10⟩:BSq),(⟨x11,x12⟩:BSq)]) runUnderlying112 sizeOf75 zeroValue75 rfl rfl rfl (fun _=>⟨rfl,rfl,rfl⟩) rfl) ?_;refine Aw rfl rfl rfl E0 ?_;refine Cu ?_;refine zst 6 ?_;refine Ag (ms':=[_,_,box b3 75 [_,_],_,_,box b2 75 [_,_],box b1 117 [_,_]]) rfl ?_;refine gNl ?_
    cases hm2;exact Ae zr1
def CA (l1:(List Int)):Nat->(Int×(List (List UInt8)))->Option (List (List UInt8))
 | 0,_=>none
 | n+1,(x1,l3) =>
  bif (decide (x1<(l1.length:Int))) then
   (idx l1 x1).bind fun x2 =>
   grd (0<=x2/\x2<100) <|
   (idx l3 x1).bind fun x3 =>
   grd (InR (x1+1)) <|
   CA l1 n ((x1+1),(l3.set (x1).toNat (Lib.decDigits (x2).toNat)))
  else
   some l3
def D5 (l1:(List Int)):Option (List UInt8):=
 grd (0<=(l1.length:Int)) <|
 grd (((l1.length:Int)).toNat*16<=140737488355328) <|
 (CA l1 FU (0,(List.replicate ((l1.length:Int)).toNat (([]:List UInt8):(List UInt8)))):Option (List (List UInt8))).bind fun l2 =>
 grd (l2.length<=140737488355328) <|
 grd ((Lib.join l2 ([32]:List UInt8)).length<=140737488355328) <|
 some (Lib.join l2 ([32]:List UInt8))
theorem JT {l1:(List Int)} {r_1:(List UInt8)} (hm:D5 l1=some r_1):Fn0 Tryz.prog 146 [.list 1 D.i64 l1] (.str r_1):=by
 unfold D5 at hm;refine Ad func146 rfl ntmps146 rfl fun H0 fr w0=>?_;refine zq8 ?_;obtain ⟨hg1,hm⟩:=Aa hm;obtain ⟨hg2,hm⟩:=Aa hm;refine Av rfl rfl rfl (Fh (f:=D.str) (z0:=([]:List UInt8)) underlying65 type9 rfl rfl rfl (nB rfl) rfl rfl hg1 hg2 (nB rfl)) ?_;rintro _ _ ⟨a_r1,m_r1,cap_r1,rfl,rfl⟩;refine zq9 ?_;obtain ⟨o_1,hj1,hm1⟩:=bS hm;refine Ak [(3,_)] [] (fun (st:(List (List UInt8))) (hid:Unit)=>match st,hid with | l2,_=>[]) (fun F (st:(List (List UInt8))) (hid:Unit)=>match st,hid with | l2,_=>[arr a_r1 m_r1 cap_r1 9 1 D.str l2]) (fun st=>st=o_1) ⟨rfl,trivial⟩ trivial ?_ ?_
 ·refine Aj ?_
  refine Ai [(3,_),(9,_),(10,_)] [] (fun (st:(Int×(List (List UInt8)))) (hid:Unit)=>match st,hid with | (x1,l3),_=>[(11,.i64 x1)]) (fun F (st:(Int×(List (List UInt8)))) (hid:Unit)=>match st,hid with | (x1,l3),_=>[arr a_r1 m_r1 cap_r1 9 1 D.str l3]) () hj1 (fun _=>rfl) ⟨rfl,rfl,rfl,trivial⟩ trivial ⟨rfl,trivial⟩ rfl ?_;rintro n ⟨x1,l3⟩ ⟨⟩ hj1;rw [CA] at hj1;refine Ar (L':=[(11,.i64 x1),(3,_),(9,_),(10,_)]) (ms':=[arr a_r1 m_r1 cap_r1 9 1 D.str l3]) rfl rfl ?_;refine zq5 ?_;refine zcn hj1 (fun hc1 hj1=>?_) (fun hc1 hj1=>?_)
  ·refine zq6 ?_
   obtain ⟨x2,hx3,hj1⟩:=bS hj1;refine zq9 ?_;obtain ⟨hg4,hj1⟩:=Aa hj1;refine zc0 (Tt hg4) ?_;obtain ⟨x3,hx5,hj1⟩:=bS hj1;refine Af rfl rfl rfl (Ap 0 runUnderlying65 sizeOf9 rfl rfl rfl hx5) ?_;refine Gk rfl rfl (Bx (off:=0) (z':=(Lib.decDigits (x2).toNat)) 0 sizeOf9 rfl rfl (Am hx5).2 rfl rfl rfl rfl rfl rfl (nB rfl) rfl rfl) ?_;rintro _ _ rfl;refine Ag (ms':=[_]) rfl ?_;refine zq2 ?_;obtain ⟨hg6,hj1⟩:=Aa hj1;refine zq3 ?_;exact ⟨_,(),hj1,⟨rfl,trivial⟩,⟨rfl,rfl,rfl,trivial⟩,[],rfl⟩
  ·refine Ao ?_
   exact ⟨_,(),Ac hj1,trivial,⟨rfl,trivial⟩,[],rfl⟩
 ·rintro l2 ⟨⟩ hst
  subst hst;refine An (L':=[(3,_)]) (ms':=[arr a_r1 m_r1 cap_r1 9 1 D.str l2]) rfl rfl ?_;refine zq3 ?_;refine Gu 0 rfl rfl ?_;rintro rfl;obtain ⟨hg7,hm1⟩:=Aa hm1;obtain ⟨hg8,hm1⟩:=Aa hm1;refine Af rfl rfl rfl (.view (peekE (i:=22) 0 rfl rfl rfl) (AY call175 rfl (TB (s:=([32]:List UInt8)) hg7 hg8))) ?_;refine zq2 ?_
  cases hm1;exact Ae zr1
def AD (q1:BSq):Option (List UInt8):=
 (D5 q1.left).bind fun x1 =>
 grd (x1.length+([124]:List UInt8).length<=9223372036854775807) <|
 (D5 q1.right).bind fun x2 =>
 grd ((x1++([124]:List UInt8)).length+x2.length<=9223372036854775807) <|
 some ((x1++([124]:List UInt8))++x2)
theorem IS {q1:BSq} {r_1:(List UInt8)} (hm:AD q1=some r_1):Fn0 Tryz.prog 129 [BSq.d q1] (.str r_1):=by
 unfold AD at hm;refine Ad func129 rfl ntmps129 rfl fun H0 fr w0=>?_;refine zq6 ?_;obtain ⟨x1,hx1,hm⟩:=bS hm;obtain ⟨hg2,hm⟩:=Aa hm;obtain ⟨x2,hx3,hm⟩:=bS hm;obtain ⟨hg4,hm⟩:=Aa hm;refine zdr 9 ?_;refine zq2 ?_;refine zcd (JT hx1) ?_;refine Aw rfl rfl rfl (TJ rfl rfl hg2) ?_;refine zq2 ?_;refine zcd (JT hx3) ?_;refine Aw rfl rfl rfl (TJ rfl rfl hg4) ?_;refine zq3 ?_
 cases hm;exact Ae zr1
end Go.Proofs.YtkfnogdccpcmhaaGreatDoor
namespace Go.Proofs.YtkfnogdccpcmhaaGreatDoor
open Go.V Tryz
def kAt (t:ATy) (x:Int):Int:=match t.l[x.toNat]? with
 | some n=>n.kind
 | none=>0
def keepK (t:ATy) (k:Int) (l:List Int):List Int:=l.filter fun x => !(!decide (kAt t x=k))
section
open Go.Proofs
theorem SX {b1 o1 bk ok b2 o2 b3 o3 len cap x:Nat} {k k0:Int} {W:World} (h1:W.cell? ⟨b1,o1,none⟩=some (.pointer (some ⟨b2,o2,none⟩))) (hk:W.cell? ⟨bk,ok,none⟩=some (.int .i64 k0)) (h2:W.cell? ⟨b2,o2,none⟩=some (.slice (some ⟨b3,o3,none⟩) len cap)) (h3:W.cell? ⟨b3,o3+x*4,none⟩=some (.int .i64 k)) (hx:x<len) :
  FnGives Tryz.prog 179 #[.pointer (some ⟨b1,o1,none⟩),.pointer (some ⟨bk,ok,none⟩)] #[.int .i64 x] (.bool (!decide (k=k0))) W:=by
 have mixed:=On
 unfold FnGives
 show Calls Tryz.prog 179 #[.int .i64 x,.pointer (some ⟨b1,o1,none⟩),.pointer (some ⟨bk,ok,none⟩)] W _
 go_enter func179,ntmps179
 go_wp2
 go_region_calls
 all_goals (try go_wp2)
 all_goals go_ret
 all_goals
  refine ⟨?_,1,rfl⟩
  have e:(k != k0) = !decide (k=k0):=by by_cases h:k=k0 <;> simp [h]
  simp [Act.put,e]
theorem Ov {H:PH} {t:ATy} {k:Int} {lb:List Value} {W:World} (hs:∀ b o v,H b o=some v->W.cell? ⟨b,o,none⟩=some v) (hc:ConcL H [.ref (.ref (ATy.d t)),.ref (.i64 k)] lb) (hne:t.l≠[]) :
  ∃ b1 o1 bk ok b2 o2 b3 o3 cap,lb=[.pointer (some ⟨b1,o1,none⟩),.pointer (some ⟨bk,ok,none⟩)]/\W.cell? ⟨b1,o1,none⟩=some (.pointer (some ⟨b2,o2,none⟩))/\W.cell? ⟨bk,ok,none⟩=some (.int .i64 k)/\W.cell? ⟨b2,o2,none⟩=some (.slice (some ⟨b3,o3,none⟩) t.l.length cap) /\
   ∀ (x:Nat) n,t.l[x]? = some n->W.cell? ⟨b3,o3+x*4,none⟩=some (.int .i64 n.kind):=by
 simp only [ConcL] at hc;obtain ⟨v1,r1,rfl,h1,v2,r2,rfl,h2,rfl⟩:=hc
 have h1:=(AT (by rfl)).1 (show Conc H (.ref (.ref (ATy.d t))) v1 from h1)
 have h2:=(AT (by rfl)).1 (show Conc H (.ref (.i64 k)) v2 from h2)
 simp only [Enc,ATy.d,EncL] at h1 h2;obtain ⟨b1,o1,us,e1,⟨b2,o2,us2,e2,⟨ua,ur,eu,⟨a,cap,e3,hl1,hl2,hl3⟩,_⟩,e5⟩,e6⟩:=h1;obtain ⟨bk,ok,uk,k1,k2,k3⟩:=h2;subst k2 e2 eu e3
 rcases hl3 with h | ⟨b3,o3,rfl,hx⟩
 ·exact absurd h hne
 refine ⟨b1,o1,bk,ok,b2,o2,b3,o3,cap,by simp at e1 k1;simp [e1,k1],?_,?_,?_,fun x n hxn=>?_⟩
 ·have:=hs _ _ _ (e6 0 _ rfl);rwa [Nat.add_zero] at this
 ·have:=hs _ _ _ (k3 0 _ rfl);rwa [Nat.add_zero] at this
 ·have:=hs _ _ _ (e5 0 _ rfl);rwa [Nat.add_zero] at this
 ·obtain ⟨us,q1,q2,q3⟩:=hx x n hxn
  simp only [ANd.d,Enc,EncL] at q1;obtain ⟨p,r,rfl,rfl,_⟩:=q1
  have:=hs _ _ _ (q3 0 _ rfl)
  rwa [Nat.add_zero] at this
theorem Me {a:Option Addr} {m cap:Nat} {l:List Int} {t:ATy} {k:Int} (h:∀ x∈l,0<=x/\x<(t.l.length:Int)) :
  Go.V.Fn Tryz.prog 178 [.v (.slice a m cap),.clo (.func 179) [] [.ref (.ref (ATy.d t)),.ref (.i64 k)]] [arr a m cap 3 1 D.i64 l] (fun d ms'=>∃ m',d = .v (.slice a m' cap)/\ms'=[arr a m' cap 3 1 D.i64 (keepK t k l)]):=by
 by_cases hne:t.l=[]
 ·have hl:l=[]:=by
   cases l with
   | nil=>rfl
   | cons x l=>have:=h x (by simp);rw [hne] at this;simp at this;omega
  subst hl
  intro H fr w vs hok hargs
  simp only [ConcL] at hargs;obtain ⟨u,r,rfl,hu,u2,r2,rfl,hu2,rfl⟩:=hargs
  have hu':=conc_v.1 (show Conc H (.v (.slice a m cap)) u from hu)
  subst hu'
  have hm:0=m:=(hok.ok (arr a m cap 3 1 D.i64 []) (by simp)).1
  subst hm;refine (Fz a cap u2 w).mono ?_;rintro e w' ⟨rfl,rfl⟩;exact ⟨_,_,_,H,rfl,⟨0,rfl,rfl⟩,PH.le_refl H,hok,conc_v.2 rfl,SameOut.refl w'⟩
 ·have hpos:0<t.l.length:=List.length_pos_iff.2 hne
  letI:Inhabited (Fin t.l.length):=⟨⟨0,hpos⟩⟩
  refine Mc (n:=t.l.length) (q:=fun x => !decide (kAt t x=k)) (fun lb p blk off cap d w hp hpo hH hsz hcap=>Ic (encF t.l.length) (fun _=>rfl) p 179 lb call179 default (by intro w;rw [show encF t.l.length default = .int .i64 0 from rfl];exact zeroValue3 w) blk off cap d w hp hpo hH hsz hcap) Fz (fun x H lb W hs hc=>?_) h;obtain ⟨b1,o1,bk,ok,b2,o2,b3,o3,cap',rfl,c1,c2,c3,c4⟩:=Ov hs hc hne
  have hx:t.l[x.val]? = some t.l[x.val]:=by simp
  have hk:kAt t x.val=t.l[x.val].kind:=by unfold kAt;rw [Int.toNat_natCast,hx]
  rw [hk];exact SX c1 c2 c3 (c4 x.val _ hx) x.isLt
end
end Go.Proofs.YtkfnogdccpcmhaaGreatDoor
namespace Go.Proofs.YtkfnogdccpcmhaaGreatDoor
open Go.V Tryz
def Ex (x3:ANd):Nat->(Int×(List ((List UInt8)×(List Int))))->Option (List ((List UInt8)×(List Int)))
 | 0,_=>none
 | n+1,(x4,mm4) =>
  bif (decide (x4<(x3.l.length:Int))) then
   (idx x3.l x4).bind fun x5 =>
   grd ((((mget mm4 x5.name).getD []).length+([x5.at_]:List _).length)*8<=140737488355328) <|
   grd (InR (x4+1)) <|
   Ex x3 n ((x4+1),(mset mm4 x5.name (((mget mm4 x5.name).getD [])++[x5.at_])))
  else
   some mm4
def E5 (s1:ATy) (l1:(List Int)):Nat->(Int×(List ((List UInt8)×(List Int))))->Option (List ((List UInt8)×(List Int)))
 | 0,_=>none
 | n+1,(x1,mm2) =>
  bif (decide (x1<(l1.length:Int))) then
   (idx l1 x1).bind fun x2 =>
   (idx s1.l x2).bind fun x3 =>
   (Ex x3 FU (0,mm2):Option (List ((List UInt8)×(List Int)))).bind fun mm3 =>
   grd (InR (x1+1)) <|
   E5 s1 l1 n ((x1+1),mm3)
  else
   some mm2
def IA (s1:ATy) (l1:(List Int))  : Option (List ((List UInt8)×(List Int))):=
 (E5 s1 l1 FU (0,([]:List ((List UInt8)×(List Int)))):Option (List ((List UInt8)×(List Int)))).bind fun mm1 =>
 some mm1
theorem P0 {s1:ATy} {l1:(List Int)}  {s_1:(List ((List UInt8)×(List Int)))} (hm:IA s1 l1=some s_1):Go.V.Fn Tryz.prog 154 [.ref (ATy.d s1),.list 1 D.i64 l1] [] (fun d ms'=>∃ b_s_1,d = .v (.map (some b_s_1))/\ms'=[mp b_s_1 kStr (D.list 1 D.i64) s_1]):=by
 unfold IA at hm;refine Ad func154 rfl ntmps154 rfl fun H0 fr w0=>?_;refine zq6 ?_;refine Av rfl rfl rfl (Iv (fk:=kStr) (fv:=rawD)) ?_;rintro _ _ ⟨b1,rfl,rfl⟩;refine Al (Ny (T:=3) (sz:=1) (f:=D.i64) 0 rfl rfl) ?_;obtain ⟨q_1,hq_1⟩:∃ q:(List ((List UInt8)×(List Int×Option Addr×Nat))),q=[]:=⟨_,rfl⟩;rw [<- hq_1]
 clear hq_1
 refine zq9 ?_;obtain ⟨o_1,hj1,hm1⟩:=bS hm;refine Ak [(5,_)] [] (fun (st:(List ((List UInt8)×(List Int)))) (hid:(List ((List UInt8)×(List Int×Option Addr×Nat))))=>match st,hid with | mm1,q_1=>[]) (fun F (st:(List ((List UInt8)×(List Int)))) (hid:(List ((List UInt8)×(List Int×Option Addr×Nat))))=>match st,hid with | mm1,q_1=>[mpr b1 kStr 3 1 D.i64 mm1 q_1]) (fun st=>st=o_1) ⟨rfl,trivial⟩ trivial ?_ ?_
 ·refine Aj ?_
  refine Ai [(0,_),(5,_),(11,_),(12,_)] [] (fun (st:(Int×(List ((List UInt8)×(List Int))))) (hid:(List ((List UInt8)×(List Int×Option Addr×Nat))))=>match st,hid with | (x1,mm2),q_1=>[(13,.i64 x1)]) (fun F (st:(Int×(List ((List UInt8)×(List Int))))) (hid:(List ((List UInt8)×(List Int×Option Addr×Nat))))=>match st,hid with | (x1,mm2),q_1=>[mpr b1 kStr 3 1 D.i64 mm2 q_1]) _ hj1 (fun _=>rfl) ⟨rfl,rfl,rfl,rfl,trivial⟩ trivial ⟨rfl,trivial⟩ rfl ?_;rintro n ⟨x1,mm2⟩ q_1 hj1;rw [E5] at hj1;refine Ar (L':=[(13,.i64 x1),(0,_),(5,_),(11,_),(12,_)]) (ms':=[mpr b1 kStr 3 1 D.i64 mm2 q_1]) rfl rfl ?_;refine zq5 ?_;refine zcn hj1 (fun hc1 hj1=>?_) (fun hc1 hj1=>?_)
  ·refine zq5 ?_
   obtain ⟨x2,hx1,hj1⟩:=bS hj1;refine zq7 ?_;refine Af rfl rfl rfl (Ds rfl) ?_;refine zq4 ?_;obtain ⟨x3,hx2,hj1⟩:=bS hj1;refine zq6 ?_;obtain ⟨o_2,hj2,hm2⟩:=bS hj1;refine Ak [(0,_),(5,_),(11,_),(12,_),(13,_)] [] (fun (st:(List ((List UInt8)×(List Int)))) (hid:(List ((List UInt8)×(List Int×Option Addr×Nat))))=>match st,hid with | mm3,q_1=>[]) (fun F (st:(List ((List UInt8)×(List Int)))) (hid:(List ((List UInt8)×(List Int×Option Addr×Nat))))=>match st,hid with | mm3,q_1=>[mpr b1 kStr 3 1 D.i64 mm3 q_1]) (fun st=>st=o_2) ⟨rfl,rfl,rfl,rfl,rfl,trivial⟩ trivial ?_ ?_
   ·refine Aj ?_
    refine Ai [(0,_),(5,_),(11,_),(12,_),(13,_),(25,_),(26,_)] [] (fun (st:(Int×(List ((List UInt8)×(List Int))))) (hid:(List ((List UInt8)×(List Int×Option Addr×Nat))))=>match st,hid with | (x4,mm4),q_1=>[(27,.i64 x4)]) (fun F (st:(Int×(List ((List UInt8)×(List Int))))) (hid:(List ((List UInt8)×(List Int×Option Addr×Nat))))=>match st,hid with | (x4,mm4),q_1=>[mpr b1 kStr 3 1 D.i64 mm4 q_1]) _ hj2 (fun _=>rfl) ⟨rfl,rfl,rfl,rfl,rfl,rfl,rfl,trivial⟩ trivial ⟨rfl,trivial⟩ rfl ?_;rintro n ⟨x4,mm4⟩ q_1 hj2;rw [Ex] at hj2;refine Ar (L':=[(27,.i64 x4),(0,_),(5,_),(11,_),(12,_),(13,_),(25,_),(26,_)]) (ms':=[mpr b1 kStr 3 1 D.i64 mm4 q_1]) rfl rfl ?_;refine zq5 ?_;refine zcn hj2 (fun hc2 hj2=>?_) (fun hc2 hj2=>?_)
    ·refine zq5 ?_
     obtain ⟨x5,hx3,hj2⟩:=bS hj2;refine zq2 ?_;refine Pa fun b2=>?_;refine zst 0 ?_;refine Ag (ms':=[box b2 98 [_,_],_]) rfl ?_;refine gNl ?_;obtain ⟨hg4,hj2⟩:=Aa hj2;refine DS [6,10,11] [0,1,2,7,8,9] [2,8] AA (by decide +kernel) (by decide +kernel) rfl ?_;refine Au rfl rfl rfl rfl rfl rfl (oMv rfl) ?_;refine Au rfl rfl rfl rfl rfl rfl (oFb Ni rfl) ?_;refine MF rfl rfl rfl rfl rfl (oLb 0 isAgg9 rfl rfl rfl rfl) ?_;refine Au rfl rfl rfl rfl rfl rfl (oMv rfl) ?_;refine Au rfl rfl rfl rfl rfl rfl (oFb Ni rfl) ?_;refine Au rfl rfl rfl rfl rfl rfl (oLb 0 isAgg9 rfl rfl rfl rfl) ?_;refine DU rfl ?_;refine Au rfl rfl rfl rfl rfl rfl (oFb Ix rfl) ?_;refine MF rfl rfl rfl rfl rfl (oLb 0 isAgg3 rfl rfl rfl rfl) ?_;refine Au rfl rfl rfl rfl rfl rfl (zs1 D.i64) ?_;refine DU rfl ?_;refine DU rfl ?_;refine EQ ?_;refine GB rfl rfl rfl rfl (Nl 1 runUnderlying153 (Fw underlying9) zeroValue25 rfl rfl rfl) ?_;rintro _ _ ⟨a_r1,cap_r1,rfl,rfl⟩;refine ⟨⟨⟨trivial,oLb 1 isAgg9 rfl rfl rfl rfl⟩,oLb 1 isAgg3 rfl rfl rfl rfl⟩,?_⟩;refine GB rfl rfl rfl rfl (Bw (a:=_) 0 underlying25 type3 rfl rfl rfl rfl rfl rfl rfl (fun _=>rfl) (fun _=>rfl) hg4 (A2 hg4 rfl)) ?_;rintro _ _ ⟨a_r1,cap_r1,rfl,rfl⟩;refine ⟨⟨⟨trivial,oLb 1 isAgg9 rfl rfl rfl rfl⟩,oLb 1 isAgg3 rfl rfl rfl rfl⟩,?_⟩;refine Cv rfl rfl rfl (J9 [box b2 98 [_,_]] [] runUnderlying153 (Fw underlying9) ((permA 2 rfl (permA 0 rfl permN)).trans List.perm_append_comm) rfl rfl rfl rfl (ms'':=fun q'=>[box b2 98 [_,_],mpr _ _ _ _ _ _ q']) rfl) ?_;rintro _ _ ⟨q_1,rfl⟩;refine ⟨⟨⟨trivial,oLb 0 isAgg9 rfl rfl rfl rfl⟩,oLb 0 isAgg3 rfl rfl rfl rfl⟩,?_⟩;refine BL ?_;refine gRg ?_;obtain ⟨hg5,hj2⟩:=Aa hj2;refine zq3 ?_;exact ⟨_,_,hj2,⟨rfl,trivial⟩,⟨rfl,rfl,rfl,rfl,rfl,rfl,rfl,trivial⟩,[_],rfl⟩
    ·refine Ao ?_
     exact ⟨_,_,Ac hj2,trivial,⟨rfl,rfl,rfl,rfl,rfl,trivial⟩,[],rfl⟩
   ·rintro mm3 q_1 hst
    subst hst;refine An (L':=[(0,_),(5,_),(11,_),(12,_),(13,_)]) (ms':=[mpr b1 kStr 3 1 D.i64 mm3 q_1]) rfl rfl ?_;refine gRg ?_;obtain ⟨hg6,hm2⟩:=Aa hm2;refine zq3 ?_;exact ⟨_,_,hm2,⟨rfl,trivial⟩,⟨rfl,rfl,rfl,rfl,trivial⟩,[],rfl⟩
  ·refine Ao ?_
   exact ⟨_,_,Ac hj1,trivial,⟨rfl,trivial⟩,[],rfl⟩
 ·rintro mm1 q_1 hst
  subst hst;refine An (L':=[(5,_)]) (ms':=[mpr b1 kStr 3 1 D.i64 mm1 q_1]) rfl rfl ?_;refine zq2 ?_;refine Al (Of 0 rfl rfl) ?_;refine zq3 ?_;refine Ae ?_;obtain rfl:=Ac hm1;exact retK (AC rfl (Bh rfl) (permA 0 rfl permN)) ⟨_,rfl,rfl⟩
end Go.Proofs.YtkfnogdccpcmhaaGreatDoor
namespace Go.Proofs.YtkfnogdccpcmhaaGreatDoor
open Go.V Tryz
def wideE (l r:List (List UInt8×List Int)) (n:Int) (e:List UInt8×List Int):Option (Option (Option BSq)):=
 if (e.2.length:Int)<n then some none else
 if ((mget l e.1).getD []).length=0\/((mget r e.1).getD []).length=0 then some (some none) else
 (AF ((mget l e.1).getD [])).bind fun x=>(AF ((mget r e.1).getD [])).bind fun y=>some (some (some ⟨x,y⟩))
def wideQ (l r:List (List UInt8×List Int)) (n:Int) (e:List UInt8×List Int):Option BSq:=match wideE l r n e with
 | some (some (some q))=>some q
 | _=>none
open Classical in
noncomputable def Il (l r all:List (List UInt8×List Int)) (n:Int):Option BAn:=
 if all.length<=1000000000/\∀ e∈all,(wideE l r n e).isSome=true then
  if ∃ e∈all,wideE l r n e=some (some none) then some ⟨[],true⟩ else some ⟨all.filterMap (wideQ l r n),false⟩
 else none
theorem Ms (l r:List (List UInt8×List Int)) (n:Int) (q:List (List UInt8×List Int)):(q.filterMap (wideQ l r n)).length<=q.length:=List.length_filterMap_le _ _
theorem Fs {α:Type} {sz:Nat} {f:α->D} (H:PH):Conc H (.list sz f ([]:List α)) (.slice none 0 0):=(AT (by rfl)).2 (SF H _ (by simp [Enc]))
theorem PW {a b:Nat} (h:decide ((a:Int)=0)=true):true=decide (a=0\/b=0):=by
 have:=of_decide_eq_true h
 exact (dT (.inl (by omega))).symm
theorem P1 {a b:Nat} (h:decide ((a:Int)=0)=false):decide ((b:Int)=0)=decide (a=0\/b=0):=by
 have:=of_decide_eq_false h
 by_cases hb:b=0
 ·rw [dT (by omega),dT (.inr hb)]
 ·rw [dF (by omega),dF (by omega)]
theorem GR:FieldIs Tryz.prog 117 0 0 1 false:=⟨⟨_,_,runUnderlying117,rfl,rfl,sizeOf112,by decide,isAgg112⟩⟩
def wideI (l r all:List (List UInt8×List Int)) (n:Int) (rest:List (List UInt8×List Int)) (out:List BSq):Prop:=
 (∀ e∈rest,e∈all)/\(out++rest.filterMap (wideQ l r n)).Perm (all.filterMap (wideQ l r n))/\(∀ e∈all,wideE l r n e=some (some none)->e∈rest)/\rest.length<=all.length
theorem Ho {l r all:List (List UInt8×List Int)} {n:Int} {rest:List (List UInt8×List Int)} {out:List BSq} {i:Nat} {p:List UInt8×List Int} (h:wideI l r all n rest out) (hi:rest[i]? = some p) (hf:wideE l r n p≠some (some none)):wideI l r all n (rest.eraseIdx i) (out++(wideQ l r n p).toList):=by
 obtain ⟨h1,h2,h3,h4⟩:=h
 have hp:rest.Perm (p::rest.eraseIdx i):=Hh rest i p hi
 refine ⟨fun e he=>h1 e (List.mem_of_mem_eraseIdx he),?_,fun e he hef=>?_,?_⟩
 ·refine List.Perm.trans ?_ h2
  rw [List.append_assoc];refine List.Perm.append_left _ ?_
  have:=(hp.filterMap (wideQ l r n)).symm
  rw [List.filterMap_cons] at this
  cases hq:wideQ l r n p with
  | none=>rw [hq] at this;simpa using this
  | some x=>rw [hq] at this;simpa using this
 ·have:=hp.mem_iff.1 (h3 e he hef)
  rcases List.mem_cons.1 this with rfl | h5
  ·exact absurd hef hf
  ·exact h5
 ·have:=hp.length_eq
  simp only [List.length_cons] at this
  omega
theorem Th {Lm Rm:List (List UInt8×List Int)} {n:Int} {r_1:BAn} {bl br:Nat} (hm:Il Lm Rm Rm n=some r_1) :
  Go.V.Fn Tryz.prog 156 [.v (.map (some bl)),.v (.map (some br)),.v (.map (some br)),.i64 n] [mp bl kStr (D.list 1 D.i64) Lm,mp br kStr (D.list 1 D.i64) Rm] (fun d ms'=>∃ p,p.Perm r_1.to_/\d=BAn.d ⟨p,r_1.fails⟩/\ms'=[mp bl kStr (D.list 1 D.i64) Lm,mp br kStr (D.list 1 D.i64) Rm]):=by
 unfold Il at hm
 by_cases hall:Rm.length<=1000000000/\∀ e∈Rm,(wideE Lm Rm n e).isSome=true
 ·rw [if_pos hall] at hm
  obtain ⟨hlen,hall⟩:=hall;refine Ad func156 rfl ntmps156 rfl fun H0 fr w0=>?_;refine AQ (gRg ?_);refine Av rfl rfl rfl (Ay zeroValue117 (cs:=[.list 2 BSq.d [],.bool false]) rfl) ?_;rintro _ _ ⟨b1,rfl,rfl⟩;refine gNl (AQ (gRg ?_));refine Av rfl rfl rfl (Ay zeroValue117 (cs:=[.v (.slice none 0 0),.bool false]) rfl) ?_;rintro _ _ ⟨b2,rfl,rfl⟩;refine Al (AB (T:=75) (sz:=2) (f:=BSq.d)) ?_;refine gNl (AQ (AQ (gRg ?_)));refine Af rfl rfl rfl (oMv rfl) ?_;refine Av rfl rfl rfl (Kj 4 underlying153 rfl rfl) ?_;rintro _ _ ⟨r5,rfl,rfl⟩;refine gNl (Aj ?_);refine GP [(0,.v (.map (some bl))),(1,.v (.map (some br))),(3,.i64 n),(8,.v (.pointer (some ⟨b1,0,none⟩))),(9,.v (.pointer (some ⟨b2,0,none⟩))),(13,.v (.pointer (some ⟨r5,0,none⟩)))] (fun (s:List (List UInt8×List Int)×Option (List UInt8×List Int)×List BSq×Option Addr×Nat)=>wideI Lm Rm Rm n s.1 s.2.2.1) (fun _=>[])
   (fun s=>match s with | (rest,last,out,a,cap)=>[row a cap 75 2 BSq.d out,box b2 117 [.v (.slice a out.length cap),.bool false],box b1 117 [.list 2 BSq.d ([]:List BSq),.bool false],mp bl kStr (D.list 1 D.i64) Lm,mpi br r5 kStr (D.list 1 D.i64) Rm rest last]) (fun s=>s.1.length) (Rm,none,[],none,0) ⟨fun e he=>he,by simp,fun e he _=>he,Nat.le_refl _⟩ ⟨rfl,rfl,rfl,rfl,rfl,rfl,trivial⟩ trivial rfl ?_
  rintro ⟨rest,last,out,a,cap⟩ hI;refine Ar (L':=[(0,.v (.map (some bl))),(1,.v (.map (some br))),(3,.i64 n),(8,.v (.pointer (some ⟨b1,0,none⟩))),(9,.v (.pointer (some ⟨b2,0,none⟩))),(13,.v (.pointer (some ⟨r5,0,none⟩)))]) (ms':=[row a cap 75 2 BSq.d out,box b2 117 [.v (.slice a out.length cap),.bool false],box b1 117 [.list 2 BSq.d ([]:List BSq),.bool false],mp bl kStr (D.list 1 D.i64) Lm,mpi br r5 kStr (D.list 1 D.i64) Rm rest last]) rfl rfl ?_;refine AQ (gRg ?_);refine Av rfl rfl rfl (LY 4 rfl rfl) ?_;rintro _ _ (⟨hr,rfl,rfl⟩ | ⟨i,⟨kk,vv⟩,hi,rfl,rfl⟩)
  ·subst hr
   refine Af rfl rfl rfl (C8 rfl rfl) ?_;refine Al (Gn 4 rfl rfl) ?_;refine gNl (AQ ?_);refine D3 rfl rfl ?_;refine Ao ?_;obtain ⟨h1,h2,h3,h4⟩:=hI;rw [if_neg (by rintro ⟨e,he,hef⟩;exact absurd (h3 e he hef) (by simp))] at hm;obtain rfl:=Ac hm;refine AQ (gRg ?_);refine Af rfl rfl rfl (oLg 1 isAgg117 sizeOf117 rfl rfl rfl rfl (nB rfl)) ?_;refine Gk rfl rfl (oSb 2 sizeOf117 rfl rfl rfl rfl rfl rfl rfl rfl (nB rfl)) ?_;rintro _ _ rfl;refine Ag (ms':=[_,box b2 117 [_,_],box b1 117 [_,_],_,_]) rfl ?_;refine Al (Dw 2 0 0 rfl rfl rfl rfl rfl rfl) ?_;refine gNl (Ae ?_);exact retK (AC (ms':=[_,_]) (drop:=[_,_,_]) rfl (A9 2 rfl rfl rfl isAgg117 sizeOf117 rfl) (List.Perm.refl _)) ⟨out,by simpa using h2,rfl,rfl⟩
  ·refine Ag (ms':=[row a cap 75 2 BSq.d out,box b2 117 [.v (.slice a out.length cap),.bool false],box b1 117 [.list 2 BSq.d ([]:List BSq),.bool false],mp bl kStr (D.list 1 D.i64) Lm,mpi br r5 kStr (D.list 1 D.i64) Rm (rest.eraseIdx i) (some (kk,vv))]) rfl ?_
   refine Af rfl rfl rfl (C8 rfl rfl) ?_;refine gNl (AQ ?_);refine HU rfl rfl ?_;refine gSp (Aj (AQ (gRg ?_)));refine Af rfl rfl rfl (Kz 4 rfl rfl) ?_;refine Af rfl rfl rfl (C8 rfl rfl) ?_;refine Af rfl rfl rfl (C8 rfl rfl) ?_;refine Af rfl rfl rfl (oAs rfl) ?_;refine Af rfl rfl rfl (oAs rfl) ?_;refine gNl (AQ (AQ (gRg ?_)));refine Af rfl rfl rfl (oMv rfl) ?_;refine Af rfl rfl rfl (EF runUnderlying25 rfl) ?_;refine Af rfl rfl rfl (oMv rfl) ?_;refine Af rfl rfl rfl (JK rfl rfl rfl) ?_;refine gNl ?_
   have hmem:(kk,vv)∈Rm:=hI.1 _ (List.mem_of_getElem? hi)
   have hsm:=hall _ hmem
   refine gCd rfl (fun hc1=>?_) (fun hc1=>?_)
   ·have hE:wideE Lm Rm n (kk,vv)=some none:=by unfold wideE;rw [if_pos (of_decide_eq_true hc1)]
    have hst:=Ho hI hi (by rw [hE];simp)
    rw [show wideQ Lm Rm n (kk,vv)=none by unfold wideQ;rw [hE]] at hst;refine Ao ?_;exact ⟨(rest.eraseIdx i,some (kk,vv),out,a,cap),by simpa using hst,JM hi,trivial,⟨rfl,rfl,rfl,rfl,rfl,rfl,trivial⟩,[],rfl⟩
   ·have hc1':¬ ((vv.length:Int)<n):=of_decide_eq_false hc1
    refine gSp ?_
    have hEe:wideE Lm Rm n (kk,vv)=if ((mget Lm kk).getD []).length=0\/((mget Rm kk).getD []).length=0 then some (some none) else (AF ((mget Lm kk).getD [])).bind fun x=>(AF ((mget Rm kk).getD [])).bind fun y=>some (some (some ⟨x,y⟩)):=by unfold wideE;rw [if_neg hc1']
    refine AQ (AQ (gRg ?_));refine Af rfl rfl rfl (oMv rfl) ?_;refine Af rfl rfl rfl (oMv rfl) ?_;refine Af rfl rfl rfl (Fq (z0:=([]:List Int)) 3 runUnderlying153 (Fw underlying9) zeroValue25 Fs rfl rfl rfl) ?_;refine Af rfl rfl rfl (EF runUnderlying25 rfl) ?_;refine Af rfl rfl rfl (JK rfl rfl rfl) ?_;refine Af rfl rfl rfl (oMv rfl) ?_;refine AL [(0,.v (.map (some bl))),(1,.v (.map (some br))),(3,.i64 n),(8,.v (.pointer (some ⟨b1,0,none⟩))),(9,.v (.pointer (some ⟨b2,0,none⟩))),(10,.v (kStr kk)),(13,.v (.pointer (some ⟨r5,0,none⟩)))] 6 34 (decide (((mget Lm kk).getD []).length=0\/((mget Rm kk).getD []).length=0)) (t:=28) ⟨rfl,rfl,rfl,rfl,rfl,rfl,rfl,trivial⟩ rfl (fun hg_1 hk1=>?_) (fun hg_1 hk1=>?_) ?_
    ·refine gKp rfl rfl rfl hg_1 rfl rfl ?_
     refine gKp rfl rfl rfl hg_1 rfl rfl ?_;refine gKp rfl rfl rfl hg_1 rfl rfl ?_;refine gKp rfl rfl rfl hg_1 rfl rfl ?_;refine gKp rfl rfl rfl hg_1 rfl rfl ?_;refine Af rfl rfl rfl (Nr rfl hg_1 rfl) ?_;exact gMt hk1 (congrArg (fun b=>some (D.bool b)) (PW hg_1)) ⟨rfl,rfl,rfl,rfl,rfl,rfl,rfl,trivial⟩
    ·refine gWp rfl rfl rfl hg_1 rfl rfl (oMv rfl) ?_
     refine gWp rfl rfl rfl hg_1 rfl rfl (oMv rfl) ?_;refine gWp rfl rfl rfl hg_1 rfl rfl (FA (z0:=([]:List Int)) 4 runUnderlying153 (Fw underlying9) zeroValue25 Fs rfl rfl rfl) ?_;refine gWp rfl rfl rfl hg_1 rfl rfl (EF runUnderlying25 rfl) ?_;refine gWp rfl rfl rfl hg_1 rfl rfl (JK rfl rfl rfl) ?_;refine Af rfl rfl rfl (Nx rfl hg_1 rfl) ?_;exact gMt hk1 (congrArg (fun b=>some (D.bool b)) (P1 hg_1)) ⟨rfl,rfl,rfl,rfl,rfl,rfl,rfl,trivial⟩
    refine gNl ?_;refine gCd rfl (fun hc2=>?_) (fun hc2=>?_)
    ·rw [if_pos (of_decide_eq_true hc2)] at hEe
     rw [if_pos ⟨(kk,vv),hmem,hEe⟩] at hm;obtain rfl:=Ac hm;refine AQ (gRg ?_);refine Af rfl rfl rfl (DH (zs:=[.list 2 BSq.d [],.bool false]) runUnderlying117 zeroValue117 (Pz _ runUnderlying117) rfl rfl rfl rfl) ?_;refine Gk rfl rfl (oSb 2 sizeOf117 rfl rfl rfl rfl rfl rfl rfl rfl (nB rfl)) ?_;rintro _ _ rfl;refine Al (Gn 4 rfl rfl) ?_;refine Ag (ms':=[_,box b2 117 [_,_],box b1 117 [_,_],_,_]) rfl ?_;refine gNl (Ae ?_);exact retK (AC (ms':=[_,_]) (drop:=[_,_,_]) rfl (A9 2 rfl rfl rfl isAgg117 sizeOf117 rfl) (List.Perm.refl _)) ⟨[],List.Perm.refl _,rfl,rfl⟩
    ·rw [if_neg (of_decide_eq_false hc2)] at hEe
     rw [hEe] at hsm;obtain ⟨x,hx⟩:∃ x,AF ((mget Lm kk).getD [])=some x:=by
      cases hq:AF ((mget Lm kk).getD []) with
      | none=>rw [hq] at hsm;simp at hsm
      | some x=>exact ⟨x,rfl⟩
     rw [hx,oB] at hEe hsm;obtain ⟨y,hy⟩:∃ y,AF ((mget Rm kk).getD [])=some y:=by
      cases hq:AF ((mget Rm kk).getD []) with
      | none=>rw [hq] at hsm;simp at hsm
      | some x=>exact ⟨x,rfl⟩
     rw [hy,oB] at hEe
     have hst:=Ho hI hi (by rw [hEe];simp)
     rw [show wideQ Lm Rm n (kk,vv)=some ⟨x,y⟩ by unfold wideQ;rw [hEe]] at hst
     have hol:out.length<=1000000000:=by
      have h1:out.length+(rest.filterMap (wideQ Lm Rm n)).length=(Rm.filterMap (wideQ Lm Rm n)).length:=by rw [<- List.length_append];exact hI.2.1.length_eq
      have h2:=Ms Lm Rm n Rm
      omega
     have hg3:(out.length+([(⟨x,y⟩:BSq)]:List _).length)*48<=140737488355328:=by simp only [List.length_cons,List.length_nil];omega
     refine gSp ?_;refine Pv 12 AA (by decide +kernel) ?_;refine Aw rfl rfl rfl (oFb GR rfl) ?_;refine Aw rfl rfl rfl (oLb 1 isAgg112 rfl rfl rfl rfl) ?_;refine Aw rfl rfl rfl (oMv rfl) ?_;refine Aw rfl rfl rfl (oMv rfl) ?_;refine Aw rfl rfl rfl (Fq (z0:=([]:List Int)) 3 runUnderlying153 (Fw underlying9) zeroValue25 Fs rfl rfl rfl) ?_;refine Aw rfl rfl rfl (AY call58 rfl (CF hx)) ?_;refine Aw rfl rfl rfl (oMv rfl) ?_;refine Aw rfl rfl rfl (oMv rfl) ?_;refine Aw rfl rfl rfl (FA (z0:=([]:List Int)) 4 runUnderlying153 (Fw underlying9) zeroValue25 Fs rfl rfl rfl) ?_;refine Aw rfl rfl rfl (AY call58 rfl (CF hy)) ?_;refine Aw rfl rfl rfl (DH (zs:=[.list 1 D.i64 [],.list 1 D.i64 []]) runUnderlying75 zeroValue75 (R1 _ runUnderlying75) rfl rfl rfl rfl) ?_;refine Aw rfl rfl rfl (Ax (xs:=[_]) (f:=BSq.d) (l:=[(⟨x,y⟩:BSq)]) runUnderlying112 sizeOf75 zeroValue75 rfl rfl rfl (fun _=>⟨rfl,rfl,rfl⟩) rfl) ?_;refine Cu ?_;refine Av rfl rfl rfl (Bw (a:=_) 0 underlying112 type75 rfl rfl rfl rfl rfl rfl rfl (fun _=>rfl) (fun _=>rfl) hg3 (A2 hg3 rfl)) ?_;rintro _ _ ⟨a',cap',rfl,rfl⟩;refine Af rfl rfl rfl (oFb GR rfl) ?_;refine Gk rfl rfl (oSb 1 sizeOf112 rfl rfl rfl rfl rfl rfl rfl rfl (nB rfl)) ?_;rintro _ _ rfl;refine gNl ?_;exact ⟨(rest.eraseIdx i,some (kk,vv),out++[⟨x,y⟩],a',cap'),by simpa using hst,JM hi,trivial,⟨rfl,rfl,rfl,rfl,rfl,rfl,trivial⟩,[],rfl⟩
 ·rw [if_neg hall] at hm
  cases hm
theorem Tc {Lm Rm:List (List UInt8×List Int)} {n:Int} {r_1:BAn} {bl br:Nat} (hm:Il Lm Rm Lm n=some r_1) :
  Go.V.Fn Tryz.prog 156 [.v (.map (some bl)),.v (.map (some br)),.v (.map (some bl)),.i64 n] [mp bl kStr (D.list 1 D.i64) Lm,mp br kStr (D.list 1 D.i64) Rm] (fun d ms'=>∃ p,p.Perm r_1.to_/\d=BAn.d ⟨p,r_1.fails⟩/\ms'=[mp bl kStr (D.list 1 D.i64) Lm,mp br kStr (D.list 1 D.i64) Rm]):=by
 unfold Il at hm
 by_cases hall:Lm.length<=1000000000/\∀ e∈Lm,(wideE Lm Rm n e).isSome=true
 ·rw [if_pos hall] at hm
  obtain ⟨hlen,hall⟩:=hall;refine Ad func156 rfl ntmps156 rfl fun H0 fr w0=>?_;refine AQ (gRg ?_);refine Av rfl rfl rfl (Ay zeroValue117 (cs:=[.list 2 BSq.d [],.bool false]) rfl) ?_;rintro _ _ ⟨b1,rfl,rfl⟩;refine gNl (AQ (gRg ?_));refine Av rfl rfl rfl (Ay zeroValue117 (cs:=[.v (.slice none 0 0),.bool false]) rfl) ?_;rintro _ _ ⟨b2,rfl,rfl⟩;refine Al (AB (T:=75) (sz:=2) (f:=BSq.d)) ?_;refine gNl (AQ (AQ (gRg ?_)));refine Af rfl rfl rfl (oMv rfl) ?_;refine Av rfl rfl rfl (Kj 3 underlying153 rfl rfl) ?_;rintro _ _ ⟨r5,rfl,rfl⟩;refine gNl (Aj ?_);refine GP [(0,.v (.map (some bl))),(1,.v (.map (some br))),(3,.i64 n),(8,.v (.pointer (some ⟨b1,0,none⟩))),(9,.v (.pointer (some ⟨b2,0,none⟩))),(13,.v (.pointer (some ⟨r5,0,none⟩)))] (fun (s:List (List UInt8×List Int)×Option (List UInt8×List Int)×List BSq×Option Addr×Nat)=>wideI Lm Rm Lm n s.1 s.2.2.1) (fun _=>[])
   (fun s=>match s with | (rest,last,out,a,cap)=>[row a cap 75 2 BSq.d out,box b2 117 [.v (.slice a out.length cap),.bool false],box b1 117 [.list 2 BSq.d ([]:List BSq),.bool false],mpi bl r5 kStr (D.list 1 D.i64) Lm rest last,mp br kStr (D.list 1 D.i64) Rm]) (fun s=>s.1.length) (Lm,none,[],none,0) ⟨fun e he=>he,by simp,fun e he _=>he,Nat.le_refl _⟩ ⟨rfl,rfl,rfl,rfl,rfl,rfl,trivial⟩ trivial rfl ?_
  rintro ⟨rest,last,out,a,cap⟩ hI;refine Ar (L':=[(0,.v (.map (some bl))),(1,.v (.map (some br))),(3,.i64 n),(8,.v (.pointer (some ⟨b1,0,none⟩))),(9,.v (.pointer (some ⟨b2,0,none⟩))),(13,.v (.pointer (some ⟨r5,0,none⟩)))]) (ms':=[row a cap 75 2 BSq.d out,box b2 117 [.v (.slice a out.length cap),.bool false],box b1 117 [.list 2 BSq.d ([]:List BSq),.bool false],mpi bl r5 kStr (D.list 1 D.i64) Lm rest last,mp br kStr (D.list 1 D.i64) Rm]) rfl rfl ?_;refine AQ (gRg ?_);refine Av rfl rfl rfl (LY 3 rfl rfl) ?_;rintro _ _ (⟨hr,rfl,rfl⟩ | ⟨i,⟨kk,vv⟩,hi,rfl,rfl⟩)
  ·subst hr
   refine Af rfl rfl rfl (C8 rfl rfl) ?_;refine Al (Gn 3 rfl rfl) ?_;refine gNl (AQ ?_);refine D3 rfl rfl ?_;refine Ao ?_;obtain ⟨h1,h2,h3,h4⟩:=hI;rw [if_neg (by rintro ⟨e,he,hef⟩;exact absurd (h3 e he hef) (by simp))] at hm;obtain rfl:=Ac hm;refine AQ (gRg ?_);refine Af rfl rfl rfl (oLg 1 isAgg117 sizeOf117 rfl rfl rfl rfl (nB rfl)) ?_;refine Gk rfl rfl (oSb 2 sizeOf117 rfl rfl rfl rfl rfl rfl rfl rfl (nB rfl)) ?_;rintro _ _ rfl;refine Ag (ms':=[_,box b2 117 [_,_],box b1 117 [_,_],_,_]) rfl ?_;refine Al (Dw 2 0 0 rfl rfl rfl rfl rfl rfl) ?_;refine gNl (Ae ?_);exact retK (AC (ms':=[_,_]) (drop:=[_,_,_]) rfl (A9 2 rfl rfl rfl isAgg117 sizeOf117 rfl) (List.Perm.refl _)) ⟨out,by simpa using h2,rfl,rfl⟩
  ·refine Ag (ms':=[row a cap 75 2 BSq.d out,box b2 117 [.v (.slice a out.length cap),.bool false],box b1 117 [.list 2 BSq.d ([]:List BSq),.bool false],mpi bl r5 kStr (D.list 1 D.i64) Lm (rest.eraseIdx i) (some (kk,vv)),mp br kStr (D.list 1 D.i64) Rm]) rfl ?_
   refine Af rfl rfl rfl (C8 rfl rfl) ?_;refine gNl (AQ ?_);refine HU rfl rfl ?_;refine gSp (Aj (AQ (gRg ?_)));refine Af rfl rfl rfl (Kz 3 rfl rfl) ?_;refine Af rfl rfl rfl (C8 rfl rfl) ?_;refine Af rfl rfl rfl (C8 rfl rfl) ?_;refine Af rfl rfl rfl (oAs rfl) ?_;refine Af rfl rfl rfl (oAs rfl) ?_;refine gNl (AQ (AQ (gRg ?_)));refine Af rfl rfl rfl (oMv rfl) ?_;refine Af rfl rfl rfl (EF runUnderlying25 rfl) ?_;refine Af rfl rfl rfl (oMv rfl) ?_;refine Af rfl rfl rfl (JK rfl rfl rfl) ?_;refine gNl ?_
   have hmem:(kk,vv)∈Lm:=hI.1 _ (List.mem_of_getElem? hi)
   have hsm:=hall _ hmem
   refine gCd rfl (fun hc1=>?_) (fun hc1=>?_)
   ·have hE:wideE Lm Rm n (kk,vv)=some none:=by unfold wideE;rw [if_pos (of_decide_eq_true hc1)]
    have hst:=Ho hI hi (by rw [hE];simp)
    rw [show wideQ Lm Rm n (kk,vv)=none by unfold wideQ;rw [hE]] at hst;refine Ao ?_;exact ⟨(rest.eraseIdx i,some (kk,vv),out,a,cap),by simpa using hst,JM hi,trivial,⟨rfl,rfl,rfl,rfl,rfl,rfl,trivial⟩,[],rfl⟩
   ·have hc1':¬ ((vv.length:Int)<n):=of_decide_eq_false hc1
    refine gSp ?_
    have hEe:wideE Lm Rm n (kk,vv)=if ((mget Lm kk).getD []).length=0\/((mget Rm kk).getD []).length=0 then some (some none) else (AF ((mget Lm kk).getD [])).bind fun x=>(AF ((mget Rm kk).getD [])).bind fun y=>some (some (some ⟨x,y⟩)):=by unfold wideE;rw [if_neg hc1']
    refine AQ (AQ (gRg ?_));refine Af rfl rfl rfl (oMv rfl) ?_;refine Af rfl rfl rfl (oMv rfl) ?_;refine Af rfl rfl rfl (FA (z0:=([]:List Int)) 3 runUnderlying153 (Fw underlying9) zeroValue25 Fs rfl rfl rfl) ?_;refine Af rfl rfl rfl (EF runUnderlying25 rfl) ?_;refine Af rfl rfl rfl (JK rfl rfl rfl) ?_;refine Af rfl rfl rfl (oMv rfl) ?_;refine AL [(0,.v (.map (some bl))),(1,.v (.map (some br))),(3,.i64 n),(8,.v (.pointer (some ⟨b1,0,none⟩))),(9,.v (.pointer (some ⟨b2,0,none⟩))),(10,.v (kStr kk)),(13,.v (.pointer (some ⟨r5,0,none⟩)))] 6 34 (decide (((mget Lm kk).getD []).length=0\/((mget Rm kk).getD []).length=0)) (t:=28) ⟨rfl,rfl,rfl,rfl,rfl,rfl,rfl,trivial⟩ rfl (fun hg_1 hk1=>?_) (fun hg_1 hk1=>?_) ?_
    ·refine gKp rfl rfl rfl hg_1 rfl rfl ?_
     refine gKp rfl rfl rfl hg_1 rfl rfl ?_;refine gKp rfl rfl rfl hg_1 rfl rfl ?_;refine gKp rfl rfl rfl hg_1 rfl rfl ?_;refine gKp rfl rfl rfl hg_1 rfl rfl ?_;refine Af rfl rfl rfl (Nr rfl hg_1 rfl) ?_;exact gMt hk1 (congrArg (fun b=>some (D.bool b)) (PW hg_1)) ⟨rfl,rfl,rfl,rfl,rfl,rfl,rfl,trivial⟩
    ·refine gWp rfl rfl rfl hg_1 rfl rfl (oMv rfl) ?_
     refine gWp rfl rfl rfl hg_1 rfl rfl (oMv rfl) ?_;refine gWp rfl rfl rfl hg_1 rfl rfl (Fq (z0:=([]:List Int)) 4 runUnderlying153 (Fw underlying9) zeroValue25 Fs rfl rfl rfl) ?_;refine gWp rfl rfl rfl hg_1 rfl rfl (EF runUnderlying25 rfl) ?_;refine gWp rfl rfl rfl hg_1 rfl rfl (JK rfl rfl rfl) ?_;refine Af rfl rfl rfl (Nx rfl hg_1 rfl) ?_;exact gMt hk1 (congrArg (fun b=>some (D.bool b)) (P1 hg_1)) ⟨rfl,rfl,rfl,rfl,rfl,rfl,rfl,trivial⟩
    refine gNl ?_;refine gCd rfl (fun hc2=>?_) (fun hc2=>?_)
    ·rw [if_pos (of_decide_eq_true hc2)] at hEe
     rw [if_pos ⟨(kk,vv),hmem,hEe⟩] at hm;obtain rfl:=Ac hm;refine AQ (gRg ?_);refine Af rfl rfl rfl (DH (zs:=[.list 2 BSq.d [],.bool false]) runUnderlying117 zeroValue117 (Pz _ runUnderlying117) rfl rfl rfl rfl) ?_;refine Gk rfl rfl (oSb 2 sizeOf117 rfl rfl rfl rfl rfl rfl rfl rfl (nB rfl)) ?_;rintro _ _ rfl;refine Al (Gn 3 rfl rfl) ?_;refine Ag (ms':=[_,box b2 117 [_,_],box b1 117 [_,_],_,_]) rfl ?_;refine gNl (Ae ?_);exact retK (AC (ms':=[_,_]) (drop:=[_,_,_]) rfl (A9 2 rfl rfl rfl isAgg117 sizeOf117 rfl) (List.Perm.refl _)) ⟨[],List.Perm.refl _,rfl,rfl⟩
    ·rw [if_neg (of_decide_eq_false hc2)] at hEe
     rw [hEe] at hsm;obtain ⟨x,hx⟩:∃ x,AF ((mget Lm kk).getD [])=some x:=by
      cases hq:AF ((mget Lm kk).getD []) with
      | none=>rw [hq] at hsm;simp at hsm
      | some x=>exact ⟨x,rfl⟩
     rw [hx,oB] at hEe hsm;obtain ⟨y,hy⟩:∃ y,AF ((mget Rm kk).getD [])=some y:=by
      cases hq:AF ((mget Rm kk).getD []) with
      | none=>rw [hq] at hsm;simp at hsm
      | some x=>exact ⟨x,rfl⟩
     rw [hy,oB] at hEe
     have hst:=Ho hI hi (by rw [hEe];simp)
     rw [show wideQ Lm Rm n (kk,vv)=some ⟨x,y⟩ by unfold wideQ;rw [hEe]] at hst
     have hol:out.length<=1000000000:=by
      have h1:out.length+(rest.filterMap (wideQ Lm Rm n)).length=(Lm.filterMap (wideQ Lm Rm n)).length:=by rw [<- List.length_append];exact hI.2.1.length_eq
      have h2:=Ms Lm Rm n Lm
      omega
     have hg3:(out.length+([(⟨x,y⟩:BSq)]:List _).length)*48<=140737488355328:=by simp only [List.length_cons,List.length_nil];omega
     refine gSp ?_;refine Pv 12 AA (by decide +kernel) ?_;refine Aw rfl rfl rfl (oFb GR rfl) ?_;refine Aw rfl rfl rfl (oLb 1 isAgg112 rfl rfl rfl rfl) ?_;refine Aw rfl rfl rfl (oMv rfl) ?_;refine Aw rfl rfl rfl (oMv rfl) ?_;refine Aw rfl rfl rfl (FA (z0:=([]:List Int)) 3 runUnderlying153 (Fw underlying9) zeroValue25 Fs rfl rfl rfl) ?_;refine Aw rfl rfl rfl (AY call58 rfl (CF hx)) ?_;refine Aw rfl rfl rfl (oMv rfl) ?_;refine Aw rfl rfl rfl (oMv rfl) ?_;refine Aw rfl rfl rfl (Fq (z0:=([]:List Int)) 4 runUnderlying153 (Fw underlying9) zeroValue25 Fs rfl rfl rfl) ?_;refine Aw rfl rfl rfl (AY call58 rfl (CF hy)) ?_;refine Aw rfl rfl rfl (DH (zs:=[.list 1 D.i64 [],.list 1 D.i64 []]) runUnderlying75 zeroValue75 (R1 _ runUnderlying75) rfl rfl rfl rfl) ?_;refine Aw rfl rfl rfl (Ax (xs:=[_]) (f:=BSq.d) (l:=[(⟨x,y⟩:BSq)]) runUnderlying112 sizeOf75 zeroValue75 rfl rfl rfl (fun _=>⟨rfl,rfl,rfl⟩) rfl) ?_;refine Cu ?_;refine Av rfl rfl rfl (Bw (a:=_) 0 underlying112 type75 rfl rfl rfl rfl rfl rfl rfl (fun _=>rfl) (fun _=>rfl) hg3 (A2 hg3 rfl)) ?_;rintro _ _ ⟨a',cap',rfl,rfl⟩;refine Af rfl rfl rfl (oFb GR rfl) ?_;refine Gk rfl rfl (oSb 1 sizeOf112 rfl rfl rfl rfl rfl rfl rfl rfl (nB rfl)) ?_;rintro _ _ rfl;refine gNl ?_;exact ⟨(rest.eraseIdx i,some (kk,vv),out++[⟨x,y⟩],a',cap'),by simpa using hst,JM hi,trivial,⟨rfl,rfl,rfl,rfl,rfl,rfl,trivial⟩,[],rfl⟩
 ·rw [if_neg hall] at hm
  cases hm
end Go.Proofs.YtkfnogdccpcmhaaGreatDoor
namespace Go.Proofs.YtkfnogdccpcmhaaGreatDoor
open Go.V Tryz
noncomputable def BF (s1:ATy) (l1:(List Int)) (kind1:Int):Option (List Int):=
 grd (l1.length*8<=140737488355328) <|
 grd (∀ x∈l1,0<=x/\x<(s1.l.length:Int)) <|
 some (keepK s1 kind1 l1)
theorem Fy {s1:ATy} {l1:(List Int)} {kind1:Int} {r_1:(List Int)} (hm:BF s1 l1 kind1=some r_1):Fn0 Tryz.prog 153 [.ref (ATy.d s1),.list 1 D.i64 l1,.i64 kind1] (.list 1 D.i64 r_1):=by
 unfold BF at hm;refine Ad func153 rfl ntmps153 rfl fun H0 fr w0=>?_;refine zq5 ?_;refine Al (nilE (i:=6) (sz:=1) (f:=D.i64) rfl).refines ?_;refine zq4 ?_;obtain ⟨hg1,hm⟩:=Aa hm;refine Av rfl rfl rfl (B7 (ms₁:=[]) call97 rfl (List.Perm.refl _) (Hs hg1)) ?_;rintro _ _ ⟨_,⟨a_r1,cap_r1,rfl,rfl⟩,rfl⟩
 generalize hm_r1:l1.length=m_r1
 clear hm_r1
 refine Af rfl rfl rfl (BC rfl rfl) ?_;obtain ⟨hg2,hm⟩:=Aa hm;refine Av rfl rfl rfl (C1 [0] call178 rfl rfl (C3 rfl DG) (Me hg2) (by rintro _ _ ⟨_,_,rfl⟩;rfl)) ?_;rintro _ _ ⟨_,⟨m_r1,rfl,rfl⟩,rfl⟩;refine Ag (ms':=[_]) rfl ?_;refine zq2 ?_;refine IW 0 rfl rfl ?_;rintro rfl;refine BA (peekE (i:=6) 0 rfl rfl rfl).refines ?_
 cases hm;exact Ae zr1
noncomputable def BM (s1:ATy) (q1:BSq):Option BAn:=
 (BZ s1 q1.left).bind fun (x1,x2) =>
 bif x2 then
  some (⟨([]:List BSq),false⟩:BAn)
 else
  bif (decide (x1=0)) then
   some (⟨([]:List BSq),true⟩:BAn)
  else
   (BF s1 q1.left x1).bind fun x3 =>
   (BF s1 q1.right x1).bind fun x4 =>
   (IA s1 x3).bind fun mm1 =>
   (IA s1 x4).bind fun mm2 =>
   bif (decide (x1=6)) then
    (Bq s1 (⟨x3,x4⟩:BSq)).bind fun x5 =>
    some (⟨x5.to_,x5.fails⟩:BAn)
   else
    bif (decide (x1=7)) then
     bif (decide ((x4.length:Int)=0)) then
      some (⟨([]:List BSq),true⟩:BAn)
     else
      (Il mm1 mm2 mm2 (x4.length:Int)).bind fun x6 =>
      some x6
    else
     bif (decide (x1=8)) then
      (Il mm1 mm2 mm1 (x3.length:Int)).bind fun x7 =>
      some x7
     else
      some (⟨([]:List BSq),(decide ((x4.length:Int)=0))⟩:BAn)
theorem HD {s1:ATy} {q1:BSq} {r_1:BAn} (hm:BM s1 q1=some r_1):Go.V.Fn Tryz.prog 133 [.ref (ATy.d s1),BSq.d q1] [] (fun d ms'=>∃ p,p.Perm r_1.to_/\d=BAn.d ⟨p,r_1.fails⟩/\ms'=[]):=by
 unfold BM at hm;refine Ad func133 rfl ntmps133 rfl fun H0 fr w0=>?_;refine zq2 ?_;refine Av rfl rfl rfl (Kd rfl rfl rfl) ?_;rintro _ _ ⟨b1,rfl,rfl⟩;refine JR fun b2=>?_;refine zq6 ?_;obtain ⟨⟨x1,x2⟩,hx1,hm⟩:=bS hm;refine zc0 (Ig hx1) ?_;refine zq13 ?_;refine zcn hm (fun hc1 hm=>?_) (fun hc1 hm=>?_)
 ·refine zq2 ?_
  refine Af rfl rfl rfl E0 ?_;refine zst 0 ?_;refine Ag (ms':=[box b2 117 [_,_],box b1 75 [_,_]]) rfl ?_;refine gNl (Ae ?_);obtain rfl:=Ac hm;exact retK (AC (ms':=[]) (drop:=[_,_]) rfl (A9 0 rfl rfl rfl isAgg117 sizeOf117 rfl) (DW _)) ⟨_,List.Perm.refl _,rfl,rfl⟩
 ·refine zq6 ?_
  refine zcn hm (fun hc2 hm=>?_) (fun hc2 hm=>?_)
  ·refine zq2 ?_
   refine Af rfl rfl rfl E0 ?_;refine zst 0 ?_;refine Ag (ms':=[box b2 117 [_,_],box b1 75 [_,_]]) rfl ?_;refine gNl (Ae ?_);obtain rfl:=Ac hm;exact retK (AC (ms':=[]) (drop:=[_,_]) rfl (A9 0 rfl rfl rfl isAgg117 sizeOf117 rfl) (DW _)) ⟨_,List.Perm.refl _,rfl,rfl⟩
  ·refine zq2 ?_
   obtain ⟨x3,hx2,hm⟩:=bS hm;obtain ⟨x4,hx3,hm⟩:=bS hm;refine zdr 11 ?_;refine zq4 ?_;refine zcd (Fy hx2) ?_;refine zq4 ?_;refine zcd (Fy hx3) ?_;refine Aw rfl rfl rfl zb75a ?_;refine Cu ?_;refine zst 1 ?_;refine Ag (ms':=[box b2 117 [_,_],box b1 75 [_,_]]) rfl ?_;refine zq2 ?_;obtain ⟨mm1,hx4,hm⟩:=bS hm;obtain ⟨mm2,hx5,hm⟩:=bS hm;refine EZ 3 [3,7,8,9] [4,5,6] [6] (by decide +kernel) (by decide +kernel) AA (by decide +kernel) (by decide +kernel) rfl ?_;refine zq3 ?_;refine Cs rfl ?_;refine zq2 ?_;refine Jl rfl rfl rfl rfl rfl (oLb 1 isAgg25 rfl rfl rfl rfl) ?_;refine Cs rfl ?_;refine Cs rfl ?_;refine Cs rfl ?_;refine Hj ?_;refine Ct rfl rfl rfl rfl (B7 (ms₁:=[]) call154 rfl (List.Perm.refl _) (P0 hx4)) ?_;rintro _ _ ⟨_,⟨b3,rfl,rfl⟩,rfl⟩;refine ⟨fun _=>⟨trivial,oLb 2 isAgg25 rfl rfl rfl rfl⟩,?_⟩;refine Ct rfl rfl rfl rfl (B7 (ms₁:=[]) call154 rfl (List.Perm.refl _) (P0 hx5)) ?_;rintro _ _ ⟨_,⟨b4,rfl,rfl⟩,rfl⟩;refine ⟨fun hc=>absurd hc (by decide),?_⟩;refine Ct rfl rfl rfl rfl (oAs rfl) ?_;rintro _ _ ⟨rfl,rfl⟩;refine ⟨fun hc=>absurd hc (by decide),?_⟩;refine Ct rfl rfl rfl rfl (oAs rfl) ?_;rintro _ _ ⟨rfl,rfl⟩;refine ⟨fun hc=>absurd hc (by decide),?_⟩;refine Ge ?_;refine zq11 ?_;refine zcn hm (fun hc3 hm=>?_) (fun hc3 hm=>?_)
   ·refine zq4 ?_
    obtain ⟨x5,hx6,hm⟩:=bS hm;refine zc0 (HB hx6) ?_;refine zst 2 ?_;refine Ag (ms':=[_,_,box b2 117 [_,_],box b1 75 [_,_]]) rfl ?_;refine gNl (Ae ?_);obtain rfl:=Ac hm;exact retK (AC (ms':=[]) (drop:=[_,_,_,_]) rfl (A9 2 rfl rfl rfl isAgg117 sizeOf117 rfl) (DW _)) ⟨_,List.Perm.refl _,rfl,rfl⟩
   ·refine zq5 ?_
    refine zcn hm (fun hc4 hm=>?_) (fun hc4 hm=>?_)
    ·refine zq8 ?_
     refine zcn hm (fun hc5 hm=>?_) (fun hc5 hm=>?_)
     ·refine zq2 ?_
      refine Af rfl rfl rfl E0 ?_;refine zst 2 ?_;refine Ag (ms':=[_,_,box b2 117 [_,_],box b1 75 [_,_]]) rfl ?_;refine gNl (Ae ?_);obtain rfl:=Ac hm;exact retK (AC (ms':=[]) (drop:=[_,_,_,_]) rfl (A9 2 rfl rfl rfl isAgg117 sizeOf117 rfl) (DW _)) ⟨_,List.Perm.refl _,rfl,rfl⟩
     ·refine zq9 ?_
      obtain ⟨x6,hx7,hm⟩:=bS hm;refine Av rfl rfl rfl (B7 (ms₁:=[_,_]) call156 rfl ((permA 1 rfl (permA 0 rfl permN)).trans List.perm_append_comm) (Th hx7)) ?_;rintro _ _ ⟨_,⟨p_1,hp_1,rfl,rfl⟩,rfl⟩;refine Ag (ms':=[_,_,box b2 117 [_,_],box b1 75 [_,_]]) rfl ?_;refine zst 2 ?_;refine Ag (ms':=[_,_,box b2 117 [_,_],box b1 75 [_,_]]) rfl ?_;refine gNl (Ae ?_);obtain rfl:=Ac hm;exact retK (AC (ms':=[]) (drop:=[_,_,_,_]) rfl (A9 2 rfl rfl rfl isAgg117 sizeOf117 rfl) (DW _)) ⟨_,hp_1,rfl,rfl⟩
    ·refine zq5 ?_
     refine zcn hm (fun hc6 hm=>?_) (fun hc6 hm=>?_)
     ·refine zq8 ?_
      obtain ⟨x7,hx8,hm⟩:=bS hm;refine Av rfl rfl rfl (B7 (ms₁:=[_,_]) call156 rfl ((permA 1 rfl (permA 0 rfl permN)).trans List.perm_append_comm) (Tc hx8)) ?_;rintro _ _ ⟨_,⟨p_2,hp_2,rfl,rfl⟩,rfl⟩;refine Ag (ms':=[_,_,box b2 117 [_,_],box b1 75 [_,_]]) rfl ?_;refine zst 2 ?_;refine Ag (ms':=[_,_,box b2 117 [_,_],box b1 75 [_,_]]) rfl ?_;refine gNl (Ae ?_);obtain rfl:=Ac hm;exact retK (AC (ms':=[]) (drop:=[_,_,_,_]) rfl (A9 2 rfl rfl rfl isAgg117 sizeOf117 rfl) (DW _)) ⟨_,hp_2,rfl,rfl⟩
     ·refine zq7 ?_
      refine Af rfl rfl rfl E0 ?_;refine zst 2 ?_;refine Ag (ms':=[_,_,box b2 117 [_,_],box b1 75 [_,_]]) rfl ?_;refine gNl (Ae ?_);obtain rfl:=Ac hm;exact retK (AC (ms':=[]) (drop:=[_,_,_,_]) rfl (A9 2 rfl rfl rfl isAgg117 sizeOf117 rfl) (DW _)) ⟨_,List.Perm.refl _,rfl,rfl⟩
noncomputable def AG (s1:ATy) (q1:BSq):Option BAn:=
 (BO s1 q1.left 2).bind fun x1 =>
 (bif x1 then (some true) else ((BO s1 q1.right 1).bind fun x2 =>
 some x2)).bind fun p1 =>
 bif p1 then
  some (⟨([]:List BSq),false⟩:BAn)
 else
  (BK s1 q1).bind fun (x3,x4) =>
  bif x4 then
   some (⟨x3.to_,x3.fails⟩:BAn)
  else
   (BN s1 q1).bind fun x5 =>
   bif x5 then
    some (⟨([]:List BSq),false⟩:BAn)
   else
    (BM s1 q1).bind fun x6 =>
    some x6
theorem HT {s1:ATy} {q1:BSq} {r_1:BAn} (hm:AG s1 q1=some r_1):Go.V.Fn Tryz.prog 96 [.ref (ATy.d s1),BSq.d q1] [] (fun d ms'=>∃ p,p.Perm r_1.to_/\d=BAn.d ⟨p,r_1.fails⟩/\ms'=[]):=by
 unfold AG at hm;refine Ad func96 rfl ntmps96 rfl fun H0 fr w0=>?_;refine zq3 ?_;refine JR fun b1=>?_;refine zq7 ?_;obtain ⟨x1,hx1,hm⟩:=bS hm;refine zc0 (Gi hx1) ?_;refine zq1 ?_;obtain ⟨p1,hp_1,hm⟩:=bS hm;refine AL [(0,_),(3,_),(4,_)] 5 16 p1 (t:=11) ⟨rfl,rfl,rfl,trivial⟩ rfl (fun hg_1 hk1=>?_) (fun hg_1 hk1=>?_) ?_
 ·replace hp_1:=AO hg_1 hp_1
  refine zq5 ?_;exact zgb hk1 hp_1
 ·replace hp_1:=AP hg_1 hp_1
  refine zq3 ?_;obtain ⟨x2,hx2,hp_1⟩:=bS hp_1;refine zcw (Gi hx2) ?_;refine zq1 ?_;exact zgb hk1 hp_1
 refine gNl ?_;refine zcn hm (fun hc1 hm=>?_) (fun hc1 hm=>?_)
 ·refine zq2 ?_
  refine Af rfl rfl rfl E0 ?_;refine zst 0 ?_;refine Ag (ms':=[box b1 117 [_,_]]) rfl ?_;refine gNl (Ae ?_);obtain rfl:=Ac hm;exact retK (AC (ms':=[]) (drop:=[_]) rfl (A9 0 rfl rfl rfl isAgg117 sizeOf117 rfl) (DW _)) ⟨_,List.Perm.refl _,rfl,rfl⟩
 ·refine zq6 ?_
  obtain ⟨⟨x3,x4⟩,hx3,hm⟩:=bS hm;refine zc0 (HE hx3) ?_;refine zq3 ?_;refine JR fun b2=>?_;refine zst 0 ?_;refine Ag (ms':=[box b2 117 [_,_],box b1 117 [_,_]]) rfl ?_;refine zq6 ?_;refine zcn hm (fun hc2 hm=>?_) (fun hc2 hm=>?_)
  ·refine zq3 ?_
   refine zst 1 ?_;refine Ag (ms':=[box b2 117 [_,_],box b1 117 [_,_]]) rfl ?_;refine gNl (Ae ?_);obtain rfl:=Ac hm;exact retK (AC (ms':=[]) (drop:=[_,_]) rfl (A9 1 rfl rfl rfl isAgg117 sizeOf117 rfl) (DW _)) ⟨_,List.Perm.refl _,rfl,rfl⟩
  ·refine zq6 ?_
   obtain ⟨x5,hx4,hm⟩:=bS hm;refine zc0 (HH hx4) ?_;refine gNl ?_;refine zcn hm (fun hc3 hm=>?_) (fun hc3 hm=>?_)
   ·refine zq2 ?_
    refine Af rfl rfl rfl E0 ?_;refine zst 1 ?_;refine Ag (ms':=[box b2 117 [_,_],box b1 117 [_,_]]) rfl ?_;refine gNl (Ae ?_);obtain rfl:=Ac hm;exact retK (AC (ms':=[]) (drop:=[_,_]) rfl (A9 1 rfl rfl rfl isAgg117 sizeOf117 rfl) (DW _)) ⟨_,List.Perm.refl _,rfl,rfl⟩
   ·refine zq5 ?_
    obtain ⟨x6,hx5,hm⟩:=bS hm;refine Av rfl rfl rfl (B7 (ms₁:=[]) call133 rfl (List.Perm.refl _) (HD hx5)) ?_;rintro _ _ ⟨_,⟨p_1,hp_1,rfl,rfl⟩,rfl⟩;refine zst 1 ?_;refine Ag (ms':=[box b2 117 [_,_],box b1 117 [_,_]]) rfl ?_;refine gNl (Ae ?_);obtain rfl:=Ac hm;exact retK (AC (ms':=[]) (drop:=[_,_]) rfl (A9 1 rfl rfl rfl isAgg117 sizeOf117 rfl) (DW _)) ⟨_,hp_1,rfl,rfl⟩
end Go.Proofs.YtkfnogdccpcmhaaGreatDoor
namespace Go.Proofs.YtkfnogdccpcmhaaGreatDoor
open Go.V Tryz
inductive Reach (t:ATy) (q:BSq):BSq->Prop
 | refl:Reach t q q
 | step {s s':BSq} {r:BAn}:Reach t q s->AG t s=some r->s'∈r.to_->Reach t q s'
def KJ (t:ATy) (q:BSq) (b:Bool):Prop:=∃ U:List BSq,q∈U/\U.length<=1000000000000/\(∀ s∈U,∃ k,AD s=some k)/\(∀ s∈U,∀ s'∈U,AD s=AD s'->s=s') /\
 (∀ s∈U,∃ r,AG t s=some r/\∀ s'∈r.to_,s'∈U)/\(b=true↔∀ s,Reach t q s->∀ r,AG t s=some r->r.fails=false)
open Classical in
noncomputable def He (t:ATy) (q:BSq):Option Bool:=if KJ t q true then some true else if KJ t q false then some false else none
theorem RE {t:ATy} {q:BSq} {b:Bool} (h:He t q=some b):KJ t q b:=by
 unfold He at h
 split at h
 ·rename_i h1;cases h;exact h1
 ·split at h
  ·rename_i h1;cases h;exact h1
  ·cases h
theorem SC {t:ATy} {q:BSq} {b:Bool} (h:KJ t q b):He t q=some b:=by
 unfold He
 cases b with
 | true=>rw [if_pos h]
 | false =>
  rw [if_neg,if_pos h]
  intro h2
  obtain ⟨_,_,_,_,_,_,h3⟩:=h;obtain ⟨_,_,_,_,_,_,h4⟩:=h2;exact absurd (h3.2 (h4.1 rfl)) (by simp)
def OkIn (t:ATy) (S:List BSq) (s:BSq):Prop:=∃ r,AG t s=some r/\r.fails=false/\∀ s'∈r.to_,s'∈S
structure InvS (t:ATy) (q:BSq) (U X:List BSq) (seen:List (List UInt8×Bool)) (todo S:List BSq):Prop where
 nodup:S.Nodup
 inU:∀ s∈S,s∈U
 reach:∀ s∈S,Reach t q s
 seenE:∀ k,(mget seen k).getD false=true↔∃ s∈S,AD s=some k
 todoE:∀ s∈todo,s∈S
 len:todo.length<=S.length
 done:∀ s∈S,s∉todo->s∉X->OkIn t S s
theorem Kc {α:Type}:∀ (S U:List α),S.Nodup->(∀ s∈S,s∈U)->S.length<=U.length
 | [],U,_,_=>Nat.zero_le _
 | a::S,U,hn,h=>by
  classical
  obtain ⟨h1,h2⟩:=List.nodup_cons.1 hn
  have ha:a∈U:=h a (by simp)
  have:=Kc S (U.erase a) h2 (fun s hs=>(List.mem_erase_of_ne (fun e=>h1 (by rw [<- e];exact hs))).2 (h s (by simp [hs])))
  rw [List.length_erase_of_mem ha] at this
  have:=List.length_pos_of_mem ha
  simp only [List.length_cons]
  omega
section
variable {t:ATy} {q:BSq} {U X:List BSq} {seen:List (List UInt8×Bool)} {todo S:List BSq}
theorem InvS.le (h:InvS t q U X seen todo S):S.length<=U.length:=Kc S U h.nodup h.inU
def askS (seen:List (List UInt8×Bool)) (k:List UInt8):List (List UInt8×Bool):=if (mget seen k).getD false=true then seen else mset seen k true
def askT (seen:List (List UInt8×Bool)) (k:List UInt8) (todo:List BSq) (s:BSq):List BSq:=if (mget seen k).getD false=true then todo else todo++[s]
theorem InvS.ask (h:InvS t q U X seen todo S) (hinj:∀ s∈U,∀ s'∈U,AD s=AD s'->s=s') {s:BSq} {k:List UInt8} (hs:s∈U) (hr:Reach t q s) (hk:AD s=some k) :
  InvS t q U X (askS seen k) (askT seen k todo s) (if (mget seen k).getD false=true then S else S++[s])/\s∈(if (mget seen k).getD false=true then S else S++[s]) /\
   2*(U.length - (if (mget seen k).getD false=true then S else S++[s]).length)+(askT seen k todo s).length<=2*(U.length - S.length)+todo.length/\∀ x∈S,x∈(if (mget seen k).getD false=true then S else S++[s]):=by
 unfold askS askT
 by_cases hg:(mget seen k).getD false=true
 ·simp only [if_pos hg]
  obtain ⟨s1,h1,h2⟩:=(h.seenE k).1 hg
  have:=hinj s1 (h.inU s1 h1) s hs (by rw [h2,hk])
  subst this;exact ⟨h,h1,Nat.le_refl _,fun x hx=>hx⟩
 ·simp only [if_neg hg]
  have hns:s∉S:=fun hm=>hg ((h.seenE k).2 ⟨s,hm,hk⟩)
  have hI:InvS t q U X (mset seen k true) (todo++[s]) (S++[s]):=by
   refine ⟨?_,?_,?_,?_,?_,?_,?_⟩
   ·rw [List.nodup_append];exact ⟨h.nodup,by simp,fun a ha b hb e=>by simp at hb;subst hb;subst e;exact hns ha⟩
   ·intro x hx;rcases List.mem_append.1 hx with hx | hx
    ·exact h.inU x hx
    ·simp at hx;subst hx;exact hs
   ·intro x hx;rcases List.mem_append.1 hx with hx | hx
    ·exact h.reach x hx
    ·simp at hx;subst hx;exact hr
   ·intro k'
    rw [Jt]
    by_cases hkk:k'=k
    ·subst hkk
     simp only [if_true,Option.getD_some,true_iff];exact ⟨s,by simp,hk⟩
    ·rw [if_neg hkk,h.seenE k']
     constructor
     ·rintro ⟨x,hx,hxk⟩;exact ⟨x,by simp [hx],hxk⟩
     ·rintro ⟨x,hx,hxk⟩
      rcases List.mem_append.1 hx with hx | hx
      ·exact ⟨x,hx,hxk⟩
      ·simp at hx;subst hx;rw [hk] at hxk;exact absurd (Option.some.inj hxk).symm hkk
   ·intro x hx;rcases List.mem_append.1 hx with hx | hx
    ·exact List.mem_append_left _ (h.todoE x hx)
    ·exact List.mem_append_right _ hx
   ·have:=h.len;simp only [List.length_append,List.length_cons,List.length_nil];omega
   ·intro x hx hxt hxX
    rcases List.mem_append.1 hx with hx | hx
    ·obtain ⟨r,r1,r2,r3⟩:=h.done x hx (fun e=>hxt (List.mem_append_left _ e)) hxX
     exact ⟨r,r1,r2,fun s' hs'=>List.mem_append_left _ (r3 s' hs')⟩
    ·exact absurd (List.mem_append_right _ hx) hxt
  have:=hI.le
  refine ⟨hI,by simp,?_,fun x hx=>List.mem_append_left _ hx⟩;simp only [List.length_append,List.length_cons,List.length_nil] at this ⊢
  omega
theorem InvS.pop {x:BSq} (h:InvS t q U [] seen (todo++[x]) S):InvS t q U [x] seen todo S:=
 ⟨h.nodup,h.inU,h.reach,h.seenE,fun s hs=>h.todoE s (by simp [hs]),by have:=h.len;simp at this;omega,fun s hs ht hx=>h.done s hs (by simp only [List.mem_append];rintro (e | e);exact ht e;exact hx e) (by simp)⟩
theorem InvS.close {x:BSq} {r:BAn} (h:InvS t q U [x] seen todo S) (hr:AG t x=some r) (hf:r.fails=false) (ht:∀ s'∈r.to_,s'∈S):InvS t q U [] seen todo S:=
 ⟨h.nodup,h.inU,h.reach,h.seenE,h.todoE,h.len,fun s hs h1 _=>by
  by_cases e:s=x
  ·subst e;exact ⟨r,hr,hf,ht⟩
  ·exact h.done s hs h1 (by simpa using e)⟩
theorem InvS.all (h:InvS t q U [] seen [] S) (hq:q∈S):∀ s,Reach t q s->∀ r,AG t s=some r->r.fails=false:=by
 have key:∀ s,Reach t q s->s∈S:=by
  intro s hr
  induction hr with
  | refl=>exact hq
  | step h1 h2 h3 ih =>
   obtain ⟨r',r1,_,r3⟩:=h.done _ ih (by simp) (by simp);rw [h2] at r1;cases r1
   exact r3 _ h3
 intro s hr r h2
 obtain ⟨r',r1,r2,_⟩:=h.done _ (key s hr) (by simp) (by simp);rw [h2] at r1;cases r1
 exact r2
end
theorem Mw:FieldIs Tryz.prog 114 1 2 1 false:=⟨⟨_,_,runUnderlying114,rfl,rfl,sizeOf111,by decide,isAgg111⟩⟩
theorem EI:FieldIs Tryz.prog 114 2 3 1 false:=⟨⟨_,_,runUnderlying114,rfl,rfl,sizeOf112,by decide,isAgg112⟩⟩
theorem TG {t:ATy} {s:BSq} {k:List UInt8} {seen:List (List UInt8×Bool)} {todo:List BSq} {bs bm:Nat} {a:Option Addr} {m cap:Nat} (hk:AD s=some k) (hl:todo.length<=1000000000000) :
  Go.V.Fn Tryz.prog 95 [.v (.pointer (some ⟨bs,0,none⟩)),BSq.d s] [boxf bs 114 2 [.list 4 ANd.d t.l,.i64 t.root,.v (.map (some bm)),.v (.slice a m cap)],mp bm kStr D.bool seen,arr a m cap 75 2 BSq.d todo]
   (fun d ms'=>d = .tup []/\∃ a' m' cap',ms'=[boxf bs 114 2 [.list 4 ANd.d t.l,.i64 t.root,.v (.map (some bm)),.v (.slice a' m' cap')],mp bm kStr D.bool (askS seen k),arr a' m' cap' 75 2 BSq.d (askT seen k todo s)]):=by
 refine Ad func95 rfl ntmps95 rfl fun H0 fr w0=>?_;refine AQ (gRg ?_);refine Af rfl rfl rfl (P7 rfl rfl) ?_;refine gNl (AQ (gRg ?_));refine Af rfl rfl rfl (Bu isAgg75 sizeOf75 rfl rfl) ?_;refine Af rfl rfl rfl (AY call129 rfl (IS hk)) ?_;refine Af rfl rfl rfl (oAs rfl) ?_;refine gNl (AQ (gRg ?_));refine Af rfl rfl rfl (oMv rfl) ?_;refine Af rfl rfl rfl (Bs rfl) ?_;refine Af rfl rfl rfl (oFb Mw rfl) ?_;refine Af rfl rfl rfl (Dg 0 isAgg111 rfl rfl rfl rfl) ?_;refine Af rfl rfl rfl (oMv rfl) ?_;refine Af rfl rfl rfl (Fq (z0:=(false:Bool)) 1 runUnderlying111 (Fw underlying9) zeroValue4 (fun _=>conc_v.2 rfl) rfl rfl rfl) ?_;refine Af rfl rfl rfl (TN rfl) ?_;refine gNl ?_;refine gCd rfl (fun hc1=>?_) (fun hc1=>?_)
 ·have hg:¬ ((mget seen k).getD false=true):=by simpa using hc1
  have e1:askS seen k=mset seen k true:=if_neg hg
  have e2:askT seen k todo s=todo++[s]:=if_neg hg
  refine AQ (gRg ?_);refine Af rfl rfl rfl (oMv rfl) ?_;refine Af rfl rfl rfl (Bs rfl) ?_;refine Af rfl rfl rfl (oFb Mw rfl) ?_;refine Af rfl rfl rfl (Dg 0 isAgg111 rfl rfl rfl rfl) ?_;refine Af rfl rfl rfl (oMv rfl) ?_;refine Gk rfl rfl (Gt (v:=true) 1 runUnderlying111 (Fw underlying9) rfl rfl rfl rfl) ?_;rintro _ _ rfl;refine Ag (ms':=[_,_,_]) rfl ?_;refine gNl ?_
  have hg3:(todo.length+([(⟨s.left,s.right⟩:BSq)]:List _).length)*48<=140737488355328:=by simp only [List.length_cons,List.length_nil];omega
  refine DS [7,10] [0,8,9] [] AA (by decide +kernel) (by decide +kernel) rfl ?_;refine Au rfl rfl rfl rfl rfl rfl (oMv rfl) ?_;refine Au rfl rfl rfl rfl rfl rfl (oMv rfl) ?_;refine Au rfl rfl rfl rfl rfl rfl (Bs rfl) ?_;refine Au rfl rfl rfl rfl rfl rfl (oFb EI rfl) ?_;refine Au rfl rfl rfl rfl rfl rfl (Dg 0 isAgg112 rfl rfl rfl rfl) ?_;refine Au rfl rfl rfl rfl rfl rfl (Bu isAgg75 sizeOf75 rfl rfl) ?_;refine Au rfl rfl rfl rfl rfl rfl (Ax (xs:=[_]) (f:=BSq.d) (l:=[(⟨s.left,s.right⟩:BSq)]) runUnderlying112 sizeOf75 zeroValue75 rfl rfl rfl (fun _=>⟨rfl,rfl,rfl⟩) rfl) ?_;refine DU rfl ?_;refine Au rfl rfl rfl rfl rfl rfl (Bs rfl) ?_;refine Au rfl rfl rfl rfl rfl rfl (oFb EI rfl) ?_;refine DU rfl ?_;refine EQ ?_;refine GB rfl rfl rfl rfl (Ca (a:=_) 2 underlying112 type75 rfl rfl rfl rfl rfl rfl (fun _=>rfl) (fun _=>rfl) hg3 (A2 hg3 rfl)) ?_;rintro _ _ ⟨a',m',cap',rfl,rfl⟩;refine ⟨trivial,?_⟩;refine Cv rfl rfl rfl (JD 0 (by decide) sizeOf112 rfl rfl rfl rfl rfl rfl rfl rfl (nB rfl)) ?_;rintro _ _ rfl;refine ⟨trivial,?_⟩;refine BL ?_;exact retKn (HN (ms':=[_,_,_]) (drop:=[]) rfl (List.Perm.refl _)) ⟨rfl,a',m',cap',by rw [e1,e2];rfl⟩
 ·have hg:(mget seen k).getD false=true:=by simpa using hc1
  have e1:askS seen k=seen:=if_pos hg
  have e2:askT seen k todo s=todo:=if_pos hg
  refine gSp ?_;exact retKn (HN (ms':=[_,_,_]) (drop:=[]) rfl (List.Perm.refl _)) ⟨rfl,a,m,cap,by rw [e1,e2]⟩
theorem Qm:FieldIs Tryz.prog 117 1 1 1 false:=⟨⟨_,_,runUnderlying117,rfl,rfl,sizeOf4,by decide,isAgg4⟩⟩
theorem SP:∀ fs,(∀ w,(underlying 114).run Tryz.prog w = .ok (.struct fs) w)->Fr Tryz.prog fs [(0,2),(2,1),(3,1)]:=by
 intro fs h w
 have:=(h w).symm.trans (runUnderlying114 w)
 simp only [Result.ok.injEq,TypeDesc.struct.injEq,and_true] at this;subst this
 simp [sizeOf24,sizeOf111,sizeOf112,Sem.run]
theorem lastS (l:List BSq) (x:BSq):idx (l++[x]) (((l++[x]).length:Int) - 1)=some x:=by
 have e:((l++[x]).length:Int) - 1=(l.length:Int):=by simp
 rw [e];unfold idx;rw [if_pos (by omega)]
 simp
theorem initS (l:List BSq) (x:BSq):sli (l++[x]) 0 (((l++[x]).length:Int) - 1)=some l:=by
 have e:((l++[x]).length:Int) - 1=(l.length:Int):=by simp
 rw [e];unfold sli;rw [if_pos ⟨Int.le_refl _,by omega,by simp;omega⟩]
 simp
theorem S9 {t:ATy} {q:BSq} {b:Bool} (hm:He t q=some b):Fn0 Tryz.prog 57 [ATy.d t,BSq.d q] (.bool b):=by
 obtain ⟨U,hqU,hUl,hkey,hinj,hlead,hb⟩:=RE hm;refine Ad func57 rfl ntmps57 rfl fun H0 fr w0=>?_;refine AQ (gRg ?_);refine Af rfl rfl rfl (P7 rfl rfl) ?_;refine Af rfl rfl rfl (P7 rfl rfl) ?_;refine Af rfl rfl rfl (oAs rfl) ?_;refine gNl (AQ (gRg ?_));refine Af rfl rfl rfl (Bu isAgg24 sizeOf24 rfl rfl) ?_;refine Av rfl rfl rfl (Iv (fk:=kStr) (fv:=D.bool)) ?_;rintro _ _ ⟨bm,rfl,rfl⟩;refine Af rfl rfl rfl (DH (zs:=[.list 4 ANd.d [],.v (.int .i64 0),.v (.map none),.v (.slice none 0 0)]) runUnderlying114 zeroValue114 (SP _ runUnderlying114) rfl rfl rfl rfl) ?_;refine Av rfl rfl rfl (Kd rfl rfl rfl) ?_;rintro _ _ ⟨bs,rfl,rfl⟩;refine Al (Cm (T:=75) (sz:=2) (f:=BSq.d)) ?_;refine Ag (ms':=[_,box bs 114 [.list 4 ANd.d t.l,.i64 t.root,.v (.map (some bm)),.v (.slice none 0 0)],_]) rfl ?_;refine Al (Nd 1 2 rfl rfl) ?_;refine Af rfl rfl rfl (oAs rfl) ?_;refine gNl ?_;refine BA (Nj (ms':=[boxf bs 114 2 [.list 4 ANd.d t.l,.i64 t.root,.v (.map (some bm)),.v (.slice none 0 0)],mp bm kStr D.bool [],arr none 0 0 75 2 BSq.d []]) (List.perm_append_comm (l₁:=[arr none 0 0 75 2 BSq.d []]) (l₂:=[_,_]))) ?_;obtain ⟨k0,hk0⟩:=hkey q hqU
 have hI0:InvS t q U [] [] [] []:=⟨List.nodup_nil,by simp,by simp,by simp [mget],by simp,Nat.le_refl _,by simp⟩
 obtain ⟨hI1,hq1,_,_⟩:=hI0.ask hinj hqU .refl hk0;refine AQ (gRg ?_);refine Af rfl rfl rfl (oMv rfl) ?_;refine Af rfl rfl rfl (Bu isAgg75 sizeOf75 rfl rfl) ?_;refine Av rfl rfl rfl (C1 [0,1,2] call95 rfl rfl (C3 rfl (C3 rfl (C3 rfl DG))) (TG (s:=q) hk0 (Nat.zero_le _)) (by rintro _ _ ⟨rfl,_,_,_,rfl⟩;rfl)) ?_;rintro _ _ ⟨_,⟨rfl,a,m,cap,rfl⟩,rfl⟩;refine Ag (ms':=[boxf bs 114 2 [_,_,_,_],_,_]) rfl ?_;refine gNl (AQ (Aj ?_));refine GP [(5,.v (.pointer (some ⟨bs,0,none⟩)))] (fun (s:(List (List UInt8×Bool)×List BSq×List BSq×Option Addr×Nat×Nat))=>match s with | (seen,todo,S,a,m,cap)=>InvS t q U [] seen todo S/\q∈S) (fun _=>[])
  (fun s=>match s with | (seen,todo,S,a,m,cap)=>[boxf bs 114 2 [.list 4 ANd.d t.l,.i64 t.root,.v (.map (some bm)),.v (.slice a m cap)],mp bm kStr D.bool seen,arr a m cap 75 2 BSq.d todo]) (fun s=>2*(U.length - s.2.2.1.length)+s.2.1.length) (askS [] k0,askT [] k0 [] q,_,a,m,cap) ⟨hI1,hq1⟩ ⟨rfl,trivial⟩ trivial rfl ?_
 rintro ⟨seen,todo,S,a,m,cap⟩ ⟨hI,hqS⟩;refine Ar (L':=[(5,.v (.pointer (some ⟨bs,0,none⟩)))]) (ms':=[boxf bs 114 2 [.list 4 ANd.d t.l,.i64 t.root,.v (.map (some bm)),.v (.slice a m cap)],mp bm kStr D.bool seen,arr a m cap 75 2 BSq.d todo]) rfl rfl ?_;refine AQ (AQ (gRg ?_));refine Af rfl rfl rfl (oMv rfl) ?_;refine Af rfl rfl rfl (Bs rfl) ?_;refine Af rfl rfl rfl (oFb EI rfl) ?_;refine Af rfl rfl rfl (Dg 0 isAgg112 rfl rfl rfl rfl) ?_;refine Af rfl rfl rfl (BP 2 runUnderlying112 rfl rfl) ?_;refine Af rfl rfl rfl (JK rfl rfl rfl) ?_;refine gNl ?_;refine gCd rfl (fun hc1=>?_) (fun hc1=>?_)
 rotate_left
 ·have h0:todo=[]:=by
   have:=of_decide_eq_false hc1
   exact List.length_eq_zero_iff.1 (by omega)
  subst h0;refine Ao ?_
  have hbt:b=true:=hb.2 (hI.all hqS)
  subst hbt;refine AQ (gRg ?_);refine Af rfl rfl rfl (oAs rfl) ?_;refine gNl (Ae ?_);exact retK (AC rfl (Bh rfl) (E6 _)) rfl
 ·refine gSp ?_
  obtain ⟨todo0,x,rfl⟩:∃ l x,todo=l++[x]:=by
   have:=of_decide_eq_true hc1
   have hne:todo≠[]:=by rintro rfl;simp at this
   exact ⟨todo.dropLast,todo.getLast hne,(List.dropLast_concat_getLast hne).symm⟩
  have hxS:x∈S:=hI.todoE x (by simp)
  have hlt:((todo0++[x]).length:Int)<=1000000000000:=by have:=hI.len;have:=hI.le;omega
  have hg1:InR (((todo0++[x]).length:Int) - 1):=by constructor <;> omega
  obtain ⟨r,hr,hrU⟩:=hlead x (hI.inU x hxS);refine Aj (AQ ?_);refine KS 13 [12] AA (by decide +kernel) (by decide +kernel) rfl (by decide +kernel) ?_;refine Cr rfl rfl rfl rfl (oMv rfl) ?_;refine Cr rfl rfl rfl rfl (Bs rfl) ?_;refine Cr rfl rfl rfl rfl (oFb EI rfl) ?_;refine Cr rfl rfl rfl rfl (Dg 0 isAgg112 rfl rfl rfl rfl) ?_;refine Cr rfl rfl rfl rfl (oMv rfl) ?_;refine Cr rfl rfl rfl rfl (Bs rfl) ?_;refine Cr rfl rfl rfl rfl (oFb EI rfl) ?_;refine Cr rfl rfl rfl rfl (Dg 0 isAgg112 rfl rfl rfl rfl) ?_;refine Cr rfl rfl rfl rfl (BP 2 runUnderlying112 rfl rfl) ?_;refine Cr rfl rfl rfl rfl (Lv rfl rfl (Gw hg1)) ?_;refine Cr rfl rfl rfl rfl (Ap 2 runUnderlying112 sizeOf75 rfl rfl rfl (lastS todo0 x)) ?_;refine Cr rfl rfl rfl rfl (Li 2 isAgg75 sizeOf75 rfl rfl (Am (lastS todo0 x)).2 rfl rfl) ?_;refine Kb (R:=fun d A=>∃ b,d = .v (.pointer (some ⟨b,0,none⟩))/\A=box b 75 [.list 1 D.i64 [],.list 1 D.i64 []]) rfl rfl rfl (OpT.mono (Ay zeroValue75 (cs:=[.list 1 D.i64 [],.list 1 D.i64 []]) rfl) (by rintro d ms' ⟨b,rfl,rfl⟩;exact ⟨_,⟨b,rfl,rfl⟩,rfl⟩)) ?_;refine Nk ?_;rintro _ _ ⟨bn,rfl,rfl⟩;refine Gk rfl rfl (oSb 0 sizeOf75 rfl rfl rfl rfl rfl rfl rfl rfl (nB rfl)) ?_;rintro _ _ rfl;refine Ag (ms':=[box bn 75 [.list 1 D.i64 x.left,.list 1 D.i64 x.right],_,_,_]) rfl ?_;refine gNl (AQ ?_);refine DS [11,14] [0,12,13] [] AA (by decide +kernel) (by decide +kernel) rfl ?_;refine Au rfl rfl rfl rfl rfl rfl (oMv rfl) ?_;refine Au rfl rfl rfl rfl rfl rfl (oMv rfl) ?_;refine Au rfl rfl rfl rfl rfl rfl (Bs rfl) ?_;refine Au rfl rfl rfl rfl rfl rfl (oFb EI rfl) ?_;refine Au rfl rfl rfl rfl rfl rfl (Dg 1 isAgg112 rfl rfl rfl rfl) ?_;refine Au rfl rfl rfl rfl rfl rfl (oMv rfl) ?_;refine Au rfl rfl rfl rfl rfl rfl (Bs rfl) ?_;refine Au rfl rfl rfl rfl rfl rfl (oFb EI rfl) ?_;refine Au rfl rfl rfl rfl rfl rfl (Dg 1 isAgg112 rfl rfl rfl rfl) ?_;refine Au rfl rfl rfl rfl rfl rfl (BP 3 runUnderlying112 rfl rfl) ?_;refine Au rfl rfl rfl rfl rfl rfl (Lv rfl rfl (Gw hg1)) ?_;refine DU rfl ?_;refine Au rfl rfl rfl rfl rfl rfl (Bs rfl) ?_;refine Au rfl rfl rfl rfl rfl rfl (oFb EI rfl) ?_;refine DU rfl ?_;refine EQ ?_;refine GB rfl rfl rfl rfl (GA 3 runUnderlying112 sizeOf75 rfl rfl rfl (initS todo0 x)) ?_;rintro _ _ ⟨a2,m2,cap2,rfl,rfl⟩;refine ⟨trivial,?_⟩;refine Cv rfl rfl rfl (JD 1 (by decide) sizeOf112 rfl rfl rfl rfl rfl rfl rfl rfl (nB rfl)) ?_;rintro _ _ rfl;refine ⟨trivial,?_⟩
  refine BL ?_;refine AQ (gRg ?_);refine Ag (ms':=[box bn 75 [.list 1 D.i64 x.left,.list 1 D.i64 x.right],boxf bs 114 2 [.list 4 ANd.d t.l,.i64 t.root,.v (.map (some bm)),.v (.slice a2 m2 cap2)],mp bm kStr D.bool seen,arr a2 m2 cap2 75 2 BSq.d todo0]) rfl ?_;refine Af rfl rfl rfl (oMv rfl) ?_;refine Af rfl rfl rfl (oLg 0 isAgg75 sizeOf75 rfl rfl rfl rfl (nB rfl)) ?_;refine Av rfl rfl rfl (.view (peekF (i:=49) (d:=ATy.d t) 1 rfl rfl rfl rfl) (B7 (ms₁:=[]) call96 rfl (List.Perm.refl _) (HT hr))) ?_;rintro _ _ ⟨_,⟨p,hp,rfl,rfl⟩,rfl⟩;refine Av rfl rfl rfl (Ay zeroValue117 (cs:=[.list 2 BSq.d [],.bool false]) rfl) ?_;rintro _ _ ⟨ba,rfl,rfl⟩;refine Gk rfl rfl (oSb 0 sizeOf117 rfl rfl rfl rfl rfl rfl rfl rfl (nB rfl)) ?_;rintro _ _ rfl;refine Ag (ms':=[box ba 117 [.list 2 BSq.d p,.bool r.fails],box bn 75 [.list 1 D.i64 x.left,.list 1 D.i64 x.right],boxf bs 114 2 [.list 4 ANd.d t.l,.i64 t.root,.v (.map (some bm)),.v (.slice a2 m2 cap2)],mp bm kStr D.bool seen,arr a2 m2 cap2 75 2 BSq.d todo0]) rfl ?_;refine gNl (AQ (AQ (gRg ?_)));refine Af rfl rfl rfl (oFb Qm rfl) ?_;refine Af rfl rfl rfl (oLb 0 isAgg4 rfl rfl rfl rfl) ?_;refine gNl ?_
  have hpU:∀ s'∈p,s'∈U:=fun s' hs'=>hrU s' (hp.mem_iff.1 hs')
  have hpR:∀ s'∈p,Reach t q s':=fun s' hs' => .step (hI.reach x hxS) hr (hp.mem_iff.1 hs')
  refine gCd rfl (fun hc2=>?_) (fun hc2=>?_)
  ·have hbf:b=false:=by
    cases b with
    | false=>rfl
    | true=>have:=hb.1 rfl x (hI.reach x hxS) r hr;rw [this] at hc2;cases hc2
   subst hbf;refine AQ (gRg ?_);refine Af rfl rfl rfl (oAs rfl) ?_;refine gNl (Ae ?_);exact retK (AC rfl (Bh rfl) (E6 _)) rfl
  ·refine gSp ?_
   refine AQ (gRg ?_);refine Af rfl rfl rfl (oFb GR rfl) ?_;refine Af rfl rfl rfl (oLb 0 isAgg112 rfl rfl rfl rfl) ?_;refine Af rfl rfl rfl (EF runUnderlying112 rfl) ?_;refine Af rfl rfl rfl (oMv rfl) ?_;refine gNl ?_;refine QW (i:=55) rfl fun hpl=>?_;refine Aj ?_;refine GP [(5,.v (.pointer (some ⟨bs,0,none⟩))),(55,.list 2 BSq.d p),(56,.i64 p.length)] (fun (s:Nat×(List (List UInt8×Bool)×List BSq×List BSq×Option Addr×Nat×Nat))=>match s with | (i,seen',todo',S',a',m',cap')=>InvS t q U [x] seen' todo' S'/\(∀ y∈S,y∈S')/\(∀ y∈p.take i,y∈S')/\i<=p.length/\2*(U.length - S'.length)+todo'.length<=2*(U.length - S.length)+todo0.length) (fun s=>[(57,.i64 (s.1:Int))])
    (fun s=>match s with | (i,seen',todo',S',a',m',cap')=>[box ba 117 [.list 2 BSq.d p,.bool r.fails],box bn 75 [.list 1 D.i64 x.left,.list 1 D.i64 x.right],boxf bs 114 2 [.list 4 ANd.d t.l,.i64 t.root,.v (.map (some bm)),.v (.slice a' m' cap')],mp bm kStr D.bool seen',arr a' m' cap' 75 2 BSq.d todo']) (fun s=>p.length - s.1) (0,seen,todo0,S,a2,m2,cap2) ⟨hI.pop,fun y hy=>hy,by simp,Nat.zero_le _,Nat.le_refl _⟩ ⟨rfl,rfl,rfl,trivial⟩ ⟨rfl,trivial⟩ rfl ?_
   rintro ⟨i,seen',todo',S',a',m',cap'⟩ ⟨hJ,hS,htk,hil,hms⟩;refine Ar (L':=[(57,.i64 (i:Int)),(5,.v (.pointer (some ⟨bs,0,none⟩))),(55,.list 2 BSq.d p),(56,.i64 p.length)]) (ms':=[box ba 117 [.list 2 BSq.d p,.bool r.fails],box bn 75 [.list 1 D.i64 x.left,.list 1 D.i64 x.right],boxf bs 114 2 [.list 4 ANd.d t.l,.i64 t.root,.v (.map (some bm)),.v (.slice a' m' cap')],mp bm kStr D.bool seen',arr a' m' cap' 75 2 BSq.d todo']) rfl rfl ?_;refine AQ (gRg ?_);refine Af rfl rfl rfl (JK rfl rfl rfl) ?_;refine gNl (AQ ?_);refine gCd rfl (fun hc3=>?_) (fun hc3=>?_)
   rotate_left
   ·have hie:i=p.length:=by have:=of_decide_eq_false hc3;omega
    subst hie;rw [List.take_length] at htk;refine Ao ?_
    have hK:=hJ.close hr hc2 (fun s' hs'=>htk s' (hp.mem_iff.2 hs'))
    exact ⟨(seen',todo',S',a',m',cap'),⟨hK,hS q hqS⟩,by simp only [List.length_append,List.length_cons,List.length_nil] at hms ⊢;omega,trivial,⟨rfl,trivial⟩,[_,_],rfl⟩
   ·have hlt2:i<p.length:=by have:=of_decide_eq_true hc3;omega
    obtain ⟨y,hy⟩:∃ y,p[i]? = some y:=⟨p[i],by simp [hlt2]⟩
    have hym:y∈p:=List.mem_of_getElem? hy
    have hyi:idx p (i:Int)=some y:=by unfold idx;rw [if_pos (by omega),Int.toNat_natCast];exact hy
    obtain ⟨ky,hky⟩:=hkey y (hpU y hym);obtain ⟨hA,hyS,hmu,hmo⟩:=hJ.ask hinj (hpU y hym) (hpR y hym) hky
    have htl:todo'.length<=1000000000000:=by have:=hJ.len;have:=hJ.le;omega
    have hg4:InR ((i:Int)+1):=by simp only [maxLen] at hpl;constructor <;> omega
    refine gSp (AQ (Aj (AQ (gRg ?_))));refine Af rfl rfl rfl (oIm runUnderlying112 sizeOf75 rfl rfl hyi) ?_;refine Af rfl rfl rfl (Bu isAgg75 sizeOf75 rfl rfl) ?_;refine Av rfl rfl rfl (Ay zeroValue75 (cs:=[.list 1 D.i64 [],.list 1 D.i64 []]) rfl) ?_;rintro _ _ ⟨b9,rfl,rfl⟩;refine Gk rfl rfl (oSb 0 sizeOf75 rfl rfl rfl rfl rfl rfl rfl rfl (nB rfl)) ?_;rintro _ _ rfl;refine Ag (ms':=[box b9 75 [.list 1 D.i64 y.left,.list 1 D.i64 y.right],box ba 117 [_,_],box bn 75 [_,_],boxf bs 114 2 [_,_,_,_],_,_]) rfl ?_;refine gNl (gRg ?_);refine Af rfl rfl rfl (oMv rfl) ?_;refine Af rfl rfl rfl (oLg 0 isAgg75 sizeOf75 rfl rfl rfl rfl (nB rfl)) ?_;refine Av rfl rfl rfl (C1 [3,4,5] call95 rfl rfl (C3 rfl (C3 rfl (C3 rfl DG))) (TG (s:=y) hky htl) (by rintro _ _ ⟨rfl,_,_,_,rfl⟩;rfl)) ?_;rintro _ _ ⟨_,⟨rfl,a4,m4,cap4,rfl⟩,rfl⟩;refine Ag (ms':=[box b9 75 [_,_],box ba 117 [_,_],box bn 75 [_,_],boxf bs 114 2 [_,_,_,_],_,_]) rfl ?_;refine gNl (gRg ?_);refine Af rfl rfl rfl (RX rfl rfl (Gw hg4)) ?_;refine Af rfl rfl rfl (oMv rfl) ?_;refine gNl ?_
    have htk':p.take (i+1)=p.take i++[y]:=by rw [List.take_add_one,hy];rfl
    refine ⟨(i+1,askS seen' ky,askT seen' ky todo' y,_,a4,m4,cap4),⟨hA,fun z hz=>hmo z (hS z hz),fun z hz=>?_,hlt2,Nat.le_trans hmu hms⟩,by simp only;omega,⟨rfl,trivial⟩,⟨rfl,rfl,rfl,trivial⟩,[_],rfl⟩;rw [htk'] at hz
    rcases List.mem_append.1 hz with hz | hz
    ·exact hmo z (htk z hz)
    ·simp at hz;subst hz;exact hyS
end Go.Proofs.YtkfnogdccpcmhaaGreatDoor
