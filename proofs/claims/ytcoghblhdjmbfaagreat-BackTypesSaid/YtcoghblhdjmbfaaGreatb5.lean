/- Part 5 of the proof: a program logic, what the functions compute, and what these answer; no condition. -/
import Derived.Test.YtcoghblhdjmbfaaGreatb4
import Derived.Shelf.Sort.Plain
import Derived.Ground.Names2Prog
import Derived.Shelf.Slices.CompactI
import Derived.Shelf.Slices.In.SortNone
import Derived.Test.YtcoghblhdjmbfaaGreatProg
set_option linter.unusedVariables false
set_option linter.unusedSimpArgs false
set_option maxRecDepth 100000
set_option maxHeartbeats 2000000
namespace Go.Proofs.YtcoghblhdjmbfaaGreat
open Go.V
theorem K4 {l:List Int} (hl:l.length*8<=140737488355328) :
  Go.V.Fn Tryz.prog 64 [.list 1 D.i64 l] [] (fun d ms'=>∃ a cap,d = .v (.slice a l.length cap)/\ms'=[arr a l.length cap 3 1 D.i64 l]):=by
 refine Ad Tryz.func64 rfl Tryz.ntmps64 rfl fun H0 fr w0=>?_;refine zq8 ?_;refine AG rfl rfl rfl (GJ Tryz.underlying43 rfl rfl) ?_;rintro _ _ ⟨b,rfl,rfl,hb⟩;refine gNl ?_;refine gCd rfl (fun hc1=>?_) (fun hc1=>?_)
 ·
  skip
  obtain rfl:=hb hc1;refine BM (BD (T:=3) (sz:=1) (f:=D.i64)) ?_;refine zq4 ?_;refine Ae ?_;exact retK (BA rfl (B5 rfl) (EU _)) (⟨none,0,rfl,rfl⟩)
 ·
  skip
  refine zq3 ?_;refine AG rfl rfl rfl (Au (xs:=[]) (f:=D.i64) (l:=[]) Tryz.runUnderlying43 Tryz.sizeOf3 Tryz.zeroValue3 rfl rfl rfl (fun _=>⟨rfl,rfl,rfl⟩) rfl (by simp [maxLen])) ?_;rintro _ _ ⟨a1,rfl,rfl⟩;refine zq1 ?_;refine AG rfl rfl rfl (HE (a:=_) 0 Tryz.underlying43 Tryz.type3 rfl rfl rfl rfl rfl rfl rfl rfl hl (BX hl rfl)) ?_;rintro _ _ ⟨a2,cap2,rfl,rfl⟩;refine zq2 ?_;refine Ae ?_;exact retK (BA rfl (B5 rfl) (EU _)) (⟨_,_,rfl,rfl⟩)
theorem Od {l:List AutoEdge} (hl:l.length*24<=140737488355328) :
  Go.V.Fn Tryz.prog 142 [.list 2 AutoEdge.d l] [] (fun d ms'=>∃ a cap,d = .v (.slice a l.length cap)/\ms'=[arr a l.length cap 62 2 AutoEdge.d l]):=by
 refine Ad Tryz.func142 rfl Tryz.ntmps142 rfl fun H0 fr w0=>?_;refine zq8 ?_;refine AG rfl rfl rfl (GJ Tryz.underlying57 rfl rfl) ?_;rintro _ _ ⟨b,rfl,rfl,hb⟩;refine gNl ?_;refine gCd rfl (fun hc1=>?_) (fun hc1=>?_)
 ·
  skip
  obtain rfl:=hb hc1;refine BM (BD (T:=62) (sz:=2) (f:=AutoEdge.d)) ?_;refine zq4 ?_;refine Ae ?_;exact retK (BA rfl (B5 rfl) (EU _)) (⟨none,0,rfl,rfl⟩)
 ·
  skip
  refine zq3 ?_;refine AG rfl rfl rfl (Au (xs:=[]) (f:=AutoEdge.d) (l:=[]) Tryz.runUnderlying57 Tryz.sizeOf62 Tryz.zeroValue62 rfl rfl rfl (fun _=>⟨rfl,rfl,rfl⟩) rfl (by simp [maxLen])) ?_;rintro _ _ ⟨a1,rfl,rfl⟩;refine zq1 ?_;refine AG rfl rfl rfl (HE (a:=_) 0 Tryz.underlying57 Tryz.type62 rfl rfl rfl rfl rfl rfl rfl rfl hl (BX hl rfl)) ?_;rintro _ _ ⟨a2,cap2,rfl,rfl⟩;refine zq2 ?_;refine Ae ?_;exact retK (BA rfl (B5 rfl) (EU _)) (⟨_,_,rfl,rfl⟩)
theorem Pe {l:List AFd} (hl:l.length*24<=140737488355328) :
  Go.V.Fn Tryz.prog 143 [.list 2 AFd.d l] [] (fun d ms'=>∃ a cap,d = .v (.slice a l.length cap)/\ms'=[arr a l.length cap 71 2 AFd.d l]):=by
 refine Ad Tryz.func143 rfl Tryz.ntmps143 rfl fun H0 fr w0=>?_;refine zq8 ?_;refine AG rfl rfl rfl (GJ Tryz.underlying47 rfl rfl) ?_;rintro _ _ ⟨b,rfl,rfl,hb⟩;refine gNl ?_;refine gCd rfl (fun hc1=>?_) (fun hc1=>?_)
 ·
  skip
  obtain rfl:=hb hc1;refine BM (BD (T:=71) (sz:=2) (f:=AFd.d)) ?_;refine zq4 ?_;refine Ae ?_;exact retK (BA rfl (B5 rfl) (EU _)) (⟨none,0,rfl,rfl⟩)
 ·
  skip
  refine zq3 ?_;refine AG rfl rfl rfl (Au (xs:=[]) (f:=AFd.d) (l:=[]) Tryz.runUnderlying47 Tryz.sizeOf71 Tryz.zeroValue71 rfl rfl rfl (fun _=>⟨rfl,rfl,rfl⟩) rfl (by simp [maxLen])) ?_;rintro _ _ ⟨a1,rfl,rfl⟩;refine zq1 ?_;refine AG rfl rfl rfl (HE (a:=_) 0 Tryz.underlying47 Tryz.type71 rfl rfl rfl rfl rfl rfl rfl rfl hl (BX hl rfl)) ?_;rintro _ _ ⟨a2,cap2,rfl,rfl⟩;refine zq2 ?_;refine Ae ?_;exact retK (BA rfl (B5 rfl) (EU _)) (⟨_,_,rfl,rfl⟩)
theorem P5 {n:Int} (h0:0<=n) (hb:n.toNat*8<=140737488355328) :
  Go.V.Fn Tryz.prog 169 [.v (.slice none 0 0),.i64 n] [] (fun d ms'=>∃ a cap,d = .v (.slice a 0 cap)/\ms'=[row a cap 3 1 D.i64 []]):=by
 refine Ad Tryz.func169 rfl Tryz.ntmps169 rfl fun H0 fr w0=>?_;refine zq10 ?_;refine gCd rfl (fun hc1=>?_) (fun hc1=>?_)
 ·
  try simp only [decide_eq_true_eq,decide_eq_false_iff_not,Bool.not_eq_true',Bool.not_eq_false',Bool.and_eq_true,Bool.or_eq_true,Bool.and_eq_false_iff,Bool.or_eq_false_iff,Int.not_lt,Int.not_le,ne_eq,Decidable.not_not] at hc1
  omega
 ·
  try simp only [decide_eq_true_eq,decide_eq_false_iff_not,Bool.not_eq_true',Bool.not_eq_false',Bool.and_eq_true,Bool.or_eq_true,Bool.and_eq_false_iff,Bool.or_eq_false_iff,Int.not_lt,Int.not_le,ne_eq,Decidable.not_not] at hc1
  refine zq6 ?_;refine Ai rfl rfl rfl (Me Tryz.runUnderlying43 rfl) ?_;refine zq1 ?_;refine Ai rfl rfl rfl (MB Tryz.runUnderlying43 rfl) ?_;refine Ai rfl rfl rfl (QB rfl rfl (CO (by omega))) ?_;refine Ai rfl rfl rfl (QB rfl rfl (CO (by omega))) ?_;refine zq7 ?_;refine gCd rfl (fun hc2=>?_) (fun hc2=>?_)
  ·
   try simp only [decide_eq_true_eq,decide_eq_false_iff_not,Bool.not_eq_true',Bool.not_eq_false',Bool.and_eq_true,Bool.or_eq_true,Bool.and_eq_false_iff,Bool.or_eq_false_iff,Int.not_lt,Int.not_le,ne_eq,Decidable.not_not] at hc2
   have hn2:n.toNat<=140737488355328:=Nat.le_trans (Nat.le_mul_of_pos_right _ (by decide)) hb
   refine zq3 ?_;refine Ai rfl rfl rfl (Me Tryz.runUnderlying43 rfl) ?_;refine Ai rfl rfl rfl (Kp Tryz.runUnderlying43 Tryz.sizeOf3 rfl rfl (Nat.le_refl _) (Nat.le_refl _)) ?_;refine zq1 ?_;refine AG rfl rfl rfl (JU (f:=D.i64) Tryz.underlying43 Tryz.underlying3 Tryz.type3 rfl rfl rfl rfl rfl rfl (by omega) (by simpa [Tryz.t3] using hb) rfl) ?_;rintro _ _ ⟨a,cap,hcap,rfl,rfl⟩;refine zq1 ?_;refine Ai rfl rfl rfl (MB Tryz.runUnderlying43 rfl) ?_;refine Ai rfl rfl rfl (Kp Tryz.runUnderlying43 Tryz.sizeOf3 rfl rfl (Nat.zero_le _) (hcap)) ?_;refine zq7 ?_;refine Ae ?_;exact retK (BA rfl (B5 rfl) (EU _)) (⟨_,_,rfl,rfl⟩)
  ·
   try simp only [decide_eq_true_eq,decide_eq_false_iff_not,Bool.not_eq_true',Bool.not_eq_false',Bool.and_eq_true,Bool.or_eq_true,Bool.and_eq_false_iff,Bool.or_eq_false_iff,Int.not_lt,Int.not_le,ne_eq,Decidable.not_not] at hc2
   refine BM (Az (T:=3) (sz:=1) (f:=D.i64)) ?_;refine zq6 ?_;refine Ae ?_;exact retK (BA rfl (B5 rfl) (EU _)) (⟨none,0,rfl,rfl⟩)
section
open Go.Shelf Go.Proofs
end
section
open Go.V Go.Proofs Go.RowKit Go.Sort
end
def G9 (s1:(List ANd)) (f1:(ANd->Option Bool)):Nat->Int->Option (Out Int Unit)
 | 0,_=>none
 | n+1,x1 =>
  bif (decide (x1<(s1.length:Int))) then
   (idx s1 x1).bind fun x2 =>
   (f1 x2).bind fun x3 =>
   bif x3 then
    some (Out.ret x1)
   else
    grd (InR (x1+1)) <|
    G9 s1 f1 n (x1+1)
  else
   some (Out.go (()))
def QE (s1:(List ANd)) (f1:(ANd->Option Bool)):Option Int:=
 ((G9 s1 f1 FU 0:Option (Out Int Unit))).bind (fun oo=>oo.on (fun r1=>some r1) (fun _ =>
 some (-1)))
theorem Wf {s1:(List ANd)} {f1:(ANd->Option Bool)} {r_1:Int} {fv_f1:D} (hff1:IX Tryz.prog fv_f1 ANd.d D.bool f1) (hm:QE s1 f1=some r_1):Fn0 Tryz.prog 113 [.list 4 ANd.d s1,fv_f1] (.i64 r_1):=by
 unfold QE at hm;refine Ad Tryz.func113 rfl Tryz.ntmps113 rfl fun H0 fr w0=>?_;refine zq11 ?_;obtain ⟨o_1,hj1,hm1⟩:=bS hm;refine Ag [] [] (fun (st:Unit) (hid:Unit)=>match st,hid with | _,_=>[]) (fun F (st:Unit) (hid:Unit)=>match st,hid with | _,_=>[]) (fun st=>Out.go (st)=o_1) trivial trivial ?_ ?_
 ·refine Am ?_
  refine Ah [(0,_),(1,_),(7,_)] [] (fun (st:Int) (hid:Unit)=>match st,hid with | x1,_=>[(8,.i64 x1)]) (fun F (st:Int) (hid:Unit)=>match st,hid with | x1,_=>[]) () hj1 (fun _=>rfl) ⟨rfl,rfl,rfl,trivial⟩ trivial ⟨rfl,trivial⟩ rfl ?_;rintro n x1 _ hj1;rw [G9] at hj1;refine Ao (L':=[(8,.i64 x1),(0,_),(1,_),(7,_)]) (ms':=[]) rfl rfl ?_;refine zq5 ?_;refine zcn hj1 (fun hc1 hj1=>?_) (fun hc1 hj1=>?_)
  ·refine zq13 ?_
   obtain ⟨x2,hx1,hj1⟩:=bS hj1;refine zq2 ?_;obtain ⟨x3,hx2,hj1⟩:=bS hj1;refine Ai rfl rfl rfl (Hd rfl rfl (hff1 _ _ hx2)) ?_;refine gNl ?_;refine zcn hj1 (fun hc2 hj1=>?_) (fun hc2 hj1=>?_)
   ·refine zq5 ?_
    refine Ae ?_;obtain rfl:=Ac hj1
    replace hm1:=Bu hm1
    cases hm1;exact zr1
   ·refine zq2 ?_
    obtain ⟨hg3,hj1⟩:=Aa hj1;refine zq3 ?_;exact ⟨_,(),hj1,⟨rfl,trivial⟩,⟨rfl,rfl,rfl,trivial⟩,[],rfl⟩
  ·refine Ar ?_
   exact ⟨_,(),Ac hj1,trivial,trivial,[],rfl⟩
 ·rintro _ _ hst
  subst hst
  replace hm1:=CT hm1
  refine Al (L':=[]) (ms':=[]) rfl rfl ?_;refine zq4 ?_
  cases hm1;exact Ae zr1
def OM (s1:(List ANd)) (f1:(ANd->Option Bool)):Option Bool:=
 (QE s1 f1).bind fun x1 =>
 some (decide (0<=x1))
theorem Wd {s1:(List ANd)} {f1:(ANd->Option Bool)} {r_1:Bool} {fv_f1:D} (hff1:IX Tryz.prog fv_f1 ANd.d D.bool f1) (hm:OM s1 f1=some r_1):Fn0 Tryz.prog 81 [.list 4 ANd.d s1,fv_f1] (.bool r_1):=by
 unfold OM at hm;refine Ad Tryz.func81 rfl Tryz.ntmps81 rfl fun H0 fr w0=>?_;refine zq8 ?_;obtain ⟨x1,hx1,hm⟩:=bS hm;refine zc0 (Wf hff1 hx1) ?_;refine zq3 ?_
 cases hm;exact Ae zr1
def C4 (kind1:Int):Option Bool:=
 some (((decide (kind1=6))||(decide (kind1=9)))||(decide (kind1=10)))
theorem HB {kind1:Int} {r_1:Bool} (hm:C4 kind1=some r_1):Fn0 Tryz.prog 114 [.i64 kind1] (.bool r_1):=by
 unfold C4 at hm;refine Ad Tryz.func114 rfl Tryz.ntmps114 rfl fun H0 fr w0=>?_;refine zq9 ?_
 apply AX [(0,_)] 3 8 (t:=5) ⟨rfl,trivial⟩ rfl
 ·intro hg_1 hk1
  refine zq3 ?_;exact zgm hk1
 ·intro hg_1 hk1
  refine zq3 ?_;exact zgm hk1
 refine zq1 ?_
 apply AX [] 3 12 (t:=9) trivial rfl
 ·intro hg_2 hk2
  refine zq3 ?_;exact zgm hk2
 ·intro hg_2 hk2
  refine zq3 ?_;exact zgm hk2
 refine zq2 ?_
 cases hm;exact Ae zr1
def Ek (kind1:Int):Option Bool:=
 some ((decide (kind1=7))||(decide (kind1=8)))
theorem JF {kind1:Int} {r_1:Bool} (hm:Ek kind1=some r_1):Fn0 Tryz.prog 115 [.i64 kind1] (.bool r_1):=by
 unfold Ek at hm;refine Ad Tryz.func115 rfl Tryz.ntmps115 rfl fun H0 fr w0=>?_;refine zq9 ?_
 apply AX [] 3 8 (t:=5) trivial rfl
 ·intro hg_1 hk1
  refine zq3 ?_;exact zgm hk1
 ·intro hg_1 hk1
  refine zq3 ?_;exact zgm hk1
 refine zq2 ?_
 cases hm;exact Ae zr1
def C6 (c1:UInt8):Option Bool:=
 some (((decide (97<=(c1.toNat:Int)))&&(decide ((c1.toNat:Int)<=122)))||(decide ((c1.toNat:Int)=95)))
theorem Hx {c1:UInt8} {r_1:Bool} (hm:C6 c1=some r_1):Fn0 Tryz.prog 166 [.u8 c1] (.bool r_1):=by
 unfold C6 at hm;refine Ad Tryz.func166 rfl Tryz.ntmps166 rfl fun H0 fr w0=>?_;refine zq9 ?_
 apply Bm [(0,_)] 3 8 (t:=5) ⟨rfl,trivial⟩ rfl
 ·intro hg_1 hk1
  refine zq3 ?_;exact zgm hk1
 ·intro hg_1 hk1
  refine zq3 ?_;exact zgm hk1
 refine zq1 ?_
 apply AX [] 3 12 (t:=9) trivial rfl
 ·intro hg_2 hk2
  refine zq3 ?_;exact zgm hk2
 ·intro hg_2 hk2
  refine zq3 ?_;exact zgm hk2
 refine zq2 ?_
 cases hm;exact Ae zr1
def DJ (c1:UInt8):Option Bool:=
 some ((decide (65<=(c1.toNat:Int)))&&(decide ((c1.toNat:Int)<=90)))
theorem HA {c1:UInt8} {r_1:Bool} (hm:DJ c1=some r_1):Fn0 Tryz.prog 168 [.u8 c1] (.bool r_1):=by
 unfold DJ at hm;refine Ad Tryz.func168 rfl Tryz.ntmps168 rfl fun H0 fr w0=>?_;refine zq9 ?_
 apply Bm [] 3 8 (t:=5) trivial rfl
 ·intro hg_1 hk1
  refine zq3 ?_;exact zgm hk1
 ·intro hg_1 hk1
  refine zq3 ?_;exact zgm hk1
 refine zq2 ?_
 cases hm;exact Ae zr1
def GA (c1:UInt8):Option Bool:=
 (C6 c1).bind fun x1 =>
 (bif x1 then (some true) else ((DJ c1).bind fun x2 =>
 some x2)).bind fun p1 =>
 some (p1||((decide (48<=(c1.toNat:Int)))&&(decide ((c1.toNat:Int)<=57))))
theorem N1 {c1:UInt8} {r_1:Bool} (hm:GA c1=some r_1):Fn0 Tryz.prog 184 [.u8 c1] (.bool r_1):=by
 unfold GA at hm;refine Ad Tryz.func184 rfl Tryz.ntmps184 rfl fun H0 fr w0=>?_;refine zq7 ?_;obtain ⟨x1,hx1,hm⟩:=bS hm;refine zc0 (Hx hx1) ?_;refine zq1 ?_;obtain ⟨p1,hp_1,hm⟩:=bS hm;refine AF [(0,_)] 3 8 p1 (t:=5) ⟨rfl,trivial⟩ rfl (fun hg_1 hk1=>?_) (fun hg_1 hk1=>?_) ?_
 ·replace hp_1:=AD hg_1 hp_1
  refine zq3 ?_;exact zgb hk1 hp_1
 ·replace hp_1:=AE hg_1 hp_1
  refine zq1 ?_;obtain ⟨x2,hx2,hp_1⟩:=bS hp_1;refine zcw (HA hx2) ?_;refine zq1 ?_;exact zgb hk1 hp_1
 refine zq1 ?_
 apply AX [] 7 16 (t:=9) trivial rfl
 ·intro hg_2 hk2
  refine zq3 ?_
  apply Bm [(9,_)] 3 15 (t:=12) ⟨rfl,trivial⟩ rfl
  ·intro hg_3 hk3
   refine zq3 ?_;exact zgm hk3
  ·intro hg_3 hk3
   refine zq3 ?_;exact zgm hk3
  refine zq1 ?_;exact zgm hk2
 ·intro hg_2 hk2
  refine zq7 ?_;exact zgm hk2
 refine zq2 ?_
 cases hm;exact Ae zr1
def Dv (s1:(List UInt8)):Nat->Int->Option Int
 | 0,_=>none
 | n+1,n2 =>
  (bif (decide (n2<(s1.length:Int))) then ((idx s1 n2).bind fun c3 =>
  (GA c3).bind fun x3 =>
  some x3) else (some false)).bind fun p3 =>
  bif p3 then
   grd (InR (n2+1)) <|
   Dv s1 n (n2+1)
  else
   some n2
def FJ (s1:(List UInt8)):Option Int:=
 (bif (decide ((s1:List UInt8)=([]:List UInt8))) then (some true) else ((idx s1 0).bind fun c1 =>
 (C6 c1).bind fun x1 =>
 (bif (!x1) then ((idx s1 0).bind fun c2 =>
 (DJ c2).bind fun x2 =>
 some (!x2)) else (some false)).bind fun p2 =>
 some p2)).bind fun p1 =>
 bif p1 then
  some 0
 else
  (Dv s1 FU 1:Option Int).bind fun n1 =>
  some n1
theorem OH {s1:(List UInt8)} {r_1:Int} (hm:FJ s1=some r_1):Fn0 Tryz.prog 180 [.str s1] (.i64 r_1):=by
 unfold FJ at hm;refine Ad Tryz.func180 rfl Tryz.ntmps180 rfl fun H0 fr w0=>?_;refine zq10 ?_;obtain ⟨p1,hp_1,hm⟩:=bS hm;refine AF [(0,_)] 11 17 p1 (t:=6) ⟨rfl,trivial⟩ rfl (fun hg_1 hk1=>?_) (fun hg_1 hk1=>?_) ?_
 ·replace hp_1:=AD hg_1 hp_1
  refine zq11 ?_;exact zgb hk1 hp_1
 ·replace hp_1:=AE hg_1 hp_1
  refine zq1 ?_;obtain ⟨c1,hx1,hp_1⟩:=bS hp_1;refine gWp rfl rfl rfl hg_1 rfl rfl (CK Tryz.runUnderlying9 rfl rfl hx1) ?_;obtain ⟨x1,hx2,hp_1⟩:=bS hp_1;refine zcw (Hx hx2) ?_;refine zq2 ?_;obtain ⟨p2,hp_2,hp_1⟩:=bS hp_1;refine AF [(0,_),(6,_)] 5 16 p2 (t:=11) ⟨rfl,rfl,trivial⟩ rfl (fun hg_2 hk2=>?_) (fun hg_2 hk2=>?_) ?_
  ·replace hp_2:=AD hg_2 hp_2
   refine zq1 ?_;obtain ⟨c2,hx3,hp_2⟩:=bS hp_2;refine gWp rfl rfl rfl hg_2 rfl rfl (CK Tryz.runUnderlying9 rfl rfl hx3) ?_;obtain ⟨x2,hx4,hp_2⟩:=bS hp_2;refine zcw (HA hx4) ?_;refine zq2 ?_;exact zgb hk2 hp_2
  ·replace hp_2:=AE hg_2 hp_2
   refine zq5 ?_;exact zgb hk2 hp_2
  refine zq1 ?_;exact zgb hk1 hp_1
 refine gNl ?_;refine zcn hm (fun hc1 hm=>?_) (fun hc1 hm=>?_)
 ·refine zq4 ?_
  cases hm;exact Ae zr1
 ·refine zq6 ?_
  obtain ⟨o_1,hj1,hm1⟩:=bS hm;refine Ag [] [] (fun (st:Int) (hid:Unit)=>match st,hid with | n1,_=>[(3,.i64 n1)]) (fun F (st:Int) (hid:Unit)=>match st,hid with | n1,_=>[]) (fun st=>st=o_1) trivial trivial ?_ ?_
  ·refine Am ?_
   refine Ah [(0,_)] [] (fun (st:Int) (hid:Unit)=>match st,hid with | n2,_=>[(3,.i64 n2)]) (fun F (st:Int) (hid:Unit)=>match st,hid with | n2,_=>[]) () hj1 (fun _=>rfl) ⟨rfl,trivial⟩ trivial ⟨rfl,trivial⟩ rfl ?_;rintro n n2 _ hj1;rw [Dv] at hj1;refine Ao (L':=[(3,.i64 n2),(0,_)]) (ms':=[]) rfl rfl ?_;refine zq5 ?_;refine Ai rfl rfl rfl (Dr Tryz.runUnderlying9 rfl) ?_;refine zq2 ?_;obtain ⟨p3,hp_3,hj1⟩:=bS hj1;refine AF [(0,_),(3,_)] 5 27 p3 (t:=22) ⟨rfl,rfl,trivial⟩ rfl (fun hg_3 hk3=>?_) (fun hg_3 hk3=>?_) ?_
   ·replace hp_3:=AD hg_3 hp_3
    refine zq2 ?_;obtain ⟨c3,hx5,hp_3⟩:=bS hp_3;refine gWp rfl rfl rfl hg_3 rfl rfl (CK Tryz.runUnderlying9 rfl rfl hx5) ?_;obtain ⟨x3,hx6,hp_3⟩:=bS hp_3;refine zcw (N1 hx6) ?_;refine zq1 ?_;exact zgb hk3 hp_3
   ·replace hp_3:=AE hg_3 hp_3
    refine zq5 ?_;exact zgb hk3 hp_3
   refine gNl ?_;refine zcn hj1 (fun hc2 hj1=>?_) (fun hc2 hj1=>?_)
   ·refine zq4 ?_
    obtain ⟨hg7,hj1⟩:=Aa hj1;refine zq3 ?_;exact ⟨_,(),hj1,⟨rfl,trivial⟩,⟨rfl,trivial⟩,[],rfl⟩
   ·refine Ar ?_
    exact ⟨_,(),Ac hj1,⟨rfl,trivial⟩,trivial,[],rfl⟩
  ·rintro n1 _ hst
   subst hst;refine Al (L':=[(3,.i64 n1)]) (ms':=[]) rfl rfl ?_;refine zq5 ?_
   cases hm1;exact Ae zr1
def Et (s1:(List UInt8)):Option Bool:=
 (bif ((!decide ((s1:List UInt8)=([]:List UInt8)))&&(decide ((s1.length:Int)<=20))) then ((FJ s1).bind fun x1 =>
 some (decide (x1=(s1.length:Int)))) else (some false)).bind fun p1 =>
 some p1
theorem Jg {s1:(List UInt8)} {r_1:Bool} (hm:Et s1=some r_1):Fn0 Tryz.prog 165 [.str s1] (.bool r_1):=by
 unfold Et at hm;refine Ad Tryz.func165 rfl Tryz.ntmps165 rfl fun H0 fr w0=>?_;refine zq9 ?_
 apply Bm [(0,_)] 4 9 (t:=5) ⟨rfl,trivial⟩ rfl
 ·intro hg_1 hk1
  refine zq1 ?_;refine gWp rfl rfl rfl hg_1 rfl rfl (Dr Tryz.runUnderlying9 rfl) ?_;refine zq2 ?_;exact zgm hk1
 ·intro hg_1 hk1
  refine zq4 ?_;exact zgm hk1
 refine zq1 ?_;obtain ⟨p1,hp_2,hm⟩:=bS hm;refine AF [] 6 16 p1 (t:=10) trivial rfl (fun hg_2 hk2=>?_) (fun hg_2 hk2=>?_) ?_
 ·replace hp_2:=AD hg_2 hp_2
  refine zq1 ?_;obtain ⟨x1,hx1,hp_2⟩:=bS hp_2;refine zcw (OH hx1) ?_;refine zq1 ?_;refine gWp rfl rfl rfl hg_2 rfl rfl (Dr Tryz.runUnderlying9 rfl) ?_;refine zq2 ?_;exact zgb hk2 hp_2
 ·replace hp_2:=AE hg_2 hp_2
  refine zq6 ?_;exact zgb hk2 hp_2
 refine zq2 ?_
 cases hm;exact Ae zr1
def GV (s1:(List (List UInt8))) (v1:(List UInt8)):Nat->Int->Option (Out Int Unit)
 | 0,_=>none
 | n+1,x1 =>
  bif (decide (x1<(s1.length:Int))) then
   (idx s1 x1).bind fun x2 =>
   bif (decide ((v1:List UInt8)=x2)) then
    some (Out.ret x1)
   else
    grd (InR (x1+1)) <|
    GV s1 v1 n (x1+1)
  else
   some (Out.go (()))
def Q3 (s1:(List (List UInt8))) (v1:(List UInt8)):Option Int:=
 ((GV s1 v1 FU 0:Option (Out Int Unit))).bind (fun oo=>oo.on (fun r1=>some r1) (fun _ =>
 some (-1)))
theorem Wn {s1:(List (List UInt8))} {v1:(List UInt8)} {r_1:Int} (hm:Q3 s1 v1=some r_1):Fn0 Tryz.prog 185 [.list 1 D.str s1,.str v1] (.i64 r_1):=by
 unfold Q3 at hm;refine Ad Tryz.func185 rfl Tryz.ntmps185 rfl fun H0 fr w0=>?_;refine zq11 ?_;obtain ⟨o_1,hj1,hm1⟩:=bS hm;refine Ag [] [] (fun (st:Unit) (hid:Unit)=>match st,hid with | _,_=>[]) (fun F (st:Unit) (hid:Unit)=>match st,hid with | _,_=>[]) (fun st=>Out.go (st)=o_1) trivial trivial ?_ ?_
 ·refine Am ?_
  refine Ah [(0,_),(1,_),(7,_)] [] (fun (st:Int) (hid:Unit)=>match st,hid with | x1,_=>[(8,.i64 x1)]) (fun F (st:Int) (hid:Unit)=>match st,hid with | x1,_=>[]) () hj1 (fun _=>rfl) ⟨rfl,rfl,rfl,trivial⟩ trivial ⟨rfl,trivial⟩ rfl ?_;rintro n x1 _ hj1;rw [GV] at hj1;refine Ao (L':=[(8,.i64 x1),(0,_),(1,_),(7,_)]) (ms':=[]) rfl rfl ?_;refine zq5 ?_;refine zcn hj1 (fun hc1 hj1=>?_) (fun hc1 hj1=>?_)
  ·refine zq13 ?_
   obtain ⟨x2,hx1,hj1⟩:=bS hj1;refine zq4 ?_;refine zcn hj1 (fun hc2 hj1=>?_) (fun hc2 hj1=>?_)
   ·refine zq5 ?_
    refine Ae ?_;obtain rfl:=Ac hj1
    replace hm1:=Bu hm1
    cases hm1;exact zr1
   ·refine zq2 ?_
    obtain ⟨hg2,hj1⟩:=Aa hj1;refine zq3 ?_;exact ⟨_,(),hj1,⟨rfl,trivial⟩,⟨rfl,rfl,rfl,trivial⟩,[],rfl⟩
  ·refine Ar ?_
   exact ⟨_,(),Ac hj1,trivial,trivial,[],rfl⟩
 ·rintro _ _ hst
  subst hst
  replace hm1:=CT hm1
  refine Al (L':=[]) (ms':=[]) rfl rfl ?_;refine zq4 ?_
  cases hm1;exact Ae zr1
def OU (s1:(List (List UInt8))) (v1:(List UInt8)):Option Bool:=
 (Q3 s1 v1).bind fun x1 =>
 some (decide (0<=x1))
theorem Wr {s1:(List (List UInt8))} {v1:(List UInt8)} {r_1:Bool} (hm:OU s1 v1=some r_1):Fn0 Tryz.prog 181 [.list 1 D.str s1,.str v1] (.bool r_1):=by
 unfold OU at hm;refine Ad Tryz.func181 rfl Tryz.ntmps181 rfl fun H0 fr w0=>?_;refine zq8 ?_;obtain ⟨x1,hx1,hm⟩:=bS hm;refine zc0 (Wn hx1) ?_;refine zq3 ?_
 cases hm;exact Ae zr1
def DP  : Option (List (List UInt8)):=
 some [([102,117,110]:List UInt8),([108,101,116]:List UInt8),([114,101,99]:List UInt8),([105,110]:List UInt8),([105,102]:List UInt8),([116,104,101,110]:List UInt8),([101,108,115,101]:List UInt8),([99,97,115,101]:List UInt8),([111,102]:List UInt8),([101,110,100]:List UInt8),([116,114,117,101]:List UInt8),([102,97,108,115,101]:List UInt8),([99,104,101,99,107]:List UInt8),([97,115,107]:List UInt8),([116,111,112]:List UInt8),([98,111,116]:List UInt8),([105,110,116]:List UInt8),([98,111,111,108]:List UInt8),([115,116,114,105,110,103]:List UInt8),([109,117]:List UInt8)]
theorem KB  {r_1:(List (List UInt8))} (hm:DP=some r_1):Fn0 Tryz.prog 182 [] (.list 1 D.str r_1):=by
 unfold DP at hm;refine Ad Tryz.func182 rfl Tryz.ntmps182 rfl fun H0 fr w0=>?_;refine zq3 ?_;refine Ap (nilE (i:=0) (sz:=1) (f:=D.str) rfl).refines ?_;refine zq3 ?_;refine Ai rfl rfl rfl (Aj (xs:=[_,_,_,_,_,_,_,_,_,_,_,_,_,_,_,_,_,_,_,_]) (f:=D.str) (l:=[_,_,_,_,_,_,_,_,_,_,_,_,_,_,_,_,_,_,_,_]) Tryz.runUnderlying174 Tryz.sizeOf9 Tryz.zeroValue9 rfl rfl rfl (fun _=>⟨rfl,rfl,rfl⟩) rfl) ?_;refine zq2 ?_
 cases hm;exact Ae zr1
def E0 (s1:(List UInt8)):Option Bool:=
 (DP).bind fun x1 =>
 (OU x1 s1).bind fun x2 =>
 some x2
theorem LC {s1:(List UInt8)} {r_1:Bool} (hm:E0 s1=some r_1):Fn0 Tryz.prog 167 [.str s1] (.bool r_1):=by
 unfold E0 at hm;refine Ad Tryz.func167 rfl Tryz.ntmps167 rfl fun H0 fr w0=>?_;refine zq6 ?_;obtain ⟨x1,hx1,hm⟩:=bS hm;refine zc0 (KB hx1) ?_;refine zq1 ?_;obtain ⟨x2,hx2,hm⟩:=bS hm;refine zc0 (Wr hx2) ?_;refine zq2 ?_
 cases hm;exact Ae zr1
def D5 (s1:(List UInt8)):Option Bool:=
 (Et s1).bind fun x1 =>
 (bif x1 then ((idx s1 0).bind fun c1 =>
 (C6 c1).bind fun x2 =>
 some x2) else (some false)).bind fun p1 =>
 (bif p1 then ((E0 s1).bind fun x3 =>
 some (!x3)) else (some false)).bind fun p2 =>
 some p2
theorem Ki {s1:(List UInt8)} {r_1:Bool} (hm:D5 s1=some r_1):Fn0 Tryz.prog 135 [.str s1] (.bool r_1):=by
 unfold D5 at hm;refine Ad Tryz.func135 rfl Tryz.ntmps135 rfl fun H0 fr w0=>?_;refine zq7 ?_;obtain ⟨x1,hx1,hm⟩:=bS hm;refine zc0 (Jg hx1) ?_;refine zq1 ?_;obtain ⟨p1,hp_1,hm⟩:=bS hm;refine AF [(0,_)] 4 9 p1 (t:=5) ⟨rfl,trivial⟩ rfl (fun hg_1 hk1=>?_) (fun hg_1 hk1=>?_) ?_
 ·replace hp_1:=AD hg_1 hp_1
  refine zq1 ?_;obtain ⟨c1,hx2,hp_1⟩:=bS hp_1;refine gWp rfl rfl rfl hg_1 rfl rfl (CK Tryz.runUnderlying9 rfl rfl hx2) ?_;obtain ⟨x2,hx3,hp_1⟩:=bS hp_1;refine zcw (Hx hx3) ?_;refine zq1 ?_;exact zgb hk1 hp_1
 ·replace hp_1:=AE hg_1 hp_1
  refine zq4 ?_;exact zgb hk1 hp_1
 refine zq1 ?_;obtain ⟨p2,hp_2,hm⟩:=bS hm;refine AF [] 4 14 p2 (t:=10) trivial rfl (fun hg_2 hk2=>?_) (fun hg_2 hk2=>?_) ?_
 ·replace hp_2:=AD hg_2 hp_2
  refine zq1 ?_;obtain ⟨x3,hx4,hp_2⟩:=bS hp_2;refine zcw (LC hx4) ?_;refine zq2 ?_;exact zgb hk2 hp_2
 ·replace hp_2:=AE hg_2 hp_2
  refine zq4 ?_;exact zgb hk2 hp_2
 refine zq2 ?_
 cases hm;exact Ae zr1
def EQ (s1:(List UInt8)):Option Bool:=
 (Et s1).bind fun x1 =>
 (bif x1 then ((idx s1 0).bind fun c1 =>
 (DJ c1).bind fun x2 =>
 some x2) else (some false)).bind fun p1 =>
 some p1
theorem LS {s1:(List UInt8)} {r_1:Bool} (hm:EQ s1=some r_1):Fn0 Tryz.prog 136 [.str s1] (.bool r_1):=by
 unfold EQ at hm;refine Ad Tryz.func136 rfl Tryz.ntmps136 rfl fun H0 fr w0=>?_;refine zq7 ?_;obtain ⟨x1,hx1,hm⟩:=bS hm;refine zc0 (Jg hx1) ?_;refine zq1 ?_;obtain ⟨p1,hp_1,hm⟩:=bS hm;refine AF [] 4 9 p1 (t:=5) trivial rfl (fun hg_1 hk1=>?_) (fun hg_1 hk1=>?_) ?_
 ·replace hp_1:=AD hg_1 hp_1
  refine zq1 ?_;obtain ⟨c1,hx2,hp_1⟩:=bS hp_1;refine gWp rfl rfl rfl hg_1 rfl rfl (CK Tryz.runUnderlying9 rfl rfl hx2) ?_;obtain ⟨x2,hx3,hp_1⟩:=bS hp_1;refine zcw (HA hx3) ?_;refine zq1 ?_;exact zgb hk1 hp_1
 ·replace hp_1:=AE hg_1 hp_1
  refine zq4 ?_;exact zgb hk1 hp_1
 refine zq2 ?_
 cases hm;exact Ae zr1
def Cm (n1:ANd):Nat->Int->Option (Out Bool Unit)
 | 0,_=>none
 | n+1,x1 =>
  bif (decide (x1<(n1.l.length:Int))) then
   (idx n1.l x1).bind fun x2 =>
   (bif (decide (n1.kind=7)) then ((D5 x2.name).bind fun x3 =>
   some (!x3)) else (some false)).bind fun p1 =>
   (bif p1 then (some true) else ((bif (decide (n1.kind=8)) then ((EQ x2.name).bind fun x4 =>
   some (!x4)) else (some false)).bind fun p3 =>
   some p3)).bind fun p2 =>
   bif p2 then
    some (Out.ret false)
   else
    bif (decide (0<x1)) then (grd (InR (x1 - 1)) <|
    (idx n1.l (x1 - 1)).bind fun x5 =>
    bif (!Op.bytesLess x5.name x2.name) then
     some (Out.ret false)
    else
     grd (InR (x1+1)) <|
     Cm n1 n (x1+1)) else (grd (InR (x1+1)) <|
    Cm n1 n (x1+1))
  else
   some (Out.go (()))
def ED (n1:ANd):Option Bool:=
 ((Cm n1 FU 0:Option (Out Bool Unit))).bind (fun oo=>oo.on (fun r1=>some r1) (fun _ =>
 some (decide ((n1.l.length:Int)<=30))))
theorem LX {n1:ANd} {r_1:Bool} (hm:ED n1=some r_1):Fn0 Tryz.prog 116 [ANd.d n1] (.bool r_1):=by
 unfold ED at hm;refine Ad Tryz.func116 rfl Tryz.ntmps116 rfl fun H0 fr w0=>?_;refine zq13 ?_;obtain ⟨o_1,hj1,hm1⟩:=bS hm;refine Ag [(1,_)] [] (fun (st:Unit) (hid:Unit)=>match st,hid with | _,_=>[]) (fun F (st:Unit) (hid:Unit)=>match st,hid with | _,_=>[]) (fun st=>Out.go (st)=o_1) ⟨rfl,trivial⟩ trivial ?_ ?_
 ·refine Am ?_
  refine Ah [(1,_),(6,_),(7,_)] [] (fun (st:Int) (hid:Unit)=>match st,hid with | x1,_=>[(8,.i64 x1)]) (fun F (st:Int) (hid:Unit)=>match st,hid with | x1,_=>[]) () hj1 (fun _=>rfl) ⟨rfl,rfl,rfl,trivial⟩ trivial ⟨rfl,trivial⟩ rfl ?_;rintro n x1 _ hj1;rw [Cm] at hj1;refine Ao (L':=[(8,.i64 x1),(1,_),(6,_),(7,_)]) (ms':=[]) rfl rfl ?_;refine zq5 ?_;refine zcn hj1 (fun hc1 hj1=>?_) (fun hc1 hj1=>?_)
  ·refine zq6 ?_
   obtain ⟨x2,hx1,hj1⟩:=bS hj1;refine zq2 ?_;refine Ss fun b1=>?_;refine zq1 ?_;refine zst 0 ?_;refine Ak (ms':=[box b1 71 [_,_]]) rfl ?_;refine zq8 ?_;obtain ⟨p1,hp_1,hj1⟩:=bS hj1;refine AF [(1,_),(3,_),(4,_),(6,_),(7,_),(8,_)] 5 21 p1 (t:=16) ⟨rfl,rfl,rfl,rfl,rfl,rfl,trivial⟩ rfl (fun hg_1 hk1=>?_) (fun hg_1 hk1=>?_) ?_
   ·replace hp_1:=AD hg_1 hp_1
    refine zq2 ?_;obtain ⟨x3,hx2,hp_1⟩:=bS hp_1;refine zcw (Ki hx2) ?_;refine zq2 ?_;exact zgb hk1 hp_1
   ·replace hp_1:=AE hg_1 hp_1
    refine zq5 ?_;exact zgb hk1 hp_1
   refine zq1 ?_;obtain ⟨p2,hp_2,hj1⟩:=bS hj1;refine AF [(1,_),(3,_),(4,_),(6,_),(7,_),(8,_)] 10 32 p2 (t:=22) ⟨rfl,rfl,rfl,rfl,rfl,rfl,trivial⟩ rfl (fun hg_2 hk2=>?_) (fun hg_2 hk2=>?_) ?_
   ·replace hp_2:=AD hg_2 hp_2
    refine zq10 ?_;exact zgb hk2 hp_2
   ·replace hp_2:=AE hg_2 hp_2
    refine zq4 ?_;obtain ⟨p3,hp_3,hp_2⟩:=bS hp_2;refine AF [(1,_),(3,_),(4,_),(6,_),(7,_),(8,_),(22,_)] 5 31 p3 (t:=26) ⟨rfl,rfl,rfl,rfl,rfl,rfl,rfl,trivial⟩ rfl (fun hg_3 hk3=>?_) (fun hg_3 hk3=>?_) ?_
    ·replace hp_3:=AD hg_3 hp_3
     refine zq2 ?_;obtain ⟨x4,hx3,hp_3⟩:=bS hp_3;refine zcw (LS hx3) ?_;refine zq2 ?_;exact zgb hk3 hp_3
    ·replace hp_3:=AE hg_3 hp_3
     refine zq5 ?_;exact zgb hk3 hp_3
    refine zq1 ?_;exact zgb hk2 hp_2
   refine gNl ?_;refine zcn hj1 (fun hc2 hj1=>?_) (fun hc2 hj1=>?_)
   ·refine zq4 ?_
    refine Ae ?_;obtain rfl:=Ac hj1
    replace hm1:=Bu hm1
    cases hm1;exact zr1
   ·refine zq2 ?_
    rcases CQ hj1 with ⟨hg_4,hj1⟩ | ⟨hg_4,hj1⟩
    ·
     skip
     obtain ⟨hg4,hj1⟩:=Aa hj1;obtain ⟨x5,hx5,hj1⟩:=bS hj1;refine zdr 14 ?_;refine zq16 ?_;refine zcn hj1 (fun hc3 hj1=>?_) (fun hc3 hj1=>?_)
     ·refine zq4 ?_
      refine Ae ?_;obtain rfl:=Ac hj1
      replace hm1:=Bu hm1
      cases hm1;exact zr1
     ·refine zq2 ?_
      obtain ⟨hg6,hj1⟩:=Aa hj1;refine zq3 ?_;exact ⟨_,(),hj1,⟨rfl,trivial⟩,⟨rfl,rfl,rfl,trivial⟩,[_],rfl⟩
    ·
     skip
     refine zdr 14 ?_;refine zq16 ?_;refine A3 rfl rfl ?_;refine zq2 ?_;obtain ⟨hg7,hj1⟩:=Aa hj1;refine zq3 ?_;exact ⟨_,(),hj1,⟨rfl,trivial⟩,⟨rfl,rfl,rfl,trivial⟩,[_],rfl⟩
  ·refine Ar ?_
   exact ⟨_,(),Ac hj1,trivial,⟨rfl,trivial⟩,[],rfl⟩
 ·rintro _ _ hst
  subst hst
  replace hm1:=CT hm1
  refine Al (L':=[(1,_)]) (ms':=[]) rfl rfl ?_;refine zq8 ?_
  cases hm1;exact Ae zr1
def E4 (s1:(List Int)) (f1:(Int->Option Bool)):Nat->Int->Option (Out Int Unit)
 | 0,_=>none
 | n+1,x1 =>
  bif (decide (x1<(s1.length:Int))) then
   (idx s1 x1).bind fun x2 =>
   (f1 x2).bind fun x3 =>
   bif x3 then
    some (Out.ret x1)
   else
    grd (InR (x1+1)) <|
    E4 s1 f1 n (x1+1)
  else
   some (Out.go (()))
def Ol (s1:(List Int)) (f1:(Int->Option Bool)):Option Int:=
 ((E4 s1 f1 FU 0:Option (Out Int Unit))).bind (fun oo=>oo.on (fun r1=>some r1) (fun _ =>
 some (-1)))
theorem V6 {s1:(List Int)} {f1:(Int->Option Bool)} {r_1:Int} {fv_f1:D} (hff1:IX Tryz.prog fv_f1 D.i64 D.bool f1) (hm:Ol s1 f1=some r_1):Fn0 Tryz.prog 92 [.list 1 D.i64 s1,fv_f1] (.i64 r_1):=by
 unfold Ol at hm;refine Ad Tryz.func92 rfl Tryz.ntmps92 rfl fun H0 fr w0=>?_;refine zq11 ?_;obtain ⟨o_1,hj1,hm1⟩:=bS hm;refine Ag [] [] (fun (st:Unit) (hid:Unit)=>match st,hid with | _,_=>[]) (fun F (st:Unit) (hid:Unit)=>match st,hid with | _,_=>[]) (fun st=>Out.go (st)=o_1) trivial trivial ?_ ?_
 ·refine Am ?_
  refine Ah [(0,_),(1,_),(7,_)] [] (fun (st:Int) (hid:Unit)=>match st,hid with | x1,_=>[(8,.i64 x1)]) (fun F (st:Int) (hid:Unit)=>match st,hid with | x1,_=>[]) () hj1 (fun _=>rfl) ⟨rfl,rfl,rfl,trivial⟩ trivial ⟨rfl,trivial⟩ rfl ?_;rintro n x1 _ hj1;rw [E4] at hj1;refine Ao (L':=[(8,.i64 x1),(0,_),(1,_),(7,_)]) (ms':=[]) rfl rfl ?_;refine zq5 ?_;refine zcn hj1 (fun hc1 hj1=>?_) (fun hc1 hj1=>?_)
  ·refine zq13 ?_
   obtain ⟨x2,hx1,hj1⟩:=bS hj1;refine zq2 ?_;obtain ⟨x3,hx2,hj1⟩:=bS hj1;refine Ai rfl rfl rfl (Hd rfl rfl (hff1 _ _ hx2)) ?_;refine gNl ?_;refine zcn hj1 (fun hc2 hj1=>?_) (fun hc2 hj1=>?_)
   ·refine zq5 ?_
    refine Ae ?_;obtain rfl:=Ac hj1
    replace hm1:=Bu hm1
    cases hm1;exact zr1
   ·refine zq2 ?_
    obtain ⟨hg3,hj1⟩:=Aa hj1;refine zq3 ?_;exact ⟨_,(),hj1,⟨rfl,trivial⟩,⟨rfl,rfl,rfl,trivial⟩,[],rfl⟩
  ·refine Ar ?_
   exact ⟨_,(),Ac hj1,trivial,trivial,[],rfl⟩
 ·rintro _ _ hst
  subst hst
  replace hm1:=CT hm1
  refine Al (L':=[]) (ms':=[]) rfl rfl ?_;refine zq4 ?_
  cases hm1;exact Ae zr1
def JN (s1:(List Int)) (f1:(Int->Option Bool)):Option Bool:=
 (Ol s1 f1).bind fun x1 =>
 some (decide (0<=x1))
theorem Vr {s1:(List Int)} {f1:(Int->Option Bool)} {r_1:Bool} {fv_f1:D} (hff1:IX Tryz.prog fv_f1 D.i64 D.bool f1) (hm:JN s1 f1=some r_1):Fn0 Tryz.prog 117 [.list 1 D.i64 s1,fv_f1] (.bool r_1):=by
 unfold JN at hm;refine Ad Tryz.func117 rfl Tryz.ntmps117 rfl fun H0 fr w0=>?_;refine zq8 ?_;obtain ⟨x1,hx1,hm⟩:=bS hm;refine zc0 (V6 hff1 hx1) ?_;refine zq3 ?_
 cases hm;exact Ae zr1
def CV (n1:ANd):Nat->(Int×(List Int))->Option (List Int)
 | 0,_=>none
 | n+1,(x3,l2) =>
  bif (decide (x3<(n1.l.length:Int))) then
   (idx n1.l x3).bind fun x4 =>
   grd ((l2.length+([x4.at_]:List _).length)*8<=140737488355328) <|
   grd (InR (x3+1)) <|
   CV n1 n ((x3+1),(l2++[x4.at_]))
  else
   some l2
def DI (n1:ANd):Option (List Int):=
 (C4 n1.kind).bind fun x1 =>
 bif x1 then
  some [n1.a,n1.b]
 else
  (Ek n1.kind).bind fun x2 =>
  bif x2 then
   (CV n1 FU (0,[]):Option (List Int)).bind fun l1 =>
   some l1
  else
   some []
theorem Hn {n1:ANd} {r_1:(List Int)} (hm:DI n1=some r_1):Fn0 Tryz.prog 118 [ANd.d n1] (.list 1 D.i64 r_1):=by
 unfold DI at hm;refine Ad Tryz.func118 rfl Tryz.ntmps118 rfl fun H0 fr w0=>?_;refine zq4 ?_;refine Ap (nilE (i:=2) (sz:=1) (f:=D.i64) rfl).refines ?_;refine zq6 ?_;obtain ⟨x1,hx1,hm⟩:=bS hm;refine zc0 (HB hx1) ?_;refine gNl ?_;refine zcn hm (fun hc1 hm=>?_) (fun hc1 hm=>?_)
 ·refine zq6 ?_
  refine Ai rfl rfl rfl (zs2 D.i64) ?_;refine zq2 ?_
  cases hm;exact Ae zr1
 ·refine zq4 ?_
  refine Ap (Az (T:=3) (sz:=1) (f:=D.i64)) ?_;refine zq6 ?_;obtain ⟨x2,hx2,hm⟩:=bS hm;refine zc0 (JF hx2) ?_;refine gNl ?_;refine zcn hm (fun hc2 hm=>?_) (fun hc2 hm=>?_)
  ·refine zq7 ?_
   obtain ⟨o_1,hj1,hm1⟩:=bS hm;refine Ag [] [] (fun (st:(List Int)) (hid:(Option Addr×Nat))=>match st,hid with | l1,(a_r1,cap_r1)=>[(3,.v (.slice a_r1 l1.length cap_r1))]) (fun F (st:(List Int)) (hid:(Option Addr×Nat))=>match st,hid with | l1,(a_r1,cap_r1)=>[row a_r1 cap_r1 3 1 D.i64 l1]) (fun st=>st=o_1) trivial trivial ?_ ?_
   ·refine Am ?_
    refine Ah [(18,_),(19,_)] [] (fun (st:(Int×(List Int))) (hid:(Option Addr×Nat))=>match st,hid with | (x3,l2),(a_r1,cap_r1)=>[(3,.v (.slice a_r1 l2.length cap_r1)),(20,.i64 x3)]) (fun F (st:(Int×(List Int))) (hid:(Option Addr×Nat))=>match st,hid with | (x3,l2),(a_r1,cap_r1)=>[row a_r1 cap_r1 3 1 D.i64 l2]) (_,_) hj1 (fun _=>rfl) ⟨rfl,rfl,trivial⟩ trivial ⟨rfl,rfl,trivial⟩ rfl ?_;rintro n ⟨x3,l2⟩ ⟨a_r1,cap_r1⟩ hj1;rw [CV] at hj1;refine Ao (L':=[(3,.v (.slice a_r1 l2.length cap_r1)),(20,.i64 x3),(18,_),(19,_)]) (ms':=[row a_r1 cap_r1 3 1 D.i64 l2]) rfl rfl ?_;refine zq5 ?_;refine zcn hj1 (fun hc3 hj1=>?_) (fun hc3 hj1=>?_)
    ·refine zq5 ?_
     obtain ⟨x4,hx3,hj1⟩:=bS hj1;refine zq2 ?_;refine Ss fun b1=>?_;refine zst 0 ?_;refine Ak (ms':=[box b1 71 [_,_],_]) rfl ?_;refine zq5 ?_;refine Ai rfl rfl rfl (zs1 D.i64) ?_;obtain ⟨hg4,hj1⟩:=Aa hj1;refine zap 1 hg4 fun a_r1 cap_r1=>?_;refine Ak (ms':=[box b1 71 [_,_],_]) rfl ?_;refine zq3 ?_;obtain ⟨hg5,hj1⟩:=Aa hj1;refine zq3 ?_;exact ⟨_,(_,_),hj1,⟨rfl,rfl,trivial⟩,⟨rfl,rfl,trivial⟩,[_],rfl⟩
    ·refine Ar ?_
     exact ⟨_,(_,_),Ac hj1,⟨rfl,trivial⟩,trivial,[],rfl⟩
   ·rintro l1 ⟨a_r1,cap_r1⟩ hst
    subst hst;refine Al (L':=[(3,.v (.slice a_r1 l1.length cap_r1))]) (ms':=[row a_r1 cap_r1 3 1 D.i64 l1]) rfl rfl ?_;refine zq5 ?_;refine BM (peekE (i:=2) 0 rfl rfl rfl).refines ?_
    cases hm1;exact Ae zr1
  ·refine zq6 ?_
   refine BM (peekE (i:=2) 0 rfl rfl rfl).refines ?_
   cases hm;exact Ae zr1
def CW (k1:Int) (c1:Int):Option Bool:=
 some ((decide (k1<0))||(decide (c1<=k1)))
theorem KD {k1:Int} {c1:Int} {r_1:Bool} (hm:CW k1 c1=some r_1):Fn0 Tryz.prog 119 [.i64 k1,.ref (.i64 c1)] (.bool r_1):=by
 unfold CW at hm;refine Ad Tryz.func119 rfl Tryz.ntmps119 rfl fun H0 fr w0=>?_;refine zq9 ?_
 apply AX [] 4 10 (t:=6) trivial rfl
 ·intro hg_1 hk1
  refine zq4 ?_;exact zgm hk1
 ·intro hg_1 hk1
  refine zq4 ?_;exact zgm hk1
 refine zq2 ?_
 cases hm;exact Ae zr1
def EF (n1:ANd) (all1:Int):Option Bool:=
 bif ((decide (n1.kind<1))||(decide (11<n1.kind))) then
  some false
 else
  (C4 n1.kind).bind fun x1 =>
  bif ((!x1)&&((!decide (n1.b=0))||((!decide (n1.kind=11))&&(!decide (n1.a=0))))) then
   some false
  else
   bif ((decide (n1.kind=11))&&((decide (n1.a<0))||(decide (999<n1.a)))) then
    some false
   else
    (Ek n1.kind).bind fun x2 =>
    (bif ((!x2)&&(decide (0<(n1.l.length:Int)))) then (some true) else ((ED n1).bind fun x3 =>
    some (!x3))).bind fun p1 =>
    bif p1 then
     some false
    else
     (DI n1).bind fun x4 =>
     (JN x4 (fun y0=>CW y0 all1)).bind fun x5 =>
     some (!x5)
theorem LU {n1:ANd} {all1:Int} {r_1:Bool} (hm:EF n1 all1=some r_1):Fn0 Tryz.prog 83 [ANd.d n1,.i64 all1] (.bool r_1):=by
 unfold EF at hm;refine Ad Tryz.func83 rfl Tryz.ntmps83 rfl fun H0 fr w0=>?_;refine zq14 ?_
 apply AX [(2,_),(3,_)] 4 13 (t:=9) ⟨rfl,rfl,trivial⟩ rfl
 ·intro hg_1 hk1
  refine zq4 ?_;exact zgm hk1
 ·intro hg_1 hk1
  refine zq4 ?_;exact zgm hk1
 refine zq2 ?_;refine zcn hm (fun hc1 hm=>?_) (fun hc1 hm=>?_)
 ·refine zq4 ?_
  cases hm;exact Ae zr1
 ·refine zq4 ?_
  obtain ⟨x1,hx1,hm⟩:=bS hm;refine zc0 (HB hx1) ?_;refine zq2 ?_
  apply Bm [(2,_),(3,_)] 14 33 (t:=19) ⟨rfl,rfl,trivial⟩ rfl
  ·intro hg_2 hk2
   refine zq4 ?_
   apply AX [(2,_),(3,_),(19,_)] 9 32 (t:=23) ⟨rfl,rfl,rfl,trivial⟩ rfl
   ·intro hg_3 hk3
    refine zq4 ?_
    apply Bm [(2,_),(3,_),(19,_),(23,_)] 4 31 (t:=27) ⟨rfl,rfl,rfl,rfl,trivial⟩ rfl
    ·intro hg_4 hk4
     refine zq4 ?_;exact zgm hk4
    ·intro hg_4 hk4
     refine zq4 ?_;exact zgm hk4
    refine zq1 ?_;exact zgm hk3
   ·intro hg_3 hk3
    refine zq9 ?_;exact zgm hk3
   refine zq1 ?_;exact zgm hk2
  ·intro hg_2 hk2
   refine zq14 ?_;exact zgm hk2
  refine zq2 ?_;refine zcn hm (fun hc2 hm=>?_) (fun hc2 hm=>?_)
  ·refine zq4 ?_
   cases hm;exact Ae zr1
  ·refine zq6 ?_
   apply Bm [(2,_),(3,_)] 9 47 (t:=38) ⟨rfl,rfl,trivial⟩ rfl
   ·intro hg_5 hk5
    refine zq4 ?_
    apply AX [(2,_),(3,_),(38,_)] 4 46 (t:=42) ⟨rfl,rfl,rfl,trivial⟩ rfl
    ·intro hg_6 hk6
     refine zq4 ?_;exact zgm hk6
    ·intro hg_6 hk6
     refine zq4 ?_;exact zgm hk6
    refine zq1 ?_;exact zgm hk5
   ·intro hg_5 hk5
    refine zq9 ?_;exact zgm hk5
   refine zq2 ?_;refine zcn hm (fun hc3 hm=>?_) (fun hc3 hm=>?_)
   ·refine zq4 ?_
    cases hm;exact Ae zr1
   ·refine zq4 ?_
    obtain ⟨x2,hx2,hm⟩:=bS hm;refine zc0 (JF hx2) ?_;refine zq2 ?_
    apply Bm [(2,_),(3,_)] 5 58 (t:=53) ⟨rfl,rfl,trivial⟩ rfl
    ·intro hg_7 hk7
     refine zq5 ?_;exact zgm hk7
    ·intro hg_7 hk7
     refine zq5 ?_;exact zgm hk7
    refine zq1 ?_;obtain ⟨p1,hp_8,hm⟩:=bS hm;refine AF [(2,_),(3,_)] 4 63 p1 (t:=59) ⟨rfl,rfl,trivial⟩ rfl (fun hg_8 hk8=>?_) (fun hg_8 hk8=>?_) ?_
    ·replace hp_8:=AD hg_8 hp_8
     refine zq4 ?_;exact zgb hk8 hp_8
    ·replace hp_8:=AE hg_8 hp_8
     refine zq1 ?_;obtain ⟨x3,hx3,hp_8⟩:=bS hp_8;refine zcw (LX hx3) ?_;refine zq2 ?_;exact zgb hk8 hp_8
    refine zq2 ?_;refine zcn hm (fun hc4 hm=>?_) (fun hc4 hm=>?_)
    ·refine zq4 ?_
     cases hm;exact Ae zr1
    ·refine zq4 ?_
     obtain ⟨x4,hx4,hm⟩:=bS hm;refine zc0 (Hn hx4) ?_;refine Ai rfl rfl rfl (De rfl rfl) ?_;obtain ⟨x5,hx5,hm⟩:=bS hm;refine Ai rfl rfl rfl (Bv Tryz.call117 rfl (Vr (fun _ _ h=>IQ Tryz.call119 (KD h)) hx5)) ?_;refine zq3 ?_
     cases hm;exact Ae zr1
def C9 (n1:ANd) (c1:ATy):Option Bool:=
 (EF n1 (c1.l.length:Int)).bind fun x1 =>
 some (!x1)
theorem LV {n1:ANd} {c1:ATy} {r_1:Bool} (hm:C9 n1 c1=some r_1):Fn0 Tryz.prog 82 [ANd.d n1,.ref (ATy.d c1)] (.bool r_1):=by
 unfold C9 at hm;refine Ad Tryz.func82 rfl Tryz.ntmps82 rfl fun H0 fr w0=>?_;refine zq11 ?_;obtain ⟨x1,hx1,hm⟩:=bS hm;refine zc0 (LU hx1) ?_;refine zq3 ?_
 cases hm;exact Ae zr1
def EI (kind1:Int):Option Bool:=
 some ((decide (kind1=9))||(decide (kind1=10)))
theorem KE {kind1:Int} {r_1:Bool} (hm:EI kind1=some r_1):Fn0 Tryz.prog 121 [.i64 kind1] (.bool r_1):=by
 unfold EI at hm;refine Ad Tryz.func121 rfl Tryz.ntmps121 rfl fun H0 fr w0=>?_;refine zq9 ?_
 apply AX [] 3 8 (t:=5) trivial rfl
 ·intro hg_1 hk1
  refine zq3 ?_;exact zgm hk1
 ·intro hg_1 hk1
  refine zq3 ?_;exact zgm hk1
 refine zq2 ?_
 cases hm;exact Ae zr1
def Br (self:Int->(List Int)->Option (Bool×(List Int))) (x7:(List Int)):Nat->(Int×(List Int))->Option (Out (Bool×(List Int)) (List Int))
 | 0,_=>none
 | n+1,(x8,l2) =>
  bif (decide (x8<(x7.length:Int))) then
   (idx x7 x8).bind fun x9 =>
   (self x9 l2).bind fun (x10,z2) =>
   bif (!x10) then
    some (Out.ret (false,z2))
   else
    grd (InR (x8+1)) <|
    Br self x7 n ((x8+1),z2)
  else
   some (Out.go (l2))
def B6 (self:Int->(List Int)->Option (Bool×(List Int))) (i1:Int) (z1:(List Int)) (c1:ATy):Option (Bool×(List Int)):=
 (idx c1.l i1).bind fun x1 =>
 (EI x1.kind).bind fun x2 =>
 (bif (!x2) then (some true) else ((idx z1 i1).bind fun x3 =>
 some (decide (x3=2)))).bind fun p1 =>
 bif p1 then
  some (true,z1)
 else
  (idx z1 i1).bind fun x4 =>
  bif (decide (x4=1)) then
   some (false,z1)
  else
   (idx z1 i1).bind fun x5 =>
   (idx c1.l i1).bind fun x6 =>
   (DI x6).bind fun x7 =>
   ((Br self x7 FU (0,(z1.set (i1).toNat 1)):Option (Out (Bool×(List Int)) (List Int)))).bind (fun oo=>oo.on (fun r1=>some r1) (fun l1 =>
   (idx l1 i1).bind fun x11 =>
   some (true,(l1.set (i1).toNat 2))))
def A9 (c1:ATy):Nat->Int->(List Int)->Option (Bool×(List Int))
 | 0=>fun _ _=>none
 | n+1=>fun i1 z1=>B6 (A9 c1 n) i1 z1 c1
theorem Ho {c1:ATy} (self:Int->(List Int)->Option (Bool×(List Int))) (hself:∀ {i1:Int} {z1:(List Int)} {r_1:Bool} {s_1:(List Int)} {b_q2:Nat} {a_q2c0:Option Addr} {m_q2c0:Nat} {cap_q2c0:Nat} {b_q3:Nat},self i1 z1=some (r_1,s_1)->Go.V.Fn Tryz.prog 120 [.i64 i1,.ref (ATy.d c1),.v (.pointer (some ⟨b_q2,0,none⟩)),.v (.pointer (some ⟨b_q3,0,none⟩))] [box b_q2 43 [.v (.slice a_q2c0 m_q2c0 cap_q2c0)],arr a_q2c0 m_q2c0 cap_q2c0 3 1 D.i64 z1,box b_q3 109 [.clo (.func 120) [] [.ref (ATy.d c1),.v (.pointer (some ⟨b_q2,0,none⟩)),.v (.pointer (some ⟨b_q3,0,none⟩))]]] (fun d ms'=>d = .bool r_1/\ms'=[box b_q2 43 [.v (.slice a_q2c0 m_q2c0 cap_q2c0)],arr a_q2c0 m_q2c0 cap_q2c0 3 1 D.i64 s_1,box b_q3 109 [.clo (.func 120) [] [.ref (ATy.d c1),.v (.pointer (some ⟨b_q2,0,none⟩)),.v (.pointer (some ⟨b_q3,0,none⟩))]]])) {i1:Int} {z1:(List Int)} {r_1:Bool} {s_1:(List Int)} {b_q2:Nat} {a_q2c0:Option Addr} {m_q2c0:Nat} {cap_q2c0:Nat} {b_q3:Nat} (hm:B6 self i1 z1 c1=some (r_1,s_1)):Go.V.Fn Tryz.prog 120 [.i64 i1,.ref (ATy.d c1),.v (.pointer (some ⟨b_q2,0,none⟩)),.v (.pointer (some ⟨b_q3,0,none⟩))] [box b_q2 43 [.v (.slice a_q2c0 m_q2c0 cap_q2c0)],arr a_q2c0 m_q2c0 cap_q2c0 3 1 D.i64 z1,box b_q3 109 [.clo (.func 120) [] [.ref (ATy.d c1),.v (.pointer (some ⟨b_q2,0,none⟩)),.v (.pointer (some ⟨b_q3,0,none⟩))]]] (fun d ms'=>d = .bool r_1/\ms'=[box b_q2 43 [.v (.slice a_q2c0 m_q2c0 cap_q2c0)],arr a_q2c0 m_q2c0 cap_q2c0 3 1 D.i64 s_1,box b_q3 109 [.clo (.func 120) [] [.ref (ATy.d c1),.v (.pointer (some ⟨b_q2,0,none⟩)),.v (.pointer (some ⟨b_q3,0,none⟩))]]]):=by
 unfold B6 at hm;refine Ad Tryz.func120 rfl Tryz.ntmps120 rfl fun H0 fr w0=>?_;refine zq10 ?_;obtain ⟨x1,hx1,hm⟩:=bS hm;refine zq3 ?_;obtain ⟨x2,hx2,hm⟩:=bS hm;refine zc0 (KE hx2) ?_;refine zq2 ?_;obtain ⟨p1,hp_1,hm⟩:=bS hm;refine AF [(0,_),(1,_),(2,_),(3,_)] 6 22 p1 (t:=16) ⟨rfl,rfl,rfl,rfl,trivial⟩ rfl (fun hg_1 hk1=>?_) (fun hg_1 hk1=>?_) ?_
 ·replace hp_1:=AD hg_1 hp_1
  refine zq6 ?_;exact zgb hk1 hp_1
 ·replace hp_1:=AE hg_1 hp_1
  refine zq2 ?_;obtain ⟨x3,hx3,hp_1⟩:=bS hp_1;refine gWp rfl rfl rfl hg_1 rfl rfl (Af 1 Tryz.runUnderlying43 Tryz.sizeOf3 rfl rfl rfl hx3) ?_;refine gWp rfl rfl rfl hg_1 rfl rfl (AL (off:=0) 1 Tryz.isAgg3 rfl rfl (Av hx3).2 rfl rfl rfl) ?_;refine zq2 ?_;exact zgb hk1 hp_1
 refine gNl ?_;refine zcn hm (fun hc1 hm=>?_) (fun hc1 hm=>?_)
 ·refine zq4 ?_
  refine Ae ?_
  have hq1:=Ac hm
  obtain ⟨rfl,rfl⟩:=Prod.mk.inj hq1;exact retK (BA rfl (B5 rfl) (permA 0 rfl (permA 0 rfl (permA 0 rfl permN)))) ⟨rfl,rfl⟩
 ·refine zq6 ?_
  obtain ⟨x4,hx4,hm⟩:=bS hm;refine Ai rfl rfl rfl (Af 1 Tryz.runUnderlying43 Tryz.sizeOf3 rfl rfl rfl hx4) ?_;refine Ai rfl rfl rfl (AL (off:=0) 1 Tryz.isAgg3 rfl rfl (Av hx4).2 rfl rfl rfl) ?_;refine zq2 ?_;refine zcn hm (fun hc2 hm=>?_) (fun hc2 hm=>?_)
  ·refine zq4 ?_
   refine Ae ?_
   have hq1:=Ac hm
   obtain ⟨rfl,rfl⟩:=Prod.mk.inj hq1;exact retK (BA rfl (B5 rfl) (permA 0 rfl (permA 0 rfl (permA 0 rfl permN)))) ⟨rfl,rfl⟩
  ·refine zq5 ?_
   obtain ⟨x5,hx5,hm⟩:=bS hm;refine Ai rfl rfl rfl (Af 1 Tryz.runUnderlying43 Tryz.sizeOf3 rfl rfl rfl hx5) ?_;refine H6 rfl rfl (AV (off:=0) (z':=1) 1 Tryz.sizeOf3 rfl rfl (Av hx5).2 rfl rfl rfl rfl rfl rfl (nB rfl) rfl rfl) ?_;rintro _ _ rfl;refine Ak (ms':=[box b_q2 43 [_],_,box b_q3 109 [_]]) rfl ?_;refine zq7 ?_;obtain ⟨x6,hx6,hm⟩:=bS hm;refine zq2 ?_;obtain ⟨x7,hx7,hm⟩:=bS hm;refine zc0 (Hn hx7) ?_;refine zq3 ?_;obtain ⟨o_1,hj1,hm1⟩:=bS hm;refine Ag [(0,_),(2,_)] [(2,_)] (fun (st:(List Int)) (hid:Unit)=>match st,hid with | l1,_=>[]) (fun F (st:(List Int)) (hid:Unit)=>match st,hid with | l1,_=>[box b_q2 43 [.v (.slice a_q2c0 m_q2c0 cap_q2c0)],arr a_q2c0 m_q2c0 cap_q2c0 3 1 D.i64 l1,(nthF F 0)]) (fun st=>Out.go (st)=o_1) ⟨rfl,rfl,trivial⟩ ⟨rfl,trivial⟩ ?_ ?_
   ·refine Am ?_
    refine Ah [(0,_),(2,_),(3,_),(36,_),(37,_)] [(2,_)] (fun (st:(Int×(List Int))) (hid:Unit)=>match st,hid with | (x8,l2),_=>[(38,.i64 x8)]) (fun F (st:(Int×(List Int))) (hid:Unit)=>match st,hid with | (x8,l2),_=>[box b_q2 43 [.v (.slice a_q2c0 m_q2c0 cap_q2c0)],arr a_q2c0 m_q2c0 cap_q2c0 3 1 D.i64 l2,(nthF F 0)]) () hj1 (fun _=>rfl) ⟨rfl,rfl,rfl,rfl,rfl,trivial⟩ ⟨rfl,trivial⟩ ⟨rfl,trivial⟩ rfl ?_;rintro n ⟨x8,l2⟩ ⟨⟩ hj1;rw [Br] at hj1;refine Ao (L':=[(38,.i64 x8),(0,_),(2,_),(3,_),(36,_),(37,_)]) (ms':=[box b_q2 43 [.v (.slice a_q2c0 m_q2c0 cap_q2c0)],arr a_q2c0 m_q2c0 cap_q2c0 3 1 D.i64 l2,_]) rfl rfl ?_;refine zq5 ?_;refine zcn hj1 (fun hc3 hj1=>?_) (fun hc3 hj1=>?_)
    ·refine zq5 ?_
     obtain ⟨x9,hx8,hj1⟩:=bS hj1;refine zq8 ?_;obtain ⟨⟨x10,z2⟩,hx9,hj1⟩:=bS hj1;refine AG rfl rfl rfl (Km [0,1,2] rfl rfl rfl (HN rfl (HN rfl (HN rfl Nw))) (IQ Tryz.call120 (hself hx9)) (by rintro _ _ ⟨rfl,rfl⟩;rfl)) ?_;rintro _ _ ⟨_,⟨rfl,rfl⟩,rfl⟩;refine Ak (ms':=[box b_q2 43 [_],_,box b_q3 109 [_]]) rfl ?_;refine zq2 ?_;refine zcn hj1 (fun hc4 hj1=>?_) (fun hc4 hj1=>?_)
     ·refine zq4 ?_
      refine Ae ?_;obtain rfl:=Ac hj1
      replace hm1:=Bu hm1
      have hq1:=Ac hm1
      obtain ⟨rfl,rfl⟩:=Prod.mk.inj hq1;exact retK (BA rfl (B5 rfl) (permA 0 rfl (permA 0 rfl (permA 0 rfl permN)))) ⟨rfl,rfl⟩
     ·refine zq2 ?_
      obtain ⟨hg10,hj1⟩:=Aa hj1;refine zq3 ?_;exact ⟨_,(),hj1,⟨rfl,trivial⟩,⟨rfl,rfl,rfl,rfl,rfl,trivial⟩,[],rfl⟩
    ·refine Ar ?_
     exact ⟨_,(),Ac hj1,trivial,⟨rfl,rfl,trivial⟩,[],rfl⟩
   ·rintro l1 ⟨⟩ hst
    subst hst
    replace hm1:=CT hm1
    refine Al (L':=[(0,_),(2,_)]) (ms':=[box b_q2 43 [.v (.slice a_q2c0 m_q2c0 cap_q2c0)],arr a_q2c0 m_q2c0 cap_q2c0 3 1 D.i64 l1,_]) rfl rfl ?_;refine zq4 ?_;obtain ⟨x11,hx11,hm1⟩:=bS hm1;refine Ai rfl rfl rfl (Af 1 Tryz.runUnderlying43 Tryz.sizeOf3 rfl rfl rfl hx11) ?_;refine H6 rfl rfl (AV (off:=0) (z':=2) 1 Tryz.sizeOf3 rfl rfl (Av hx11).2 rfl rfl rfl rfl rfl rfl (nB rfl) rfl rfl) ?_;rintro _ _ rfl;refine Ak (ms':=[box b_q2 43 [_],_,box b_q3 109 [_]]) rfl ?_;refine zq5 ?_;refine Ae ?_
    have hq1:=Ac hm1
    obtain ⟨rfl,rfl⟩:=Prod.mk.inj hq1;exact retK (BA rfl (B5 rfl) (permA 0 rfl (permA 0 rfl (permA 0 rfl permN)))) ⟨rfl,rfl⟩
theorem Fg {c1:ATy}:∀ (n:Nat) {i1:Int} {z1:(List Int)} {r_1:Bool} {s_1:(List Int)} {b_q2:Nat} {a_q2c0:Option Addr} {m_q2c0:Nat} {cap_q2c0:Nat} {b_q3:Nat},A9 c1 n i1 z1=some (r_1,s_1)->Go.V.Fn Tryz.prog 120 [.i64 i1,.ref (ATy.d c1),.v (.pointer (some ⟨b_q2,0,none⟩)),.v (.pointer (some ⟨b_q3,0,none⟩))] [box b_q2 43 [.v (.slice a_q2c0 m_q2c0 cap_q2c0)],arr a_q2c0 m_q2c0 cap_q2c0 3 1 D.i64 z1,box b_q3 109 [.clo (.func 120) [] [.ref (ATy.d c1),.v (.pointer (some ⟨b_q2,0,none⟩)),.v (.pointer (some ⟨b_q3,0,none⟩))]]] (fun d ms'=>d = .bool r_1/\ms'=[box b_q2 43 [.v (.slice a_q2c0 m_q2c0 cap_q2c0)],arr a_q2c0 m_q2c0 cap_q2c0 3 1 D.i64 s_1,box b_q3 109 [.clo (.func 120) [] [.ref (ATy.d c1),.v (.pointer (some ⟨b_q2,0,none⟩)),.v (.pointer (some ⟨b_q3,0,none⟩))]]])
 | 0=>by intros;rename_i h;cases h
 | n+1=>by intros;rename_i h;exact Ho (A9 c1 n) (fun h=>Fg n h) h
theorem HG {c1:ATy} {i1:Int} {z1:(List Int)} {r_1:Bool} {s_1:(List Int)} {b_q2:Nat} {a_q2c0:Option Addr} {m_q2c0:Nat} {cap_q2c0:Nat} {b_q3:Nat} (hm:A9 c1 FU i1 z1=some (r_1,s_1)):Go.V.Fn Tryz.prog 120 [.i64 i1,.ref (ATy.d c1),.v (.pointer (some ⟨b_q2,0,none⟩)),.v (.pointer (some ⟨b_q3,0,none⟩))] [box b_q2 43 [.v (.slice a_q2c0 m_q2c0 cap_q2c0)],arr a_q2c0 m_q2c0 cap_q2c0 3 1 D.i64 z1,box b_q3 109 [.clo (.func 120) [] [.ref (ATy.d c1),.v (.pointer (some ⟨b_q2,0,none⟩)),.v (.pointer (some ⟨b_q3,0,none⟩))]]] (fun d ms'=>d = .bool r_1/\ms'=[box b_q2 43 [.v (.slice a_q2c0 m_q2c0 cap_q2c0)],arr a_q2c0 m_q2c0 cap_q2c0 3 1 D.i64 s_1,box b_q3 109 [.clo (.func 120) [] [.ref (ATy.d c1),.v (.pointer (some ⟨b_q2,0,none⟩)),.v (.pointer (some ⟨b_q3,0,none⟩))]]]):=Fg FU hm
def BE (t1:ATy):Nat->(Int×(List Int))->Option (Out Bool (List Int))
 | 0,_=>none
 | n+1,(x1,l2) =>
  bif (decide (x1<(t1.l.length:Int))) then
   (A9 t1 FU x1 l2).bind fun (x2,z1) =>
   bif (!x2) then
    some (Out.ret false)
   else
    grd (InR (x1+1)) <|
    BE t1 n ((x1+1),z1)
  else
   some (Out.go (l2))
def Cz (t1:ATy):Option Bool:=
 grd (0<=(t1.l.length:Int)) <|
 grd (((t1.l.length:Int)).toNat*8<=140737488355328) <|
 ((BE t1 FU (0,(List.replicate ((t1.l.length:Int)).toNat (0:Int))):Option (Out Bool (List Int)))).bind (fun oo=>oo.on (fun r1=>some r1) (fun l1 =>
 some true))
theorem IM {t1:ATy} {r_1:Bool} (hm:Cz t1=some r_1):Fn0 Tryz.prog 84 [ATy.d t1] (.bool r_1):=by
 unfold Cz at hm;refine Ad Tryz.func84 rfl Tryz.ntmps84 rfl fun H0 fr w0=>?_;refine zq10 ?_;obtain ⟨hg1,hm⟩:=Aa hm;obtain ⟨hg2,hm⟩:=Aa hm;refine AG rfl rfl rfl (C3 (f:=D.i64) (z0:=0) Tryz.underlying43 Tryz.type3 rfl rfl rfl (nB rfl) rfl rfl hg1 hg2 (nB rfl)) ?_;rintro _ _ ⟨a_r1,m_r1,cap_r1,rfl,rfl⟩;refine Sh fun b1=>?_;refine zst 0 ?_;refine Ak (ms':=[box b1 43 [_],_]) rfl ?_;refine zq3 ?_;refine UB fun b2=>?_;refine zq3 ?_;refine Ai rfl rfl rfl (De rfl rfl) ?_;refine zst 0 ?_;refine Ak (ms':=[box b2 109 [_],box b1 43 [_],_]) rfl ?_;refine zq9 ?_;obtain ⟨o_1,hj1,hm1⟩:=bS hm;refine Ag [] [(0,_)] (fun (st:(List Int)) (hid:Unit)=>match st,hid with | l1,_=>[]) (fun F (st:(List Int)) (hid:Unit)=>match st,hid with | l1,_=>[(nthF F 0),box b1 43 [.v (.slice a_r1 m_r1 cap_r1)],arr a_r1 m_r1 cap_r1 3 1 D.i64 l1]) (fun st=>Out.go (st)=o_1) trivial ⟨rfl,trivial⟩ ?_ ?_
 ·refine Am ?_
  refine Ah [(4,_),(13,_)] [(0,_)] (fun (st:(Int×(List Int))) (hid:Unit)=>match st,hid with | (x1,l2),_=>[(14,.i64 x1)]) (fun F (st:(Int×(List Int))) (hid:Unit)=>match st,hid with | (x1,l2),_=>[(nthF F 0),box b1 43 [.v (.slice a_r1 m_r1 cap_r1)],arr a_r1 m_r1 cap_r1 3 1 D.i64 l2]) () hj1 (fun _=>rfl) ⟨rfl,rfl,trivial⟩ ⟨rfl,trivial⟩ ⟨rfl,trivial⟩ rfl ?_;rintro n ⟨x1,l2⟩ ⟨⟩ hj1;rw [BE] at hj1;refine Ao (L':=[(14,.i64 x1),(4,_),(13,_)]) (ms':=[_,box b1 43 [.v (.slice a_r1 m_r1 cap_r1)],arr a_r1 m_r1 cap_r1 3 1 D.i64 l2]) rfl rfl ?_;refine zq5 ?_;refine zcn hj1 (fun hc1 hj1=>?_) (fun hc1 hj1=>?_)
  ·refine zq12 ?_
   obtain ⟨⟨x2,z1⟩,hx3,hj1⟩:=bS hj1;refine AG rfl rfl rfl (Km [1,2,0] rfl rfl rfl (HN rfl (HN rfl (HN rfl Nw))) (IQ Tryz.call120 (HG hx3)) (by rintro _ _ ⟨rfl,rfl⟩;rfl)) ?_;rintro _ _ ⟨_,⟨rfl,rfl⟩,rfl⟩;refine Ak (ms':=[box b2 109 [_],box b1 43 [_],_]) rfl ?_;refine zq2 ?_;refine zcn hj1 (fun hc2 hj1=>?_) (fun hc2 hj1=>?_)
   ·refine zq4 ?_
    refine Ae ?_;obtain rfl:=Ac hj1
    replace hm1:=Bu hm1
    cases hm1;exact zr1
   ·refine zq2 ?_
    obtain ⟨hg4,hj1⟩:=Aa hj1;refine zq3 ?_;exact ⟨_,(),hj1,⟨rfl,trivial⟩,⟨rfl,rfl,trivial⟩,[],rfl⟩
  ·refine Ar ?_
   exact ⟨_,(),Ac hj1,trivial,trivial,[],rfl⟩
 ·rintro l1 ⟨⟩ hst
  subst hst
  replace hm1:=CT hm1
  refine Al (L':=[]) (ms':=[_,box b1 43 [.v (.slice a_r1 m_r1 cap_r1)],arr a_r1 m_r1 cap_r1 3 1 D.i64 l1]) rfl rfl ?_;refine zq4 ?_
  cases hm1;exact Ae zr1
def FM (t1:ATy):Option Int:=
 bif ((decide ((t1.l.length:Int)=0))||(decide (2000<(t1.l.length:Int)))) then
  some 8
 else
  bif ((decide (t1.root<0))||(decide ((t1.l.length:Int)<=t1.root))) then
   some 4
  else
   (OM t1.l (fun y0=>C9 y0 t1)).bind fun x1 =>
   (bif x1 then (some true) else ((Cz t1).bind fun x2 =>
   some (!x2))).bind fun p1 =>
   bif p1 then
    some 4
   else
    some 0
theorem OR {t1:ATy} {r_1:Int} (hm:FM t1=some r_1):Fn0 Tryz.prog 48 [ATy.d t1] (.i64 r_1):=by
 unfold FM at hm;refine Ad Tryz.func48 rfl Tryz.ntmps48 rfl fun H0 fr w0=>?_;refine zq14 ?_
 apply AX [(1,_)] 5 13 (t:=8) ⟨rfl,trivial⟩ rfl
 ·intro hg_1 hk1
  refine zq5 ?_;exact zgm hk1
 ·intro hg_1 hk1
  refine zq5 ?_;exact zgm hk1
 refine zq2 ?_;refine zcn hm (fun hc1 hm=>?_) (fun hc1 hm=>?_)
 ·refine zq4 ?_
  cases hm;exact Ae zr1
 ·refine zq6 ?_
  apply AX [(1,_)] 7 25 (t:=18) ⟨rfl,trivial⟩ rfl
  ·intro hg_2 hk2
   refine zq7 ?_;exact zgm hk2
  ·intro hg_2 hk2
   refine zq7 ?_;exact zgm hk2
  refine zq2 ?_;refine zcn hm (fun hc2 hm=>?_) (fun hc2 hm=>?_)
  ·refine zq4 ?_
   cases hm;exact Ae zr1
  ·refine zq6 ?_
   refine Ai rfl rfl rfl (De rfl rfl) ?_;obtain ⟨x1,hx1,hm⟩:=bS hm;refine Ai rfl rfl rfl (Bv Tryz.call81 rfl (Wd (fun _ _ h=>IQ Tryz.call82 (LV h)) hx1)) ?_;refine zq1 ?_;obtain ⟨p1,hp_3,hm⟩:=bS hm;refine AF [] 4 34 p1 (t:=30) trivial rfl (fun hg_3 hk3=>?_) (fun hg_3 hk3=>?_) ?_
   ·replace hp_3:=AD hg_3 hp_3
    refine zq4 ?_;exact zgb hk3 hp_3
   ·replace hp_3:=AE hg_3 hp_3
    refine zq1 ?_;obtain ⟨x2,hx2,hp_3⟩:=bS hp_3;refine zcw (IM hx2) ?_;refine zq2 ?_;exact zgb hk3 hp_3
   refine gNl ?_;refine zcn hm (fun hc3 hm=>?_) (fun hc3 hm=>?_)
   ·refine zq4 ?_
    cases hm;exact Ae zr1
   ·refine zq5 ?_
    cases hm;exact Ae zr1
def GP  : Nat->(Int×Int×(List Int))->Option (List Int)
 | 0,_=>none
 | n+1,(i1,j1,l1) =>
  bif (decide (i1<j1)) then
   (idx l1 j1).bind fun x1 =>
   (idx l1 i1).bind fun x2 =>
   (idx l1 i1).bind fun x3 =>
   (idx l1 j1).bind fun x4 =>
   (idx (l1.set (i1).toNat x1) j1).bind fun x5 =>
   grd (InR (i1+1)) <|
   grd (InR (j1 - 1)) <|
   GP n ((i1+1),(j1 - 1),((l1.set (i1).toNat x1).set (j1).toNat x2))
  else
   some l1
def NK (s1:(List Int))  : Option (List Int):=
 grd (InR ((s1.length:Int) - 1)) <|
 GP FU (0,((s1.length:Int) - 1),s1)
theorem Wq {s1:(List Int)}  {s_1:(List Int)} {a_q0:Option Addr} {m_q0 cap_q0:Nat} (hm:NK s1=some s_1):Go.V.Fn Tryz.prog 123 [.v (.slice a_q0 m_q0 cap_q0)] [arr a_q0 m_q0 cap_q0 3 1 D.i64 s1] (fun d ms'=>d = .tup []/\ms'=[arr a_q0 m_q0 cap_q0 3 1 D.i64 s_1]):=by
 unfold NK at hm;refine Ad Tryz.func123 rfl Tryz.ntmps123 rfl fun H0 fr w0=>?_;refine zq3 ?_;refine Ai rfl rfl rfl (Ca 0 Tryz.runUnderlying43 rfl rfl) ?_;obtain ⟨hg1,hm⟩:=Aa hm;refine zq5 ?_;refine Ah [(0,_)] [] (fun (st:(Int×Int×(List Int))) (hid:Unit)=>match st,hid with | (i1,j1,l1),_=>[(2,.i64 i1),(3,.i64 j1)]) (fun F (st:(Int×Int×(List Int))) (hid:Unit)=>match st,hid with | (i1,j1,l1),_=>[arr a_q0 m_q0 cap_q0 3 1 D.i64 l1]) () hm (fun _=>rfl) ⟨rfl,trivial⟩ trivial ⟨rfl,rfl,trivial⟩ rfl ?_;rintro n ⟨i1,j1,l1⟩ ⟨⟩ hm;rw [GP] at hm;refine Ao (L':=[(2,.i64 i1),(3,.i64 j1),(0,_)]) (ms':=[arr a_q0 m_q0 cap_q0 3 1 D.i64 l1]) rfl rfl ?_;refine zq7 ?_;refine zcn hm (fun hc1 hm=>?_) (fun hc1 hm=>?_)
 ·refine zq3 ?_
  obtain ⟨x1,hx2,hm⟩:=bS hm;obtain ⟨x2,hx3,hm⟩:=bS hm;obtain ⟨x3,hx4,hm⟩:=bS hm;obtain ⟨x4,hx5,hm⟩:=bS hm;obtain ⟨x5,hx6,hm⟩:=bS hm;refine FY [13,15] [2,3,14] [14] A0 (by decide +kernel) (by decide +kernel) rfl ?_;refine Ay rfl rfl rfl rfl rfl rfl (oMv rfl) ?_;refine Ay rfl rfl rfl rfl rfl rfl (oMv rfl) ?_;refine Ay rfl rfl rfl rfl rfl rfl (oMv rfl) ?_;refine Ay rfl rfl rfl rfl rfl rfl (oMv rfl) ?_;refine Ay rfl rfl rfl rfl rfl rfl (oMv rfl) ?_;refine Ay rfl rfl rfl rfl rfl rfl (oMv rfl) ?_;refine Ay rfl rfl rfl rfl rfl rfl (Af 0 Tryz.runUnderlying43 Tryz.sizeOf3 rfl rfl rfl hx2) ?_;refine Ay rfl rfl rfl rfl rfl rfl (AL (off:=0) 0 Tryz.isAgg3 rfl rfl (Av hx2).2 rfl rfl rfl) ?_;refine Ay rfl rfl rfl rfl rfl rfl (oMv rfl) ?_;refine Ay rfl rfl rfl rfl rfl rfl (oMv rfl) ?_;refine Ay rfl rfl rfl rfl rfl rfl (Af 0 Tryz.runUnderlying43 Tryz.sizeOf3 rfl rfl rfl hx3) ?_;refine Ay rfl rfl rfl rfl rfl rfl (AL (off:=0) 0 Tryz.isAgg3 rfl rfl (Av hx3).2 rfl rfl rfl) ?_;refine Ay rfl rfl rfl rfl rfl rfl (Af 0 Tryz.runUnderlying43 Tryz.sizeOf3 rfl rfl rfl hx4) ?_;refine FO rfl ?_;refine NW rfl rfl rfl rfl rfl (Fw 0 Tryz.runUnderlying43 Tryz.sizeOf3 rfl rfl rfl (by first | exact Hm hx5 | exact DK (Hm hx5) | exact DK (DK (Hm hx5)))) ?_;refine FO rfl ?_;refine Gz ?_;refine F3 rfl rfl rfl (AV (off:=0) (z':=x1) 0 Tryz.sizeOf3 rfl rfl (Av hx4).2 rfl rfl rfl rfl rfl rfl (nB rfl) rfl rfl) ?_;rintro _ _ rfl;refine ⟨⟨trivial,Fw 0 Tryz.runUnderlying43 Tryz.sizeOf3 rfl rfl rfl (by first | exact Hm hx5 | exact DK (Hm hx5) | exact DK (DK (Hm hx5)))⟩,?_⟩;refine F3 rfl rfl rfl (AV (off:=0) (z':=x2) 0 Tryz.sizeOf3 rfl rfl (Av hx6).2 rfl rfl rfl rfl rfl rfl (nB rfl) rfl rfl) ?_;rintro _ _ rfl;refine ⟨⟨trivial,Fw 0 Tryz.runUnderlying43 Tryz.sizeOf3 rfl rfl rfl (by first | exact Hm hx5 | exact DK (Hm hx5) | exact DK (DK (Hm hx5)))⟩,?_⟩;refine FW ?_;refine zq2 ?_;obtain ⟨hg7,hm⟩:=Aa hm;refine zq2 ?_;obtain ⟨hg8,hm⟩:=Aa hm;refine zq4 ?_;exact ⟨_,(),hm,⟨rfl,rfl,trivial⟩,⟨rfl,trivial⟩,[],rfl⟩
 ·refine Ar ?_
  obtain rfl:=Ac hm;exact retKn (DQ rfl (permA 0 rfl permN)) ⟨rfl,rfl⟩
def Cw (c1:ATy):Nat->((List Int)×(List Bool))->Option (List Int)
 | 0,_=>none
 | n+1,(l1,l2) =>
  bif (decide (0<(l1.length:Int))) then
   grd (InR ((l1.length:Int) - 1)) <|
   (idx l1 ((l1.length:Int) - 1)).bind fun x1 =>
   grd (InR ((l1.length:Int) - 1)) <|
   (sli l1 0 ((l1.length:Int) - 1)).bind fun l3 =>
   (idx l2 x1).bind fun x2 =>
   bif x2 then
    Cw c1 n (l3,l2)
   else
    (idx l2 x1).bind fun x3 =>
    ((idx c1.l x1).bind fun x4 =>
    (DI x4).bind fun x5 =>
    grd (x5.length*8<=140737488355328) <|
    (NK x5).bind fun l4 =>
    grd ((l3.length+l4.length)*8<=140737488355328) <|
    Cw c1 n ((l3++l4),(l2.set (x1).toNat true))).bind fun ys=>some (x1::ys)
  else
   some []
def Hu (c1:ATy) (c2:Int):Option (List Int):=
 grd (0<=(c1.l.length:Int)) <|
 grd (((c1.l.length:Int)).toNat*1<=140737488355328) <|
 Cw c1 FU ([c2],(List.replicate ((c1.l.length:Int)).toNat (false:Bool)))
theorem SO {c1:ATy} {c2:Int} {xs:(List Int)} (hm:Hu c1 c2=some xs):Iter Tryz.prog 122 [.ref (ATy.d c1),.ref (.i64 c2)] (xs.map fun (p:Int)=>[.i64 p]):=by
 intro y hys J Jx hy tl_0 hJ_0
 have hk_0:0<=xs.length:=Nat.zero_le _
 replace hm:_=some (xs.drop 0):=hm
 unfold Hu at hm;refine Ad Tryz.func122 rfl Tryz.ntmps122 rfl fun H0 fr w0=>?_;refine zq5 ?_;obtain ⟨hg1,hm⟩:=Aa hm;obtain ⟨hg2,hm⟩:=Aa hm;refine AG rfl rfl rfl (C3 (f:=D.bool) (z0:=false) Tryz.underlying78 Tryz.type4 rfl rfl rfl (nB rfl) rfl rfl hg1 hg2 (nB rfl)) ?_;rintro _ _ ⟨a_r1,m_r1,cap_r1,rfl,rfl⟩;refine zq5 ?_;refine AG rfl rfl rfl (GM (xs:=[_]) (f:=D.i64) (l:=[_]) Tryz.runUnderlying43 Tryz.sizeOf3 Tryz.zeroValue3 rfl rfl rfl (fun _=>⟨rfl,rfl,rfl⟩) rfl (by simp [maxLen])) ?_;rintro _ _ ⟨a_r2,m_r2,cap_r2,rfl,rfl⟩;refine zq3 ?_;refine Oj (fun (hid:{p:Nat×List Asrt // p.1<=xs.length/\J p.1 p.2}×(Option Addr×Nat×Nat)×Unit)=>xs.drop hid.1.1.1) [(0,_),(1,_),(4,_)] [] (fun (st:((List Int)×(List Bool))) (hid:{p:Nat×List Asrt // p.1<=xs.length/\J p.1 p.2}×(Option Addr×Nat×Nat)×Unit)=>match st,hid with | (l1,l2),(⟨(k_3,tl_3),hk_3,hJ_3⟩,(a_r2,m_r2,cap_r2),_)=>[(5,.v (.slice a_r2 m_r2 cap_r2))]) (fun F (st:((List Int)×(List Bool))) (hid:{p:Nat×List Asrt // p.1<=xs.length/\J p.1 p.2}×(Option Addr×Nat×Nat)×Unit)=>match st,hid with | (l1,l2),(⟨(k_3,tl_3),hk_3,hJ_3⟩,(a_r2,m_r2,cap_r2),_)=>[arr a_r2 m_r2 cap_r2 3 1 D.i64 l1,arr a_r1 m_r1 cap_r1 4 1 D.bool l2]++tl_3) (⟨(0,tl_0),hk_0,hJ_0⟩,(_,_,_),()) hm rfl (fun _=>rfl) ⟨rfl,rfl,rfl,trivial⟩ trivial ⟨rfl,trivial⟩ rfl ?_;rintro n ⟨l1,l2⟩ ⟨⟨⟨k_3,tl_3⟩,hk_3,hJ_3⟩,⟨a_r2,m_r2,cap_r2⟩,⟨⟩⟩ hm
 replace hm:_=some (xs.drop k_3):=hm
 rw [Cw] at hm;refine Ao (L':=[(5,.v (.slice a_r2 m_r2 cap_r2)),(0,_),(1,_),(4,_)]) (ms':=[arr a_r2 m_r2 cap_r2 3 1 D.i64 l1,arr a_r1 m_r1 cap_r1 4 1 D.bool l2]++tl_3) rfl rfl ?_;refine zq4 ?_;refine Ai rfl rfl rfl (Ca 0 Tryz.runUnderlying43 rfl rfl) ?_;refine zq2 ?_;refine zcn hm (fun hc1 hm=>?_) (fun hc1 hm=>?_)
 ·refine zq6 ?_
  refine Ai rfl rfl rfl (Ca 0 Tryz.runUnderlying43 rfl rfl) ?_;obtain ⟨hg3,hm⟩:=Aa hm;refine zq1 ?_;obtain ⟨x1,hx4,hm⟩:=bS hm;refine Ai rfl rfl rfl (Af 0 Tryz.runUnderlying43 Tryz.sizeOf3 rfl rfl rfl hx4) ?_;refine Ai rfl rfl rfl (AL (off:=0) 0 Tryz.isAgg3 rfl rfl (Av hx4).2 rfl rfl rfl) ?_;refine zq6 ?_;refine Ai rfl rfl rfl (Ca 0 Tryz.runUnderlying43 rfl rfl) ?_;obtain ⟨hg5,hm⟩:=Aa hm;refine zq1 ?_;obtain ⟨l3,hx6,hm⟩:=bS hm;refine AG rfl rfl rfl (IP 0 Tryz.runUnderlying43 Tryz.sizeOf3 rfl rfl rfl hx6) ?_;rintro _ _ ⟨a_r2,m_r2,cap_r2,rfl,rfl⟩;refine zq7 ?_;obtain ⟨x2,hx7,hm⟩:=bS hm;refine Ai rfl rfl rfl (Af 1 Tryz.runUnderlying78 Tryz.sizeOf4 rfl rfl rfl hx7) ?_;refine Ai rfl rfl rfl (AL (off:=0) 1 Tryz.isAgg4 rfl rfl (Av hx7).2 rfl rfl rfl) ?_;refine gNl ?_;refine zcn hm (fun hc2 hm=>?_) (fun hc2 hm=>?_)
  ·refine Ar ?_
   exact ⟨_,(⟨(k_3,tl_3),hk_3,hJ_3⟩,(_,_,_),()),hm,⟨rfl,trivial⟩,⟨rfl,rfl,rfl,trivial⟩,[],rfl⟩
  ·refine zq5 ?_
   obtain ⟨x3,hx8,hm⟩:=bS hm;refine Ai rfl rfl rfl (Af 1 Tryz.runUnderlying78 Tryz.sizeOf4 rfl rfl rfl hx8) ?_;refine H6 rfl rfl (AV (off:=0) (z':=true) 1 Tryz.sizeOf4 rfl rfl (Av hx8).2 rfl rfl rfl rfl rfl rfl (nB rfl) rfl rfl) ?_;rintro _ _ rfl;refine Ak (ms':=[_,_]++tl_3) rfl ?_;refine zq6 ?_;obtain ⟨ys_4,hm,he_4⟩:=bS hm;obtain ⟨hy_4,hk_4,rfl⟩:=Nz he_4;refine AG rfl rfl rfl (Rd [_,_] tl_3 rfl rfl (hy k_3 _ tl_3 (Sg hy_4) hJ_3)) ?_;rintro _ _ ⟨_ | _,tl_4,rfl,rfl,hJ_4,hs_4⟩
   ·refine zq2 ?_
    refine Bt rfl rfl ?_;refine Ae ?_;exact retK (DQ (ms':=tl_4) (drop:=[_,_]) rfl (List.Perm.refl _)) (.inr (hs_4 rfl))
   ·refine zq2 ?_
    refine A3 rfl rfl ?_;refine zq6 ?_;obtain ⟨x4,hx9,hm⟩:=bS hm;refine Ai rfl rfl rfl (oIm Tryz.runUnderlying29 Tryz.sizeOf49 rfl rfl hx9) ?_;refine zq1 ?_;obtain ⟨x5,hx10,hm⟩:=bS hm;refine zc0 (Hn hx10) ?_;obtain ⟨hg11,hm⟩:=Aa hm;refine AG rfl rfl rfl (Ey (ms₁:=[]) Tryz.call64 rfl (List.Perm.refl _) (K4 hg11)) ?_;rintro _ _ ⟨_,⟨a_r3,cap_r3,hd_r3,hq_r3⟩,rfl⟩;obtain ⟨m_r3,hm_r3⟩:∃ m,m=x5.length:=⟨_,rfl⟩;rw [<- hm_r3] at hd_r3 hq_r3;subst hd_r3 hq_r3
    clear hm_r3
    refine zq5 ?_;obtain ⟨l4,hx12,hm⟩:=bS hm;refine AG rfl rfl rfl (Lg [0] Tryz.call123 rfl rfl (HN rfl Nw) (Wq hx12) (by rintro _ _ ⟨rfl,rfl⟩;rfl)) ?_;rintro _ _ ⟨_,⟨rfl,rfl⟩,rfl⟩;refine Ak (ms':=[_,_,_]++tl_4) rfl ?_;refine zq4 ?_;refine KR 0 rfl rfl ?_;rintro rfl;obtain ⟨hg13,hm⟩:=Aa hm;refine AG rfl rfl rfl (.view (peekE (i:=49) 0 rfl rfl rfl) (DC (a:=_) 1 Tryz.underlying43 Tryz.type3 rfl rfl rfl rfl rfl rfl (fun _=>rfl) (fun _=>rfl) hg13 (BX hg13 rfl))) ?_;rintro _ _ ⟨a_r2,m_r2,cap_r2,rfl,rfl⟩;refine Ak (ms':=[_,_,_]++tl_4) rfl ?_;refine zq2 ?_;exact ⟨_,(⟨((k_3+1),tl_4),hk_4,(hJ_4 rfl)⟩,(_,_,_),()),hm,⟨rfl,trivial⟩,⟨rfl,rfl,rfl,trivial⟩,[_],rfl⟩
 ·refine Ar ?_
  exact retKn (DQ (ms':=tl_3) (drop:=[_,_]) rfl (List.Perm.refl _)) (.inl (Mz hm hk_3 hJ_3 _))
theorem UO {p0:ATy} {p1:Int} :
  Fn0 Tryz.prog 85 [ATy.d p0,.i64 p1] (.clo (.func 122) [] [.ref (ATy.d p0),.ref (.i64 p1)]):=by
 refine Ad Tryz.func85 rfl Tryz.ntmps85 rfl fun H0 fr w0=>?_;refine zq8 ?_;refine Ai rfl rfl rfl (De rfl rfl) ?_;refine zq2 ?_;refine Ae ?_;exact retK (BA rfl (B5 rfl) (EV _)) (by rfl)
def Hh (slices1:(List (List Int))):Nat->(Int×Int)->Option Int
 | 0,_=>none
 | n+1,(size2,x1) =>
  bif (decide (x1<(slices1.length:Int))) then
   (idx slices1 x1).bind fun x2 =>
   grd (InR (size2+(x2.length:Int))) <|
   bif (decide ((size2+(x2.length:Int))<0)) then
    none
   else
    grd (InR (x1+1)) <|
    Hh slices1 n ((size2+(x2.length:Int)),(x1+1))
  else
   some size2
def G3 (slices1:(List (List Int))):Nat->(Int×(List Int))->Option (List Int)
 | 0,_=>none
 | n+1,(x3,l2) =>
  bif (decide (x3<(slices1.length:Int))) then
   (idx slices1 x3).bind fun x4 =>
   grd ((l2.length+x4.length)*8<=140737488355328) <|
   grd (InR (x3+1)) <|
   G3 slices1 n ((x3+1),(l2++x4))
  else
   some l2
def Lp (slices1:(List (List Int))):Option (List Int):=
 (Hh slices1 FU (0,0):Option Int).bind fun size1 =>
 grd (0<=size1) <|
 grd ((size1).toNat*8<=140737488355328) <|
 (G3 slices1 FU (0,([]:List Int)):Option (List Int)).bind fun l1 =>
 some l1
theorem Vq {slices1:(List (List Int))} {r_1:(List Int)} (hm:Lp slices1=some r_1):Fn0 Tryz.prog 137 [.list 1 (D.list 1 D.i64) slices1] (.list 1 D.i64 r_1):=by
 unfold Lp at hm;refine Ad Tryz.func137 rfl Tryz.ntmps137 rfl fun H0 fr w0=>?_;refine zq3 ?_;refine Ap (nilE (i:=2) (sz:=1) (f:=D.i64) rfl).refines ?_;refine zq12 ?_;obtain ⟨o_1,hj1,hm1⟩:=bS hm;refine Ag [(0,_)] [] (fun (st:Int) (hid:Unit)=>match st,hid with | size1,_=>[(3,.i64 size1)]) (fun F (st:Int) (hid:Unit)=>match st,hid with | size1,_=>[]) (fun st=>st=o_1) ⟨rfl,trivial⟩ trivial ?_ ?_
 ·refine Am ?_
  refine Ah [(0,_),(9,_),(10,_)] [] (fun (st:(Int×Int)) (hid:Unit)=>match st,hid with | (size2,x1),_=>[(3,.i64 size2),(11,.i64 x1)]) (fun F (st:(Int×Int)) (hid:Unit)=>match st,hid with | (size2,x1),_=>[]) () hj1 (fun _=>rfl) ⟨rfl,rfl,rfl,trivial⟩ trivial ⟨rfl,rfl,trivial⟩ rfl ?_;rintro n ⟨size2,x1⟩ _ hj1;rw [Hh] at hj1;refine Ao (L':=[(3,.i64 size2),(11,.i64 x1),(0,_),(9,_),(10,_)]) (ms':=[]) rfl rfl ?_;refine zq5 ?_;refine zcn hj1 (fun hc1 hj1=>?_) (fun hc1 hj1=>?_)
  ·refine zq5 ?_
   obtain ⟨x2,hx1,hj1⟩:=bS hj1;refine zq9 ?_;obtain ⟨hg2,hj1⟩:=Aa hj1;refine zq8 ?_;refine zcn hj1 (fun hc2 hj1=>?_) (fun hc2 hj1=>?_)
   ·cases hj1
   ·refine zq2 ?_
    obtain ⟨hg3,hj1⟩:=Aa hj1;refine zq3 ?_;exact ⟨_,(),hj1,⟨rfl,rfl,trivial⟩,⟨rfl,rfl,rfl,trivial⟩,[],rfl⟩
  ·refine Ar ?_
   exact ⟨_,(),Ac hj1,⟨rfl,trivial⟩,⟨rfl,trivial⟩,[],rfl⟩
 ·rintro size1 _ hst
  subst hst;refine Al (L':=[(3,.i64 size1),(0,_)]) (ms':=[]) rfl rfl ?_;refine zq3 ?_;obtain ⟨hg4,hm1⟩:=Aa hm1;obtain ⟨hg5,hm1⟩:=Aa hm1;refine AG rfl rfl rfl (Ey (ms₁:=[]) Tryz.call169 rfl (List.Perm.refl _) (P5 hg4 hg5)) ?_;rintro _ _ ⟨_,⟨a_r1,cap_r1,rfl,rfl⟩,rfl⟩;refine zq9 ?_;obtain ⟨o_2,hj2,hm2⟩:=bS hm1;refine Ag [] [] (fun (st:(List Int)) (hid:(Option Addr×Nat))=>match st,hid with | l1,(a_r1,cap_r1)=>[(6,.v (.slice a_r1 l1.length cap_r1))]) (fun F (st:(List Int)) (hid:(Option Addr×Nat))=>match st,hid with | l1,(a_r1,cap_r1)=>[row a_r1 cap_r1 3 1 D.i64 l1]) (fun st=>st=o_2) trivial trivial ?_ ?_
  ·refine Am ?_
   refine Ah [(25,_),(26,_)] [] (fun (st:(Int×(List Int))) (hid:(Option Addr×Nat))=>match st,hid with | (x3,l2),(a_r1,cap_r1)=>[(6,.v (.slice a_r1 l2.length cap_r1)),(27,.i64 x3)]) (fun F (st:(Int×(List Int))) (hid:(Option Addr×Nat))=>match st,hid with | (x3,l2),(a_r1,cap_r1)=>[row a_r1 cap_r1 3 1 D.i64 l2]) (_,_) hj2 (fun _=>rfl) ⟨rfl,rfl,trivial⟩ trivial ⟨rfl,rfl,trivial⟩ rfl ?_;rintro n ⟨x3,l2⟩ ⟨a_r1,cap_r1⟩ hj2;rw [G3] at hj2;refine Ao (L':=[(6,.v (.slice a_r1 l2.length cap_r1)),(27,.i64 x3),(25,_),(26,_)]) (ms':=[row a_r1 cap_r1 3 1 D.i64 l2]) rfl rfl ?_;refine zq5 ?_;refine zcn hj2 (fun hc3 hj2=>?_) (fun hc3 hj2=>?_)
   ·refine zq5 ?_
    obtain ⟨x4,hx6,hj2⟩:=bS hj2;refine zq7 ?_;obtain ⟨hg7,hj2⟩:=Aa hj2;refine zap 0 hg7 fun a_r1 cap_r1=>?_;refine Ak (ms':=[_]) rfl ?_;refine zq3 ?_;obtain ⟨hg8,hj2⟩:=Aa hj2;refine zq3 ?_;exact ⟨_,(_,_),hj2,⟨rfl,rfl,trivial⟩,⟨rfl,rfl,trivial⟩,[],rfl⟩
   ·refine Ar ?_
    exact ⟨_,(_,_),Ac hj2,⟨rfl,trivial⟩,trivial,[],rfl⟩
  ·rintro l1 ⟨a_r1,cap_r1⟩ hst
   subst hst;refine Al (L':=[(6,.v (.slice a_r1 l1.length cap_r1))]) (ms':=[row a_r1 cap_r1 3 1 D.i64 l1]) rfl rfl ?_;refine zq5 ?_;refine BM (peekE (i:=2) 0 rfl rfl rfl).refines ?_
   cases hm2;exact Ae zr1
def DV (l1:(List AutoEdge)):Nat->(Int×(List Int))->Option (List Int)
 | 0,_=>none
 | n+1,(x1,l3) =>
  bif (decide (x1<(l1.length:Int))) then
   (idx l1 x1).bind fun x2 =>
   grd ((l3.length+([x2.to_]:List _).length)*8<=140737488355328) <|
   grd (InR (x1+1)) <|
   DV l1 n ((x1+1),(l3++[x2.to_]))
  else
   some l3
def Df (l1:(List AutoEdge)):Option (List Int):=
 (DV l1 FU (0,[]):Option (List Int)).bind fun l2 =>
 some l2
theorem Hz {l1:(List AutoEdge)} {r_1:(List Int)} (hm:Df l1=some r_1):Fn0 Tryz.prog 138 [.list 2 AutoEdge.d l1] (.list 1 D.i64 r_1):=by
 unfold Df at hm;refine Ad Tryz.func138 rfl Tryz.ntmps138 rfl fun H0 fr w0=>?_;refine zq3 ?_;refine Ap (nilE (i:=2) (sz:=1) (f:=D.i64) rfl).refines ?_;refine zq4 ?_;refine Ap (Az (T:=3) (sz:=1) (f:=D.i64)) ?_;refine zq8 ?_;obtain ⟨o_1,hj1,hm1⟩:=bS hm;refine Ag [] [] (fun (st:(List Int)) (hid:(Option Addr×Nat))=>match st,hid with | l2,(a_r1,cap_r1)=>[(3,.v (.slice a_r1 l2.length cap_r1))]) (fun F (st:(List Int)) (hid:(Option Addr×Nat))=>match st,hid with | l2,(a_r1,cap_r1)=>[row a_r1 cap_r1 3 1 D.i64 l2]) (fun st=>st=o_1) trivial trivial ?_ ?_
 ·refine Am ?_
  refine Ah [(6,_),(7,_)] [] (fun (st:(Int×(List Int))) (hid:(Option Addr×Nat))=>match st,hid with | (x1,l3),(a_r1,cap_r1)=>[(3,.v (.slice a_r1 l3.length cap_r1)),(8,.i64 x1)]) (fun F (st:(Int×(List Int))) (hid:(Option Addr×Nat))=>match st,hid with | (x1,l3),(a_r1,cap_r1)=>[row a_r1 cap_r1 3 1 D.i64 l3]) (_,_) hj1 (fun _=>rfl) ⟨rfl,rfl,trivial⟩ trivial ⟨rfl,rfl,trivial⟩ rfl ?_;rintro n ⟨x1,l3⟩ ⟨a_r1,cap_r1⟩ hj1;rw [DV] at hj1;refine Ao (L':=[(3,.v (.slice a_r1 l3.length cap_r1)),(8,.i64 x1),(6,_),(7,_)]) (ms':=[row a_r1 cap_r1 3 1 D.i64 l3]) rfl rfl ?_;refine zq5 ?_;refine zcn hj1 (fun hc1 hj1=>?_) (fun hc1 hj1=>?_)
  ·refine zq5 ?_
   obtain ⟨x2,hx1,hj1⟩:=bS hj1;refine zq2 ?_;refine Ps fun b1=>?_;refine zst 0 ?_;refine Ak (ms':=[box b1 62 [_,_],_]) rfl ?_;refine zq5 ?_;refine Ai rfl rfl rfl (zs1 D.i64) ?_;obtain ⟨hg2,hj1⟩:=Aa hj1;refine zap 1 hg2 fun a_r1 cap_r1=>?_;refine Ak (ms':=[box b1 62 [_,_],_]) rfl ?_;refine zq3 ?_;obtain ⟨hg3,hj1⟩:=Aa hj1;refine zq3 ?_;exact ⟨_,(_,_),hj1,⟨rfl,rfl,trivial⟩,⟨rfl,rfl,trivial⟩,[_],rfl⟩
  ·refine Ar ?_
   exact ⟨_,(_,_),Ac hj1,⟨rfl,trivial⟩,trivial,[],rfl⟩
 ·rintro l2 ⟨a_r1,cap_r1⟩ hst
  subst hst;refine Al (L':=[(3,.v (.slice a_r1 l2.length cap_r1))]) (ms':=[row a_r1 cap_r1 3 1 D.i64 l2]) rfl rfl ?_;refine zq5 ?_;refine BM (peekE (i:=2) 0 rfl rfl rfl).refines ?_
  cases hm1;exact Ae zr1
def FP (s1:AutoState):Option (List Int):=
 (bif s1.arrow then
  grd ((0+([s1.dom,s1.cod]:List _).length)*8<=140737488355328) <|
  some ([]++[s1.dom,s1.cod])
 else
  some []:Option (List Int)).bind fun l1 =>
 (Df s1.fields).bind fun x1 =>
 (Df s1.tags).bind fun x2 =>
 (Lp [l1,x1,x2]).bind fun x3 =>
 some x3
theorem NO {s1:AutoState} {r_1:(List Int)} (hm:FP s1=some r_1):Fn0 Tryz.prog 141 [AutoState.d s1] (.list 1 D.i64 r_1):=by
 unfold FP at hm;refine Ad Tryz.func141 rfl Tryz.ntmps141 rfl fun H0 fr w0=>?_;refine zq4 ?_;refine Ap (nilE (i:=2) (sz:=1) (f:=D.i64) rfl).refines ?_;refine zq4 ?_;refine Ap (Az (T:=3) (sz:=1) (f:=D.i64)) ?_;refine zq7 ?_;obtain ⟨o_1,hj1,hm1⟩:=bS hm;refine Ag [(1,_)] [] (fun (st:(List Int)) (hid:(Option Addr×Nat))=>match st,hid with | l1,(a_r1,cap_r1)=>[(3,.v (.slice a_r1 l1.length cap_r1))]) (fun F (st:(List Int)) (hid:(Option Addr×Nat))=>match st,hid with | l1,(a_r1,cap_r1)=>[row a_r1 cap_r1 3 1 D.i64 l1]) (fun st=>st=o_1) ⟨rfl,trivial⟩ trivial ?_ ?_
 ·refine zcn hj1 (fun hc1 hj1=>?_) (fun hc1 hj1=>?_)
  ·refine zq6 ?_
   refine Ai rfl rfl rfl (zs2 D.i64) ?_;obtain ⟨hg1,hj1⟩:=Aa hj1;refine zap 0 hg1 fun a_r1 cap_r1=>?_;refine Ak (ms':=[_]) rfl ?_;refine zq2 ?_;exact ⟨_,(_,_),Ac hj1,⟨rfl,trivial⟩,⟨rfl,trivial⟩,[],rfl⟩
  ·refine gSp ?_
   exact ⟨_,(_,_),Ac hj1,⟨rfl,trivial⟩,⟨rfl,trivial⟩,[],rfl⟩
 ·rintro l1 ⟨a_r1,cap_r1⟩ hst
  subst hst;refine Al (L':=[(3,.v (.slice a_r1 l1.length cap_r1)),(1,_)]) (ms':=[row a_r1 cap_r1 3 1 D.i64 l1]) rfl rfl ?_;refine JC ?_;obtain ⟨x1,hx2,hm1⟩:=bS hm1;obtain ⟨x2,hx3,hm1⟩:=bS hm1;obtain ⟨x3,hx4,hm1⟩:=bS hm1;refine zdr 10 ?_;refine zq3 ?_;refine zcd (Hz hx2) ?_;refine zq2 ?_;refine zcd (Hz hx3) ?_;refine AC rfl rfl rfl (.view (peekE (i:=13) 0 rfl rfl rfl) (Aj (xs:=[_,_,_]) (f:=(D.list 1 D.i64)) (l:=[_,_,_]) Tryz.runUnderlying131 Tryz.sizeOf43 Tryz.zeroValue43 rfl rfl rfl (fun _=>⟨rfl,rfl,rfl⟩) rfl)) ?_;refine zcd (Vq hx4) ?_;refine zq3 ?_
  cases hm1;exact Ae zr1
def C1 (x4:(List Int)):Nat->(Int×(List Int)×(List Bool))->Option ((List Int)×(List Bool))
 | 0,_=>none
 | n+1,(x5,l6,l7) =>
  bif (decide (x5<(x4.length:Int))) then
   (idx x4 x5).bind fun x6 =>
   (idx l7 x6).bind fun x7 =>
   bif (!x7) then
    (idx l7 x6).bind fun x8 =>
    grd ((l6.length+([x6]:List _).length)*8<=140737488355328) <|
    grd (InR (x5+1)) <|
    C1 x4 n ((x5+1),(l6++[x6]),(l7.set (x6).toNat true))
   else
    grd (InR (x5+1)) <|
    C1 x4 n ((x5+1),l6,l7)
  else
   some (l6,l7)
def Fc (c1:AutoAuto):Nat->((List Int)×(List Bool))->Option (List Int)
 | 0,_=>none
 | n+1,(l1,l2) =>
  bif (decide (0<(l1.length:Int))) then
   (idx l1 0).bind fun x2 =>
   (sli l1 1 (l1.length:Int)).bind fun l3 =>
   ((idx c1.l x2).bind fun x3 =>
   (FP x3).bind fun x4 =>
   (C1 x4 FU (0,l3,l2):Option ((List Int)×(List Bool))).bind fun (l4,l5) =>
   Fc c1 n (l4,l5)).bind fun ys=>some (x2::ys)
  else
   some []
def GW (c1:AutoAuto):Option (List Int):=
 grd (0<=(c1.l.length:Int)) <|
 grd (((c1.l.length:Int)).toNat*1<=140737488355328) <|
 (idx (List.replicate ((c1.l.length:Int)).toNat (false:Bool)) c1.start).bind fun x1 =>
 Fc c1 FU ([c1.start],((List.replicate ((c1.l.length:Int)).toNat (false:Bool)).set (c1.start).toNat true))
theorem P1 {c1:AutoAuto} {xs:(List Int)} (hm:GW c1=some xs):Iter Tryz.prog 140 [.ref (AutoAuto.d c1)] (xs.map fun (p:Int)=>[.i64 p]):=by
 intro y hys J Jx hy tl_0 hJ_0
 have hk_0:0<=xs.length:=Nat.zero_le _
 replace hm:_=some (xs.drop 0):=hm
 unfold GW at hm;refine Ad Tryz.func140 rfl Tryz.ntmps140 rfl fun H0 fr w0=>?_;refine zq5 ?_;obtain ⟨hg1,hm⟩:=Aa hm;obtain ⟨hg2,hm⟩:=Aa hm;refine AG rfl rfl rfl (C3 (f:=D.bool) (z0:=false) Tryz.underlying78 Tryz.type4 rfl rfl rfl (nB rfl) rfl rfl hg1 hg2 (nB rfl)) ?_;rintro _ _ ⟨a_r1,m_r1,cap_r1,rfl,rfl⟩;refine zq7 ?_;obtain ⟨x1,hx3,hm⟩:=bS hm;refine Ai rfl rfl rfl (Af 0 Tryz.runUnderlying78 Tryz.sizeOf4 rfl rfl rfl hx3) ?_;refine H6 rfl rfl (AV (off:=0) (z':=true) 0 Tryz.sizeOf4 rfl rfl (Av hx3).2 rfl rfl rfl rfl rfl rfl (nB rfl) rfl rfl) ?_;rintro _ _ rfl;refine Ak (ms':=[_]++tl_0) rfl ?_;refine zq5 ?_;refine AG rfl rfl rfl (Au (xs:=[_]) (f:=D.i64) (l:=[_]) Tryz.runUnderlying43 Tryz.sizeOf3 Tryz.zeroValue3 rfl rfl rfl (fun _=>⟨rfl,rfl,rfl⟩) rfl (by simp [maxLen])) ?_;rintro _ _ ⟨a_r2,rfl,rfl⟩;refine zq3 ?_;refine BM (OE 0 rfl rfl) ?_;refine Oj (fun (hid:{p:Nat×List Asrt // p.1<=xs.length/\J p.1 p.2}×(Option Addr×Nat)×Unit)=>xs.drop hid.1.1.1) [(0,_),(1,_),(3,_)] [] (fun (st:((List Int)×(List Bool))) (hid:{p:Nat×List Asrt // p.1<=xs.length/\J p.1 p.2}×(Option Addr×Nat)×Unit)=>match st,hid with | (l1,l2),(⟨(k_3,tl_3),hk_3,hJ_3⟩,(a_r2,cap_r2),_)=>[(4,.v (.slice a_r2 l1.length cap_r2))]) (fun F (st:((List Int)×(List Bool))) (hid:{p:Nat×List Asrt // p.1<=xs.length/\J p.1 p.2}×(Option Addr×Nat)×Unit)=>match st,hid with | (l1,l2),(⟨(k_3,tl_3),hk_3,hJ_3⟩,(a_r2,cap_r2),_)=>[que a_r2 cap_r2 3 1 D.i64 l1,arr a_r1 m_r1 cap_r1 4 1 D.bool l2]++tl_3) (⟨(0,tl_0),hk_0,hJ_0⟩,(_,_),()) hm rfl (fun _=>rfl) ⟨rfl,rfl,rfl,trivial⟩ trivial ⟨rfl,trivial⟩ rfl ?_;rintro n ⟨l1,l2⟩ ⟨⟨⟨k_3,tl_3⟩,hk_3,hJ_3⟩,⟨a_r2,cap_r2⟩,⟨⟩⟩ hm
 replace hm:_=some (xs.drop k_3):=hm
 rw [Fc] at hm;refine Ao (L':=[(4,.v (.slice a_r2 l1.length cap_r2)),(0,_),(1,_),(3,_)]) (ms':=[que a_r2 cap_r2 3 1 D.i64 l1,arr a_r1 m_r1 cap_r1 4 1 D.bool l2]++tl_3) rfl rfl ?_;refine zq4 ?_;refine Ai rfl rfl rfl (.view (peekQ (i:=19) 0 rfl rfl rfl) (Fb Tryz.runUnderlying43 rfl)) ?_;refine zq2 ?_;refine zcn hm (fun hc1 hm=>?_) (fun hc1 hm=>?_)
 ·refine zq5 ?_
  obtain ⟨x2,hx4,hm⟩:=bS hm;refine Ai rfl rfl rfl (.view (peekQ (i:=22) 0 rfl rfl rfl) (oIm Tryz.runUnderlying43 Tryz.sizeOf3 rfl rfl hx4)) ?_;refine zq6 ?_;obtain ⟨l3,hx5,hm⟩:=bS hm;refine AG rfl rfl rfl (Oa 0 Tryz.runUnderlying43 Tryz.sizeOf3 rfl rfl rfl rfl hx5) ?_;rintro _ _ ⟨a_r2,cap_r2,rfl,rfl⟩;refine zq7 ?_;obtain ⟨ys_4,hm,he_4⟩:=bS hm;obtain ⟨hy_4,hk_4,rfl⟩:=Nz he_4;refine AG rfl rfl rfl (Rd [_,_] tl_3 rfl rfl (hy k_3 _ tl_3 (Sg hy_4) hJ_3)) ?_;rintro _ _ ⟨_ | _,tl_4,rfl,rfl,hJ_4,hs_4⟩
  ·refine zq2 ?_
   refine Bt rfl rfl ?_;refine Ae ?_;exact retK (DQ (ms':=tl_4) (drop:=[_,_]) rfl (List.Perm.refl _)) (.inr (hs_4 rfl))
  ·refine zq2 ?_
   refine A3 rfl rfl ?_;refine zq6 ?_;obtain ⟨x3,hx6,hm⟩:=bS hm;refine zq2 ?_;obtain ⟨x4,hx7,hm⟩:=bS hm;refine zc0 (NO hx7) ?_;refine zq3 ?_;obtain ⟨o_1,hj1,hm1⟩:=bS hm;refine Ag [(0,_),(1,_),(3,_)] [] (fun (st:((List Int)×(List Bool))) (hid:(Option Addr×Nat)×Unit)=>match st,hid with | (l4,l5),((a_r2,cap_r2),_)=>[(4,.v (.slice a_r2 l4.length cap_r2))]) (fun F (st:((List Int)×(List Bool))) (hid:(Option Addr×Nat)×Unit)=>match st,hid with | (l4,l5),((a_r2,cap_r2),_)=>[que a_r2 cap_r2 3 1 D.i64 l4,arr a_r1 m_r1 cap_r1 4 1 D.bool l5]++tl_4) (fun st=>st=o_1) ⟨rfl,rfl,rfl,trivial⟩ trivial ?_ ?_
   ·refine Am ?_
    refine Ah [(0,_),(1,_),(3,_),(36,_),(37,_)] [] (fun (st:(Int×(List Int)×(List Bool))) (hid:(Option Addr×Nat)×Unit)=>match st,hid with | (x5,l6,l7),((a_r2,cap_r2),_)=>[(4,.v (.slice a_r2 l6.length cap_r2)),(38,.i64 x5)]) (fun F (st:(Int×(List Int)×(List Bool))) (hid:(Option Addr×Nat)×Unit)=>match st,hid with | (x5,l6,l7),((a_r2,cap_r2),_)=>[que a_r2 cap_r2 3 1 D.i64 l6,arr a_r1 m_r1 cap_r1 4 1 D.bool l7]++tl_4) ((_,_),()) hj1 (fun _=>rfl) ⟨rfl,rfl,rfl,rfl,rfl,trivial⟩ trivial ⟨rfl,rfl,trivial⟩ rfl ?_;rintro n ⟨x5,l6,l7⟩ ⟨⟨a_r2,cap_r2⟩,⟨⟩⟩ hj1;rw [C1] at hj1;refine Ao (L':=[(4,.v (.slice a_r2 l6.length cap_r2)),(38,.i64 x5),(0,_),(1,_),(3,_),(36,_),(37,_)]) (ms':=[que a_r2 cap_r2 3 1 D.i64 l6,arr a_r1 m_r1 cap_r1 4 1 D.bool l7]++tl_4) rfl rfl ?_;refine zq5 ?_;refine zcn hj1 (fun hc2 hj1=>?_) (fun hc2 hj1=>?_)
    ·refine zq5 ?_
     obtain ⟨x6,hx8,hj1⟩:=bS hj1;refine zq8 ?_;obtain ⟨x7,hx9,hj1⟩:=bS hj1;refine Ai rfl rfl rfl (Af 1 Tryz.runUnderlying78 Tryz.sizeOf4 rfl rfl rfl hx9) ?_;refine Ai rfl rfl rfl (AL (off:=0) 1 Tryz.isAgg4 rfl rfl (Av hx9).2 rfl rfl rfl) ?_;refine zq2 ?_;refine zcn hj1 (fun hc3 hj1=>?_) (fun hc3 hj1=>?_)
     ·refine zq4 ?_
      obtain ⟨x8,hx10,hj1⟩:=bS hj1;refine Ai rfl rfl rfl (Af 1 Tryz.runUnderlying78 Tryz.sizeOf4 rfl rfl rfl hx10) ?_;refine H6 rfl rfl (AV (off:=0) (z':=true) 1 Tryz.sizeOf4 rfl rfl (Av hx10).2 rfl rfl rfl rfl rfl rfl (nB rfl) rfl rfl) ?_;rintro _ _ rfl;refine Ak (ms':=[_,_]++tl_4) rfl ?_;refine zq4 ?_;refine Ai rfl rfl rfl (zs1 D.i64) ?_;obtain ⟨hg11,hj1⟩:=Aa hj1;refine AG rfl rfl rfl (MQ (a:=_) 0 Tryz.underlying43 Tryz.type3 rfl rfl rfl rfl rfl rfl rfl (fun _=>rfl) (fun _=>rfl) hg11 (BX hg11 rfl)) ?_;rintro _ _ ⟨a_r2,cap_r2,rfl,rfl⟩;refine Ak (ms':=[_,_]++tl_4) rfl ?_;refine zq3 ?_;obtain ⟨hg12,hj1⟩:=Aa hj1;refine zq3 ?_;exact ⟨_,((_,_),()),hj1,⟨rfl,rfl,trivial⟩,⟨rfl,rfl,rfl,rfl,rfl,trivial⟩,[],rfl⟩
     ·refine zq2 ?_
      obtain ⟨hg13,hj1⟩:=Aa hj1;refine zq3 ?_;exact ⟨_,((_,_),()),hj1,⟨rfl,rfl,trivial⟩,⟨rfl,rfl,rfl,rfl,rfl,trivial⟩,[],rfl⟩
    ·refine Ar ?_
     exact ⟨_,((_,_),()),Ac hj1,⟨rfl,trivial⟩,⟨rfl,rfl,rfl,trivial⟩,[],rfl⟩
   ·rintro ⟨l4,l5⟩ ⟨⟨a_r2,cap_r2⟩,⟨⟩⟩ hst
    subst hst;refine Al (L':=[(4,.v (.slice a_r2 l4.length cap_r2)),(0,_),(1,_),(3,_)]) (ms':=[que a_r2 cap_r2 3 1 D.i64 l4,arr a_r1 m_r1 cap_r1 4 1 D.bool l5]++tl_4) rfl rfl ?_;exact ⟨_,(⟨((k_3+1),tl_4),hk_4,(hJ_4 rfl)⟩,(_,_),()),hm1,⟨rfl,trivial⟩,⟨rfl,rfl,rfl,trivial⟩,[],rfl⟩
 ·refine Ar ?_
  exact retKn (DQ (ms':=tl_3) (drop:=[_,_]) rfl (List.Perm.refl _)) (.inl (Mz hm hk_3 hJ_3 _))
theorem RL {p0:AutoAuto} :
  Fn0 Tryz.prog 96 [AutoAuto.d p0] (.clo (.func 140) [] [.ref (AutoAuto.d p0)]):=by
 refine Ad Tryz.func96 rfl Tryz.ntmps96 rfl fun H0 fr w0=>?_;refine zq7 ?_;refine Ai rfl rfl rfl (De rfl rfl) ?_;refine zq2 ?_;refine Ae ?_;exact retK (BA rfl (B5 rfl) (EV _)) (by rfl)
def Ge (l1:(List Int)):Option (List Int):=
 grd ((0+l1.length)*8<=140737488355328) <|
 some ([]++l1)
theorem MJ {l1:(List Int)} {r_1:(List Int)} (hm:Ge l1=some r_1):Fn0 Tryz.prog 28 [.list 1 D.i64 l1] (.list 1 D.i64 r_1):=by
 unfold Ge at hm;refine Ad Tryz.func28 rfl Tryz.ntmps28 rfl fun H0 fr w0=>?_;refine zq3 ?_;refine Ap (nilE (i:=2) (sz:=1) (f:=D.i64) rfl).refines ?_;refine zq3 ?_;refine AG rfl rfl rfl (Au (xs:=[]) (f:=D.i64) (l:=[]) Tryz.runUnderlying43 Tryz.sizeOf3 Tryz.zeroValue3 rfl rfl rfl (fun _=>⟨rfl,rfl,rfl⟩) rfl (by simp [maxLen])) ?_;rintro _ _ ⟨a_r1,rfl,rfl⟩;refine zq1 ?_;obtain ⟨hg1,hm⟩:=Aa hm;refine zap 0 hg1 fun a_r1 cap_r1=>?_;refine Ak (ms':=[_]) rfl ?_;refine zq2 ?_;refine BM (peekE (i:=2) 0 rfl rfl rfl).refines ?_
 cases hm;exact Ae zr1
def B0 (x1:AutoState):Nat->(Int×(List AutoEdge)×(List AutoEdge)×Bool×Bool×Bool×Bool×Bool×Bool×Bool×Bool×(List Int)×Int×Int)->Option ((List AutoEdge)×(List AutoEdge)×Bool×Bool×Bool×Bool×Bool×Bool×Bool×Bool×(List Int)×Int×Int)
 | 0,_=>none
 | n+1,(k1,l6,l7,z14,z15,z16,z17,z18,z19,z20,z21,z22,z23,z24) =>
  bif ((decide (k1<(x1.fields.length:Int)))&&(decide (k1<40))) then
   (idx x1.fields k1).bind fun x3 =>
   (idx x1.fields k1).bind fun x4 =>
   grd ((l7.length+([(⟨x3.name,x4.to_⟩:AutoEdge)]:List _).length)*24<=140737488355328) <|
   grd (InR (k1+1)) <|
   B0 x1 n ((k1+1),l6,(l7++[(⟨x3.name,x4.to_⟩:AutoEdge)]),z14,z15,z16,z17,z18,z19,z20,z21,z22,z23,z24)
  else
   some (l6,l7,z14,z15,z16,z17,z18,z19,z20,z21,z22,z23,z24)
def B1 (x1:AutoState):Nat->(Int×(List AutoEdge)×(List AutoEdge)×Bool×Bool×Bool×Bool×Bool×Bool×Bool×Bool×(List Int)×Int×Int)->Option ((List AutoEdge)×(List AutoEdge)×Bool×Bool×Bool×Bool×Bool×Bool×Bool×Bool×(List Int)×Int×Int)
 | 0,_=>none
 | n+1,(k2,l10,l11,z36,z37,z38,z39,z40,z41,z42,z43,z44,z45,z46) =>
  bif ((decide (k2<(x1.tags.length:Int)))&&(decide (k2<40))) then
   (idx x1.tags k2).bind fun x5 =>
   (idx x1.tags k2).bind fun x6 =>
   grd ((l10.length+([(⟨x5.name,x6.to_⟩:AutoEdge)]:List _).length)*24<=140737488355328) <|
   grd (InR (k2+1)) <|
   B1 x1 n ((k2+1),(l10++[(⟨x5.name,x6.to_⟩:AutoEdge)]),l11,z36,z37,z38,z39,z40,z41,z42,z43,z44,z45,z46)
  else
   some (l10,l11,z36,z37,z38,z39,z40,z41,z42,z43,z44,z45,z46)
def B3 (a1:AutoAuto) (most1:Int):Nat->(Int×(List AutoState)×Int)->Option ((List AutoState)×Int)
 | 0,_=>none
 | n+1,(i1,l2,z2) =>
  bif ((decide (i1<(a1.l.length:Int)))&&((decide (i1<most1))||((decide (2000<(a1.l.length:Int)))&&(decide (i1<=2000))))) then
   (idx a1.l i1).bind fun x1 =>
   (sli x1.vars 0 (if 40<(x1.vars.length:Int) then 40 else (x1.vars.length:Int))).bind fun l3 =>
   (Ge l3).bind fun x2 =>
   (B0 x1 FU (0,([]:List AutoEdge),([]:List AutoEdge),x1.plus,x1.all,x1.int,x1.bool,x1.str,x1.arrow,x1.rec_,x1.tag,x2,x1.dom,x1.cod):Option ((List AutoEdge)×(List AutoEdge)×Bool×Bool×Bool×Bool×Bool×Bool×Bool×Bool×(List Int)×Int×Int)).bind fun (l4,l5,z3,z4,z5,z6,z7,z8,z9,z10,z11,z12,z13) =>
   (B1 x1 FU (0,l4,l5,z3,z4,z5,z6,z7,z8,z9,z10,z11,z12,z13):Option ((List AutoEdge)×(List AutoEdge)×Bool×Bool×Bool×Bool×Bool×Bool×Bool×Bool×(List Int)×Int×Int)).bind fun (l8,l9,z25,z26,z27,z28,z29,z30,z31,z32,z33,z34,z35) =>
   grd ((l2.length+([(⟨z25,z26,z27,z28,z29,z30,z31,z32,z33,z34,z35,l9,l8⟩:AutoState)]:List _).length)*96<=140737488355328) <|
   grd (InR (i1+1)) <|
   B3 a1 most1 n ((i1+1),(l2++[(⟨z25,z26,z27,z28,z29,z30,z31,z32,z33,z34,z35,l9,l8⟩:AutoState)]),z2)
  else
   some (l2,z2)
def Cr (a1:AutoAuto) (most1:Int):Option AutoAuto:=
 (B3 a1 most1 FU (0,([]:List AutoState),a1.start):Option ((List AutoState)×Int)).bind fun (l1,z1) =>
 some (⟨l1,z1⟩:AutoAuto)
theorem HQ {a1:AutoAuto} {most1:Int} {r_1:AutoAuto} (hm:Cr a1 most1=some r_1):Fn0 Tryz.prog 7 [AutoAuto.d a1,.i64 most1] (AutoAuto.d r_1):=by
 unfold Cr at hm;refine Ad Tryz.func7 rfl Tryz.ntmps7 rfl fun H0 fr w0=>?_;refine zq3 ?_;refine Kc fun b1=>?_;refine zq5 ?_;refine Ai rfl rfl rfl zb27a ?_;refine Kc fun b2=>?_;refine zst 0 ?_;refine Ap (Az (T:=59) (sz:=13) (f:=AutoState.d)) ?_;refine Ak (ms':=[_,box b2 27 [_,_],box b1 27 [_,_]]) rfl ?_;refine zq6 ?_;obtain ⟨o_1,hj1,hm1⟩:=bS hm;refine Ag [(4,_),(5,_)] [(2,_)] (fun (st:((List AutoState)×Int)) (hid:(Option Addr×Nat))=>match st,hid with | (l1,z1),(a_r1,cap_r1)=>[]) (fun F (st:((List AutoState)×Int)) (hid:(Option Addr×Nat))=>match st,hid with | (l1,z1),(a_r1,cap_r1)=>[row a_r1 cap_r1 59 13 AutoState.d l1,box b2 27 [.v (.slice a_r1 l1.length cap_r1),.i64 z1],(nthF F 0)]) (fun st=>st=o_1) ⟨rfl,rfl,trivial⟩ ⟨rfl,trivial⟩ ?_ ?_
 ·refine Am ?_
  refine Ah [(1,_),(2,_),(4,_),(5,_)] [(2,_)] (fun (st:(Int×(List AutoState)×Int)) (hid:(Option Addr×Nat))=>match st,hid with | (i1,l2,z2),(a_r1,cap_r1)=>[(6,.i64 i1)]) (fun F (st:(Int×(List AutoState)×Int)) (hid:(Option Addr×Nat))=>match st,hid with | (i1,l2,z2),(a_r1,cap_r1)=>[row a_r1 cap_r1 59 13 AutoState.d l2,box b2 27 [.v (.slice a_r1 l2.length cap_r1),.i64 z2],(nthF F 0)]) (_,_) hj1 (fun _=>rfl) ⟨rfl,rfl,rfl,rfl,trivial⟩ ⟨rfl,trivial⟩ ⟨rfl,trivial⟩ rfl ?_;rintro n ⟨i1,l2,z2⟩ ⟨a_r1,cap_r1⟩ hj1;rw [B3] at hj1;refine Ao (L':=[(6,.i64 i1),(1,_),(2,_),(4,_),(5,_)]) (ms':=[row a_r1 cap_r1 59 13 AutoState.d l2,box b2 27 [.v (.slice a_r1 l2.length cap_r1),.i64 z2],_]) rfl rfl ?_;refine zq9 ?_
  apply Bm [(1,_),(2,_),(4,_),(5,_),(6,_)] 14 33 (t:=19) ⟨rfl,rfl,rfl,rfl,rfl,trivial⟩ rfl
  ·intro hg_1 hk1
   refine zq4 ?_
   apply AX [(1,_),(2,_),(4,_),(5,_),(6,_),(19,_)] 9 32 (t:=23) ⟨rfl,rfl,rfl,rfl,rfl,rfl,trivial⟩ rfl
   ·intro hg_2 hk2
    refine zq5 ?_
    apply Bm [(1,_),(2,_),(4,_),(5,_),(6,_),(19,_),(23,_)] 3 31 (t:=28) ⟨rfl,rfl,rfl,rfl,rfl,rfl,rfl,trivial⟩ rfl
    ·intro hg_3 hk3
     refine zq3 ?_;exact zgm hk3
    ·intro hg_3 hk3
     refine zq3 ?_;exact zgm hk3
    refine zq1 ?_;exact zgm hk2
   ·intro hg_2 hk2
    refine zq9 ?_;exact zgm hk2
   refine zq1 ?_;exact zgm hk1
  ·intro hg_1 hk1
   refine zq14 ?_;exact zgm hk1
  refine gNl ?_;refine zcn hj1 (fun hc1 hj1=>?_) (fun hc1 hj1=>?_)
  ·refine zq8 ?_
   obtain ⟨x1,hx1,hj1⟩:=bS hj1;refine Ai rfl rfl rfl (oIm Tryz.runUnderlying22 Tryz.sizeOf46 rfl rfl hx1) ?_;refine zq1 ?_;refine M7 fun b3=>?_;refine zst 0 ?_;refine Ak (ms':=[box b3 46 [_,_,_,_,_,_,_,_,_,_,_,_,_],_,box b2 27 [_,_],box b1 27 [_,_]]) rfl ?_;refine zq2 ?_;obtain ⟨l3,hx2,hj1⟩:=bS hj1;obtain ⟨x2,hx3,hj1⟩:=bS hj1;refine H7 30 [29] A0 (by decide +kernel) (by decide +kernel) rfl (by decide +kernel) ?_;refine AM rfl rfl rfl rfl (oFb Q7 rfl) ?_;refine AM rfl rfl rfl rfl (oLb 0 Tryz.isAgg4 rfl rfl rfl rfl) ?_;refine AM rfl rfl rfl rfl (oFb Q1 rfl) ?_;refine AM rfl rfl rfl rfl (oLb 0 Tryz.isAgg4 rfl rfl rfl rfl) ?_;refine AM rfl rfl rfl rfl (oFb Qn rfl) ?_;refine AM rfl rfl rfl rfl (oLb 0 Tryz.isAgg4 rfl rfl rfl rfl) ?_;refine AM rfl rfl rfl rfl (oFb QV rfl) ?_;refine AM rfl rfl rfl rfl (oLb 0 Tryz.isAgg4 rfl rfl rfl rfl) ?_;refine AM rfl rfl rfl rfl (oFb QD rfl) ?_;refine AM rfl rfl rfl rfl (oLb 0 Tryz.isAgg4 rfl rfl rfl rfl) ?_;refine AM rfl rfl rfl rfl (oFb Qk rfl) ?_;refine AM rfl rfl rfl rfl (oLb 0 Tryz.isAgg4 rfl rfl rfl rfl) ?_;refine AM rfl rfl rfl rfl (oFb QQ rfl) ?_;refine AM rfl rfl rfl rfl (oLb 0 Tryz.isAgg4 rfl rfl rfl rfl) ?_;refine AM rfl rfl rfl rfl (oFb Q0 rfl) ?_;refine AM rfl rfl rfl rfl (oLb 0 Tryz.isAgg4 rfl rfl rfl rfl) ?_;refine AM rfl rfl rfl rfl (oFb KJ rfl) ?_;refine AM rfl rfl rfl rfl (oLb 0 Tryz.isAgg3 rfl rfl rfl rfl) ?_;refine AM rfl rfl rfl rfl (oFb Jv rfl) ?_;refine AM rfl rfl rfl rfl (oLb 0 Tryz.isAgg3 rfl rfl rfl rfl) ?_;refine AM rfl rfl rfl rfl (oFb MR rfl) ?_;refine AM rfl rfl rfl rfl (oLb 0 Tryz.isAgg43 rfl rfl rfl rfl) ?_;refine AM rfl rfl rfl rfl (oFb MR rfl) ?_;refine AM rfl rfl rfl rfl (oLb 0 Tryz.isAgg43 rfl rfl rfl rfl) ?_;refine AM rfl rfl rfl rfl (Fb Tryz.runUnderlying43 rfl) ?_;refine AM rfl rfl rfl rfl (Wa rfl rfl) ?_;refine AM rfl rfl rfl rfl (BG Tryz.runUnderlying43 Tryz.sizeOf3 rfl rfl ⟨_,rfl⟩ hx2) ?_;refine AM rfl rfl rfl rfl (Bv Tryz.call28 rfl (MJ hx3)) ?_;refine AM rfl rfl rfl rfl zb59a ?_;refine Hb (R:=fun d A=>∃ b,d = .v (.pointer (some ⟨b,0,none⟩))/\A=box b 59 [.bool false,.bool false,.bool false,.bool false,.bool false,.bool false,.bool false,.bool false,.list 1 D.i64 [],.i64 0,.i64 0,.list 2 AutoEdge.d [],.list 2 AutoEdge.d []]) rfl rfl rfl (OpT.mono (AN Tryz.zeroValue59 (cs:=[.bool false,.bool false,.bool false,.bool false,.bool false,.bool false,.bool false,.bool false,.list 1 D.i64 [],.i64 0,.i64 0,.list 2 AutoEdge.d [],.list 2 AutoEdge.d []]) rfl) (by rintro d ms' ⟨b,rfl,rfl⟩;exact ⟨_,⟨b,rfl,rfl⟩,rfl⟩)) ?_
   refine JG ?_;rintro _ _ ⟨b4,rfl,rfl⟩;refine zst 0 ?_;refine Ap (Az (T:=62) (sz:=2) (f:=AutoEdge.d)) ?_;refine Ap (Az (T:=62) (sz:=2) (f:=AutoEdge.d)) ?_;refine Ak (ms':=[_,_,box b4 59 [_,_,_,_,_,_,_,_,_,_,_,_,_],box b3 46 [_,_,_,_,_,_,_,_,_,_,_,_,_],_,box b2 27 [_,_],box b1 27 [_,_]]) rfl ?_;refine zq6 ?_;obtain ⟨o_2,hj2,hm2⟩:=bS hj1;refine Ag [(1,_),(2,_),(4,_),(5,_),(6,_),(7,_),(8,_)] [(3,_),(4,_),(5,_),(6,_)] (fun (st:((List AutoEdge)×(List AutoEdge)×Bool×Bool×Bool×Bool×Bool×Bool×Bool×Bool×(List Int)×Int×Int)) (hid:(Option Addr×Nat)×(Option Addr×Nat))=>match st,hid with | (l4,l5,z3,z4,z5,z6,z7,z8,z9,z10,z11,z12,z13),((a_r3,cap_r3),(a_r2,cap_r2))=>[]) (fun F (st:((List AutoEdge)×(List AutoEdge)×Bool×Bool×Bool×Bool×Bool×Bool×Bool×Bool×(List Int)×Int×Int)) (hid:(Option Addr×Nat)×(Option Addr×Nat))=>match st,hid with | (l4,l5,z3,z4,z5,z6,z7,z8,z9,z10,z11,z12,z13),((a_r3,cap_r3),(a_r2,cap_r2))=>[row a_r3 cap_r3 62 2 AutoEdge.d l4,row a_r2 cap_r2 62 2 AutoEdge.d l5,box b4 59 [.bool z3,.bool z4,.bool z5,.bool z6,.bool z7,.bool z8,.bool z9,.bool z10,.list 1 D.i64 z11,.i64 z12,.i64 z13,.v (.slice a_r2 l5.length cap_r2),.v (.slice a_r3 l4.length cap_r3)],(nthF F 0),(nthF F 1),(nthF F 2),(nthF F 3)]) (fun st=>st=o_2) ⟨rfl,rfl,rfl,rfl,rfl,rfl,rfl,trivial⟩ ⟨rfl,rfl,rfl,rfl,trivial⟩ ?_ ?_
   ·refine Am ?_
    refine Ah [(1,_),(2,_),(4,_),(5,_),(6,_),(7,_),(8,_)] [(3,_),(4,_),(5,_),(6,_)] (fun (st:(Int×(List AutoEdge)×(List AutoEdge)×Bool×Bool×Bool×Bool×Bool×Bool×Bool×Bool×(List Int)×Int×Int)) (hid:(Option Addr×Nat)×(Option Addr×Nat))=>match st,hid with | (k1,l6,l7,z14,z15,z16,z17,z18,z19,z20,z21,z22,z23,z24),((a_r3,cap_r3),(a_r2,cap_r2))=>[(9,.i64 k1)]) (fun F (st:(Int×(List AutoEdge)×(List AutoEdge)×Bool×Bool×Bool×Bool×Bool×Bool×Bool×Bool×(List Int)×Int×Int)) (hid:(Option Addr×Nat)×(Option Addr×Nat))=>match st,hid with | (k1,l6,l7,z14,z15,z16,z17,z18,z19,z20,z21,z22,z23,z24),((a_r3,cap_r3),(a_r2,cap_r2))=>[row a_r3 cap_r3 62 2 AutoEdge.d l6,row a_r2 cap_r2 62 2 AutoEdge.d l7,box b4 59 [.bool z14,.bool z15,.bool z16,.bool z17,.bool z18,.bool z19,.bool z20,.bool z21,.list 1 D.i64 z22,.i64 z23,.i64 z24,.v (.slice a_r2 l7.length cap_r2),.v (.slice a_r3 l6.length cap_r3)],(nthF F 0),(nthF F 1),(nthF F 2),(nthF F 3)]) ((_,_),(_,_)) hj2 (fun _=>rfl) ⟨rfl,rfl,rfl,rfl,rfl,rfl,rfl,trivial⟩ ⟨rfl,rfl,rfl,rfl,trivial⟩ ⟨rfl,trivial⟩ rfl ?_;rintro n ⟨k1,l6,l7,z14,z15,z16,z17,z18,z19,z20,z21,z22,z23,z24⟩ ⟨⟨a_r3,cap_r3⟩,⟨a_r2,cap_r2⟩⟩ hj2;rw [B0] at hj2;refine Ao (L':=[(9,.i64 k1),(1,_),(2,_),(4,_),(5,_),(6,_),(7,_),(8,_)]) (ms':=[row a_r3 cap_r3 62 2 AutoEdge.d l6,row a_r2 cap_r2 62 2 AutoEdge.d l7,box b4 59 [.bool z14,.bool z15,.bool z16,.bool z17,.bool z18,.bool z19,.bool z20,.bool z21,.list 1 D.i64 z22,.i64 z23,.i64 z24,.v (.slice a_r2 l7.length cap_r2),.v (.slice a_r3 l6.length cap_r3)],_,_,_,_]) rfl rfl ?_;refine zq9 ?_
    apply Bm [(1,_),(2,_),(4,_),(5,_),(6,_),(7,_),(8,_),(9,_)] 3 78 (t:=75) ⟨rfl,rfl,rfl,rfl,rfl,rfl,rfl,rfl,trivial⟩ rfl
    ·intro hg_4 hk4
     refine zq3 ?_;exact zgm hk4
    ·intro hg_4 hk4
     refine zq3 ?_;exact zgm hk4
    refine gNl ?_;refine zcn hj2 (fun hc2 hj2=>?_) (fun hc2 hj2=>?_)
    ·refine zq3 ?_
     obtain ⟨x3,hx4,hj2⟩:=bS hj2;obtain ⟨x4,hx5,hj2⟩:=bS hj2;refine zdr 16 ?_;refine zq5 ?_;refine AC rfl rfl rfl (oIm Tryz.runUnderlying44 Tryz.sizeOf61 rfl rfl hx4) ?_;refine zq5 ?_;refine AC rfl rfl rfl (oIm Tryz.runUnderlying44 Tryz.sizeOf61 rfl rfl hx5) ?_;refine zq2 ?_;refine AC rfl rfl rfl zb62a ?_;refine AC rfl rfl rfl (Aj (xs:=[_]) (f:=AutoEdge.d) (l:=[(⟨x3.name,x4.to_⟩:AutoEdge)]) Tryz.runUnderlying57 Tryz.sizeOf62 Tryz.zeroValue62 rfl rfl rfl (fun _=>⟨rfl,rfl,rfl⟩) rfl) ?_;refine Ex ?_;obtain ⟨hg6,hj2⟩:=Aa hj2;refine zap 1 hg6 fun a_r2 cap_r2=>?_;refine Ak (ms':=[_,_,box b4 59 [_,_,_,_,_,_,_,_,_,_,_,_,_],box b3 46 [_,_,_,_,_,_,_,_,_,_,_,_,_],_,box b2 27 [_,_],box b1 27 [_,_]]) rfl ?_;refine zq1 ?_;refine zst 2 ?_;refine Ak (ms':=[_,_,box b4 59 [_,_,_,_,_,_,_,_,_,_,_,_,_],box b3 46 [_,_,_,_,_,_,_,_,_,_,_,_,_],_,box b2 27 [_,_],box b1 27 [_,_]]) rfl ?_;refine zq3 ?_;obtain ⟨hg7,hj2⟩:=Aa hj2;refine zq3 ?_;exact ⟨_,((_,_),(_,_)),hj2,⟨rfl,trivial⟩,⟨rfl,rfl,rfl,rfl,rfl,rfl,rfl,trivial⟩,[],rfl⟩
    ·refine Ar ?_
     exact ⟨_,((_,_),(_,_)),Ac hj2,trivial,⟨rfl,rfl,rfl,rfl,rfl,rfl,rfl,trivial⟩,[],rfl⟩
   ·rintro ⟨l4,l5,z3,z4,z5,z6,z7,z8,z9,z10,z11,z12,z13⟩ ⟨⟨a_r3,cap_r3⟩,⟨a_r2,cap_r2⟩⟩ hst
    subst hst;refine Al (L':=[(1,_),(2,_),(4,_),(5,_),(6,_),(7,_),(8,_)]) (ms':=[row a_r3 cap_r3 62 2 AutoEdge.d l4,row a_r2 cap_r2 62 2 AutoEdge.d l5,box b4 59 [.bool z3,.bool z4,.bool z5,.bool z6,.bool z7,.bool z8,.bool z9,.bool z10,.list 1 D.i64 z11,.i64 z12,.i64 z13,.v (.slice a_r2 l5.length cap_r2),.v (.slice a_r3 l4.length cap_r3)],_,_,_,_]) rfl rfl ?_;refine zq5 ?_;obtain ⟨o_3,hj3,hm3⟩:=bS hm2;refine Ag [(1,_),(2,_),(4,_),(5,_),(6,_),(8,_)] [(3,_),(4,_),(5,_),(6,_)] (fun (st:((List AutoEdge)×(List AutoEdge)×Bool×Bool×Bool×Bool×Bool×Bool×Bool×Bool×(List Int)×Int×Int)) (hid:(Option Addr×Nat)×(Option Addr×Nat))=>match st,hid with | (l8,l9,z25,z26,z27,z28,z29,z30,z31,z32,z33,z34,z35),((a_r3,cap_r3),(a_r2,cap_r2))=>[]) (fun F (st:((List AutoEdge)×(List AutoEdge)×Bool×Bool×Bool×Bool×Bool×Bool×Bool×Bool×(List Int)×Int×Int)) (hid:(Option Addr×Nat)×(Option Addr×Nat))=>match st,hid with | (l8,l9,z25,z26,z27,z28,z29,z30,z31,z32,z33,z34,z35),((a_r3,cap_r3),(a_r2,cap_r2))=>[row a_r3 cap_r3 62 2 AutoEdge.d l8,row a_r2 cap_r2 62 2 AutoEdge.d l9,box b4 59 [.bool z25,.bool z26,.bool z27,.bool z28,.bool z29,.bool z30,.bool z31,.bool z32,.list 1 D.i64 z33,.i64 z34,.i64 z35,.v (.slice a_r2 l9.length cap_r2),.v (.slice a_r3 l8.length cap_r3)],(nthF F 0),(nthF F 1),(nthF F 2),(nthF F 3)]) (fun st=>st=o_3) ⟨rfl,rfl,rfl,rfl,rfl,rfl,trivial⟩ ⟨rfl,rfl,rfl,rfl,trivial⟩ ?_ ?_
    ·refine Am ?_
     refine Ah [(1,_),(2,_),(4,_),(5,_),(6,_),(7,_),(8,_)] [(3,_),(4,_),(5,_),(6,_)] (fun (st:(Int×(List AutoEdge)×(List AutoEdge)×Bool×Bool×Bool×Bool×Bool×Bool×Bool×Bool×(List Int)×Int×Int)) (hid:(Option Addr×Nat)×(Option Addr×Nat))=>match st,hid with | (k2,l10,l11,z36,z37,z38,z39,z40,z41,z42,z43,z44,z45,z46),((a_r3,cap_r3),(a_r2,cap_r2))=>[(10,.i64 k2)]) (fun F (st:(Int×(List AutoEdge)×(List AutoEdge)×Bool×Bool×Bool×Bool×Bool×Bool×Bool×Bool×(List Int)×Int×Int)) (hid:(Option Addr×Nat)×(Option Addr×Nat))=>match st,hid with | (k2,l10,l11,z36,z37,z38,z39,z40,z41,z42,z43,z44,z45,z46),((a_r3,cap_r3),(a_r2,cap_r2))=>[row a_r3 cap_r3 62 2 AutoEdge.d l10,row a_r2 cap_r2 62 2 AutoEdge.d l11,box b4 59 [.bool z36,.bool z37,.bool z38,.bool z39,.bool z40,.bool z41,.bool z42,.bool z43,.list 1 D.i64 z44,.i64 z45,.i64 z46,.v (.slice a_r2 l11.length cap_r2),.v (.slice a_r3 l10.length cap_r3)],(nthF F 0),(nthF F 1),(nthF F 2),(nthF F 3)]) ((_,_),(_,_)) hj3 (fun _=>rfl) ⟨rfl,rfl,rfl,rfl,rfl,rfl,rfl,trivial⟩ ⟨rfl,rfl,rfl,rfl,trivial⟩ ⟨rfl,trivial⟩ rfl ?_;rintro n ⟨k2,l10,l11,z36,z37,z38,z39,z40,z41,z42,z43,z44,z45,z46⟩ ⟨⟨a_r3,cap_r3⟩,⟨a_r2,cap_r2⟩⟩ hj3;rw [B1] at hj3;refine Ao (L':=[(10,.i64 k2),(1,_),(2,_),(4,_),(5,_),(6,_),(7,_),(8,_)]) (ms':=[row a_r3 cap_r3 62 2 AutoEdge.d l10,row a_r2 cap_r2 62 2 AutoEdge.d l11,box b4 59 [.bool z36,.bool z37,.bool z38,.bool z39,.bool z40,.bool z41,.bool z42,.bool z43,.list 1 D.i64 z44,.i64 z45,.i64 z46,.v (.slice a_r2 l11.length cap_r2),.v (.slice a_r3 l10.length cap_r3)],_,_,_,_]) rfl rfl ?_;refine zq9 ?_
     apply Bm [(1,_),(2,_),(4,_),(5,_),(6,_),(7,_),(8,_),(10,_)] 3 107 (t:=104) ⟨rfl,rfl,rfl,rfl,rfl,rfl,rfl,rfl,trivial⟩ rfl
     ·intro hg_5 hk5
      refine zq3 ?_;exact zgm hk5
     ·intro hg_5 hk5
      refine zq3 ?_;exact zgm hk5
     refine gNl ?_;refine zcn hj3 (fun hc3 hj3=>?_) (fun hc3 hj3=>?_)
     ·refine zq3 ?_
      obtain ⟨x5,hx8,hj3⟩:=bS hj3;obtain ⟨x6,hx9,hj3⟩:=bS hj3;refine zdr 16 ?_;refine zq5 ?_;refine AC rfl rfl rfl (oIm Tryz.runUnderlying44 Tryz.sizeOf61 rfl rfl hx8) ?_;refine zq5 ?_;refine AC rfl rfl rfl (oIm Tryz.runUnderlying44 Tryz.sizeOf61 rfl rfl hx9) ?_;refine zq2 ?_;refine AC rfl rfl rfl zb62a ?_;refine AC rfl rfl rfl (Aj (xs:=[_]) (f:=AutoEdge.d) (l:=[(⟨x5.name,x6.to_⟩:AutoEdge)]) Tryz.runUnderlying57 Tryz.sizeOf62 Tryz.zeroValue62 rfl rfl rfl (fun _=>⟨rfl,rfl,rfl⟩) rfl) ?_;refine Ex ?_;obtain ⟨hg10,hj3⟩:=Aa hj3;refine zap 0 hg10 fun a_r3 cap_r3=>?_;refine Ak (ms':=[_,_,box b4 59 [_,_,_,_,_,_,_,_,_,_,_,_,_],box b3 46 [_,_,_,_,_,_,_,_,_,_,_,_,_],_,box b2 27 [_,_],box b1 27 [_,_]]) rfl ?_;refine zq1 ?_;refine zst 2 ?_;refine Ak (ms':=[_,_,box b4 59 [_,_,_,_,_,_,_,_,_,_,_,_,_],box b3 46 [_,_,_,_,_,_,_,_,_,_,_,_,_],_,box b2 27 [_,_],box b1 27 [_,_]]) rfl ?_;refine zq3 ?_;obtain ⟨hg11,hj3⟩:=Aa hj3;refine zq3 ?_;exact ⟨_,((_,_),(_,_)),hj3,⟨rfl,trivial⟩,⟨rfl,rfl,rfl,rfl,rfl,rfl,rfl,trivial⟩,[],rfl⟩
     ·refine Ar ?_
      exact ⟨_,((_,_),(_,_)),Ac hj3,trivial,⟨rfl,rfl,rfl,rfl,rfl,rfl,trivial⟩,[],rfl⟩
    ·rintro ⟨l8,l9,z25,z26,z27,z28,z29,z30,z31,z32,z33,z34,z35⟩ ⟨⟨a_r3,cap_r3⟩,⟨a_r2,cap_r2⟩⟩ hst
     subst hst;refine Al (L':=[(1,_),(2,_),(4,_),(5,_),(6,_),(8,_)]) (ms':=[row a_r3 cap_r3 62 2 AutoEdge.d l8,row a_r2 cap_r2 62 2 AutoEdge.d l9,box b4 59 [.bool z25,.bool z26,.bool z27,.bool z28,.bool z29,.bool z30,.bool z31,.bool z32,.list 1 D.i64 z33,.i64 z34,.i64 z35,.v (.slice a_r2 l9.length cap_r2),.v (.slice a_r3 l8.length cap_r3)],_,_,_,_]) rfl rfl ?_;refine zq4 ?_;refine Ap (Ch (i:=130) (q:=11) 1 rfl rfl rfl rfl rfl).refines ?_;refine Ap (Ch (i:=130) (q:=12) 0 rfl rfl rfl rfl rfl).refines ?_;refine Ai rfl rfl rfl (Aj (xs:=[_]) (f:=AutoState.d) (l:=[(⟨z25,z26,z27,z28,z29,z30,z31,z32,z33,z34,z35,l9,l8⟩:AutoState)]) Tryz.runUnderlying25 Tryz.sizeOf59 Tryz.zeroValue59 rfl rfl rfl (fun _=>⟨rfl,rfl,rfl⟩) rfl) ?_;obtain ⟨hg12,hm3⟩:=Aa hm3;refine zap 4 hg12 fun a_r1 cap_r1=>?_;refine Ak (ms':=[_,_,box b4 59 [_,_,_,_,_,_,_,_,_,_,_,_,_],box b3 46 [_,_,_,_,_,_,_,_,_,_,_,_,_],_,box b2 27 [_,_],box b1 27 [_,_]]) rfl ?_;refine zq1 ?_;refine zst 5 ?_;refine Ak (ms':=[_,_,box b4 59 [_,_,_,_,_,_,_,_,_,_,_,_,_],box b3 46 [_,_,_,_,_,_,_,_,_,_,_,_,_],_,box b2 27 [_,_],box b1 27 [_,_]]) rfl ?_;refine zq3 ?_;obtain ⟨hg13,hm3⟩:=Aa hm3;refine zq3 ?_;exact ⟨_,(_,_),hm3,⟨rfl,trivial⟩,⟨rfl,rfl,rfl,rfl,trivial⟩,[_,_,_,_],rfl⟩
  ·refine Ar ?_
   exact ⟨_,(_,_),Ac hj1,trivial,⟨rfl,rfl,trivial⟩,[],rfl⟩
 ·rintro ⟨l1,z1⟩ ⟨a_r1,cap_r1⟩ hst
  subst hst;refine Al (L':=[(4,_),(5,_)]) (ms':=[row a_r1 cap_r1 59 13 AutoState.d l1,box b2 27 [.v (.slice a_r1 l1.length cap_r1),.i64 z1],_]) rfl rfl ?_;refine zq3 ?_;refine Ap (Ch (i:=134) (q:=0) 0 rfl rfl rfl rfl rfl).refines ?_;refine zst 2 ?_;refine Ak (ms':=[_,box b2 27 [_,_],box b1 27 [_,_]]) rfl ?_;refine gNl ?_
  cases hm1;exact Ae zr1
def AA (s1:(List AutoState)) (f1:(AutoState->Option Bool)):Nat->Int->Option (Out Int Unit)
 | 0,_=>none
 | n+1,x1 =>
  bif (decide (x1<(s1.length:Int))) then
   (idx s1 x1).bind fun x2 =>
   (f1 x2).bind fun x3 =>
   bif x3 then
    some (Out.ret x1)
   else
    grd (InR (x1+1)) <|
    AA s1 f1 n (x1+1)
  else
   some (Out.go (()))
def AT (s1:(List AutoState)) (f1:(AutoState->Option Bool)):Option Int:=
 ((AA s1 f1 FU 0:Option (Out Int Unit))).bind (fun oo=>oo.on (fun r1=>some r1) (fun _ =>
 some (-1)))
theorem DZ {s1:(List AutoState)} {f1:(AutoState->Option Bool)} {r_1:Int} {fv_f1:D} (hff1:IX Tryz.prog fv_f1 AutoState.d D.bool f1) (hm:AT s1 f1=some r_1):Fn0 Tryz.prog 131 [.list 13 AutoState.d s1,fv_f1] (.i64 r_1):=by
 unfold AT at hm;refine Ad Tryz.func131 rfl Tryz.ntmps131 rfl fun H0 fr w0=>?_;refine zq11 ?_;obtain ⟨o_1,hj1,hm1⟩:=bS hm;refine Ag [] [] (fun (st:Unit) (hid:Unit)=>match st,hid with | _,_=>[]) (fun F (st:Unit) (hid:Unit)=>match st,hid with | _,_=>[]) (fun st=>Out.go (st)=o_1) trivial trivial ?_ ?_
 ·refine Am ?_
  refine Ah [(0,_),(1,_),(7,_)] [] (fun (st:Int) (hid:Unit)=>match st,hid with | x1,_=>[(8,.i64 x1)]) (fun F (st:Int) (hid:Unit)=>match st,hid with | x1,_=>[]) () hj1 (fun _=>rfl) ⟨rfl,rfl,rfl,trivial⟩ trivial ⟨rfl,trivial⟩ rfl ?_;rintro n x1 _ hj1;rw [AA] at hj1;refine Ao (L':=[(8,.i64 x1),(0,_),(1,_),(7,_)]) (ms':=[]) rfl rfl ?_;refine zq5 ?_;refine zcn hj1 (fun hc1 hj1=>?_) (fun hc1 hj1=>?_)
  ·refine zq13 ?_
   obtain ⟨x2,hx1,hj1⟩:=bS hj1;refine zq2 ?_;obtain ⟨x3,hx2,hj1⟩:=bS hj1;refine Ai rfl rfl rfl (Hd rfl rfl (hff1 _ _ hx2)) ?_;refine gNl ?_;refine zcn hj1 (fun hc2 hj1=>?_) (fun hc2 hj1=>?_)
   ·refine zq5 ?_
    refine Ae ?_;obtain rfl:=Ac hj1
    replace hm1:=Bu hm1
    cases hm1;exact zr1
   ·refine zq2 ?_
    obtain ⟨hg3,hj1⟩:=Aa hj1;refine zq3 ?_;exact ⟨_,(),hj1,⟨rfl,trivial⟩,⟨rfl,rfl,rfl,trivial⟩,[],rfl⟩
  ·refine Ar ?_
   exact ⟨_,(),Ac hj1,trivial,trivial,[],rfl⟩
 ·rintro _ _ hst
  subst hst
  replace hm1:=CT hm1
  refine Al (L':=[]) (ms':=[]) rfl rfl ?_;refine zq4 ?_
  cases hm1;exact Ae zr1
def AI (s1:(List AutoState)) (f1:(AutoState->Option Bool)):Option Bool:=
 (AT s1 f1).bind fun x1 =>
 some (decide (0<=x1))
theorem Dw {s1:(List AutoState)} {f1:(AutoState->Option Bool)} {r_1:Bool} {fv_f1:D} (hff1:IX Tryz.prog fv_f1 AutoState.d D.bool f1) (hm:AI s1 f1=some r_1):Fn0 Tryz.prog 90 [.list 13 AutoState.d s1,fv_f1] (.bool r_1):=by
 unfold AI at hm;refine Ad Tryz.func90 rfl Tryz.ntmps90 rfl fun H0 fr w0=>?_;refine zq8 ?_;obtain ⟨x1,hx1,hm⟩:=bS hm;refine zc0 (DZ hff1 hx1) ?_;refine zq3 ?_
 cases hm;exact Ae zr1
def Cq (a1:AutoAuto) (k1:Int) (plus1:Bool):Option Bool:=
 (bif ((decide (0<=k1))&&(decide (k1<(a1.l.length:Int)))) then ((idx a1.l k1).bind fun x1 =>
 some (x1.plus == plus1)) else (some false)).bind fun p1 =>
 some p1
theorem Fa {a1:AutoAuto} {k1:Int} {plus1:Bool} {r_1:Bool} (hm:Cq a1 k1 plus1=some r_1):Fn0 Tryz.prog 93 [AutoAuto.d a1,.i64 k1,.bool plus1] (.bool r_1):=by
 unfold Cq at hm;refine Ad Tryz.func93 rfl Tryz.ntmps93 rfl fun H0 fr w0=>?_;refine zq10 ?_
 apply Bm [(1,_),(2,_),(3,_)] 6 15 (t:=9) ⟨rfl,rfl,rfl,trivial⟩ rfl
 ·intro hg_1 hk1
  refine zq6 ?_;exact zgm hk1
 ·intro hg_1 hk1
  refine zq6 ?_;exact zgm hk1
 refine zq1 ?_;obtain ⟨p1,hp_2,hm⟩:=bS hm;refine AF [] 9 25 p1 (t:=16) trivial rfl (fun hg_2 hk2=>?_) (fun hg_2 hk2=>?_) ?_
 ·replace hp_2:=AD hg_2 hp_2
  refine zq3 ?_;obtain ⟨x1,hx1,hp_2⟩:=bS hp_2;refine zq6 ?_;exact zgb hk2 hp_2
 ·replace hp_2:=AE hg_2 hp_2
  refine zq9 ?_;exact zgb hk2 hp_2
 refine zq2 ?_
 cases hm;exact Ae zr1
def FF (s1:AutoState):Option Bool:=
 bif (s1.all&&((((((s1.int||s1.bool)||s1.str)||s1.arrow)||s1.rec_)||s1.tag)||(decide (0<(s1.vars.length:Int))))) then
  some false
 else
  bif ((!s1.arrow)&&((!decide (s1.dom=0))||(!decide (s1.cod=0)))) then
   some false
  else
   some ((s1.rec_||(decide ((s1.fields.length:Int)=0)))&&(s1.tag||(decide ((s1.tags.length:Int)=0))))
theorem OB {s1:AutoState} {r_1:Bool} (hm:FF s1=some r_1):Fn0 Tryz.prog 132 [AutoState.d s1] (.bool r_1):=by
 unfold FF at hm;refine Ad Tryz.func132 rfl Tryz.ntmps132 rfl fun H0 fr w0=>?_;refine zq12 ?_
 apply Bm [(1,_)] 29 35 (t:=6) ⟨rfl,trivial⟩ rfl
 ·intro hg_1 hk1
  refine zq3 ?_
  apply AX [(1,_),(6,_)] 3 12 (t:=9) ⟨rfl,rfl,trivial⟩ rfl
  ·intro hg_2 hk2
   refine zq3 ?_;exact zgm hk2
  ·intro hg_2 hk2
   refine zq3 ?_;exact zgm hk2
  refine zq1 ?_
  apply AX [(1,_),(6,_)] 3 16 (t:=13) ⟨rfl,rfl,trivial⟩ rfl
  ·intro hg_3 hk3
   refine zq3 ?_;exact zgm hk3
  ·intro hg_3 hk3
   refine zq3 ?_;exact zgm hk3
  refine zq1 ?_
  apply AX [(1,_),(6,_)] 3 20 (t:=17) ⟨rfl,rfl,trivial⟩ rfl
  ·intro hg_4 hk4
   refine zq3 ?_;exact zgm hk4
  ·intro hg_4 hk4
   refine zq3 ?_;exact zgm hk4
  refine zq1 ?_
  apply AX [(1,_),(6,_)] 3 24 (t:=21) ⟨rfl,rfl,trivial⟩ rfl
  ·intro hg_5 hk5
   refine zq3 ?_;exact zgm hk5
  ·intro hg_5 hk5
   refine zq3 ?_;exact zgm hk5
  refine zq1 ?_
  apply AX [(1,_),(6,_)] 3 28 (t:=25) ⟨rfl,rfl,trivial⟩ rfl
  ·intro hg_6 hk6
   refine zq3 ?_;exact zgm hk6
  ·intro hg_6 hk6
   refine zq3 ?_;exact zgm hk6
  refine zq1 ?_
  apply AX [(1,_),(6,_)] 5 34 (t:=29) ⟨rfl,rfl,trivial⟩ rfl
  ·intro hg_7 hk7
   refine zq5 ?_;exact zgm hk7
  ·intro hg_7 hk7
   refine zq5 ?_;exact zgm hk7
  refine zq1 ?_;exact zgm hk1
 ·intro hg_1 hk1
  refine zq29 ?_;exact zgm hk1
 refine zq2 ?_;refine zcn hm (fun hc1 hm=>?_) (fun hc1 hm=>?_)
 ·refine zq4 ?_
  cases hm;exact Ae zr1
 ·refine zq6 ?_
  apply Bm [(1,_)] 9 49 (t:=40) ⟨rfl,trivial⟩ rfl
  ·intro hg_8 hk8
   refine zq4 ?_
   apply AX [(1,_),(40,_)] 4 48 (t:=44) ⟨rfl,rfl,trivial⟩ rfl
   ·intro hg_9 hk9
    refine zq4 ?_;exact zgm hk9
   ·intro hg_9 hk9
    refine zq4 ?_;exact zgm hk9
   refine zq1 ?_;exact zgm hk8
  ·intro hg_8 hk8
   refine zq9 ?_;exact zgm hk8
  refine zq2 ?_;refine zcn hm (fun hc2 hm=>?_) (fun hc2 hm=>?_)
  ·refine zq4 ?_
   cases hm;exact Ae zr1
  ·refine zq6 ?_
   apply AX [(1,_)] 5 57 (t:=52) ⟨rfl,trivial⟩ rfl
   ·intro hg_10 hk10
    refine zq5 ?_;exact zgm hk10
   ·intro hg_10 hk10
    refine zq5 ?_;exact zgm hk10
   refine zq1 ?_
   apply Bm [] 9 67 (t:=58) trivial rfl
   ·intro hg_11 hk11
    refine zq3 ?_
    apply AX [(58,_)] 5 66 (t:=61) ⟨rfl,trivial⟩ rfl
    ·intro hg_12 hk12
     refine zq5 ?_;exact zgm hk12
    ·intro hg_12 hk12
     refine zq5 ?_;exact zgm hk12
    refine zq1 ?_;exact zgm hk11
   ·intro hg_11 hk11
    refine zq9 ?_;exact zgm hk11
   refine zq2 ?_
   cases hm;exact Ae zr1
def Cn (l1:(List Int)):Nat->Int->Option (Out Bool Unit)
 | 0,_=>none
 | n+1,x1 =>
  bif (decide (x1<(l1.length:Int))) then
   (idx l1 x1).bind fun x2 =>
   (bif ((decide (x2<0))||(decide (999<x2))) then (some true) else ((bif (decide (0<x1)) then (grd (InR (x1 - 1)) <|
   (idx l1 (x1 - 1)).bind fun x3 =>
   some (decide (x2<=x3))) else (some false)).bind fun p2 =>
   some p2)).bind fun p1 =>
   bif p1 then
    some (Out.ret false)
   else
    grd (InR (x1+1)) <|
    Cn l1 n (x1+1)
  else
   some (Out.go (()))
def DO (l1:(List Int)):Option Bool:=
 ((Cn l1 FU 0:Option (Out Bool Unit))).bind (fun oo=>oo.on (fun r1=>some r1) (fun _ =>
 some true))
theorem KC {l1:(List Int)} {r_1:Bool} (hm:DO l1=some r_1):Fn0 Tryz.prog 133 [.list 1 D.i64 l1] (.bool r_1):=by
 unfold DO at hm;refine Ad Tryz.func133 rfl Tryz.ntmps133 rfl fun H0 fr w0=>?_;refine zq11 ?_;obtain ⟨o_1,hj1,hm1⟩:=bS hm;refine Ag [] [] (fun (st:Unit) (hid:Unit)=>match st,hid with | _,_=>[]) (fun F (st:Unit) (hid:Unit)=>match st,hid with | _,_=>[]) (fun st=>Out.go (st)=o_1) trivial trivial ?_ ?_
 ·refine Am ?_
  refine Ah [(0,_),(5,_),(6,_)] [] (fun (st:Int) (hid:Unit)=>match st,hid with | x1,_=>[(7,.i64 x1)]) (fun F (st:Int) (hid:Unit)=>match st,hid with | x1,_=>[]) () hj1 (fun _=>rfl) ⟨rfl,rfl,rfl,trivial⟩ trivial ⟨rfl,trivial⟩ rfl ?_;rintro n x1 _ hj1;rw [Cn] at hj1;refine Ao (L':=[(7,.i64 x1),(0,_),(5,_),(6,_)]) (ms':=[]) rfl rfl ?_;refine zq5 ?_;refine zcn hj1 (fun hc1 hj1=>?_) (fun hc1 hj1=>?_)
  ·refine zq6 ?_
   obtain ⟨x2,hx1,hj1⟩:=bS hj1;refine zq10 ?_
   apply AX [(0,_),(3,_),(4,_),(5,_),(6,_),(7,_)] 3 17 (t:=14) ⟨rfl,rfl,rfl,rfl,rfl,rfl,trivial⟩ rfl
   ·intro hg_1 hk1
    refine zq3 ?_;exact zgm hk1
   ·intro hg_1 hk1
    refine zq3 ?_;exact zgm hk1
   refine zq1 ?_;obtain ⟨p1,hp_2,hj1⟩:=bS hj1;refine AF [(0,_),(5,_),(6,_),(7,_)] 12 30 p1 (t:=18) ⟨rfl,rfl,rfl,rfl,trivial⟩ rfl (fun hg_2 hk2=>?_) (fun hg_2 hk2=>?_) ?_
   ·replace hp_2:=AD hg_2 hp_2
    refine zq12 ?_;exact zgb hk2 hp_2
   ·replace hp_2:=AE hg_2 hp_2
    refine zq3 ?_;obtain ⟨p2,hp_3,hp_2⟩:=bS hp_2;refine AF [(0,_),(5,_),(6,_),(7,_),(18,_)] 8 29 p2 (t:=21) ⟨rfl,rfl,rfl,rfl,rfl,trivial⟩ rfl (fun hg_3 hk3=>?_) (fun hg_3 hk3=>?_) ?_
    ·replace hp_3:=AD hg_3 hp_3
     refine zq2 ?_;obtain ⟨hg2,hp_3⟩:=Aa hp_3;refine zq1 ?_;obtain ⟨x3,hx3,hp_3⟩:=bS hp_3;refine zq5 ?_;exact zgb hk3 hp_3
    ·replace hp_3:=AE hg_3 hp_3
     refine zq8 ?_;exact zgb hk3 hp_3
    refine zq1 ?_;exact zgb hk2 hp_2
   refine gNl ?_;refine zcn hj1 (fun hc2 hj1=>?_) (fun hc2 hj1=>?_)
   ·refine zq4 ?_
    refine Ae ?_;obtain rfl:=Ac hj1
    replace hm1:=Bu hm1
    cases hm1;exact zr1
   ·refine zq2 ?_
    obtain ⟨hg4,hj1⟩:=Aa hj1;refine zq3 ?_;exact ⟨_,(),hj1,⟨rfl,trivial⟩,⟨rfl,rfl,rfl,trivial⟩,[],rfl⟩
  ·refine Ar ?_
   exact ⟨_,(),Ac hj1,trivial,trivial,[],rfl⟩
 ·rintro _ _ hst
  subst hst
  replace hm1:=CT hm1
  refine Al (L':=[]) (ms':=[]) rfl rfl ?_;refine zq4 ?_
  cases hm1;exact Ae zr1
def Cy (l1:(List AutoEdge)) (is1:((List UInt8)->Option Bool)):Nat->Int->Option (Out Bool Unit)
 | 0,_=>none
 | n+1,x1 =>
  bif (decide (x1<(l1.length:Int))) then
   (idx l1 x1).bind fun x2 =>
   (is1 x2.name).bind fun x3 =>
   bif (!x3) then (some (Out.ret false)) else (bif (decide (0<x1)) then (grd (InR (x1 - 1)) <|
   (idx l1 (x1 - 1)).bind fun x4 =>
   bif (!Op.bytesLess x4.name x2.name) then
    some (Out.ret false)
   else
    grd (InR (x1+1)) <|
    Cy l1 is1 n (x1+1)) else (grd (InR (x1+1)) <|
   Cy l1 is1 n (x1+1)))
  else
   some (Out.go (()))
def Ej (l1:(List AutoEdge)) (is1:((List UInt8)->Option Bool)):Option Bool:=
 ((Cy l1 is1 FU 0:Option (Out Bool Unit))).bind (fun oo=>oo.on (fun r1=>some r1) (fun _ =>
 some (decide ((l1.length:Int)<=30))))
theorem JL {l1:(List AutoEdge)} {is1:((List UInt8)->Option Bool)} {r_1:Bool} {fv_is1:D} (hfis1:IX Tryz.prog fv_is1 D.str D.bool is1) (hm:Ej l1 is1=some r_1):Fn0 Tryz.prog 134 [.list 2 AutoEdge.d l1,fv_is1] (.bool r_1):=by
 unfold Ej at hm;refine Ad Tryz.func134 rfl Tryz.ntmps134 rfl fun H0 fr w0=>?_;refine zq11 ?_;obtain ⟨o_1,hj1,hm1⟩:=bS hm;refine Ag [(0,_)] [] (fun (st:Unit) (hid:Unit)=>match st,hid with | _,_=>[]) (fun F (st:Unit) (hid:Unit)=>match st,hid with | _,_=>[]) (fun st=>Out.go (st)=o_1) ⟨rfl,trivial⟩ trivial ?_ ?_
 ·refine Am ?_
  refine Ah [(0,_),(1,_),(7,_),(8,_)] [] (fun (st:Int) (hid:Unit)=>match st,hid with | x1,_=>[(9,.i64 x1)]) (fun F (st:Int) (hid:Unit)=>match st,hid with | x1,_=>[]) () hj1 (fun _=>rfl) ⟨rfl,rfl,rfl,rfl,trivial⟩ trivial ⟨rfl,trivial⟩ rfl ?_;rintro n x1 _ hj1;rw [Cy] at hj1;refine Ao (L':=[(9,.i64 x1),(0,_),(1,_),(7,_),(8,_)]) (ms':=[]) rfl rfl ?_;refine zq5 ?_;refine zcn hj1 (fun hc1 hj1=>?_) (fun hc1 hj1=>?_)
  ·refine zq6 ?_
   obtain ⟨x2,hx1,hj1⟩:=bS hj1;refine zq2 ?_;refine Ps fun b1=>?_;refine zq1 ?_;refine zst 0 ?_;refine Ak (ms':=[box b1 62 [_,_]]) rfl ?_;refine zq2 ?_;obtain ⟨x3,hx2,hj1⟩:=bS hj1
   rcases CQ hj1 with ⟨hg_1,hj1⟩ | ⟨hg_1,hj1⟩
   ·
    skip
    refine zdr 20 ?_;refine zq3 ?_;refine AC rfl rfl rfl (Hd rfl rfl (hfis1 _ _ hx2)) ?_;refine zq18 ?_;refine Bt rfl rfl ?_;refine zq4 ?_;refine Ae ?_;obtain rfl:=Ac hj1
    replace hm1:=Bu hm1
    cases hm1;exact zr1
   ·
    skip
    rcases CQ hj1 with ⟨hg_2,hj1⟩ | ⟨hg_2,hj1⟩
    ·
     skip
     obtain ⟨hg3,hj1⟩:=Aa hj1;obtain ⟨x4,hx4,hj1⟩:=bS hj1;refine zdr 20 ?_;refine zq3 ?_;refine AC rfl rfl rfl (Hd rfl rfl (hfis1 _ _ hx2)) ?_;refine zq18 ?_;refine zcn hj1 (fun hc2 hj1=>?_) (fun hc2 hj1=>?_)
     ·refine zq4 ?_
      refine Ae ?_;obtain rfl:=Ac hj1
      replace hm1:=Bu hm1
      cases hm1;exact zr1
     ·refine zq2 ?_
      obtain ⟨hg5,hj1⟩:=Aa hj1;refine zq3 ?_;exact ⟨_,(),hj1,⟨rfl,trivial⟩,⟨rfl,rfl,rfl,rfl,trivial⟩,[_],rfl⟩
    ·
     skip
     refine zdr 20 ?_;refine zq3 ?_;refine AC rfl rfl rfl (Hd rfl rfl (hfis1 _ _ hx2)) ?_;refine zq18 ?_;refine A3 rfl rfl ?_;refine zq2 ?_;obtain ⟨hg6,hj1⟩:=Aa hj1;refine zq3 ?_;exact ⟨_,(),hj1,⟨rfl,trivial⟩,⟨rfl,rfl,rfl,rfl,trivial⟩,[_],rfl⟩
  ·refine Ar ?_
   exact ⟨_,(),Ac hj1,trivial,⟨rfl,trivial⟩,[],rfl⟩
 ·rintro _ _ hst
  subst hst
  replace hm1:=CT hm1
  refine Al (L':=[(0,_)]) (ms':=[]) rfl rfl ?_;refine zq7 ?_
  cases hm1;exact Ae zr1
def CC (k1:Int) (c1:AutoAuto) (c2:AutoState):Option Bool:=
 (Cq c1 k1 c2.plus).bind fun x1 =>
 some (!x1)
theorem IK {k1:Int} {c1:AutoAuto} {c2:AutoState} {r_1:Bool} (hm:CC k1 c1 c2=some r_1):Fn0 Tryz.prog 139 [.i64 k1,.ref (AutoAuto.d c1),.ref (AutoState.d c2)] (.bool r_1):=by
 unfold CC at hm;refine Ad Tryz.func139 rfl Tryz.ntmps139 rfl fun H0 fr w0=>?_;refine zq10 ?_;obtain ⟨x1,hx1,hm⟩:=bS hm;refine zc0 (Fa hx1) ?_;refine zq3 ?_
 cases hm;exact Ae zr1
def C2 (a1:AutoAuto) (s1:AutoState):Option Bool:=
 (FF s1).bind fun x1 =>
 (bif (!x1) then (some true) else ((DO s1.vars).bind fun x2 =>
 some (!x2))).bind fun p1 =>
 (bif p1 then (some true) else ((Ej s1.fields (fun y0=>D5 y0)).bind fun x3 =>
 some (!x3))).bind fun p2 =>
 (bif p2 then (some true) else ((Ej s1.tags (fun y0=>EQ y0)).bind fun x4 =>
 some (!x4))).bind fun p3 =>
 bif p3 then
  some false
 else
  (bif s1.arrow then ((Cq a1 s1.dom (!s1.plus)).bind fun x5 =>
  (bif (!x5) then (some true) else ((Cq a1 s1.cod s1.plus).bind fun x6 =>
  some (!x6))).bind fun p5 =>
  some p5) else (some false)).bind fun p4 =>
  bif p4 then
   some false
  else
   (Df s1.fields).bind fun x7 =>
   (Df s1.tags).bind fun x8 =>
   (Lp [x7,x8]).bind fun x9 =>
   (JN x9 (fun y0=>CC y0 a1 s1)).bind fun x10 =>
   some (!x10)
theorem Jm {a1:AutoAuto} {s1:AutoState} {r_1:Bool} (hm:C2 a1 s1=some r_1):Fn0 Tryz.prog 95 [AutoAuto.d a1,AutoState.d s1] (.bool r_1):=by
 unfold C2 at hm;refine Ad Tryz.func95 rfl Tryz.ntmps95 rfl fun H0 fr w0=>?_;refine zq10 ?_;obtain ⟨x1,hx1,hm⟩:=bS hm;refine zc0 (OB hx1) ?_;refine zq2 ?_;obtain ⟨p1,hp_1,hm⟩:=bS hm;refine AF [(2,_),(3,_)] 5 13 p1 (t:=8) ⟨rfl,rfl,trivial⟩ rfl (fun hg_1 hk1=>?_) (fun hg_1 hk1=>?_) ?_
 ·replace hp_1:=AD hg_1 hp_1
  refine zq5 ?_;exact zgb hk1 hp_1
 ·replace hp_1:=AE hg_1 hp_1
  refine zq2 ?_;obtain ⟨x2,hx2,hp_1⟩:=bS hp_1;refine zcw (KC hx2) ?_;refine zq2 ?_;exact zgb hk1 hp_1
 refine zq1 ?_;obtain ⟨p2,hp_2,hm⟩:=bS hm;refine AF [(2,_),(3,_)] 5 19 p2 (t:=14) ⟨rfl,rfl,trivial⟩ rfl (fun hg_2 hk2=>?_) (fun hg_2 hk2=>?_) ?_
 ·replace hp_2:=AD hg_2 hp_2
  refine zq5 ?_;exact zgb hk2 hp_2
 ·replace hp_2:=AE hg_2 hp_2
  refine zq2 ?_;obtain ⟨x3,hx3,hp_2⟩:=bS hp_2;refine gWp rfl rfl rfl hg_2 rfl rfl (Bv Tryz.call134 rfl (JL (fun _ _ h=>Q2 Tryz.call135 (Ki h)) hx3)) ?_;refine zq2 ?_;exact zgb hk2 hp_2
 refine zq1 ?_;obtain ⟨p3,hp_3,hm⟩:=bS hm;refine AF [(2,_),(3,_)] 5 25 p3 (t:=20) ⟨rfl,rfl,trivial⟩ rfl (fun hg_3 hk3=>?_) (fun hg_3 hk3=>?_) ?_
 ·replace hp_3:=AD hg_3 hp_3
  refine zq5 ?_;exact zgb hk3 hp_3
 ·replace hp_3:=AE hg_3 hp_3
  refine zq2 ?_;obtain ⟨x4,hx4,hp_3⟩:=bS hp_3;refine gWp rfl rfl rfl hg_3 rfl rfl (Bv Tryz.call134 rfl (JL (fun _ _ h=>Q2 Tryz.call136 (LS h)) hx4)) ?_;refine zq2 ?_;exact zgb hk3 hp_3
 refine gNl ?_;refine zcn hm (fun hc1 hm=>?_) (fun hc1 hm=>?_)
 ·refine zq4 ?_
  cases hm;exact Ae zr1
 ·refine zq7 ?_
  obtain ⟨p4,hp_4,hm⟩:=bS hm;refine AF [(2,_),(3,_)] 18 46 p4 (t:=28) ⟨rfl,rfl,trivial⟩ rfl (fun hg_4 hk4=>?_) (fun hg_4 hk4=>?_) ?_
  ·replace hp_4:=AD hg_4 hp_4
   refine zq6 ?_;obtain ⟨x5,hx5,hp_4⟩:=bS hp_4;refine zcw (Fa hx5) ?_;refine zq2 ?_;obtain ⟨p5,hp_5,hp_4⟩:=bS hp_4;refine AF [(2,_),(3,_),(28,_)] 8 45 p5 (t:=37) ⟨rfl,rfl,rfl,trivial⟩ rfl (fun hg_5 hk5=>?_) (fun hg_5 hk5=>?_) ?_
   ·replace hp_5:=AD hg_5 hp_5
    refine zq8 ?_;exact zgb hk5 hp_5
   ·replace hp_5:=AE hg_5 hp_5
    refine zq5 ?_;obtain ⟨x6,hx6,hp_5⟩:=bS hp_5;refine zcw (Fa hx6) ?_;refine zq2 ?_;exact zgb hk5 hp_5
   refine zq1 ?_;exact zgb hk4 hp_4
  ·replace hp_4:=AE hg_4 hp_4
   refine zq18 ?_;exact zgb hk4 hp_4
  refine gNl ?_;refine zcn hm (fun hc2 hm=>?_) (fun hc2 hm=>?_)
  ·refine zq4 ?_
   cases hm;exact Ae zr1
  ·refine zq2 ?_
   obtain ⟨x7,hx7,hm⟩:=bS hm;obtain ⟨x8,hx8,hm⟩:=bS hm;obtain ⟨x9,hx9,hm⟩:=bS hm;obtain ⟨x10,hx10,hm⟩:=bS hm;refine zdr 12 ?_;refine zq2 ?_;refine zcd (Hz hx7) ?_;refine zq2 ?_;refine zcd (Hz hx8) ?_;refine AC rfl rfl rfl (zs2 (D.list 1 D.i64)) ?_;refine zcd (Vq hx9) ?_;refine AC rfl rfl rfl (De rfl rfl) ?_;refine AC rfl rfl rfl (Bv Tryz.call117 rfl (Vr (fun _ _ h=>IQ Tryz.call139 (IK h)) hx10)) ?_;refine zq4 ?_
   cases hm;exact Ae zr1
def Fj (s1:AutoState) (c1:AutoAuto):Option Bool:=
 (C2 c1 s1).bind fun x1 =>
 some (!x1)
theorem Na {s1:AutoState} {c1:AutoAuto} {r_1:Bool} (hm:Fj s1 c1=some r_1):Fn0 Tryz.prog 94 [AutoState.d s1,.ref (AutoAuto.d c1)] (.bool r_1):=by
 unfold Fj at hm;refine Ad Tryz.func94 rfl Tryz.ntmps94 rfl fun H0 fr w0=>?_;refine zq9 ?_;obtain ⟨x1,hx1,hm⟩:=bS hm;refine zc0 (Jm hx1) ?_;refine zq3 ?_
 cases hm;exact Ae zr1
def Fu (a1:AutoAuto):Option Int:=
 bif ((decide ((a1.l.length:Int)=0))||(decide (2000<(a1.l.length:Int)))) then
  some 8
 else
  (Cq a1 a1.start true).bind fun x1 =>
  (bif (!x1) then (some true) else ((AI a1.l (fun y0=>Fj y0 a1)).bind fun x2 =>
  some x2)).bind fun p1 =>
  bif p1 then
   some 4
  else
   some 0
theorem PN {a1:AutoAuto} {r_1:Int} (hm:Fu a1=some r_1):Fn0 Tryz.prog 66 [AutoAuto.d a1] (.i64 r_1):=by
 unfold Fu at hm;refine Ad Tryz.func66 rfl Tryz.ntmps66 rfl fun H0 fr w0=>?_;refine zq13 ?_
 apply AX [(1,_)] 5 12 (t:=7) ⟨rfl,trivial⟩ rfl
 ·intro hg_1 hk1
  refine zq5 ?_;exact zgm hk1
 ·intro hg_1 hk1
  refine zq5 ?_;exact zgm hk1
 refine gNl ?_;refine zcn hm (fun hc1 hm=>?_) (fun hc1 hm=>?_)
 ·refine zq4 ?_
  cases hm;exact Ae zr1
 ·refine zq7 ?_
  obtain ⟨x1,hx1,hm⟩:=bS hm;refine zc0 (Fa hx1) ?_;refine zq2 ?_;obtain ⟨p1,hp_2,hm⟩:=bS hm;refine AF [] 5 23 p1 (t:=18) trivial rfl (fun hg_2 hk2=>?_) (fun hg_2 hk2=>?_) ?_
  ·replace hp_2:=AD hg_2 hp_2
   refine zq5 ?_;exact zgb hk2 hp_2
  ·replace hp_2:=AE hg_2 hp_2
   refine zq2 ?_;refine gWp rfl rfl rfl hg_2 rfl rfl (De rfl rfl) ?_;obtain ⟨x2,hx2,hp_2⟩:=bS hp_2;refine gWp rfl rfl rfl hg_2 rfl rfl (Bv Tryz.call90 rfl (Dw (fun _ _ h=>IQ Tryz.call94 (Na h)) hx2)) ?_;refine zq1 ?_;exact zgb hk2 hp_2
  refine gNl ?_;refine zcn hm (fun hc2 hm=>?_) (fun hc2 hm=>?_)
  ·refine zq4 ?_
   cases hm;exact Ae zr1
  ·refine zq5 ?_
   cases hm;exact Ae zr1
def CZ (l1:(List AutoEdge)) (to1:(List Int)):Nat->(Int×(List AutoEdge))->Option (List AutoEdge)
 | 0,_=>none
 | n+1,(x1,l3) =>
  bif (decide (x1<(l1.length:Int))) then
   (idx l3 x1).bind fun x2 =>
   (idx to1 x2.to_).bind fun x3 =>
   (idx l3 x1).bind fun x4 =>
   grd (InR (x1+1)) <|
   CZ l1 to1 n ((x1+1),(l3.set (x1).toNat (⟨x4.name,x3⟩:AutoEdge)))
  else
   some l3
def Eo (l1:(List AutoEdge)) (to1:(List Int)):Option (List AutoEdge):=
 grd (l1.length*24<=140737488355328) <|
 (CZ l1 to1 FU (0,l1):Option (List AutoEdge)).bind fun l2 =>
 some l2
theorem Jj {l1:(List AutoEdge)} {to1:(List Int)} {r_1:(List AutoEdge)} (hm:Eo l1 to1=some r_1):Fn0 Tryz.prog 97 [.list 2 AutoEdge.d l1,.list 1 D.i64 to1] (.list 2 AutoEdge.d r_1):=by
 unfold Eo at hm;refine Ad Tryz.func97 rfl Tryz.ntmps97 rfl fun H0 fr w0=>?_;refine zq3 ?_;refine Ap (nilE (i:=4) (sz:=2) (f:=AutoEdge.d) rfl).refines ?_;refine zq4 ?_;obtain ⟨hg1,hm⟩:=Aa hm;refine AG rfl rfl rfl (Ey (ms₁:=[]) Tryz.call142 rfl (List.Perm.refl _) (Od hg1)) ?_;rintro _ _ ⟨_,⟨a_r1,cap_r1,hd_r1,hq_r1⟩,rfl⟩;obtain ⟨m_r1,hm_r1⟩:∃ m,m=l1.length:=⟨_,rfl⟩;rw [<- hm_r1] at hd_r1 hq_r1;subst hd_r1 hq_r1
 clear hm_r1
 refine zq6 ?_;refine Ai rfl rfl rfl (Ca 0 Tryz.runUnderlying57 rfl rfl) ?_;refine zq2 ?_;obtain ⟨o_1,hj1,hm1⟩:=bS hm;refine Ag [(5,_)] [] (fun (st:(List AutoEdge)) (hid:Unit)=>match st,hid with | l2,_=>[]) (fun F (st:(List AutoEdge)) (hid:Unit)=>match st,hid with | l2,_=>[arr a_r1 m_r1 cap_r1 62 2 AutoEdge.d l2]) (fun st=>st=o_1) ⟨rfl,trivial⟩ trivial ?_ ?_
 ·refine Am ?_
  refine Ah [(1,_),(5,_),(10,_)] [] (fun (st:(Int×(List AutoEdge))) (hid:Unit)=>match st,hid with | (x1,l3),_=>[(11,.i64 x1)]) (fun F (st:(Int×(List AutoEdge))) (hid:Unit)=>match st,hid with | (x1,l3),_=>[arr a_r1 m_r1 cap_r1 62 2 AutoEdge.d l3]) () hj1 (fun _=>rfl) ⟨rfl,rfl,rfl,trivial⟩ trivial ⟨rfl,trivial⟩ rfl ?_;rintro n ⟨x1,l3⟩ ⟨⟩ hj1;rw [CZ] at hj1;refine Ao (L':=[(11,.i64 x1),(1,_),(5,_),(10,_)]) (ms':=[arr a_r1 m_r1 cap_r1 62 2 AutoEdge.d l3]) rfl rfl ?_;refine zq5 ?_;refine zcn hj1 (fun hc1 hj1=>?_) (fun hc1 hj1=>?_)
  ·refine zq14 ?_
   obtain ⟨x2,hx2,hj1⟩:=bS hj1;refine Ai rfl rfl rfl (Af 0 Tryz.runUnderlying57 Tryz.sizeOf62 rfl rfl rfl hx2) ?_;refine Ai rfl rfl rfl (CY (b:=0) 0 Nb rfl rfl (Av hx2).2) ?_;refine Ai rfl rfl rfl (AL (off:=1) 0 Tryz.isAgg3 rfl rfl (Av hx2).2 rfl rfl rfl) ?_;obtain ⟨x3,hx3,hj1⟩:=bS hj1;refine Ai rfl rfl rfl (oIm Tryz.runUnderlying43 Tryz.sizeOf3 rfl rfl hx3) ?_;refine zq1 ?_;obtain ⟨x4,hx4,hj1⟩:=bS hj1;refine Ai rfl rfl rfl (Af 0 Tryz.runUnderlying57 Tryz.sizeOf62 rfl rfl rfl hx4) ?_;refine Ai rfl rfl rfl (CY (b:=0) 0 Nb rfl rfl (Av hx4).2) ?_;refine H6 rfl rfl (AV (off:=1) (z':=(⟨x4.name,x3⟩:AutoEdge)) 0 Tryz.sizeOf3 rfl rfl (Av hx4).2 rfl rfl rfl rfl rfl rfl (nB rfl) rfl rfl) ?_;rintro _ _ rfl;refine Ak (ms':=[_]) rfl ?_;refine zq2 ?_;obtain ⟨hg5,hj1⟩:=Aa hj1;refine zq3 ?_;exact ⟨_,(),hj1,⟨rfl,trivial⟩,⟨rfl,rfl,rfl,trivial⟩,[],rfl⟩
  ·refine Ar ?_
   exact ⟨_,(),Ac hj1,trivial,⟨rfl,trivial⟩,[],rfl⟩
 ·rintro l2 ⟨⟩ hst
  subst hst;refine Al (L':=[(5,_)]) (ms':=[arr a_r1 m_r1 cap_r1 62 2 AutoEdge.d l2]) rfl rfl ?_;refine zq5 ?_;refine Nc 0 rfl rfl ?_;rintro rfl;refine BM (peekE (i:=4) 0 rfl rfl rfl).refines ?_
  cases hm1;exact Ae zr1
def CS  : List Int->((List Int)×(List Int))->Option ((List Int)×(List Int))
 | [],(l3,l4) =>
  some (l3,l4)
 | x1::rr,(l3,l4) =>
  (idx l4 x1).bind fun x2 =>
  grd ((l3.length+([x1]:List _).length)*8<=140737488355328) <|
  CS rr ((l3++[x1]),(l4.set (x1).toNat (l3.length:Int)))
def CR (a1:AutoAuto) (l1:(List Int)) (l2:(List Int)):Nat->(Int×(List AutoState)×Int)->Option ((List AutoState)×Int)
 | 0,_=>none
 | n+1,(x3,l6,z2) =>
  bif (decide (x3<(l1.length:Int))) then
   (idx l1 x3).bind fun x4 =>
   (idx a1.l x4).bind fun x5 =>
   (bif x5.arrow then
    (idx l2 x5.dom).bind fun x6 =>
    (idx l2 x5.cod).bind fun x7 =>
    some (x5.plus,x5.all,x5.int,x5.bool,x5.str,x5.arrow,x5.rec_,x5.tag,x5.vars,x6,x7,x5.fields,x5.tags)
   else
    some (x5.plus,x5.all,x5.int,x5.bool,x5.str,x5.arrow,x5.rec_,x5.tag,x5.vars,x5.dom,x5.cod,x5.fields,x5.tags):Option (Bool×Bool×Bool×Bool×Bool×Bool×Bool×Bool×(List Int)×Int×Int×(List AutoEdge)×(List AutoEdge))).bind fun (z3,z4,z5,z6,z7,z8,z9,z10,z11,z12,z13,z14,z15) =>
   grd (z11.length*8<=140737488355328) <|
   (Eo z14 l2).bind fun x8 =>
   (Eo z15 l2).bind fun x9 =>
   grd ((l6.length+([(⟨z3,z4,z5,z6,z7,z8,z9,z10,z11,z12,z13,x8,x9⟩:AutoState)]:List _).length)*96<=140737488355328) <|
   grd (InR (x3+1)) <|
   CR a1 l1 l2 n ((x3+1),(l6++[(⟨z3,z4,z5,z6,z7,z8,z9,z10,z11,z12,z13,x8,x9⟩:AutoState)]),z2)
  else
   some (l6,z2)
def FG (a1:AutoAuto):Option AutoAuto:=
 grd (0<=(a1.l.length:Int)) <|
 grd (((a1.l.length:Int)).toNat*8<=140737488355328) <|
 ((GW a1).bind fun xs1 =>
 CS xs1 ([],(List.replicate ((a1.l.length:Int)).toNat (0:Int))):Option ((List Int)×(List Int))).bind fun (l1,l2) =>
 (CR a1 l1 l2 FU (0,[],0):Option ((List AutoState)×Int)).bind fun (l5,z1) =>
 some (⟨l5,z1⟩:AutoAuto)
theorem O2 {a1:AutoAuto} {r_1:AutoAuto} (hm:FG a1=some r_1):Fn0 Tryz.prog 67 [AutoAuto.d a1] (AutoAuto.d r_1):=by
 unfold FG at hm;refine Ad Tryz.func67 rfl Tryz.ntmps67 rfl fun H0 fr w0=>?_;refine zq3 ?_;refine Kc fun b1=>?_;refine zq6 ?_;obtain ⟨hg1,hm⟩:=Aa hm;obtain ⟨hg2,hm⟩:=Aa hm;refine AG rfl rfl rfl (C3 (f:=D.i64) (z0:=0) Tryz.underlying43 Tryz.type3 rfl rfl rfl (nB rfl) rfl rfl hg1 hg2 (nB rfl)) ?_;rintro _ _ ⟨a_r1,m_r1,cap_r1,rfl,rfl⟩;refine Sh fun b2=>?_;refine zst 0 ?_;refine Ak (ms':=[box b2 43 [_],_,box b1 27 [_,_]]) rfl ?_;refine zq3 ?_;refine TH fun b3=>?_;refine Ap (Az (T:=3) (sz:=1) (f:=D.i64)) ?_;refine zq5 ?_;refine Ai rfl rfl rfl (Bv Tryz.call96 rfl RL) ?_;refine gNl ?_;obtain ⟨o_1,hj1,hm1⟩:=bS hm;refine Ag [(1,_),(2,_),(3,_),(4,_)] [(4,_)] (fun (st:((List Int)×(List Int))) (hid:(Option Addr×Nat)×Unit)=>match st,hid with | (l1,l2),((a_r2,cap_r2),_)=>[]) (fun F (st:((List Int)×(List Int))) (hid:(Option Addr×Nat)×Unit)=>match st,hid with | (l1,l2),((a_r2,cap_r2),_)=>[row a_r2 cap_r2 3 1 D.i64 l1,box b3 43 [.v (.slice a_r2 l1.length cap_r2)],box b2 43 [.v (.slice a_r1 m_r1 cap_r1)],arr a_r1 m_r1 cap_r1 3 1 D.i64 l2,(nthF F 0)]) (fun st=>st=o_1) ⟨rfl,rfl,rfl,rfl,trivial⟩ ⟨rfl,trivial⟩ ?_ ?_
 ·refine Am ?_
  obtain ⟨xs1,hx3,hj1⟩:=bS hj1;refine Mc (fun (p:Int)=>[.i64 p]) [(4,_)] (fun F (st:((List Int)×(List Int))) (hid:(Option Addr×Nat)×Unit)=>match st,hid with | (l3,l4),((a_r2,cap_r2),_)=>[row a_r2 cap_r2 3 1 D.i64 l3,box b3 43 [.v (.slice a_r2 l3.length cap_r2)],box b2 43 [.v (.slice a_r1 m_r1 cap_r1)],arr a_r1 m_r1 cap_r1 3 1 D.i64 l4,(nthF F 0)]) ((_,_),()) hj1 ⟨rfl,trivial⟩ rfl rfl Tryz.call140 (P1 hx3) (fun _=>rfl) rfl ?_ ?_
  ·rintro H0r frr ror w0r hrr x1 rr ⟨l3,l4⟩ ⟨⟨a_r2,cap_r2⟩,⟨⟩⟩ hj1
   rw [CS] at hj1;refine Ao (ms':=[row a_r2 cap_r2 3 1 D.i64 l3,box b3 43 [.v (.slice a_r2 l3.length cap_r2)],box b2 43 [.v (.slice a_r1 m_r1 cap_r1)],arr a_r1 m_r1 cap_r1 3 1 D.i64 l4,_]) rfl rfl ?_;refine zq3 ?_
   intro H0r frr ror w0r hrr
   refine zq6 ?_;refine Ai rfl rfl rfl (.view (peekE (i:=19) 0 rfl rfl rfl) (Fb Tryz.runUnderlying43 rfl)) ?_;obtain ⟨x2,hx4,hj1⟩:=bS hj1;refine Ai rfl rfl rfl (Af 3 Tryz.runUnderlying43 Tryz.sizeOf3 rfl rfl rfl hx4) ?_;refine H6 rfl rfl (AV (off:=0) (z':=(l3.length:Int)) 3 Tryz.sizeOf3 rfl rfl (Av hx4).2 rfl rfl rfl rfl rfl rfl (nB rfl) rfl rfl) ?_;rintro _ _ rfl;refine Ak (ms':=[_,box b3 43 [_],box b2 43 [_],_,box b1 27 [_,_]]) rfl ?_;refine zq4 ?_;refine Ai rfl rfl rfl (zs1 D.i64) ?_;obtain ⟨hg5,hj1⟩:=Aa hj1;refine zap 0 hg5 fun a_r2 cap_r2=>?_;refine Ak (ms':=[_,box b3 43 [_],box b2 43 [_],_,box b1 27 [_,_]]) rfl ?_;refine zst 1 ?_;refine Ak (ms':=[_,box b3 43 [_],box b2 43 [_],_,box b1 27 [_,_]]) rfl ?_;refine gNl ?_;exact ⟨_,((_,_),()),hj1,[],rfl⟩
  ·rintro ⟨l3,l4⟩ ⟨⟨a_r2,cap_r2⟩,⟨⟩⟩ hj1
   rw [CS] at hj1;refine Al (ms':=[row a_r2 cap_r2 3 1 D.i64 l3,box b3 43 [.v (.slice a_r2 l3.length cap_r2)],box b2 43 [.v (.slice a_r1 m_r1 cap_r1)],arr a_r1 m_r1 cap_r1 3 1 D.i64 l4,_]) rfl rfl ?_;exact ⟨_,((_,_),()),Ac hj1,trivial,⟨rfl,rfl,rfl,rfl,trivial⟩,[],rfl⟩
 ·rintro ⟨l1,l2⟩ ⟨⟨a_r2,cap_r2⟩,⟨⟩⟩ hst
  subst hst;refine Al (L':=[(1,_),(2,_),(3,_),(4,_)]) (ms':=[row a_r2 cap_r2 3 1 D.i64 l1,box b3 43 [.v (.slice a_r2 l1.length cap_r2)],box b2 43 [.v (.slice a_r1 m_r1 cap_r1)],arr a_r1 m_r1 cap_r1 3 1 D.i64 l2,_]) rfl rfl ?_;refine zq2 ?_;refine VB fun b5=>?_;refine Ap (Az (T:=59) (sz:=13) (f:=AutoState.d)) ?_;refine zq5 ?_;refine Ai rfl rfl rfl (.view (peekE (i:=26) 2 rfl rfl rfl) (Fb Tryz.runUnderlying43 rfl)) ?_;refine zq2 ?_;refine Nc 5 rfl rfl ?_;rintro rfl;obtain ⟨o_2,hj2,hm2⟩:=bS hm1;refine Ag [(2,_),(6,_)] [(2,_),(3,_),(4,_),(5,_),(6,_)] (fun (st:((List AutoState)×Int)) (hid:(Option Addr×Nat))=>match st,hid with | (l5,z1),(a_r3,cap_r3)=>[]) (fun F (st:((List AutoState)×Int)) (hid:(Option Addr×Nat))=>match st,hid with | (l5,z1),(a_r3,cap_r3)=>[row a_r3 cap_r3 59 13 AutoState.d l5,box b5 27 [.v (.slice a_r3 l5.length cap_r3),.i64 z1],(nthF F 0),(nthF F 1),(nthF F 2),(nthF F 3),(nthF F 4)]) (fun st=>st=o_2) ⟨rfl,rfl,trivial⟩ ⟨rfl,rfl,rfl,rfl,rfl,trivial⟩ ?_ ?_
  ·refine Am ?_
   refine Ah [(1,_),(2,_),(3,_),(6,_),(26,_),(27,_)] [(2,_),(3,_),(4,_),(5,_),(6,_)] (fun (st:(Int×(List AutoState)×Int)) (hid:(Option Addr×Nat))=>match st,hid with | (x3,l6,z2),(a_r3,cap_r3)=>[(28,.i64 x3)]) (fun F (st:(Int×(List AutoState)×Int)) (hid:(Option Addr×Nat))=>match st,hid with | (x3,l6,z2),(a_r3,cap_r3)=>[row a_r3 cap_r3 59 13 AutoState.d l6,box b5 27 [.v (.slice a_r3 l6.length cap_r3),.i64 z2],(nthF F 0),(nthF F 1),(nthF F 2),(nthF F 3),(nthF F 4)]) (_,_) hj2 (fun _=>rfl) ⟨rfl,rfl,rfl,rfl,rfl,rfl,trivial⟩ ⟨rfl,rfl,rfl,rfl,rfl,trivial⟩ ⟨rfl,trivial⟩ rfl ?_;rintro n ⟨x3,l6,z2⟩ ⟨a_r3,cap_r3⟩ hj2;rw [CR] at hj2;refine Ao (L':=[(28,.i64 x3),(1,_),(2,_),(3,_),(6,_),(26,_),(27,_)]) (ms':=[row a_r3 cap_r3 59 13 AutoState.d l6,box b5 27 [.v (.slice a_r3 l6.length cap_r3),.i64 z2],_,_,_,_,_]) rfl rfl ?_;refine zq5 ?_;refine zcn hj2 (fun hc1 hj2=>?_) (fun hc1 hj2=>?_)
   ·refine zq5 ?_
    obtain ⟨x4,hx6,hj2⟩:=bS hj2;refine Ai rfl rfl rfl (.view (peekE (i:=26) 2 rfl rfl rfl) (oIm Tryz.runUnderlying43 Tryz.sizeOf3 rfl rfl hx6)) ?_;refine zq8 ?_;obtain ⟨x5,hx7,hj2⟩:=bS hj2;refine zq2 ?_;refine PY fun b6=>?_;refine zst 0 ?_;refine Ak (ms':=[box b6 59 [_,_,_,_,_,_,_,_,_,_,_,_,_],_,box b5 27 [_,_],_,box b3 43 [_],box b2 43 [_],_,box b1 27 [_,_]]) rfl ?_;refine zq7 ?_;obtain ⟨o_3,hj3,hm3⟩:=bS hj2;refine Ag [(1,_),(2,_),(3,_),(6,_),(9,_),(26,_),(27,_),(28,_)] [(1,_),(2,_),(3,_),(4,_),(5,_),(6,_),(7,_)] (fun (st:(Bool×Bool×Bool×Bool×Bool×Bool×Bool×Bool×(List Int)×Int×Int×(List AutoEdge)×(List AutoEdge))) (hid:Unit)=>match st,hid with | (z3,z4,z5,z6,z7,z8,z9,z10,z11,z12,z13,z14,z15),_=>[]) (fun F (st:(Bool×Bool×Bool×Bool×Bool×Bool×Bool×Bool×(List Int)×Int×Int×(List AutoEdge)×(List AutoEdge))) (hid:Unit)=>match st,hid with | (z3,z4,z5,z6,z7,z8,z9,z10,z11,z12,z13,z14,z15),_=>[box b6 59 [.bool z3,.bool z4,.bool z5,.bool z6,.bool z7,.bool z8,.bool z9,.bool z10,.list 1 D.i64 z11,.i64 z12,.i64 z13,.list 2 AutoEdge.d z14,.list 2 AutoEdge.d z15],(nthF F 0),(nthF F 1),(nthF F 2),(nthF F 3),(nthF F 4),(nthF F 5),(nthF F 6)]) (fun st=>st=o_3) ⟨rfl,rfl,rfl,rfl,rfl,rfl,rfl,rfl,trivial⟩ ⟨rfl,rfl,rfl,rfl,rfl,rfl,rfl,trivial⟩ ?_ ?_
    ·refine zcn hj3 (fun hc2 hj3=>?_) (fun hc2 hj3=>?_)
     ·obtain ⟨x6,hx8,hj3⟩:=bS hj3
      obtain ⟨x7,hx9,hj3⟩:=bS hj3;refine FY [11,13] [5,8,9,12] [5,8,9] A0 (by decide +kernel) (by decide +kernel) rfl ?_;refine Ay rfl rfl rfl rfl rfl rfl (oLb 5 Tryz.isAgg43 rfl rfl rfl rfl) ?_;refine Ay rfl rfl rfl rfl rfl rfl (oFb Jp rfl) ?_;refine Ay rfl rfl rfl rfl rfl rfl (oLb 0 Tryz.isAgg3 rfl rfl rfl rfl) ?_;refine Ay rfl rfl rfl rfl rfl rfl (.view (peekE (i:=39) 6 rfl rfl rfl) (oIm Tryz.runUnderlying43 Tryz.sizeOf3 rfl rfl hx8)) ?_;refine Ay rfl rfl rfl rfl rfl rfl (Bk Tryz.isAgg3 rfl rfl) ?_;refine NW rfl rfl rfl rfl rfl (oLb 5 Tryz.isAgg43 rfl rfl rfl rfl) ?_;refine Ay rfl rfl rfl rfl rfl rfl (oFb HS rfl) ?_;refine Ay rfl rfl rfl rfl rfl rfl (oLb 0 Tryz.isAgg3 rfl rfl rfl rfl) ?_;refine NW rfl rfl rfl rfl rfl (.view (peekE (i:=44) 6 rfl rfl rfl) (oIm Tryz.runUnderlying43 Tryz.sizeOf3 rfl rfl hx9)) ?_;refine NW rfl rfl rfl rfl rfl (Bk Tryz.isAgg3 rfl rfl) ?_;refine Ay rfl rfl rfl rfl rfl rfl (oFb Jp rfl) ?_;refine FO rfl ?_;refine Ay rfl rfl rfl rfl rfl rfl (oFb HS rfl) ?_;refine FO rfl ?_;refine Gz ?_;refine F3 rfl rfl rfl (oSb 0 Tryz.sizeOf3 rfl rfl rfl rfl rfl rfl rfl rfl (nB rfl)) ?_;rintro _ _ rfl;refine ⟨⟨⟨⟨trivial,oLb 5 Tryz.isAgg43 rfl rfl rfl rfl⟩,.view (peekE (i:=44) 6 rfl rfl rfl) (oIm Tryz.runUnderlying43 Tryz.sizeOf3 rfl rfl hx9)⟩,Bk Tryz.isAgg3 rfl rfl⟩,?_⟩;refine F3 rfl rfl rfl (oSb 0 Tryz.sizeOf3 rfl rfl rfl rfl rfl rfl rfl rfl (nB rfl)) ?_;rintro _ _ rfl;refine ⟨⟨⟨⟨trivial,oLb 5 Tryz.isAgg43 rfl rfl rfl rfl⟩,.view (peekE (i:=44) 6 rfl rfl rfl) (oIm Tryz.runUnderlying43 Tryz.sizeOf3 rfl rfl hx9)⟩,Bk Tryz.isAgg3 rfl rfl⟩,?_⟩;refine FW ?_;exact ⟨_,(),Ac hj3,trivial,⟨rfl,rfl,rfl,rfl,rfl,rfl,rfl,rfl,trivial⟩,[],rfl⟩
     ·refine gSp ?_
      exact ⟨_,(),Ac hj3,trivial,⟨rfl,rfl,rfl,rfl,rfl,rfl,rfl,rfl,trivial⟩,[],rfl⟩
    ·rintro ⟨z3,z4,z5,z6,z7,z8,z9,z10,z11,z12,z13,z14,z15⟩ _ hst
     subst hst;refine Al (L':=[(1,_),(2,_),(3,_),(6,_),(9,_),(26,_),(27,_),(28,_)]) (ms':=[box b6 59 [.bool z3,.bool z4,.bool z5,.bool z6,.bool z7,.bool z8,.bool z9,.bool z10,.list 1 D.i64 z11,.i64 z12,.i64 z13,.list 2 AutoEdge.d z14,.list 2 AutoEdge.d z15],_,_,_,_,_,_,_]) rfl rfl ?_;refine zq4 ?_;obtain ⟨hg10,hm3⟩:=Aa hm3;refine AG rfl rfl rfl (Ey (ms₁:=[]) Tryz.call64 rfl (List.Perm.refl _) (K4 hg10)) ?_;rintro _ _ ⟨_,⟨a_r4,cap_r4,hd_r4,hq_r4⟩,rfl⟩;obtain ⟨m_r4,hm_r4⟩:∃ m,m=z11.length:=⟨_,rfl⟩;rw [<- hm_r4] at hd_r4 hq_r4;subst hd_r4 hq_r4
     clear hm_r4
     refine zq1 ?_;refine zst 1 ?_;refine Ak (ms':=[_,box b6 59 [_,_,_,_,_,_,_,_,_,_,_,_,_],_,box b5 27 [_,_],_,box b3 43 [_],box b2 43 [_],_,box b1 27 [_,_]]) rfl ?_;refine zq2 ?_;obtain ⟨x8,hx11,hm3⟩:=bS hm3;obtain ⟨x9,hx12,hm3⟩:=bS hm3;refine zdr 9 ?_;refine zq3 ?_;refine AC rfl rfl rfl (.view (peekE (i:=57) 7 rfl rfl rfl) (Bv Tryz.call97 rfl (Jj hx11))) ?_;refine zq3 ?_;refine AC rfl rfl rfl (.view (peekE (i:=61) 7 rfl rfl rfl) (Bv Tryz.call97 rfl (Jj hx12))) ?_;refine zq2 ?_;refine zst 1 ?_;refine Ak (ms':=[_,box b6 59 [_,_,_,_,_,_,_,_,_,_,_,_,_],_,box b5 27 [_,_],_,box b3 43 [_],box b2 43 [_],_,box b1 27 [_,_]]) rfl ?_;refine zq1 ?_;refine zst 1 ?_;refine Ak (ms':=[_,box b6 59 [_,_,_,_,_,_,_,_,_,_,_,_,_],_,box b5 27 [_,_],_,box b3 43 [_],box b2 43 [_],_,box b1 27 [_,_]]) rfl ?_;refine zq4 ?_;refine KR 0 rfl rfl ?_;rintro rfl;refine zq1 ?_;refine Ap (Ch (i:=67) (q:=8) 0 rfl rfl rfl rfl rfl).refines ?_;refine Ai rfl rfl rfl (Aj (xs:=[_]) (f:=AutoState.d) (l:=[(⟨z3,z4,z5,z6,z7,z8,z9,z10,z11,z12,z13,x8,x9⟩:AutoState)]) Tryz.runUnderlying25 Tryz.sizeOf59 Tryz.zeroValue59 rfl rfl rfl (fun _=>⟨rfl,rfl,rfl⟩) rfl) ?_;obtain ⟨hg13,hm3⟩:=Aa hm3;refine zap 2 hg13 fun a_r3 cap_r3=>?_;refine Ak (ms':=[_,box b6 59 [_,_,_,_,_,_,_,_,_,_,_,_,_],_,box b5 27 [_,_],_,box b3 43 [_],box b2 43 [_],_,box b1 27 [_,_]]) rfl ?_;refine zq1 ?_;refine zst 3 ?_;refine Ak (ms':=[_,box b6 59 [_,_,_,_,_,_,_,_,_,_,_,_,_],_,box b5 27 [_,_],_,box b3 43 [_],box b2 43 [_],_,box b1 27 [_,_]]) rfl ?_;refine zq2 ?_;obtain ⟨hg14,hm3⟩:=Aa hm3;refine zq3 ?_;exact ⟨_,(_,_),hm3,⟨rfl,trivial⟩,⟨rfl,rfl,rfl,rfl,rfl,rfl,trivial⟩,[_,_],rfl⟩
   ·refine Ar ?_
    exact ⟨_,(_,_),Ac hj2,trivial,⟨rfl,rfl,trivial⟩,[],rfl⟩
  ·rintro ⟨l5,z1⟩ ⟨a_r3,cap_r3⟩ hst
   subst hst;refine Al (L':=[(2,_),(6,_)]) (ms':=[row a_r3 cap_r3 59 13 AutoState.d l5,box b5 27 [.v (.slice a_r3 l5.length cap_r3),.i64 z1],_,_,_,_,_]) rfl rfl ?_;refine zq3 ?_;refine Ap (Ch (i:=72) (q:=0) 0 rfl rfl rfl rfl rfl).refines ?_;refine zst 6 ?_;refine Ak (ms':=[_,box b5 27 [_,_],_,box b3 43 [_],box b2 43 [_],_,box b1 27 [_,_]]) rfl ?_;refine gNl ?_
   cases hm2;exact Ae zr1
def Ea (a1:AutoAuto):Option (AutoAuto×Int):=
 (Fu a1).bind fun x1 =>
 bif (!decide (x1=0)) then
  some ((⟨([]:List AutoState),0⟩:AutoAuto),x1)
 else
  (FG a1).bind fun x2 =>
  some ((⟨x2.l,x2.start⟩:AutoAuto),0)
theorem NY {a1:AutoAuto} {r_1:AutoAuto} {r_2:Int} (hm:Ea a1=some (r_1,r_2)):Fn0 Tryz.prog 29 [AutoAuto.d a1] (.tup [AutoAuto.d r_1,.i64 r_2]):=by
 unfold Ea at hm;refine Ad Tryz.func29 rfl Tryz.ntmps29 rfl fun H0 fr w0=>?_;refine zq3 ?_;refine Kc fun b1=>?_;refine zq6 ?_;obtain ⟨x1,hx1,hm⟩:=bS hm;refine zc0 (PN hx1) ?_;refine zq7 ?_;refine zcn hm (fun hc1 hm=>?_) (fun hc1 hm=>?_)
 ·refine zq2 ?_
  refine Ai rfl rfl rfl zb27b ?_;refine zq1 ?_;refine zst 0 ?_;refine Ak (ms':=[box b1 27 [_,_]]) rfl ?_;refine zq2 ?_
  cases hm;exact Ae zr2
 ·refine zq4 ?_
  obtain ⟨x2,hx2,hm⟩:=bS hm;refine zc0 (O2 hx2) ?_;refine zst 0 ?_;refine Ak (ms':=[box b1 27 [_,_]]) rfl ?_;refine zq2 ?_
  cases hm;exact Ae zr2
def Ck (to1:(Int->Option Int)) (z4:(List AFd)):Nat->(Int×(List AFd)×Int×Int×Int)->Option ((List AFd)×Int×Int×Int)
 | 0,_=>none
 | n+1,(x4,l2,z8,z9,z10) =>
  bif (decide (x4<(z4.length:Int))) then
   (idx l2 x4).bind fun x5 =>
   (to1 x5.at_).bind fun x6 =>
   (idx l2 x4).bind fun x7 =>
   grd (InR (x4+1)) <|
   Ck to1 z4 n ((x4+1),(l2.set (x4).toNat (⟨x7.name,x6⟩:AFd)),z8,z9,z10)
  else
   some (l2,z8,z9,z10)
def EA (n1:ANd) (to1:(Int->Option Int)):Option ANd:=
 (C4 n1.kind).bind fun x1 =>
 (bif x1 then
  (to1 n1.a).bind fun x2 =>
  (to1 n1.b).bind fun x3 =>
  some (n1.kind,x2,x3,n1.l)
 else
  some (n1.kind,n1.a,n1.b,n1.l):Option (Int×Int×Int×(List AFd))).bind fun (z1,z2,z3,z4) =>
 grd (z4.length*24<=140737488355328) <|
 (Ck to1 z4 FU (0,z4,z1,z2,z3):Option ((List AFd)×Int×Int×Int)).bind fun (l1,z5,z6,z7) =>
 some (⟨z5,z6,z7,l1⟩:ANd)
theorem LW {n1:ANd} {to1:(Int->Option Int)} {r_1:ANd} {tl_0:List Asrt} {fv_to1:D} (hfto1:Uu Tryz.prog fv_to1 D.i64 D.i64 tl_0 to1) (hm:EA n1 to1=some r_1):FnT Tryz.prog 100 [ANd.d n1,fv_to1] tl_0 (ANd.d r_1):=by
 unfold EA at hm;refine Ad Tryz.func100 rfl Tryz.ntmps100 rfl fun H0 fr w0=>?_;refine zq2 ?_;refine AG rfl rfl rfl (Mf rfl rfl rfl) ?_;rintro _ _ ⟨b1,rfl,rfl⟩;refine LB fun b2=>?_;refine zq6 ?_;obtain ⟨x1,hx1,hm⟩:=bS hm;refine zc0 (HB hx1) ?_;refine gNl ?_;obtain ⟨o_1,hj1,hm1⟩:=bS hm;refine Ag [(1,_),(2,_),(4,_)] [(0,_)] (fun (st:(Int×Int×Int×(List AFd))) (hid:Unit)=>match st,hid with | (z1,z2,z3,z4),_=>[]) (fun F (st:(Int×Int×Int×(List AFd))) (hid:Unit)=>match st,hid with | (z1,z2,z3,z4),_=>[(nthF F 0),box b1 49 [.i64 z1,.i64 z2,.i64 z3,.list 2 AFd.d z4]]++tl_0) (fun st=>st=o_1) ⟨rfl,rfl,rfl,trivial⟩ ⟨rfl,trivial⟩ ?_ ?_
 ·refine zcn hj1 (fun hc1 hj1=>?_) (fun hc1 hj1=>?_)
  ·obtain ⟨x2,hx2,hj1⟩:=bS hj1
   obtain ⟨x3,hx3,hj1⟩:=bS hj1;refine zdr 9 ?_;refine zq3 ?_;refine AC rfl rfl rfl (Ka (tl:=tl_0) [_,_] rfl rfl rfl (hfto1 _ _ hx2)) ?_;refine zq3 ?_;refine AC rfl rfl rfl (Ka (tl:=tl_0) [_,_] rfl rfl rfl (hfto1 _ _ hx3)) ?_;refine zq2 ?_;refine zst 1 ?_;refine Ak (ms':=[box b2 49 [_,_,_,_],box b1 49 [_,_,_,_]]++tl_0) rfl ?_;refine zq1 ?_;refine zst 1 ?_;refine Ak (ms':=[box b2 49 [_,_,_,_],box b1 49 [_,_,_,_]]++tl_0) rfl ?_;refine gNl ?_;exact ⟨_,(),Ac hj1,trivial,⟨rfl,rfl,rfl,trivial⟩,[],rfl⟩
  ·refine gSp ?_
   exact ⟨_,(),Ac hj1,trivial,⟨rfl,rfl,rfl,trivial⟩,[],rfl⟩
 ·rintro ⟨z1,z2,z3,z4⟩ _ hst
  subst hst;refine Al (L':=[(1,_),(2,_),(4,_)]) (ms':=[_,box b1 49 [.i64 z1,.i64 z2,.i64 z3,.list 2 AFd.d z4]]++tl_0) rfl rfl ?_;refine zq4 ?_;obtain ⟨hg4,hm1⟩:=Aa hm1;refine AG rfl rfl rfl (Ey (ms₁:=[]) Tryz.call143 rfl (List.Perm.refl _) (Pe hg4)) ?_;rintro _ _ ⟨_,⟨a_r1,cap_r1,hd_r1,hq_r1⟩,rfl⟩;obtain ⟨m_r1,hm_r1⟩:∃ m,m=z4.length:=⟨_,rfl⟩;rw [<- hm_r1] at hd_r1 hq_r1;subst hd_r1 hq_r1
  clear hm_r1
  refine zq1 ?_;refine zst 2 ?_;refine Ak (ms':=[_,box b2 49 [_,_,_,_],box b1 49 [_,_,_,_]]++tl_0) rfl ?_;refine zq6 ?_;refine Ai rfl rfl rfl (Ca 0 Tryz.runUnderlying47 rfl rfl) ?_;refine zq2 ?_;obtain ⟨o_2,hj2,hm2⟩:=bS hm1;refine Ag [(2,_),(4,_)] [(1,_)] (fun (st:((List AFd)×Int×Int×Int)) (hid:Unit)=>match st,hid with | (l1,z5,z6,z7),_=>[]) (fun F (st:((List AFd)×Int×Int×Int)) (hid:Unit)=>match st,hid with | (l1,z5,z6,z7),_=>[arr a_r1 m_r1 cap_r1 71 2 AFd.d l1,(nthF F 0),box b1 49 [.i64 z5,.i64 z6,.i64 z7,.v (.slice a_r1 m_r1 cap_r1)]]++tl_0) (fun st=>st=o_2) ⟨rfl,rfl,trivial⟩ ⟨rfl,trivial⟩ ?_ ?_
  ·refine Am ?_
   refine Ah [(1,_),(2,_),(4,_),(25,_)] [(1,_)] (fun (st:(Int×(List AFd)×Int×Int×Int)) (hid:Unit)=>match st,hid with | (x4,l2,z8,z9,z10),_=>[(26,.i64 x4)]) (fun F (st:(Int×(List AFd)×Int×Int×Int)) (hid:Unit)=>match st,hid with | (x4,l2,z8,z9,z10),_=>[arr a_r1 m_r1 cap_r1 71 2 AFd.d l2,(nthF F 0),box b1 49 [.i64 z8,.i64 z9,.i64 z10,.v (.slice a_r1 m_r1 cap_r1)]]++tl_0) () hj2 (fun _=>rfl) ⟨rfl,rfl,rfl,rfl,trivial⟩ ⟨rfl,trivial⟩ ⟨rfl,trivial⟩ rfl ?_;rintro n ⟨x4,l2,z8,z9,z10⟩ ⟨⟩ hj2;rw [Ck] at hj2;refine Ao (L':=[(26,.i64 x4),(1,_),(2,_),(4,_),(25,_)]) (ms':=[arr a_r1 m_r1 cap_r1 71 2 AFd.d l2,_,box b1 49 [.i64 z8,.i64 z9,.i64 z10,.v (.slice a_r1 m_r1 cap_r1)]]++tl_0) rfl rfl ?_;refine zq5 ?_;refine zcn hj2 (fun hc2 hj2=>?_) (fun hc2 hj2=>?_)
   ·refine zq8 ?_
    obtain ⟨x5,hx5,hj2⟩:=bS hj2;obtain ⟨x6,hx6,hj2⟩:=bS hj2;obtain ⟨x7,hx7,hj2⟩:=bS hj2;refine zdr 13 ?_;refine zq7 ?_;refine AC rfl rfl rfl (Af 0 Tryz.runUnderlying47 Tryz.sizeOf71 rfl rfl rfl hx5) ?_;refine AC rfl rfl rfl (CY (b:=0) 0 JO rfl rfl (Av hx5).2) ?_;refine AC rfl rfl rfl (AL (off:=1) 0 Tryz.isAgg3 rfl rfl (Av hx5).2 rfl rfl rfl) ?_;refine AC rfl rfl rfl (Ka (tl:=tl_0) [_,_,_] rfl rfl rfl (hfto1 _ _ hx6)) ?_;refine AC rfl rfl rfl (Af 0 Tryz.runUnderlying47 Tryz.sizeOf71 rfl rfl rfl hx7) ?_;refine AC rfl rfl rfl (CY (b:=0) 0 JO rfl rfl (Av hx7).2) ?_;refine Ex ?_;refine H6 rfl rfl (AV (off:=1) (z':=(⟨x7.name,x6⟩:AFd)) 0 Tryz.sizeOf3 rfl rfl (Av hx7).2 rfl rfl rfl rfl rfl rfl (nB rfl) rfl rfl) ?_;rintro _ _ rfl;refine Ak (ms':=[_,box b2 49 [_,_,_,_],box b1 49 [_,_,_,_]]++tl_0) rfl ?_;refine zq2 ?_;obtain ⟨hg8,hj2⟩:=Aa hj2;refine zq3 ?_;exact ⟨_,(),hj2,⟨rfl,trivial⟩,⟨rfl,rfl,rfl,rfl,trivial⟩,[],rfl⟩
   ·refine Ar ?_
    exact ⟨_,(),Ac hj2,trivial,⟨rfl,rfl,trivial⟩,[],rfl⟩
  ·rintro ⟨l1,z5,z6,z7⟩ ⟨⟩ hst
   subst hst;refine Al (L':=[(2,_),(4,_)]) (ms':=[arr a_r1 m_r1 cap_r1 71 2 AFd.d l1,_,box b1 49 [.i64 z5,.i64 z6,.i64 z7,.v (.slice a_r1 m_r1 cap_r1)]]++tl_0) rfl rfl ?_;refine zq2 ?_;refine KR 0 rfl rfl ?_;rintro rfl;refine zq1 ?_;refine Ap (Ch (i:=43) (q:=3) 0 rfl rfl rfl rfl rfl).refines ?_;refine zst 1 ?_;refine Ak (ms':=[_,box b2 49 [_,_,_,_],box b1 49 [_,_,_,_]]++tl_0) rfl ?_;refine gNl (Ae ?_);exact retK (BA (ms':=tl_0) (drop:=[_,_,_]) rfl (Ff 1 rfl rfl rfl Tryz.isAgg49 Tryz.sizeOf49 rfl) (List.Perm.refl _)) ⟨congrArg (fun (p:ANd)=>(ANd.d p:D)) (Ac hm2),rfl⟩
def D6 (k1:Int) (z1:(List (Int×Int))):Option Int:=
 some ((mget z1 k1).getD (0:Int))
theorem K7 {k1:Int} {z1:(List (Int×Int))} {r_1:Int} {b_q1:Nat} (hm:D6 k1 z1=some r_1):FnT Tryz.prog 101 [.i64 k1,.ref (.v (.map (some b_q1)))] [mp b_q1 kI64 D.i64 z1] (.i64 r_1):=by
 unfold D6 at hm;refine Ad Tryz.func101 rfl Tryz.ntmps101 rfl fun H0 fr w0=>?_;refine zq8 ?_;refine Ai rfl rfl rfl (SR (z0:=(0:Int)) 0 Tryz.runUnderlying88 (SA Tryz.underlying3) Tryz.zeroValue3 (fun _=>conc_v.2 rfl) rfl rfl rfl) ?_;refine zq2 ?_;refine Ae ?_;exact retK (BA (ms':=[_]) (drop:=[]) rfl (B5 rfl) (List.Perm.refl _)) ⟨congrArg (fun (p:Int)=>(.i64 p:D)) (Ac hm),rfl⟩
def Cx  : List Int->((List Int)×(List (Int×Int)))->Option ((List Int)×(List (Int×Int)))
 | [],(l2,mm2) =>
  some (l2,mm2)
 | x1::rr,(l2,mm2) =>
  grd ((l2.length+([x1]:List _).length)*8<=140737488355328) <|
  Cx rr ((l2++[x1]),(mset mm2 x1 (l2.length:Int)))
def CU (t1:ATy) (l1:(List Int)) (mm1:(List (Int×Int))):Nat->(Int×(List ANd)×Int)->Option ((List ANd)×Int)
 | 0,_=>none
 | n+1,(x2,l4,z2) =>
  bif (decide (x2<(l1.length:Int))) then
   (idx l1 x2).bind fun x3 =>
   (idx t1.l x3).bind fun x4 =>
   (EA x4 (fun y0=>D6 y0 mm1)).bind fun x5 =>
   grd ((l4.length+([x5]:List _).length)*48<=140737488355328) <|
   grd (InR (x2+1)) <|
   CU t1 l1 mm1 n ((x2+1),(l4++[x5]),z2)
  else
   some (l4,z2)
def E1 (t1:ATy) (root1:Int):Option ATy:=
 ((Hu t1 root1).bind fun xs1 =>
 Cx xs1 ([],([]:List (Int×Int))):Option ((List Int)×(List (Int×Int)))).bind fun (l1,mm1) =>
 (CU t1 l1 mm1 FU (0,[],0):Option ((List ANd)×Int)).bind fun (l3,z1) =>
 some (⟨l3,z1⟩:ATy)
theorem MT {t1:ATy} {root1:Int} {r_1:ATy} (hm:E1 t1 root1=some r_1):Fn0 Tryz.prog 70 [ATy.d t1,.i64 root1] (ATy.d r_1):=by
 unfold E1 at hm;refine Ad Tryz.func70 rfl Tryz.ntmps70 rfl fun H0 fr w0=>?_;refine zq3 ?_;refine F2 fun b1=>?_;refine zq3 ?_;refine AG rfl rfl rfl (RJ (fk:=kI64) (fv:=D.i64)) ?_;rintro _ _ ⟨b2,rfl,rfl⟩;refine VQ fun b3=>?_;refine zst 0 ?_;refine Ak (ms':=[box b3 88 [_],_,box b1 31 [_,_]]) rfl ?_;refine Ap (Gk (d := .v (.map (some b2))) 0 5 rfl rfl rfl rfl) ?_;refine zq3 ?_;refine TH fun b4=>?_;refine Ap (Az (T:=3) (sz:=1) (f:=D.i64)) ?_;refine zq6 ?_;refine Ai rfl rfl rfl (Bv Tryz.call85 rfl UO) ?_;refine gNl ?_;obtain ⟨o_1,hj1,hm1⟩:=bS hm;refine Ag [(2,_),(4,_),(5,_),(6,_)] [(3,_)] (fun (st:((List Int)×(List (Int×Int)))) (hid:(Option Addr×Nat))=>match st,hid with | (l1,mm1),(a_r1,cap_r1)=>[]) (fun F (st:((List Int)×(List (Int×Int)))) (hid:(Option Addr×Nat))=>match st,hid with | (l1,mm1),(a_r1,cap_r1)=>[row a_r1 cap_r1 3 1 D.i64 l1,box b4 43 [.v (.slice a_r1 l1.length cap_r1)],mp b2 kI64 D.i64 mm1,(nthF F 0)]) (fun st=>st=o_1) ⟨rfl,rfl,rfl,rfl,trivial⟩ ⟨rfl,trivial⟩ ?_ ?_
 ·refine Am ?_
  obtain ⟨xs1,hx1,hj1⟩:=bS hj1;refine Mc (fun (p:Int)=>[.i64 p]) [(3,_)] (fun F (st:((List Int)×(List (Int×Int)))) (hid:(Option Addr×Nat))=>match st,hid with | (l2,mm2),(a_r1,cap_r1)=>[row a_r1 cap_r1 3 1 D.i64 l2,box b4 43 [.v (.slice a_r1 l2.length cap_r1)],mp b2 kI64 D.i64 mm2,(nthF F 0)]) (_,_) hj1 ⟨rfl,trivial⟩ rfl rfl Tryz.call122 (SO hx1) (fun _=>rfl) rfl ?_ ?_
  ·rintro H0r frr ror w0r hrr x1 rr ⟨l2,mm2⟩ ⟨a_r1,cap_r1⟩ hj1
   rw [Cx] at hj1;refine Ao (ms':=[row a_r1 cap_r1 3 1 D.i64 l2,box b4 43 [.v (.slice a_r1 l2.length cap_r1)],mp b2 kI64 D.i64 mm2,_]) rfl rfl ?_;refine zq3 ?_
   intro H0r frr ror w0r hrr
   refine zq6 ?_;refine Ai rfl rfl rfl (.view (peekE (i:=18) 0 rfl rfl rfl) (Fb Tryz.runUnderlying43 rfl)) ?_;refine H6 rfl rfl (Ow (v:=(l2.length:Int)) 2 Tryz.runUnderlying88 (SA Tryz.underlying3) rfl rfl rfl rfl) ?_;rintro _ _ rfl;refine zq4 ?_;refine Ai rfl rfl rfl (zs1 D.i64) ?_;obtain ⟨hg2,hj1⟩:=Aa hj1;refine zap 0 hg2 fun a_r1 cap_r1=>?_;refine Ak (ms':=[_,box b4 43 [_],_,box b1 31 [_,_]]) rfl ?_;refine zst 1 ?_;refine Ak (ms':=[_,box b4 43 [_],_,box b1 31 [_,_]]) rfl ?_;refine gNl ?_;exact ⟨_,(_,_),hj1,[],rfl⟩
  ·rintro ⟨l2,mm2⟩ ⟨a_r1,cap_r1⟩ hj1
   rw [Cx] at hj1;refine Al (ms':=[row a_r1 cap_r1 3 1 D.i64 l2,box b4 43 [.v (.slice a_r1 l2.length cap_r1)],mp b2 kI64 D.i64 mm2,_]) rfl rfl ?_;exact ⟨_,(_,_),Ac hj1,trivial,⟨rfl,rfl,rfl,rfl,trivial⟩,[],rfl⟩
 ·rintro ⟨l1,mm1⟩ ⟨a_r1,cap_r1⟩ hst
  subst hst;refine Al (L':=[(2,_),(4,_),(5,_),(6,_)]) (ms':=[row a_r1 cap_r1 3 1 D.i64 l1,box b4 43 [.v (.slice a_r1 l1.length cap_r1)],mp b2 kI64 D.i64 mm1,_]) rfl rfl ?_;refine zq2 ?_;refine VJ fun b6=>?_;refine Ap (Az (T:=49) (sz:=4) (f:=ANd.d)) ?_;refine zq5 ?_;refine Ai rfl rfl rfl (.view (peekE (i:=24) 2 rfl rfl rfl) (Fb Tryz.runUnderlying43 rfl)) ?_;refine zq2 ?_;obtain ⟨o_2,hj2,hm2⟩:=bS hm1;refine Ag [(4,_),(8,_)] [(2,_),(3,_),(4,_),(5,_)] (fun (st:((List ANd)×Int)) (hid:(Option Addr×Nat))=>match st,hid with | (l3,z1),(a_r2,cap_r2)=>[]) (fun F (st:((List ANd)×Int)) (hid:(Option Addr×Nat))=>match st,hid with | (l3,z1),(a_r2,cap_r2)=>[row a_r2 cap_r2 49 4 ANd.d l3,box b6 31 [.v (.slice a_r2 l3.length cap_r2),.i64 z1],(nthF F 0),(nthF F 1),(nthF F 2),(nthF F 3)]) (fun st=>st=o_2) ⟨rfl,rfl,trivial⟩ ⟨rfl,rfl,rfl,rfl,trivial⟩ ?_ ?_
  ·refine Am ?_
   refine Ah [(2,_),(4,_),(5,_),(8,_),(24,_),(25,_)] [(2,_),(3,_),(4,_),(5,_)] (fun (st:(Int×(List ANd)×Int)) (hid:(Option Addr×Nat))=>match st,hid with | (x2,l4,z2),(a_r2,cap_r2)=>[(26,.i64 x2)]) (fun F (st:(Int×(List ANd)×Int)) (hid:(Option Addr×Nat))=>match st,hid with | (x2,l4,z2),(a_r2,cap_r2)=>[row a_r2 cap_r2 49 4 ANd.d l4,box b6 31 [.v (.slice a_r2 l4.length cap_r2),.i64 z2],(nthF F 0),(nthF F 1),(nthF F 2),(nthF F 3)]) (_,_) hj2 (fun _=>rfl) ⟨rfl,rfl,rfl,rfl,rfl,rfl,trivial⟩ ⟨rfl,rfl,rfl,rfl,trivial⟩ ⟨rfl,trivial⟩ rfl ?_;rintro n ⟨x2,l4,z2⟩ ⟨a_r2,cap_r2⟩ hj2;rw [CU] at hj2;refine Ao (L':=[(26,.i64 x2),(2,_),(4,_),(5,_),(8,_),(24,_),(25,_)]) (ms':=[row a_r2 cap_r2 49 4 ANd.d l4,box b6 31 [.v (.slice a_r2 l4.length cap_r2),.i64 z2],_,_,_,_]) rfl rfl ?_;refine zq5 ?_;refine zcn hj2 (fun hc1 hj2=>?_) (fun hc1 hj2=>?_)
   ·refine zq5 ?_
    obtain ⟨x3,hx3,hj2⟩:=bS hj2;refine Ai rfl rfl rfl (.view (peekE (i:=24) 2 rfl rfl rfl) (oIm Tryz.runUnderlying43 Tryz.sizeOf3 rfl rfl hx3)) ?_;refine zq3 ?_;obtain ⟨x4,hx4,hj2⟩:=bS hj2;obtain ⟨x5,hx5,hj2⟩:=bS hj2;refine zdr 10 ?_;refine zq7 ?_;refine AC rfl rfl rfl (De rfl rfl) ?_;refine AC rfl rfl rfl (TD [4] Tryz.call100 rfl rfl (HN rfl Nw) (LW (fun _ _ h=>IQ Tryz.call101 (K7 h)) hx5)) ?_;refine AC rfl rfl rfl (zs1 ANd.d) ?_;refine Ex ?_;obtain ⟨hg6,hj2⟩:=Aa hj2;refine zap 0 hg6 fun a_r2 cap_r2=>?_;refine Ak (ms':=[_,box b6 31 [_,_],_,box b4 43 [_],_,box b1 31 [_,_]]) rfl ?_;refine zq1 ?_;refine zst 1 ?_;refine Ak (ms':=[_,box b6 31 [_,_],_,box b4 43 [_],_,box b1 31 [_,_]]) rfl ?_;refine zq2 ?_;obtain ⟨hg7,hj2⟩:=Aa hj2;refine zq3 ?_;exact ⟨_,(_,_),hj2,⟨rfl,trivial⟩,⟨rfl,rfl,rfl,rfl,rfl,rfl,trivial⟩,[],rfl⟩
   ·refine Ar ?_
    exact ⟨_,(_,_),Ac hj2,trivial,⟨rfl,rfl,trivial⟩,[],rfl⟩
  ·rintro ⟨l3,z1⟩ ⟨a_r2,cap_r2⟩ hst
   subst hst;refine Al (L':=[(4,_),(8,_)]) (ms':=[row a_r2 cap_r2 49 4 ANd.d l3,box b6 31 [.v (.slice a_r2 l3.length cap_r2),.i64 z1],_,_,_,_]) rfl rfl ?_;refine zq3 ?_;refine Ap (Ch (i:=43) (q:=0) 0 rfl rfl rfl rfl rfl).refines ?_;refine zst 5 ?_;refine Ak (ms':=[_,box b6 31 [_,_],_,box b4 43 [_],_,box b1 31 [_,_]]) rfl ?_;refine gNl ?_
   cases hm2;exact Ae zr1
def En (t1:ATy):Option (ATy×Int):=
 (FM t1).bind fun x1 =>
 bif (!decide (x1=0)) then
  some ((⟨([]:List ANd),0⟩:ATy),x1)
 else
  (E1 t1 t1.root).bind fun x2 =>
  some ((⟨x2.l,x2.root⟩:ATy),0)
theorem MU {t1:ATy} {r_1:ATy} {r_2:Int} (hm:En t1=some (r_1,r_2)):Fn0 Tryz.prog 32 [ATy.d t1] (.tup [ATy.d r_1,.i64 r_2]):=by
 unfold En at hm;refine Ad Tryz.func32 rfl Tryz.ntmps32 rfl fun H0 fr w0=>?_;refine zq3 ?_;refine F2 fun b1=>?_;refine zq6 ?_;obtain ⟨x1,hx1,hm⟩:=bS hm;refine zc0 (OR hx1) ?_;refine zq7 ?_;refine zcn hm (fun hc1 hm=>?_) (fun hc1 hm=>?_)
 ·refine zq2 ?_
  refine Ai rfl rfl rfl zb31a ?_;refine zq1 ?_;refine zst 0 ?_;refine Ak (ms':=[box b1 31 [_,_]]) rfl ?_;refine zq2 ?_
  cases hm;exact Ae zr2
 ·refine zq6 ?_
  obtain ⟨x2,hx2,hm⟩:=bS hm;refine zc0 (MT hx2) ?_;refine zst 0 ?_;refine Ak (ms':=[box b1 31 [_,_]]) rfl ?_;refine zq2 ?_
  cases hm;exact Ae zr2
def BN (x1:AutoState):Nat->(Int×(List AutoEdge)×(List AutoEdge)×Bool×Bool×Bool×Bool×Bool×Bool×Bool×Bool×(List Int)×Int×Int)->Option ((List AutoEdge)×(List AutoEdge)×Bool×Bool×Bool×Bool×Bool×Bool×Bool×Bool×(List Int)×Int×Int)
 | 0,_=>none
 | n+1,(k1,l5,l6,z14,z15,z16,z17,z18,z19,z20,z21,z22,z23,z24) =>
  bif (decide (k1<(x1.fields.length:Int))) then
   (idx x1.fields k1).bind fun x3 =>
   (idx x1.fields k1).bind fun x4 =>
   grd ((l6.length+([(⟨x3.name,x4.to_⟩:AutoEdge)]:List _).length)*24<=140737488355328) <|
   grd (InR (k1+1)) <|
   BN x1 n ((k1+1),l5,(l6++[(⟨x3.name,x4.to_⟩:AutoEdge)]),z14,z15,z16,z17,z18,z19,z20,z21,z22,z23,z24)
  else
   some (l5,l6,z14,z15,z16,z17,z18,z19,z20,z21,z22,z23,z24)
def BS (x1:AutoState):Nat->(Int×(List AutoEdge)×(List AutoEdge)×Bool×Bool×Bool×Bool×Bool×Bool×Bool×Bool×(List Int)×Int×Int)->Option ((List AutoEdge)×(List AutoEdge)×Bool×Bool×Bool×Bool×Bool×Bool×Bool×Bool×(List Int)×Int×Int)
 | 0,_=>none
 | n+1,(k2,l9,l10,z36,z37,z38,z39,z40,z41,z42,z43,z44,z45,z46) =>
  bif (decide (k2<(x1.tags.length:Int))) then
   (idx x1.tags k2).bind fun x5 =>
   (idx x1.tags k2).bind fun x6 =>
   grd ((l9.length+([(⟨x5.name,x6.to_⟩:AutoEdge)]:List _).length)*24<=140737488355328) <|
   grd (InR (k2+1)) <|
   BS x1 n ((k2+1),(l9++[(⟨x5.name,x6.to_⟩:AutoEdge)]),l10,z36,z37,z38,z39,z40,z41,z42,z43,z44,z45,z46)
  else
   some (l9,l10,z36,z37,z38,z39,z40,z41,z42,z43,z44,z45,z46)
def BQ (a1:AutoAuto):Nat->(Int×(List AutoState)×Int)->Option ((List AutoState)×Int)
 | 0,_=>none
 | n+1,(i1,l2,z2) =>
  bif (decide (i1<(a1.l.length:Int))) then
   (idx a1.l i1).bind fun x1 =>
   (Ge x1.vars).bind fun x2 =>
   (BN x1 FU (0,([]:List AutoEdge),([]:List AutoEdge),x1.plus,x1.all,x1.int,x1.bool,x1.str,x1.arrow,x1.rec_,x1.tag,x2,x1.dom,x1.cod):Option ((List AutoEdge)×(List AutoEdge)×Bool×Bool×Bool×Bool×Bool×Bool×Bool×Bool×(List Int)×Int×Int)).bind fun (l3,l4,z3,z4,z5,z6,z7,z8,z9,z10,z11,z12,z13) =>
   (BS x1 FU (0,l3,l4,z3,z4,z5,z6,z7,z8,z9,z10,z11,z12,z13):Option ((List AutoEdge)×(List AutoEdge)×Bool×Bool×Bool×Bool×Bool×Bool×Bool×Bool×(List Int)×Int×Int)).bind fun (l7,l8,z25,z26,z27,z28,z29,z30,z31,z32,z33,z34,z35) =>
   grd ((l2.length+([(⟨z25,z26,z27,z28,z29,z30,z31,z32,z33,z34,z35,l8,l7⟩:AutoState)]:List _).length)*96<=140737488355328) <|
   grd (InR (i1+1)) <|
   BQ a1 n ((i1+1),(l2++[(⟨z25,z26,z27,z28,z29,z30,z31,z32,z33,z34,z35,l8,l7⟩:AutoState)]),z2)
  else
   some (l2,z2)
def CN (a1:AutoAuto):Option AutoAuto:=
 (BQ a1 FU (0,([]:List AutoState),a1.start):Option ((List AutoState)×Int)).bind fun (l1,z1) =>
 some (⟨l1,z1⟩:AutoAuto)
theorem IT {a1:AutoAuto} {r_1:AutoAuto} (hm:CN a1=some r_1):Fn0 Tryz.prog 9 [AutoAuto.d a1] (AutoAuto.d r_1):=by
 unfold CN at hm;refine Ad Tryz.func9 rfl Tryz.ntmps9 rfl fun H0 fr w0=>?_;refine zq3 ?_;refine JX fun b1=>?_;refine zq5 ?_;refine Ai rfl rfl rfl zb24a ?_;refine JX fun b2=>?_;refine zst 0 ?_;refine Ap (Az (T:=46) (sz:=13) (f:=AutoState.d)) ?_;refine Ak (ms':=[_,box b2 24 [_,_],box b1 24 [_,_]]) rfl ?_;refine zq6 ?_;obtain ⟨o_1,hj1,hm1⟩:=bS hm;refine Ag [(2,_),(3,_)] [(2,_)] (fun (st:((List AutoState)×Int)) (hid:(Option Addr×Nat))=>match st,hid with | (l1,z1),(a_r1,cap_r1)=>[]) (fun F (st:((List AutoState)×Int)) (hid:(Option Addr×Nat))=>match st,hid with | (l1,z1),(a_r1,cap_r1)=>[row a_r1 cap_r1 46 13 AutoState.d l1,box b2 24 [.v (.slice a_r1 l1.length cap_r1),.i64 z1],(nthF F 0)]) (fun st=>st=o_1) ⟨rfl,rfl,trivial⟩ ⟨rfl,trivial⟩ ?_ ?_
 ·refine Am ?_
  refine Ah [(1,_),(2,_),(3,_)] [(2,_)] (fun (st:(Int×(List AutoState)×Int)) (hid:(Option Addr×Nat))=>match st,hid with | (i1,l2,z2),(a_r1,cap_r1)=>[(4,.i64 i1)]) (fun F (st:(Int×(List AutoState)×Int)) (hid:(Option Addr×Nat))=>match st,hid with | (i1,l2,z2),(a_r1,cap_r1)=>[row a_r1 cap_r1 46 13 AutoState.d l2,box b2 24 [.v (.slice a_r1 l2.length cap_r1),.i64 z2],(nthF F 0)]) (_,_) hj1 (fun _=>rfl) ⟨rfl,rfl,rfl,trivial⟩ ⟨rfl,trivial⟩ ⟨rfl,trivial⟩ rfl ?_;rintro n ⟨i1,l2,z2⟩ ⟨a_r1,cap_r1⟩ hj1;rw [BQ] at hj1;refine Ao (L':=[(4,.i64 i1),(1,_),(2,_),(3,_)]) (ms':=[row a_r1 cap_r1 46 13 AutoState.d l2,box b2 24 [.v (.slice a_r1 l2.length cap_r1),.i64 z2],_]) rfl rfl ?_;refine zq9 ?_;refine zcn hj1 (fun hc1 hj1=>?_) (fun hc1 hj1=>?_)
  ·refine zq8 ?_
   obtain ⟨x1,hx1,hj1⟩:=bS hj1;refine Ai rfl rfl rfl (oIm Tryz.runUnderlying25 Tryz.sizeOf59 rfl rfl hx1) ?_;refine zq1 ?_;refine PY fun b3=>?_;refine zst 0 ?_;refine Ak (ms':=[box b3 59 [_,_,_,_,_,_,_,_,_,_,_,_,_],_,box b2 24 [_,_],box b1 24 [_,_]]) rfl ?_;refine zq2 ?_;obtain ⟨x2,hx2,hj1⟩:=bS hj1;refine H7 25 [24] A0 (by decide +kernel) (by decide +kernel) rfl (by decide +kernel) ?_;refine AM rfl rfl rfl rfl (oFb Q5 rfl) ?_;refine AM rfl rfl rfl rfl (oLb 0 Tryz.isAgg4 rfl rfl rfl rfl) ?_;refine AM rfl rfl rfl rfl (oFb QH rfl) ?_;refine AM rfl rfl rfl rfl (oLb 0 Tryz.isAgg4 rfl rfl rfl rfl) ?_;refine AM rfl rfl rfl rfl (oFb QJ rfl) ?_;refine AM rfl rfl rfl rfl (oLb 0 Tryz.isAgg4 rfl rfl rfl rfl) ?_;refine AM rfl rfl rfl rfl (oFb Rc rfl) ?_;refine AM rfl rfl rfl rfl (oLb 0 Tryz.isAgg4 rfl rfl rfl rfl) ?_;refine AM rfl rfl rfl rfl (oFb Qw rfl) ?_;refine AM rfl rfl rfl rfl (oLb 0 Tryz.isAgg4 rfl rfl rfl rfl) ?_;refine AM rfl rfl rfl rfl (oFb MY rfl) ?_;refine AM rfl rfl rfl rfl (oLb 0 Tryz.isAgg4 rfl rfl rfl rfl) ?_;refine AM rfl rfl rfl rfl (oFb M5 rfl) ?_;refine AM rfl rfl rfl rfl (oLb 0 Tryz.isAgg4 rfl rfl rfl rfl) ?_;refine AM rfl rfl rfl rfl (oFb Nu rfl) ?_;refine AM rfl rfl rfl rfl (oLb 0 Tryz.isAgg4 rfl rfl rfl rfl) ?_;refine AM rfl rfl rfl rfl (oFb Jp rfl) ?_;refine AM rfl rfl rfl rfl (oLb 0 Tryz.isAgg3 rfl rfl rfl rfl) ?_;refine AM rfl rfl rfl rfl (oFb HS rfl) ?_;refine AM rfl rfl rfl rfl (oLb 0 Tryz.isAgg3 rfl rfl rfl rfl) ?_;refine AM rfl rfl rfl rfl (oFb QZ rfl) ?_;refine AM rfl rfl rfl rfl (oLb 0 Tryz.isAgg43 rfl rfl rfl rfl) ?_;refine AM rfl rfl rfl rfl (Bv Tryz.call28 rfl (MJ hx2)) ?_;refine AM rfl rfl rfl rfl zb46a ?_;refine Hb (R:=fun d A=>∃ b,d = .v (.pointer (some ⟨b,0,none⟩))/\A=box b 46 [.bool false,.bool false,.bool false,.bool false,.bool false,.bool false,.bool false,.bool false,.list 1 D.i64 [],.i64 0,.i64 0,.list 2 AutoEdge.d [],.list 2 AutoEdge.d []]) rfl rfl rfl (OpT.mono (AN Tryz.zeroValue46 (cs:=[.bool false,.bool false,.bool false,.bool false,.bool false,.bool false,.bool false,.bool false,.list 1 D.i64 [],.i64 0,.i64 0,.list 2 AutoEdge.d [],.list 2 AutoEdge.d []]) rfl) (by rintro d ms' ⟨b,rfl,rfl⟩;exact ⟨_,⟨b,rfl,rfl⟩,rfl⟩)) ?_;refine JG ?_;rintro _ _ ⟨b4,rfl,rfl⟩;refine zst 0 ?_;refine Ap (Az (T:=61) (sz:=2) (f:=AutoEdge.d)) ?_;refine Ap (Az (T:=61) (sz:=2) (f:=AutoEdge.d)) ?_;refine Ak (ms':=[_,_,box b4 46 [_,_,_,_,_,_,_,_,_,_,_,_,_],box b3 59 [_,_,_,_,_,_,_,_,_,_,_,_,_],_,box b2 24 [_,_],box b1 24 [_,_]]) rfl ?_
   refine zq6 ?_;obtain ⟨o_2,hj2,hm2⟩:=bS hj1;refine Ag [(1,_),(2,_),(3,_),(4,_),(5,_),(6,_)] [(3,_),(4,_),(5,_),(6,_)] (fun (st:((List AutoEdge)×(List AutoEdge)×Bool×Bool×Bool×Bool×Bool×Bool×Bool×Bool×(List Int)×Int×Int)) (hid:(Option Addr×Nat)×(Option Addr×Nat))=>match st,hid with | (l3,l4,z3,z4,z5,z6,z7,z8,z9,z10,z11,z12,z13),((a_r3,cap_r3),(a_r2,cap_r2))=>[]) (fun F (st:((List AutoEdge)×(List AutoEdge)×Bool×Bool×Bool×Bool×Bool×Bool×Bool×Bool×(List Int)×Int×Int)) (hid:(Option Addr×Nat)×(Option Addr×Nat))=>match st,hid with | (l3,l4,z3,z4,z5,z6,z7,z8,z9,z10,z11,z12,z13),((a_r3,cap_r3),(a_r2,cap_r2))=>[row a_r3 cap_r3 61 2 AutoEdge.d l3,row a_r2 cap_r2 61 2 AutoEdge.d l4,box b4 46 [.bool z3,.bool z4,.bool z5,.bool z6,.bool z7,.bool z8,.bool z9,.bool z10,.list 1 D.i64 z11,.i64 z12,.i64 z13,.v (.slice a_r2 l4.length cap_r2),.v (.slice a_r3 l3.length cap_r3)],(nthF F 0),(nthF F 1),(nthF F 2),(nthF F 3)]) (fun st=>st=o_2) ⟨rfl,rfl,rfl,rfl,rfl,rfl,trivial⟩ ⟨rfl,rfl,rfl,rfl,trivial⟩ ?_ ?_
   ·refine Am ?_
    refine Ah [(1,_),(2,_),(3,_),(4,_),(5,_),(6,_)] [(3,_),(4,_),(5,_),(6,_)] (fun (st:(Int×(List AutoEdge)×(List AutoEdge)×Bool×Bool×Bool×Bool×Bool×Bool×Bool×Bool×(List Int)×Int×Int)) (hid:(Option Addr×Nat)×(Option Addr×Nat))=>match st,hid with | (k1,l5,l6,z14,z15,z16,z17,z18,z19,z20,z21,z22,z23,z24),((a_r3,cap_r3),(a_r2,cap_r2))=>[(7,.i64 k1)]) (fun F (st:(Int×(List AutoEdge)×(List AutoEdge)×Bool×Bool×Bool×Bool×Bool×Bool×Bool×Bool×(List Int)×Int×Int)) (hid:(Option Addr×Nat)×(Option Addr×Nat))=>match st,hid with | (k1,l5,l6,z14,z15,z16,z17,z18,z19,z20,z21,z22,z23,z24),((a_r3,cap_r3),(a_r2,cap_r2))=>[row a_r3 cap_r3 61 2 AutoEdge.d l5,row a_r2 cap_r2 61 2 AutoEdge.d l6,box b4 46 [.bool z14,.bool z15,.bool z16,.bool z17,.bool z18,.bool z19,.bool z20,.bool z21,.list 1 D.i64 z22,.i64 z23,.i64 z24,.v (.slice a_r2 l6.length cap_r2),.v (.slice a_r3 l5.length cap_r3)],(nthF F 0),(nthF F 1),(nthF F 2),(nthF F 3)]) ((_,_),(_,_)) hj2 (fun _=>rfl) ⟨rfl,rfl,rfl,rfl,rfl,rfl,trivial⟩ ⟨rfl,rfl,rfl,rfl,trivial⟩ ⟨rfl,trivial⟩ rfl ?_;rintro n ⟨k1,l5,l6,z14,z15,z16,z17,z18,z19,z20,z21,z22,z23,z24⟩ ⟨⟨a_r3,cap_r3⟩,⟨a_r2,cap_r2⟩⟩ hj2;rw [BN] at hj2;refine Ao (L':=[(7,.i64 k1),(1,_),(2,_),(3,_),(4,_),(5,_),(6,_)]) (ms':=[row a_r3 cap_r3 61 2 AutoEdge.d l5,row a_r2 cap_r2 61 2 AutoEdge.d l6,box b4 46 [.bool z14,.bool z15,.bool z16,.bool z17,.bool z18,.bool z19,.bool z20,.bool z21,.list 1 D.i64 z22,.i64 z23,.i64 z24,.v (.slice a_r2 l6.length cap_r2),.v (.slice a_r3 l5.length cap_r3)],_,_,_,_]) rfl rfl ?_;refine zq9 ?_;refine zcn hj2 (fun hc2 hj2=>?_) (fun hc2 hj2=>?_)
    ·refine zq3 ?_
     obtain ⟨x3,hx3,hj2⟩:=bS hj2;obtain ⟨x4,hx4,hj2⟩:=bS hj2;refine zdr 16 ?_;refine zq5 ?_;refine AC rfl rfl rfl (oIm Tryz.runUnderlying57 Tryz.sizeOf62 rfl rfl hx3) ?_;refine zq5 ?_;refine AC rfl rfl rfl (oIm Tryz.runUnderlying57 Tryz.sizeOf62 rfl rfl hx4) ?_;refine zq2 ?_;refine AC rfl rfl rfl zb61a ?_;refine AC rfl rfl rfl (Aj (xs:=[_]) (f:=AutoEdge.d) (l:=[(⟨x3.name,x4.to_⟩:AutoEdge)]) Tryz.runUnderlying44 Tryz.sizeOf61 Tryz.zeroValue61 rfl rfl rfl (fun _=>⟨rfl,rfl,rfl⟩) rfl) ?_;refine Ex ?_;obtain ⟨hg5,hj2⟩:=Aa hj2;refine zap 1 hg5 fun a_r2 cap_r2=>?_;refine Ak (ms':=[_,_,box b4 46 [_,_,_,_,_,_,_,_,_,_,_,_,_],box b3 59 [_,_,_,_,_,_,_,_,_,_,_,_,_],_,box b2 24 [_,_],box b1 24 [_,_]]) rfl ?_;refine zq1 ?_;refine zst 2 ?_;refine Ak (ms':=[_,_,box b4 46 [_,_,_,_,_,_,_,_,_,_,_,_,_],box b3 59 [_,_,_,_,_,_,_,_,_,_,_,_,_],_,box b2 24 [_,_],box b1 24 [_,_]]) rfl ?_;refine zq3 ?_;obtain ⟨hg6,hj2⟩:=Aa hj2;refine zq3 ?_;exact ⟨_,((_,_),(_,_)),hj2,⟨rfl,trivial⟩,⟨rfl,rfl,rfl,rfl,rfl,rfl,trivial⟩,[],rfl⟩
    ·refine Ar ?_
     exact ⟨_,((_,_),(_,_)),Ac hj2,trivial,⟨rfl,rfl,rfl,rfl,rfl,rfl,trivial⟩,[],rfl⟩
   ·rintro ⟨l3,l4,z3,z4,z5,z6,z7,z8,z9,z10,z11,z12,z13⟩ ⟨⟨a_r3,cap_r3⟩,⟨a_r2,cap_r2⟩⟩ hst
    subst hst;refine Al (L':=[(1,_),(2,_),(3,_),(4,_),(5,_),(6,_)]) (ms':=[row a_r3 cap_r3 61 2 AutoEdge.d l3,row a_r2 cap_r2 61 2 AutoEdge.d l4,box b4 46 [.bool z3,.bool z4,.bool z5,.bool z6,.bool z7,.bool z8,.bool z9,.bool z10,.list 1 D.i64 z11,.i64 z12,.i64 z13,.v (.slice a_r2 l4.length cap_r2),.v (.slice a_r3 l3.length cap_r3)],_,_,_,_]) rfl rfl ?_;refine zq5 ?_;obtain ⟨o_3,hj3,hm3⟩:=bS hm2;refine Ag [(1,_),(2,_),(3,_),(4,_),(6,_)] [(3,_),(4,_),(5,_),(6,_)] (fun (st:((List AutoEdge)×(List AutoEdge)×Bool×Bool×Bool×Bool×Bool×Bool×Bool×Bool×(List Int)×Int×Int)) (hid:(Option Addr×Nat)×(Option Addr×Nat))=>match st,hid with | (l7,l8,z25,z26,z27,z28,z29,z30,z31,z32,z33,z34,z35),((a_r3,cap_r3),(a_r2,cap_r2))=>[]) (fun F (st:((List AutoEdge)×(List AutoEdge)×Bool×Bool×Bool×Bool×Bool×Bool×Bool×Bool×(List Int)×Int×Int)) (hid:(Option Addr×Nat)×(Option Addr×Nat))=>match st,hid with | (l7,l8,z25,z26,z27,z28,z29,z30,z31,z32,z33,z34,z35),((a_r3,cap_r3),(a_r2,cap_r2))=>[row a_r3 cap_r3 61 2 AutoEdge.d l7,row a_r2 cap_r2 61 2 AutoEdge.d l8,box b4 46 [.bool z25,.bool z26,.bool z27,.bool z28,.bool z29,.bool z30,.bool z31,.bool z32,.list 1 D.i64 z33,.i64 z34,.i64 z35,.v (.slice a_r2 l8.length cap_r2),.v (.slice a_r3 l7.length cap_r3)],(nthF F 0),(nthF F 1),(nthF F 2),(nthF F 3)]) (fun st=>st=o_3) ⟨rfl,rfl,rfl,rfl,rfl,trivial⟩ ⟨rfl,rfl,rfl,rfl,trivial⟩ ?_ ?_
    ·refine Am ?_
     refine Ah [(1,_),(2,_),(3,_),(4,_),(5,_),(6,_)] [(3,_),(4,_),(5,_),(6,_)] (fun (st:(Int×(List AutoEdge)×(List AutoEdge)×Bool×Bool×Bool×Bool×Bool×Bool×Bool×Bool×(List Int)×Int×Int)) (hid:(Option Addr×Nat)×(Option Addr×Nat))=>match st,hid with | (k2,l9,l10,z36,z37,z38,z39,z40,z41,z42,z43,z44,z45,z46),((a_r3,cap_r3),(a_r2,cap_r2))=>[(8,.i64 k2)]) (fun F (st:(Int×(List AutoEdge)×(List AutoEdge)×Bool×Bool×Bool×Bool×Bool×Bool×Bool×Bool×(List Int)×Int×Int)) (hid:(Option Addr×Nat)×(Option Addr×Nat))=>match st,hid with | (k2,l9,l10,z36,z37,z38,z39,z40,z41,z42,z43,z44,z45,z46),((a_r3,cap_r3),(a_r2,cap_r2))=>[row a_r3 cap_r3 61 2 AutoEdge.d l9,row a_r2 cap_r2 61 2 AutoEdge.d l10,box b4 46 [.bool z36,.bool z37,.bool z38,.bool z39,.bool z40,.bool z41,.bool z42,.bool z43,.list 1 D.i64 z44,.i64 z45,.i64 z46,.v (.slice a_r2 l10.length cap_r2),.v (.slice a_r3 l9.length cap_r3)],(nthF F 0),(nthF F 1),(nthF F 2),(nthF F 3)]) ((_,_),(_,_)) hj3 (fun _=>rfl) ⟨rfl,rfl,rfl,rfl,rfl,rfl,trivial⟩ ⟨rfl,rfl,rfl,rfl,trivial⟩ ⟨rfl,trivial⟩ rfl ?_;rintro n ⟨k2,l9,l10,z36,z37,z38,z39,z40,z41,z42,z43,z44,z45,z46⟩ ⟨⟨a_r3,cap_r3⟩,⟨a_r2,cap_r2⟩⟩ hj3;rw [BS] at hj3;refine Ao (L':=[(8,.i64 k2),(1,_),(2,_),(3,_),(4,_),(5,_),(6,_)]) (ms':=[row a_r3 cap_r3 61 2 AutoEdge.d l9,row a_r2 cap_r2 61 2 AutoEdge.d l10,box b4 46 [.bool z36,.bool z37,.bool z38,.bool z39,.bool z40,.bool z41,.bool z42,.bool z43,.list 1 D.i64 z44,.i64 z45,.i64 z46,.v (.slice a_r2 l10.length cap_r2),.v (.slice a_r3 l9.length cap_r3)],_,_,_,_]) rfl rfl ?_;refine zq9 ?_;refine zcn hj3 (fun hc3 hj3=>?_) (fun hc3 hj3=>?_)
     ·refine zq3 ?_
      obtain ⟨x5,hx7,hj3⟩:=bS hj3;obtain ⟨x6,hx8,hj3⟩:=bS hj3;refine zdr 16 ?_;refine zq5 ?_;refine AC rfl rfl rfl (oIm Tryz.runUnderlying57 Tryz.sizeOf62 rfl rfl hx7) ?_;refine zq5 ?_;refine AC rfl rfl rfl (oIm Tryz.runUnderlying57 Tryz.sizeOf62 rfl rfl hx8) ?_;refine zq2 ?_;refine AC rfl rfl rfl zb61a ?_;refine AC rfl rfl rfl (Aj (xs:=[_]) (f:=AutoEdge.d) (l:=[(⟨x5.name,x6.to_⟩:AutoEdge)]) Tryz.runUnderlying44 Tryz.sizeOf61 Tryz.zeroValue61 rfl rfl rfl (fun _=>⟨rfl,rfl,rfl⟩) rfl) ?_;refine Ex ?_;obtain ⟨hg9,hj3⟩:=Aa hj3;refine zap 0 hg9 fun a_r3 cap_r3=>?_;refine Ak (ms':=[_,_,box b4 46 [_,_,_,_,_,_,_,_,_,_,_,_,_],box b3 59 [_,_,_,_,_,_,_,_,_,_,_,_,_],_,box b2 24 [_,_],box b1 24 [_,_]]) rfl ?_;refine zq1 ?_;refine zst 2 ?_;refine Ak (ms':=[_,_,box b4 46 [_,_,_,_,_,_,_,_,_,_,_,_,_],box b3 59 [_,_,_,_,_,_,_,_,_,_,_,_,_],_,box b2 24 [_,_],box b1 24 [_,_]]) rfl ?_;refine zq3 ?_;obtain ⟨hg10,hj3⟩:=Aa hj3;refine zq3 ?_;exact ⟨_,((_,_),(_,_)),hj3,⟨rfl,trivial⟩,⟨rfl,rfl,rfl,rfl,rfl,rfl,trivial⟩,[],rfl⟩
     ·refine Ar ?_
      exact ⟨_,((_,_),(_,_)),Ac hj3,trivial,⟨rfl,rfl,rfl,rfl,rfl,trivial⟩,[],rfl⟩
    ·rintro ⟨l7,l8,z25,z26,z27,z28,z29,z30,z31,z32,z33,z34,z35⟩ ⟨⟨a_r3,cap_r3⟩,⟨a_r2,cap_r2⟩⟩ hst
     subst hst;refine Al (L':=[(1,_),(2,_),(3,_),(4,_),(6,_)]) (ms':=[row a_r3 cap_r3 61 2 AutoEdge.d l7,row a_r2 cap_r2 61 2 AutoEdge.d l8,box b4 46 [.bool z25,.bool z26,.bool z27,.bool z28,.bool z29,.bool z30,.bool z31,.bool z32,.list 1 D.i64 z33,.i64 z34,.i64 z35,.v (.slice a_r2 l8.length cap_r2),.v (.slice a_r3 l7.length cap_r3)],_,_,_,_]) rfl rfl ?_;refine zq4 ?_;refine Ap (Ch (i:=100) (q:=11) 1 rfl rfl rfl rfl rfl).refines ?_;refine Ap (Ch (i:=100) (q:=12) 0 rfl rfl rfl rfl rfl).refines ?_;refine Ai rfl rfl rfl (Aj (xs:=[_]) (f:=AutoState.d) (l:=[(⟨z25,z26,z27,z28,z29,z30,z31,z32,z33,z34,z35,l8,l7⟩:AutoState)]) Tryz.runUnderlying22 Tryz.sizeOf46 Tryz.zeroValue46 rfl rfl rfl (fun _=>⟨rfl,rfl,rfl⟩) rfl) ?_;obtain ⟨hg11,hm3⟩:=Aa hm3;refine zap 4 hg11 fun a_r1 cap_r1=>?_;refine Ak (ms':=[_,_,box b4 46 [_,_,_,_,_,_,_,_,_,_,_,_,_],box b3 59 [_,_,_,_,_,_,_,_,_,_,_,_,_],_,box b2 24 [_,_],box b1 24 [_,_]]) rfl ?_;refine zq1 ?_;refine zst 5 ?_;refine Ak (ms':=[_,_,box b4 46 [_,_,_,_,_,_,_,_,_,_,_,_,_],box b3 59 [_,_,_,_,_,_,_,_,_,_,_,_,_],_,box b2 24 [_,_],box b1 24 [_,_]]) rfl ?_;refine zq3 ?_;obtain ⟨hg12,hm3⟩:=Aa hm3;refine zq3 ?_;exact ⟨_,(_,_),hm3,⟨rfl,trivial⟩,⟨rfl,rfl,rfl,trivial⟩,[_,_,_,_],rfl⟩
  ·refine Ar ?_
   exact ⟨_,(_,_),Ac hj1,trivial,⟨rfl,rfl,trivial⟩,[],rfl⟩
 ·rintro ⟨l1,z1⟩ ⟨a_r1,cap_r1⟩ hst
  subst hst;refine Al (L':=[(2,_),(3,_)]) (ms':=[row a_r1 cap_r1 46 13 AutoState.d l1,box b2 24 [.v (.slice a_r1 l1.length cap_r1),.i64 z1],_]) rfl rfl ?_;refine zq3 ?_;refine Ap (Ch (i:=104) (q:=0) 0 rfl rfl rfl rfl rfl).refines ?_;refine zst 2 ?_;refine Ak (ms':=[_,box b2 24 [_,_],box b1 24 [_,_]]) rfl ?_;refine gNl ?_
  cases hm1;exact Ae zr1
def Bh (l1:(List AutoEdge)):Nat->(Int×(List AFd))->Option (List AFd)
 | 0,_=>none
 | n+1,(k1,l3) =>
  bif (decide (k1<(l1.length:Int))) then
   (idx l1 k1).bind fun x1 =>
   (idx l1 k1).bind fun x2 =>
   grd ((l3.length+([(⟨x1.name,x2.to_⟩:AFd)]:List _).length)*24<=140737488355328) <|
   grd (InR (k1+1)) <|
   Bh l1 n ((k1+1),(l3++[(⟨x1.name,x2.to_⟩:AFd)]))
  else
   some l3
def Bi (l1:(List AutoEdge)):Option (List AFd):=
 (Bh l1 FU (0,[]):Option (List AFd)).bind fun l2 =>
 some l2
theorem Fk {l1:(List AutoEdge)} {r_1:(List AFd)} (hm:Bi l1=some r_1):Fn0 Tryz.prog 73 [.list 2 AutoEdge.d l1] (.list 2 AFd.d r_1):=by
 unfold Bi at hm;refine Ad Tryz.func73 rfl Tryz.ntmps73 rfl fun H0 fr w0=>?_;refine zq3 ?_;refine Ap (nilE (i:=2) (sz:=2) (f:=AFd.d) rfl).refines ?_;refine zq3 ?_;refine AG rfl rfl rfl (Au (xs:=[]) (f:=AFd.d) (l:=[]) Tryz.runUnderlying47 Tryz.sizeOf71 Tryz.zeroValue71 rfl rfl rfl (fun _=>⟨rfl,rfl,rfl⟩) rfl (by simp [maxLen])) ?_;rintro _ _ ⟨a_r1,rfl,rfl⟩;refine zq7 ?_;obtain ⟨o_1,hj1,hm1⟩:=bS hm;refine Ag [] [] (fun (st:(List AFd)) (hid:(Option Addr×Nat))=>match st,hid with | l2,(a_r1,cap_r1)=>[(3,.v (.slice a_r1 l2.length cap_r1))]) (fun F (st:(List AFd)) (hid:(Option Addr×Nat))=>match st,hid with | l2,(a_r1,cap_r1)=>[row a_r1 cap_r1 71 2 AFd.d l2]) (fun st=>st=o_1) trivial trivial ?_ ?_
 ·refine Am ?_
  refine Ah [(0,_)] [] (fun (st:(Int×(List AFd))) (hid:(Option Addr×Nat))=>match st,hid with | (k1,l3),(a_r1,cap_r1)=>[(3,.v (.slice a_r1 l3.length cap_r1)),(4,.i64 k1)]) (fun F (st:(Int×(List AFd))) (hid:(Option Addr×Nat))=>match st,hid with | (k1,l3),(a_r1,cap_r1)=>[row a_r1 cap_r1 71 2 AFd.d l3]) (_,_) hj1 (fun _=>rfl) ⟨rfl,trivial⟩ trivial ⟨rfl,rfl,trivial⟩ rfl ?_;rintro n ⟨k1,l3⟩ ⟨a_r1,cap_r1⟩ hj1;rw [Bh] at hj1;refine Ao (L':=[(3,.v (.slice a_r1 l3.length cap_r1)),(4,.i64 k1),(0,_)]) (ms':=[row a_r1 cap_r1 71 2 AFd.d l3]) rfl rfl ?_;refine zq8 ?_;refine zcn hj1 (fun hc1 hj1=>?_) (fun hc1 hj1=>?_)
  ·refine zq3 ?_
   obtain ⟨x1,hx1,hj1⟩:=bS hj1;obtain ⟨x2,hx2,hj1⟩:=bS hj1;refine zdr 13 ?_;refine zq3 ?_;refine AC rfl rfl rfl (oIm Tryz.runUnderlying44 Tryz.sizeOf61 rfl rfl hx1) ?_;refine zq4 ?_;refine AC rfl rfl rfl (oIm Tryz.runUnderlying44 Tryz.sizeOf61 rfl rfl hx2) ?_;refine zq2 ?_;refine AC rfl rfl rfl zb71a ?_;refine AC rfl rfl rfl (Aj (xs:=[_]) (f:=AFd.d) (l:=[(⟨x1.name,x2.to_⟩:AFd)]) Tryz.runUnderlying47 Tryz.sizeOf71 Tryz.zeroValue71 rfl rfl rfl (fun _=>⟨rfl,rfl,rfl⟩) rfl) ?_;refine Ex ?_;obtain ⟨hg3,hj1⟩:=Aa hj1;refine zap 0 hg3 fun a_r1 cap_r1=>?_;refine Ak (ms':=[_]) rfl ?_;refine zq4 ?_;obtain ⟨hg4,hj1⟩:=Aa hj1;refine zq3 ?_;exact ⟨_,(_,_),hj1,⟨rfl,rfl,trivial⟩,⟨rfl,trivial⟩,[],rfl⟩
  ·refine Ar ?_
   exact ⟨_,(_,_),Ac hj1,⟨rfl,trivial⟩,trivial,[],rfl⟩
 ·rintro l2 ⟨a_r1,cap_r1⟩ hst
  subst hst;refine Al (L':=[(3,.v (.slice a_r1 l2.length cap_r1))]) (ms':=[row a_r1 cap_r1 71 2 AFd.d l2]) rfl rfl ?_;refine zq5 ?_;refine BM (peekE (i:=2) 0 rfl rfl rfl).refines ?_
  cases hm1;exact Ae zr1
def A5 (s1:AutoState):Nat->(Int×(List ANd))->Option (List ANd)
 | 0,_=>none
 | n+1,(k1,l6) =>
  bif (decide (k1<(s1.vars.length:Int))) then
   (idx s1.vars k1).bind fun x1 =>
   grd ((l6.length+([(⟨11,x1,0,([]:List AFd)⟩:ANd)]:List _).length)*48<=140737488355328) <|
   grd (InR (k1+1)) <|
   A5 s1 n ((k1+1),(l6++[(⟨11,x1,0,([]:List AFd)⟩:ANd)]))
  else
   some l6
def BR (s1:AutoState) (every1:Int):Option (List ANd):=
 (bif s1.all then
  grd ((0+([(⟨every1,0,0,([]:List AFd)⟩:ANd)]:List _).length)*48<=140737488355328) <|
  some ([]++[(⟨every1,0,0,([]:List AFd)⟩:ANd)])
 else
  some []:Option (List ANd)).bind fun l1 =>
 (bif s1.int then
  grd ((l1.length+([(⟨3,0,0,([]:List AFd)⟩:ANd)]:List _).length)*48<=140737488355328) <|
  some (l1++[(⟨3,0,0,([]:List AFd)⟩:ANd)])
 else
  some l1:Option (List ANd)).bind fun l2 =>
 (bif s1.bool then
  grd ((l2.length+([(⟨4,0,0,([]:List AFd)⟩:ANd)]:List _).length)*48<=140737488355328) <|
  some (l2++[(⟨4,0,0,([]:List AFd)⟩:ANd)])
 else
  some l2:Option (List ANd)).bind fun l3 =>
 (bif s1.str then
  grd ((l3.length+([(⟨5,0,0,([]:List AFd)⟩:ANd)]:List _).length)*48<=140737488355328) <|
  some (l3++[(⟨5,0,0,([]:List AFd)⟩:ANd)])
 else
  some l3:Option (List ANd)).bind fun l4 =>
 (A5 s1 FU (0,l4):Option (List ANd)).bind fun l5 =>
 (bif s1.arrow then
  grd ((l5.length+([(⟨6,s1.dom,s1.cod,([]:List AFd)⟩:ANd)]:List _).length)*48<=140737488355328) <|
  some (l5++[(⟨6,s1.dom,s1.cod,([]:List AFd)⟩:ANd)])
 else
  some l5:Option (List ANd)).bind fun l7 =>
 (bif s1.rec_ then
  (Bi s1.fields).bind fun x2 =>
  grd ((l7.length+([(⟨7,0,0,x2⟩:ANd)]:List _).length)*48<=140737488355328) <|
  some (l7++[(⟨7,0,0,x2⟩:ANd)])
 else
  some l7:Option (List ANd)).bind fun l8 =>
 bif s1.tag then
  (Bi s1.tags).bind fun x3 =>
  grd ((l8.length+([(⟨8,0,0,x3⟩:ANd)]:List _).length)*48<=140737488355328) <|
  some (l8++[(⟨8,0,0,x3⟩:ANd)])
 else
  some l8
theorem HF {s1:AutoState} {every1:Int} {r_1:(List ANd)} (hm:BR s1 every1=some r_1):Fn0 Tryz.prog 42 [AutoState.d s1,.i64 every1] (.list 4 ANd.d r_1):=by
 unfold BR at hm;refine Ad Tryz.func42 rfl Tryz.ntmps42 rfl fun H0 fr w0=>?_;refine zq4 ?_;refine Ap (nilE (i:=4) (sz:=4) (f:=ANd.d) rfl).refines ?_;refine zq3 ?_;refine AG rfl rfl rfl (Au (xs:=[]) (f:=ANd.d) (l:=[]) Tryz.runUnderlying29 Tryz.sizeOf49 Tryz.zeroValue49 rfl rfl rfl (fun _=>⟨rfl,rfl,rfl⟩) rfl (by simp [maxLen])) ?_;rintro _ _ ⟨a_r1,rfl,rfl⟩;refine zq8 ?_;obtain ⟨o_1,hj1,hm1⟩:=bS hm;refine Ag [(2,_)] [] (fun (st:(List ANd)) (hid:(Option Addr×Nat))=>match st,hid with | l1,(a_r1,cap_r1)=>[(5,.v (.slice a_r1 l1.length cap_r1))]) (fun F (st:(List ANd)) (hid:(Option Addr×Nat))=>match st,hid with | l1,(a_r1,cap_r1)=>[row a_r1 cap_r1 49 4 ANd.d l1]) (fun st=>st=o_1) ⟨rfl,trivial⟩ trivial ?_ ?_
 ·refine zcn hj1 (fun hc1 hj1=>?_) (fun hc1 hj1=>?_)
  ·refine zq3 ?_
   refine Ai rfl rfl rfl zb49a ?_;refine Ai rfl rfl rfl (Aj (xs:=[_]) (f:=ANd.d) (l:=[(⟨every1,0,0,([]:List AFd)⟩:ANd)]) Tryz.runUnderlying29 Tryz.sizeOf49 Tryz.zeroValue49 rfl rfl rfl (fun _=>⟨rfl,rfl,rfl⟩) rfl) ?_;obtain ⟨hg1,hj1⟩:=Aa hj1;refine zap 0 hg1 fun a_r1 cap_r1=>?_;refine Ak (ms':=[_]) rfl ?_;refine zq2 ?_;exact ⟨_,(_,_),Ac hj1,⟨rfl,trivial⟩,⟨rfl,trivial⟩,[],rfl⟩
  ·refine gSp ?_
   exact ⟨_,(_,_),Ac hj1,⟨rfl,trivial⟩,⟨rfl,trivial⟩,[],rfl⟩
 ·rintro l1 ⟨a_r1,cap_r1⟩ hst
  subst hst;refine Al (L':=[(5,.v (.slice a_r1 l1.length cap_r1)),(2,_)]) (ms':=[row a_r1 cap_r1 49 4 ANd.d l1]) rfl rfl ?_;refine zq6 ?_;obtain ⟨o_2,hj2,hm2⟩:=bS hm1;refine Ag [(2,_)] [] (fun (st:(List ANd)) (hid:(Option Addr×Nat))=>match st,hid with | l2,(a_r1,cap_r1)=>[(5,.v (.slice a_r1 l2.length cap_r1))]) (fun F (st:(List ANd)) (hid:(Option Addr×Nat))=>match st,hid with | l2,(a_r1,cap_r1)=>[row a_r1 cap_r1 49 4 ANd.d l2]) (fun st=>st=o_2) ⟨rfl,trivial⟩ trivial ?_ ?_
  ·refine zcn hj2 (fun hc2 hj2=>?_) (fun hc2 hj2=>?_)
   ·refine zq2 ?_
    refine Ai rfl rfl rfl zb49a ?_;refine Ai rfl rfl rfl (Aj (xs:=[_]) (f:=ANd.d) (l:=[(⟨3,0,0,([]:List AFd)⟩:ANd)]) Tryz.runUnderlying29 Tryz.sizeOf49 Tryz.zeroValue49 rfl rfl rfl (fun _=>⟨rfl,rfl,rfl⟩) rfl) ?_;obtain ⟨hg2,hj2⟩:=Aa hj2;refine zap 0 hg2 fun a_r1 cap_r1=>?_;refine Ak (ms':=[_]) rfl ?_;refine zq2 ?_;exact ⟨_,(_,_),Ac hj2,⟨rfl,trivial⟩,⟨rfl,trivial⟩,[],rfl⟩
   ·refine gSp ?_
    exact ⟨_,(_,_),Ac hj2,⟨rfl,trivial⟩,⟨rfl,trivial⟩,[],rfl⟩
  ·rintro l2 ⟨a_r1,cap_r1⟩ hst
   subst hst;refine Al (L':=[(5,.v (.slice a_r1 l2.length cap_r1)),(2,_)]) (ms':=[row a_r1 cap_r1 49 4 ANd.d l2]) rfl rfl ?_;refine zq6 ?_;obtain ⟨o_3,hj3,hm3⟩:=bS hm2;refine Ag [(2,_)] [] (fun (st:(List ANd)) (hid:(Option Addr×Nat))=>match st,hid with | l3,(a_r1,cap_r1)=>[(5,.v (.slice a_r1 l3.length cap_r1))]) (fun F (st:(List ANd)) (hid:(Option Addr×Nat))=>match st,hid with | l3,(a_r1,cap_r1)=>[row a_r1 cap_r1 49 4 ANd.d l3]) (fun st=>st=o_3) ⟨rfl,trivial⟩ trivial ?_ ?_
   ·refine zcn hj3 (fun hc3 hj3=>?_) (fun hc3 hj3=>?_)
    ·refine zq2 ?_
     refine Ai rfl rfl rfl zb49a ?_;refine Ai rfl rfl rfl (Aj (xs:=[_]) (f:=ANd.d) (l:=[(⟨4,0,0,([]:List AFd)⟩:ANd)]) Tryz.runUnderlying29 Tryz.sizeOf49 Tryz.zeroValue49 rfl rfl rfl (fun _=>⟨rfl,rfl,rfl⟩) rfl) ?_;obtain ⟨hg3,hj3⟩:=Aa hj3;refine zap 0 hg3 fun a_r1 cap_r1=>?_;refine Ak (ms':=[_]) rfl ?_;refine zq2 ?_;exact ⟨_,(_,_),Ac hj3,⟨rfl,trivial⟩,⟨rfl,trivial⟩,[],rfl⟩
    ·refine gSp ?_
     exact ⟨_,(_,_),Ac hj3,⟨rfl,trivial⟩,⟨rfl,trivial⟩,[],rfl⟩
   ·rintro l3 ⟨a_r1,cap_r1⟩ hst
    subst hst;refine Al (L':=[(5,.v (.slice a_r1 l3.length cap_r1)),(2,_)]) (ms':=[row a_r1 cap_r1 49 4 ANd.d l3]) rfl rfl ?_;refine zq6 ?_;obtain ⟨o_4,hj4,hm4⟩:=bS hm3;refine Ag [(2,_)] [] (fun (st:(List ANd)) (hid:(Option Addr×Nat))=>match st,hid with | l4,(a_r1,cap_r1)=>[(5,.v (.slice a_r1 l4.length cap_r1))]) (fun F (st:(List ANd)) (hid:(Option Addr×Nat))=>match st,hid with | l4,(a_r1,cap_r1)=>[row a_r1 cap_r1 49 4 ANd.d l4]) (fun st=>st=o_4) ⟨rfl,trivial⟩ trivial ?_ ?_
    ·refine zcn hj4 (fun hc4 hj4=>?_) (fun hc4 hj4=>?_)
     ·refine zq2 ?_
      refine Ai rfl rfl rfl zb49a ?_;refine Ai rfl rfl rfl (Aj (xs:=[_]) (f:=ANd.d) (l:=[(⟨5,0,0,([]:List AFd)⟩:ANd)]) Tryz.runUnderlying29 Tryz.sizeOf49 Tryz.zeroValue49 rfl rfl rfl (fun _=>⟨rfl,rfl,rfl⟩) rfl) ?_;obtain ⟨hg4,hj4⟩:=Aa hj4;refine zap 0 hg4 fun a_r1 cap_r1=>?_;refine Ak (ms':=[_]) rfl ?_;refine zq2 ?_;exact ⟨_,(_,_),Ac hj4,⟨rfl,trivial⟩,⟨rfl,trivial⟩,[],rfl⟩
     ·refine gSp ?_
      exact ⟨_,(_,_),Ac hj4,⟨rfl,trivial⟩,⟨rfl,trivial⟩,[],rfl⟩
    ·rintro l4 ⟨a_r1,cap_r1⟩ hst
     subst hst;refine Al (L':=[(5,.v (.slice a_r1 l4.length cap_r1)),(2,_)]) (ms':=[row a_r1 cap_r1 49 4 ANd.d l4]) rfl rfl ?_;refine zq5 ?_;obtain ⟨o_5,hj5,hm5⟩:=bS hm4;refine Ag [(2,_)] [] (fun (st:(List ANd)) (hid:(Option Addr×Nat))=>match st,hid with | l5,(a_r1,cap_r1)=>[(5,.v (.slice a_r1 l5.length cap_r1))]) (fun F (st:(List ANd)) (hid:(Option Addr×Nat))=>match st,hid with | l5,(a_r1,cap_r1)=>[row a_r1 cap_r1 49 4 ANd.d l5]) (fun st=>st=o_5) ⟨rfl,trivial⟩ trivial ?_ ?_
     ·refine Am ?_
      refine Ah [(2,_)] [] (fun (st:(Int×(List ANd))) (hid:(Option Addr×Nat))=>match st,hid with | (k1,l6),(a_r1,cap_r1)=>[(5,.v (.slice a_r1 l6.length cap_r1)),(6,.i64 k1)]) (fun F (st:(Int×(List ANd))) (hid:(Option Addr×Nat))=>match st,hid with | (k1,l6),(a_r1,cap_r1)=>[row a_r1 cap_r1 49 4 ANd.d l6]) (_,_) hj5 (fun _=>rfl) ⟨rfl,trivial⟩ trivial ⟨rfl,rfl,trivial⟩ rfl ?_;rintro n ⟨k1,l6⟩ ⟨a_r1,cap_r1⟩ hj5;rw [A5] at hj5;refine Ao (L':=[(5,.v (.slice a_r1 l6.length cap_r1)),(6,.i64 k1),(2,_)]) (ms':=[row a_r1 cap_r1 49 4 ANd.d l6]) rfl rfl ?_;refine zq9 ?_;refine zcn hj5 (fun hc5 hj5=>?_) (fun hc5 hj5=>?_)
      ·refine zq8 ?_
       obtain ⟨x1,hx5,hj5⟩:=bS hj5;refine zq2 ?_;refine Ai rfl rfl rfl zb49a ?_;refine Ai rfl rfl rfl (Aj (xs:=[_]) (f:=ANd.d) (l:=[(⟨11,x1,0,([]:List AFd)⟩:ANd)]) Tryz.runUnderlying29 Tryz.sizeOf49 Tryz.zeroValue49 rfl rfl rfl (fun _=>⟨rfl,rfl,rfl⟩) rfl) ?_;obtain ⟨hg6,hj5⟩:=Aa hj5;refine zap 0 hg6 fun a_r1 cap_r1=>?_;refine Ak (ms':=[_]) rfl ?_;refine zq4 ?_;obtain ⟨hg7,hj5⟩:=Aa hj5;refine zq3 ?_;exact ⟨_,(_,_),hj5,⟨rfl,rfl,trivial⟩,⟨rfl,trivial⟩,[],rfl⟩
      ·refine Ar ?_
       exact ⟨_,(_,_),Ac hj5,⟨rfl,trivial⟩,⟨rfl,trivial⟩,[],rfl⟩
     ·rintro l5 ⟨a_r1,cap_r1⟩ hst
      subst hst;refine Al (L':=[(5,.v (.slice a_r1 l5.length cap_r1)),(2,_)]) (ms':=[row a_r1 cap_r1 49 4 ANd.d l5]) rfl rfl ?_;refine zq6 ?_;obtain ⟨o_6,hj6,hm6⟩:=bS hm5;refine Ag [(2,_)] [] (fun (st:(List ANd)) (hid:(Option Addr×Nat))=>match st,hid with | l7,(a_r1,cap_r1)=>[(5,.v (.slice a_r1 l7.length cap_r1))]) (fun F (st:(List ANd)) (hid:(Option Addr×Nat))=>match st,hid with | l7,(a_r1,cap_r1)=>[row a_r1 cap_r1 49 4 ANd.d l7]) (fun st=>st=o_6) ⟨rfl,trivial⟩ trivial ?_ ?_
      ·refine zcn hj6 (fun hc6 hj6=>?_) (fun hc6 hj6=>?_)
       ·refine zq6 ?_
        refine Ai rfl rfl rfl zb49a ?_;refine Ai rfl rfl rfl (Aj (xs:=[_]) (f:=ANd.d) (l:=[(⟨6,s1.dom,s1.cod,([]:List AFd)⟩:ANd)]) Tryz.runUnderlying29 Tryz.sizeOf49 Tryz.zeroValue49 rfl rfl rfl (fun _=>⟨rfl,rfl,rfl⟩) rfl) ?_;obtain ⟨hg8,hj6⟩:=Aa hj6;refine zap 0 hg8 fun a_r1 cap_r1=>?_;refine Ak (ms':=[_]) rfl ?_;refine zq2 ?_;exact ⟨_,(_,_),Ac hj6,⟨rfl,trivial⟩,⟨rfl,trivial⟩,[],rfl⟩
       ·refine gSp ?_
        exact ⟨_,(_,_),Ac hj6,⟨rfl,trivial⟩,⟨rfl,trivial⟩,[],rfl⟩
      ·rintro l7 ⟨a_r1,cap_r1⟩ hst
       subst hst;refine Al (L':=[(5,.v (.slice a_r1 l7.length cap_r1)),(2,_)]) (ms':=[row a_r1 cap_r1 49 4 ANd.d l7]) rfl rfl ?_;refine zq6 ?_;obtain ⟨o_7,hj7,hm7⟩:=bS hm6;refine Ag [(2,_)] [] (fun (st:(List ANd)) (hid:(Option Addr×Nat))=>match st,hid with | l8,(a_r1,cap_r1)=>[(5,.v (.slice a_r1 l8.length cap_r1))]) (fun F (st:(List ANd)) (hid:(Option Addr×Nat))=>match st,hid with | l8,(a_r1,cap_r1)=>[row a_r1 cap_r1 49 4 ANd.d l8]) (fun st=>st=o_7) ⟨rfl,trivial⟩ trivial ?_ ?_
       ·refine zcn hj7 (fun hc7 hj7=>?_) (fun hc7 hj7=>?_)
        ·refine zq4 ?_
         obtain ⟨x2,hx9,hj7⟩:=bS hj7;refine zc0 (Fk hx9) ?_;refine Ai rfl rfl rfl zb49a ?_;refine Ai rfl rfl rfl (Aj (xs:=[_]) (f:=ANd.d) (l:=[(⟨7,0,0,x2⟩:ANd)]) Tryz.runUnderlying29 Tryz.sizeOf49 Tryz.zeroValue49 rfl rfl rfl (fun _=>⟨rfl,rfl,rfl⟩) rfl) ?_;obtain ⟨hg10,hj7⟩:=Aa hj7;refine zap 0 hg10 fun a_r1 cap_r1=>?_;refine Ak (ms':=[_]) rfl ?_;refine zq2 ?_;exact ⟨_,(_,_),Ac hj7,⟨rfl,trivial⟩,⟨rfl,trivial⟩,[],rfl⟩
        ·refine gSp ?_
         exact ⟨_,(_,_),Ac hj7,⟨rfl,trivial⟩,⟨rfl,trivial⟩,[],rfl⟩
       ·rintro l8 ⟨a_r1,cap_r1⟩ hst
        subst hst;refine Al (L':=[(5,.v (.slice a_r1 l8.length cap_r1)),(2,_)]) (ms':=[row a_r1 cap_r1 49 4 ANd.d l8]) rfl rfl ?_;refine zq6 ?_;refine zcn hm7 (fun hc8 hm7=>?_) (fun hc8 hm7=>?_)
        ·refine zq4 ?_
         obtain ⟨x3,hx11,hm7⟩:=bS hm7;refine zc0 (Fk hx11) ?_;refine Ai rfl rfl rfl zb49a ?_;refine Ai rfl rfl rfl (Aj (xs:=[_]) (f:=ANd.d) (l:=[(⟨8,0,0,x3⟩:ANd)]) Tryz.runUnderlying29 Tryz.sizeOf49 Tryz.zeroValue49 rfl rfl rfl (fun _=>⟨rfl,rfl,rfl⟩) rfl) ?_;obtain ⟨hg12,hm7⟩:=Aa hm7;refine zap 0 hg12 fun a_r1 cap_r1=>?_;refine Ak (ms':=[_]) rfl ?_;refine zq7 ?_;refine BM (peekE (i:=4) 0 rfl rfl rfl).refines ?_
         cases hm7;exact Ae zr1
        ·refine zq6 ?_
         refine BM (peekE (i:=4) 0 rfl rfl rfl).refines ?_
         cases hm7;exact Ae zr1
def Ba (a1:AutoAuto):Nat->(Int×(List ANd)×Int)->Option ((List ANd)×Int)
 | 0,_=>none
 | n+1,(i1,l2,z2) =>
  bif (decide (i1<(a1.l.length:Int))) then
   grd ((l2.length+([(⟨0,0,0,([]:List AFd)⟩:ANd)]:List _).length)*48<=140737488355328) <|
   grd (InR (i1+1)) <|
   Ba a1 n ((i1+1),(l2++[(⟨0,0,0,([]:List AFd)⟩:ANd)]),z2)
  else
   some (l2,z2)
def Bf (kind1:Int) (x2:(List ANd)):Nat->(Int×Int×(List ANd)×Int)->Option (Int×(List ANd)×Int)
 | 0,_=>none
 | n+1,(at2,k1,l6,z6) =>
  bif (decide (k1<(x2.length:Int))) then
   (idx x2 k1).bind fun x3 =>
   grd ((l6.length+([x3,(⟨kind1,at2,(l6.length:Int),([]:List AFd)⟩:ANd)]:List _).length)*48<=140737488355328) <|
   grd (InR (((l6++[x3,(⟨kind1,at2,(l6.length:Int),([]:List AFd)⟩:ANd)]).length:Int) - 1)) <|
   grd (InR (k1+1)) <|
   Bf kind1 x2 n ((((l6++[x3,(⟨kind1,at2,(l6.length:Int),([]:List AFd)⟩:ANd)]).length:Int) - 1),(k1+1),(l6++[x3,(⟨kind1,at2,(l6.length:Int),([]:List AFd)⟩:ANd)]),z6)
  else
   some (at2,l6,z6)
def Bc (a1:AutoAuto):Nat->(Int×(List ANd)×Int)->Option ((List ANd)×Int)
 | 0,_=>none
 | n+1,(i2,l4,z4) =>
  bif (decide (i2<(a1.l.length:Int))) then
   (idx a1.l i2).bind fun x1 =>
   (bif x1.plus then
    some (9,2,1)
   else
    some (10,1,2):Option (Int×Int×Int)).bind fun (kind1,none1,every1) =>
   grd ((l4.length+([(⟨none1,0,0,([]:List AFd)⟩:ANd)]:List _).length)*48<=140737488355328) <|
   grd (InR (((l4++[(⟨none1,0,0,([]:List AFd)⟩:ANd)]).length:Int) - 1)) <|
   (BR (⟨x1.plus,x1.all,x1.int,x1.bool,x1.str,x1.arrow,x1.rec_,x1.tag,x1.vars,x1.dom,x1.cod,x1.fields,x1.tags⟩:AutoState) every1).bind fun x2 =>
   (Bf kind1 x2 FU ((((l4++[(⟨none1,0,0,([]:List AFd)⟩:ANd)]).length:Int) - 1),0,(l4++[(⟨none1,0,0,([]:List AFd)⟩:ANd)]),z4):Option (Int×(List ANd)×Int)).bind fun (at1,l5,z5) =>
   (idx l5 i2).bind fun x4 =>
   grd (InR (i2+1)) <|
   Bc a1 n ((i2+1),(l5.set (i2).toNat (⟨kind1,at1,at1,([]:List AFd)⟩:ANd)),z5)
  else
   some (l4,z4)
def Cp (a1:AutoAuto):Option ATy:=
 (Ba a1 FU (0,([]:List ANd),a1.start):Option ((List ANd)×Int)).bind fun (l1,z1) =>
 (Bc a1 FU (0,l1,z1):Option ((List ANd)×Int)).bind fun (l3,z3) =>
 some (⟨l3,z3⟩:ATy)
theorem Ii {a1:AutoAuto} {r_1:ATy} (hm:Cp a1=some r_1):Fn0 Tryz.prog 17 [AutoAuto.d a1] (ATy.d r_1):=by
 unfold Cp at hm;refine Ad Tryz.func17 rfl Tryz.ntmps17 rfl fun H0 fr w0=>?_;refine zq3 ?_;refine F2 fun b1=>?_;refine zq5 ?_;refine Ai rfl rfl rfl zb31b ?_;refine F2 fun b2=>?_;refine zst 0 ?_;refine Ap (BD (T:=49) (sz:=4) (f:=ANd.d)) ?_;refine Ak (ms':=[_,box b2 31 [_,_],box b1 31 [_,_]]) rfl ?_;refine zq6 ?_;obtain ⟨o_1,hj1,hm1⟩:=bS hm;refine Ag [(1,_),(2,_),(3,_)] [(2,_)] (fun (st:((List ANd)×Int)) (hid:(Option Addr×Nat×Nat))=>match st,hid with | (l1,z1),(a_r1,m_r1,cap_r1)=>[]) (fun F (st:((List ANd)×Int)) (hid:(Option Addr×Nat×Nat))=>match st,hid with | (l1,z1),(a_r1,m_r1,cap_r1)=>[arr a_r1 m_r1 cap_r1 49 4 ANd.d l1,box b2 31 [.v (.slice a_r1 m_r1 cap_r1),.i64 z1],(nthF F 0)]) (fun st=>st=o_1) ⟨rfl,rfl,rfl,trivial⟩ ⟨rfl,trivial⟩ ?_ ?_
 ·refine Am ?_
  refine Ah [(1,_),(2,_),(3,_)] [(2,_)] (fun (st:(Int×(List ANd)×Int)) (hid:(Option Addr×Nat×Nat))=>match st,hid with | (i1,l2,z2),(a_r1,m_r1,cap_r1)=>[(4,.i64 i1)]) (fun F (st:(Int×(List ANd)×Int)) (hid:(Option Addr×Nat×Nat))=>match st,hid with | (i1,l2,z2),(a_r1,m_r1,cap_r1)=>[arr a_r1 m_r1 cap_r1 49 4 ANd.d l2,box b2 31 [.v (.slice a_r1 m_r1 cap_r1),.i64 z2],(nthF F 0)]) (_,_,_) hj1 (fun _=>rfl) ⟨rfl,rfl,rfl,trivial⟩ ⟨rfl,trivial⟩ ⟨rfl,trivial⟩ rfl ?_;rintro n ⟨i1,l2,z2⟩ ⟨a_r1,m_r1,cap_r1⟩ hj1;rw [Ba] at hj1;refine Ao (L':=[(4,.i64 i1),(1,_),(2,_),(3,_)]) (ms':=[arr a_r1 m_r1 cap_r1 49 4 ANd.d l2,box b2 31 [.v (.slice a_r1 m_r1 cap_r1),.i64 z2],_]) rfl rfl ?_;refine zq9 ?_;refine zcn hj1 (fun hc1 hj1=>?_) (fun hc1 hj1=>?_)
  ·refine zq6 ?_
   refine Ai rfl rfl rfl zb49a ?_;refine Ai rfl rfl rfl (Aj (xs:=[_]) (f:=ANd.d) (l:=[(⟨0,0,0,([]:List AFd)⟩:ANd)]) Tryz.runUnderlying29 Tryz.sizeOf49 Tryz.zeroValue49 rfl rfl rfl (fun _=>⟨rfl,rfl,rfl⟩) rfl) ?_;obtain ⟨hg1,hj1⟩:=Aa hj1;refine AG rfl rfl rfl (DC (a:=_) 0 Tryz.underlying29 Tryz.type49 rfl rfl rfl rfl rfl rfl (fun _=>rfl) (fun _=>rfl) hg1 (BX hg1 rfl)) ?_;rintro _ _ ⟨a_r1,m_r1,cap_r1,rfl,rfl⟩;refine Ak (ms':=[_,box b2 31 [_,_],box b1 31 [_,_]]) rfl ?_;refine zq1 ?_;refine zst 1 ?_;refine Ak (ms':=[_,box b2 31 [_,_],box b1 31 [_,_]]) rfl ?_;refine zq3 ?_;obtain ⟨hg2,hj1⟩:=Aa hj1;refine zq3 ?_;exact ⟨_,(_,_,_),hj1,⟨rfl,trivial⟩,⟨rfl,rfl,rfl,trivial⟩,[],rfl⟩
  ·refine Ar ?_
   exact ⟨_,(_,_,_),Ac hj1,trivial,⟨rfl,rfl,rfl,trivial⟩,[],rfl⟩
 ·rintro ⟨l1,z1⟩ ⟨a_r1,m_r1,cap_r1⟩ hst
  subst hst;refine Al (L':=[(1,_),(2,_),(3,_)]) (ms':=[arr a_r1 m_r1 cap_r1 49 4 ANd.d l1,box b2 31 [.v (.slice a_r1 m_r1 cap_r1),.i64 z1],_]) rfl rfl ?_;refine zq5 ?_;obtain ⟨o_2,hj2,hm2⟩:=bS hm1;refine Ag [(2,_),(3,_)] [(2,_)] (fun (st:((List ANd)×Int)) (hid:(Option Addr×Nat×Nat))=>match st,hid with | (l3,z3),(a_r1,m_r1,cap_r1)=>[]) (fun F (st:((List ANd)×Int)) (hid:(Option Addr×Nat×Nat))=>match st,hid with | (l3,z3),(a_r1,m_r1,cap_r1)=>[arr a_r1 m_r1 cap_r1 49 4 ANd.d l3,box b2 31 [.v (.slice a_r1 m_r1 cap_r1),.i64 z3],(nthF F 0)]) (fun st=>st=o_2) ⟨rfl,rfl,trivial⟩ ⟨rfl,trivial⟩ ?_ ?_
  ·refine Am ?_
   refine Ah [(1,_),(2,_),(3,_)] [(2,_)] (fun (st:(Int×(List ANd)×Int)) (hid:(Option Addr×Nat×Nat))=>match st,hid with | (i2,l4,z4),(a_r1,m_r1,cap_r1)=>[(5,.i64 i2)]) (fun F (st:(Int×(List ANd)×Int)) (hid:(Option Addr×Nat×Nat))=>match st,hid with | (i2,l4,z4),(a_r1,m_r1,cap_r1)=>[arr a_r1 m_r1 cap_r1 49 4 ANd.d l4,box b2 31 [.v (.slice a_r1 m_r1 cap_r1),.i64 z4],(nthF F 0)]) (_,_,_) hj2 (fun _=>rfl) ⟨rfl,rfl,rfl,trivial⟩ ⟨rfl,trivial⟩ ⟨rfl,trivial⟩ rfl ?_;rintro n ⟨i2,l4,z4⟩ ⟨a_r1,m_r1,cap_r1⟩ hj2;rw [Bc] at hj2;refine Ao (L':=[(5,.i64 i2),(1,_),(2,_),(3,_)]) (ms':=[arr a_r1 m_r1 cap_r1 49 4 ANd.d l4,box b2 31 [.v (.slice a_r1 m_r1 cap_r1),.i64 z4],_]) rfl rfl ?_;refine zq9 ?_;refine zcn hj2 (fun hc2 hj2=>?_) (fun hc2 hj2=>?_)
   ·refine zq8 ?_
    obtain ⟨x1,hx3,hj2⟩:=bS hj2;refine zq2 ?_;refine M7 fun b3=>?_;refine zst 0 ?_;refine Ak (ms':=[box b3 46 [_,_,_,_,_,_,_,_,_,_,_,_,_],_,box b2 31 [_,_],box b1 31 [_,_]]) rfl ?_;refine zq13 ?_;obtain ⟨o_3,hj3,hm3⟩:=bS hj2;refine Ag [(1,_),(2,_),(3,_),(5,_),(6,_)] [(0,_),(1,_),(2,_),(3,_)] (fun (st:(Int×Int×Int)) (hid:Unit)=>match st,hid with | (kind1,none1,every1),_=>[(7,.i64 kind1),(8,.i64 none1),(9,.i64 every1)]) (fun F (st:(Int×Int×Int)) (hid:Unit)=>match st,hid with | (kind1,none1,every1),_=>[(nthF F 0),(nthF F 1),(nthF F 2),(nthF F 3)]) (fun st=>st=o_3) ⟨rfl,rfl,rfl,rfl,rfl,trivial⟩ ⟨rfl,rfl,rfl,rfl,trivial⟩ ?_ ?_
    ·refine zcn hj3 (fun hc3 hj3=>?_) (fun hc3 hj3=>?_)
     ·refine zq5 ?_
      exact ⟨_,(),Ac hj3,⟨rfl,rfl,rfl,trivial⟩,⟨rfl,rfl,rfl,rfl,rfl,trivial⟩,[],rfl⟩
     ·refine gSp ?_
      exact ⟨_,(),Ac hj3,⟨rfl,rfl,rfl,trivial⟩,⟨rfl,rfl,rfl,rfl,rfl,trivial⟩,[],rfl⟩
    ·rintro ⟨kind1,none1,every1⟩ _ hst
     subst hst;refine Al (L':=[(7,.i64 kind1),(8,.i64 none1),(9,.i64 every1),(1,_),(2,_),(3,_),(5,_),(6,_)]) (ms':=[_,_,_,_]) rfl rfl ?_;refine zq5 ?_;refine Ai rfl rfl rfl zb49a ?_;refine Ai rfl rfl rfl (Aj (xs:=[_]) (f:=ANd.d) (l:=[(⟨none1,0,0,([]:List AFd)⟩:ANd)]) Tryz.runUnderlying29 Tryz.sizeOf49 Tryz.zeroValue49 rfl rfl rfl (fun _=>⟨rfl,rfl,rfl⟩) rfl) ?_;obtain ⟨hg4,hm3⟩:=Aa hm3;refine AG rfl rfl rfl (DC (a:=_) 1 Tryz.underlying29 Tryz.type49 rfl rfl rfl rfl rfl rfl (fun _=>rfl) (fun _=>rfl) hg4 (BX hg4 rfl)) ?_;rintro _ _ ⟨a_r1,m_r1,cap_r1,rfl,rfl⟩;refine Ak (ms':=[box b3 46 [_,_,_,_,_,_,_,_,_,_,_,_,_],_,box b2 31 [_,_],box b1 31 [_,_]]) rfl ?_;refine zq1 ?_;refine zst 2 ?_;refine Ak (ms':=[box b3 46 [_,_,_,_,_,_,_,_,_,_,_,_,_],_,box b2 31 [_,_],box b1 31 [_,_]]) rfl ?_;refine zq5 ?_;refine Ai rfl rfl rfl (Ca 1 Tryz.runUnderlying29 rfl rfl) ?_;obtain ⟨hg5,hm3⟩:=Aa hm3;refine zq7 ?_;obtain ⟨x2,hx6,hm3⟩:=bS hm3;refine zc0 (HF hx6) ?_;refine zq7 ?_;obtain ⟨o_4,hj4,hm4⟩:=bS hm3;refine Ag [(1,_),(2,_),(3,_),(5,_),(7,_)] [(0,_),(3,_)] (fun (st:(Int×(List ANd)×Int)) (hid:(Option Addr×Nat×Nat))=>match st,hid with | (at1,l5,z5),(a_r1,m_r1,cap_r1)=>[(10,.i64 at1)]) (fun F (st:(Int×(List ANd)×Int)) (hid:(Option Addr×Nat×Nat))=>match st,hid with | (at1,l5,z5),(a_r1,m_r1,cap_r1)=>[(nthF F 0),arr a_r1 m_r1 cap_r1 49 4 ANd.d l5,box b2 31 [.v (.slice a_r1 m_r1 cap_r1),.i64 z5],(nthF F 1)]) (fun st=>st=o_4) ⟨rfl,rfl,rfl,rfl,rfl,trivial⟩ ⟨rfl,rfl,trivial⟩ ?_ ?_
     ·refine Am ?_
      refine Ah [(1,_),(2,_),(3,_),(5,_),(7,_),(11,_)] [(0,_),(3,_)] (fun (st:(Int×Int×(List ANd)×Int)) (hid:(Option Addr×Nat×Nat))=>match st,hid with | (at2,k1,l6,z6),(a_r1,m_r1,cap_r1)=>[(10,.i64 at2),(12,.i64 k1)]) (fun F (st:(Int×Int×(List ANd)×Int)) (hid:(Option Addr×Nat×Nat))=>match st,hid with | (at2,k1,l6,z6),(a_r1,m_r1,cap_r1)=>[(nthF F 0),arr a_r1 m_r1 cap_r1 49 4 ANd.d l6,box b2 31 [.v (.slice a_r1 m_r1 cap_r1),.i64 z6],(nthF F 1)]) (_,_,_) hj4 (fun _=>rfl) ⟨rfl,rfl,rfl,rfl,rfl,rfl,trivial⟩ ⟨rfl,rfl,trivial⟩ ⟨rfl,rfl,trivial⟩ rfl ?_;rintro n ⟨at2,k1,l6,z6⟩ ⟨a_r1,m_r1,cap_r1⟩ hj4;rw [Bf] at hj4;refine Ao (L':=[(10,.i64 at2),(12,.i64 k1),(1,_),(2,_),(3,_),(5,_),(7,_),(11,_)]) (ms':=[_,arr a_r1 m_r1 cap_r1 49 4 ANd.d l6,box b2 31 [.v (.slice a_r1 m_r1 cap_r1),.i64 z6],_]) rfl rfl ?_;refine zq8 ?_;refine zcn hj4 (fun hc4 hj4=>?_) (fun hc4 hj4=>?_)
      ·refine zq4 ?_
       obtain ⟨x3,hx7,hj4⟩:=bS hj4;refine zdr 13 ?_;refine zq10 ?_;refine AC rfl rfl rfl (Ca 1 Tryz.runUnderlying29 rfl rfl) ?_;refine AC rfl rfl rfl zb49a ?_;refine AC rfl rfl rfl (Aj (xs:=[_,_]) (f:=ANd.d) (l:=[_,(⟨kind1,at2,(l6.length:Int),([]:List AFd)⟩:ANd)]) Tryz.runUnderlying29 Tryz.sizeOf49 Tryz.zeroValue49 rfl rfl rfl (fun _=>⟨rfl,rfl,rfl⟩) rfl) ?_;refine Ex ?_;obtain ⟨hg8,hj4⟩:=Aa hj4;refine AG rfl rfl rfl (DC (a:=_) 1 Tryz.underlying29 Tryz.type49 rfl rfl rfl rfl rfl rfl (fun _=>rfl) (fun _=>rfl) hg8 (BX hg8 rfl)) ?_;rintro _ _ ⟨a_r1,m_r1,cap_r1,rfl,rfl⟩;refine Ak (ms':=[box b3 46 [_,_,_,_,_,_,_,_,_,_,_,_,_],_,box b2 31 [_,_],box b1 31 [_,_]]) rfl ?_;refine zq1 ?_;refine zst 2 ?_;refine Ak (ms':=[box b3 46 [_,_,_,_,_,_,_,_,_,_,_,_,_],_,box b2 31 [_,_],box b1 31 [_,_]]) rfl ?_;refine zq4 ?_;refine Ai rfl rfl rfl (Ca 1 Tryz.runUnderlying29 rfl rfl) ?_;obtain ⟨hg9,hj4⟩:=Aa hj4;refine zq5 ?_;obtain ⟨hg10,hj4⟩:=Aa hj4;refine zq3 ?_;exact ⟨_,(_,_,_),hj4,⟨rfl,rfl,trivial⟩,⟨rfl,rfl,rfl,rfl,rfl,rfl,trivial⟩,[],rfl⟩
      ·refine Ar ?_
       exact ⟨_,(_,_,_),Ac hj4,⟨rfl,trivial⟩,⟨rfl,rfl,rfl,rfl,rfl,trivial⟩,[],rfl⟩
     ·rintro ⟨at1,l5,z5⟩ ⟨a_r1,m_r1,cap_r1⟩ hst
      subst hst;refine Al (L':=[(10,.i64 at1),(1,_),(2,_),(3,_),(5,_),(7,_)]) (ms':=[_,arr a_r1 m_r1 cap_r1 49 4 ANd.d l5,box b2 31 [.v (.slice a_r1 m_r1 cap_r1),.i64 z5],_]) rfl rfl ?_;refine zq7 ?_;refine Ai rfl rfl rfl zb49a ?_;obtain ⟨x4,hx11,hm4⟩:=bS hm4;refine Ai rfl rfl rfl (Af 1 Tryz.runUnderlying29 Tryz.sizeOf49 rfl rfl rfl hx11) ?_;refine H6 rfl rfl (AV (off:=0) (z':=(⟨kind1,at1,at1,([]:List AFd)⟩:ANd)) 1 Tryz.sizeOf49 rfl rfl (Av hx11).2 rfl rfl rfl rfl rfl rfl (nB rfl) rfl rfl) ?_;rintro _ _ rfl;refine Ak (ms':=[box b3 46 [_,_,_,_,_,_,_,_,_,_,_,_,_],_,box b2 31 [_,_],box b1 31 [_,_]]) rfl ?_;refine zq3 ?_;obtain ⟨hg12,hm4⟩:=Aa hm4;refine zq3 ?_;exact ⟨_,(_,_,_),hm4,⟨rfl,trivial⟩,⟨rfl,rfl,rfl,trivial⟩,[_],rfl⟩
   ·refine Ar ?_
    exact ⟨_,(_,_,_),Ac hj2,trivial,⟨rfl,rfl,trivial⟩,[],rfl⟩
  ·rintro ⟨l3,z3⟩ ⟨a_r1,m_r1,cap_r1⟩ hst
   subst hst;refine Al (L':=[(2,_),(3,_)]) (ms':=[arr a_r1 m_r1 cap_r1 49 4 ANd.d l3,box b2 31 [.v (.slice a_r1 m_r1 cap_r1),.i64 z3],_]) rfl rfl ?_;refine zq2 ?_;refine KR 0 rfl rfl ?_;rintro rfl;refine zq1 ?_;refine Ap (Ch (i:=90) (q:=0) 0 rfl rfl rfl rfl rfl).refines ?_;refine zst 2 ?_;refine Ak (ms':=[_,box b2 31 [_,_],box b1 31 [_,_]]) rfl ?_;refine gNl ?_
   cases hm2;exact Ae zr1
def Dh (a1:ATy) (z6:(List AFd)):Nat->(Int×(List AFd))->Option (List AFd)
 | 0,_=>none
 | n+1,(k1,l4) =>
  bif (decide (k1<(z6.length:Int))) then
   (idx z6 k1).bind fun x2 =>
   (idx z6 k1).bind fun x3 =>
   grd (InR (x3.at_+(a1.l.length:Int))) <|
   grd ((l4.length+([(⟨x2.name,(x3.at_+(a1.l.length:Int))⟩:AFd)]:List _).length)*24<=140737488355328) <|
   grd (InR (k1+1)) <|
   Dh a1 z6 n ((k1+1),(l4++[(⟨x2.name,(x3.at_+(a1.l.length:Int))⟩:AFd)]))
  else
   some l4
def DU (a1:ATy) (b1:ATy):Nat->(Int×(List ANd)×Int)->Option ((List ANd)×Int)
 | 0,_=>none
 | n+1,(i1,l2,z2) =>
  bif (decide (i1<(b1.l.length:Int))) then
   (idx b1.l i1).bind fun x1 =>
   (bif (((decide (x1.kind=6))||(decide (x1.kind=9)))||(decide (x1.kind=10))) then
    grd (InR (x1.a+(a1.l.length:Int))) <|
    grd (InR (x1.b+(a1.l.length:Int))) <|
    some (x1.kind,(x1.a+(a1.l.length:Int)),(x1.b+(a1.l.length:Int)),x1.l)
   else
    some (x1.kind,x1.a,x1.b,x1.l):Option (Int×Int×Int×(List AFd))).bind fun (z3,z4,z5,z6) =>
   (Dh a1 z6 FU (0,[]):Option (List AFd)).bind fun l3 =>
   grd ((l2.length+([(⟨z3,z4,z5,l3⟩:ANd)]:List _).length)*48<=140737488355328) <|
   grd (InR (i1+1)) <|
   DU a1 b1 n ((i1+1),(l2++[(⟨z3,z4,z5,l3⟩:ANd)]),z2)
  else
   some (l2,z2)
def Gj (a1:ATy) (b1:ATy):Option (ATy×Int):=
 grd ((0+a1.l.length)*48<=140737488355328) <|
 (DU a1 b1 FU (0,([]++a1.l),a1.root):Option ((List ANd)×Int)).bind fun (l1,z1) =>
 some ((⟨l1,z1⟩:ATy),(a1.l.length:Int))
theorem PP {a1:ATy} {b1:ATy} {r_1:ATy} {r_2:Int} (hm:Gj a1 b1=some (r_1,r_2)):Fn0 Tryz.prog 43 [ATy.d a1,ATy.d b1] (.tup [ATy.d r_1,.i64 r_2]):=by
 unfold Gj at hm;refine Ad Tryz.func43 rfl Tryz.ntmps43 rfl fun H0 fr w0=>?_;refine zq4 ?_;refine F2 fun b1=>?_;refine zq3 ?_;obtain ⟨hg1,hm⟩:=Aa hm;refine JI (σ:=Option Addr×Nat×Nat) (fun s=>match s with | (a_r1,cap_r1,b3)=>[(6,.v (.pointer (some ⟨b3,0,none⟩)))]) (fun s=>match s with | (a_r1,cap_r1,b3)=>[row a_r1 cap_r1 49 4 ANd.d ([]++a1.l),box b3 31 [.v (.slice a_r1 ([]++a1.l).length cap_r1),.i64 a1.root],box b1 31 [.list 4 ANd.d [],.i64 0]]) ?_ ?_
 ·refine Ju [0,3,6,7,8] A0 (by decide +kernel) (by decide +kernel) (by decide) _ rfl ?_
  refine EC rfl ?_;refine Bl rfl rfl rfl rfl (oFa E3 rfl rfl rfl) ?_;refine Bl rfl rfl rfl rfl (Bk Tryz.isAgg29 rfl rfl) ?_;refine EC rfl ?_;refine Bl rfl rfl rfl rfl (oFa QI rfl rfl rfl) ?_;refine Bl rfl rfl rfl rfl (Bk Tryz.isAgg3 rfl rfl) ?_;refine EC rfl ?_;refine EC rfl ?_;refine EC rfl ?_;refine KH ?_;refine zg2 0 7 ?_ ?_
  ·refine A8 (R':=[3,6,7,8]) rfl rfl rfl rfl (by decide) (Au (xs:=[]) (f:=ANd.d) (l:=[]) Tryz.runUnderlying29 Tryz.sizeOf49 Tryz.zeroValue49 rfl rfl rfl (fun _=>⟨rfl,rfl,rfl⟩) rfl (by simp [maxLen])) ?_
   rintro _ _ ⟨a_r2,rfl,rfl⟩;refine zg2 3 7 ?_ ?_
   ·refine A8 (R':=[6,7,8]) rfl rfl rfl rfl (by decide) (C0 (a:=_) 0 Tryz.underlying29 Tryz.type49 rfl rfl rfl rfl rfl rfl rfl (fun _=>rfl) (fun _=>rfl) hg1 (BX hg1 rfl)) ?_
    rintro _ _ ⟨a_r2,cap_r2,rfl,rfl⟩;refine zg2 6 7 ?_ ?_
    ·refine A8 (R':=[7,8]) rfl rfl rfl rfl (by decide) zb31a ?_
     rintro _ _ ⟨rfl,rfl⟩;refine zg1 7 ?_;refine M3 fun b5=>?_;refine zg1 8 ?_;refine zgs 0 ?_;exact Cg (a_r2,cap_r2,b5) (zse (M0:=[(6,_)]) (N0:=[(6,_),(18,_),(15,_),(12,_),(17,_),(16,_),(14,_),(13,_)])) (permA 1 rfl (permA 0 rfl (permA 0 rfl permN)))
    ·refine M3 fun b6=>?_
     refine zg1 6 ?_;refine A8 (R':=[8]) rfl rfl rfl rfl (by decide) zb31a ?_;rintro _ _ ⟨rfl,rfl⟩;refine zg1 8 ?_;refine zgs 0 ?_;exact Cg (a_r2,cap_r2,b6) (zse (M0:=[(6,_)]) (N0:=[(18,_),(6,_),(15,_),(12,_),(17,_),(16,_),(14,_),(13,_)])) (permA 1 rfl (permA 0 rfl (permA 0 rfl permN)))
   ·refine M3 fun b7=>?_
    refine zg1 3 ?_;refine A8 (R':=[6,8]) rfl rfl rfl rfl (by decide) (C0 (a:=_) 1 Tryz.underlying29 Tryz.type49 rfl rfl rfl rfl rfl rfl rfl (fun _=>rfl) (fun _=>rfl) hg1 (BX hg1 rfl)) ?_;rintro _ _ ⟨a_r2,cap_r2,rfl,rfl⟩;refine zg1 6 ?_;refine A8 (R':=[8]) rfl rfl rfl rfl (by decide) zb31a ?_;rintro _ _ ⟨rfl,rfl⟩;refine zg1 8 ?_;refine zgs 0 ?_;exact Cg (a_r2,cap_r2,b7) (zse (M0:=[(6,_)]) (N0:=[(18,_),(15,_),(6,_),(12,_),(17,_),(16,_),(14,_),(13,_)])) (permA 1 rfl (permA 0 rfl (permA 0 rfl permN)))
  ·refine M3 fun b9=>?_
   refine zg1 0 ?_;refine A8 (R':=[3,6,8]) rfl rfl rfl rfl (by decide) (Au (xs:=[]) (f:=ANd.d) (l:=[]) Tryz.runUnderlying29 Tryz.sizeOf49 Tryz.zeroValue49 rfl rfl rfl (fun _=>⟨rfl,rfl,rfl⟩) rfl (by simp [maxLen])) ?_;rintro _ _ ⟨a_r3,rfl,rfl⟩;refine zg1 3 ?_;refine A8 (R':=[6,8]) rfl rfl rfl rfl (by decide) (C0 (a:=_) 0 Tryz.underlying29 Tryz.type49 rfl rfl rfl rfl rfl rfl rfl (fun _=>rfl) (fun _=>rfl) hg1 (BX hg1 rfl)) ?_;rintro _ _ ⟨a_r3,cap_r3,rfl,rfl⟩;refine zg1 6 ?_;refine A8 (R':=[8]) rfl rfl rfl rfl (by decide) zb31a ?_;rintro _ _ ⟨rfl,rfl⟩;refine zg1 8 ?_;refine zgs 1 ?_;exact Cg (a_r3,cap_r3,b9) (zse (M0:=[(6,_)]) (N0:=[(18,_),(15,_),(12,_),(6,_),(17,_),(16,_),(14,_),(13,_)])) (permA 0 rfl (permA 0 rfl (permA 0 rfl permN)))
 ·rintro ⟨a_r1,cap_r1,b3⟩
  refine Al (L':=[(6,.v (.pointer (some ⟨b3,0,none⟩)))]++_) (ms':=[row a_r1 cap_r1 49 4 ANd.d ([]++a1.l),box b3 31 [.v (.slice a_r1 ([]++a1.l).length cap_r1),.i64 a1.root],box b1 31 [.list 4 ANd.d [],.i64 0]]) rfl rfl ?_;refine zq12 ?_;obtain ⟨o_1,hj1,hm1⟩:=bS hm;refine Ag [(4,_),(6,_),(7,_)] [(2,_)] (fun (st:((List ANd)×Int)) (hid:(Option Addr×Nat))=>match st,hid with | (l1,z1),(a_r1,cap_r1)=>[]) (fun F (st:((List ANd)×Int)) (hid:(Option Addr×Nat))=>match st,hid with | (l1,z1),(a_r1,cap_r1)=>[row a_r1 cap_r1 49 4 ANd.d l1,box b3 31 [.v (.slice a_r1 l1.length cap_r1),.i64 z1],(nthF F 0)]) (fun st=>st=o_1) ⟨rfl,rfl,rfl,trivial⟩ ⟨rfl,trivial⟩ ?_ ?_
  ·refine Am ?_
   refine Ah [(3,_),(4,_),(6,_),(7,_)] [(2,_)] (fun (st:(Int×(List ANd)×Int)) (hid:(Option Addr×Nat))=>match st,hid with | (i1,l2,z2),(a_r1,cap_r1)=>[(8,.i64 i1)]) (fun F (st:(Int×(List ANd)×Int)) (hid:(Option Addr×Nat))=>match st,hid with | (i1,l2,z2),(a_r1,cap_r1)=>[row a_r1 cap_r1 49 4 ANd.d l2,box b3 31 [.v (.slice a_r1 l2.length cap_r1),.i64 z2],(nthF F 0)]) (_,_) hj1 (fun _=>rfl) ⟨rfl,rfl,rfl,rfl,trivial⟩ ⟨rfl,trivial⟩ ⟨rfl,trivial⟩ rfl ?_;rintro n ⟨i1,l2,z2⟩ ⟨a_r1,cap_r1⟩ hj1;rw [DU] at hj1;refine Ao (L':=[(8,.i64 i1),(3,_),(4,_),(6,_),(7,_)]) (ms':=[row a_r1 cap_r1 49 4 ANd.d l2,box b3 31 [.v (.slice a_r1 l2.length cap_r1),.i64 z2],_]) rfl rfl ?_;refine zq9 ?_;refine zcn hj1 (fun hc1 hj1=>?_) (fun hc1 hj1=>?_)
   ·refine zq8 ?_
    obtain ⟨x1,hx2,hj1⟩:=bS hj1;refine Ai rfl rfl rfl (oIm Tryz.runUnderlying29 Tryz.sizeOf49 rfl rfl hx2) ?_;refine zq1 ?_;refine LB fun b11=>?_;refine zst 0 ?_;refine Ak (ms':=[box b11 49 [_,_,_,_],_,box b3 31 [_,_],box b1 31 [_,_]]) rfl ?_;refine zq8 ?_
    apply AX [(3,_),(4,_),(6,_),(7,_),(8,_),(9,_)] 4 41 (t:=37) ⟨rfl,rfl,rfl,rfl,rfl,rfl,trivial⟩ rfl
    ·intro hg_1 hk1
     refine zq4 ?_;exact zgm hk1
    ·intro hg_1 hk1
     refine zq4 ?_;exact zgm hk1
    refine zq1 ?_
    apply AX [(3,_),(4,_),(6,_),(7,_),(8,_),(9,_)] 4 46 (t:=42) ⟨rfl,rfl,rfl,rfl,rfl,rfl,trivial⟩ rfl
    ·intro hg_2 hk2
     refine zq4 ?_;exact zgm hk2
    ·intro hg_2 hk2
     refine zq4 ?_;exact zgm hk2
    refine gNl ?_;obtain ⟨o_2,hj2,hm2⟩:=bS hj1;refine Ag [(3,_),(4,_),(6,_),(7,_),(8,_),(9,_)] [(1,_),(2,_),(3,_)] (fun (st:(Int×Int×Int×(List AFd))) (hid:Unit)=>match st,hid with | (z3,z4,z5,z6),_=>[]) (fun F (st:(Int×Int×Int×(List AFd))) (hid:Unit)=>match st,hid with | (z3,z4,z5,z6),_=>[box b11 49 [.i64 z3,.i64 z4,.i64 z5,.list 2 AFd.d z6],(nthF F 0),(nthF F 1),(nthF F 2)]) (fun st=>st=o_2) ⟨rfl,rfl,rfl,rfl,rfl,rfl,trivial⟩ ⟨rfl,rfl,rfl,trivial⟩ ?_ ?_
    ·refine zcn hj2 (fun hc2 hj2=>?_) (fun hc2 hj2=>?_)
     ·refine zq4 ?_
      obtain ⟨hg3,hj2⟩:=Aa hj2;refine zq4 ?_;obtain ⟨hg4,hj2⟩:=Aa hj2;refine zq2 ?_;refine zst 0 ?_;refine Ak (ms':=[box b11 49 [_,_,_,_],_,box b3 31 [_,_],box b1 31 [_,_]]) rfl ?_;refine zq1 ?_;refine zst 0 ?_;refine Ak (ms':=[box b11 49 [_,_,_,_],_,box b3 31 [_,_],box b1 31 [_,_]]) rfl ?_;refine gNl ?_;exact ⟨_,(),Ac hj2,trivial,⟨rfl,rfl,rfl,rfl,rfl,rfl,trivial⟩,[],rfl⟩
     ·refine gSp ?_
      exact ⟨_,(),Ac hj2,trivial,⟨rfl,rfl,rfl,rfl,rfl,rfl,trivial⟩,[],rfl⟩
    ·rintro ⟨z3,z4,z5,z6⟩ _ hst
     subst hst;refine Al (L':=[(3,_),(4,_),(6,_),(7,_),(8,_),(9,_)]) (ms':=[box b11 49 [.i64 z3,.i64 z4,.i64 z5,.list 2 AFd.d z6],_,_,_]) rfl rfl ?_;refine zq2 ?_;refine AG rfl rfl rfl (Au (xs:=[]) (f:=AFd.d) (l:=[]) Tryz.runUnderlying47 Tryz.sizeOf71 Tryz.zeroValue71 rfl rfl rfl (fun _=>⟨rfl,rfl,rfl⟩) rfl (by simp [maxLen])) ?_;rintro _ _ ⟨a_r4,rfl,rfl⟩;refine zq7 ?_;obtain ⟨o_3,hj3,hm3⟩:=bS hm2;refine Ag [(3,_),(4,_),(6,_),(7,_),(8,_),(9,_)] [(1,_),(2,_),(3,_),(4,_)] (fun (st:(List AFd)) (hid:(Option Addr×Nat))=>match st,hid with | l3,(a_r4,cap_r4)=>[(10,.v (.slice a_r4 l3.length cap_r4))]) (fun F (st:(List AFd)) (hid:(Option Addr×Nat))=>match st,hid with | l3,(a_r4,cap_r4)=>[row a_r4 cap_r4 71 2 AFd.d l3,(nthF F 0),(nthF F 1),(nthF F 2),(nthF F 3)]) (fun st=>st=o_3) ⟨rfl,rfl,rfl,rfl,rfl,rfl,trivial⟩ ⟨rfl,rfl,rfl,rfl,trivial⟩ ?_ ?_
     ·refine Am ?_
      refine Ah [(3,_),(4,_),(6,_),(7,_),(8,_),(9,_)] [(1,_),(2,_),(3,_),(4,_)] (fun (st:(Int×(List AFd))) (hid:(Option Addr×Nat))=>match st,hid with | (k1,l4),(a_r4,cap_r4)=>[(10,.v (.slice a_r4 l4.length cap_r4)),(11,.i64 k1)]) (fun F (st:(Int×(List AFd))) (hid:(Option Addr×Nat))=>match st,hid with | (k1,l4),(a_r4,cap_r4)=>[row a_r4 cap_r4 71 2 AFd.d l4,(nthF F 0),(nthF F 1),(nthF F 2),(nthF F 3)]) (_,_) hj3 (fun _=>rfl) ⟨rfl,rfl,rfl,rfl,rfl,rfl,trivial⟩ ⟨rfl,rfl,rfl,rfl,trivial⟩ ⟨rfl,rfl,trivial⟩ rfl ?_;rintro n ⟨k1,l4⟩ ⟨a_r4,cap_r4⟩ hj3;rw [Dh] at hj3;refine Ao (L':=[(10,.v (.slice a_r4 l4.length cap_r4)),(11,.i64 k1),(3,_),(4,_),(6,_),(7,_),(8,_),(9,_)]) (ms':=[row a_r4 cap_r4 71 2 AFd.d l4,_,_,_,_]) rfl rfl ?_;refine zq9 ?_;refine zcn hj3 (fun hc3 hj3=>?_) (fun hc3 hj3=>?_)
      ·refine zq3 ?_
       obtain ⟨x2,hx5,hj3⟩:=bS hj3;obtain ⟨x3,hx6,hj3⟩:=bS hj3;obtain ⟨hg7,hj3⟩:=Aa hj3;refine zdr 17 ?_;refine zq4 ?_;refine AC rfl rfl rfl (oIm Tryz.runUnderlying47 Tryz.sizeOf71 rfl rfl hx5) ?_;refine zq5 ?_;refine AC rfl rfl rfl (oIm Tryz.runUnderlying47 Tryz.sizeOf71 rfl rfl hx6) ?_;refine zq4 ?_;refine AC rfl rfl rfl zb71a ?_;refine AC rfl rfl rfl (Aj (xs:=[_]) (f:=AFd.d) (l:=[(⟨x2.name,(x3.at_+(a1.l.length:Int))⟩:AFd)]) Tryz.runUnderlying47 Tryz.sizeOf71 Tryz.zeroValue71 rfl rfl rfl (fun _=>⟨rfl,rfl,rfl⟩) rfl) ?_;refine Ex ?_;obtain ⟨hg8,hj3⟩:=Aa hj3;refine zap 0 hg8 fun a_r4 cap_r4=>?_;refine Ak (ms':=[_,box b11 49 [_,_,_,_],_,box b3 31 [_,_],box b1 31 [_,_]]) rfl ?_;refine zq4 ?_;obtain ⟨hg9,hj3⟩:=Aa hj3;refine zq3 ?_;exact ⟨_,(_,_),hj3,⟨rfl,rfl,trivial⟩,⟨rfl,rfl,rfl,rfl,rfl,rfl,trivial⟩,[],rfl⟩
      ·refine Ar ?_
       exact ⟨_,(_,_),Ac hj3,⟨rfl,trivial⟩,⟨rfl,rfl,rfl,rfl,rfl,rfl,trivial⟩,[],rfl⟩
     ·rintro l3 ⟨a_r4,cap_r4⟩ hst
      subst hst;refine Al (L':=[(10,.v (.slice a_r4 l3.length cap_r4)),(3,_),(4,_),(6,_),(7,_),(8,_),(9,_)]) (ms':=[row a_r4 cap_r4 71 2 AFd.d l3,_,_,_,_]) rfl rfl ?_;refine zq4 ?_;refine zst 1 ?_;refine Ak (ms':=[_,box b11 49 [_,_,_,_],_,box b3 31 [_,_],box b1 31 [_,_]]) rfl ?_;refine zq5 ?_;refine Ap (Ch (i:=87) (q:=3) 0 rfl rfl rfl rfl rfl).refines ?_;refine Ai rfl rfl rfl (Aj (xs:=[_]) (f:=ANd.d) (l:=[(⟨z3,z4,z5,l3⟩:ANd)]) Tryz.runUnderlying29 Tryz.sizeOf49 Tryz.zeroValue49 rfl rfl rfl (fun _=>⟨rfl,rfl,rfl⟩) rfl) ?_;obtain ⟨hg10,hm3⟩:=Aa hm3;refine zap 2 hg10 fun a_r1 cap_r1=>?_;refine Ak (ms':=[_,box b11 49 [_,_,_,_],_,box b3 31 [_,_],box b1 31 [_,_]]) rfl ?_;refine zq1 ?_;refine zst 3 ?_;refine Ak (ms':=[_,box b11 49 [_,_,_,_],_,box b3 31 [_,_],box b1 31 [_,_]]) rfl ?_;refine zq3 ?_;obtain ⟨hg11,hm3⟩:=Aa hm3;refine zq3 ?_;exact ⟨_,(_,_),hm3,⟨rfl,trivial⟩,⟨rfl,rfl,rfl,rfl,trivial⟩,[_,_],rfl⟩
   ·refine Ar ?_
    exact ⟨_,(_,_),Ac hj1,trivial,⟨rfl,rfl,rfl,trivial⟩,[],rfl⟩
  ·rintro ⟨l1,z1⟩ ⟨a_r1,cap_r1⟩ hst
   subst hst;refine Al (L':=[(4,_),(6,_),(7,_)]) (ms':=[row a_r1 cap_r1 49 4 ANd.d l1,box b3 31 [.v (.slice a_r1 l1.length cap_r1),.i64 z1],_]) rfl rfl ?_;refine zq3 ?_;refine Ap (Ch (i:=91) (q:=0) 0 rfl rfl rfl rfl rfl).refines ?_;refine zq1 ?_;refine zst 2 ?_;refine Ak (ms':=[_,box b3 31 [_,_],box b1 31 [_,_]]) rfl ?_;refine zq2 ?_
   cases hm1;exact Ae zr2
def Eb (l1:(List Int)) (i1:Int) (l3:(List Int)):Nat->Int->Option Int
 | 0,_=>none
 | n+1,k2 =>
  bif (decide (k2<(l3.length:Int))) then ((idx l3 k2).bind fun x1 =>
  (idx l1 i1).bind fun x2 =>
  bif (decide (x1<x2)) then
   grd (InR (k2+1)) <|
   Eb l1 i1 l3 n (k2+1)
  else
   some k2) else (some k2)
def Dy (l1:(List Int)):Nat->(Int×(List Int))->Option (List Int)
 | 0,_=>none
 | n+1,(i1,l3) =>
  bif (decide (i1<(l1.length:Int))) then
   (Eb l1 i1 l3 FU 0:Option Int).bind fun k1 =>
   bif (decide (k1<(l3.length:Int))) then ((idx l3 k1).bind fun x3 =>
   (idx l1 i1).bind fun x4 =>
   bif (decide (x3=x4)) then
    grd (InR (i1+1)) <|
    Dy l1 n ((i1+1),l3)
   else
    (sli l3 0 k1).bind fun l4 =>
    grd ((0+l4.length)*8<=140737488355328) <|
    (idx l1 i1).bind fun x5 =>
    grd ((([]++l4).length+([x5]:List _).length)*8<=140737488355328) <|
    (sli l3 k1 (l3.length:Int)).bind fun l5 =>
    grd (((([]++l4)++[x5]).length+l5.length)*8<=140737488355328) <|
    grd (InR (i1+1)) <|
    Dy l1 n ((i1+1),((([]++l4)++[x5])++l5))) else ((sli l3 0 k1).bind fun l6 =>
   grd ((0+l6.length)*8<=140737488355328) <|
   (idx l1 i1).bind fun x6 =>
   grd ((([]++l6).length+([x6]:List _).length)*8<=140737488355328) <|
   (sli l3 k1 (l3.length:Int)).bind fun l7 =>
   grd (((([]++l6)++[x6]).length+l7.length)*8<=140737488355328) <|
   grd (InR (i1+1)) <|
   Dy l1 n ((i1+1),((([]++l6)++[x6])++l7)))
  else
   some l3
def DN (l1:(List Int)):Option (List Int):=
 (Dy l1 FU (0,[]):Option (List Int)).bind fun l2 =>
 some l2
end Go.Proofs.YtcoghblhdjmbfaaGreat
