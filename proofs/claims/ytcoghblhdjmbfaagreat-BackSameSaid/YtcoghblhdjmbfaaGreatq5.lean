/- Part 5 of the proof: a program logic, what the functions compute, and what these answer; no condition. -/
import Derived.Test.YtcoghblhdjmbfaaGreatq4
import Derived.Shelf.Sort.Plain
import Derived.Ground.Names2Prog
import Derived.Shelf.Slices.CompactI
import Derived.Shelf.Slices.In.SortNone
import Derived.Test.YtcoghblhdjmbfaaGreatProg
set_option linter.unusedVariables false
set_option linter.unusedSimpArgs false
set_option maxRecDepth 100000
set_option maxHeartbeats 2000000
namespace Go.Proofs.YtcoghblhdjmbfaaGreat
open Go.V
theorem Le {l:List Int} (hl:l.length*8<=140737488355328) :
  Go.V.Fn Tryz.prog 64 [.list 1 D.i64 l] [] (fun d ms'=>∃ a cap,d = .v (.slice a l.length cap)/\ms'=[arr a l.length cap 3 1 D.i64 l]):=by
 refine Ae Tryz.func64 rfl Tryz.ntmps64 rfl fun H0 fr w0=>?_;refine zq8 ?_;refine AJ rfl rfl rfl (GB Tryz.underlying43 rfl rfl) ?_;rintro _ _ ⟨b,rfl,rfl,hb⟩;refine gNl ?_;refine gCd rfl (fun hc1=>?_) (fun hc1=>?_)
 ·
  skip
  obtain rfl:=hb hc1;refine BY (BF (T:=3) (sz:=1) (f:=D.i64)) ?_;refine zq4 ?_;refine Af ?_;exact retK (AV rfl (A6 rfl) (EF _)) (⟨none,0,rfl,rfl⟩)
 ·
  skip
  refine zq3 ?_;refine AJ rfl rfl rfl (Ax (xs:=[]) (f:=D.i64) (l:=[]) Tryz.runUnderlying43 Tryz.sizeOf3 Tryz.zeroValue3 rfl rfl rfl (fun _=>⟨rfl,rfl,rfl⟩) rfl (by simp [maxLen])) ?_;rintro _ _ ⟨a1,rfl,rfl⟩;refine zq1 ?_;refine AJ rfl rfl rfl (Hg (a:=_) 0 Tryz.underlying43 Tryz.type3 rfl rfl rfl rfl rfl rfl rfl rfl hl (BJ hl rfl)) ?_;rintro _ _ ⟨a2,cap2,rfl,rfl⟩;refine zq2 ?_;refine Af ?_;exact retK (AV rfl (A6 rfl) (EF _)) (⟨_,_,rfl,rfl⟩)
theorem O3 {l:List AutoEdge} (hl:l.length*24<=140737488355328) :
  Go.V.Fn Tryz.prog 142 [.list 2 AutoEdge.d l] [] (fun d ms'=>∃ a cap,d = .v (.slice a l.length cap)/\ms'=[arr a l.length cap 62 2 AutoEdge.d l]):=by
 refine Ae Tryz.func142 rfl Tryz.ntmps142 rfl fun H0 fr w0=>?_;refine zq8 ?_;refine AJ rfl rfl rfl (GB Tryz.underlying57 rfl rfl) ?_;rintro _ _ ⟨b,rfl,rfl,hb⟩;refine gNl ?_;refine gCd rfl (fun hc1=>?_) (fun hc1=>?_)
 ·
  skip
  obtain rfl:=hb hc1;refine BY (BF (T:=62) (sz:=2) (f:=AutoEdge.d)) ?_;refine zq4 ?_;refine Af ?_;exact retK (AV rfl (A6 rfl) (EF _)) (⟨none,0,rfl,rfl⟩)
 ·
  skip
  refine zq3 ?_;refine AJ rfl rfl rfl (Ax (xs:=[]) (f:=AutoEdge.d) (l:=[]) Tryz.runUnderlying57 Tryz.sizeOf62 Tryz.zeroValue62 rfl rfl rfl (fun _=>⟨rfl,rfl,rfl⟩) rfl (by simp [maxLen])) ?_;rintro _ _ ⟨a1,rfl,rfl⟩;refine zq1 ?_;refine AJ rfl rfl rfl (Hg (a:=_) 0 Tryz.underlying57 Tryz.type62 rfl rfl rfl rfl rfl rfl rfl rfl hl (BJ hl rfl)) ?_;rintro _ _ ⟨a2,cap2,rfl,rfl⟩;refine zq2 ?_;refine Af ?_;exact retK (AV rfl (A6 rfl) (EF _)) (⟨_,_,rfl,rfl⟩)
theorem N9 {l:List AFd} (hl:l.length*24<=140737488355328) :
  Go.V.Fn Tryz.prog 143 [.list 2 AFd.d l] [] (fun d ms'=>∃ a cap,d = .v (.slice a l.length cap)/\ms'=[arr a l.length cap 71 2 AFd.d l]):=by
 refine Ae Tryz.func143 rfl Tryz.ntmps143 rfl fun H0 fr w0=>?_;refine zq8 ?_;refine AJ rfl rfl rfl (GB Tryz.underlying47 rfl rfl) ?_;rintro _ _ ⟨b,rfl,rfl,hb⟩;refine gNl ?_;refine gCd rfl (fun hc1=>?_) (fun hc1=>?_)
 ·
  skip
  obtain rfl:=hb hc1;refine BY (BF (T:=71) (sz:=2) (f:=AFd.d)) ?_;refine zq4 ?_;refine Af ?_;exact retK (AV rfl (A6 rfl) (EF _)) (⟨none,0,rfl,rfl⟩)
 ·
  skip
  refine zq3 ?_;refine AJ rfl rfl rfl (Ax (xs:=[]) (f:=AFd.d) (l:=[]) Tryz.runUnderlying47 Tryz.sizeOf71 Tryz.zeroValue71 rfl rfl rfl (fun _=>⟨rfl,rfl,rfl⟩) rfl (by simp [maxLen])) ?_;rintro _ _ ⟨a1,rfl,rfl⟩;refine zq1 ?_;refine AJ rfl rfl rfl (Hg (a:=_) 0 Tryz.underlying47 Tryz.type71 rfl rfl rfl rfl rfl rfl rfl rfl hl (BJ hl rfl)) ?_;rintro _ _ ⟨a2,cap2,rfl,rfl⟩;refine zq2 ?_;refine Af ?_;exact retK (AV rfl (A6 rfl) (EF _)) (⟨_,_,rfl,rfl⟩)
theorem Pw {n:Int} (h0:0<=n) (hb:n.toNat*8<=140737488355328) :
  Go.V.Fn Tryz.prog 169 [.v (.slice none 0 0),.i64 n] [] (fun d ms'=>∃ a cap,d = .v (.slice a 0 cap)/\ms'=[row a cap 3 1 D.i64 []]):=by
 refine Ae Tryz.func169 rfl Tryz.ntmps169 rfl fun H0 fr w0=>?_;refine zq10 ?_;refine gCd rfl (fun hc1=>?_) (fun hc1=>?_)
 ·
  try simp only [decide_eq_true_eq,decide_eq_false_iff_not,Bool.not_eq_true',Bool.not_eq_false',Bool.and_eq_true,Bool.or_eq_true,Bool.and_eq_false_iff,Bool.or_eq_false_iff,Int.not_lt,Int.not_le,ne_eq,Decidable.not_not] at hc1
  omega
 ·
  try simp only [decide_eq_true_eq,decide_eq_false_iff_not,Bool.not_eq_true',Bool.not_eq_false',Bool.and_eq_true,Bool.or_eq_true,Bool.and_eq_false_iff,Bool.or_eq_false_iff,Int.not_lt,Int.not_le,ne_eq,Decidable.not_not] at hc1
  refine zq6 ?_;refine Ak rfl rfl rfl (MQ Tryz.runUnderlying43 rfl) ?_;refine zq1 ?_;refine Ak rfl rfl rfl (Ml Tryz.runUnderlying43 rfl) ?_;refine Ak rfl rfl rfl (QS rfl rfl (CS (by omega))) ?_;refine Ak rfl rfl rfl (QS rfl rfl (CS (by omega))) ?_;refine zq7 ?_;refine gCd rfl (fun hc2=>?_) (fun hc2=>?_)
  ·
   try simp only [decide_eq_true_eq,decide_eq_false_iff_not,Bool.not_eq_true',Bool.not_eq_false',Bool.and_eq_true,Bool.or_eq_true,Bool.and_eq_false_iff,Bool.or_eq_false_iff,Int.not_lt,Int.not_le,ne_eq,Decidable.not_not] at hc2
   have hn2:n.toNat<=140737488355328:=Nat.le_trans (Nat.le_mul_of_pos_right _ (by decide)) hb
   refine zq3 ?_;refine Ak rfl rfl rfl (MQ Tryz.runUnderlying43 rfl) ?_;refine Ak rfl rfl rfl (Kv Tryz.runUnderlying43 Tryz.sizeOf3 rfl rfl (Nat.le_refl _) (Nat.le_refl _)) ?_;refine zq1 ?_;refine AJ rfl rfl rfl (JC (f:=D.i64) Tryz.underlying43 Tryz.underlying3 Tryz.type3 rfl rfl rfl rfl rfl rfl (by omega) (by simpa [Tryz.t3] using hb) rfl) ?_;rintro _ _ ⟨a,cap,hcap,rfl,rfl⟩;refine zq1 ?_;refine Ak rfl rfl rfl (Ml Tryz.runUnderlying43 rfl) ?_;refine Ak rfl rfl rfl (Kv Tryz.runUnderlying43 Tryz.sizeOf3 rfl rfl (Nat.zero_le _) (hcap)) ?_;refine zq7 ?_;refine Af ?_;exact retK (AV rfl (A6 rfl) (EF _)) (⟨_,_,rfl,rfl⟩)
  ·
   try simp only [decide_eq_true_eq,decide_eq_false_iff_not,Bool.not_eq_true',Bool.not_eq_false',Bool.and_eq_true,Bool.or_eq_true,Bool.and_eq_false_iff,Bool.or_eq_false_iff,Int.not_lt,Int.not_le,ne_eq,Decidable.not_not] at hc2
   refine BY (AK (T:=3) (sz:=1) (f:=D.i64)) ?_;refine zq6 ?_;refine Af ?_;exact retK (AV rfl (A6 rfl) (EF _)) (⟨none,0,rfl,rfl⟩)
section
open Go.Shelf Go.Proofs
def KV:Go.Shelf.Ren:=⟨fun | 189=>79 | 125=>112 | 257=>111 | 128=>160 | 129=>161 | 294=>151 | 295=>152 | 296=>153 | 297=>154 | 298=>155 | 299=>156 | 216=>157 | 300=>158 | 301=>159 | 328=>174 | 329=>175 | 330=>176 | 331=>177 | 332=>178 | 215=>179 | 343=>183 | n=>n,fun | 28=>43 | 3=>3 | 46=>156 | 0=>0 | 51=>186 | 53=>188 | 4=>4 | 183=>180 | 182=>179 | 131=>91 | 5=>5 | 9=>9 | 218=>194 | 222=>198 | 228=>201 | 229=>202 | n=>n,fun | n=>n⟩
theorem LR:Go.Proofs.Lays.n189 Tryz.prog KV:={
 mixed:=by kernel_rfl
 f125:=Tryz.func112.trans (congrArg some (by kernel_rfl))
 f128:=Tryz.func160.trans (congrArg some (by kernel_rfl))
 f129:=Tryz.func161.trans (congrArg some (by kernel_rfl))
 f189:=Tryz.func79.trans (congrArg some (by kernel_rfl))
 f215:=Tryz.func179.trans (congrArg some (by kernel_rfl))
 f216:=Tryz.func157.trans (congrArg some (by kernel_rfl))
 f257:=Tryz.func111.trans (congrArg some (by kernel_rfl))
 f294:=Tryz.func151.trans (congrArg some (by kernel_rfl))
 f295:=Tryz.func152.trans (congrArg some (by kernel_rfl))
 f296:=Tryz.func153.trans (congrArg some (by kernel_rfl))
 f297:=Tryz.func154.trans (congrArg some (by kernel_rfl))
 f298:=Tryz.func155.trans (congrArg some (by kernel_rfl))
 f299:=Tryz.func156.trans (congrArg some (by kernel_rfl))
 f300:=Tryz.func158.trans (congrArg some (by kernel_rfl))
 f301:=Tryz.func159.trans (congrArg some (by kernel_rfl))
 f328:=Tryz.func174.trans (congrArg some (by kernel_rfl))
 f329:=Tryz.func175.trans (congrArg some (by kernel_rfl))
 f330:=Tryz.func176.trans (congrArg some (by kernel_rfl))
 f331:=Tryz.func177.trans (congrArg some (by kernel_rfl))
 f332:=Tryz.func178.trans (congrArg some (by kernel_rfl))
 f343:=Tryz.func183.trans (congrArg some (by kernel_rfl))
 t0:=Tryz.underlying0
 a0:=Tryz.isAgg0
 z0:=Tryz.sizeOf0
 v0:=Tryz.zeroValue0
 t3:=Tryz.underlying3
 a3:=Tryz.isAgg3
 z3:=Tryz.sizeOf3
 v3:=Tryz.zeroValue3
 t4:=Tryz.underlying4
 a4:=Tryz.isAgg4
 z4:=Tryz.sizeOf4
 v4:=Tryz.zeroValue4
 t5:=Tryz.underlying5
 a5:=Tryz.isAgg5
 z5:=Tryz.sizeOf5
 v5:=Tryz.zeroValue5
 t9:=Tryz.underlying9
 a9:=Tryz.isAgg9
 z9:=Tryz.sizeOf9
 v9:=Tryz.zeroValue9
 t28:=Tryz.underlying43
 a28:=Tryz.isAgg43
 z28:=Tryz.sizeOf43
 v28:=Tryz.zeroValue43
 t46:=Tryz.underlying156
 a46:=Tryz.isAgg156
 z46:=Tryz.sizeOf156
 v46:=Tryz.zeroValue156
 t51:=Tryz.underlying186
 a51:=Tryz.isAgg186
 z51:=Tryz.sizeOf186
 v51:=Tryz.zeroValue186
 t53:=Tryz.underlying188
 a53:=Tryz.isAgg188
 z53:=Tryz.sizeOf188
 v53:=Tryz.zeroValue188
 t131:=Tryz.underlying91
 a131:=Tryz.isAgg91
 z131:=Tryz.sizeOf91
 v131:=Tryz.zeroValue91
 t182:=Tryz.underlying179
 a182:=Tryz.isAgg179
 z182:=Tryz.sizeOf179
 v182:=Tryz.zeroValue179
 t183:=Tryz.underlying180
 a183:=Tryz.isAgg180
 z183:=Tryz.sizeOf180
 v183:=Tryz.zeroValue180
 t218:=Tryz.underlying194
 a218:=Tryz.isAgg194
 z218:=Tryz.sizeOf194
 v218:=Tryz.zeroValue194
 t222:=Tryz.underlying198
 a222:=Tryz.isAgg198
 z222:=Tryz.sizeOf198
 v222:=Tryz.zeroValue198
 t228:=Tryz.underlying201
 a228:=Tryz.isAgg201
 z228:=Tryz.sizeOf201
 v228:=Tryz.zeroValue201
 t229:=Tryz.underlying202
 a229:=Tryz.isAgg202
 z229:=Tryz.sizeOf202
 v229:=Tryz.zeroValue202 }
open Go.Sort Go.RowKit in
theorem IM (blk off cap:Nat) (zs:List Int) (w:World) (hH:Holds (Value.int .i64) w blk off zs.toArray) (hblk:blk<w.heap.size) (hsz:zs.length<4611686018427387904) :
  Calls Tryz.prog 79 #[.slice (some ⟨blk,off,none⟩) zs.length cap] w fun e w' =>
   e = .returned (.tuple #[])/\∃ n os,w'=grow (putRow (Value.int .i64) (Sort.ahead w n) blk off (zs.mergeSort fun x y=>decide (x<=y)).toArray) os:=Any.slices_Sort_int LR blk off cap zs w hH hblk hsz
def JQ:Go.Shelf.Ren:=⟨fun | 20=>80 | n=>n,fun | 22=>43 | 3=>3 | 4=>4 | 0=>0 | n=>n,fun | n=>n⟩
theorem IV:Go.Proofs.Lays2.n20 Tryz.prog JQ:={
 mixed:=by kernel_rfl
 f20:=Tryz.func80.trans (congrArg some (by kernel_rfl))
 t0:=Tryz.underlying0
 a0:=Tryz.isAgg0
 z0:=Tryz.sizeOf0
 v0:=Tryz.zeroValue0
 t3:=Tryz.underlying3
 a3:=Tryz.isAgg3
 z3:=Tryz.sizeOf3
 v3:=Tryz.zeroValue3
 t4:=Tryz.underlying4
 a4:=Tryz.isAgg4
 z4:=Tryz.sizeOf4
 v4:=Tryz.zeroValue4
 t22:=Tryz.underlying43
 a22:=Tryz.isAgg43
 z22:=Tryz.sizeOf43
 v22:=Tryz.zeroValue43
 i3:=by kernel_rfl }
open Go.RowKit Go.Lib Go.Sort in
theorem HE (blk off cap:Nat) (zs:List Int) (w:World) (hH:Holds (Value.int .i64) w blk off zs.toArray) (hsz:zs.length<=9223372036854775807) (hcap:zs.length<=cap) :
  Calls Tryz.prog 80 #[.slice (some ⟨blk,off,none⟩) zs.length cap] w fun e w'=>e = .returned (.slice (some ⟨blk,off,none⟩) (Lib.compact zs).length cap)/\∃ q,w'=putRow (Value.int .i64) (Sort.ahead w q) blk off (Lib.compact zs++List.replicate (zs.length - (Lib.compact zs).length) 0).toArray:=Any.slices_Compact_int IV blk off cap zs w hH hsz hcap
open Go.RowKit Go.Lib Go.Sort in
theorem FG (a:Option Addr) (cap:Nat) (w:World) :
  Calls Tryz.prog 80 #[.slice a 0 cap] w fun e w'=>e = .returned (.slice a 0 cap)/\w'=w:=Any.slices_Compact_int_empty IV a cap w
theorem GN (p:Option Addr) (cap:Nat) (w:World) :
  Calls Tryz.prog 79 #[.slice p 0 cap] w fun e w'=>e = .returned (.tuple #[])/\w'=w:=Any.slices_Sort_int_none LR p cap w
end
section
open Go.V Go.Proofs Go.RowKit Go.Sort
end
def GW (s1:(List ANd)) (f1:(ANd->Option Bool)):Nat->Int->Option (Out Int Unit)
 | 0,_=>none
 | n+1,x1 =>
  bif (decide (x1<(s1.length:Int))) then
   (idx s1 x1).bind fun x2 =>
   (f1 x2).bind fun x3 =>
   bif x3 then
    some (Out.ret x1)
   else
    grd (InR (x1+1)) <|
    GW s1 f1 n (x1+1)
  else
   some (Out.go (()))
def Qz (s1:(List ANd)) (f1:(ANd->Option Bool)):Option Int:=
 ((GW s1 f1 FU 0:Option (Out Int Unit))).bind (fun oo=>oo.on (fun r1=>some r1) (fun _ =>
 some (-1)))
theorem V6 {s1:(List ANd)} {f1:(ANd->Option Bool)} {r_1:Int} {fv_f1:D} (hff1:ID Tryz.prog fv_f1 ANd.d D.bool f1) (hm:Qz s1 f1=some r_1):Fn0 Tryz.prog 113 [.list 4 ANd.d s1,fv_f1] (.i64 r_1):=by
 unfold Qz at hm;refine Ae Tryz.func113 rfl Tryz.ntmps113 rfl fun H0 fr w0=>?_;refine zq11 ?_;obtain ⟨o_1,hj1,hm1⟩:=bS hm;refine Al [] [] (fun (st:Unit) (hid:Unit)=>match st,hid with | _,_=>[]) (fun F (st:Unit) (hid:Unit)=>match st,hid with | _,_=>[]) (fun st=>Out.go (st)=o_1) trivial trivial ?_ ?_
 ·refine Aq ?_
  refine Am [(0,_),(1,_),(7,_)] [] (fun (st:Int) (hid:Unit)=>match st,hid with | x1,_=>[(8,.i64 x1)]) (fun F (st:Int) (hid:Unit)=>match st,hid with | x1,_=>[]) () hj1 (fun _=>rfl) ⟨rfl,rfl,rfl,trivial⟩ trivial ⟨rfl,trivial⟩ rfl ?_;rintro n x1 _ hj1;rw [GW] at hj1;refine At (L':=[(8,.i64 x1),(0,_),(1,_),(7,_)]) (ms':=[]) rfl rfl ?_;refine zq5 ?_;refine zcn hj1 (fun hc1 hj1=>?_) (fun hc1 hj1=>?_)
  ·refine zq13 ?_
   obtain ⟨x2,hx1,hj1⟩:=bS hj1;refine zq2 ?_;obtain ⟨x3,hx2,hj1⟩:=bS hj1;refine Ak rfl rfl rfl (GK rfl rfl (hff1 _ _ hx2)) ?_;refine gNl ?_;refine zcn hj1 (fun hc2 hj1=>?_) (fun hc2 hj1=>?_)
   ·refine zq5 ?_
    refine Af ?_;obtain rfl:=Ac hj1
    replace hm1:=B8 hm1
    cases hm1;exact zr1
   ·refine zq2 ?_
    obtain ⟨hg3,hj1⟩:=Aa hj1;refine zq3 ?_;exact ⟨_,(),hj1,⟨rfl,trivial⟩,⟨rfl,rfl,rfl,trivial⟩,[],rfl⟩
  ·refine Au ?_
   exact ⟨_,(),Ac hj1,trivial,trivial,[],rfl⟩
 ·rintro _ _ hst
  subst hst
  replace hm1:=DH hm1
  refine An (L':=[]) (ms':=[]) rfl rfl ?_;refine zq4 ?_
  cases hm1;exact Af zr1
def NQ (s1:(List ANd)) (f1:(ANd->Option Bool)):Option Bool:=
 (Qz s1 f1).bind fun x1 =>
 some (decide (0<=x1))
theorem Wj {s1:(List ANd)} {f1:(ANd->Option Bool)} {r_1:Bool} {fv_f1:D} (hff1:ID Tryz.prog fv_f1 ANd.d D.bool f1) (hm:NQ s1 f1=some r_1):Fn0 Tryz.prog 81 [.list 4 ANd.d s1,fv_f1] (.bool r_1):=by
 unfold NQ at hm;refine Ae Tryz.func81 rfl Tryz.ntmps81 rfl fun H0 fr w0=>?_;refine zq8 ?_;obtain ⟨x1,hx1,hm⟩:=bS hm;refine zc0 (V6 hff1 hx1) ?_;refine zq3 ?_
 cases hm;exact Af zr1
def C0 (kind1:Int):Option Bool:=
 some (((decide (kind1=6))||(decide (kind1=9)))||(decide (kind1=10)))
theorem HC {kind1:Int} {r_1:Bool} (hm:C0 kind1=some r_1):Fn0 Tryz.prog 114 [.i64 kind1] (.bool r_1):=by
 unfold C0 at hm;refine Ae Tryz.func114 rfl Tryz.ntmps114 rfl fun H0 fr w0=>?_;refine zq9 ?_
 apply Cv [(0,_)] 3 8 (t:=5) ⟨rfl,trivial⟩ rfl
 ·intro hg_1 hk1
  refine zq3 ?_;exact zgm hk1
 ·intro hg_1 hk1
  refine zq3 ?_;exact zgm hk1
 refine zq1 ?_
 apply Cv [] 3 12 (t:=9) trivial rfl
 ·intro hg_2 hk2
  refine zq3 ?_;exact zgm hk2
 ·intro hg_2 hk2
  refine zq3 ?_;exact zgm hk2
 refine zq2 ?_
 cases hm;exact Af zr1
def Ea (kind1:Int):Option Bool:=
 some ((decide (kind1=7))||(decide (kind1=8)))
theorem IU {kind1:Int} {r_1:Bool} (hm:Ea kind1=some r_1):Fn0 Tryz.prog 115 [.i64 kind1] (.bool r_1):=by
 unfold Ea at hm;refine Ae Tryz.func115 rfl Tryz.ntmps115 rfl fun H0 fr w0=>?_;refine zq9 ?_
 apply Cv [] 3 8 (t:=5) trivial rfl
 ·intro hg_1 hk1
  refine zq3 ?_;exact zgm hk1
 ·intro hg_1 hk1
  refine zq3 ?_;exact zgm hk1
 refine zq2 ?_
 cases hm;exact Af zr1
def C2 (c1:UInt8):Option Bool:=
 some (((decide (97<=(c1.toNat:Int)))&&(decide ((c1.toNat:Int)<=122)))||(decide ((c1.toNat:Int)=95)))
theorem Ho {c1:UInt8} {r_1:Bool} (hm:C2 c1=some r_1):Fn0 Tryz.prog 166 [.u8 c1] (.bool r_1):=by
 unfold C2 at hm;refine Ae Tryz.func166 rfl Tryz.ntmps166 rfl fun H0 fr w0=>?_;refine zq9 ?_
 apply Cz [(0,_)] 3 8 (t:=5) ⟨rfl,trivial⟩ rfl
 ·intro hg_1 hk1
  refine zq3 ?_;exact zgm hk1
 ·intro hg_1 hk1
  refine zq3 ?_;exact zgm hk1
 refine zq1 ?_
 apply Cv [] 3 12 (t:=9) trivial rfl
 ·intro hg_2 hk2
  refine zq3 ?_;exact zgm hk2
 ·intro hg_2 hk2
  refine zq3 ?_;exact zgm hk2
 refine zq2 ?_
 cases hm;exact Af zr1
def DC (c1:UInt8):Option Bool:=
 some ((decide (65<=(c1.toNat:Int)))&&(decide ((c1.toNat:Int)<=90)))
theorem Hf {c1:UInt8} {r_1:Bool} (hm:DC c1=some r_1):Fn0 Tryz.prog 168 [.u8 c1] (.bool r_1):=by
 unfold DC at hm;refine Ae Tryz.func168 rfl Tryz.ntmps168 rfl fun H0 fr w0=>?_;refine zq9 ?_
 apply Cz [] 3 8 (t:=5) trivial rfl
 ·intro hg_1 hk1
  refine zq3 ?_;exact zgm hk1
 ·intro hg_1 hk1
  refine zq3 ?_;exact zgm hk1
 refine zq2 ?_
 cases hm;exact Af zr1
def Gj (c1:UInt8):Option Bool:=
 (C2 c1).bind fun x1 =>
 (bif x1 then (some true) else ((DC c1).bind fun x2 =>
 some x2)).bind fun p1 =>
 some (p1||((decide (48<=(c1.toNat:Int)))&&(decide ((c1.toNat:Int)<=57))))
theorem OL {c1:UInt8} {r_1:Bool} (hm:Gj c1=some r_1):Fn0 Tryz.prog 184 [.u8 c1] (.bool r_1):=by
 unfold Gj at hm;refine Ae Tryz.func184 rfl Tryz.ntmps184 rfl fun H0 fr w0=>?_;refine zq7 ?_;obtain ⟨x1,hx1,hm⟩:=bS hm;refine zc0 (Ho hx1) ?_;refine zq1 ?_;obtain ⟨p1,hp_1,hm⟩:=bS hm;refine Bs [(0,_)] 3 8 p1 (t:=5) ⟨rfl,trivial⟩ rfl (fun hg_1 hk1=>?_) (fun hg_1 hk1=>?_) ?_
 ·replace hp_1:=Bg hg_1 hp_1
  refine zq3 ?_;exact zgb hk1 hp_1
 ·replace hp_1:=Be hg_1 hp_1
  refine zq1 ?_;obtain ⟨x2,hx2,hp_1⟩:=bS hp_1;refine zcw (Hf hx2) ?_;refine zq1 ?_;exact zgb hk1 hp_1
 refine zq1 ?_
 apply Cv [] 7 16 (t:=9) trivial rfl
 ·intro hg_2 hk2
  refine zq3 ?_
  apply Cz [(9,_)] 3 15 (t:=12) ⟨rfl,trivial⟩ rfl
  ·intro hg_3 hk3
   refine zq3 ?_;exact zgm hk3
  ·intro hg_3 hk3
   refine zq3 ?_;exact zgm hk3
  refine zq1 ?_;exact zgm hk2
 ·intro hg_2 hk2
  refine zq7 ?_;exact zgm hk2
 refine zq2 ?_
 cases hm;exact Af zr1
def Do (s1:(List UInt8)):Nat->Int->Option Int
 | 0,_=>none
 | n+1,n2 =>
  (bif (decide (n2<(s1.length:Int))) then ((idx s1 n2).bind fun c3 =>
  (Gj c3).bind fun x3 =>
  some x3) else (some false)).bind fun p3 =>
  bif p3 then
   grd (InR (n2+1)) <|
   Do s1 n (n2+1)
  else
   some n2
def Fs (s1:(List UInt8)):Option Int:=
 (bif (decide ((s1:List UInt8)=([]:List UInt8))) then (some true) else ((idx s1 0).bind fun c1 =>
 (C2 c1).bind fun x1 =>
 (bif (!x1) then ((idx s1 0).bind fun c2 =>
 (DC c2).bind fun x2 =>
 some (!x2)) else (some false)).bind fun p2 =>
 some p2)).bind fun p1 =>
 bif p1 then
  some 0
 else
  (Do s1 FU 1:Option Int).bind fun n1 =>
  some n1
theorem NU {s1:(List UInt8)} {r_1:Int} (hm:Fs s1=some r_1):Fn0 Tryz.prog 180 [.str s1] (.i64 r_1):=by
 unfold Fs at hm;refine Ae Tryz.func180 rfl Tryz.ntmps180 rfl fun H0 fr w0=>?_;refine zq10 ?_;obtain ⟨p1,hp_1,hm⟩:=bS hm;refine Bs [(0,_)] 11 17 p1 (t:=6) ⟨rfl,trivial⟩ rfl (fun hg_1 hk1=>?_) (fun hg_1 hk1=>?_) ?_
 ·replace hp_1:=Bg hg_1 hp_1
  refine zq11 ?_;exact zgb hk1 hp_1
 ·replace hp_1:=Be hg_1 hp_1
  refine zq1 ?_;obtain ⟨c1,hx1,hp_1⟩:=bS hp_1;refine gWp rfl rfl rfl hg_1 rfl rfl (GY Tryz.runUnderlying9 rfl rfl hx1) ?_;obtain ⟨x1,hx2,hp_1⟩:=bS hp_1;refine zcw (Ho hx2) ?_;refine zq2 ?_;obtain ⟨p2,hp_2,hp_1⟩:=bS hp_1;refine Bs [(0,_),(6,_)] 5 16 p2 (t:=11) ⟨rfl,rfl,trivial⟩ rfl (fun hg_2 hk2=>?_) (fun hg_2 hk2=>?_) ?_
  ·replace hp_2:=Bg hg_2 hp_2
   refine zq1 ?_;obtain ⟨c2,hx3,hp_2⟩:=bS hp_2;refine gWp rfl rfl rfl hg_2 rfl rfl (GY Tryz.runUnderlying9 rfl rfl hx3) ?_;obtain ⟨x2,hx4,hp_2⟩:=bS hp_2;refine zcw (Hf hx4) ?_;refine zq2 ?_;exact zgb hk2 hp_2
  ·replace hp_2:=Be hg_2 hp_2
   refine zq5 ?_;exact zgb hk2 hp_2
  refine zq1 ?_;exact zgb hk1 hp_1
 refine gNl ?_;refine zcn hm (fun hc1 hm=>?_) (fun hc1 hm=>?_)
 ·refine zq4 ?_
  cases hm;exact Af zr1
 ·refine zq6 ?_
  obtain ⟨o_1,hj1,hm1⟩:=bS hm;refine Al [] [] (fun (st:Int) (hid:Unit)=>match st,hid with | n1,_=>[(3,.i64 n1)]) (fun F (st:Int) (hid:Unit)=>match st,hid with | n1,_=>[]) (fun st=>st=o_1) trivial trivial ?_ ?_
  ·refine Aq ?_
   refine Am [(0,_)] [] (fun (st:Int) (hid:Unit)=>match st,hid with | n2,_=>[(3,.i64 n2)]) (fun F (st:Int) (hid:Unit)=>match st,hid with | n2,_=>[]) () hj1 (fun _=>rfl) ⟨rfl,trivial⟩ trivial ⟨rfl,trivial⟩ rfl ?_;rintro n n2 _ hj1;rw [Do] at hj1;refine At (L':=[(3,.i64 n2),(0,_)]) (ms':=[]) rfl rfl ?_;refine zq5 ?_;refine Ak rfl rfl rfl (JJ Tryz.runUnderlying9 rfl) ?_;refine zq2 ?_;obtain ⟨p3,hp_3,hj1⟩:=bS hj1;refine Bs [(0,_),(3,_)] 5 27 p3 (t:=22) ⟨rfl,rfl,trivial⟩ rfl (fun hg_3 hk3=>?_) (fun hg_3 hk3=>?_) ?_
   ·replace hp_3:=Bg hg_3 hp_3
    refine zq2 ?_;obtain ⟨c3,hx5,hp_3⟩:=bS hp_3;refine gWp rfl rfl rfl hg_3 rfl rfl (GY Tryz.runUnderlying9 rfl rfl hx5) ?_;obtain ⟨x3,hx6,hp_3⟩:=bS hp_3;refine zcw (OL hx6) ?_;refine zq1 ?_;exact zgb hk3 hp_3
   ·replace hp_3:=Be hg_3 hp_3
    refine zq5 ?_;exact zgb hk3 hp_3
   refine gNl ?_;refine zcn hj1 (fun hc2 hj1=>?_) (fun hc2 hj1=>?_)
   ·refine zq4 ?_
    obtain ⟨hg7,hj1⟩:=Aa hj1;refine zq3 ?_;exact ⟨_,(),hj1,⟨rfl,trivial⟩,⟨rfl,trivial⟩,[],rfl⟩
   ·refine Au ?_
    exact ⟨_,(),Ac hj1,⟨rfl,trivial⟩,trivial,[],rfl⟩
  ·rintro n1 _ hst
   subst hst;refine An (L':=[(3,.i64 n1)]) (ms':=[]) rfl rfl ?_;refine zq5 ?_
   cases hm1;exact Af zr1
def D6 (s1:(List UInt8)):Option Bool:=
 (bif ((!decide ((s1:List UInt8)=([]:List UInt8)))&&(decide ((s1.length:Int)<=20))) then ((Fs s1).bind fun x1 =>
 some (decide (x1=(s1.length:Int)))) else (some false)).bind fun p1 =>
 some p1
theorem Jt {s1:(List UInt8)} {r_1:Bool} (hm:D6 s1=some r_1):Fn0 Tryz.prog 165 [.str s1] (.bool r_1):=by
 unfold D6 at hm;refine Ae Tryz.func165 rfl Tryz.ntmps165 rfl fun H0 fr w0=>?_;refine zq9 ?_
 apply Cz [(0,_)] 4 9 (t:=5) ⟨rfl,trivial⟩ rfl
 ·intro hg_1 hk1
  refine zq1 ?_;refine gWp rfl rfl rfl hg_1 rfl rfl (JJ Tryz.runUnderlying9 rfl) ?_;refine zq2 ?_;exact zgm hk1
 ·intro hg_1 hk1
  refine zq4 ?_;exact zgm hk1
 refine zq1 ?_;obtain ⟨p1,hp_2,hm⟩:=bS hm;refine Bs [] 6 16 p1 (t:=10) trivial rfl (fun hg_2 hk2=>?_) (fun hg_2 hk2=>?_) ?_
 ·replace hp_2:=Bg hg_2 hp_2
  refine zq1 ?_;obtain ⟨x1,hx1,hp_2⟩:=bS hp_2;refine zcw (NU hx1) ?_;refine zq1 ?_;refine gWp rfl rfl rfl hg_2 rfl rfl (JJ Tryz.runUnderlying9 rfl) ?_;refine zq2 ?_;exact zgb hk2 hp_2
 ·replace hp_2:=Be hg_2 hp_2
  refine zq6 ?_;exact zgb hk2 hp_2
 refine zq2 ?_
 cases hm;exact Af zr1
def GG (s1:(List (List UInt8))) (v1:(List UInt8)):Nat->Int->Option (Out Int Unit)
 | 0,_=>none
 | n+1,x1 =>
  bif (decide (x1<(s1.length:Int))) then
   (idx s1 x1).bind fun x2 =>
   bif (decide ((v1:List UInt8)=x2)) then
    some (Out.ret x1)
   else
    grd (InR (x1+1)) <|
    GG s1 v1 n (x1+1)
  else
   some (Out.go (()))
def Qp (s1:(List (List UInt8))) (v1:(List UInt8)):Option Int:=
 ((GG s1 v1 FU 0:Option (Out Int Unit))).bind (fun oo=>oo.on (fun r1=>some r1) (fun _ =>
 some (-1)))
theorem Wu {s1:(List (List UInt8))} {v1:(List UInt8)} {r_1:Int} (hm:Qp s1 v1=some r_1):Fn0 Tryz.prog 185 [.list 1 D.str s1,.str v1] (.i64 r_1):=by
 unfold Qp at hm;refine Ae Tryz.func185 rfl Tryz.ntmps185 rfl fun H0 fr w0=>?_;refine zq11 ?_;obtain ⟨o_1,hj1,hm1⟩:=bS hm;refine Al [] [] (fun (st:Unit) (hid:Unit)=>match st,hid with | _,_=>[]) (fun F (st:Unit) (hid:Unit)=>match st,hid with | _,_=>[]) (fun st=>Out.go (st)=o_1) trivial trivial ?_ ?_
 ·refine Aq ?_
  refine Am [(0,_),(1,_),(7,_)] [] (fun (st:Int) (hid:Unit)=>match st,hid with | x1,_=>[(8,.i64 x1)]) (fun F (st:Int) (hid:Unit)=>match st,hid with | x1,_=>[]) () hj1 (fun _=>rfl) ⟨rfl,rfl,rfl,trivial⟩ trivial ⟨rfl,trivial⟩ rfl ?_;rintro n x1 _ hj1;rw [GG] at hj1;refine At (L':=[(8,.i64 x1),(0,_),(1,_),(7,_)]) (ms':=[]) rfl rfl ?_;refine zq5 ?_;refine zcn hj1 (fun hc1 hj1=>?_) (fun hc1 hj1=>?_)
  ·refine zq13 ?_
   obtain ⟨x2,hx1,hj1⟩:=bS hj1;refine zq4 ?_;refine zcn hj1 (fun hc2 hj1=>?_) (fun hc2 hj1=>?_)
   ·refine zq5 ?_
    refine Af ?_;obtain rfl:=Ac hj1
    replace hm1:=B8 hm1
    cases hm1;exact zr1
   ·refine zq2 ?_
    obtain ⟨hg2,hj1⟩:=Aa hj1;refine zq3 ?_;exact ⟨_,(),hj1,⟨rfl,trivial⟩,⟨rfl,rfl,rfl,trivial⟩,[],rfl⟩
  ·refine Au ?_
   exact ⟨_,(),Ac hj1,trivial,trivial,[],rfl⟩
 ·rintro _ _ hst
  subst hst
  replace hm1:=DH hm1
  refine An (L':=[]) (ms':=[]) rfl rfl ?_;refine zq4 ?_
  cases hm1;exact Af zr1
def OB (s1:(List (List UInt8))) (v1:(List UInt8)):Option Bool:=
 (Qp s1 v1).bind fun x1 =>
 some (decide (0<=x1))
theorem Wt {s1:(List (List UInt8))} {v1:(List UInt8)} {r_1:Bool} (hm:OB s1 v1=some r_1):Fn0 Tryz.prog 181 [.list 1 D.str s1,.str v1] (.bool r_1):=by
 unfold OB at hm;refine Ae Tryz.func181 rfl Tryz.ntmps181 rfl fun H0 fr w0=>?_;refine zq8 ?_;obtain ⟨x1,hx1,hm⟩:=bS hm;refine zc0 (Wu hx1) ?_;refine zq3 ?_
 cases hm;exact Af zr1
def DJ  : Option (List (List UInt8)):=
 some [([102,117,110]:List UInt8),([108,101,116]:List UInt8),([114,101,99]:List UInt8),([105,110]:List UInt8),([105,102]:List UInt8),([116,104,101,110]:List UInt8),([101,108,115,101]:List UInt8),([99,97,115,101]:List UInt8),([111,102]:List UInt8),([101,110,100]:List UInt8),([116,114,117,101]:List UInt8),([102,97,108,115,101]:List UInt8),([99,104,101,99,107]:List UInt8),([97,115,107]:List UInt8),([116,111,112]:List UInt8),([98,111,116]:List UInt8),([105,110,116]:List UInt8),([98,111,111,108]:List UInt8),([115,116,114,105,110,103]:List UInt8),([109,117]:List UInt8)]
theorem Ky  {r_1:(List (List UInt8))} (hm:DJ=some r_1):Fn0 Tryz.prog 182 [] (.list 1 D.str r_1):=by
 unfold DJ at hm;refine Ae Tryz.func182 rfl Tryz.ntmps182 rfl fun H0 fr w0=>?_;refine zq3 ?_;refine Ap (nilE (i:=0) (sz:=1) (f:=D.str) rfl).refines ?_;refine zq3 ?_;refine Ak rfl rfl rfl (Ai (xs:=[_,_,_,_,_,_,_,_,_,_,_,_,_,_,_,_,_,_,_,_]) (f:=D.str) (l:=[_,_,_,_,_,_,_,_,_,_,_,_,_,_,_,_,_,_,_,_]) Tryz.runUnderlying174 Tryz.sizeOf9 Tryz.zeroValue9 rfl rfl rfl (fun _=>⟨rfl,rfl,rfl⟩) rfl) ?_;refine zq2 ?_
 cases hm;exact Af zr1
def EW (s1:(List UInt8)):Option Bool:=
 (DJ).bind fun x1 =>
 (OB x1 s1).bind fun x2 =>
 some x2
theorem Ll {s1:(List UInt8)} {r_1:Bool} (hm:EW s1=some r_1):Fn0 Tryz.prog 167 [.str s1] (.bool r_1):=by
 unfold EW at hm;refine Ae Tryz.func167 rfl Tryz.ntmps167 rfl fun H0 fr w0=>?_;refine zq6 ?_;obtain ⟨x1,hx1,hm⟩:=bS hm;refine zc0 (Ky hx1) ?_;refine zq1 ?_;obtain ⟨x2,hx2,hm⟩:=bS hm;refine zc0 (Wt hx2) ?_;refine zq2 ?_
 cases hm;exact Af zr1
def DY (s1:(List UInt8)):Option Bool:=
 (D6 s1).bind fun x1 =>
 (bif x1 then ((idx s1 0).bind fun c1 =>
 (C2 c1).bind fun x2 =>
 some x2) else (some false)).bind fun p1 =>
 (bif p1 then ((EW s1).bind fun x3 =>
 some (!x3)) else (some false)).bind fun p2 =>
 some p2
theorem Kk {s1:(List UInt8)} {r_1:Bool} (hm:DY s1=some r_1):Fn0 Tryz.prog 135 [.str s1] (.bool r_1):=by
 unfold DY at hm;refine Ae Tryz.func135 rfl Tryz.ntmps135 rfl fun H0 fr w0=>?_;refine zq7 ?_;obtain ⟨x1,hx1,hm⟩:=bS hm;refine zc0 (Jt hx1) ?_;refine zq1 ?_;obtain ⟨p1,hp_1,hm⟩:=bS hm;refine Bs [(0,_)] 4 9 p1 (t:=5) ⟨rfl,trivial⟩ rfl (fun hg_1 hk1=>?_) (fun hg_1 hk1=>?_) ?_
 ·replace hp_1:=Bg hg_1 hp_1
  refine zq1 ?_;obtain ⟨c1,hx2,hp_1⟩:=bS hp_1;refine gWp rfl rfl rfl hg_1 rfl rfl (GY Tryz.runUnderlying9 rfl rfl hx2) ?_;obtain ⟨x2,hx3,hp_1⟩:=bS hp_1;refine zcw (Ho hx3) ?_;refine zq1 ?_;exact zgb hk1 hp_1
 ·replace hp_1:=Be hg_1 hp_1
  refine zq4 ?_;exact zgb hk1 hp_1
 refine zq1 ?_;obtain ⟨p2,hp_2,hm⟩:=bS hm;refine Bs [] 4 14 p2 (t:=10) trivial rfl (fun hg_2 hk2=>?_) (fun hg_2 hk2=>?_) ?_
 ·replace hp_2:=Bg hg_2 hp_2
  refine zq1 ?_;obtain ⟨x3,hx4,hp_2⟩:=bS hp_2;refine zcw (Ll hx4) ?_;refine zq2 ?_;exact zgb hk2 hp_2
 ·replace hp_2:=Be hg_2 hp_2
  refine zq4 ?_;exact zgb hk2 hp_2
 refine zq2 ?_
 cases hm;exact Af zr1
def EA (s1:(List UInt8)):Option Bool:=
 (D6 s1).bind fun x1 =>
 (bif x1 then ((idx s1 0).bind fun c1 =>
 (DC c1).bind fun x2 =>
 some x2) else (some false)).bind fun p1 =>
 some p1
theorem LV {s1:(List UInt8)} {r_1:Bool} (hm:EA s1=some r_1):Fn0 Tryz.prog 136 [.str s1] (.bool r_1):=by
 unfold EA at hm;refine Ae Tryz.func136 rfl Tryz.ntmps136 rfl fun H0 fr w0=>?_;refine zq7 ?_;obtain ⟨x1,hx1,hm⟩:=bS hm;refine zc0 (Jt hx1) ?_;refine zq1 ?_;obtain ⟨p1,hp_1,hm⟩:=bS hm;refine Bs [] 4 9 p1 (t:=5) trivial rfl (fun hg_1 hk1=>?_) (fun hg_1 hk1=>?_) ?_
 ·replace hp_1:=Bg hg_1 hp_1
  refine zq1 ?_;obtain ⟨c1,hx2,hp_1⟩:=bS hp_1;refine gWp rfl rfl rfl hg_1 rfl rfl (GY Tryz.runUnderlying9 rfl rfl hx2) ?_;obtain ⟨x2,hx3,hp_1⟩:=bS hp_1;refine zcw (Hf hx3) ?_;refine zq1 ?_;exact zgb hk1 hp_1
 ·replace hp_1:=Be hg_1 hp_1
  refine zq4 ?_;exact zgb hk1 hp_1
 refine zq2 ?_
 cases hm;exact Af zr1
def Cj (n1:ANd):Nat->Int->Option (Out Bool Unit)
 | 0,_=>none
 | n+1,x1 =>
  bif (decide (x1<(n1.l.length:Int))) then
   (idx n1.l x1).bind fun x2 =>
   (bif (decide (n1.kind=7)) then ((DY x2.name).bind fun x3 =>
   some (!x3)) else (some false)).bind fun p1 =>
   (bif p1 then (some true) else ((bif (decide (n1.kind=8)) then ((EA x2.name).bind fun x4 =>
   some (!x4)) else (some false)).bind fun p3 =>
   some p3)).bind fun p2 =>
   bif p2 then
    some (Out.ret false)
   else
    bif (decide (0<x1)) then (grd (InR (x1 - 1)) <|
    (idx n1.l (x1 - 1)).bind fun x5 =>
    bif (!Op.bytesLess x5.name x2.name) then
     some (Out.ret false)
    else
     grd (InR (x1+1)) <|
     Cj n1 n (x1+1)) else (grd (InR (x1+1)) <|
    Cj n1 n (x1+1))
  else
   some (Out.go (()))
def Ep (n1:ANd):Option Bool:=
 ((Cj n1 FU 0:Option (Out Bool Unit))).bind (fun oo=>oo.on (fun r1=>some r1) (fun _ =>
 some (decide ((n1.l.length:Int)<=30))))
theorem Ma {n1:ANd} {r_1:Bool} (hm:Ep n1=some r_1):Fn0 Tryz.prog 116 [ANd.d n1] (.bool r_1):=by
 unfold Ep at hm;refine Ae Tryz.func116 rfl Tryz.ntmps116 rfl fun H0 fr w0=>?_;refine zq13 ?_;obtain ⟨o_1,hj1,hm1⟩:=bS hm;refine Al [(1,_)] [] (fun (st:Unit) (hid:Unit)=>match st,hid with | _,_=>[]) (fun F (st:Unit) (hid:Unit)=>match st,hid with | _,_=>[]) (fun st=>Out.go (st)=o_1) ⟨rfl,trivial⟩ trivial ?_ ?_
 ·refine Aq ?_
  refine Am [(1,_),(6,_),(7,_)] [] (fun (st:Int) (hid:Unit)=>match st,hid with | x1,_=>[(8,.i64 x1)]) (fun F (st:Int) (hid:Unit)=>match st,hid with | x1,_=>[]) () hj1 (fun _=>rfl) ⟨rfl,rfl,rfl,trivial⟩ trivial ⟨rfl,trivial⟩ rfl ?_;rintro n x1 _ hj1;rw [Cj] at hj1;refine At (L':=[(8,.i64 x1),(1,_),(6,_),(7,_)]) (ms':=[]) rfl rfl ?_;refine zq5 ?_;refine zcn hj1 (fun hc1 hj1=>?_) (fun hc1 hj1=>?_)
  ·refine zq6 ?_
   obtain ⟨x2,hx1,hj1⟩:=bS hj1;refine zq2 ?_;refine Tz fun b1=>?_;refine zq1 ?_;refine zst 0 ?_;refine Aj (ms':=[box b1 71 [_,_]]) rfl ?_;refine zq8 ?_;obtain ⟨p1,hp_1,hj1⟩:=bS hj1;refine Bs [(1,_),(3,_),(4,_),(6,_),(7,_),(8,_)] 5 21 p1 (t:=16) ⟨rfl,rfl,rfl,rfl,rfl,rfl,trivial⟩ rfl (fun hg_1 hk1=>?_) (fun hg_1 hk1=>?_) ?_
   ·replace hp_1:=Bg hg_1 hp_1
    refine zq2 ?_;obtain ⟨x3,hx2,hp_1⟩:=bS hp_1;refine zcw (Kk hx2) ?_;refine zq2 ?_;exact zgb hk1 hp_1
   ·replace hp_1:=Be hg_1 hp_1
    refine zq5 ?_;exact zgb hk1 hp_1
   refine zq1 ?_;obtain ⟨p2,hp_2,hj1⟩:=bS hj1;refine Bs [(1,_),(3,_),(4,_),(6,_),(7,_),(8,_)] 10 32 p2 (t:=22) ⟨rfl,rfl,rfl,rfl,rfl,rfl,trivial⟩ rfl (fun hg_2 hk2=>?_) (fun hg_2 hk2=>?_) ?_
   ·replace hp_2:=Bg hg_2 hp_2
    refine zq10 ?_;exact zgb hk2 hp_2
   ·replace hp_2:=Be hg_2 hp_2
    refine zq4 ?_;obtain ⟨p3,hp_3,hp_2⟩:=bS hp_2;refine Bs [(1,_),(3,_),(4,_),(6,_),(7,_),(8,_),(22,_)] 5 31 p3 (t:=26) ⟨rfl,rfl,rfl,rfl,rfl,rfl,rfl,trivial⟩ rfl (fun hg_3 hk3=>?_) (fun hg_3 hk3=>?_) ?_
    ·replace hp_3:=Bg hg_3 hp_3
     refine zq2 ?_;obtain ⟨x4,hx3,hp_3⟩:=bS hp_3;refine zcw (LV hx3) ?_;refine zq2 ?_;exact zgb hk3 hp_3
    ·replace hp_3:=Be hg_3 hp_3
     refine zq5 ?_;exact zgb hk3 hp_3
    refine zq1 ?_;exact zgb hk2 hp_2
   refine gNl ?_;refine zcn hj1 (fun hc2 hj1=>?_) (fun hc2 hj1=>?_)
   ·refine zq4 ?_
    refine Af ?_;obtain rfl:=Ac hj1
    replace hm1:=B8 hm1
    cases hm1;exact zr1
   ·refine zq2 ?_
    rcases Ex hj1 with ⟨hg_4,hj1⟩ | ⟨hg_4,hj1⟩
    ·
     skip
     obtain ⟨hg4,hj1⟩:=Aa hj1;obtain ⟨x5,hx5,hj1⟩:=bS hj1;refine zdr 14 ?_;refine zq16 ?_;refine zcn hj1 (fun hc3 hj1=>?_) (fun hc3 hj1=>?_)
     ·refine zq4 ?_
      refine Af ?_;obtain rfl:=Ac hj1
      replace hm1:=B8 hm1
      cases hm1;exact zr1
     ·refine zq2 ?_
      obtain ⟨hg6,hj1⟩:=Aa hj1;refine zq3 ?_;exact ⟨_,(),hj1,⟨rfl,trivial⟩,⟨rfl,rfl,rfl,trivial⟩,[_],rfl⟩
    ·
     skip
     refine zdr 14 ?_;refine zq16 ?_;refine Bo rfl rfl ?_;refine zq2 ?_;obtain ⟨hg7,hj1⟩:=Aa hj1;refine zq3 ?_;exact ⟨_,(),hj1,⟨rfl,trivial⟩,⟨rfl,rfl,rfl,trivial⟩,[_],rfl⟩
  ·refine Au ?_
   exact ⟨_,(),Ac hj1,trivial,⟨rfl,trivial⟩,[],rfl⟩
 ·rintro _ _ hst
  subst hst
  replace hm1:=DH hm1
  refine An (L':=[(1,_)]) (ms':=[]) rfl rfl ?_;refine zq8 ?_
  cases hm1;exact Af zr1
def EN (s1:(List Int)) (f1:(Int->Option Bool)):Nat->Int->Option (Out Int Unit)
 | 0,_=>none
 | n+1,x1 =>
  bif (decide (x1<(s1.length:Int))) then
   (idx s1 x1).bind fun x2 =>
   (f1 x2).bind fun x3 =>
   bif x3 then
    some (Out.ret x1)
   else
    grd (InR (x1+1)) <|
    EN s1 f1 n (x1+1)
  else
   some (Out.go (()))
def Pk (s1:(List Int)) (f1:(Int->Option Bool)):Option Int:=
 ((EN s1 f1 FU 0:Option (Out Int Unit))).bind (fun oo=>oo.on (fun r1=>some r1) (fun _ =>
 some (-1)))
theorem Wy {s1:(List Int)} {f1:(Int->Option Bool)} {r_1:Int} {fv_f1:D} (hff1:ID Tryz.prog fv_f1 D.i64 D.bool f1) (hm:Pk s1 f1=some r_1):Fn0 Tryz.prog 92 [.list 1 D.i64 s1,fv_f1] (.i64 r_1):=by
 unfold Pk at hm;refine Ae Tryz.func92 rfl Tryz.ntmps92 rfl fun H0 fr w0=>?_;refine zq11 ?_;obtain ⟨o_1,hj1,hm1⟩:=bS hm;refine Al [] [] (fun (st:Unit) (hid:Unit)=>match st,hid with | _,_=>[]) (fun F (st:Unit) (hid:Unit)=>match st,hid with | _,_=>[]) (fun st=>Out.go (st)=o_1) trivial trivial ?_ ?_
 ·refine Aq ?_
  refine Am [(0,_),(1,_),(7,_)] [] (fun (st:Int) (hid:Unit)=>match st,hid with | x1,_=>[(8,.i64 x1)]) (fun F (st:Int) (hid:Unit)=>match st,hid with | x1,_=>[]) () hj1 (fun _=>rfl) ⟨rfl,rfl,rfl,trivial⟩ trivial ⟨rfl,trivial⟩ rfl ?_;rintro n x1 _ hj1;rw [EN] at hj1;refine At (L':=[(8,.i64 x1),(0,_),(1,_),(7,_)]) (ms':=[]) rfl rfl ?_;refine zq5 ?_;refine zcn hj1 (fun hc1 hj1=>?_) (fun hc1 hj1=>?_)
  ·refine zq13 ?_
   obtain ⟨x2,hx1,hj1⟩:=bS hj1;refine zq2 ?_;obtain ⟨x3,hx2,hj1⟩:=bS hj1;refine Ak rfl rfl rfl (GK rfl rfl (hff1 _ _ hx2)) ?_;refine gNl ?_;refine zcn hj1 (fun hc2 hj1=>?_) (fun hc2 hj1=>?_)
   ·refine zq5 ?_
    refine Af ?_;obtain rfl:=Ac hj1
    replace hm1:=B8 hm1
    cases hm1;exact zr1
   ·refine zq2 ?_
    obtain ⟨hg3,hj1⟩:=Aa hj1;refine zq3 ?_;exact ⟨_,(),hj1,⟨rfl,trivial⟩,⟨rfl,rfl,rfl,trivial⟩,[],rfl⟩
  ·refine Au ?_
   exact ⟨_,(),Ac hj1,trivial,trivial,[],rfl⟩
 ·rintro _ _ hst
  subst hst
  replace hm1:=DH hm1
  refine An (L':=[]) (ms':=[]) rfl rfl ?_;refine zq4 ?_
  cases hm1;exact Af zr1
def Ja (s1:(List Int)) (f1:(Int->Option Bool)):Option Bool:=
 (Pk s1 f1).bind fun x1 =>
 some (decide (0<=x1))
theorem Vm {s1:(List Int)} {f1:(Int->Option Bool)} {r_1:Bool} {fv_f1:D} (hff1:ID Tryz.prog fv_f1 D.i64 D.bool f1) (hm:Ja s1 f1=some r_1):Fn0 Tryz.prog 117 [.list 1 D.i64 s1,fv_f1] (.bool r_1):=by
 unfold Ja at hm;refine Ae Tryz.func117 rfl Tryz.ntmps117 rfl fun H0 fr w0=>?_;refine zq8 ?_;obtain ⟨x1,hx1,hm⟩:=bS hm;refine zc0 (Wy hff1 hx1) ?_;refine zq3 ?_
 cases hm;exact Af zr1
def CU (n1:ANd):Nat->(Int×(List Int))->Option (List Int)
 | 0,_=>none
 | n+1,(x3,l2) =>
  bif (decide (x3<(n1.l.length:Int))) then
   (idx n1.l x3).bind fun x4 =>
   grd ((l2.length+([x4.at_]:List _).length)*8<=140737488355328) <|
   grd (InR (x3+1)) <|
   CU n1 n ((x3+1),(l2++[x4.at_]))
  else
   some l2
def DE (n1:ANd):Option (List Int):=
 (C0 n1.kind).bind fun x1 =>
 bif x1 then
  some [n1.a,n1.b]
 else
  (Ea n1.kind).bind fun x2 =>
  bif x2 then
   (CU n1 FU (0,[]):Option (List Int)).bind fun l1 =>
   some l1
  else
   some []
theorem Hz {n1:ANd} {r_1:(List Int)} (hm:DE n1=some r_1):Fn0 Tryz.prog 118 [ANd.d n1] (.list 1 D.i64 r_1):=by
 unfold DE at hm;refine Ae Tryz.func118 rfl Tryz.ntmps118 rfl fun H0 fr w0=>?_;refine zq4 ?_;refine Ap (nilE (i:=2) (sz:=1) (f:=D.i64) rfl).refines ?_;refine zq6 ?_;obtain ⟨x1,hx1,hm⟩:=bS hm;refine zc0 (HC hx1) ?_;refine gNl ?_;refine zcn hm (fun hc1 hm=>?_) (fun hc1 hm=>?_)
 ·refine zq6 ?_
  refine Ak rfl rfl rfl (zs2 D.i64) ?_;refine zq2 ?_
  cases hm;exact Af zr1
 ·refine zq4 ?_
  refine Ap (AK (T:=3) (sz:=1) (f:=D.i64)) ?_;refine zq6 ?_;obtain ⟨x2,hx2,hm⟩:=bS hm;refine zc0 (IU hx2) ?_;refine gNl ?_;refine zcn hm (fun hc2 hm=>?_) (fun hc2 hm=>?_)
  ·refine zq7 ?_
   obtain ⟨o_1,hj1,hm1⟩:=bS hm;refine Al [] [] (fun (st:(List Int)) (hid:(Option Addr×Nat))=>match st,hid with | l1,(a_r1,cap_r1)=>[(3,.v (.slice a_r1 l1.length cap_r1))]) (fun F (st:(List Int)) (hid:(Option Addr×Nat))=>match st,hid with | l1,(a_r1,cap_r1)=>[row a_r1 cap_r1 3 1 D.i64 l1]) (fun st=>st=o_1) trivial trivial ?_ ?_
   ·refine Aq ?_
    refine Am [(18,_),(19,_)] [] (fun (st:(Int×(List Int))) (hid:(Option Addr×Nat))=>match st,hid with | (x3,l2),(a_r1,cap_r1)=>[(3,.v (.slice a_r1 l2.length cap_r1)),(20,.i64 x3)]) (fun F (st:(Int×(List Int))) (hid:(Option Addr×Nat))=>match st,hid with | (x3,l2),(a_r1,cap_r1)=>[row a_r1 cap_r1 3 1 D.i64 l2]) (_,_) hj1 (fun _=>rfl) ⟨rfl,rfl,trivial⟩ trivial ⟨rfl,rfl,trivial⟩ rfl ?_;rintro n ⟨x3,l2⟩ ⟨a_r1,cap_r1⟩ hj1;rw [CU] at hj1;refine At (L':=[(3,.v (.slice a_r1 l2.length cap_r1)),(20,.i64 x3),(18,_),(19,_)]) (ms':=[row a_r1 cap_r1 3 1 D.i64 l2]) rfl rfl ?_;refine zq5 ?_;refine zcn hj1 (fun hc3 hj1=>?_) (fun hc3 hj1=>?_)
    ·refine zq5 ?_
     obtain ⟨x4,hx3,hj1⟩:=bS hj1;refine zq2 ?_;refine Tz fun b1=>?_;refine zst 0 ?_;refine Aj (ms':=[box b1 71 [_,_],_]) rfl ?_;refine zq5 ?_;refine Ak rfl rfl rfl (zs1 D.i64) ?_;obtain ⟨hg4,hj1⟩:=Aa hj1;refine zap 1 hg4 fun a_r1 cap_r1=>?_;refine Aj (ms':=[box b1 71 [_,_],_]) rfl ?_;refine zq3 ?_;obtain ⟨hg5,hj1⟩:=Aa hj1;refine zq3 ?_;exact ⟨_,(_,_),hj1,⟨rfl,rfl,trivial⟩,⟨rfl,rfl,trivial⟩,[_],rfl⟩
    ·refine Au ?_
     exact ⟨_,(_,_),Ac hj1,⟨rfl,trivial⟩,trivial,[],rfl⟩
   ·rintro l1 ⟨a_r1,cap_r1⟩ hst
    subst hst;refine An (L':=[(3,.v (.slice a_r1 l1.length cap_r1))]) (ms':=[row a_r1 cap_r1 3 1 D.i64 l1]) rfl rfl ?_;refine zq5 ?_;refine BY (peekE (i:=2) 0 rfl rfl rfl).refines ?_
    cases hm1;exact Af zr1
  ·refine zq6 ?_
   refine BY (peekE (i:=2) 0 rfl rfl rfl).refines ?_
   cases hm;exact Af zr1
def CX (k1:Int) (c1:Int):Option Bool:=
 some ((decide (k1<0))||(decide (c1<=k1)))
theorem KB {k1:Int} {c1:Int} {r_1:Bool} (hm:CX k1 c1=some r_1):Fn0 Tryz.prog 119 [.i64 k1,.ref (.i64 c1)] (.bool r_1):=by
 unfold CX at hm;refine Ae Tryz.func119 rfl Tryz.ntmps119 rfl fun H0 fr w0=>?_;refine zq9 ?_
 apply Cv [] 4 10 (t:=6) trivial rfl
 ·intro hg_1 hk1
  refine zq4 ?_;exact zgm hk1
 ·intro hg_1 hk1
  refine zq4 ?_;exact zgm hk1
 refine zq2 ?_
 cases hm;exact Af zr1
def Eo (n1:ANd) (all1:Int):Option Bool:=
 bif ((decide (n1.kind<1))||(decide (11<n1.kind))) then
  some false
 else
  (C0 n1.kind).bind fun x1 =>
  bif ((!x1)&&((!decide (n1.b=0))||((!decide (n1.kind=11))&&(!decide (n1.a=0))))) then
   some false
  else
   bif ((decide (n1.kind=11))&&((decide (n1.a<0))||(decide (999<n1.a)))) then
    some false
   else
    (Ea n1.kind).bind fun x2 =>
    (bif ((!x2)&&(decide (0<(n1.l.length:Int)))) then (some true) else ((Ep n1).bind fun x3 =>
    some (!x3))).bind fun p1 =>
    bif p1 then
     some false
    else
     (DE n1).bind fun x4 =>
     (Ja x4 (fun y0=>CX y0 all1)).bind fun x5 =>
     some (!x5)
theorem Md {n1:ANd} {all1:Int} {r_1:Bool} (hm:Eo n1 all1=some r_1):Fn0 Tryz.prog 83 [ANd.d n1,.i64 all1] (.bool r_1):=by
 unfold Eo at hm;refine Ae Tryz.func83 rfl Tryz.ntmps83 rfl fun H0 fr w0=>?_;refine zq14 ?_
 apply Cv [(2,_),(3,_)] 4 13 (t:=9) ⟨rfl,rfl,trivial⟩ rfl
 ·intro hg_1 hk1
  refine zq4 ?_;exact zgm hk1
 ·intro hg_1 hk1
  refine zq4 ?_;exact zgm hk1
 refine zq2 ?_;refine zcn hm (fun hc1 hm=>?_) (fun hc1 hm=>?_)
 ·refine zq4 ?_
  cases hm;exact Af zr1
 ·refine zq4 ?_
  obtain ⟨x1,hx1,hm⟩:=bS hm;refine zc0 (HC hx1) ?_;refine zq2 ?_
  apply Cz [(2,_),(3,_)] 14 33 (t:=19) ⟨rfl,rfl,trivial⟩ rfl
  ·intro hg_2 hk2
   refine zq4 ?_
   apply Cv [(2,_),(3,_),(19,_)] 9 32 (t:=23) ⟨rfl,rfl,rfl,trivial⟩ rfl
   ·intro hg_3 hk3
    refine zq4 ?_
    apply Cz [(2,_),(3,_),(19,_),(23,_)] 4 31 (t:=27) ⟨rfl,rfl,rfl,rfl,trivial⟩ rfl
    ·intro hg_4 hk4
     refine zq4 ?_;exact zgm hk4
    ·intro hg_4 hk4
     refine zq4 ?_;exact zgm hk4
    refine zq1 ?_;exact zgm hk3
   ·intro hg_3 hk3
    refine zq9 ?_;exact zgm hk3
   refine zq1 ?_;exact zgm hk2
  ·intro hg_2 hk2
   refine zq14 ?_;exact zgm hk2
  refine zq2 ?_;refine zcn hm (fun hc2 hm=>?_) (fun hc2 hm=>?_)
  ·refine zq4 ?_
   cases hm;exact Af zr1
  ·refine zq6 ?_
   apply Cz [(2,_),(3,_)] 9 47 (t:=38) ⟨rfl,rfl,trivial⟩ rfl
   ·intro hg_5 hk5
    refine zq4 ?_
    apply Cv [(2,_),(3,_),(38,_)] 4 46 (t:=42) ⟨rfl,rfl,rfl,trivial⟩ rfl
    ·intro hg_6 hk6
     refine zq4 ?_;exact zgm hk6
    ·intro hg_6 hk6
     refine zq4 ?_;exact zgm hk6
    refine zq1 ?_;exact zgm hk5
   ·intro hg_5 hk5
    refine zq9 ?_;exact zgm hk5
   refine zq2 ?_;refine zcn hm (fun hc3 hm=>?_) (fun hc3 hm=>?_)
   ·refine zq4 ?_
    cases hm;exact Af zr1
   ·refine zq4 ?_
    obtain ⟨x2,hx2,hm⟩:=bS hm;refine zc0 (IU hx2) ?_;refine zq2 ?_
    apply Cz [(2,_),(3,_)] 5 58 (t:=53) ⟨rfl,rfl,trivial⟩ rfl
    ·intro hg_7 hk7
     refine zq5 ?_;exact zgm hk7
    ·intro hg_7 hk7
     refine zq5 ?_;exact zgm hk7
    refine zq1 ?_;obtain ⟨p1,hp_8,hm⟩:=bS hm;refine Bs [(2,_),(3,_)] 4 63 p1 (t:=59) ⟨rfl,rfl,trivial⟩ rfl (fun hg_8 hk8=>?_) (fun hg_8 hk8=>?_) ?_
    ·replace hp_8:=Bg hg_8 hp_8
     refine zq4 ?_;exact zgb hk8 hp_8
    ·replace hp_8:=Be hg_8 hp_8
     refine zq1 ?_;obtain ⟨x3,hx3,hp_8⟩:=bS hp_8;refine zcw (Ma hx3) ?_;refine zq2 ?_;exact zgb hk8 hp_8
    refine zq2 ?_;refine zcn hm (fun hc4 hm=>?_) (fun hc4 hm=>?_)
    ·refine zq4 ?_
     cases hm;exact Af zr1
    ·refine zq4 ?_
     obtain ⟨x4,hx4,hm⟩:=bS hm;refine zc0 (Hz hx4) ?_;refine Ak rfl rfl rfl (Di rfl rfl) ?_;obtain ⟨x5,hx5,hm⟩:=bS hm;refine Ak rfl rfl rfl (B7 Tryz.call117 rfl (Vm (fun _ _ h=>IG Tryz.call119 (KB h)) hx5)) ?_;refine zq3 ?_
     cases hm;exact Af zr1
def Dd (n1:ANd) (c1:ATy):Option Bool:=
 (Eo n1 (c1.l.length:Int)).bind fun x1 =>
 some (!x1)
theorem L5 {n1:ANd} {c1:ATy} {r_1:Bool} (hm:Dd n1 c1=some r_1):Fn0 Tryz.prog 82 [ANd.d n1,.ref (ATy.d c1)] (.bool r_1):=by
 unfold Dd at hm;refine Ae Tryz.func82 rfl Tryz.ntmps82 rfl fun H0 fr w0=>?_;refine zq11 ?_;obtain ⟨x1,hx1,hm⟩:=bS hm;refine zc0 (Md hx1) ?_;refine zq3 ?_
 cases hm;exact Af zr1
def Ew (kind1:Int):Option Bool:=
 some ((decide (kind1=9))||(decide (kind1=10)))
theorem KA {kind1:Int} {r_1:Bool} (hm:Ew kind1=some r_1):Fn0 Tryz.prog 121 [.i64 kind1] (.bool r_1):=by
 unfold Ew at hm;refine Ae Tryz.func121 rfl Tryz.ntmps121 rfl fun H0 fr w0=>?_;refine zq9 ?_
 apply Cv [] 3 8 (t:=5) trivial rfl
 ·intro hg_1 hk1
  refine zq3 ?_;exact zgm hk1
 ·intro hg_1 hk1
  refine zq3 ?_;exact zgm hk1
 refine zq2 ?_
 cases hm;exact Af zr1
def BH (self:Int->(List Int)->Option (Bool×(List Int))) (x7:(List Int)):Nat->(Int×(List Int))->Option (Out (Bool×(List Int)) (List Int))
 | 0,_=>none
 | n+1,(x8,l2) =>
  bif (decide (x8<(x7.length:Int))) then
   (idx x7 x8).bind fun x9 =>
   (self x9 l2).bind fun (x10,z2) =>
   bif (!x10) then
    some (Out.ret (false,z2))
   else
    grd (InR (x8+1)) <|
    BH self x7 n ((x8+1),z2)
  else
   some (Out.go (l2))
def Cc (self:Int->(List Int)->Option (Bool×(List Int))) (i1:Int) (z1:(List Int)) (c1:ATy):Option (Bool×(List Int)):=
 (idx c1.l i1).bind fun x1 =>
 (Ew x1.kind).bind fun x2 =>
 (bif (!x2) then (some true) else ((idx z1 i1).bind fun x3 =>
 some (decide (x3=2)))).bind fun p1 =>
 bif p1 then
  some (true,z1)
 else
  (idx z1 i1).bind fun x4 =>
  bif (decide (x4=1)) then
   some (false,z1)
  else
   (idx z1 i1).bind fun x5 =>
   (idx c1.l i1).bind fun x6 =>
   (DE x6).bind fun x7 =>
   ((BH self x7 FU (0,(z1.set (i1).toNat 1)):Option (Out (Bool×(List Int)) (List Int)))).bind (fun oo=>oo.on (fun r1=>some r1) (fun l1 =>
   (idx l1 i1).bind fun x11 =>
   some (true,(l1.set (i1).toNat 2))))
def Bl (c1:ATy):Nat->Int->(List Int)->Option (Bool×(List Int))
 | 0=>fun _ _=>none
 | n+1=>fun i1 z1=>Cc (Bl c1 n) i1 z1 c1
theorem HB {c1:ATy} (self:Int->(List Int)->Option (Bool×(List Int))) (hself:∀ {i1:Int} {z1:(List Int)} {r_1:Bool} {s_1:(List Int)} {b_q2:Nat} {a_q2c0:Option Addr} {m_q2c0:Nat} {cap_q2c0:Nat} {b_q3:Nat},self i1 z1=some (r_1,s_1)->Go.V.Fn Tryz.prog 120 [.i64 i1,.ref (ATy.d c1),.v (.pointer (some ⟨b_q2,0,none⟩)),.v (.pointer (some ⟨b_q3,0,none⟩))] [box b_q2 43 [.v (.slice a_q2c0 m_q2c0 cap_q2c0)],arr a_q2c0 m_q2c0 cap_q2c0 3 1 D.i64 z1,box b_q3 109 [.clo (.func 120) [] [.ref (ATy.d c1),.v (.pointer (some ⟨b_q2,0,none⟩)),.v (.pointer (some ⟨b_q3,0,none⟩))]]] (fun d ms'=>d = .bool r_1/\ms'=[box b_q2 43 [.v (.slice a_q2c0 m_q2c0 cap_q2c0)],arr a_q2c0 m_q2c0 cap_q2c0 3 1 D.i64 s_1,box b_q3 109 [.clo (.func 120) [] [.ref (ATy.d c1),.v (.pointer (some ⟨b_q2,0,none⟩)),.v (.pointer (some ⟨b_q3,0,none⟩))]]])) {i1:Int} {z1:(List Int)} {r_1:Bool} {s_1:(List Int)} {b_q2:Nat} {a_q2c0:Option Addr} {m_q2c0:Nat} {cap_q2c0:Nat} {b_q3:Nat} (hm:Cc self i1 z1 c1=some (r_1,s_1)):Go.V.Fn Tryz.prog 120 [.i64 i1,.ref (ATy.d c1),.v (.pointer (some ⟨b_q2,0,none⟩)),.v (.pointer (some ⟨b_q3,0,none⟩))] [box b_q2 43 [.v (.slice a_q2c0 m_q2c0 cap_q2c0)],arr a_q2c0 m_q2c0 cap_q2c0 3 1 D.i64 z1,box b_q3 109 [.clo (.func 120) [] [.ref (ATy.d c1),.v (.pointer (some ⟨b_q2,0,none⟩)),.v (.pointer (some ⟨b_q3,0,none⟩))]]] (fun d ms'=>d = .bool r_1/\ms'=[box b_q2 43 [.v (.slice a_q2c0 m_q2c0 cap_q2c0)],arr a_q2c0 m_q2c0 cap_q2c0 3 1 D.i64 s_1,box b_q3 109 [.clo (.func 120) [] [.ref (ATy.d c1),.v (.pointer (some ⟨b_q2,0,none⟩)),.v (.pointer (some ⟨b_q3,0,none⟩))]]]):=by
 unfold Cc at hm;refine Ae Tryz.func120 rfl Tryz.ntmps120 rfl fun H0 fr w0=>?_;refine zq10 ?_;obtain ⟨x1,hx1,hm⟩:=bS hm;refine zq3 ?_;obtain ⟨x2,hx2,hm⟩:=bS hm;refine zc0 (KA hx2) ?_;refine zq2 ?_;obtain ⟨p1,hp_1,hm⟩:=bS hm;refine Bs [(0,_),(1,_),(2,_),(3,_)] 6 22 p1 (t:=16) ⟨rfl,rfl,rfl,rfl,trivial⟩ rfl (fun hg_1 hk1=>?_) (fun hg_1 hk1=>?_) ?_
 ·replace hp_1:=Bg hg_1 hp_1
  refine zq6 ?_;exact zgb hk1 hp_1
 ·replace hp_1:=Be hg_1 hp_1
  refine zq2 ?_;obtain ⟨x3,hx3,hp_1⟩:=bS hp_1;refine gWp rfl rfl rfl hg_1 rfl rfl (Ag 1 Tryz.runUnderlying43 Tryz.sizeOf3 rfl rfl rfl hx3) ?_;refine gWp rfl rfl rfl hg_1 rfl rfl (AR (off:=0) 1 Tryz.isAgg3 rfl rfl (Ay hx3).2 rfl rfl rfl) ?_;refine zq2 ?_;exact zgb hk1 hp_1
 refine gNl ?_;refine zcn hm (fun hc1 hm=>?_) (fun hc1 hm=>?_)
 ·refine zq4 ?_
  refine Af ?_
  have hq1:=Ac hm
  obtain ⟨rfl,rfl⟩:=Prod.mk.inj hq1;exact retK (AV rfl (A6 rfl) (permA 0 rfl (permA 0 rfl (permA 0 rfl permN)))) ⟨rfl,rfl⟩
 ·refine zq6 ?_
  obtain ⟨x4,hx4,hm⟩:=bS hm;refine Ak rfl rfl rfl (Ag 1 Tryz.runUnderlying43 Tryz.sizeOf3 rfl rfl rfl hx4) ?_;refine Ak rfl rfl rfl (AR (off:=0) 1 Tryz.isAgg3 rfl rfl (Ay hx4).2 rfl rfl rfl) ?_;refine zq2 ?_;refine zcn hm (fun hc2 hm=>?_) (fun hc2 hm=>?_)
  ·refine zq4 ?_
   refine Af ?_
   have hq1:=Ac hm
   obtain ⟨rfl,rfl⟩:=Prod.mk.inj hq1;exact retK (AV rfl (A6 rfl) (permA 0 rfl (permA 0 rfl (permA 0 rfl permN)))) ⟨rfl,rfl⟩
  ·refine zq5 ?_
   obtain ⟨x5,hx5,hm⟩:=bS hm;refine Ak rfl rfl rfl (Ag 1 Tryz.runUnderlying43 Tryz.sizeOf3 rfl rfl rfl hx5) ?_;refine IW rfl rfl (Bn (off:=0) (z':=1) 1 Tryz.sizeOf3 rfl rfl (Ay hx5).2 rfl rfl rfl rfl rfl rfl (nB rfl) rfl rfl) ?_;rintro _ _ rfl;refine Aj (ms':=[box b_q2 43 [_],_,box b_q3 109 [_]]) rfl ?_;refine zq7 ?_;obtain ⟨x6,hx6,hm⟩:=bS hm;refine zq2 ?_;obtain ⟨x7,hx7,hm⟩:=bS hm;refine zc0 (Hz hx7) ?_;refine zq3 ?_;obtain ⟨o_1,hj1,hm1⟩:=bS hm;refine Al [(0,_),(2,_)] [(2,_)] (fun (st:(List Int)) (hid:Unit)=>match st,hid with | l1,_=>[]) (fun F (st:(List Int)) (hid:Unit)=>match st,hid with | l1,_=>[box b_q2 43 [.v (.slice a_q2c0 m_q2c0 cap_q2c0)],arr a_q2c0 m_q2c0 cap_q2c0 3 1 D.i64 l1,(nthF F 0)]) (fun st=>Out.go (st)=o_1) ⟨rfl,rfl,trivial⟩ ⟨rfl,trivial⟩ ?_ ?_
   ·refine Aq ?_
    refine Am [(0,_),(2,_),(3,_),(36,_),(37,_)] [(2,_)] (fun (st:(Int×(List Int))) (hid:Unit)=>match st,hid with | (x8,l2),_=>[(38,.i64 x8)]) (fun F (st:(Int×(List Int))) (hid:Unit)=>match st,hid with | (x8,l2),_=>[box b_q2 43 [.v (.slice a_q2c0 m_q2c0 cap_q2c0)],arr a_q2c0 m_q2c0 cap_q2c0 3 1 D.i64 l2,(nthF F 0)]) () hj1 (fun _=>rfl) ⟨rfl,rfl,rfl,rfl,rfl,trivial⟩ ⟨rfl,trivial⟩ ⟨rfl,trivial⟩ rfl ?_;rintro n ⟨x8,l2⟩ ⟨⟩ hj1;rw [BH] at hj1;refine At (L':=[(38,.i64 x8),(0,_),(2,_),(3,_),(36,_),(37,_)]) (ms':=[box b_q2 43 [.v (.slice a_q2c0 m_q2c0 cap_q2c0)],arr a_q2c0 m_q2c0 cap_q2c0 3 1 D.i64 l2,_]) rfl rfl ?_;refine zq5 ?_;refine zcn hj1 (fun hc3 hj1=>?_) (fun hc3 hj1=>?_)
    ·refine zq5 ?_
     obtain ⟨x9,hx8,hj1⟩:=bS hj1;refine zq8 ?_;obtain ⟨⟨x10,z2⟩,hx9,hj1⟩:=bS hj1;refine AJ rfl rfl rfl (Ko [0,1,2] rfl rfl rfl (Ar rfl (Ar rfl (Ar rfl CR))) (IG Tryz.call120 (hself hx9)) (by rintro _ _ ⟨rfl,rfl⟩;rfl)) ?_;rintro _ _ ⟨_,⟨rfl,rfl⟩,rfl⟩;refine Aj (ms':=[box b_q2 43 [_],_,box b_q3 109 [_]]) rfl ?_;refine zq2 ?_;refine zcn hj1 (fun hc4 hj1=>?_) (fun hc4 hj1=>?_)
     ·refine zq4 ?_
      refine Af ?_;obtain rfl:=Ac hj1
      replace hm1:=B8 hm1
      have hq1:=Ac hm1
      obtain ⟨rfl,rfl⟩:=Prod.mk.inj hq1;exact retK (AV rfl (A6 rfl) (permA 0 rfl (permA 0 rfl (permA 0 rfl permN)))) ⟨rfl,rfl⟩
     ·refine zq2 ?_
      obtain ⟨hg10,hj1⟩:=Aa hj1;refine zq3 ?_;exact ⟨_,(),hj1,⟨rfl,trivial⟩,⟨rfl,rfl,rfl,rfl,rfl,trivial⟩,[],rfl⟩
    ·refine Au ?_
     exact ⟨_,(),Ac hj1,trivial,⟨rfl,rfl,trivial⟩,[],rfl⟩
   ·rintro l1 ⟨⟩ hst
    subst hst
    replace hm1:=DH hm1
    refine An (L':=[(0,_),(2,_)]) (ms':=[box b_q2 43 [.v (.slice a_q2c0 m_q2c0 cap_q2c0)],arr a_q2c0 m_q2c0 cap_q2c0 3 1 D.i64 l1,_]) rfl rfl ?_;refine zq4 ?_;obtain ⟨x11,hx11,hm1⟩:=bS hm1;refine Ak rfl rfl rfl (Ag 1 Tryz.runUnderlying43 Tryz.sizeOf3 rfl rfl rfl hx11) ?_;refine IW rfl rfl (Bn (off:=0) (z':=2) 1 Tryz.sizeOf3 rfl rfl (Ay hx11).2 rfl rfl rfl rfl rfl rfl (nB rfl) rfl rfl) ?_;rintro _ _ rfl;refine Aj (ms':=[box b_q2 43 [_],_,box b_q3 109 [_]]) rfl ?_;refine zq5 ?_;refine Af ?_
    have hq1:=Ac hm1
    obtain ⟨rfl,rfl⟩:=Prod.mk.inj hq1;exact retK (AV rfl (A6 rfl) (permA 0 rfl (permA 0 rfl (permA 0 rfl permN)))) ⟨rfl,rfl⟩
theorem E3 {c1:ATy}:∀ (n:Nat) {i1:Int} {z1:(List Int)} {r_1:Bool} {s_1:(List Int)} {b_q2:Nat} {a_q2c0:Option Addr} {m_q2c0:Nat} {cap_q2c0:Nat} {b_q3:Nat},Bl c1 n i1 z1=some (r_1,s_1)->Go.V.Fn Tryz.prog 120 [.i64 i1,.ref (ATy.d c1),.v (.pointer (some ⟨b_q2,0,none⟩)),.v (.pointer (some ⟨b_q3,0,none⟩))] [box b_q2 43 [.v (.slice a_q2c0 m_q2c0 cap_q2c0)],arr a_q2c0 m_q2c0 cap_q2c0 3 1 D.i64 z1,box b_q3 109 [.clo (.func 120) [] [.ref (ATy.d c1),.v (.pointer (some ⟨b_q2,0,none⟩)),.v (.pointer (some ⟨b_q3,0,none⟩))]]] (fun d ms'=>d = .bool r_1/\ms'=[box b_q2 43 [.v (.slice a_q2c0 m_q2c0 cap_q2c0)],arr a_q2c0 m_q2c0 cap_q2c0 3 1 D.i64 s_1,box b_q3 109 [.clo (.func 120) [] [.ref (ATy.d c1),.v (.pointer (some ⟨b_q2,0,none⟩)),.v (.pointer (some ⟨b_q3,0,none⟩))]]])
 | 0=>by intros;rename_i h;cases h
 | n+1=>by intros;rename_i h;exact HB (Bl c1 n) (fun h=>E3 n h) h
theorem HI {c1:ATy} {i1:Int} {z1:(List Int)} {r_1:Bool} {s_1:(List Int)} {b_q2:Nat} {a_q2c0:Option Addr} {m_q2c0:Nat} {cap_q2c0:Nat} {b_q3:Nat} (hm:Bl c1 FU i1 z1=some (r_1,s_1)):Go.V.Fn Tryz.prog 120 [.i64 i1,.ref (ATy.d c1),.v (.pointer (some ⟨b_q2,0,none⟩)),.v (.pointer (some ⟨b_q3,0,none⟩))] [box b_q2 43 [.v (.slice a_q2c0 m_q2c0 cap_q2c0)],arr a_q2c0 m_q2c0 cap_q2c0 3 1 D.i64 z1,box b_q3 109 [.clo (.func 120) [] [.ref (ATy.d c1),.v (.pointer (some ⟨b_q2,0,none⟩)),.v (.pointer (some ⟨b_q3,0,none⟩))]]] (fun d ms'=>d = .bool r_1/\ms'=[box b_q2 43 [.v (.slice a_q2c0 m_q2c0 cap_q2c0)],arr a_q2c0 m_q2c0 cap_q2c0 3 1 D.i64 s_1,box b_q3 109 [.clo (.func 120) [] [.ref (ATy.d c1),.v (.pointer (some ⟨b_q2,0,none⟩)),.v (.pointer (some ⟨b_q3,0,none⟩))]]]):=E3 FU hm
def BM (t1:ATy):Nat->(Int×(List Int))->Option (Out Bool (List Int))
 | 0,_=>none
 | n+1,(x1,l2) =>
  bif (decide (x1<(t1.l.length:Int))) then
   (Bl t1 FU x1 l2).bind fun (x2,z1) =>
   bif (!x2) then
    some (Out.ret false)
   else
    grd (InR (x1+1)) <|
    BM t1 n ((x1+1),z1)
  else
   some (Out.go (l2))
def CH (t1:ATy):Option Bool:=
 grd (0<=(t1.l.length:Int)) <|
 grd (((t1.l.length:Int)).toNat*8<=140737488355328) <|
 ((BM t1 FU (0,(List.replicate ((t1.l.length:Int)).toNat (0:Int))):Option (Out Bool (List Int)))).bind (fun oo=>oo.on (fun r1=>some r1) (fun l1 =>
 some true))
theorem Iw {t1:ATy} {r_1:Bool} (hm:CH t1=some r_1):Fn0 Tryz.prog 84 [ATy.d t1] (.bool r_1):=by
 unfold CH at hm;refine Ae Tryz.func84 rfl Tryz.ntmps84 rfl fun H0 fr w0=>?_;refine zq10 ?_;obtain ⟨hg1,hm⟩:=Aa hm;obtain ⟨hg2,hm⟩:=Aa hm;refine AJ rfl rfl rfl (Dw (f:=D.i64) (z0:=0) Tryz.underlying43 Tryz.type3 rfl rfl rfl (nB rfl) rfl rfl hg1 hg2 (nB rfl)) ?_;rintro _ _ ⟨a_r1,m_r1,cap_r1,rfl,rfl⟩;refine St fun b1=>?_;refine zst 0 ?_;refine Aj (ms':=[box b1 43 [_],_]) rfl ?_;refine zq3 ?_;refine U0 fun b2=>?_;refine zq3 ?_;refine Ak rfl rfl rfl (Di rfl rfl) ?_;refine zst 0 ?_;refine Aj (ms':=[box b2 109 [_],box b1 43 [_],_]) rfl ?_;refine zq9 ?_;obtain ⟨o_1,hj1,hm1⟩:=bS hm;refine Al [] [(0,_)] (fun (st:(List Int)) (hid:Unit)=>match st,hid with | l1,_=>[]) (fun F (st:(List Int)) (hid:Unit)=>match st,hid with | l1,_=>[(nthF F 0),box b1 43 [.v (.slice a_r1 m_r1 cap_r1)],arr a_r1 m_r1 cap_r1 3 1 D.i64 l1]) (fun st=>Out.go (st)=o_1) trivial ⟨rfl,trivial⟩ ?_ ?_
 ·refine Aq ?_
  refine Am [(4,_),(13,_)] [(0,_)] (fun (st:(Int×(List Int))) (hid:Unit)=>match st,hid with | (x1,l2),_=>[(14,.i64 x1)]) (fun F (st:(Int×(List Int))) (hid:Unit)=>match st,hid with | (x1,l2),_=>[(nthF F 0),box b1 43 [.v (.slice a_r1 m_r1 cap_r1)],arr a_r1 m_r1 cap_r1 3 1 D.i64 l2]) () hj1 (fun _=>rfl) ⟨rfl,rfl,trivial⟩ ⟨rfl,trivial⟩ ⟨rfl,trivial⟩ rfl ?_;rintro n ⟨x1,l2⟩ ⟨⟩ hj1;rw [BM] at hj1;refine At (L':=[(14,.i64 x1),(4,_),(13,_)]) (ms':=[_,box b1 43 [.v (.slice a_r1 m_r1 cap_r1)],arr a_r1 m_r1 cap_r1 3 1 D.i64 l2]) rfl rfl ?_;refine zq5 ?_;refine zcn hj1 (fun hc1 hj1=>?_) (fun hc1 hj1=>?_)
  ·refine zq12 ?_
   obtain ⟨⟨x2,z1⟩,hx3,hj1⟩:=bS hj1;refine AJ rfl rfl rfl (Ko [1,2,0] rfl rfl rfl (Ar rfl (Ar rfl (Ar rfl CR))) (IG Tryz.call120 (HI hx3)) (by rintro _ _ ⟨rfl,rfl⟩;rfl)) ?_;rintro _ _ ⟨_,⟨rfl,rfl⟩,rfl⟩;refine Aj (ms':=[box b2 109 [_],box b1 43 [_],_]) rfl ?_;refine zq2 ?_;refine zcn hj1 (fun hc2 hj1=>?_) (fun hc2 hj1=>?_)
   ·refine zq4 ?_
    refine Af ?_;obtain rfl:=Ac hj1
    replace hm1:=B8 hm1
    cases hm1;exact zr1
   ·refine zq2 ?_
    obtain ⟨hg4,hj1⟩:=Aa hj1;refine zq3 ?_;exact ⟨_,(),hj1,⟨rfl,trivial⟩,⟨rfl,rfl,trivial⟩,[],rfl⟩
  ·refine Au ?_
   exact ⟨_,(),Ac hj1,trivial,trivial,[],rfl⟩
 ·rintro l1 ⟨⟩ hst
  subst hst
  replace hm1:=DH hm1
  refine An (L':=[]) (ms':=[_,box b1 43 [.v (.slice a_r1 m_r1 cap_r1)],arr a_r1 m_r1 cap_r1 3 1 D.i64 l1]) rfl rfl ?_;refine zq4 ?_
  cases hm1;exact Af zr1
def DX (t1:ATy):Option Int:=
 bif ((decide ((t1.l.length:Int)=0))||(decide (2000<(t1.l.length:Int)))) then
  some 8
 else
  bif ((decide (t1.root<0))||(decide ((t1.l.length:Int)<=t1.root))) then
   some 4
  else
   (NQ t1.l (fun y0=>Dd y0 t1)).bind fun x1 =>
   (bif x1 then (some true) else ((CH t1).bind fun x2 =>
   some (!x2))).bind fun p1 =>
   bif p1 then
    some 4
   else
    some 0
theorem HP {t1:ATy} {r_1:Int} (hm:DX t1=some r_1):Fn0 Tryz.prog 48 [ATy.d t1] (.i64 r_1):=by
 unfold DX at hm;refine Ae Tryz.func48 rfl Tryz.ntmps48 rfl fun H0 fr w0=>?_;refine zq14 ?_
 apply Cv [(1,_)] 5 13 (t:=8) ⟨rfl,trivial⟩ rfl
 ·intro hg_1 hk1
  refine zq5 ?_;exact zgm hk1
 ·intro hg_1 hk1
  refine zq5 ?_;exact zgm hk1
 refine zq2 ?_;refine zcn hm (fun hc1 hm=>?_) (fun hc1 hm=>?_)
 ·refine zq4 ?_
  cases hm;exact Af zr1
 ·refine zq6 ?_
  apply Cv [(1,_)] 7 25 (t:=18) ⟨rfl,trivial⟩ rfl
  ·intro hg_2 hk2
   refine zq7 ?_;exact zgm hk2
  ·intro hg_2 hk2
   refine zq7 ?_;exact zgm hk2
  refine zq2 ?_;refine zcn hm (fun hc2 hm=>?_) (fun hc2 hm=>?_)
  ·refine zq4 ?_
   cases hm;exact Af zr1
  ·refine zq6 ?_
   refine Ak rfl rfl rfl (Di rfl rfl) ?_;obtain ⟨x1,hx1,hm⟩:=bS hm;refine Ak rfl rfl rfl (B7 Tryz.call81 rfl (Wj (fun _ _ h=>IG Tryz.call82 (L5 h)) hx1)) ?_;refine zq1 ?_;obtain ⟨p1,hp_3,hm⟩:=bS hm;refine Bs [] 4 34 p1 (t:=30) trivial rfl (fun hg_3 hk3=>?_) (fun hg_3 hk3=>?_) ?_
   ·replace hp_3:=Bg hg_3 hp_3
    refine zq4 ?_;exact zgb hk3 hp_3
   ·replace hp_3:=Be hg_3 hp_3
    refine zq1 ?_;obtain ⟨x2,hx2,hp_3⟩:=bS hp_3;refine zcw (Iw hx2) ?_;refine zq2 ?_;exact zgb hk3 hp_3
   refine gNl ?_;refine zcn hm (fun hc3 hm=>?_) (fun hc3 hm=>?_)
   ·refine zq4 ?_
    cases hm;exact Af zr1
   ·refine zq5 ?_
    cases hm;exact Af zr1
def GV  : Nat->(Int×Int×(List Int))->Option (List Int)
 | 0,_=>none
 | n+1,(i1,j1,l1) =>
  bif (decide (i1<j1)) then
   (idx l1 j1).bind fun x1 =>
   (idx l1 i1).bind fun x2 =>
   (idx l1 i1).bind fun x3 =>
   (idx l1 j1).bind fun x4 =>
   (idx (l1.set (i1).toNat x1) j1).bind fun x5 =>
   grd (InR (i1+1)) <|
   grd (InR (j1 - 1)) <|
   GV n ((i1+1),(j1 - 1),((l1.set (i1).toNat x1).set (j1).toNat x2))
  else
   some l1
def On (s1:(List Int))  : Option (List Int):=
 grd (InR ((s1.length:Int) - 1)) <|
 GV FU (0,((s1.length:Int) - 1),s1)
theorem Ww {s1:(List Int)}  {s_1:(List Int)} {a_q0:Option Addr} {m_q0 cap_q0:Nat} (hm:On s1=some s_1):Go.V.Fn Tryz.prog 123 [.v (.slice a_q0 m_q0 cap_q0)] [arr a_q0 m_q0 cap_q0 3 1 D.i64 s1] (fun d ms'=>d = .tup []/\ms'=[arr a_q0 m_q0 cap_q0 3 1 D.i64 s_1]):=by
 unfold On at hm;refine Ae Tryz.func123 rfl Tryz.ntmps123 rfl fun H0 fr w0=>?_;refine zq3 ?_;refine Ak rfl rfl rfl (CZ 0 Tryz.runUnderlying43 rfl rfl) ?_;obtain ⟨hg1,hm⟩:=Aa hm;refine zq5 ?_;refine Am [(0,_)] [] (fun (st:(Int×Int×(List Int))) (hid:Unit)=>match st,hid with | (i1,j1,l1),_=>[(2,.i64 i1),(3,.i64 j1)]) (fun F (st:(Int×Int×(List Int))) (hid:Unit)=>match st,hid with | (i1,j1,l1),_=>[arr a_q0 m_q0 cap_q0 3 1 D.i64 l1]) () hm (fun _=>rfl) ⟨rfl,trivial⟩ trivial ⟨rfl,rfl,trivial⟩ rfl ?_;rintro n ⟨i1,j1,l1⟩ ⟨⟩ hm;rw [GV] at hm;refine At (L':=[(2,.i64 i1),(3,.i64 j1),(0,_)]) (ms':=[arr a_q0 m_q0 cap_q0 3 1 D.i64 l1]) rfl rfl ?_;refine zq7 ?_;refine zcn hm (fun hc1 hm=>?_) (fun hc1 hm=>?_)
 ·refine zq3 ?_
  obtain ⟨x1,hx2,hm⟩:=bS hm;obtain ⟨x2,hx3,hm⟩:=bS hm;obtain ⟨x3,hx4,hm⟩:=bS hm;obtain ⟨x4,hx5,hm⟩:=bS hm;obtain ⟨x5,hx6,hm⟩:=bS hm;refine Fw [13,15] [2,3,14] [14] AY (by decide +kernel) (by decide +kernel) rfl ?_;refine AE rfl rfl rfl rfl rfl rfl (oMv rfl) ?_;refine AE rfl rfl rfl rfl rfl rfl (oMv rfl) ?_;refine AE rfl rfl rfl rfl rfl rfl (oMv rfl) ?_;refine AE rfl rfl rfl rfl rfl rfl (oMv rfl) ?_;refine AE rfl rfl rfl rfl rfl rfl (oMv rfl) ?_;refine AE rfl rfl rfl rfl rfl rfl (oMv rfl) ?_;refine AE rfl rfl rfl rfl rfl rfl (Ag 0 Tryz.runUnderlying43 Tryz.sizeOf3 rfl rfl rfl hx2) ?_;refine AE rfl rfl rfl rfl rfl rfl (AR (off:=0) 0 Tryz.isAgg3 rfl rfl (Ay hx2).2 rfl rfl rfl) ?_;refine AE rfl rfl rfl rfl rfl rfl (oMv rfl) ?_;refine AE rfl rfl rfl rfl rfl rfl (oMv rfl) ?_;refine AE rfl rfl rfl rfl rfl rfl (Ag 0 Tryz.runUnderlying43 Tryz.sizeOf3 rfl rfl rfl hx3) ?_;refine AE rfl rfl rfl rfl rfl rfl (AR (off:=0) 0 Tryz.isAgg3 rfl rfl (Ay hx3).2 rfl rfl rfl) ?_;refine AE rfl rfl rfl rfl rfl rfl (Ag 0 Tryz.runUnderlying43 Tryz.sizeOf3 rfl rfl rfl hx4) ?_;refine Es rfl ?_;refine I9 rfl rfl rfl rfl rfl (Fh 0 Tryz.runUnderlying43 Tryz.sizeOf3 rfl rfl rfl (by first | exact Hy hx5 | exact Dy (Hy hx5) | exact Dy (Dy (Hy hx5)))) ?_;refine Es rfl ?_;refine Gk ?_;refine Fa rfl rfl rfl (Bn (off:=0) (z':=x1) 0 Tryz.sizeOf3 rfl rfl (Ay hx4).2 rfl rfl rfl rfl rfl rfl (nB rfl) rfl rfl) ?_;rintro _ _ rfl;refine ⟨⟨trivial,Fh 0 Tryz.runUnderlying43 Tryz.sizeOf3 rfl rfl rfl (by first | exact Hy hx5 | exact Dy (Hy hx5) | exact Dy (Dy (Hy hx5)))⟩,?_⟩;refine Fa rfl rfl rfl (Bn (off:=0) (z':=x2) 0 Tryz.sizeOf3 rfl rfl (Ay hx6).2 rfl rfl rfl rfl rfl rfl (nB rfl) rfl rfl) ?_;rintro _ _ rfl;refine ⟨⟨trivial,Fh 0 Tryz.runUnderlying43 Tryz.sizeOf3 rfl rfl rfl (by first | exact Hy hx5 | exact Dy (Hy hx5) | exact Dy (Dy (Hy hx5)))⟩,?_⟩;refine Ek ?_;refine zq2 ?_;obtain ⟨hg7,hm⟩:=Aa hm;refine zq2 ?_;obtain ⟨hg8,hm⟩:=Aa hm;refine zq4 ?_;exact ⟨_,(),hm,⟨rfl,rfl,trivial⟩,⟨rfl,trivial⟩,[],rfl⟩
 ·refine Au ?_
  obtain rfl:=Ac hm;exact retKn (Cp rfl (permA 0 rfl permN)) ⟨rfl,rfl⟩
def DV (c1:ATy):Nat->((List Int)×(List Bool))->Option (List Int)
 | 0,_=>none
 | n+1,(l1,l2) =>
  bif (decide (0<(l1.length:Int))) then
   grd (InR ((l1.length:Int) - 1)) <|
   (idx l1 ((l1.length:Int) - 1)).bind fun x1 =>
   grd (InR ((l1.length:Int) - 1)) <|
   (sli l1 0 ((l1.length:Int) - 1)).bind fun l3 =>
   (idx l2 x1).bind fun x2 =>
   bif x2 then
    DV c1 n (l3,l2)
   else
    (idx l2 x1).bind fun x3 =>
    ((idx c1.l x1).bind fun x4 =>
    (DE x4).bind fun x5 =>
    grd (x5.length*8<=140737488355328) <|
    (On x5).bind fun l4 =>
    grd ((l3.length+l4.length)*8<=140737488355328) <|
    DV c1 n ((l3++l4),(l2.set (x1).toNat true))).bind fun ys=>some (x1::ys)
  else
   some []
def Ir (c1:ATy) (c2:Int):Option (List Int):=
 grd (0<=(c1.l.length:Int)) <|
 grd (((c1.l.length:Int)).toNat*1<=140737488355328) <|
 DV c1 FU ([c2],(List.replicate ((c1.l.length:Int)).toNat (false:Bool)))
theorem Oz {c1:ATy} {c2:Int} {xs:(List Int)} (hm:Ir c1 c2=some xs):Iter Tryz.prog 122 [.ref (ATy.d c1),.ref (.i64 c2)] (xs.map fun (p:Int)=>[.i64 p]):=by
 intro y hys J Jx hy tl_0 hJ_0
 have hk_0:0<=xs.length:=Nat.zero_le _
 replace hm:_=some (xs.drop 0):=hm
 unfold Ir at hm;refine Ae Tryz.func122 rfl Tryz.ntmps122 rfl fun H0 fr w0=>?_;refine zq5 ?_;obtain ⟨hg1,hm⟩:=Aa hm;obtain ⟨hg2,hm⟩:=Aa hm;refine AJ rfl rfl rfl (Dw (f:=D.bool) (z0:=false) Tryz.underlying78 Tryz.type4 rfl rfl rfl (nB rfl) rfl rfl hg1 hg2 (nB rfl)) ?_;rintro _ _ ⟨a_r1,m_r1,cap_r1,rfl,rfl⟩;refine zq5 ?_;refine AJ rfl rfl rfl (J9 (xs:=[_]) (f:=D.i64) (l:=[_]) Tryz.runUnderlying43 Tryz.sizeOf3 Tryz.zeroValue3 rfl rfl rfl (fun _=>⟨rfl,rfl,rfl⟩) rfl (by simp [maxLen])) ?_;rintro _ _ ⟨a_r2,m_r2,cap_r2,rfl,rfl⟩;refine zq3 ?_;refine OS (fun (hid:{p:Nat×List Asrt // p.1<=xs.length/\J p.1 p.2}×(Option Addr×Nat×Nat)×Unit)=>xs.drop hid.1.1.1) [(0,_),(1,_),(4,_)] [] (fun (st:((List Int)×(List Bool))) (hid:{p:Nat×List Asrt // p.1<=xs.length/\J p.1 p.2}×(Option Addr×Nat×Nat)×Unit)=>match st,hid with | (l1,l2),(⟨(k_3,tl_3),hk_3,hJ_3⟩,(a_r2,m_r2,cap_r2),_)=>[(5,.v (.slice a_r2 m_r2 cap_r2))]) (fun F (st:((List Int)×(List Bool))) (hid:{p:Nat×List Asrt // p.1<=xs.length/\J p.1 p.2}×(Option Addr×Nat×Nat)×Unit)=>match st,hid with | (l1,l2),(⟨(k_3,tl_3),hk_3,hJ_3⟩,(a_r2,m_r2,cap_r2),_)=>[arr a_r2 m_r2 cap_r2 3 1 D.i64 l1,arr a_r1 m_r1 cap_r1 4 1 D.bool l2]++tl_3) (⟨(0,tl_0),hk_0,hJ_0⟩,(_,_,_),()) hm rfl (fun _=>rfl) ⟨rfl,rfl,rfl,trivial⟩ trivial ⟨rfl,trivial⟩ rfl ?_;rintro n ⟨l1,l2⟩ ⟨⟨⟨k_3,tl_3⟩,hk_3,hJ_3⟩,⟨a_r2,m_r2,cap_r2⟩,⟨⟩⟩ hm
 replace hm:_=some (xs.drop k_3):=hm
 rw [DV] at hm;refine At (L':=[(5,.v (.slice a_r2 m_r2 cap_r2)),(0,_),(1,_),(4,_)]) (ms':=[arr a_r2 m_r2 cap_r2 3 1 D.i64 l1,arr a_r1 m_r1 cap_r1 4 1 D.bool l2]++tl_3) rfl rfl ?_;refine zq4 ?_;refine Ak rfl rfl rfl (CZ 0 Tryz.runUnderlying43 rfl rfl) ?_;refine zq2 ?_;refine zcn hm (fun hc1 hm=>?_) (fun hc1 hm=>?_)
 ·refine zq6 ?_
  refine Ak rfl rfl rfl (CZ 0 Tryz.runUnderlying43 rfl rfl) ?_;obtain ⟨hg3,hm⟩:=Aa hm;refine zq1 ?_;obtain ⟨x1,hx4,hm⟩:=bS hm;refine Ak rfl rfl rfl (Ag 0 Tryz.runUnderlying43 Tryz.sizeOf3 rfl rfl rfl hx4) ?_;refine Ak rfl rfl rfl (AR (off:=0) 0 Tryz.isAgg3 rfl rfl (Ay hx4).2 rfl rfl rfl) ?_;refine zq6 ?_;refine Ak rfl rfl rfl (CZ 0 Tryz.runUnderlying43 rfl rfl) ?_;obtain ⟨hg5,hm⟩:=Aa hm;refine zq1 ?_;obtain ⟨l3,hx6,hm⟩:=bS hm;refine AJ rfl rfl rfl (Mb 0 Tryz.runUnderlying43 Tryz.sizeOf3 rfl rfl rfl hx6) ?_;rintro _ _ ⟨a_r2,m_r2,cap_r2,rfl,rfl⟩;refine zq7 ?_;obtain ⟨x2,hx7,hm⟩:=bS hm;refine Ak rfl rfl rfl (Ag 1 Tryz.runUnderlying78 Tryz.sizeOf4 rfl rfl rfl hx7) ?_;refine Ak rfl rfl rfl (AR (off:=0) 1 Tryz.isAgg4 rfl rfl (Ay hx7).2 rfl rfl rfl) ?_;refine gNl ?_;refine zcn hm (fun hc2 hm=>?_) (fun hc2 hm=>?_)
  ·refine Au ?_
   exact ⟨_,(⟨(k_3,tl_3),hk_3,hJ_3⟩,(_,_,_),()),hm,⟨rfl,trivial⟩,⟨rfl,rfl,rfl,trivial⟩,[],rfl⟩
  ·refine zq5 ?_
   obtain ⟨x3,hx8,hm⟩:=bS hm;refine Ak rfl rfl rfl (Ag 1 Tryz.runUnderlying78 Tryz.sizeOf4 rfl rfl rfl hx8) ?_;refine IW rfl rfl (Bn (off:=0) (z':=true) 1 Tryz.sizeOf4 rfl rfl (Ay hx8).2 rfl rfl rfl rfl rfl rfl (nB rfl) rfl rfl) ?_;rintro _ _ rfl;refine Aj (ms':=[_,_]++tl_3) rfl ?_;refine zq6 ?_;obtain ⟨ys_4,hm,he_4⟩:=bS hm;obtain ⟨hy_4,hk_4,rfl⟩:=OV he_4;refine AJ rfl rfl rfl (QJ [_,_] tl_3 rfl rfl (hy k_3 _ tl_3 (S5 hy_4) hJ_3)) ?_;rintro _ _ ⟨_ | _,tl_4,rfl,rfl,hJ_4,hs_4⟩
   ·refine zq2 ?_
    refine Ce rfl rfl ?_;refine Af ?_;exact retK (Cp (ms':=tl_4) (drop:=[_,_]) rfl (List.Perm.refl _)) (.inr (hs_4 rfl))
   ·refine zq2 ?_
    refine Bo rfl rfl ?_;refine zq6 ?_;obtain ⟨x4,hx9,hm⟩:=bS hm;refine Ak rfl rfl rfl (oIm Tryz.runUnderlying29 Tryz.sizeOf49 rfl rfl hx9) ?_;refine zq1 ?_;obtain ⟨x5,hx10,hm⟩:=bS hm;refine zc0 (Hz hx10) ?_;obtain ⟨hg11,hm⟩:=Aa hm;refine AJ rfl rfl rfl (D5 (ms₁:=[]) Tryz.call64 rfl (List.Perm.refl _) (Le hg11)) ?_;rintro _ _ ⟨_,⟨a_r3,cap_r3,hd_r3,hq_r3⟩,rfl⟩;obtain ⟨m_r3,hm_r3⟩:∃ m,m=x5.length:=⟨_,rfl⟩;rw [<- hm_r3] at hd_r3 hq_r3;subst hd_r3 hq_r3
    clear hm_r3
    refine zq5 ?_;obtain ⟨l4,hx12,hm⟩:=bS hm;refine AJ rfl rfl rfl (DF [0] Tryz.call123 rfl rfl (Ar rfl CR) (Ww hx12) (by rintro _ _ ⟨rfl,rfl⟩;rfl)) ?_;rintro _ _ ⟨_,⟨rfl,rfl⟩,rfl⟩;refine Aj (ms':=[_,_,_]++tl_4) rfl ?_;refine zq4 ?_;refine KQ 0 rfl rfl ?_;rintro rfl;obtain ⟨hg13,hm⟩:=Aa hm;refine AJ rfl rfl rfl (.view (peekE (i:=49) 0 rfl rfl rfl) (Dx (a:=_) 1 Tryz.underlying43 Tryz.type3 rfl rfl rfl rfl rfl rfl (fun _=>rfl) (fun _=>rfl) hg13 (BJ hg13 rfl))) ?_;rintro _ _ ⟨a_r2,m_r2,cap_r2,rfl,rfl⟩;refine Aj (ms':=[_,_,_]++tl_4) rfl ?_;refine zq2 ?_;exact ⟨_,(⟨((k_3+1),tl_4),hk_4,(hJ_4 rfl)⟩,(_,_,_),()),hm,⟨rfl,trivial⟩,⟨rfl,rfl,rfl,trivial⟩,[_],rfl⟩
 ·refine Au ?_
  exact retKn (Cp (ms':=tl_3) (drop:=[_,_]) rfl (List.Perm.refl _)) (.inl (MA hm hk_3 hJ_3 _))
theorem Qv {p0:ATy} {p1:Int} :
  Fn0 Tryz.prog 85 [ATy.d p0,.i64 p1] (.clo (.func 122) [] [.ref (ATy.d p0),.ref (.i64 p1)]):=by
 refine Ae Tryz.func85 rfl Tryz.ntmps85 rfl fun H0 fr w0=>?_;refine zq8 ?_;refine Ak rfl rfl rfl (Di rfl rfl) ?_;refine zq2 ?_;refine Af ?_;exact retK (AV rfl (A6 rfl) (EL _)) (by rfl)
def G6 (slices1:(List (List Int))):Nat->(Int×Int)->Option Int
 | 0,_=>none
 | n+1,(size2,x1) =>
  bif (decide (x1<(slices1.length:Int))) then
   (idx slices1 x1).bind fun x2 =>
   grd (InR (size2+(x2.length:Int))) <|
   bif (decide ((size2+(x2.length:Int))<0)) then
    none
   else
    grd (InR (x1+1)) <|
    G6 slices1 n ((size2+(x2.length:Int)),(x1+1))
  else
   some size2
def GZ (slices1:(List (List Int))):Nat->(Int×(List Int))->Option (List Int)
 | 0,_=>none
 | n+1,(x3,l2) =>
  bif (decide (x3<(slices1.length:Int))) then
   (idx slices1 x3).bind fun x4 =>
   grd ((l2.length+x4.length)*8<=140737488355328) <|
   grd (InR (x3+1)) <|
   GZ slices1 n ((x3+1),(l2++x4))
  else
   some l2
def LS (slices1:(List (List Int))):Option (List Int):=
 (G6 slices1 FU (0,0):Option Int).bind fun size1 =>
 grd (0<=size1) <|
 grd ((size1).toNat*8<=140737488355328) <|
 (GZ slices1 FU (0,([]:List Int)):Option (List Int)).bind fun l1 =>
 some l1
theorem Vi {slices1:(List (List Int))} {r_1:(List Int)} (hm:LS slices1=some r_1):Fn0 Tryz.prog 137 [.list 1 (D.list 1 D.i64) slices1] (.list 1 D.i64 r_1):=by
 unfold LS at hm;refine Ae Tryz.func137 rfl Tryz.ntmps137 rfl fun H0 fr w0=>?_;refine zq3 ?_;refine Ap (nilE (i:=2) (sz:=1) (f:=D.i64) rfl).refines ?_;refine zq12 ?_;obtain ⟨o_1,hj1,hm1⟩:=bS hm;refine Al [(0,_)] [] (fun (st:Int) (hid:Unit)=>match st,hid with | size1,_=>[(3,.i64 size1)]) (fun F (st:Int) (hid:Unit)=>match st,hid with | size1,_=>[]) (fun st=>st=o_1) ⟨rfl,trivial⟩ trivial ?_ ?_
 ·refine Aq ?_
  refine Am [(0,_),(9,_),(10,_)] [] (fun (st:(Int×Int)) (hid:Unit)=>match st,hid with | (size2,x1),_=>[(3,.i64 size2),(11,.i64 x1)]) (fun F (st:(Int×Int)) (hid:Unit)=>match st,hid with | (size2,x1),_=>[]) () hj1 (fun _=>rfl) ⟨rfl,rfl,rfl,trivial⟩ trivial ⟨rfl,rfl,trivial⟩ rfl ?_;rintro n ⟨size2,x1⟩ _ hj1;rw [G6] at hj1;refine At (L':=[(3,.i64 size2),(11,.i64 x1),(0,_),(9,_),(10,_)]) (ms':=[]) rfl rfl ?_;refine zq5 ?_;refine zcn hj1 (fun hc1 hj1=>?_) (fun hc1 hj1=>?_)
  ·refine zq5 ?_
   obtain ⟨x2,hx1,hj1⟩:=bS hj1;refine zq9 ?_;obtain ⟨hg2,hj1⟩:=Aa hj1;refine zq8 ?_;refine zcn hj1 (fun hc2 hj1=>?_) (fun hc2 hj1=>?_)
   ·cases hj1
   ·refine zq2 ?_
    obtain ⟨hg3,hj1⟩:=Aa hj1;refine zq3 ?_;exact ⟨_,(),hj1,⟨rfl,rfl,trivial⟩,⟨rfl,rfl,rfl,trivial⟩,[],rfl⟩
  ·refine Au ?_
   exact ⟨_,(),Ac hj1,⟨rfl,trivial⟩,⟨rfl,trivial⟩,[],rfl⟩
 ·rintro size1 _ hst
  subst hst;refine An (L':=[(3,.i64 size1),(0,_)]) (ms':=[]) rfl rfl ?_;refine zq3 ?_;obtain ⟨hg4,hm1⟩:=Aa hm1;obtain ⟨hg5,hm1⟩:=Aa hm1;refine AJ rfl rfl rfl (D5 (ms₁:=[]) Tryz.call169 rfl (List.Perm.refl _) (Pw hg4 hg5)) ?_;rintro _ _ ⟨_,⟨a_r1,cap_r1,rfl,rfl⟩,rfl⟩;refine zq9 ?_;obtain ⟨o_2,hj2,hm2⟩:=bS hm1;refine Al [] [] (fun (st:(List Int)) (hid:(Option Addr×Nat))=>match st,hid with | l1,(a_r1,cap_r1)=>[(6,.v (.slice a_r1 l1.length cap_r1))]) (fun F (st:(List Int)) (hid:(Option Addr×Nat))=>match st,hid with | l1,(a_r1,cap_r1)=>[row a_r1 cap_r1 3 1 D.i64 l1]) (fun st=>st=o_2) trivial trivial ?_ ?_
  ·refine Aq ?_
   refine Am [(25,_),(26,_)] [] (fun (st:(Int×(List Int))) (hid:(Option Addr×Nat))=>match st,hid with | (x3,l2),(a_r1,cap_r1)=>[(6,.v (.slice a_r1 l2.length cap_r1)),(27,.i64 x3)]) (fun F (st:(Int×(List Int))) (hid:(Option Addr×Nat))=>match st,hid with | (x3,l2),(a_r1,cap_r1)=>[row a_r1 cap_r1 3 1 D.i64 l2]) (_,_) hj2 (fun _=>rfl) ⟨rfl,rfl,trivial⟩ trivial ⟨rfl,rfl,trivial⟩ rfl ?_;rintro n ⟨x3,l2⟩ ⟨a_r1,cap_r1⟩ hj2;rw [GZ] at hj2;refine At (L':=[(6,.v (.slice a_r1 l2.length cap_r1)),(27,.i64 x3),(25,_),(26,_)]) (ms':=[row a_r1 cap_r1 3 1 D.i64 l2]) rfl rfl ?_;refine zq5 ?_;refine zcn hj2 (fun hc3 hj2=>?_) (fun hc3 hj2=>?_)
   ·refine zq5 ?_
    obtain ⟨x4,hx6,hj2⟩:=bS hj2;refine zq7 ?_;obtain ⟨hg7,hj2⟩:=Aa hj2;refine zap 0 hg7 fun a_r1 cap_r1=>?_;refine Aj (ms':=[_]) rfl ?_;refine zq3 ?_;obtain ⟨hg8,hj2⟩:=Aa hj2;refine zq3 ?_;exact ⟨_,(_,_),hj2,⟨rfl,rfl,trivial⟩,⟨rfl,rfl,trivial⟩,[],rfl⟩
   ·refine Au ?_
    exact ⟨_,(_,_),Ac hj2,⟨rfl,trivial⟩,trivial,[],rfl⟩
  ·rintro l1 ⟨a_r1,cap_r1⟩ hst
   subst hst;refine An (L':=[(6,.v (.slice a_r1 l1.length cap_r1))]) (ms':=[row a_r1 cap_r1 3 1 D.i64 l1]) rfl rfl ?_;refine zq5 ?_;refine BY (peekE (i:=2) 0 rfl rfl rfl).refines ?_
   cases hm2;exact Af zr1
def DL (l1:(List AutoEdge)):Nat->(Int×(List Int))->Option (List Int)
 | 0,_=>none
 | n+1,(x1,l3) =>
  bif (decide (x1<(l1.length:Int))) then
   (idx l1 x1).bind fun x2 =>
   grd ((l3.length+([x2.to_]:List _).length)*8<=140737488355328) <|
   grd (InR (x1+1)) <|
   DL l1 n ((x1+1),(l3++[x2.to_]))
  else
   some l3
def Dh (l1:(List AutoEdge)):Option (List Int):=
 (DL l1 FU (0,[]):Option (List Int)).bind fun l2 =>
 some l2
theorem Hw {l1:(List AutoEdge)} {r_1:(List Int)} (hm:Dh l1=some r_1):Fn0 Tryz.prog 138 [.list 2 AutoEdge.d l1] (.list 1 D.i64 r_1):=by
 unfold Dh at hm;refine Ae Tryz.func138 rfl Tryz.ntmps138 rfl fun H0 fr w0=>?_;refine zq3 ?_;refine Ap (nilE (i:=2) (sz:=1) (f:=D.i64) rfl).refines ?_;refine zq4 ?_;refine Ap (AK (T:=3) (sz:=1) (f:=D.i64)) ?_;refine zq8 ?_;obtain ⟨o_1,hj1,hm1⟩:=bS hm;refine Al [] [] (fun (st:(List Int)) (hid:(Option Addr×Nat))=>match st,hid with | l2,(a_r1,cap_r1)=>[(3,.v (.slice a_r1 l2.length cap_r1))]) (fun F (st:(List Int)) (hid:(Option Addr×Nat))=>match st,hid with | l2,(a_r1,cap_r1)=>[row a_r1 cap_r1 3 1 D.i64 l2]) (fun st=>st=o_1) trivial trivial ?_ ?_
 ·refine Aq ?_
  refine Am [(6,_),(7,_)] [] (fun (st:(Int×(List Int))) (hid:(Option Addr×Nat))=>match st,hid with | (x1,l3),(a_r1,cap_r1)=>[(3,.v (.slice a_r1 l3.length cap_r1)),(8,.i64 x1)]) (fun F (st:(Int×(List Int))) (hid:(Option Addr×Nat))=>match st,hid with | (x1,l3),(a_r1,cap_r1)=>[row a_r1 cap_r1 3 1 D.i64 l3]) (_,_) hj1 (fun _=>rfl) ⟨rfl,rfl,trivial⟩ trivial ⟨rfl,rfl,trivial⟩ rfl ?_;rintro n ⟨x1,l3⟩ ⟨a_r1,cap_r1⟩ hj1;rw [DL] at hj1;refine At (L':=[(3,.v (.slice a_r1 l3.length cap_r1)),(8,.i64 x1),(6,_),(7,_)]) (ms':=[row a_r1 cap_r1 3 1 D.i64 l3]) rfl rfl ?_;refine zq5 ?_;refine zcn hj1 (fun hc1 hj1=>?_) (fun hc1 hj1=>?_)
  ·refine zq5 ?_
   obtain ⟨x2,hx1,hj1⟩:=bS hj1;refine zq2 ?_;refine PD fun b1=>?_;refine zst 0 ?_;refine Aj (ms':=[box b1 62 [_,_],_]) rfl ?_;refine zq5 ?_;refine Ak rfl rfl rfl (zs1 D.i64) ?_;obtain ⟨hg2,hj1⟩:=Aa hj1;refine zap 1 hg2 fun a_r1 cap_r1=>?_;refine Aj (ms':=[box b1 62 [_,_],_]) rfl ?_;refine zq3 ?_;obtain ⟨hg3,hj1⟩:=Aa hj1;refine zq3 ?_;exact ⟨_,(_,_),hj1,⟨rfl,rfl,trivial⟩,⟨rfl,rfl,trivial⟩,[_],rfl⟩
  ·refine Au ?_
   exact ⟨_,(_,_),Ac hj1,⟨rfl,trivial⟩,trivial,[],rfl⟩
 ·rintro l2 ⟨a_r1,cap_r1⟩ hst
  subst hst;refine An (L':=[(3,.v (.slice a_r1 l2.length cap_r1))]) (ms':=[row a_r1 cap_r1 3 1 D.i64 l2]) rfl rfl ?_;refine zq5 ?_;refine BY (peekE (i:=2) 0 rfl rfl rfl).refines ?_
  cases hm1;exact Af zr1
def Fu (s1:AutoState):Option (List Int):=
 (bif s1.arrow then
  grd ((0+([s1.dom,s1.cod]:List _).length)*8<=140737488355328) <|
  some ([]++[s1.dom,s1.cod])
 else
  some []:Option (List Int)).bind fun l1 =>
 (Dh s1.fields).bind fun x1 =>
 (Dh s1.tags).bind fun x2 =>
 (LS [l1,x1,x2]).bind fun x3 =>
 some x3
theorem OW {s1:AutoState} {r_1:(List Int)} (hm:Fu s1=some r_1):Fn0 Tryz.prog 141 [AutoState.d s1] (.list 1 D.i64 r_1):=by
 unfold Fu at hm;refine Ae Tryz.func141 rfl Tryz.ntmps141 rfl fun H0 fr w0=>?_;refine zq4 ?_;refine Ap (nilE (i:=2) (sz:=1) (f:=D.i64) rfl).refines ?_;refine zq4 ?_;refine Ap (AK (T:=3) (sz:=1) (f:=D.i64)) ?_;refine zq7 ?_;obtain ⟨o_1,hj1,hm1⟩:=bS hm;refine Al [(1,_)] [] (fun (st:(List Int)) (hid:(Option Addr×Nat))=>match st,hid with | l1,(a_r1,cap_r1)=>[(3,.v (.slice a_r1 l1.length cap_r1))]) (fun F (st:(List Int)) (hid:(Option Addr×Nat))=>match st,hid with | l1,(a_r1,cap_r1)=>[row a_r1 cap_r1 3 1 D.i64 l1]) (fun st=>st=o_1) ⟨rfl,trivial⟩ trivial ?_ ?_
 ·refine zcn hj1 (fun hc1 hj1=>?_) (fun hc1 hj1=>?_)
  ·refine zq6 ?_
   refine Ak rfl rfl rfl (zs2 D.i64) ?_;obtain ⟨hg1,hj1⟩:=Aa hj1;refine zap 0 hg1 fun a_r1 cap_r1=>?_;refine Aj (ms':=[_]) rfl ?_;refine zq2 ?_;exact ⟨_,(_,_),Ac hj1,⟨rfl,trivial⟩,⟨rfl,trivial⟩,[],rfl⟩
  ·refine gSp ?_
   exact ⟨_,(_,_),Ac hj1,⟨rfl,trivial⟩,⟨rfl,trivial⟩,[],rfl⟩
 ·rintro l1 ⟨a_r1,cap_r1⟩ hst
  subst hst;refine An (L':=[(3,.v (.slice a_r1 l1.length cap_r1)),(1,_)]) (ms':=[row a_r1 cap_r1 3 1 D.i64 l1]) rfl rfl ?_;refine Gl ?_;obtain ⟨x1,hx2,hm1⟩:=bS hm1;obtain ⟨x2,hx3,hm1⟩:=bS hm1;obtain ⟨x3,hx4,hm1⟩:=bS hm1;refine zdr 10 ?_;refine zq3 ?_;refine zcd (Hw hx2) ?_;refine zq2 ?_;refine zcd (Hw hx3) ?_;refine Av rfl rfl rfl (.view (peekE (i:=13) 0 rfl rfl rfl) (Ai (xs:=[_,_,_]) (f:=(D.list 1 D.i64)) (l:=[_,_,_]) Tryz.runUnderlying131 Tryz.sizeOf43 Tryz.zeroValue43 rfl rfl rfl (fun _=>⟨rfl,rfl,rfl⟩) rfl)) ?_;refine zcd (Vi hx4) ?_;refine zq3 ?_
  cases hm1;exact Af zr1
def C3 (x4:(List Int)):Nat->(Int×(List Int)×(List Bool))->Option ((List Int)×(List Bool))
 | 0,_=>none
 | n+1,(x5,l6,l7) =>
  bif (decide (x5<(x4.length:Int))) then
   (idx x4 x5).bind fun x6 =>
   (idx l7 x6).bind fun x7 =>
   bif (!x7) then
    (idx l7 x6).bind fun x8 =>
    grd ((l6.length+([x6]:List _).length)*8<=140737488355328) <|
    grd (InR (x5+1)) <|
    C3 x4 n ((x5+1),(l6++[x6]),(l7.set (x6).toNat true))
   else
    grd (InR (x5+1)) <|
    C3 x4 n ((x5+1),l6,l7)
  else
   some (l6,l7)
def E1 (c1:AutoAuto):Nat->((List Int)×(List Bool))->Option (List Int)
 | 0,_=>none
 | n+1,(l1,l2) =>
  bif (decide (0<(l1.length:Int))) then
   (idx l1 0).bind fun x2 =>
   (sli l1 1 (l1.length:Int)).bind fun l3 =>
   ((idx c1.l x2).bind fun x3 =>
   (Fu x3).bind fun x4 =>
   (C3 x4 FU (0,l3,l2):Option ((List Int)×(List Bool))).bind fun (l4,l5) =>
   E1 c1 n (l4,l5)).bind fun ys=>some (x2::ys)
  else
   some []
def GX (c1:AutoAuto):Option (List Int):=
 grd (0<=(c1.l.length:Int)) <|
 grd (((c1.l.length:Int)).toNat*1<=140737488355328) <|
 (idx (List.replicate ((c1.l.length:Int)).toNat (false:Bool)) c1.start).bind fun x1 =>
 E1 c1 FU ([c1.start],((List.replicate ((c1.l.length:Int)).toNat (false:Bool)).set (c1.start).toNat true))
theorem Qe {c1:AutoAuto} {xs:(List Int)} (hm:GX c1=some xs):Iter Tryz.prog 140 [.ref (AutoAuto.d c1)] (xs.map fun (p:Int)=>[.i64 p]):=by
 intro y hys J Jx hy tl_0 hJ_0
 have hk_0:0<=xs.length:=Nat.zero_le _
 replace hm:_=some (xs.drop 0):=hm
 unfold GX at hm;refine Ae Tryz.func140 rfl Tryz.ntmps140 rfl fun H0 fr w0=>?_;refine zq5 ?_;obtain ⟨hg1,hm⟩:=Aa hm;obtain ⟨hg2,hm⟩:=Aa hm;refine AJ rfl rfl rfl (Dw (f:=D.bool) (z0:=false) Tryz.underlying78 Tryz.type4 rfl rfl rfl (nB rfl) rfl rfl hg1 hg2 (nB rfl)) ?_;rintro _ _ ⟨a_r1,m_r1,cap_r1,rfl,rfl⟩;refine zq7 ?_;obtain ⟨x1,hx3,hm⟩:=bS hm;refine Ak rfl rfl rfl (Ag 0 Tryz.runUnderlying78 Tryz.sizeOf4 rfl rfl rfl hx3) ?_;refine IW rfl rfl (Bn (off:=0) (z':=true) 0 Tryz.sizeOf4 rfl rfl (Ay hx3).2 rfl rfl rfl rfl rfl rfl (nB rfl) rfl rfl) ?_;rintro _ _ rfl;refine Aj (ms':=[_]++tl_0) rfl ?_;refine zq5 ?_;refine AJ rfl rfl rfl (Ax (xs:=[_]) (f:=D.i64) (l:=[_]) Tryz.runUnderlying43 Tryz.sizeOf3 Tryz.zeroValue3 rfl rfl rfl (fun _=>⟨rfl,rfl,rfl⟩) rfl (by simp [maxLen])) ?_;rintro _ _ ⟨a_r2,rfl,rfl⟩;refine zq3 ?_;refine BY (NM 0 rfl rfl) ?_;refine OS (fun (hid:{p:Nat×List Asrt // p.1<=xs.length/\J p.1 p.2}×(Option Addr×Nat)×Unit)=>xs.drop hid.1.1.1) [(0,_),(1,_),(3,_)] [] (fun (st:((List Int)×(List Bool))) (hid:{p:Nat×List Asrt // p.1<=xs.length/\J p.1 p.2}×(Option Addr×Nat)×Unit)=>match st,hid with | (l1,l2),(⟨(k_3,tl_3),hk_3,hJ_3⟩,(a_r2,cap_r2),_)=>[(4,.v (.slice a_r2 l1.length cap_r2))]) (fun F (st:((List Int)×(List Bool))) (hid:{p:Nat×List Asrt // p.1<=xs.length/\J p.1 p.2}×(Option Addr×Nat)×Unit)=>match st,hid with | (l1,l2),(⟨(k_3,tl_3),hk_3,hJ_3⟩,(a_r2,cap_r2),_)=>[que a_r2 cap_r2 3 1 D.i64 l1,arr a_r1 m_r1 cap_r1 4 1 D.bool l2]++tl_3) (⟨(0,tl_0),hk_0,hJ_0⟩,(_,_),()) hm rfl (fun _=>rfl) ⟨rfl,rfl,rfl,trivial⟩ trivial ⟨rfl,trivial⟩ rfl ?_;rintro n ⟨l1,l2⟩ ⟨⟨⟨k_3,tl_3⟩,hk_3,hJ_3⟩,⟨a_r2,cap_r2⟩,⟨⟩⟩ hm
 replace hm:_=some (xs.drop k_3):=hm
 rw [E1] at hm;refine At (L':=[(4,.v (.slice a_r2 l1.length cap_r2)),(0,_),(1,_),(3,_)]) (ms':=[que a_r2 cap_r2 3 1 D.i64 l1,arr a_r1 m_r1 cap_r1 4 1 D.bool l2]++tl_3) rfl rfl ?_;refine zq4 ?_;refine Ak rfl rfl rfl (.view (peekQ (i:=19) 0 rfl rfl rfl) (Em Tryz.runUnderlying43 rfl)) ?_;refine zq2 ?_;refine zcn hm (fun hc1 hm=>?_) (fun hc1 hm=>?_)
 ·refine zq5 ?_
  obtain ⟨x2,hx4,hm⟩:=bS hm;refine Ak rfl rfl rfl (.view (peekQ (i:=22) 0 rfl rfl rfl) (oIm Tryz.runUnderlying43 Tryz.sizeOf3 rfl rfl hx4)) ?_;refine zq6 ?_;obtain ⟨l3,hx5,hm⟩:=bS hm;refine AJ rfl rfl rfl (OJ 0 Tryz.runUnderlying43 Tryz.sizeOf3 rfl rfl rfl rfl hx5) ?_;rintro _ _ ⟨a_r2,cap_r2,rfl,rfl⟩;refine zq7 ?_;obtain ⟨ys_4,hm,he_4⟩:=bS hm;obtain ⟨hy_4,hk_4,rfl⟩:=OV he_4;refine AJ rfl rfl rfl (QJ [_,_] tl_3 rfl rfl (hy k_3 _ tl_3 (S5 hy_4) hJ_3)) ?_;rintro _ _ ⟨_ | _,tl_4,rfl,rfl,hJ_4,hs_4⟩
  ·refine zq2 ?_
   refine Ce rfl rfl ?_;refine Af ?_;exact retK (Cp (ms':=tl_4) (drop:=[_,_]) rfl (List.Perm.refl _)) (.inr (hs_4 rfl))
  ·refine zq2 ?_
   refine Bo rfl rfl ?_;refine zq6 ?_;obtain ⟨x3,hx6,hm⟩:=bS hm;refine zq2 ?_;obtain ⟨x4,hx7,hm⟩:=bS hm;refine zc0 (OW hx7) ?_;refine zq3 ?_;obtain ⟨o_1,hj1,hm1⟩:=bS hm;refine Al [(0,_),(1,_),(3,_)] [] (fun (st:((List Int)×(List Bool))) (hid:(Option Addr×Nat)×Unit)=>match st,hid with | (l4,l5),((a_r2,cap_r2),_)=>[(4,.v (.slice a_r2 l4.length cap_r2))]) (fun F (st:((List Int)×(List Bool))) (hid:(Option Addr×Nat)×Unit)=>match st,hid with | (l4,l5),((a_r2,cap_r2),_)=>[que a_r2 cap_r2 3 1 D.i64 l4,arr a_r1 m_r1 cap_r1 4 1 D.bool l5]++tl_4) (fun st=>st=o_1) ⟨rfl,rfl,rfl,trivial⟩ trivial ?_ ?_
   ·refine Aq ?_
    refine Am [(0,_),(1,_),(3,_),(36,_),(37,_)] [] (fun (st:(Int×(List Int)×(List Bool))) (hid:(Option Addr×Nat)×Unit)=>match st,hid with | (x5,l6,l7),((a_r2,cap_r2),_)=>[(4,.v (.slice a_r2 l6.length cap_r2)),(38,.i64 x5)]) (fun F (st:(Int×(List Int)×(List Bool))) (hid:(Option Addr×Nat)×Unit)=>match st,hid with | (x5,l6,l7),((a_r2,cap_r2),_)=>[que a_r2 cap_r2 3 1 D.i64 l6,arr a_r1 m_r1 cap_r1 4 1 D.bool l7]++tl_4) ((_,_),()) hj1 (fun _=>rfl) ⟨rfl,rfl,rfl,rfl,rfl,trivial⟩ trivial ⟨rfl,rfl,trivial⟩ rfl ?_;rintro n ⟨x5,l6,l7⟩ ⟨⟨a_r2,cap_r2⟩,⟨⟩⟩ hj1;rw [C3] at hj1;refine At (L':=[(4,.v (.slice a_r2 l6.length cap_r2)),(38,.i64 x5),(0,_),(1,_),(3,_),(36,_),(37,_)]) (ms':=[que a_r2 cap_r2 3 1 D.i64 l6,arr a_r1 m_r1 cap_r1 4 1 D.bool l7]++tl_4) rfl rfl ?_;refine zq5 ?_;refine zcn hj1 (fun hc2 hj1=>?_) (fun hc2 hj1=>?_)
    ·refine zq5 ?_
     obtain ⟨x6,hx8,hj1⟩:=bS hj1;refine zq8 ?_;obtain ⟨x7,hx9,hj1⟩:=bS hj1;refine Ak rfl rfl rfl (Ag 1 Tryz.runUnderlying78 Tryz.sizeOf4 rfl rfl rfl hx9) ?_;refine Ak rfl rfl rfl (AR (off:=0) 1 Tryz.isAgg4 rfl rfl (Ay hx9).2 rfl rfl rfl) ?_;refine zq2 ?_;refine zcn hj1 (fun hc3 hj1=>?_) (fun hc3 hj1=>?_)
     ·refine zq4 ?_
      obtain ⟨x8,hx10,hj1⟩:=bS hj1;refine Ak rfl rfl rfl (Ag 1 Tryz.runUnderlying78 Tryz.sizeOf4 rfl rfl rfl hx10) ?_;refine IW rfl rfl (Bn (off:=0) (z':=true) 1 Tryz.sizeOf4 rfl rfl (Ay hx10).2 rfl rfl rfl rfl rfl rfl (nB rfl) rfl rfl) ?_;rintro _ _ rfl;refine Aj (ms':=[_,_]++tl_4) rfl ?_;refine zq4 ?_;refine Ak rfl rfl rfl (zs1 D.i64) ?_;obtain ⟨hg11,hj1⟩:=Aa hj1;refine AJ rfl rfl rfl (M3 (a:=_) 0 Tryz.underlying43 Tryz.type3 rfl rfl rfl rfl rfl rfl rfl (fun _=>rfl) (fun _=>rfl) hg11 (BJ hg11 rfl)) ?_;rintro _ _ ⟨a_r2,cap_r2,rfl,rfl⟩;refine Aj (ms':=[_,_]++tl_4) rfl ?_;refine zq3 ?_;obtain ⟨hg12,hj1⟩:=Aa hj1;refine zq3 ?_;exact ⟨_,((_,_),()),hj1,⟨rfl,rfl,trivial⟩,⟨rfl,rfl,rfl,rfl,rfl,trivial⟩,[],rfl⟩
     ·refine zq2 ?_
      obtain ⟨hg13,hj1⟩:=Aa hj1;refine zq3 ?_;exact ⟨_,((_,_),()),hj1,⟨rfl,rfl,trivial⟩,⟨rfl,rfl,rfl,rfl,rfl,trivial⟩,[],rfl⟩
    ·refine Au ?_
     exact ⟨_,((_,_),()),Ac hj1,⟨rfl,trivial⟩,⟨rfl,rfl,rfl,trivial⟩,[],rfl⟩
   ·rintro ⟨l4,l5⟩ ⟨⟨a_r2,cap_r2⟩,⟨⟩⟩ hst
    subst hst;refine An (L':=[(4,.v (.slice a_r2 l4.length cap_r2)),(0,_),(1,_),(3,_)]) (ms':=[que a_r2 cap_r2 3 1 D.i64 l4,arr a_r1 m_r1 cap_r1 4 1 D.bool l5]++tl_4) rfl rfl ?_;exact ⟨_,(⟨((k_3+1),tl_4),hk_4,(hJ_4 rfl)⟩,(_,_),()),hm1,⟨rfl,trivial⟩,⟨rfl,rfl,rfl,trivial⟩,[],rfl⟩
 ·refine Au ?_
  exact retKn (Cp (ms':=tl_3) (drop:=[_,_]) rfl (List.Perm.refl _)) (.inl (MA hm hk_3 hJ_3 _))
theorem Sc {p0:AutoAuto} :
  Fn0 Tryz.prog 96 [AutoAuto.d p0] (.clo (.func 140) [] [.ref (AutoAuto.d p0)]):=by
 refine Ae Tryz.func96 rfl Tryz.ntmps96 rfl fun H0 fr w0=>?_;refine zq7 ?_;refine Ak rfl rfl rfl (Di rfl rfl) ?_;refine zq2 ?_;refine Af ?_;exact retK (AV rfl (A6 rfl) (EL _)) (by rfl)
def FO (l1:(List Int)):Option (List Int):=
 grd ((0+l1.length)*8<=140737488355328) <|
 some ([]++l1)
theorem Mh {l1:(List Int)} {r_1:(List Int)} (hm:FO l1=some r_1):Fn0 Tryz.prog 28 [.list 1 D.i64 l1] (.list 1 D.i64 r_1):=by
 unfold FO at hm;refine Ae Tryz.func28 rfl Tryz.ntmps28 rfl fun H0 fr w0=>?_;refine zq3 ?_;refine Ap (nilE (i:=2) (sz:=1) (f:=D.i64) rfl).refines ?_;refine zq3 ?_;refine AJ rfl rfl rfl (Ax (xs:=[]) (f:=D.i64) (l:=[]) Tryz.runUnderlying43 Tryz.sizeOf3 Tryz.zeroValue3 rfl rfl rfl (fun _=>⟨rfl,rfl,rfl⟩) rfl (by simp [maxLen])) ?_;rintro _ _ ⟨a_r1,rfl,rfl⟩;refine zq1 ?_;obtain ⟨hg1,hm⟩:=Aa hm;refine zap 0 hg1 fun a_r1 cap_r1=>?_;refine Aj (ms':=[_]) rfl ?_;refine zq2 ?_;refine BY (peekE (i:=2) 0 rfl rfl rfl).refines ?_
 cases hm;exact Af zr1
def B0 (x1:AutoState):Nat->(Int×(List AutoEdge)×(List AutoEdge)×Bool×Bool×Bool×Bool×Bool×Bool×Bool×Bool×(List Int)×Int×Int)->Option ((List AutoEdge)×(List AutoEdge)×Bool×Bool×Bool×Bool×Bool×Bool×Bool×Bool×(List Int)×Int×Int)
 | 0,_=>none
 | n+1,(k1,l6,l7,z14,z15,z16,z17,z18,z19,z20,z21,z22,z23,z24) =>
  bif ((decide (k1<(x1.fields.length:Int)))&&(decide (k1<40))) then
   (idx x1.fields k1).bind fun x3 =>
   (idx x1.fields k1).bind fun x4 =>
   grd ((l7.length+([(⟨x3.name,x4.to_⟩:AutoEdge)]:List _).length)*24<=140737488355328) <|
   grd (InR (k1+1)) <|
   B0 x1 n ((k1+1),l6,(l7++[(⟨x3.name,x4.to_⟩:AutoEdge)]),z14,z15,z16,z17,z18,z19,z20,z21,z22,z23,z24)
  else
   some (l6,l7,z14,z15,z16,z17,z18,z19,z20,z21,z22,z23,z24)
def B1 (x1:AutoState):Nat->(Int×(List AutoEdge)×(List AutoEdge)×Bool×Bool×Bool×Bool×Bool×Bool×Bool×Bool×(List Int)×Int×Int)->Option ((List AutoEdge)×(List AutoEdge)×Bool×Bool×Bool×Bool×Bool×Bool×Bool×Bool×(List Int)×Int×Int)
 | 0,_=>none
 | n+1,(k2,l10,l11,z36,z37,z38,z39,z40,z41,z42,z43,z44,z45,z46) =>
  bif ((decide (k2<(x1.tags.length:Int)))&&(decide (k2<40))) then
   (idx x1.tags k2).bind fun x5 =>
   (idx x1.tags k2).bind fun x6 =>
   grd ((l10.length+([(⟨x5.name,x6.to_⟩:AutoEdge)]:List _).length)*24<=140737488355328) <|
   grd (InR (k2+1)) <|
   B1 x1 n ((k2+1),(l10++[(⟨x5.name,x6.to_⟩:AutoEdge)]),l11,z36,z37,z38,z39,z40,z41,z42,z43,z44,z45,z46)
  else
   some (l10,l11,z36,z37,z38,z39,z40,z41,z42,z43,z44,z45,z46)
def B2 (a1:AutoAuto) (most1:Int):Nat->(Int×(List AutoState)×Int)->Option ((List AutoState)×Int)
 | 0,_=>none
 | n+1,(i1,l2,z2) =>
  bif ((decide (i1<(a1.l.length:Int)))&&((decide (i1<most1))||((decide (2000<(a1.l.length:Int)))&&(decide (i1<=2000))))) then
   (idx a1.l i1).bind fun x1 =>
   (sli x1.vars 0 (if 40<(x1.vars.length:Int) then 40 else (x1.vars.length:Int))).bind fun l3 =>
   (FO l3).bind fun x2 =>
   (B0 x1 FU (0,([]:List AutoEdge),([]:List AutoEdge),x1.plus,x1.all,x1.int,x1.bool,x1.str,x1.arrow,x1.rec_,x1.tag,x2,x1.dom,x1.cod):Option ((List AutoEdge)×(List AutoEdge)×Bool×Bool×Bool×Bool×Bool×Bool×Bool×Bool×(List Int)×Int×Int)).bind fun (l4,l5,z3,z4,z5,z6,z7,z8,z9,z10,z11,z12,z13) =>
   (B1 x1 FU (0,l4,l5,z3,z4,z5,z6,z7,z8,z9,z10,z11,z12,z13):Option ((List AutoEdge)×(List AutoEdge)×Bool×Bool×Bool×Bool×Bool×Bool×Bool×Bool×(List Int)×Int×Int)).bind fun (l8,l9,z25,z26,z27,z28,z29,z30,z31,z32,z33,z34,z35) =>
   grd ((l2.length+([(⟨z25,z26,z27,z28,z29,z30,z31,z32,z33,z34,z35,l9,l8⟩:AutoState)]:List _).length)*96<=140737488355328) <|
   grd (InR (i1+1)) <|
   B2 a1 most1 n ((i1+1),(l2++[(⟨z25,z26,z27,z28,z29,z30,z31,z32,z33,z34,z35,l9,l8⟩:AutoState)]),z2)
  else
   some (l2,z2)
def Cn (a1:AutoAuto) (most1:Int):Option AutoAuto:=
 (B2 a1 most1 FU (0,([]:List AutoState),a1.start):Option ((List AutoState)×Int)).bind fun (l1,z1) =>
 some (⟨l1,z1⟩:AutoAuto)
theorem H9 {a1:AutoAuto} {most1:Int} {r_1:AutoAuto} (hm:Cn a1 most1=some r_1):Fn0 Tryz.prog 7 [AutoAuto.d a1,.i64 most1] (AutoAuto.d r_1):=by
 unfold Cn at hm;refine Ae Tryz.func7 rfl Tryz.ntmps7 rfl fun H0 fr w0=>?_;refine zq3 ?_;refine JY fun b1=>?_;refine zq5 ?_;refine Ak rfl rfl rfl zb27a ?_;refine JY fun b2=>?_;refine zst 0 ?_;refine Ap (AK (T:=59) (sz:=13) (f:=AutoState.d)) ?_;refine Aj (ms':=[_,box b2 27 [_,_],box b1 27 [_,_]]) rfl ?_;refine zq6 ?_;obtain ⟨o_1,hj1,hm1⟩:=bS hm;refine Al [(4,_),(5,_)] [(2,_)] (fun (st:((List AutoState)×Int)) (hid:(Option Addr×Nat))=>match st,hid with | (l1,z1),(a_r1,cap_r1)=>[]) (fun F (st:((List AutoState)×Int)) (hid:(Option Addr×Nat))=>match st,hid with | (l1,z1),(a_r1,cap_r1)=>[row a_r1 cap_r1 59 13 AutoState.d l1,box b2 27 [.v (.slice a_r1 l1.length cap_r1),.i64 z1],(nthF F 0)]) (fun st=>st=o_1) ⟨rfl,rfl,trivial⟩ ⟨rfl,trivial⟩ ?_ ?_
 ·refine Aq ?_
  refine Am [(1,_),(2,_),(4,_),(5,_)] [(2,_)] (fun (st:(Int×(List AutoState)×Int)) (hid:(Option Addr×Nat))=>match st,hid with | (i1,l2,z2),(a_r1,cap_r1)=>[(6,.i64 i1)]) (fun F (st:(Int×(List AutoState)×Int)) (hid:(Option Addr×Nat))=>match st,hid with | (i1,l2,z2),(a_r1,cap_r1)=>[row a_r1 cap_r1 59 13 AutoState.d l2,box b2 27 [.v (.slice a_r1 l2.length cap_r1),.i64 z2],(nthF F 0)]) (_,_) hj1 (fun _=>rfl) ⟨rfl,rfl,rfl,rfl,trivial⟩ ⟨rfl,trivial⟩ ⟨rfl,trivial⟩ rfl ?_;rintro n ⟨i1,l2,z2⟩ ⟨a_r1,cap_r1⟩ hj1;rw [B2] at hj1;refine At (L':=[(6,.i64 i1),(1,_),(2,_),(4,_),(5,_)]) (ms':=[row a_r1 cap_r1 59 13 AutoState.d l2,box b2 27 [.v (.slice a_r1 l2.length cap_r1),.i64 z2],_]) rfl rfl ?_;refine zq9 ?_
  apply Cz [(1,_),(2,_),(4,_),(5,_),(6,_)] 14 33 (t:=19) ⟨rfl,rfl,rfl,rfl,rfl,trivial⟩ rfl
  ·intro hg_1 hk1
   refine zq4 ?_
   apply Cv [(1,_),(2,_),(4,_),(5,_),(6,_),(19,_)] 9 32 (t:=23) ⟨rfl,rfl,rfl,rfl,rfl,rfl,trivial⟩ rfl
   ·intro hg_2 hk2
    refine zq5 ?_
    apply Cz [(1,_),(2,_),(4,_),(5,_),(6,_),(19,_),(23,_)] 3 31 (t:=28) ⟨rfl,rfl,rfl,rfl,rfl,rfl,rfl,trivial⟩ rfl
    ·intro hg_3 hk3
     refine zq3 ?_;exact zgm hk3
    ·intro hg_3 hk3
     refine zq3 ?_;exact zgm hk3
    refine zq1 ?_;exact zgm hk2
   ·intro hg_2 hk2
    refine zq9 ?_;exact zgm hk2
   refine zq1 ?_;exact zgm hk1
  ·intro hg_1 hk1
   refine zq14 ?_;exact zgm hk1
  refine gNl ?_;refine zcn hj1 (fun hc1 hj1=>?_) (fun hc1 hj1=>?_)
  ·refine zq8 ?_
   obtain ⟨x1,hx1,hj1⟩:=bS hj1;refine Ak rfl rfl rfl (oIm Tryz.runUnderlying22 Tryz.sizeOf46 rfl rfl hx1) ?_;refine zq1 ?_;refine S8 fun b3=>?_;refine zst 0 ?_;refine Aj (ms':=[box b3 46 [_,_,_,_,_,_,_,_,_,_,_,_,_],_,box b2 27 [_,_],box b1 27 [_,_]]) rfl ?_;refine zq2 ?_;obtain ⟨l3,hx2,hj1⟩:=bS hj1;obtain ⟨x2,hx3,hj1⟩:=bS hj1;refine Fz 30 [29] AY (by decide +kernel) (by decide +kernel) rfl (by decide +kernel) ?_;refine AD rfl rfl rfl rfl (oFb Q6 rfl) ?_;refine AD rfl rfl rfl rfl (oLb 0 Tryz.isAgg4 rfl rfl rfl rfl) ?_;refine AD rfl rfl rfl rfl (oFb QG rfl) ?_;refine AD rfl rfl rfl rfl (oLb 0 Tryz.isAgg4 rfl rfl rfl rfl) ?_;refine AD rfl rfl rfl rfl (oFb Qg rfl) ?_;refine AD rfl rfl rfl rfl (oLb 0 Tryz.isAgg4 rfl rfl rfl rfl) ?_;refine AD rfl rfl rfl rfl (oFb Qr rfl) ?_;refine AD rfl rfl rfl rfl (oLb 0 Tryz.isAgg4 rfl rfl rfl rfl) ?_;refine AD rfl rfl rfl rfl (oFb QR rfl) ?_;refine AD rfl rfl rfl rfl (oLb 0 Tryz.isAgg4 rfl rfl rfl rfl) ?_;refine AD rfl rfl rfl rfl (oFb QP rfl) ?_;refine AD rfl rfl rfl rfl (oLb 0 Tryz.isAgg4 rfl rfl rfl rfl) ?_;refine AD rfl rfl rfl rfl (oFb QN rfl) ?_;refine AD rfl rfl rfl rfl (oLb 0 Tryz.isAgg4 rfl rfl rfl rfl) ?_;refine AD rfl rfl rfl rfl (oFb Qx rfl) ?_;refine AD rfl rfl rfl rfl (oLb 0 Tryz.isAgg4 rfl rfl rfl rfl) ?_;refine AD rfl rfl rfl rfl (oFb Rc rfl) ?_;refine AD rfl rfl rfl rfl (oLb 0 Tryz.isAgg3 rfl rfl rfl rfl) ?_;refine AD rfl rfl rfl rfl (oFb O8 rfl) ?_;refine AD rfl rfl rfl rfl (oLb 0 Tryz.isAgg3 rfl rfl rfl rfl) ?_;refine AD rfl rfl rfl rfl (oFb Nl rfl) ?_;refine AD rfl rfl rfl rfl (oLb 0 Tryz.isAgg43 rfl rfl rfl rfl) ?_;refine AD rfl rfl rfl rfl (oFb Nl rfl) ?_;refine AD rfl rfl rfl rfl (oLb 0 Tryz.isAgg43 rfl rfl rfl rfl) ?_;refine AD rfl rfl rfl rfl (Em Tryz.runUnderlying43 rfl) ?_;refine AD rfl rfl rfl rfl (Vh rfl rfl) ?_;refine AD rfl rfl rfl rfl (Bu Tryz.runUnderlying43 Tryz.sizeOf3 rfl rfl ⟨_,rfl⟩ hx2) ?_;refine AD rfl rfl rfl rfl (B7 Tryz.call28 rfl (Mh hx3)) ?_;refine AD rfl rfl rfl rfl zb59a ?_;refine DN (R:=fun d A=>∃ b,d = .v (.pointer (some ⟨b,0,none⟩))/\A=box b 59 [.bool false,.bool false,.bool false,.bool false,.bool false,.bool false,.bool false,.bool false,.list 1 D.i64 [],.i64 0,.i64 0,.list 2 AutoEdge.d [],.list 2 AutoEdge.d []]) rfl rfl rfl (OpT.mono (AL Tryz.zeroValue59 (cs:=[.bool false,.bool false,.bool false,.bool false,.bool false,.bool false,.bool false,.bool false,.list 1 D.i64 [],.i64 0,.i64 0,.list 2 AutoEdge.d [],.list 2 AutoEdge.d []]) rfl) (by rintro d ms' ⟨b,rfl,rfl⟩;exact ⟨_,⟨b,rfl,rfl⟩,rfl⟩)) ?_
   refine Gr ?_;rintro _ _ ⟨b4,rfl,rfl⟩;refine zst 0 ?_;refine Ap (AK (T:=62) (sz:=2) (f:=AutoEdge.d)) ?_;refine Ap (AK (T:=62) (sz:=2) (f:=AutoEdge.d)) ?_;refine Aj (ms':=[_,_,box b4 59 [_,_,_,_,_,_,_,_,_,_,_,_,_],box b3 46 [_,_,_,_,_,_,_,_,_,_,_,_,_],_,box b2 27 [_,_],box b1 27 [_,_]]) rfl ?_;refine zq6 ?_;obtain ⟨o_2,hj2,hm2⟩:=bS hj1;refine Al [(1,_),(2,_),(4,_),(5,_),(6,_),(7,_),(8,_)] [(3,_),(4,_),(5,_),(6,_)] (fun (st:((List AutoEdge)×(List AutoEdge)×Bool×Bool×Bool×Bool×Bool×Bool×Bool×Bool×(List Int)×Int×Int)) (hid:(Option Addr×Nat)×(Option Addr×Nat))=>match st,hid with | (l4,l5,z3,z4,z5,z6,z7,z8,z9,z10,z11,z12,z13),((a_r3,cap_r3),(a_r2,cap_r2))=>[]) (fun F (st:((List AutoEdge)×(List AutoEdge)×Bool×Bool×Bool×Bool×Bool×Bool×Bool×Bool×(List Int)×Int×Int)) (hid:(Option Addr×Nat)×(Option Addr×Nat))=>match st,hid with | (l4,l5,z3,z4,z5,z6,z7,z8,z9,z10,z11,z12,z13),((a_r3,cap_r3),(a_r2,cap_r2))=>[row a_r3 cap_r3 62 2 AutoEdge.d l4,row a_r2 cap_r2 62 2 AutoEdge.d l5,box b4 59 [.bool z3,.bool z4,.bool z5,.bool z6,.bool z7,.bool z8,.bool z9,.bool z10,.list 1 D.i64 z11,.i64 z12,.i64 z13,.v (.slice a_r2 l5.length cap_r2),.v (.slice a_r3 l4.length cap_r3)],(nthF F 0),(nthF F 1),(nthF F 2),(nthF F 3)]) (fun st=>st=o_2) ⟨rfl,rfl,rfl,rfl,rfl,rfl,rfl,trivial⟩ ⟨rfl,rfl,rfl,rfl,trivial⟩ ?_ ?_
   ·refine Aq ?_
    refine Am [(1,_),(2,_),(4,_),(5,_),(6,_),(7,_),(8,_)] [(3,_),(4,_),(5,_),(6,_)] (fun (st:(Int×(List AutoEdge)×(List AutoEdge)×Bool×Bool×Bool×Bool×Bool×Bool×Bool×Bool×(List Int)×Int×Int)) (hid:(Option Addr×Nat)×(Option Addr×Nat))=>match st,hid with | (k1,l6,l7,z14,z15,z16,z17,z18,z19,z20,z21,z22,z23,z24),((a_r3,cap_r3),(a_r2,cap_r2))=>[(9,.i64 k1)]) (fun F (st:(Int×(List AutoEdge)×(List AutoEdge)×Bool×Bool×Bool×Bool×Bool×Bool×Bool×Bool×(List Int)×Int×Int)) (hid:(Option Addr×Nat)×(Option Addr×Nat))=>match st,hid with | (k1,l6,l7,z14,z15,z16,z17,z18,z19,z20,z21,z22,z23,z24),((a_r3,cap_r3),(a_r2,cap_r2))=>[row a_r3 cap_r3 62 2 AutoEdge.d l6,row a_r2 cap_r2 62 2 AutoEdge.d l7,box b4 59 [.bool z14,.bool z15,.bool z16,.bool z17,.bool z18,.bool z19,.bool z20,.bool z21,.list 1 D.i64 z22,.i64 z23,.i64 z24,.v (.slice a_r2 l7.length cap_r2),.v (.slice a_r3 l6.length cap_r3)],(nthF F 0),(nthF F 1),(nthF F 2),(nthF F 3)]) ((_,_),(_,_)) hj2 (fun _=>rfl) ⟨rfl,rfl,rfl,rfl,rfl,rfl,rfl,trivial⟩ ⟨rfl,rfl,rfl,rfl,trivial⟩ ⟨rfl,trivial⟩ rfl ?_;rintro n ⟨k1,l6,l7,z14,z15,z16,z17,z18,z19,z20,z21,z22,z23,z24⟩ ⟨⟨a_r3,cap_r3⟩,⟨a_r2,cap_r2⟩⟩ hj2;rw [B0] at hj2;refine At (L':=[(9,.i64 k1),(1,_),(2,_),(4,_),(5,_),(6,_),(7,_),(8,_)]) (ms':=[row a_r3 cap_r3 62 2 AutoEdge.d l6,row a_r2 cap_r2 62 2 AutoEdge.d l7,box b4 59 [.bool z14,.bool z15,.bool z16,.bool z17,.bool z18,.bool z19,.bool z20,.bool z21,.list 1 D.i64 z22,.i64 z23,.i64 z24,.v (.slice a_r2 l7.length cap_r2),.v (.slice a_r3 l6.length cap_r3)],_,_,_,_]) rfl rfl ?_;refine zq9 ?_
    apply Cz [(1,_),(2,_),(4,_),(5,_),(6,_),(7,_),(8,_),(9,_)] 3 78 (t:=75) ⟨rfl,rfl,rfl,rfl,rfl,rfl,rfl,rfl,trivial⟩ rfl
    ·intro hg_4 hk4
     refine zq3 ?_;exact zgm hk4
    ·intro hg_4 hk4
     refine zq3 ?_;exact zgm hk4
    refine gNl ?_;refine zcn hj2 (fun hc2 hj2=>?_) (fun hc2 hj2=>?_)
    ·refine zq3 ?_
     obtain ⟨x3,hx4,hj2⟩:=bS hj2;obtain ⟨x4,hx5,hj2⟩:=bS hj2;refine zdr 16 ?_;refine zq5 ?_;refine Av rfl rfl rfl (oIm Tryz.runUnderlying44 Tryz.sizeOf61 rfl rfl hx4) ?_;refine zq5 ?_;refine Av rfl rfl rfl (oIm Tryz.runUnderlying44 Tryz.sizeOf61 rfl rfl hx5) ?_;refine zq2 ?_;refine Av rfl rfl rfl zb62a ?_;refine Av rfl rfl rfl (Ai (xs:=[_]) (f:=AutoEdge.d) (l:=[(⟨x3.name,x4.to_⟩:AutoEdge)]) Tryz.runUnderlying57 Tryz.sizeOf62 Tryz.zeroValue62 rfl rfl rfl (fun _=>⟨rfl,rfl,rfl⟩) rfl) ?_;refine EB ?_;obtain ⟨hg6,hj2⟩:=Aa hj2;refine zap 1 hg6 fun a_r2 cap_r2=>?_;refine Aj (ms':=[_,_,box b4 59 [_,_,_,_,_,_,_,_,_,_,_,_,_],box b3 46 [_,_,_,_,_,_,_,_,_,_,_,_,_],_,box b2 27 [_,_],box b1 27 [_,_]]) rfl ?_;refine zq1 ?_;refine zst 2 ?_;refine Aj (ms':=[_,_,box b4 59 [_,_,_,_,_,_,_,_,_,_,_,_,_],box b3 46 [_,_,_,_,_,_,_,_,_,_,_,_,_],_,box b2 27 [_,_],box b1 27 [_,_]]) rfl ?_;refine zq3 ?_;obtain ⟨hg7,hj2⟩:=Aa hj2;refine zq3 ?_;exact ⟨_,((_,_),(_,_)),hj2,⟨rfl,trivial⟩,⟨rfl,rfl,rfl,rfl,rfl,rfl,rfl,trivial⟩,[],rfl⟩
    ·refine Au ?_
     exact ⟨_,((_,_),(_,_)),Ac hj2,trivial,⟨rfl,rfl,rfl,rfl,rfl,rfl,rfl,trivial⟩,[],rfl⟩
   ·rintro ⟨l4,l5,z3,z4,z5,z6,z7,z8,z9,z10,z11,z12,z13⟩ ⟨⟨a_r3,cap_r3⟩,⟨a_r2,cap_r2⟩⟩ hst
    subst hst;refine An (L':=[(1,_),(2,_),(4,_),(5,_),(6,_),(7,_),(8,_)]) (ms':=[row a_r3 cap_r3 62 2 AutoEdge.d l4,row a_r2 cap_r2 62 2 AutoEdge.d l5,box b4 59 [.bool z3,.bool z4,.bool z5,.bool z6,.bool z7,.bool z8,.bool z9,.bool z10,.list 1 D.i64 z11,.i64 z12,.i64 z13,.v (.slice a_r2 l5.length cap_r2),.v (.slice a_r3 l4.length cap_r3)],_,_,_,_]) rfl rfl ?_;refine zq5 ?_;obtain ⟨o_3,hj3,hm3⟩:=bS hm2;refine Al [(1,_),(2,_),(4,_),(5,_),(6,_),(8,_)] [(3,_),(4,_),(5,_),(6,_)] (fun (st:((List AutoEdge)×(List AutoEdge)×Bool×Bool×Bool×Bool×Bool×Bool×Bool×Bool×(List Int)×Int×Int)) (hid:(Option Addr×Nat)×(Option Addr×Nat))=>match st,hid with | (l8,l9,z25,z26,z27,z28,z29,z30,z31,z32,z33,z34,z35),((a_r3,cap_r3),(a_r2,cap_r2))=>[]) (fun F (st:((List AutoEdge)×(List AutoEdge)×Bool×Bool×Bool×Bool×Bool×Bool×Bool×Bool×(List Int)×Int×Int)) (hid:(Option Addr×Nat)×(Option Addr×Nat))=>match st,hid with | (l8,l9,z25,z26,z27,z28,z29,z30,z31,z32,z33,z34,z35),((a_r3,cap_r3),(a_r2,cap_r2))=>[row a_r3 cap_r3 62 2 AutoEdge.d l8,row a_r2 cap_r2 62 2 AutoEdge.d l9,box b4 59 [.bool z25,.bool z26,.bool z27,.bool z28,.bool z29,.bool z30,.bool z31,.bool z32,.list 1 D.i64 z33,.i64 z34,.i64 z35,.v (.slice a_r2 l9.length cap_r2),.v (.slice a_r3 l8.length cap_r3)],(nthF F 0),(nthF F 1),(nthF F 2),(nthF F 3)]) (fun st=>st=o_3) ⟨rfl,rfl,rfl,rfl,rfl,rfl,trivial⟩ ⟨rfl,rfl,rfl,rfl,trivial⟩ ?_ ?_
    ·refine Aq ?_
     refine Am [(1,_),(2,_),(4,_),(5,_),(6,_),(7,_),(8,_)] [(3,_),(4,_),(5,_),(6,_)] (fun (st:(Int×(List AutoEdge)×(List AutoEdge)×Bool×Bool×Bool×Bool×Bool×Bool×Bool×Bool×(List Int)×Int×Int)) (hid:(Option Addr×Nat)×(Option Addr×Nat))=>match st,hid with | (k2,l10,l11,z36,z37,z38,z39,z40,z41,z42,z43,z44,z45,z46),((a_r3,cap_r3),(a_r2,cap_r2))=>[(10,.i64 k2)]) (fun F (st:(Int×(List AutoEdge)×(List AutoEdge)×Bool×Bool×Bool×Bool×Bool×Bool×Bool×Bool×(List Int)×Int×Int)) (hid:(Option Addr×Nat)×(Option Addr×Nat))=>match st,hid with | (k2,l10,l11,z36,z37,z38,z39,z40,z41,z42,z43,z44,z45,z46),((a_r3,cap_r3),(a_r2,cap_r2))=>[row a_r3 cap_r3 62 2 AutoEdge.d l10,row a_r2 cap_r2 62 2 AutoEdge.d l11,box b4 59 [.bool z36,.bool z37,.bool z38,.bool z39,.bool z40,.bool z41,.bool z42,.bool z43,.list 1 D.i64 z44,.i64 z45,.i64 z46,.v (.slice a_r2 l11.length cap_r2),.v (.slice a_r3 l10.length cap_r3)],(nthF F 0),(nthF F 1),(nthF F 2),(nthF F 3)]) ((_,_),(_,_)) hj3 (fun _=>rfl) ⟨rfl,rfl,rfl,rfl,rfl,rfl,rfl,trivial⟩ ⟨rfl,rfl,rfl,rfl,trivial⟩ ⟨rfl,trivial⟩ rfl ?_;rintro n ⟨k2,l10,l11,z36,z37,z38,z39,z40,z41,z42,z43,z44,z45,z46⟩ ⟨⟨a_r3,cap_r3⟩,⟨a_r2,cap_r2⟩⟩ hj3;rw [B1] at hj3;refine At (L':=[(10,.i64 k2),(1,_),(2,_),(4,_),(5,_),(6,_),(7,_),(8,_)]) (ms':=[row a_r3 cap_r3 62 2 AutoEdge.d l10,row a_r2 cap_r2 62 2 AutoEdge.d l11,box b4 59 [.bool z36,.bool z37,.bool z38,.bool z39,.bool z40,.bool z41,.bool z42,.bool z43,.list 1 D.i64 z44,.i64 z45,.i64 z46,.v (.slice a_r2 l11.length cap_r2),.v (.slice a_r3 l10.length cap_r3)],_,_,_,_]) rfl rfl ?_;refine zq9 ?_
     apply Cz [(1,_),(2,_),(4,_),(5,_),(6,_),(7,_),(8,_),(10,_)] 3 107 (t:=104) ⟨rfl,rfl,rfl,rfl,rfl,rfl,rfl,rfl,trivial⟩ rfl
     ·intro hg_5 hk5
      refine zq3 ?_;exact zgm hk5
     ·intro hg_5 hk5
      refine zq3 ?_;exact zgm hk5
     refine gNl ?_;refine zcn hj3 (fun hc3 hj3=>?_) (fun hc3 hj3=>?_)
     ·refine zq3 ?_
      obtain ⟨x5,hx8,hj3⟩:=bS hj3;obtain ⟨x6,hx9,hj3⟩:=bS hj3;refine zdr 16 ?_;refine zq5 ?_;refine Av rfl rfl rfl (oIm Tryz.runUnderlying44 Tryz.sizeOf61 rfl rfl hx8) ?_;refine zq5 ?_;refine Av rfl rfl rfl (oIm Tryz.runUnderlying44 Tryz.sizeOf61 rfl rfl hx9) ?_;refine zq2 ?_;refine Av rfl rfl rfl zb62a ?_;refine Av rfl rfl rfl (Ai (xs:=[_]) (f:=AutoEdge.d) (l:=[(⟨x5.name,x6.to_⟩:AutoEdge)]) Tryz.runUnderlying57 Tryz.sizeOf62 Tryz.zeroValue62 rfl rfl rfl (fun _=>⟨rfl,rfl,rfl⟩) rfl) ?_;refine EB ?_;obtain ⟨hg10,hj3⟩:=Aa hj3;refine zap 0 hg10 fun a_r3 cap_r3=>?_;refine Aj (ms':=[_,_,box b4 59 [_,_,_,_,_,_,_,_,_,_,_,_,_],box b3 46 [_,_,_,_,_,_,_,_,_,_,_,_,_],_,box b2 27 [_,_],box b1 27 [_,_]]) rfl ?_;refine zq1 ?_;refine zst 2 ?_;refine Aj (ms':=[_,_,box b4 59 [_,_,_,_,_,_,_,_,_,_,_,_,_],box b3 46 [_,_,_,_,_,_,_,_,_,_,_,_,_],_,box b2 27 [_,_],box b1 27 [_,_]]) rfl ?_;refine zq3 ?_;obtain ⟨hg11,hj3⟩:=Aa hj3;refine zq3 ?_;exact ⟨_,((_,_),(_,_)),hj3,⟨rfl,trivial⟩,⟨rfl,rfl,rfl,rfl,rfl,rfl,rfl,trivial⟩,[],rfl⟩
     ·refine Au ?_
      exact ⟨_,((_,_),(_,_)),Ac hj3,trivial,⟨rfl,rfl,rfl,rfl,rfl,rfl,trivial⟩,[],rfl⟩
    ·rintro ⟨l8,l9,z25,z26,z27,z28,z29,z30,z31,z32,z33,z34,z35⟩ ⟨⟨a_r3,cap_r3⟩,⟨a_r2,cap_r2⟩⟩ hst
     subst hst;refine An (L':=[(1,_),(2,_),(4,_),(5,_),(6,_),(8,_)]) (ms':=[row a_r3 cap_r3 62 2 AutoEdge.d l8,row a_r2 cap_r2 62 2 AutoEdge.d l9,box b4 59 [.bool z25,.bool z26,.bool z27,.bool z28,.bool z29,.bool z30,.bool z31,.bool z32,.list 1 D.i64 z33,.i64 z34,.i64 z35,.v (.slice a_r2 l9.length cap_r2),.v (.slice a_r3 l8.length cap_r3)],_,_,_,_]) rfl rfl ?_;refine zq4 ?_;refine Ap (CP (i:=130) (q:=11) 1 rfl rfl rfl rfl rfl).refines ?_;refine Ap (CP (i:=130) (q:=12) 0 rfl rfl rfl rfl rfl).refines ?_;refine Ak rfl rfl rfl (Ai (xs:=[_]) (f:=AutoState.d) (l:=[(⟨z25,z26,z27,z28,z29,z30,z31,z32,z33,z34,z35,l9,l8⟩:AutoState)]) Tryz.runUnderlying25 Tryz.sizeOf59 Tryz.zeroValue59 rfl rfl rfl (fun _=>⟨rfl,rfl,rfl⟩) rfl) ?_;obtain ⟨hg12,hm3⟩:=Aa hm3;refine zap 4 hg12 fun a_r1 cap_r1=>?_;refine Aj (ms':=[_,_,box b4 59 [_,_,_,_,_,_,_,_,_,_,_,_,_],box b3 46 [_,_,_,_,_,_,_,_,_,_,_,_,_],_,box b2 27 [_,_],box b1 27 [_,_]]) rfl ?_;refine zq1 ?_;refine zst 5 ?_;refine Aj (ms':=[_,_,box b4 59 [_,_,_,_,_,_,_,_,_,_,_,_,_],box b3 46 [_,_,_,_,_,_,_,_,_,_,_,_,_],_,box b2 27 [_,_],box b1 27 [_,_]]) rfl ?_;refine zq3 ?_;obtain ⟨hg13,hm3⟩:=Aa hm3;refine zq3 ?_;exact ⟨_,(_,_),hm3,⟨rfl,trivial⟩,⟨rfl,rfl,rfl,rfl,trivial⟩,[_,_,_,_],rfl⟩
  ·refine Au ?_
   exact ⟨_,(_,_),Ac hj1,trivial,⟨rfl,rfl,trivial⟩,[],rfl⟩
 ·rintro ⟨l1,z1⟩ ⟨a_r1,cap_r1⟩ hst
  subst hst;refine An (L':=[(4,_),(5,_)]) (ms':=[row a_r1 cap_r1 59 13 AutoState.d l1,box b2 27 [.v (.slice a_r1 l1.length cap_r1),.i64 z1],_]) rfl rfl ?_;refine zq3 ?_;refine Ap (CP (i:=134) (q:=0) 0 rfl rfl rfl rfl rfl).refines ?_;refine zst 2 ?_;refine Aj (ms':=[_,box b2 27 [_,_],box b1 27 [_,_]]) rfl ?_;refine gNl ?_
  cases hm1;exact Af zr1
def AG (s1:(List AutoState)) (f1:(AutoState->Option Bool)):Nat->Int->Option (Out Int Unit)
 | 0,_=>none
 | n+1,x1 =>
  bif (decide (x1<(s1.length:Int))) then
   (idx s1 x1).bind fun x2 =>
   (f1 x2).bind fun x3 =>
   bif x3 then
    some (Out.ret x1)
   else
    grd (InR (x1+1)) <|
    AG s1 f1 n (x1+1)
  else
   some (Out.go (()))
def A5 (s1:(List AutoState)) (f1:(AutoState->Option Bool)):Option Int:=
 ((AG s1 f1 FU 0:Option (Out Int Unit))).bind (fun oo=>oo.on (fun r1=>some r1) (fun _ =>
 some (-1)))
theorem DR {s1:(List AutoState)} {f1:(AutoState->Option Bool)} {r_1:Int} {fv_f1:D} (hff1:ID Tryz.prog fv_f1 AutoState.d D.bool f1) (hm:A5 s1 f1=some r_1):Fn0 Tryz.prog 131 [.list 13 AutoState.d s1,fv_f1] (.i64 r_1):=by
 unfold A5 at hm;refine Ae Tryz.func131 rfl Tryz.ntmps131 rfl fun H0 fr w0=>?_;refine zq11 ?_;obtain ⟨o_1,hj1,hm1⟩:=bS hm;refine Al [] [] (fun (st:Unit) (hid:Unit)=>match st,hid with | _,_=>[]) (fun F (st:Unit) (hid:Unit)=>match st,hid with | _,_=>[]) (fun st=>Out.go (st)=o_1) trivial trivial ?_ ?_
 ·refine Aq ?_
  refine Am [(0,_),(1,_),(7,_)] [] (fun (st:Int) (hid:Unit)=>match st,hid with | x1,_=>[(8,.i64 x1)]) (fun F (st:Int) (hid:Unit)=>match st,hid with | x1,_=>[]) () hj1 (fun _=>rfl) ⟨rfl,rfl,rfl,trivial⟩ trivial ⟨rfl,trivial⟩ rfl ?_;rintro n x1 _ hj1;rw [AG] at hj1;refine At (L':=[(8,.i64 x1),(0,_),(1,_),(7,_)]) (ms':=[]) rfl rfl ?_;refine zq5 ?_;refine zcn hj1 (fun hc1 hj1=>?_) (fun hc1 hj1=>?_)
  ·refine zq13 ?_
   obtain ⟨x2,hx1,hj1⟩:=bS hj1;refine zq2 ?_;obtain ⟨x3,hx2,hj1⟩:=bS hj1;refine Ak rfl rfl rfl (GK rfl rfl (hff1 _ _ hx2)) ?_;refine gNl ?_;refine zcn hj1 (fun hc2 hj1=>?_) (fun hc2 hj1=>?_)
   ·refine zq5 ?_
    refine Af ?_;obtain rfl:=Ac hj1
    replace hm1:=B8 hm1
    cases hm1;exact zr1
   ·refine zq2 ?_
    obtain ⟨hg3,hj1⟩:=Aa hj1;refine zq3 ?_;exact ⟨_,(),hj1,⟨rfl,trivial⟩,⟨rfl,rfl,rfl,trivial⟩,[],rfl⟩
  ·refine Au ?_
   exact ⟨_,(),Ac hj1,trivial,trivial,[],rfl⟩
 ·rintro _ _ hst
  subst hst
  replace hm1:=DH hm1
  refine An (L':=[]) (ms':=[]) rfl rfl ?_;refine zq4 ?_
  cases hm1;exact Af zr1
def AM (s1:(List AutoState)) (f1:(AutoState->Option Bool)):Option Bool:=
 (A5 s1 f1).bind fun x1 =>
 some (decide (0<=x1))
theorem Du {s1:(List AutoState)} {f1:(AutoState->Option Bool)} {r_1:Bool} {fv_f1:D} (hff1:ID Tryz.prog fv_f1 AutoState.d D.bool f1) (hm:AM s1 f1=some r_1):Fn0 Tryz.prog 90 [.list 13 AutoState.d s1,fv_f1] (.bool r_1):=by
 unfold AM at hm;refine Ae Tryz.func90 rfl Tryz.ntmps90 rfl fun H0 fr w0=>?_;refine zq8 ?_;obtain ⟨x1,hx1,hm⟩:=bS hm;refine zc0 (DR hff1 hx1) ?_;refine zq3 ?_
 cases hm;exact Af zr1
def Cs (a1:AutoAuto) (k1:Int) (plus1:Bool):Option Bool:=
 (bif ((decide (0<=k1))&&(decide (k1<(a1.l.length:Int)))) then ((idx a1.l k1).bind fun x1 =>
 some (x1.plus == plus1)) else (some false)).bind fun p1 =>
 some p1
theorem EY {a1:AutoAuto} {k1:Int} {plus1:Bool} {r_1:Bool} (hm:Cs a1 k1 plus1=some r_1):Fn0 Tryz.prog 93 [AutoAuto.d a1,.i64 k1,.bool plus1] (.bool r_1):=by
 unfold Cs at hm;refine Ae Tryz.func93 rfl Tryz.ntmps93 rfl fun H0 fr w0=>?_;refine zq10 ?_
 apply Cz [(1,_),(2,_),(3,_)] 6 15 (t:=9) ⟨rfl,rfl,rfl,trivial⟩ rfl
 ·intro hg_1 hk1
  refine zq6 ?_;exact zgm hk1
 ·intro hg_1 hk1
  refine zq6 ?_;exact zgm hk1
 refine zq1 ?_;obtain ⟨p1,hp_2,hm⟩:=bS hm;refine Bs [] 9 25 p1 (t:=16) trivial rfl (fun hg_2 hk2=>?_) (fun hg_2 hk2=>?_) ?_
 ·replace hp_2:=Bg hg_2 hp_2
  refine zq3 ?_;obtain ⟨x1,hx1,hp_2⟩:=bS hp_2;refine zq6 ?_;exact zgb hk2 hp_2
 ·replace hp_2:=Be hg_2 hp_2
  refine zq9 ?_;exact zgb hk2 hp_2
 refine zq2 ?_
 cases hm;exact Af zr1
def Fq (s1:AutoState):Option Bool:=
 bif (s1.all&&((((((s1.int||s1.bool)||s1.str)||s1.arrow)||s1.rec_)||s1.tag)||(decide (0<(s1.vars.length:Int))))) then
  some false
 else
  bif ((!s1.arrow)&&((!decide (s1.dom=0))||(!decide (s1.cod=0)))) then
   some false
  else
   some ((s1.rec_||(decide ((s1.fields.length:Int)=0)))&&(s1.tag||(decide ((s1.tags.length:Int)=0))))
theorem Pl {s1:AutoState} {r_1:Bool} (hm:Fq s1=some r_1):Fn0 Tryz.prog 132 [AutoState.d s1] (.bool r_1):=by
 unfold Fq at hm;refine Ae Tryz.func132 rfl Tryz.ntmps132 rfl fun H0 fr w0=>?_;refine zq12 ?_
 apply Cz [(1,_)] 29 35 (t:=6) ⟨rfl,trivial⟩ rfl
 ·intro hg_1 hk1
  refine zq3 ?_
  apply Cv [(1,_),(6,_)] 3 12 (t:=9) ⟨rfl,rfl,trivial⟩ rfl
  ·intro hg_2 hk2
   refine zq3 ?_;exact zgm hk2
  ·intro hg_2 hk2
   refine zq3 ?_;exact zgm hk2
  refine zq1 ?_
  apply Cv [(1,_),(6,_)] 3 16 (t:=13) ⟨rfl,rfl,trivial⟩ rfl
  ·intro hg_3 hk3
   refine zq3 ?_;exact zgm hk3
  ·intro hg_3 hk3
   refine zq3 ?_;exact zgm hk3
  refine zq1 ?_
  apply Cv [(1,_),(6,_)] 3 20 (t:=17) ⟨rfl,rfl,trivial⟩ rfl
  ·intro hg_4 hk4
   refine zq3 ?_;exact zgm hk4
  ·intro hg_4 hk4
   refine zq3 ?_;exact zgm hk4
  refine zq1 ?_
  apply Cv [(1,_),(6,_)] 3 24 (t:=21) ⟨rfl,rfl,trivial⟩ rfl
  ·intro hg_5 hk5
   refine zq3 ?_;exact zgm hk5
  ·intro hg_5 hk5
   refine zq3 ?_;exact zgm hk5
  refine zq1 ?_
  apply Cv [(1,_),(6,_)] 3 28 (t:=25) ⟨rfl,rfl,trivial⟩ rfl
  ·intro hg_6 hk6
   refine zq3 ?_;exact zgm hk6
  ·intro hg_6 hk6
   refine zq3 ?_;exact zgm hk6
  refine zq1 ?_
  apply Cv [(1,_),(6,_)] 5 34 (t:=29) ⟨rfl,rfl,trivial⟩ rfl
  ·intro hg_7 hk7
   refine zq5 ?_;exact zgm hk7
  ·intro hg_7 hk7
   refine zq5 ?_;exact zgm hk7
  refine zq1 ?_;exact zgm hk1
 ·intro hg_1 hk1
  refine zq29 ?_;exact zgm hk1
 refine zq2 ?_;refine zcn hm (fun hc1 hm=>?_) (fun hc1 hm=>?_)
 ·refine zq4 ?_
  cases hm;exact Af zr1
 ·refine zq6 ?_
  apply Cz [(1,_)] 9 49 (t:=40) ⟨rfl,trivial⟩ rfl
  ·intro hg_8 hk8
   refine zq4 ?_
   apply Cv [(1,_),(40,_)] 4 48 (t:=44) ⟨rfl,rfl,trivial⟩ rfl
   ·intro hg_9 hk9
    refine zq4 ?_;exact zgm hk9
   ·intro hg_9 hk9
    refine zq4 ?_;exact zgm hk9
   refine zq1 ?_;exact zgm hk8
  ·intro hg_8 hk8
   refine zq9 ?_;exact zgm hk8
  refine zq2 ?_;refine zcn hm (fun hc2 hm=>?_) (fun hc2 hm=>?_)
  ·refine zq4 ?_
   cases hm;exact Af zr1
  ·refine zq6 ?_
   apply Cv [(1,_)] 5 57 (t:=52) ⟨rfl,trivial⟩ rfl
   ·intro hg_10 hk10
    refine zq5 ?_;exact zgm hk10
   ·intro hg_10 hk10
    refine zq5 ?_;exact zgm hk10
   refine zq1 ?_
   apply Cz [] 9 67 (t:=58) trivial rfl
   ·intro hg_11 hk11
    refine zq3 ?_
    apply Cv [(58,_)] 5 66 (t:=61) ⟨rfl,trivial⟩ rfl
    ·intro hg_12 hk12
     refine zq5 ?_;exact zgm hk12
    ·intro hg_12 hk12
     refine zq5 ?_;exact zgm hk12
    refine zq1 ?_;exact zgm hk11
   ·intro hg_11 hk11
    refine zq9 ?_;exact zgm hk11
   refine zq2 ?_
   cases hm;exact Af zr1
def Cg (l1:(List Int)):Nat->Int->Option (Out Bool Unit)
 | 0,_=>none
 | n+1,x1 =>
  bif (decide (x1<(l1.length:Int))) then
   (idx l1 x1).bind fun x2 =>
   (bif ((decide (x2<0))||(decide (999<x2))) then (some true) else ((bif (decide (0<x1)) then (grd (InR (x1 - 1)) <|
   (idx l1 (x1 - 1)).bind fun x3 =>
   some (decide (x2<=x3))) else (some false)).bind fun p2 =>
   some p2)).bind fun p1 =>
   bif p1 then
    some (Out.ret false)
   else
    grd (InR (x1+1)) <|
    Cg l1 n (x1+1)
  else
   some (Out.go (()))
def DG (l1:(List Int)):Option Bool:=
 ((Cg l1 FU 0:Option (Out Bool Unit))).bind (fun oo=>oo.on (fun r1=>some r1) (fun _ =>
 some true))
theorem Kz {l1:(List Int)} {r_1:Bool} (hm:DG l1=some r_1):Fn0 Tryz.prog 133 [.list 1 D.i64 l1] (.bool r_1):=by
 unfold DG at hm;refine Ae Tryz.func133 rfl Tryz.ntmps133 rfl fun H0 fr w0=>?_;refine zq11 ?_;obtain ⟨o_1,hj1,hm1⟩:=bS hm;refine Al [] [] (fun (st:Unit) (hid:Unit)=>match st,hid with | _,_=>[]) (fun F (st:Unit) (hid:Unit)=>match st,hid with | _,_=>[]) (fun st=>Out.go (st)=o_1) trivial trivial ?_ ?_
 ·refine Aq ?_
  refine Am [(0,_),(5,_),(6,_)] [] (fun (st:Int) (hid:Unit)=>match st,hid with | x1,_=>[(7,.i64 x1)]) (fun F (st:Int) (hid:Unit)=>match st,hid with | x1,_=>[]) () hj1 (fun _=>rfl) ⟨rfl,rfl,rfl,trivial⟩ trivial ⟨rfl,trivial⟩ rfl ?_;rintro n x1 _ hj1;rw [Cg] at hj1;refine At (L':=[(7,.i64 x1),(0,_),(5,_),(6,_)]) (ms':=[]) rfl rfl ?_;refine zq5 ?_;refine zcn hj1 (fun hc1 hj1=>?_) (fun hc1 hj1=>?_)
  ·refine zq6 ?_
   obtain ⟨x2,hx1,hj1⟩:=bS hj1;refine zq10 ?_
   apply Cv [(0,_),(3,_),(4,_),(5,_),(6,_),(7,_)] 3 17 (t:=14) ⟨rfl,rfl,rfl,rfl,rfl,rfl,trivial⟩ rfl
   ·intro hg_1 hk1
    refine zq3 ?_;exact zgm hk1
   ·intro hg_1 hk1
    refine zq3 ?_;exact zgm hk1
   refine zq1 ?_;obtain ⟨p1,hp_2,hj1⟩:=bS hj1;refine Bs [(0,_),(5,_),(6,_),(7,_)] 12 30 p1 (t:=18) ⟨rfl,rfl,rfl,rfl,trivial⟩ rfl (fun hg_2 hk2=>?_) (fun hg_2 hk2=>?_) ?_
   ·replace hp_2:=Bg hg_2 hp_2
    refine zq12 ?_;exact zgb hk2 hp_2
   ·replace hp_2:=Be hg_2 hp_2
    refine zq3 ?_;obtain ⟨p2,hp_3,hp_2⟩:=bS hp_2;refine Bs [(0,_),(5,_),(6,_),(7,_),(18,_)] 8 29 p2 (t:=21) ⟨rfl,rfl,rfl,rfl,rfl,trivial⟩ rfl (fun hg_3 hk3=>?_) (fun hg_3 hk3=>?_) ?_
    ·replace hp_3:=Bg hg_3 hp_3
     refine zq2 ?_;obtain ⟨hg2,hp_3⟩:=Aa hp_3;refine zq1 ?_;obtain ⟨x3,hx3,hp_3⟩:=bS hp_3;refine zq5 ?_;exact zgb hk3 hp_3
    ·replace hp_3:=Be hg_3 hp_3
     refine zq8 ?_;exact zgb hk3 hp_3
    refine zq1 ?_;exact zgb hk2 hp_2
   refine gNl ?_;refine zcn hj1 (fun hc2 hj1=>?_) (fun hc2 hj1=>?_)
   ·refine zq4 ?_
    refine Af ?_;obtain rfl:=Ac hj1
    replace hm1:=B8 hm1
    cases hm1;exact zr1
   ·refine zq2 ?_
    obtain ⟨hg4,hj1⟩:=Aa hj1;refine zq3 ?_;exact ⟨_,(),hj1,⟨rfl,trivial⟩,⟨rfl,rfl,rfl,trivial⟩,[],rfl⟩
  ·refine Au ?_
   exact ⟨_,(),Ac hj1,trivial,trivial,[],rfl⟩
 ·rintro _ _ hst
  subst hst
  replace hm1:=DH hm1
  refine An (L':=[]) (ms':=[]) rfl rfl ?_;refine zq4 ?_
  cases hm1;exact Af zr1
def CC (l1:(List AutoEdge)) (is1:((List UInt8)->Option Bool)):Nat->Int->Option (Out Bool Unit)
 | 0,_=>none
 | n+1,x1 =>
  bif (decide (x1<(l1.length:Int))) then
   (idx l1 x1).bind fun x2 =>
   (is1 x2.name).bind fun x3 =>
   bif (!x3) then (some (Out.ret false)) else (bif (decide (0<x1)) then (grd (InR (x1 - 1)) <|
   (idx l1 (x1 - 1)).bind fun x4 =>
   bif (!Op.bytesLess x4.name x2.name) then
    some (Out.ret false)
   else
    grd (InR (x1+1)) <|
    CC l1 is1 n (x1+1)) else (grd (InR (x1+1)) <|
   CC l1 is1 n (x1+1)))
  else
   some (Out.go (()))
def Ed (l1:(List AutoEdge)) (is1:((List UInt8)->Option Bool)):Option Bool:=
 ((CC l1 is1 FU 0:Option (Out Bool Unit))).bind (fun oo=>oo.on (fun r1=>some r1) (fun _ =>
 some (decide ((l1.length:Int)<=30))))
theorem I5 {l1:(List AutoEdge)} {is1:((List UInt8)->Option Bool)} {r_1:Bool} {fv_is1:D} (hfis1:ID Tryz.prog fv_is1 D.str D.bool is1) (hm:Ed l1 is1=some r_1):Fn0 Tryz.prog 134 [.list 2 AutoEdge.d l1,fv_is1] (.bool r_1):=by
 unfold Ed at hm;refine Ae Tryz.func134 rfl Tryz.ntmps134 rfl fun H0 fr w0=>?_;refine zq11 ?_;obtain ⟨o_1,hj1,hm1⟩:=bS hm;refine Al [(0,_)] [] (fun (st:Unit) (hid:Unit)=>match st,hid with | _,_=>[]) (fun F (st:Unit) (hid:Unit)=>match st,hid with | _,_=>[]) (fun st=>Out.go (st)=o_1) ⟨rfl,trivial⟩ trivial ?_ ?_
 ·refine Aq ?_
  refine Am [(0,_),(1,_),(7,_),(8,_)] [] (fun (st:Int) (hid:Unit)=>match st,hid with | x1,_=>[(9,.i64 x1)]) (fun F (st:Int) (hid:Unit)=>match st,hid with | x1,_=>[]) () hj1 (fun _=>rfl) ⟨rfl,rfl,rfl,rfl,trivial⟩ trivial ⟨rfl,trivial⟩ rfl ?_;rintro n x1 _ hj1;rw [CC] at hj1;refine At (L':=[(9,.i64 x1),(0,_),(1,_),(7,_),(8,_)]) (ms':=[]) rfl rfl ?_;refine zq5 ?_;refine zcn hj1 (fun hc1 hj1=>?_) (fun hc1 hj1=>?_)
  ·refine zq6 ?_
   obtain ⟨x2,hx1,hj1⟩:=bS hj1;refine zq2 ?_;refine PD fun b1=>?_;refine zq1 ?_;refine zst 0 ?_;refine Aj (ms':=[box b1 62 [_,_]]) rfl ?_;refine zq2 ?_;obtain ⟨x3,hx2,hj1⟩:=bS hj1
   rcases Ex hj1 with ⟨hg_1,hj1⟩ | ⟨hg_1,hj1⟩
   ·
    skip
    refine zdr 20 ?_;refine zq3 ?_;refine Av rfl rfl rfl (GK rfl rfl (hfis1 _ _ hx2)) ?_;refine zq18 ?_;refine Ce rfl rfl ?_;refine zq4 ?_;refine Af ?_;obtain rfl:=Ac hj1
    replace hm1:=B8 hm1
    cases hm1;exact zr1
   ·
    skip
    rcases Ex hj1 with ⟨hg_2,hj1⟩ | ⟨hg_2,hj1⟩
    ·
     skip
     obtain ⟨hg3,hj1⟩:=Aa hj1;obtain ⟨x4,hx4,hj1⟩:=bS hj1;refine zdr 20 ?_;refine zq3 ?_;refine Av rfl rfl rfl (GK rfl rfl (hfis1 _ _ hx2)) ?_;refine zq18 ?_;refine zcn hj1 (fun hc2 hj1=>?_) (fun hc2 hj1=>?_)
     ·refine zq4 ?_
      refine Af ?_;obtain rfl:=Ac hj1
      replace hm1:=B8 hm1
      cases hm1;exact zr1
     ·refine zq2 ?_
      obtain ⟨hg5,hj1⟩:=Aa hj1;refine zq3 ?_;exact ⟨_,(),hj1,⟨rfl,trivial⟩,⟨rfl,rfl,rfl,rfl,trivial⟩,[_],rfl⟩
    ·
     skip
     refine zdr 20 ?_;refine zq3 ?_;refine Av rfl rfl rfl (GK rfl rfl (hfis1 _ _ hx2)) ?_;refine zq18 ?_;refine Bo rfl rfl ?_;refine zq2 ?_;obtain ⟨hg6,hj1⟩:=Aa hj1;refine zq3 ?_;exact ⟨_,(),hj1,⟨rfl,trivial⟩,⟨rfl,rfl,rfl,rfl,trivial⟩,[_],rfl⟩
  ·refine Au ?_
   exact ⟨_,(),Ac hj1,trivial,⟨rfl,trivial⟩,[],rfl⟩
 ·rintro _ _ hst
  subst hst
  replace hm1:=DH hm1
  refine An (L':=[(0,_)]) (ms':=[]) rfl rfl ?_;refine zq7 ?_
  cases hm1;exact Af zr1
def CF (k1:Int) (c1:AutoAuto) (c2:AutoState):Option Bool:=
 (Cs c1 k1 c2.plus).bind fun x1 =>
 some (!x1)
theorem Ix {k1:Int} {c1:AutoAuto} {c2:AutoState} {r_1:Bool} (hm:CF k1 c1 c2=some r_1):Fn0 Tryz.prog 139 [.i64 k1,.ref (AutoAuto.d c1),.ref (AutoState.d c2)] (.bool r_1):=by
 unfold CF at hm;refine Ae Tryz.func139 rfl Tryz.ntmps139 rfl fun H0 fr w0=>?_;refine zq10 ?_;obtain ⟨x1,hx1,hm⟩:=bS hm;refine zc0 (EY hx1) ?_;refine zq3 ?_
 cases hm;exact Af zr1
def C5 (a1:AutoAuto) (s1:AutoState):Option Bool:=
 (Fq s1).bind fun x1 =>
 (bif (!x1) then (some true) else ((DG s1.vars).bind fun x2 =>
 some (!x2))).bind fun p1 =>
 (bif p1 then (some true) else ((Ed s1.fields (fun y0=>DY y0)).bind fun x3 =>
 some (!x3))).bind fun p2 =>
 (bif p2 then (some true) else ((Ed s1.tags (fun y0=>EA y0)).bind fun x4 =>
 some (!x4))).bind fun p3 =>
 bif p3 then
  some false
 else
  (bif s1.arrow then ((Cs a1 s1.dom (!s1.plus)).bind fun x5 =>
  (bif (!x5) then (some true) else ((Cs a1 s1.cod s1.plus).bind fun x6 =>
  some (!x6))).bind fun p5 =>
  some p5) else (some false)).bind fun p4 =>
  bif p4 then
   some false
  else
   (Dh s1.fields).bind fun x7 =>
   (Dh s1.tags).bind fun x8 =>
   (LS [x7,x8]).bind fun x9 =>
   (Ja x9 (fun y0=>CF y0 a1 s1)).bind fun x10 =>
   some (!x10)
theorem I7 {a1:AutoAuto} {s1:AutoState} {r_1:Bool} (hm:C5 a1 s1=some r_1):Fn0 Tryz.prog 95 [AutoAuto.d a1,AutoState.d s1] (.bool r_1):=by
 unfold C5 at hm;refine Ae Tryz.func95 rfl Tryz.ntmps95 rfl fun H0 fr w0=>?_;refine zq10 ?_;obtain ⟨x1,hx1,hm⟩:=bS hm;refine zc0 (Pl hx1) ?_;refine zq2 ?_;obtain ⟨p1,hp_1,hm⟩:=bS hm;refine Bs [(2,_),(3,_)] 5 13 p1 (t:=8) ⟨rfl,rfl,trivial⟩ rfl (fun hg_1 hk1=>?_) (fun hg_1 hk1=>?_) ?_
 ·replace hp_1:=Bg hg_1 hp_1
  refine zq5 ?_;exact zgb hk1 hp_1
 ·replace hp_1:=Be hg_1 hp_1
  refine zq2 ?_;obtain ⟨x2,hx2,hp_1⟩:=bS hp_1;refine zcw (Kz hx2) ?_;refine zq2 ?_;exact zgb hk1 hp_1
 refine zq1 ?_;obtain ⟨p2,hp_2,hm⟩:=bS hm;refine Bs [(2,_),(3,_)] 5 19 p2 (t:=14) ⟨rfl,rfl,trivial⟩ rfl (fun hg_2 hk2=>?_) (fun hg_2 hk2=>?_) ?_
 ·replace hp_2:=Bg hg_2 hp_2
  refine zq5 ?_;exact zgb hk2 hp_2
 ·replace hp_2:=Be hg_2 hp_2
  refine zq2 ?_;obtain ⟨x3,hx3,hp_2⟩:=bS hp_2;refine gWp rfl rfl rfl hg_2 rfl rfl (B7 Tryz.call134 rfl (I5 (fun _ _ h=>Q0 Tryz.call135 (Kk h)) hx3)) ?_;refine zq2 ?_;exact zgb hk2 hp_2
 refine zq1 ?_;obtain ⟨p3,hp_3,hm⟩:=bS hm;refine Bs [(2,_),(3,_)] 5 25 p3 (t:=20) ⟨rfl,rfl,trivial⟩ rfl (fun hg_3 hk3=>?_) (fun hg_3 hk3=>?_) ?_
 ·replace hp_3:=Bg hg_3 hp_3
  refine zq5 ?_;exact zgb hk3 hp_3
 ·replace hp_3:=Be hg_3 hp_3
  refine zq2 ?_;obtain ⟨x4,hx4,hp_3⟩:=bS hp_3;refine gWp rfl rfl rfl hg_3 rfl rfl (B7 Tryz.call134 rfl (I5 (fun _ _ h=>Q0 Tryz.call136 (LV h)) hx4)) ?_;refine zq2 ?_;exact zgb hk3 hp_3
 refine gNl ?_;refine zcn hm (fun hc1 hm=>?_) (fun hc1 hm=>?_)
 ·refine zq4 ?_
  cases hm;exact Af zr1
 ·refine zq7 ?_
  obtain ⟨p4,hp_4,hm⟩:=bS hm;refine Bs [(2,_),(3,_)] 18 46 p4 (t:=28) ⟨rfl,rfl,trivial⟩ rfl (fun hg_4 hk4=>?_) (fun hg_4 hk4=>?_) ?_
  ·replace hp_4:=Bg hg_4 hp_4
   refine zq6 ?_;obtain ⟨x5,hx5,hp_4⟩:=bS hp_4;refine zcw (EY hx5) ?_;refine zq2 ?_;obtain ⟨p5,hp_5,hp_4⟩:=bS hp_4;refine Bs [(2,_),(3,_),(28,_)] 8 45 p5 (t:=37) ⟨rfl,rfl,rfl,trivial⟩ rfl (fun hg_5 hk5=>?_) (fun hg_5 hk5=>?_) ?_
   ·replace hp_5:=Bg hg_5 hp_5
    refine zq8 ?_;exact zgb hk5 hp_5
   ·replace hp_5:=Be hg_5 hp_5
    refine zq5 ?_;obtain ⟨x6,hx6,hp_5⟩:=bS hp_5;refine zcw (EY hx6) ?_;refine zq2 ?_;exact zgb hk5 hp_5
   refine zq1 ?_;exact zgb hk4 hp_4
  ·replace hp_4:=Be hg_4 hp_4
   refine zq18 ?_;exact zgb hk4 hp_4
  refine gNl ?_;refine zcn hm (fun hc2 hm=>?_) (fun hc2 hm=>?_)
  ·refine zq4 ?_
   cases hm;exact Af zr1
  ·refine zq2 ?_
   obtain ⟨x7,hx7,hm⟩:=bS hm;obtain ⟨x8,hx8,hm⟩:=bS hm;obtain ⟨x9,hx9,hm⟩:=bS hm;obtain ⟨x10,hx10,hm⟩:=bS hm;refine zdr 12 ?_;refine zq2 ?_;refine zcd (Hw hx7) ?_;refine zq2 ?_;refine zcd (Hw hx8) ?_;refine Av rfl rfl rfl (zs2 (D.list 1 D.i64)) ?_;refine zcd (Vi hx9) ?_;refine Av rfl rfl rfl (Di rfl rfl) ?_;refine Av rfl rfl rfl (B7 Tryz.call117 rfl (Vm (fun _ _ h=>IG Tryz.call139 (Ix h)) hx10)) ?_;refine zq4 ?_
   cases hm;exact Af zr1
def EX (s1:AutoState) (c1:AutoAuto):Option Bool:=
 (C5 c1 s1).bind fun x1 =>
 some (!x1)
theorem Np {s1:AutoState} {c1:AutoAuto} {r_1:Bool} (hm:EX s1 c1=some r_1):Fn0 Tryz.prog 94 [AutoState.d s1,.ref (AutoAuto.d c1)] (.bool r_1):=by
 unfold EX at hm;refine Ae Tryz.func94 rfl Tryz.ntmps94 rfl fun H0 fr w0=>?_;refine zq9 ?_;obtain ⟨x1,hx1,hm⟩:=bS hm;refine zc0 (I7 hx1) ?_;refine zq3 ?_
 cases hm;exact Af zr1
def E9 (a1:AutoAuto):Option Int:=
 bif ((decide ((a1.l.length:Int)=0))||(decide (2000<(a1.l.length:Int)))) then
  some 8
 else
  (Cs a1 a1.start true).bind fun x1 =>
  (bif (!x1) then (some true) else ((AM a1.l (fun y0=>EX y0 a1)).bind fun x2 =>
  some x2)).bind fun p1 =>
  bif p1 then
   some 4
  else
   some 0
theorem Qb {a1:AutoAuto} {r_1:Int} (hm:E9 a1=some r_1):Fn0 Tryz.prog 66 [AutoAuto.d a1] (.i64 r_1):=by
 unfold E9 at hm;refine Ae Tryz.func66 rfl Tryz.ntmps66 rfl fun H0 fr w0=>?_;refine zq13 ?_
 apply Cv [(1,_)] 5 12 (t:=7) ⟨rfl,trivial⟩ rfl
 ·intro hg_1 hk1
  refine zq5 ?_;exact zgm hk1
 ·intro hg_1 hk1
  refine zq5 ?_;exact zgm hk1
 refine gNl ?_;refine zcn hm (fun hc1 hm=>?_) (fun hc1 hm=>?_)
 ·refine zq4 ?_
  cases hm;exact Af zr1
 ·refine zq7 ?_
  obtain ⟨x1,hx1,hm⟩:=bS hm;refine zc0 (EY hx1) ?_;refine zq2 ?_;obtain ⟨p1,hp_2,hm⟩:=bS hm;refine Bs [] 5 23 p1 (t:=18) trivial rfl (fun hg_2 hk2=>?_) (fun hg_2 hk2=>?_) ?_
  ·replace hp_2:=Bg hg_2 hp_2
   refine zq5 ?_;exact zgb hk2 hp_2
  ·replace hp_2:=Be hg_2 hp_2
   refine zq2 ?_;refine gWp rfl rfl rfl hg_2 rfl rfl (Di rfl rfl) ?_;obtain ⟨x2,hx2,hp_2⟩:=bS hp_2;refine gWp rfl rfl rfl hg_2 rfl rfl (B7 Tryz.call90 rfl (Du (fun _ _ h=>IG Tryz.call94 (Np h)) hx2)) ?_;refine zq1 ?_;exact zgb hk2 hp_2
  refine gNl ?_;refine zcn hm (fun hc2 hm=>?_) (fun hc2 hm=>?_)
  ·refine zq4 ?_
   cases hm;exact Af zr1
  ·refine zq5 ?_
   cases hm;exact Af zr1
def CY (l1:(List AutoEdge)) (to1:(List Int)):Nat->(Int×(List AutoEdge))->Option (List AutoEdge)
 | 0,_=>none
 | n+1,(x1,l3) =>
  bif (decide (x1<(l1.length:Int))) then
   (idx l3 x1).bind fun x2 =>
   (idx to1 x2.to_).bind fun x3 =>
   (idx l3 x1).bind fun x4 =>
   grd (InR (x1+1)) <|
   CY l1 to1 n ((x1+1),(l3.set (x1).toNat (⟨x4.name,x3⟩:AutoEdge)))
  else
   some l3
def Ee (l1:(List AutoEdge)) (to1:(List Int)):Option (List AutoEdge):=
 grd (l1.length*24<=140737488355328) <|
 (CY l1 to1 FU (0,l1):Option (List AutoEdge)).bind fun l2 =>
 some l2
theorem Jg {l1:(List AutoEdge)} {to1:(List Int)} {r_1:(List AutoEdge)} (hm:Ee l1 to1=some r_1):Fn0 Tryz.prog 97 [.list 2 AutoEdge.d l1,.list 1 D.i64 to1] (.list 2 AutoEdge.d r_1):=by
 unfold Ee at hm;refine Ae Tryz.func97 rfl Tryz.ntmps97 rfl fun H0 fr w0=>?_;refine zq3 ?_;refine Ap (nilE (i:=4) (sz:=2) (f:=AutoEdge.d) rfl).refines ?_;refine zq4 ?_;obtain ⟨hg1,hm⟩:=Aa hm;refine AJ rfl rfl rfl (D5 (ms₁:=[]) Tryz.call142 rfl (List.Perm.refl _) (O3 hg1)) ?_;rintro _ _ ⟨_,⟨a_r1,cap_r1,hd_r1,hq_r1⟩,rfl⟩;obtain ⟨m_r1,hm_r1⟩:∃ m,m=l1.length:=⟨_,rfl⟩;rw [<- hm_r1] at hd_r1 hq_r1;subst hd_r1 hq_r1
 clear hm_r1
 refine zq6 ?_;refine Ak rfl rfl rfl (CZ 0 Tryz.runUnderlying57 rfl rfl) ?_;refine zq2 ?_;obtain ⟨o_1,hj1,hm1⟩:=bS hm;refine Al [(5,_)] [] (fun (st:(List AutoEdge)) (hid:Unit)=>match st,hid with | l2,_=>[]) (fun F (st:(List AutoEdge)) (hid:Unit)=>match st,hid with | l2,_=>[arr a_r1 m_r1 cap_r1 62 2 AutoEdge.d l2]) (fun st=>st=o_1) ⟨rfl,trivial⟩ trivial ?_ ?_
 ·refine Aq ?_
  refine Am [(1,_),(5,_),(10,_)] [] (fun (st:(Int×(List AutoEdge))) (hid:Unit)=>match st,hid with | (x1,l3),_=>[(11,.i64 x1)]) (fun F (st:(Int×(List AutoEdge))) (hid:Unit)=>match st,hid with | (x1,l3),_=>[arr a_r1 m_r1 cap_r1 62 2 AutoEdge.d l3]) () hj1 (fun _=>rfl) ⟨rfl,rfl,rfl,trivial⟩ trivial ⟨rfl,trivial⟩ rfl ?_;rintro n ⟨x1,l3⟩ ⟨⟩ hj1;rw [CY] at hj1;refine At (L':=[(11,.i64 x1),(1,_),(5,_),(10,_)]) (ms':=[arr a_r1 m_r1 cap_r1 62 2 AutoEdge.d l3]) rfl rfl ?_;refine zq5 ?_;refine zcn hj1 (fun hc1 hj1=>?_) (fun hc1 hj1=>?_)
  ·refine zq14 ?_
   obtain ⟨x2,hx2,hj1⟩:=bS hj1;refine Ak rfl rfl rfl (Ag 0 Tryz.runUnderlying57 Tryz.sizeOf62 rfl rfl rfl hx2) ?_;refine Ak rfl rfl rfl (CW (b:=0) 0 Nh rfl rfl (Ay hx2).2) ?_;refine Ak rfl rfl rfl (AR (off:=1) 0 Tryz.isAgg3 rfl rfl (Ay hx2).2 rfl rfl rfl) ?_;obtain ⟨x3,hx3,hj1⟩:=bS hj1;refine Ak rfl rfl rfl (oIm Tryz.runUnderlying43 Tryz.sizeOf3 rfl rfl hx3) ?_;refine zq1 ?_;obtain ⟨x4,hx4,hj1⟩:=bS hj1;refine Ak rfl rfl rfl (Ag 0 Tryz.runUnderlying57 Tryz.sizeOf62 rfl rfl rfl hx4) ?_;refine Ak rfl rfl rfl (CW (b:=0) 0 Nh rfl rfl (Ay hx4).2) ?_;refine IW rfl rfl (Bn (off:=1) (z':=(⟨x4.name,x3⟩:AutoEdge)) 0 Tryz.sizeOf3 rfl rfl (Ay hx4).2 rfl rfl rfl rfl rfl rfl (nB rfl) rfl rfl) ?_;rintro _ _ rfl;refine Aj (ms':=[_]) rfl ?_;refine zq2 ?_;obtain ⟨hg5,hj1⟩:=Aa hj1;refine zq3 ?_;exact ⟨_,(),hj1,⟨rfl,trivial⟩,⟨rfl,rfl,rfl,trivial⟩,[],rfl⟩
  ·refine Au ?_
   exact ⟨_,(),Ac hj1,trivial,⟨rfl,trivial⟩,[],rfl⟩
 ·rintro l2 ⟨⟩ hst
  subst hst;refine An (L':=[(5,_)]) (ms':=[arr a_r1 m_r1 cap_r1 62 2 AutoEdge.d l2]) rfl rfl ?_;refine zq5 ?_;refine PZ 0 rfl rfl ?_;rintro rfl;refine BY (peekE (i:=4) 0 rfl rfl rfl).refines ?_
  cases hm1;exact Af zr1
def CQ  : List Int->((List Int)×(List Int))->Option ((List Int)×(List Int))
 | [],(l3,l4) =>
  some (l3,l4)
 | x1::rr,(l3,l4) =>
  (idx l4 x1).bind fun x2 =>
  grd ((l3.length+([x1]:List _).length)*8<=140737488355328) <|
  CQ rr ((l3++[x1]),(l4.set (x1).toNat (l3.length:Int)))
def CO (a1:AutoAuto) (l1:(List Int)) (l2:(List Int)):Nat->(Int×(List AutoState)×Int)->Option ((List AutoState)×Int)
 | 0,_=>none
 | n+1,(x3,l6,z2) =>
  bif (decide (x3<(l1.length:Int))) then
   (idx l1 x3).bind fun x4 =>
   (idx a1.l x4).bind fun x5 =>
   (bif x5.arrow then
    (idx l2 x5.dom).bind fun x6 =>
    (idx l2 x5.cod).bind fun x7 =>
    some (x5.plus,x5.all,x5.int,x5.bool,x5.str,x5.arrow,x5.rec_,x5.tag,x5.vars,x6,x7,x5.fields,x5.tags)
   else
    some (x5.plus,x5.all,x5.int,x5.bool,x5.str,x5.arrow,x5.rec_,x5.tag,x5.vars,x5.dom,x5.cod,x5.fields,x5.tags):Option (Bool×Bool×Bool×Bool×Bool×Bool×Bool×Bool×(List Int)×Int×Int×(List AutoEdge)×(List AutoEdge))).bind fun (z3,z4,z5,z6,z7,z8,z9,z10,z11,z12,z13,z14,z15) =>
   grd (z11.length*8<=140737488355328) <|
   (Ee z14 l2).bind fun x8 =>
   (Ee z15 l2).bind fun x9 =>
   grd ((l6.length+([(⟨z3,z4,z5,z6,z7,z8,z9,z10,z11,z12,z13,x8,x9⟩:AutoState)]:List _).length)*96<=140737488355328) <|
   grd (InR (x3+1)) <|
   CO a1 l1 l2 n ((x3+1),(l6++[(⟨z3,z4,z5,z6,z7,z8,z9,z10,z11,z12,z13,x8,x9⟩:AutoState)]),z2)
  else
   some (l6,z2)
def Ft (a1:AutoAuto):Option AutoAuto:=
 grd (0<=(a1.l.length:Int)) <|
 grd (((a1.l.length:Int)).toNat*8<=140737488355328) <|
 ((GX a1).bind fun xs1 =>
 CQ xs1 ([],(List.replicate ((a1.l.length:Int)).toNat (0:Int))):Option ((List Int)×(List Int))).bind fun (l1,l2) =>
 (CO a1 l1 l2 FU (0,[],0):Option ((List AutoState)×Int)).bind fun (l5,z1) =>
 some (⟨l5,z1⟩:AutoAuto)
theorem Ol {a1:AutoAuto} {r_1:AutoAuto} (hm:Ft a1=some r_1):Fn0 Tryz.prog 67 [AutoAuto.d a1] (AutoAuto.d r_1):=by
 unfold Ft at hm;refine Ae Tryz.func67 rfl Tryz.ntmps67 rfl fun H0 fr w0=>?_;refine zq3 ?_;refine JY fun b1=>?_;refine zq6 ?_;obtain ⟨hg1,hm⟩:=Aa hm;obtain ⟨hg2,hm⟩:=Aa hm;refine AJ rfl rfl rfl (Dw (f:=D.i64) (z0:=0) Tryz.underlying43 Tryz.type3 rfl rfl rfl (nB rfl) rfl rfl hg1 hg2 (nB rfl)) ?_;rintro _ _ ⟨a_r1,m_r1,cap_r1,rfl,rfl⟩;refine St fun b2=>?_;refine zst 0 ?_;refine Aj (ms':=[box b2 43 [_],_,box b1 27 [_,_]]) rfl ?_;refine zq3 ?_;refine P6 fun b3=>?_;refine Ap (AK (T:=3) (sz:=1) (f:=D.i64)) ?_;refine zq5 ?_;refine Ak rfl rfl rfl (B7 Tryz.call96 rfl Sc) ?_;refine gNl ?_;obtain ⟨o_1,hj1,hm1⟩:=bS hm;refine Al [(1,_),(2,_),(3,_),(4,_)] [(4,_)] (fun (st:((List Int)×(List Int))) (hid:(Option Addr×Nat)×Unit)=>match st,hid with | (l1,l2),((a_r2,cap_r2),_)=>[]) (fun F (st:((List Int)×(List Int))) (hid:(Option Addr×Nat)×Unit)=>match st,hid with | (l1,l2),((a_r2,cap_r2),_)=>[row a_r2 cap_r2 3 1 D.i64 l1,box b3 43 [.v (.slice a_r2 l1.length cap_r2)],box b2 43 [.v (.slice a_r1 m_r1 cap_r1)],arr a_r1 m_r1 cap_r1 3 1 D.i64 l2,(nthF F 0)]) (fun st=>st=o_1) ⟨rfl,rfl,rfl,rfl,trivial⟩ ⟨rfl,trivial⟩ ?_ ?_
 ·refine Aq ?_
  obtain ⟨xs1,hx3,hj1⟩:=bS hj1;refine J2 (fun (p:Int)=>[.i64 p]) [(4,_)] (fun F (st:((List Int)×(List Int))) (hid:(Option Addr×Nat)×Unit)=>match st,hid with | (l3,l4),((a_r2,cap_r2),_)=>[row a_r2 cap_r2 3 1 D.i64 l3,box b3 43 [.v (.slice a_r2 l3.length cap_r2)],box b2 43 [.v (.slice a_r1 m_r1 cap_r1)],arr a_r1 m_r1 cap_r1 3 1 D.i64 l4,(nthF F 0)]) ((_,_),()) hj1 ⟨rfl,trivial⟩ rfl rfl Tryz.call140 (Qe hx3) (fun _=>rfl) rfl ?_ ?_
  ·rintro H0r frr ror w0r hrr x1 rr ⟨l3,l4⟩ ⟨⟨a_r2,cap_r2⟩,⟨⟩⟩ hj1
   rw [CQ] at hj1;refine At (ms':=[row a_r2 cap_r2 3 1 D.i64 l3,box b3 43 [.v (.slice a_r2 l3.length cap_r2)],box b2 43 [.v (.slice a_r1 m_r1 cap_r1)],arr a_r1 m_r1 cap_r1 3 1 D.i64 l4,_]) rfl rfl ?_;refine zq3 ?_
   intro H0r frr ror w0r hrr
   refine zq6 ?_;refine Ak rfl rfl rfl (.view (peekE (i:=19) 0 rfl rfl rfl) (Em Tryz.runUnderlying43 rfl)) ?_;obtain ⟨x2,hx4,hj1⟩:=bS hj1;refine Ak rfl rfl rfl (Ag 3 Tryz.runUnderlying43 Tryz.sizeOf3 rfl rfl rfl hx4) ?_;refine IW rfl rfl (Bn (off:=0) (z':=(l3.length:Int)) 3 Tryz.sizeOf3 rfl rfl (Ay hx4).2 rfl rfl rfl rfl rfl rfl (nB rfl) rfl rfl) ?_;rintro _ _ rfl;refine Aj (ms':=[_,box b3 43 [_],box b2 43 [_],_,box b1 27 [_,_]]) rfl ?_;refine zq4 ?_;refine Ak rfl rfl rfl (zs1 D.i64) ?_;obtain ⟨hg5,hj1⟩:=Aa hj1;refine zap 0 hg5 fun a_r2 cap_r2=>?_;refine Aj (ms':=[_,box b3 43 [_],box b2 43 [_],_,box b1 27 [_,_]]) rfl ?_;refine zst 1 ?_;refine Aj (ms':=[_,box b3 43 [_],box b2 43 [_],_,box b1 27 [_,_]]) rfl ?_;refine gNl ?_;exact ⟨_,((_,_),()),hj1,[],rfl⟩
  ·rintro ⟨l3,l4⟩ ⟨⟨a_r2,cap_r2⟩,⟨⟩⟩ hj1
   rw [CQ] at hj1;refine An (ms':=[row a_r2 cap_r2 3 1 D.i64 l3,box b3 43 [.v (.slice a_r2 l3.length cap_r2)],box b2 43 [.v (.slice a_r1 m_r1 cap_r1)],arr a_r1 m_r1 cap_r1 3 1 D.i64 l4,_]) rfl rfl ?_;exact ⟨_,((_,_),()),Ac hj1,trivial,⟨rfl,rfl,rfl,rfl,trivial⟩,[],rfl⟩
 ·rintro ⟨l1,l2⟩ ⟨⟨a_r2,cap_r2⟩,⟨⟩⟩ hst
  subst hst;refine An (L':=[(1,_),(2,_),(3,_),(4,_)]) (ms':=[row a_r2 cap_r2 3 1 D.i64 l1,box b3 43 [.v (.slice a_r2 l1.length cap_r2)],box b2 43 [.v (.slice a_r1 m_r1 cap_r1)],arr a_r1 m_r1 cap_r1 3 1 D.i64 l2,_]) rfl rfl ?_;refine zq2 ?_;refine V0 fun b5=>?_;refine Ap (AK (T:=59) (sz:=13) (f:=AutoState.d)) ?_;refine zq5 ?_;refine Ak rfl rfl rfl (.view (peekE (i:=26) 2 rfl rfl rfl) (Em Tryz.runUnderlying43 rfl)) ?_;refine zq2 ?_;refine PZ 5 rfl rfl ?_;rintro rfl;obtain ⟨o_2,hj2,hm2⟩:=bS hm1;refine Al [(2,_),(6,_)] [(2,_),(3,_),(4,_),(5,_),(6,_)] (fun (st:((List AutoState)×Int)) (hid:(Option Addr×Nat))=>match st,hid with | (l5,z1),(a_r3,cap_r3)=>[]) (fun F (st:((List AutoState)×Int)) (hid:(Option Addr×Nat))=>match st,hid with | (l5,z1),(a_r3,cap_r3)=>[row a_r3 cap_r3 59 13 AutoState.d l5,box b5 27 [.v (.slice a_r3 l5.length cap_r3),.i64 z1],(nthF F 0),(nthF F 1),(nthF F 2),(nthF F 3),(nthF F 4)]) (fun st=>st=o_2) ⟨rfl,rfl,trivial⟩ ⟨rfl,rfl,rfl,rfl,rfl,trivial⟩ ?_ ?_
  ·refine Aq ?_
   refine Am [(1,_),(2,_),(3,_),(6,_),(26,_),(27,_)] [(2,_),(3,_),(4,_),(5,_),(6,_)] (fun (st:(Int×(List AutoState)×Int)) (hid:(Option Addr×Nat))=>match st,hid with | (x3,l6,z2),(a_r3,cap_r3)=>[(28,.i64 x3)]) (fun F (st:(Int×(List AutoState)×Int)) (hid:(Option Addr×Nat))=>match st,hid with | (x3,l6,z2),(a_r3,cap_r3)=>[row a_r3 cap_r3 59 13 AutoState.d l6,box b5 27 [.v (.slice a_r3 l6.length cap_r3),.i64 z2],(nthF F 0),(nthF F 1),(nthF F 2),(nthF F 3),(nthF F 4)]) (_,_) hj2 (fun _=>rfl) ⟨rfl,rfl,rfl,rfl,rfl,rfl,trivial⟩ ⟨rfl,rfl,rfl,rfl,rfl,trivial⟩ ⟨rfl,trivial⟩ rfl ?_;rintro n ⟨x3,l6,z2⟩ ⟨a_r3,cap_r3⟩ hj2;rw [CO] at hj2;refine At (L':=[(28,.i64 x3),(1,_),(2,_),(3,_),(6,_),(26,_),(27,_)]) (ms':=[row a_r3 cap_r3 59 13 AutoState.d l6,box b5 27 [.v (.slice a_r3 l6.length cap_r3),.i64 z2],_,_,_,_,_]) rfl rfl ?_;refine zq5 ?_;refine zcn hj2 (fun hc1 hj2=>?_) (fun hc1 hj2=>?_)
   ·refine zq5 ?_
    obtain ⟨x4,hx6,hj2⟩:=bS hj2;refine Ak rfl rfl rfl (.view (peekE (i:=26) 2 rfl rfl rfl) (oIm Tryz.runUnderlying43 Tryz.sizeOf3 rfl rfl hx6)) ?_;refine zq8 ?_;obtain ⟨x5,hx7,hj2⟩:=bS hj2;refine zq2 ?_;refine PG fun b6=>?_;refine zst 0 ?_;refine Aj (ms':=[box b6 59 [_,_,_,_,_,_,_,_,_,_,_,_,_],_,box b5 27 [_,_],_,box b3 43 [_],box b2 43 [_],_,box b1 27 [_,_]]) rfl ?_;refine zq7 ?_;obtain ⟨o_3,hj3,hm3⟩:=bS hj2;refine Al [(1,_),(2,_),(3,_),(6,_),(9,_),(26,_),(27,_),(28,_)] [(1,_),(2,_),(3,_),(4,_),(5,_),(6,_),(7,_)] (fun (st:(Bool×Bool×Bool×Bool×Bool×Bool×Bool×Bool×(List Int)×Int×Int×(List AutoEdge)×(List AutoEdge))) (hid:Unit)=>match st,hid with | (z3,z4,z5,z6,z7,z8,z9,z10,z11,z12,z13,z14,z15),_=>[]) (fun F (st:(Bool×Bool×Bool×Bool×Bool×Bool×Bool×Bool×(List Int)×Int×Int×(List AutoEdge)×(List AutoEdge))) (hid:Unit)=>match st,hid with | (z3,z4,z5,z6,z7,z8,z9,z10,z11,z12,z13,z14,z15),_=>[box b6 59 [.bool z3,.bool z4,.bool z5,.bool z6,.bool z7,.bool z8,.bool z9,.bool z10,.list 1 D.i64 z11,.i64 z12,.i64 z13,.list 2 AutoEdge.d z14,.list 2 AutoEdge.d z15],(nthF F 0),(nthF F 1),(nthF F 2),(nthF F 3),(nthF F 4),(nthF F 5),(nthF F 6)]) (fun st=>st=o_3) ⟨rfl,rfl,rfl,rfl,rfl,rfl,rfl,rfl,trivial⟩ ⟨rfl,rfl,rfl,rfl,rfl,rfl,rfl,trivial⟩ ?_ ?_
    ·refine zcn hj3 (fun hc2 hj3=>?_) (fun hc2 hj3=>?_)
     ·obtain ⟨x6,hx8,hj3⟩:=bS hj3
      obtain ⟨x7,hx9,hj3⟩:=bS hj3;refine Fw [11,13] [5,8,9,12] [5,8,9] AY (by decide +kernel) (by decide +kernel) rfl ?_;refine AE rfl rfl rfl rfl rfl rfl (oLb 5 Tryz.isAgg43 rfl rfl rfl rfl) ?_;refine AE rfl rfl rfl rfl rfl rfl (oFb Jv rfl) ?_;refine AE rfl rfl rfl rfl rfl rfl (oLb 0 Tryz.isAgg3 rfl rfl rfl rfl) ?_;refine AE rfl rfl rfl rfl rfl rfl (.view (peekE (i:=39) 6 rfl rfl rfl) (oIm Tryz.runUnderlying43 Tryz.sizeOf3 rfl rfl hx8)) ?_;refine AE rfl rfl rfl rfl rfl rfl (BK Tryz.isAgg3 rfl rfl) ?_;refine I9 rfl rfl rfl rfl rfl (oLb 5 Tryz.isAgg43 rfl rfl rfl rfl) ?_;refine AE rfl rfl rfl rfl rfl rfl (oFb HV rfl) ?_;refine AE rfl rfl rfl rfl rfl rfl (oLb 0 Tryz.isAgg3 rfl rfl rfl rfl) ?_;refine I9 rfl rfl rfl rfl rfl (.view (peekE (i:=44) 6 rfl rfl rfl) (oIm Tryz.runUnderlying43 Tryz.sizeOf3 rfl rfl hx9)) ?_;refine I9 rfl rfl rfl rfl rfl (BK Tryz.isAgg3 rfl rfl) ?_;refine AE rfl rfl rfl rfl rfl rfl (oFb Jv rfl) ?_;refine Es rfl ?_;refine AE rfl rfl rfl rfl rfl rfl (oFb HV rfl) ?_;refine Es rfl ?_;refine Gk ?_;refine Fa rfl rfl rfl (oSb 0 Tryz.sizeOf3 rfl rfl rfl rfl rfl rfl rfl rfl (nB rfl)) ?_;rintro _ _ rfl;refine ⟨⟨⟨⟨trivial,oLb 5 Tryz.isAgg43 rfl rfl rfl rfl⟩,.view (peekE (i:=44) 6 rfl rfl rfl) (oIm Tryz.runUnderlying43 Tryz.sizeOf3 rfl rfl hx9)⟩,BK Tryz.isAgg3 rfl rfl⟩,?_⟩;refine Fa rfl rfl rfl (oSb 0 Tryz.sizeOf3 rfl rfl rfl rfl rfl rfl rfl rfl (nB rfl)) ?_;rintro _ _ rfl;refine ⟨⟨⟨⟨trivial,oLb 5 Tryz.isAgg43 rfl rfl rfl rfl⟩,.view (peekE (i:=44) 6 rfl rfl rfl) (oIm Tryz.runUnderlying43 Tryz.sizeOf3 rfl rfl hx9)⟩,BK Tryz.isAgg3 rfl rfl⟩,?_⟩;refine Ek ?_;exact ⟨_,(),Ac hj3,trivial,⟨rfl,rfl,rfl,rfl,rfl,rfl,rfl,rfl,trivial⟩,[],rfl⟩
     ·refine gSp ?_
      exact ⟨_,(),Ac hj3,trivial,⟨rfl,rfl,rfl,rfl,rfl,rfl,rfl,rfl,trivial⟩,[],rfl⟩
    ·rintro ⟨z3,z4,z5,z6,z7,z8,z9,z10,z11,z12,z13,z14,z15⟩ _ hst
     subst hst;refine An (L':=[(1,_),(2,_),(3,_),(6,_),(9,_),(26,_),(27,_),(28,_)]) (ms':=[box b6 59 [.bool z3,.bool z4,.bool z5,.bool z6,.bool z7,.bool z8,.bool z9,.bool z10,.list 1 D.i64 z11,.i64 z12,.i64 z13,.list 2 AutoEdge.d z14,.list 2 AutoEdge.d z15],_,_,_,_,_,_,_]) rfl rfl ?_;refine zq4 ?_;obtain ⟨hg10,hm3⟩:=Aa hm3;refine AJ rfl rfl rfl (D5 (ms₁:=[]) Tryz.call64 rfl (List.Perm.refl _) (Le hg10)) ?_;rintro _ _ ⟨_,⟨a_r4,cap_r4,hd_r4,hq_r4⟩,rfl⟩;obtain ⟨m_r4,hm_r4⟩:∃ m,m=z11.length:=⟨_,rfl⟩;rw [<- hm_r4] at hd_r4 hq_r4;subst hd_r4 hq_r4
     clear hm_r4
     refine zq1 ?_;refine zst 1 ?_;refine Aj (ms':=[_,box b6 59 [_,_,_,_,_,_,_,_,_,_,_,_,_],_,box b5 27 [_,_],_,box b3 43 [_],box b2 43 [_],_,box b1 27 [_,_]]) rfl ?_;refine zq2 ?_;obtain ⟨x8,hx11,hm3⟩:=bS hm3;obtain ⟨x9,hx12,hm3⟩:=bS hm3;refine zdr 9 ?_;refine zq3 ?_;refine Av rfl rfl rfl (.view (peekE (i:=57) 7 rfl rfl rfl) (B7 Tryz.call97 rfl (Jg hx11))) ?_;refine zq3 ?_;refine Av rfl rfl rfl (.view (peekE (i:=61) 7 rfl rfl rfl) (B7 Tryz.call97 rfl (Jg hx12))) ?_;refine zq2 ?_;refine zst 1 ?_;refine Aj (ms':=[_,box b6 59 [_,_,_,_,_,_,_,_,_,_,_,_,_],_,box b5 27 [_,_],_,box b3 43 [_],box b2 43 [_],_,box b1 27 [_,_]]) rfl ?_;refine zq1 ?_;refine zst 1 ?_;refine Aj (ms':=[_,box b6 59 [_,_,_,_,_,_,_,_,_,_,_,_,_],_,box b5 27 [_,_],_,box b3 43 [_],box b2 43 [_],_,box b1 27 [_,_]]) rfl ?_;refine zq4 ?_;refine KQ 0 rfl rfl ?_;rintro rfl;refine zq1 ?_;refine Ap (CP (i:=67) (q:=8) 0 rfl rfl rfl rfl rfl).refines ?_;refine Ak rfl rfl rfl (Ai (xs:=[_]) (f:=AutoState.d) (l:=[(⟨z3,z4,z5,z6,z7,z8,z9,z10,z11,z12,z13,x8,x9⟩:AutoState)]) Tryz.runUnderlying25 Tryz.sizeOf59 Tryz.zeroValue59 rfl rfl rfl (fun _=>⟨rfl,rfl,rfl⟩) rfl) ?_;obtain ⟨hg13,hm3⟩:=Aa hm3;refine zap 2 hg13 fun a_r3 cap_r3=>?_;refine Aj (ms':=[_,box b6 59 [_,_,_,_,_,_,_,_,_,_,_,_,_],_,box b5 27 [_,_],_,box b3 43 [_],box b2 43 [_],_,box b1 27 [_,_]]) rfl ?_;refine zq1 ?_;refine zst 3 ?_;refine Aj (ms':=[_,box b6 59 [_,_,_,_,_,_,_,_,_,_,_,_,_],_,box b5 27 [_,_],_,box b3 43 [_],box b2 43 [_],_,box b1 27 [_,_]]) rfl ?_;refine zq2 ?_;obtain ⟨hg14,hm3⟩:=Aa hm3;refine zq3 ?_;exact ⟨_,(_,_),hm3,⟨rfl,trivial⟩,⟨rfl,rfl,rfl,rfl,rfl,rfl,trivial⟩,[_,_],rfl⟩
   ·refine Au ?_
    exact ⟨_,(_,_),Ac hj2,trivial,⟨rfl,rfl,trivial⟩,[],rfl⟩
  ·rintro ⟨l5,z1⟩ ⟨a_r3,cap_r3⟩ hst
   subst hst;refine An (L':=[(2,_),(6,_)]) (ms':=[row a_r3 cap_r3 59 13 AutoState.d l5,box b5 27 [.v (.slice a_r3 l5.length cap_r3),.i64 z1],_,_,_,_,_]) rfl rfl ?_;refine zq3 ?_;refine Ap (CP (i:=72) (q:=0) 0 rfl rfl rfl rfl rfl).refines ?_;refine zst 6 ?_;refine Aj (ms':=[_,box b5 27 [_,_],_,box b3 43 [_],box b2 43 [_],_,box b1 27 [_,_]]) rfl ?_;refine gNl ?_
   cases hm2;exact Af zr1
def DW (a1:AutoAuto):Option (AutoAuto×Int):=
 (E9 a1).bind fun x1 =>
 bif (!decide (x1=0)) then
  some ((⟨([]:List AutoState),0⟩:AutoAuto),x1)
 else
  (Ft a1).bind fun x2 =>
  some ((⟨x2.l,x2.start⟩:AutoAuto),0)
theorem OR {a1:AutoAuto} {r_1:AutoAuto} {r_2:Int} (hm:DW a1=some (r_1,r_2)):Fn0 Tryz.prog 29 [AutoAuto.d a1] (.tup [AutoAuto.d r_1,.i64 r_2]):=by
 unfold DW at hm;refine Ae Tryz.func29 rfl Tryz.ntmps29 rfl fun H0 fr w0=>?_;refine zq3 ?_;refine JY fun b1=>?_;refine zq6 ?_;obtain ⟨x1,hx1,hm⟩:=bS hm;refine zc0 (Qb hx1) ?_;refine zq7 ?_;refine zcn hm (fun hc1 hm=>?_) (fun hc1 hm=>?_)
 ·refine zq2 ?_
  refine Ak rfl rfl rfl zb27b ?_;refine zq1 ?_;refine zst 0 ?_;refine Aj (ms':=[box b1 27 [_,_]]) rfl ?_;refine zq2 ?_
  cases hm;exact Af zr2
 ·refine zq4 ?_
  obtain ⟨x2,hx2,hm⟩:=bS hm;refine zc0 (Ol hx2) ?_;refine zst 0 ?_;refine Aj (ms':=[box b1 27 [_,_]]) rfl ?_;refine zq2 ?_
  cases hm;exact Af zr2
def Ci (to1:(Int->Option Int)) (z4:(List AFd)):Nat->(Int×(List AFd)×Int×Int×Int)->Option ((List AFd)×Int×Int×Int)
 | 0,_=>none
 | n+1,(x4,l2,z8,z9,z10) =>
  bif (decide (x4<(z4.length:Int))) then
   (idx l2 x4).bind fun x5 =>
   (to1 x5.at_).bind fun x6 =>
   (idx l2 x4).bind fun x7 =>
   grd (InR (x4+1)) <|
   Ci to1 z4 n ((x4+1),(l2.set (x4).toNat (⟨x7.name,x6⟩:AFd)),z8,z9,z10)
  else
   some (l2,z8,z9,z10)
def Et (n1:ANd) (to1:(Int->Option Int)):Option ANd:=
 (C0 n1.kind).bind fun x1 =>
 (bif x1 then
  (to1 n1.a).bind fun x2 =>
  (to1 n1.b).bind fun x3 =>
  some (n1.kind,x2,x3,n1.l)
 else
  some (n1.kind,n1.a,n1.b,n1.l):Option (Int×Int×Int×(List AFd))).bind fun (z1,z2,z3,z4) =>
 grd (z4.length*24<=140737488355328) <|
 (Ci to1 z4 FU (0,z4,z1,z2,z3):Option ((List AFd)×Int×Int×Int)).bind fun (l1,z5,z6,z7) =>
 some (⟨z5,z6,z7,l1⟩:ANd)
theorem L9 {n1:ANd} {to1:(Int->Option Int)} {r_1:ANd} {tl_0:List Asrt} {fv_to1:D} (hfto1:U6 Tryz.prog fv_to1 D.i64 D.i64 tl_0 to1) (hm:Et n1 to1=some r_1):FnT Tryz.prog 100 [ANd.d n1,fv_to1] tl_0 (ANd.d r_1):=by
 unfold Et at hm;refine Ae Tryz.func100 rfl Tryz.ntmps100 rfl fun H0 fr w0=>?_;refine zq2 ?_;refine AJ rfl rfl rfl (Iv rfl rfl rfl) ?_;rintro _ _ ⟨b1,rfl,rfl⟩;refine NF fun b2=>?_;refine zq6 ?_;obtain ⟨x1,hx1,hm⟩:=bS hm;refine zc0 (HC hx1) ?_;refine gNl ?_;obtain ⟨o_1,hj1,hm1⟩:=bS hm;refine Al [(1,_),(2,_),(4,_)] [(0,_)] (fun (st:(Int×Int×Int×(List AFd))) (hid:Unit)=>match st,hid with | (z1,z2,z3,z4),_=>[]) (fun F (st:(Int×Int×Int×(List AFd))) (hid:Unit)=>match st,hid with | (z1,z2,z3,z4),_=>[(nthF F 0),box b1 49 [.i64 z1,.i64 z2,.i64 z3,.list 2 AFd.d z4]]++tl_0) (fun st=>st=o_1) ⟨rfl,rfl,rfl,trivial⟩ ⟨rfl,trivial⟩ ?_ ?_
 ·refine zcn hj1 (fun hc1 hj1=>?_) (fun hc1 hj1=>?_)
  ·obtain ⟨x2,hx2,hj1⟩:=bS hj1
   obtain ⟨x3,hx3,hj1⟩:=bS hj1;refine zdr 9 ?_;refine zq3 ?_;refine Av rfl rfl rfl (J8 (tl:=tl_0) [_,_] rfl rfl rfl (hfto1 _ _ hx2)) ?_;refine zq3 ?_;refine Av rfl rfl rfl (J8 (tl:=tl_0) [_,_] rfl rfl rfl (hfto1 _ _ hx3)) ?_;refine zq2 ?_;refine zst 1 ?_;refine Aj (ms':=[box b2 49 [_,_,_,_],box b1 49 [_,_,_,_]]++tl_0) rfl ?_;refine zq1 ?_;refine zst 1 ?_;refine Aj (ms':=[box b2 49 [_,_,_,_],box b1 49 [_,_,_,_]]++tl_0) rfl ?_;refine gNl ?_;exact ⟨_,(),Ac hj1,trivial,⟨rfl,rfl,rfl,trivial⟩,[],rfl⟩
  ·refine gSp ?_
   exact ⟨_,(),Ac hj1,trivial,⟨rfl,rfl,rfl,trivial⟩,[],rfl⟩
 ·rintro ⟨z1,z2,z3,z4⟩ _ hst
  subst hst;refine An (L':=[(1,_),(2,_),(4,_)]) (ms':=[_,box b1 49 [.i64 z1,.i64 z2,.i64 z3,.list 2 AFd.d z4]]++tl_0) rfl rfl ?_;refine zq4 ?_;obtain ⟨hg4,hm1⟩:=Aa hm1;refine AJ rfl rfl rfl (D5 (ms₁:=[]) Tryz.call143 rfl (List.Perm.refl _) (N9 hg4)) ?_;rintro _ _ ⟨_,⟨a_r1,cap_r1,hd_r1,hq_r1⟩,rfl⟩;obtain ⟨m_r1,hm_r1⟩:∃ m,m=z4.length:=⟨_,rfl⟩;rw [<- hm_r1] at hd_r1 hq_r1;subst hd_r1 hq_r1
  clear hm_r1
  refine zq1 ?_;refine zst 2 ?_;refine Aj (ms':=[_,box b2 49 [_,_,_,_],box b1 49 [_,_,_,_]]++tl_0) rfl ?_;refine zq6 ?_;refine Ak rfl rfl rfl (CZ 0 Tryz.runUnderlying47 rfl rfl) ?_;refine zq2 ?_;obtain ⟨o_2,hj2,hm2⟩:=bS hm1;refine Al [(2,_),(4,_)] [(1,_)] (fun (st:((List AFd)×Int×Int×Int)) (hid:Unit)=>match st,hid with | (l1,z5,z6,z7),_=>[]) (fun F (st:((List AFd)×Int×Int×Int)) (hid:Unit)=>match st,hid with | (l1,z5,z6,z7),_=>[arr a_r1 m_r1 cap_r1 71 2 AFd.d l1,(nthF F 0),box b1 49 [.i64 z5,.i64 z6,.i64 z7,.v (.slice a_r1 m_r1 cap_r1)]]++tl_0) (fun st=>st=o_2) ⟨rfl,rfl,trivial⟩ ⟨rfl,trivial⟩ ?_ ?_
  ·refine Aq ?_
   refine Am [(1,_),(2,_),(4,_),(25,_)] [(1,_)] (fun (st:(Int×(List AFd)×Int×Int×Int)) (hid:Unit)=>match st,hid with | (x4,l2,z8,z9,z10),_=>[(26,.i64 x4)]) (fun F (st:(Int×(List AFd)×Int×Int×Int)) (hid:Unit)=>match st,hid with | (x4,l2,z8,z9,z10),_=>[arr a_r1 m_r1 cap_r1 71 2 AFd.d l2,(nthF F 0),box b1 49 [.i64 z8,.i64 z9,.i64 z10,.v (.slice a_r1 m_r1 cap_r1)]]++tl_0) () hj2 (fun _=>rfl) ⟨rfl,rfl,rfl,rfl,trivial⟩ ⟨rfl,trivial⟩ ⟨rfl,trivial⟩ rfl ?_;rintro n ⟨x4,l2,z8,z9,z10⟩ ⟨⟩ hj2;rw [Ci] at hj2;refine At (L':=[(26,.i64 x4),(1,_),(2,_),(4,_),(25,_)]) (ms':=[arr a_r1 m_r1 cap_r1 71 2 AFd.d l2,_,box b1 49 [.i64 z8,.i64 z9,.i64 z10,.v (.slice a_r1 m_r1 cap_r1)]]++tl_0) rfl rfl ?_;refine zq5 ?_;refine zcn hj2 (fun hc2 hj2=>?_) (fun hc2 hj2=>?_)
   ·refine zq8 ?_
    obtain ⟨x5,hx5,hj2⟩:=bS hj2;obtain ⟨x6,hx6,hj2⟩:=bS hj2;obtain ⟨x7,hx7,hj2⟩:=bS hj2;refine zdr 13 ?_;refine zq7 ?_;refine Av rfl rfl rfl (Ag 0 Tryz.runUnderlying47 Tryz.sizeOf71 rfl rfl rfl hx5) ?_;refine Av rfl rfl rfl (CW (b:=0) 0 Jd rfl rfl (Ay hx5).2) ?_;refine Av rfl rfl rfl (AR (off:=1) 0 Tryz.isAgg3 rfl rfl (Ay hx5).2 rfl rfl rfl) ?_;refine Av rfl rfl rfl (J8 (tl:=tl_0) [_,_,_] rfl rfl rfl (hfto1 _ _ hx6)) ?_;refine Av rfl rfl rfl (Ag 0 Tryz.runUnderlying47 Tryz.sizeOf71 rfl rfl rfl hx7) ?_;refine Av rfl rfl rfl (CW (b:=0) 0 Jd rfl rfl (Ay hx7).2) ?_;refine EB ?_;refine IW rfl rfl (Bn (off:=1) (z':=(⟨x7.name,x6⟩:AFd)) 0 Tryz.sizeOf3 rfl rfl (Ay hx7).2 rfl rfl rfl rfl rfl rfl (nB rfl) rfl rfl) ?_;rintro _ _ rfl;refine Aj (ms':=[_,box b2 49 [_,_,_,_],box b1 49 [_,_,_,_]]++tl_0) rfl ?_;refine zq2 ?_;obtain ⟨hg8,hj2⟩:=Aa hj2;refine zq3 ?_;exact ⟨_,(),hj2,⟨rfl,trivial⟩,⟨rfl,rfl,rfl,rfl,trivial⟩,[],rfl⟩
   ·refine Au ?_
    exact ⟨_,(),Ac hj2,trivial,⟨rfl,rfl,trivial⟩,[],rfl⟩
  ·rintro ⟨l1,z5,z6,z7⟩ ⟨⟩ hst
   subst hst;refine An (L':=[(2,_),(4,_)]) (ms':=[arr a_r1 m_r1 cap_r1 71 2 AFd.d l1,_,box b1 49 [.i64 z5,.i64 z6,.i64 z7,.v (.slice a_r1 m_r1 cap_r1)]]++tl_0) rfl rfl ?_;refine zq2 ?_;refine KQ 0 rfl rfl ?_;rintro rfl;refine zq1 ?_;refine Ap (CP (i:=43) (q:=3) 0 rfl rfl rfl rfl rfl).refines ?_;refine zst 1 ?_;refine Aj (ms':=[_,box b2 49 [_,_,_,_],box b1 49 [_,_,_,_]]++tl_0) rfl ?_;refine gNl (Af ?_);exact retK (AV (ms':=tl_0) (drop:=[_,_,_]) rfl (ES 1 rfl rfl rfl Tryz.isAgg49 Tryz.sizeOf49 rfl) (List.Perm.refl _)) ⟨congrArg (fun (p:ANd)=>(ANd.d p:D)) (Ac hm2),rfl⟩
def DZ (k1:Int) (z1:(List (Int×Int))):Option Int:=
 some ((mget z1 k1).getD (0:Int))
theorem Lo {k1:Int} {z1:(List (Int×Int))} {r_1:Int} {b_q1:Nat} (hm:DZ k1 z1=some r_1):FnT Tryz.prog 101 [.i64 k1,.ref (.v (.map (some b_q1)))] [mp b_q1 kI64 D.i64 z1] (.i64 r_1):=by
 unfold DZ at hm;refine Ae Tryz.func101 rfl Tryz.ntmps101 rfl fun H0 fr w0=>?_;refine zq8 ?_;refine Ak rfl rfl rfl (Tr (z0:=(0:Int)) 0 Tryz.runUnderlying88 (Si Tryz.underlying3) Tryz.zeroValue3 (fun _=>conc_v.2 rfl) rfl rfl rfl) ?_;refine zq2 ?_;refine Af ?_;exact retK (AV (ms':=[_]) (drop:=[]) rfl (A6 rfl) (List.Perm.refl _)) ⟨congrArg (fun (p:Int)=>(.i64 p:D)) (Ac hm),rfl⟩
def Cy  : List Int->((List Int)×(List (Int×Int)))->Option ((List Int)×(List (Int×Int)))
 | [],(l2,mm2) =>
  some (l2,mm2)
 | x1::rr,(l2,mm2) =>
  grd ((l2.length+([x1]:List _).length)*8<=140737488355328) <|
  Cy rr ((l2++[x1]),(mset mm2 x1 (l2.length:Int)))
def CV (t1:ATy) (l1:(List Int)) (mm1:(List (Int×Int))):Nat->(Int×(List ANd)×Int)->Option ((List ANd)×Int)
 | 0,_=>none
 | n+1,(x2,l4,z2) =>
  bif (decide (x2<(l1.length:Int))) then
   (idx l1 x2).bind fun x3 =>
   (idx t1.l x3).bind fun x4 =>
   (Et x4 (fun y0=>DZ y0 mm1)).bind fun x5 =>
   grd ((l4.length+([x5]:List _).length)*48<=140737488355328) <|
   grd (InR (x2+1)) <|
   CV t1 l1 mm1 n ((x2+1),(l4++[x5]),z2)
  else
   some (l4,z2)
def EQ (t1:ATy) (root1:Int):Option ATy:=
 ((Ir t1 root1).bind fun xs1 =>
 Cy xs1 ([],([]:List (Int×Int))):Option ((List Int)×(List (Int×Int)))).bind fun (l1,mm1) =>
 (CV t1 l1 mm1 FU (0,[],0):Option ((List ANd)×Int)).bind fun (l3,z1) =>
 some (⟨l3,z1⟩:ATy)
theorem Ny {t1:ATy} {root1:Int} {r_1:ATy} (hm:EQ t1 root1=some r_1):Fn0 Tryz.prog 70 [ATy.d t1,.i64 root1] (ATy.d r_1):=by
 unfold EQ at hm;refine Ae Tryz.func70 rfl Tryz.ntmps70 rfl fun H0 fr w0=>?_;refine zq3 ?_;refine F7 fun b1=>?_;refine zq3 ?_;refine AJ rfl rfl rfl (Rq (fk:=kI64) (fv:=D.i64)) ?_;rintro _ _ ⟨b2,rfl,rfl⟩;refine VN fun b3=>?_;refine zst 0 ?_;refine Aj (ms':=[box b3 88 [_],_,box b1 31 [_,_]]) rfl ?_;refine Ap (Gb (d := .v (.map (some b2))) 0 5 rfl rfl rfl rfl) ?_;refine zq3 ?_;refine P6 fun b4=>?_;refine Ap (AK (T:=3) (sz:=1) (f:=D.i64)) ?_;refine zq6 ?_;refine Ak rfl rfl rfl (B7 Tryz.call85 rfl Qv) ?_;refine gNl ?_;obtain ⟨o_1,hj1,hm1⟩:=bS hm;refine Al [(2,_),(4,_),(5,_),(6,_)] [(3,_)] (fun (st:((List Int)×(List (Int×Int)))) (hid:(Option Addr×Nat))=>match st,hid with | (l1,mm1),(a_r1,cap_r1)=>[]) (fun F (st:((List Int)×(List (Int×Int)))) (hid:(Option Addr×Nat))=>match st,hid with | (l1,mm1),(a_r1,cap_r1)=>[row a_r1 cap_r1 3 1 D.i64 l1,box b4 43 [.v (.slice a_r1 l1.length cap_r1)],mp b2 kI64 D.i64 mm1,(nthF F 0)]) (fun st=>st=o_1) ⟨rfl,rfl,rfl,rfl,trivial⟩ ⟨rfl,trivial⟩ ?_ ?_
 ·refine Aq ?_
  obtain ⟨xs1,hx1,hj1⟩:=bS hj1;refine J2 (fun (p:Int)=>[.i64 p]) [(3,_)] (fun F (st:((List Int)×(List (Int×Int)))) (hid:(Option Addr×Nat))=>match st,hid with | (l2,mm2),(a_r1,cap_r1)=>[row a_r1 cap_r1 3 1 D.i64 l2,box b4 43 [.v (.slice a_r1 l2.length cap_r1)],mp b2 kI64 D.i64 mm2,(nthF F 0)]) (_,_) hj1 ⟨rfl,trivial⟩ rfl rfl Tryz.call122 (Oz hx1) (fun _=>rfl) rfl ?_ ?_
  ·rintro H0r frr ror w0r hrr x1 rr ⟨l2,mm2⟩ ⟨a_r1,cap_r1⟩ hj1
   rw [Cy] at hj1;refine At (ms':=[row a_r1 cap_r1 3 1 D.i64 l2,box b4 43 [.v (.slice a_r1 l2.length cap_r1)],mp b2 kI64 D.i64 mm2,_]) rfl rfl ?_;refine zq3 ?_
   intro H0r frr ror w0r hrr
   refine zq6 ?_;refine Ak rfl rfl rfl (.view (peekE (i:=18) 0 rfl rfl rfl) (Em Tryz.runUnderlying43 rfl)) ?_;refine IW rfl rfl (OP (v:=(l2.length:Int)) 2 Tryz.runUnderlying88 (Si Tryz.underlying3) rfl rfl rfl rfl) ?_;rintro _ _ rfl;refine zq4 ?_;refine Ak rfl rfl rfl (zs1 D.i64) ?_;obtain ⟨hg2,hj1⟩:=Aa hj1;refine zap 0 hg2 fun a_r1 cap_r1=>?_;refine Aj (ms':=[_,box b4 43 [_],_,box b1 31 [_,_]]) rfl ?_;refine zst 1 ?_;refine Aj (ms':=[_,box b4 43 [_],_,box b1 31 [_,_]]) rfl ?_;refine gNl ?_;exact ⟨_,(_,_),hj1,[],rfl⟩
  ·rintro ⟨l2,mm2⟩ ⟨a_r1,cap_r1⟩ hj1
   rw [Cy] at hj1;refine An (ms':=[row a_r1 cap_r1 3 1 D.i64 l2,box b4 43 [.v (.slice a_r1 l2.length cap_r1)],mp b2 kI64 D.i64 mm2,_]) rfl rfl ?_;exact ⟨_,(_,_),Ac hj1,trivial,⟨rfl,rfl,rfl,rfl,trivial⟩,[],rfl⟩
 ·rintro ⟨l1,mm1⟩ ⟨a_r1,cap_r1⟩ hst
  subst hst;refine An (L':=[(2,_),(4,_),(5,_),(6,_)]) (ms':=[row a_r1 cap_r1 3 1 D.i64 l1,box b4 43 [.v (.slice a_r1 l1.length cap_r1)],mp b2 kI64 D.i64 mm1,_]) rfl rfl ?_;refine zq2 ?_;refine VR fun b6=>?_;refine Ap (AK (T:=49) (sz:=4) (f:=ANd.d)) ?_;refine zq5 ?_;refine Ak rfl rfl rfl (.view (peekE (i:=24) 2 rfl rfl rfl) (Em Tryz.runUnderlying43 rfl)) ?_;refine zq2 ?_;obtain ⟨o_2,hj2,hm2⟩:=bS hm1;refine Al [(4,_),(8,_)] [(2,_),(3,_),(4,_),(5,_)] (fun (st:((List ANd)×Int)) (hid:(Option Addr×Nat))=>match st,hid with | (l3,z1),(a_r2,cap_r2)=>[]) (fun F (st:((List ANd)×Int)) (hid:(Option Addr×Nat))=>match st,hid with | (l3,z1),(a_r2,cap_r2)=>[row a_r2 cap_r2 49 4 ANd.d l3,box b6 31 [.v (.slice a_r2 l3.length cap_r2),.i64 z1],(nthF F 0),(nthF F 1),(nthF F 2),(nthF F 3)]) (fun st=>st=o_2) ⟨rfl,rfl,trivial⟩ ⟨rfl,rfl,rfl,rfl,trivial⟩ ?_ ?_
  ·refine Aq ?_
   refine Am [(2,_),(4,_),(5,_),(8,_),(24,_),(25,_)] [(2,_),(3,_),(4,_),(5,_)] (fun (st:(Int×(List ANd)×Int)) (hid:(Option Addr×Nat))=>match st,hid with | (x2,l4,z2),(a_r2,cap_r2)=>[(26,.i64 x2)]) (fun F (st:(Int×(List ANd)×Int)) (hid:(Option Addr×Nat))=>match st,hid with | (x2,l4,z2),(a_r2,cap_r2)=>[row a_r2 cap_r2 49 4 ANd.d l4,box b6 31 [.v (.slice a_r2 l4.length cap_r2),.i64 z2],(nthF F 0),(nthF F 1),(nthF F 2),(nthF F 3)]) (_,_) hj2 (fun _=>rfl) ⟨rfl,rfl,rfl,rfl,rfl,rfl,trivial⟩ ⟨rfl,rfl,rfl,rfl,trivial⟩ ⟨rfl,trivial⟩ rfl ?_;rintro n ⟨x2,l4,z2⟩ ⟨a_r2,cap_r2⟩ hj2;rw [CV] at hj2;refine At (L':=[(26,.i64 x2),(2,_),(4,_),(5,_),(8,_),(24,_),(25,_)]) (ms':=[row a_r2 cap_r2 49 4 ANd.d l4,box b6 31 [.v (.slice a_r2 l4.length cap_r2),.i64 z2],_,_,_,_]) rfl rfl ?_;refine zq5 ?_;refine zcn hj2 (fun hc1 hj2=>?_) (fun hc1 hj2=>?_)
   ·refine zq5 ?_
    obtain ⟨x3,hx3,hj2⟩:=bS hj2;refine Ak rfl rfl rfl (.view (peekE (i:=24) 2 rfl rfl rfl) (oIm Tryz.runUnderlying43 Tryz.sizeOf3 rfl rfl hx3)) ?_;refine zq3 ?_;obtain ⟨x4,hx4,hj2⟩:=bS hj2;obtain ⟨x5,hx5,hj2⟩:=bS hj2;refine zdr 10 ?_;refine zq7 ?_;refine Av rfl rfl rfl (Di rfl rfl) ?_;refine Av rfl rfl rfl (TI [4] Tryz.call100 rfl rfl (Ar rfl CR) (L9 (fun _ _ h=>IG Tryz.call101 (Lo h)) hx5)) ?_;refine Av rfl rfl rfl (zs1 ANd.d) ?_;refine EB ?_;obtain ⟨hg6,hj2⟩:=Aa hj2;refine zap 0 hg6 fun a_r2 cap_r2=>?_;refine Aj (ms':=[_,box b6 31 [_,_],_,box b4 43 [_],_,box b1 31 [_,_]]) rfl ?_;refine zq1 ?_;refine zst 1 ?_;refine Aj (ms':=[_,box b6 31 [_,_],_,box b4 43 [_],_,box b1 31 [_,_]]) rfl ?_;refine zq2 ?_;obtain ⟨hg7,hj2⟩:=Aa hj2;refine zq3 ?_;exact ⟨_,(_,_),hj2,⟨rfl,trivial⟩,⟨rfl,rfl,rfl,rfl,rfl,rfl,trivial⟩,[],rfl⟩
   ·refine Au ?_
    exact ⟨_,(_,_),Ac hj2,trivial,⟨rfl,rfl,trivial⟩,[],rfl⟩
  ·rintro ⟨l3,z1⟩ ⟨a_r2,cap_r2⟩ hst
   subst hst;refine An (L':=[(4,_),(8,_)]) (ms':=[row a_r2 cap_r2 49 4 ANd.d l3,box b6 31 [.v (.slice a_r2 l3.length cap_r2),.i64 z1],_,_,_,_]) rfl rfl ?_;refine zq3 ?_;refine Ap (CP (i:=43) (q:=0) 0 rfl rfl rfl rfl rfl).refines ?_;refine zst 5 ?_;refine Aj (ms':=[_,box b6 31 [_,_],_,box b4 43 [_],_,box b1 31 [_,_]]) rfl ?_;refine gNl ?_
   cases hm2;exact Af zr1
def Eb (t1:ATy):Option (ATy×Int):=
 (DX t1).bind fun x1 =>
 bif (!decide (x1=0)) then
  some ((⟨([]:List ANd),0⟩:ATy),x1)
 else
  (EQ t1 t1.root).bind fun x2 =>
  some ((⟨x2.l,x2.root⟩:ATy),0)
theorem M9 {t1:ATy} {r_1:ATy} {r_2:Int} (hm:Eb t1=some (r_1,r_2)):Fn0 Tryz.prog 32 [ATy.d t1] (.tup [ATy.d r_1,.i64 r_2]):=by
 unfold Eb at hm;refine Ae Tryz.func32 rfl Tryz.ntmps32 rfl fun H0 fr w0=>?_;refine zq3 ?_;refine F7 fun b1=>?_;refine zq6 ?_;obtain ⟨x1,hx1,hm⟩:=bS hm;refine zc0 (HP hx1) ?_;refine zq7 ?_;refine zcn hm (fun hc1 hm=>?_) (fun hc1 hm=>?_)
 ·refine zq2 ?_
  refine Ak rfl rfl rfl zb31a ?_;refine zq1 ?_;refine zst 0 ?_;refine Aj (ms':=[box b1 31 [_,_]]) rfl ?_;refine zq2 ?_
  cases hm;exact Af zr2
 ·refine zq6 ?_
  obtain ⟨x2,hx2,hm⟩:=bS hm;refine zc0 (Ny hx2) ?_;refine zst 0 ?_;refine Aj (ms':=[box b1 31 [_,_]]) rfl ?_;refine zq2 ?_
  cases hm;exact Af zr2
def BU (x1:AutoState):Nat->(Int×(List AutoEdge)×(List AutoEdge)×Bool×Bool×Bool×Bool×Bool×Bool×Bool×Bool×(List Int)×Int×Int)->Option ((List AutoEdge)×(List AutoEdge)×Bool×Bool×Bool×Bool×Bool×Bool×Bool×Bool×(List Int)×Int×Int)
 | 0,_=>none
 | n+1,(k1,l5,l6,z14,z15,z16,z17,z18,z19,z20,z21,z22,z23,z24) =>
  bif (decide (k1<(x1.fields.length:Int))) then
   (idx x1.fields k1).bind fun x3 =>
   (idx x1.fields k1).bind fun x4 =>
   grd ((l6.length+([(⟨x3.name,x4.to_⟩:AutoEdge)]:List _).length)*24<=140737488355328) <|
   grd (InR (k1+1)) <|
   BU x1 n ((k1+1),l5,(l6++[(⟨x3.name,x4.to_⟩:AutoEdge)]),z14,z15,z16,z17,z18,z19,z20,z21,z22,z23,z24)
  else
   some (l5,l6,z14,z15,z16,z17,z18,z19,z20,z21,z22,z23,z24)
def BS (x1:AutoState):Nat->(Int×(List AutoEdge)×(List AutoEdge)×Bool×Bool×Bool×Bool×Bool×Bool×Bool×Bool×(List Int)×Int×Int)->Option ((List AutoEdge)×(List AutoEdge)×Bool×Bool×Bool×Bool×Bool×Bool×Bool×Bool×(List Int)×Int×Int)
 | 0,_=>none
 | n+1,(k2,l9,l10,z36,z37,z38,z39,z40,z41,z42,z43,z44,z45,z46) =>
  bif (decide (k2<(x1.tags.length:Int))) then
   (idx x1.tags k2).bind fun x5 =>
   (idx x1.tags k2).bind fun x6 =>
   grd ((l9.length+([(⟨x5.name,x6.to_⟩:AutoEdge)]:List _).length)*24<=140737488355328) <|
   grd (InR (k2+1)) <|
   BS x1 n ((k2+1),(l9++[(⟨x5.name,x6.to_⟩:AutoEdge)]),l10,z36,z37,z38,z39,z40,z41,z42,z43,z44,z45,z46)
  else
   some (l9,l10,z36,z37,z38,z39,z40,z41,z42,z43,z44,z45,z46)
def BQ (a1:AutoAuto):Nat->(Int×(List AutoState)×Int)->Option ((List AutoState)×Int)
 | 0,_=>none
 | n+1,(i1,l2,z2) =>
  bif (decide (i1<(a1.l.length:Int))) then
   (idx a1.l i1).bind fun x1 =>
   (FO x1.vars).bind fun x2 =>
   (BU x1 FU (0,([]:List AutoEdge),([]:List AutoEdge),x1.plus,x1.all,x1.int,x1.bool,x1.str,x1.arrow,x1.rec_,x1.tag,x2,x1.dom,x1.cod):Option ((List AutoEdge)×(List AutoEdge)×Bool×Bool×Bool×Bool×Bool×Bool×Bool×Bool×(List Int)×Int×Int)).bind fun (l3,l4,z3,z4,z5,z6,z7,z8,z9,z10,z11,z12,z13) =>
   (BS x1 FU (0,l3,l4,z3,z4,z5,z6,z7,z8,z9,z10,z11,z12,z13):Option ((List AutoEdge)×(List AutoEdge)×Bool×Bool×Bool×Bool×Bool×Bool×Bool×Bool×(List Int)×Int×Int)).bind fun (l7,l8,z25,z26,z27,z28,z29,z30,z31,z32,z33,z34,z35) =>
   grd ((l2.length+([(⟨z25,z26,z27,z28,z29,z30,z31,z32,z33,z34,z35,l8,l7⟩:AutoState)]:List _).length)*96<=140737488355328) <|
   grd (InR (i1+1)) <|
   BQ a1 n ((i1+1),(l2++[(⟨z25,z26,z27,z28,z29,z30,z31,z32,z33,z34,z35,l8,l7⟩:AutoState)]),z2)
  else
   some (l2,z2)
def CN (a1:AutoAuto):Option AutoAuto:=
 (BQ a1 FU (0,([]:List AutoState),a1.start):Option ((List AutoState)×Int)).bind fun (l1,z1) =>
 some (⟨l1,z1⟩:AutoAuto)
theorem II {a1:AutoAuto} {r_1:AutoAuto} (hm:CN a1=some r_1):Fn0 Tryz.prog 9 [AutoAuto.d a1] (AutoAuto.d r_1):=by
 unfold CN at hm;refine Ae Tryz.func9 rfl Tryz.ntmps9 rfl fun H0 fr w0=>?_;refine zq3 ?_;refine TY fun b1=>?_;refine zq5 ?_;refine Ak rfl rfl rfl zb24a ?_;refine TY fun b2=>?_;refine zst 0 ?_;refine Ap (AK (T:=46) (sz:=13) (f:=AutoState.d)) ?_;refine Aj (ms':=[_,box b2 24 [_,_],box b1 24 [_,_]]) rfl ?_;refine zq6 ?_;obtain ⟨o_1,hj1,hm1⟩:=bS hm;refine Al [(2,_),(3,_)] [(2,_)] (fun (st:((List AutoState)×Int)) (hid:(Option Addr×Nat))=>match st,hid with | (l1,z1),(a_r1,cap_r1)=>[]) (fun F (st:((List AutoState)×Int)) (hid:(Option Addr×Nat))=>match st,hid with | (l1,z1),(a_r1,cap_r1)=>[row a_r1 cap_r1 46 13 AutoState.d l1,box b2 24 [.v (.slice a_r1 l1.length cap_r1),.i64 z1],(nthF F 0)]) (fun st=>st=o_1) ⟨rfl,rfl,trivial⟩ ⟨rfl,trivial⟩ ?_ ?_
 ·refine Aq ?_
  refine Am [(1,_),(2,_),(3,_)] [(2,_)] (fun (st:(Int×(List AutoState)×Int)) (hid:(Option Addr×Nat))=>match st,hid with | (i1,l2,z2),(a_r1,cap_r1)=>[(4,.i64 i1)]) (fun F (st:(Int×(List AutoState)×Int)) (hid:(Option Addr×Nat))=>match st,hid with | (i1,l2,z2),(a_r1,cap_r1)=>[row a_r1 cap_r1 46 13 AutoState.d l2,box b2 24 [.v (.slice a_r1 l2.length cap_r1),.i64 z2],(nthF F 0)]) (_,_) hj1 (fun _=>rfl) ⟨rfl,rfl,rfl,trivial⟩ ⟨rfl,trivial⟩ ⟨rfl,trivial⟩ rfl ?_;rintro n ⟨i1,l2,z2⟩ ⟨a_r1,cap_r1⟩ hj1;rw [BQ] at hj1;refine At (L':=[(4,.i64 i1),(1,_),(2,_),(3,_)]) (ms':=[row a_r1 cap_r1 46 13 AutoState.d l2,box b2 24 [.v (.slice a_r1 l2.length cap_r1),.i64 z2],_]) rfl rfl ?_;refine zq9 ?_;refine zcn hj1 (fun hc1 hj1=>?_) (fun hc1 hj1=>?_)
  ·refine zq8 ?_
   obtain ⟨x1,hx1,hj1⟩:=bS hj1;refine Ak rfl rfl rfl (oIm Tryz.runUnderlying25 Tryz.sizeOf59 rfl rfl hx1) ?_;refine zq1 ?_;refine PG fun b3=>?_;refine zst 0 ?_;refine Aj (ms':=[box b3 59 [_,_,_,_,_,_,_,_,_,_,_,_,_],_,box b2 24 [_,_],box b1 24 [_,_]]) rfl ?_;refine zq2 ?_;obtain ⟨x2,hx2,hj1⟩:=bS hj1;refine Fz 25 [24] AY (by decide +kernel) (by decide +kernel) rfl (by decide +kernel) ?_;refine AD rfl rfl rfl rfl (oFb QU rfl) ?_;refine AD rfl rfl rfl rfl (oLb 0 Tryz.isAgg4 rfl rfl rfl rfl) ?_;refine AD rfl rfl rfl rfl (oFb Q5 rfl) ?_;refine AD rfl rfl rfl rfl (oLb 0 Tryz.isAgg4 rfl rfl rfl rfl) ?_;refine AD rfl rfl rfl rfl (oFb Ql rfl) ?_;refine AD rfl rfl rfl rfl (oLb 0 Tryz.isAgg4 rfl rfl rfl rfl) ?_;refine AD rfl rfl rfl rfl (oFb QI rfl) ?_;refine AD rfl rfl rfl rfl (oLb 0 Tryz.isAgg4 rfl rfl rfl rfl) ?_;refine AD rfl rfl rfl rfl (oFb Qo rfl) ?_;refine AD rfl rfl rfl rfl (oLb 0 Tryz.isAgg4 rfl rfl rfl rfl) ?_;refine AD rfl rfl rfl rfl (oFb NH rfl) ?_;refine AD rfl rfl rfl rfl (oLb 0 Tryz.isAgg4 rfl rfl rfl rfl) ?_;refine AD rfl rfl rfl rfl (oFb Nz rfl) ?_;refine AD rfl rfl rfl rfl (oLb 0 Tryz.isAgg4 rfl rfl rfl rfl) ?_;refine AD rfl rfl rfl rfl (oFb Nt rfl) ?_;refine AD rfl rfl rfl rfl (oLb 0 Tryz.isAgg4 rfl rfl rfl rfl) ?_;refine AD rfl rfl rfl rfl (oFb Jv rfl) ?_;refine AD rfl rfl rfl rfl (oLb 0 Tryz.isAgg3 rfl rfl rfl rfl) ?_;refine AD rfl rfl rfl rfl (oFb HV rfl) ?_;refine AD rfl rfl rfl rfl (oLb 0 Tryz.isAgg3 rfl rfl rfl rfl) ?_;refine AD rfl rfl rfl rfl (oFb QV rfl) ?_;refine AD rfl rfl rfl rfl (oLb 0 Tryz.isAgg43 rfl rfl rfl rfl) ?_;refine AD rfl rfl rfl rfl (B7 Tryz.call28 rfl (Mh hx2)) ?_;refine AD rfl rfl rfl rfl zb46a ?_;refine DN (R:=fun d A=>∃ b,d = .v (.pointer (some ⟨b,0,none⟩))/\A=box b 46 [.bool false,.bool false,.bool false,.bool false,.bool false,.bool false,.bool false,.bool false,.list 1 D.i64 [],.i64 0,.i64 0,.list 2 AutoEdge.d [],.list 2 AutoEdge.d []]) rfl rfl rfl (OpT.mono (AL Tryz.zeroValue46 (cs:=[.bool false,.bool false,.bool false,.bool false,.bool false,.bool false,.bool false,.bool false,.list 1 D.i64 [],.i64 0,.i64 0,.list 2 AutoEdge.d [],.list 2 AutoEdge.d []]) rfl) (by rintro d ms' ⟨b,rfl,rfl⟩;exact ⟨_,⟨b,rfl,rfl⟩,rfl⟩)) ?_;refine Gr ?_;rintro _ _ ⟨b4,rfl,rfl⟩;refine zst 0 ?_;refine Ap (AK (T:=61) (sz:=2) (f:=AutoEdge.d)) ?_;refine Ap (AK (T:=61) (sz:=2) (f:=AutoEdge.d)) ?_;refine Aj (ms':=[_,_,box b4 46 [_,_,_,_,_,_,_,_,_,_,_,_,_],box b3 59 [_,_,_,_,_,_,_,_,_,_,_,_,_],_,box b2 24 [_,_],box b1 24 [_,_]]) rfl ?_
   refine zq6 ?_;obtain ⟨o_2,hj2,hm2⟩:=bS hj1;refine Al [(1,_),(2,_),(3,_),(4,_),(5,_),(6,_)] [(3,_),(4,_),(5,_),(6,_)] (fun (st:((List AutoEdge)×(List AutoEdge)×Bool×Bool×Bool×Bool×Bool×Bool×Bool×Bool×(List Int)×Int×Int)) (hid:(Option Addr×Nat)×(Option Addr×Nat))=>match st,hid with | (l3,l4,z3,z4,z5,z6,z7,z8,z9,z10,z11,z12,z13),((a_r3,cap_r3),(a_r2,cap_r2))=>[]) (fun F (st:((List AutoEdge)×(List AutoEdge)×Bool×Bool×Bool×Bool×Bool×Bool×Bool×Bool×(List Int)×Int×Int)) (hid:(Option Addr×Nat)×(Option Addr×Nat))=>match st,hid with | (l3,l4,z3,z4,z5,z6,z7,z8,z9,z10,z11,z12,z13),((a_r3,cap_r3),(a_r2,cap_r2))=>[row a_r3 cap_r3 61 2 AutoEdge.d l3,row a_r2 cap_r2 61 2 AutoEdge.d l4,box b4 46 [.bool z3,.bool z4,.bool z5,.bool z6,.bool z7,.bool z8,.bool z9,.bool z10,.list 1 D.i64 z11,.i64 z12,.i64 z13,.v (.slice a_r2 l4.length cap_r2),.v (.slice a_r3 l3.length cap_r3)],(nthF F 0),(nthF F 1),(nthF F 2),(nthF F 3)]) (fun st=>st=o_2) ⟨rfl,rfl,rfl,rfl,rfl,rfl,trivial⟩ ⟨rfl,rfl,rfl,rfl,trivial⟩ ?_ ?_
   ·refine Aq ?_
    refine Am [(1,_),(2,_),(3,_),(4,_),(5,_),(6,_)] [(3,_),(4,_),(5,_),(6,_)] (fun (st:(Int×(List AutoEdge)×(List AutoEdge)×Bool×Bool×Bool×Bool×Bool×Bool×Bool×Bool×(List Int)×Int×Int)) (hid:(Option Addr×Nat)×(Option Addr×Nat))=>match st,hid with | (k1,l5,l6,z14,z15,z16,z17,z18,z19,z20,z21,z22,z23,z24),((a_r3,cap_r3),(a_r2,cap_r2))=>[(7,.i64 k1)]) (fun F (st:(Int×(List AutoEdge)×(List AutoEdge)×Bool×Bool×Bool×Bool×Bool×Bool×Bool×Bool×(List Int)×Int×Int)) (hid:(Option Addr×Nat)×(Option Addr×Nat))=>match st,hid with | (k1,l5,l6,z14,z15,z16,z17,z18,z19,z20,z21,z22,z23,z24),((a_r3,cap_r3),(a_r2,cap_r2))=>[row a_r3 cap_r3 61 2 AutoEdge.d l5,row a_r2 cap_r2 61 2 AutoEdge.d l6,box b4 46 [.bool z14,.bool z15,.bool z16,.bool z17,.bool z18,.bool z19,.bool z20,.bool z21,.list 1 D.i64 z22,.i64 z23,.i64 z24,.v (.slice a_r2 l6.length cap_r2),.v (.slice a_r3 l5.length cap_r3)],(nthF F 0),(nthF F 1),(nthF F 2),(nthF F 3)]) ((_,_),(_,_)) hj2 (fun _=>rfl) ⟨rfl,rfl,rfl,rfl,rfl,rfl,trivial⟩ ⟨rfl,rfl,rfl,rfl,trivial⟩ ⟨rfl,trivial⟩ rfl ?_;rintro n ⟨k1,l5,l6,z14,z15,z16,z17,z18,z19,z20,z21,z22,z23,z24⟩ ⟨⟨a_r3,cap_r3⟩,⟨a_r2,cap_r2⟩⟩ hj2;rw [BU] at hj2;refine At (L':=[(7,.i64 k1),(1,_),(2,_),(3,_),(4,_),(5,_),(6,_)]) (ms':=[row a_r3 cap_r3 61 2 AutoEdge.d l5,row a_r2 cap_r2 61 2 AutoEdge.d l6,box b4 46 [.bool z14,.bool z15,.bool z16,.bool z17,.bool z18,.bool z19,.bool z20,.bool z21,.list 1 D.i64 z22,.i64 z23,.i64 z24,.v (.slice a_r2 l6.length cap_r2),.v (.slice a_r3 l5.length cap_r3)],_,_,_,_]) rfl rfl ?_;refine zq9 ?_;refine zcn hj2 (fun hc2 hj2=>?_) (fun hc2 hj2=>?_)
    ·refine zq3 ?_
     obtain ⟨x3,hx3,hj2⟩:=bS hj2;obtain ⟨x4,hx4,hj2⟩:=bS hj2;refine zdr 16 ?_;refine zq5 ?_;refine Av rfl rfl rfl (oIm Tryz.runUnderlying57 Tryz.sizeOf62 rfl rfl hx3) ?_;refine zq5 ?_;refine Av rfl rfl rfl (oIm Tryz.runUnderlying57 Tryz.sizeOf62 rfl rfl hx4) ?_;refine zq2 ?_;refine Av rfl rfl rfl zb61a ?_;refine Av rfl rfl rfl (Ai (xs:=[_]) (f:=AutoEdge.d) (l:=[(⟨x3.name,x4.to_⟩:AutoEdge)]) Tryz.runUnderlying44 Tryz.sizeOf61 Tryz.zeroValue61 rfl rfl rfl (fun _=>⟨rfl,rfl,rfl⟩) rfl) ?_;refine EB ?_;obtain ⟨hg5,hj2⟩:=Aa hj2;refine zap 1 hg5 fun a_r2 cap_r2=>?_;refine Aj (ms':=[_,_,box b4 46 [_,_,_,_,_,_,_,_,_,_,_,_,_],box b3 59 [_,_,_,_,_,_,_,_,_,_,_,_,_],_,box b2 24 [_,_],box b1 24 [_,_]]) rfl ?_;refine zq1 ?_;refine zst 2 ?_;refine Aj (ms':=[_,_,box b4 46 [_,_,_,_,_,_,_,_,_,_,_,_,_],box b3 59 [_,_,_,_,_,_,_,_,_,_,_,_,_],_,box b2 24 [_,_],box b1 24 [_,_]]) rfl ?_;refine zq3 ?_;obtain ⟨hg6,hj2⟩:=Aa hj2;refine zq3 ?_;exact ⟨_,((_,_),(_,_)),hj2,⟨rfl,trivial⟩,⟨rfl,rfl,rfl,rfl,rfl,rfl,trivial⟩,[],rfl⟩
    ·refine Au ?_
     exact ⟨_,((_,_),(_,_)),Ac hj2,trivial,⟨rfl,rfl,rfl,rfl,rfl,rfl,trivial⟩,[],rfl⟩
   ·rintro ⟨l3,l4,z3,z4,z5,z6,z7,z8,z9,z10,z11,z12,z13⟩ ⟨⟨a_r3,cap_r3⟩,⟨a_r2,cap_r2⟩⟩ hst
    subst hst;refine An (L':=[(1,_),(2,_),(3,_),(4,_),(5,_),(6,_)]) (ms':=[row a_r3 cap_r3 61 2 AutoEdge.d l3,row a_r2 cap_r2 61 2 AutoEdge.d l4,box b4 46 [.bool z3,.bool z4,.bool z5,.bool z6,.bool z7,.bool z8,.bool z9,.bool z10,.list 1 D.i64 z11,.i64 z12,.i64 z13,.v (.slice a_r2 l4.length cap_r2),.v (.slice a_r3 l3.length cap_r3)],_,_,_,_]) rfl rfl ?_;refine zq5 ?_;obtain ⟨o_3,hj3,hm3⟩:=bS hm2;refine Al [(1,_),(2,_),(3,_),(4,_),(6,_)] [(3,_),(4,_),(5,_),(6,_)] (fun (st:((List AutoEdge)×(List AutoEdge)×Bool×Bool×Bool×Bool×Bool×Bool×Bool×Bool×(List Int)×Int×Int)) (hid:(Option Addr×Nat)×(Option Addr×Nat))=>match st,hid with | (l7,l8,z25,z26,z27,z28,z29,z30,z31,z32,z33,z34,z35),((a_r3,cap_r3),(a_r2,cap_r2))=>[]) (fun F (st:((List AutoEdge)×(List AutoEdge)×Bool×Bool×Bool×Bool×Bool×Bool×Bool×Bool×(List Int)×Int×Int)) (hid:(Option Addr×Nat)×(Option Addr×Nat))=>match st,hid with | (l7,l8,z25,z26,z27,z28,z29,z30,z31,z32,z33,z34,z35),((a_r3,cap_r3),(a_r2,cap_r2))=>[row a_r3 cap_r3 61 2 AutoEdge.d l7,row a_r2 cap_r2 61 2 AutoEdge.d l8,box b4 46 [.bool z25,.bool z26,.bool z27,.bool z28,.bool z29,.bool z30,.bool z31,.bool z32,.list 1 D.i64 z33,.i64 z34,.i64 z35,.v (.slice a_r2 l8.length cap_r2),.v (.slice a_r3 l7.length cap_r3)],(nthF F 0),(nthF F 1),(nthF F 2),(nthF F 3)]) (fun st=>st=o_3) ⟨rfl,rfl,rfl,rfl,rfl,trivial⟩ ⟨rfl,rfl,rfl,rfl,trivial⟩ ?_ ?_
    ·refine Aq ?_
     refine Am [(1,_),(2,_),(3,_),(4,_),(5,_),(6,_)] [(3,_),(4,_),(5,_),(6,_)] (fun (st:(Int×(List AutoEdge)×(List AutoEdge)×Bool×Bool×Bool×Bool×Bool×Bool×Bool×Bool×(List Int)×Int×Int)) (hid:(Option Addr×Nat)×(Option Addr×Nat))=>match st,hid with | (k2,l9,l10,z36,z37,z38,z39,z40,z41,z42,z43,z44,z45,z46),((a_r3,cap_r3),(a_r2,cap_r2))=>[(8,.i64 k2)]) (fun F (st:(Int×(List AutoEdge)×(List AutoEdge)×Bool×Bool×Bool×Bool×Bool×Bool×Bool×Bool×(List Int)×Int×Int)) (hid:(Option Addr×Nat)×(Option Addr×Nat))=>match st,hid with | (k2,l9,l10,z36,z37,z38,z39,z40,z41,z42,z43,z44,z45,z46),((a_r3,cap_r3),(a_r2,cap_r2))=>[row a_r3 cap_r3 61 2 AutoEdge.d l9,row a_r2 cap_r2 61 2 AutoEdge.d l10,box b4 46 [.bool z36,.bool z37,.bool z38,.bool z39,.bool z40,.bool z41,.bool z42,.bool z43,.list 1 D.i64 z44,.i64 z45,.i64 z46,.v (.slice a_r2 l10.length cap_r2),.v (.slice a_r3 l9.length cap_r3)],(nthF F 0),(nthF F 1),(nthF F 2),(nthF F 3)]) ((_,_),(_,_)) hj3 (fun _=>rfl) ⟨rfl,rfl,rfl,rfl,rfl,rfl,trivial⟩ ⟨rfl,rfl,rfl,rfl,trivial⟩ ⟨rfl,trivial⟩ rfl ?_;rintro n ⟨k2,l9,l10,z36,z37,z38,z39,z40,z41,z42,z43,z44,z45,z46⟩ ⟨⟨a_r3,cap_r3⟩,⟨a_r2,cap_r2⟩⟩ hj3;rw [BS] at hj3;refine At (L':=[(8,.i64 k2),(1,_),(2,_),(3,_),(4,_),(5,_),(6,_)]) (ms':=[row a_r3 cap_r3 61 2 AutoEdge.d l9,row a_r2 cap_r2 61 2 AutoEdge.d l10,box b4 46 [.bool z36,.bool z37,.bool z38,.bool z39,.bool z40,.bool z41,.bool z42,.bool z43,.list 1 D.i64 z44,.i64 z45,.i64 z46,.v (.slice a_r2 l10.length cap_r2),.v (.slice a_r3 l9.length cap_r3)],_,_,_,_]) rfl rfl ?_;refine zq9 ?_;refine zcn hj3 (fun hc3 hj3=>?_) (fun hc3 hj3=>?_)
     ·refine zq3 ?_
      obtain ⟨x5,hx7,hj3⟩:=bS hj3;obtain ⟨x6,hx8,hj3⟩:=bS hj3;refine zdr 16 ?_;refine zq5 ?_;refine Av rfl rfl rfl (oIm Tryz.runUnderlying57 Tryz.sizeOf62 rfl rfl hx7) ?_;refine zq5 ?_;refine Av rfl rfl rfl (oIm Tryz.runUnderlying57 Tryz.sizeOf62 rfl rfl hx8) ?_;refine zq2 ?_;refine Av rfl rfl rfl zb61a ?_;refine Av rfl rfl rfl (Ai (xs:=[_]) (f:=AutoEdge.d) (l:=[(⟨x5.name,x6.to_⟩:AutoEdge)]) Tryz.runUnderlying44 Tryz.sizeOf61 Tryz.zeroValue61 rfl rfl rfl (fun _=>⟨rfl,rfl,rfl⟩) rfl) ?_;refine EB ?_;obtain ⟨hg9,hj3⟩:=Aa hj3;refine zap 0 hg9 fun a_r3 cap_r3=>?_;refine Aj (ms':=[_,_,box b4 46 [_,_,_,_,_,_,_,_,_,_,_,_,_],box b3 59 [_,_,_,_,_,_,_,_,_,_,_,_,_],_,box b2 24 [_,_],box b1 24 [_,_]]) rfl ?_;refine zq1 ?_;refine zst 2 ?_;refine Aj (ms':=[_,_,box b4 46 [_,_,_,_,_,_,_,_,_,_,_,_,_],box b3 59 [_,_,_,_,_,_,_,_,_,_,_,_,_],_,box b2 24 [_,_],box b1 24 [_,_]]) rfl ?_;refine zq3 ?_;obtain ⟨hg10,hj3⟩:=Aa hj3;refine zq3 ?_;exact ⟨_,((_,_),(_,_)),hj3,⟨rfl,trivial⟩,⟨rfl,rfl,rfl,rfl,rfl,rfl,trivial⟩,[],rfl⟩
     ·refine Au ?_
      exact ⟨_,((_,_),(_,_)),Ac hj3,trivial,⟨rfl,rfl,rfl,rfl,rfl,trivial⟩,[],rfl⟩
    ·rintro ⟨l7,l8,z25,z26,z27,z28,z29,z30,z31,z32,z33,z34,z35⟩ ⟨⟨a_r3,cap_r3⟩,⟨a_r2,cap_r2⟩⟩ hst
     subst hst;refine An (L':=[(1,_),(2,_),(3,_),(4,_),(6,_)]) (ms':=[row a_r3 cap_r3 61 2 AutoEdge.d l7,row a_r2 cap_r2 61 2 AutoEdge.d l8,box b4 46 [.bool z25,.bool z26,.bool z27,.bool z28,.bool z29,.bool z30,.bool z31,.bool z32,.list 1 D.i64 z33,.i64 z34,.i64 z35,.v (.slice a_r2 l8.length cap_r2),.v (.slice a_r3 l7.length cap_r3)],_,_,_,_]) rfl rfl ?_;refine zq4 ?_;refine Ap (CP (i:=100) (q:=11) 1 rfl rfl rfl rfl rfl).refines ?_;refine Ap (CP (i:=100) (q:=12) 0 rfl rfl rfl rfl rfl).refines ?_;refine Ak rfl rfl rfl (Ai (xs:=[_]) (f:=AutoState.d) (l:=[(⟨z25,z26,z27,z28,z29,z30,z31,z32,z33,z34,z35,l8,l7⟩:AutoState)]) Tryz.runUnderlying22 Tryz.sizeOf46 Tryz.zeroValue46 rfl rfl rfl (fun _=>⟨rfl,rfl,rfl⟩) rfl) ?_;obtain ⟨hg11,hm3⟩:=Aa hm3;refine zap 4 hg11 fun a_r1 cap_r1=>?_;refine Aj (ms':=[_,_,box b4 46 [_,_,_,_,_,_,_,_,_,_,_,_,_],box b3 59 [_,_,_,_,_,_,_,_,_,_,_,_,_],_,box b2 24 [_,_],box b1 24 [_,_]]) rfl ?_;refine zq1 ?_;refine zst 5 ?_;refine Aj (ms':=[_,_,box b4 46 [_,_,_,_,_,_,_,_,_,_,_,_,_],box b3 59 [_,_,_,_,_,_,_,_,_,_,_,_,_],_,box b2 24 [_,_],box b1 24 [_,_]]) rfl ?_;refine zq3 ?_;obtain ⟨hg12,hm3⟩:=Aa hm3;refine zq3 ?_;exact ⟨_,(_,_),hm3,⟨rfl,trivial⟩,⟨rfl,rfl,rfl,trivial⟩,[_,_,_,_],rfl⟩
  ·refine Au ?_
   exact ⟨_,(_,_),Ac hj1,trivial,⟨rfl,rfl,trivial⟩,[],rfl⟩
 ·rintro ⟨l1,z1⟩ ⟨a_r1,cap_r1⟩ hst
  subst hst;refine An (L':=[(2,_),(3,_)]) (ms':=[row a_r1 cap_r1 46 13 AutoState.d l1,box b2 24 [.v (.slice a_r1 l1.length cap_r1),.i64 z1],_]) rfl rfl ?_;refine zq3 ?_;refine Ap (CP (i:=104) (q:=0) 0 rfl rfl rfl rfl rfl).refines ?_;refine zst 2 ?_;refine Aj (ms':=[_,box b2 24 [_,_],box b1 24 [_,_]]) rfl ?_;refine gNl ?_
  cases hm1;exact Af zr1
def Bz (l1:(List AutoEdge)):Nat->(Int×(List AFd))->Option (List AFd)
 | 0,_=>none
 | n+1,(k1,l3) =>
  bif (decide (k1<(l1.length:Int))) then
   (idx l1 k1).bind fun x1 =>
   (idx l1 k1).bind fun x2 =>
   grd ((l3.length+([(⟨x1.name,x2.to_⟩:AFd)]:List _).length)*24<=140737488355328) <|
   grd (InR (k1+1)) <|
   Bz l1 n ((k1+1),(l3++[(⟨x1.name,x2.to_⟩:AFd)]))
  else
   some l3
def BE (l1:(List AutoEdge)):Option (List AFd):=
 (Bz l1 FU (0,[]):Option (List AFd)).bind fun l2 =>
 some l2
theorem E0 {l1:(List AutoEdge)} {r_1:(List AFd)} (hm:BE l1=some r_1):Fn0 Tryz.prog 73 [.list 2 AutoEdge.d l1] (.list 2 AFd.d r_1):=by
 unfold BE at hm;refine Ae Tryz.func73 rfl Tryz.ntmps73 rfl fun H0 fr w0=>?_;refine zq3 ?_;refine Ap (nilE (i:=2) (sz:=2) (f:=AFd.d) rfl).refines ?_;refine zq3 ?_;refine AJ rfl rfl rfl (Ax (xs:=[]) (f:=AFd.d) (l:=[]) Tryz.runUnderlying47 Tryz.sizeOf71 Tryz.zeroValue71 rfl rfl rfl (fun _=>⟨rfl,rfl,rfl⟩) rfl (by simp [maxLen])) ?_;rintro _ _ ⟨a_r1,rfl,rfl⟩;refine zq7 ?_;obtain ⟨o_1,hj1,hm1⟩:=bS hm;refine Al [] [] (fun (st:(List AFd)) (hid:(Option Addr×Nat))=>match st,hid with | l2,(a_r1,cap_r1)=>[(3,.v (.slice a_r1 l2.length cap_r1))]) (fun F (st:(List AFd)) (hid:(Option Addr×Nat))=>match st,hid with | l2,(a_r1,cap_r1)=>[row a_r1 cap_r1 71 2 AFd.d l2]) (fun st=>st=o_1) trivial trivial ?_ ?_
 ·refine Aq ?_
  refine Am [(0,_)] [] (fun (st:(Int×(List AFd))) (hid:(Option Addr×Nat))=>match st,hid with | (k1,l3),(a_r1,cap_r1)=>[(3,.v (.slice a_r1 l3.length cap_r1)),(4,.i64 k1)]) (fun F (st:(Int×(List AFd))) (hid:(Option Addr×Nat))=>match st,hid with | (k1,l3),(a_r1,cap_r1)=>[row a_r1 cap_r1 71 2 AFd.d l3]) (_,_) hj1 (fun _=>rfl) ⟨rfl,trivial⟩ trivial ⟨rfl,rfl,trivial⟩ rfl ?_;rintro n ⟨k1,l3⟩ ⟨a_r1,cap_r1⟩ hj1;rw [Bz] at hj1;refine At (L':=[(3,.v (.slice a_r1 l3.length cap_r1)),(4,.i64 k1),(0,_)]) (ms':=[row a_r1 cap_r1 71 2 AFd.d l3]) rfl rfl ?_;refine zq8 ?_;refine zcn hj1 (fun hc1 hj1=>?_) (fun hc1 hj1=>?_)
  ·refine zq3 ?_
   obtain ⟨x1,hx1,hj1⟩:=bS hj1;obtain ⟨x2,hx2,hj1⟩:=bS hj1;refine zdr 13 ?_;refine zq3 ?_;refine Av rfl rfl rfl (oIm Tryz.runUnderlying44 Tryz.sizeOf61 rfl rfl hx1) ?_;refine zq4 ?_;refine Av rfl rfl rfl (oIm Tryz.runUnderlying44 Tryz.sizeOf61 rfl rfl hx2) ?_;refine zq2 ?_;refine Av rfl rfl rfl zb71a ?_;refine Av rfl rfl rfl (Ai (xs:=[_]) (f:=AFd.d) (l:=[(⟨x1.name,x2.to_⟩:AFd)]) Tryz.runUnderlying47 Tryz.sizeOf71 Tryz.zeroValue71 rfl rfl rfl (fun _=>⟨rfl,rfl,rfl⟩) rfl) ?_;refine EB ?_;obtain ⟨hg3,hj1⟩:=Aa hj1;refine zap 0 hg3 fun a_r1 cap_r1=>?_;refine Aj (ms':=[_]) rfl ?_;refine zq4 ?_;obtain ⟨hg4,hj1⟩:=Aa hj1;refine zq3 ?_;exact ⟨_,(_,_),hj1,⟨rfl,rfl,trivial⟩,⟨rfl,trivial⟩,[],rfl⟩
  ·refine Au ?_
   exact ⟨_,(_,_),Ac hj1,⟨rfl,trivial⟩,trivial,[],rfl⟩
 ·rintro l2 ⟨a_r1,cap_r1⟩ hst
  subst hst;refine An (L':=[(3,.v (.slice a_r1 l2.length cap_r1))]) (ms':=[row a_r1 cap_r1 71 2 AFd.d l2]) rfl rfl ?_;refine zq5 ?_;refine BY (peekE (i:=2) 0 rfl rfl rfl).refines ?_
  cases hm1;exact Af zr1
def Bh (s1:AutoState):Nat->(Int×(List ANd))->Option (List ANd)
 | 0,_=>none
 | n+1,(k1,l6) =>
  bif (decide (k1<(s1.vars.length:Int))) then
   (idx s1.vars k1).bind fun x1 =>
   grd ((l6.length+([(⟨11,x1,0,([]:List AFd)⟩:ANd)]:List _).length)*48<=140737488355328) <|
   grd (InR (k1+1)) <|
   Bh s1 n ((k1+1),(l6++[(⟨11,x1,0,([]:List AFd)⟩:ANd)]))
  else
   some l6
def BR (s1:AutoState) (every1:Int):Option (List ANd):=
 (bif s1.all then
  grd ((0+([(⟨every1,0,0,([]:List AFd)⟩:ANd)]:List _).length)*48<=140737488355328) <|
  some ([]++[(⟨every1,0,0,([]:List AFd)⟩:ANd)])
 else
  some []:Option (List ANd)).bind fun l1 =>
 (bif s1.int then
  grd ((l1.length+([(⟨3,0,0,([]:List AFd)⟩:ANd)]:List _).length)*48<=140737488355328) <|
  some (l1++[(⟨3,0,0,([]:List AFd)⟩:ANd)])
 else
  some l1:Option (List ANd)).bind fun l2 =>
 (bif s1.bool then
  grd ((l2.length+([(⟨4,0,0,([]:List AFd)⟩:ANd)]:List _).length)*48<=140737488355328) <|
  some (l2++[(⟨4,0,0,([]:List AFd)⟩:ANd)])
 else
  some l2:Option (List ANd)).bind fun l3 =>
 (bif s1.str then
  grd ((l3.length+([(⟨5,0,0,([]:List AFd)⟩:ANd)]:List _).length)*48<=140737488355328) <|
  some (l3++[(⟨5,0,0,([]:List AFd)⟩:ANd)])
 else
  some l3:Option (List ANd)).bind fun l4 =>
 (Bh s1 FU (0,l4):Option (List ANd)).bind fun l5 =>
 (bif s1.arrow then
  grd ((l5.length+([(⟨6,s1.dom,s1.cod,([]:List AFd)⟩:ANd)]:List _).length)*48<=140737488355328) <|
  some (l5++[(⟨6,s1.dom,s1.cod,([]:List AFd)⟩:ANd)])
 else
  some l5:Option (List ANd)).bind fun l7 =>
 (bif s1.rec_ then
  (BE s1.fields).bind fun x2 =>
  grd ((l7.length+([(⟨7,0,0,x2⟩:ANd)]:List _).length)*48<=140737488355328) <|
  some (l7++[(⟨7,0,0,x2⟩:ANd)])
 else
  some l7:Option (List ANd)).bind fun l8 =>
 bif s1.tag then
  (BE s1.tags).bind fun x3 =>
  grd ((l8.length+([(⟨8,0,0,x3⟩:ANd)]:List _).length)*48<=140737488355328) <|
  some (l8++[(⟨8,0,0,x3⟩:ANd)])
 else
  some l8
theorem HH {s1:AutoState} {every1:Int} {r_1:(List ANd)} (hm:BR s1 every1=some r_1):Fn0 Tryz.prog 42 [AutoState.d s1,.i64 every1] (.list 4 ANd.d r_1):=by
 unfold BR at hm;refine Ae Tryz.func42 rfl Tryz.ntmps42 rfl fun H0 fr w0=>?_;refine zq4 ?_;refine Ap (nilE (i:=4) (sz:=4) (f:=ANd.d) rfl).refines ?_;refine zq3 ?_;refine AJ rfl rfl rfl (Ax (xs:=[]) (f:=ANd.d) (l:=[]) Tryz.runUnderlying29 Tryz.sizeOf49 Tryz.zeroValue49 rfl rfl rfl (fun _=>⟨rfl,rfl,rfl⟩) rfl (by simp [maxLen])) ?_;rintro _ _ ⟨a_r1,rfl,rfl⟩;refine zq8 ?_;obtain ⟨o_1,hj1,hm1⟩:=bS hm;refine Al [(2,_)] [] (fun (st:(List ANd)) (hid:(Option Addr×Nat))=>match st,hid with | l1,(a_r1,cap_r1)=>[(5,.v (.slice a_r1 l1.length cap_r1))]) (fun F (st:(List ANd)) (hid:(Option Addr×Nat))=>match st,hid with | l1,(a_r1,cap_r1)=>[row a_r1 cap_r1 49 4 ANd.d l1]) (fun st=>st=o_1) ⟨rfl,trivial⟩ trivial ?_ ?_
 ·refine zcn hj1 (fun hc1 hj1=>?_) (fun hc1 hj1=>?_)
  ·refine zq3 ?_
   refine Ak rfl rfl rfl zb49a ?_;refine Ak rfl rfl rfl (Ai (xs:=[_]) (f:=ANd.d) (l:=[(⟨every1,0,0,([]:List AFd)⟩:ANd)]) Tryz.runUnderlying29 Tryz.sizeOf49 Tryz.zeroValue49 rfl rfl rfl (fun _=>⟨rfl,rfl,rfl⟩) rfl) ?_;obtain ⟨hg1,hj1⟩:=Aa hj1;refine zap 0 hg1 fun a_r1 cap_r1=>?_;refine Aj (ms':=[_]) rfl ?_;refine zq2 ?_;exact ⟨_,(_,_),Ac hj1,⟨rfl,trivial⟩,⟨rfl,trivial⟩,[],rfl⟩
  ·refine gSp ?_
   exact ⟨_,(_,_),Ac hj1,⟨rfl,trivial⟩,⟨rfl,trivial⟩,[],rfl⟩
 ·rintro l1 ⟨a_r1,cap_r1⟩ hst
  subst hst;refine An (L':=[(5,.v (.slice a_r1 l1.length cap_r1)),(2,_)]) (ms':=[row a_r1 cap_r1 49 4 ANd.d l1]) rfl rfl ?_;refine zq6 ?_;obtain ⟨o_2,hj2,hm2⟩:=bS hm1;refine Al [(2,_)] [] (fun (st:(List ANd)) (hid:(Option Addr×Nat))=>match st,hid with | l2,(a_r1,cap_r1)=>[(5,.v (.slice a_r1 l2.length cap_r1))]) (fun F (st:(List ANd)) (hid:(Option Addr×Nat))=>match st,hid with | l2,(a_r1,cap_r1)=>[row a_r1 cap_r1 49 4 ANd.d l2]) (fun st=>st=o_2) ⟨rfl,trivial⟩ trivial ?_ ?_
  ·refine zcn hj2 (fun hc2 hj2=>?_) (fun hc2 hj2=>?_)
   ·refine zq2 ?_
    refine Ak rfl rfl rfl zb49a ?_;refine Ak rfl rfl rfl (Ai (xs:=[_]) (f:=ANd.d) (l:=[(⟨3,0,0,([]:List AFd)⟩:ANd)]) Tryz.runUnderlying29 Tryz.sizeOf49 Tryz.zeroValue49 rfl rfl rfl (fun _=>⟨rfl,rfl,rfl⟩) rfl) ?_;obtain ⟨hg2,hj2⟩:=Aa hj2;refine zap 0 hg2 fun a_r1 cap_r1=>?_;refine Aj (ms':=[_]) rfl ?_;refine zq2 ?_;exact ⟨_,(_,_),Ac hj2,⟨rfl,trivial⟩,⟨rfl,trivial⟩,[],rfl⟩
   ·refine gSp ?_
    exact ⟨_,(_,_),Ac hj2,⟨rfl,trivial⟩,⟨rfl,trivial⟩,[],rfl⟩
  ·rintro l2 ⟨a_r1,cap_r1⟩ hst
   subst hst;refine An (L':=[(5,.v (.slice a_r1 l2.length cap_r1)),(2,_)]) (ms':=[row a_r1 cap_r1 49 4 ANd.d l2]) rfl rfl ?_;refine zq6 ?_;obtain ⟨o_3,hj3,hm3⟩:=bS hm2;refine Al [(2,_)] [] (fun (st:(List ANd)) (hid:(Option Addr×Nat))=>match st,hid with | l3,(a_r1,cap_r1)=>[(5,.v (.slice a_r1 l3.length cap_r1))]) (fun F (st:(List ANd)) (hid:(Option Addr×Nat))=>match st,hid with | l3,(a_r1,cap_r1)=>[row a_r1 cap_r1 49 4 ANd.d l3]) (fun st=>st=o_3) ⟨rfl,trivial⟩ trivial ?_ ?_
   ·refine zcn hj3 (fun hc3 hj3=>?_) (fun hc3 hj3=>?_)
    ·refine zq2 ?_
     refine Ak rfl rfl rfl zb49a ?_;refine Ak rfl rfl rfl (Ai (xs:=[_]) (f:=ANd.d) (l:=[(⟨4,0,0,([]:List AFd)⟩:ANd)]) Tryz.runUnderlying29 Tryz.sizeOf49 Tryz.zeroValue49 rfl rfl rfl (fun _=>⟨rfl,rfl,rfl⟩) rfl) ?_;obtain ⟨hg3,hj3⟩:=Aa hj3;refine zap 0 hg3 fun a_r1 cap_r1=>?_;refine Aj (ms':=[_]) rfl ?_;refine zq2 ?_;exact ⟨_,(_,_),Ac hj3,⟨rfl,trivial⟩,⟨rfl,trivial⟩,[],rfl⟩
    ·refine gSp ?_
     exact ⟨_,(_,_),Ac hj3,⟨rfl,trivial⟩,⟨rfl,trivial⟩,[],rfl⟩
   ·rintro l3 ⟨a_r1,cap_r1⟩ hst
    subst hst;refine An (L':=[(5,.v (.slice a_r1 l3.length cap_r1)),(2,_)]) (ms':=[row a_r1 cap_r1 49 4 ANd.d l3]) rfl rfl ?_;refine zq6 ?_;obtain ⟨o_4,hj4,hm4⟩:=bS hm3;refine Al [(2,_)] [] (fun (st:(List ANd)) (hid:(Option Addr×Nat))=>match st,hid with | l4,(a_r1,cap_r1)=>[(5,.v (.slice a_r1 l4.length cap_r1))]) (fun F (st:(List ANd)) (hid:(Option Addr×Nat))=>match st,hid with | l4,(a_r1,cap_r1)=>[row a_r1 cap_r1 49 4 ANd.d l4]) (fun st=>st=o_4) ⟨rfl,trivial⟩ trivial ?_ ?_
    ·refine zcn hj4 (fun hc4 hj4=>?_) (fun hc4 hj4=>?_)
     ·refine zq2 ?_
      refine Ak rfl rfl rfl zb49a ?_;refine Ak rfl rfl rfl (Ai (xs:=[_]) (f:=ANd.d) (l:=[(⟨5,0,0,([]:List AFd)⟩:ANd)]) Tryz.runUnderlying29 Tryz.sizeOf49 Tryz.zeroValue49 rfl rfl rfl (fun _=>⟨rfl,rfl,rfl⟩) rfl) ?_;obtain ⟨hg4,hj4⟩:=Aa hj4;refine zap 0 hg4 fun a_r1 cap_r1=>?_;refine Aj (ms':=[_]) rfl ?_;refine zq2 ?_;exact ⟨_,(_,_),Ac hj4,⟨rfl,trivial⟩,⟨rfl,trivial⟩,[],rfl⟩
     ·refine gSp ?_
      exact ⟨_,(_,_),Ac hj4,⟨rfl,trivial⟩,⟨rfl,trivial⟩,[],rfl⟩
    ·rintro l4 ⟨a_r1,cap_r1⟩ hst
     subst hst;refine An (L':=[(5,.v (.slice a_r1 l4.length cap_r1)),(2,_)]) (ms':=[row a_r1 cap_r1 49 4 ANd.d l4]) rfl rfl ?_;refine zq5 ?_;obtain ⟨o_5,hj5,hm5⟩:=bS hm4;refine Al [(2,_)] [] (fun (st:(List ANd)) (hid:(Option Addr×Nat))=>match st,hid with | l5,(a_r1,cap_r1)=>[(5,.v (.slice a_r1 l5.length cap_r1))]) (fun F (st:(List ANd)) (hid:(Option Addr×Nat))=>match st,hid with | l5,(a_r1,cap_r1)=>[row a_r1 cap_r1 49 4 ANd.d l5]) (fun st=>st=o_5) ⟨rfl,trivial⟩ trivial ?_ ?_
     ·refine Aq ?_
      refine Am [(2,_)] [] (fun (st:(Int×(List ANd))) (hid:(Option Addr×Nat))=>match st,hid with | (k1,l6),(a_r1,cap_r1)=>[(5,.v (.slice a_r1 l6.length cap_r1)),(6,.i64 k1)]) (fun F (st:(Int×(List ANd))) (hid:(Option Addr×Nat))=>match st,hid with | (k1,l6),(a_r1,cap_r1)=>[row a_r1 cap_r1 49 4 ANd.d l6]) (_,_) hj5 (fun _=>rfl) ⟨rfl,trivial⟩ trivial ⟨rfl,rfl,trivial⟩ rfl ?_;rintro n ⟨k1,l6⟩ ⟨a_r1,cap_r1⟩ hj5;rw [Bh] at hj5;refine At (L':=[(5,.v (.slice a_r1 l6.length cap_r1)),(6,.i64 k1),(2,_)]) (ms':=[row a_r1 cap_r1 49 4 ANd.d l6]) rfl rfl ?_;refine zq9 ?_;refine zcn hj5 (fun hc5 hj5=>?_) (fun hc5 hj5=>?_)
      ·refine zq8 ?_
       obtain ⟨x1,hx5,hj5⟩:=bS hj5;refine zq2 ?_;refine Ak rfl rfl rfl zb49a ?_;refine Ak rfl rfl rfl (Ai (xs:=[_]) (f:=ANd.d) (l:=[(⟨11,x1,0,([]:List AFd)⟩:ANd)]) Tryz.runUnderlying29 Tryz.sizeOf49 Tryz.zeroValue49 rfl rfl rfl (fun _=>⟨rfl,rfl,rfl⟩) rfl) ?_;obtain ⟨hg6,hj5⟩:=Aa hj5;refine zap 0 hg6 fun a_r1 cap_r1=>?_;refine Aj (ms':=[_]) rfl ?_;refine zq4 ?_;obtain ⟨hg7,hj5⟩:=Aa hj5;refine zq3 ?_;exact ⟨_,(_,_),hj5,⟨rfl,rfl,trivial⟩,⟨rfl,trivial⟩,[],rfl⟩
      ·refine Au ?_
       exact ⟨_,(_,_),Ac hj5,⟨rfl,trivial⟩,⟨rfl,trivial⟩,[],rfl⟩
     ·rintro l5 ⟨a_r1,cap_r1⟩ hst
      subst hst;refine An (L':=[(5,.v (.slice a_r1 l5.length cap_r1)),(2,_)]) (ms':=[row a_r1 cap_r1 49 4 ANd.d l5]) rfl rfl ?_;refine zq6 ?_;obtain ⟨o_6,hj6,hm6⟩:=bS hm5;refine Al [(2,_)] [] (fun (st:(List ANd)) (hid:(Option Addr×Nat))=>match st,hid with | l7,(a_r1,cap_r1)=>[(5,.v (.slice a_r1 l7.length cap_r1))]) (fun F (st:(List ANd)) (hid:(Option Addr×Nat))=>match st,hid with | l7,(a_r1,cap_r1)=>[row a_r1 cap_r1 49 4 ANd.d l7]) (fun st=>st=o_6) ⟨rfl,trivial⟩ trivial ?_ ?_
      ·refine zcn hj6 (fun hc6 hj6=>?_) (fun hc6 hj6=>?_)
       ·refine zq6 ?_
        refine Ak rfl rfl rfl zb49a ?_;refine Ak rfl rfl rfl (Ai (xs:=[_]) (f:=ANd.d) (l:=[(⟨6,s1.dom,s1.cod,([]:List AFd)⟩:ANd)]) Tryz.runUnderlying29 Tryz.sizeOf49 Tryz.zeroValue49 rfl rfl rfl (fun _=>⟨rfl,rfl,rfl⟩) rfl) ?_;obtain ⟨hg8,hj6⟩:=Aa hj6;refine zap 0 hg8 fun a_r1 cap_r1=>?_;refine Aj (ms':=[_]) rfl ?_;refine zq2 ?_;exact ⟨_,(_,_),Ac hj6,⟨rfl,trivial⟩,⟨rfl,trivial⟩,[],rfl⟩
       ·refine gSp ?_
        exact ⟨_,(_,_),Ac hj6,⟨rfl,trivial⟩,⟨rfl,trivial⟩,[],rfl⟩
      ·rintro l7 ⟨a_r1,cap_r1⟩ hst
       subst hst;refine An (L':=[(5,.v (.slice a_r1 l7.length cap_r1)),(2,_)]) (ms':=[row a_r1 cap_r1 49 4 ANd.d l7]) rfl rfl ?_;refine zq6 ?_;obtain ⟨o_7,hj7,hm7⟩:=bS hm6;refine Al [(2,_)] [] (fun (st:(List ANd)) (hid:(Option Addr×Nat))=>match st,hid with | l8,(a_r1,cap_r1)=>[(5,.v (.slice a_r1 l8.length cap_r1))]) (fun F (st:(List ANd)) (hid:(Option Addr×Nat))=>match st,hid with | l8,(a_r1,cap_r1)=>[row a_r1 cap_r1 49 4 ANd.d l8]) (fun st=>st=o_7) ⟨rfl,trivial⟩ trivial ?_ ?_
       ·refine zcn hj7 (fun hc7 hj7=>?_) (fun hc7 hj7=>?_)
        ·refine zq4 ?_
         obtain ⟨x2,hx9,hj7⟩:=bS hj7;refine zc0 (E0 hx9) ?_;refine Ak rfl rfl rfl zb49a ?_;refine Ak rfl rfl rfl (Ai (xs:=[_]) (f:=ANd.d) (l:=[(⟨7,0,0,x2⟩:ANd)]) Tryz.runUnderlying29 Tryz.sizeOf49 Tryz.zeroValue49 rfl rfl rfl (fun _=>⟨rfl,rfl,rfl⟩) rfl) ?_;obtain ⟨hg10,hj7⟩:=Aa hj7;refine zap 0 hg10 fun a_r1 cap_r1=>?_;refine Aj (ms':=[_]) rfl ?_;refine zq2 ?_;exact ⟨_,(_,_),Ac hj7,⟨rfl,trivial⟩,⟨rfl,trivial⟩,[],rfl⟩
        ·refine gSp ?_
         exact ⟨_,(_,_),Ac hj7,⟨rfl,trivial⟩,⟨rfl,trivial⟩,[],rfl⟩
       ·rintro l8 ⟨a_r1,cap_r1⟩ hst
        subst hst;refine An (L':=[(5,.v (.slice a_r1 l8.length cap_r1)),(2,_)]) (ms':=[row a_r1 cap_r1 49 4 ANd.d l8]) rfl rfl ?_;refine zq6 ?_;refine zcn hm7 (fun hc8 hm7=>?_) (fun hc8 hm7=>?_)
        ·refine zq4 ?_
         obtain ⟨x3,hx11,hm7⟩:=bS hm7;refine zc0 (E0 hx11) ?_;refine Ak rfl rfl rfl zb49a ?_;refine Ak rfl rfl rfl (Ai (xs:=[_]) (f:=ANd.d) (l:=[(⟨8,0,0,x3⟩:ANd)]) Tryz.runUnderlying29 Tryz.sizeOf49 Tryz.zeroValue49 rfl rfl rfl (fun _=>⟨rfl,rfl,rfl⟩) rfl) ?_;obtain ⟨hg12,hm7⟩:=Aa hm7;refine zap 0 hg12 fun a_r1 cap_r1=>?_;refine Aj (ms':=[_]) rfl ?_;refine zq7 ?_;refine BY (peekE (i:=4) 0 rfl rfl rfl).refines ?_
         cases hm7;exact Af zr1
        ·refine zq6 ?_
         refine BY (peekE (i:=4) 0 rfl rfl rfl).refines ?_
         cases hm7;exact Af zr1
def Br (a1:AutoAuto):Nat->(Int×(List ANd)×Int)->Option ((List ANd)×Int)
 | 0,_=>none
 | n+1,(i1,l2,z2) =>
  bif (decide (i1<(a1.l.length:Int))) then
   grd ((l2.length+([(⟨0,0,0,([]:List AFd)⟩:ANd)]:List _).length)*48<=140737488355328) <|
   grd (InR (i1+1)) <|
   Br a1 n ((i1+1),(l2++[(⟨0,0,0,([]:List AFd)⟩:ANd)]),z2)
  else
   some (l2,z2)
def Bt (kind1:Int) (x2:(List ANd)):Nat->(Int×Int×(List ANd)×Int)->Option (Int×(List ANd)×Int)
 | 0,_=>none
 | n+1,(at2,k1,l6,z6) =>
  bif (decide (k1<(x2.length:Int))) then
   (idx x2 k1).bind fun x3 =>
   grd ((l6.length+([x3,(⟨kind1,at2,(l6.length:Int),([]:List AFd)⟩:ANd)]:List _).length)*48<=140737488355328) <|
   grd (InR (((l6++[x3,(⟨kind1,at2,(l6.length:Int),([]:List AFd)⟩:ANd)]).length:Int) - 1)) <|
   grd (InR (k1+1)) <|
   Bt kind1 x2 n ((((l6++[x3,(⟨kind1,at2,(l6.length:Int),([]:List AFd)⟩:ANd)]).length:Int) - 1),(k1+1),(l6++[x3,(⟨kind1,at2,(l6.length:Int),([]:List AFd)⟩:ANd)]),z6)
  else
   some (at2,l6,z6)
def Bp (a1:AutoAuto):Nat->(Int×(List ANd)×Int)->Option ((List ANd)×Int)
 | 0,_=>none
 | n+1,(i2,l4,z4) =>
  bif (decide (i2<(a1.l.length:Int))) then
   (idx a1.l i2).bind fun x1 =>
   (bif x1.plus then
    some (9,2,1)
   else
    some (10,1,2):Option (Int×Int×Int)).bind fun (kind1,none1,every1) =>
   grd ((l4.length+([(⟨none1,0,0,([]:List AFd)⟩:ANd)]:List _).length)*48<=140737488355328) <|
   grd (InR (((l4++[(⟨none1,0,0,([]:List AFd)⟩:ANd)]).length:Int) - 1)) <|
   (BR (⟨x1.plus,x1.all,x1.int,x1.bool,x1.str,x1.arrow,x1.rec_,x1.tag,x1.vars,x1.dom,x1.cod,x1.fields,x1.tags⟩:AutoState) every1).bind fun x2 =>
   (Bt kind1 x2 FU ((((l4++[(⟨none1,0,0,([]:List AFd)⟩:ANd)]).length:Int) - 1),0,(l4++[(⟨none1,0,0,([]:List AFd)⟩:ANd)]),z4):Option (Int×(List ANd)×Int)).bind fun (at1,l5,z5) =>
   (idx l5 i2).bind fun x4 =>
   grd (InR (i2+1)) <|
   Bp a1 n ((i2+1),(l5.set (i2).toNat (⟨kind1,at1,at1,([]:List AFd)⟩:ANd)),z5)
  else
   some (l4,z4)
def Ct (a1:AutoAuto):Option ATy:=
 (Br a1 FU (0,([]:List ANd),a1.start):Option ((List ANd)×Int)).bind fun (l1,z1) =>
 (Bp a1 FU (0,l1,z1):Option ((List ANd)×Int)).bind fun (l3,z3) =>
 some (⟨l3,z3⟩:ATy)
theorem HN {a1:AutoAuto} {r_1:ATy} (hm:Ct a1=some r_1):Fn0 Tryz.prog 17 [AutoAuto.d a1] (ATy.d r_1):=by
 unfold Ct at hm;refine Ae Tryz.func17 rfl Tryz.ntmps17 rfl fun H0 fr w0=>?_;refine zq3 ?_;refine F7 fun b1=>?_;refine zq5 ?_;refine Ak rfl rfl rfl zb31b ?_;refine F7 fun b2=>?_;refine zst 0 ?_;refine Ap (BF (T:=49) (sz:=4) (f:=ANd.d)) ?_;refine Aj (ms':=[_,box b2 31 [_,_],box b1 31 [_,_]]) rfl ?_;refine zq6 ?_;obtain ⟨o_1,hj1,hm1⟩:=bS hm;refine Al [(1,_),(2,_),(3,_)] [(2,_)] (fun (st:((List ANd)×Int)) (hid:(Option Addr×Nat×Nat))=>match st,hid with | (l1,z1),(a_r1,m_r1,cap_r1)=>[]) (fun F (st:((List ANd)×Int)) (hid:(Option Addr×Nat×Nat))=>match st,hid with | (l1,z1),(a_r1,m_r1,cap_r1)=>[arr a_r1 m_r1 cap_r1 49 4 ANd.d l1,box b2 31 [.v (.slice a_r1 m_r1 cap_r1),.i64 z1],(nthF F 0)]) (fun st=>st=o_1) ⟨rfl,rfl,rfl,trivial⟩ ⟨rfl,trivial⟩ ?_ ?_
 ·refine Aq ?_
  refine Am [(1,_),(2,_),(3,_)] [(2,_)] (fun (st:(Int×(List ANd)×Int)) (hid:(Option Addr×Nat×Nat))=>match st,hid with | (i1,l2,z2),(a_r1,m_r1,cap_r1)=>[(4,.i64 i1)]) (fun F (st:(Int×(List ANd)×Int)) (hid:(Option Addr×Nat×Nat))=>match st,hid with | (i1,l2,z2),(a_r1,m_r1,cap_r1)=>[arr a_r1 m_r1 cap_r1 49 4 ANd.d l2,box b2 31 [.v (.slice a_r1 m_r1 cap_r1),.i64 z2],(nthF F 0)]) (_,_,_) hj1 (fun _=>rfl) ⟨rfl,rfl,rfl,trivial⟩ ⟨rfl,trivial⟩ ⟨rfl,trivial⟩ rfl ?_;rintro n ⟨i1,l2,z2⟩ ⟨a_r1,m_r1,cap_r1⟩ hj1;rw [Br] at hj1;refine At (L':=[(4,.i64 i1),(1,_),(2,_),(3,_)]) (ms':=[arr a_r1 m_r1 cap_r1 49 4 ANd.d l2,box b2 31 [.v (.slice a_r1 m_r1 cap_r1),.i64 z2],_]) rfl rfl ?_;refine zq9 ?_;refine zcn hj1 (fun hc1 hj1=>?_) (fun hc1 hj1=>?_)
  ·refine zq6 ?_
   refine Ak rfl rfl rfl zb49a ?_;refine Ak rfl rfl rfl (Ai (xs:=[_]) (f:=ANd.d) (l:=[(⟨0,0,0,([]:List AFd)⟩:ANd)]) Tryz.runUnderlying29 Tryz.sizeOf49 Tryz.zeroValue49 rfl rfl rfl (fun _=>⟨rfl,rfl,rfl⟩) rfl) ?_;obtain ⟨hg1,hj1⟩:=Aa hj1;refine AJ rfl rfl rfl (Dx (a:=_) 0 Tryz.underlying29 Tryz.type49 rfl rfl rfl rfl rfl rfl (fun _=>rfl) (fun _=>rfl) hg1 (BJ hg1 rfl)) ?_;rintro _ _ ⟨a_r1,m_r1,cap_r1,rfl,rfl⟩;refine Aj (ms':=[_,box b2 31 [_,_],box b1 31 [_,_]]) rfl ?_;refine zq1 ?_;refine zst 1 ?_;refine Aj (ms':=[_,box b2 31 [_,_],box b1 31 [_,_]]) rfl ?_;refine zq3 ?_;obtain ⟨hg2,hj1⟩:=Aa hj1;refine zq3 ?_;exact ⟨_,(_,_,_),hj1,⟨rfl,trivial⟩,⟨rfl,rfl,rfl,trivial⟩,[],rfl⟩
  ·refine Au ?_
   exact ⟨_,(_,_,_),Ac hj1,trivial,⟨rfl,rfl,rfl,trivial⟩,[],rfl⟩
 ·rintro ⟨l1,z1⟩ ⟨a_r1,m_r1,cap_r1⟩ hst
  subst hst;refine An (L':=[(1,_),(2,_),(3,_)]) (ms':=[arr a_r1 m_r1 cap_r1 49 4 ANd.d l1,box b2 31 [.v (.slice a_r1 m_r1 cap_r1),.i64 z1],_]) rfl rfl ?_;refine zq5 ?_;obtain ⟨o_2,hj2,hm2⟩:=bS hm1;refine Al [(2,_),(3,_)] [(2,_)] (fun (st:((List ANd)×Int)) (hid:(Option Addr×Nat×Nat))=>match st,hid with | (l3,z3),(a_r1,m_r1,cap_r1)=>[]) (fun F (st:((List ANd)×Int)) (hid:(Option Addr×Nat×Nat))=>match st,hid with | (l3,z3),(a_r1,m_r1,cap_r1)=>[arr a_r1 m_r1 cap_r1 49 4 ANd.d l3,box b2 31 [.v (.slice a_r1 m_r1 cap_r1),.i64 z3],(nthF F 0)]) (fun st=>st=o_2) ⟨rfl,rfl,trivial⟩ ⟨rfl,trivial⟩ ?_ ?_
  ·refine Aq ?_
   refine Am [(1,_),(2,_),(3,_)] [(2,_)] (fun (st:(Int×(List ANd)×Int)) (hid:(Option Addr×Nat×Nat))=>match st,hid with | (i2,l4,z4),(a_r1,m_r1,cap_r1)=>[(5,.i64 i2)]) (fun F (st:(Int×(List ANd)×Int)) (hid:(Option Addr×Nat×Nat))=>match st,hid with | (i2,l4,z4),(a_r1,m_r1,cap_r1)=>[arr a_r1 m_r1 cap_r1 49 4 ANd.d l4,box b2 31 [.v (.slice a_r1 m_r1 cap_r1),.i64 z4],(nthF F 0)]) (_,_,_) hj2 (fun _=>rfl) ⟨rfl,rfl,rfl,trivial⟩ ⟨rfl,trivial⟩ ⟨rfl,trivial⟩ rfl ?_;rintro n ⟨i2,l4,z4⟩ ⟨a_r1,m_r1,cap_r1⟩ hj2;rw [Bp] at hj2;refine At (L':=[(5,.i64 i2),(1,_),(2,_),(3,_)]) (ms':=[arr a_r1 m_r1 cap_r1 49 4 ANd.d l4,box b2 31 [.v (.slice a_r1 m_r1 cap_r1),.i64 z4],_]) rfl rfl ?_;refine zq9 ?_;refine zcn hj2 (fun hc2 hj2=>?_) (fun hc2 hj2=>?_)
   ·refine zq8 ?_
    obtain ⟨x1,hx3,hj2⟩:=bS hj2;refine zq2 ?_;refine S8 fun b3=>?_;refine zst 0 ?_;refine Aj (ms':=[box b3 46 [_,_,_,_,_,_,_,_,_,_,_,_,_],_,box b2 31 [_,_],box b1 31 [_,_]]) rfl ?_;refine zq13 ?_;obtain ⟨o_3,hj3,hm3⟩:=bS hj2;refine Al [(1,_),(2,_),(3,_),(5,_),(6,_)] [(0,_),(1,_),(2,_),(3,_)] (fun (st:(Int×Int×Int)) (hid:Unit)=>match st,hid with | (kind1,none1,every1),_=>[(7,.i64 kind1),(8,.i64 none1),(9,.i64 every1)]) (fun F (st:(Int×Int×Int)) (hid:Unit)=>match st,hid with | (kind1,none1,every1),_=>[(nthF F 0),(nthF F 1),(nthF F 2),(nthF F 3)]) (fun st=>st=o_3) ⟨rfl,rfl,rfl,rfl,rfl,trivial⟩ ⟨rfl,rfl,rfl,rfl,trivial⟩ ?_ ?_
    ·refine zcn hj3 (fun hc3 hj3=>?_) (fun hc3 hj3=>?_)
     ·refine zq5 ?_
      exact ⟨_,(),Ac hj3,⟨rfl,rfl,rfl,trivial⟩,⟨rfl,rfl,rfl,rfl,rfl,trivial⟩,[],rfl⟩
     ·refine gSp ?_
      exact ⟨_,(),Ac hj3,⟨rfl,rfl,rfl,trivial⟩,⟨rfl,rfl,rfl,rfl,rfl,trivial⟩,[],rfl⟩
    ·rintro ⟨kind1,none1,every1⟩ _ hst
     subst hst;refine An (L':=[(7,.i64 kind1),(8,.i64 none1),(9,.i64 every1),(1,_),(2,_),(3,_),(5,_),(6,_)]) (ms':=[_,_,_,_]) rfl rfl ?_;refine zq5 ?_;refine Ak rfl rfl rfl zb49a ?_;refine Ak rfl rfl rfl (Ai (xs:=[_]) (f:=ANd.d) (l:=[(⟨none1,0,0,([]:List AFd)⟩:ANd)]) Tryz.runUnderlying29 Tryz.sizeOf49 Tryz.zeroValue49 rfl rfl rfl (fun _=>⟨rfl,rfl,rfl⟩) rfl) ?_;obtain ⟨hg4,hm3⟩:=Aa hm3;refine AJ rfl rfl rfl (Dx (a:=_) 1 Tryz.underlying29 Tryz.type49 rfl rfl rfl rfl rfl rfl (fun _=>rfl) (fun _=>rfl) hg4 (BJ hg4 rfl)) ?_;rintro _ _ ⟨a_r1,m_r1,cap_r1,rfl,rfl⟩;refine Aj (ms':=[box b3 46 [_,_,_,_,_,_,_,_,_,_,_,_,_],_,box b2 31 [_,_],box b1 31 [_,_]]) rfl ?_;refine zq1 ?_;refine zst 2 ?_;refine Aj (ms':=[box b3 46 [_,_,_,_,_,_,_,_,_,_,_,_,_],_,box b2 31 [_,_],box b1 31 [_,_]]) rfl ?_;refine zq5 ?_;refine Ak rfl rfl rfl (CZ 1 Tryz.runUnderlying29 rfl rfl) ?_;obtain ⟨hg5,hm3⟩:=Aa hm3;refine zq7 ?_;obtain ⟨x2,hx6,hm3⟩:=bS hm3;refine zc0 (HH hx6) ?_;refine zq7 ?_;obtain ⟨o_4,hj4,hm4⟩:=bS hm3;refine Al [(1,_),(2,_),(3,_),(5,_),(7,_)] [(0,_),(3,_)] (fun (st:(Int×(List ANd)×Int)) (hid:(Option Addr×Nat×Nat))=>match st,hid with | (at1,l5,z5),(a_r1,m_r1,cap_r1)=>[(10,.i64 at1)]) (fun F (st:(Int×(List ANd)×Int)) (hid:(Option Addr×Nat×Nat))=>match st,hid with | (at1,l5,z5),(a_r1,m_r1,cap_r1)=>[(nthF F 0),arr a_r1 m_r1 cap_r1 49 4 ANd.d l5,box b2 31 [.v (.slice a_r1 m_r1 cap_r1),.i64 z5],(nthF F 1)]) (fun st=>st=o_4) ⟨rfl,rfl,rfl,rfl,rfl,trivial⟩ ⟨rfl,rfl,trivial⟩ ?_ ?_
     ·refine Aq ?_
      refine Am [(1,_),(2,_),(3,_),(5,_),(7,_),(11,_)] [(0,_),(3,_)] (fun (st:(Int×Int×(List ANd)×Int)) (hid:(Option Addr×Nat×Nat))=>match st,hid with | (at2,k1,l6,z6),(a_r1,m_r1,cap_r1)=>[(10,.i64 at2),(12,.i64 k1)]) (fun F (st:(Int×Int×(List ANd)×Int)) (hid:(Option Addr×Nat×Nat))=>match st,hid with | (at2,k1,l6,z6),(a_r1,m_r1,cap_r1)=>[(nthF F 0),arr a_r1 m_r1 cap_r1 49 4 ANd.d l6,box b2 31 [.v (.slice a_r1 m_r1 cap_r1),.i64 z6],(nthF F 1)]) (_,_,_) hj4 (fun _=>rfl) ⟨rfl,rfl,rfl,rfl,rfl,rfl,trivial⟩ ⟨rfl,rfl,trivial⟩ ⟨rfl,rfl,trivial⟩ rfl ?_;rintro n ⟨at2,k1,l6,z6⟩ ⟨a_r1,m_r1,cap_r1⟩ hj4;rw [Bt] at hj4;refine At (L':=[(10,.i64 at2),(12,.i64 k1),(1,_),(2,_),(3,_),(5,_),(7,_),(11,_)]) (ms':=[_,arr a_r1 m_r1 cap_r1 49 4 ANd.d l6,box b2 31 [.v (.slice a_r1 m_r1 cap_r1),.i64 z6],_]) rfl rfl ?_;refine zq8 ?_;refine zcn hj4 (fun hc4 hj4=>?_) (fun hc4 hj4=>?_)
      ·refine zq4 ?_
       obtain ⟨x3,hx7,hj4⟩:=bS hj4;refine zdr 13 ?_;refine zq10 ?_;refine Av rfl rfl rfl (CZ 1 Tryz.runUnderlying29 rfl rfl) ?_;refine Av rfl rfl rfl zb49a ?_;refine Av rfl rfl rfl (Ai (xs:=[_,_]) (f:=ANd.d) (l:=[_,(⟨kind1,at2,(l6.length:Int),([]:List AFd)⟩:ANd)]) Tryz.runUnderlying29 Tryz.sizeOf49 Tryz.zeroValue49 rfl rfl rfl (fun _=>⟨rfl,rfl,rfl⟩) rfl) ?_;refine EB ?_;obtain ⟨hg8,hj4⟩:=Aa hj4;refine AJ rfl rfl rfl (Dx (a:=_) 1 Tryz.underlying29 Tryz.type49 rfl rfl rfl rfl rfl rfl (fun _=>rfl) (fun _=>rfl) hg8 (BJ hg8 rfl)) ?_;rintro _ _ ⟨a_r1,m_r1,cap_r1,rfl,rfl⟩;refine Aj (ms':=[box b3 46 [_,_,_,_,_,_,_,_,_,_,_,_,_],_,box b2 31 [_,_],box b1 31 [_,_]]) rfl ?_;refine zq1 ?_;refine zst 2 ?_;refine Aj (ms':=[box b3 46 [_,_,_,_,_,_,_,_,_,_,_,_,_],_,box b2 31 [_,_],box b1 31 [_,_]]) rfl ?_;refine zq4 ?_;refine Ak rfl rfl rfl (CZ 1 Tryz.runUnderlying29 rfl rfl) ?_;obtain ⟨hg9,hj4⟩:=Aa hj4;refine zq5 ?_;obtain ⟨hg10,hj4⟩:=Aa hj4;refine zq3 ?_;exact ⟨_,(_,_,_),hj4,⟨rfl,rfl,trivial⟩,⟨rfl,rfl,rfl,rfl,rfl,rfl,trivial⟩,[],rfl⟩
      ·refine Au ?_
       exact ⟨_,(_,_,_),Ac hj4,⟨rfl,trivial⟩,⟨rfl,rfl,rfl,rfl,rfl,trivial⟩,[],rfl⟩
     ·rintro ⟨at1,l5,z5⟩ ⟨a_r1,m_r1,cap_r1⟩ hst
      subst hst;refine An (L':=[(10,.i64 at1),(1,_),(2,_),(3,_),(5,_),(7,_)]) (ms':=[_,arr a_r1 m_r1 cap_r1 49 4 ANd.d l5,box b2 31 [.v (.slice a_r1 m_r1 cap_r1),.i64 z5],_]) rfl rfl ?_;refine zq7 ?_;refine Ak rfl rfl rfl zb49a ?_;obtain ⟨x4,hx11,hm4⟩:=bS hm4;refine Ak rfl rfl rfl (Ag 1 Tryz.runUnderlying29 Tryz.sizeOf49 rfl rfl rfl hx11) ?_;refine IW rfl rfl (Bn (off:=0) (z':=(⟨kind1,at1,at1,([]:List AFd)⟩:ANd)) 1 Tryz.sizeOf49 rfl rfl (Ay hx11).2 rfl rfl rfl rfl rfl rfl (nB rfl) rfl rfl) ?_;rintro _ _ rfl;refine Aj (ms':=[box b3 46 [_,_,_,_,_,_,_,_,_,_,_,_,_],_,box b2 31 [_,_],box b1 31 [_,_]]) rfl ?_;refine zq3 ?_;obtain ⟨hg12,hm4⟩:=Aa hm4;refine zq3 ?_;exact ⟨_,(_,_,_),hm4,⟨rfl,trivial⟩,⟨rfl,rfl,rfl,trivial⟩,[_],rfl⟩
   ·refine Au ?_
    exact ⟨_,(_,_,_),Ac hj2,trivial,⟨rfl,rfl,trivial⟩,[],rfl⟩
  ·rintro ⟨l3,z3⟩ ⟨a_r1,m_r1,cap_r1⟩ hst
   subst hst;refine An (L':=[(2,_),(3,_)]) (ms':=[arr a_r1 m_r1 cap_r1 49 4 ANd.d l3,box b2 31 [.v (.slice a_r1 m_r1 cap_r1),.i64 z3],_]) rfl rfl ?_;refine zq2 ?_;refine KQ 0 rfl rfl ?_;rintro rfl;refine zq1 ?_;refine Ap (CP (i:=90) (q:=0) 0 rfl rfl rfl rfl rfl).refines ?_;refine zst 2 ?_;refine Aj (ms':=[_,box b2 31 [_,_],box b1 31 [_,_]]) rfl ?_;refine gNl ?_
   cases hm2;exact Af zr1
def EI (t1:ATy) (most1:Int):Nat->(Int×(List ANd)×Int)->Option ((List ANd)×Int)
 | 0,_=>none
 | n+1,(i1,l2,z2) =>
  bif ((decide (i1<(t1.l.length:Int)))&&((decide (i1<most1))||((decide (2000<(t1.l.length:Int)))&&(decide (i1<=2000))))) then
   (idx t1.l i1).bind fun x1 =>
   (sli x1.l 0 (if 40<(x1.l.length:Int) then 40 else (x1.l.length:Int))).bind fun l3 =>
   grd ((0+l3.length)*24<=140737488355328) <|
   grd ((l2.length+([(⟨x1.kind,x1.a,x1.b,([]++l3)⟩:ANd)]:List _).length)*48<=140737488355328) <|
   grd (InR (i1+1)) <|
   EI t1 most1 n ((i1+1),(l2++[(⟨x1.kind,x1.a,x1.b,([]++l3)⟩:ANd)]),z2)
  else
   some (l2,z2)
def G3 (t1:ATy) (most1:Int):Option ATy:=
 (EI t1 most1 FU (0,([]:List ANd),t1.root):Option ((List ANd)×Int)).bind fun (l1,z1) =>
 some (⟨l1,z1⟩:ATy)
theorem SG {t1:ATy} {most1:Int} {r_1:ATy} (hm:G3 t1 most1=some r_1):Fn0 Tryz.prog 20 [ATy.d t1,.i64 most1] (ATy.d r_1):=by
 unfold G3 at hm;refine Ae Tryz.func20 rfl Tryz.ntmps20 rfl fun H0 fr w0=>?_;refine zq3 ?_;refine F7 fun b1=>?_;refine zq5 ?_;refine Ak rfl rfl rfl zb31b ?_;refine F7 fun b2=>?_;refine zst 0 ?_;refine Ap (AK (T:=49) (sz:=4) (f:=ANd.d)) ?_;refine Aj (ms':=[_,box b2 31 [_,_],box b1 31 [_,_]]) rfl ?_;refine zq6 ?_;obtain ⟨o_1,hj1,hm1⟩:=bS hm;refine Al [(4,_),(5,_)] [(2,_)] (fun (st:((List ANd)×Int)) (hid:(Option Addr×Nat))=>match st,hid with | (l1,z1),(a_r1,cap_r1)=>[]) (fun F (st:((List ANd)×Int)) (hid:(Option Addr×Nat))=>match st,hid with | (l1,z1),(a_r1,cap_r1)=>[row a_r1 cap_r1 49 4 ANd.d l1,box b2 31 [.v (.slice a_r1 l1.length cap_r1),.i64 z1],(nthF F 0)]) (fun st=>st=o_1) ⟨rfl,rfl,trivial⟩ ⟨rfl,trivial⟩ ?_ ?_
 ·refine Aq ?_
  refine Am [(1,_),(2,_),(4,_),(5,_)] [(2,_)] (fun (st:(Int×(List ANd)×Int)) (hid:(Option Addr×Nat))=>match st,hid with | (i1,l2,z2),(a_r1,cap_r1)=>[(6,.i64 i1)]) (fun F (st:(Int×(List ANd)×Int)) (hid:(Option Addr×Nat))=>match st,hid with | (i1,l2,z2),(a_r1,cap_r1)=>[row a_r1 cap_r1 49 4 ANd.d l2,box b2 31 [.v (.slice a_r1 l2.length cap_r1),.i64 z2],(nthF F 0)]) (_,_) hj1 (fun _=>rfl) ⟨rfl,rfl,rfl,rfl,trivial⟩ ⟨rfl,trivial⟩ ⟨rfl,trivial⟩ rfl ?_;rintro n ⟨i1,l2,z2⟩ ⟨a_r1,cap_r1⟩ hj1;rw [EI] at hj1;refine At (L':=[(6,.i64 i1),(1,_),(2,_),(4,_),(5,_)]) (ms':=[row a_r1 cap_r1 49 4 ANd.d l2,box b2 31 [.v (.slice a_r1 l2.length cap_r1),.i64 z2],_]) rfl rfl ?_;refine zq9 ?_
  apply Cz [(1,_),(2,_),(4,_),(5,_),(6,_)] 14 30 (t:=16) ⟨rfl,rfl,rfl,rfl,rfl,trivial⟩ rfl
  ·intro hg_1 hk1
   refine zq4 ?_
   apply Cv [(1,_),(2,_),(4,_),(5,_),(6,_),(16,_)] 9 29 (t:=20) ⟨rfl,rfl,rfl,rfl,rfl,rfl,trivial⟩ rfl
   ·intro hg_2 hk2
    refine zq5 ?_
    apply Cz [(1,_),(2,_),(4,_),(5,_),(6,_),(16,_),(20,_)] 3 28 (t:=25) ⟨rfl,rfl,rfl,rfl,rfl,rfl,rfl,trivial⟩ rfl
    ·intro hg_3 hk3
     refine zq3 ?_;exact zgm hk3
    ·intro hg_3 hk3
     refine zq3 ?_;exact zgm hk3
    refine zq1 ?_;exact zgm hk2
   ·intro hg_2 hk2
    refine zq9 ?_;exact zgm hk2
   refine zq1 ?_;exact zgm hk1
  ·intro hg_1 hk1
   refine zq14 ?_;exact zgm hk1
  refine gNl ?_;refine zcn hj1 (fun hc1 hj1=>?_) (fun hc1 hj1=>?_)
  ·refine zq8 ?_
   obtain ⟨x1,hx1,hj1⟩:=bS hj1;refine zq2 ?_;refine NF fun b3=>?_;refine zst 0 ?_;refine Aj (ms':=[box b3 49 [_,_,_,_],_,box b2 31 [_,_],box b1 31 [_,_]]) rfl ?_;refine zq3 ?_;refine AJ rfl rfl rfl (Ax (xs:=[]) (f:=AFd.d) (l:=[]) Tryz.runUnderlying47 Tryz.sizeOf71 Tryz.zeroValue71 rfl rfl rfl (fun _=>⟨rfl,rfl,rfl⟩) rfl (by simp [maxLen])) ?_;rintro _ _ ⟨a_r2,rfl,rfl⟩;refine zq5 ?_;refine Ak rfl rfl rfl (Vh rfl rfl) ?_;obtain ⟨l3,hx2,hj1⟩:=bS hj1;refine Ak rfl rfl rfl (Bu Tryz.runUnderlying47 Tryz.sizeOf71 rfl rfl ⟨_,rfl⟩ hx2) ?_;obtain ⟨hg3,hj1⟩:=Aa hj1;refine zap 0 hg3 fun a_r2 cap_r2=>?_;refine Aj (ms':=[_,box b3 49 [_,_,_,_],_,box b2 31 [_,_],box b1 31 [_,_]]) rfl ?_;refine zq1 ?_;refine zst 1 ?_;refine Aj (ms':=[_,box b3 49 [_,_,_,_],_,box b2 31 [_,_],box b1 31 [_,_]]) rfl ?_;refine zq5 ?_;refine Ap (CP (i:=50) (q:=3) 0 rfl rfl rfl rfl rfl).refines ?_;refine Ak rfl rfl rfl (Ai (xs:=[_]) (f:=ANd.d) (l:=[(⟨x1.kind,x1.a,x1.b,([]++l3)⟩:ANd)]) Tryz.runUnderlying29 Tryz.sizeOf49 Tryz.zeroValue49 rfl rfl rfl (fun _=>⟨rfl,rfl,rfl⟩) rfl) ?_;obtain ⟨hg4,hj1⟩:=Aa hj1;refine zap 2 hg4 fun a_r1 cap_r1=>?_;refine Aj (ms':=[_,box b3 49 [_,_,_,_],_,box b2 31 [_,_],box b1 31 [_,_]]) rfl ?_;refine zq1 ?_;refine zst 3 ?_;refine Aj (ms':=[_,box b3 49 [_,_,_,_],_,box b2 31 [_,_],box b1 31 [_,_]]) rfl ?_;refine zq3 ?_;obtain ⟨hg5,hj1⟩:=Aa hj1;refine zq3 ?_;exact ⟨_,(_,_),hj1,⟨rfl,trivial⟩,⟨rfl,rfl,rfl,rfl,trivial⟩,[_,_],rfl⟩
  ·refine Au ?_
   exact ⟨_,(_,_),Ac hj1,trivial,⟨rfl,rfl,trivial⟩,[],rfl⟩
 ·rintro ⟨l1,z1⟩ ⟨a_r1,cap_r1⟩ hst
  subst hst;refine An (L':=[(4,_),(5,_)]) (ms':=[row a_r1 cap_r1 49 4 ANd.d l1,box b2 31 [.v (.slice a_r1 l1.length cap_r1),.i64 z1],_]) rfl rfl ?_;refine zq3 ?_;refine Ap (CP (i:=54) (q:=0) 0 rfl rfl rfl rfl rfl).refines ?_;refine zst 2 ?_;refine Aj (ms':=[_,box b2 31 [_,_],box b1 31 [_,_]]) rfl ?_;refine gNl ?_
  cases hm1;exact Af zr1
def Cd (t1:ATy):List Int->(List Int)->Option (List Int)
 | [],l2 =>
  some l2
 | x2::rr,l2 =>
  (idx t1.l x2).bind fun x3 =>
  bif (decide (x3.kind=11)) then
   grd ((l2.length+([x3.a]:List _).length)*8<=140737488355328) <|
   Cd t1 rr (l2++[x3.a])
  else
   Cd t1 rr l2
def FH (t1:ATy):Option (List Int):=
 (DX t1).bind fun x1 =>
 bif (!decide (x1=0)) then
  some []
 else
  ((Ir t1 t1.root).bind fun xs1 =>
  Cd t1 xs1 []:Option (List Int)).bind fun l1 =>
  grd (l1.length<4611686018427387904) <|
  some (Lib.compact (List.mergeSort l1 fun x y=>decide (x<=y)))
theorem M7 {t1:ATy} {r_1:(List Int)} (hm:FH t1=some r_1):Fn0 Tryz.prog 49 [ATy.d t1] (.list 1 D.i64 r_1):=by
 unfold FH at hm;refine Ae Tryz.func49 rfl Tryz.ntmps49 rfl fun H0 fr w0=>?_;refine zq4 ?_;refine Ap (nilE (i:=2) (sz:=1) (f:=D.i64) rfl).refines ?_;refine zq5 ?_;obtain ⟨x1,hx1,hm⟩:=bS hm;refine zc0 (HP hx1) ?_;refine zq2 ?_;refine zcn hm (fun hc1 hm=>?_) (fun hc1 hm=>?_)
 ·refine zq3 ?_
  refine Ap (nilE (i:=2) (sz:=1) (f:=D.i64) rfl).refines ?_;refine gNl ?_
  cases hm;exact Af zr1
 ·refine zq3 ?_
  refine P6 fun b1=>?_;refine Ap (BF (T:=3) (sz:=1) (f:=D.i64)) ?_;refine zq7 ?_;refine Ak rfl rfl rfl (B7 Tryz.call85 rfl Qv) ?_;refine gNl ?_;obtain ⟨o_1,hj1,hm1⟩:=bS hm;refine Al [(3,_)] [] (fun (st:(List Int)) (hid:(Option Addr×Nat×Nat))=>match st,hid with | l1,(a_r1,m_r1,cap_r1)=>[]) (fun F (st:(List Int)) (hid:(Option Addr×Nat×Nat))=>match st,hid with | l1,(a_r1,m_r1,cap_r1)=>[arr a_r1 m_r1 cap_r1 3 1 D.i64 l1,box b1 43 [.v (.slice a_r1 m_r1 cap_r1)]]) (fun st=>st=o_1) ⟨rfl,trivial⟩ trivial ?_ ?_
  ·refine Aq ?_
   obtain ⟨xs1,hx2,hj1⟩:=bS hj1;refine J2 (fun (p:Int)=>[.i64 p]) [] (fun F (st:(List Int)) (hid:(Option Addr×Nat×Nat))=>match st,hid with | l2,(a_r1,m_r1,cap_r1)=>[arr a_r1 m_r1 cap_r1 3 1 D.i64 l2,box b1 43 [.v (.slice a_r1 m_r1 cap_r1)]]) (_,_,_) hj1 trivial rfl rfl Tryz.call122 (Oz hx2) (fun _=>rfl) rfl ?_ ?_
   ·rintro H0r frr ror w0r hrr x2 rr l2 ⟨a_r1,m_r1,cap_r1⟩ hj1
    rw [Cd] at hj1;refine At (ms':=[arr a_r1 m_r1 cap_r1 3 1 D.i64 l2,box b1 43 [.v (.slice a_r1 m_r1 cap_r1)]]) rfl rfl ?_;refine zq3 ?_
    intro H0r frr ror w0r hrr
    refine zq6 ?_;obtain ⟨x3,hx3,hj1⟩:=bS hj1;refine zq2 ?_;refine NF fun b2=>?_;refine zst 0 ?_;refine Aj (ms':=[box b2 49 [_,_,_,_],_,box b1 43 [_]]) rfl ?_;refine zq7 ?_;refine zcn hj1 (fun hc2 hj1=>?_) (fun hc2 hj1=>?_)
    ·refine zq4 ?_
     refine Ak rfl rfl rfl (zs1 D.i64) ?_;obtain ⟨hg4,hj1⟩:=Aa hj1;refine AJ rfl rfl rfl (Dx (a:=_) 1 Tryz.underlying43 Tryz.type3 rfl rfl rfl rfl rfl rfl (fun _=>rfl) (fun _=>rfl) hg4 (BJ hg4 rfl)) ?_;rintro _ _ ⟨a_r1,m_r1,cap_r1,rfl,rfl⟩;refine Aj (ms':=[box b2 49 [_,_,_,_],_,box b1 43 [_]]) rfl ?_;refine zst 2 ?_;refine Aj (ms':=[box b2 49 [_,_,_,_],_,box b1 43 [_]]) rfl ?_;refine gNl ?_;exact ⟨_,(_,_,_),hj1,[_],rfl⟩
    ·refine gSp ?_
     exact ⟨_,(_,_,_),hj1,[_],rfl⟩
   ·rintro l2 ⟨a_r1,m_r1,cap_r1⟩ hj1
    rw [Cd] at hj1;refine An (ms':=[arr a_r1 m_r1 cap_r1 3 1 D.i64 l2,box b1 43 [.v (.slice a_r1 m_r1 cap_r1)]]) rfl rfl ?_;exact ⟨_,(_,_,_),Ac hj1,trivial,⟨rfl,trivial⟩,[],rfl⟩
  ·rintro l1 ⟨a_r1,m_r1,cap_r1⟩ hst
   subst hst;refine An (L':=[(3,_)]) (ms':=[arr a_r1 m_r1 cap_r1 3 1 D.i64 l1,box b1 43 [.v (.slice a_r1 m_r1 cap_r1)]]) rfl rfl ?_;refine zq3 ?_;obtain ⟨hg5,hm1⟩:=Aa hm1;refine AJ rfl rfl rfl (DF [0] Tryz.call79 rfl rfl (Ar rfl CR) (Oo IM GN hg5) (by rintro _ _ ⟨_,rfl⟩;rfl)) ?_;rintro _ _ ⟨_,⟨rfl,rfl⟩,rfl⟩;refine Aj (ms':=[_,box b1 43 [_]]) rfl ?_;refine zq4 ?_;refine AJ rfl rfl rfl (DF [0] Tryz.call80 rfl rfl (Ar rfl CR) (K9 HE FG) (by rintro _ _ ⟨_,_,rfl⟩;rfl)) ?_;rintro _ _ ⟨_,⟨m_r1,rfl,rfl⟩,rfl⟩;refine Aj (ms':=[_,box b1 43 [_]]) rfl ?_;refine zq2 ?_;refine PZ 0 rfl rfl ?_;rintro rfl;refine BY (peekE (i:=2) 0 rfl rfl rfl).refines ?_
   cases hm1;exact Af zr1
def Dt (t1:ATy):Option Bool:=
 (DX t1).bind fun x1 =>
 (bif (decide (x1=0)) then ((FH t1).bind fun x2 =>
 some (decide ((x2.length:Int)=0))) else (some false)).bind fun p1 =>
 some p1
theorem Lr {t1:ATy} {r_1:Bool} (hm:Dt t1=some r_1):Fn0 Tryz.prog 23 [ATy.d t1] (.bool r_1):=by
 unfold Dt at hm;refine Ae Tryz.func23 rfl Tryz.ntmps23 rfl fun H0 fr w0=>?_;refine zq8 ?_;obtain ⟨x1,hx1,hm⟩:=bS hm;refine zc0 (HP hx1) ?_;refine zq2 ?_;obtain ⟨p1,hp_1,hm⟩:=bS hm;refine Bs [] 5 11 p1 (t:=6) trivial rfl (fun hg_1 hk1=>?_) (fun hg_1 hk1=>?_) ?_
 ·replace hp_1:=Bg hg_1 hp_1
  refine zq1 ?_;obtain ⟨x2,hx2,hp_1⟩:=bS hp_1;refine zcw (M7 hx2) ?_;refine zq3 ?_;exact zgb hk1 hp_1
 ·replace hp_1:=Be hg_1 hp_1
  refine zq5 ?_;exact zgb hk1 hp_1
 refine zq2 ?_
 cases hm;exact Af zr1
def Dj (a1:ATy) (z6:(List AFd)):Nat->(Int×(List AFd))->Option (List AFd)
 | 0,_=>none
 | n+1,(k1,l4) =>
  bif (decide (k1<(z6.length:Int))) then
   (idx z6 k1).bind fun x2 =>
   (idx z6 k1).bind fun x3 =>
   grd (InR (x3.at_+(a1.l.length:Int))) <|
   grd ((l4.length+([(⟨x2.name,(x3.at_+(a1.l.length:Int))⟩:AFd)]:List _).length)*24<=140737488355328) <|
   grd (InR (k1+1)) <|
   Dj a1 z6 n ((k1+1),(l4++[(⟨x2.name,(x3.at_+(a1.l.length:Int))⟩:AFd)]))
  else
   some l4
def DM (a1:ATy) (b1:ATy):Nat->(Int×Int×(List ANd))->Option (Int×(List ANd))
 | 0,_=>none
 | n+1,(i1,z2,l2) =>
  bif (decide (i1<(b1.l.length:Int))) then
   (idx b1.l i1).bind fun x1 =>
   (bif (((decide (x1.kind=6))||(decide (x1.kind=9)))||(decide (x1.kind=10))) then
    grd (InR (x1.a+(a1.l.length:Int))) <|
    grd (InR (x1.b+(a1.l.length:Int))) <|
    some (x1.kind,(x1.a+(a1.l.length:Int)),(x1.b+(a1.l.length:Int)),x1.l)
   else
    some (x1.kind,x1.a,x1.b,x1.l):Option (Int×Int×Int×(List AFd))).bind fun (z3,z4,z5,z6) =>
   (Dj a1 z6 FU (0,[]):Option (List AFd)).bind fun l3 =>
   grd ((l2.length+([(⟨z3,z4,z5,l3⟩:ANd)]:List _).length)*48<=140737488355328) <|
   grd (InR (i1+1)) <|
   DM a1 b1 n ((i1+1),z2,(l2++[(⟨z3,z4,z5,l3⟩:ANd)]))
  else
   some (z2,l2)
def Gc (a1:ATy) (b1:ATy):Option (ATy×Int):=
 grd ((0+a1.l.length)*48<=140737488355328) <|
 (DM a1 b1 FU (0,a1.root,([]++a1.l)):Option (Int×(List ANd))).bind fun (z1,l1) =>
 some ((⟨l1,z1⟩:ATy),(a1.l.length:Int))
end Go.Proofs.YtcoghblhdjmbfaaGreat
