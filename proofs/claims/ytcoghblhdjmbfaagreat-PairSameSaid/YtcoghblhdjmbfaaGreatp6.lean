/- Part 6 of the proof: a program logic, what the functions compute, and what these answer; no condition. -/
import Derived.Test.YtcoghblhdjmbfaaGreatp5
import Derived.Shelf.Sort.Plain
import Derived.Ground.Names2Prog
import Derived.Shelf.Slices.CompactI
import Derived.Shelf.Slices.In.SortNone
import Derived.Test.YtcoghblhdjmbfaaGreatProg
set_option linter.unusedVariables false
set_option linter.unusedSimpArgs false
set_option maxRecDepth 100000
set_option maxHeartbeats 2000000
namespace Go.Proofs.YtcoghblhdjmbfaaGreat
open Go.V
theorem GN {l:List Int} (hl:l.length*8<=140737488355328) :
  Go.V.Fn Tryz.prog 64 [.list 1 D.i64 l] [] (fun d ms'=>∃ a cap,d = .v (.slice a l.length cap)/\ms'=[arr a l.length cap 3 1 D.i64 l]):=by
 refine Ad Tryz.func64 rfl Tryz.ntmps64 rfl fun H0 fr w0=>?_;refine zq8 ?_;refine Az rfl rfl rfl (Jf Tryz.underlying43 rfl rfl) ?_;rintro _ _ ⟨b,rfl,rfl,hb⟩;refine gNl ?_;refine gCd rfl (fun hc1=>?_) (fun hc1=>?_)
 ·
  skip
  obtain rfl:=hb hc1;refine CW (C1 (T:=3) (sz:=1) (f:=D.i64)) ?_;refine zq4 ?_;refine Ae ?_;exact retK (A0 rfl (Bn rfl) (Gs _)) (⟨none,0,rfl,rfl⟩)
 ·
  skip
  refine zq3 ?_;refine Az rfl rfl rfl (Ay (xs:=[]) (f:=D.i64) (l:=[]) Tryz.runUnderlying43 Tryz.sizeOf3 Tryz.zeroValue3 rfl rfl rfl (fun _=>⟨rfl,rfl,rfl⟩) rfl (by simp [maxLen])) ?_;rintro _ _ ⟨a1,rfl,rfl⟩;refine zq1 ?_;refine Az rfl rfl rfl (JE (a:=_) 0 Tryz.underlying43 Tryz.type3 rfl rfl rfl rfl rfl rfl rfl rfl hl (BS hl rfl)) ?_;rintro _ _ ⟨a2,cap2,rfl,rfl⟩;refine zq2 ?_;refine Ae ?_;exact retK (A0 rfl (Bn rfl) (Gs _)) (⟨_,_,rfl,rfl⟩)
theorem Pv {l:List AutoEdge} (hl:l.length*24<=140737488355328) :
  Go.V.Fn Tryz.prog 142 [.list 2 AutoEdge.d l] [] (fun d ms'=>∃ a cap,d = .v (.slice a l.length cap)/\ms'=[arr a l.length cap 62 2 AutoEdge.d l]):=by
 refine Ad Tryz.func142 rfl Tryz.ntmps142 rfl fun H0 fr w0=>?_;refine zq8 ?_;refine Az rfl rfl rfl (Jf Tryz.underlying57 rfl rfl) ?_;rintro _ _ ⟨b,rfl,rfl,hb⟩;refine gNl ?_;refine gCd rfl (fun hc1=>?_) (fun hc1=>?_)
 ·
  skip
  obtain rfl:=hb hc1;refine CW (C1 (T:=62) (sz:=2) (f:=AutoEdge.d)) ?_;refine zq4 ?_;refine Ae ?_;exact retK (A0 rfl (Bn rfl) (Gs _)) (⟨none,0,rfl,rfl⟩)
 ·
  skip
  refine zq3 ?_;refine Az rfl rfl rfl (Ay (xs:=[]) (f:=AutoEdge.d) (l:=[]) Tryz.runUnderlying57 Tryz.sizeOf62 Tryz.zeroValue62 rfl rfl rfl (fun _=>⟨rfl,rfl,rfl⟩) rfl (by simp [maxLen])) ?_;rintro _ _ ⟨a1,rfl,rfl⟩;refine zq1 ?_;refine Az rfl rfl rfl (JE (a:=_) 0 Tryz.underlying57 Tryz.type62 rfl rfl rfl rfl rfl rfl rfl rfl hl (BS hl rfl)) ?_;rintro _ _ ⟨a2,cap2,rfl,rfl⟩;refine zq2 ?_;refine Ae ?_;exact retK (A0 rfl (Bn rfl) (Gs _)) (⟨_,_,rfl,rfl⟩)
theorem Qp {n:Int} (h0:0<=n) (hb:n.toNat*8<=140737488355328) :
  Go.V.Fn Tryz.prog 169 [.v (.slice none 0 0),.i64 n] [] (fun d ms'=>∃ a cap,d = .v (.slice a 0 cap)/\ms'=[row a cap 3 1 D.i64 []]):=by
 refine Ad Tryz.func169 rfl Tryz.ntmps169 rfl fun H0 fr w0=>?_;refine zq10 ?_;refine gCd rfl (fun hc1=>?_) (fun hc1=>?_)
 ·
  try simp only [decide_eq_true_eq,decide_eq_false_iff_not,Bool.not_eq_true',Bool.not_eq_false',Bool.and_eq_true,Bool.or_eq_true,Bool.and_eq_false_iff,Bool.or_eq_false_iff,Int.not_lt,Int.not_le,ne_eq,Decidable.not_not] at hc1
  omega
 ·
  try simp only [decide_eq_true_eq,decide_eq_false_iff_not,Bool.not_eq_true',Bool.not_eq_false',Bool.and_eq_true,Bool.or_eq_true,Bool.and_eq_false_iff,Bool.or_eq_false_iff,Int.not_lt,Int.not_le,ne_eq,Decidable.not_not] at hc1
  refine zq6 ?_;refine Ai rfl rfl rfl (Nh Tryz.runUnderlying43 rfl) ?_;refine zq1 ?_;refine Ai rfl rfl rfl (Ng Tryz.runUnderlying43 rfl) ?_;refine Ai rfl rfl rfl (Tv rfl rfl (HW (by omega))) ?_;refine Ai rfl rfl rfl (Tv rfl rfl (HW (by omega))) ?_;refine zq7 ?_;refine gCd rfl (fun hc2=>?_) (fun hc2=>?_)
  ·
   try simp only [decide_eq_true_eq,decide_eq_false_iff_not,Bool.not_eq_true',Bool.not_eq_false',Bool.and_eq_true,Bool.or_eq_true,Bool.and_eq_false_iff,Bool.or_eq_false_iff,Int.not_lt,Int.not_le,ne_eq,Decidable.not_not] at hc2
   have hn2:n.toNat<=140737488355328:=Nat.le_trans (Nat.le_mul_of_pos_right _ (by decide)) hb
   refine zq3 ?_;refine Ai rfl rfl rfl (Nh Tryz.runUnderlying43 rfl) ?_;refine Ai rfl rfl rfl (K6 Tryz.runUnderlying43 Tryz.sizeOf3 rfl rfl (Nat.le_refl _) (Nat.le_refl _)) ?_;refine zq1 ?_;refine Az rfl rfl rfl (Kx (f:=D.i64) Tryz.underlying43 Tryz.underlying3 Tryz.type3 rfl rfl rfl rfl rfl rfl (by omega) (by simpa [Tryz.t3] using hb) rfl) ?_;rintro _ _ ⟨a,cap,hcap,rfl,rfl⟩;refine zq1 ?_;refine Ai rfl rfl rfl (Ng Tryz.runUnderlying43 rfl) ?_;refine Ai rfl rfl rfl (K6 Tryz.runUnderlying43 Tryz.sizeOf3 rfl rfl (Nat.zero_le _) (hcap)) ?_;refine zq7 ?_;refine Ae ?_;exact retK (A0 rfl (Bn rfl) (Gs _)) (⟨_,_,rfl,rfl⟩)
  ·
   try simp only [decide_eq_true_eq,decide_eq_false_iff_not,Bool.not_eq_true',Bool.not_eq_false',Bool.and_eq_true,Bool.or_eq_true,Bool.and_eq_false_iff,Bool.or_eq_false_iff,Int.not_lt,Int.not_le,ne_eq,Decidable.not_not] at hc2
   refine CW (AG (T:=3) (sz:=1) (f:=D.i64)) ?_;refine zq6 ?_;refine Ae ?_;exact retK (A0 rfl (Bn rfl) (Gs _)) (⟨none,0,rfl,rfl⟩)
section
open Go.Shelf Go.Proofs
def LZ:Go.Shelf.Ren:=⟨fun | 189=>79 | 125=>112 | 257=>111 | 128=>160 | 129=>161 | 294=>151 | 295=>152 | 296=>153 | 297=>154 | 298=>155 | 299=>156 | 216=>157 | 300=>158 | 301=>159 | 328=>174 | 329=>175 | 330=>176 | 331=>177 | 332=>178 | 215=>179 | 343=>183 | n=>n,fun | 28=>43 | 3=>3 | 46=>156 | 0=>0 | 51=>186 | 53=>188 | 4=>4 | 183=>180 | 182=>179 | 131=>91 | 5=>5 | 9=>9 | 218=>194 | 222=>198 | 228=>201 | 229=>202 | n=>n,fun | n=>n⟩
theorem LR:Go.Proofs.Lays.n189 Tryz.prog LZ:={
 mixed:=by kernel_rfl
 f125:=Tryz.func112.trans (congrArg some (by kernel_rfl))
 f128:=Tryz.func160.trans (congrArg some (by kernel_rfl))
 f129:=Tryz.func161.trans (congrArg some (by kernel_rfl))
 f189:=Tryz.func79.trans (congrArg some (by kernel_rfl))
 f215:=Tryz.func179.trans (congrArg some (by kernel_rfl))
 f216:=Tryz.func157.trans (congrArg some (by kernel_rfl))
 f257:=Tryz.func111.trans (congrArg some (by kernel_rfl))
 f294:=Tryz.func151.trans (congrArg some (by kernel_rfl))
 f295:=Tryz.func152.trans (congrArg some (by kernel_rfl))
 f296:=Tryz.func153.trans (congrArg some (by kernel_rfl))
 f297:=Tryz.func154.trans (congrArg some (by kernel_rfl))
 f298:=Tryz.func155.trans (congrArg some (by kernel_rfl))
 f299:=Tryz.func156.trans (congrArg some (by kernel_rfl))
 f300:=Tryz.func158.trans (congrArg some (by kernel_rfl))
 f301:=Tryz.func159.trans (congrArg some (by kernel_rfl))
 f328:=Tryz.func174.trans (congrArg some (by kernel_rfl))
 f329:=Tryz.func175.trans (congrArg some (by kernel_rfl))
 f330:=Tryz.func176.trans (congrArg some (by kernel_rfl))
 f331:=Tryz.func177.trans (congrArg some (by kernel_rfl))
 f332:=Tryz.func178.trans (congrArg some (by kernel_rfl))
 f343:=Tryz.func183.trans (congrArg some (by kernel_rfl))
 t0:=Tryz.underlying0
 a0:=Tryz.isAgg0
 z0:=Tryz.sizeOf0
 v0:=Tryz.zeroValue0
 t3:=Tryz.underlying3
 a3:=Tryz.isAgg3
 z3:=Tryz.sizeOf3
 v3:=Tryz.zeroValue3
 t4:=Tryz.underlying4
 a4:=Tryz.isAgg4
 z4:=Tryz.sizeOf4
 v4:=Tryz.zeroValue4
 t5:=Tryz.underlying5
 a5:=Tryz.isAgg5
 z5:=Tryz.sizeOf5
 v5:=Tryz.zeroValue5
 t9:=Tryz.underlying9
 a9:=Tryz.isAgg9
 z9:=Tryz.sizeOf9
 v9:=Tryz.zeroValue9
 t28:=Tryz.underlying43
 a28:=Tryz.isAgg43
 z28:=Tryz.sizeOf43
 v28:=Tryz.zeroValue43
 t46:=Tryz.underlying156
 a46:=Tryz.isAgg156
 z46:=Tryz.sizeOf156
 v46:=Tryz.zeroValue156
 t51:=Tryz.underlying186
 a51:=Tryz.isAgg186
 z51:=Tryz.sizeOf186
 v51:=Tryz.zeroValue186
 t53:=Tryz.underlying188
 a53:=Tryz.isAgg188
 z53:=Tryz.sizeOf188
 v53:=Tryz.zeroValue188
 t131:=Tryz.underlying91
 a131:=Tryz.isAgg91
 z131:=Tryz.sizeOf91
 v131:=Tryz.zeroValue91
 t182:=Tryz.underlying179
 a182:=Tryz.isAgg179
 z182:=Tryz.sizeOf179
 v182:=Tryz.zeroValue179
 t183:=Tryz.underlying180
 a183:=Tryz.isAgg180
 z183:=Tryz.sizeOf180
 v183:=Tryz.zeroValue180
 t218:=Tryz.underlying194
 a218:=Tryz.isAgg194
 z218:=Tryz.sizeOf194
 v218:=Tryz.zeroValue194
 t222:=Tryz.underlying198
 a222:=Tryz.isAgg198
 z222:=Tryz.sizeOf198
 v222:=Tryz.zeroValue198
 t228:=Tryz.underlying201
 a228:=Tryz.isAgg201
 z228:=Tryz.sizeOf201
 v228:=Tryz.zeroValue201
 t229:=Tryz.underlying202
 a229:=Tryz.isAgg202
 z229:=Tryz.sizeOf202
 v229:=Tryz.zeroValue202 }
open Go.Sort Go.RowKit in
theorem E2 (blk off cap:Nat) (zs:List Int) (w:World) (hH:Holds (Value.int .i64) w blk off zs.toArray) (hblk:blk<w.heap.size) (hsz:zs.length<4611686018427387904) :
  Calls Tryz.prog 79 #[.slice (some ⟨blk,off,none⟩) zs.length cap] w fun e w' =>
   e = .returned (.tuple #[])/\∃ n os,w'=grow (putRow (Value.int .i64) (Sort.ahead w n) blk off (zs.mergeSort fun x y=>decide (x<=y)).toArray) os:=Any.slices_Sort_int LR blk off cap zs w hH hblk hsz
def KZ:Go.Shelf.Ren:=⟨fun | 20=>80 | n=>n,fun | 22=>43 | 3=>3 | 4=>4 | 0=>0 | n=>n,fun | n=>n⟩
theorem JK:Go.Proofs.Lays2.n20 Tryz.prog KZ:={
 mixed:=by kernel_rfl
 f20:=Tryz.func80.trans (congrArg some (by kernel_rfl))
 t0:=Tryz.underlying0
 a0:=Tryz.isAgg0
 z0:=Tryz.sizeOf0
 v0:=Tryz.zeroValue0
 t3:=Tryz.underlying3
 a3:=Tryz.isAgg3
 z3:=Tryz.sizeOf3
 v3:=Tryz.zeroValue3
 t4:=Tryz.underlying4
 a4:=Tryz.isAgg4
 z4:=Tryz.sizeOf4
 v4:=Tryz.zeroValue4
 t22:=Tryz.underlying43
 a22:=Tryz.isAgg43
 z22:=Tryz.sizeOf43
 v22:=Tryz.zeroValue43
 i3:=by kernel_rfl }
open Go.RowKit Go.Lib Go.Sort in
theorem FI (blk off cap:Nat) (zs:List Int) (w:World) (hH:Holds (Value.int .i64) w blk off zs.toArray) (hsz:zs.length<=9223372036854775807) (hcap:zs.length<=cap) :
  Calls Tryz.prog 80 #[.slice (some ⟨blk,off,none⟩) zs.length cap] w fun e w'=>e = .returned (.slice (some ⟨blk,off,none⟩) (Lib.compact zs).length cap)/\∃ q,w'=putRow (Value.int .i64) (Sort.ahead w q) blk off (Lib.compact zs++List.replicate (zs.length - (Lib.compact zs).length) 0).toArray:=Any.slices_Compact_int JK blk off cap zs w hH hsz hcap
open Go.RowKit Go.Lib Go.Sort in
theorem Ep (a:Option Addr) (cap:Nat) (w:World) :
  Calls Tryz.prog 80 #[.slice a 0 cap] w fun e w'=>e = .returned (.slice a 0 cap)/\w'=w:=Any.slices_Compact_int_empty JK a cap w
theorem DQ (p:Option Addr) (cap:Nat) (w:World) :
  Calls Tryz.prog 79 #[.slice p 0 cap] w fun e w'=>e = .returned (.tuple #[])/\w'=w:=Any.slices_Sort_int_none LR p cap w
end
section
open Go.V Go.Proofs Go.RowKit Go.Sort
open Go.RowKit Go.Lib in
theorem V5 {b:Nat} {β:Type} {fv:β->D} {l:List (Int×β)}:IterM Tryz.prog 110 [.ref (.v (.map (some b)))] (mp b kI64 fv l) (l,([]:List Int)) (keyNx kI64) keyFi:=by
 intro y hys J Jx hy ms h0
 refine Ad Tryz.func110 rfl Tryz.ntmps110 rfl fun H0 fr w0=>?_;refine zq3 ?_;refine Az rfl rfl rfl (OQ 0 Tryz.underlying88 rfl rfl) ?_;rintro _ _ ⟨r,rfl,rfl⟩;refine zq2 ?_;refine Mo [(0,y),(5,.v (.pointer (some ⟨r,0,none⟩)))] (fun (s:List (Int×β)×Option (Int×β)×List Int×List Asrt)=>J (s.1,s.2.2.1) s.2.2.2) (fun _=>[]) (fun s=>mpi b r kI64 fv l s.1 s.2.1::s.2.2.2) (fun s=>s.1.length) (l,none,[],ms) h0 ⟨rfl,rfl,trivial⟩ trivial rfl ?_;rintro ⟨rest,last,done,tl⟩ hJ;refine Av (L':=[(0,y),(5,_)]) (ms':=mpi b r kI64 fv l rest last::tl) rfl rfl ?_;refine zq2 ?_;refine Az rfl rfl rfl (QL 0 rfl rfl) ?_;rintro _ _ (⟨hr,rfl,rfl⟩ | ⟨i,p,hi,rfl,rfl⟩)
 ·subst hr
  refine zq1 ?_;refine Aq (Lc 0 rfl rfl) ?_;refine zq2 ?_;refine Dn rfl rfl ?_;refine Au ?_;exact retKn (DR (ms':=mp b kI64 fv l::tl) (drop:=[]) rfl (List.Perm.refl _)) ⟨tl,rfl,.inl ⟨([],done),rfl,hJ⟩⟩
 ·refine zq3 ?_
  refine Ff rfl rfl ?_;refine zq4 ?_;refine Ai rfl rfl rfl (Pn 0 rfl rfl) ?_;refine zq7 ?_;refine Az rfl rfl rfl (UY rfl rfl (hy (rest,done) _ (rest.eraseIdx i,done++[p.1]) tl ⟨i,p,hi,rfl,rfl⟩ hJ)) ?_;rintro _ _ ⟨tl',⟨rfl,hJ'⟩ | ⟨rfl,hx⟩,rfl⟩
  ·refine zq2 ?_
   refine Dn rfl rfl ?_;refine gSp ?_;exact ⟨(rest.eraseIdx i,some p,done++[p.1],tl'),hJ',Ub hi,trivial,⟨rfl,rfl,trivial⟩,[],rfl⟩
  ·refine zq1 ?_
   refine Aq (Lc 0 rfl rfl) ?_;refine gNl ?_;refine Ff rfl rfl ?_;refine Ae ?_;exact retK (DR (ms':=mp b kI64 fv l::tl') (drop:=[]) rfl (List.Perm.refl _)) ⟨tl',rfl,.inr hx⟩
theorem OS {b:Nat}:Fn0 Tryz.prog 78 [.v (.map (some b))] (.clo (.func 110) [] [.ref (.v (.map (some b)))]):=by
 refine Ad Tryz.func78 rfl Tryz.ntmps78 rfl fun H0 fr w0=>?_;refine zq7 ?_;refine Ai rfl rfl rfl (Cw rfl rfl) ?_;refine zq2 ?_;refine Ae ?_;exact retK (A0 rfl (Bn rfl) (Gx _)) rfl
theorem ON {b:Nat} {β:Type} {fv:β->D} {l:List (Int×β)} (hl:l.length*8<=140737488355328):Go.V.Fn Tryz.prog 150 [.v (.slice none 0 0),.clo (.func 110) [] [.ref (.v (.map (some b)))]] [mp b kI64 fv l]
  (fun d ms'=>∃ q a m cap,q.Perm (l.map (·.1))/\d = .v (.slice a m cap)/\ms'=[arr a m cap 3 1 D.i64 q,mp b kI64 fv l]):=by
 refine Ad Tryz.func150 rfl Tryz.ntmps150 rfl fun H0 fr w0=>?_;refine zq2 ?_;refine Az rfl rfl rfl (IW rfl rfl rfl) ?_;rintro _ _ ⟨b1,rfl,rfl⟩;refine zq1 ?_;refine Aq (C1 (T:=3) (sz:=1) (f:=D.i64)) ?_;refine zq7 ?_;refine CW (NQ (ms':=[mp b kI64 fv l,arr none 0 0 3 1 D.i64 ([]:List Int),box b1 43 [.v (.slice none 0 0)]]) (List.perm_middle (l₁:=[arr none 0 0 3 1 D.i64 ([]:List Int),box b1 43 [.v (.slice none 0 0)]]) (l₂:=[]) (a:=mp b kI64 fv l))) ?_;refine Ol (mp b kI64 fv l) (l,([]:List Int)) (keyNx kI64) keyFi (fun s ms'=>(s.2++s.1.map (·.1)).Perm (l.map (·.1))/\∃ a m cap,ms'=[arr a m cap 3 1 D.i64 s.2,box b1 43 [.v (.slice a m cap)]]) rfl Tryz.call110 V5 ⟨by simp,none,0,0,rfl⟩
  (by rintro s ds s' ⟨i,p,h1,rfl,h2⟩;rfl) rfl ?_ ?_
 ·rintro Γ' ⟨rest,done⟩ ds s' ms' hN ⟨i,p,hi,rfl,rfl⟩ ⟨hp,a,m,cap,rfl⟩
  simp only at hp hi
  refine gRg ?_;refine Ai rfl rfl (by rw [hN];rfl) (oAs rfl) ?_;refine gNl ?_
  intro Γ'' hN'
  have hpm:=R9 hp hi
  have hlen:done.length+1<=l.length:=by
   have:=hpm.length_eq
   simp only [List.length_append,List.length_cons,List.length_nil,List.length_map] at this
   omega
  refine zq2 ?_;refine Ai rfl rfl (by rw [hN'];rfl) (oLb 1 Tryz.isAgg43 rfl rfl rfl rfl) ?_;refine Ai rfl rfl (by rw [hN'];rfl) (oMv rfl) ?_;refine Ai rfl rfl (by rw [hN'];rfl) (zs1 D.i64) ?_
  have hg:(done.length+([p.1]:List Int).length)*8<=140737488355328:=by simp only [List.length_cons,List.length_nil];omega
  refine Az rfl rfl (by rw [hN'];rfl) (D6 (a:=_) 0 Tryz.underlying43 Tryz.type3 rfl rfl rfl rfl rfl rfl (fun _=>rfl) (fun _=>rfl) hg (BS hg rfl)) ?_;rintro _ _ ⟨a',m',cap',rfl,rfl⟩;refine zst 1 ?_;refine gNl ?_;exact ⟨hpm,a',m',cap',rfl⟩
 ·rintro ⟨rest,done⟩ ms' hfi ⟨hp,a,m,cap,rfl⟩
  simp only [keyFi] at hfi hp;subst hfi;refine zq5 ?_;refine Ae ?_;exact retK (A0 rfl (Bn rfl) (permA 1 rfl (permA 0 rfl permN))) ⟨done,a,m,cap,by simpa using hp,rfl,rfl⟩
theorem SJ {b:Nat} {β:Type} {fv:β->D} {l:List (Int×β)} (hl:l.length*8<=140737488355328):Go.V.Fn Tryz.prog 109 [.clo (.func 110) [] [.ref (.v (.map (some b)))]] [mp b kI64 fv l]
  (fun d ms'=>∃ q a m cap,q.Perm (l.map (·.1))/\d = .v (.slice a m cap)/\ms'=[arr a m cap 3 1 D.i64 q,mp b kI64 fv l]):=by
 refine Ad Tryz.func109 rfl Tryz.ntmps109 rfl fun H0 fr w0=>?_;refine zq7 ?_;refine Az rfl rfl rfl (DO (ms₁:=[mp b kI64 fv l]) (rest:=[]) Tryz.call150 rfl (List.Perm.refl _) (ON hl)) ?_;rintro _ _ ⟨_,⟨q,a,m,cap,hq,rfl,rfl⟩,rfl⟩;refine zq2 ?_;refine Ae ?_;exact retK (A0 rfl (Bn rfl) (permA 0 rfl (permA 0 rfl permN))) ⟨q,a,m,cap,hq,rfl,rfl⟩
theorem Ug (hS1:∀ (blk off cap:Nat) (zs:List Int) (w:World),Holds (Value.int .i64) w blk off zs.toArray->blk<w.heap.size->zs.length<4611686018427387904 ->
      Calls Tryz.prog 79 #[.slice (some ⟨blk,off,none⟩) zs.length cap] w fun e w'=>e = .returned (.tuple #[])/\∃ n os,w'=grow (putRow (Value.int .i64) (Sort.ahead w n) blk off (zs.mergeSort fun x y=>decide (x<=y)).toArray) os)
    (hS0:∀ (p:Option Addr) (cap:Nat) (w:World),Calls Tryz.prog 79 #[.slice p 0 cap] w fun e w'=>e = .returned (.tuple #[])/\w'=w)
    {b:Nat} {β:Type} {fv:β->D} {l:List (Int×β)} (hl:l.length*8<=140737488355328):Go.V.Fn Tryz.prog 77 [.clo (.func 110) [] [.ref (.v (.map (some b)))]] [mp b kI64 fv l]
    (fun d ms'=>∃ a m cap,d = .v (.slice a m cap)/\ms'=[mp b kI64 fv l,arr a m cap 3 1 D.i64 ((l.map (·.1)).mergeSort fun x y=>decide (x<=y))]):=by
  refine Ad Tryz.func77 rfl Tryz.ntmps77 rfl fun H0 fr w0=>?_
  refine zq7 ?_
  refine Az rfl rfl rfl (DO (ms₁:=[mp b kI64 fv l]) (rest:=[]) Tryz.call109 rfl (List.Perm.refl _) (SJ hl)) ?_
  rintro _ _ ⟨_,⟨q,a,m,cap,hq,rfl,rfl⟩,rfl⟩
  refine zq5 ?_
  have hql:q.length<4611686018427387904:=by
    have:=hq.length_eq
    rw [List.length_map] at this
    omega
  refine Az rfl rfl rfl (Cr [0] Tryz.call79 rfl rfl (Ap rfl CI) (IC hS1 hS0 hql) (by rintro _ _ ⟨_,rfl⟩;rfl)) ?_
  rintro _ _ ⟨_,⟨rfl,rfl⟩,rfl⟩
  rw [Sy hq]
  refine Ah (ms':=[arr a m cap 3 1 D.i64 ((l.map (·.1)).mergeSort fun x y=>decide (x<=y)),mp b kI64 fv l]) rfl ?_
  refine zq6 ?_
  refine Ae ?_
  exact retK (A0 rfl (Bn rfl) (permA 1 rfl (permA 0 rfl permN))) ⟨a,m,cap,rfl,rfl⟩
end
section
open Go.Proofs Go.Shelf
theorem Lf:Tryz.prog.follows .mixedOrders=true:=by kernel_rfl
def RP:Go.Shelf.Ren:=⟨fun | 6=>92 | 10=>63 | n=>n,fun | 22=>43 | 23=>3 | 25=>109 | 3=>3 | 4=>4 | 0=>0 | n=>n,fun | n=>n⟩
theorem Pi:Go.Proofs.SlLaysH.n10 Tryz.prog RP:={
 mixed:=by kernel_rfl
 f6:=⟨Tryz.f92.name,by decide,Tryz.func92.trans (congrArg some (by kernel_rfl))⟩
 f10:=⟨Tryz.f63.name,by decide,Tryz.func63.trans (congrArg some (by kernel_rfl))⟩
 t0:=Tryz.underlying0
 a0:=Tryz.isAgg0
 z0:=Tryz.sizeOf0
 v0:=Tryz.zeroValue0
 t3:=Tryz.underlying3
 a3:=Tryz.isAgg3
 z3:=Tryz.sizeOf3
 v3:=Tryz.zeroValue3
 t4:=Tryz.underlying4
 a4:=Tryz.isAgg4
 z4:=Tryz.sizeOf4
 v4:=Tryz.zeroValue4
 t22:=Tryz.underlying43
 a22:=Tryz.isAgg43
 z22:=Tryz.sizeOf43
 v22:=Tryz.zeroValue43
 a23:=Tryz.isAgg3
 z23:=Tryz.sizeOf3
 t25:=Tryz.underlying109
 a25:=Tryz.isAgg109
 z25:=Tryz.sizeOf109
 v25:=Tryz.zeroValue109 }
theorem UZ:Go.Proofs.SlLaysH.n6 Tryz.prog RP:={ Pi with }
theorem SR (a:Option Addr) (cap:Nat) (fv:Value) (w:World):Calls Tryz.prog 63 #[.slice a 0 cap,fv] w fun e w'=>e = .returned (.slice a 0 cap)/\w'=w:=by
 have mixed:=Lf
 go_enter Tryz.func63,Tryz.ntmps63
 have hI:∀ (a:Option Addr) (c:Nat) (fv:Value) (w:World),Calls Tryz.prog 92 #[.slice a 0 c,fv] w fun e w'=>e = .returned (.int .i64 (-1))/\w'=w:=fun a c fv w=>AnyE.slices_IndexFunc_empty UZ a c fv w
 go_wp2_with (refine (hI _ _ _ _).mono ?_;rintro e w' ⟨rfl,rfl⟩)
 go_ret
 exact ⟨rfl,rfl⟩
theorem Vh (x:Int) (pb po mb clock:Nat) (es:Array MapEntry) (H:PH) (mm:List (Int×Bool)) (W:World) (hp:W.cell? ⟨pb,po,none⟩=some (.map (some mb))) (h1:W.heap[mb]? = some (.map es clock)) (h2:MapOk kI64 D.bool H mm es.toList):FnGives Tryz.prog 65 #[.pointer (some ⟨pb,po,none⟩)] #[.int .i64 x] (.bool ((mget mm x).getD false)) W:=by
 have mixed:=Lf
 have hl:=QX (P:=Tryz.prog) (t:=105) x Tryz.runUnderlying105 (Jm Tryz.underlying3) Tryz.zeroValue4 h1 h2
 have hl:Sem.run Tryz.prog (Instr.lookup 105 (.map (some mb)) (.int .i64 x) false) W=_:=hl
 unfold FnGives
 show Calls Tryz.prog 65 #[.int .i64 x,.pointer (some ⟨pb,po,none⟩)] W _
 go_enter Tryz.func65,Tryz.ntmps65
 go_wp2
 go_ret
 exact ⟨rfl,0,rfl⟩
theorem Xa {a:Option Addr} {m cap mb:Nat} {l:List Int} {mm:List (Int×Bool)} :
  Go.V.Fn Tryz.prog 63 [.v (.slice a m cap),.clo (.func 65) [] [.ref (.v (.map (some mb)))]] [arr a m cap 3 1 D.i64 l,mp mb kI64 D.bool mm] (fun d ms'=>∃ m',d = .v (.slice a m' cap)/\ms'=[arr a m' cap 3 1 D.i64 (l.filter fun x => !(mget mm x).getD false),mp mb kI64 D.bool mm]):=
 SK Tryz.call65 (fun lb p blk off cap d w hp hpo hH hsz hcap=>AnyE.slices_DeleteFunc Pi (Value.int .i64) (fun _=>rfl) p 65 lb Tryz.call65 0 Tryz.zeroValue3 blk off cap d w hp hpo hH hsz hcap) SR Vh
end
def Ho (s1:(List ANd)) (f1:(ANd->Option Bool)):Nat->Int->Option (Out Int Unit)
 | 0,_=>none
 | n+1,x1 =>
  bif (decide (x1<(s1.length:Int))) then
   (idx s1 x1).bind fun x2 =>
   (f1 x2).bind fun x3 =>
   bif x3 then
    some (Out.ret x1)
   else
    grd (InR (x1+1)) <|
    Ho s1 f1 n (x1+1)
  else
   some (Out.go (()))
def RB (s1:(List ANd)) (f1:(ANd->Option Bool)):Option Int:=
 ((Ho s1 f1 FU 0:Option (Out Int Unit))).bind (fun oo=>oo.on (fun r1=>some r1) (fun _ =>
 some (-1)))
theorem Xp {s1:(List ANd)} {f1:(ANd->Option Bool)} {r_1:Int} {fv_f1:D} (hff1:Ji Tryz.prog fv_f1 ANd.d D.bool f1) (hm:RB s1 f1=some r_1):Fn0 Tryz.prog 113 [.list 4 ANd.d s1,fv_f1] (.i64 r_1):=by
 unfold RB at hm;refine Ad Tryz.func113 rfl Tryz.ntmps113 rfl fun H0 fr w0=>?_;refine zq11 ?_;obtain ⟨o_1,hj1,hm1⟩:=bS hm;refine Af [] [] (fun (st:Unit) (hid:Unit)=>match st,hid with | _,_=>[]) (fun F (st:Unit) (hid:Unit)=>match st,hid with | _,_=>[]) (fun st=>Out.go (st)=o_1) trivial trivial ?_ ?_
 ·refine Am ?_
  refine Ag [(0,_),(1,_),(7,_)] [] (fun (st:Int) (hid:Unit)=>match st,hid with | x1,_=>[(8,.i64 x1)]) (fun F (st:Int) (hid:Unit)=>match st,hid with | x1,_=>[]) () hj1 (fun _=>rfl) ⟨rfl,rfl,rfl,trivial⟩ trivial ⟨rfl,trivial⟩ rfl ?_;rintro n x1 _ hj1;rw [Ho] at hj1;refine Av (L':=[(8,.i64 x1),(0,_),(1,_),(7,_)]) (ms':=[]) rfl rfl ?_;refine zq5 ?_;refine zcn hj1 (fun hc1 hj1=>?_) (fun hc1 hj1=>?_)
  ·refine zq13 ?_
   obtain ⟨x2,hx1,hj1⟩:=bS hj1;refine zq2 ?_;obtain ⟨x3,hx2,hj1⟩:=bS hj1;refine Ai rfl rfl rfl (EY rfl rfl (hff1 _ _ hx2)) ?_;refine gNl ?_;refine zcn hj1 (fun hc2 hj1=>?_) (fun hc2 hj1=>?_)
   ·refine zq5 ?_
    refine Ae ?_;obtain rfl:=Ac hj1
    replace hm1:=BP hm1
    cases hm1;exact zr1
   ·refine zq2 ?_
    obtain ⟨hg3,hj1⟩:=Aa hj1;refine zq3 ?_;exact ⟨_,(),hj1,⟨rfl,trivial⟩,⟨rfl,rfl,rfl,trivial⟩,[],rfl⟩
  ·refine Au ?_
   exact ⟨_,(),Ac hj1,trivial,trivial,[],rfl⟩
 ·rintro _ _ hst
  subst hst
  replace hm1:=Dm hm1
  refine An (L':=[]) (ms':=[]) rfl rfl ?_;refine zq4 ?_
  cases hm1;exact Ae zr1
def OJ (s1:(List ANd)) (f1:(ANd->Option Bool)):Option Bool:=
 (RB s1 f1).bind fun x1 =>
 some (decide (0<=x1))
theorem Xr {s1:(List ANd)} {f1:(ANd->Option Bool)} {r_1:Bool} {fv_f1:D} (hff1:Ji Tryz.prog fv_f1 ANd.d D.bool f1) (hm:OJ s1 f1=some r_1):Fn0 Tryz.prog 81 [.list 4 ANd.d s1,fv_f1] (.bool r_1):=by
 unfold OJ at hm;refine Ad Tryz.func81 rfl Tryz.ntmps81 rfl fun H0 fr w0=>?_;refine zq8 ?_;obtain ⟨x1,hx1,hm⟩:=bS hm;refine zc0 (Xp hff1 hx1) ?_;refine zq3 ?_
 cases hm;exact Ae zr1
def EG (kind1:Int):Option Bool:=
 some (((decide (kind1=6))||(decide (kind1=9)))||(decide (kind1=10)))
theorem JL {kind1:Int} {r_1:Bool} (hm:EG kind1=some r_1):Fn0 Tryz.prog 114 [.i64 kind1] (.bool r_1):=by
 unfold EG at hm;refine Ad Tryz.func114 rfl Tryz.ntmps114 rfl fun H0 fr w0=>?_;refine zq9 ?_
 apply Cy [(0,_)] 3 8 (t:=5) ⟨rfl,trivial⟩ rfl
 ·intro hg_1 hk1
  refine zq3 ?_;exact zgm hk1
 ·intro hg_1 hk1
  refine zq3 ?_;exact zgm hk1
 refine zq1 ?_
 apply Cy [] 3 12 (t:=9) trivial rfl
 ·intro hg_2 hk2
  refine zq3 ?_;exact zgm hk2
 ·intro hg_2 hk2
  refine zq3 ?_;exact zgm hk2
 refine zq2 ?_
 cases hm;exact Ae zr1
def EN (kind1:Int):Option Bool:=
 some ((decide (kind1=7))||(decide (kind1=8)))
theorem J8 {kind1:Int} {r_1:Bool} (hm:EN kind1=some r_1):Fn0 Tryz.prog 115 [.i64 kind1] (.bool r_1):=by
 unfold EN at hm;refine Ad Tryz.func115 rfl Tryz.ntmps115 rfl fun H0 fr w0=>?_;refine zq9 ?_
 apply Cy [] 3 8 (t:=5) trivial rfl
 ·intro hg_1 hk1
  refine zq3 ?_;exact zgm hk1
 ·intro hg_1 hk1
  refine zq3 ?_;exact zgm hk1
 refine zq2 ?_
 cases hm;exact Ae zr1
def Dg (c1:UInt8):Option Bool:=
 some (((decide (97<=(c1.toNat:Int)))&&(decide ((c1.toNat:Int)<=122)))||(decide ((c1.toNat:Int)=95)))
theorem HU {c1:UInt8} {r_1:Bool} (hm:Dg c1=some r_1):Fn0 Tryz.prog 166 [.u8 c1] (.bool r_1):=by
 unfold Dg at hm;refine Ad Tryz.func166 rfl Tryz.ntmps166 rfl fun H0 fr w0=>?_;refine zq9 ?_
 apply CN [(0,_)] 3 8 (t:=5) ⟨rfl,trivial⟩ rfl
 ·intro hg_1 hk1
  refine zq3 ?_;exact zgm hk1
 ·intro hg_1 hk1
  refine zq3 ?_;exact zgm hk1
 refine zq1 ?_
 apply Cy [] 3 12 (t:=9) trivial rfl
 ·intro hg_2 hk2
  refine zq3 ?_;exact zgm hk2
 ·intro hg_2 hk2
  refine zq3 ?_;exact zgm hk2
 refine zq2 ?_
 cases hm;exact Ae zr1
def D1 (c1:UInt8):Option Bool:=
 some ((decide (65<=(c1.toNat:Int)))&&(decide ((c1.toNat:Int)<=90)))
theorem Ie {c1:UInt8} {r_1:Bool} (hm:D1 c1=some r_1):Fn0 Tryz.prog 168 [.u8 c1] (.bool r_1):=by
 unfold D1 at hm;refine Ad Tryz.func168 rfl Tryz.ntmps168 rfl fun H0 fr w0=>?_;refine zq9 ?_
 apply CN [] 3 8 (t:=5) trivial rfl
 ·intro hg_1 hk1
  refine zq3 ?_;exact zgm hk1
 ·intro hg_1 hk1
  refine zq3 ?_;exact zgm hk1
 refine zq2 ?_
 cases hm;exact Ae zr1
def G6 (c1:UInt8):Option Bool:=
 (Dg c1).bind fun x1 =>
 (bif x1 then (some true) else ((D1 c1).bind fun x2 =>
 some x2)).bind fun p1 =>
 some (p1||((decide (48<=(c1.toNat:Int)))&&(decide ((c1.toNat:Int)<=57))))
theorem PG {c1:UInt8} {r_1:Bool} (hm:G6 c1=some r_1):Fn0 Tryz.prog 184 [.u8 c1] (.bool r_1):=by
 unfold G6 at hm;refine Ad Tryz.func184 rfl Tryz.ntmps184 rfl fun H0 fr w0=>?_;refine zq7 ?_;obtain ⟨x1,hx1,hm⟩:=bS hm;refine zc0 (HU hx1) ?_;refine zq1 ?_;obtain ⟨p1,hp_1,hm⟩:=bS hm;refine AS [(0,_)] 3 8 p1 (t:=5) ⟨rfl,trivial⟩ rfl (fun hg_1 hk1=>?_) (fun hg_1 hk1=>?_) ?_
 ·replace hp_1:=AO hg_1 hp_1
  refine zq3 ?_;exact zgb hk1 hp_1
 ·replace hp_1:=AR hg_1 hp_1
  refine zq1 ?_;obtain ⟨x2,hx2,hp_1⟩:=bS hp_1;refine zcw (Ie hx2) ?_;refine zq1 ?_;exact zgb hk1 hp_1
 refine zq1 ?_
 apply Cy [] 7 16 (t:=9) trivial rfl
 ·intro hg_2 hk2
  refine zq3 ?_
  apply CN [(9,_)] 3 15 (t:=12) ⟨rfl,trivial⟩ rfl
  ·intro hg_3 hk3
   refine zq3 ?_;exact zgm hk3
  ·intro hg_3 hk3
   refine zq3 ?_;exact zgm hk3
  refine zq1 ?_;exact zgm hk2
 ·intro hg_2 hk2
  refine zq7 ?_;exact zgm hk2
 refine zq2 ?_
 cases hm;exact Ae zr1
def DN (s1:(List UInt8)):Nat->Int->Option Int
 | 0,_=>none
 | n+1,n2 =>
  (bif (decide (n2<(s1.length:Int))) then ((idx s1 n2).bind fun c3 =>
  (G6 c3).bind fun x3 =>
  some x3) else (some false)).bind fun p3 =>
  bif p3 then
   grd (InR (n2+1)) <|
   DN s1 n (n2+1)
  else
   some n2
def F6 (s1:(List UInt8)):Option Int:=
 (bif (decide ((s1:List UInt8)=([]:List UInt8))) then (some true) else ((idx s1 0).bind fun c1 =>
 (Dg c1).bind fun x1 =>
 (bif (!x1) then ((idx s1 0).bind fun c2 =>
 (D1 c2).bind fun x2 =>
 some (!x2)) else (some false)).bind fun p2 =>
 some p2)).bind fun p1 =>
 bif p1 then
  some 0
 else
  (DN s1 FU 1:Option Int).bind fun n1 =>
  some n1
theorem PR {s1:(List UInt8)} {r_1:Int} (hm:F6 s1=some r_1):Fn0 Tryz.prog 180 [.str s1] (.i64 r_1):=by
 unfold F6 at hm;refine Ad Tryz.func180 rfl Tryz.ntmps180 rfl fun H0 fr w0=>?_;refine zq10 ?_;obtain ⟨p1,hp_1,hm⟩:=bS hm;refine AS [(0,_)] 11 17 p1 (t:=6) ⟨rfl,trivial⟩ rfl (fun hg_1 hk1=>?_) (fun hg_1 hk1=>?_) ?_
 ·replace hp_1:=AO hg_1 hp_1
  refine zq11 ?_;exact zgb hk1 hp_1
 ·replace hp_1:=AR hg_1 hp_1
  refine zq1 ?_;obtain ⟨c1,hx1,hp_1⟩:=bS hp_1;refine gWp rfl rfl rfl hg_1 rfl rfl (Hy Tryz.runUnderlying9 rfl rfl hx1) ?_;obtain ⟨x1,hx2,hp_1⟩:=bS hp_1;refine zcw (HU hx2) ?_;refine zq2 ?_;obtain ⟨p2,hp_2,hp_1⟩:=bS hp_1;refine AS [(0,_),(6,_)] 5 16 p2 (t:=11) ⟨rfl,rfl,trivial⟩ rfl (fun hg_2 hk2=>?_) (fun hg_2 hk2=>?_) ?_
  ·replace hp_2:=AO hg_2 hp_2
   refine zq1 ?_;obtain ⟨c2,hx3,hp_2⟩:=bS hp_2;refine gWp rfl rfl rfl hg_2 rfl rfl (Hy Tryz.runUnderlying9 rfl rfl hx3) ?_;obtain ⟨x2,hx4,hp_2⟩:=bS hp_2;refine zcw (Ie hx4) ?_;refine zq2 ?_;exact zgb hk2 hp_2
  ·replace hp_2:=AR hg_2 hp_2
   refine zq5 ?_;exact zgb hk2 hp_2
  refine zq1 ?_;exact zgb hk1 hp_1
 refine gNl ?_;refine zcn hm (fun hc1 hm=>?_) (fun hc1 hm=>?_)
 ·refine zq4 ?_
  cases hm;exact Ae zr1
 ·refine zq6 ?_
  obtain ⟨o_1,hj1,hm1⟩:=bS hm;refine Af [] [] (fun (st:Int) (hid:Unit)=>match st,hid with | n1,_=>[(3,.i64 n1)]) (fun F (st:Int) (hid:Unit)=>match st,hid with | n1,_=>[]) (fun st=>st=o_1) trivial trivial ?_ ?_
  ·refine Am ?_
   refine Ag [(0,_)] [] (fun (st:Int) (hid:Unit)=>match st,hid with | n2,_=>[(3,.i64 n2)]) (fun F (st:Int) (hid:Unit)=>match st,hid with | n2,_=>[]) () hj1 (fun _=>rfl) ⟨rfl,trivial⟩ trivial ⟨rfl,trivial⟩ rfl ?_;rintro n n2 _ hj1;rw [DN] at hj1;refine Av (L':=[(3,.i64 n2),(0,_)]) (ms':=[]) rfl rfl ?_;refine zq5 ?_;refine Ai rfl rfl rfl (Kp Tryz.runUnderlying9 rfl) ?_;refine zq2 ?_;obtain ⟨p3,hp_3,hj1⟩:=bS hj1;refine AS [(0,_),(3,_)] 5 27 p3 (t:=22) ⟨rfl,rfl,trivial⟩ rfl (fun hg_3 hk3=>?_) (fun hg_3 hk3=>?_) ?_
   ·replace hp_3:=AO hg_3 hp_3
    refine zq2 ?_;obtain ⟨c3,hx5,hp_3⟩:=bS hp_3;refine gWp rfl rfl rfl hg_3 rfl rfl (Hy Tryz.runUnderlying9 rfl rfl hx5) ?_;obtain ⟨x3,hx6,hp_3⟩:=bS hp_3;refine zcw (PG hx6) ?_;refine zq1 ?_;exact zgb hk3 hp_3
   ·replace hp_3:=AR hg_3 hp_3
    refine zq5 ?_;exact zgb hk3 hp_3
   refine gNl ?_;refine zcn hj1 (fun hc2 hj1=>?_) (fun hc2 hj1=>?_)
   ·refine zq4 ?_
    obtain ⟨hg7,hj1⟩:=Aa hj1;refine zq3 ?_;exact ⟨_,(),hj1,⟨rfl,trivial⟩,⟨rfl,trivial⟩,[],rfl⟩
   ·refine Au ?_
    exact ⟨_,(),Ac hj1,⟨rfl,trivial⟩,trivial,[],rfl⟩
  ·rintro n1 _ hst
   subst hst;refine An (L':=[(3,.i64 n1)]) (ms':=[]) rfl rfl ?_;refine zq5 ?_
   cases hm1;exact Ae zr1
def ER (s1:(List UInt8)):Option Bool:=
 (bif ((!decide ((s1:List UInt8)=([]:List UInt8)))&&(decide ((s1.length:Int)<=20))) then ((F6 s1).bind fun x1 =>
 some (decide (x1=(s1.length:Int)))) else (some false)).bind fun p1 =>
 some p1
theorem JJ {s1:(List UInt8)} {r_1:Bool} (hm:ER s1=some r_1):Fn0 Tryz.prog 165 [.str s1] (.bool r_1):=by
 unfold ER at hm;refine Ad Tryz.func165 rfl Tryz.ntmps165 rfl fun H0 fr w0=>?_;refine zq9 ?_
 apply CN [(0,_)] 4 9 (t:=5) ⟨rfl,trivial⟩ rfl
 ·intro hg_1 hk1
  refine zq1 ?_;refine gWp rfl rfl rfl hg_1 rfl rfl (Kp Tryz.runUnderlying9 rfl) ?_;refine zq2 ?_;exact zgm hk1
 ·intro hg_1 hk1
  refine zq4 ?_;exact zgm hk1
 refine zq1 ?_;obtain ⟨p1,hp_2,hm⟩:=bS hm;refine AS [] 6 16 p1 (t:=10) trivial rfl (fun hg_2 hk2=>?_) (fun hg_2 hk2=>?_) ?_
 ·replace hp_2:=AO hg_2 hp_2
  refine zq1 ?_;obtain ⟨x1,hx1,hp_2⟩:=bS hp_2;refine zcw (PR hx1) ?_;refine zq1 ?_;refine gWp rfl rfl rfl hg_2 rfl rfl (Kp Tryz.runUnderlying9 rfl) ?_;refine zq2 ?_;exact zgb hk2 hp_2
 ·replace hp_2:=AR hg_2 hp_2
  refine zq6 ?_;exact zgb hk2 hp_2
 refine zq2 ?_
 cases hm;exact Ae zr1
def Hh (s1:(List (List UInt8))) (v1:(List UInt8)):Nat->Int->Option (Out Int Unit)
 | 0,_=>none
 | n+1,x1 =>
  bif (decide (x1<(s1.length:Int))) then
   (idx s1 x1).bind fun x2 =>
   bif (decide ((v1:List UInt8)=x2)) then
    some (Out.ret x1)
   else
    grd (InR (x1+1)) <|
    Hh s1 v1 n (x1+1)
  else
   some (Out.go (()))
def Rq (s1:(List (List UInt8))) (v1:(List UInt8)):Option Int:=
 ((Hh s1 v1 FU 0:Option (Out Int Unit))).bind (fun oo=>oo.on (fun r1=>some r1) (fun _ =>
 some (-1)))
theorem XD {s1:(List (List UInt8))} {v1:(List UInt8)} {r_1:Int} (hm:Rq s1 v1=some r_1):Fn0 Tryz.prog 185 [.list 1 D.str s1,.str v1] (.i64 r_1):=by
 unfold Rq at hm;refine Ad Tryz.func185 rfl Tryz.ntmps185 rfl fun H0 fr w0=>?_;refine zq11 ?_;obtain ⟨o_1,hj1,hm1⟩:=bS hm;refine Af [] [] (fun (st:Unit) (hid:Unit)=>match st,hid with | _,_=>[]) (fun F (st:Unit) (hid:Unit)=>match st,hid with | _,_=>[]) (fun st=>Out.go (st)=o_1) trivial trivial ?_ ?_
 ·refine Am ?_
  refine Ag [(0,_),(1,_),(7,_)] [] (fun (st:Int) (hid:Unit)=>match st,hid with | x1,_=>[(8,.i64 x1)]) (fun F (st:Int) (hid:Unit)=>match st,hid with | x1,_=>[]) () hj1 (fun _=>rfl) ⟨rfl,rfl,rfl,trivial⟩ trivial ⟨rfl,trivial⟩ rfl ?_;rintro n x1 _ hj1;rw [Hh] at hj1;refine Av (L':=[(8,.i64 x1),(0,_),(1,_),(7,_)]) (ms':=[]) rfl rfl ?_;refine zq5 ?_;refine zcn hj1 (fun hc1 hj1=>?_) (fun hc1 hj1=>?_)
  ·refine zq13 ?_
   obtain ⟨x2,hx1,hj1⟩:=bS hj1;refine zq4 ?_;refine zcn hj1 (fun hc2 hj1=>?_) (fun hc2 hj1=>?_)
   ·refine zq5 ?_
    refine Ae ?_;obtain rfl:=Ac hj1
    replace hm1:=BP hm1
    cases hm1;exact zr1
   ·refine zq2 ?_
    obtain ⟨hg2,hj1⟩:=Aa hj1;refine zq3 ?_;exact ⟨_,(),hj1,⟨rfl,trivial⟩,⟨rfl,rfl,rfl,trivial⟩,[],rfl⟩
  ·refine Au ?_
   exact ⟨_,(),Ac hj1,trivial,trivial,[],rfl⟩
 ·rintro _ _ hst
  subst hst
  replace hm1:=Dm hm1
  refine An (L':=[]) (ms':=[]) rfl rfl ?_;refine zq4 ?_
  cases hm1;exact Ae zr1
def PU (s1:(List (List UInt8))) (v1:(List UInt8)):Option Bool:=
 (Rq s1 v1).bind fun x1 =>
 some (decide (0<=x1))
theorem Xm {s1:(List (List UInt8))} {v1:(List UInt8)} {r_1:Bool} (hm:PU s1 v1=some r_1):Fn0 Tryz.prog 181 [.list 1 D.str s1,.str v1] (.bool r_1):=by
 unfold PU at hm;refine Ad Tryz.func181 rfl Tryz.ntmps181 rfl fun H0 fr w0=>?_;refine zq8 ?_;obtain ⟨x1,hx1,hm⟩:=bS hm;refine zc0 (XD hx1) ?_;refine zq3 ?_
 cases hm;exact Ae zr1
def Ec  : Option (List (List UInt8)):=
 some [([102,117,110]:List UInt8),([108,101,116]:List UInt8),([114,101,99]:List UInt8),([105,110]:List UInt8),([105,102]:List UInt8),([116,104,101,110]:List UInt8),([101,108,115,101]:List UInt8),([99,97,115,101]:List UInt8),([111,102]:List UInt8),([101,110,100]:List UInt8),([116,114,117,101]:List UInt8),([102,97,108,115,101]:List UInt8),([99,104,101,99,107]:List UInt8),([97,115,107]:List UInt8),([116,111,112]:List UInt8),([98,111,116]:List UInt8),([105,110,116]:List UInt8),([98,111,111,108]:List UInt8),([115,116,114,105,110,103]:List UInt8),([109,117]:List UInt8)]
theorem Lh  {r_1:(List (List UInt8))} (hm:Ec=some r_1):Fn0 Tryz.prog 182 [] (.list 1 D.str r_1):=by
 unfold Ec at hm;refine Ad Tryz.func182 rfl Tryz.ntmps182 rfl fun H0 fr w0=>?_;refine zq3 ?_;refine Aq (nilE (i:=0) (sz:=1) (f:=D.str) rfl).refines ?_;refine zq3 ?_;refine Ai rfl rfl rfl (Ao (xs:=[_,_,_,_,_,_,_,_,_,_,_,_,_,_,_,_,_,_,_,_]) (f:=D.str) (l:=[_,_,_,_,_,_,_,_,_,_,_,_,_,_,_,_,_,_,_,_]) Tryz.runUnderlying174 Tryz.sizeOf9 Tryz.zeroValue9 rfl rfl rfl (fun _=>⟨rfl,rfl,rfl⟩) rfl) ?_;refine zq2 ?_
 cases hm;exact Ae zr1
def FE (s1:(List UInt8)):Option Bool:=
 (Ec).bind fun x1 =>
 (PU x1 s1).bind fun x2 =>
 some x2
theorem Mv {s1:(List UInt8)} {r_1:Bool} (hm:FE s1=some r_1):Fn0 Tryz.prog 167 [.str s1] (.bool r_1):=by
 unfold FE at hm;refine Ad Tryz.func167 rfl Tryz.ntmps167 rfl fun H0 fr w0=>?_;refine zq6 ?_;obtain ⟨x1,hx1,hm⟩:=bS hm;refine zc0 (Lh hx1) ?_;refine zq1 ?_;obtain ⟨x2,hx2,hm⟩:=bS hm;refine zc0 (Xm hx2) ?_;refine zq2 ?_
 cases hm;exact Ae zr1
def Eu (s1:(List UInt8)):Option Bool:=
 (ER s1).bind fun x1 =>
 (bif x1 then ((idx s1 0).bind fun c1 =>
 (Dg c1).bind fun x2 =>
 some x2) else (some false)).bind fun p1 =>
 (bif p1 then ((FE s1).bind fun x3 =>
 some (!x3)) else (some false)).bind fun p2 =>
 some p2
theorem K9 {s1:(List UInt8)} {r_1:Bool} (hm:Eu s1=some r_1):Fn0 Tryz.prog 135 [.str s1] (.bool r_1):=by
 unfold Eu at hm;refine Ad Tryz.func135 rfl Tryz.ntmps135 rfl fun H0 fr w0=>?_;refine zq7 ?_;obtain ⟨x1,hx1,hm⟩:=bS hm;refine zc0 (JJ hx1) ?_;refine zq1 ?_;obtain ⟨p1,hp_1,hm⟩:=bS hm;refine AS [(0,_)] 4 9 p1 (t:=5) ⟨rfl,trivial⟩ rfl (fun hg_1 hk1=>?_) (fun hg_1 hk1=>?_) ?_
 ·replace hp_1:=AO hg_1 hp_1
  refine zq1 ?_;obtain ⟨c1,hx2,hp_1⟩:=bS hp_1;refine gWp rfl rfl rfl hg_1 rfl rfl (Hy Tryz.runUnderlying9 rfl rfl hx2) ?_;obtain ⟨x2,hx3,hp_1⟩:=bS hp_1;refine zcw (HU hx3) ?_;refine zq1 ?_;exact zgb hk1 hp_1
 ·replace hp_1:=AR hg_1 hp_1
  refine zq4 ?_;exact zgb hk1 hp_1
 refine zq1 ?_;obtain ⟨p2,hp_2,hm⟩:=bS hm;refine AS [] 4 14 p2 (t:=10) trivial rfl (fun hg_2 hk2=>?_) (fun hg_2 hk2=>?_) ?_
 ·replace hp_2:=AO hg_2 hp_2
  refine zq1 ?_;obtain ⟨x3,hx4,hp_2⟩:=bS hp_2;refine zcw (Mv hx4) ?_;refine zq2 ?_;exact zgb hk2 hp_2
 ·replace hp_2:=AR hg_2 hp_2
  refine zq4 ?_;exact zgb hk2 hp_2
 refine zq2 ?_
 cases hm;exact Ae zr1
def E6 (s1:(List UInt8)):Option Bool:=
 (ER s1).bind fun x1 =>
 (bif x1 then ((idx s1 0).bind fun c1 =>
 (D1 c1).bind fun x2 =>
 some x2) else (some false)).bind fun p1 =>
 some p1
theorem LS {s1:(List UInt8)} {r_1:Bool} (hm:E6 s1=some r_1):Fn0 Tryz.prog 136 [.str s1] (.bool r_1):=by
 unfold E6 at hm;refine Ad Tryz.func136 rfl Tryz.ntmps136 rfl fun H0 fr w0=>?_;refine zq7 ?_;obtain ⟨x1,hx1,hm⟩:=bS hm;refine zc0 (JJ hx1) ?_;refine zq1 ?_;obtain ⟨p1,hp_1,hm⟩:=bS hm;refine AS [] 4 9 p1 (t:=5) trivial rfl (fun hg_1 hk1=>?_) (fun hg_1 hk1=>?_) ?_
 ·replace hp_1:=AO hg_1 hp_1
  refine zq1 ?_;obtain ⟨c1,hx2,hp_1⟩:=bS hp_1;refine gWp rfl rfl rfl hg_1 rfl rfl (Hy Tryz.runUnderlying9 rfl rfl hx2) ?_;obtain ⟨x2,hx3,hp_1⟩:=bS hp_1;refine zcw (Ie hx3) ?_;refine zq1 ?_;exact zgb hk1 hp_1
 ·replace hp_1:=AR hg_1 hp_1
  refine zq4 ?_;exact zgb hk1 hp_1
 refine zq2 ?_
 cases hm;exact Ae zr1
def Cv (n1:ANd):Nat->Int->Option (Out Bool Unit)
 | 0,_=>none
 | n+1,x1 =>
  bif (decide (x1<(n1.l.length:Int))) then
   (idx n1.l x1).bind fun x2 =>
   (bif (decide (n1.kind=7)) then ((Eu x2.name).bind fun x3 =>
   some (!x3)) else (some false)).bind fun p1 =>
   (bif p1 then (some true) else ((bif (decide (n1.kind=8)) then ((E6 x2.name).bind fun x4 =>
   some (!x4)) else (some false)).bind fun p3 =>
   some p3)).bind fun p2 =>
   bif p2 then
    some (Out.ret false)
   else
    bif (decide (0<x1)) then (grd (InR (x1 - 1)) <|
    (idx n1.l (x1 - 1)).bind fun x5 =>
    bif (!Op.bytesLess x5.name x2.name) then
     some (Out.ret false)
    else
     grd (InR (x1+1)) <|
     Cv n1 n (x1+1)) else (grd (InR (x1+1)) <|
    Cv n1 n (x1+1))
  else
   some (Out.go (()))
def EX (n1:ANd):Option Bool:=
 ((Cv n1 FU 0:Option (Out Bool Unit))).bind (fun oo=>oo.on (fun r1=>some r1) (fun _ =>
 some (decide ((n1.l.length:Int)<=30))))
theorem MZ {n1:ANd} {r_1:Bool} (hm:EX n1=some r_1):Fn0 Tryz.prog 116 [ANd.d n1] (.bool r_1):=by
 unfold EX at hm;refine Ad Tryz.func116 rfl Tryz.ntmps116 rfl fun H0 fr w0=>?_;refine zq13 ?_;obtain ⟨o_1,hj1,hm1⟩:=bS hm;refine Af [(1,_)] [] (fun (st:Unit) (hid:Unit)=>match st,hid with | _,_=>[]) (fun F (st:Unit) (hid:Unit)=>match st,hid with | _,_=>[]) (fun st=>Out.go (st)=o_1) ⟨rfl,trivial⟩ trivial ?_ ?_
 ·refine Am ?_
  refine Ag [(1,_),(6,_),(7,_)] [] (fun (st:Int) (hid:Unit)=>match st,hid with | x1,_=>[(8,.i64 x1)]) (fun F (st:Int) (hid:Unit)=>match st,hid with | x1,_=>[]) () hj1 (fun _=>rfl) ⟨rfl,rfl,rfl,trivial⟩ trivial ⟨rfl,trivial⟩ rfl ?_;rintro n x1 _ hj1;rw [Cv] at hj1;refine Av (L':=[(8,.i64 x1),(1,_),(6,_),(7,_)]) (ms':=[]) rfl rfl ?_;refine zq5 ?_;refine zcn hj1 (fun hc1 hj1=>?_) (fun hc1 hj1=>?_)
  ·refine zq6 ?_
   obtain ⟨x2,hx1,hj1⟩:=bS hj1;refine zq2 ?_;refine TF fun b1=>?_;refine zq1 ?_;refine zst 0 ?_;refine Ah (ms':=[box b1 71 [_,_]]) rfl ?_;refine zq8 ?_;obtain ⟨p1,hp_1,hj1⟩:=bS hj1;refine AS [(1,_),(3,_),(4,_),(6,_),(7,_),(8,_)] 5 21 p1 (t:=16) ⟨rfl,rfl,rfl,rfl,rfl,rfl,trivial⟩ rfl (fun hg_1 hk1=>?_) (fun hg_1 hk1=>?_) ?_
   ·replace hp_1:=AO hg_1 hp_1
    refine zq2 ?_;obtain ⟨x3,hx2,hp_1⟩:=bS hp_1;refine zcw (K9 hx2) ?_;refine zq2 ?_;exact zgb hk1 hp_1
   ·replace hp_1:=AR hg_1 hp_1
    refine zq5 ?_;exact zgb hk1 hp_1
   refine zq1 ?_;obtain ⟨p2,hp_2,hj1⟩:=bS hj1;refine AS [(1,_),(3,_),(4,_),(6,_),(7,_),(8,_)] 10 32 p2 (t:=22) ⟨rfl,rfl,rfl,rfl,rfl,rfl,trivial⟩ rfl (fun hg_2 hk2=>?_) (fun hg_2 hk2=>?_) ?_
   ·replace hp_2:=AO hg_2 hp_2
    refine zq10 ?_;exact zgb hk2 hp_2
   ·replace hp_2:=AR hg_2 hp_2
    refine zq4 ?_;obtain ⟨p3,hp_3,hp_2⟩:=bS hp_2;refine AS [(1,_),(3,_),(4,_),(6,_),(7,_),(8,_),(22,_)] 5 31 p3 (t:=26) ⟨rfl,rfl,rfl,rfl,rfl,rfl,rfl,trivial⟩ rfl (fun hg_3 hk3=>?_) (fun hg_3 hk3=>?_) ?_
    ·replace hp_3:=AO hg_3 hp_3
     refine zq2 ?_;obtain ⟨x4,hx3,hp_3⟩:=bS hp_3;refine zcw (LS hx3) ?_;refine zq2 ?_;exact zgb hk3 hp_3
    ·replace hp_3:=AR hg_3 hp_3
     refine zq5 ?_;exact zgb hk3 hp_3
    refine zq1 ?_;exact zgb hk2 hp_2
   refine gNl ?_;refine zcn hj1 (fun hc2 hj1=>?_) (fun hc2 hj1=>?_)
   ·refine zq4 ?_
    refine Ae ?_;obtain rfl:=Ac hj1
    replace hm1:=BP hm1
    cases hm1;exact zr1
   ·refine zq2 ?_
    rcases Dp hj1 with ⟨hg_4,hj1⟩ | ⟨hg_4,hj1⟩
    ·
     skip
     obtain ⟨hg4,hj1⟩:=Aa hj1;obtain ⟨x5,hx5,hj1⟩:=bS hj1;refine zdr 14 ?_;refine zq16 ?_;refine zcn hj1 (fun hc3 hj1=>?_) (fun hc3 hj1=>?_)
     ·refine zq4 ?_
      refine Ae ?_;obtain rfl:=Ac hj1
      replace hm1:=BP hm1
      cases hm1;exact zr1
     ·refine zq2 ?_
      obtain ⟨hg6,hj1⟩:=Aa hj1;refine zq3 ?_;exact ⟨_,(),hj1,⟨rfl,trivial⟩,⟨rfl,rfl,rfl,trivial⟩,[_],rfl⟩
    ·
     skip
     refine zdr 14 ?_;refine zq16 ?_;refine Dn rfl rfl ?_;refine zq2 ?_;obtain ⟨hg7,hj1⟩:=Aa hj1;refine zq3 ?_;exact ⟨_,(),hj1,⟨rfl,trivial⟩,⟨rfl,rfl,rfl,trivial⟩,[_],rfl⟩
  ·refine Au ?_
   exact ⟨_,(),Ac hj1,trivial,⟨rfl,trivial⟩,[],rfl⟩
 ·rintro _ _ hst
  subst hst
  replace hm1:=Dm hm1
  refine An (L':=[(1,_)]) (ms':=[]) rfl rfl ?_;refine zq8 ?_
  cases hm1;exact Ae zr1
def Fm (s1:(List Int)) (f1:(Int->Option Bool)):Nat->Int->Option (Out Int Unit)
 | 0,_=>none
 | n+1,x1 =>
  bif (decide (x1<(s1.length:Int))) then
   (idx s1 x1).bind fun x2 =>
   (f1 x2).bind fun x3 =>
   bif x3 then
    some (Out.ret x1)
   else
    grd (InR (x1+1)) <|
    Fm s1 f1 n (x1+1)
  else
   some (Out.go (()))
def PX (s1:(List Int)) (f1:(Int->Option Bool)):Option Int:=
 ((Fm s1 f1 FU 0:Option (Out Int Unit))).bind (fun oo=>oo.on (fun r1=>some r1) (fun _ =>
 some (-1)))
theorem Xv {s1:(List Int)} {f1:(Int->Option Bool)} {r_1:Int} {fv_f1:D} (hff1:Ji Tryz.prog fv_f1 D.i64 D.bool f1) (hm:PX s1 f1=some r_1):Fn0 Tryz.prog 92 [.list 1 D.i64 s1,fv_f1] (.i64 r_1):=by
 unfold PX at hm;refine Ad Tryz.func92 rfl Tryz.ntmps92 rfl fun H0 fr w0=>?_;refine zq11 ?_;obtain ⟨o_1,hj1,hm1⟩:=bS hm;refine Af [] [] (fun (st:Unit) (hid:Unit)=>match st,hid with | _,_=>[]) (fun F (st:Unit) (hid:Unit)=>match st,hid with | _,_=>[]) (fun st=>Out.go (st)=o_1) trivial trivial ?_ ?_
 ·refine Am ?_
  refine Ag [(0,_),(1,_),(7,_)] [] (fun (st:Int) (hid:Unit)=>match st,hid with | x1,_=>[(8,.i64 x1)]) (fun F (st:Int) (hid:Unit)=>match st,hid with | x1,_=>[]) () hj1 (fun _=>rfl) ⟨rfl,rfl,rfl,trivial⟩ trivial ⟨rfl,trivial⟩ rfl ?_;rintro n x1 _ hj1;rw [Fm] at hj1;refine Av (L':=[(8,.i64 x1),(0,_),(1,_),(7,_)]) (ms':=[]) rfl rfl ?_;refine zq5 ?_;refine zcn hj1 (fun hc1 hj1=>?_) (fun hc1 hj1=>?_)
  ·refine zq13 ?_
   obtain ⟨x2,hx1,hj1⟩:=bS hj1;refine zq2 ?_;obtain ⟨x3,hx2,hj1⟩:=bS hj1;refine Ai rfl rfl rfl (EY rfl rfl (hff1 _ _ hx2)) ?_;refine gNl ?_;refine zcn hj1 (fun hc2 hj1=>?_) (fun hc2 hj1=>?_)
   ·refine zq5 ?_
    refine Ae ?_;obtain rfl:=Ac hj1
    replace hm1:=BP hm1
    cases hm1;exact zr1
   ·refine zq2 ?_
    obtain ⟨hg3,hj1⟩:=Aa hj1;refine zq3 ?_;exact ⟨_,(),hj1,⟨rfl,trivial⟩,⟨rfl,rfl,rfl,trivial⟩,[],rfl⟩
  ·refine Au ?_
   exact ⟨_,(),Ac hj1,trivial,trivial,[],rfl⟩
 ·rintro _ _ hst
  subst hst
  replace hm1:=Dm hm1
  refine An (L':=[]) (ms':=[]) rfl rfl ?_;refine zq4 ?_
  cases hm1;exact Ae zr1
def JW (s1:(List Int)) (f1:(Int->Option Bool)):Option Bool:=
 (PX s1 f1).bind fun x1 =>
 some (decide (0<=x1))
theorem Wx {s1:(List Int)} {f1:(Int->Option Bool)} {r_1:Bool} {fv_f1:D} (hff1:Ji Tryz.prog fv_f1 D.i64 D.bool f1) (hm:JW s1 f1=some r_1):Fn0 Tryz.prog 117 [.list 1 D.i64 s1,fv_f1] (.bool r_1):=by
 unfold JW at hm;refine Ad Tryz.func117 rfl Tryz.ntmps117 rfl fun H0 fr w0=>?_;refine zq8 ?_;obtain ⟨x1,hx1,hm⟩:=bS hm;refine zc0 (Xv hff1 hx1) ?_;refine zq3 ?_
 cases hm;exact Ae zr1
def C8 (n1:ANd):Nat->(Int×(List Int))->Option (List Int)
 | 0,_=>none
 | n+1,(x3,l2) =>
  bif (decide (x3<(n1.l.length:Int))) then
   (idx n1.l x3).bind fun x4 =>
   grd ((l2.length+([x4.at_]:List _).length)*8<=140737488355328) <|
   grd (InR (x3+1)) <|
   C8 n1 n ((x3+1),(l2++[x4.at_]))
  else
   some l2
def D7 (n1:ANd):Option (List Int):=
 (EG n1.kind).bind fun x1 =>
 bif x1 then
  some [n1.a,n1.b]
 else
  (EN n1.kind).bind fun x2 =>
  bif x2 then
   (C8 n1 FU (0,[]):Option (List Int)).bind fun l1 =>
   some l1
  else
   some []
theorem HM {n1:ANd} {r_1:(List Int)} (hm:D7 n1=some r_1):Fn0 Tryz.prog 118 [ANd.d n1] (.list 1 D.i64 r_1):=by
 unfold D7 at hm;refine Ad Tryz.func118 rfl Tryz.ntmps118 rfl fun H0 fr w0=>?_;refine zq4 ?_;refine Aq (nilE (i:=2) (sz:=1) (f:=D.i64) rfl).refines ?_;refine zq6 ?_;obtain ⟨x1,hx1,hm⟩:=bS hm;refine zc0 (JL hx1) ?_;refine gNl ?_;refine zcn hm (fun hc1 hm=>?_) (fun hc1 hm=>?_)
 ·refine zq6 ?_
  refine Ai rfl rfl rfl (zs2 D.i64) ?_;refine zq2 ?_
  cases hm;exact Ae zr1
 ·refine zq4 ?_
  refine Aq (AG (T:=3) (sz:=1) (f:=D.i64)) ?_;refine zq6 ?_;obtain ⟨x2,hx2,hm⟩:=bS hm;refine zc0 (J8 hx2) ?_;refine gNl ?_;refine zcn hm (fun hc2 hm=>?_) (fun hc2 hm=>?_)
  ·refine zq7 ?_
   obtain ⟨o_1,hj1,hm1⟩:=bS hm;refine Af [] [] (fun (st:(List Int)) (hid:(Option Addr×Nat))=>match st,hid with | l1,(a_r1,cap_r1)=>[(3,.v (.slice a_r1 l1.length cap_r1))]) (fun F (st:(List Int)) (hid:(Option Addr×Nat))=>match st,hid with | l1,(a_r1,cap_r1)=>[row a_r1 cap_r1 3 1 D.i64 l1]) (fun st=>st=o_1) trivial trivial ?_ ?_
   ·refine Am ?_
    refine Ag [(18,_),(19,_)] [] (fun (st:(Int×(List Int))) (hid:(Option Addr×Nat))=>match st,hid with | (x3,l2),(a_r1,cap_r1)=>[(3,.v (.slice a_r1 l2.length cap_r1)),(20,.i64 x3)]) (fun F (st:(Int×(List Int))) (hid:(Option Addr×Nat))=>match st,hid with | (x3,l2),(a_r1,cap_r1)=>[row a_r1 cap_r1 3 1 D.i64 l2]) (_,_) hj1 (fun _=>rfl) ⟨rfl,rfl,trivial⟩ trivial ⟨rfl,rfl,trivial⟩ rfl ?_;rintro n ⟨x3,l2⟩ ⟨a_r1,cap_r1⟩ hj1;rw [C8] at hj1;refine Av (L':=[(3,.v (.slice a_r1 l2.length cap_r1)),(20,.i64 x3),(18,_),(19,_)]) (ms':=[row a_r1 cap_r1 3 1 D.i64 l2]) rfl rfl ?_;refine zq5 ?_;refine zcn hj1 (fun hc3 hj1=>?_) (fun hc3 hj1=>?_)
    ·refine zq5 ?_
     obtain ⟨x4,hx3,hj1⟩:=bS hj1;refine zq2 ?_;refine TF fun b1=>?_;refine zst 0 ?_;refine Ah (ms':=[box b1 71 [_,_],_]) rfl ?_;refine zq5 ?_;refine Ai rfl rfl rfl (zs1 D.i64) ?_;obtain ⟨hg4,hj1⟩:=Aa hj1;refine zap 1 hg4 fun a_r1 cap_r1=>?_;refine Ah (ms':=[box b1 71 [_,_],_]) rfl ?_;refine zq3 ?_;obtain ⟨hg5,hj1⟩:=Aa hj1;refine zq3 ?_;exact ⟨_,(_,_),hj1,⟨rfl,rfl,trivial⟩,⟨rfl,rfl,trivial⟩,[_],rfl⟩
    ·refine Au ?_
     exact ⟨_,(_,_),Ac hj1,⟨rfl,trivial⟩,trivial,[],rfl⟩
   ·rintro l1 ⟨a_r1,cap_r1⟩ hst
    subst hst;refine An (L':=[(3,.v (.slice a_r1 l1.length cap_r1))]) (ms':=[row a_r1 cap_r1 3 1 D.i64 l1]) rfl rfl ?_;refine zq5 ?_;refine CW (peekE (i:=2) 0 rfl rfl rfl).refines ?_
    cases hm1;exact Ae zr1
  ·refine zq6 ?_
   refine CW (peekE (i:=2) 0 rfl rfl rfl).refines ?_
   cases hm;exact Ae zr1
def C7 (k1:Int) (c1:Int):Option Bool:=
 some ((decide (k1<0))||(decide (c1<=k1)))
theorem Ll {k1:Int} {c1:Int} {r_1:Bool} (hm:C7 k1 c1=some r_1):Fn0 Tryz.prog 119 [.i64 k1,.ref (.i64 c1)] (.bool r_1):=by
 unfold C7 at hm;refine Ad Tryz.func119 rfl Tryz.ntmps119 rfl fun H0 fr w0=>?_;refine zq9 ?_
 apply Cy [] 4 10 (t:=6) trivial rfl
 ·intro hg_1 hk1
  refine zq4 ?_;exact zgm hk1
 ·intro hg_1 hk1
  refine zq4 ?_;exact zgm hk1
 refine zq2 ?_
 cases hm;exact Ae zr1
def EZ (n1:ANd) (all1:Int):Option Bool:=
 bif ((decide (n1.kind<1))||(decide (11<n1.kind))) then
  some false
 else
  (EG n1.kind).bind fun x1 =>
  bif ((!x1)&&((!decide (n1.b=0))||((!decide (n1.kind=11))&&(!decide (n1.a=0))))) then
   some false
  else
   bif ((decide (n1.kind=11))&&((decide (n1.a<0))||(decide (999<n1.a)))) then
    some false
   else
    (EN n1.kind).bind fun x2 =>
    (bif ((!x2)&&(decide (0<(n1.l.length:Int)))) then (some true) else ((EX n1).bind fun x3 =>
    some (!x3))).bind fun p1 =>
    bif p1 then
     some false
    else
     (D7 n1).bind fun x4 =>
     (JW x4 (fun y0=>C7 y0 all1)).bind fun x5 =>
     some (!x5)
theorem MW {n1:ANd} {all1:Int} {r_1:Bool} (hm:EZ n1 all1=some r_1):Fn0 Tryz.prog 83 [ANd.d n1,.i64 all1] (.bool r_1):=by
 unfold EZ at hm;refine Ad Tryz.func83 rfl Tryz.ntmps83 rfl fun H0 fr w0=>?_;refine zq14 ?_
 apply Cy [(2,_),(3,_)] 4 13 (t:=9) ⟨rfl,rfl,trivial⟩ rfl
 ·intro hg_1 hk1
  refine zq4 ?_;exact zgm hk1
 ·intro hg_1 hk1
  refine zq4 ?_;exact zgm hk1
 refine zq2 ?_;refine zcn hm (fun hc1 hm=>?_) (fun hc1 hm=>?_)
 ·refine zq4 ?_
  cases hm;exact Ae zr1
 ·refine zq4 ?_
  obtain ⟨x1,hx1,hm⟩:=bS hm;refine zc0 (JL hx1) ?_;refine zq2 ?_
  apply CN [(2,_),(3,_)] 14 33 (t:=19) ⟨rfl,rfl,trivial⟩ rfl
  ·intro hg_2 hk2
   refine zq4 ?_
   apply Cy [(2,_),(3,_),(19,_)] 9 32 (t:=23) ⟨rfl,rfl,rfl,trivial⟩ rfl
   ·intro hg_3 hk3
    refine zq4 ?_
    apply CN [(2,_),(3,_),(19,_),(23,_)] 4 31 (t:=27) ⟨rfl,rfl,rfl,rfl,trivial⟩ rfl
    ·intro hg_4 hk4
     refine zq4 ?_;exact zgm hk4
    ·intro hg_4 hk4
     refine zq4 ?_;exact zgm hk4
    refine zq1 ?_;exact zgm hk3
   ·intro hg_3 hk3
    refine zq9 ?_;exact zgm hk3
   refine zq1 ?_;exact zgm hk2
  ·intro hg_2 hk2
   refine zq14 ?_;exact zgm hk2
  refine zq2 ?_;refine zcn hm (fun hc2 hm=>?_) (fun hc2 hm=>?_)
  ·refine zq4 ?_
   cases hm;exact Ae zr1
  ·refine zq6 ?_
   apply CN [(2,_),(3,_)] 9 47 (t:=38) ⟨rfl,rfl,trivial⟩ rfl
   ·intro hg_5 hk5
    refine zq4 ?_
    apply Cy [(2,_),(3,_),(38,_)] 4 46 (t:=42) ⟨rfl,rfl,rfl,trivial⟩ rfl
    ·intro hg_6 hk6
     refine zq4 ?_;exact zgm hk6
    ·intro hg_6 hk6
     refine zq4 ?_;exact zgm hk6
    refine zq1 ?_;exact zgm hk5
   ·intro hg_5 hk5
    refine zq9 ?_;exact zgm hk5
   refine zq2 ?_;refine zcn hm (fun hc3 hm=>?_) (fun hc3 hm=>?_)
   ·refine zq4 ?_
    cases hm;exact Ae zr1
   ·refine zq4 ?_
    obtain ⟨x2,hx2,hm⟩:=bS hm;refine zc0 (J8 hx2) ?_;refine zq2 ?_
    apply CN [(2,_),(3,_)] 5 58 (t:=53) ⟨rfl,rfl,trivial⟩ rfl
    ·intro hg_7 hk7
     refine zq5 ?_;exact zgm hk7
    ·intro hg_7 hk7
     refine zq5 ?_;exact zgm hk7
    refine zq1 ?_;obtain ⟨p1,hp_8,hm⟩:=bS hm;refine AS [(2,_),(3,_)] 4 63 p1 (t:=59) ⟨rfl,rfl,trivial⟩ rfl (fun hg_8 hk8=>?_) (fun hg_8 hk8=>?_) ?_
    ·replace hp_8:=AO hg_8 hp_8
     refine zq4 ?_;exact zgb hk8 hp_8
    ·replace hp_8:=AR hg_8 hp_8
     refine zq1 ?_;obtain ⟨x3,hx3,hp_8⟩:=bS hp_8;refine zcw (MZ hx3) ?_;refine zq2 ?_;exact zgb hk8 hp_8
    refine zq2 ?_;refine zcn hm (fun hc4 hm=>?_) (fun hc4 hm=>?_)
    ·refine zq4 ?_
     cases hm;exact Ae zr1
    ·refine zq4 ?_
     obtain ⟨x4,hx4,hm⟩:=bS hm;refine zc0 (HM hx4) ?_;refine Ai rfl rfl rfl (Cw rfl rfl) ?_;obtain ⟨x5,hx5,hm⟩:=bS hm;refine Ai rfl rfl rfl (BE Tryz.call117 rfl (Wx (fun _ _ h=>Hf Tryz.call119 (Ll h)) hx5)) ?_;refine zq3 ?_
     cases hm;exact Ae zr1
def Du (n1:ANd) (c1:ATy):Option Bool:=
 (EZ n1 (c1.l.length:Int)).bind fun x1 =>
 some (!x1)
theorem MV {n1:ANd} {c1:ATy} {r_1:Bool} (hm:Du n1 c1=some r_1):Fn0 Tryz.prog 82 [ANd.d n1,.ref (ATy.d c1)] (.bool r_1):=by
 unfold Du at hm;refine Ad Tryz.func82 rfl Tryz.ntmps82 rfl fun H0 fr w0=>?_;refine zq11 ?_;obtain ⟨x1,hx1,hm⟩:=bS hm;refine zc0 (MW hx1) ?_;refine zq3 ?_
 cases hm;exact Ae zr1
def E0 (kind1:Int):Option Bool:=
 some ((decide (kind1=9))||(decide (kind1=10)))
theorem Li {kind1:Int} {r_1:Bool} (hm:E0 kind1=some r_1):Fn0 Tryz.prog 121 [.i64 kind1] (.bool r_1):=by
 unfold E0 at hm;refine Ad Tryz.func121 rfl Tryz.ntmps121 rfl fun H0 fr w0=>?_;refine zq9 ?_
 apply Cy [] 3 8 (t:=5) trivial rfl
 ·intro hg_1 hk1
  refine zq3 ?_;exact zgm hk1
 ·intro hg_1 hk1
  refine zq3 ?_;exact zgm hk1
 refine zq2 ?_
 cases hm;exact Ae zr1
def BG (self:Int->(List Int)->Option (Bool×(List Int))) (x7:(List Int)):Nat->(Int×(List Int))->Option (Out (Bool×(List Int)) (List Int))
 | 0,_=>none
 | n+1,(x8,l2) =>
  bif (decide (x8<(x7.length:Int))) then
   (idx x7 x8).bind fun x9 =>
   (self x9 l2).bind fun (x10,z2) =>
   bif (!x10) then
    some (Out.ret (false,z2))
   else
    grd (InR (x8+1)) <|
    BG self x7 n ((x8+1),z2)
  else
   some (Out.go (l2))
def Ck (self:Int->(List Int)->Option (Bool×(List Int))) (i1:Int) (z1:(List Int)) (c1:ATy):Option (Bool×(List Int)):=
 (idx c1.l i1).bind fun x1 =>
 (E0 x1.kind).bind fun x2 =>
 (bif (!x2) then (some true) else ((idx z1 i1).bind fun x3 =>
 some (decide (x3=2)))).bind fun p1 =>
 bif p1 then
  some (true,z1)
 else
  (idx z1 i1).bind fun x4 =>
  bif (decide (x4=1)) then
   some (false,z1)
  else
   (idx z1 i1).bind fun x5 =>
   (idx c1.l i1).bind fun x6 =>
   (D7 x6).bind fun x7 =>
   ((BG self x7 FU (0,(z1.set (i1).toNat 1)):Option (Out (Bool×(List Int)) (List Int)))).bind (fun oo=>oo.on (fun r1=>some r1) (fun l1 =>
   (idx l1 i1).bind fun x11 =>
   some (true,(l1.set (i1).toNat 2))))
def Bm (c1:ATy):Nat->Int->(List Int)->Option (Bool×(List Int))
 | 0=>fun _ _=>none
 | n+1=>fun i1 z1=>Ck (Bm c1 n) i1 z1 c1
theorem HS {c1:ATy} (self:Int->(List Int)->Option (Bool×(List Int))) (hself:∀ {i1:Int} {z1:(List Int)} {r_1:Bool} {s_1:(List Int)} {b_q2:Nat} {a_q2c0:Option Addr} {m_q2c0:Nat} {cap_q2c0:Nat} {b_q3:Nat},self i1 z1=some (r_1,s_1)->Go.V.Fn Tryz.prog 120 [.i64 i1,.ref (ATy.d c1),.v (.pointer (some ⟨b_q2,0,none⟩)),.v (.pointer (some ⟨b_q3,0,none⟩))] [box b_q2 43 [.v (.slice a_q2c0 m_q2c0 cap_q2c0)],arr a_q2c0 m_q2c0 cap_q2c0 3 1 D.i64 z1,box b_q3 109 [.clo (.func 120) [] [.ref (ATy.d c1),.v (.pointer (some ⟨b_q2,0,none⟩)),.v (.pointer (some ⟨b_q3,0,none⟩))]]] (fun d ms'=>d = .bool r_1/\ms'=[box b_q2 43 [.v (.slice a_q2c0 m_q2c0 cap_q2c0)],arr a_q2c0 m_q2c0 cap_q2c0 3 1 D.i64 s_1,box b_q3 109 [.clo (.func 120) [] [.ref (ATy.d c1),.v (.pointer (some ⟨b_q2,0,none⟩)),.v (.pointer (some ⟨b_q3,0,none⟩))]]])) {i1:Int} {z1:(List Int)} {r_1:Bool} {s_1:(List Int)} {b_q2:Nat} {a_q2c0:Option Addr} {m_q2c0:Nat} {cap_q2c0:Nat} {b_q3:Nat} (hm:Ck self i1 z1 c1=some (r_1,s_1)):Go.V.Fn Tryz.prog 120 [.i64 i1,.ref (ATy.d c1),.v (.pointer (some ⟨b_q2,0,none⟩)),.v (.pointer (some ⟨b_q3,0,none⟩))] [box b_q2 43 [.v (.slice a_q2c0 m_q2c0 cap_q2c0)],arr a_q2c0 m_q2c0 cap_q2c0 3 1 D.i64 z1,box b_q3 109 [.clo (.func 120) [] [.ref (ATy.d c1),.v (.pointer (some ⟨b_q2,0,none⟩)),.v (.pointer (some ⟨b_q3,0,none⟩))]]] (fun d ms'=>d = .bool r_1/\ms'=[box b_q2 43 [.v (.slice a_q2c0 m_q2c0 cap_q2c0)],arr a_q2c0 m_q2c0 cap_q2c0 3 1 D.i64 s_1,box b_q3 109 [.clo (.func 120) [] [.ref (ATy.d c1),.v (.pointer (some ⟨b_q2,0,none⟩)),.v (.pointer (some ⟨b_q3,0,none⟩))]]]):=by
 unfold Ck at hm;refine Ad Tryz.func120 rfl Tryz.ntmps120 rfl fun H0 fr w0=>?_;refine zq10 ?_;obtain ⟨x1,hx1,hm⟩:=bS hm;refine zq3 ?_;obtain ⟨x2,hx2,hm⟩:=bS hm;refine zc0 (Li hx2) ?_;refine zq2 ?_;obtain ⟨p1,hp_1,hm⟩:=bS hm;refine AS [(0,_),(1,_),(2,_),(3,_)] 6 22 p1 (t:=16) ⟨rfl,rfl,rfl,rfl,trivial⟩ rfl (fun hg_1 hk1=>?_) (fun hg_1 hk1=>?_) ?_
 ·replace hp_1:=AO hg_1 hp_1
  refine zq6 ?_;exact zgb hk1 hp_1
 ·replace hp_1:=AR hg_1 hp_1
  refine zq2 ?_;obtain ⟨x3,hx3,hp_1⟩:=bS hp_1;refine gWp rfl rfl rfl hg_1 rfl rfl (Aj 1 Tryz.runUnderlying43 Tryz.sizeOf3 rfl rfl rfl hx3) ?_;refine gWp rfl rfl rfl hg_1 rfl rfl (BI (off:=0) 1 Tryz.isAgg3 rfl rfl (Ar hx3).2 rfl rfl rfl) ?_;refine zq2 ?_;exact zgb hk1 hp_1
 refine gNl ?_;refine zcn hm (fun hc1 hm=>?_) (fun hc1 hm=>?_)
 ·refine zq4 ?_
  refine Ae ?_
  have hq1:=Ac hm
  obtain ⟨rfl,rfl⟩:=Prod.mk.inj hq1;exact retK (A0 rfl (Bn rfl) (permA 0 rfl (permA 0 rfl (permA 0 rfl permN)))) ⟨rfl,rfl⟩
 ·refine zq6 ?_
  obtain ⟨x4,hx4,hm⟩:=bS hm;refine Ai rfl rfl rfl (Aj 1 Tryz.runUnderlying43 Tryz.sizeOf3 rfl rfl rfl hx4) ?_;refine Ai rfl rfl rfl (BI (off:=0) 1 Tryz.isAgg3 rfl rfl (Ar hx4).2 rfl rfl rfl) ?_;refine zq2 ?_;refine zcn hm (fun hc2 hm=>?_) (fun hc2 hm=>?_)
  ·refine zq4 ?_
   refine Ae ?_
   have hq1:=Ac hm
   obtain ⟨rfl,rfl⟩:=Prod.mk.inj hq1;exact retK (A0 rfl (Bn rfl) (permA 0 rfl (permA 0 rfl (permA 0 rfl permN)))) ⟨rfl,rfl⟩
  ·refine zq5 ?_
   obtain ⟨x5,hx5,hm⟩:=bS hm;refine Ai rfl rfl rfl (Aj 1 Tryz.runUnderlying43 Tryz.sizeOf3 rfl rfl rfl hx5) ?_;refine Ip rfl rfl (Bs (off:=0) (z':=1) 1 Tryz.sizeOf3 rfl rfl (Ar hx5).2 rfl rfl rfl rfl rfl rfl (nB rfl) rfl rfl) ?_;rintro _ _ rfl;refine Ah (ms':=[box b_q2 43 [_],_,box b_q3 109 [_]]) rfl ?_;refine zq7 ?_;obtain ⟨x6,hx6,hm⟩:=bS hm;refine zq2 ?_;obtain ⟨x7,hx7,hm⟩:=bS hm;refine zc0 (HM hx7) ?_;refine zq3 ?_;obtain ⟨o_1,hj1,hm1⟩:=bS hm;refine Af [(0,_),(2,_)] [(2,_)] (fun (st:(List Int)) (hid:Unit)=>match st,hid with | l1,_=>[]) (fun F (st:(List Int)) (hid:Unit)=>match st,hid with | l1,_=>[box b_q2 43 [.v (.slice a_q2c0 m_q2c0 cap_q2c0)],arr a_q2c0 m_q2c0 cap_q2c0 3 1 D.i64 l1,(nthF F 0)]) (fun st=>Out.go (st)=o_1) ⟨rfl,rfl,trivial⟩ ⟨rfl,trivial⟩ ?_ ?_
   ·refine Am ?_
    refine Ag [(0,_),(2,_),(3,_),(36,_),(37,_)] [(2,_)] (fun (st:(Int×(List Int))) (hid:Unit)=>match st,hid with | (x8,l2),_=>[(38,.i64 x8)]) (fun F (st:(Int×(List Int))) (hid:Unit)=>match st,hid with | (x8,l2),_=>[box b_q2 43 [.v (.slice a_q2c0 m_q2c0 cap_q2c0)],arr a_q2c0 m_q2c0 cap_q2c0 3 1 D.i64 l2,(nthF F 0)]) () hj1 (fun _=>rfl) ⟨rfl,rfl,rfl,rfl,rfl,trivial⟩ ⟨rfl,trivial⟩ ⟨rfl,trivial⟩ rfl ?_;rintro n ⟨x8,l2⟩ ⟨⟩ hj1;rw [BG] at hj1;refine Av (L':=[(38,.i64 x8),(0,_),(2,_),(3,_),(36,_),(37,_)]) (ms':=[box b_q2 43 [.v (.slice a_q2c0 m_q2c0 cap_q2c0)],arr a_q2c0 m_q2c0 cap_q2c0 3 1 D.i64 l2,_]) rfl rfl ?_;refine zq5 ?_;refine zcn hj1 (fun hc3 hj1=>?_) (fun hc3 hj1=>?_)
    ·refine zq5 ?_
     obtain ⟨x9,hx8,hj1⟩:=bS hj1;refine zq8 ?_;obtain ⟨⟨x10,z2⟩,hx9,hj1⟩:=bS hj1;refine Az rfl rfl rfl (Lg [0,1,2] rfl rfl rfl (Ap rfl (Ap rfl (Ap rfl CI))) (Hf Tryz.call120 (hself hx9)) (by rintro _ _ ⟨rfl,rfl⟩;rfl)) ?_;rintro _ _ ⟨_,⟨rfl,rfl⟩,rfl⟩;refine Ah (ms':=[box b_q2 43 [_],_,box b_q3 109 [_]]) rfl ?_;refine zq2 ?_;refine zcn hj1 (fun hc4 hj1=>?_) (fun hc4 hj1=>?_)
     ·refine zq4 ?_
      refine Ae ?_;obtain rfl:=Ac hj1
      replace hm1:=BP hm1
      have hq1:=Ac hm1
      obtain ⟨rfl,rfl⟩:=Prod.mk.inj hq1;exact retK (A0 rfl (Bn rfl) (permA 0 rfl (permA 0 rfl (permA 0 rfl permN)))) ⟨rfl,rfl⟩
     ·refine zq2 ?_
      obtain ⟨hg10,hj1⟩:=Aa hj1;refine zq3 ?_;exact ⟨_,(),hj1,⟨rfl,trivial⟩,⟨rfl,rfl,rfl,rfl,rfl,trivial⟩,[],rfl⟩
    ·refine Au ?_
     exact ⟨_,(),Ac hj1,trivial,⟨rfl,rfl,trivial⟩,[],rfl⟩
   ·rintro l1 ⟨⟩ hst
    subst hst
    replace hm1:=Dm hm1
    refine An (L':=[(0,_),(2,_)]) (ms':=[box b_q2 43 [.v (.slice a_q2c0 m_q2c0 cap_q2c0)],arr a_q2c0 m_q2c0 cap_q2c0 3 1 D.i64 l1,_]) rfl rfl ?_;refine zq4 ?_;obtain ⟨x11,hx11,hm1⟩:=bS hm1;refine Ai rfl rfl rfl (Aj 1 Tryz.runUnderlying43 Tryz.sizeOf3 rfl rfl rfl hx11) ?_;refine Ip rfl rfl (Bs (off:=0) (z':=2) 1 Tryz.sizeOf3 rfl rfl (Ar hx11).2 rfl rfl rfl rfl rfl rfl (nB rfl) rfl rfl) ?_;rintro _ _ rfl;refine Ah (ms':=[box b_q2 43 [_],_,box b_q3 109 [_]]) rfl ?_;refine zq5 ?_;refine Ae ?_
    have hq1:=Ac hm1
    obtain ⟨rfl,rfl⟩:=Prod.mk.inj hq1;exact retK (A0 rfl (Bn rfl) (permA 0 rfl (permA 0 rfl (permA 0 rfl permN)))) ⟨rfl,rfl⟩
theorem Fk {c1:ATy}:∀ (n:Nat) {i1:Int} {z1:(List Int)} {r_1:Bool} {s_1:(List Int)} {b_q2:Nat} {a_q2c0:Option Addr} {m_q2c0:Nat} {cap_q2c0:Nat} {b_q3:Nat},Bm c1 n i1 z1=some (r_1,s_1)->Go.V.Fn Tryz.prog 120 [.i64 i1,.ref (ATy.d c1),.v (.pointer (some ⟨b_q2,0,none⟩)),.v (.pointer (some ⟨b_q3,0,none⟩))] [box b_q2 43 [.v (.slice a_q2c0 m_q2c0 cap_q2c0)],arr a_q2c0 m_q2c0 cap_q2c0 3 1 D.i64 z1,box b_q3 109 [.clo (.func 120) [] [.ref (ATy.d c1),.v (.pointer (some ⟨b_q2,0,none⟩)),.v (.pointer (some ⟨b_q3,0,none⟩))]]] (fun d ms'=>d = .bool r_1/\ms'=[box b_q2 43 [.v (.slice a_q2c0 m_q2c0 cap_q2c0)],arr a_q2c0 m_q2c0 cap_q2c0 3 1 D.i64 s_1,box b_q3 109 [.clo (.func 120) [] [.ref (ATy.d c1),.v (.pointer (some ⟨b_q2,0,none⟩)),.v (.pointer (some ⟨b_q3,0,none⟩))]]])
 | 0=>by intros;rename_i h;cases h
 | n+1=>by intros;rename_i h;exact HS (Bm c1 n) (fun h=>Fk n h) h
theorem Il {c1:ATy} {i1:Int} {z1:(List Int)} {r_1:Bool} {s_1:(List Int)} {b_q2:Nat} {a_q2c0:Option Addr} {m_q2c0:Nat} {cap_q2c0:Nat} {b_q3:Nat} (hm:Bm c1 FU i1 z1=some (r_1,s_1)):Go.V.Fn Tryz.prog 120 [.i64 i1,.ref (ATy.d c1),.v (.pointer (some ⟨b_q2,0,none⟩)),.v (.pointer (some ⟨b_q3,0,none⟩))] [box b_q2 43 [.v (.slice a_q2c0 m_q2c0 cap_q2c0)],arr a_q2c0 m_q2c0 cap_q2c0 3 1 D.i64 z1,box b_q3 109 [.clo (.func 120) [] [.ref (ATy.d c1),.v (.pointer (some ⟨b_q2,0,none⟩)),.v (.pointer (some ⟨b_q3,0,none⟩))]]] (fun d ms'=>d = .bool r_1/\ms'=[box b_q2 43 [.v (.slice a_q2c0 m_q2c0 cap_q2c0)],arr a_q2c0 m_q2c0 cap_q2c0 3 1 D.i64 s_1,box b_q3 109 [.clo (.func 120) [] [.ref (ATy.d c1),.v (.pointer (some ⟨b_q2,0,none⟩)),.v (.pointer (some ⟨b_q3,0,none⟩))]]]):=Fk FU hm
def BQ (t1:ATy):Nat->(Int×(List Int))->Option (Out Bool (List Int))
 | 0,_=>none
 | n+1,(x1,l2) =>
  bif (decide (x1<(t1.l.length:Int))) then
   (Bm t1 FU x1 l2).bind fun (x2,z1) =>
   bif (!x2) then
    some (Out.ret false)
   else
    grd (InR (x1+1)) <|
    BQ t1 n ((x1+1),z1)
  else
   some (Out.go (l2))
def CS (t1:ATy):Option Bool:=
 grd (0<=(t1.l.length:Int)) <|
 grd (((t1.l.length:Int)).toNat*8<=140737488355328) <|
 ((BQ t1 FU (0,(List.replicate ((t1.l.length:Int)).toNat (0:Int))):Option (Out Bool (List Int)))).bind (fun oo=>oo.on (fun r1=>some r1) (fun l1 =>
 some true))
theorem Jc {t1:ATy} {r_1:Bool} (hm:CS t1=some r_1):Fn0 Tryz.prog 84 [ATy.d t1] (.bool r_1):=by
 unfold CS at hm;refine Ad Tryz.func84 rfl Tryz.ntmps84 rfl fun H0 fr w0=>?_;refine zq10 ?_;obtain ⟨hg1,hm⟩:=Aa hm;obtain ⟨hg2,hm⟩:=Aa hm;refine Az rfl rfl rfl (DY (f:=D.i64) (z0:=0) Tryz.underlying43 Tryz.type3 rfl rfl rfl (nB rfl) rfl rfl hg1 hg2 (nB rfl)) ?_;rintro _ _ ⟨a_r1,m_r1,cap_r1,rfl,rfl⟩;refine Qz fun b1=>?_;refine zst 0 ?_;refine Ah (ms':=[box b1 43 [_],_]) rfl ?_;refine zq3 ?_;refine Vq fun b2=>?_;refine zq3 ?_;refine Ai rfl rfl rfl (Cw rfl rfl) ?_;refine zst 0 ?_;refine Ah (ms':=[box b2 109 [_],box b1 43 [_],_]) rfl ?_;refine zq9 ?_;obtain ⟨o_1,hj1,hm1⟩:=bS hm;refine Af [] [(0,_)] (fun (st:(List Int)) (hid:Unit)=>match st,hid with | l1,_=>[]) (fun F (st:(List Int)) (hid:Unit)=>match st,hid with | l1,_=>[(nthF F 0),box b1 43 [.v (.slice a_r1 m_r1 cap_r1)],arr a_r1 m_r1 cap_r1 3 1 D.i64 l1]) (fun st=>Out.go (st)=o_1) trivial ⟨rfl,trivial⟩ ?_ ?_
 ·refine Am ?_
  refine Ag [(4,_),(13,_)] [(0,_)] (fun (st:(Int×(List Int))) (hid:Unit)=>match st,hid with | (x1,l2),_=>[(14,.i64 x1)]) (fun F (st:(Int×(List Int))) (hid:Unit)=>match st,hid with | (x1,l2),_=>[(nthF F 0),box b1 43 [.v (.slice a_r1 m_r1 cap_r1)],arr a_r1 m_r1 cap_r1 3 1 D.i64 l2]) () hj1 (fun _=>rfl) ⟨rfl,rfl,trivial⟩ ⟨rfl,trivial⟩ ⟨rfl,trivial⟩ rfl ?_;rintro n ⟨x1,l2⟩ ⟨⟩ hj1;rw [BQ] at hj1;refine Av (L':=[(14,.i64 x1),(4,_),(13,_)]) (ms':=[_,box b1 43 [.v (.slice a_r1 m_r1 cap_r1)],arr a_r1 m_r1 cap_r1 3 1 D.i64 l2]) rfl rfl ?_;refine zq5 ?_;refine zcn hj1 (fun hc1 hj1=>?_) (fun hc1 hj1=>?_)
  ·refine zq12 ?_
   obtain ⟨⟨x2,z1⟩,hx3,hj1⟩:=bS hj1;refine Az rfl rfl rfl (Lg [1,2,0] rfl rfl rfl (Ap rfl (Ap rfl (Ap rfl CI))) (Hf Tryz.call120 (Il hx3)) (by rintro _ _ ⟨rfl,rfl⟩;rfl)) ?_;rintro _ _ ⟨_,⟨rfl,rfl⟩,rfl⟩;refine Ah (ms':=[box b2 109 [_],box b1 43 [_],_]) rfl ?_;refine zq2 ?_;refine zcn hj1 (fun hc2 hj1=>?_) (fun hc2 hj1=>?_)
   ·refine zq4 ?_
    refine Ae ?_;obtain rfl:=Ac hj1
    replace hm1:=BP hm1
    cases hm1;exact zr1
   ·refine zq2 ?_
    obtain ⟨hg4,hj1⟩:=Aa hj1;refine zq3 ?_;exact ⟨_,(),hj1,⟨rfl,trivial⟩,⟨rfl,rfl,trivial⟩,[],rfl⟩
  ·refine Au ?_
   exact ⟨_,(),Ac hj1,trivial,trivial,[],rfl⟩
 ·rintro l1 ⟨⟩ hst
  subst hst
  replace hm1:=Dm hm1
  refine An (L':=[]) (ms':=[_,box b1 43 [.v (.slice a_r1 m_r1 cap_r1)],arr a_r1 m_r1 cap_r1 3 1 D.i64 l1]) rfl rfl ?_;refine zq4 ?_
  cases hm1;exact Ae zr1
def Fc (t1:ATy):Option Int:=
 bif ((decide ((t1.l.length:Int)=0))||(decide (2000<(t1.l.length:Int)))) then
  some 8
 else
  bif ((decide (t1.root<0))||(decide ((t1.l.length:Int)<=t1.root))) then
   some 4
  else
   (OJ t1.l (fun y0=>Du y0 t1)).bind fun x1 =>
   (bif x1 then (some true) else ((CS t1).bind fun x2 =>
   some (!x2))).bind fun p1 =>
   bif p1 then
    some 4
   else
    some 0
theorem K2 {t1:ATy} {r_1:Int} (hm:Fc t1=some r_1):Fn0 Tryz.prog 48 [ATy.d t1] (.i64 r_1):=by
 unfold Fc at hm;refine Ad Tryz.func48 rfl Tryz.ntmps48 rfl fun H0 fr w0=>?_;refine zq14 ?_
 apply Cy [(1,_)] 5 13 (t:=8) ⟨rfl,trivial⟩ rfl
 ·intro hg_1 hk1
  refine zq5 ?_;exact zgm hk1
 ·intro hg_1 hk1
  refine zq5 ?_;exact zgm hk1
 refine zq2 ?_;refine zcn hm (fun hc1 hm=>?_) (fun hc1 hm=>?_)
 ·refine zq4 ?_
  cases hm;exact Ae zr1
 ·refine zq6 ?_
  apply Cy [(1,_)] 7 25 (t:=18) ⟨rfl,trivial⟩ rfl
  ·intro hg_2 hk2
   refine zq7 ?_;exact zgm hk2
  ·intro hg_2 hk2
   refine zq7 ?_;exact zgm hk2
  refine zq2 ?_;refine zcn hm (fun hc2 hm=>?_) (fun hc2 hm=>?_)
  ·refine zq4 ?_
   cases hm;exact Ae zr1
  ·refine zq6 ?_
   refine Ai rfl rfl rfl (Cw rfl rfl) ?_;obtain ⟨x1,hx1,hm⟩:=bS hm;refine Ai rfl rfl rfl (BE Tryz.call81 rfl (Xr (fun _ _ h=>Hf Tryz.call82 (MV h)) hx1)) ?_;refine zq1 ?_;obtain ⟨p1,hp_3,hm⟩:=bS hm;refine AS [] 4 34 p1 (t:=30) trivial rfl (fun hg_3 hk3=>?_) (fun hg_3 hk3=>?_) ?_
   ·replace hp_3:=AO hg_3 hp_3
    refine zq4 ?_;exact zgb hk3 hp_3
   ·replace hp_3:=AR hg_3 hp_3
    refine zq1 ?_;obtain ⟨x2,hx2,hp_3⟩:=bS hp_3;refine zcw (Jc hx2) ?_;refine zq2 ?_;exact zgb hk3 hp_3
   refine gNl ?_;refine zcn hm (fun hc3 hm=>?_) (fun hc3 hm=>?_)
   ·refine zq4 ?_
    cases hm;exact Ae zr1
   ·refine zq5 ?_
    cases hm;exact Ae zr1
def HG  : Nat->(Int×Int×(List Int))->Option (List Int)
 | 0,_=>none
 | n+1,(i1,j1,l1) =>
  bif (decide (i1<j1)) then
   (idx l1 j1).bind fun x1 =>
   (idx l1 i1).bind fun x2 =>
   (idx l1 i1).bind fun x3 =>
   (idx l1 j1).bind fun x4 =>
   (idx (l1.set (i1).toNat x1) j1).bind fun x5 =>
   grd (InR (i1+1)) <|
   grd (InR (j1 - 1)) <|
   HG n ((i1+1),(j1 - 1),((l1.set (i1).toNat x1).set (j1).toNat x2))
  else
   some l1
def Po (s1:(List Int))  : Option (List Int):=
 grd (InR ((s1.length:Int) - 1)) <|
 HG FU (0,((s1.length:Int) - 1),s1)
theorem Xw {s1:(List Int)}  {s_1:(List Int)} {a_q0:Option Addr} {m_q0 cap_q0:Nat} (hm:Po s1=some s_1):Go.V.Fn Tryz.prog 123 [.v (.slice a_q0 m_q0 cap_q0)] [arr a_q0 m_q0 cap_q0 3 1 D.i64 s1] (fun d ms'=>d = .tup []/\ms'=[arr a_q0 m_q0 cap_q0 3 1 D.i64 s_1]):=by
 unfold Po at hm;refine Ad Tryz.func123 rfl Tryz.ntmps123 rfl fun H0 fr w0=>?_;refine zq3 ?_;refine Ai rfl rfl rfl (Dd 0 Tryz.runUnderlying43 rfl rfl) ?_;obtain ⟨hg1,hm⟩:=Aa hm;refine zq5 ?_;refine Ag [(0,_)] [] (fun (st:(Int×Int×(List Int))) (hid:Unit)=>match st,hid with | (i1,j1,l1),_=>[(2,.i64 i1),(3,.i64 j1)]) (fun F (st:(Int×Int×(List Int))) (hid:Unit)=>match st,hid with | (i1,j1,l1),_=>[arr a_q0 m_q0 cap_q0 3 1 D.i64 l1]) () hm (fun _=>rfl) ⟨rfl,trivial⟩ trivial ⟨rfl,rfl,trivial⟩ rfl ?_;rintro n ⟨i1,j1,l1⟩ ⟨⟩ hm;rw [HG] at hm;refine Av (L':=[(2,.i64 i1),(3,.i64 j1),(0,_)]) (ms':=[arr a_q0 m_q0 cap_q0 3 1 D.i64 l1]) rfl rfl ?_;refine zq7 ?_;refine zcn hm (fun hc1 hm=>?_) (fun hc1 hm=>?_)
 ·refine zq3 ?_
  obtain ⟨x1,hx2,hm⟩:=bS hm;obtain ⟨x2,hx3,hm⟩:=bS hm;obtain ⟨x3,hx4,hm⟩:=bS hm;obtain ⟨x4,hx5,hm⟩:=bS hm;obtain ⟨x5,hx6,hm⟩:=bS hm;refine GI [13,15] [2,3,14] [14] Bf (by decide +kernel) (by decide +kernel) rfl ?_;refine AT rfl rfl rfl rfl rfl rfl (oMv rfl) ?_;refine AT rfl rfl rfl rfl rfl rfl (oMv rfl) ?_;refine AT rfl rfl rfl rfl rfl rfl (oMv rfl) ?_;refine AT rfl rfl rfl rfl rfl rfl (oMv rfl) ?_;refine AT rfl rfl rfl rfl rfl rfl (oMv rfl) ?_;refine AT rfl rfl rfl rfl rfl rfl (oMv rfl) ?_;refine AT rfl rfl rfl rfl rfl rfl (Aj 0 Tryz.runUnderlying43 Tryz.sizeOf3 rfl rfl rfl hx2) ?_;refine AT rfl rfl rfl rfl rfl rfl (BI (off:=0) 0 Tryz.isAgg3 rfl rfl (Ar hx2).2 rfl rfl rfl) ?_;refine AT rfl rfl rfl rfl rfl rfl (oMv rfl) ?_;refine AT rfl rfl rfl rfl rfl rfl (oMv rfl) ?_;refine AT rfl rfl rfl rfl rfl rfl (Aj 0 Tryz.runUnderlying43 Tryz.sizeOf3 rfl rfl rfl hx3) ?_;refine AT rfl rfl rfl rfl rfl rfl (BI (off:=0) 0 Tryz.isAgg3 rfl rfl (Ar hx3).2 rfl rfl rfl) ?_;refine AT rfl rfl rfl rfl rfl rfl (Aj 0 Tryz.runUnderlying43 Tryz.sizeOf3 rfl rfl rfl hx4) ?_;refine FC rfl ?_;refine G0 rfl rfl rfl rfl rfl (Cu 0 Tryz.runUnderlying43 Tryz.sizeOf3 rfl rfl rfl (by first | exact Dy hx5 | exact Be (Dy hx5) | exact Be (Be (Dy hx5)))) ?_;refine FC rfl ?_;refine Ia ?_;refine Gd rfl rfl rfl (Bs (off:=0) (z':=x1) 0 Tryz.sizeOf3 rfl rfl (Ar hx4).2 rfl rfl rfl rfl rfl rfl (nB rfl) rfl rfl) ?_;rintro _ _ rfl;refine ⟨⟨trivial,Cu 0 Tryz.runUnderlying43 Tryz.sizeOf3 rfl rfl rfl (by first | exact Dy hx5 | exact Be (Dy hx5) | exact Be (Be (Dy hx5)))⟩,?_⟩;refine Gd rfl rfl rfl (Bs (off:=0) (z':=x2) 0 Tryz.sizeOf3 rfl rfl (Ar hx6).2 rfl rfl rfl rfl rfl rfl (nB rfl) rfl rfl) ?_;rintro _ _ rfl;refine ⟨⟨trivial,Cu 0 Tryz.runUnderlying43 Tryz.sizeOf3 rfl rfl rfl (by first | exact Dy hx5 | exact Be (Dy hx5) | exact Be (Be (Dy hx5)))⟩,?_⟩;refine Fj ?_;refine zq2 ?_;obtain ⟨hg7,hm⟩:=Aa hm;refine zq2 ?_;obtain ⟨hg8,hm⟩:=Aa hm;refine zq4 ?_;exact ⟨_,(),hm,⟨rfl,rfl,trivial⟩,⟨rfl,trivial⟩,[],rfl⟩
 ·refine Au ?_
  obtain rfl:=Ac hm;exact retKn (DR rfl (permA 0 rfl permN)) ⟨rfl,rfl⟩
def EC (c1:ATy):Nat->((List Int)×(List Bool))->Option (List Int)
 | 0,_=>none
 | n+1,(l1,l2) =>
  bif (decide (0<(l1.length:Int))) then
   grd (InR ((l1.length:Int) - 1)) <|
   (idx l1 ((l1.length:Int) - 1)).bind fun x1 =>
   grd (InR ((l1.length:Int) - 1)) <|
   (sli l1 0 ((l1.length:Int) - 1)).bind fun l3 =>
   (idx l2 x1).bind fun x2 =>
   bif x2 then
    EC c1 n (l3,l2)
   else
    (idx l2 x1).bind fun x3 =>
    ((idx c1.l x1).bind fun x4 =>
    (D7 x4).bind fun x5 =>
    grd (x5.length*8<=140737488355328) <|
    (Po x5).bind fun l4 =>
    grd ((l3.length+l4.length)*8<=140737488355328) <|
    EC c1 n ((l3++l4),(l2.set (x1).toNat true))).bind fun ys=>some (x1::ys)
  else
   some []
def Kl (c1:ATy) (c2:Int):Option (List Int):=
 grd (0<=(c1.l.length:Int)) <|
 grd (((c1.l.length:Int)).toNat*1<=140737488355328) <|
 EC c1 FU ([c2],(List.replicate ((c1.l.length:Int)).toNat (false:Bool)))
theorem U5 {c1:ATy} {c2:Int} {xs:(List Int)} (hm:Kl c1 c2=some xs):Iter Tryz.prog 122 [.ref (ATy.d c1),.ref (.i64 c2)] (xs.map fun (p:Int)=>[.i64 p]):=by
 intro y hys J Jx hy tl_0 hJ_0
 have hk_0:0<=xs.length:=Nat.zero_le _
 replace hm:_=some (xs.drop 0):=hm
 unfold Kl at hm;refine Ad Tryz.func122 rfl Tryz.ntmps122 rfl fun H0 fr w0=>?_;refine zq5 ?_;obtain ⟨hg1,hm⟩:=Aa hm;obtain ⟨hg2,hm⟩:=Aa hm;refine Az rfl rfl rfl (DY (f:=D.bool) (z0:=false) Tryz.underlying78 Tryz.type4 rfl rfl rfl (nB rfl) rfl rfl hg1 hg2 (nB rfl)) ?_;rintro _ _ ⟨a_r1,m_r1,cap_r1,rfl,rfl⟩;refine zq5 ?_;refine Az rfl rfl rfl (Kn (xs:=[_]) (f:=D.i64) (l:=[_]) Tryz.runUnderlying43 Tryz.sizeOf3 Tryz.zeroValue3 rfl rfl rfl (fun _=>⟨rfl,rfl,rfl⟩) rfl (by simp [maxLen])) ?_;rintro _ _ ⟨a_r2,m_r2,cap_r2,rfl,rfl⟩;refine zq3 ?_;refine Pp (fun (hid:{p:Nat×List Asrt // p.1<=xs.length/\J p.1 p.2}×(Option Addr×Nat×Nat)×Unit)=>xs.drop hid.1.1.1) [(0,_),(1,_),(4,_)] [] (fun (st:((List Int)×(List Bool))) (hid:{p:Nat×List Asrt // p.1<=xs.length/\J p.1 p.2}×(Option Addr×Nat×Nat)×Unit)=>match st,hid with | (l1,l2),(⟨(k_3,tl_3),hk_3,hJ_3⟩,(a_r2,m_r2,cap_r2),_)=>[(5,.v (.slice a_r2 m_r2 cap_r2))]) (fun F (st:((List Int)×(List Bool))) (hid:{p:Nat×List Asrt // p.1<=xs.length/\J p.1 p.2}×(Option Addr×Nat×Nat)×Unit)=>match st,hid with | (l1,l2),(⟨(k_3,tl_3),hk_3,hJ_3⟩,(a_r2,m_r2,cap_r2),_)=>[arr a_r2 m_r2 cap_r2 3 1 D.i64 l1,arr a_r1 m_r1 cap_r1 4 1 D.bool l2]++tl_3) (⟨(0,tl_0),hk_0,hJ_0⟩,(_,_,_),()) hm rfl (fun _=>rfl) ⟨rfl,rfl,rfl,trivial⟩ trivial ⟨rfl,trivial⟩ rfl ?_;rintro n ⟨l1,l2⟩ ⟨⟨⟨k_3,tl_3⟩,hk_3,hJ_3⟩,⟨a_r2,m_r2,cap_r2⟩,⟨⟩⟩ hm
 replace hm:_=some (xs.drop k_3):=hm
 rw [EC] at hm;refine Av (L':=[(5,.v (.slice a_r2 m_r2 cap_r2)),(0,_),(1,_),(4,_)]) (ms':=[arr a_r2 m_r2 cap_r2 3 1 D.i64 l1,arr a_r1 m_r1 cap_r1 4 1 D.bool l2]++tl_3) rfl rfl ?_;refine zq4 ?_;refine Ai rfl rfl rfl (Dd 0 Tryz.runUnderlying43 rfl rfl) ?_;refine zq2 ?_;refine zcn hm (fun hc1 hm=>?_) (fun hc1 hm=>?_)
 ·refine zq6 ?_
  refine Ai rfl rfl rfl (Dd 0 Tryz.runUnderlying43 rfl rfl) ?_;obtain ⟨hg3,hm⟩:=Aa hm;refine zq1 ?_;obtain ⟨x1,hx4,hm⟩:=bS hm;refine Ai rfl rfl rfl (Aj 0 Tryz.runUnderlying43 Tryz.sizeOf3 rfl rfl rfl hx4) ?_;refine Ai rfl rfl rfl (BI (off:=0) 0 Tryz.isAgg3 rfl rfl (Ar hx4).2 rfl rfl rfl) ?_;refine zq6 ?_;refine Ai rfl rfl rfl (Dd 0 Tryz.runUnderlying43 rfl rfl) ?_;obtain ⟨hg5,hm⟩:=Aa hm;refine zq1 ?_;obtain ⟨l3,hx6,hm⟩:=bS hm;refine Az rfl rfl rfl (MU 0 Tryz.runUnderlying43 Tryz.sizeOf3 rfl rfl rfl hx6) ?_;rintro _ _ ⟨a_r2,m_r2,cap_r2,rfl,rfl⟩;refine zq7 ?_;obtain ⟨x2,hx7,hm⟩:=bS hm;refine Ai rfl rfl rfl (Aj 1 Tryz.runUnderlying78 Tryz.sizeOf4 rfl rfl rfl hx7) ?_;refine Ai rfl rfl rfl (BI (off:=0) 1 Tryz.isAgg4 rfl rfl (Ar hx7).2 rfl rfl rfl) ?_;refine gNl ?_;refine zcn hm (fun hc2 hm=>?_) (fun hc2 hm=>?_)
  ·refine Au ?_
   exact ⟨_,(⟨(k_3,tl_3),hk_3,hJ_3⟩,(_,_,_),()),hm,⟨rfl,trivial⟩,⟨rfl,rfl,rfl,trivial⟩,[],rfl⟩
  ·refine zq5 ?_
   obtain ⟨x3,hx8,hm⟩:=bS hm;refine Ai rfl rfl rfl (Aj 1 Tryz.runUnderlying78 Tryz.sizeOf4 rfl rfl rfl hx8) ?_;refine Ip rfl rfl (Bs (off:=0) (z':=true) 1 Tryz.sizeOf4 rfl rfl (Ar hx8).2 rfl rfl rfl rfl rfl rfl (nB rfl) rfl rfl) ?_;rintro _ _ rfl;refine Ah (ms':=[_,_]++tl_3) rfl ?_;refine zq6 ?_;obtain ⟨ys_4,hm,he_4⟩:=bS hm;obtain ⟨hy_4,hk_4,rfl⟩:=Qb he_4;refine Az rfl rfl rfl (RG [_,_] tl_3 rfl rfl (hy k_3 _ tl_3 (Tc hy_4) hJ_3)) ?_;rintro _ _ ⟨_ | _,tl_4,rfl,rfl,hJ_4,hs_4⟩
   ·refine zq2 ?_
    refine Ff rfl rfl ?_;refine Ae ?_;exact retK (DR (ms':=tl_4) (drop:=[_,_]) rfl (List.Perm.refl _)) (.inr (hs_4 rfl))
   ·refine zq2 ?_
    refine Dn rfl rfl ?_;refine zq6 ?_;obtain ⟨x4,hx9,hm⟩:=bS hm;refine Ai rfl rfl rfl (oIm Tryz.runUnderlying29 Tryz.sizeOf49 rfl rfl hx9) ?_;refine zq1 ?_;obtain ⟨x5,hx10,hm⟩:=bS hm;refine zc0 (HM hx10) ?_;obtain ⟨hg11,hm⟩:=Aa hm;refine Az rfl rfl rfl (DO (ms₁:=[]) Tryz.call64 rfl (List.Perm.refl _) (GN hg11)) ?_;rintro _ _ ⟨_,⟨a_r3,cap_r3,hd_r3,hq_r3⟩,rfl⟩;obtain ⟨m_r3,hm_r3⟩:∃ m,m=x5.length:=⟨_,rfl⟩;rw [<- hm_r3] at hd_r3 hq_r3;subst hd_r3 hq_r3
    clear hm_r3
    refine zq5 ?_;obtain ⟨l4,hx12,hm⟩:=bS hm;refine Az rfl rfl rfl (Cr [0] Tryz.call123 rfl rfl (Ap rfl CI) (Xw hx12) (by rintro _ _ ⟨rfl,rfl⟩;rfl)) ?_;rintro _ _ ⟨_,⟨rfl,rfl⟩,rfl⟩;refine Ah (ms':=[_,_,_]++tl_4) rfl ?_;refine zq4 ?_;refine I5 0 rfl rfl ?_;rintro rfl;obtain ⟨hg13,hm⟩:=Aa hm;refine Az rfl rfl rfl (.view (peekE (i:=49) 0 rfl rfl rfl) (D6 (a:=_) 1 Tryz.underlying43 Tryz.type3 rfl rfl rfl rfl rfl rfl (fun _=>rfl) (fun _=>rfl) hg13 (BS hg13 rfl))) ?_;rintro _ _ ⟨a_r2,m_r2,cap_r2,rfl,rfl⟩;refine Ah (ms':=[_,_,_]++tl_4) rfl ?_;refine zq2 ?_;exact ⟨_,(⟨((k_3+1),tl_4),hk_4,(hJ_4 rfl)⟩,(_,_,_),()),hm,⟨rfl,trivial⟩,⟨rfl,rfl,rfl,trivial⟩,[_],rfl⟩
 ·refine Au ?_
  exact retKn (DR (ms':=tl_3) (drop:=[_,_]) rfl (List.Perm.refl _)) (.inl (M4 hm hk_3 hJ_3 _))
theorem Wf {p0:ATy} {p1:Int} :
  Fn0 Tryz.prog 85 [ATy.d p0,.i64 p1] (.clo (.func 122) [] [.ref (ATy.d p0),.ref (.i64 p1)]):=by
 refine Ad Tryz.func85 rfl Tryz.ntmps85 rfl fun H0 fr w0=>?_;refine zq8 ?_;refine Ai rfl rfl rfl (Cw rfl rfl) ?_;refine zq2 ?_;refine Ae ?_;exact retK (A0 rfl (Bn rfl) (Gx _)) (by rfl)
def Hk (slices1:(List (List Int))):Nat->(Int×Int)->Option Int
 | 0,_=>none
 | n+1,(size2,x1) =>
  bif (decide (x1<(slices1.length:Int))) then
   (idx slices1 x1).bind fun x2 =>
   grd (InR (size2+(x2.length:Int))) <|
   bif (decide ((size2+(x2.length:Int))<0)) then
    none
   else
    grd (InR (x1+1)) <|
    Hk slices1 n ((size2+(x2.length:Int)),(x1+1))
  else
   some size2
def Hv (slices1:(List (List Int))):Nat->(Int×(List Int))->Option (List Int)
 | 0,_=>none
 | n+1,(x3,l2) =>
  bif (decide (x3<(slices1.length:Int))) then
   (idx slices1 x3).bind fun x4 =>
   grd ((l2.length+x4.length)*8<=140737488355328) <|
   grd (InR (x3+1)) <|
   Hv slices1 n ((x3+1),(l2++x4))
  else
   some l2
def ML (slices1:(List (List Int))):Option (List Int):=
 (Hk slices1 FU (0,0):Option Int).bind fun size1 =>
 grd (0<=size1) <|
 grd ((size1).toNat*8<=140737488355328) <|
 (Hv slices1 FU (0,([]:List Int)):Option (List Int)).bind fun l1 =>
 some l1
theorem Ws {slices1:(List (List Int))} {r_1:(List Int)} (hm:ML slices1=some r_1):Fn0 Tryz.prog 137 [.list 1 (D.list 1 D.i64) slices1] (.list 1 D.i64 r_1):=by
 unfold ML at hm;refine Ad Tryz.func137 rfl Tryz.ntmps137 rfl fun H0 fr w0=>?_;refine zq3 ?_;refine Aq (nilE (i:=2) (sz:=1) (f:=D.i64) rfl).refines ?_;refine zq12 ?_;obtain ⟨o_1,hj1,hm1⟩:=bS hm;refine Af [(0,_)] [] (fun (st:Int) (hid:Unit)=>match st,hid with | size1,_=>[(3,.i64 size1)]) (fun F (st:Int) (hid:Unit)=>match st,hid with | size1,_=>[]) (fun st=>st=o_1) ⟨rfl,trivial⟩ trivial ?_ ?_
 ·refine Am ?_
  refine Ag [(0,_),(9,_),(10,_)] [] (fun (st:(Int×Int)) (hid:Unit)=>match st,hid with | (size2,x1),_=>[(3,.i64 size2),(11,.i64 x1)]) (fun F (st:(Int×Int)) (hid:Unit)=>match st,hid with | (size2,x1),_=>[]) () hj1 (fun _=>rfl) ⟨rfl,rfl,rfl,trivial⟩ trivial ⟨rfl,rfl,trivial⟩ rfl ?_;rintro n ⟨size2,x1⟩ _ hj1;rw [Hk] at hj1;refine Av (L':=[(3,.i64 size2),(11,.i64 x1),(0,_),(9,_),(10,_)]) (ms':=[]) rfl rfl ?_;refine zq5 ?_;refine zcn hj1 (fun hc1 hj1=>?_) (fun hc1 hj1=>?_)
  ·refine zq5 ?_
   obtain ⟨x2,hx1,hj1⟩:=bS hj1;refine zq9 ?_;obtain ⟨hg2,hj1⟩:=Aa hj1;refine zq8 ?_;refine zcn hj1 (fun hc2 hj1=>?_) (fun hc2 hj1=>?_)
   ·cases hj1
   ·refine zq2 ?_
    obtain ⟨hg3,hj1⟩:=Aa hj1;refine zq3 ?_;exact ⟨_,(),hj1,⟨rfl,rfl,trivial⟩,⟨rfl,rfl,rfl,trivial⟩,[],rfl⟩
  ·refine Au ?_
   exact ⟨_,(),Ac hj1,⟨rfl,trivial⟩,⟨rfl,trivial⟩,[],rfl⟩
 ·rintro size1 _ hst
  subst hst;refine An (L':=[(3,.i64 size1),(0,_)]) (ms':=[]) rfl rfl ?_;refine zq3 ?_;obtain ⟨hg4,hm1⟩:=Aa hm1;obtain ⟨hg5,hm1⟩:=Aa hm1;refine Az rfl rfl rfl (DO (ms₁:=[]) Tryz.call169 rfl (List.Perm.refl _) (Qp hg4 hg5)) ?_;rintro _ _ ⟨_,⟨a_r1,cap_r1,rfl,rfl⟩,rfl⟩;refine zq9 ?_;obtain ⟨o_2,hj2,hm2⟩:=bS hm1;refine Af [] [] (fun (st:(List Int)) (hid:(Option Addr×Nat))=>match st,hid with | l1,(a_r1,cap_r1)=>[(6,.v (.slice a_r1 l1.length cap_r1))]) (fun F (st:(List Int)) (hid:(Option Addr×Nat))=>match st,hid with | l1,(a_r1,cap_r1)=>[row a_r1 cap_r1 3 1 D.i64 l1]) (fun st=>st=o_2) trivial trivial ?_ ?_
  ·refine Am ?_
   refine Ag [(25,_),(26,_)] [] (fun (st:(Int×(List Int))) (hid:(Option Addr×Nat))=>match st,hid with | (x3,l2),(a_r1,cap_r1)=>[(6,.v (.slice a_r1 l2.length cap_r1)),(27,.i64 x3)]) (fun F (st:(Int×(List Int))) (hid:(Option Addr×Nat))=>match st,hid with | (x3,l2),(a_r1,cap_r1)=>[row a_r1 cap_r1 3 1 D.i64 l2]) (_,_) hj2 (fun _=>rfl) ⟨rfl,rfl,trivial⟩ trivial ⟨rfl,rfl,trivial⟩ rfl ?_;rintro n ⟨x3,l2⟩ ⟨a_r1,cap_r1⟩ hj2;rw [Hv] at hj2;refine Av (L':=[(6,.v (.slice a_r1 l2.length cap_r1)),(27,.i64 x3),(25,_),(26,_)]) (ms':=[row a_r1 cap_r1 3 1 D.i64 l2]) rfl rfl ?_;refine zq5 ?_;refine zcn hj2 (fun hc3 hj2=>?_) (fun hc3 hj2=>?_)
   ·refine zq5 ?_
    obtain ⟨x4,hx6,hj2⟩:=bS hj2;refine zq7 ?_;obtain ⟨hg7,hj2⟩:=Aa hj2;refine zap 0 hg7 fun a_r1 cap_r1=>?_;refine Ah (ms':=[_]) rfl ?_;refine zq3 ?_;obtain ⟨hg8,hj2⟩:=Aa hj2;refine zq3 ?_;exact ⟨_,(_,_),hj2,⟨rfl,rfl,trivial⟩,⟨rfl,rfl,trivial⟩,[],rfl⟩
   ·refine Au ?_
    exact ⟨_,(_,_),Ac hj2,⟨rfl,trivial⟩,trivial,[],rfl⟩
  ·rintro l1 ⟨a_r1,cap_r1⟩ hst
   subst hst;refine An (L':=[(6,.v (.slice a_r1 l1.length cap_r1))]) (ms':=[row a_r1 cap_r1 3 1 D.i64 l1]) rfl rfl ?_;refine zq5 ?_;refine CW (peekE (i:=2) 0 rfl rfl rfl).refines ?_
   cases hm2;exact Ae zr1
def Ei (l1:(List AutoEdge)):Nat->(Int×(List Int))->Option (List Int)
 | 0,_=>none
 | n+1,(x1,l3) =>
  bif (decide (x1<(l1.length:Int))) then
   (idx l1 x1).bind fun x2 =>
   grd ((l3.length+([x2.to_]:List _).length)*8<=140737488355328) <|
   grd (InR (x1+1)) <|
   Ei l1 n ((x1+1),(l3++[x2.to_]))
  else
   some l3
def Dq (l1:(List AutoEdge)):Option (List Int):=
 (Ei l1 FU (0,[]):Option (List Int)).bind fun l2 =>
 some l2
theorem HT {l1:(List AutoEdge)} {r_1:(List Int)} (hm:Dq l1=some r_1):Fn0 Tryz.prog 138 [.list 2 AutoEdge.d l1] (.list 1 D.i64 r_1):=by
 unfold Dq at hm;refine Ad Tryz.func138 rfl Tryz.ntmps138 rfl fun H0 fr w0=>?_;refine zq3 ?_;refine Aq (nilE (i:=2) (sz:=1) (f:=D.i64) rfl).refines ?_;refine zq4 ?_;refine Aq (AG (T:=3) (sz:=1) (f:=D.i64)) ?_;refine zq8 ?_;obtain ⟨o_1,hj1,hm1⟩:=bS hm;refine Af [] [] (fun (st:(List Int)) (hid:(Option Addr×Nat))=>match st,hid with | l2,(a_r1,cap_r1)=>[(3,.v (.slice a_r1 l2.length cap_r1))]) (fun F (st:(List Int)) (hid:(Option Addr×Nat))=>match st,hid with | l2,(a_r1,cap_r1)=>[row a_r1 cap_r1 3 1 D.i64 l2]) (fun st=>st=o_1) trivial trivial ?_ ?_
 ·refine Am ?_
  refine Ag [(6,_),(7,_)] [] (fun (st:(Int×(List Int))) (hid:(Option Addr×Nat))=>match st,hid with | (x1,l3),(a_r1,cap_r1)=>[(3,.v (.slice a_r1 l3.length cap_r1)),(8,.i64 x1)]) (fun F (st:(Int×(List Int))) (hid:(Option Addr×Nat))=>match st,hid with | (x1,l3),(a_r1,cap_r1)=>[row a_r1 cap_r1 3 1 D.i64 l3]) (_,_) hj1 (fun _=>rfl) ⟨rfl,rfl,trivial⟩ trivial ⟨rfl,rfl,trivial⟩ rfl ?_;rintro n ⟨x1,l3⟩ ⟨a_r1,cap_r1⟩ hj1;rw [Ei] at hj1;refine Av (L':=[(3,.v (.slice a_r1 l3.length cap_r1)),(8,.i64 x1),(6,_),(7,_)]) (ms':=[row a_r1 cap_r1 3 1 D.i64 l3]) rfl rfl ?_;refine zq5 ?_;refine zcn hj1 (fun hc1 hj1=>?_) (fun hc1 hj1=>?_)
  ·refine zq5 ?_
   obtain ⟨x2,hx1,hj1⟩:=bS hj1;refine zq2 ?_;refine TJ fun b1=>?_;refine zst 0 ?_;refine Ah (ms':=[box b1 62 [_,_],_]) rfl ?_;refine zq5 ?_;refine Ai rfl rfl rfl (zs1 D.i64) ?_;obtain ⟨hg2,hj1⟩:=Aa hj1;refine zap 1 hg2 fun a_r1 cap_r1=>?_;refine Ah (ms':=[box b1 62 [_,_],_]) rfl ?_;refine zq3 ?_;obtain ⟨hg3,hj1⟩:=Aa hj1;refine zq3 ?_;exact ⟨_,(_,_),hj1,⟨rfl,rfl,trivial⟩,⟨rfl,rfl,trivial⟩,[_],rfl⟩
  ·refine Au ?_
   exact ⟨_,(_,_),Ac hj1,⟨rfl,trivial⟩,trivial,[],rfl⟩
 ·rintro l2 ⟨a_r1,cap_r1⟩ hst
  subst hst;refine An (L':=[(3,.v (.slice a_r1 l2.length cap_r1))]) (ms':=[row a_r1 cap_r1 3 1 D.i64 l2]) rfl rfl ?_;refine zq5 ?_;refine CW (peekE (i:=2) 0 rfl rfl rfl).refines ?_
  cases hm1;exact Ae zr1
def F7 (s1:AutoState):Option (List Int):=
 (bif s1.arrow then
  grd ((0+([s1.dom,s1.cod]:List _).length)*8<=140737488355328) <|
  some ([]++[s1.dom,s1.cod])
 else
  some []:Option (List Int)).bind fun l1 =>
 (Dq s1.fields).bind fun x1 =>
 (Dq s1.tags).bind fun x2 =>
 (ML [l1,x1,x2]).bind fun x3 =>
 some x3
theorem PF {s1:AutoState} {r_1:(List Int)} (hm:F7 s1=some r_1):Fn0 Tryz.prog 141 [AutoState.d s1] (.list 1 D.i64 r_1):=by
 unfold F7 at hm;refine Ad Tryz.func141 rfl Tryz.ntmps141 rfl fun H0 fr w0=>?_;refine zq4 ?_;refine Aq (nilE (i:=2) (sz:=1) (f:=D.i64) rfl).refines ?_;refine zq4 ?_;refine Aq (AG (T:=3) (sz:=1) (f:=D.i64)) ?_;refine zq7 ?_;obtain ⟨o_1,hj1,hm1⟩:=bS hm;refine Af [(1,_)] [] (fun (st:(List Int)) (hid:(Option Addr×Nat))=>match st,hid with | l1,(a_r1,cap_r1)=>[(3,.v (.slice a_r1 l1.length cap_r1))]) (fun F (st:(List Int)) (hid:(Option Addr×Nat))=>match st,hid with | l1,(a_r1,cap_r1)=>[row a_r1 cap_r1 3 1 D.i64 l1]) (fun st=>st=o_1) ⟨rfl,trivial⟩ trivial ?_ ?_
 ·refine zcn hj1 (fun hc1 hj1=>?_) (fun hc1 hj1=>?_)
  ·refine zq6 ?_
   refine Ai rfl rfl rfl (zs2 D.i64) ?_;obtain ⟨hg1,hj1⟩:=Aa hj1;refine zap 0 hg1 fun a_r1 cap_r1=>?_;refine Ah (ms':=[_]) rfl ?_;refine zq2 ?_;exact ⟨_,(_,_),Ac hj1,⟨rfl,trivial⟩,⟨rfl,trivial⟩,[],rfl⟩
  ·refine gSp ?_
   exact ⟨_,(_,_),Ac hj1,⟨rfl,trivial⟩,⟨rfl,trivial⟩,[],rfl⟩
 ·rintro l1 ⟨a_r1,cap_r1⟩ hst
  subst hst;refine An (L':=[(3,.v (.slice a_r1 l1.length cap_r1)),(1,_)]) (ms':=[row a_r1 cap_r1 3 1 D.i64 l1]) rfl rfl ?_;refine Hs ?_;obtain ⟨x1,hx2,hm1⟩:=bS hm1;obtain ⟨x2,hx3,hm1⟩:=bS hm1;obtain ⟨x3,hx4,hm1⟩:=bS hm1;refine zdr 10 ?_;refine zq3 ?_;refine zcd (HT hx2) ?_;refine zq2 ?_;refine zcd (HT hx3) ?_;refine AF rfl rfl rfl (.view (peekE (i:=13) 0 rfl rfl rfl) (Ao (xs:=[_,_,_]) (f:=(D.list 1 D.i64)) (l:=[_,_,_]) Tryz.runUnderlying131 Tryz.sizeOf43 Tryz.zeroValue43 rfl rfl rfl (fun _=>⟨rfl,rfl,rfl⟩) rfl)) ?_;refine zcd (Ws hx4) ?_;refine zq3 ?_
  cases hm1;exact Ae zr1
def Df (x4:(List Int)):Nat->(Int×(List Int)×(List Bool))->Option ((List Int)×(List Bool))
 | 0,_=>none
 | n+1,(x5,l6,l7) =>
  bif (decide (x5<(x4.length:Int))) then
   (idx x4 x5).bind fun x6 =>
   (idx l7 x6).bind fun x7 =>
   bif (!x7) then
    (idx l7 x6).bind fun x8 =>
    grd ((l6.length+([x6]:List _).length)*8<=140737488355328) <|
    grd (InR (x5+1)) <|
    Df x4 n ((x5+1),(l6++[x6]),(l7.set (x6).toNat true))
   else
    grd (InR (x5+1)) <|
    Df x4 n ((x5+1),l6,l7)
  else
   some (l6,l7)
def FH (c1:AutoAuto):Nat->((List Int)×(List Bool))->Option (List Int)
 | 0,_=>none
 | n+1,(l1,l2) =>
  bif (decide (0<(l1.length:Int))) then
   (idx l1 0).bind fun x2 =>
   (sli l1 1 (l1.length:Int)).bind fun l3 =>
   ((idx c1.l x2).bind fun x3 =>
   (F7 x3).bind fun x4 =>
   (Df x4 FU (0,l3,l2):Option ((List Int)×(List Bool))).bind fun (l4,l5) =>
   FH c1 n (l4,l5)).bind fun ys=>some (x2::ys)
  else
   some []
def Gp (c1:AutoAuto):Option (List Int):=
 grd (0<=(c1.l.length:Int)) <|
 grd (((c1.l.length:Int)).toNat*1<=140737488355328) <|
 (idx (List.replicate ((c1.l.length:Int)).toNat (false:Bool)) c1.start).bind fun x1 =>
 FH c1 FU ([c1.start],((List.replicate ((c1.l.length:Int)).toNat (false:Bool)).set (c1.start).toNat true))
theorem L8 {c1:AutoAuto} {xs:(List Int)} (hm:Gp c1=some xs):Iter Tryz.prog 140 [.ref (AutoAuto.d c1)] (xs.map fun (p:Int)=>[.i64 p]):=by
 intro y hys J Jx hy tl_0 hJ_0
 have hk_0:0<=xs.length:=Nat.zero_le _
 replace hm:_=some (xs.drop 0):=hm
 unfold Gp at hm;refine Ad Tryz.func140 rfl Tryz.ntmps140 rfl fun H0 fr w0=>?_;refine zq5 ?_;obtain ⟨hg1,hm⟩:=Aa hm;obtain ⟨hg2,hm⟩:=Aa hm;refine Az rfl rfl rfl (DY (f:=D.bool) (z0:=false) Tryz.underlying78 Tryz.type4 rfl rfl rfl (nB rfl) rfl rfl hg1 hg2 (nB rfl)) ?_;rintro _ _ ⟨a_r1,m_r1,cap_r1,rfl,rfl⟩;refine zq7 ?_;obtain ⟨x1,hx3,hm⟩:=bS hm;refine Ai rfl rfl rfl (Aj 0 Tryz.runUnderlying78 Tryz.sizeOf4 rfl rfl rfl hx3) ?_;refine Ip rfl rfl (Bs (off:=0) (z':=true) 0 Tryz.sizeOf4 rfl rfl (Ar hx3).2 rfl rfl rfl rfl rfl rfl (nB rfl) rfl rfl) ?_;rintro _ _ rfl;refine Ah (ms':=[_]++tl_0) rfl ?_;refine zq5 ?_;refine Az rfl rfl rfl (Ay (xs:=[_]) (f:=D.i64) (l:=[_]) Tryz.runUnderlying43 Tryz.sizeOf3 Tryz.zeroValue3 rfl rfl rfl (fun _=>⟨rfl,rfl,rfl⟩) rfl (by simp [maxLen])) ?_;rintro _ _ ⟨a_r2,rfl,rfl⟩;refine zq3 ?_;refine CW (Px 0 rfl rfl) ?_;refine Pp (fun (hid:{p:Nat×List Asrt // p.1<=xs.length/\J p.1 p.2}×(Option Addr×Nat)×Unit)=>xs.drop hid.1.1.1) [(0,_),(1,_),(3,_)] [] (fun (st:((List Int)×(List Bool))) (hid:{p:Nat×List Asrt // p.1<=xs.length/\J p.1 p.2}×(Option Addr×Nat)×Unit)=>match st,hid with | (l1,l2),(⟨(k_3,tl_3),hk_3,hJ_3⟩,(a_r2,cap_r2),_)=>[(4,.v (.slice a_r2 l1.length cap_r2))]) (fun F (st:((List Int)×(List Bool))) (hid:{p:Nat×List Asrt // p.1<=xs.length/\J p.1 p.2}×(Option Addr×Nat)×Unit)=>match st,hid with | (l1,l2),(⟨(k_3,tl_3),hk_3,hJ_3⟩,(a_r2,cap_r2),_)=>[que a_r2 cap_r2 3 1 D.i64 l1,arr a_r1 m_r1 cap_r1 4 1 D.bool l2]++tl_3) (⟨(0,tl_0),hk_0,hJ_0⟩,(_,_),()) hm rfl (fun _=>rfl) ⟨rfl,rfl,rfl,trivial⟩ trivial ⟨rfl,trivial⟩ rfl ?_;rintro n ⟨l1,l2⟩ ⟨⟨⟨k_3,tl_3⟩,hk_3,hJ_3⟩,⟨a_r2,cap_r2⟩,⟨⟩⟩ hm
 replace hm:_=some (xs.drop k_3):=hm
 rw [FH] at hm;refine Av (L':=[(4,.v (.slice a_r2 l1.length cap_r2)),(0,_),(1,_),(3,_)]) (ms':=[que a_r2 cap_r2 3 1 D.i64 l1,arr a_r1 m_r1 cap_r1 4 1 D.bool l2]++tl_3) rfl rfl ?_;refine zq4 ?_;refine Ai rfl rfl rfl (.view (peekQ (i:=19) 0 rfl rfl rfl) (EW Tryz.runUnderlying43 rfl)) ?_;refine zq2 ?_;refine zcn hm (fun hc1 hm=>?_) (fun hc1 hm=>?_)
 ·refine zq5 ?_
  obtain ⟨x2,hx4,hm⟩:=bS hm;refine Ai rfl rfl rfl (.view (peekQ (i:=22) 0 rfl rfl rfl) (oIm Tryz.runUnderlying43 Tryz.sizeOf3 rfl rfl hx4)) ?_;refine zq6 ?_;obtain ⟨l3,hx5,hm⟩:=bS hm;refine Az rfl rfl rfl (P4 0 Tryz.runUnderlying43 Tryz.sizeOf3 rfl rfl rfl rfl hx5) ?_;rintro _ _ ⟨a_r2,cap_r2,rfl,rfl⟩;refine zq7 ?_;obtain ⟨ys_4,hm,he_4⟩:=bS hm;obtain ⟨hy_4,hk_4,rfl⟩:=Qb he_4;refine Az rfl rfl rfl (RG [_,_] tl_3 rfl rfl (hy k_3 _ tl_3 (Tc hy_4) hJ_3)) ?_;rintro _ _ ⟨_ | _,tl_4,rfl,rfl,hJ_4,hs_4⟩
  ·refine zq2 ?_
   refine Ff rfl rfl ?_;refine Ae ?_;exact retK (DR (ms':=tl_4) (drop:=[_,_]) rfl (List.Perm.refl _)) (.inr (hs_4 rfl))
  ·refine zq2 ?_
   refine Dn rfl rfl ?_;refine zq6 ?_;obtain ⟨x3,hx6,hm⟩:=bS hm;refine zq2 ?_;obtain ⟨x4,hx7,hm⟩:=bS hm;refine zc0 (PF hx7) ?_;refine zq3 ?_;obtain ⟨o_1,hj1,hm1⟩:=bS hm;refine Af [(0,_),(1,_),(3,_)] [] (fun (st:((List Int)×(List Bool))) (hid:(Option Addr×Nat)×Unit)=>match st,hid with | (l4,l5),((a_r2,cap_r2),_)=>[(4,.v (.slice a_r2 l4.length cap_r2))]) (fun F (st:((List Int)×(List Bool))) (hid:(Option Addr×Nat)×Unit)=>match st,hid with | (l4,l5),((a_r2,cap_r2),_)=>[que a_r2 cap_r2 3 1 D.i64 l4,arr a_r1 m_r1 cap_r1 4 1 D.bool l5]++tl_4) (fun st=>st=o_1) ⟨rfl,rfl,rfl,trivial⟩ trivial ?_ ?_
   ·refine Am ?_
    refine Ag [(0,_),(1,_),(3,_),(36,_),(37,_)] [] (fun (st:(Int×(List Int)×(List Bool))) (hid:(Option Addr×Nat)×Unit)=>match st,hid with | (x5,l6,l7),((a_r2,cap_r2),_)=>[(4,.v (.slice a_r2 l6.length cap_r2)),(38,.i64 x5)]) (fun F (st:(Int×(List Int)×(List Bool))) (hid:(Option Addr×Nat)×Unit)=>match st,hid with | (x5,l6,l7),((a_r2,cap_r2),_)=>[que a_r2 cap_r2 3 1 D.i64 l6,arr a_r1 m_r1 cap_r1 4 1 D.bool l7]++tl_4) ((_,_),()) hj1 (fun _=>rfl) ⟨rfl,rfl,rfl,rfl,rfl,trivial⟩ trivial ⟨rfl,rfl,trivial⟩ rfl ?_;rintro n ⟨x5,l6,l7⟩ ⟨⟨a_r2,cap_r2⟩,⟨⟩⟩ hj1;rw [Df] at hj1;refine Av (L':=[(4,.v (.slice a_r2 l6.length cap_r2)),(38,.i64 x5),(0,_),(1,_),(3,_),(36,_),(37,_)]) (ms':=[que a_r2 cap_r2 3 1 D.i64 l6,arr a_r1 m_r1 cap_r1 4 1 D.bool l7]++tl_4) rfl rfl ?_;refine zq5 ?_;refine zcn hj1 (fun hc2 hj1=>?_) (fun hc2 hj1=>?_)
    ·refine zq5 ?_
     obtain ⟨x6,hx8,hj1⟩:=bS hj1;refine zq8 ?_;obtain ⟨x7,hx9,hj1⟩:=bS hj1;refine Ai rfl rfl rfl (Aj 1 Tryz.runUnderlying78 Tryz.sizeOf4 rfl rfl rfl hx9) ?_;refine Ai rfl rfl rfl (BI (off:=0) 1 Tryz.isAgg4 rfl rfl (Ar hx9).2 rfl rfl rfl) ?_;refine zq2 ?_;refine zcn hj1 (fun hc3 hj1=>?_) (fun hc3 hj1=>?_)
     ·refine zq4 ?_
      obtain ⟨x8,hx10,hj1⟩:=bS hj1;refine Ai rfl rfl rfl (Aj 1 Tryz.runUnderlying78 Tryz.sizeOf4 rfl rfl rfl hx10) ?_;refine Ip rfl rfl (Bs (off:=0) (z':=true) 1 Tryz.sizeOf4 rfl rfl (Ar hx10).2 rfl rfl rfl rfl rfl rfl (nB rfl) rfl rfl) ?_;rintro _ _ rfl;refine Ah (ms':=[_,_]++tl_4) rfl ?_;refine zq4 ?_;refine Ai rfl rfl rfl (zs1 D.i64) ?_;obtain ⟨hg11,hj1⟩:=Aa hj1;refine Az rfl rfl rfl (NY (a:=_) 0 Tryz.underlying43 Tryz.type3 rfl rfl rfl rfl rfl rfl rfl (fun _=>rfl) (fun _=>rfl) hg11 (BS hg11 rfl)) ?_;rintro _ _ ⟨a_r2,cap_r2,rfl,rfl⟩;refine Ah (ms':=[_,_]++tl_4) rfl ?_;refine zq3 ?_;obtain ⟨hg12,hj1⟩:=Aa hj1;refine zq3 ?_;exact ⟨_,((_,_),()),hj1,⟨rfl,rfl,trivial⟩,⟨rfl,rfl,rfl,rfl,rfl,trivial⟩,[],rfl⟩
     ·refine zq2 ?_
      obtain ⟨hg13,hj1⟩:=Aa hj1;refine zq3 ?_;exact ⟨_,((_,_),()),hj1,⟨rfl,rfl,trivial⟩,⟨rfl,rfl,rfl,rfl,rfl,trivial⟩,[],rfl⟩
    ·refine Au ?_
     exact ⟨_,((_,_),()),Ac hj1,⟨rfl,trivial⟩,⟨rfl,rfl,rfl,trivial⟩,[],rfl⟩
   ·rintro ⟨l4,l5⟩ ⟨⟨a_r2,cap_r2⟩,⟨⟩⟩ hst
    subst hst;refine An (L':=[(4,.v (.slice a_r2 l4.length cap_r2)),(0,_),(1,_),(3,_)]) (ms':=[que a_r2 cap_r2 3 1 D.i64 l4,arr a_r1 m_r1 cap_r1 4 1 D.bool l5]++tl_4) rfl rfl ?_;exact ⟨_,(⟨((k_3+1),tl_4),hk_4,(hJ_4 rfl)⟩,(_,_),()),hm1,⟨rfl,trivial⟩,⟨rfl,rfl,rfl,trivial⟩,[],rfl⟩
 ·refine Au ?_
  exact retKn (DR (ms':=tl_3) (drop:=[_,_]) rfl (List.Perm.refl _)) (.inl (M4 hm hk_3 hJ_3 _))
theorem NM {p0:AutoAuto} :
  Fn0 Tryz.prog 96 [AutoAuto.d p0] (.clo (.func 140) [] [.ref (AutoAuto.d p0)]):=by
 refine Ad Tryz.func96 rfl Tryz.ntmps96 rfl fun H0 fr w0=>?_;refine zq7 ?_;refine Ai rfl rfl rfl (Cw rfl rfl) ?_;refine zq2 ?_;refine Ae ?_;exact retK (A0 rfl (Bn rfl) (Gx _)) (by rfl)
def EE (s1:AutoState):Option Bool:=
 some s1.int
theorem KP {s1:AutoState} {r_1:Bool} (hm:EE s1=some r_1):Fn0 Tryz.prog 60 [AutoState.d s1] (.bool r_1):=by
 unfold EE at hm;refine Ad Tryz.func60 rfl Tryz.ntmps60 rfl fun H0 fr w0=>?_;refine zq11 ?_
 cases hm;exact Ae zr1
def EQ (s1:AutoState):Option Bool:=
 some s1.bool
theorem Ks {s1:AutoState} {r_1:Bool} (hm:EQ s1=some r_1):Fn0 Tryz.prog 61 [AutoState.d s1] (.bool r_1):=by
 unfold EQ at hm;refine Ad Tryz.func61 rfl Tryz.ntmps61 rfl fun H0 fr w0=>?_;refine zq11 ?_
 cases hm;exact Ae zr1
def EL (s1:AutoState):Option Bool:=
 some s1.str
theorem KF {s1:AutoState} {r_1:Bool} (hm:EL s1=some r_1):Fn0 Tryz.prog 62 [AutoState.d s1] (.bool r_1):=by
 unfold EL at hm;refine Ad Tryz.func62 rfl Tryz.ntmps62 rfl fun H0 fr w0=>?_;refine zq11 ?_
 cases hm;exact Ae zr1
def Gz (l1:(List Int)):Option (List Int):=
 grd ((0+l1.length)*8<=140737488355328) <|
 some ([]++l1)
theorem NK {l1:(List Int)} {r_1:(List Int)} (hm:Gz l1=some r_1):Fn0 Tryz.prog 28 [.list 1 D.i64 l1] (.list 1 D.i64 r_1):=by
 unfold Gz at hm;refine Ad Tryz.func28 rfl Tryz.ntmps28 rfl fun H0 fr w0=>?_;refine zq3 ?_;refine Aq (nilE (i:=2) (sz:=1) (f:=D.i64) rfl).refines ?_;refine zq3 ?_;refine Az rfl rfl rfl (Ay (xs:=[]) (f:=D.i64) (l:=[]) Tryz.runUnderlying43 Tryz.sizeOf3 Tryz.zeroValue3 rfl rfl rfl (fun _=>⟨rfl,rfl,rfl⟩) rfl (by simp [maxLen])) ?_;rintro _ _ ⟨a_r1,rfl,rfl⟩;refine zq1 ?_;obtain ⟨hg1,hm⟩:=Aa hm;refine zap 0 hg1 fun a_r1 cap_r1=>?_;refine Ah (ms':=[_]) rfl ?_;refine zq2 ?_;refine CW (peekE (i:=2) 0 rfl rfl rfl).refines ?_
 cases hm;exact Ae zr1
def Cb (x1:AutoState):Nat->(Int×(List AutoEdge)×(List AutoEdge)×Bool×Bool×Bool×Bool×Bool×Bool×Bool×Bool×(List Int)×Int×Int)->Option ((List AutoEdge)×(List AutoEdge)×Bool×Bool×Bool×Bool×Bool×Bool×Bool×Bool×(List Int)×Int×Int)
 | 0,_=>none
 | n+1,(k1,l6,l7,z14,z15,z16,z17,z18,z19,z20,z21,z22,z23,z24) =>
  bif ((decide (k1<(x1.fields.length:Int)))&&(decide (k1<40))) then
   (idx x1.fields k1).bind fun x3 =>
   (idx x1.fields k1).bind fun x4 =>
   grd ((l7.length+([(⟨x3.name,x4.to_⟩:AutoEdge)]:List _).length)*24<=140737488355328) <|
   grd (InR (k1+1)) <|
   Cb x1 n ((k1+1),l6,(l7++[(⟨x3.name,x4.to_⟩:AutoEdge)]),z14,z15,z16,z17,z18,z19,z20,z21,z22,z23,z24)
  else
   some (l6,l7,z14,z15,z16,z17,z18,z19,z20,z21,z22,z23,z24)
def Cc (x1:AutoState):Nat->(Int×(List AutoEdge)×(List AutoEdge)×Bool×Bool×Bool×Bool×Bool×Bool×Bool×Bool×(List Int)×Int×Int)->Option ((List AutoEdge)×(List AutoEdge)×Bool×Bool×Bool×Bool×Bool×Bool×Bool×Bool×(List Int)×Int×Int)
 | 0,_=>none
 | n+1,(k2,l10,l11,z36,z37,z38,z39,z40,z41,z42,z43,z44,z45,z46) =>
  bif ((decide (k2<(x1.tags.length:Int)))&&(decide (k2<40))) then
   (idx x1.tags k2).bind fun x5 =>
   (idx x1.tags k2).bind fun x6 =>
   grd ((l10.length+([(⟨x5.name,x6.to_⟩:AutoEdge)]:List _).length)*24<=140737488355328) <|
   grd (InR (k2+1)) <|
   Cc x1 n ((k2+1),(l10++[(⟨x5.name,x6.to_⟩:AutoEdge)]),l11,z36,z37,z38,z39,z40,z41,z42,z43,z44,z45,z46)
  else
   some (l10,l11,z36,z37,z38,z39,z40,z41,z42,z43,z44,z45,z46)
def Ca (a1:AutoAuto) (most1:Int):Nat->(Int×(List AutoState)×Int)->Option ((List AutoState)×Int)
 | 0,_=>none
 | n+1,(i1,l2,z2) =>
  bif ((decide (i1<(a1.l.length:Int)))&&((decide (i1<most1))||((decide (2000<(a1.l.length:Int)))&&(decide (i1<=2000))))) then
   (idx a1.l i1).bind fun x1 =>
   (sli x1.vars 0 (if 40<(x1.vars.length:Int) then 40 else (x1.vars.length:Int))).bind fun l3 =>
   (Gz l3).bind fun x2 =>
   (Cb x1 FU (0,([]:List AutoEdge),([]:List AutoEdge),x1.plus,x1.all,x1.int,x1.bool,x1.str,x1.arrow,x1.rec_,x1.tag,x2,x1.dom,x1.cod):Option ((List AutoEdge)×(List AutoEdge)×Bool×Bool×Bool×Bool×Bool×Bool×Bool×Bool×(List Int)×Int×Int)).bind fun (l4,l5,z3,z4,z5,z6,z7,z8,z9,z10,z11,z12,z13) =>
   (Cc x1 FU (0,l4,l5,z3,z4,z5,z6,z7,z8,z9,z10,z11,z12,z13):Option ((List AutoEdge)×(List AutoEdge)×Bool×Bool×Bool×Bool×Bool×Bool×Bool×Bool×(List Int)×Int×Int)).bind fun (l8,l9,z25,z26,z27,z28,z29,z30,z31,z32,z33,z34,z35) =>
   grd ((l2.length+([(⟨z25,z26,z27,z28,z29,z30,z31,z32,z33,z34,z35,l9,l8⟩:AutoState)]:List _).length)*96<=140737488355328) <|
   grd (InR (i1+1)) <|
   Ca a1 most1 n ((i1+1),(l2++[(⟨z25,z26,z27,z28,z29,z30,z31,z32,z33,z34,z35,l9,l8⟩:AutoState)]),z2)
  else
   some (l2,z2)
def CD (a1:AutoAuto) (most1:Int):Option AutoAuto:=
 (Ca a1 most1 FU (0,([]:List AutoState),a1.start):Option ((List AutoState)×Int)).bind fun (l1,z1) =>
 some (⟨l1,z1⟩:AutoAuto)
theorem IH {a1:AutoAuto} {most1:Int} {r_1:AutoAuto} (hm:CD a1 most1=some r_1):Fn0 Tryz.prog 7 [AutoAuto.d a1,.i64 most1] (AutoAuto.d r_1):=by
 unfold CD at hm;refine Ad Tryz.func7 rfl Tryz.ntmps7 rfl fun H0 fr w0=>?_;refine zq3 ?_;refine Ev fun b1=>?_;refine zq5 ?_;refine Ai rfl rfl rfl zb27a ?_;refine Ev fun b2=>?_;refine zst 0 ?_;refine Aq (AG (T:=59) (sz:=13) (f:=AutoState.d)) ?_;refine Ah (ms':=[_,box b2 27 [_,_],box b1 27 [_,_]]) rfl ?_;refine zq6 ?_;obtain ⟨o_1,hj1,hm1⟩:=bS hm;refine Af [(4,_),(5,_)] [(2,_)] (fun (st:((List AutoState)×Int)) (hid:(Option Addr×Nat))=>match st,hid with | (l1,z1),(a_r1,cap_r1)=>[]) (fun F (st:((List AutoState)×Int)) (hid:(Option Addr×Nat))=>match st,hid with | (l1,z1),(a_r1,cap_r1)=>[row a_r1 cap_r1 59 13 AutoState.d l1,box b2 27 [.v (.slice a_r1 l1.length cap_r1),.i64 z1],(nthF F 0)]) (fun st=>st=o_1) ⟨rfl,rfl,trivial⟩ ⟨rfl,trivial⟩ ?_ ?_
 ·refine Am ?_
  refine Ag [(1,_),(2,_),(4,_),(5,_)] [(2,_)] (fun (st:(Int×(List AutoState)×Int)) (hid:(Option Addr×Nat))=>match st,hid with | (i1,l2,z2),(a_r1,cap_r1)=>[(6,.i64 i1)]) (fun F (st:(Int×(List AutoState)×Int)) (hid:(Option Addr×Nat))=>match st,hid with | (i1,l2,z2),(a_r1,cap_r1)=>[row a_r1 cap_r1 59 13 AutoState.d l2,box b2 27 [.v (.slice a_r1 l2.length cap_r1),.i64 z2],(nthF F 0)]) (_,_) hj1 (fun _=>rfl) ⟨rfl,rfl,rfl,rfl,trivial⟩ ⟨rfl,trivial⟩ ⟨rfl,trivial⟩ rfl ?_;rintro n ⟨i1,l2,z2⟩ ⟨a_r1,cap_r1⟩ hj1;rw [Ca] at hj1;refine Av (L':=[(6,.i64 i1),(1,_),(2,_),(4,_),(5,_)]) (ms':=[row a_r1 cap_r1 59 13 AutoState.d l2,box b2 27 [.v (.slice a_r1 l2.length cap_r1),.i64 z2],_]) rfl rfl ?_;refine zq9 ?_
  apply CN [(1,_),(2,_),(4,_),(5,_),(6,_)] 14 33 (t:=19) ⟨rfl,rfl,rfl,rfl,rfl,trivial⟩ rfl
  ·intro hg_1 hk1
   refine zq4 ?_
   apply Cy [(1,_),(2,_),(4,_),(5,_),(6,_),(19,_)] 9 32 (t:=23) ⟨rfl,rfl,rfl,rfl,rfl,rfl,trivial⟩ rfl
   ·intro hg_2 hk2
    refine zq5 ?_
    apply CN [(1,_),(2,_),(4,_),(5,_),(6,_),(19,_),(23,_)] 3 31 (t:=28) ⟨rfl,rfl,rfl,rfl,rfl,rfl,rfl,trivial⟩ rfl
    ·intro hg_3 hk3
     refine zq3 ?_;exact zgm hk3
    ·intro hg_3 hk3
     refine zq3 ?_;exact zgm hk3
    refine zq1 ?_;exact zgm hk2
   ·intro hg_2 hk2
    refine zq9 ?_;exact zgm hk2
   refine zq1 ?_;exact zgm hk1
  ·intro hg_1 hk1
   refine zq14 ?_;exact zgm hk1
  refine gNl ?_;refine zcn hj1 (fun hc1 hj1=>?_) (fun hc1 hj1=>?_)
  ·refine zq8 ?_
   obtain ⟨x1,hx1,hj1⟩:=bS hj1;refine Ai rfl rfl rfl (oIm Tryz.runUnderlying22 Tryz.sizeOf46 rfl rfl hx1) ?_;refine zq1 ?_;refine Tl fun b3=>?_;refine zst 0 ?_;refine Ah (ms':=[box b3 46 [_,_,_,_,_,_,_,_,_,_,_,_,_],_,box b2 27 [_,_],box b1 27 [_,_]]) rfl ?_;refine zq2 ?_;obtain ⟨l3,hx2,hj1⟩:=bS hj1;obtain ⟨x2,hx3,hj1⟩:=bS hj1;refine GH 30 [29] Bf (by decide +kernel) (by decide +kernel) rfl (by decide +kernel) ?_;refine AC rfl rfl rfl rfl (oFb RC rfl) ?_;refine AC rfl rfl rfl rfl (oLb 0 Tryz.isAgg4 rfl rfl rfl rfl) ?_;refine AC rfl rfl rfl rfl (oFb Ro rfl) ?_;refine AC rfl rfl rfl rfl (oLb 0 Tryz.isAgg4 rfl rfl rfl rfl) ?_;refine AC rfl rfl rfl rfl (oFb RH rfl) ?_;refine AC rfl rfl rfl rfl (oLb 0 Tryz.isAgg4 rfl rfl rfl rfl) ?_;refine AC rfl rfl rfl rfl (oFb Rn rfl) ?_;refine AC rfl rfl rfl rfl (oLb 0 Tryz.isAgg4 rfl rfl rfl rfl) ?_;refine AC rfl rfl rfl rfl (oFb RJ rfl) ?_;refine AC rfl rfl rfl rfl (oLb 0 Tryz.isAgg4 rfl rfl rfl rfl) ?_;refine AC rfl rfl rfl rfl (oFb Rm rfl) ?_;refine AC rfl rfl rfl rfl (oLb 0 Tryz.isAgg4 rfl rfl rfl rfl) ?_;refine AC rfl rfl rfl rfl (oFb Rk rfl) ?_;refine AC rfl rfl rfl rfl (oLb 0 Tryz.isAgg4 rfl rfl rfl rfl) ?_;refine AC rfl rfl rfl rfl (oFb R4 rfl) ?_;refine AC rfl rfl rfl rfl (oLb 0 Tryz.isAgg4 rfl rfl rfl rfl) ?_;refine AC rfl rfl rfl rfl (oFb RU rfl) ?_;refine AC rfl rfl rfl rfl (oLb 0 Tryz.isAgg3 rfl rfl rfl rfl) ?_;refine AC rfl rfl rfl rfl (oFb O6 rfl) ?_;refine AC rfl rfl rfl rfl (oLb 0 Tryz.isAgg3 rfl rfl rfl rfl) ?_;refine AC rfl rfl rfl rfl (oFb OD rfl) ?_;refine AC rfl rfl rfl rfl (oLb 0 Tryz.isAgg43 rfl rfl rfl rfl) ?_;refine AC rfl rfl rfl rfl (oFb OD rfl) ?_;refine AC rfl rfl rfl rfl (oLb 0 Tryz.isAgg43 rfl rfl rfl rfl) ?_;refine AC rfl rfl rfl rfl (EW Tryz.runUnderlying43 rfl) ?_;refine AC rfl rfl rfl rfl (Wo rfl rfl) ?_;refine AC rfl rfl rfl rfl (Bo Tryz.runUnderlying43 Tryz.sizeOf3 rfl rfl ⟨_,rfl⟩ hx2) ?_;refine AC rfl rfl rfl rfl (BE Tryz.call28 rfl (NK hx3)) ?_;refine AC rfl rfl rfl rfl zb59a ?_;refine ED (R:=fun d A=>∃ b,d = .v (.pointer (some ⟨b,0,none⟩))/\A=box b 59 [.bool false,.bool false,.bool false,.bool false,.bool false,.bool false,.bool false,.bool false,.list 1 D.i64 [],.i64 0,.i64 0,.list 2 AutoEdge.d [],.list 2 AutoEdge.d []]) rfl rfl rfl (OpT.mono (AN Tryz.zeroValue59 (cs:=[.bool false,.bool false,.bool false,.bool false,.bool false,.bool false,.bool false,.bool false,.list 1 D.i64 [],.i64 0,.i64 0,.list 2 AutoEdge.d [],.list 2 AutoEdge.d []]) rfl) (by rintro d ms' ⟨b,rfl,rfl⟩;exact ⟨_,⟨b,rfl,rfl⟩,rfl⟩)) ?_
   refine Ig ?_;rintro _ _ ⟨b4,rfl,rfl⟩;refine zst 0 ?_;refine Aq (AG (T:=62) (sz:=2) (f:=AutoEdge.d)) ?_;refine Aq (AG (T:=62) (sz:=2) (f:=AutoEdge.d)) ?_;refine Ah (ms':=[_,_,box b4 59 [_,_,_,_,_,_,_,_,_,_,_,_,_],box b3 46 [_,_,_,_,_,_,_,_,_,_,_,_,_],_,box b2 27 [_,_],box b1 27 [_,_]]) rfl ?_;refine zq6 ?_;obtain ⟨o_2,hj2,hm2⟩:=bS hj1;refine Af [(1,_),(2,_),(4,_),(5,_),(6,_),(7,_),(8,_)] [(3,_),(4,_),(5,_),(6,_)] (fun (st:((List AutoEdge)×(List AutoEdge)×Bool×Bool×Bool×Bool×Bool×Bool×Bool×Bool×(List Int)×Int×Int)) (hid:(Option Addr×Nat)×(Option Addr×Nat))=>match st,hid with | (l4,l5,z3,z4,z5,z6,z7,z8,z9,z10,z11,z12,z13),((a_r3,cap_r3),(a_r2,cap_r2))=>[]) (fun F (st:((List AutoEdge)×(List AutoEdge)×Bool×Bool×Bool×Bool×Bool×Bool×Bool×Bool×(List Int)×Int×Int)) (hid:(Option Addr×Nat)×(Option Addr×Nat))=>match st,hid with | (l4,l5,z3,z4,z5,z6,z7,z8,z9,z10,z11,z12,z13),((a_r3,cap_r3),(a_r2,cap_r2))=>[row a_r3 cap_r3 62 2 AutoEdge.d l4,row a_r2 cap_r2 62 2 AutoEdge.d l5,box b4 59 [.bool z3,.bool z4,.bool z5,.bool z6,.bool z7,.bool z8,.bool z9,.bool z10,.list 1 D.i64 z11,.i64 z12,.i64 z13,.v (.slice a_r2 l5.length cap_r2),.v (.slice a_r3 l4.length cap_r3)],(nthF F 0),(nthF F 1),(nthF F 2),(nthF F 3)]) (fun st=>st=o_2) ⟨rfl,rfl,rfl,rfl,rfl,rfl,rfl,trivial⟩ ⟨rfl,rfl,rfl,rfl,trivial⟩ ?_ ?_
   ·refine Am ?_
    refine Ag [(1,_),(2,_),(4,_),(5,_),(6,_),(7,_),(8,_)] [(3,_),(4,_),(5,_),(6,_)] (fun (st:(Int×(List AutoEdge)×(List AutoEdge)×Bool×Bool×Bool×Bool×Bool×Bool×Bool×Bool×(List Int)×Int×Int)) (hid:(Option Addr×Nat)×(Option Addr×Nat))=>match st,hid with | (k1,l6,l7,z14,z15,z16,z17,z18,z19,z20,z21,z22,z23,z24),((a_r3,cap_r3),(a_r2,cap_r2))=>[(9,.i64 k1)]) (fun F (st:(Int×(List AutoEdge)×(List AutoEdge)×Bool×Bool×Bool×Bool×Bool×Bool×Bool×Bool×(List Int)×Int×Int)) (hid:(Option Addr×Nat)×(Option Addr×Nat))=>match st,hid with | (k1,l6,l7,z14,z15,z16,z17,z18,z19,z20,z21,z22,z23,z24),((a_r3,cap_r3),(a_r2,cap_r2))=>[row a_r3 cap_r3 62 2 AutoEdge.d l6,row a_r2 cap_r2 62 2 AutoEdge.d l7,box b4 59 [.bool z14,.bool z15,.bool z16,.bool z17,.bool z18,.bool z19,.bool z20,.bool z21,.list 1 D.i64 z22,.i64 z23,.i64 z24,.v (.slice a_r2 l7.length cap_r2),.v (.slice a_r3 l6.length cap_r3)],(nthF F 0),(nthF F 1),(nthF F 2),(nthF F 3)]) ((_,_),(_,_)) hj2 (fun _=>rfl) ⟨rfl,rfl,rfl,rfl,rfl,rfl,rfl,trivial⟩ ⟨rfl,rfl,rfl,rfl,trivial⟩ ⟨rfl,trivial⟩ rfl ?_;rintro n ⟨k1,l6,l7,z14,z15,z16,z17,z18,z19,z20,z21,z22,z23,z24⟩ ⟨⟨a_r3,cap_r3⟩,⟨a_r2,cap_r2⟩⟩ hj2;rw [Cb] at hj2;refine Av (L':=[(9,.i64 k1),(1,_),(2,_),(4,_),(5,_),(6,_),(7,_),(8,_)]) (ms':=[row a_r3 cap_r3 62 2 AutoEdge.d l6,row a_r2 cap_r2 62 2 AutoEdge.d l7,box b4 59 [.bool z14,.bool z15,.bool z16,.bool z17,.bool z18,.bool z19,.bool z20,.bool z21,.list 1 D.i64 z22,.i64 z23,.i64 z24,.v (.slice a_r2 l7.length cap_r2),.v (.slice a_r3 l6.length cap_r3)],_,_,_,_]) rfl rfl ?_;refine zq9 ?_
    apply CN [(1,_),(2,_),(4,_),(5,_),(6,_),(7,_),(8,_),(9,_)] 3 78 (t:=75) ⟨rfl,rfl,rfl,rfl,rfl,rfl,rfl,rfl,trivial⟩ rfl
    ·intro hg_4 hk4
     refine zq3 ?_;exact zgm hk4
    ·intro hg_4 hk4
     refine zq3 ?_;exact zgm hk4
    refine gNl ?_;refine zcn hj2 (fun hc2 hj2=>?_) (fun hc2 hj2=>?_)
    ·refine zq3 ?_
     obtain ⟨x3,hx4,hj2⟩:=bS hj2;obtain ⟨x4,hx5,hj2⟩:=bS hj2;refine zdr 16 ?_;refine zq5 ?_;refine AF rfl rfl rfl (oIm Tryz.runUnderlying44 Tryz.sizeOf61 rfl rfl hx4) ?_;refine zq5 ?_;refine AF rfl rfl rfl (oIm Tryz.runUnderlying44 Tryz.sizeOf61 rfl rfl hx5) ?_;refine zq2 ?_;refine AF rfl rfl rfl zb62a ?_;refine AF rfl rfl rfl (Ao (xs:=[_]) (f:=AutoEdge.d) (l:=[(⟨x3.name,x4.to_⟩:AutoEdge)]) Tryz.runUnderlying57 Tryz.sizeOf62 Tryz.zeroValue62 rfl rfl rfl (fun _=>⟨rfl,rfl,rfl⟩) rfl) ?_;refine Gc ?_;obtain ⟨hg6,hj2⟩:=Aa hj2;refine zap 1 hg6 fun a_r2 cap_r2=>?_;refine Ah (ms':=[_,_,box b4 59 [_,_,_,_,_,_,_,_,_,_,_,_,_],box b3 46 [_,_,_,_,_,_,_,_,_,_,_,_,_],_,box b2 27 [_,_],box b1 27 [_,_]]) rfl ?_;refine zq1 ?_;refine zst 2 ?_;refine Ah (ms':=[_,_,box b4 59 [_,_,_,_,_,_,_,_,_,_,_,_,_],box b3 46 [_,_,_,_,_,_,_,_,_,_,_,_,_],_,box b2 27 [_,_],box b1 27 [_,_]]) rfl ?_;refine zq3 ?_;obtain ⟨hg7,hj2⟩:=Aa hj2;refine zq3 ?_;exact ⟨_,((_,_),(_,_)),hj2,⟨rfl,trivial⟩,⟨rfl,rfl,rfl,rfl,rfl,rfl,rfl,trivial⟩,[],rfl⟩
    ·refine Au ?_
     exact ⟨_,((_,_),(_,_)),Ac hj2,trivial,⟨rfl,rfl,rfl,rfl,rfl,rfl,rfl,trivial⟩,[],rfl⟩
   ·rintro ⟨l4,l5,z3,z4,z5,z6,z7,z8,z9,z10,z11,z12,z13⟩ ⟨⟨a_r3,cap_r3⟩,⟨a_r2,cap_r2⟩⟩ hst
    subst hst;refine An (L':=[(1,_),(2,_),(4,_),(5,_),(6,_),(7,_),(8,_)]) (ms':=[row a_r3 cap_r3 62 2 AutoEdge.d l4,row a_r2 cap_r2 62 2 AutoEdge.d l5,box b4 59 [.bool z3,.bool z4,.bool z5,.bool z6,.bool z7,.bool z8,.bool z9,.bool z10,.list 1 D.i64 z11,.i64 z12,.i64 z13,.v (.slice a_r2 l5.length cap_r2),.v (.slice a_r3 l4.length cap_r3)],_,_,_,_]) rfl rfl ?_;refine zq5 ?_;obtain ⟨o_3,hj3,hm3⟩:=bS hm2;refine Af [(1,_),(2,_),(4,_),(5,_),(6,_),(8,_)] [(3,_),(4,_),(5,_),(6,_)] (fun (st:((List AutoEdge)×(List AutoEdge)×Bool×Bool×Bool×Bool×Bool×Bool×Bool×Bool×(List Int)×Int×Int)) (hid:(Option Addr×Nat)×(Option Addr×Nat))=>match st,hid with | (l8,l9,z25,z26,z27,z28,z29,z30,z31,z32,z33,z34,z35),((a_r3,cap_r3),(a_r2,cap_r2))=>[]) (fun F (st:((List AutoEdge)×(List AutoEdge)×Bool×Bool×Bool×Bool×Bool×Bool×Bool×Bool×(List Int)×Int×Int)) (hid:(Option Addr×Nat)×(Option Addr×Nat))=>match st,hid with | (l8,l9,z25,z26,z27,z28,z29,z30,z31,z32,z33,z34,z35),((a_r3,cap_r3),(a_r2,cap_r2))=>[row a_r3 cap_r3 62 2 AutoEdge.d l8,row a_r2 cap_r2 62 2 AutoEdge.d l9,box b4 59 [.bool z25,.bool z26,.bool z27,.bool z28,.bool z29,.bool z30,.bool z31,.bool z32,.list 1 D.i64 z33,.i64 z34,.i64 z35,.v (.slice a_r2 l9.length cap_r2),.v (.slice a_r3 l8.length cap_r3)],(nthF F 0),(nthF F 1),(nthF F 2),(nthF F 3)]) (fun st=>st=o_3) ⟨rfl,rfl,rfl,rfl,rfl,rfl,trivial⟩ ⟨rfl,rfl,rfl,rfl,trivial⟩ ?_ ?_
    ·refine Am ?_
     refine Ag [(1,_),(2,_),(4,_),(5,_),(6,_),(7,_),(8,_)] [(3,_),(4,_),(5,_),(6,_)] (fun (st:(Int×(List AutoEdge)×(List AutoEdge)×Bool×Bool×Bool×Bool×Bool×Bool×Bool×Bool×(List Int)×Int×Int)) (hid:(Option Addr×Nat)×(Option Addr×Nat))=>match st,hid with | (k2,l10,l11,z36,z37,z38,z39,z40,z41,z42,z43,z44,z45,z46),((a_r3,cap_r3),(a_r2,cap_r2))=>[(10,.i64 k2)]) (fun F (st:(Int×(List AutoEdge)×(List AutoEdge)×Bool×Bool×Bool×Bool×Bool×Bool×Bool×Bool×(List Int)×Int×Int)) (hid:(Option Addr×Nat)×(Option Addr×Nat))=>match st,hid with | (k2,l10,l11,z36,z37,z38,z39,z40,z41,z42,z43,z44,z45,z46),((a_r3,cap_r3),(a_r2,cap_r2))=>[row a_r3 cap_r3 62 2 AutoEdge.d l10,row a_r2 cap_r2 62 2 AutoEdge.d l11,box b4 59 [.bool z36,.bool z37,.bool z38,.bool z39,.bool z40,.bool z41,.bool z42,.bool z43,.list 1 D.i64 z44,.i64 z45,.i64 z46,.v (.slice a_r2 l11.length cap_r2),.v (.slice a_r3 l10.length cap_r3)],(nthF F 0),(nthF F 1),(nthF F 2),(nthF F 3)]) ((_,_),(_,_)) hj3 (fun _=>rfl) ⟨rfl,rfl,rfl,rfl,rfl,rfl,rfl,trivial⟩ ⟨rfl,rfl,rfl,rfl,trivial⟩ ⟨rfl,trivial⟩ rfl ?_;rintro n ⟨k2,l10,l11,z36,z37,z38,z39,z40,z41,z42,z43,z44,z45,z46⟩ ⟨⟨a_r3,cap_r3⟩,⟨a_r2,cap_r2⟩⟩ hj3;rw [Cc] at hj3;refine Av (L':=[(10,.i64 k2),(1,_),(2,_),(4,_),(5,_),(6,_),(7,_),(8,_)]) (ms':=[row a_r3 cap_r3 62 2 AutoEdge.d l10,row a_r2 cap_r2 62 2 AutoEdge.d l11,box b4 59 [.bool z36,.bool z37,.bool z38,.bool z39,.bool z40,.bool z41,.bool z42,.bool z43,.list 1 D.i64 z44,.i64 z45,.i64 z46,.v (.slice a_r2 l11.length cap_r2),.v (.slice a_r3 l10.length cap_r3)],_,_,_,_]) rfl rfl ?_;refine zq9 ?_
     apply CN [(1,_),(2,_),(4,_),(5,_),(6,_),(7,_),(8,_),(10,_)] 3 107 (t:=104) ⟨rfl,rfl,rfl,rfl,rfl,rfl,rfl,rfl,trivial⟩ rfl
     ·intro hg_5 hk5
      refine zq3 ?_;exact zgm hk5
     ·intro hg_5 hk5
      refine zq3 ?_;exact zgm hk5
     refine gNl ?_;refine zcn hj3 (fun hc3 hj3=>?_) (fun hc3 hj3=>?_)
     ·refine zq3 ?_
      obtain ⟨x5,hx8,hj3⟩:=bS hj3;obtain ⟨x6,hx9,hj3⟩:=bS hj3;refine zdr 16 ?_;refine zq5 ?_;refine AF rfl rfl rfl (oIm Tryz.runUnderlying44 Tryz.sizeOf61 rfl rfl hx8) ?_;refine zq5 ?_;refine AF rfl rfl rfl (oIm Tryz.runUnderlying44 Tryz.sizeOf61 rfl rfl hx9) ?_;refine zq2 ?_;refine AF rfl rfl rfl zb62a ?_;refine AF rfl rfl rfl (Ao (xs:=[_]) (f:=AutoEdge.d) (l:=[(⟨x5.name,x6.to_⟩:AutoEdge)]) Tryz.runUnderlying57 Tryz.sizeOf62 Tryz.zeroValue62 rfl rfl rfl (fun _=>⟨rfl,rfl,rfl⟩) rfl) ?_;refine Gc ?_;obtain ⟨hg10,hj3⟩:=Aa hj3;refine zap 0 hg10 fun a_r3 cap_r3=>?_;refine Ah (ms':=[_,_,box b4 59 [_,_,_,_,_,_,_,_,_,_,_,_,_],box b3 46 [_,_,_,_,_,_,_,_,_,_,_,_,_],_,box b2 27 [_,_],box b1 27 [_,_]]) rfl ?_;refine zq1 ?_;refine zst 2 ?_;refine Ah (ms':=[_,_,box b4 59 [_,_,_,_,_,_,_,_,_,_,_,_,_],box b3 46 [_,_,_,_,_,_,_,_,_,_,_,_,_],_,box b2 27 [_,_],box b1 27 [_,_]]) rfl ?_;refine zq3 ?_;obtain ⟨hg11,hj3⟩:=Aa hj3;refine zq3 ?_;exact ⟨_,((_,_),(_,_)),hj3,⟨rfl,trivial⟩,⟨rfl,rfl,rfl,rfl,rfl,rfl,rfl,trivial⟩,[],rfl⟩
     ·refine Au ?_
      exact ⟨_,((_,_),(_,_)),Ac hj3,trivial,⟨rfl,rfl,rfl,rfl,rfl,rfl,trivial⟩,[],rfl⟩
    ·rintro ⟨l8,l9,z25,z26,z27,z28,z29,z30,z31,z32,z33,z34,z35⟩ ⟨⟨a_r3,cap_r3⟩,⟨a_r2,cap_r2⟩⟩ hst
     subst hst;refine An (L':=[(1,_),(2,_),(4,_),(5,_),(6,_),(8,_)]) (ms':=[row a_r3 cap_r3 62 2 AutoEdge.d l8,row a_r2 cap_r2 62 2 AutoEdge.d l9,box b4 59 [.bool z25,.bool z26,.bool z27,.bool z28,.bool z29,.bool z30,.bool z31,.bool z32,.list 1 D.i64 z33,.i64 z34,.i64 z35,.v (.slice a_r2 l9.length cap_r2),.v (.slice a_r3 l8.length cap_r3)],_,_,_,_]) rfl rfl ?_;refine zq4 ?_;refine Aq (CU (i:=130) (q:=11) 1 rfl rfl rfl rfl rfl).refines ?_;refine Aq (CU (i:=130) (q:=12) 0 rfl rfl rfl rfl rfl).refines ?_;refine Ai rfl rfl rfl (Ao (xs:=[_]) (f:=AutoState.d) (l:=[(⟨z25,z26,z27,z28,z29,z30,z31,z32,z33,z34,z35,l9,l8⟩:AutoState)]) Tryz.runUnderlying25 Tryz.sizeOf59 Tryz.zeroValue59 rfl rfl rfl (fun _=>⟨rfl,rfl,rfl⟩) rfl) ?_;obtain ⟨hg12,hm3⟩:=Aa hm3;refine zap 4 hg12 fun a_r1 cap_r1=>?_;refine Ah (ms':=[_,_,box b4 59 [_,_,_,_,_,_,_,_,_,_,_,_,_],box b3 46 [_,_,_,_,_,_,_,_,_,_,_,_,_],_,box b2 27 [_,_],box b1 27 [_,_]]) rfl ?_;refine zq1 ?_;refine zst 5 ?_;refine Ah (ms':=[_,_,box b4 59 [_,_,_,_,_,_,_,_,_,_,_,_,_],box b3 46 [_,_,_,_,_,_,_,_,_,_,_,_,_],_,box b2 27 [_,_],box b1 27 [_,_]]) rfl ?_;refine zq3 ?_;obtain ⟨hg13,hm3⟩:=Aa hm3;refine zq3 ?_;exact ⟨_,(_,_),hm3,⟨rfl,trivial⟩,⟨rfl,rfl,rfl,rfl,trivial⟩,[_,_,_,_],rfl⟩
  ·refine Au ?_
   exact ⟨_,(_,_),Ac hj1,trivial,⟨rfl,rfl,trivial⟩,[],rfl⟩
 ·rintro ⟨l1,z1⟩ ⟨a_r1,cap_r1⟩ hst
  subst hst;refine An (L':=[(4,_),(5,_)]) (ms':=[row a_r1 cap_r1 59 13 AutoState.d l1,box b2 27 [.v (.slice a_r1 l1.length cap_r1),.i64 z1],_]) rfl rfl ?_;refine zq3 ?_;refine Aq (CU (i:=134) (q:=0) 0 rfl rfl rfl rfl rfl).refines ?_;refine zst 2 ?_;refine Ah (ms':=[_,box b2 27 [_,_],box b1 27 [_,_]]) rfl ?_;refine gNl ?_
  cases hm1;exact Ae zr1
def B0 (x1:AutoState):Nat->(Int×(List AutoEdge)×(List AutoEdge)×Bool×Bool×Bool×Bool×Bool×Bool×Bool×Bool×(List Int)×Int×Int)->Option ((List AutoEdge)×(List AutoEdge)×Bool×Bool×Bool×Bool×Bool×Bool×Bool×Bool×(List Int)×Int×Int)
 | 0,_=>none
 | n+1,(k1,l5,l6,z14,z15,z16,z17,z18,z19,z20,z21,z22,z23,z24) =>
  bif (decide (k1<(x1.fields.length:Int))) then
   (idx x1.fields k1).bind fun x3 =>
   (idx x1.fields k1).bind fun x4 =>
   grd ((l6.length+([(⟨x3.name,x4.to_⟩:AutoEdge)]:List _).length)*24<=140737488355328) <|
   grd (InR (k1+1)) <|
   B0 x1 n ((k1+1),l5,(l6++[(⟨x3.name,x4.to_⟩:AutoEdge)]),z14,z15,z16,z17,z18,z19,z20,z21,z22,z23,z24)
  else
   some (l5,l6,z14,z15,z16,z17,z18,z19,z20,z21,z22,z23,z24)
def BW (x1:AutoState):Nat->(Int×(List AutoEdge)×(List AutoEdge)×Bool×Bool×Bool×Bool×Bool×Bool×Bool×Bool×(List Int)×Int×Int)->Option ((List AutoEdge)×(List AutoEdge)×Bool×Bool×Bool×Bool×Bool×Bool×Bool×Bool×(List Int)×Int×Int)
 | 0,_=>none
 | n+1,(k2,l9,l10,z36,z37,z38,z39,z40,z41,z42,z43,z44,z45,z46) =>
  bif (decide (k2<(x1.tags.length:Int))) then
   (idx x1.tags k2).bind fun x5 =>
   (idx x1.tags k2).bind fun x6 =>
   grd ((l9.length+([(⟨x5.name,x6.to_⟩:AutoEdge)]:List _).length)*24<=140737488355328) <|
   grd (InR (k2+1)) <|
   BW x1 n ((k2+1),(l9++[(⟨x5.name,x6.to_⟩:AutoEdge)]),l10,z36,z37,z38,z39,z40,z41,z42,z43,z44,z45,z46)
  else
   some (l9,l10,z36,z37,z38,z39,z40,z41,z42,z43,z44,z45,z46)
def BY (a1:AutoAuto):Nat->(Int×(List AutoState)×Int)->Option ((List AutoState)×Int)
 | 0,_=>none
 | n+1,(i1,l2,z2) =>
  bif (decide (i1<(a1.l.length:Int))) then
   (idx a1.l i1).bind fun x1 =>
   (Gz x1.vars).bind fun x2 =>
   (B0 x1 FU (0,([]:List AutoEdge),([]:List AutoEdge),x1.plus,x1.all,x1.int,x1.bool,x1.str,x1.arrow,x1.rec_,x1.tag,x2,x1.dom,x1.cod):Option ((List AutoEdge)×(List AutoEdge)×Bool×Bool×Bool×Bool×Bool×Bool×Bool×Bool×(List Int)×Int×Int)).bind fun (l3,l4,z3,z4,z5,z6,z7,z8,z9,z10,z11,z12,z13) =>
   (BW x1 FU (0,l3,l4,z3,z4,z5,z6,z7,z8,z9,z10,z11,z12,z13):Option ((List AutoEdge)×(List AutoEdge)×Bool×Bool×Bool×Bool×Bool×Bool×Bool×Bool×(List Int)×Int×Int)).bind fun (l7,l8,z25,z26,z27,z28,z29,z30,z31,z32,z33,z34,z35) =>
   grd ((l2.length+([(⟨z25,z26,z27,z28,z29,z30,z31,z32,z33,z34,z35,l8,l7⟩:AutoState)]:List _).length)*96<=140737488355328) <|
   grd (InR (i1+1)) <|
   BY a1 n ((i1+1),(l2++[(⟨z25,z26,z27,z28,z29,z30,z31,z32,z33,z34,z35,l8,l7⟩:AutoState)]),z2)
  else
   some (l2,z2)
def B7 (a1:AutoAuto):Option AutoAuto:=
 (BY a1 FU (0,([]:List AutoState),a1.start):Option ((List AutoState)×Int)).bind fun (l1,z1) =>
 some (⟨l1,z1⟩:AutoAuto)
theorem D9 {a1:AutoAuto} {r_1:AutoAuto} (hm:B7 a1=some r_1):Fn0 Tryz.prog 9 [AutoAuto.d a1] (AutoAuto.d r_1):=by
 unfold B7 at hm;refine Ad Tryz.func9 rfl Tryz.ntmps9 rfl fun H0 fr w0=>?_;refine zq3 ?_;refine TY fun b1=>?_;refine zq5 ?_;refine Ai rfl rfl rfl zb24a ?_;refine TY fun b2=>?_;refine zst 0 ?_;refine Aq (AG (T:=46) (sz:=13) (f:=AutoState.d)) ?_;refine Ah (ms':=[_,box b2 24 [_,_],box b1 24 [_,_]]) rfl ?_;refine zq6 ?_;obtain ⟨o_1,hj1,hm1⟩:=bS hm;refine Af [(2,_),(3,_)] [(2,_)] (fun (st:((List AutoState)×Int)) (hid:(Option Addr×Nat))=>match st,hid with | (l1,z1),(a_r1,cap_r1)=>[]) (fun F (st:((List AutoState)×Int)) (hid:(Option Addr×Nat))=>match st,hid with | (l1,z1),(a_r1,cap_r1)=>[row a_r1 cap_r1 46 13 AutoState.d l1,box b2 24 [.v (.slice a_r1 l1.length cap_r1),.i64 z1],(nthF F 0)]) (fun st=>st=o_1) ⟨rfl,rfl,trivial⟩ ⟨rfl,trivial⟩ ?_ ?_
 ·refine Am ?_
  refine Ag [(1,_),(2,_),(3,_)] [(2,_)] (fun (st:(Int×(List AutoState)×Int)) (hid:(Option Addr×Nat))=>match st,hid with | (i1,l2,z2),(a_r1,cap_r1)=>[(4,.i64 i1)]) (fun F (st:(Int×(List AutoState)×Int)) (hid:(Option Addr×Nat))=>match st,hid with | (i1,l2,z2),(a_r1,cap_r1)=>[row a_r1 cap_r1 46 13 AutoState.d l2,box b2 24 [.v (.slice a_r1 l2.length cap_r1),.i64 z2],(nthF F 0)]) (_,_) hj1 (fun _=>rfl) ⟨rfl,rfl,rfl,trivial⟩ ⟨rfl,trivial⟩ ⟨rfl,trivial⟩ rfl ?_;rintro n ⟨i1,l2,z2⟩ ⟨a_r1,cap_r1⟩ hj1;rw [BY] at hj1;refine Av (L':=[(4,.i64 i1),(1,_),(2,_),(3,_)]) (ms':=[row a_r1 cap_r1 46 13 AutoState.d l2,box b2 24 [.v (.slice a_r1 l2.length cap_r1),.i64 z2],_]) rfl rfl ?_;refine zq9 ?_;refine zcn hj1 (fun hc1 hj1=>?_) (fun hc1 hj1=>?_)
  ·refine zq8 ?_
   obtain ⟨x1,hx1,hj1⟩:=bS hj1;refine Ai rfl rfl rfl (oIm Tryz.runUnderlying25 Tryz.sizeOf59 rfl rfl hx1) ?_;refine zq1 ?_;refine Me fun b3=>?_;refine zst 0 ?_;refine Ah (ms':=[box b3 59 [_,_,_,_,_,_,_,_,_,_,_,_,_],_,box b2 24 [_,_],box b1 24 [_,_]]) rfl ?_;refine zq2 ?_;obtain ⟨x2,hx2,hj1⟩:=bS hj1;refine GH 25 [24] Bf (by decide +kernel) (by decide +kernel) rfl (by decide +kernel) ?_;refine AC rfl rfl rfl rfl (oFb R1 rfl) ?_;refine AC rfl rfl rfl rfl (oLb 0 Tryz.isAgg4 rfl rfl rfl rfl) ?_;refine AC rfl rfl rfl rfl (oFb Rd rfl) ?_;refine AC rfl rfl rfl rfl (oLb 0 Tryz.isAgg4 rfl rfl rfl rfl) ?_;refine AC rfl rfl rfl rfl (oFb RN rfl) ?_;refine AC rfl rfl rfl rfl (oLb 0 Tryz.isAgg4 rfl rfl rfl rfl) ?_;refine AC rfl rfl rfl rfl (oFb Rg rfl) ?_;refine AC rfl rfl rfl rfl (oLb 0 Tryz.isAgg4 rfl rfl rfl rfl) ?_;refine AC rfl rfl rfl rfl (oFb Rx rfl) ?_;refine AC rfl rfl rfl rfl (oLb 0 Tryz.isAgg4 rfl rfl rfl rfl) ?_;refine AC rfl rfl rfl rfl (oFb R3 rfl) ?_;refine AC rfl rfl rfl rfl (oLb 0 Tryz.isAgg4 rfl rfl rfl rfl) ?_;refine AC rfl rfl rfl rfl (oFb Rj rfl) ?_;refine AC rfl rfl rfl rfl (oLb 0 Tryz.isAgg4 rfl rfl rfl rfl) ?_;refine AC rfl rfl rfl rfl (oFb RA rfl) ?_;refine AC rfl rfl rfl rfl (oLb 0 Tryz.isAgg4 rfl rfl rfl rfl) ?_;refine AC rfl rfl rfl rfl (oFb I8 rfl) ?_;refine AC rfl rfl rfl rfl (oLb 0 Tryz.isAgg3 rfl rfl rfl rfl) ?_;refine AC rfl rfl rfl rfl (oFb HA rfl) ?_;refine AC rfl rfl rfl rfl (oLb 0 Tryz.isAgg3 rfl rfl rfl rfl) ?_;refine AC rfl rfl rfl rfl (oFb Gn rfl) ?_;refine AC rfl rfl rfl rfl (oLb 0 Tryz.isAgg43 rfl rfl rfl rfl) ?_;refine AC rfl rfl rfl rfl (BE Tryz.call28 rfl (NK hx2)) ?_;refine AC rfl rfl rfl rfl zb46a ?_;refine ED (R:=fun d A=>∃ b,d = .v (.pointer (some ⟨b,0,none⟩))/\A=box b 46 [.bool false,.bool false,.bool false,.bool false,.bool false,.bool false,.bool false,.bool false,.list 1 D.i64 [],.i64 0,.i64 0,.list 2 AutoEdge.d [],.list 2 AutoEdge.d []]) rfl rfl rfl (OpT.mono (AN Tryz.zeroValue46 (cs:=[.bool false,.bool false,.bool false,.bool false,.bool false,.bool false,.bool false,.bool false,.list 1 D.i64 [],.i64 0,.i64 0,.list 2 AutoEdge.d [],.list 2 AutoEdge.d []]) rfl) (by rintro d ms' ⟨b,rfl,rfl⟩;exact ⟨_,⟨b,rfl,rfl⟩,rfl⟩)) ?_;refine Ig ?_;rintro _ _ ⟨b4,rfl,rfl⟩;refine zst 0 ?_;refine Aq (AG (T:=61) (sz:=2) (f:=AutoEdge.d)) ?_;refine Aq (AG (T:=61) (sz:=2) (f:=AutoEdge.d)) ?_;refine Ah (ms':=[_,_,box b4 46 [_,_,_,_,_,_,_,_,_,_,_,_,_],box b3 59 [_,_,_,_,_,_,_,_,_,_,_,_,_],_,box b2 24 [_,_],box b1 24 [_,_]]) rfl ?_
   refine zq6 ?_;obtain ⟨o_2,hj2,hm2⟩:=bS hj1;refine Af [(1,_),(2,_),(3,_),(4,_),(5,_),(6,_)] [(3,_),(4,_),(5,_),(6,_)] (fun (st:((List AutoEdge)×(List AutoEdge)×Bool×Bool×Bool×Bool×Bool×Bool×Bool×Bool×(List Int)×Int×Int)) (hid:(Option Addr×Nat)×(Option Addr×Nat))=>match st,hid with | (l3,l4,z3,z4,z5,z6,z7,z8,z9,z10,z11,z12,z13),((a_r3,cap_r3),(a_r2,cap_r2))=>[]) (fun F (st:((List AutoEdge)×(List AutoEdge)×Bool×Bool×Bool×Bool×Bool×Bool×Bool×Bool×(List Int)×Int×Int)) (hid:(Option Addr×Nat)×(Option Addr×Nat))=>match st,hid with | (l3,l4,z3,z4,z5,z6,z7,z8,z9,z10,z11,z12,z13),((a_r3,cap_r3),(a_r2,cap_r2))=>[row a_r3 cap_r3 61 2 AutoEdge.d l3,row a_r2 cap_r2 61 2 AutoEdge.d l4,box b4 46 [.bool z3,.bool z4,.bool z5,.bool z6,.bool z7,.bool z8,.bool z9,.bool z10,.list 1 D.i64 z11,.i64 z12,.i64 z13,.v (.slice a_r2 l4.length cap_r2),.v (.slice a_r3 l3.length cap_r3)],(nthF F 0),(nthF F 1),(nthF F 2),(nthF F 3)]) (fun st=>st=o_2) ⟨rfl,rfl,rfl,rfl,rfl,rfl,trivial⟩ ⟨rfl,rfl,rfl,rfl,trivial⟩ ?_ ?_
   ·refine Am ?_
    refine Ag [(1,_),(2,_),(3,_),(4,_),(5,_),(6,_)] [(3,_),(4,_),(5,_),(6,_)] (fun (st:(Int×(List AutoEdge)×(List AutoEdge)×Bool×Bool×Bool×Bool×Bool×Bool×Bool×Bool×(List Int)×Int×Int)) (hid:(Option Addr×Nat)×(Option Addr×Nat))=>match st,hid with | (k1,l5,l6,z14,z15,z16,z17,z18,z19,z20,z21,z22,z23,z24),((a_r3,cap_r3),(a_r2,cap_r2))=>[(7,.i64 k1)]) (fun F (st:(Int×(List AutoEdge)×(List AutoEdge)×Bool×Bool×Bool×Bool×Bool×Bool×Bool×Bool×(List Int)×Int×Int)) (hid:(Option Addr×Nat)×(Option Addr×Nat))=>match st,hid with | (k1,l5,l6,z14,z15,z16,z17,z18,z19,z20,z21,z22,z23,z24),((a_r3,cap_r3),(a_r2,cap_r2))=>[row a_r3 cap_r3 61 2 AutoEdge.d l5,row a_r2 cap_r2 61 2 AutoEdge.d l6,box b4 46 [.bool z14,.bool z15,.bool z16,.bool z17,.bool z18,.bool z19,.bool z20,.bool z21,.list 1 D.i64 z22,.i64 z23,.i64 z24,.v (.slice a_r2 l6.length cap_r2),.v (.slice a_r3 l5.length cap_r3)],(nthF F 0),(nthF F 1),(nthF F 2),(nthF F 3)]) ((_,_),(_,_)) hj2 (fun _=>rfl) ⟨rfl,rfl,rfl,rfl,rfl,rfl,trivial⟩ ⟨rfl,rfl,rfl,rfl,trivial⟩ ⟨rfl,trivial⟩ rfl ?_;rintro n ⟨k1,l5,l6,z14,z15,z16,z17,z18,z19,z20,z21,z22,z23,z24⟩ ⟨⟨a_r3,cap_r3⟩,⟨a_r2,cap_r2⟩⟩ hj2;rw [B0] at hj2;refine Av (L':=[(7,.i64 k1),(1,_),(2,_),(3,_),(4,_),(5,_),(6,_)]) (ms':=[row a_r3 cap_r3 61 2 AutoEdge.d l5,row a_r2 cap_r2 61 2 AutoEdge.d l6,box b4 46 [.bool z14,.bool z15,.bool z16,.bool z17,.bool z18,.bool z19,.bool z20,.bool z21,.list 1 D.i64 z22,.i64 z23,.i64 z24,.v (.slice a_r2 l6.length cap_r2),.v (.slice a_r3 l5.length cap_r3)],_,_,_,_]) rfl rfl ?_;refine zq9 ?_;refine zcn hj2 (fun hc2 hj2=>?_) (fun hc2 hj2=>?_)
    ·refine zq3 ?_
     obtain ⟨x3,hx3,hj2⟩:=bS hj2;obtain ⟨x4,hx4,hj2⟩:=bS hj2;refine zdr 16 ?_;refine zq5 ?_;refine AF rfl rfl rfl (oIm Tryz.runUnderlying57 Tryz.sizeOf62 rfl rfl hx3) ?_;refine zq5 ?_;refine AF rfl rfl rfl (oIm Tryz.runUnderlying57 Tryz.sizeOf62 rfl rfl hx4) ?_;refine zq2 ?_;refine AF rfl rfl rfl zb61a ?_;refine AF rfl rfl rfl (Ao (xs:=[_]) (f:=AutoEdge.d) (l:=[(⟨x3.name,x4.to_⟩:AutoEdge)]) Tryz.runUnderlying44 Tryz.sizeOf61 Tryz.zeroValue61 rfl rfl rfl (fun _=>⟨rfl,rfl,rfl⟩) rfl) ?_;refine Gc ?_;obtain ⟨hg5,hj2⟩:=Aa hj2;refine zap 1 hg5 fun a_r2 cap_r2=>?_;refine Ah (ms':=[_,_,box b4 46 [_,_,_,_,_,_,_,_,_,_,_,_,_],box b3 59 [_,_,_,_,_,_,_,_,_,_,_,_,_],_,box b2 24 [_,_],box b1 24 [_,_]]) rfl ?_;refine zq1 ?_;refine zst 2 ?_;refine Ah (ms':=[_,_,box b4 46 [_,_,_,_,_,_,_,_,_,_,_,_,_],box b3 59 [_,_,_,_,_,_,_,_,_,_,_,_,_],_,box b2 24 [_,_],box b1 24 [_,_]]) rfl ?_;refine zq3 ?_;obtain ⟨hg6,hj2⟩:=Aa hj2;refine zq3 ?_;exact ⟨_,((_,_),(_,_)),hj2,⟨rfl,trivial⟩,⟨rfl,rfl,rfl,rfl,rfl,rfl,trivial⟩,[],rfl⟩
    ·refine Au ?_
     exact ⟨_,((_,_),(_,_)),Ac hj2,trivial,⟨rfl,rfl,rfl,rfl,rfl,rfl,trivial⟩,[],rfl⟩
   ·rintro ⟨l3,l4,z3,z4,z5,z6,z7,z8,z9,z10,z11,z12,z13⟩ ⟨⟨a_r3,cap_r3⟩,⟨a_r2,cap_r2⟩⟩ hst
    subst hst;refine An (L':=[(1,_),(2,_),(3,_),(4,_),(5,_),(6,_)]) (ms':=[row a_r3 cap_r3 61 2 AutoEdge.d l3,row a_r2 cap_r2 61 2 AutoEdge.d l4,box b4 46 [.bool z3,.bool z4,.bool z5,.bool z6,.bool z7,.bool z8,.bool z9,.bool z10,.list 1 D.i64 z11,.i64 z12,.i64 z13,.v (.slice a_r2 l4.length cap_r2),.v (.slice a_r3 l3.length cap_r3)],_,_,_,_]) rfl rfl ?_;refine zq5 ?_;obtain ⟨o_3,hj3,hm3⟩:=bS hm2;refine Af [(1,_),(2,_),(3,_),(4,_),(6,_)] [(3,_),(4,_),(5,_),(6,_)] (fun (st:((List AutoEdge)×(List AutoEdge)×Bool×Bool×Bool×Bool×Bool×Bool×Bool×Bool×(List Int)×Int×Int)) (hid:(Option Addr×Nat)×(Option Addr×Nat))=>match st,hid with | (l7,l8,z25,z26,z27,z28,z29,z30,z31,z32,z33,z34,z35),((a_r3,cap_r3),(a_r2,cap_r2))=>[]) (fun F (st:((List AutoEdge)×(List AutoEdge)×Bool×Bool×Bool×Bool×Bool×Bool×Bool×Bool×(List Int)×Int×Int)) (hid:(Option Addr×Nat)×(Option Addr×Nat))=>match st,hid with | (l7,l8,z25,z26,z27,z28,z29,z30,z31,z32,z33,z34,z35),((a_r3,cap_r3),(a_r2,cap_r2))=>[row a_r3 cap_r3 61 2 AutoEdge.d l7,row a_r2 cap_r2 61 2 AutoEdge.d l8,box b4 46 [.bool z25,.bool z26,.bool z27,.bool z28,.bool z29,.bool z30,.bool z31,.bool z32,.list 1 D.i64 z33,.i64 z34,.i64 z35,.v (.slice a_r2 l8.length cap_r2),.v (.slice a_r3 l7.length cap_r3)],(nthF F 0),(nthF F 1),(nthF F 2),(nthF F 3)]) (fun st=>st=o_3) ⟨rfl,rfl,rfl,rfl,rfl,trivial⟩ ⟨rfl,rfl,rfl,rfl,trivial⟩ ?_ ?_
    ·refine Am ?_
     refine Ag [(1,_),(2,_),(3,_),(4,_),(5,_),(6,_)] [(3,_),(4,_),(5,_),(6,_)] (fun (st:(Int×(List AutoEdge)×(List AutoEdge)×Bool×Bool×Bool×Bool×Bool×Bool×Bool×Bool×(List Int)×Int×Int)) (hid:(Option Addr×Nat)×(Option Addr×Nat))=>match st,hid with | (k2,l9,l10,z36,z37,z38,z39,z40,z41,z42,z43,z44,z45,z46),((a_r3,cap_r3),(a_r2,cap_r2))=>[(8,.i64 k2)]) (fun F (st:(Int×(List AutoEdge)×(List AutoEdge)×Bool×Bool×Bool×Bool×Bool×Bool×Bool×Bool×(List Int)×Int×Int)) (hid:(Option Addr×Nat)×(Option Addr×Nat))=>match st,hid with | (k2,l9,l10,z36,z37,z38,z39,z40,z41,z42,z43,z44,z45,z46),((a_r3,cap_r3),(a_r2,cap_r2))=>[row a_r3 cap_r3 61 2 AutoEdge.d l9,row a_r2 cap_r2 61 2 AutoEdge.d l10,box b4 46 [.bool z36,.bool z37,.bool z38,.bool z39,.bool z40,.bool z41,.bool z42,.bool z43,.list 1 D.i64 z44,.i64 z45,.i64 z46,.v (.slice a_r2 l10.length cap_r2),.v (.slice a_r3 l9.length cap_r3)],(nthF F 0),(nthF F 1),(nthF F 2),(nthF F 3)]) ((_,_),(_,_)) hj3 (fun _=>rfl) ⟨rfl,rfl,rfl,rfl,rfl,rfl,trivial⟩ ⟨rfl,rfl,rfl,rfl,trivial⟩ ⟨rfl,trivial⟩ rfl ?_;rintro n ⟨k2,l9,l10,z36,z37,z38,z39,z40,z41,z42,z43,z44,z45,z46⟩ ⟨⟨a_r3,cap_r3⟩,⟨a_r2,cap_r2⟩⟩ hj3;rw [BW] at hj3;refine Av (L':=[(8,.i64 k2),(1,_),(2,_),(3,_),(4,_),(5,_),(6,_)]) (ms':=[row a_r3 cap_r3 61 2 AutoEdge.d l9,row a_r2 cap_r2 61 2 AutoEdge.d l10,box b4 46 [.bool z36,.bool z37,.bool z38,.bool z39,.bool z40,.bool z41,.bool z42,.bool z43,.list 1 D.i64 z44,.i64 z45,.i64 z46,.v (.slice a_r2 l10.length cap_r2),.v (.slice a_r3 l9.length cap_r3)],_,_,_,_]) rfl rfl ?_;refine zq9 ?_;refine zcn hj3 (fun hc3 hj3=>?_) (fun hc3 hj3=>?_)
     ·refine zq3 ?_
      obtain ⟨x5,hx7,hj3⟩:=bS hj3;obtain ⟨x6,hx8,hj3⟩:=bS hj3;refine zdr 16 ?_;refine zq5 ?_;refine AF rfl rfl rfl (oIm Tryz.runUnderlying57 Tryz.sizeOf62 rfl rfl hx7) ?_;refine zq5 ?_;refine AF rfl rfl rfl (oIm Tryz.runUnderlying57 Tryz.sizeOf62 rfl rfl hx8) ?_;refine zq2 ?_;refine AF rfl rfl rfl zb61a ?_;refine AF rfl rfl rfl (Ao (xs:=[_]) (f:=AutoEdge.d) (l:=[(⟨x5.name,x6.to_⟩:AutoEdge)]) Tryz.runUnderlying44 Tryz.sizeOf61 Tryz.zeroValue61 rfl rfl rfl (fun _=>⟨rfl,rfl,rfl⟩) rfl) ?_;refine Gc ?_;obtain ⟨hg9,hj3⟩:=Aa hj3;refine zap 0 hg9 fun a_r3 cap_r3=>?_;refine Ah (ms':=[_,_,box b4 46 [_,_,_,_,_,_,_,_,_,_,_,_,_],box b3 59 [_,_,_,_,_,_,_,_,_,_,_,_,_],_,box b2 24 [_,_],box b1 24 [_,_]]) rfl ?_;refine zq1 ?_;refine zst 2 ?_;refine Ah (ms':=[_,_,box b4 46 [_,_,_,_,_,_,_,_,_,_,_,_,_],box b3 59 [_,_,_,_,_,_,_,_,_,_,_,_,_],_,box b2 24 [_,_],box b1 24 [_,_]]) rfl ?_;refine zq3 ?_;obtain ⟨hg10,hj3⟩:=Aa hj3;refine zq3 ?_;exact ⟨_,((_,_),(_,_)),hj3,⟨rfl,trivial⟩,⟨rfl,rfl,rfl,rfl,rfl,rfl,trivial⟩,[],rfl⟩
     ·refine Au ?_
      exact ⟨_,((_,_),(_,_)),Ac hj3,trivial,⟨rfl,rfl,rfl,rfl,rfl,trivial⟩,[],rfl⟩
    ·rintro ⟨l7,l8,z25,z26,z27,z28,z29,z30,z31,z32,z33,z34,z35⟩ ⟨⟨a_r3,cap_r3⟩,⟨a_r2,cap_r2⟩⟩ hst
     subst hst;refine An (L':=[(1,_),(2,_),(3,_),(4,_),(6,_)]) (ms':=[row a_r3 cap_r3 61 2 AutoEdge.d l7,row a_r2 cap_r2 61 2 AutoEdge.d l8,box b4 46 [.bool z25,.bool z26,.bool z27,.bool z28,.bool z29,.bool z30,.bool z31,.bool z32,.list 1 D.i64 z33,.i64 z34,.i64 z35,.v (.slice a_r2 l8.length cap_r2),.v (.slice a_r3 l7.length cap_r3)],_,_,_,_]) rfl rfl ?_;refine zq4 ?_;refine Aq (CU (i:=100) (q:=11) 1 rfl rfl rfl rfl rfl).refines ?_;refine Aq (CU (i:=100) (q:=12) 0 rfl rfl rfl rfl rfl).refines ?_;refine Ai rfl rfl rfl (Ao (xs:=[_]) (f:=AutoState.d) (l:=[(⟨z25,z26,z27,z28,z29,z30,z31,z32,z33,z34,z35,l8,l7⟩:AutoState)]) Tryz.runUnderlying22 Tryz.sizeOf46 Tryz.zeroValue46 rfl rfl rfl (fun _=>⟨rfl,rfl,rfl⟩) rfl) ?_;obtain ⟨hg11,hm3⟩:=Aa hm3;refine zap 4 hg11 fun a_r1 cap_r1=>?_;refine Ah (ms':=[_,_,box b4 46 [_,_,_,_,_,_,_,_,_,_,_,_,_],box b3 59 [_,_,_,_,_,_,_,_,_,_,_,_,_],_,box b2 24 [_,_],box b1 24 [_,_]]) rfl ?_;refine zq1 ?_;refine zst 5 ?_;refine Ah (ms':=[_,_,box b4 46 [_,_,_,_,_,_,_,_,_,_,_,_,_],box b3 59 [_,_,_,_,_,_,_,_,_,_,_,_,_],_,box b2 24 [_,_],box b1 24 [_,_]]) rfl ?_;refine zq3 ?_;obtain ⟨hg12,hm3⟩:=Aa hm3;refine zq3 ?_;exact ⟨_,(_,_),hm3,⟨rfl,trivial⟩,⟨rfl,rfl,rfl,trivial⟩,[_,_,_,_],rfl⟩
  ·refine Au ?_
   exact ⟨_,(_,_),Ac hj1,trivial,⟨rfl,rfl,trivial⟩,[],rfl⟩
 ·rintro ⟨l1,z1⟩ ⟨a_r1,cap_r1⟩ hst
  subst hst;refine An (L':=[(2,_),(3,_)]) (ms':=[row a_r1 cap_r1 46 13 AutoState.d l1,box b2 24 [.v (.slice a_r1 l1.length cap_r1),.i64 z1],_]) rfl rfl ?_;refine zq3 ?_;refine Aq (CU (i:=104) (q:=0) 0 rfl rfl rfl rfl rfl).refines ?_;refine zst 2 ?_;refine Ah (ms':=[_,box b2 24 [_,_],box b1 24 [_,_]]) rfl ?_;refine gNl ?_
  cases hm1;exact Ae zr1
def Bv (l1:(List AutoEdge)):Nat->(Int×(List AFd))->Option (List AFd)
 | 0,_=>none
 | n+1,(k1,l3) =>
  bif (decide (k1<(l1.length:Int))) then
   (idx l1 k1).bind fun x1 =>
   (idx l1 k1).bind fun x2 =>
   grd ((l3.length+([(⟨x1.name,x2.to_⟩:AFd)]:List _).length)*24<=140737488355328) <|
   grd (InR (k1+1)) <|
   Bv l1 n ((k1+1),(l3++[(⟨x1.name,x2.to_⟩:AFd)]))
  else
   some l3
def BC (l1:(List AutoEdge)):Option (List AFd):=
 (Bv l1 FU (0,[]):Option (List AFd)).bind fun l2 =>
 some l2
theorem Fo {l1:(List AutoEdge)} {r_1:(List AFd)} (hm:BC l1=some r_1):Fn0 Tryz.prog 73 [.list 2 AutoEdge.d l1] (.list 2 AFd.d r_1):=by
 unfold BC at hm;refine Ad Tryz.func73 rfl Tryz.ntmps73 rfl fun H0 fr w0=>?_;refine zq3 ?_;refine Aq (nilE (i:=2) (sz:=2) (f:=AFd.d) rfl).refines ?_;refine zq3 ?_;refine Az rfl rfl rfl (Ay (xs:=[]) (f:=AFd.d) (l:=[]) Tryz.runUnderlying47 Tryz.sizeOf71 Tryz.zeroValue71 rfl rfl rfl (fun _=>⟨rfl,rfl,rfl⟩) rfl (by simp [maxLen])) ?_;rintro _ _ ⟨a_r1,rfl,rfl⟩;refine zq7 ?_;obtain ⟨o_1,hj1,hm1⟩:=bS hm;refine Af [] [] (fun (st:(List AFd)) (hid:(Option Addr×Nat))=>match st,hid with | l2,(a_r1,cap_r1)=>[(3,.v (.slice a_r1 l2.length cap_r1))]) (fun F (st:(List AFd)) (hid:(Option Addr×Nat))=>match st,hid with | l2,(a_r1,cap_r1)=>[row a_r1 cap_r1 71 2 AFd.d l2]) (fun st=>st=o_1) trivial trivial ?_ ?_
 ·refine Am ?_
  refine Ag [(0,_)] [] (fun (st:(Int×(List AFd))) (hid:(Option Addr×Nat))=>match st,hid with | (k1,l3),(a_r1,cap_r1)=>[(3,.v (.slice a_r1 l3.length cap_r1)),(4,.i64 k1)]) (fun F (st:(Int×(List AFd))) (hid:(Option Addr×Nat))=>match st,hid with | (k1,l3),(a_r1,cap_r1)=>[row a_r1 cap_r1 71 2 AFd.d l3]) (_,_) hj1 (fun _=>rfl) ⟨rfl,trivial⟩ trivial ⟨rfl,rfl,trivial⟩ rfl ?_;rintro n ⟨k1,l3⟩ ⟨a_r1,cap_r1⟩ hj1;rw [Bv] at hj1;refine Av (L':=[(3,.v (.slice a_r1 l3.length cap_r1)),(4,.i64 k1),(0,_)]) (ms':=[row a_r1 cap_r1 71 2 AFd.d l3]) rfl rfl ?_;refine zq8 ?_;refine zcn hj1 (fun hc1 hj1=>?_) (fun hc1 hj1=>?_)
  ·refine zq3 ?_
   obtain ⟨x1,hx1,hj1⟩:=bS hj1;obtain ⟨x2,hx2,hj1⟩:=bS hj1;refine zdr 13 ?_;refine zq3 ?_;refine AF rfl rfl rfl (oIm Tryz.runUnderlying44 Tryz.sizeOf61 rfl rfl hx1) ?_;refine zq4 ?_;refine AF rfl rfl rfl (oIm Tryz.runUnderlying44 Tryz.sizeOf61 rfl rfl hx2) ?_;refine zq2 ?_;refine AF rfl rfl rfl zb71a ?_;refine AF rfl rfl rfl (Ao (xs:=[_]) (f:=AFd.d) (l:=[(⟨x1.name,x2.to_⟩:AFd)]) Tryz.runUnderlying47 Tryz.sizeOf71 Tryz.zeroValue71 rfl rfl rfl (fun _=>⟨rfl,rfl,rfl⟩) rfl) ?_;refine Gc ?_;obtain ⟨hg3,hj1⟩:=Aa hj1;refine zap 0 hg3 fun a_r1 cap_r1=>?_;refine Ah (ms':=[_]) rfl ?_;refine zq4 ?_;obtain ⟨hg4,hj1⟩:=Aa hj1;refine zq3 ?_;exact ⟨_,(_,_),hj1,⟨rfl,rfl,trivial⟩,⟨rfl,trivial⟩,[],rfl⟩
  ·refine Au ?_
   exact ⟨_,(_,_),Ac hj1,⟨rfl,trivial⟩,trivial,[],rfl⟩
 ·rintro l2 ⟨a_r1,cap_r1⟩ hst
  subst hst;refine An (L':=[(3,.v (.slice a_r1 l2.length cap_r1))]) (ms':=[row a_r1 cap_r1 71 2 AFd.d l2]) rfl rfl ?_;refine zq5 ?_;refine CW (peekE (i:=2) 0 rfl rfl rfl).refines ?_
  cases hm1;exact Ae zr1
def Bb (s1:AutoState):Nat->(Int×(List ANd))->Option (List ANd)
 | 0,_=>none
 | n+1,(k1,l6) =>
  bif (decide (k1<(s1.vars.length:Int))) then
   (idx s1.vars k1).bind fun x1 =>
   grd ((l6.length+([(⟨11,x1,0,([]:List AFd)⟩:ANd)]:List _).length)*48<=140737488355328) <|
   grd (InR (k1+1)) <|
   Bb s1 n ((k1+1),(l6++[(⟨11,x1,0,([]:List AFd)⟩:ANd)]))
  else
   some l6
def BX (s1:AutoState) (every1:Int):Option (List ANd):=
 (bif s1.all then
  grd ((0+([(⟨every1,0,0,([]:List AFd)⟩:ANd)]:List _).length)*48<=140737488355328) <|
  some ([]++[(⟨every1,0,0,([]:List AFd)⟩:ANd)])
 else
  some []:Option (List ANd)).bind fun l1 =>
 (bif s1.int then
  grd ((l1.length+([(⟨3,0,0,([]:List AFd)⟩:ANd)]:List _).length)*48<=140737488355328) <|
  some (l1++[(⟨3,0,0,([]:List AFd)⟩:ANd)])
 else
  some l1:Option (List ANd)).bind fun l2 =>
 (bif s1.bool then
  grd ((l2.length+([(⟨4,0,0,([]:List AFd)⟩:ANd)]:List _).length)*48<=140737488355328) <|
  some (l2++[(⟨4,0,0,([]:List AFd)⟩:ANd)])
 else
  some l2:Option (List ANd)).bind fun l3 =>
 (bif s1.str then
  grd ((l3.length+([(⟨5,0,0,([]:List AFd)⟩:ANd)]:List _).length)*48<=140737488355328) <|
  some (l3++[(⟨5,0,0,([]:List AFd)⟩:ANd)])
 else
  some l3:Option (List ANd)).bind fun l4 =>
 (Bb s1 FU (0,l4):Option (List ANd)).bind fun l5 =>
 (bif s1.arrow then
  grd ((l5.length+([(⟨6,s1.dom,s1.cod,([]:List AFd)⟩:ANd)]:List _).length)*48<=140737488355328) <|
  some (l5++[(⟨6,s1.dom,s1.cod,([]:List AFd)⟩:ANd)])
 else
  some l5:Option (List ANd)).bind fun l7 =>
 (bif s1.rec_ then
  (BC s1.fields).bind fun x2 =>
  grd ((l7.length+([(⟨7,0,0,x2⟩:ANd)]:List _).length)*48<=140737488355328) <|
  some (l7++[(⟨7,0,0,x2⟩:ANd)])
 else
  some l7:Option (List ANd)).bind fun l8 =>
 bif s1.tag then
  (BC s1.tags).bind fun x3 =>
  grd ((l8.length+([(⟨8,0,0,x3⟩:ANd)]:List _).length)*48<=140737488355328) <|
  some (l8++[(⟨8,0,0,x3⟩:ANd)])
 else
  some l8
theorem Io {s1:AutoState} {every1:Int} {r_1:(List ANd)} (hm:BX s1 every1=some r_1):Fn0 Tryz.prog 42 [AutoState.d s1,.i64 every1] (.list 4 ANd.d r_1):=by
 unfold BX at hm;refine Ad Tryz.func42 rfl Tryz.ntmps42 rfl fun H0 fr w0=>?_;refine zq4 ?_;refine Aq (nilE (i:=4) (sz:=4) (f:=ANd.d) rfl).refines ?_;refine zq3 ?_;refine Az rfl rfl rfl (Ay (xs:=[]) (f:=ANd.d) (l:=[]) Tryz.runUnderlying29 Tryz.sizeOf49 Tryz.zeroValue49 rfl rfl rfl (fun _=>⟨rfl,rfl,rfl⟩) rfl (by simp [maxLen])) ?_;rintro _ _ ⟨a_r1,rfl,rfl⟩;refine zq8 ?_;obtain ⟨o_1,hj1,hm1⟩:=bS hm;refine Af [(2,_)] [] (fun (st:(List ANd)) (hid:(Option Addr×Nat))=>match st,hid with | l1,(a_r1,cap_r1)=>[(5,.v (.slice a_r1 l1.length cap_r1))]) (fun F (st:(List ANd)) (hid:(Option Addr×Nat))=>match st,hid with | l1,(a_r1,cap_r1)=>[row a_r1 cap_r1 49 4 ANd.d l1]) (fun st=>st=o_1) ⟨rfl,trivial⟩ trivial ?_ ?_
 ·refine zcn hj1 (fun hc1 hj1=>?_) (fun hc1 hj1=>?_)
  ·refine zq3 ?_
   refine Ai rfl rfl rfl zb49a ?_;refine Ai rfl rfl rfl (Ao (xs:=[_]) (f:=ANd.d) (l:=[(⟨every1,0,0,([]:List AFd)⟩:ANd)]) Tryz.runUnderlying29 Tryz.sizeOf49 Tryz.zeroValue49 rfl rfl rfl (fun _=>⟨rfl,rfl,rfl⟩) rfl) ?_;obtain ⟨hg1,hj1⟩:=Aa hj1;refine zap 0 hg1 fun a_r1 cap_r1=>?_;refine Ah (ms':=[_]) rfl ?_;refine zq2 ?_;exact ⟨_,(_,_),Ac hj1,⟨rfl,trivial⟩,⟨rfl,trivial⟩,[],rfl⟩
  ·refine gSp ?_
   exact ⟨_,(_,_),Ac hj1,⟨rfl,trivial⟩,⟨rfl,trivial⟩,[],rfl⟩
 ·rintro l1 ⟨a_r1,cap_r1⟩ hst
  subst hst;refine An (L':=[(5,.v (.slice a_r1 l1.length cap_r1)),(2,_)]) (ms':=[row a_r1 cap_r1 49 4 ANd.d l1]) rfl rfl ?_;refine zq6 ?_;obtain ⟨o_2,hj2,hm2⟩:=bS hm1;refine Af [(2,_)] [] (fun (st:(List ANd)) (hid:(Option Addr×Nat))=>match st,hid with | l2,(a_r1,cap_r1)=>[(5,.v (.slice a_r1 l2.length cap_r1))]) (fun F (st:(List ANd)) (hid:(Option Addr×Nat))=>match st,hid with | l2,(a_r1,cap_r1)=>[row a_r1 cap_r1 49 4 ANd.d l2]) (fun st=>st=o_2) ⟨rfl,trivial⟩ trivial ?_ ?_
  ·refine zcn hj2 (fun hc2 hj2=>?_) (fun hc2 hj2=>?_)
   ·refine zq2 ?_
    refine Ai rfl rfl rfl zb49a ?_;refine Ai rfl rfl rfl (Ao (xs:=[_]) (f:=ANd.d) (l:=[(⟨3,0,0,([]:List AFd)⟩:ANd)]) Tryz.runUnderlying29 Tryz.sizeOf49 Tryz.zeroValue49 rfl rfl rfl (fun _=>⟨rfl,rfl,rfl⟩) rfl) ?_;obtain ⟨hg2,hj2⟩:=Aa hj2;refine zap 0 hg2 fun a_r1 cap_r1=>?_;refine Ah (ms':=[_]) rfl ?_;refine zq2 ?_;exact ⟨_,(_,_),Ac hj2,⟨rfl,trivial⟩,⟨rfl,trivial⟩,[],rfl⟩
   ·refine gSp ?_
    exact ⟨_,(_,_),Ac hj2,⟨rfl,trivial⟩,⟨rfl,trivial⟩,[],rfl⟩
  ·rintro l2 ⟨a_r1,cap_r1⟩ hst
   subst hst;refine An (L':=[(5,.v (.slice a_r1 l2.length cap_r1)),(2,_)]) (ms':=[row a_r1 cap_r1 49 4 ANd.d l2]) rfl rfl ?_;refine zq6 ?_;obtain ⟨o_3,hj3,hm3⟩:=bS hm2;refine Af [(2,_)] [] (fun (st:(List ANd)) (hid:(Option Addr×Nat))=>match st,hid with | l3,(a_r1,cap_r1)=>[(5,.v (.slice a_r1 l3.length cap_r1))]) (fun F (st:(List ANd)) (hid:(Option Addr×Nat))=>match st,hid with | l3,(a_r1,cap_r1)=>[row a_r1 cap_r1 49 4 ANd.d l3]) (fun st=>st=o_3) ⟨rfl,trivial⟩ trivial ?_ ?_
   ·refine zcn hj3 (fun hc3 hj3=>?_) (fun hc3 hj3=>?_)
    ·refine zq2 ?_
     refine Ai rfl rfl rfl zb49a ?_;refine Ai rfl rfl rfl (Ao (xs:=[_]) (f:=ANd.d) (l:=[(⟨4,0,0,([]:List AFd)⟩:ANd)]) Tryz.runUnderlying29 Tryz.sizeOf49 Tryz.zeroValue49 rfl rfl rfl (fun _=>⟨rfl,rfl,rfl⟩) rfl) ?_;obtain ⟨hg3,hj3⟩:=Aa hj3;refine zap 0 hg3 fun a_r1 cap_r1=>?_;refine Ah (ms':=[_]) rfl ?_;refine zq2 ?_;exact ⟨_,(_,_),Ac hj3,⟨rfl,trivial⟩,⟨rfl,trivial⟩,[],rfl⟩
    ·refine gSp ?_
     exact ⟨_,(_,_),Ac hj3,⟨rfl,trivial⟩,⟨rfl,trivial⟩,[],rfl⟩
   ·rintro l3 ⟨a_r1,cap_r1⟩ hst
    subst hst;refine An (L':=[(5,.v (.slice a_r1 l3.length cap_r1)),(2,_)]) (ms':=[row a_r1 cap_r1 49 4 ANd.d l3]) rfl rfl ?_;refine zq6 ?_;obtain ⟨o_4,hj4,hm4⟩:=bS hm3;refine Af [(2,_)] [] (fun (st:(List ANd)) (hid:(Option Addr×Nat))=>match st,hid with | l4,(a_r1,cap_r1)=>[(5,.v (.slice a_r1 l4.length cap_r1))]) (fun F (st:(List ANd)) (hid:(Option Addr×Nat))=>match st,hid with | l4,(a_r1,cap_r1)=>[row a_r1 cap_r1 49 4 ANd.d l4]) (fun st=>st=o_4) ⟨rfl,trivial⟩ trivial ?_ ?_
    ·refine zcn hj4 (fun hc4 hj4=>?_) (fun hc4 hj4=>?_)
     ·refine zq2 ?_
      refine Ai rfl rfl rfl zb49a ?_;refine Ai rfl rfl rfl (Ao (xs:=[_]) (f:=ANd.d) (l:=[(⟨5,0,0,([]:List AFd)⟩:ANd)]) Tryz.runUnderlying29 Tryz.sizeOf49 Tryz.zeroValue49 rfl rfl rfl (fun _=>⟨rfl,rfl,rfl⟩) rfl) ?_;obtain ⟨hg4,hj4⟩:=Aa hj4;refine zap 0 hg4 fun a_r1 cap_r1=>?_;refine Ah (ms':=[_]) rfl ?_;refine zq2 ?_;exact ⟨_,(_,_),Ac hj4,⟨rfl,trivial⟩,⟨rfl,trivial⟩,[],rfl⟩
     ·refine gSp ?_
      exact ⟨_,(_,_),Ac hj4,⟨rfl,trivial⟩,⟨rfl,trivial⟩,[],rfl⟩
    ·rintro l4 ⟨a_r1,cap_r1⟩ hst
     subst hst;refine An (L':=[(5,.v (.slice a_r1 l4.length cap_r1)),(2,_)]) (ms':=[row a_r1 cap_r1 49 4 ANd.d l4]) rfl rfl ?_;refine zq5 ?_;obtain ⟨o_5,hj5,hm5⟩:=bS hm4;refine Af [(2,_)] [] (fun (st:(List ANd)) (hid:(Option Addr×Nat))=>match st,hid with | l5,(a_r1,cap_r1)=>[(5,.v (.slice a_r1 l5.length cap_r1))]) (fun F (st:(List ANd)) (hid:(Option Addr×Nat))=>match st,hid with | l5,(a_r1,cap_r1)=>[row a_r1 cap_r1 49 4 ANd.d l5]) (fun st=>st=o_5) ⟨rfl,trivial⟩ trivial ?_ ?_
     ·refine Am ?_
      refine Ag [(2,_)] [] (fun (st:(Int×(List ANd))) (hid:(Option Addr×Nat))=>match st,hid with | (k1,l6),(a_r1,cap_r1)=>[(5,.v (.slice a_r1 l6.length cap_r1)),(6,.i64 k1)]) (fun F (st:(Int×(List ANd))) (hid:(Option Addr×Nat))=>match st,hid with | (k1,l6),(a_r1,cap_r1)=>[row a_r1 cap_r1 49 4 ANd.d l6]) (_,_) hj5 (fun _=>rfl) ⟨rfl,trivial⟩ trivial ⟨rfl,rfl,trivial⟩ rfl ?_;rintro n ⟨k1,l6⟩ ⟨a_r1,cap_r1⟩ hj5;rw [Bb] at hj5;refine Av (L':=[(5,.v (.slice a_r1 l6.length cap_r1)),(6,.i64 k1),(2,_)]) (ms':=[row a_r1 cap_r1 49 4 ANd.d l6]) rfl rfl ?_;refine zq9 ?_;refine zcn hj5 (fun hc5 hj5=>?_) (fun hc5 hj5=>?_)
      ·refine zq8 ?_
       obtain ⟨x1,hx5,hj5⟩:=bS hj5;refine zq2 ?_;refine Ai rfl rfl rfl zb49a ?_;refine Ai rfl rfl rfl (Ao (xs:=[_]) (f:=ANd.d) (l:=[(⟨11,x1,0,([]:List AFd)⟩:ANd)]) Tryz.runUnderlying29 Tryz.sizeOf49 Tryz.zeroValue49 rfl rfl rfl (fun _=>⟨rfl,rfl,rfl⟩) rfl) ?_;obtain ⟨hg6,hj5⟩:=Aa hj5;refine zap 0 hg6 fun a_r1 cap_r1=>?_;refine Ah (ms':=[_]) rfl ?_;refine zq4 ?_;obtain ⟨hg7,hj5⟩:=Aa hj5;refine zq3 ?_;exact ⟨_,(_,_),hj5,⟨rfl,rfl,trivial⟩,⟨rfl,trivial⟩,[],rfl⟩
      ·refine Au ?_
       exact ⟨_,(_,_),Ac hj5,⟨rfl,trivial⟩,⟨rfl,trivial⟩,[],rfl⟩
     ·rintro l5 ⟨a_r1,cap_r1⟩ hst
      subst hst;refine An (L':=[(5,.v (.slice a_r1 l5.length cap_r1)),(2,_)]) (ms':=[row a_r1 cap_r1 49 4 ANd.d l5]) rfl rfl ?_;refine zq6 ?_;obtain ⟨o_6,hj6,hm6⟩:=bS hm5;refine Af [(2,_)] [] (fun (st:(List ANd)) (hid:(Option Addr×Nat))=>match st,hid with | l7,(a_r1,cap_r1)=>[(5,.v (.slice a_r1 l7.length cap_r1))]) (fun F (st:(List ANd)) (hid:(Option Addr×Nat))=>match st,hid with | l7,(a_r1,cap_r1)=>[row a_r1 cap_r1 49 4 ANd.d l7]) (fun st=>st=o_6) ⟨rfl,trivial⟩ trivial ?_ ?_
      ·refine zcn hj6 (fun hc6 hj6=>?_) (fun hc6 hj6=>?_)
       ·refine zq6 ?_
        refine Ai rfl rfl rfl zb49a ?_;refine Ai rfl rfl rfl (Ao (xs:=[_]) (f:=ANd.d) (l:=[(⟨6,s1.dom,s1.cod,([]:List AFd)⟩:ANd)]) Tryz.runUnderlying29 Tryz.sizeOf49 Tryz.zeroValue49 rfl rfl rfl (fun _=>⟨rfl,rfl,rfl⟩) rfl) ?_;obtain ⟨hg8,hj6⟩:=Aa hj6;refine zap 0 hg8 fun a_r1 cap_r1=>?_;refine Ah (ms':=[_]) rfl ?_;refine zq2 ?_;exact ⟨_,(_,_),Ac hj6,⟨rfl,trivial⟩,⟨rfl,trivial⟩,[],rfl⟩
       ·refine gSp ?_
        exact ⟨_,(_,_),Ac hj6,⟨rfl,trivial⟩,⟨rfl,trivial⟩,[],rfl⟩
      ·rintro l7 ⟨a_r1,cap_r1⟩ hst
       subst hst;refine An (L':=[(5,.v (.slice a_r1 l7.length cap_r1)),(2,_)]) (ms':=[row a_r1 cap_r1 49 4 ANd.d l7]) rfl rfl ?_;refine zq6 ?_;obtain ⟨o_7,hj7,hm7⟩:=bS hm6;refine Af [(2,_)] [] (fun (st:(List ANd)) (hid:(Option Addr×Nat))=>match st,hid with | l8,(a_r1,cap_r1)=>[(5,.v (.slice a_r1 l8.length cap_r1))]) (fun F (st:(List ANd)) (hid:(Option Addr×Nat))=>match st,hid with | l8,(a_r1,cap_r1)=>[row a_r1 cap_r1 49 4 ANd.d l8]) (fun st=>st=o_7) ⟨rfl,trivial⟩ trivial ?_ ?_
       ·refine zcn hj7 (fun hc7 hj7=>?_) (fun hc7 hj7=>?_)
        ·refine zq4 ?_
         obtain ⟨x2,hx9,hj7⟩:=bS hj7;refine zc0 (Fo hx9) ?_;refine Ai rfl rfl rfl zb49a ?_;refine Ai rfl rfl rfl (Ao (xs:=[_]) (f:=ANd.d) (l:=[(⟨7,0,0,x2⟩:ANd)]) Tryz.runUnderlying29 Tryz.sizeOf49 Tryz.zeroValue49 rfl rfl rfl (fun _=>⟨rfl,rfl,rfl⟩) rfl) ?_;obtain ⟨hg10,hj7⟩:=Aa hj7;refine zap 0 hg10 fun a_r1 cap_r1=>?_;refine Ah (ms':=[_]) rfl ?_;refine zq2 ?_;exact ⟨_,(_,_),Ac hj7,⟨rfl,trivial⟩,⟨rfl,trivial⟩,[],rfl⟩
        ·refine gSp ?_
         exact ⟨_,(_,_),Ac hj7,⟨rfl,trivial⟩,⟨rfl,trivial⟩,[],rfl⟩
       ·rintro l8 ⟨a_r1,cap_r1⟩ hst
        subst hst;refine An (L':=[(5,.v (.slice a_r1 l8.length cap_r1)),(2,_)]) (ms':=[row a_r1 cap_r1 49 4 ANd.d l8]) rfl rfl ?_;refine zq6 ?_;refine zcn hm7 (fun hc8 hm7=>?_) (fun hc8 hm7=>?_)
        ·refine zq4 ?_
         obtain ⟨x3,hx11,hm7⟩:=bS hm7;refine zc0 (Fo hx11) ?_;refine Ai rfl rfl rfl zb49a ?_;refine Ai rfl rfl rfl (Ao (xs:=[_]) (f:=ANd.d) (l:=[(⟨8,0,0,x3⟩:ANd)]) Tryz.runUnderlying29 Tryz.sizeOf49 Tryz.zeroValue49 rfl rfl rfl (fun _=>⟨rfl,rfl,rfl⟩) rfl) ?_;obtain ⟨hg12,hm7⟩:=Aa hm7;refine zap 0 hg12 fun a_r1 cap_r1=>?_;refine Ah (ms':=[_]) rfl ?_;refine zq7 ?_;refine CW (peekE (i:=4) 0 rfl rfl rfl).refines ?_
         cases hm7;exact Ae zr1
        ·refine zq6 ?_
         refine CW (peekE (i:=4) 0 rfl rfl rfl).refines ?_
         cases hm7;exact Ae zr1
def Bq (a1:AutoAuto):Nat->(Int×(List ANd)×Int)->Option ((List ANd)×Int)
 | 0,_=>none
 | n+1,(i1,l2,z2) =>
  bif (decide (i1<(a1.l.length:Int))) then
   grd ((l2.length+([(⟨0,0,0,([]:List AFd)⟩:ANd)]:List _).length)*48<=140737488355328) <|
   grd (InR (i1+1)) <|
   Bq a1 n ((i1+1),(l2++[(⟨0,0,0,([]:List AFd)⟩:ANd)]),z2)
  else
   some (l2,z2)
def Bp (kind1:Int) (x2:(List ANd)):Nat->(Int×Int×(List ANd)×Int)->Option (Int×(List ANd)×Int)
 | 0,_=>none
 | n+1,(at2,k1,l6,z6) =>
  bif (decide (k1<(x2.length:Int))) then
   (idx x2 k1).bind fun x3 =>
   grd ((l6.length+([x3,(⟨kind1,at2,(l6.length:Int),([]:List AFd)⟩:ANd)]:List _).length)*48<=140737488355328) <|
   grd (InR (((l6++[x3,(⟨kind1,at2,(l6.length:Int),([]:List AFd)⟩:ANd)]).length:Int) - 1)) <|
   grd (InR (k1+1)) <|
   Bp kind1 x2 n ((((l6++[x3,(⟨kind1,at2,(l6.length:Int),([]:List AFd)⟩:ANd)]).length:Int) - 1),(k1+1),(l6++[x3,(⟨kind1,at2,(l6.length:Int),([]:List AFd)⟩:ANd)]),z6)
  else
   some (at2,l6,z6)
def Br (a1:AutoAuto):Nat->(Int×(List ANd)×Int)->Option ((List ANd)×Int)
 | 0,_=>none
 | n+1,(i2,l4,z4) =>
  bif (decide (i2<(a1.l.length:Int))) then
   (idx a1.l i2).bind fun x1 =>
   (bif x1.plus then
    some (9,2,1)
   else
    some (10,1,2):Option (Int×Int×Int)).bind fun (kind1,none1,every1) =>
   grd ((l4.length+([(⟨none1,0,0,([]:List AFd)⟩:ANd)]:List _).length)*48<=140737488355328) <|
   grd (InR (((l4++[(⟨none1,0,0,([]:List AFd)⟩:ANd)]).length:Int) - 1)) <|
   (BX (⟨x1.plus,x1.all,x1.int,x1.bool,x1.str,x1.arrow,x1.rec_,x1.tag,x1.vars,x1.dom,x1.cod,x1.fields,x1.tags⟩:AutoState) every1).bind fun x2 =>
   (Bp kind1 x2 FU ((((l4++[(⟨none1,0,0,([]:List AFd)⟩:ANd)]).length:Int) - 1),0,(l4++[(⟨none1,0,0,([]:List AFd)⟩:ANd)]),z4):Option (Int×(List ANd)×Int)).bind fun (at1,l5,z5) =>
   (idx l5 i2).bind fun x4 =>
   grd (InR (i2+1)) <|
   Br a1 n ((i2+1),(l5.set (i2).toNat (⟨kind1,at1,at1,([]:List AFd)⟩:ANd)),z5)
  else
   some (l4,z4)
def BM (a1:AutoAuto):Option ATy:=
 (Bq a1 FU (0,([]:List ANd),a1.start):Option ((List ANd)×Int)).bind fun (l1,z1) =>
 (Br a1 FU (0,l1,z1):Option ((List ANd)×Int)).bind fun (l3,z3) =>
 some (⟨l3,z3⟩:ATy)
theorem Di {a1:AutoAuto} {r_1:ATy} (hm:BM a1=some r_1):Fn0 Tryz.prog 17 [AutoAuto.d a1] (ATy.d r_1):=by
 unfold BM at hm;refine Ad Tryz.func17 rfl Tryz.ntmps17 rfl fun H0 fr w0=>?_;refine zq3 ?_;refine Kz fun b1=>?_;refine zq5 ?_;refine Ai rfl rfl rfl zb31a ?_;refine Kz fun b2=>?_;refine zst 0 ?_;refine Aq (C1 (T:=49) (sz:=4) (f:=ANd.d)) ?_;refine Ah (ms':=[_,box b2 31 [_,_],box b1 31 [_,_]]) rfl ?_;refine zq6 ?_;obtain ⟨o_1,hj1,hm1⟩:=bS hm;refine Af [(1,_),(2,_),(3,_)] [(2,_)] (fun (st:((List ANd)×Int)) (hid:(Option Addr×Nat×Nat))=>match st,hid with | (l1,z1),(a_r1,m_r1,cap_r1)=>[]) (fun F (st:((List ANd)×Int)) (hid:(Option Addr×Nat×Nat))=>match st,hid with | (l1,z1),(a_r1,m_r1,cap_r1)=>[arr a_r1 m_r1 cap_r1 49 4 ANd.d l1,box b2 31 [.v (.slice a_r1 m_r1 cap_r1),.i64 z1],(nthF F 0)]) (fun st=>st=o_1) ⟨rfl,rfl,rfl,trivial⟩ ⟨rfl,trivial⟩ ?_ ?_
 ·refine Am ?_
  refine Ag [(1,_),(2,_),(3,_)] [(2,_)] (fun (st:(Int×(List ANd)×Int)) (hid:(Option Addr×Nat×Nat))=>match st,hid with | (i1,l2,z2),(a_r1,m_r1,cap_r1)=>[(4,.i64 i1)]) (fun F (st:(Int×(List ANd)×Int)) (hid:(Option Addr×Nat×Nat))=>match st,hid with | (i1,l2,z2),(a_r1,m_r1,cap_r1)=>[arr a_r1 m_r1 cap_r1 49 4 ANd.d l2,box b2 31 [.v (.slice a_r1 m_r1 cap_r1),.i64 z2],(nthF F 0)]) (_,_,_) hj1 (fun _=>rfl) ⟨rfl,rfl,rfl,trivial⟩ ⟨rfl,trivial⟩ ⟨rfl,trivial⟩ rfl ?_;rintro n ⟨i1,l2,z2⟩ ⟨a_r1,m_r1,cap_r1⟩ hj1;rw [Bq] at hj1;refine Av (L':=[(4,.i64 i1),(1,_),(2,_),(3,_)]) (ms':=[arr a_r1 m_r1 cap_r1 49 4 ANd.d l2,box b2 31 [.v (.slice a_r1 m_r1 cap_r1),.i64 z2],_]) rfl rfl ?_;refine zq9 ?_;refine zcn hj1 (fun hc1 hj1=>?_) (fun hc1 hj1=>?_)
  ·refine zq6 ?_
   refine Ai rfl rfl rfl zb49a ?_;refine Ai rfl rfl rfl (Ao (xs:=[_]) (f:=ANd.d) (l:=[(⟨0,0,0,([]:List AFd)⟩:ANd)]) Tryz.runUnderlying29 Tryz.sizeOf49 Tryz.zeroValue49 rfl rfl rfl (fun _=>⟨rfl,rfl,rfl⟩) rfl) ?_;obtain ⟨hg1,hj1⟩:=Aa hj1;refine Az rfl rfl rfl (D6 (a:=_) 0 Tryz.underlying29 Tryz.type49 rfl rfl rfl rfl rfl rfl (fun _=>rfl) (fun _=>rfl) hg1 (BS hg1 rfl)) ?_;rintro _ _ ⟨a_r1,m_r1,cap_r1,rfl,rfl⟩;refine Ah (ms':=[_,box b2 31 [_,_],box b1 31 [_,_]]) rfl ?_;refine zq1 ?_;refine zst 1 ?_;refine Ah (ms':=[_,box b2 31 [_,_],box b1 31 [_,_]]) rfl ?_;refine zq3 ?_;obtain ⟨hg2,hj1⟩:=Aa hj1;refine zq3 ?_;exact ⟨_,(_,_,_),hj1,⟨rfl,trivial⟩,⟨rfl,rfl,rfl,trivial⟩,[],rfl⟩
  ·refine Au ?_
   exact ⟨_,(_,_,_),Ac hj1,trivial,⟨rfl,rfl,rfl,trivial⟩,[],rfl⟩
 ·rintro ⟨l1,z1⟩ ⟨a_r1,m_r1,cap_r1⟩ hst
  subst hst;refine An (L':=[(1,_),(2,_),(3,_)]) (ms':=[arr a_r1 m_r1 cap_r1 49 4 ANd.d l1,box b2 31 [.v (.slice a_r1 m_r1 cap_r1),.i64 z1],_]) rfl rfl ?_;refine zq5 ?_;obtain ⟨o_2,hj2,hm2⟩:=bS hm1;refine Af [(2,_),(3,_)] [(2,_)] (fun (st:((List ANd)×Int)) (hid:(Option Addr×Nat×Nat))=>match st,hid with | (l3,z3),(a_r1,m_r1,cap_r1)=>[]) (fun F (st:((List ANd)×Int)) (hid:(Option Addr×Nat×Nat))=>match st,hid with | (l3,z3),(a_r1,m_r1,cap_r1)=>[arr a_r1 m_r1 cap_r1 49 4 ANd.d l3,box b2 31 [.v (.slice a_r1 m_r1 cap_r1),.i64 z3],(nthF F 0)]) (fun st=>st=o_2) ⟨rfl,rfl,trivial⟩ ⟨rfl,trivial⟩ ?_ ?_
  ·refine Am ?_
   refine Ag [(1,_),(2,_),(3,_)] [(2,_)] (fun (st:(Int×(List ANd)×Int)) (hid:(Option Addr×Nat×Nat))=>match st,hid with | (i2,l4,z4),(a_r1,m_r1,cap_r1)=>[(5,.i64 i2)]) (fun F (st:(Int×(List ANd)×Int)) (hid:(Option Addr×Nat×Nat))=>match st,hid with | (i2,l4,z4),(a_r1,m_r1,cap_r1)=>[arr a_r1 m_r1 cap_r1 49 4 ANd.d l4,box b2 31 [.v (.slice a_r1 m_r1 cap_r1),.i64 z4],(nthF F 0)]) (_,_,_) hj2 (fun _=>rfl) ⟨rfl,rfl,rfl,trivial⟩ ⟨rfl,trivial⟩ ⟨rfl,trivial⟩ rfl ?_;rintro n ⟨i2,l4,z4⟩ ⟨a_r1,m_r1,cap_r1⟩ hj2;rw [Br] at hj2;refine Av (L':=[(5,.i64 i2),(1,_),(2,_),(3,_)]) (ms':=[arr a_r1 m_r1 cap_r1 49 4 ANd.d l4,box b2 31 [.v (.slice a_r1 m_r1 cap_r1),.i64 z4],_]) rfl rfl ?_;refine zq9 ?_;refine zcn hj2 (fun hc2 hj2=>?_) (fun hc2 hj2=>?_)
   ·refine zq8 ?_
    obtain ⟨x1,hx3,hj2⟩:=bS hj2;refine zq2 ?_;refine Tl fun b3=>?_;refine zst 0 ?_;refine Ah (ms':=[box b3 46 [_,_,_,_,_,_,_,_,_,_,_,_,_],_,box b2 31 [_,_],box b1 31 [_,_]]) rfl ?_;refine zq13 ?_;obtain ⟨o_3,hj3,hm3⟩:=bS hj2;refine Af [(1,_),(2,_),(3,_),(5,_),(6,_)] [(0,_),(1,_),(2,_),(3,_)] (fun (st:(Int×Int×Int)) (hid:Unit)=>match st,hid with | (kind1,none1,every1),_=>[(7,.i64 kind1),(8,.i64 none1),(9,.i64 every1)]) (fun F (st:(Int×Int×Int)) (hid:Unit)=>match st,hid with | (kind1,none1,every1),_=>[(nthF F 0),(nthF F 1),(nthF F 2),(nthF F 3)]) (fun st=>st=o_3) ⟨rfl,rfl,rfl,rfl,rfl,trivial⟩ ⟨rfl,rfl,rfl,rfl,trivial⟩ ?_ ?_
    ·refine zcn hj3 (fun hc3 hj3=>?_) (fun hc3 hj3=>?_)
     ·refine zq5 ?_
      exact ⟨_,(),Ac hj3,⟨rfl,rfl,rfl,trivial⟩,⟨rfl,rfl,rfl,rfl,rfl,trivial⟩,[],rfl⟩
     ·refine gSp ?_
      exact ⟨_,(),Ac hj3,⟨rfl,rfl,rfl,trivial⟩,⟨rfl,rfl,rfl,rfl,rfl,trivial⟩,[],rfl⟩
    ·rintro ⟨kind1,none1,every1⟩ _ hst
     subst hst;refine An (L':=[(7,.i64 kind1),(8,.i64 none1),(9,.i64 every1),(1,_),(2,_),(3,_),(5,_),(6,_)]) (ms':=[_,_,_,_]) rfl rfl ?_;refine zq5 ?_;refine Ai rfl rfl rfl zb49a ?_;refine Ai rfl rfl rfl (Ao (xs:=[_]) (f:=ANd.d) (l:=[(⟨none1,0,0,([]:List AFd)⟩:ANd)]) Tryz.runUnderlying29 Tryz.sizeOf49 Tryz.zeroValue49 rfl rfl rfl (fun _=>⟨rfl,rfl,rfl⟩) rfl) ?_;obtain ⟨hg4,hm3⟩:=Aa hm3;refine Az rfl rfl rfl (D6 (a:=_) 1 Tryz.underlying29 Tryz.type49 rfl rfl rfl rfl rfl rfl (fun _=>rfl) (fun _=>rfl) hg4 (BS hg4 rfl)) ?_;rintro _ _ ⟨a_r1,m_r1,cap_r1,rfl,rfl⟩;refine Ah (ms':=[box b3 46 [_,_,_,_,_,_,_,_,_,_,_,_,_],_,box b2 31 [_,_],box b1 31 [_,_]]) rfl ?_;refine zq1 ?_;refine zst 2 ?_;refine Ah (ms':=[box b3 46 [_,_,_,_,_,_,_,_,_,_,_,_,_],_,box b2 31 [_,_],box b1 31 [_,_]]) rfl ?_;refine zq5 ?_;refine Ai rfl rfl rfl (Dd 1 Tryz.runUnderlying29 rfl rfl) ?_;obtain ⟨hg5,hm3⟩:=Aa hm3;refine zq7 ?_;obtain ⟨x2,hx6,hm3⟩:=bS hm3;refine zc0 (Io hx6) ?_;refine zq7 ?_;obtain ⟨o_4,hj4,hm4⟩:=bS hm3;refine Af [(1,_),(2,_),(3,_),(5,_),(7,_)] [(0,_),(3,_)] (fun (st:(Int×(List ANd)×Int)) (hid:(Option Addr×Nat×Nat))=>match st,hid with | (at1,l5,z5),(a_r1,m_r1,cap_r1)=>[(10,.i64 at1)]) (fun F (st:(Int×(List ANd)×Int)) (hid:(Option Addr×Nat×Nat))=>match st,hid with | (at1,l5,z5),(a_r1,m_r1,cap_r1)=>[(nthF F 0),arr a_r1 m_r1 cap_r1 49 4 ANd.d l5,box b2 31 [.v (.slice a_r1 m_r1 cap_r1),.i64 z5],(nthF F 1)]) (fun st=>st=o_4) ⟨rfl,rfl,rfl,rfl,rfl,trivial⟩ ⟨rfl,rfl,trivial⟩ ?_ ?_
     ·refine Am ?_
      refine Ag [(1,_),(2,_),(3,_),(5,_),(7,_),(11,_)] [(0,_),(3,_)] (fun (st:(Int×Int×(List ANd)×Int)) (hid:(Option Addr×Nat×Nat))=>match st,hid with | (at2,k1,l6,z6),(a_r1,m_r1,cap_r1)=>[(10,.i64 at2),(12,.i64 k1)]) (fun F (st:(Int×Int×(List ANd)×Int)) (hid:(Option Addr×Nat×Nat))=>match st,hid with | (at2,k1,l6,z6),(a_r1,m_r1,cap_r1)=>[(nthF F 0),arr a_r1 m_r1 cap_r1 49 4 ANd.d l6,box b2 31 [.v (.slice a_r1 m_r1 cap_r1),.i64 z6],(nthF F 1)]) (_,_,_) hj4 (fun _=>rfl) ⟨rfl,rfl,rfl,rfl,rfl,rfl,trivial⟩ ⟨rfl,rfl,trivial⟩ ⟨rfl,rfl,trivial⟩ rfl ?_;rintro n ⟨at2,k1,l6,z6⟩ ⟨a_r1,m_r1,cap_r1⟩ hj4;rw [Bp] at hj4;refine Av (L':=[(10,.i64 at2),(12,.i64 k1),(1,_),(2,_),(3,_),(5,_),(7,_),(11,_)]) (ms':=[_,arr a_r1 m_r1 cap_r1 49 4 ANd.d l6,box b2 31 [.v (.slice a_r1 m_r1 cap_r1),.i64 z6],_]) rfl rfl ?_;refine zq8 ?_;refine zcn hj4 (fun hc4 hj4=>?_) (fun hc4 hj4=>?_)
      ·refine zq4 ?_
       obtain ⟨x3,hx7,hj4⟩:=bS hj4;refine zdr 13 ?_;refine zq10 ?_;refine AF rfl rfl rfl (Dd 1 Tryz.runUnderlying29 rfl rfl) ?_;refine AF rfl rfl rfl zb49a ?_;refine AF rfl rfl rfl (Ao (xs:=[_,_]) (f:=ANd.d) (l:=[_,(⟨kind1,at2,(l6.length:Int),([]:List AFd)⟩:ANd)]) Tryz.runUnderlying29 Tryz.sizeOf49 Tryz.zeroValue49 rfl rfl rfl (fun _=>⟨rfl,rfl,rfl⟩) rfl) ?_;refine Gc ?_;obtain ⟨hg8,hj4⟩:=Aa hj4;refine Az rfl rfl rfl (D6 (a:=_) 1 Tryz.underlying29 Tryz.type49 rfl rfl rfl rfl rfl rfl (fun _=>rfl) (fun _=>rfl) hg8 (BS hg8 rfl)) ?_;rintro _ _ ⟨a_r1,m_r1,cap_r1,rfl,rfl⟩;refine Ah (ms':=[box b3 46 [_,_,_,_,_,_,_,_,_,_,_,_,_],_,box b2 31 [_,_],box b1 31 [_,_]]) rfl ?_;refine zq1 ?_;refine zst 2 ?_;refine Ah (ms':=[box b3 46 [_,_,_,_,_,_,_,_,_,_,_,_,_],_,box b2 31 [_,_],box b1 31 [_,_]]) rfl ?_;refine zq4 ?_;refine Ai rfl rfl rfl (Dd 1 Tryz.runUnderlying29 rfl rfl) ?_;obtain ⟨hg9,hj4⟩:=Aa hj4;refine zq5 ?_;obtain ⟨hg10,hj4⟩:=Aa hj4;refine zq3 ?_;exact ⟨_,(_,_,_),hj4,⟨rfl,rfl,trivial⟩,⟨rfl,rfl,rfl,rfl,rfl,rfl,trivial⟩,[],rfl⟩
      ·refine Au ?_
       exact ⟨_,(_,_,_),Ac hj4,⟨rfl,trivial⟩,⟨rfl,rfl,rfl,rfl,rfl,trivial⟩,[],rfl⟩
     ·rintro ⟨at1,l5,z5⟩ ⟨a_r1,m_r1,cap_r1⟩ hst
      subst hst;refine An (L':=[(10,.i64 at1),(1,_),(2,_),(3,_),(5,_),(7,_)]) (ms':=[_,arr a_r1 m_r1 cap_r1 49 4 ANd.d l5,box b2 31 [.v (.slice a_r1 m_r1 cap_r1),.i64 z5],_]) rfl rfl ?_;refine zq7 ?_;refine Ai rfl rfl rfl zb49a ?_;obtain ⟨x4,hx11,hm4⟩:=bS hm4;refine Ai rfl rfl rfl (Aj 1 Tryz.runUnderlying29 Tryz.sizeOf49 rfl rfl rfl hx11) ?_;refine Ip rfl rfl (Bs (off:=0) (z':=(⟨kind1,at1,at1,([]:List AFd)⟩:ANd)) 1 Tryz.sizeOf49 rfl rfl (Ar hx11).2 rfl rfl rfl rfl rfl rfl (nB rfl) rfl rfl) ?_;rintro _ _ rfl;refine Ah (ms':=[box b3 46 [_,_,_,_,_,_,_,_,_,_,_,_,_],_,box b2 31 [_,_],box b1 31 [_,_]]) rfl ?_;refine zq3 ?_;obtain ⟨hg12,hm4⟩:=Aa hm4;refine zq3 ?_;exact ⟨_,(_,_,_),hm4,⟨rfl,trivial⟩,⟨rfl,rfl,rfl,trivial⟩,[_],rfl⟩
   ·refine Au ?_
    exact ⟨_,(_,_,_),Ac hj2,trivial,⟨rfl,rfl,trivial⟩,[],rfl⟩
  ·rintro ⟨l3,z3⟩ ⟨a_r1,m_r1,cap_r1⟩ hst
   subst hst;refine An (L':=[(2,_),(3,_)]) (ms':=[arr a_r1 m_r1 cap_r1 49 4 ANd.d l3,box b2 31 [.v (.slice a_r1 m_r1 cap_r1),.i64 z3],_]) rfl rfl ?_;refine zq2 ?_;refine I5 0 rfl rfl ?_;rintro rfl;refine zq1 ?_;refine Aq (CU (i:=90) (q:=0) 0 rfl rfl rfl rfl rfl).refines ?_;refine zst 2 ?_;refine Ah (ms':=[_,box b2 31 [_,_],box b1 31 [_,_]]) rfl ?_;refine gNl ?_
   cases hm2;exact Ae zr1
def AA (s1:(List AutoState)) (f1:(AutoState->Option Bool)):Nat->Int->Option (Out Int Unit)
 | 0,_=>none
 | n+1,x1 =>
  bif (decide (x1<(s1.length:Int))) then
   (idx s1 x1).bind fun x2 =>
   (f1 x2).bind fun x3 =>
   bif x3 then
    some (Out.ret x1)
   else
    grd (InR (x1+1)) <|
    AA s1 f1 n (x1+1)
  else
   some (Out.go (()))
def A7 (s1:(List AutoState)) (f1:(AutoState->Option Bool)):Option Int:=
 ((AA s1 f1 FU 0:Option (Out Int Unit))).bind (fun oo=>oo.on (fun r1=>some r1) (fun _ =>
 some (-1)))
theorem En {s1:(List AutoState)} {f1:(AutoState->Option Bool)} {r_1:Int} {fv_f1:D} (hff1:Ji Tryz.prog fv_f1 AutoState.d D.bool f1) (hm:A7 s1 f1=some r_1):Fn0 Tryz.prog 131 [.list 13 AutoState.d s1,fv_f1] (.i64 r_1):=by
 unfold A7 at hm;refine Ad Tryz.func131 rfl Tryz.ntmps131 rfl fun H0 fr w0=>?_;refine zq11 ?_;obtain ⟨o_1,hj1,hm1⟩:=bS hm;refine Af [] [] (fun (st:Unit) (hid:Unit)=>match st,hid with | _,_=>[]) (fun F (st:Unit) (hid:Unit)=>match st,hid with | _,_=>[]) (fun st=>Out.go (st)=o_1) trivial trivial ?_ ?_
 ·refine Am ?_
  refine Ag [(0,_),(1,_),(7,_)] [] (fun (st:Int) (hid:Unit)=>match st,hid with | x1,_=>[(8,.i64 x1)]) (fun F (st:Int) (hid:Unit)=>match st,hid with | x1,_=>[]) () hj1 (fun _=>rfl) ⟨rfl,rfl,rfl,trivial⟩ trivial ⟨rfl,trivial⟩ rfl ?_;rintro n x1 _ hj1;rw [AA] at hj1;refine Av (L':=[(8,.i64 x1),(0,_),(1,_),(7,_)]) (ms':=[]) rfl rfl ?_;refine zq5 ?_;refine zcn hj1 (fun hc1 hj1=>?_) (fun hc1 hj1=>?_)
  ·refine zq13 ?_
   obtain ⟨x2,hx1,hj1⟩:=bS hj1;refine zq2 ?_;obtain ⟨x3,hx2,hj1⟩:=bS hj1;refine Ai rfl rfl rfl (EY rfl rfl (hff1 _ _ hx2)) ?_;refine gNl ?_;refine zcn hj1 (fun hc2 hj1=>?_) (fun hc2 hj1=>?_)
   ·refine zq5 ?_
    refine Ae ?_;obtain rfl:=Ac hj1
    replace hm1:=BP hm1
    cases hm1;exact zr1
   ·refine zq2 ?_
    obtain ⟨hg3,hj1⟩:=Aa hj1;refine zq3 ?_;exact ⟨_,(),hj1,⟨rfl,trivial⟩,⟨rfl,rfl,rfl,trivial⟩,[],rfl⟩
  ·refine Au ?_
   exact ⟨_,(),Ac hj1,trivial,trivial,[],rfl⟩
 ·rintro _ _ hst
  subst hst
  replace hm1:=Dm hm1
  refine An (L':=[]) (ms':=[]) rfl rfl ?_;refine zq4 ?_
  cases hm1;exact Ae zr1
def At (s1:(List AutoState)) (f1:(AutoState->Option Bool)):Option Bool:=
 (A7 s1 f1).bind fun x1 =>
 some (decide (0<=x1))
theorem AW {s1:(List AutoState)} {f1:(AutoState->Option Bool)} {r_1:Bool} {fv_f1:D} (hff1:Ji Tryz.prog fv_f1 AutoState.d D.bool f1) (hm:At s1 f1=some r_1):Fn0 Tryz.prog 90 [.list 13 AutoState.d s1,fv_f1] (.bool r_1):=by
 unfold At at hm;refine Ad Tryz.func90 rfl Tryz.ntmps90 rfl fun H0 fr w0=>?_;refine zq8 ?_;obtain ⟨x1,hx1,hm⟩:=bS hm;refine zc0 (En hff1 hx1) ?_;refine zq3 ?_
 cases hm;exact Ae zr1
def CF (a1:AutoAuto) (k1:Int) (plus1:Bool):Option Bool:=
 (bif ((decide (0<=k1))&&(decide (k1<(a1.l.length:Int)))) then ((idx a1.l k1).bind fun x1 =>
 some (x1.plus == plus1)) else (some false)).bind fun p1 =>
 some p1
theorem Fs {a1:AutoAuto} {k1:Int} {plus1:Bool} {r_1:Bool} (hm:CF a1 k1 plus1=some r_1):Fn0 Tryz.prog 93 [AutoAuto.d a1,.i64 k1,.bool plus1] (.bool r_1):=by
 unfold CF at hm;refine Ad Tryz.func93 rfl Tryz.ntmps93 rfl fun H0 fr w0=>?_;refine zq10 ?_
 apply CN [(1,_),(2,_),(3,_)] 6 15 (t:=9) ⟨rfl,rfl,rfl,trivial⟩ rfl
 ·intro hg_1 hk1
  refine zq6 ?_;exact zgm hk1
 ·intro hg_1 hk1
  refine zq6 ?_;exact zgm hk1
 refine zq1 ?_;obtain ⟨p1,hp_2,hm⟩:=bS hm;refine AS [] 9 25 p1 (t:=16) trivial rfl (fun hg_2 hk2=>?_) (fun hg_2 hk2=>?_) ?_
 ·replace hp_2:=AO hg_2 hp_2
  refine zq3 ?_;obtain ⟨x1,hx1,hp_2⟩:=bS hp_2;refine zq6 ?_;exact zgb hk2 hp_2
 ·replace hp_2:=AR hg_2 hp_2
  refine zq9 ?_;exact zgb hk2 hp_2
 refine zq2 ?_
 cases hm;exact Ae zr1
def Ga (s1:AutoState):Option Bool:=
 bif (s1.all&&((((((s1.int||s1.bool)||s1.str)||s1.arrow)||s1.rec_)||s1.tag)||(decide (0<(s1.vars.length:Int))))) then
  some false
 else
  bif ((!s1.arrow)&&((!decide (s1.dom=0))||(!decide (s1.cod=0)))) then
   some false
  else
   some ((s1.rec_||(decide ((s1.fields.length:Int)=0)))&&(s1.tag||(decide ((s1.tags.length:Int)=0))))
theorem PY {s1:AutoState} {r_1:Bool} (hm:Ga s1=some r_1):Fn0 Tryz.prog 132 [AutoState.d s1] (.bool r_1):=by
 unfold Ga at hm;refine Ad Tryz.func132 rfl Tryz.ntmps132 rfl fun H0 fr w0=>?_;refine zq12 ?_
 apply CN [(1,_)] 29 35 (t:=6) ⟨rfl,trivial⟩ rfl
 ·intro hg_1 hk1
  refine zq3 ?_
  apply Cy [(1,_),(6,_)] 3 12 (t:=9) ⟨rfl,rfl,trivial⟩ rfl
  ·intro hg_2 hk2
   refine zq3 ?_;exact zgm hk2
  ·intro hg_2 hk2
   refine zq3 ?_;exact zgm hk2
  refine zq1 ?_
  apply Cy [(1,_),(6,_)] 3 16 (t:=13) ⟨rfl,rfl,trivial⟩ rfl
  ·intro hg_3 hk3
   refine zq3 ?_;exact zgm hk3
  ·intro hg_3 hk3
   refine zq3 ?_;exact zgm hk3
  refine zq1 ?_
  apply Cy [(1,_),(6,_)] 3 20 (t:=17) ⟨rfl,rfl,trivial⟩ rfl
  ·intro hg_4 hk4
   refine zq3 ?_;exact zgm hk4
  ·intro hg_4 hk4
   refine zq3 ?_;exact zgm hk4
  refine zq1 ?_
  apply Cy [(1,_),(6,_)] 3 24 (t:=21) ⟨rfl,rfl,trivial⟩ rfl
  ·intro hg_5 hk5
   refine zq3 ?_;exact zgm hk5
  ·intro hg_5 hk5
   refine zq3 ?_;exact zgm hk5
  refine zq1 ?_
  apply Cy [(1,_),(6,_)] 3 28 (t:=25) ⟨rfl,rfl,trivial⟩ rfl
  ·intro hg_6 hk6
   refine zq3 ?_;exact zgm hk6
  ·intro hg_6 hk6
   refine zq3 ?_;exact zgm hk6
  refine zq1 ?_
  apply Cy [(1,_),(6,_)] 5 34 (t:=29) ⟨rfl,rfl,trivial⟩ rfl
  ·intro hg_7 hk7
   refine zq5 ?_;exact zgm hk7
  ·intro hg_7 hk7
   refine zq5 ?_;exact zgm hk7
  refine zq1 ?_;exact zgm hk1
 ·intro hg_1 hk1
  refine zq29 ?_;exact zgm hk1
 refine zq2 ?_;refine zcn hm (fun hc1 hm=>?_) (fun hc1 hm=>?_)
 ·refine zq4 ?_
  cases hm;exact Ae zr1
 ·refine zq6 ?_
  apply CN [(1,_)] 9 49 (t:=40) ⟨rfl,trivial⟩ rfl
  ·intro hg_8 hk8
   refine zq4 ?_
   apply Cy [(1,_),(40,_)] 4 48 (t:=44) ⟨rfl,rfl,trivial⟩ rfl
   ·intro hg_9 hk9
    refine zq4 ?_;exact zgm hk9
   ·intro hg_9 hk9
    refine zq4 ?_;exact zgm hk9
   refine zq1 ?_;exact zgm hk8
  ·intro hg_8 hk8
   refine zq9 ?_;exact zgm hk8
  refine zq2 ?_;refine zcn hm (fun hc2 hm=>?_) (fun hc2 hm=>?_)
  ·refine zq4 ?_
   cases hm;exact Ae zr1
  ·refine zq6 ?_
   apply Cy [(1,_)] 5 57 (t:=52) ⟨rfl,trivial⟩ rfl
   ·intro hg_10 hk10
    refine zq5 ?_;exact zgm hk10
   ·intro hg_10 hk10
    refine zq5 ?_;exact zgm hk10
   refine zq1 ?_
   apply CN [] 9 67 (t:=58) trivial rfl
   ·intro hg_11 hk11
    refine zq3 ?_
    apply Cy [(58,_)] 5 66 (t:=61) ⟨rfl,trivial⟩ rfl
    ·intro hg_12 hk12
     refine zq5 ?_;exact zgm hk12
    ·intro hg_12 hk12
     refine zq5 ?_;exact zgm hk12
    refine zq1 ?_;exact zgm hk11
   ·intro hg_11 hk11
    refine zq9 ?_;exact zgm hk11
   refine zq2 ?_
   cases hm;exact Ae zr1
def Cs (l1:(List Int)):Nat->Int->Option (Out Bool Unit)
 | 0,_=>none
 | n+1,x1 =>
  bif (decide (x1<(l1.length:Int))) then
   (idx l1 x1).bind fun x2 =>
   (bif ((decide (x2<0))||(decide (999<x2))) then (some true) else ((bif (decide (0<x1)) then (grd (InR (x1 - 1)) <|
   (idx l1 (x1 - 1)).bind fun x3 =>
   some (decide (x2<=x3))) else (some false)).bind fun p2 =>
   some p2)).bind fun p1 =>
   bif p1 then
    some (Out.ret false)
   else
    grd (InR (x1+1)) <|
    Cs l1 n (x1+1)
  else
   some (Out.go (()))
def Eb (l1:(List Int)):Option Bool:=
 ((Cs l1 FU 0:Option (Out Bool Unit))).bind (fun oo=>oo.on (fun r1=>some r1) (fun _ =>
 some true))
theorem Lj {l1:(List Int)} {r_1:Bool} (hm:Eb l1=some r_1):Fn0 Tryz.prog 133 [.list 1 D.i64 l1] (.bool r_1):=by
 unfold Eb at hm;refine Ad Tryz.func133 rfl Tryz.ntmps133 rfl fun H0 fr w0=>?_;refine zq11 ?_;obtain ⟨o_1,hj1,hm1⟩:=bS hm;refine Af [] [] (fun (st:Unit) (hid:Unit)=>match st,hid with | _,_=>[]) (fun F (st:Unit) (hid:Unit)=>match st,hid with | _,_=>[]) (fun st=>Out.go (st)=o_1) trivial trivial ?_ ?_
 ·refine Am ?_
  refine Ag [(0,_),(5,_),(6,_)] [] (fun (st:Int) (hid:Unit)=>match st,hid with | x1,_=>[(7,.i64 x1)]) (fun F (st:Int) (hid:Unit)=>match st,hid with | x1,_=>[]) () hj1 (fun _=>rfl) ⟨rfl,rfl,rfl,trivial⟩ trivial ⟨rfl,trivial⟩ rfl ?_;rintro n x1 _ hj1;rw [Cs] at hj1;refine Av (L':=[(7,.i64 x1),(0,_),(5,_),(6,_)]) (ms':=[]) rfl rfl ?_;refine zq5 ?_;refine zcn hj1 (fun hc1 hj1=>?_) (fun hc1 hj1=>?_)
  ·refine zq6 ?_
   obtain ⟨x2,hx1,hj1⟩:=bS hj1;refine zq10 ?_
   apply Cy [(0,_),(3,_),(4,_),(5,_),(6,_),(7,_)] 3 17 (t:=14) ⟨rfl,rfl,rfl,rfl,rfl,rfl,trivial⟩ rfl
   ·intro hg_1 hk1
    refine zq3 ?_;exact zgm hk1
   ·intro hg_1 hk1
    refine zq3 ?_;exact zgm hk1
   refine zq1 ?_;obtain ⟨p1,hp_2,hj1⟩:=bS hj1;refine AS [(0,_),(5,_),(6,_),(7,_)] 12 30 p1 (t:=18) ⟨rfl,rfl,rfl,rfl,trivial⟩ rfl (fun hg_2 hk2=>?_) (fun hg_2 hk2=>?_) ?_
   ·replace hp_2:=AO hg_2 hp_2
    refine zq12 ?_;exact zgb hk2 hp_2
   ·replace hp_2:=AR hg_2 hp_2
    refine zq3 ?_;obtain ⟨p2,hp_3,hp_2⟩:=bS hp_2;refine AS [(0,_),(5,_),(6,_),(7,_),(18,_)] 8 29 p2 (t:=21) ⟨rfl,rfl,rfl,rfl,rfl,trivial⟩ rfl (fun hg_3 hk3=>?_) (fun hg_3 hk3=>?_) ?_
    ·replace hp_3:=AO hg_3 hp_3
     refine zq2 ?_;obtain ⟨hg2,hp_3⟩:=Aa hp_3;refine zq1 ?_;obtain ⟨x3,hx3,hp_3⟩:=bS hp_3;refine zq5 ?_;exact zgb hk3 hp_3
    ·replace hp_3:=AR hg_3 hp_3
     refine zq8 ?_;exact zgb hk3 hp_3
    refine zq1 ?_;exact zgb hk2 hp_2
   refine gNl ?_;refine zcn hj1 (fun hc2 hj1=>?_) (fun hc2 hj1=>?_)
   ·refine zq4 ?_
    refine Ae ?_;obtain rfl:=Ac hj1
    replace hm1:=BP hm1
    cases hm1;exact zr1
   ·refine zq2 ?_
    obtain ⟨hg4,hj1⟩:=Aa hj1;refine zq3 ?_;exact ⟨_,(),hj1,⟨rfl,trivial⟩,⟨rfl,rfl,rfl,trivial⟩,[],rfl⟩
  ·refine Au ?_
   exact ⟨_,(),Ac hj1,trivial,trivial,[],rfl⟩
 ·rintro _ _ hst
  subst hst
  replace hm1:=Dm hm1
  refine An (L':=[]) (ms':=[]) rfl rfl ?_;refine zq4 ?_
  cases hm1;exact Ae zr1
def CM (l1:(List AutoEdge)) (is1:((List UInt8)->Option Bool)):Nat->Int->Option (Out Bool Unit)
 | 0,_=>none
 | n+1,x1 =>
  bif (decide (x1<(l1.length:Int))) then
   (idx l1 x1).bind fun x2 =>
   (is1 x2.name).bind fun x3 =>
   bif (!x3) then (some (Out.ret false)) else (bif (decide (0<x1)) then (grd (InR (x1 - 1)) <|
   (idx l1 (x1 - 1)).bind fun x4 =>
   bif (!Op.bytesLess x4.name x2.name) then
    some (Out.ret false)
   else
    grd (InR (x1+1)) <|
    CM l1 is1 n (x1+1)) else (grd (InR (x1+1)) <|
   CM l1 is1 n (x1+1)))
  else
   some (Out.go (()))
def EF (l1:(List AutoEdge)) (is1:((List UInt8)->Option Bool)):Option Bool:=
 ((CM l1 is1 FU 0:Option (Out Bool Unit))).bind (fun oo=>oo.on (fun r1=>some r1) (fun _ =>
 some (decide ((l1.length:Int)<=30))))
theorem J9 {l1:(List AutoEdge)} {is1:((List UInt8)->Option Bool)} {r_1:Bool} {fv_is1:D} (hfis1:Ji Tryz.prog fv_is1 D.str D.bool is1) (hm:EF l1 is1=some r_1):Fn0 Tryz.prog 134 [.list 2 AutoEdge.d l1,fv_is1] (.bool r_1):=by
 unfold EF at hm;refine Ad Tryz.func134 rfl Tryz.ntmps134 rfl fun H0 fr w0=>?_;refine zq11 ?_;obtain ⟨o_1,hj1,hm1⟩:=bS hm;refine Af [(0,_)] [] (fun (st:Unit) (hid:Unit)=>match st,hid with | _,_=>[]) (fun F (st:Unit) (hid:Unit)=>match st,hid with | _,_=>[]) (fun st=>Out.go (st)=o_1) ⟨rfl,trivial⟩ trivial ?_ ?_
 ·refine Am ?_
  refine Ag [(0,_),(1,_),(7,_),(8,_)] [] (fun (st:Int) (hid:Unit)=>match st,hid with | x1,_=>[(9,.i64 x1)]) (fun F (st:Int) (hid:Unit)=>match st,hid with | x1,_=>[]) () hj1 (fun _=>rfl) ⟨rfl,rfl,rfl,rfl,trivial⟩ trivial ⟨rfl,trivial⟩ rfl ?_;rintro n x1 _ hj1;rw [CM] at hj1;refine Av (L':=[(9,.i64 x1),(0,_),(1,_),(7,_),(8,_)]) (ms':=[]) rfl rfl ?_;refine zq5 ?_;refine zcn hj1 (fun hc1 hj1=>?_) (fun hc1 hj1=>?_)
  ·refine zq6 ?_
   obtain ⟨x2,hx1,hj1⟩:=bS hj1;refine zq2 ?_;refine TJ fun b1=>?_;refine zq1 ?_;refine zst 0 ?_;refine Ah (ms':=[box b1 62 [_,_]]) rfl ?_;refine zq2 ?_;obtain ⟨x3,hx2,hj1⟩:=bS hj1
   rcases Dp hj1 with ⟨hg_1,hj1⟩ | ⟨hg_1,hj1⟩
   ·
    skip
    refine zdr 20 ?_;refine zq3 ?_;refine AF rfl rfl rfl (EY rfl rfl (hfis1 _ _ hx2)) ?_;refine zq18 ?_;refine Ff rfl rfl ?_;refine zq4 ?_;refine Ae ?_;obtain rfl:=Ac hj1
    replace hm1:=BP hm1
    cases hm1;exact zr1
   ·
    skip
    rcases Dp hj1 with ⟨hg_2,hj1⟩ | ⟨hg_2,hj1⟩
    ·
     skip
     obtain ⟨hg3,hj1⟩:=Aa hj1;obtain ⟨x4,hx4,hj1⟩:=bS hj1;refine zdr 20 ?_;refine zq3 ?_;refine AF rfl rfl rfl (EY rfl rfl (hfis1 _ _ hx2)) ?_;refine zq18 ?_;refine zcn hj1 (fun hc2 hj1=>?_) (fun hc2 hj1=>?_)
     ·refine zq4 ?_
      refine Ae ?_;obtain rfl:=Ac hj1
      replace hm1:=BP hm1
      cases hm1;exact zr1
     ·refine zq2 ?_
      obtain ⟨hg5,hj1⟩:=Aa hj1;refine zq3 ?_;exact ⟨_,(),hj1,⟨rfl,trivial⟩,⟨rfl,rfl,rfl,rfl,trivial⟩,[_],rfl⟩
    ·
     skip
     refine zdr 20 ?_;refine zq3 ?_;refine AF rfl rfl rfl (EY rfl rfl (hfis1 _ _ hx2)) ?_;refine zq18 ?_;refine Dn rfl rfl ?_;refine zq2 ?_;obtain ⟨hg6,hj1⟩:=Aa hj1;refine zq3 ?_;exact ⟨_,(),hj1,⟨rfl,trivial⟩,⟨rfl,rfl,rfl,rfl,trivial⟩,[_],rfl⟩
  ·refine Au ?_
   exact ⟨_,(),Ac hj1,trivial,⟨rfl,trivial⟩,[],rfl⟩
 ·rintro _ _ hst
  subst hst
  replace hm1:=Dm hm1
  refine An (L':=[(0,_)]) (ms':=[]) rfl rfl ?_;refine zq7 ?_
  cases hm1;exact Ae zr1
def CT (k1:Int) (c1:AutoAuto) (c2:AutoState):Option Bool:=
 (CF c1 k1 c2.plus).bind fun x1 =>
 some (!x1)
theorem Jd {k1:Int} {c1:AutoAuto} {c2:AutoState} {r_1:Bool} (hm:CT k1 c1 c2=some r_1):Fn0 Tryz.prog 139 [.i64 k1,.ref (AutoAuto.d c1),.ref (AutoState.d c2)] (.bool r_1):=by
 unfold CT at hm;refine Ad Tryz.func139 rfl Tryz.ntmps139 rfl fun H0 fr w0=>?_;refine zq10 ?_;obtain ⟨x1,hx1,hm⟩:=bS hm;refine zc0 (Fs hx1) ?_;refine zq3 ?_
 cases hm;exact Ae zr1
def Dl (a1:AutoAuto) (s1:AutoState):Option Bool:=
 (Ga s1).bind fun x1 =>
 (bif (!x1) then (some true) else ((Eb s1.vars).bind fun x2 =>
 some (!x2))).bind fun p1 =>
 (bif p1 then (some true) else ((EF s1.fields (fun y0=>Eu y0)).bind fun x3 =>
 some (!x3))).bind fun p2 =>
 (bif p2 then (some true) else ((EF s1.tags (fun y0=>E6 y0)).bind fun x4 =>
 some (!x4))).bind fun p3 =>
 bif p3 then
  some false
 else
  (bif s1.arrow then ((CF a1 s1.dom (!s1.plus)).bind fun x5 =>
  (bif (!x5) then (some true) else ((CF a1 s1.cod s1.plus).bind fun x6 =>
  some (!x6))).bind fun p5 =>
  some p5) else (some false)).bind fun p4 =>
  bif p4 then
   some false
  else
   (Dq s1.fields).bind fun x7 =>
   (Dq s1.tags).bind fun x8 =>
   (ML [x7,x8]).bind fun x9 =>
   (JW x9 (fun y0=>CT y0 a1 s1)).bind fun x10 =>
   some (!x10)
theorem JM {a1:AutoAuto} {s1:AutoState} {r_1:Bool} (hm:Dl a1 s1=some r_1):Fn0 Tryz.prog 95 [AutoAuto.d a1,AutoState.d s1] (.bool r_1):=by
 unfold Dl at hm;refine Ad Tryz.func95 rfl Tryz.ntmps95 rfl fun H0 fr w0=>?_;refine zq10 ?_;obtain ⟨x1,hx1,hm⟩:=bS hm;refine zc0 (PY hx1) ?_;refine zq2 ?_;obtain ⟨p1,hp_1,hm⟩:=bS hm;refine AS [(2,_),(3,_)] 5 13 p1 (t:=8) ⟨rfl,rfl,trivial⟩ rfl (fun hg_1 hk1=>?_) (fun hg_1 hk1=>?_) ?_
 ·replace hp_1:=AO hg_1 hp_1
  refine zq5 ?_;exact zgb hk1 hp_1
 ·replace hp_1:=AR hg_1 hp_1
  refine zq2 ?_;obtain ⟨x2,hx2,hp_1⟩:=bS hp_1;refine zcw (Lj hx2) ?_;refine zq2 ?_;exact zgb hk1 hp_1
 refine zq1 ?_;obtain ⟨p2,hp_2,hm⟩:=bS hm;refine AS [(2,_),(3,_)] 5 19 p2 (t:=14) ⟨rfl,rfl,trivial⟩ rfl (fun hg_2 hk2=>?_) (fun hg_2 hk2=>?_) ?_
 ·replace hp_2:=AO hg_2 hp_2
  refine zq5 ?_;exact zgb hk2 hp_2
 ·replace hp_2:=AR hg_2 hp_2
  refine zq2 ?_;obtain ⟨x3,hx3,hp_2⟩:=bS hp_2;refine gWp rfl rfl rfl hg_2 rfl rfl (BE Tryz.call134 rfl (J9 (fun _ _ h=>J4 Tryz.call135 (K9 h)) hx3)) ?_;refine zq2 ?_;exact zgb hk2 hp_2
 refine zq1 ?_;obtain ⟨p3,hp_3,hm⟩:=bS hm;refine AS [(2,_),(3,_)] 5 25 p3 (t:=20) ⟨rfl,rfl,trivial⟩ rfl (fun hg_3 hk3=>?_) (fun hg_3 hk3=>?_) ?_
 ·replace hp_3:=AO hg_3 hp_3
  refine zq5 ?_;exact zgb hk3 hp_3
 ·replace hp_3:=AR hg_3 hp_3
  refine zq2 ?_;obtain ⟨x4,hx4,hp_3⟩:=bS hp_3;refine gWp rfl rfl rfl hg_3 rfl rfl (BE Tryz.call134 rfl (J9 (fun _ _ h=>J4 Tryz.call136 (LS h)) hx4)) ?_;refine zq2 ?_;exact zgb hk3 hp_3
 refine gNl ?_;refine zcn hm (fun hc1 hm=>?_) (fun hc1 hm=>?_)
 ·refine zq4 ?_
  cases hm;exact Ae zr1
 ·refine zq7 ?_
  obtain ⟨p4,hp_4,hm⟩:=bS hm;refine AS [(2,_),(3,_)] 18 46 p4 (t:=28) ⟨rfl,rfl,trivial⟩ rfl (fun hg_4 hk4=>?_) (fun hg_4 hk4=>?_) ?_
  ·replace hp_4:=AO hg_4 hp_4
   refine zq6 ?_;obtain ⟨x5,hx5,hp_4⟩:=bS hp_4;refine zcw (Fs hx5) ?_;refine zq2 ?_;obtain ⟨p5,hp_5,hp_4⟩:=bS hp_4;refine AS [(2,_),(3,_),(28,_)] 8 45 p5 (t:=37) ⟨rfl,rfl,rfl,trivial⟩ rfl (fun hg_5 hk5=>?_) (fun hg_5 hk5=>?_) ?_
   ·replace hp_5:=AO hg_5 hp_5
    refine zq8 ?_;exact zgb hk5 hp_5
   ·replace hp_5:=AR hg_5 hp_5
    refine zq5 ?_;obtain ⟨x6,hx6,hp_5⟩:=bS hp_5;refine zcw (Fs hx6) ?_;refine zq2 ?_;exact zgb hk5 hp_5
   refine zq1 ?_;exact zgb hk4 hp_4
  ·replace hp_4:=AR hg_4 hp_4
   refine zq18 ?_;exact zgb hk4 hp_4
  refine gNl ?_;refine zcn hm (fun hc2 hm=>?_) (fun hc2 hm=>?_)
  ·refine zq4 ?_
   cases hm;exact Ae zr1
  ·refine zq2 ?_
   obtain ⟨x7,hx7,hm⟩:=bS hm;obtain ⟨x8,hx8,hm⟩:=bS hm;obtain ⟨x9,hx9,hm⟩:=bS hm;obtain ⟨x10,hx10,hm⟩:=bS hm;refine zdr 12 ?_;refine zq2 ?_;refine zcd (HT hx7) ?_;refine zq2 ?_;refine zcd (HT hx8) ?_;refine AF rfl rfl rfl (zs2 (D.list 1 D.i64)) ?_;refine zcd (Ws hx9) ?_;refine AF rfl rfl rfl (Cw rfl rfl) ?_;refine AF rfl rfl rfl (BE Tryz.call117 rfl (Wx (fun _ _ h=>Hf Tryz.call139 (Jd h)) hx10)) ?_;refine zq4 ?_
   cases hm;exact Ae zr1
def Fy (s1:AutoState) (c1:AutoAuto):Option Bool:=
 (Dl c1 s1).bind fun x1 =>
 some (!x1)
theorem OC {s1:AutoState} {c1:AutoAuto} {r_1:Bool} (hm:Fy s1 c1=some r_1):Fn0 Tryz.prog 94 [AutoState.d s1,.ref (AutoAuto.d c1)] (.bool r_1):=by
 unfold Fy at hm;refine Ad Tryz.func94 rfl Tryz.ntmps94 rfl fun H0 fr w0=>?_;refine zq9 ?_;obtain ⟨x1,hx1,hm⟩:=bS hm;refine zc0 (JM hx1) ?_;refine zq3 ?_
 cases hm;exact Ae zr1
def E4 (a1:AutoAuto):Option Int:=
 bif ((decide ((a1.l.length:Int)=0))||(decide (2000<(a1.l.length:Int)))) then
  some 8
 else
  (CF a1 a1.start true).bind fun x1 =>
  (bif (!x1) then (some true) else ((At a1.l (fun y0=>Fy y0 a1)).bind fun x2 =>
  some x2)).bind fun p1 =>
  bif p1 then
   some 4
  else
   some 0
theorem MO {a1:AutoAuto} {r_1:Int} (hm:E4 a1=some r_1):Fn0 Tryz.prog 66 [AutoAuto.d a1] (.i64 r_1):=by
 unfold E4 at hm;refine Ad Tryz.func66 rfl Tryz.ntmps66 rfl fun H0 fr w0=>?_;refine zq13 ?_
 apply Cy [(1,_)] 5 12 (t:=7) ⟨rfl,trivial⟩ rfl
 ·intro hg_1 hk1
  refine zq5 ?_;exact zgm hk1
 ·intro hg_1 hk1
  refine zq5 ?_;exact zgm hk1
 refine gNl ?_;refine zcn hm (fun hc1 hm=>?_) (fun hc1 hm=>?_)
 ·refine zq4 ?_
  cases hm;exact Ae zr1
 ·refine zq7 ?_
  obtain ⟨x1,hx1,hm⟩:=bS hm;refine zc0 (Fs hx1) ?_;refine zq2 ?_;obtain ⟨p1,hp_2,hm⟩:=bS hm;refine AS [] 5 23 p1 (t:=18) trivial rfl (fun hg_2 hk2=>?_) (fun hg_2 hk2=>?_) ?_
  ·replace hp_2:=AO hg_2 hp_2
   refine zq5 ?_;exact zgb hk2 hp_2
  ·replace hp_2:=AR hg_2 hp_2
   refine zq2 ?_;refine gWp rfl rfl rfl hg_2 rfl rfl (Cw rfl rfl) ?_;obtain ⟨x2,hx2,hp_2⟩:=bS hp_2;refine gWp rfl rfl rfl hg_2 rfl rfl (BE Tryz.call90 rfl (AW (fun _ _ h=>Hf Tryz.call94 (OC h)) hx2)) ?_;refine zq1 ?_;exact zgb hk2 hp_2
  refine gNl ?_;refine zcn hm (fun hc2 hm=>?_) (fun hc2 hm=>?_)
  ·refine zq4 ?_
   cases hm;exact Ae zr1
  ·refine zq5 ?_
   cases hm;exact Ae zr1
def Db (l1:(List AutoEdge)) (to1:(List Int)):Nat->(Int×(List AutoEdge))->Option (List AutoEdge)
 | 0,_=>none
 | n+1,(x1,l3) =>
  bif (decide (x1<(l1.length:Int))) then
   (idx l3 x1).bind fun x2 =>
   (idx to1 x2.to_).bind fun x3 =>
   (idx l3 x1).bind fun x4 =>
   grd (InR (x1+1)) <|
   Db l1 to1 n ((x1+1),(l3.set (x1).toNat (⟨x4.name,x3⟩:AutoEdge)))
  else
   some l3
def Dh (l1:(List AutoEdge)) (to1:(List Int)):Option (List AutoEdge):=
 grd (l1.length*24<=140737488355328) <|
 (Db l1 to1 FU (0,l1):Option (List AutoEdge)).bind fun l2 =>
 some l2
theorem Gm {l1:(List AutoEdge)} {to1:(List Int)} {r_1:(List AutoEdge)} (hm:Dh l1 to1=some r_1):Fn0 Tryz.prog 97 [.list 2 AutoEdge.d l1,.list 1 D.i64 to1] (.list 2 AutoEdge.d r_1):=by
 unfold Dh at hm;refine Ad Tryz.func97 rfl Tryz.ntmps97 rfl fun H0 fr w0=>?_;refine zq3 ?_;refine Aq (nilE (i:=4) (sz:=2) (f:=AutoEdge.d) rfl).refines ?_;refine zq4 ?_;obtain ⟨hg1,hm⟩:=Aa hm;refine Az rfl rfl rfl (DO (ms₁:=[]) Tryz.call142 rfl (List.Perm.refl _) (Pv hg1)) ?_;rintro _ _ ⟨_,⟨a_r1,cap_r1,hd_r1,hq_r1⟩,rfl⟩;obtain ⟨m_r1,hm_r1⟩:∃ m,m=l1.length:=⟨_,rfl⟩;rw [<- hm_r1] at hd_r1 hq_r1;subst hd_r1 hq_r1
 clear hm_r1
 refine zq6 ?_;refine Ai rfl rfl rfl (Dd 0 Tryz.runUnderlying57 rfl rfl) ?_;refine zq2 ?_;obtain ⟨o_1,hj1,hm1⟩:=bS hm;refine Af [(5,_)] [] (fun (st:(List AutoEdge)) (hid:Unit)=>match st,hid with | l2,_=>[]) (fun F (st:(List AutoEdge)) (hid:Unit)=>match st,hid with | l2,_=>[arr a_r1 m_r1 cap_r1 62 2 AutoEdge.d l2]) (fun st=>st=o_1) ⟨rfl,trivial⟩ trivial ?_ ?_
 ·refine Am ?_
  refine Ag [(1,_),(5,_),(10,_)] [] (fun (st:(Int×(List AutoEdge))) (hid:Unit)=>match st,hid with | (x1,l3),_=>[(11,.i64 x1)]) (fun F (st:(Int×(List AutoEdge))) (hid:Unit)=>match st,hid with | (x1,l3),_=>[arr a_r1 m_r1 cap_r1 62 2 AutoEdge.d l3]) () hj1 (fun _=>rfl) ⟨rfl,rfl,rfl,trivial⟩ trivial ⟨rfl,trivial⟩ rfl ?_;rintro n ⟨x1,l3⟩ ⟨⟩ hj1;rw [Db] at hj1;refine Av (L':=[(11,.i64 x1),(1,_),(5,_),(10,_)]) (ms':=[arr a_r1 m_r1 cap_r1 62 2 AutoEdge.d l3]) rfl rfl ?_;refine zq5 ?_;refine zcn hj1 (fun hc1 hj1=>?_) (fun hc1 hj1=>?_)
  ·refine zq14 ?_
   obtain ⟨x2,hx2,hj1⟩:=bS hj1;refine Ai rfl rfl rfl (Aj 0 Tryz.runUnderlying57 Tryz.sizeOf62 rfl rfl rfl hx2) ?_;refine Ai rfl rfl rfl (B4 (b:=0) 0 On rfl rfl (Ar hx2).2) ?_;refine Ai rfl rfl rfl (BI (off:=1) 0 Tryz.isAgg3 rfl rfl (Ar hx2).2 rfl rfl rfl) ?_;obtain ⟨x3,hx3,hj1⟩:=bS hj1;refine Ai rfl rfl rfl (oIm Tryz.runUnderlying43 Tryz.sizeOf3 rfl rfl hx3) ?_;refine zq1 ?_;obtain ⟨x4,hx4,hj1⟩:=bS hj1;refine Ai rfl rfl rfl (Aj 0 Tryz.runUnderlying57 Tryz.sizeOf62 rfl rfl rfl hx4) ?_;refine Ai rfl rfl rfl (B4 (b:=0) 0 On rfl rfl (Ar hx4).2) ?_;refine Ip rfl rfl (Bs (off:=1) (z':=(⟨x4.name,x3⟩:AutoEdge)) 0 Tryz.sizeOf3 rfl rfl (Ar hx4).2 rfl rfl rfl rfl rfl rfl (nB rfl) rfl rfl) ?_;rintro _ _ rfl;refine Ah (ms':=[_]) rfl ?_;refine zq2 ?_;obtain ⟨hg5,hj1⟩:=Aa hj1;refine zq3 ?_;exact ⟨_,(),hj1,⟨rfl,trivial⟩,⟨rfl,rfl,rfl,trivial⟩,[],rfl⟩
  ·refine Au ?_
   exact ⟨_,(),Ac hj1,trivial,⟨rfl,trivial⟩,[],rfl⟩
 ·rintro l2 ⟨⟩ hst
  subst hst;refine An (L':=[(5,_)]) (ms':=[arr a_r1 m_r1 cap_r1 62 2 AutoEdge.d l2]) rfl rfl ?_;refine zq5 ?_;refine N3 0 rfl rfl ?_;rintro rfl;refine CW (peekE (i:=4) 0 rfl rfl rfl).refines ?_
  cases hm1;exact Ae zr1
def Cg  : List Int->((List Int)×(List Int))->Option ((List Int)×(List Int))
 | [],(l3,l4) =>
  some (l3,l4)
 | x1::rr,(l3,l4) =>
  (idx l4 x1).bind fun x2 =>
  grd ((l3.length+([x1]:List _).length)*8<=140737488355328) <|
  Cg rr ((l3++[x1]),(l4.set (x1).toNat (l3.length:Int)))
def Cf (a1:AutoAuto) (l1:(List Int)) (l2:(List Int)):Nat->(Int×(List AutoState)×Int)->Option ((List AutoState)×Int)
 | 0,_=>none
 | n+1,(x3,l6,z2) =>
  bif (decide (x3<(l1.length:Int))) then
   (idx l1 x3).bind fun x4 =>
   (idx a1.l x4).bind fun x5 =>
   (bif x5.arrow then
    (idx l2 x5.dom).bind fun x6 =>
    (idx l2 x5.cod).bind fun x7 =>
    some (x5.plus,x5.all,x5.int,x5.bool,x5.str,x5.arrow,x5.rec_,x5.tag,x5.vars,x6,x7,x5.fields,x5.tags)
   else
    some (x5.plus,x5.all,x5.int,x5.bool,x5.str,x5.arrow,x5.rec_,x5.tag,x5.vars,x5.dom,x5.cod,x5.fields,x5.tags):Option (Bool×Bool×Bool×Bool×Bool×Bool×Bool×Bool×(List Int)×Int×Int×(List AutoEdge)×(List AutoEdge))).bind fun (z3,z4,z5,z6,z7,z8,z9,z10,z11,z12,z13,z14,z15) =>
   grd (z11.length*8<=140737488355328) <|
   (Dh z14 l2).bind fun x8 =>
   (Dh z15 l2).bind fun x9 =>
   grd ((l6.length+([(⟨z3,z4,z5,z6,z7,z8,z9,z10,z11,z12,z13,x8,x9⟩:AutoState)]:List _).length)*96<=140737488355328) <|
   grd (InR (x3+1)) <|
   Cf a1 l1 l2 n ((x3+1),(l6++[(⟨z3,z4,z5,z6,z7,z8,z9,z10,z11,z12,z13,x8,x9⟩:AutoState)]),z2)
  else
   some (l6,z2)
def EB (a1:AutoAuto):Option AutoAuto:=
 grd (0<=(a1.l.length:Int)) <|
 grd (((a1.l.length:Int)).toNat*8<=140737488355328) <|
 ((Gp a1).bind fun xs1 =>
 Cg xs1 ([],(List.replicate ((a1.l.length:Int)).toNat (0:Int))):Option ((List Int)×(List Int))).bind fun (l1,l2) =>
 (Cf a1 l1 l2 FU (0,[],0):Option ((List AutoState)×Int)).bind fun (l5,z1) =>
 some (⟨l5,z1⟩:AutoAuto)
theorem Pu {a1:AutoAuto} {r_1:AutoAuto} (hm:EB a1=some r_1):Fn0 Tryz.prog 67 [AutoAuto.d a1] (AutoAuto.d r_1):=by
 unfold EB at hm;refine Ad Tryz.func67 rfl Tryz.ntmps67 rfl fun H0 fr w0=>?_;refine zq3 ?_;refine Ev fun b1=>?_;refine zq6 ?_;obtain ⟨hg1,hm⟩:=Aa hm;obtain ⟨hg2,hm⟩:=Aa hm;refine Az rfl rfl rfl (DY (f:=D.i64) (z0:=0) Tryz.underlying43 Tryz.type3 rfl rfl rfl (nB rfl) rfl rfl hg1 hg2 (nB rfl)) ?_;rintro _ _ ⟨a_r1,m_r1,cap_r1,rfl,rfl⟩;refine Qz fun b2=>?_;refine zst 0 ?_;refine Ah (ms':=[box b2 43 [_],_,box b1 27 [_,_]]) rfl ?_;refine zq3 ?_;refine Ql fun b3=>?_;refine Aq (AG (T:=3) (sz:=1) (f:=D.i64)) ?_;refine zq5 ?_;refine Ai rfl rfl rfl (BE Tryz.call96 rfl NM) ?_;refine gNl ?_;obtain ⟨o_1,hj1,hm1⟩:=bS hm;refine Af [(1,_),(2,_),(3,_),(4,_)] [(4,_)] (fun (st:((List Int)×(List Int))) (hid:(Option Addr×Nat)×Unit)=>match st,hid with | (l1,l2),((a_r2,cap_r2),_)=>[]) (fun F (st:((List Int)×(List Int))) (hid:(Option Addr×Nat)×Unit)=>match st,hid with | (l1,l2),((a_r2,cap_r2),_)=>[row a_r2 cap_r2 3 1 D.i64 l1,box b3 43 [.v (.slice a_r2 l1.length cap_r2)],box b2 43 [.v (.slice a_r1 m_r1 cap_r1)],arr a_r1 m_r1 cap_r1 3 1 D.i64 l2,(nthF F 0)]) (fun st=>st=o_1) ⟨rfl,rfl,rfl,rfl,trivial⟩ ⟨rfl,trivial⟩ ?_ ?_
 ·refine Am ?_
  obtain ⟨xs1,hx3,hj1⟩:=bS hj1;refine KS (fun (p:Int)=>[.i64 p]) [(4,_)] (fun F (st:((List Int)×(List Int))) (hid:(Option Addr×Nat)×Unit)=>match st,hid with | (l3,l4),((a_r2,cap_r2),_)=>[row a_r2 cap_r2 3 1 D.i64 l3,box b3 43 [.v (.slice a_r2 l3.length cap_r2)],box b2 43 [.v (.slice a_r1 m_r1 cap_r1)],arr a_r1 m_r1 cap_r1 3 1 D.i64 l4,(nthF F 0)]) ((_,_),()) hj1 ⟨rfl,trivial⟩ rfl rfl Tryz.call140 (L8 hx3) (fun _=>rfl) rfl ?_ ?_
  ·rintro H0r frr ror w0r hrr x1 rr ⟨l3,l4⟩ ⟨⟨a_r2,cap_r2⟩,⟨⟩⟩ hj1
   rw [Cg] at hj1;refine Av (ms':=[row a_r2 cap_r2 3 1 D.i64 l3,box b3 43 [.v (.slice a_r2 l3.length cap_r2)],box b2 43 [.v (.slice a_r1 m_r1 cap_r1)],arr a_r1 m_r1 cap_r1 3 1 D.i64 l4,_]) rfl rfl ?_;refine zq3 ?_
   intro H0r frr ror w0r hrr
   refine zq6 ?_;refine Ai rfl rfl rfl (.view (peekE (i:=19) 0 rfl rfl rfl) (EW Tryz.runUnderlying43 rfl)) ?_;obtain ⟨x2,hx4,hj1⟩:=bS hj1;refine Ai rfl rfl rfl (Aj 3 Tryz.runUnderlying43 Tryz.sizeOf3 rfl rfl rfl hx4) ?_;refine Ip rfl rfl (Bs (off:=0) (z':=(l3.length:Int)) 3 Tryz.sizeOf3 rfl rfl (Ar hx4).2 rfl rfl rfl rfl rfl rfl (nB rfl) rfl rfl) ?_;rintro _ _ rfl;refine Ah (ms':=[_,box b3 43 [_],box b2 43 [_],_,box b1 27 [_,_]]) rfl ?_;refine zq4 ?_;refine Ai rfl rfl rfl (zs1 D.i64) ?_;obtain ⟨hg5,hj1⟩:=Aa hj1;refine zap 0 hg5 fun a_r2 cap_r2=>?_;refine Ah (ms':=[_,box b3 43 [_],box b2 43 [_],_,box b1 27 [_,_]]) rfl ?_;refine zst 1 ?_;refine Ah (ms':=[_,box b3 43 [_],box b2 43 [_],_,box b1 27 [_,_]]) rfl ?_;refine gNl ?_;exact ⟨_,((_,_),()),hj1,[],rfl⟩
  ·rintro ⟨l3,l4⟩ ⟨⟨a_r2,cap_r2⟩,⟨⟩⟩ hj1
   rw [Cg] at hj1;refine An (ms':=[row a_r2 cap_r2 3 1 D.i64 l3,box b3 43 [.v (.slice a_r2 l3.length cap_r2)],box b2 43 [.v (.slice a_r1 m_r1 cap_r1)],arr a_r1 m_r1 cap_r1 3 1 D.i64 l4,_]) rfl rfl ?_;exact ⟨_,((_,_),()),Ac hj1,trivial,⟨rfl,rfl,rfl,rfl,trivial⟩,[],rfl⟩
 ·rintro ⟨l1,l2⟩ ⟨⟨a_r2,cap_r2⟩,⟨⟩⟩ hst
  subst hst;refine An (L':=[(1,_),(2,_),(3,_),(4,_)]) (ms':=[row a_r2 cap_r2 3 1 D.i64 l1,box b3 43 [.v (.slice a_r2 l1.length cap_r2)],box b2 43 [.v (.slice a_r1 m_r1 cap_r1)],arr a_r1 m_r1 cap_r1 3 1 D.i64 l2,_]) rfl rfl ?_;refine zq2 ?_;refine UX fun b5=>?_;refine Aq (AG (T:=59) (sz:=13) (f:=AutoState.d)) ?_;refine zq5 ?_;refine Ai rfl rfl rfl (.view (peekE (i:=26) 2 rfl rfl rfl) (EW Tryz.runUnderlying43 rfl)) ?_;refine zq2 ?_;refine N3 5 rfl rfl ?_;rintro rfl;obtain ⟨o_2,hj2,hm2⟩:=bS hm1;refine Af [(2,_),(6,_)] [(2,_),(3,_),(4,_),(5,_),(6,_)] (fun (st:((List AutoState)×Int)) (hid:(Option Addr×Nat))=>match st,hid with | (l5,z1),(a_r3,cap_r3)=>[]) (fun F (st:((List AutoState)×Int)) (hid:(Option Addr×Nat))=>match st,hid with | (l5,z1),(a_r3,cap_r3)=>[row a_r3 cap_r3 59 13 AutoState.d l5,box b5 27 [.v (.slice a_r3 l5.length cap_r3),.i64 z1],(nthF F 0),(nthF F 1),(nthF F 2),(nthF F 3),(nthF F 4)]) (fun st=>st=o_2) ⟨rfl,rfl,trivial⟩ ⟨rfl,rfl,rfl,rfl,rfl,trivial⟩ ?_ ?_
  ·refine Am ?_
   refine Ag [(1,_),(2,_),(3,_),(6,_),(26,_),(27,_)] [(2,_),(3,_),(4,_),(5,_),(6,_)] (fun (st:(Int×(List AutoState)×Int)) (hid:(Option Addr×Nat))=>match st,hid with | (x3,l6,z2),(a_r3,cap_r3)=>[(28,.i64 x3)]) (fun F (st:(Int×(List AutoState)×Int)) (hid:(Option Addr×Nat))=>match st,hid with | (x3,l6,z2),(a_r3,cap_r3)=>[row a_r3 cap_r3 59 13 AutoState.d l6,box b5 27 [.v (.slice a_r3 l6.length cap_r3),.i64 z2],(nthF F 0),(nthF F 1),(nthF F 2),(nthF F 3),(nthF F 4)]) (_,_) hj2 (fun _=>rfl) ⟨rfl,rfl,rfl,rfl,rfl,rfl,trivial⟩ ⟨rfl,rfl,rfl,rfl,rfl,trivial⟩ ⟨rfl,trivial⟩ rfl ?_;rintro n ⟨x3,l6,z2⟩ ⟨a_r3,cap_r3⟩ hj2;rw [Cf] at hj2;refine Av (L':=[(28,.i64 x3),(1,_),(2,_),(3,_),(6,_),(26,_),(27,_)]) (ms':=[row a_r3 cap_r3 59 13 AutoState.d l6,box b5 27 [.v (.slice a_r3 l6.length cap_r3),.i64 z2],_,_,_,_,_]) rfl rfl ?_;refine zq5 ?_;refine zcn hj2 (fun hc1 hj2=>?_) (fun hc1 hj2=>?_)
   ·refine zq5 ?_
    obtain ⟨x4,hx6,hj2⟩:=bS hj2;refine Ai rfl rfl rfl (.view (peekE (i:=26) 2 rfl rfl rfl) (oIm Tryz.runUnderlying43 Tryz.sizeOf3 rfl rfl hx6)) ?_;refine zq8 ?_;obtain ⟨x5,hx7,hj2⟩:=bS hj2;refine zq2 ?_;refine Me fun b6=>?_;refine zst 0 ?_;refine Ah (ms':=[box b6 59 [_,_,_,_,_,_,_,_,_,_,_,_,_],_,box b5 27 [_,_],_,box b3 43 [_],box b2 43 [_],_,box b1 27 [_,_]]) rfl ?_;refine zq7 ?_;obtain ⟨o_3,hj3,hm3⟩:=bS hj2;refine Af [(1,_),(2,_),(3,_),(6,_),(9,_),(26,_),(27,_),(28,_)] [(1,_),(2,_),(3,_),(4,_),(5,_),(6,_),(7,_)] (fun (st:(Bool×Bool×Bool×Bool×Bool×Bool×Bool×Bool×(List Int)×Int×Int×(List AutoEdge)×(List AutoEdge))) (hid:Unit)=>match st,hid with | (z3,z4,z5,z6,z7,z8,z9,z10,z11,z12,z13,z14,z15),_=>[]) (fun F (st:(Bool×Bool×Bool×Bool×Bool×Bool×Bool×Bool×(List Int)×Int×Int×(List AutoEdge)×(List AutoEdge))) (hid:Unit)=>match st,hid with | (z3,z4,z5,z6,z7,z8,z9,z10,z11,z12,z13,z14,z15),_=>[box b6 59 [.bool z3,.bool z4,.bool z5,.bool z6,.bool z7,.bool z8,.bool z9,.bool z10,.list 1 D.i64 z11,.i64 z12,.i64 z13,.list 2 AutoEdge.d z14,.list 2 AutoEdge.d z15],(nthF F 0),(nthF F 1),(nthF F 2),(nthF F 3),(nthF F 4),(nthF F 5),(nthF F 6)]) (fun st=>st=o_3) ⟨rfl,rfl,rfl,rfl,rfl,rfl,rfl,rfl,trivial⟩ ⟨rfl,rfl,rfl,rfl,rfl,rfl,rfl,trivial⟩ ?_ ?_
    ·refine zcn hj3 (fun hc2 hj3=>?_) (fun hc2 hj3=>?_)
     ·obtain ⟨x6,hx8,hj3⟩:=bS hj3
      obtain ⟨x7,hx9,hj3⟩:=bS hj3;refine GI [11,13] [5,8,9,12] [5,8,9] Bf (by decide +kernel) (by decide +kernel) rfl ?_;refine AT rfl rfl rfl rfl rfl rfl (oLb 5 Tryz.isAgg43 rfl rfl rfl rfl) ?_;refine AT rfl rfl rfl rfl rfl rfl (oFb I8 rfl) ?_;refine AT rfl rfl rfl rfl rfl rfl (oLb 0 Tryz.isAgg3 rfl rfl rfl rfl) ?_;refine AT rfl rfl rfl rfl rfl rfl (.view (peekE (i:=39) 6 rfl rfl rfl) (oIm Tryz.runUnderlying43 Tryz.sizeOf3 rfl rfl hx8)) ?_;refine AT rfl rfl rfl rfl rfl rfl (Cm Tryz.isAgg3 rfl rfl) ?_;refine G0 rfl rfl rfl rfl rfl (oLb 5 Tryz.isAgg43 rfl rfl rfl rfl) ?_;refine AT rfl rfl rfl rfl rfl rfl (oFb HA rfl) ?_;refine AT rfl rfl rfl rfl rfl rfl (oLb 0 Tryz.isAgg3 rfl rfl rfl rfl) ?_;refine G0 rfl rfl rfl rfl rfl (.view (peekE (i:=44) 6 rfl rfl rfl) (oIm Tryz.runUnderlying43 Tryz.sizeOf3 rfl rfl hx9)) ?_;refine G0 rfl rfl rfl rfl rfl (Cm Tryz.isAgg3 rfl rfl) ?_;refine AT rfl rfl rfl rfl rfl rfl (oFb I8 rfl) ?_;refine FC rfl ?_;refine AT rfl rfl rfl rfl rfl rfl (oFb HA rfl) ?_;refine FC rfl ?_;refine Ia ?_;refine Gd rfl rfl rfl (oSb 0 Tryz.sizeOf3 rfl rfl rfl rfl rfl rfl rfl rfl (nB rfl)) ?_;rintro _ _ rfl;refine ⟨⟨⟨⟨trivial,oLb 5 Tryz.isAgg43 rfl rfl rfl rfl⟩,.view (peekE (i:=44) 6 rfl rfl rfl) (oIm Tryz.runUnderlying43 Tryz.sizeOf3 rfl rfl hx9)⟩,Cm Tryz.isAgg3 rfl rfl⟩,?_⟩;refine Gd rfl rfl rfl (oSb 0 Tryz.sizeOf3 rfl rfl rfl rfl rfl rfl rfl rfl (nB rfl)) ?_;rintro _ _ rfl;refine ⟨⟨⟨⟨trivial,oLb 5 Tryz.isAgg43 rfl rfl rfl rfl⟩,.view (peekE (i:=44) 6 rfl rfl rfl) (oIm Tryz.runUnderlying43 Tryz.sizeOf3 rfl rfl hx9)⟩,Cm Tryz.isAgg3 rfl rfl⟩,?_⟩;refine Fj ?_;exact ⟨_,(),Ac hj3,trivial,⟨rfl,rfl,rfl,rfl,rfl,rfl,rfl,rfl,trivial⟩,[],rfl⟩
     ·refine gSp ?_
      exact ⟨_,(),Ac hj3,trivial,⟨rfl,rfl,rfl,rfl,rfl,rfl,rfl,rfl,trivial⟩,[],rfl⟩
    ·rintro ⟨z3,z4,z5,z6,z7,z8,z9,z10,z11,z12,z13,z14,z15⟩ _ hst
     subst hst;refine An (L':=[(1,_),(2,_),(3,_),(6,_),(9,_),(26,_),(27,_),(28,_)]) (ms':=[box b6 59 [.bool z3,.bool z4,.bool z5,.bool z6,.bool z7,.bool z8,.bool z9,.bool z10,.list 1 D.i64 z11,.i64 z12,.i64 z13,.list 2 AutoEdge.d z14,.list 2 AutoEdge.d z15],_,_,_,_,_,_,_]) rfl rfl ?_;refine zq4 ?_;obtain ⟨hg10,hm3⟩:=Aa hm3;refine Az rfl rfl rfl (DO (ms₁:=[]) Tryz.call64 rfl (List.Perm.refl _) (GN hg10)) ?_;rintro _ _ ⟨_,⟨a_r4,cap_r4,hd_r4,hq_r4⟩,rfl⟩;obtain ⟨m_r4,hm_r4⟩:∃ m,m=z11.length:=⟨_,rfl⟩;rw [<- hm_r4] at hd_r4 hq_r4;subst hd_r4 hq_r4
     clear hm_r4
     refine zq1 ?_;refine zst 1 ?_;refine Ah (ms':=[_,box b6 59 [_,_,_,_,_,_,_,_,_,_,_,_,_],_,box b5 27 [_,_],_,box b3 43 [_],box b2 43 [_],_,box b1 27 [_,_]]) rfl ?_;refine zq2 ?_;obtain ⟨x8,hx11,hm3⟩:=bS hm3;obtain ⟨x9,hx12,hm3⟩:=bS hm3;refine zdr 9 ?_;refine zq3 ?_;refine AF rfl rfl rfl (.view (peekE (i:=57) 7 rfl rfl rfl) (BE Tryz.call97 rfl (Gm hx11))) ?_;refine zq3 ?_;refine AF rfl rfl rfl (.view (peekE (i:=61) 7 rfl rfl rfl) (BE Tryz.call97 rfl (Gm hx12))) ?_;refine zq2 ?_;refine zst 1 ?_;refine Ah (ms':=[_,box b6 59 [_,_,_,_,_,_,_,_,_,_,_,_,_],_,box b5 27 [_,_],_,box b3 43 [_],box b2 43 [_],_,box b1 27 [_,_]]) rfl ?_;refine zq1 ?_;refine zst 1 ?_;refine Ah (ms':=[_,box b6 59 [_,_,_,_,_,_,_,_,_,_,_,_,_],_,box b5 27 [_,_],_,box b3 43 [_],box b2 43 [_],_,box b1 27 [_,_]]) rfl ?_;refine zq4 ?_;refine I5 0 rfl rfl ?_;rintro rfl;refine zq1 ?_;refine Aq (CU (i:=67) (q:=8) 0 rfl rfl rfl rfl rfl).refines ?_;refine Ai rfl rfl rfl (Ao (xs:=[_]) (f:=AutoState.d) (l:=[(⟨z3,z4,z5,z6,z7,z8,z9,z10,z11,z12,z13,x8,x9⟩:AutoState)]) Tryz.runUnderlying25 Tryz.sizeOf59 Tryz.zeroValue59 rfl rfl rfl (fun _=>⟨rfl,rfl,rfl⟩) rfl) ?_;obtain ⟨hg13,hm3⟩:=Aa hm3;refine zap 2 hg13 fun a_r3 cap_r3=>?_;refine Ah (ms':=[_,box b6 59 [_,_,_,_,_,_,_,_,_,_,_,_,_],_,box b5 27 [_,_],_,box b3 43 [_],box b2 43 [_],_,box b1 27 [_,_]]) rfl ?_;refine zq1 ?_;refine zst 3 ?_;refine Ah (ms':=[_,box b6 59 [_,_,_,_,_,_,_,_,_,_,_,_,_],_,box b5 27 [_,_],_,box b3 43 [_],box b2 43 [_],_,box b1 27 [_,_]]) rfl ?_;refine zq2 ?_;obtain ⟨hg14,hm3⟩:=Aa hm3;refine zq3 ?_;exact ⟨_,(_,_),hm3,⟨rfl,trivial⟩,⟨rfl,rfl,rfl,rfl,rfl,rfl,trivial⟩,[_,_],rfl⟩
   ·refine Au ?_
    exact ⟨_,(_,_),Ac hj2,trivial,⟨rfl,rfl,trivial⟩,[],rfl⟩
  ·rintro ⟨l5,z1⟩ ⟨a_r3,cap_r3⟩ hst
   subst hst;refine An (L':=[(2,_),(6,_)]) (ms':=[row a_r3 cap_r3 59 13 AutoState.d l5,box b5 27 [.v (.slice a_r3 l5.length cap_r3),.i64 z1],_,_,_,_,_]) rfl rfl ?_;refine zq3 ?_;refine Aq (CU (i:=72) (q:=0) 0 rfl rfl rfl rfl rfl).refines ?_;refine zst 6 ?_;refine Ah (ms':=[_,box b5 27 [_,_],_,box b3 43 [_],box b2 43 [_],_,box b1 27 [_,_]]) rfl ?_;refine gNl ?_
   cases hm2;exact Ae zr1
def C9  : List Int->((List Int)×(List Int))->Option ((List Int)×(List Int))
 | [],(l3,l4) =>
  some (l3,l4)
 | x1::rr,(l3,l4) =>
  (idx l4 x1).bind fun x2 =>
  grd ((l3.length+([x1]:List _).length)*8<=140737488355328) <|
  C9 rr ((l3++[x1]),(l4.set (x1).toNat (l3.length:Int)))
def Ed (a1:AutoAuto) (l1:(List Int)) (l2:(List Int)):Nat->(Int×(List AutoState)×Int)->Option ((List AutoState)×Int)
 | 0,_=>none
 | n+1,(x3,l6,z2) =>
  bif (decide (x3<(l1.length:Int))) then
   (idx l1 x3).bind fun x4 =>
   (idx a1.l x4).bind fun x5 =>
   (bif x5.arrow then
    (idx l2 x5.dom).bind fun x6 =>
    (idx l2 x5.cod).bind fun x7 =>
    some (x5.plus,x5.all,x5.int,x5.bool,x5.str,x5.arrow,x5.rec_,x5.tag,x5.vars,x6,x7,x5.fields,x5.tags)
   else
    some (x5.plus,x5.all,x5.int,x5.bool,x5.str,x5.arrow,x5.rec_,x5.tag,x5.vars,x5.dom,x5.cod,x5.fields,x5.tags):Option (Bool×Bool×Bool×Bool×Bool×Bool×Bool×Bool×(List Int)×Int×Int×(List AutoEdge)×(List AutoEdge))).bind fun (z3,z4,z5,z6,z7,z8,z9,z10,z11,z12,z13,z14,z15) =>
   grd (z11.length*8<=140737488355328) <|
   (Dh z14 l2).bind fun x8 =>
   (Dh z15 l2).bind fun x9 =>
   grd ((l6.length+([(⟨z3,z4,z5,z6,z7,z8,z9,z10,z11,z12,z13,x8,x9⟩:AutoState)]:List _).length)*96<=140737488355328) <|
   grd (InR (x3+1)) <|
   Ed a1 l1 l2 n ((x3+1),(l6++[(⟨z3,z4,z5,z6,z7,z8,z9,z10,z11,z12,z13,x8,x9⟩:AutoState)]),z2)
  else
   some (l6,z2)
def Fq (a1:AutoAuto)  : Option AutoAuto:=
 grd (0<=(a1.l.length:Int)) <|
 grd (((a1.l.length:Int)).toNat*8<=140737488355328) <|
 ((Gp a1).bind fun xs1 =>
 C9 xs1 ([],(List.replicate ((a1.l.length:Int)).toNat (0:Int))):Option ((List Int)×(List Int))).bind fun (l1,l2) =>
 (Ed a1 l1 l2 FU (0,[],0):Option ((List AutoState)×Int)).bind fun (l5,z1) =>
 some (⟨l5,z1⟩:AutoAuto)
theorem Ob {a1:AutoAuto}  {s_1:AutoAuto} (hm:Fq a1=some s_1):Go.V.Fn Tryz.prog 67 [AutoAuto.d a1] [] (fun d ms'=>∃ a_s_1c0 m_s_1c0 cap_s_1c0,d = .agg [.v (.slice a_s_1c0 m_s_1c0 cap_s_1c0),.i64 s_1.start]/\ms'=[arr a_s_1c0 m_s_1c0 cap_s_1c0 59 13 AutoState.d s_1.l]):=by
 unfold Fq at hm;refine Ad Tryz.func67 rfl Tryz.ntmps67 rfl fun H0 fr w0=>?_;refine zq3 ?_;refine Ev fun b1=>?_;refine zq6 ?_;obtain ⟨hg1,hm⟩:=Aa hm;obtain ⟨hg2,hm⟩:=Aa hm;refine Az rfl rfl rfl (DY (f:=D.i64) (z0:=0) Tryz.underlying43 Tryz.type3 rfl rfl rfl (nB rfl) rfl rfl hg1 hg2 (nB rfl)) ?_;rintro _ _ ⟨a_r1,m_r1,cap_r1,rfl,rfl⟩;refine Qz fun b2=>?_;refine zst 0 ?_;refine Ah (ms':=[box b2 43 [_],_,box b1 27 [_,_]]) rfl ?_;refine zq3 ?_;refine Ql fun b3=>?_;refine Aq (AG (T:=3) (sz:=1) (f:=D.i64)) ?_;refine zq5 ?_;refine Ai rfl rfl rfl (BE Tryz.call96 rfl NM) ?_;refine gNl ?_;obtain ⟨o_1,hj1,hm1⟩:=bS hm;refine Af [(1,_),(2,_),(3,_),(4,_)] [(4,_)] (fun (st:((List Int)×(List Int))) (hid:(Option Addr×Nat)×Unit)=>match st,hid with | (l1,l2),((a_r2,cap_r2),_)=>[]) (fun F (st:((List Int)×(List Int))) (hid:(Option Addr×Nat)×Unit)=>match st,hid with | (l1,l2),((a_r2,cap_r2),_)=>[row a_r2 cap_r2 3 1 D.i64 l1,box b3 43 [.v (.slice a_r2 l1.length cap_r2)],box b2 43 [.v (.slice a_r1 m_r1 cap_r1)],arr a_r1 m_r1 cap_r1 3 1 D.i64 l2,(nthF F 0)]) (fun st=>st=o_1) ⟨rfl,rfl,rfl,rfl,trivial⟩ ⟨rfl,trivial⟩ ?_ ?_
 ·refine Am ?_
  obtain ⟨xs1,hx3,hj1⟩:=bS hj1;refine KS (fun (p:Int)=>[.i64 p]) [(4,_)] (fun F (st:((List Int)×(List Int))) (hid:(Option Addr×Nat)×Unit)=>match st,hid with | (l3,l4),((a_r2,cap_r2),_)=>[row a_r2 cap_r2 3 1 D.i64 l3,box b3 43 [.v (.slice a_r2 l3.length cap_r2)],box b2 43 [.v (.slice a_r1 m_r1 cap_r1)],arr a_r1 m_r1 cap_r1 3 1 D.i64 l4,(nthF F 0)]) ((_,_),()) hj1 ⟨rfl,trivial⟩ rfl rfl Tryz.call140 (L8 hx3) (fun _=>rfl) rfl ?_ ?_
  ·rintro H0r frr ror w0r hrr x1 rr ⟨l3,l4⟩ ⟨⟨a_r2,cap_r2⟩,⟨⟩⟩ hj1
   rw [C9] at hj1;refine Av (ms':=[row a_r2 cap_r2 3 1 D.i64 l3,box b3 43 [.v (.slice a_r2 l3.length cap_r2)],box b2 43 [.v (.slice a_r1 m_r1 cap_r1)],arr a_r1 m_r1 cap_r1 3 1 D.i64 l4,_]) rfl rfl ?_;refine zq3 ?_
   intro H0r frr ror w0r hrr
   refine zq6 ?_;refine Ai rfl rfl rfl (.view (peekE (i:=19) 0 rfl rfl rfl) (EW Tryz.runUnderlying43 rfl)) ?_;obtain ⟨x2,hx4,hj1⟩:=bS hj1;refine Ai rfl rfl rfl (Aj 3 Tryz.runUnderlying43 Tryz.sizeOf3 rfl rfl rfl hx4) ?_;refine Ip rfl rfl (Bs (off:=0) (z':=(l3.length:Int)) 3 Tryz.sizeOf3 rfl rfl (Ar hx4).2 rfl rfl rfl rfl rfl rfl (nB rfl) rfl rfl) ?_;rintro _ _ rfl;refine Ah (ms':=[_,box b3 43 [_],box b2 43 [_],_,box b1 27 [_,_]]) rfl ?_;refine zq4 ?_;refine Ai rfl rfl rfl (zs1 D.i64) ?_;obtain ⟨hg5,hj1⟩:=Aa hj1;refine zap 0 hg5 fun a_r2 cap_r2=>?_;refine Ah (ms':=[_,box b3 43 [_],box b2 43 [_],_,box b1 27 [_,_]]) rfl ?_;refine zst 1 ?_;refine Ah (ms':=[_,box b3 43 [_],box b2 43 [_],_,box b1 27 [_,_]]) rfl ?_;refine gNl ?_;exact ⟨_,((_,_),()),hj1,[],rfl⟩
  ·rintro ⟨l3,l4⟩ ⟨⟨a_r2,cap_r2⟩,⟨⟩⟩ hj1
   rw [C9] at hj1;refine An (ms':=[row a_r2 cap_r2 3 1 D.i64 l3,box b3 43 [.v (.slice a_r2 l3.length cap_r2)],box b2 43 [.v (.slice a_r1 m_r1 cap_r1)],arr a_r1 m_r1 cap_r1 3 1 D.i64 l4,_]) rfl rfl ?_;exact ⟨_,((_,_),()),Ac hj1,trivial,⟨rfl,rfl,rfl,rfl,trivial⟩,[],rfl⟩
 ·rintro ⟨l1,l2⟩ ⟨⟨a_r2,cap_r2⟩,⟨⟩⟩ hst
  subst hst;refine An (L':=[(1,_),(2,_),(3,_),(4,_)]) (ms':=[row a_r2 cap_r2 3 1 D.i64 l1,box b3 43 [.v (.slice a_r2 l1.length cap_r2)],box b2 43 [.v (.slice a_r1 m_r1 cap_r1)],arr a_r1 m_r1 cap_r1 3 1 D.i64 l2,_]) rfl rfl ?_;refine zq2 ?_;refine UX fun b5=>?_;refine Aq (C1 (T:=59) (sz:=13) (f:=AutoState.d)) ?_;refine zq5 ?_;refine Ai rfl rfl rfl (.view (peekE (i:=26) 2 rfl rfl rfl) (EW Tryz.runUnderlying43 rfl)) ?_;refine zq2 ?_;refine N3 5 rfl rfl ?_;rintro rfl;obtain ⟨o_2,hj2,hm2⟩:=bS hm1;refine Af [(2,_),(6,_)] [(2,_),(3,_),(4,_),(5,_),(6,_)] (fun (st:((List AutoState)×Int)) (hid:(Option Addr×Nat×Nat))=>match st,hid with | (l5,z1),(a_r3,m_r3,cap_r3)=>[]) (fun F (st:((List AutoState)×Int)) (hid:(Option Addr×Nat×Nat))=>match st,hid with | (l5,z1),(a_r3,m_r3,cap_r3)=>[arr a_r3 m_r3 cap_r3 59 13 AutoState.d l5,box b5 27 [.v (.slice a_r3 m_r3 cap_r3),.i64 z1],(nthF F 0),(nthF F 1),(nthF F 2),(nthF F 3),(nthF F 4)]) (fun st=>st=o_2) ⟨rfl,rfl,trivial⟩ ⟨rfl,rfl,rfl,rfl,rfl,trivial⟩ ?_ ?_
  ·refine Am ?_
   refine Ag [(1,_),(2,_),(3,_),(6,_),(26,_),(27,_)] [(2,_),(3,_),(4,_),(5,_),(6,_)] (fun (st:(Int×(List AutoState)×Int)) (hid:(Option Addr×Nat×Nat))=>match st,hid with | (x3,l6,z2),(a_r3,m_r3,cap_r3)=>[(28,.i64 x3)]) (fun F (st:(Int×(List AutoState)×Int)) (hid:(Option Addr×Nat×Nat))=>match st,hid with | (x3,l6,z2),(a_r3,m_r3,cap_r3)=>[arr a_r3 m_r3 cap_r3 59 13 AutoState.d l6,box b5 27 [.v (.slice a_r3 m_r3 cap_r3),.i64 z2],(nthF F 0),(nthF F 1),(nthF F 2),(nthF F 3),(nthF F 4)]) (_,_,_) hj2 (fun _=>rfl) ⟨rfl,rfl,rfl,rfl,rfl,rfl,trivial⟩ ⟨rfl,rfl,rfl,rfl,rfl,trivial⟩ ⟨rfl,trivial⟩ rfl ?_;rintro n ⟨x3,l6,z2⟩ ⟨a_r3,m_r3,cap_r3⟩ hj2;rw [Ed] at hj2;refine Av (L':=[(28,.i64 x3),(1,_),(2,_),(3,_),(6,_),(26,_),(27,_)]) (ms':=[arr a_r3 m_r3 cap_r3 59 13 AutoState.d l6,box b5 27 [.v (.slice a_r3 m_r3 cap_r3),.i64 z2],_,_,_,_,_]) rfl rfl ?_;refine zq5 ?_;refine zcn hj2 (fun hc1 hj2=>?_) (fun hc1 hj2=>?_)
   ·refine zq5 ?_
    obtain ⟨x4,hx6,hj2⟩:=bS hj2;refine Ai rfl rfl rfl (.view (peekE (i:=26) 2 rfl rfl rfl) (oIm Tryz.runUnderlying43 Tryz.sizeOf3 rfl rfl hx6)) ?_;refine zq8 ?_;obtain ⟨x5,hx7,hj2⟩:=bS hj2;refine zq2 ?_;refine Me fun b6=>?_;refine zst 0 ?_;refine Ah (ms':=[box b6 59 [_,_,_,_,_,_,_,_,_,_,_,_,_],_,box b5 27 [_,_],_,box b3 43 [_],box b2 43 [_],_,box b1 27 [_,_]]) rfl ?_;refine zq7 ?_;obtain ⟨o_3,hj3,hm3⟩:=bS hj2;refine Af [(1,_),(2,_),(3,_),(6,_),(9,_),(26,_),(27,_),(28,_)] [(1,_),(2,_),(3,_),(4,_),(5,_),(6,_),(7,_)] (fun (st:(Bool×Bool×Bool×Bool×Bool×Bool×Bool×Bool×(List Int)×Int×Int×(List AutoEdge)×(List AutoEdge))) (hid:Unit)=>match st,hid with | (z3,z4,z5,z6,z7,z8,z9,z10,z11,z12,z13,z14,z15),_=>[]) (fun F (st:(Bool×Bool×Bool×Bool×Bool×Bool×Bool×Bool×(List Int)×Int×Int×(List AutoEdge)×(List AutoEdge))) (hid:Unit)=>match st,hid with | (z3,z4,z5,z6,z7,z8,z9,z10,z11,z12,z13,z14,z15),_=>[box b6 59 [.bool z3,.bool z4,.bool z5,.bool z6,.bool z7,.bool z8,.bool z9,.bool z10,.list 1 D.i64 z11,.i64 z12,.i64 z13,.list 2 AutoEdge.d z14,.list 2 AutoEdge.d z15],(nthF F 0),(nthF F 1),(nthF F 2),(nthF F 3),(nthF F 4),(nthF F 5),(nthF F 6)]) (fun st=>st=o_3) ⟨rfl,rfl,rfl,rfl,rfl,rfl,rfl,rfl,trivial⟩ ⟨rfl,rfl,rfl,rfl,rfl,rfl,rfl,trivial⟩ ?_ ?_
    ·refine zcn hj3 (fun hc2 hj3=>?_) (fun hc2 hj3=>?_)
     ·obtain ⟨x6,hx8,hj3⟩:=bS hj3
      obtain ⟨x7,hx9,hj3⟩:=bS hj3;refine GI [11,13] [5,8,9,12] [5,8,9] Bf (by decide +kernel) (by decide +kernel) rfl ?_;refine AT rfl rfl rfl rfl rfl rfl (oLb 5 Tryz.isAgg43 rfl rfl rfl rfl) ?_;refine AT rfl rfl rfl rfl rfl rfl (oFb I8 rfl) ?_;refine AT rfl rfl rfl rfl rfl rfl (oLb 0 Tryz.isAgg3 rfl rfl rfl rfl) ?_;refine AT rfl rfl rfl rfl rfl rfl (.view (peekE (i:=39) 6 rfl rfl rfl) (oIm Tryz.runUnderlying43 Tryz.sizeOf3 rfl rfl hx8)) ?_;refine AT rfl rfl rfl rfl rfl rfl (Cm Tryz.isAgg3 rfl rfl) ?_;refine G0 rfl rfl rfl rfl rfl (oLb 5 Tryz.isAgg43 rfl rfl rfl rfl) ?_;refine AT rfl rfl rfl rfl rfl rfl (oFb HA rfl) ?_;refine AT rfl rfl rfl rfl rfl rfl (oLb 0 Tryz.isAgg3 rfl rfl rfl rfl) ?_;refine G0 rfl rfl rfl rfl rfl (.view (peekE (i:=44) 6 rfl rfl rfl) (oIm Tryz.runUnderlying43 Tryz.sizeOf3 rfl rfl hx9)) ?_;refine G0 rfl rfl rfl rfl rfl (Cm Tryz.isAgg3 rfl rfl) ?_;refine AT rfl rfl rfl rfl rfl rfl (oFb I8 rfl) ?_;refine FC rfl ?_;refine AT rfl rfl rfl rfl rfl rfl (oFb HA rfl) ?_;refine FC rfl ?_;refine Ia ?_;refine Gd rfl rfl rfl (oSb 0 Tryz.sizeOf3 rfl rfl rfl rfl rfl rfl rfl rfl (nB rfl)) ?_;rintro _ _ rfl;refine ⟨⟨⟨⟨trivial,oLb 5 Tryz.isAgg43 rfl rfl rfl rfl⟩,.view (peekE (i:=44) 6 rfl rfl rfl) (oIm Tryz.runUnderlying43 Tryz.sizeOf3 rfl rfl hx9)⟩,Cm Tryz.isAgg3 rfl rfl⟩,?_⟩;refine Gd rfl rfl rfl (oSb 0 Tryz.sizeOf3 rfl rfl rfl rfl rfl rfl rfl rfl (nB rfl)) ?_;rintro _ _ rfl;refine ⟨⟨⟨⟨trivial,oLb 5 Tryz.isAgg43 rfl rfl rfl rfl⟩,.view (peekE (i:=44) 6 rfl rfl rfl) (oIm Tryz.runUnderlying43 Tryz.sizeOf3 rfl rfl hx9)⟩,Cm Tryz.isAgg3 rfl rfl⟩,?_⟩;refine Fj ?_;exact ⟨_,(),Ac hj3,trivial,⟨rfl,rfl,rfl,rfl,rfl,rfl,rfl,rfl,trivial⟩,[],rfl⟩
     ·refine gSp ?_
      exact ⟨_,(),Ac hj3,trivial,⟨rfl,rfl,rfl,rfl,rfl,rfl,rfl,rfl,trivial⟩,[],rfl⟩
    ·rintro ⟨z3,z4,z5,z6,z7,z8,z9,z10,z11,z12,z13,z14,z15⟩ _ hst
     subst hst;refine An (L':=[(1,_),(2,_),(3,_),(6,_),(9,_),(26,_),(27,_),(28,_)]) (ms':=[box b6 59 [.bool z3,.bool z4,.bool z5,.bool z6,.bool z7,.bool z8,.bool z9,.bool z10,.list 1 D.i64 z11,.i64 z12,.i64 z13,.list 2 AutoEdge.d z14,.list 2 AutoEdge.d z15],_,_,_,_,_,_,_]) rfl rfl ?_;refine zq4 ?_;obtain ⟨hg10,hm3⟩:=Aa hm3;refine Az rfl rfl rfl (DO (ms₁:=[]) Tryz.call64 rfl (List.Perm.refl _) (GN hg10)) ?_;rintro _ _ ⟨_,⟨a_r4,cap_r4,hd_r4,hq_r4⟩,rfl⟩;obtain ⟨m_r4,hm_r4⟩:∃ m,m=z11.length:=⟨_,rfl⟩;rw [<- hm_r4] at hd_r4 hq_r4;subst hd_r4 hq_r4
     clear hm_r4
     refine zq1 ?_;refine zst 1 ?_;refine Ah (ms':=[_,box b6 59 [_,_,_,_,_,_,_,_,_,_,_,_,_],_,box b5 27 [_,_],_,box b3 43 [_],box b2 43 [_],_,box b1 27 [_,_]]) rfl ?_;refine zq2 ?_;obtain ⟨x8,hx11,hm3⟩:=bS hm3;obtain ⟨x9,hx12,hm3⟩:=bS hm3;refine zdr 9 ?_;refine zq3 ?_;refine AF rfl rfl rfl (.view (peekE (i:=57) 7 rfl rfl rfl) (BE Tryz.call97 rfl (Gm hx11))) ?_;refine zq3 ?_;refine AF rfl rfl rfl (.view (peekE (i:=61) 7 rfl rfl rfl) (BE Tryz.call97 rfl (Gm hx12))) ?_;refine zq2 ?_;refine zst 1 ?_;refine Ah (ms':=[_,box b6 59 [_,_,_,_,_,_,_,_,_,_,_,_,_],_,box b5 27 [_,_],_,box b3 43 [_],box b2 43 [_],_,box b1 27 [_,_]]) rfl ?_;refine zq1 ?_;refine zst 1 ?_;refine Ah (ms':=[_,box b6 59 [_,_,_,_,_,_,_,_,_,_,_,_,_],_,box b5 27 [_,_],_,box b3 43 [_],box b2 43 [_],_,box b1 27 [_,_]]) rfl ?_;refine zq4 ?_;refine I5 0 rfl rfl ?_;rintro rfl;refine zq1 ?_;refine Aq (CU (i:=67) (q:=8) 0 rfl rfl rfl rfl rfl).refines ?_;refine Ai rfl rfl rfl (Ao (xs:=[_]) (f:=AutoState.d) (l:=[(⟨z3,z4,z5,z6,z7,z8,z9,z10,z11,z12,z13,x8,x9⟩:AutoState)]) Tryz.runUnderlying25 Tryz.sizeOf59 Tryz.zeroValue59 rfl rfl rfl (fun _=>⟨rfl,rfl,rfl⟩) rfl) ?_;obtain ⟨hg13,hm3⟩:=Aa hm3;refine Az rfl rfl rfl (D6 (a:=_) 2 Tryz.underlying25 Tryz.type59 rfl rfl rfl rfl rfl rfl (fun _=>rfl) (fun _=>rfl) hg13 (BS hg13 rfl)) ?_;rintro _ _ ⟨a_r3,m_r3,cap_r3,rfl,rfl⟩;refine Ah (ms':=[_,box b6 59 [_,_,_,_,_,_,_,_,_,_,_,_,_],_,box b5 27 [_,_],_,box b3 43 [_],box b2 43 [_],_,box b1 27 [_,_]]) rfl ?_;refine zq1 ?_;refine zst 3 ?_;refine Ah (ms':=[_,box b6 59 [_,_,_,_,_,_,_,_,_,_,_,_,_],_,box b5 27 [_,_],_,box b3 43 [_],box b2 43 [_],_,box b1 27 [_,_]]) rfl ?_;refine zq2 ?_;obtain ⟨hg14,hm3⟩:=Aa hm3;refine zq3 ?_;exact ⟨_,(_,_,_),hm3,⟨rfl,trivial⟩,⟨rfl,rfl,rfl,rfl,rfl,rfl,trivial⟩,[_,_],rfl⟩
   ·refine Au ?_
    exact ⟨_,(_,_,_),Ac hj2,trivial,⟨rfl,rfl,trivial⟩,[],rfl⟩
  ·rintro ⟨l5,z1⟩ ⟨a_r3,m_r3,cap_r3⟩ hst
   subst hst;refine An (L':=[(2,_),(6,_)]) (ms':=[arr a_r3 m_r3 cap_r3 59 13 AutoState.d l5,box b5 27 [.v (.slice a_r3 m_r3 cap_r3),.i64 z1],_,_,_,_,_]) rfl rfl ?_;refine zq3 ?_;refine zst 6 ?_;refine Ah (ms':=[_,box b5 27 [_,_],_,box b3 43 [_],box b2 43 [_],_,box b1 27 [_,_]]) rfl ?_;refine gNl (Ae ?_);obtain rfl:=Ac hm2;exact retK (A0 rfl (F9 6 rfl rfl rfl Tryz.isAgg27 Tryz.sizeOf27 rfl) (permA 0 rfl permN)) ⟨_,_,_,rfl,rfl⟩
def F3 (a1:AutoAuto):Option (AutoAuto×Int):=
 (E4 a1).bind fun x1 =>
 bif (!decide (x1=0)) then
  some ((⟨([]:List AutoState),0⟩:AutoAuto),x1)
 else
  (EB a1).bind fun x2 =>
  some ((⟨x2.l,x2.start⟩:AutoAuto),0)
theorem P7 {a1:AutoAuto} {r_1:AutoAuto} {r_2:Int} (hm:F3 a1=some (r_1,r_2)):Fn0 Tryz.prog 29 [AutoAuto.d a1] (.tup [AutoAuto.d r_1,.i64 r_2]):=by
 unfold F3 at hm;refine Ad Tryz.func29 rfl Tryz.ntmps29 rfl fun H0 fr w0=>?_;refine zq3 ?_;refine Ev fun b1=>?_;refine zq6 ?_;obtain ⟨x1,hx1,hm⟩:=bS hm;refine zc0 (MO hx1) ?_;refine zq7 ?_;refine zcn hm (fun hc1 hm=>?_) (fun hc1 hm=>?_)
 ·refine zq2 ?_
  refine Ai rfl rfl rfl zb27b ?_;refine zq1 ?_;refine zst 0 ?_;refine Ah (ms':=[box b1 27 [_,_]]) rfl ?_;refine zq2 ?_
  cases hm;exact Ae zr2
 ·refine zq4 ?_
  obtain ⟨x2,hx2,hm⟩:=bS hm;refine zc0 (Pu hx2) ?_;refine zst 0 ?_;refine Ah (ms':=[box b1 27 [_,_]]) rfl ?_;refine zq2 ?_
  cases hm;exact Ae zr2
def CX (a1:AutoAuto)  : Option (Int×AutoAuto):=
 (E4 a1).bind fun x1 =>
 bif (!decide (x1=0)) then
  some (x1,(⟨([]:List AutoState),0⟩:AutoAuto))
 else
  (Fq a1).bind fun s1 =>
  some (0,(⟨s1.l,s1.start⟩:AutoAuto))
theorem HP {a1:AutoAuto}  {r_2:Int} {s_1:AutoAuto} (hm:CX a1=some (r_2,s_1)):Go.V.Fn Tryz.prog 29 [AutoAuto.d a1] [] (fun d ms'=>∃ a_s_1c0 m_s_1c0 cap_s_1c0,d = .tup [.agg [.v (.slice a_s_1c0 m_s_1c0 cap_s_1c0),.i64 s_1.start],.i64 r_2]/\ms'=[arr a_s_1c0 m_s_1c0 cap_s_1c0 59 13 AutoState.d s_1.l]):=by
 unfold CX at hm;refine Ad Tryz.func29 rfl Tryz.ntmps29 rfl fun H0 fr w0=>?_;refine zq3 ?_;refine Ev fun b1=>?_;refine zq6 ?_;obtain ⟨x1,hx1,hm⟩:=bS hm;refine zc0 (MO hx1) ?_;refine zq7 ?_;refine zcn hm (fun hc1 hm=>?_) (fun hc1 hm=>?_)
 ·refine zq2 ?_
  refine Ai rfl rfl rfl zb27a ?_;refine zq1 ?_;refine zst 0 ?_;refine Aq (C1 (T:=59) (sz:=13) (f:=AutoState.d)) ?_;refine Ah (ms':=[_,box b1 27 [_,_]]) rfl ?_;refine zq2 ?_;refine Ae ?_
  have hq1:=Ac hm
  obtain ⟨rfl,rfl⟩:=Prod.mk.inj hq1;exact retK (J5 (ds:=[_,_]) rfl (by decide) ⟨F9 1 rfl rfl rfl Tryz.isAgg27 Tryz.sizeOf27 rfl,⟨Bn rfl,rfl⟩⟩ (permA 0 rfl permN)) ⟨_,_,_,rfl,rfl⟩
 ·refine zq4 ?_
  obtain ⟨s1,hx2,hm⟩:=bS hm;refine Az rfl rfl rfl (DO (ms₁:=[]) Tryz.call67 rfl (List.Perm.refl _) (Ob hx2)) ?_;rintro _ _ ⟨_,⟨a_r2,m_r2,cap_r2,rfl,rfl⟩,rfl⟩;refine zst 1 ?_;refine Ah (ms':=[_,box b1 27 [_,_]]) rfl ?_;refine zq2 ?_;refine Ae ?_
  have hq1:=Ac hm
  obtain ⟨rfl,rfl⟩:=Prod.mk.inj hq1;exact retK (J5 (ds:=[_,_]) rfl (by decide) ⟨F9 1 rfl rfl rfl Tryz.isAgg27 Tryz.sizeOf27 rfl,⟨Bn rfl,rfl⟩⟩ (permA 0 rfl permN)) ⟨_,_,_,rfl,rfl⟩
def CK (x2:AutoState) (side1:Int):Nat->(Int×(List (Int×Int)))->Option (List (Int×Int))
 | 0,_=>none
 | n+1,(x3,mm4) =>
  bif (decide (x3<(x2.vars.length:Int))) then
   (idx x2.vars x3).bind fun x4 =>
   grd (InR (x3+1)) <|
   CK x2 side1 n ((x3+1),(mset mm4 x4 (orI ((mget mm4 x4).getD (0:Int)) side1)))
  else
   some mm4
def Dc (a1:AutoAuto):Nat->(Int×(List (Int×Int)))->Option (List (Int×Int))
 | 0,_=>none
 | n+1,(x1,mm2) =>
  bif (decide (x1<(a1.l.length:Int))) then
   (idx a1.l x1).bind fun x2 =>
   (bif x2.plus then
    some 1
   else
    some 2:Option Int).bind fun side1 =>
   (CK x2 side1 FU (0,mm2):Option (List (Int×Int))).bind fun mm3 =>
   grd (InR (x1+1)) <|
   Dc a1 n ((x1+1),mm3)
  else
   some mm2
def Ft (a1:AutoAuto)  : Option (List (Int×Int)):=
 (Dc a1 FU (0,([]:List (Int×Int))):Option (List (Int×Int))).bind fun mm1 =>
 some mm1
end Go.Proofs.YtcoghblhdjmbfaaGreat
