/- Part 4 of the proof: a program logic, what the functions compute, and what these answer; no condition. -/
import Derived.Test.YtcoghblhdjmbfaaGreatb3
import Derived.Test.YtcoghblhdjmbfaaGreatProg
set_option linter.unusedVariables false
set_option linter.unusedSimpArgs false
set_option maxRecDepth 100000
set_option maxHeartbeats 2000000
namespace Go.Proofs.YtcoghblhdjmbfaaGreat
open Go.V Tryz
theorem A0:Tryz.prog.follows .mixedOrders=true:=by kernel_rfl
structure AutoEdge where
 name:(List UInt8)
 to_:Int
def AutoEdge.d (x:AutoEdge):D := .agg [.str x.name,.i64 x.to_]
structure AFd where
 name:(List UInt8)
 at_:Int
def AFd.d (x:AFd):D := .agg [.str x.name,.i64 x.at_]
structure ANd where
 kind:Int
 a:Int
 b:Int
 l:(List AFd)
def ANd.d (x:ANd):D := .agg [.i64 x.kind,.i64 x.a,.i64 x.b,.list 2 AFd.d x.l]
structure ATy where
 l:(List ANd)
 root:Int
def ATy.d (x:ATy):D := .agg [.list 4 ANd.d x.l,.i64 x.root]
structure AutoState where
 plus:Bool
 all:Bool
 int:Bool
 bool:Bool
 str:Bool
 arrow:Bool
 rec_:Bool
 tag:Bool
 vars:(List Int)
 dom:Int
 cod:Int
 fields:(List AutoEdge)
 tags:(List AutoEdge)
def AutoState.d (x:AutoState):D := .agg [.bool x.plus,.bool x.all,.bool x.int,.bool x.bool,.bool x.str,.bool x.arrow,.bool x.rec_,.bool x.tag,.list 1 D.i64 x.vars,.i64 x.dom,.i64 x.cod,.list 2 AutoEdge.d x.fields,.list 2 AutoEdge.d x.tags]
structure AutoAuto where
 l:(List AutoState)
 start:Int
def AutoAuto.d (x:AutoAuto):D := .agg [.list 13 AutoState.d x.l,.i64 x.start]
structure RSeq where
 l:(List Int)
 r:(List Int)
def RSeq.d (x:RSeq):D := .agg [.list 1 D.i64 x.l,.list 1 D.i64 x.r]
theorem UC:FieldIs Tryz.prog 24 0 0 1 false:=⟨⟨_,_,runUnderlying24,rfl,rfl,sizeOf22,by decide,isAgg22⟩⟩
theorem Uo:FieldIs Tryz.prog 24 1 1 1 false:=⟨⟨_,_,runUnderlying24,rfl,rfl,sizeOf3,by decide,isAgg3⟩⟩
theorem Qr:FieldIs Tryz.prog 27 0 0 1 false:=⟨⟨_,_,runUnderlying27,rfl,rfl,sizeOf25,by decide,isAgg25⟩⟩
theorem Uq:FieldIs Tryz.prog 27 1 1 1 false:=⟨⟨_,_,runUnderlying27,rfl,rfl,sizeOf3,by decide,isAgg3⟩⟩
theorem E3:FieldIs Tryz.prog 31 0 0 1 false:=⟨⟨_,_,runUnderlying31,rfl,rfl,sizeOf29,by decide,isAgg29⟩⟩
theorem QI:FieldIs Tryz.prog 31 1 1 1 false:=⟨⟨_,_,runUnderlying31,rfl,rfl,sizeOf3,by decide,isAgg3⟩⟩
theorem Q7:FieldIs Tryz.prog 46 0 0 1 false:=⟨⟨_,_,runUnderlying46,rfl,rfl,sizeOf4,by decide,isAgg4⟩⟩
theorem Q1:FieldIs Tryz.prog 46 1 1 1 false:=⟨⟨_,_,runUnderlying46,rfl,rfl,sizeOf4,by decide,isAgg4⟩⟩
theorem Qn:FieldIs Tryz.prog 46 2 2 1 false:=⟨⟨_,_,runUnderlying46,rfl,rfl,sizeOf4,by decide,isAgg4⟩⟩
theorem QV:FieldIs Tryz.prog 46 3 3 1 false:=⟨⟨_,_,runUnderlying46,rfl,rfl,sizeOf4,by decide,isAgg4⟩⟩
theorem QD:FieldIs Tryz.prog 46 4 4 1 false:=⟨⟨_,_,runUnderlying46,rfl,rfl,sizeOf4,by decide,isAgg4⟩⟩
theorem Qk:FieldIs Tryz.prog 46 5 5 1 false:=⟨⟨_,_,runUnderlying46,rfl,rfl,sizeOf4,by decide,isAgg4⟩⟩
theorem QQ:FieldIs Tryz.prog 46 6 6 1 false:=⟨⟨_,_,runUnderlying46,rfl,rfl,sizeOf4,by decide,isAgg4⟩⟩
theorem Q0:FieldIs Tryz.prog 46 7 7 1 false:=⟨⟨_,_,runUnderlying46,rfl,rfl,sizeOf4,by decide,isAgg4⟩⟩
theorem MR:FieldIs Tryz.prog 46 8 8 1 false:=⟨⟨_,_,runUnderlying46,rfl,rfl,sizeOf43,by decide,isAgg43⟩⟩
theorem KJ:FieldIs Tryz.prog 46 9 9 1 false:=⟨⟨_,_,runUnderlying46,rfl,rfl,sizeOf3,by decide,isAgg3⟩⟩
theorem Jv:FieldIs Tryz.prog 46 10 10 1 false:=⟨⟨_,_,runUnderlying46,rfl,rfl,sizeOf3,by decide,isAgg3⟩⟩
theorem TC:FieldIs Tryz.prog 46 11 11 1 false:=⟨⟨_,_,runUnderlying46,rfl,rfl,sizeOf44,by decide,isAgg44⟩⟩
theorem TM:FieldIs Tryz.prog 46 12 12 1 false:=⟨⟨_,_,runUnderlying46,rfl,rfl,sizeOf44,by decide,isAgg44⟩⟩
theorem UD:FieldIs Tryz.prog 49 0 0 1 false:=⟨⟨_,_,runUnderlying49,rfl,rfl,sizeOf3,by decide,isAgg3⟩⟩
theorem KQ:FieldIs Tryz.prog 49 1 1 1 false:=⟨⟨_,_,runUnderlying49,rfl,rfl,sizeOf3,by decide,isAgg3⟩⟩
theorem KP:FieldIs Tryz.prog 49 2 2 1 false:=⟨⟨_,_,runUnderlying49,rfl,rfl,sizeOf3,by decide,isAgg3⟩⟩
theorem Uv:FieldIs Tryz.prog 49 3 3 1 false:=⟨⟨_,_,runUnderlying49,rfl,rfl,sizeOf47,by decide,isAgg47⟩⟩
theorem Q5:FieldIs Tryz.prog 59 0 0 1 false:=⟨⟨_,_,runUnderlying59,rfl,rfl,sizeOf4,by decide,isAgg4⟩⟩
theorem QH:FieldIs Tryz.prog 59 1 1 1 false:=⟨⟨_,_,runUnderlying59,rfl,rfl,sizeOf4,by decide,isAgg4⟩⟩
theorem QJ:FieldIs Tryz.prog 59 2 2 1 false:=⟨⟨_,_,runUnderlying59,rfl,rfl,sizeOf4,by decide,isAgg4⟩⟩
theorem Rc:FieldIs Tryz.prog 59 3 3 1 false:=⟨⟨_,_,runUnderlying59,rfl,rfl,sizeOf4,by decide,isAgg4⟩⟩
theorem Qw:FieldIs Tryz.prog 59 4 4 1 false:=⟨⟨_,_,runUnderlying59,rfl,rfl,sizeOf4,by decide,isAgg4⟩⟩
theorem MY:FieldIs Tryz.prog 59 5 5 1 false:=⟨⟨_,_,runUnderlying59,rfl,rfl,sizeOf4,by decide,isAgg4⟩⟩
theorem M5:FieldIs Tryz.prog 59 6 6 1 false:=⟨⟨_,_,runUnderlying59,rfl,rfl,sizeOf4,by decide,isAgg4⟩⟩
theorem Nu:FieldIs Tryz.prog 59 7 7 1 false:=⟨⟨_,_,runUnderlying59,rfl,rfl,sizeOf4,by decide,isAgg4⟩⟩
theorem QZ:FieldIs Tryz.prog 59 8 8 1 false:=⟨⟨_,_,runUnderlying59,rfl,rfl,sizeOf43,by decide,isAgg43⟩⟩
theorem Jp:FieldIs Tryz.prog 59 9 9 1 false:=⟨⟨_,_,runUnderlying59,rfl,rfl,sizeOf3,by decide,isAgg3⟩⟩
theorem HS:FieldIs Tryz.prog 59 10 10 1 false:=⟨⟨_,_,runUnderlying59,rfl,rfl,sizeOf3,by decide,isAgg3⟩⟩
theorem Ok:FieldIs Tryz.prog 59 11 11 1 false:=⟨⟨_,_,runUnderlying59,rfl,rfl,sizeOf57,by decide,isAgg57⟩⟩
theorem NF:FieldIs Tryz.prog 59 12 12 1 false:=⟨⟨_,_,runUnderlying59,rfl,rfl,sizeOf57,by decide,isAgg57⟩⟩
theorem Vd:FieldIs Tryz.prog 61 0 0 1 false:=⟨⟨_,_,runUnderlying61,rfl,rfl,sizeOf9,by decide,isAgg9⟩⟩
theorem Ui:FieldIs Tryz.prog 61 1 1 1 false:=⟨⟨_,_,runUnderlying61,rfl,rfl,sizeOf3,by decide,isAgg3⟩⟩
theorem Uk:FieldIs Tryz.prog 62 0 0 1 false:=⟨⟨_,_,runUnderlying62,rfl,rfl,sizeOf9,by decide,isAgg9⟩⟩
theorem Nb:FieldIs Tryz.prog 62 1 1 1 false:=⟨⟨_,_,runUnderlying62,rfl,rfl,sizeOf3,by decide,isAgg3⟩⟩
theorem UT:FieldIs Tryz.prog 71 0 0 1 false:=⟨⟨_,_,runUnderlying71,rfl,rfl,sizeOf9,by decide,isAgg9⟩⟩
theorem JO:FieldIs Tryz.prog 71 1 1 1 false:=⟨⟨_,_,runUnderlying71,rfl,rfl,sizeOf3,by decide,isAgg3⟩⟩
theorem Nf:FieldIs Tryz.prog 95 0 0 1 false:=⟨⟨_,_,runUnderlying95,rfl,rfl,sizeOf43,by decide,isAgg43⟩⟩
theorem MV:FieldIs Tryz.prog 95 1 1 1 false:=⟨⟨_,_,runUnderlying95,rfl,rfl,sizeOf43,by decide,isAgg43⟩⟩
theorem TV:FieldIs Tryz.prog 133 0 0 2 true:=⟨⟨_,_,runUnderlying133,rfl,rfl,sizeOf31,by decide,isAgg31⟩⟩
theorem T4:FieldIs Tryz.prog 133 1 2 1 false:=⟨⟨_,_,runUnderlying133,rfl,rfl,sizeOf3,by decide,isAgg3⟩⟩
theorem SG:FieldIs Tryz.prog 133 2 3 1 false:=⟨⟨_,_,runUnderlying133,rfl,rfl,sizeOf96,by decide,isAgg96⟩⟩
theorem S5:FieldIs Tryz.prog 133 3 4 1 false:=⟨⟨_,_,runUnderlying133,rfl,rfl,sizeOf131,by decide,isAgg131⟩⟩
theorem TE:FieldIs Tryz.prog 133 4 5 1 false:=⟨⟨_,_,runUnderlying133,rfl,rfl,sizeOf130,by decide,isAgg130⟩⟩
theorem SY:FieldIs Tryz.prog 133 5 6 1 false:=⟨⟨_,_,runUnderlying133,rfl,rfl,sizeOf130,by decide,isAgg130⟩⟩
theorem Tu:FieldIs Tryz.prog 133 6 7 1 false:=⟨⟨_,_,runUnderlying133,rfl,rfl,sizeOf4,by decide,isAgg4⟩⟩
theorem TN:FieldIs Tryz.prog 133 7 8 1 false:=⟨⟨_,_,runUnderlying133,rfl,rfl,sizeOf4,by decide,isAgg4⟩⟩
theorem Vm:∀ fs,(∀ w,(underlying 27).run Tryz.prog w = .ok (.struct fs) w)->CB Tryz.prog fs [(0,1),(1,1)]:=by
 intro fs h w
 have:=(h w).symm.trans (runUnderlying27 w)
 simp only [Result.ok.injEq,TypeDesc.struct.injEq,and_true] at this;subst this
 simp [sizeOf25,sizeOf3,Sem.run]
theorem Vo:∀ fs,(∀ w,(underlying 59).run Tryz.prog w = .ok (.struct fs) w)->CB Tryz.prog fs [(0,1),(1,1),(2,1),(3,1),(4,1),(5,1),(6,1),(7,1),(8,1),(9,1),(10,1),(11,1),(12,1)]:=by
 intro fs h w
 have:=(h w).symm.trans (runUnderlying59 w)
 simp only [Result.ok.injEq,TypeDesc.struct.injEq,and_true] at this;subst this
 simp [sizeOf3,sizeOf4,sizeOf43,sizeOf57,Sem.run]
theorem V3:∀ fs,(∀ w,(underlying 62).run Tryz.prog w = .ok (.struct fs) w)->CB Tryz.prog fs [(0,1),(1,1)]:=by
 intro fs h w
 have:=(h w).symm.trans (runUnderlying62 w)
 simp only [Result.ok.injEq,TypeDesc.struct.injEq,and_true] at this;subst this
 simp [sizeOf3,sizeOf9,Sem.run]
theorem Vl:∀ fs,(∀ w,(underlying 31).run Tryz.prog w = .ok (.struct fs) w)->CB Tryz.prog fs [(0,1),(1,1)]:=by
 intro fs h w
 have:=(h w).symm.trans (runUnderlying31 w)
 simp only [Result.ok.injEq,TypeDesc.struct.injEq,and_true] at this;subst this
 simp [sizeOf29,sizeOf3,Sem.run]
theorem Ws:∀ fs,(∀ w,(underlying 24).run Tryz.prog w = .ok (.struct fs) w)->CB Tryz.prog fs [(0,1),(1,1)]:=by
 intro fs h w
 have:=(h w).symm.trans (runUnderlying24 w)
 simp only [Result.ok.injEq,TypeDesc.struct.injEq,and_true] at this;subst this
 simp [sizeOf22,sizeOf3,Sem.run]
theorem Wj:∀ fs,(∀ w,(underlying 46).run Tryz.prog w = .ok (.struct fs) w)->CB Tryz.prog fs [(0,1),(1,1),(2,1),(3,1),(4,1),(5,1),(6,1),(7,1),(8,1),(9,1),(10,1),(11,1),(12,1)]:=by
 intro fs h w
 have:=(h w).symm.trans (runUnderlying46 w)
 simp only [Result.ok.injEq,TypeDesc.struct.injEq,and_true] at this;subst this
 simp [sizeOf3,sizeOf4,sizeOf43,sizeOf44,Sem.run]
theorem V8:∀ fs,(∀ w,(underlying 61).run Tryz.prog w = .ok (.struct fs) w)->CB Tryz.prog fs [(0,1),(1,1)]:=by
 intro fs h w
 have:=(h w).symm.trans (runUnderlying61 w)
 simp only [Result.ok.injEq,TypeDesc.struct.injEq,and_true] at this;subst this
 simp [sizeOf3,sizeOf9,Sem.run]
theorem Wg:∀ fs,(∀ w,(underlying 71).run Tryz.prog w = .ok (.struct fs) w)->CB Tryz.prog fs [(0,1),(1,1)]:=by
 intro fs h w
 have:=(h w).symm.trans (runUnderlying71 w)
 simp only [Result.ok.injEq,TypeDesc.struct.injEq,and_true] at this;subst this
 simp [sizeOf3,sizeOf9,Sem.run]
theorem Vj:∀ fs,(∀ w,(underlying 49).run Tryz.prog w = .ok (.struct fs) w)->CB Tryz.prog fs [(0,1),(1,1),(2,1),(3,1)]:=by
 intro fs h w
 have:=(h w).symm.trans (runUnderlying49 w)
 simp only [Result.ok.injEq,TypeDesc.struct.injEq,and_true] at this;subst this
 simp [sizeOf3,sizeOf47,Sem.run]
theorem Vn:∀ fs,(∀ w,(underlying 95).run Tryz.prog w = .ok (.struct fs) w)->CB Tryz.prog fs [(0,1),(1,1)]:=by
 intro fs h w
 have:=(h w).symm.trans (runUnderlying95 w)
 simp only [Result.ok.injEq,TypeDesc.struct.injEq,and_true] at this;subst this
 simp [sizeOf43,Sem.run]
theorem qA {t:TypeId} {b:Bool} (h:∀ w,(isAgg t).run Tryz.prog w = .ok b w:=by with_reducible first | exact Tryz.isAgg3 | exact Tryz.isAgg4 | exact Tryz.isAgg9 | exact Tryz.isAgg22 | exact Tryz.isAgg24 | exact Tryz.isAgg25 | exact Tryz.isAgg27 | exact Tryz.isAgg29 | exact Tryz.isAgg31 | exact Tryz.isAgg43 | exact Tryz.isAgg44 | exact Tryz.isAgg46 | exact Tryz.isAgg47 | exact Tryz.isAgg49 | exact Tryz.isAgg57 | exact Tryz.isAgg59 | exact Tryz.isAgg62 | exact Tryz.isAgg63 | exact Tryz.isAgg71 | exact Tryz.isAgg88 | exact Tryz.isAgg95 | exact Tryz.isAgg96 | exact Tryz.isAgg109 | exact Tryz.isAgg130 | exact Tryz.isAgg131 | exact Tryz.isAgg143):∀ w,(isAgg t).run Tryz.prog w = .ok b w:=h
theorem qS {t:TypeId} {n:Nat} (h:∀ w,(sizeOf t).run Tryz.prog w = .ok n w:=by with_reducible first | exact Tryz.sizeOf3 | exact Tryz.sizeOf4 | exact Tryz.sizeOf9 | exact Tryz.sizeOf22 | exact Tryz.sizeOf24 | exact Tryz.sizeOf25 | exact Tryz.sizeOf27 | exact Tryz.sizeOf29 | exact Tryz.sizeOf31 | exact Tryz.sizeOf43 | exact Tryz.sizeOf44 | exact Tryz.sizeOf46 | exact Tryz.sizeOf47 | exact Tryz.sizeOf49 | exact Tryz.sizeOf57 | exact Tryz.sizeOf59 | exact Tryz.sizeOf61 | exact Tryz.sizeOf62 | exact Tryz.sizeOf71 | exact Tryz.sizeOf88 | exact Tryz.sizeOf95 | exact Tryz.sizeOf109 | exact Tryz.sizeOf143):∀ w,(sizeOf t).run Tryz.prog w = .ok n w:=h
theorem qU {t:TypeId} {u} (h:∀ w,(underlying t).run Tryz.prog w = .ok u w:=by with_reducible first | exact Tryz.runUnderlying4 | exact Tryz.runUnderlying22 | exact Tryz.runUnderlying25 | exact Tryz.runUnderlying29 | exact Tryz.runUnderlying43 | exact Tryz.runUnderlying44 | exact Tryz.runUnderlying47 | exact Tryz.runUnderlying57 | exact Tryz.runUnderlying78 | exact Tryz.runUnderlying96 | exact Tryz.runUnderlying131 | exact Tryz.runUnderlying144 | exact Tryz.runUnderlying174):∀ w,(underlying t).run Tryz.prog w = .ok u w:=h
theorem qF {t n o s:Nat} {b:Bool} (h:FieldIs Tryz.prog t n o s b:=by with_reducible first | exact UC | exact Uo | exact Qr | exact Uq | exact E3 | exact QI | exact Q7 | exact Q1 | exact Qn | exact QV | exact QD | exact Qk | exact QQ | exact Q0 | exact MR | exact KJ | exact Jv | exact TC | exact TM | exact UD | exact KQ | exact KP | exact Uv | exact Q5 | exact QH | exact QJ | exact Rc | exact Qw | exact MY | exact M5 | exact Nu | exact QZ | exact Jp | exact HS | exact Ok | exact NF | exact Vd | exact Ui | exact Uk | exact Nb | exact UT | exact JO | exact Nf | exact MV | exact TV | exact T4 | exact SG | exact S5 | exact TE | exact SY | exact Tu | exact TN):FieldIs Tryz.prog t n o s b:=h
theorem qB {a b:Bool} (h:a=b:=by first | assumption | rfl):a=b:=h
theorem qO {o:Oper} {L:Env} {ms:List Asrt} {d:D} (h:OpP Tryz.prog o L ms d:=by first | ((with_reducible apply oMv);exact rfl) | ((with_reducible apply oAs);exact rfl) | ((with_reducible apply VZ);exact rfl;exact rfl;exact rfl) | ((with_reducible apply Bk);exact qA;exact rfl;exact rfl) | ((with_reducible apply Ub);exact rfl;exact qB;exact rfl) | ((with_reducible apply Uc);exact rfl;exact qB;exact rfl) | ((with_reducible apply oFa);exact qF;exact rfl;exact rfl;exact rfl) | ((with_reducible apply Fb);exact qU;exact rfl) | ((with_reducible apply DF);exact qA;exact qS;exact rfl;exact rfl) | ((with_reducible apply V7);exact rfl;exact rfl) | ((with_reducible apply RV);exact rfl;exact rfl) | ((with_reducible apply oFb);exact qF;exact rfl) | ((with_reducible apply oLb 0);exact qA;exact rfl;exact rfl;exact rfl;exact rfl) | ((with_reducible apply oLb 1);exact qA;exact rfl;exact rfl;exact rfl;exact rfl) | ((with_reducible apply oLb 2);exact qA;exact rfl;exact rfl;exact rfl;exact rfl) | ((with_reducible apply oLb 3);exact qA;exact rfl;exact rfl;exact rfl;exact rfl) | ((with_reducible apply oLb 4);exact qA;exact rfl;exact rfl;exact rfl;exact rfl) | ((with_reducible apply oLb 5);exact qA;exact rfl;exact rfl;exact rfl;exact rfl) | ((with_reducible apply oLb 6);exact qA;exact rfl;exact rfl;exact rfl;exact rfl) | ((with_reducible apply oLg 0);exact qA;exact qS;exact rfl;exact rfl;exact rfl;exact rfl;exact (nB rfl)) | ((with_reducible apply oLg 1);exact qA;exact qS;exact rfl;exact rfl;exact rfl;exact rfl;exact (nB rfl)) | ((with_reducible apply oLg 2);exact qA;exact qS;exact rfl;exact rfl;exact rfl;exact rfl;exact (nB rfl)) | ((with_reducible apply oLg 3);exact qA;exact qS;exact rfl;exact rfl;exact rfl;exact rfl;exact (nB rfl)) | ((with_reducible apply oLg 4);exact qA;exact qS;exact rfl;exact rfl;exact rfl;exact rfl;exact (nB rfl)) | ((with_reducible apply oLg 5);exact qA;exact qS;exact rfl;exact rfl;exact rfl;exact rfl;exact (nB rfl)) | ((with_reducible apply oLg 6);exact qA;exact qS;exact rfl;exact rfl;exact rfl;exact rfl;exact (nB rfl)) | ((with_reducible apply Gy);exact rfl;exact rfl;exact (CO (by assumption))) | ((with_reducible apply QB);exact rfl;exact rfl;exact (CO (by assumption))) | ((with_reducible apply oIm);exact qU;exact qS;exact rfl;exact rfl;exact (by assumption)) | ((with_reducible apply Wi);exact rfl) | ((with_reducible apply VI);exact rfl;exact rfl;exact rfl) | ((with_reducible apply VN);exact qU;exact rfl;exact rfl)):OpP Tryz.prog o L ms d:=h
section
variable {Γ:Ctx} {P:Program} {ops:Array Oper} {opl l rest tail:List Oper} {o:Oper} {L:Env} {ms:List Asrt} {f:Env->List Asrt->Prop} {K:KT} {i j t:Nat} {b want:Bool} {d:D}
theorem Uz (hl:l=[]) (h:f L ms):GO Γ P ops l L ms (KT.then f K):=by subst hl;exact gNl h
theorem Uy (hl:l=[]) (h:K .normal L ms):GO Γ P ops l L ms K:=by subst hl;exact gNl h
theorem Vg (h:f L ms):G Γ P .skip L ms (KT.then f K):=gSp h
theorem V1 (hl:l=o::rest) (hg:o.guard=none) (hd:o.dst=some i) (hi:Nat.blt i Γ.N=true) (h:OpP P o L ms d) (k:GO Γ P ops rest ((i,d)::L) ms K):GO Γ P ops l L ms K:=by subst hl;exact Ai hg hd hi h k
theorem Wo (hl:l=o::rest) (hg:o.guard=some (j,want)) (hj:(ops[j]?).bind (·.dst)=some t) (hf:Env.find L t=some (.v (.bool b))) (hb:b=want) (hd:o.dst=some i) (hi:Nat.blt i Γ.N=true) (h:OpP P o L ms d) (k:GO Γ P ops rest ((i,d)::L) ms K):GO Γ P ops l L ms K:=by subst hl;exact gWp hg hj hf hb hd hi h k
theorem V5 (hl:l=o::rest) (hg:o.guard=some (j,want)) (hj:(ops[j]?).bind (·.dst)=some t) (hf:Env.find L t=some (.v (.bool b))) (hb:b = !want) (hd:o.dst=some i) (hi:Nat.blt i Γ.N=true) (k:GO Γ P ops rest ((i,.v undef)::L) ms K):GO Γ P ops l L ms K:=by subst hl;exact gKp hg hj hf hb hd hi k
theorem Wp (hl:l=o::rest) (hg:o.guard=some (j,want)) (hj:(ops[j]?).bind (·.dst)=some t) (hf:Env.find L t=some (.v undef)) (hd:o.dst=some i) (hi:Nat.blt i Γ.N=true) (k:GO Γ P ops rest ((i,.v undef)::L) ms K):GO Γ P ops l L ms K:=by subst hl;exact gKu hg hj hf hd hi k
theorem Ur (hl:l=[]) (h:GO Γ P opl.toArray tail L ms K):GD Γ P opl tail ms K l L:=by subst hl;exact Ex h
theorem We (hl:l=o::rest) (hg:o.guard=none) (hd:o.dst=some i) (hi:Nat.blt i Γ.N=true) (h:OpP P o (Env.only (At opl o) L) ms d) (k:GD Γ P opl tail ms K rest ((i,d)::L)):GD Γ P opl tail ms K l L:=by subst hl;exact AC hg hd hi h k
theorem Wl (hl:l=o::rest) (hg:o.guard=some (j,want)) (hj:(opl[j]?).bind (·.dst)=some t) (hf:Env.find L t=some (.v (.bool b))) (hb:b=want) (hd:o.dst=some i) (hi:Nat.blt i Γ.N=true) (h:OpP P o (Env.only (At opl o) L) ms d) (k:GD Γ P opl tail ms K rest ((i,d)::L)):GD Γ P opl tail ms K l L:=by subst hl;exact EL hg hj hf hb hd hi h k
theorem Wh (hl:l=o::rest) (hg:o.guard=some (j,want)) (hj:(opl[j]?).bind (·.dst)=some t) (hf:Env.find L t=some (.v (.bool b))) (hb:b = !want) (hd:o.dst=some i) (hi:Nat.blt i Γ.N=true) (k:GD Γ P opl tail ms K rest ((i,.v undef)::L)):GD Γ P opl tail ms K l L:=by subst hl;exact Ux hg hj hf hb hd hi k
theorem Wm (hl:l=o::rest) (hg:o.guard=some (j,want)) (hj:(opl[j]?).bind (·.dst)=some t) (hf:Env.find L t=some (.v undef)) (hd:o.dst=some i) (hi:Nat.blt i Γ.N=true) (k:GD Γ P opl tail ms K rest ((i,.v undef)::L)):GD Γ P opl tail ms K l L:=by subst hl;exact Td hg hj hf hd hi k
end
theorem qC {f:FuncId} (h:∀ args w,(callFunc f args).run Tryz.prog w = .ok (.enter f args) w:=by with_reducible first | exact Tryz.call7 | exact Tryz.call8 | exact Tryz.call9 | exact Tryz.call10 | exact Tryz.call11 | exact Tryz.call12 | exact Tryz.call13 | exact Tryz.call14 | exact Tryz.call15 | exact Tryz.call16 | exact Tryz.call17 | exact Tryz.call18 | exact Tryz.call20 | exact Tryz.call23 | exact Tryz.call24 | exact Tryz.call29 | exact Tryz.call32 | exact Tryz.call33 | exact Tryz.call34 | exact Tryz.call35 | exact Tryz.call36 | exact Tryz.call37 | exact Tryz.call39 | exact Tryz.call42 | exact Tryz.call43 | exact Tryz.call44 | exact Tryz.call48 | exact Tryz.call49 | exact Tryz.call53 | exact Tryz.call66 | exact Tryz.call67 | exact Tryz.call70 | exact Tryz.call71 | exact Tryz.call72 | exact Tryz.call73 | exact Tryz.call74 | exact Tryz.call75 | exact Tryz.call76 | exact Tryz.call83 | exact Tryz.call84 | exact Tryz.call92 | exact Tryz.call93 | exact Tryz.call95 | exact Tryz.call102 | exact Tryz.call103 | exact Tryz.call104 | exact Tryz.call105 | exact Tryz.call106 | exact Tryz.call107 | exact Tryz.call108 | exact Tryz.call113 | exact Tryz.call114 | exact Tryz.call115 | exact Tryz.call116 | exact Tryz.call118 | exact Tryz.call121 | exact Tryz.call124 | exact Tryz.call125 | exact Tryz.call126 | exact Tryz.call129 | exact Tryz.call131 | exact Tryz.call132 | exact Tryz.call133 | exact Tryz.call135 | exact Tryz.call136 | exact Tryz.call137 | exact Tryz.call138 | exact Tryz.call141 | exact Tryz.call144 | exact Tryz.call145 | exact Tryz.call146 | exact Tryz.call147 | exact Tryz.call148 | exact Tryz.call149 | exact Tryz.call163 | exact Tryz.call165 | exact Tryz.call166 | exact Tryz.call167 | exact Tryz.call168 | exact Tryz.call170 | exact Tryz.call171 | exact Tryz.call172 | exact Tryz.call173 | exact Tryz.call180 | exact Tryz.call181 | exact Tryz.call182 | exact Tryz.call184 | exact Tryz.call185):∀ args w,(callFunc f args).run Tryz.prog w = .ok (.enter f args) w:=h
theorem in3:(Tryz.prog).info? 3=some Tryz.t3:=type3
theorem in9:(Tryz.prog).info? 9=some Tryz.t9:=type9
theorem in46:(Tryz.prog).info? 46=some Tryz.t46:=type46
theorem in49:(Tryz.prog).info? 49=some Tryz.t49:=type49
theorem in59:(Tryz.prog).info? 59=some Tryz.t59:=type59
theorem in61:(Tryz.prog).info? 61=some Tryz.t61:=type61
theorem in62:(Tryz.prog).info? 62=some Tryz.t62:=type62
theorem in71:(Tryz.prog).info? 71=some Tryz.t71:=type71
theorem in95:(Tryz.prog).info? 95=some Tryz.t95:=type95
theorem qZ {t:TypeId} {z:Value} (h:∀ w,(zeroValue t).run Tryz.prog w = .ok z w:=by with_reducible first | exact Tryz.zeroValue3 | exact Tryz.zeroValue9 | exact Tryz.zeroValue43 | exact Tryz.zeroValue46 | exact Tryz.zeroValue49 | exact Tryz.zeroValue95):∀ w,(zeroValue t).run Tryz.prog w = .ok z w:=h
theorem qT {t:TypeId} {u} (h:(Tryz.prog).underlying t=some u:=by with_reducible first | exact Tryz.underlying22 | exact Tryz.underlying25 | exact Tryz.underlying29 | exact Tryz.underlying43 | exact Tryz.underlying44 | exact Tryz.underlying47 | exact Tryz.underlying57 | exact Tryz.underlying96 | exact Tryz.underlying174):(Tryz.prog).underlying t=some u:=h
theorem qI {t:TypeId} {u} (h:(Tryz.prog).info? t=some u:=by with_reducible first | exact in3 | exact in9 | exact in46 | exact in49 | exact in59 | exact in61 | exact in62 | exact in71 | exact in95):(Tryz.prog).info? t=some u:=h
theorem qV {L:Env} {ms:List Asrt} {r:ResultVar} {d:D} (h:GK Tryz.prog L ms r d:=by first | exact B5 rfl | ((with_reducible apply Ff 0);exact rfl;exact rfl;exact rfl;exact qA;exact qS;exact rfl) | ((with_reducible apply Ff 2);exact rfl;exact rfl;exact rfl;exact qA;exact qS;exact rfl) | ((with_reducible apply Ff 3);exact rfl;exact rfl;exact rfl;exact qA;exact qS;exact rfl) | ((with_reducible apply Ff 4);exact rfl;exact rfl;exact rfl;exact qA;exact qS;exact rfl) | ((with_reducible apply Ff 5);exact rfl;exact rfl;exact rfl;exact qA;exact qS;exact rfl) | ((with_reducible apply Ff 6);exact rfl;exact rfl;exact rfl;exact qA;exact qS;exact rfl)):GK Tryz.prog L ms r d:=h
section
variable {Γ:Ctx} {ops:Array Oper} {opl l rest tail:List Oper} {o:Oper} {L L1:Env} {ms:List Asrt} {K:KT} {i j t p:Nat} {b want:Bool} {d:D} {ty:TypeId} {pos:String} {after:Array Edge} {f:FuncId} {args:List Operand} {ats:Array TypeId} {ds:List D} {fn:Func} {r r' r2:ResultVar} {R:D->List Asrt->Prop} {d' d2:D}
theorem zst {t ty:TypeId} {x y:Operand} {b off sz:Nat} {T:TypeId} {cs:List D} (q:Nat) (k:GO Γ Tryz.prog ops rest L (ms.set q (box b T (putCs off d.cs cs))) K) (hs:∀ w,(sizeOf t).run Tryz.prog w = .ok sz w:=by exact qS) (hx:Env.ev L x=some (.v (.pointer (some ⟨b,off,none⟩))):=by exact rfl) (hk:ms[q]? = some (box b T cs):=by exact rfl) (hf:flat cs=true:=by exact rfl) (hy:Env.ev L y=some d:=by exact rfl) (hd:flat d.cs=true:=by exact rfl) (hst:d.storable=true:=by exact rfl) (hst2:CX d.cs=true:=by exact rfl) (hsz:d.cs.length=sz:=by exact rfl) (hl:off+sz<=cs.length:=by exact nB rfl):GO Γ Tryz.prog ops (⟨none,.store t x y,ty,pos,after,none⟩::rest) L ms K:=H6 rfl rfl (oSb q hs hx hk hf hy hd hst hst2 hsz hl) (by rintro _ _ rfl;exact k)
theorem zc0 (hf:Fn0 Tryz.prog f ds d) (k:GO Γ Tryz.prog ops rest ((i,d)::L) ms K) (hl:l=⟨some i,.call ⟨.value (.func f),args.toArray,ats⟩,ty,pos,after,none⟩::rest:=by exact rfl) (hc:∀ args w,(callFunc f args).run Tryz.prog w = .ok (.enter f args) w:=by exact qC) (hev:evL L args=some ds:=by exact rfl) (hi:Nat.blt i Γ.N=true:=by exact rfl):GO Γ Tryz.prog ops l L ms K:=by subst hl;exact Ai rfl rfl hi (Bv hc hev hf) k
theorem zcw (hf:Fn0 Tryz.prog f ds d) (k:GO Γ Tryz.prog ops rest ((i,d)::L) ms K) (hl:l=⟨some i,.call ⟨.value (.func f),args.toArray,ats⟩,ty,pos,after,some (j,want)⟩::rest:=by exact rfl) (hj:(ops[j]?).bind (·.dst)=some t:=by exact rfl) (hb0:Env.find L t=some (.v (.bool b)):=by exact rfl) (hb:b=want:=by exact qB) (hc:∀ args w,(callFunc f args).run Tryz.prog w = .ok (.enter f args) w:=by exact qC) (hev:evL L args=some ds:=by exact rfl) (hi:Nat.blt i Γ.N=true:=by exact rfl):GO Γ Tryz.prog ops l L ms K:=by subst hl;exact gWp rfl hj hb0 hb rfl hi (Bv hc hev hf) k
theorem zcd (hf:Fn0 Tryz.prog f ds d) (k:GD Γ Tryz.prog opl tail ms K rest ((i,d)::L)) (hl:l=o::rest:=by exact rfl) (ho:o=⟨some i,.call ⟨.value (.func f),args.toArray,ats⟩,ty,pos,after,none⟩:=by exact rfl) (hc:∀ args w,(callFunc f args).run Tryz.prog w = .ok (.enter f args) w:=by exact qC) (hev:evL (Env.only (At opl o) L) args=some ds:=by exact rfl) (hi:Nat.blt i Γ.N=true:=by exact rfl):GD Γ Tryz.prog opl tail ms K l L:=by subst hl;subst ho;exact AC rfl rfl hi (Bv hc hev hf) k
theorem zce (hf:Fn0 Tryz.prog f ds d) (k:GD Γ Tryz.prog opl tail ms K rest ((i,d)::L)) (hl:l=o::rest:=by exact rfl) (ho:o=⟨some i,.call ⟨.value (.func f),args.toArray,ats⟩,ty,pos,after,some (j,want)⟩:=by exact rfl) (hj:(opl[j]?).bind (·.dst)=some t:=by exact rfl) (hb0:Env.find L t=some (.v (.bool b)):=by exact rfl) (hb:b=want:=by exact qB) (hc:∀ args w,(callFunc f args).run Tryz.prog w = .ok (.enter f args) w:=by exact qC) (hev:evL (Env.only (At opl o) L) args=some ds:=by exact rfl) (hi:Nat.blt i Γ.N=true:=by exact rfl):GD Γ Tryz.prog opl tail ms K l L:=by subst hl;subst ho;exact EL rfl hj hb0 hb rfl hi (Bv hc hev hf) k
theorem zcn {α:Type} {x y:Code} {b:Bool} {u v:Option α} {z:α} (h:(bif b then u else v)=some z) (ht:b=true->u=some z->G Γ Tryz.prog x L ms K) (hf:b=false->v=some z->G Γ Tryz.prog y L ms K) (hc:Env.find L p=some (.v (.bool b)):=by exact rfl):G Γ Tryz.prog (.cond (.tmp p) x y) L ms K:=gCd hc (fun e=>ht e (AD e h)) (fun e=>hf e (AE e h))
theorem zdr {id:Nat} (k:Nat) (h:GD Γ Tryz.prog l (l.drop k) ms K (l.take k) L) (hm:Tryz.prog.follows .mixedOrders=true:=by exact A0) (hf:flowB l k=true:=by decide +kernel):G Γ Tryz.prog (.region id l.toArray true) L ms K:=VK k hm hf h
theorem zgm (h:GO Γ Tryz.prog ops l ((p,d)::L1) ms K) (hp:Env.find L p=some d:=by exact rfl) (hs:SubEnv L1 L:=by repeat first | exact trivial | refine ⟨rfl,?_⟩):GO Γ Tryz.prog ops l L ms K:=gMt h hp hs
theorem zgb {c:Bool} (h:GO Γ Tryz.prog ops l ((p,.v (.bool c))::L1) ms K) (e:some b=some c) (hp:Env.find L p=some (.v (.bool b)):=by exact rfl) (hs:SubEnv L1 L:=by repeat first | exact trivial | refine ⟨rfl,?_⟩):GO Γ Tryz.prog ops l L ms K:=by cases e;exact gMt h hp hs
theorem zr1 (hr:fn.results = #[r]:=by exact rfl) (hv:GK Tryz.prog L ms r d:=by exact qV) (hR:R d []:=by exact rfl):RetK Tryz.prog fn R .ret L ms:=retK (BA hr hv (EV _)) hR
theorem zr2 (hr:fn.results=[r,r'].toArray:=by exact rfl) (hv:GK Tryz.prog L ms r d:=by exact qV) (hv':GK Tryz.prog L ms r' d':=by exact qV) (hR:R (.tup [d,d']) []:=by exact rfl):RetK Tryz.prog fn R .ret L ms:=retK (Lb (ds:=[_,_]) hr (by simp) ⟨hv,⟨hv',rfl⟩⟩ (EV _)) hR
theorem zs1 {t e:TypeId} {sz:Nat} {z:Value} {x:Operand} {dst:Option Nat} {g:Option (Nat×Bool)} {α:Type} (f:α->D) {v:α} (hu:∀ w,(underlying t).run Tryz.prog w = .ok (.slice e) w:=by exact qU) (hs:∀ w,(sizeOf e).run Tryz.prog w = .ok sz w:=by exact qS) (hz:∀ w,(zeroValue e).run Tryz.prog w = .ok z w:=by exact qZ) (hzs:z.cells.size=sz:=by exact rfl) (hsz:Nat.blt 0 sz=true:=by exact rfl) (hev:evL L [x]=some ([v].map f):=by exact rfl) (hst:∀ x,(f x).storable=true/\(f x).cs.length=sz/\flat (f x).cs=true:=by exact fun _=>⟨rfl,rfl,rfl⟩) (hlen:Nat.ble ([x].length*sz) 16777216=true:=by exact rfl):OpP Tryz.prog ⟨dst,.buildSlice t [x].length (enumO 0 [x]).toArray,ty,pos,after,g⟩ L ms (.list sz f [v]):=Aj hu hs hz hzs hsz hev hst hlen
theorem zs2 {t e:TypeId} {sz:Nat} {z:Value} {x y:Operand} {dst:Option Nat} {g:Option (Nat×Bool)} {α:Type} (f:α->D) {v v':α} (hu:∀ w,(underlying t).run Tryz.prog w = .ok (.slice e) w:=by exact qU) (hs:∀ w,(sizeOf e).run Tryz.prog w = .ok sz w:=by exact qS) (hz:∀ w,(zeroValue e).run Tryz.prog w = .ok z w:=by exact qZ) (hzs:z.cells.size=sz:=by exact rfl) (hsz:Nat.blt 0 sz=true:=by exact rfl) (hev:evL L [x,y]=some ([v,v'].map f):=by exact rfl) (hst:∀ x,(f x).storable=true/\(f x).cs.length=sz/\flat (f x).cs=true:=by exact fun _=>⟨rfl,rfl,rfl⟩) (hlen:Nat.ble ([x,y].length*sz) 16777216=true:=by exact rfl):OpP Tryz.prog ⟨dst,.buildSlice t [x,y].length (enumO 0 [x,y]).toArray,ty,pos,after,g⟩ L ms (.list sz f [v,v']):=Aj hu hs hz hzs hsz hev hst hlen
theorem zap {t e:TypeId} {x y:Operand} {a:Option Addr} {cap n m sz:Nat} {α:Type} {f:α->D} {xs zs:List α} {ti:TypeInfo} {z:Value} (k:Nat) (hb:(xs.length+zs.length)*m<=140737488355328) (kk:∀ a' cap',GO Γ Tryz.prog ops rest ((i,.v (.slice a' (xs++zs).length cap'))::L) (ms.set k (row a' cap' e sz f (xs++zs))) K)
 (hl:l=⟨some i,.call ⟨.builtin .append,#[x,y],#[t,t]⟩,ty,pos,after,none⟩::rest:=by exact rfl) (ht:(Tryz.prog).underlying t=some (.slice e):=by exact qT) (hi:(Tryz.prog).info? e=some ti:=by exact qI) (hz:ti.zero=some z:=by exact rfl) (hsz:ti.size=sz:=by exact rfl) (hzs:z.cells.size=sz:=by exact rfl)
 (hx:Env.ev L x=some (.v (.slice a n cap)):=by exact rfl) (hk:ms[k]? = some (row a cap e sz f xs):=by exact rfl) (hn:xs.length=n:=by exact rfl) (hy:Env.ev L y=some (.list sz f zs):=by exact rfl) (hfl:∀ x,flat (f x).cs=true:=by exact fun _=>rfl) (hst:∀ x,CX (f x).cs=true:=by exact fun _=>rfl) (hm:ti.bytes=m:=by exact rfl) (h1:Nat.ble 1 m=true:=by exact rfl) (hN:Nat.blt i Γ.N=true:=by exact rfl):GO Γ Tryz.prog ops l L ms K:=by
 subst hl;subst hm;exact AG rfl rfl hN (C0 k ht hi hz hsz hzs hx hk hn hy hfl hst hb (BX hb h1)) (by rintro _ _ ⟨a',cap',rfl,rfl⟩;exact kk a' cap')
section
variable {dep:Nat->Nat->Bool} {n:Nat} {E:Env} {R R':List Nat} {e:Nat}
theorem zgp (k:GDT Γ Tryz.prog opl K L dep n R' ((i,d)::E) ms) (ho:opl[e]? = some o:=by exact rfl) (hg:o.guard=none:=by exact rfl) (hd:o.dst=some i:=by exact rfl) (hi:Nat.blt i Γ.N=true:=by exact rfl) (hR:R.erase e=R':=by exact rfl) (h:OpP Tryz.prog o (Env.only (At opl o) (E++L)) ms d:=by exact qO):GDS Γ Tryz.prog opl K L dep n R e E ms:=A8 ho hg hd hi hR h (by rintro _ _ ⟨rfl,rfl⟩;exact k)
theorem zgs {t:TypeId} {x y:Operand} {b off sz:Nat} {T:TypeId} {cs:List D} {dd:D} (q:Nat) (k:GDT Γ Tryz.prog opl K L dep n R' E (ms.set q (box b T (putCs off dd.cs cs)))) (ho:opl[e]? = some o:=by exact rfl) (he:o=⟨none,.store t x y,ty,pos,after,none⟩:=by exact rfl) (hR:R.erase e=R':=by exact rfl) (hs:∀ w,(sizeOf t).run Tryz.prog w = .ok sz w:=by exact qS) (hx:Env.ev (Env.only (At opl o) (E++L)) x=some (.v (.pointer (some ⟨b,off,none⟩))):=by exact rfl) (hk:ms[q]? = some (box b T cs):=by exact rfl) (hf:flat cs=true:=by exact rfl) (hy:Env.ev (Env.only (At opl o) (E++L)) y=some dd:=by exact rfl) (hd:flat dd.cs=true:=by exact rfl) (hst:dd.storable=true:=by exact rfl) (hst2:CX dd.cs=true:=by exact rfl) (hsz:dd.cs.length=sz:=by exact rfl) (hl:off+sz<=cs.length:=by exact nB rfl):GDS Γ Tryz.prog opl K L dep n R e E ms:=by subst he;exact V0 ho rfl rfl hR (oSb q hs hx hk hf hy hd hst hst2 hsz hl) (by rintro _ _ rfl;exact k)
theorem zg1 (e:Nat) (h:GDS Γ Tryz.prog opl K L dep n R e E ms) (hen:enT dep R=[e]:=by decide +kernel):GDT Γ Tryz.prog opl K L dep (n+1) R E ms:=Uh hen h
theorem zg2 (e e':Nat) (h:GDS Γ Tryz.prog opl K L dep n R e E ms) (h':GDS Γ Tryz.prog opl K L dep n R e' E ms) (hen:enT dep R=[e,e']:=by decide +kernel):GDT Γ Tryz.prog opl K L dep (n+1) R E ms:=UV hen h h'
theorem zse {M0 N0 B:Env} (h1:∀ p∈M0,Env.find (N0++B) p.1=Env.find (M0++B) p.1:=by intro p hp;repeat (first | (cases hp;done) | (rcases hp with _ | ⟨_,hp⟩;· rfl))) (h2:∀ q∈N0,(Env.find M0 q.1).isSome=true\/Env.find B q.1=none:=by intro p hp;repeat (first | (cases hp;done) | (rcases hp with _ | ⟨_,hp⟩;· first | exact .inr rfl | exact .inl rfl))):∀ t d,Env.find (M0++B) t=some d->Env.find (N0++B) t=some d:=E7 h1 h2
theorem M3 (k:∀ b,GDT Γ Tryz.prog opl K L dep n R' ((i,.v (.pointer (some ⟨b,0,none⟩)))::E) (box b 31 [.list 4 ANd.d [],.i64 0]::ms)) (ho:opl[e]? = some ⟨some i,.alloc 31,ty,pos,after,none⟩:=by exact rfl) (hi:Nat.blt i Γ.N=true:=by exact rfl) (hR:R.erase e=R':=by exact rfl):GDS Γ Tryz.prog opl K L dep n R e E ms:=A8 ho rfl rfl hi hR (AN zeroValue31 (cs:=[.list 4 ANd.d [],.i64 0]) rfl) (by rintro _ _ ⟨b,rfl,rfl⟩;exact k b)
theorem Io (k:∀ b,GDT Γ Tryz.prog opl K L dep n R' ((i,.v (.pointer (some ⟨b,0,none⟩)))::E) (box b 49 [.i64 0,.i64 0,.i64 0,.list 2 AFd.d []]::ms)) (ho:opl[e]? = some ⟨some i,.alloc 49,ty,pos,after,none⟩:=by exact rfl) (hi:Nat.blt i Γ.N=true:=by exact rfl) (hR:R.erase e=R':=by exact rfl):GDS Γ Tryz.prog opl K L dep n R e E ms:=A8 ho rfl rfl hi hR (AN zeroValue49 (cs:=[.i64 0,.i64 0,.i64 0,.list 2 AFd.d []]) rfl) (by rintro _ _ ⟨b,rfl,rfl⟩;exact k b)
end
theorem zb24a {ps:List (Nat×Operand)} {dv:List (Nat×D)} {cs:List D} {dst:Option Nat} {g:Option (Nat×Bool)} (hev:evP L ps=some dv:=by exact rfl) (hst:BH dv=true:=by exact rfl) (hfi:fillD [(0,1),(1,1)] [.v (.slice none 0 0),.v (.int .i64 0)] dv=some cs:=by exact rfl):OpP Tryz.prog ⟨dst,.build 24 ps.toArray,ty,pos,after,g⟩ L ms (.agg cs):=Aw (zs:=[.v (.slice none 0 0),.v (.int .i64 0)]) runUnderlying24 zeroValue24 (Ws _ runUnderlying24) rfl hev hst hfi
theorem zb27a {ps:List (Nat×Operand)} {dv:List (Nat×D)} {cs:List D} {dst:Option Nat} {g:Option (Nat×Bool)} (hev:evP L ps=some dv:=by exact rfl) (hst:BH dv=true:=by exact rfl) (hfi:fillD [(0,1),(1,1)] [.v (.slice none 0 0),.v (.int .i64 0)] dv=some cs:=by exact rfl):OpP Tryz.prog ⟨dst,.build 27 ps.toArray,ty,pos,after,g⟩ L ms (.agg cs):=Aw (zs:=[.v (.slice none 0 0),.v (.int .i64 0)]) runUnderlying27 zeroValue27 (Vm _ runUnderlying27) rfl hev hst hfi
theorem zb27b {ps:List (Nat×Operand)} {dv:List (Nat×D)} {cs:List D} {dst:Option Nat} {g:Option (Nat×Bool)} (hev:evP L ps=some dv:=by exact rfl) (hst:BH dv=true:=by exact rfl) (hfi:fillD [(0,1),(1,1)] [.list 13 AutoState.d [],.v (.int .i64 0)] dv=some cs:=by exact rfl):OpP Tryz.prog ⟨dst,.build 27 ps.toArray,ty,pos,after,g⟩ L ms (.agg cs):=Aw (zs:=[.list 13 AutoState.d [],.v (.int .i64 0)]) runUnderlying27 zeroValue27 (Vm _ runUnderlying27) rfl hev hst hfi
theorem zb31a {ps:List (Nat×Operand)} {dv:List (Nat×D)} {cs:List D} {dst:Option Nat} {g:Option (Nat×Bool)} (hev:evP L ps=some dv:=by exact rfl) (hst:BH dv=true:=by exact rfl) (hfi:fillD [(0,1),(1,1)] [.list 4 ANd.d [],.v (.int .i64 0)] dv=some cs:=by exact rfl):OpP Tryz.prog ⟨dst,.build 31 ps.toArray,ty,pos,after,g⟩ L ms (.agg cs):=Aw (zs:=[.list 4 ANd.d [],.v (.int .i64 0)]) runUnderlying31 zeroValue31 (Vl _ runUnderlying31) rfl hev hst hfi
theorem zb31b {ps:List (Nat×Operand)} {dv:List (Nat×D)} {cs:List D} {dst:Option Nat} {g:Option (Nat×Bool)} (hev:evP L ps=some dv:=by exact rfl) (hst:BH dv=true:=by exact rfl) (hfi:fillD [(0,1),(1,1)] [.v (.slice none 0 0),.v (.int .i64 0)] dv=some cs:=by exact rfl):OpP Tryz.prog ⟨dst,.build 31 ps.toArray,ty,pos,after,g⟩ L ms (.agg cs):=Aw (zs:=[.v (.slice none 0 0),.v (.int .i64 0)]) runUnderlying31 zeroValue31 (Vl _ runUnderlying31) rfl hev hst hfi
theorem zb46a {ps:List (Nat×Operand)} {dv:List (Nat×D)} {cs:List D} {dst:Option Nat} {g:Option (Nat×Bool)} (hev:evP L ps=some dv:=by exact rfl) (hst:BH dv=true:=by exact rfl) (hfi:fillD [(0,1),(1,1),(2,1),(3,1),(4,1),(5,1),(6,1),(7,1),(8,1),(9,1),(10,1),(11,1),(12,1)] [.bool false,.bool false,.bool false,.bool false,.bool false,.bool false,.bool false,.bool false,.list 1 D.i64 [],.v (.int .i64 0),.v (.int .i64 0),.v (.slice none 0 0),.v (.slice none 0 0)] dv=some cs:=by exact rfl):OpP Tryz.prog ⟨dst,.build 46 ps.toArray,ty,pos,after,g⟩ L ms (.agg cs):=Aw (zs:=[.bool false,.bool false,.bool false,.bool false,.bool false,.bool false,.bool false,.bool false,.list 1 D.i64 [],.v (.int .i64 0),.v (.int .i64 0),.v (.slice none 0 0),.v (.slice none 0 0)]) runUnderlying46 zeroValue46 (Wj _ runUnderlying46) rfl hev hst hfi
theorem zb49a {ps:List (Nat×Operand)} {dv:List (Nat×D)} {cs:List D} {dst:Option Nat} {g:Option (Nat×Bool)} (hev:evP L ps=some dv:=by exact rfl) (hst:BH dv=true:=by exact rfl) (hfi:fillD [(0,1),(1,1),(2,1),(3,1)] [.v (.int .i64 0),.v (.int .i64 0),.v (.int .i64 0),.list 2 AFd.d []] dv=some cs:=by exact rfl):OpP Tryz.prog ⟨dst,.build 49 ps.toArray,ty,pos,after,g⟩ L ms (.agg cs):=Aw (zs:=[.v (.int .i64 0),.v (.int .i64 0),.v (.int .i64 0),.list 2 AFd.d []]) runUnderlying49 zeroValue49 (Vj _ runUnderlying49) rfl hev hst hfi
theorem zb49b {ps:List (Nat×Operand)} {dv:List (Nat×D)} {cs:List D} {dst:Option Nat} {g:Option (Nat×Bool)} (hev:evP L ps=some dv:=by exact rfl) (hst:BH dv=true:=by exact rfl) (hfi:fillD [(0,1),(1,1),(2,1),(3,1)] [.v (.int .i64 0),.v (.int .i64 0),.v (.int .i64 0),.v (.slice none 0 0)] dv=some cs:=by exact rfl):OpP Tryz.prog ⟨dst,.build 49 ps.toArray,ty,pos,after,g⟩ L ms (.agg cs):=Aw (zs:=[.v (.int .i64 0),.v (.int .i64 0),.v (.int .i64 0),.v (.slice none 0 0)]) runUnderlying49 zeroValue49 (Vj _ runUnderlying49) rfl hev hst hfi
theorem zb59a {ps:List (Nat×Operand)} {dv:List (Nat×D)} {cs:List D} {dst:Option Nat} {g:Option (Nat×Bool)} (hev:evP L ps=some dv:=by exact rfl) (hst:BH dv=true:=by exact rfl) (hfi:fillD [(0,1),(1,1),(2,1),(3,1),(4,1),(5,1),(6,1),(7,1),(8,1),(9,1),(10,1),(11,1),(12,1)] [.bool false,.bool false,.bool false,.bool false,.bool false,.bool false,.bool false,.bool false,.list 1 D.i64 [],.v (.int .i64 0),.v (.int .i64 0),.v (.slice none 0 0),.v (.slice none 0 0)] dv=some cs:=by exact rfl):OpP Tryz.prog ⟨dst,.build 59 ps.toArray,ty,pos,after,g⟩ L ms (.agg cs):=Aw (zs:=[.bool false,.bool false,.bool false,.bool false,.bool false,.bool false,.bool false,.bool false,.list 1 D.i64 [],.v (.int .i64 0),.v (.int .i64 0),.v (.slice none 0 0),.v (.slice none 0 0)]) runUnderlying59 zeroValue59 (Vo _ runUnderlying59) rfl hev hst hfi
theorem zb59b {ps:List (Nat×Operand)} {dv:List (Nat×D)} {cs:List D} {dst:Option Nat} {g:Option (Nat×Bool)} (hev:evP L ps=some dv:=by exact rfl) (hst:BH dv=true:=by exact rfl) (hfi:fillD [(0,1),(1,1),(2,1),(3,1),(4,1),(5,1),(6,1),(7,1),(8,1),(9,1),(10,1),(11,1),(12,1)] [.bool false,.bool false,.bool false,.bool false,.bool false,.bool false,.bool false,.bool false,.list 1 D.i64 [],.v (.int .i64 0),.v (.int .i64 0),.list 2 AutoEdge.d [],.list 2 AutoEdge.d []] dv=some cs:=by exact rfl):OpP Tryz.prog ⟨dst,.build 59 ps.toArray,ty,pos,after,g⟩ L ms (.agg cs):=Aw (zs:=[.bool false,.bool false,.bool false,.bool false,.bool false,.bool false,.bool false,.bool false,.list 1 D.i64 [],.v (.int .i64 0),.v (.int .i64 0),.list 2 AutoEdge.d [],.list 2 AutoEdge.d []]) runUnderlying59 zeroValue59 (Vo _ runUnderlying59) rfl hev hst hfi
theorem zb61a {ps:List (Nat×Operand)} {dv:List (Nat×D)} {cs:List D} {dst:Option Nat} {g:Option (Nat×Bool)} (hev:evP L ps=some dv:=by exact rfl) (hst:BH dv=true:=by exact rfl) (hfi:fillD [(0,1),(1,1)] [.str [],.v (.int .i64 0)] dv=some cs:=by exact rfl):OpP Tryz.prog ⟨dst,.build 61 ps.toArray,ty,pos,after,g⟩ L ms (.agg cs):=Aw (zs:=[.str [],.v (.int .i64 0)]) runUnderlying61 zeroValue61 (V8 _ runUnderlying61) rfl hev hst hfi
theorem zb62a {ps:List (Nat×Operand)} {dv:List (Nat×D)} {cs:List D} {dst:Option Nat} {g:Option (Nat×Bool)} (hev:evP L ps=some dv:=by exact rfl) (hst:BH dv=true:=by exact rfl) (hfi:fillD [(0,1),(1,1)] [.str [],.v (.int .i64 0)] dv=some cs:=by exact rfl):OpP Tryz.prog ⟨dst,.build 62 ps.toArray,ty,pos,after,g⟩ L ms (.agg cs):=Aw (zs:=[.str [],.v (.int .i64 0)]) runUnderlying62 zeroValue62 (V3 _ runUnderlying62) rfl hev hst hfi
theorem zb71a {ps:List (Nat×Operand)} {dv:List (Nat×D)} {cs:List D} {dst:Option Nat} {g:Option (Nat×Bool)} (hev:evP L ps=some dv:=by exact rfl) (hst:BH dv=true:=by exact rfl) (hfi:fillD [(0,1),(1,1)] [.str [],.v (.int .i64 0)] dv=some cs:=by exact rfl):OpP Tryz.prog ⟨dst,.build 71 ps.toArray,ty,pos,after,g⟩ L ms (.agg cs):=Aw (zs:=[.str [],.v (.int .i64 0)]) runUnderlying71 zeroValue71 (Wg _ runUnderlying71) rfl hev hst hfi
theorem zb95a {ps:List (Nat×Operand)} {dv:List (Nat×D)} {cs:List D} {dst:Option Nat} {g:Option (Nat×Bool)} (hev:evP L ps=some dv:=by exact rfl) (hst:BH dv=true:=by exact rfl) (hfi:fillD [(0,1),(1,1)] [.v (.slice none 0 0),.v (.slice none 0 0)] dv=some cs:=by exact rfl):OpP Tryz.prog ⟨dst,.build 95 ps.toArray,ty,pos,after,g⟩ L ms (.agg cs):=Aw (zs:=[.v (.slice none 0 0),.v (.slice none 0 0)]) runUnderlying95 zeroValue95 (Vn _ runUnderlying95) rfl hev hst hfi
theorem zb95b {ps:List (Nat×Operand)} {dv:List (Nat×D)} {cs:List D} {dst:Option Nat} {g:Option (Nat×Bool)} (hev:evP L ps=some dv:=by exact rfl) (hst:BH dv=true:=by exact rfl) (hfi:fillD [(0,1),(1,1)] [.list 1 D.i64 [],.list 1 D.i64 []] dv=some cs:=by exact rfl):OpP Tryz.prog ⟨dst,.build 95 ps.toArray,ty,pos,after,g⟩ L ms (.agg cs):=Aw (zs:=[.list 1 D.i64 [],.list 1 D.i64 []]) runUnderlying95 zeroValue95 (Vn _ runUnderlying95) rfl hev hst hfi
theorem zal3a (k:∀ b,GO Γ Tryz.prog ops rest ((i,.v (.pointer (some ⟨b,0,none⟩)))::L) (box b 3 [.i64 0]::ms) K) (hi:Nat.blt i Γ.N=true:=by exact rfl):GO Γ Tryz.prog ops (⟨some i,.alloc 3,ty,pos,after,none⟩::rest) L ms K:=AG rfl rfl hi (AN zeroValue3 (cs:=[.i64 0]) rfl) (by rintro _ _ ⟨b,rfl,rfl⟩;exact k b)
theorem JX (k:∀ b,GO Γ Tryz.prog ops rest ((i,.v (.pointer (some ⟨b,0,none⟩)))::L) (box b 24 [.list 13 AutoState.d [],.i64 0]::ms) K) (hi:Nat.blt i Γ.N=true:=by exact rfl):GO Γ Tryz.prog ops (⟨some i,.alloc 24,ty,pos,after,none⟩::rest) L ms K:=AG rfl rfl hi (AN zeroValue24 (cs:=[.list 13 AutoState.d [],.i64 0]) rfl) (by rintro _ _ ⟨b,rfl,rfl⟩;exact k b)
theorem Kc (k:∀ b,GO Γ Tryz.prog ops rest ((i,.v (.pointer (some ⟨b,0,none⟩)))::L) (box b 27 [.list 13 AutoState.d [],.i64 0]::ms) K) (hi:Nat.blt i Γ.N=true:=by exact rfl):GO Γ Tryz.prog ops (⟨some i,.alloc 27,ty,pos,after,none⟩::rest) L ms K:=AG rfl rfl hi (AN zeroValue27 (cs:=[.list 13 AutoState.d [],.i64 0]) rfl) (by rintro _ _ ⟨b,rfl,rfl⟩;exact k b)
theorem VB (k:∀ b,GO Γ Tryz.prog ops rest ((i,.v (.pointer (some ⟨b,0,none⟩)))::L) (box b 27 [.v (.slice none 0 0),.i64 0]::ms) K) (hi:Nat.blt i Γ.N=true:=by exact rfl):GO Γ Tryz.prog ops (⟨some i,.alloc 27,ty,pos,after,none⟩::rest) L ms K:=AG rfl rfl hi (AN zeroValue27 (cs:=[.v (.slice none 0 0),.i64 0]) rfl) (by rintro _ _ ⟨b,rfl,rfl⟩;exact k b)
theorem F2 (k:∀ b,GO Γ Tryz.prog ops rest ((i,.v (.pointer (some ⟨b,0,none⟩)))::L) (box b 31 [.list 4 ANd.d [],.i64 0]::ms) K) (hi:Nat.blt i Γ.N=true:=by exact rfl):GO Γ Tryz.prog ops (⟨some i,.alloc 31,ty,pos,after,none⟩::rest) L ms K:=AG rfl rfl hi (AN zeroValue31 (cs:=[.list 4 ANd.d [],.i64 0]) rfl) (by rintro _ _ ⟨b,rfl,rfl⟩;exact k b)
theorem VJ (k:∀ b,GO Γ Tryz.prog ops rest ((i,.v (.pointer (some ⟨b,0,none⟩)))::L) (box b 31 [.v (.slice none 0 0),.i64 0]::ms) K) (hi:Nat.blt i Γ.N=true:=by exact rfl):GO Γ Tryz.prog ops (⟨some i,.alloc 31,ty,pos,after,none⟩::rest) L ms K:=AG rfl rfl hi (AN zeroValue31 (cs:=[.v (.slice none 0 0),.i64 0]) rfl) (by rintro _ _ ⟨b,rfl,rfl⟩;exact k b)
theorem Sh (k:∀ b,GO Γ Tryz.prog ops rest ((i,.v (.pointer (some ⟨b,0,none⟩)))::L) (box b 43 [.list 1 D.i64 []]::ms) K) (hi:Nat.blt i Γ.N=true:=by exact rfl):GO Γ Tryz.prog ops (⟨some i,.alloc 43,ty,pos,after,none⟩::rest) L ms K:=AG rfl rfl hi (AN zeroValue43 (cs:=[.list 1 D.i64 []]) rfl) (by rintro _ _ ⟨b,rfl,rfl⟩;exact k b)
theorem TH (k:∀ b,GO Γ Tryz.prog ops rest ((i,.v (.pointer (some ⟨b,0,none⟩)))::L) (box b 43 [.v (.slice none 0 0)]::ms) K) (hi:Nat.blt i Γ.N=true:=by exact rfl):GO Γ Tryz.prog ops (⟨some i,.alloc 43,ty,pos,after,none⟩::rest) L ms K:=AG rfl rfl hi (AN zeroValue43 (cs:=[.v (.slice none 0 0)]) rfl) (by rintro _ _ ⟨b,rfl,rfl⟩;exact k b)
theorem M7 (k:∀ b,GO Γ Tryz.prog ops rest ((i,.v (.pointer (some ⟨b,0,none⟩)))::L) (box b 46 [.bool false,.bool false,.bool false,.bool false,.bool false,.bool false,.bool false,.bool false,.list 1 D.i64 [],.i64 0,.i64 0,.list 2 AutoEdge.d [],.list 2 AutoEdge.d []]::ms) K) (hi:Nat.blt i Γ.N=true:=by exact rfl):GO Γ Tryz.prog ops (⟨some i,.alloc 46,ty,pos,after,none⟩::rest) L ms K:=AG rfl rfl hi (AN zeroValue46 (cs:=[.bool false,.bool false,.bool false,.bool false,.bool false,.bool false,.bool false,.bool false,.list 1 D.i64 [],.i64 0,.i64 0,.list 2 AutoEdge.d [],.list 2 AutoEdge.d []]) rfl) (by rintro _ _ ⟨b,rfl,rfl⟩;exact k b)
theorem LB (k:∀ b,GO Γ Tryz.prog ops rest ((i,.v (.pointer (some ⟨b,0,none⟩)))::L) (box b 49 [.i64 0,.i64 0,.i64 0,.list 2 AFd.d []]::ms) K) (hi:Nat.blt i Γ.N=true:=by exact rfl):GO Γ Tryz.prog ops (⟨some i,.alloc 49,ty,pos,after,none⟩::rest) L ms K:=AG rfl rfl hi (AN zeroValue49 (cs:=[.i64 0,.i64 0,.i64 0,.list 2 AFd.d []]) rfl) (by rintro _ _ ⟨b,rfl,rfl⟩;exact k b)
theorem VO (k:∀ b,GO Γ Tryz.prog ops rest ((i,.v (.pointer (some ⟨b,0,none⟩)))::L) (box b 49 [.i64 0,.i64 0,.i64 0,.v (.slice none 0 0)]::ms) K) (hi:Nat.blt i Γ.N=true:=by exact rfl):GO Γ Tryz.prog ops (⟨some i,.alloc 49,ty,pos,after,none⟩::rest) L ms K:=AG rfl rfl hi (AN zeroValue49 (cs:=[.i64 0,.i64 0,.i64 0,.v (.slice none 0 0)]) rfl) (by rintro _ _ ⟨b,rfl,rfl⟩;exact k b)
theorem PY (k:∀ b,GO Γ Tryz.prog ops rest ((i,.v (.pointer (some ⟨b,0,none⟩)))::L) (box b 59 [.bool false,.bool false,.bool false,.bool false,.bool false,.bool false,.bool false,.bool false,.list 1 D.i64 [],.i64 0,.i64 0,.list 2 AutoEdge.d [],.list 2 AutoEdge.d []]::ms) K) (hi:Nat.blt i Γ.N=true:=by exact rfl):GO Γ Tryz.prog ops (⟨some i,.alloc 59,ty,pos,after,none⟩::rest) L ms K:=AG rfl rfl hi (AN zeroValue59 (cs:=[.bool false,.bool false,.bool false,.bool false,.bool false,.bool false,.bool false,.bool false,.list 1 D.i64 [],.i64 0,.i64 0,.list 2 AutoEdge.d [],.list 2 AutoEdge.d []]) rfl) (by rintro _ _ ⟨b,rfl,rfl⟩;exact k b)
theorem Ps (k:∀ b,GO Γ Tryz.prog ops rest ((i,.v (.pointer (some ⟨b,0,none⟩)))::L) (box b 62 [.str ([]:List UInt8),.i64 0]::ms) K) (hi:Nat.blt i Γ.N=true:=by exact rfl):GO Γ Tryz.prog ops (⟨some i,.alloc 62,ty,pos,after,none⟩::rest) L ms K:=AG rfl rfl hi (AN zeroValue62 (cs:=[.str ([]:List UInt8),.i64 0]) rfl) (by rintro _ _ ⟨b,rfl,rfl⟩;exact k b)
theorem Ss (k:∀ b,GO Γ Tryz.prog ops rest ((i,.v (.pointer (some ⟨b,0,none⟩)))::L) (box b 71 [.str ([]:List UInt8),.i64 0]::ms) K) (hi:Nat.blt i Γ.N=true:=by exact rfl):GO Γ Tryz.prog ops (⟨some i,.alloc 71,ty,pos,after,none⟩::rest) L ms K:=AG rfl rfl hi (AN zeroValue71 (cs:=[.str ([]:List UInt8),.i64 0]) rfl) (by rintro _ _ ⟨b,rfl,rfl⟩;exact k b)
theorem VQ (k:∀ b,GO Γ Tryz.prog ops rest ((i,.v (.pointer (some ⟨b,0,none⟩)))::L) (box b 88 [.v (.map none)]::ms) K) (hi:Nat.blt i Γ.N=true:=by exact rfl):GO Γ Tryz.prog ops (⟨some i,.alloc 88,ty,pos,after,none⟩::rest) L ms K:=AG rfl rfl hi (AN zeroValue88 (cs:=[.v (.map none)]) rfl) (by rintro _ _ ⟨b,rfl,rfl⟩;exact k b)
theorem Ts (k:∀ b,GO Γ Tryz.prog ops rest ((i,.v (.pointer (some ⟨b,0,none⟩)))::L) (box b 95 [.list 1 D.i64 [],.list 1 D.i64 []]::ms) K) (hi:Nat.blt i Γ.N=true:=by exact rfl):GO Γ Tryz.prog ops (⟨some i,.alloc 95,ty,pos,after,none⟩::rest) L ms K:=AG rfl rfl hi (AN zeroValue95 (cs:=[.list 1 D.i64 [],.list 1 D.i64 []]) rfl) (by rintro _ _ ⟨b,rfl,rfl⟩;exact k b)
theorem UB (k:∀ b,GO Γ Tryz.prog ops rest ((i,.v (.pointer (some ⟨b,0,none⟩)))::L) (box b 109 [.v .nilFunc]::ms) K) (hi:Nat.blt i Γ.N=true:=by exact rfl):GO Γ Tryz.prog ops (⟨some i,.alloc 109,ty,pos,after,none⟩::rest) L ms K:=AG rfl rfl hi (AN zeroValue109 (cs:=[.v .nilFunc]) rfl) (by rintro _ _ ⟨b,rfl,rfl⟩;exact k b)
theorem KG (k:∀ b,GO Γ Tryz.prog ops rest ((i,.v (.pointer (some ⟨b,0,none⟩)))::L) (box b 143 [.bool false,.i64 0,.i64 0,.i64 0,.v (.slice none 0 0)]::ms) K) (hi:Nat.blt i Γ.N=true:=by exact rfl):GO Γ Tryz.prog ops (⟨some i,.alloc 143,ty,pos,after,none⟩::rest) L ms K:=AG rfl rfl hi (AN zeroValue143 (cs:=[.bool false,.i64 0,.i64 0,.i64 0,.v (.slice none 0 0)]) rfl) (by rintro _ _ ⟨b,rfl,rfl⟩;exact k b)
end
theorem zq1 {P Q:Prop} (k:Q) (h:(True->Q)->P:=by intro h;first | ((with_reducible apply JC);exact h trivial) | ((with_reducible apply gRg);exact h trivial) | ((with_reducible apply V1);exact rfl;exact rfl;exact rfl;exact rfl;exact qO;exact h trivial) | ((with_reducible apply Uz);exact rfl;exact h trivial) | ((with_reducible apply Uy);exact rfl;exact h trivial) | ((with_reducible apply We);exact rfl;exact rfl;exact rfl;exact rfl;exact qO;exact h trivial) | ((with_reducible apply V5);exact rfl;exact rfl;exact rfl;exact rfl;exact qB;exact rfl;exact rfl;exact h trivial) | ((with_reducible apply Wo);exact rfl;exact rfl;exact rfl;exact rfl;exact qB;exact rfl;exact rfl;exact qO;exact h trivial) | ((with_reducible apply Wh);exact rfl;exact rfl;exact rfl;exact rfl;exact qB;exact rfl;exact rfl;exact h trivial) | ((with_reducible apply Wl);exact rfl;exact rfl;exact rfl;exact rfl;exact qB;exact rfl;exact rfl;exact qO;exact h trivial) | ((with_reducible apply Ur);exact rfl;exact h trivial) | ((with_reducible apply Vg);exact h trivial) | ((with_reducible apply gSp);exact h trivial) | ((with_reducible apply Am);exact h trivial) | ((with_reducible apply FH);exact rfl;exact rfl;exact rfl;exact rfl;exact rfl;exact rfl;exact qO;exact h trivial) | ((with_reducible apply Wp);exact rfl;exact rfl;exact rfl;exact rfl;exact rfl;exact rfl;exact h trivial) | ((with_reducible apply Wm);exact rfl;exact rfl;exact rfl;exact rfl;exact rfl;exact rfl;exact h trivial) | (refine JC ?_;exact h trivial) | (refine gRg ?_;exact h trivial) | (refine gSp ?_;exact h trivial) | (refine Am ?_;exact h trivial)):P:=h fun _=>k
theorem zq2 {P Q:Prop} (k:Q) (h:(True->Q)->P:=by intro h;(iterate 2 refine zq1 ?_);exact h trivial):P:=h fun _=>k
theorem zq3 {P Q:Prop} (k:Q) (h:(True->Q)->P:=by intro h;(iterate 3 refine zq1 ?_);exact h trivial):P:=h fun _=>k
theorem zq4 {P Q:Prop} (k:Q) (h:(True->Q)->P:=by intro h;(iterate 4 refine zq1 ?_);exact h trivial):P:=h fun _=>k
theorem zq5 {P Q:Prop} (k:Q) (h:(True->Q)->P:=by intro h;(iterate 5 refine zq1 ?_);exact h trivial):P:=h fun _=>k
theorem zq6 {P Q:Prop} (k:Q) (h:(True->Q)->P:=by intro h;(iterate 6 refine zq1 ?_);exact h trivial):P:=h fun _=>k
theorem zq7 {P Q:Prop} (k:Q) (h:(True->Q)->P:=by intro h;(iterate 7 refine zq1 ?_);exact h trivial):P:=h fun _=>k
theorem zq8 {P Q:Prop} (k:Q) (h:(True->Q)->P:=by intro h;(iterate 8 refine zq1 ?_);exact h trivial):P:=h fun _=>k
theorem zq9 {P Q:Prop} (k:Q) (h:(True->Q)->P:=by intro h;(iterate 9 refine zq1 ?_);exact h trivial):P:=h fun _=>k
theorem zq10 {P Q:Prop} (k:Q) (h:(True->Q)->P:=by intro h;(iterate 10 refine zq1 ?_);exact h trivial):P:=h fun _=>k
theorem zq11 {P Q:Prop} (k:Q) (h:(True->Q)->P:=by intro h;(iterate 11 refine zq1 ?_);exact h trivial):P:=h fun _=>k
theorem zq12 {P Q:Prop} (k:Q) (h:(True->Q)->P:=by intro h;(iterate 12 refine zq1 ?_);exact h trivial):P:=h fun _=>k
theorem zq13 {P Q:Prop} (k:Q) (h:(True->Q)->P:=by intro h;(iterate 13 refine zq1 ?_);exact h trivial):P:=h fun _=>k
theorem zq14 {P Q:Prop} (k:Q) (h:(True->Q)->P:=by intro h;(iterate 14 refine zq1 ?_);exact h trivial):P:=h fun _=>k
theorem zq16 {P Q:Prop} (k:Q) (h:(True->Q)->P:=by intro h;(iterate 16 refine zq1 ?_);exact h trivial):P:=h fun _=>k
theorem zq17 {P Q:Prop} (k:Q) (h:(True->Q)->P:=by intro h;(iterate 17 refine zq1 ?_);exact h trivial):P:=h fun _=>k
theorem zq18 {P Q:Prop} (k:Q) (h:(True->Q)->P:=by intro h;(iterate 18 refine zq1 ?_);exact h trivial):P:=h fun _=>k
theorem zq23 {P Q:Prop} (k:Q) (h:(True->Q)->P:=by intro h;(iterate 23 refine zq1 ?_);exact h trivial):P:=h fun _=>k
theorem zq28 {P Q:Prop} (k:Q) (h:(True->Q)->P:=by intro h;(iterate 28 refine zq1 ?_);exact h trivial):P:=h fun _=>k
theorem zq29 {P Q:Prop} (k:Q) (h:(True->Q)->P:=by intro h;(iterate 29 refine zq1 ?_);exact h trivial):P:=h fun _=>k
theorem zq30 {P Q:Prop} (k:Q) (h:(True->Q)->P:=by intro h;(iterate 30 refine zq1 ?_);exact h trivial):P:=h fun _=>k
end Go.Proofs.YtcoghblhdjmbfaaGreat
