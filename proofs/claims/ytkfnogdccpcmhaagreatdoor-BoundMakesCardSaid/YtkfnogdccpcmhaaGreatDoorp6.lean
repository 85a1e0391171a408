/- Part 6 of the proof: a program logic, what the functions compute, and what these answer; no condition. -/
import Derived.Test.YtkfnogdccpcmhaaGreatDoorp5
import Derived.Test.YtkfnogdccpcmhaaGreatDoorProg
set_option linter.unusedVariables false
set_option linter.unusedSimpArgs false
set_option maxRecDepth 100000
set_option maxHeartbeats 2000000
namespace Go.Proofs.YtkfnogdccpcmhaaGreatDoor
open Go.V Tryz
theorem Tryz_mixed:Tryz.prog.follows .mixedOrders=true:=by kernel_rfl
structure AFd where
 name:(List UInt8)
 at_:Int
def AFd.d (x:AFd):D := .agg [.str x.name,.i64 x.at_]
structure ANd where
 kind:Int
 a:Int
 b:Int
 l:(List AFd)
def ANd.d (x:ANd):D := .agg [.i64 x.kind,.i64 x.a,.i64 x.b,.list 2 AFd.d x.l]
structure ATy where
 l:(List ANd)
 root:Int
def ATy.d (x:ATy):D := .agg [.list 4 ANd.d x.l,.i64 x.root]
structure BSq where
 left:(List Int)
 right:(List Int)
def BSq.d (x:BSq):D := .agg [.list 1 D.i64 x.left,.list 1 D.i64 x.right]
structure BAn where
 to_:(List BSq)
 fails:Bool
def BAn.d (x:BAn):D := .agg [.list 2 BSq.d x.to_,.bool x.fails]
structure RSeq where
 l:(List Int)
 r:(List Int)
def RSeq.d (x:RSeq):D := .agg [.list 1 D.i64 x.l,.list 1 D.i64 x.r]
theorem fi_24_0:FieldIs Tryz.prog 24 0 0 1 false:=⟨⟨_,_,runUnderlying24,rfl,rfl,sizeOf22,by decide,isAgg22⟩⟩
theorem fi_24_1:FieldIs Tryz.prog 24 1 1 1 false:=⟨⟨_,_,runUnderlying24,rfl,rfl,sizeOf3,by decide,isAgg3⟩⟩
theorem fi_44_0:FieldIs Tryz.prog 44 0 0 1 false:=⟨⟨_,_,runUnderlying44,rfl,rfl,sizeOf3,by decide,isAgg3⟩⟩
theorem fi_44_1:FieldIs Tryz.prog 44 1 1 1 false:=⟨⟨_,_,runUnderlying44,rfl,rfl,sizeOf3,by decide,isAgg3⟩⟩
theorem fi_44_2:FieldIs Tryz.prog 44 2 2 1 false:=⟨⟨_,_,runUnderlying44,rfl,rfl,sizeOf3,by decide,isAgg3⟩⟩
theorem fi_44_3:FieldIs Tryz.prog 44 3 3 1 false:=⟨⟨_,_,runUnderlying44,rfl,rfl,sizeOf42,by decide,isAgg42⟩⟩
theorem fi_75_0:FieldIs Tryz.prog 75 0 0 1 false:=⟨⟨_,_,runUnderlying75,rfl,rfl,sizeOf25,by decide,isAgg25⟩⟩
theorem fi_75_1:FieldIs Tryz.prog 75 1 1 1 false:=⟨⟨_,_,runUnderlying75,rfl,rfl,sizeOf25,by decide,isAgg25⟩⟩
theorem fi_80_0:FieldIs Tryz.prog 80 0 0 1 false:=⟨⟨_,_,runUnderlying80,rfl,rfl,sizeOf25,by decide,isAgg25⟩⟩
theorem fi_80_1:FieldIs Tryz.prog 80 1 1 1 false:=⟨⟨_,_,runUnderlying80,rfl,rfl,sizeOf25,by decide,isAgg25⟩⟩
theorem fi_98_0:FieldIs Tryz.prog 98 0 0 1 false:=⟨⟨_,_,runUnderlying98,rfl,rfl,sizeOf9,by decide,isAgg9⟩⟩
theorem fi_98_1:FieldIs Tryz.prog 98 1 1 1 false:=⟨⟨_,_,runUnderlying98,rfl,rfl,sizeOf3,by decide,isAgg3⟩⟩
theorem fi_114_0:FieldIs Tryz.prog 114 0 0 2 true:=⟨⟨_,_,runUnderlying114,rfl,rfl,sizeOf24,by decide,isAgg24⟩⟩
theorem pl_44:∀ fs,(∀ w,(underlying 44).run Tryz.prog w = .ok (.struct fs) w)->placesOf Tryz.prog fs [(0,1),(1,1),(2,1),(3,1)]:=by
 intro fs h w
 have:=(h w).symm.trans (runUnderlying44 w)
 simp only [Result.ok.injEq,TypeDesc.struct.injEq,and_true] at this;subst this
 simp [sizeOf3,sizeOf42,Sem.run]
theorem pl_75:∀ fs,(∀ w,(underlying 75).run Tryz.prog w = .ok (.struct fs) w)->placesOf Tryz.prog fs [(0,1),(1,1)]:=by
 intro fs h w
 have:=(h w).symm.trans (runUnderlying75 w)
 simp only [Result.ok.injEq,TypeDesc.struct.injEq,and_true] at this;subst this
 simp [sizeOf25,Sem.run]
theorem pl_117:∀ fs,(∀ w,(underlying 117).run Tryz.prog w = .ok (.struct fs) w)->placesOf Tryz.prog fs [(0,1),(1,1)]:=by
 intro fs h w
 have:=(h w).symm.trans (runUnderlying117 w)
 simp only [Result.ok.injEq,TypeDesc.struct.injEq,and_true] at this;subst this
 simp [sizeOf112,sizeOf4,Sem.run]
theorem pl_24:∀ fs,(∀ w,(underlying 24).run Tryz.prog w = .ok (.struct fs) w)->placesOf Tryz.prog fs [(0,1),(1,1)]:=by
 intro fs h w
 have:=(h w).symm.trans (runUnderlying24 w)
 simp only [Result.ok.injEq,TypeDesc.struct.injEq,and_true] at this;subst this
 simp [sizeOf22,sizeOf3,Sem.run]
theorem pl_80:∀ fs,(∀ w,(underlying 80).run Tryz.prog w = .ok (.struct fs) w)->placesOf Tryz.prog fs [(0,1),(1,1)]:=by
 intro fs h w
 have:=(h w).symm.trans (runUnderlying80 w)
 simp only [Result.ok.injEq,TypeDesc.struct.injEq,and_true] at this;subst this
 simp [sizeOf25,Sem.run]
theorem pl_98:∀ fs,(∀ w,(underlying 98).run Tryz.prog w = .ok (.struct fs) w)->placesOf Tryz.prog fs [(0,1),(1,1)]:=by
 intro fs h w
 have:=(h w).symm.trans (runUnderlying98 w)
 simp only [Result.ok.injEq,TypeDesc.struct.injEq,and_true] at this;subst this
 simp [sizeOf3,sizeOf9,Sem.run]
theorem qA {t:TypeId} {b:Bool} (h:∀ w,(isAgg t).run Tryz.prog w = .ok b w:=by with_reducible first | exact isAgg3 | exact isAgg9 | exact isAgg22 | exact isAgg24 | exact isAgg25 | exact isAgg42 | exact isAgg44 | exact isAgg53 | exact isAgg65 | exact isAgg72 | exact isAgg75 | exact isAgg80 | exact isAgg98 | exact isAgg110 | exact isAgg117 | exact isAgg150 | exact isAgg170):∀ w,(isAgg t).run Tryz.prog w = .ok b w:=h
theorem qS {t:TypeId} {n:Nat} (h:∀ w,(sizeOf t).run Tryz.prog w = .ok n w:=by with_reducible first | exact sizeOf3 | exact sizeOf9 | exact sizeOf22 | exact sizeOf24 | exact sizeOf25 | exact sizeOf42 | exact sizeOf44 | exact sizeOf53 | exact sizeOf72 | exact sizeOf75 | exact sizeOf80 | exact sizeOf98 | exact sizeOf117 | exact sizeOf150 | exact sizeOf170):∀ w,(sizeOf t).run Tryz.prog w = .ok n w:=h
theorem qU {t:TypeId} {u} (h:∀ w,(underlying t).run Tryz.prog w = .ok u w:=by with_reducible first | exact runUnderlying4 | exact runUnderlying22 | exact runUnderlying25 | exact runUnderlying42 | exact runUnderlying53 | exact runUnderlying65 | exact runUnderlying81 | exact runUnderlying85 | exact runUnderlying128):∀ w,(underlying t).run Tryz.prog w = .ok u w:=h
theorem qF {t n o s:Nat} {b:Bool} (h:FieldIs Tryz.prog t n o s b:=by with_reducible first | exact fi_24_0 | exact fi_24_1 | exact fi_44_0 | exact fi_44_1 | exact fi_44_2 | exact fi_44_3 | exact fi_75_0 | exact fi_75_1 | exact fi_80_0 | exact fi_80_1 | exact fi_98_0 | exact fi_98_1 | exact fi_114_0):FieldIs Tryz.prog t n o s b:=h
theorem qB {a b:Bool} (h:a=b:=by first | assumption | rfl):a=b:=h
theorem qO {o:Oper} {L:Env} {ms:List Asrt} {d:D} (h:OpP Tryz.prog o L ms d:=by first | ((with_reducible apply oMv);exact rfl) | ((with_reducible apply oAs);exact rfl) | ((with_reducible apply o_cmp);exact rfl;exact rfl;exact rfl) | ((with_reducible apply o_load);exact qA;exact rfl;exact rfl) | ((with_reducible apply o_pickT);exact rfl;exact qB;exact rfl) | ((with_reducible apply o_pickF);exact rfl;exact qB;exact rfl) | ((with_reducible apply oFa);exact qF;exact rfl;exact rfl;exact rfl) | ((with_reducible apply o_len);exact qU;exact rfl) | ((with_reducible apply o_load_agg);exact qA;exact qS;exact rfl;exact rfl) | ((with_reducible apply o_box);exact rfl;exact rfl) | ((with_reducible apply o_extract);exact rfl;exact rfl) | ((with_reducible apply oFb);exact qF;exact rfl) | ((with_reducible apply oLb 0);exact qA;exact rfl;exact rfl;exact rfl;exact rfl) | ((with_reducible apply oLb 1);exact qA;exact rfl;exact rfl;exact rfl;exact rfl) | ((with_reducible apply oLb 2);exact qA;exact rfl;exact rfl;exact rfl;exact rfl) | ((with_reducible apply oLb 3);exact qA;exact rfl;exact rfl;exact rfl;exact rfl) | ((with_reducible apply oLb 4);exact qA;exact rfl;exact rfl;exact rfl;exact rfl) | ((with_reducible apply oLb 5);exact qA;exact rfl;exact rfl;exact rfl;exact rfl) | ((with_reducible apply oLg 0);exact qA;exact qS;exact rfl;exact rfl;exact rfl;exact rfl;exact (nB rfl)) | ((with_reducible apply oLg 1);exact qA;exact qS;exact rfl;exact rfl;exact rfl;exact rfl;exact (nB rfl)) | ((with_reducible apply oLg 2);exact qA;exact qS;exact rfl;exact rfl;exact rfl;exact rfl;exact (nB rfl)) | ((with_reducible apply oLg 3);exact qA;exact qS;exact rfl;exact rfl;exact rfl;exact rfl;exact (nB rfl)) | ((with_reducible apply oLg 4);exact qA;exact qS;exact rfl;exact rfl;exact rfl;exact rfl;exact (nB rfl)) | ((with_reducible apply oLg 5);exact qA;exact qS;exact rfl;exact rfl;exact rfl;exact rfl;exact (nB rfl)) | ((with_reducible apply o_add);exact rfl;exact rfl;exact (i64_id (by assumption))) | ((with_reducible apply o_sub);exact rfl;exact rfl;exact (i64_id (by assumption))) | ((with_reducible apply oIm);exact qU;exact qS;exact rfl;exact rfl;exact (by assumption)) | ((with_reducible apply o_not);exact rfl) | ((with_reducible apply o_cmps);exact rfl;exact rfl;exact rfl) | ((with_reducible apply o_cmpb);exact qU;exact rfl;exact rfl)):OpP Tryz.prog o L ms d:=h
section
variable {Γ:Ctx} {P:Program} {ops:Array Oper} {opl l rest tail:List Oper} {o:Oper} {L:Env} {ms:List Asrt} {f:Env->List Asrt->Prop} {K:KT} {i j t:Nat} {b want:Bool} {d:D}
theorem go_nilS (hl:l=[]) (h:f L ms):GO Γ P ops l L ms (KT.then f K):=by subst hl;exact gNl h
theorem go_nilL (hl:l=[]) (h:K .normal L ms):GO Γ P ops l L ms K:=by subst hl;exact gNl h
theorem g_skipS (h:f L ms):G Γ P .skip L ms (KT.then f K):=gSp h
theorem go_pL (hl:l=o::rest) (hg:o.guard=none) (hd:o.dst=some i) (hi:Nat.blt i Γ.N=true) (h:OpP P o L ms d) (k:GO Γ P ops rest ((i,d)::L) ms K):GO Γ P ops l L ms K:=by subst hl;exact go_p hg hd hi h k
theorem go_wL (hl:l=o::rest) (hg:o.guard=some (j,want)) (hj:(ops[j]?).bind (·.dst)=some t) (hf:Env.find L t=some (.v (.bool b))) (hb:b=want) (hd:o.dst=some i) (hi:Nat.blt i Γ.N=true) (h:OpP P o L ms d) (k:GO Γ P ops rest ((i,d)::L) ms K):GO Γ P ops l L ms K:=by subst hl;exact gWp hg hj hf hb hd hi h k
theorem go_sL (hl:l=o::rest) (hg:o.guard=some (j,want)) (hj:(ops[j]?).bind (·.dst)=some t) (hf:Env.find L t=some (.v (.bool b))) (hb:b = !want) (hd:o.dst=some i) (hi:Nat.blt i Γ.N=true) (k:GO Γ P ops rest ((i,.v undef)::L) ms K):GO Γ P ops l L ms K:=by subst hl;exact gKp hg hj hf hb hd hi k
theorem go_uL (hl:l=o::rest) (hg:o.guard=some (j,want)) (hj:(ops[j]?).bind (·.dst)=some t) (hf:Env.find L t=some (.v undef)) (hd:o.dst=some i) (hi:Nat.blt i Γ.N=true) (k:GO Γ P ops rest ((i,.v undef)::L) ms K):GO Γ P ops l L ms K:=by subst hl;exact gKu hg hj hf hd hi k
theorem gd_nilL (hl:l=[]) (h:GO Γ P opl.toArray tail L ms K):GD Γ P opl tail ms K l L:=by subst hl;exact gd_nil h
theorem gd_pL (hl:l=o::rest) (hg:o.guard=none) (hd:o.dst=some i) (hi:Nat.blt i Γ.N=true) (h:OpP P o (Env.only (slotsOf opl o) L) ms d) (k:GD Γ P opl tail ms K rest ((i,d)::L)):GD Γ P opl tail ms K l L:=by subst hl;exact gd_p hg hd hi h k
theorem gd_wL (hl:l=o::rest) (hg:o.guard=some (j,want)) (hj:(opl[j]?).bind (·.dst)=some t) (hf:Env.find L t=some (.v (.bool b))) (hb:b=want) (hd:o.dst=some i) (hi:Nat.blt i Γ.N=true) (h:OpP P o (Env.only (slotsOf opl o) L) ms d) (k:GD Γ P opl tail ms K rest ((i,d)::L)):GD Γ P opl tail ms K l L:=by subst hl;exact gd_want hg hj hf hb hd hi h k
theorem gd_sL (hl:l=o::rest) (hg:o.guard=some (j,want)) (hj:(opl[j]?).bind (·.dst)=some t) (hf:Env.find L t=some (.v (.bool b))) (hb:b = !want) (hd:o.dst=some i) (hi:Nat.blt i Γ.N=true) (k:GD Γ P opl tail ms K rest ((i,.v undef)::L)):GD Γ P opl tail ms K l L:=by subst hl;exact gd_skip hg hj hf hb hd hi k
theorem gd_uL (hl:l=o::rest) (hg:o.guard=some (j,want)) (hj:(opl[j]?).bind (·.dst)=some t) (hf:Env.find L t=some (.v undef)) (hd:o.dst=some i) (hi:Nat.blt i Γ.N=true) (k:GD Γ P opl tail ms K rest ((i,.v undef)::L)):GD Γ P opl tail ms K l L:=by subst hl;exact gd_skipu hg hj hf hd hi k
end
theorem qC {f:FuncId} (h:∀ args w,(callFunc f args).run Tryz.prog w = .ok (.enter f args) w:=by with_reducible first | exact call14 | exact call15 | exact call16 | exact call17 | exact call18 | exact call19 | exact call20 | exact call21 | exact call22 | exact call23 | exact call24 | exact call25 | exact call26 | exact call27 | exact call28 | exact call29 | exact call30 | exact call31 | exact call32 | exact call33 | exact call34 | exact call35 | exact call36 | exact call37 | exact call38 | exact call39 | exact call40 | exact call41 | exact call42 | exact call43 | exact call45 | exact call46 | exact call47 | exact call48 | exact call49 | exact call51 | exact call53 | exact call55 | exact call57 | exact call58 | exact call59 | exact call60 | exact call61 | exact call62 | exact call63 | exact call64 | exact call65 | exact call66 | exact call67 | exact call68 | exact call70 | exact call71 | exact call72 | exact call73 | exact call75 | exact call78 | exact call79 | exact call80 | exact call81 | exact call83 | exact call84 | exact call86 | exact call87 | exact call88 | exact call91 | exact call92 | exact call100 | exact call101 | exact call102 | exact call103 | exact call104 | exact call105 | exact call106 | exact call111 | exact call112 | exact call115 | exact call116 | exact call117 | exact call118 | exact call119 | exact call120 | exact call121 | exact call122 | exact call123 | exact call124 | exact call125 | exact call128 | exact call130 | exact call131 | exact call132 | exact call136 | exact call137 | exact call140 | exact call142 | exact call143 | exact call144 | exact call145 | exact call146 | exact call148 | exact call149 | exact call150 | exact call152 | exact call153 | exact call155 | exact call168 | exact call169 | exact call171 | exact call172 | exact call173 | exact call174):∀ args w,(callFunc f args).run Tryz.prog w = .ok (.enter f args) w:=h
theorem in3:(Tryz.prog).info? 3=some Tryz.t3:=type3
theorem in9:(Tryz.prog).info? 9=some Tryz.t9:=type9
theorem in24:(Tryz.prog).info? 24=some Tryz.t24:=type24
theorem in44:(Tryz.prog).info? 44=some Tryz.t44:=type44
theorem in80:(Tryz.prog).info? 80=some Tryz.t80:=type80
theorem in98:(Tryz.prog).info? 98=some Tryz.t98:=type98
theorem qZ {t:TypeId} {z:Value} (h:∀ w,(zeroValue t).run Tryz.prog w = .ok z w:=by with_reducible first | exact zeroValue3 | exact zeroValue9 | exact zeroValue24 | exact zeroValue25 | exact zeroValue44 | exact zeroValue53 | exact zeroValue80):∀ w,(zeroValue t).run Tryz.prog w = .ok z w:=h
theorem qT {t:TypeId} {u} (h:(Tryz.prog).underlying t=some u:=by with_reducible first | exact underlying22 | exact underlying25 | exact underlying42 | exact underlying53 | exact underlying65 | exact underlying81):(Tryz.prog).underlying t=some u:=h
theorem qI {t:TypeId} {u} (h:(Tryz.prog).info? t=some u:=by with_reducible first | exact in3 | exact in9 | exact in24 | exact in44 | exact in80 | exact in98):(Tryz.prog).info? t=some u:=h
theorem qV {L:Env} {ms:List Asrt} {r:ResultVar} {d:D} (h:RetVal Tryz.prog L ms r d:=by first | exact ret_tmp rfl | ((with_reducible apply ret_cell 0);exact rfl;exact rfl;exact rfl;exact qA;exact qS;exact rfl) | ((with_reducible apply ret_cell 1);exact rfl;exact rfl;exact rfl;exact qA;exact qS;exact rfl) | ((with_reducible apply ret_cell 2);exact rfl;exact rfl;exact rfl;exact qA;exact qS;exact rfl) | ((with_reducible apply ret_cell 3);exact rfl;exact rfl;exact rfl;exact qA;exact qS;exact rfl) | ((with_reducible apply ret_cell 5);exact rfl;exact rfl;exact rfl;exact qA;exact qS;exact rfl) | ((with_reducible apply ret_cell 6);exact rfl;exact rfl;exact rfl;exact qA;exact qS;exact rfl)):RetVal Tryz.prog L ms r d:=h
section
variable {Γ:Ctx} {ops:Array Oper} {opl l rest tail:List Oper} {o:Oper} {L L1:Env} {ms:List Asrt} {K:KT} {i j t p:Nat} {b want:Bool} {d:D} {ty:TypeId} {pos:String} {after:Array Edge} {f:FuncId} {args:List Operand} {ats:Array TypeId} {ds:List D} {fn:Func} {r r' r2:ResultVar} {R:D->List Asrt->Prop} {d' d2:D}
theorem zst {t ty:TypeId} {x y:Operand} {b off sz:Nat} {T:TypeId} {cs:List D} (q:Nat) (k:GO Γ Tryz.prog ops rest L (ms.set q (box b T (putCs off d.cs cs))) K) (hs:∀ w,(sizeOf t).run Tryz.prog w = .ok sz w:=by exact qS) (hx:Env.ev L x=some (.v (.pointer (some ⟨b,off,none⟩))):=by exact rfl) (hk:ms[q]? = some (box b T cs):=by exact rfl) (hf:flat cs=true:=by exact rfl) (hy:Env.ev L y=some d:=by exact rfl) (hd:flat d.cs=true:=by exact rfl) (hst:d.storable=true:=by exact rfl) (hst2:storableL d.cs=true:=by exact rfl) (hsz:d.cs.length=sz:=by exact rfl) (hl:off+sz<=cs.length:=by exact nB rfl):GO Γ Tryz.prog ops (⟨none,.store t x y,ty,pos,after,none⟩::rest) L ms K:=go_u rfl rfl (oSb q hs hx hk hf hy hd hst hst2 hsz hl) (by rintro _ _ rfl;exact k)
theorem zc0 (hf:Fn0 Tryz.prog f ds d) (k:GO Γ Tryz.prog ops rest ((i,d)::L) ms K) (hl:l=⟨some i,.call ⟨.value (.func f),args.toArray,ats⟩,ty,pos,after,none⟩::rest:=by exact rfl) (hc:∀ args w,(callFunc f args).run Tryz.prog w = .ok (.enter f args) w:=by exact qC) (hev:evL L args=some ds:=by exact rfl) (hi:Nat.blt i Γ.N=true:=by exact rfl):GO Γ Tryz.prog ops l L ms K:=by subst hl;exact go_p rfl rfl hi (o_call0 hc hev hf) k
theorem zcw (hf:Fn0 Tryz.prog f ds d) (k:GO Γ Tryz.prog ops rest ((i,d)::L) ms K) (hl:l=⟨some i,.call ⟨.value (.func f),args.toArray,ats⟩,ty,pos,after,some (j,want)⟩::rest:=by exact rfl) (hj:(ops[j]?).bind (·.dst)=some t:=by exact rfl) (hb0:Env.find L t=some (.v (.bool b)):=by exact rfl) (hb:b=want:=by exact qB) (hc:∀ args w,(callFunc f args).run Tryz.prog w = .ok (.enter f args) w:=by exact qC) (hev:evL L args=some ds:=by exact rfl) (hi:Nat.blt i Γ.N=true:=by exact rfl):GO Γ Tryz.prog ops l L ms K:=by subst hl;exact gWp rfl hj hb0 hb rfl hi (o_call0 hc hev hf) k
theorem zcd (hf:Fn0 Tryz.prog f ds d) (k:GD Γ Tryz.prog opl tail ms K rest ((i,d)::L)) (hl:l=o::rest:=by exact rfl) (ho:o=⟨some i,.call ⟨.value (.func f),args.toArray,ats⟩,ty,pos,after,none⟩:=by exact rfl) (hc:∀ args w,(callFunc f args).run Tryz.prog w = .ok (.enter f args) w:=by exact qC) (hev:evL (Env.only (slotsOf opl o) L) args=some ds:=by exact rfl) (hi:Nat.blt i Γ.N=true:=by exact rfl):GD Γ Tryz.prog opl tail ms K l L:=by subst hl;subst ho;exact gd_p rfl rfl hi (o_call0 hc hev hf) k
theorem zce (hf:Fn0 Tryz.prog f ds d) (k:GD Γ Tryz.prog opl tail ms K rest ((i,d)::L)) (hl:l=o::rest:=by exact rfl) (ho:o=⟨some i,.call ⟨.value (.func f),args.toArray,ats⟩,ty,pos,after,some (j,want)⟩:=by exact rfl) (hj:(opl[j]?).bind (·.dst)=some t:=by exact rfl) (hb0:Env.find L t=some (.v (.bool b)):=by exact rfl) (hb:b=want:=by exact qB) (hc:∀ args w,(callFunc f args).run Tryz.prog w = .ok (.enter f args) w:=by exact qC) (hev:evL (Env.only (slotsOf opl o) L) args=some ds:=by exact rfl) (hi:Nat.blt i Γ.N=true:=by exact rfl):GD Γ Tryz.prog opl tail ms K l L:=by subst hl;subst ho;exact gd_want rfl hj hb0 hb rfl hi (o_call0 hc hev hf) k
theorem zcn {α:Type} {x y:Code} {b:Bool} {u v:Option α} {z:α} (h:(bif b then u else v)=some z) (ht:b=true->u=some z->G Γ Tryz.prog x L ms K) (hf:b=false->v=some z->G Γ Tryz.prog y L ms K) (hc:Env.find L p=some (.v (.bool b)):=by exact rfl):G Γ Tryz.prog (.cond (.tmp p) x y) L ms K:=gCd hc (fun e=>ht e (cond_t e h)) (fun e=>hf e (cond_f e h))
theorem zdr {id:Nat} (k:Nat) (h:GD Γ Tryz.prog l (l.drop k) ms K (l.take k) L) (hm:Tryz.prog.follows .mixedOrders=true:=by exact Tryz_mixed) (hf:flowB l k=true:=by decide +kernel):G Γ Tryz.prog (.region id l.toArray true) L ms K:=g_draw k hm hf h
theorem zgm (h:GO Γ Tryz.prog ops l ((p,d)::L1) ms K) (hp:Env.find L p=some d:=by exact rfl) (hs:SubEnv L1 L:=by repeat first | exact trivial | refine ⟨rfl,?_⟩):GO Γ Tryz.prog ops l L ms K:=gMt h hp hs
theorem zgb {c:Bool} (h:GO Γ Tryz.prog ops l ((p,.v (.bool c))::L1) ms K) (e:some b=some c) (hp:Env.find L p=some (.v (.bool b)):=by exact rfl) (hs:SubEnv L1 L:=by repeat first | exact trivial | refine ⟨rfl,?_⟩):GO Γ Tryz.prog ops l L ms K:=by cases e;exact gMt h hp hs
theorem zr1 (hr:fn.results = #[r]:=by exact rfl) (hv:RetVal Tryz.prog L ms r d:=by exact qV) (hR:R d []:=by exact rfl):RetK Tryz.prog fn R .ret L ms:=retK (ret_one' hr hv (perm_drop _)) hR
theorem zr2 (hr:fn.results=[r,r'].toArray:=by exact rfl) (hv:RetVal Tryz.prog L ms r d:=by exact qV) (hv':RetVal Tryz.prog L ms r' d':=by exact qV) (hR:R (.tup [d,d']) []:=by exact rfl):RetK Tryz.prog fn R .ret L ms:=retK (ret_many (ds:=[_,_]) hr (by simp) ⟨hv,⟨hv',rfl⟩⟩ (perm_drop _)) hR
theorem zr3 (hr:fn.results=[r,r',r2].toArray:=by exact rfl) (hv:RetVal Tryz.prog L ms r d:=by exact qV) (hv':RetVal Tryz.prog L ms r' d':=by exact qV) (hv2:RetVal Tryz.prog L ms r2 d2:=by exact qV) (hR:R (.tup [d,d',d2]) []:=by exact rfl):RetK Tryz.prog fn R .ret L ms:=retK (ret_many (ds:=[_,_,_]) hr (by simp) ⟨hv,⟨hv',⟨hv2,rfl⟩⟩⟩ (perm_drop _)) hR
theorem zs1 {t e:TypeId} {sz:Nat} {z:Value} {x:Operand} {dst:Option Nat} {g:Option (Nat×Bool)} {α:Type} (f:α->D) {v:α} (hu:∀ w,(underlying t).run Tryz.prog w = .ok (.slice e) w:=by exact qU) (hs:∀ w,(sizeOf e).run Tryz.prog w = .ok sz w:=by exact qS) (hz:∀ w,(zeroValue e).run Tryz.prog w = .ok z w:=by exact qZ) (hzs:z.cells.size=sz:=by exact rfl) (hsz:Nat.blt 0 sz=true:=by exact rfl) (hev:evL L [x]=some ([v].map f):=by exact rfl) (hst:∀ x,(f x).storable=true/\(f x).cs.length=sz/\flat (f x).cs=true:=by exact fun _=>⟨rfl,rfl,rfl⟩) (hlen:Nat.ble ([x].length*sz) 16777216=true:=by exact rfl):OpP Tryz.prog ⟨dst,.buildSlice t [x].length (enumO 0 [x]).toArray,ty,pos,after,g⟩ L ms (.list sz f [v]):=o_buildSlice hu hs hz hzs hsz hev hst hlen
theorem zs2 {t e:TypeId} {sz:Nat} {z:Value} {x y:Operand} {dst:Option Nat} {g:Option (Nat×Bool)} {α:Type} (f:α->D) {v v':α} (hu:∀ w,(underlying t).run Tryz.prog w = .ok (.slice e) w:=by exact qU) (hs:∀ w,(sizeOf e).run Tryz.prog w = .ok sz w:=by exact qS) (hz:∀ w,(zeroValue e).run Tryz.prog w = .ok z w:=by exact qZ) (hzs:z.cells.size=sz:=by exact rfl) (hsz:Nat.blt 0 sz=true:=by exact rfl) (hev:evL L [x,y]=some ([v,v'].map f):=by exact rfl) (hst:∀ x,(f x).storable=true/\(f x).cs.length=sz/\flat (f x).cs=true:=by exact fun _=>⟨rfl,rfl,rfl⟩) (hlen:Nat.ble ([x,y].length*sz) 16777216=true:=by exact rfl):OpP Tryz.prog ⟨dst,.buildSlice t [x,y].length (enumO 0 [x,y]).toArray,ty,pos,after,g⟩ L ms (.list sz f [v,v']):=o_buildSlice hu hs hz hzs hsz hev hst hlen
theorem zap {t e:TypeId} {x y:Operand} {a:Option Addr} {cap n m sz:Nat} {α:Type} {f:α->D} {xs zs:List α} {ti:TypeInfo} {z:Value} (k:Nat) (hb:(xs.length+zs.length)*m<=140737488355328) (kk:∀ a' cap',GO Γ Tryz.prog ops rest ((i,.v (.slice a' (xs++zs).length cap'))::L) (ms.set k (row a' cap' e sz f (xs++zs))) K)
 (hl:l=⟨some i,.call ⟨.builtin .append,#[x,y],#[t,t]⟩,ty,pos,after,none⟩::rest:=by exact rfl) (ht:(Tryz.prog).underlying t=some (.slice e):=by exact qT) (hi:(Tryz.prog).info? e=some ti:=by exact qI) (hz:ti.zero=some z:=by exact rfl) (hsz:ti.size=sz:=by exact rfl) (hzs:z.cells.size=sz:=by exact rfl)
 (hx:Env.ev L x=some (.v (.slice a n cap)):=by exact rfl) (hk:ms[k]? = some (row a cap e sz f xs):=by exact rfl) (hn:xs.length=n:=by exact rfl) (hy:Env.ev L y=some (.list sz f zs):=by exact rfl) (hfl:∀ x,flat (f x).cs=true:=by exact fun _=>rfl) (hst:∀ x,storableL (f x).cs=true:=by exact fun _=>rfl) (hm:ti.bytes=m:=by exact rfl) (h1:Nat.ble 1 m=true:=by exact rfl) (hN:Nat.blt i Γ.N=true:=by exact rfl):GO Γ Tryz.prog ops l L ms K:=by
 subst hl;subst hm;exact go_op rfl rfl hN (o_append k ht hi hz hsz hzs hx hk hn hy hfl hst hb (app_len hb h1)) (by rintro _ _ ⟨a',cap',rfl,rfl⟩;exact kk a' cap')
section
variable {dep:Nat->Nat->Bool} {n:Nat} {E:Env} {R R':List Nat} {e:Nat}
end
theorem zb24a {ps:List (Nat×Operand)} {dv:List (Nat×D)} {cs:List D} {dst:Option Nat} {g:Option (Nat×Bool)} (hev:evP L ps=some dv:=by exact rfl) (hst:storableP dv=true:=by exact rfl) (hfi:fillD [(0,1),(1,1)] [.v (.slice none 0 0),.v (.int .i64 0)] dv=some cs:=by exact rfl):OpP Tryz.prog ⟨dst,.build 24 ps.toArray,ty,pos,after,g⟩ L ms (.agg cs):=o_build (zs:=[.v (.slice none 0 0),.v (.int .i64 0)]) runUnderlying24 zeroValue24 (pl_24 _ runUnderlying24) rfl hev hst hfi
theorem zb24b {ps:List (Nat×Operand)} {dv:List (Nat×D)} {cs:List D} {dst:Option Nat} {g:Option (Nat×Bool)} (hev:evP L ps=some dv:=by exact rfl) (hst:storableP dv=true:=by exact rfl) (hfi:fillD [(0,1),(1,1)] [.list 4 ANd.d [],.v (.int .i64 0)] dv=some cs:=by exact rfl):OpP Tryz.prog ⟨dst,.build 24 ps.toArray,ty,pos,after,g⟩ L ms (.agg cs):=o_build (zs:=[.list 4 ANd.d [],.v (.int .i64 0)]) runUnderlying24 zeroValue24 (pl_24 _ runUnderlying24) rfl hev hst hfi
theorem zb44a {ps:List (Nat×Operand)} {dv:List (Nat×D)} {cs:List D} {dst:Option Nat} {g:Option (Nat×Bool)} (hev:evP L ps=some dv:=by exact rfl) (hst:storableP dv=true:=by exact rfl) (hfi:fillD [(0,1),(1,1),(2,1),(3,1)] [.v (.int .i64 0),.v (.int .i64 0),.v (.int .i64 0),.list 2 AFd.d []] dv=some cs:=by exact rfl):OpP Tryz.prog ⟨dst,.build 44 ps.toArray,ty,pos,after,g⟩ L ms (.agg cs):=o_build (zs:=[.v (.int .i64 0),.v (.int .i64 0),.v (.int .i64 0),.list 2 AFd.d []]) runUnderlying44 zeroValue44 (pl_44 _ runUnderlying44) rfl hev hst hfi
theorem zb44b {ps:List (Nat×Operand)} {dv:List (Nat×D)} {cs:List D} {dst:Option Nat} {g:Option (Nat×Bool)} (hev:evP L ps=some dv:=by exact rfl) (hst:storableP dv=true:=by exact rfl) (hfi:fillD [(0,1),(1,1),(2,1),(3,1)] [.v (.int .i64 0),.v (.int .i64 0),.v (.int .i64 0),.v (.slice none 0 0)] dv=some cs:=by exact rfl):OpP Tryz.prog ⟨dst,.build 44 ps.toArray,ty,pos,after,g⟩ L ms (.agg cs):=o_build (zs:=[.v (.int .i64 0),.v (.int .i64 0),.v (.int .i64 0),.v (.slice none 0 0)]) runUnderlying44 zeroValue44 (pl_44 _ runUnderlying44) rfl hev hst hfi
theorem zb75a {ps:List (Nat×Operand)} {dv:List (Nat×D)} {cs:List D} {dst:Option Nat} {g:Option (Nat×Bool)} (hev:evP L ps=some dv:=by exact rfl) (hst:storableP dv=true:=by exact rfl) (hfi:fillD [(0,1),(1,1)] [.list 1 D.i64 [],.list 1 D.i64 []] dv=some cs:=by exact rfl):OpP Tryz.prog ⟨dst,.build 75 ps.toArray,ty,pos,after,g⟩ L ms (.agg cs):=o_build (zs:=[.list 1 D.i64 [],.list 1 D.i64 []]) runUnderlying75 zeroValue75 (pl_75 _ runUnderlying75) rfl hev hst hfi
theorem zb80a {ps:List (Nat×Operand)} {dv:List (Nat×D)} {cs:List D} {dst:Option Nat} {g:Option (Nat×Bool)} (hev:evP L ps=some dv:=by exact rfl) (hst:storableP dv=true:=by exact rfl) (hfi:fillD [(0,1),(1,1)] [.v (.slice none 0 0),.v (.slice none 0 0)] dv=some cs:=by exact rfl):OpP Tryz.prog ⟨dst,.build 80 ps.toArray,ty,pos,after,g⟩ L ms (.agg cs):=o_build (zs:=[.v (.slice none 0 0),.v (.slice none 0 0)]) runUnderlying80 zeroValue80 (pl_80 _ runUnderlying80) rfl hev hst hfi
theorem zb80b {ps:List (Nat×Operand)} {dv:List (Nat×D)} {cs:List D} {dst:Option Nat} {g:Option (Nat×Bool)} (hev:evP L ps=some dv:=by exact rfl) (hst:storableP dv=true:=by exact rfl) (hfi:fillD [(0,1),(1,1)] [.list 1 D.i64 [],.list 1 D.i64 []] dv=some cs:=by exact rfl):OpP Tryz.prog ⟨dst,.build 80 ps.toArray,ty,pos,after,g⟩ L ms (.agg cs):=o_build (zs:=[.list 1 D.i64 [],.list 1 D.i64 []]) runUnderlying80 zeroValue80 (pl_80 _ runUnderlying80) rfl hev hst hfi
theorem zb98a {ps:List (Nat×Operand)} {dv:List (Nat×D)} {cs:List D} {dst:Option Nat} {g:Option (Nat×Bool)} (hev:evP L ps=some dv:=by exact rfl) (hst:storableP dv=true:=by exact rfl) (hfi:fillD [(0,1),(1,1)] [.str [],.v (.int .i64 0)] dv=some cs:=by exact rfl):OpP Tryz.prog ⟨dst,.build 98 ps.toArray,ty,pos,after,g⟩ L ms (.agg cs):=o_build (zs:=[.str [],.v (.int .i64 0)]) runUnderlying98 zeroValue98 (pl_98 _ runUnderlying98) rfl hev hst hfi
theorem zb117a {ps:List (Nat×Operand)} {dv:List (Nat×D)} {cs:List D} {dst:Option Nat} {g:Option (Nat×Bool)} (hev:evP L ps=some dv:=by exact rfl) (hst:storableP dv=true:=by exact rfl) (hfi:fillD [(0,1),(1,1)] [.list 2 BSq.d [],.bool false] dv=some cs:=by exact rfl):OpP Tryz.prog ⟨dst,.build 117 ps.toArray,ty,pos,after,g⟩ L ms (.agg cs):=o_build (zs:=[.list 2 BSq.d [],.bool false]) runUnderlying117 zeroValue117 (pl_117 _ runUnderlying117) rfl hev hst hfi
theorem zal3a (k:∀ b,GO Γ Tryz.prog ops rest ((i,.v (.pointer (some ⟨b,0,none⟩)))::L) (box b 3 [.i64 0]::ms) K) (hi:Nat.blt i Γ.N=true:=by exact rfl):GO Γ Tryz.prog ops (⟨some i,.alloc 3,ty,pos,after,none⟩::rest) L ms K:=go_op rfl rfl hi (o_alloc_own zeroValue3 (cs:=[.i64 0]) rfl) (by rintro _ _ ⟨b,rfl,rfl⟩;exact k b)
theorem zal24a (k:∀ b,GO Γ Tryz.prog ops rest ((i,.v (.pointer (some ⟨b,0,none⟩)))::L) (box b 24 [.list 4 ANd.d [],.i64 0]::ms) K) (hi:Nat.blt i Γ.N=true:=by exact rfl):GO Γ Tryz.prog ops (⟨some i,.alloc 24,ty,pos,after,none⟩::rest) L ms K:=go_op rfl rfl hi (o_alloc_own zeroValue24 (cs:=[.list 4 ANd.d [],.i64 0]) rfl) (by rintro _ _ ⟨b,rfl,rfl⟩;exact k b)
theorem zal24b (k:∀ b,GO Γ Tryz.prog ops rest ((i,.v (.pointer (some ⟨b,0,none⟩)))::L) (box b 24 [.v (.slice none 0 0),.i64 0]::ms) K) (hi:Nat.blt i Γ.N=true:=by exact rfl):GO Γ Tryz.prog ops (⟨some i,.alloc 24,ty,pos,after,none⟩::rest) L ms K:=go_op rfl rfl hi (o_alloc_own zeroValue24 (cs:=[.v (.slice none 0 0),.i64 0]) rfl) (by rintro _ _ ⟨b,rfl,rfl⟩;exact k b)
theorem zal25a (k:∀ b,GO Γ Tryz.prog ops rest ((i,.v (.pointer (some ⟨b,0,none⟩)))::L) (box b 25 [.list 1 D.i64 []]::ms) K) (hi:Nat.blt i Γ.N=true:=by exact rfl):GO Γ Tryz.prog ops (⟨some i,.alloc 25,ty,pos,after,none⟩::rest) L ms K:=go_op rfl rfl hi (o_alloc_own zeroValue25 (cs:=[.list 1 D.i64 []]) rfl) (by rintro _ _ ⟨b,rfl,rfl⟩;exact k b)
theorem zal25b (k:∀ b,GO Γ Tryz.prog ops rest ((i,.v (.pointer (some ⟨b,0,none⟩)))::L) (box b 25 [.v (.slice none 0 0)]::ms) K) (hi:Nat.blt i Γ.N=true:=by exact rfl):GO Γ Tryz.prog ops (⟨some i,.alloc 25,ty,pos,after,none⟩::rest) L ms K:=go_op rfl rfl hi (o_alloc_own zeroValue25 (cs:=[.v (.slice none 0 0)]) rfl) (by rintro _ _ ⟨b,rfl,rfl⟩;exact k b)
theorem zal44a (k:∀ b,GO Γ Tryz.prog ops rest ((i,.v (.pointer (some ⟨b,0,none⟩)))::L) (box b 44 [.i64 0,.i64 0,.i64 0,.list 2 AFd.d []]::ms) K) (hi:Nat.blt i Γ.N=true:=by exact rfl):GO Γ Tryz.prog ops (⟨some i,.alloc 44,ty,pos,after,none⟩::rest) L ms K:=go_op rfl rfl hi (o_alloc_own zeroValue44 (cs:=[.i64 0,.i64 0,.i64 0,.list 2 AFd.d []]) rfl) (by rintro _ _ ⟨b,rfl,rfl⟩;exact k b)
theorem zal72a (k:∀ b,GO Γ Tryz.prog ops rest ((i,.v (.pointer (some ⟨b,0,none⟩)))::L) (box b 72 [.v .nilFunc]::ms) K) (hi:Nat.blt i Γ.N=true:=by exact rfl):GO Γ Tryz.prog ops (⟨some i,.alloc 72,ty,pos,after,none⟩::rest) L ms K:=go_op rfl rfl hi (o_alloc_own zeroValue72 (cs:=[.v .nilFunc]) rfl) (by rintro _ _ ⟨b,rfl,rfl⟩;exact k b)
theorem zal75a (k:∀ b,GO Γ Tryz.prog ops rest ((i,.v (.pointer (some ⟨b,0,none⟩)))::L) (box b 75 [.v (.slice none 0 0),.v (.slice none 0 0)]::ms) K) (hi:Nat.blt i Γ.N=true:=by exact rfl):GO Γ Tryz.prog ops (⟨some i,.alloc 75,ty,pos,after,none⟩::rest) L ms K:=go_op rfl rfl hi (o_alloc_own zeroValue75 (cs:=[.v (.slice none 0 0),.v (.slice none 0 0)]) rfl) (by rintro _ _ ⟨b,rfl,rfl⟩;exact k b)
theorem zal80a (k:∀ b,GO Γ Tryz.prog ops rest ((i,.v (.pointer (some ⟨b,0,none⟩)))::L) (box b 80 [.list 1 D.i64 [],.list 1 D.i64 []]::ms) K) (hi:Nat.blt i Γ.N=true:=by exact rfl):GO Γ Tryz.prog ops (⟨some i,.alloc 80,ty,pos,after,none⟩::rest) L ms K:=go_op rfl rfl hi (o_alloc_own zeroValue80 (cs:=[.list 1 D.i64 [],.list 1 D.i64 []]) rfl) (by rintro _ _ ⟨b,rfl,rfl⟩;exact k b)
theorem zal98a (k:∀ b,GO Γ Tryz.prog ops rest ((i,.v (.pointer (some ⟨b,0,none⟩)))::L) (box b 98 [.str ([]:List UInt8),.i64 0]::ms) K) (hi:Nat.blt i Γ.N=true:=by exact rfl):GO Γ Tryz.prog ops (⟨some i,.alloc 98,ty,pos,after,none⟩::rest) L ms K:=go_op rfl rfl hi (o_alloc_own zeroValue98 (cs:=[.str ([]:List UInt8),.i64 0]) rfl) (by rintro _ _ ⟨b,rfl,rfl⟩;exact k b)
theorem zal117a (k:∀ b,GO Γ Tryz.prog ops rest ((i,.v (.pointer (some ⟨b,0,none⟩)))::L) (box b 117 [.list 2 BSq.d [],.bool false]::ms) K) (hi:Nat.blt i Γ.N=true:=by exact rfl):GO Γ Tryz.prog ops (⟨some i,.alloc 117,ty,pos,after,none⟩::rest) L ms K:=go_op rfl rfl hi (o_alloc_own zeroValue117 (cs:=[.list 2 BSq.d [],.bool false]) rfl) (by rintro _ _ ⟨b,rfl,rfl⟩;exact k b)
theorem zal150a (k:∀ b,GO Γ Tryz.prog ops rest ((i,.v (.pointer (some ⟨b,0,none⟩)))::L) (box b 150 [.v (.map none)]::ms) K) (hi:Nat.blt i Γ.N=true:=by exact rfl):GO Γ Tryz.prog ops (⟨some i,.alloc 150,ty,pos,after,none⟩::rest) L ms K:=go_op rfl rfl hi (o_alloc_own zeroValue150 (cs:=[.v (.map none)]) rfl) (by rintro _ _ ⟨b,rfl,rfl⟩;exact k b)
theorem zal170a (k:∀ b,GO Γ Tryz.prog ops rest ((i,.v (.pointer (some ⟨b,0,none⟩)))::L) (box b 170 [.v (.map none)]::ms) K) (hi:Nat.blt i Γ.N=true:=by exact rfl):GO Γ Tryz.prog ops (⟨some i,.alloc 170,ty,pos,after,none⟩::rest) L ms K:=go_op rfl rfl hi (o_alloc_own zeroValue170 (cs:=[.v (.map none)]) rfl) (by rintro _ _ ⟨b,rfl,rfl⟩;exact k b)
end
theorem zq1 {P Q:Prop} (k:Q) (h:(True->Q)->P:=by intro h;first | ((with_reducible apply g_seq);exact h trivial) | ((with_reducible apply gRg);exact h trivial) | ((with_reducible apply go_pL);exact rfl;exact rfl;exact rfl;exact rfl;exact qO;exact h trivial) | ((with_reducible apply go_nilS);exact rfl;exact h trivial) | ((with_reducible apply go_nilL);exact rfl;exact h trivial) | ((with_reducible apply gd_pL);exact rfl;exact rfl;exact rfl;exact rfl;exact qO;exact h trivial) | ((with_reducible apply go_sL);exact rfl;exact rfl;exact rfl;exact rfl;exact qB;exact rfl;exact rfl;exact h trivial) | ((with_reducible apply go_wL);exact rfl;exact rfl;exact rfl;exact rfl;exact qB;exact rfl;exact rfl;exact qO;exact h trivial) | ((with_reducible apply gd_sL);exact rfl;exact rfl;exact rfl;exact rfl;exact qB;exact rfl;exact rfl;exact h trivial) | ((with_reducible apply gd_wL);exact rfl;exact rfl;exact rfl;exact rfl;exact qB;exact rfl;exact rfl;exact qO;exact h trivial) | ((with_reducible apply gd_nilL);exact rfl;exact h trivial) | ((with_reducible apply g_skipS);exact h trivial) | ((with_reducible apply gSp);exact h trivial) | ((with_reducible apply g_block);exact h trivial) | ((with_reducible apply gdc_p);exact rfl;exact rfl;exact rfl;exact rfl;exact rfl;exact rfl;exact qO;exact h trivial) | ((with_reducible apply go_uL);exact rfl;exact rfl;exact rfl;exact rfl;exact rfl;exact rfl;exact h trivial) | ((with_reducible apply gd_uL);exact rfl;exact rfl;exact rfl;exact rfl;exact rfl;exact rfl;exact h trivial) | (refine g_seq ?_;exact h trivial) | (refine gRg ?_;exact h trivial) | (refine gSp ?_;exact h trivial) | (refine g_block ?_;exact h trivial)):P:=h fun _=>k
theorem zq2 {P Q:Prop} (k:Q) (h:(True->Q)->P:=by intro h;(iterate 2 refine zq1 ?_);exact h trivial):P:=h fun _=>k
theorem zq3 {P Q:Prop} (k:Q) (h:(True->Q)->P:=by intro h;(iterate 3 refine zq1 ?_);exact h trivial):P:=h fun _=>k
theorem zq4 {P Q:Prop} (k:Q) (h:(True->Q)->P:=by intro h;(iterate 4 refine zq1 ?_);exact h trivial):P:=h fun _=>k
theorem zq5 {P Q:Prop} (k:Q) (h:(True->Q)->P:=by intro h;(iterate 5 refine zq1 ?_);exact h trivial):P:=h fun _=>k
theorem zq6 {P Q:Prop} (k:Q) (h:(True->Q)->P:=by intro h;(iterate 6 refine zq1 ?_);exact h trivial):P:=h fun _=>k
theorem zq7 {P Q:Prop} (k:Q) (h:(True->Q)->P:=by intro h;(iterate 7 refine zq1 ?_);exact h trivial):P:=h fun _=>k
theorem zq8 {P Q:Prop} (k:Q) (h:(True->Q)->P:=by intro h;(iterate 8 refine zq1 ?_);exact h trivial):P:=h fun _=>k
theorem zq9 {P Q:Prop} (k:Q) (h:(True->Q)->P:=by intro h;(iterate 9 refine zq1 ?_);exact h trivial):P:=h fun _=>k
theorem zq10 {P Q:Prop} (k:Q) (h:(True->Q)->P:=by intro h;(iterate 10 refine zq1 ?_);exact h trivial):P:=h fun _=>k
theorem zq11 {P Q:Prop} (k:Q) (h:(True->Q)->P:=by intro h;(iterate 11 refine zq1 ?_);exact h trivial):P:=h fun _=>k
theorem zq12 {P Q:Prop} (k:Q) (h:(True->Q)->P:=by intro h;(iterate 12 refine zq1 ?_);exact h trivial):P:=h fun _=>k
theorem zq13 {P Q:Prop} (k:Q) (h:(True->Q)->P:=by intro h;(iterate 13 refine zq1 ?_);exact h trivial):P:=h fun _=>k
theorem zq14 {P Q:Prop} (k:Q) (h:(True->Q)->P:=by intro h;(iterate 14 refine zq1 ?_);exact h trivial):P:=h fun _=>k
theorem zq16 {P Q:Prop} (k:Q) (h:(True->Q)->P:=by intro h;(iterate 16 refine zq1 ?_);exact h trivial):P:=h fun _=>k
theorem zq17 {P Q:Prop} (k:Q) (h:(True->Q)->P:=by intro h;(iterate 17 refine zq1 ?_);exact h trivial):P:=h fun _=>k
theorem zq18 {P Q:Prop} (k:Q) (h:(True->Q)->P:=by intro h;(iterate 18 refine zq1 ?_);exact h trivial):P:=h fun _=>k
theorem zq19 {P Q:Prop} (k:Q) (h:(True->Q)->P:=by intro h;(iterate 19 refine zq1 ?_);exact h trivial):P:=h fun _=>k
theorem zq22 {P Q:Prop} (k:Q) (h:(True->Q)->P:=by intro h;(iterate 22 refine zq1 ?_);exact h trivial):P:=h fun _=>k
theorem zq23 {P Q:Prop} (k:Q) (h:(True->Q)->P:=by intro h;(iterate 23 refine zq1 ?_);exact h trivial):P:=h fun _=>k
end Go.Proofs.YtkfnogdccpcmhaaGreatDoor
