/- Part 4 of the proof: a program logic, what the functions compute, and what these answer; no condition. -/
import Derived.Test.YtkfnogdccpcmhaaGreatDoorp3
import Derived.Shelf.Strings.OnBuilder
import Derived.Shelf.Strconv.Itoa3
import Derived.Shelf.Sort.Plain
import Derived.Ground.Names2Prog
import Derived.Shelf.Slices.CompactI
import Derived.Shelf.Slices.Delete
import Derived.Shelf.Slices.In.SortNone
import Derived.Shelf.Slices.Empties
import Derived.Shelf.SlicesE.IndexFunc
import Derived.Shelf.SlicesE.DeleteFunc
import Derived.Test.YtkfnogdccpcmhaaGreatDoorProg
set_option linter.unusedVariables false
set_option linter.unusedSimpArgs false
set_option maxRecDepth 100000
set_option maxHeartbeats 2000000
namespace Go.Proofs.YtkfnogdccpcmhaaGreatDoor
section
open Go.Shelf Go.Proofs
def sh_lays156_ren : Go.Shelf.Ren := ⟨fun | 156 => 175 | 165 => 187 | 166 => 188 | 169 => 189 | 240 => 192 | 241 => 193 | 276 => 198 | 277 => 199 | n => n, fun | 31 => 65 | 9 => 9 | 3 => 3 | 4 => 4 | 0 => 0 | 20 => 20 | 72 => 185 | 76 => 189 | 70 => 182 | 37 => 183 | 75 => 188 | 127 => 195 | 164 => 200 | 5 => 5 | 80 => 135 | n => n, fun | n => n⟩
theorem sh_lays156 : Go.Proofs.Lays.n156 Tryz.prog sh_lays156_ren := {
 mixed := by kernel_rfl
 f156 := func175.trans (congrArg some (by kernel_rfl))
 f165 := func187.trans (congrArg some (by kernel_rfl))
 f166 := func188.trans (congrArg some (by kernel_rfl))
 f169 := func189.trans (congrArg some (by kernel_rfl))
 f240 := func192.trans (congrArg some (by kernel_rfl))
 f241 := func193.trans (congrArg some (by kernel_rfl))
 f276 := func198.trans (congrArg some (by kernel_rfl))
 f277 := func199.trans (congrArg some (by kernel_rfl))
 t0 := underlying0
 a0 := isAgg0
 z0 := sizeOf0
 v0 := zeroValue0
 t3 := underlying3
 a3 := isAgg3
 z3 := sizeOf3
 v3 := zeroValue3
 t4 := underlying4
 a4 := isAgg4
 z4 := sizeOf4
 v4 := zeroValue4
 t9 := underlying9
 a9 := isAgg9
 z9 := sizeOf9
 v9 := zeroValue9
 t20 := underlying20
 a20 := isAgg20
 z20 := sizeOf20
 v20 := zeroValue20
 t31 := underlying65
 a31 := isAgg65
 z31 := sizeOf65
 v31 := zeroValue65
 t37 := underlying183
 a37 := isAgg183
 z37 := sizeOf183
 v37 := zeroValue183
 t70 := underlying182
 a70 := isAgg182
 z70 := sizeOf182
 v70 := zeroValue182
 t72 := underlying185
 a72 := isAgg185
 z72 := sizeOf185
 v72 := zeroValue185
 t75 := underlying188
 a75 := isAgg188
 z75 := sizeOf188
 v75 := zeroValue188
 t76 := underlying189
 a76 := isAgg189
 z76 := sizeOf189
 v76 := zeroValue189
 t127 := underlying195
 a127 := isAgg195
 z127 := sizeOf195
 v127 := zeroValue195
 t164 := underlying200
 a164 := isAgg200
 z164 := sizeOf200
 v164 := zeroValue200 }
theorem sh_Builder_Extra_156 : Builder.Extra Tryz.prog sh_lays156_ren := {
 sizeBuilder := by kernel_rfl
 liesBuilder := by kernel_rfl
 t5 := underlying5
 a5 := isAgg5
 z5 := sizeOf5
 v5 := zeroValue5
 infoByte := by kernel_rfl
 cellsByte := by kernel_rfl
 sizeByte := by kernel_rfl
 neB5 := by decide }
open Go.RowKit in
theorem sh_strings_Join_none (a : Option Addr) (c : Nat) (sep : ByteArray) (w : World) :
  Calls Tryz.prog 175 #[.slice a 0 c, .string sep] w fun e w' => e = .returned (.string ⟨#[]⟩) /\ w' = w := Any.strings_Join_none sh_lays156 sh_Builder_Extra_156 a c sep w
open Go.RowKit in
theorem sh_strings_Join (bk o c : Nat) (xs : List ByteArray) (sep : ByteArray) (w : World) (hcells : ∀ (j : Nat) x, xs[j]? = some x -> w.cell? ⟨bk, o + j, none⟩ = some (.string x)) (hbk : bk < w.heap.size) (hN : xs.length <= 140737488355328) (hcap : xs.length <= c) (hlen : (Lib.join (xs.map (·.data.toList)) sep.data.toList).length <= 140737488355328) :
  Calls Tryz.prog 175 #[.slice (some ⟨bk, o, none⟩) xs.length c, .string sep] w fun e w' => e = .returned (.string ⟨(Lib.join (xs.map (·.data.toList)) sep.data.toList).toArray⟩) /\ Below w.heap.size w w' := Any.strings_Join sh_lays156 sh_Builder_Extra_156 bk o c xs sep w hcells hbk hN hcap hlen
def sh_lays171_ren : Go.Shelf.Ren := ⟨fun | 171 => 174 | 243 => 186 | 246 => 191 | 283 => 194 | 284 => 195 | 285 => 196 | 286 => 197 | 129 => 167 | 317 => 200 | 318 => 201 | 319 => 202 | 320 => 203 | 337 => 204 | 338 => 205 | n => n, fun | 3 => 3 | 9 => 9 | 2 => 2 | 4 => 4 | 171 => 196 | 0 => 0 | 53 => 167 | 37 => 183 | 5 => 5 | 173 => 198 | 212 => 204 | 51 => 165 | 20 => 20 | 213 => 205 | 46 => 142 | 232 => 206 | 233 => 207 | n => n, fun | 17 => 0 | 18 => 2 | 19 => 3 | n => n⟩
theorem sh_lays171 : Go.Proofs.Lays.n171 Tryz.prog sh_lays171_ren := {
 mixed := by kernel_rfl
 f129 := func167.trans (congrArg some (by kernel_rfl))
 f171 := func174.trans (congrArg some (by kernel_rfl))
 f243 := func186.trans (congrArg some (by kernel_rfl))
 f246 := func191.trans (congrArg some (by kernel_rfl))
 f283 := func194.trans (congrArg some (by kernel_rfl))
 f284 := func195.trans (congrArg some (by kernel_rfl))
 f285 := func196.trans (congrArg some (by kernel_rfl))
 f286 := func197.trans (congrArg some (by kernel_rfl))
 f317 := func200.trans (congrArg some (by kernel_rfl))
 f318 := func201.trans (congrArg some (by kernel_rfl))
 f319 := func202.trans (congrArg some (by kernel_rfl))
 f320 := func203.trans (congrArg some (by kernel_rfl))
 f337 := func204.trans (congrArg some (by kernel_rfl))
 f338 := func205.trans (congrArg some (by kernel_rfl))
 t0 := underlying0
 a0 := isAgg0
 z0 := sizeOf0
 v0 := zeroValue0
 t2 := underlying2
 a2 := isAgg2
 z2 := sizeOf2
 v2 := zeroValue2
 t3 := underlying3
 a3 := isAgg3
 z3 := sizeOf3
 v3 := zeroValue3
 t4 := underlying4
 a4 := isAgg4
 z4 := sizeOf4
 v4 := zeroValue4
 t5 := underlying5
 a5 := isAgg5
 z5 := sizeOf5
 v5 := zeroValue5
 t9 := underlying9
 a9 := isAgg9
 z9 := sizeOf9
 v9 := zeroValue9
 t20 := underlying20
 a20 := isAgg20
 z20 := sizeOf20
 v20 := zeroValue20
 t37 := underlying183
 a37 := isAgg183
 z37 := sizeOf183
 v37 := zeroValue183
 t46 := underlying142
 a46 := isAgg142
 z46 := sizeOf142
 v46 := zeroValue142
 t51 := underlying165
 a51 := isAgg165
 z51 := sizeOf165
 v51 := zeroValue165
 t53 := underlying167
 a53 := isAgg167
 z53 := sizeOf167
 v53 := zeroValue167
 t171 := underlying196
 a171 := isAgg196
 z171 := sizeOf196
 v171 := zeroValue196
 t173 := underlying198
 a173 := isAgg198
 z173 := sizeOf198
 v173 := zeroValue198
 t212 := underlying204
 a212 := isAgg204
 z212 := sizeOf204
 v212 := zeroValue204
 t213 := underlying205
 a213 := isAgg205
 z213 := sizeOf205
 t232 := underlying206
 a232 := isAgg206
 z232 := sizeOf206
 v232 := zeroValue206
 t233 := underlying207
 a233 := isAgg207
 z233 := sizeOf207
 v233 := zeroValue207
 g17 := by kernel_rfl
 g18 := by kernel_rfl
 g19 := by kernel_rfl }
open Go.RowKit Go.Sort Go.Lib in
theorem sh_strconv_Itoa_small (i : Nat) (hi : i < 100) (w : World) :
  Calls Tryz.prog 174 #[.int .i64 i] w fun e w' => e = .returned (.string ⟨(Lib.decDigits i).toArray⟩) /\ w' = w := Any.strconv_Itoa_small sh_lays171 i hi w
def sh_lays189_ren : Go.Shelf.Ren := ⟨fun | 189 => 98 | 125 => 135 | 257 => 134 | 128 => 166 | 129 => 167 | 294 => 157 | 295 => 158 | 296 => 159 | 297 => 160 | 298 => 161 | 299 => 162 | 216 => 163 | 300 => 164 | 301 => 165 | 328 => 180 | 329 => 181 | 330 => 182 | 331 => 183 | 332 => 184 | 215 => 185 | 343 => 190 | n => n, fun | 28 => 25 | 3 => 3 | 46 => 142 | 0 => 0 | 51 => 165 | 53 => 167 | 4 => 4 | 183 => 158 | 182 => 157 | 131 => 151 | 5 => 5 | 9 => 9 | 218 => 176 | 222 => 180 | 228 => 191 | 229 => 192 | n => n, fun | n => n⟩
theorem sh_lays189 : Go.Proofs.Lays.n189 Tryz.prog sh_lays189_ren := {
 mixed := by kernel_rfl
 f125 := func135.trans (congrArg some (by kernel_rfl))
 f128 := func166.trans (congrArg some (by kernel_rfl))
 f129 := func167.trans (congrArg some (by kernel_rfl))
 f189 := func98.trans (congrArg some (by kernel_rfl))
 f215 := func185.trans (congrArg some (by kernel_rfl))
 f216 := func163.trans (congrArg some (by kernel_rfl))
 f257 := func134.trans (congrArg some (by kernel_rfl))
 f294 := func157.trans (congrArg some (by kernel_rfl))
 f295 := func158.trans (congrArg some (by kernel_rfl))
 f296 := func159.trans (congrArg some (by kernel_rfl))
 f297 := func160.trans (congrArg some (by kernel_rfl))
 f298 := func161.trans (congrArg some (by kernel_rfl))
 f299 := func162.trans (congrArg some (by kernel_rfl))
 f300 := func164.trans (congrArg some (by kernel_rfl))
 f301 := func165.trans (congrArg some (by kernel_rfl))
 f328 := func180.trans (congrArg some (by kernel_rfl))
 f329 := func181.trans (congrArg some (by kernel_rfl))
 f330 := func182.trans (congrArg some (by kernel_rfl))
 f331 := func183.trans (congrArg some (by kernel_rfl))
 f332 := func184.trans (congrArg some (by kernel_rfl))
 f343 := func190.trans (congrArg some (by kernel_rfl))
 t0 := underlying0
 a0 := isAgg0
 z0 := sizeOf0
 v0 := zeroValue0
 t3 := underlying3
 a3 := isAgg3
 z3 := sizeOf3
 v3 := zeroValue3
 t4 := underlying4
 a4 := isAgg4
 z4 := sizeOf4
 v4 := zeroValue4
 t5 := underlying5
 a5 := isAgg5
 z5 := sizeOf5
 v5 := zeroValue5
 t9 := underlying9
 a9 := isAgg9
 z9 := sizeOf9
 v9 := zeroValue9
 t28 := underlying25
 a28 := isAgg25
 z28 := sizeOf25
 v28 := zeroValue25
 t46 := underlying142
 a46 := isAgg142
 z46 := sizeOf142
 v46 := zeroValue142
 t51 := underlying165
 a51 := isAgg165
 z51 := sizeOf165
 v51 := zeroValue165
 t53 := underlying167
 a53 := isAgg167
 z53 := sizeOf167
 v53 := zeroValue167
 t131 := underlying151
 a131 := isAgg151
 z131 := sizeOf151
 v131 := zeroValue151
 t182 := underlying157
 a182 := isAgg157
 z182 := sizeOf157
 v182 := zeroValue157
 t183 := underlying158
 a183 := isAgg158
 z183 := sizeOf158
 v183 := zeroValue158
 t218 := underlying176
 a218 := isAgg176
 z218 := sizeOf176
 v218 := zeroValue176
 t222 := underlying180
 a222 := isAgg180
 z222 := sizeOf180
 v222 := zeroValue180
 t228 := underlying191
 a228 := isAgg191
 z228 := sizeOf191
 v228 := zeroValue191
 t229 := underlying192
 a229 := isAgg192
 z229 := sizeOf192
 v229 := zeroValue192 }
open Go.Sort Go.RowKit in
theorem sh_slices_Sort_int (blk off cap : Nat) (zs : List Int) (w : World) (hH : Holds (Value.int .i64) w blk off zs.toArray) (hblk : blk < w.heap.size) (hsz : zs.length < 4611686018427387904) :
  Calls Tryz.prog 98 #[.slice (some ⟨blk, off, none⟩) zs.length cap] w fun e w' =>
   e = .returned (.tuple #[]) /\ ∃ n os, w' = grow (putRow (Value.int .i64) (Sort.ahead w n) blk off (zs.mergeSort fun x y => decide (x <= y)).toArray) os := Any.slices_Sort_int sh_lays189 blk off cap zs w hH hblk hsz
def sh_laysNm220_ren : Go.Shelf.Ren := ⟨fun | 20 => 99 | n => n, fun | 22 => 25 | 3 => 3 | 4 => 4 | 0 => 0 | n => n, fun | n => n⟩
theorem sh_laysNm220 : Go.Proofs.Lays2.n20 Tryz.prog sh_laysNm220_ren := {
 mixed := by kernel_rfl
 f20 := func99.trans (congrArg some (by kernel_rfl))
 t0 := underlying0
 a0 := isAgg0
 z0 := sizeOf0
 v0 := zeroValue0
 t3 := underlying3
 a3 := isAgg3
 z3 := sizeOf3
 v3 := zeroValue3
 t4 := underlying4
 a4 := isAgg4
 z4 := sizeOf4
 v4 := zeroValue4
 t22 := underlying25
 a22 := isAgg25
 z22 := sizeOf25
 v22 := zeroValue25
 i3 := by kernel_rfl }
open Go.RowKit Go.Lib Go.Sort in
theorem sh_slices_Compact_int (blk off cap : Nat) (zs : List Int) (w : World) (hH : Holds (Value.int .i64) w blk off zs.toArray) (hsz : zs.length <= 9223372036854775807) (hcap : zs.length <= cap) :
  Calls Tryz.prog 99 #[.slice (some ⟨blk, off, none⟩) zs.length cap] w fun e w' => e = .returned (.slice (some ⟨blk, off, none⟩) (Lib.compact zs).length cap) /\ ∃ q, w' = putRow (Value.int .i64) (Sort.ahead w q) blk off (Lib.compact zs ++ List.replicate (zs.length - (Lib.compact zs).length) 0).toArray := Any.slices_Compact_int sh_laysNm220 blk off cap zs w hH hsz hcap
open Go.RowKit Go.Lib Go.Sort in
theorem sh_slices_Compact_int_empty (a : Option Addr) (cap : Nat) (w : World) :
  Calls Tryz.prog 99 #[.slice a 0 cap] w fun e w' => e = .returned (.slice a 0 cap) /\ w' = w := Any.slices_Compact_int_empty sh_laysNm220 a cap w
def sh_laysNm223_ren : Go.Shelf.Ren := ⟨fun | 23 => 177 | n => n, fun | 22 => 25 | 3 => 3 | 4 => 4 | 0 => 0 | n => n, fun | n => n⟩
theorem sh_laysNm223 : Go.Proofs.Lays2.n23 Tryz.prog sh_laysNm223_ren := {
 mixed := by kernel_rfl
 f23 := func177.trans (congrArg some (by kernel_rfl))
 t0 := underlying0
 a0 := isAgg0
 z0 := sizeOf0
 v0 := zeroValue0
 t3 := underlying3
 a3 := isAgg3
 z3 := sizeOf3
 v3 := zeroValue3
 t4 := underlying4
 a4 := isAgg4
 z4 := sizeOf4
 v4 := zeroValue4
 t22 := underlying25
 a22 := isAgg25
 z22 := sizeOf25
 v22 := zeroValue25
 i3 := by kernel_rfl }
open Go.RowKit Go.Lib Go.Sort in
theorem sh_slices_Delete_int (blk off cap i j : Nat) (zs : List Int) (w : World) (hH : Holds (Value.int .i64) w blk off zs.toArray) (hcap : zs.length <= cap) (hm : cap <= 9223372036854775807) (hij : i <= j) (hj : j <= zs.length) :
  Calls Tryz.prog 177 #[.slice (some ⟨blk, off, none⟩) zs.length cap, .int .i64 i, .int .i64 j] w fun e w' => e = .returned (.slice (some ⟨blk, off, none⟩) (zs.length - (j - i)) cap) /\ ∃ q, w' = putRow (Value.int .i64) (Sort.ahead w q) blk off (zs.take i ++ zs.drop j ++ List.replicate (j - i) 0).toArray := Any.slices_Delete_int sh_laysNm223 blk off cap i j zs w hH hcap hm hij hj
open Go.RowKit Go.Sort in
theorem sh_slices_Sort_int_none (p : Option Addr) (cap : Nat) (w : World) :
  Calls Tryz.prog 98 #[.slice p 0 cap] w fun e w' => e = .returned (.tuple #[]) /\ w' = w := Any.slices_Sort_int_none sh_lays189 p cap w
def sh_laysSlH6_f93_ren : Go.Shelf.Ren := ⟨fun | 6 => 93 | n => n, fun | 22 => 25 | 23 => 3 | 25 => 72 | 3 => 3 | 0 => 0 | 4 => 4 | n => n, fun | n => n⟩
theorem sh_laysSlH6_f93 : Go.Proofs.SlLaysH.n6 Tryz.prog sh_laysSlH6_f93_ren := {
 mixed := by kernel_rfl
 f6 := ⟨Tryz.f93.name, by decide, func93.trans (congrArg some (by kernel_rfl))⟩
 t0 := underlying0
 a0 := isAgg0
 z0 := sizeOf0
 v0 := zeroValue0
 t3 := underlying3
 a3 := isAgg3
 z3 := sizeOf3
 v3 := zeroValue3
 t4 := underlying4
 a4 := isAgg4
 z4 := sizeOf4
 v4 := zeroValue4
 t22 := underlying25
 a22 := isAgg25
 z22 := sizeOf25
 v22 := zeroValue25
 a23 := isAgg3
 z23 := sizeOf3
 t25 := underlying72
 a25 := isAgg72
 z25 := sizeOf72
 v25 := zeroValue72 }
open Go.RowKit Go.Lib in
theorem sh_slices_IndexFunc_empty {α : Type} [Inhabited α] (a : Option Addr) (c : Nat) (fv : Value) (w : World) :
  Calls Tryz.prog 93 #[.slice a 0 c, fv] w fun e w' => e = .returned (.int .i64 (-1)) /\ w' = w := AnyE.slices_IndexFunc_empty sh_laysSlH6_f93 a c fv w
def sh_laysSlH10_f178_ren : Go.Shelf.Ren := ⟨fun | 10 => 178 | 6 => 93 | n => n, fun | 22 => 25 | 23 => 3 | 25 => 72 | 3 => 3 | 4 => 4 | 0 => 0 | n => n, fun | n => n⟩
theorem sh_laysSlH10_f178 : Go.Proofs.SlLaysH.n10 Tryz.prog sh_laysSlH10_f178_ren := {
 mixed := by kernel_rfl
 f6 := ⟨Tryz.f93.name, by decide, func93.trans (congrArg some (by kernel_rfl))⟩
 f10 := ⟨Tryz.f178.name, by decide, func178.trans (congrArg some (by kernel_rfl))⟩
 t0 := underlying0
 a0 := isAgg0
 z0 := sizeOf0
 v0 := zeroValue0
 t3 := underlying3
 a3 := isAgg3
 z3 := sizeOf3
 v3 := zeroValue3
 t4 := underlying4
 a4 := isAgg4
 z4 := sizeOf4
 v4 := zeroValue4
 t22 := underlying25
 a22 := isAgg25
 z22 := sizeOf25
 v22 := zeroValue25
 a23 := isAgg3
 z23 := sizeOf3
 t25 := underlying72
 a25 := isAgg72
 z25 := sizeOf72
 v25 := zeroValue72 }
open Go.RowKit Go.Lib Go.Sort in
theorem sh_slices_DeleteFunc {α : Type} [Inhabited α] (enc : α -> Value) (hO : OneCell enc) (p : α -> Bool) (g : Nat) (lb : Array Value) (eg : ∀ args w, (callFunc g args).run Tryz.prog w = .ok (.enter g args) w) (zr : α) (v23 : ∀ w, (zeroValue 3).run Tryz.prog w = .ok (enc zr) w) (blk off cap : Nat) (d : Array α) (w : World) (hp : PredAt Tryz.prog g lb enc p w) (hpo : PredOver Tryz.prog g lb enc p blk off d.size w) (hH : Holds enc w blk off d) (hsz : d.size <= 9223372036854775807) (hcap : d.size <= cap) :
  Calls Tryz.prog 178 #[.slice (some ⟨blk, off, none⟩) d.size cap, .func (.func g) #[] lb] w fun e w' => e = .returned (.slice (some ⟨blk, off, none⟩) (d.toList.filter fun x => !p x).length cap) /\ ∃ q, w' = putRow enc (Sort.ahead w q) blk off ((d.toList.filter fun x => !p x) ++ List.replicate (d.size - (d.toList.filter fun x => !p x).length) zr).toArray := AnyE.slices_DeleteFunc sh_laysSlH10_f178 enc hO p g lb eg zr v23 blk off cap d w hp hpo hH hsz hcap
end
open Go.V Tryz
theorem sh_Itoa {n : Int} (h : 0 <= n /\ n < 100) : Fn0 Tryz.prog 174 [.i64 n] (.str (Lib.decDigits n.toNat)) := fn_itoa (fun i hi w => sh_strconv_Itoa_small i hi w) h
theorem sh_Join {l : List (List UInt8)} {s : List UInt8} (hl : l.length <= 140737488355328) (hj : (Lib.join l s).length <= 140737488355328) : Fn0 Tryz.prog 175 [.list 1 D.str l, .str s] (.str (Lib.join l s)) :=
 fn_join (fun bk o c xs sep w h1 h2 h3 h4 h5 => sh_strings_Join bk o c xs sep w h1 h2 h3 h4 h5) (fun a c sep w => sh_strings_Join_none a c sep w) hl hj
theorem sh_Sort {a : Option Addr} {m cap : Nat} {l : List Int} (hl : l.length < 4611686018427387904) :
  Go.V.Fn Tryz.prog 98 [.v (.slice a m cap)] [arr a m cap 3 1 D.i64 l] (fun d ms' => d = .tup [] /\ ms' = [arr a m cap 3 1 D.i64 (l.mergeSort fun x y => decide (x <= y))]) := fn_sort_int sh_slices_Sort_int sh_slices_Sort_int_none hl
theorem sh_Compact {a : Option Addr} {m cap : Nat} {l : List Int} :
  Go.V.Fn Tryz.prog 99 [.v (.slice a m cap)] [arr a m cap 3 1 D.i64 l] (fun d ms' => ∃ m', d = .v (.slice a m' cap) /\ ms' = [arr a m' cap 3 1 D.i64 (Lib.compact l)]) := fn_compact_int sh_slices_Compact_int sh_slices_Compact_int_empty
theorem sh_Delete {a : Option Addr} {m cap : Nat} {l : List Int} {i j : Int} (h0 : 0 <= i) (hij : i <= j) (hj : j <= l.length) (hne : l ≠ []) :
  Go.V.Fn Tryz.prog 177 [.v (.slice a m cap), .i64 i, .i64 j] [arr a m cap 3 1 D.i64 l] (fun d ms' => ∃ m', d = .v (.slice a m' cap) /\ ms' = [arr a m' cap 3 1 D.i64 (List.take i.toNat l ++ List.drop j.toNat l)]) := fn_del_int sh_slices_Delete_int h0 hij hj hne
theorem A_mixed0 : Tryz.prog.follows .mixedOrders = true := by kernel_rfl
theorem sh_DeleteFunc_empty (a : Option Addr) (cap : Nat) (fv : Value) (w : World) : Calls Tryz.prog 178 #[.slice a 0 cap, fv] w fun e w' => e = .returned (.slice a 0 cap) /\ w' = w := by
 have mixed := A_mixed0
 go_enter func178, ntmps178
 go_wp2_with (refine (sh_slices_IndexFunc_empty (α := Int) _ _ _ _).mono ?_; rintro e w' ⟨rfl, rfl⟩)
 go_ret
 exact ⟨rfl, rfl⟩
end Go.Proofs.YtkfnogdccpcmhaaGreatDoor
