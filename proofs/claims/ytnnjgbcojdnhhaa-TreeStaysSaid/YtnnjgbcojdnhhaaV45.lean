/- Small rules for the generator. -/
import Derived.Test.YtnnjgbcojdnhhaaV44
set_option linter.unusedVariables false
set_option linter.unusedSimpArgs false
namespace Go.V
abbrev kI64 (n : Int) : Value := .int .i64 n
abbrev kStr (s : List UInt8) : Value := .string ⟨s.toArray⟩
theorem keyI64 {P : Program} {t : TypeId} (h : P.underlying t = some (.int .i64)) : KeyOk P t kI64 := keyOk_int h
theorem keyStr {P : Program} {t : TypeId} (h : P.underlying t = some .string) : KeyOk P t kStr := keyOk_str h
section
variable {Γ : Ctx} {P : Program} {L : Env} {ms : List Asrt} {K : KT} {l : List Oper}
theorem g_draw_al {id : Nat} (k : Nat) (fr : List Nat) (al : List (Nat × Nat)) (hm : P.follows .mixedOrders = true) (hf : flowB l k = true) (hfr : freshB2 l k fr al = true) (hN : (al.all fun p => Nat.blt (dstN l p.1) Γ.N) = true) (hL : (al.all fun p => (Env.find L (dstN l p.1)).isNone) = true) (hkl : Nat.ble k l.length = true) (hfs : (List.range' 0 k).filter (fun j => fr.contains j) = fr) (h : GDF2 Γ P l (l.drop k) ms K fr al 0 (l.take k) L []) : G Γ P (.region id l.toArray true) L ms K :=
  g_draw_a k fr al hm hf hfr hN (fun p hp => by simpa using List.all_eq_true.1 hL p hp) hkl hfs h
end
theorem getL_n {ms : List Asrt} : getL ms [] [] := trivial
theorem getL_c {ms As : List Asrt} {A : Asrt} {k : Nat} {ks : List Nat} (h : ms[k]? = some A) (t : getL ms ks As) : getL ms (k :: ks) (A :: As) := ⟨h, t⟩
end Go.V
