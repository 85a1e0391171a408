/-
  No cell of these rows narrows 'for every input' (looked for: loops, veiled, ifaces, maps, wideKeys, modest, calm, conditions, laid).
  DERIVED. THE GIVEN ROWS OF THIS SEAT. 4 by the template 'for every input the law returns true; each argument reads behind the call as it read before'; 0 by the template 'total and deterministic' (their statements: YtcoghblhdjmbfaaGreatTotals.lean).
  GIVEN WITH THE SEED: the statements are not yours to turn. If you find one false, say at which input.
  Laid BY PROGRAM, IN A SANDBOX (cutbox-rows.mjs): the forced cells as the released guide's own fill.sh prints them over the translation 7062412a01ef64bb… (all of the seat's roots in one cut). By AI agents, Wed Nov 11 2026. No macro, syntax, notation, axiom, sorry.
-/
import Derived.Test.YtcoghblhdjmbfaaGreatChecked
import GoSem.Claim
import GoSem.ClaimJoined
import GoSem.ClaimMapViews
import Derived.JoinedTies
import Derived.KernelRfl
namespace Go.Proofs.YtcoghblhdjmbfaaGreat
/- THE CELL 'sum', in the pinned program and in every row, IS THE sha256 OF THE DUMP (.gsa) THAT YtcoghblhdjmbfaaGreatProg.lean LOADS. Nothing in Lean hashes anything: it is a label: what it is worth is what the hold of that sum in a sandbox is worth. -/
noncomputable def Tryz.pinned : Pinned := { name := "ytcoghblhdjmbfaagreat", sum := "7062412a01ef64bbee6d60d5d9084e6777b68f0c502e8306c35045e8b579c38d", checked := Tryz.checked }
namespace Rows
def none {H : Type} : Left H := { results := [], args := [] }

/-- 'syntagmalaw27.BackTypes': WHATEVER THE INPUT: true; the input reads as it did. -/
def backTypesSpec : ChangeSpec := { name := "backTypes", fn := fun _ => fun
  | [d] => { results := [.lit (.bool true)], args := [d] }
  | _ => none }
def backTypesRow : OpenClaim := { program := "ytcoghblhdjmbfaagreat", sum := "7062412a01ef64bbee6d60d5d9084e6777b68f0c502e8306c35045e8b579c38d", func := "syntagma/syntagmalaw27.BackTypes", spec := "backTypes", unfollowed := true, recurses := true, apart := false }
def BackTypesSaid : Prop := backTypesRow.holds Tryz.pinned (OpenSpec.ofChange backTypesSpec)

/-- ITS FALSE NEIGHBOUR: 'it returns false'. Refute it at one input. -/
def backTypesWrong : ChangeSpec := { name := "backTypes", fn := fun _ => fun
  | [d] => { results := [.lit (.bool false)], args := [d] }
  | _ => none }
def BackTypesWrongFalsely : Prop := backTypesRow.holds Tryz.pinned (OpenSpec.ofChange backTypesWrong)

/-- 'syntagmalaw28.VarsSame': WHATEVER THE INPUT: true; the input reads as it did. -/
def varsSameSpec : ChangeSpec := { name := "varsSame", fn := fun _ => fun
  | [d1, d2] => { results := [.lit (.bool true)], args := [d1, d2] }
  | _ => none }
def varsSameRow : OpenClaim := { program := "ytcoghblhdjmbfaagreat", sum := "7062412a01ef64bbee6d60d5d9084e6777b68f0c502e8306c35045e8b579c38d", func := "syntagma/syntagmalaw28.VarsSame", spec := "varsSame", unfollowed := true, recurses := true, apart := false }
def VarsSameSaid : Prop := varsSameRow.holds Tryz.pinned (OpenSpec.ofChange varsSameSpec)

/-- ITS FALSE NEIGHBOUR: 'it returns false'. Refute it at one input. -/
def varsSameWrong : ChangeSpec := { name := "varsSame", fn := fun _ => fun
  | [d1, d2] => { results := [.lit (.bool false)], args := [d1, d2] }
  | _ => none }
def VarsSameWrongFalsely : Prop := varsSameRow.holds Tryz.pinned (OpenSpec.ofChange varsSameWrong)

/-- 'syntagmalaw27.BackSame': WHATEVER THE INPUT: true; the input reads as it did. -/
def backSameSpec : ChangeSpec := { name := "backSame", fn := fun _ => fun
  | [d1, d2] => { results := [.lit (.bool true)], args := [d1, d2] }
  | _ => none }
def backSameRow : OpenClaim := { program := "ytcoghblhdjmbfaagreat", sum := "7062412a01ef64bbee6d60d5d9084e6777b68f0c502e8306c35045e8b579c38d", func := "syntagma/syntagmalaw27.BackSame", spec := "backSame", unfollowed := true, recurses := true, apart := false }
def BackSameSaid : Prop := backSameRow.holds Tryz.pinned (OpenSpec.ofChange backSameSpec)

/-- ITS FALSE NEIGHBOUR: 'it returns false'. Refute it at one input. -/
def backSameWrong : ChangeSpec := { name := "backSame", fn := fun _ => fun
  | [d1, d2] => { results := [.lit (.bool false)], args := [d1, d2] }
  | _ => none }
def BackSameWrongFalsely : Prop := backSameRow.holds Tryz.pinned (OpenSpec.ofChange backSameWrong)

/-- 'syntagmalaw29.PairSame': WHATEVER THE INPUT: true; the input reads as it did. -/
def pairSameSpec : ChangeSpec := { name := "pairSame", fn := fun _ => fun
  | [d1, d2] => { results := [.lit (.bool true)], args := [d1, d2] }
  | _ => none }
def pairSameRow : OpenClaim := { program := "ytcoghblhdjmbfaagreat", sum := "7062412a01ef64bbee6d60d5d9084e6777b68f0c502e8306c35045e8b579c38d", func := "syntagma/syntagmalaw29.PairSame", spec := "pairSame", unfollowed := true, recurses := true, apart := false }
def PairSameSaid : Prop := pairSameRow.holds Tryz.pinned (OpenSpec.ofChange pairSameSpec)

/-- ITS FALSE NEIGHBOUR: 'it returns false'. Refute it at one input. -/
def pairSameWrong : ChangeSpec := { name := "pairSame", fn := fun _ => fun
  | [d1, d2] => { results := [.lit (.bool false)], args := [d1, d2] }
  | _ => none }
def PairSameWrongFalsely : Prop := pairSameRow.holds Tryz.pinned (OpenSpec.ofChange pairSameWrong)

/- THE SECOND FORM. 'bulk': how many values and letters a reading holds, each counted each time it is reached (what is shared counts as often as it is met; a slice's spare places count too). A statement '..UptoSaid' is the law's where the arguments, and the package variables that the reading takes, are together of bulk at most 1048576: NARROWER than '..Said'. Prove '..Said' where nothing that the law and all that it calls make is longer than what came in: it says more and counts as full. Else prove '..UptoSaid'. A law counts once. -/
mutual
def uptoBulk {H : Type} : DataW H → Nat
  | .lit (.string bytes) => bytes.length + 1
  | .lit _ => 1
  | .nil => 1
  | .ptr d => uptoBulk d + 1
  | .slice elems spare => uptoBulkAll elems + uptoBulkAll spare + 1
  | .agg parts => uptoBulkAll parts + 1
  | .iface _ d => uptoBulk d + 1
  | .map entries => uptoBulkEntries entries + 1
  | .held _ => 1
def uptoBulkAll {H : Type} : List (DataW H) → Nat
  | [] => 0
  | d :: r => uptoBulk d + uptoBulkAll r
def uptoBulkEntries {H : Type} : List (Lit × DataW H) → Nat
  | [] => 0
  | x :: r => uptoBulkEntry x + uptoBulkEntries r
def uptoBulkEntry {H : Type} : Lit × DataW H → Nat
  | (.string bytes, d) => bytes.length + uptoBulk d + 1
  | (_, d) => uptoBulk d + 1
 end
def uptoSmall : (H : Type) → List (DataW H) → Bool := fun _ ds => decide (uptoBulkAll ds ≤ 1048576)
def OpenSpec.upto (s : _root_.Go.ChangeSpec) : _root_.Go.OpenSpec := { _root_.Go.OpenSpec.ofChange s with cond := some uptoSmall }

/-- 'syntagmalaw27.BackTypes', WHERE WHAT IT READS IS OF BULK AT MOST 1048576: true; the input reads as it did. -/
def backTypesUptoRow : OpenClaim := { program := "ytcoghblhdjmbfaagreat", sum := "7062412a01ef64bbee6d60d5d9084e6777b68f0c502e8306c35045e8b579c38d", func := "syntagma/syntagmalaw27.BackTypes", spec := "backTypes", unfollowed := true, recurses := true, apart := false, narrowed := true }
def BackTypesUptoSaid : Prop := backTypesUptoRow.holds Tryz.pinned (OpenSpec.upto backTypesSpec)

/-- 'syntagmalaw28.VarsSame', WHERE WHAT IT READS IS OF BULK AT MOST 1048576: true; the input reads as it did. -/
def varsSameUptoRow : OpenClaim := { program := "ytcoghblhdjmbfaagreat", sum := "7062412a01ef64bbee6d60d5d9084e6777b68f0c502e8306c35045e8b579c38d", func := "syntagma/syntagmalaw28.VarsSame", spec := "varsSame", unfollowed := true, recurses := true, apart := false, narrowed := true }
def VarsSameUptoSaid : Prop := varsSameUptoRow.holds Tryz.pinned (OpenSpec.upto varsSameSpec)

/-- 'syntagmalaw27.BackSame', WHERE WHAT IT READS IS OF BULK AT MOST 1048576: true; the input reads as it did. -/
def backSameUptoRow : OpenClaim := { program := "ytcoghblhdjmbfaagreat", sum := "7062412a01ef64bbee6d60d5d9084e6777b68f0c502e8306c35045e8b579c38d", func := "syntagma/syntagmalaw27.BackSame", spec := "backSame", unfollowed := true, recurses := true, apart := false, narrowed := true }
def BackSameUptoSaid : Prop := backSameUptoRow.holds Tryz.pinned (OpenSpec.upto backSameSpec)

/-- 'syntagmalaw29.PairSame', WHERE WHAT IT READS IS OF BULK AT MOST 1048576: true; the input reads as it did. -/
def pairSameUptoRow : OpenClaim := { program := "ytcoghblhdjmbfaagreat", sum := "7062412a01ef64bbee6d60d5d9084e6777b68f0c502e8306c35045e8b579c38d", func := "syntagma/syntagmalaw29.PairSame", spec := "pairSame", unfollowed := true, recurses := true, apart := false, narrowed := true }
def PairSameUptoSaid : Prop := pairSameUptoRow.holds Tryz.pinned (OpenSpec.upto pairSameSpec)

end Rows
end Go.Proofs.YtcoghblhdjmbfaaGreat
