/-
  No cell of these rows narrows 'for every input' (looked for: loops, veiled, ifaces, maps, wideKeys, modest, calm, conditions, laid).
  DERIVED. THE GIVEN ROWS OF THIS SEAT. 3 by the template 'for every input the law returns true; each argument reads behind the call as it read before'; 0 by the template 'total and deterministic' (their statements: YtafphfokopkhdaaGreatTotals.lean).
  GIVEN WITH THE SEED: the statements are not yours to turn. If you find one false, say at which input.
  Laid BY PROGRAM, IN A SANDBOX (cutbox-rows.mjs): the forced cells as the released guide's own fill.sh prints them over the translation 1069f1e3b2a80614… (all of the seat's roots in one cut). By AI agents, Wed Nov 11 2026. No macro, syntax, notation, axiom, sorry.
-/
import Derived.Test.YtafphfokopkhdaaGreatChecked
import GoSem.Claim
import GoSem.ClaimJoined
import GoSem.ClaimMapViews
import Derived.JoinedTies
import Derived.KernelRfl
namespace Go.Proofs.YtafphfokopkhdaaGreat
/- THE CELL 'sum', in the pinned program and in every row, IS THE sha256 OF THE DUMP (.gsa) THAT YtafphfokopkhdaaGreatProg.lean LOADS. Nothing in Lean hashes anything: it is a label: what it is worth is what the hold of that sum in a sandbox is worth. -/
noncomputable def Tryz.pinned : Pinned := { name := "ytafphfokopkhdaagreat", sum := "1069f1e3b2a80614c8d6c1881921d26a8679c9508c43d2b019a8fe9262ec7370", checked := Tryz.checked }
namespace Rows
def none {H : Type} : Left H := { results := [], args := [] }

/-- 'syntagmalaw29.PairMerges': WHATEVER THE INPUT: true; the input reads as it did. -/
def pairMergesSpec : ChangeSpec := { name := "pairMerges", fn := fun _ => fun
  | [d1, d2, d3, d4] => { results := [.lit (.bool true)], args := [d1, d2, d3, d4] }
  | _ => none }
def pairMergesRow : OpenClaim := { program := "ytafphfokopkhdaagreat", sum := "1069f1e3b2a80614c8d6c1881921d26a8679c9508c43d2b019a8fe9262ec7370", func := "syntagma/syntagmalaw29.PairMerges", spec := "pairMerges", unfollowed := true, recurses := true, apart := false }
def PairMergesSaid : Prop := pairMergesRow.holds Tryz.pinned (OpenSpec.ofChange pairMergesSpec)

/-- ITS FALSE NEIGHBOUR: 'it returns false'. Refute it at one input. -/
def pairMergesWrong : ChangeSpec := { name := "pairMerges", fn := fun _ => fun
  | [d1, d2, d3, d4] => { results := [.lit (.bool false)], args := [d1, d2, d3, d4] }
  | _ => none }
def PairMergesWrongFalsely : Prop := pairMergesRow.holds Tryz.pinned (OpenSpec.ofChange pairMergesWrong)

/-- 'syntagmalaw29.PairBetween': WHATEVER THE INPUT: true; the input reads as it did. -/
def pairBetweenSpec : ChangeSpec := { name := "pairBetween", fn := fun _ => fun
  | [d] => { results := [.lit (.bool true)], args := [d] }
  | _ => none }
def pairBetweenRow : OpenClaim := { program := "ytafphfokopkhdaagreat", sum := "1069f1e3b2a80614c8d6c1881921d26a8679c9508c43d2b019a8fe9262ec7370", func := "syntagma/syntagmalaw29.PairBetween", spec := "pairBetween", unfollowed := true, recurses := true, apart := false }
def PairBetweenSaid : Prop := pairBetweenRow.holds Tryz.pinned (OpenSpec.ofChange pairBetweenSpec)

/-- ITS FALSE NEIGHBOUR: 'it returns false'. Refute it at one input. -/
def pairBetweenWrong : ChangeSpec := { name := "pairBetween", fn := fun _ => fun
  | [d] => { results := [.lit (.bool false)], args := [d] }
  | _ => none }
def PairBetweenWrongFalsely : Prop := pairBetweenRow.holds Tryz.pinned (OpenSpec.ofChange pairBetweenWrong)

/-- 'syntagmalaw27.BackTypes': WHATEVER THE INPUT: true; the input reads as it did. -/
def backTypesSpec : ChangeSpec := { name := "backTypes", fn := fun _ => fun
  | [d] => { results := [.lit (.bool true)], args := [d] }
  | _ => none }
def backTypesRow : OpenClaim := { program := "ytafphfokopkhdaagreat", sum := "1069f1e3b2a80614c8d6c1881921d26a8679c9508c43d2b019a8fe9262ec7370", func := "syntagma/syntagmalaw27.BackTypes", spec := "backTypes", unfollowed := true, recurses := true, apart := false }
def BackTypesSaid : Prop := backTypesRow.holds Tryz.pinned (OpenSpec.ofChange backTypesSpec)

/-- ITS FALSE NEIGHBOUR: 'it returns false'. Refute it at one input. -/
def backTypesWrong : ChangeSpec := { name := "backTypes", fn := fun _ => fun
  | [d] => { results := [.lit (.bool false)], args := [d] }
  | _ => none }
def BackTypesWrongFalsely : Prop := backTypesRow.holds Tryz.pinned (OpenSpec.ofChange backTypesWrong)

/- THE SECOND FORM. 'bulk': how many values and letters a reading holds, each counted each time it is reached (what is shared counts as often as it is met; a slice's spare places count too). A statement '..UptoSaid' is the law's where the arguments, and the package variables that the reading takes, are together of bulk at most 1048576: NARROWER than '..Said'. Prove '..Said' where nothing that the law and all that it calls make is longer than what came in: it says more and counts as full. Else prove '..UptoSaid'. A law counts once. -/
mutual
def uptoBulk {H : Type} : DataW H → Nat
  | .lit (.string bytes) => bytes.length + 1
  | .lit _ => 1
  | .nil => 1
  | .ptr d => uptoBulk d + 1
  | .slice elems spare => uptoBulkAll elems + uptoBulkAll spare + 1
  | .agg parts => uptoBulkAll parts + 1
  | .iface _ d => uptoBulk d + 1
  | .map entries => uptoBulkEntries entries + 1
  | .held _ => 1
def uptoBulkAll {H : Type} : List (DataW H) → Nat
  | [] => 0
  | d :: r => uptoBulk d + uptoBulkAll r
def uptoBulkEntries {H : Type} : List (Lit × DataW H) → Nat
  | [] => 0
  | x :: r => uptoBulkEntry x + uptoBulkEntries r
def uptoBulkEntry {H : Type} : Lit × DataW H → Nat
  | (.string bytes, d) => bytes.length + uptoBulk d + 1
  | (_, d) => uptoBulk d + 1
 end
def uptoSmall : (H : Type) → List (DataW H) → Bool := fun _ ds => decide (uptoBulkAll ds ≤ 1048576)
def OpenSpec.upto (s : _root_.Go.ChangeSpec) : _root_.Go.OpenSpec := { _root_.Go.OpenSpec.ofChange s with cond := some uptoSmall }

/-- 'syntagmalaw29.PairMerges', WHERE WHAT IT READS IS OF BULK AT MOST 1048576: true; the input reads as it did. -/
def pairMergesUptoRow : OpenClaim := { program := "ytafphfokopkhdaagreat", sum := "1069f1e3b2a80614c8d6c1881921d26a8679c9508c43d2b019a8fe9262ec7370", func := "syntagma/syntagmalaw29.PairMerges", spec := "pairMerges", unfollowed := true, recurses := true, apart := false, narrowed := true }
def PairMergesUptoSaid : Prop := pairMergesUptoRow.holds Tryz.pinned (OpenSpec.upto pairMergesSpec)

/-- 'syntagmalaw29.PairBetween', WHERE WHAT IT READS IS OF BULK AT MOST 1048576: true; the input reads as it did. -/
def pairBetweenUptoRow : OpenClaim := { program := "ytafphfokopkhdaagreat", sum := "1069f1e3b2a80614c8d6c1881921d26a8679c9508c43d2b019a8fe9262ec7370", func := "syntagma/syntagmalaw29.PairBetween", spec := "pairBetween", unfollowed := true, recurses := true, apart := false, narrowed := true }
def PairBetweenUptoSaid : Prop := pairBetweenUptoRow.holds Tryz.pinned (OpenSpec.upto pairBetweenSpec)

/-- 'syntagmalaw27.BackTypes', WHERE WHAT IT READS IS OF BULK AT MOST 1048576: true; the input reads as it did. -/
def backTypesUptoRow : OpenClaim := { program := "ytafphfokopkhdaagreat", sum := "1069f1e3b2a80614c8d6c1881921d26a8679c9508c43d2b019a8fe9262ec7370", func := "syntagma/syntagmalaw27.BackTypes", spec := "backTypes", unfollowed := true, recurses := true, apart := false, narrowed := true }
def BackTypesUptoSaid : Prop := backTypesUptoRow.holds Tryz.pinned (OpenSpec.upto backTypesSpec)

end Rows
end Go.Proofs.YtafphfokopkhdaaGreat
