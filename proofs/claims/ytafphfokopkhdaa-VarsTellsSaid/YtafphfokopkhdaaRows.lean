/-
  No cell of these rows narrows 'for every input' (looked for: loops, veiled, ifaces, maps, wideKeys, modest, calm, conditions, laid).
  DERIVED. THE GIVEN ROWS OF THIS SEAT. 9 by the template 'for every input the law returns true; each argument reads behind the call as it read before'; 0 by the template 'total and deterministic' (their statements: YtafphfokopkhdaaTotals.lean).
  GIVEN WITH THE SEED: the statements are not yours to turn. If you find one false, say at which input.
  Laid BY PROGRAM, IN A SANDBOX (cutbox-rows.mjs): the forced cells as the released guide's own fill.sh prints them over the translation b8d1191e1f097cad… (all of the seat's roots in one cut). By AI agents, Wed Nov 11 2026. No macro, syntax, notation, axiom, sorry.
-/
import Derived.Test.YtafphfokopkhdaaChecked
import GoSem.Claim
import GoSem.ClaimJoined
import GoSem.ClaimMapViews
import Derived.JoinedTies
import Derived.KernelRfl
namespace Go.Proofs.Ytafphfokopkhdaa
/- THE CELL 'sum', in the pinned program and in every row, IS THE sha256 OF THE DUMP (.gsa) THAT YtafphfokopkhdaaProg.lean LOADS. Nothing in Lean hashes anything: it is a label: what it is worth is what the hold of that sum in a sandbox is worth. -/
noncomputable def Try.pinned : Pinned := { name := "ytafphfokopkhdaa", sum := "b8d1191e1f097cada9e4d2178c2486b68798b5352c276977adb4c2a85426f30b", checked := Try.checked }
namespace Rows
def none {H : Type} : Left H := { results := [], args := [] }

/-- 'syntagmalaw18.QueuePlays': WHATEVER THE INPUT: true; the input reads as it did. -/
def queuePlaysSpec : ChangeSpec := { name := "queuePlays", fn := fun _ => fun
  | [d1, d2] => { results := [.lit (.bool true)], args := [d1, d2] }
  | _ => none }
def queuePlaysRow : OpenClaim := { program := "ytafphfokopkhdaa", sum := "b8d1191e1f097cada9e4d2178c2486b68798b5352c276977adb4c2a85426f30b", func := "syntagma/syntagmalaw18.QueuePlays", spec := "queuePlays", plainKeys := false, apart := false }
def QueuePlaysSaid : Prop := queuePlaysRow.holds Try.pinned (OpenSpec.ofChange queuePlaysSpec)

/-- ITS FALSE NEIGHBOUR: 'it returns false'. Refute it at one input. -/
def queuePlaysWrong : ChangeSpec := { name := "queuePlays", fn := fun _ => fun
  | [d1, d2] => { results := [.lit (.bool false)], args := [d1, d2] }
  | _ => none }
def QueuePlaysWrongFalsely : Prop := queuePlaysRow.holds Try.pinned (OpenSpec.ofChange queuePlaysWrong)

/-- 'syntagmalaw18.QueueTexts': WHATEVER THE INPUT: true; the input reads as it did. -/
def queueTextsSpec : ChangeSpec := { name := "queueTexts", fn := fun _ => fun
  | [d1, d2] => { results := [.lit (.bool true)], args := [d1, d2] }
  | _ => none }
def queueTextsRow : OpenClaim := { program := "ytafphfokopkhdaa", sum := "b8d1191e1f097cada9e4d2178c2486b68798b5352c276977adb4c2a85426f30b", func := "syntagma/syntagmalaw18.QueueTexts", spec := "queueTexts", plainKeys := false, apart := false }
def QueueTextsSaid : Prop := queueTextsRow.holds Try.pinned (OpenSpec.ofChange queueTextsSpec)

/-- ITS FALSE NEIGHBOUR: 'it returns false'. Refute it at one input. -/
def queueTextsWrong : ChangeSpec := { name := "queueTexts", fn := fun _ => fun
  | [d1, d2] => { results := [.lit (.bool false)], args := [d1, d2] }
  | _ => none }
def QueueTextsWrongFalsely : Prop := queueTextsRow.holds Try.pinned (OpenSpec.ofChange queueTextsWrong)

/-- 'syntagmalaw18.QueueEither': WHATEVER THE INPUT: true; the input reads as it did. -/
def queueEitherSpec : ChangeSpec := { name := "queueEither", fn := fun _ => fun
  | [d1, d2, d3] => { results := [.lit (.bool true)], args := [d1, d2, d3] }
  | _ => none }
def queueEitherRow : OpenClaim := { program := "ytafphfokopkhdaa", sum := "b8d1191e1f097cada9e4d2178c2486b68798b5352c276977adb4c2a85426f30b", func := "syntagma/syntagmalaw18.QueueEither", spec := "queueEither", plainKeys := false, apart := false }
def QueueEitherSaid : Prop := queueEitherRow.holds Try.pinned (OpenSpec.ofChange queueEitherSpec)

/-- ITS FALSE NEIGHBOUR: 'it returns false'. Refute it at one input. -/
def queueEitherWrong : ChangeSpec := { name := "queueEither", fn := fun _ => fun
  | [d1, d2, d3] => { results := [.lit (.bool false)], args := [d1, d2, d3] }
  | _ => none }
def QueueEitherWrongFalsely : Prop := queueEitherRow.holds Try.pinned (OpenSpec.ofChange queueEitherWrong)

/-- 'syntagmalaw13.GraphMays': WHATEVER THE INPUT: true; the input reads as it did. -/
def graphMaysSpec : ChangeSpec := { name := "graphMays", fn := fun _ => fun
  | [d1, d2] => { results := [.lit (.bool true)], args := [d1, d2] }
  | _ => none }
def graphMaysRow : OpenClaim := { program := "ytafphfokopkhdaa", sum := "b8d1191e1f097cada9e4d2178c2486b68798b5352c276977adb4c2a85426f30b", func := "syntagma/syntagmalaw13.GraphMays", spec := "graphMays", unfollowed := true, recurses := true, plainKeys := false, apart := false }
def GraphMaysSaid : Prop := graphMaysRow.holds Try.pinned (OpenSpec.ofChange graphMaysSpec)

/-- ITS FALSE NEIGHBOUR: 'it returns false'. Refute it at one input. -/
def graphMaysWrong : ChangeSpec := { name := "graphMays", fn := fun _ => fun
  | [d1, d2] => { results := [.lit (.bool false)], args := [d1, d2] }
  | _ => none }
def GraphMaysWrongFalsely : Prop := graphMaysRow.holds Try.pinned (OpenSpec.ofChange graphMaysWrong)

/-- 'syntagmalaw13.GraphGrafts': WHATEVER THE INPUT: true; the input reads as it did. -/
def graphGraftsSpec : ChangeSpec := { name := "graphGrafts", fn := fun _ => fun
  | [d1, d2, d3] => { results := [.lit (.bool true)], args := [d1, d2, d3] }
  | _ => none }
def graphGraftsRow : OpenClaim := { program := "ytafphfokopkhdaa", sum := "b8d1191e1f097cada9e4d2178c2486b68798b5352c276977adb4c2a85426f30b", func := "syntagma/syntagmalaw13.GraphGrafts", spec := "graphGrafts", unfollowed := true, recurses := true, plainKeys := false, apart := false }
def GraphGraftsSaid : Prop := graphGraftsRow.holds Try.pinned (OpenSpec.ofChange graphGraftsSpec)

/-- ITS FALSE NEIGHBOUR: 'it returns false'. Refute it at one input. -/
def graphGraftsWrong : ChangeSpec := { name := "graphGrafts", fn := fun _ => fun
  | [d1, d2, d3] => { results := [.lit (.bool false)], args := [d1, d2, d3] }
  | _ => none }
def GraphGraftsWrongFalsely : Prop := graphGraftsRow.holds Try.pinned (OpenSpec.ofChange graphGraftsWrong)

/-- 'syntagmalaw13.GraphNorms': WHATEVER THE INPUT: true; the input reads as it did. -/
def graphNormsSpec : ChangeSpec := { name := "graphNorms", fn := fun _ => fun
  | [d1, d2, d3] => { results := [.lit (.bool true)], args := [d1, d2, d3] }
  | _ => none }
def graphNormsRow : OpenClaim := { program := "ytafphfokopkhdaa", sum := "b8d1191e1f097cada9e4d2178c2486b68798b5352c276977adb4c2a85426f30b", func := "syntagma/syntagmalaw13.GraphNorms", spec := "graphNorms", unfollowed := true, recurses := true, plainKeys := false, apart := false }
def GraphNormsSaid : Prop := graphNormsRow.holds Try.pinned (OpenSpec.ofChange graphNormsSpec)

/-- ITS FALSE NEIGHBOUR: 'it returns false'. Refute it at one input. -/
def graphNormsWrong : ChangeSpec := { name := "graphNorms", fn := fun _ => fun
  | [d1, d2, d3] => { results := [.lit (.bool false)], args := [d1, d2, d3] }
  | _ => none }
def GraphNormsWrongFalsely : Prop := graphNormsRow.holds Try.pinned (OpenSpec.ofChange graphNormsWrong)

/-- 'syntagmalaw13.GraphStays': WHATEVER THE INPUT: true; the input reads as it did. -/
def graphStaysSpec : ChangeSpec := { name := "graphStays", fn := fun _ => fun
  | [d1, d2] => { results := [.lit (.bool true)], args := [d1, d2] }
  | _ => none }
def graphStaysRow : OpenClaim := { program := "ytafphfokopkhdaa", sum := "b8d1191e1f097cada9e4d2178c2486b68798b5352c276977adb4c2a85426f30b", func := "syntagma/syntagmalaw13.GraphStays", spec := "graphStays", unfollowed := true, recurses := true, plainKeys := false, apart := false }
def GraphStaysSaid : Prop := graphStaysRow.holds Try.pinned (OpenSpec.ofChange graphStaysSpec)

/-- ITS FALSE NEIGHBOUR: 'it returns false'. Refute it at one input. -/
def graphStaysWrong : ChangeSpec := { name := "graphStays", fn := fun _ => fun
  | [d1, d2] => { results := [.lit (.bool false)], args := [d1, d2] }
  | _ => none }
def GraphStaysWrongFalsely : Prop := graphStaysRow.holds Try.pinned (OpenSpec.ofChange graphStaysWrong)

/-- 'syntagmalaw28.VarsTells': WHATEVER THE INPUT: true; the input reads as it did. -/
def varsTellsSpec : ChangeSpec := { name := "varsTells", fn := fun _ => fun
  | [d] => { results := [.lit (.bool true)], args := [d] }
  | _ => none }
def varsTellsRow : OpenClaim := { program := "ytafphfokopkhdaa", sum := "b8d1191e1f097cada9e4d2178c2486b68798b5352c276977adb4c2a85426f30b", func := "syntagma/syntagmalaw28.VarsTells", spec := "varsTells", unfollowed := true, recurses := true, plainKeys := false, apart := false }
def VarsTellsSaid : Prop := varsTellsRow.holds Try.pinned (OpenSpec.ofChange varsTellsSpec)

/-- ITS FALSE NEIGHBOUR: 'it returns false'. Refute it at one input. -/
def varsTellsWrong : ChangeSpec := { name := "varsTells", fn := fun _ => fun
  | [d] => { results := [.lit (.bool false)], args := [d] }
  | _ => none }
def VarsTellsWrongFalsely : Prop := varsTellsRow.holds Try.pinned (OpenSpec.ofChange varsTellsWrong)

/-- 'syntagmalaw20.StoreVoid': WHATEVER THE INPUT: true; the input reads as it did. -/
def storeVoidSpec : ChangeSpec := { name := "storeVoid", fn := fun _ => fun
  | [d1, d2, d3, d4] => { results := [.lit (.bool true)], args := [d1, d2, d3, d4] }
  | _ => none }
def storeVoidRow : OpenClaim := { program := "ytafphfokopkhdaa", sum := "b8d1191e1f097cada9e4d2178c2486b68798b5352c276977adb4c2a85426f30b", func := "syntagma/syntagmalaw20.StoreVoid", spec := "storeVoid", unfollowed := true, recurses := true, plainKeys := false, apart := false }
def StoreVoidSaid : Prop := storeVoidRow.holds Try.pinned (OpenSpec.ofChange storeVoidSpec)

/-- ITS FALSE NEIGHBOUR: 'it returns false'. Refute it at one input. -/
def storeVoidWrong : ChangeSpec := { name := "storeVoid", fn := fun _ => fun
  | [d1, d2, d3, d4] => { results := [.lit (.bool false)], args := [d1, d2, d3, d4] }
  | _ => none }
def StoreVoidWrongFalsely : Prop := storeVoidRow.holds Try.pinned (OpenSpec.ofChange storeVoidWrong)

/- THE SECOND FORM. 'bulk': how many values and letters a reading holds, each counted each time it is reached (what is shared counts as often as it is met; a slice's spare places count too). A statement '..UptoSaid' is the law's where the arguments, and the package variables that the reading takes, are together of bulk at most 1048576: NARROWER than '..Said'. Prove '..Said' where nothing that the law and all that it calls make is longer than what came in: it says more and counts as full. Else prove '..UptoSaid'. A law counts once. -/
mutual
def uptoBulk {H : Type} : DataW H → Nat
  | .lit (.string bytes) => bytes.length + 1
  | .lit _ => 1
  | .nil => 1
  | .ptr d => uptoBulk d + 1
  | .slice elems spare => uptoBulkAll elems + uptoBulkAll spare + 1
  | .agg parts => uptoBulkAll parts + 1
  | .iface _ d => uptoBulk d + 1
  | .map entries => uptoBulkEntries entries + 1
  | .held _ => 1
def uptoBulkAll {H : Type} : List (DataW H) → Nat
  | [] => 0
  | d :: r => uptoBulk d + uptoBulkAll r
def uptoBulkEntries {H : Type} : List (Lit × DataW H) → Nat
  | [] => 0
  | x :: r => uptoBulkEntry x + uptoBulkEntries r
def uptoBulkEntry {H : Type} : Lit × DataW H → Nat
  | (.string bytes, d) => bytes.length + uptoBulk d + 1
  | (_, d) => uptoBulk d + 1
 end
def uptoSmall : (H : Type) → List (DataW H) → Bool := fun _ ds => decide (uptoBulkAll ds ≤ 1048576)
def OpenSpec.upto (s : _root_.Go.ChangeSpec) : _root_.Go.OpenSpec := { _root_.Go.OpenSpec.ofChange s with cond := some uptoSmall }

/-- 'syntagmalaw18.QueuePlays', WHERE WHAT IT READS IS OF BULK AT MOST 1048576: true; the input reads as it did. -/
def queuePlaysUptoRow : OpenClaim := { program := "ytafphfokopkhdaa", sum := "b8d1191e1f097cada9e4d2178c2486b68798b5352c276977adb4c2a85426f30b", func := "syntagma/syntagmalaw18.QueuePlays", spec := "queuePlays", plainKeys := false, apart := false, narrowed := true }
def QueuePlaysUptoSaid : Prop := queuePlaysUptoRow.holds Try.pinned (OpenSpec.upto queuePlaysSpec)

/-- 'syntagmalaw18.QueueTexts', WHERE WHAT IT READS IS OF BULK AT MOST 1048576: true; the input reads as it did. -/
def queueTextsUptoRow : OpenClaim := { program := "ytafphfokopkhdaa", sum := "b8d1191e1f097cada9e4d2178c2486b68798b5352c276977adb4c2a85426f30b", func := "syntagma/syntagmalaw18.QueueTexts", spec := "queueTexts", plainKeys := false, apart := false, narrowed := true }
def QueueTextsUptoSaid : Prop := queueTextsUptoRow.holds Try.pinned (OpenSpec.upto queueTextsSpec)

/-- 'syntagmalaw18.QueueEither', WHERE WHAT IT READS IS OF BULK AT MOST 1048576: true; the input reads as it did. -/
def queueEitherUptoRow : OpenClaim := { program := "ytafphfokopkhdaa", sum := "b8d1191e1f097cada9e4d2178c2486b68798b5352c276977adb4c2a85426f30b", func := "syntagma/syntagmalaw18.QueueEither", spec := "queueEither", plainKeys := false, apart := false, narrowed := true }
def QueueEitherUptoSaid : Prop := queueEitherUptoRow.holds Try.pinned (OpenSpec.upto queueEitherSpec)

/-- 'syntagmalaw13.GraphMays', WHERE WHAT IT READS IS OF BULK AT MOST 1048576: true; the input reads as it did. -/
def graphMaysUptoRow : OpenClaim := { program := "ytafphfokopkhdaa", sum := "b8d1191e1f097cada9e4d2178c2486b68798b5352c276977adb4c2a85426f30b", func := "syntagma/syntagmalaw13.GraphMays", spec := "graphMays", unfollowed := true, recurses := true, plainKeys := false, apart := false, narrowed := true }
def GraphMaysUptoSaid : Prop := graphMaysUptoRow.holds Try.pinned (OpenSpec.upto graphMaysSpec)

/-- 'syntagmalaw13.GraphGrafts', WHERE WHAT IT READS IS OF BULK AT MOST 1048576: true; the input reads as it did. -/
def graphGraftsUptoRow : OpenClaim := { program := "ytafphfokopkhdaa", sum := "b8d1191e1f097cada9e4d2178c2486b68798b5352c276977adb4c2a85426f30b", func := "syntagma/syntagmalaw13.GraphGrafts", spec := "graphGrafts", unfollowed := true, recurses := true, plainKeys := false, apart := false, narrowed := true }
def GraphGraftsUptoSaid : Prop := graphGraftsUptoRow.holds Try.pinned (OpenSpec.upto graphGraftsSpec)

/-- 'syntagmalaw13.GraphNorms', WHERE WHAT IT READS IS OF BULK AT MOST 1048576: true; the input reads as it did. -/
def graphNormsUptoRow : OpenClaim := { program := "ytafphfokopkhdaa", sum := "b8d1191e1f097cada9e4d2178c2486b68798b5352c276977adb4c2a85426f30b", func := "syntagma/syntagmalaw13.GraphNorms", spec := "graphNorms", unfollowed := true, recurses := true, plainKeys := false, apart := false, narrowed := true }
def GraphNormsUptoSaid : Prop := graphNormsUptoRow.holds Try.pinned (OpenSpec.upto graphNormsSpec)

/-- 'syntagmalaw13.GraphStays', WHERE WHAT IT READS IS OF BULK AT MOST 1048576: true; the input reads as it did. -/
def graphStaysUptoRow : OpenClaim := { program := "ytafphfokopkhdaa", sum := "b8d1191e1f097cada9e4d2178c2486b68798b5352c276977adb4c2a85426f30b", func := "syntagma/syntagmalaw13.GraphStays", spec := "graphStays", unfollowed := true, recurses := true, plainKeys := false, apart := false, narrowed := true }
def GraphStaysUptoSaid : Prop := graphStaysUptoRow.holds Try.pinned (OpenSpec.upto graphStaysSpec)

/-- 'syntagmalaw28.VarsTells', WHERE WHAT IT READS IS OF BULK AT MOST 1048576: true; the input reads as it did. -/
def varsTellsUptoRow : OpenClaim := { program := "ytafphfokopkhdaa", sum := "b8d1191e1f097cada9e4d2178c2486b68798b5352c276977adb4c2a85426f30b", func := "syntagma/syntagmalaw28.VarsTells", spec := "varsTells", unfollowed := true, recurses := true, plainKeys := false, apart := false, narrowed := true }
def VarsTellsUptoSaid : Prop := varsTellsUptoRow.holds Try.pinned (OpenSpec.upto varsTellsSpec)

/-- 'syntagmalaw20.StoreVoid', WHERE WHAT IT READS IS OF BULK AT MOST 1048576: true; the input reads as it did. -/
def storeVoidUptoRow : OpenClaim := { program := "ytafphfokopkhdaa", sum := "b8d1191e1f097cada9e4d2178c2486b68798b5352c276977adb4c2a85426f30b", func := "syntagma/syntagmalaw20.StoreVoid", spec := "storeVoid", unfollowed := true, recurses := true, plainKeys := false, apart := false, narrowed := true }
def StoreVoidUptoSaid : Prop := storeVoidUptoRow.holds Try.pinned (OpenSpec.upto storeVoidSpec)

end Rows
end Go.Proofs.Ytafphfokopkhdaa
