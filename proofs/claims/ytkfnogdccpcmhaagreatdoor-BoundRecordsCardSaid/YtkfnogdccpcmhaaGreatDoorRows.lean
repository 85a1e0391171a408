/-
  NARROWER THAN 'FOR EVERY INPUT', by the rows' own cells (each row's printed sentence says how): BelowHolds: laid · NormJoins: laid · BelowTypes: laid · NormChains: laid · NormEnds: laid · BelowOrder: laid · BelowLattice: laid · BoundPuts: laid · BoundHolds: laid · BoundMakes: laid · BoundRecords: laid.
  DERIVED. THE GIVEN ROWS OF THIS SEAT. 11 by the template 'for every input the law returns true; each argument reads behind the call as it read before'; 0 by the template 'total and deterministic' (their statements: YtkfnogdccpcmhaaGreatDoorTotals.lean).
  GIVEN WITH THE SEED: the statements are not yours to turn. If you find one false, say at which input.
  Laid BY PROGRAM, IN A SANDBOX (cutbox-rows.mjs): the forced cells as the released guide's own fill.sh prints them over the translation 49c4f84fb95cca01… (all of the seat's roots in one cut). By AI agents, Wed Nov 11 2026. No macro, syntax, notation, axiom, sorry.
-/
import Derived.Test.YtkfnogdccpcmhaaGreatDoorChecked
import GoSem.Claim
import GoSem.ClaimJoined
import GoSem.ClaimMapViews
import Derived.JoinedTies
import Derived.KernelRfl
namespace Go.Proofs.YtkfnogdccpcmhaaGreatDoor
/- THE CELL 'sum', in the pinned program and in every row, IS THE sha256 OF THE DUMP (.gsa) THAT YtkfnogdccpcmhaaGreatDoorProg.lean LOADS. Nothing in Lean hashes anything: it is a label: what it is worth is what the hold of that sum in a sandbox is worth. -/
noncomputable def Tryz.pinned : Pinned := { name := "ytkfnogdccpcmhaagreatdoor", sum := "49c4f84fb95cca01368df76eff25e9f9fdd8ee67fd86afa53d4e6d0f4542dbba", checked := Tryz.checked }
namespace Rows
def none {H : Type} : Left H := { results := [], args := [] }

/- WHAT THE LISTED PACKAGE-LEVEL VARIABLES READ AS WHEN THE CALL BEGINS. Each datum BY PROGRAM (the guide's laid-datum.mjs) off the statement by which the dump's own 'gosem.cut.vars' lays the variable. In a bare row this is a premise. The card (YtkfnogdccpcmhaaGreatDoorCards.lean) ties it to the program's text. -/
def laid_math_bits_deBruijn32tab {H : Type} : DataW H := .agg [.lit (.int .u8 0), .lit (.int .u8 1), .lit (.int .u8 28), .lit (.int .u8 2), .lit (.int .u8 29), .lit (.int .u8 14), .lit (.int .u8 24), .lit (.int .u8 3), .lit (.int .u8 30), .lit (.int .u8 22), .lit (.int .u8 20), .lit (.int .u8 15), .lit (.int .u8 25), .lit (.int .u8 17), .lit (.int .u8 4), .lit (.int .u8 8), .lit (.int .u8 31), .lit (.int .u8 27), .lit (.int .u8 13), .lit (.int .u8 23), .lit (.int .u8 21), .lit (.int .u8 19), .lit (.int .u8 16), .lit (.int .u8 7), .lit (.int .u8 26), .lit (.int .u8 12), .lit (.int .u8 18), .lit (.int .u8 6), .lit (.int .u8 11), .lit (.int .u8 5), .lit (.int .u8 10), .lit (.int .u8 9)]
def laid_math_bits_deBruijn64tab {H : Type} : DataW H := .agg [.lit (.int .u8 0), .lit (.int .u8 1), .lit (.int .u8 56), .lit (.int .u8 2), .lit (.int .u8 57), .lit (.int .u8 49), .lit (.int .u8 28), .lit (.int .u8 3), .lit (.int .u8 61), .lit (.int .u8 58), .lit (.int .u8 42), .lit (.int .u8 50), .lit (.int .u8 38), .lit (.int .u8 29), .lit (.int .u8 17), .lit (.int .u8 4), .lit (.int .u8 62), .lit (.int .u8 47), .lit (.int .u8 59), .lit (.int .u8 36), .lit (.int .u8 45), .lit (.int .u8 43), .lit (.int .u8 51), .lit (.int .u8 22), .lit (.int .u8 53), .lit (.int .u8 39), .lit (.int .u8 33), .lit (.int .u8 30), .lit (.int .u8 24), .lit (.int .u8 18), .lit (.int .u8 12), .lit (.int .u8 5), .lit (.int .u8 63), .lit (.int .u8 55), .lit (.int .u8 48), .lit (.int .u8 27), .lit (.int .u8 60), .lit (.int .u8 41), .lit (.int .u8 37), .lit (.int .u8 16), .lit (.int .u8 46), .lit (.int .u8 35), .lit (.int .u8 44), .lit (.int .u8 21), .lit (.int .u8 52), .lit (.int .u8 32), .lit (.int .u8 23), .lit (.int .u8 11), .lit (.int .u8 54), .lit (.int .u8 26), .lit (.int .u8 40), .lit (.int .u8 15), .lit (.int .u8 34), .lit (.int .u8 20), .lit (.int .u8 31), .lit (.int .u8 10), .lit (.int .u8 25), .lit (.int .u8 14), .lit (.int .u8 19), .lit (.int .u8 9), .lit (.int .u8 13), .lit (.int .u8 8), .lit (.int .u8 7), .lit (.int .u8 6)]
def laid_internal_strconv_uint64pow10 {H : Type} : DataW H := .agg [.lit (.int .u64 1), .lit (.int .u64 10), .lit (.int .u64 100), .lit (.int .u64 1000), .lit (.int .u64 10000), .lit (.int .u64 100000), .lit (.int .u64 1000000), .lit (.int .u64 10000000), .lit (.int .u64 100000000), .lit (.int .u64 1000000000), .lit (.int .u64 10000000000), .lit (.int .u64 100000000000), .lit (.int .u64 1000000000000), .lit (.int .u64 10000000000000), .lit (.int .u64 100000000000000), .lit (.int .u64 1000000000000000), .lit (.int .u64 10000000000000000), .lit (.int .u64 100000000000000000), .lit (.int .u64 1000000000000000000), .lit (.int .u64 10000000000000000000)]

/-- 'syntagmalaw15.BelowHolds': WHATEVER THE INPUT: true; the input reads as it did. -/
def belowHoldsSpec : ChangeSpec := { name := "belowHolds", fn := fun _ => fun
  | [d1, d2, d3] => { results := [.lit (.bool true)], args := [d1, d2, d3] }
  | _ => none }
def belowHoldsRow : OpenClaim := { program := "ytkfnogdccpcmhaagreatdoor", sum := "49c4f84fb95cca01368df76eff25e9f9fdd8ee67fd86afa53d4e6d0f4542dbba", func := "syntagma/syntagmalaw15.BelowHolds", spec := "belowHolds", inPlace := ["internal/abi.NoEscape", "internal/bytealg.MakeNoZero"], unfollowed := true, recurses := true, named := ["internal/strconv.uint64pow10", "math/bits.deBruijn32tab", "math/bits.deBruijn64tab"], apart := false, laid := [("math/bits.deBruijn32tab", laid_math_bits_deBruijn32tab), ("math/bits.deBruijn64tab", laid_math_bits_deBruijn64tab), ("internal/strconv.uint64pow10", laid_internal_strconv_uint64pow10)] }
def BelowHoldsSaid : Prop := belowHoldsRow.holds Tryz.pinned (OpenSpec.ofChange belowHoldsSpec)

/-- ITS FALSE NEIGHBOUR: 'it returns false'. Refute it at one input. -/
def belowHoldsWrong : ChangeSpec := { name := "belowHolds", fn := fun _ => fun
  | [d1, d2, d3] => { results := [.lit (.bool false)], args := [d1, d2, d3] }
  | _ => none }
def BelowHoldsWrongFalsely : Prop := belowHoldsRow.holds Tryz.pinned (OpenSpec.ofChange belowHoldsWrong)

/-- 'syntagmalaw39.NormJoins': WHATEVER THE INPUT: true; the input reads as it did. -/
def normJoinsSpec : ChangeSpec := { name := "normJoins", fn := fun _ => fun
  | [d1, d2, d3] => { results := [.lit (.bool true)], args := [d1, d2, d3] }
  | _ => none }
def normJoinsRow : OpenClaim := { program := "ytkfnogdccpcmhaagreatdoor", sum := "49c4f84fb95cca01368df76eff25e9f9fdd8ee67fd86afa53d4e6d0f4542dbba", func := "syntagma/syntagmalaw39.NormJoins", spec := "normJoins", inPlace := ["internal/abi.NoEscape", "internal/bytealg.MakeNoZero"], unfollowed := true, recurses := true, named := ["internal/strconv.uint64pow10", "math/bits.deBruijn32tab", "math/bits.deBruijn64tab"], apart := false, laid := [("math/bits.deBruijn32tab", laid_math_bits_deBruijn32tab), ("math/bits.deBruijn64tab", laid_math_bits_deBruijn64tab), ("internal/strconv.uint64pow10", laid_internal_strconv_uint64pow10)] }
def NormJoinsSaid : Prop := normJoinsRow.holds Tryz.pinned (OpenSpec.ofChange normJoinsSpec)

/-- ITS FALSE NEIGHBOUR: 'it returns false'. Refute it at one input. -/
def normJoinsWrong : ChangeSpec := { name := "normJoins", fn := fun _ => fun
  | [d1, d2, d3] => { results := [.lit (.bool false)], args := [d1, d2, d3] }
  | _ => none }
def NormJoinsWrongFalsely : Prop := normJoinsRow.holds Tryz.pinned (OpenSpec.ofChange normJoinsWrong)

/-- 'syntagmalaw15.BelowTypes': WHATEVER THE INPUT: true; the input reads as it did. -/
def belowTypesSpec : ChangeSpec := { name := "belowTypes", fn := fun _ => fun
  | [d1, d2] => { results := [.lit (.bool true)], args := [d1, d2] }
  | _ => none }
def belowTypesRow : OpenClaim := { program := "ytkfnogdccpcmhaagreatdoor", sum := "49c4f84fb95cca01368df76eff25e9f9fdd8ee67fd86afa53d4e6d0f4542dbba", func := "syntagma/syntagmalaw15.BelowTypes", spec := "belowTypes", inPlace := ["internal/abi.NoEscape", "internal/bytealg.MakeNoZero"], unfollowed := true, recurses := true, named := ["internal/strconv.uint64pow10", "math/bits.deBruijn32tab", "math/bits.deBruijn64tab"], apart := false, laid := [("math/bits.deBruijn32tab", laid_math_bits_deBruijn32tab), ("math/bits.deBruijn64tab", laid_math_bits_deBruijn64tab), ("internal/strconv.uint64pow10", laid_internal_strconv_uint64pow10)] }
def BelowTypesSaid : Prop := belowTypesRow.holds Tryz.pinned (OpenSpec.ofChange belowTypesSpec)

/-- ITS FALSE NEIGHBOUR: 'it returns false'. Refute it at one input. -/
def belowTypesWrong : ChangeSpec := { name := "belowTypes", fn := fun _ => fun
  | [d1, d2] => { results := [.lit (.bool false)], args := [d1, d2] }
  | _ => none }
def BelowTypesWrongFalsely : Prop := belowTypesRow.holds Tryz.pinned (OpenSpec.ofChange belowTypesWrong)

/-- 'syntagmalaw39.NormChains': WHATEVER THE INPUT: true; the input reads as it did. -/
def normChainsSpec : ChangeSpec := { name := "normChains", fn := fun _ => fun
  | [d1, d2] => { results := [.lit (.bool true)], args := [d1, d2] }
  | _ => none }
def normChainsRow : OpenClaim := { program := "ytkfnogdccpcmhaagreatdoor", sum := "49c4f84fb95cca01368df76eff25e9f9fdd8ee67fd86afa53d4e6d0f4542dbba", func := "syntagma/syntagmalaw39.NormChains", spec := "normChains", inPlace := ["internal/abi.NoEscape", "internal/bytealg.MakeNoZero"], unfollowed := true, recurses := true, named := ["internal/strconv.uint64pow10", "math/bits.deBruijn32tab", "math/bits.deBruijn64tab"], apart := false, laid := [("math/bits.deBruijn32tab", laid_math_bits_deBruijn32tab), ("math/bits.deBruijn64tab", laid_math_bits_deBruijn64tab), ("internal/strconv.uint64pow10", laid_internal_strconv_uint64pow10)] }
def NormChainsSaid : Prop := normChainsRow.holds Tryz.pinned (OpenSpec.ofChange normChainsSpec)

/-- ITS FALSE NEIGHBOUR: 'it returns false'. Refute it at one input. -/
def normChainsWrong : ChangeSpec := { name := "normChains", fn := fun _ => fun
  | [d1, d2] => { results := [.lit (.bool false)], args := [d1, d2] }
  | _ => none }
def NormChainsWrongFalsely : Prop := normChainsRow.holds Tryz.pinned (OpenSpec.ofChange normChainsWrong)

/-- 'syntagmalaw39.NormEnds': WHATEVER THE INPUT: true; the input reads as it did. -/
def normEndsSpec : ChangeSpec := { name := "normEnds", fn := fun _ => fun
  | [d1, d2] => { results := [.lit (.bool true)], args := [d1, d2] }
  | _ => none }
def normEndsRow : OpenClaim := { program := "ytkfnogdccpcmhaagreatdoor", sum := "49c4f84fb95cca01368df76eff25e9f9fdd8ee67fd86afa53d4e6d0f4542dbba", func := "syntagma/syntagmalaw39.NormEnds", spec := "normEnds", inPlace := ["internal/abi.NoEscape", "internal/bytealg.MakeNoZero"], unfollowed := true, recurses := true, named := ["internal/strconv.uint64pow10", "math/bits.deBruijn32tab", "math/bits.deBruijn64tab"], apart := false, laid := [("math/bits.deBruijn32tab", laid_math_bits_deBruijn32tab), ("math/bits.deBruijn64tab", laid_math_bits_deBruijn64tab), ("internal/strconv.uint64pow10", laid_internal_strconv_uint64pow10)] }
def NormEndsSaid : Prop := normEndsRow.holds Tryz.pinned (OpenSpec.ofChange normEndsSpec)

/-- ITS FALSE NEIGHBOUR: 'it returns false'. Refute it at one input. -/
def normEndsWrong : ChangeSpec := { name := "normEnds", fn := fun _ => fun
  | [d1, d2] => { results := [.lit (.bool false)], args := [d1, d2] }
  | _ => none }
def NormEndsWrongFalsely : Prop := normEndsRow.holds Tryz.pinned (OpenSpec.ofChange normEndsWrong)

/-- 'syntagmalaw15.BelowOrder': WHATEVER THE INPUT: true; the input reads as it did. -/
def belowOrderSpec : ChangeSpec := { name := "belowOrder", fn := fun _ => fun
  | [d1, d2, d3] => { results := [.lit (.bool true)], args := [d1, d2, d3] }
  | _ => none }
def belowOrderRow : OpenClaim := { program := "ytkfnogdccpcmhaagreatdoor", sum := "49c4f84fb95cca01368df76eff25e9f9fdd8ee67fd86afa53d4e6d0f4542dbba", func := "syntagma/syntagmalaw15.BelowOrder", spec := "belowOrder", inPlace := ["internal/abi.NoEscape", "internal/bytealg.MakeNoZero"], unfollowed := true, recurses := true, named := ["internal/strconv.uint64pow10", "math/bits.deBruijn32tab", "math/bits.deBruijn64tab"], apart := false, laid := [("math/bits.deBruijn32tab", laid_math_bits_deBruijn32tab), ("math/bits.deBruijn64tab", laid_math_bits_deBruijn64tab), ("internal/strconv.uint64pow10", laid_internal_strconv_uint64pow10)] }
def BelowOrderSaid : Prop := belowOrderRow.holds Tryz.pinned (OpenSpec.ofChange belowOrderSpec)

/-- ITS FALSE NEIGHBOUR: 'it returns false'. Refute it at one input. -/
def belowOrderWrong : ChangeSpec := { name := "belowOrder", fn := fun _ => fun
  | [d1, d2, d3] => { results := [.lit (.bool false)], args := [d1, d2, d3] }
  | _ => none }
def BelowOrderWrongFalsely : Prop := belowOrderRow.holds Tryz.pinned (OpenSpec.ofChange belowOrderWrong)

/-- 'syntagmalaw15.BelowLattice': WHATEVER THE INPUT: true; the input reads as it did. -/
def belowLatticeSpec : ChangeSpec := { name := "belowLattice", fn := fun _ => fun
  | [d1, d2, d3] => { results := [.lit (.bool true)], args := [d1, d2, d3] }
  | _ => none }
def belowLatticeRow : OpenClaim := { program := "ytkfnogdccpcmhaagreatdoor", sum := "49c4f84fb95cca01368df76eff25e9f9fdd8ee67fd86afa53d4e6d0f4542dbba", func := "syntagma/syntagmalaw15.BelowLattice", spec := "belowLattice", inPlace := ["internal/abi.NoEscape", "internal/bytealg.MakeNoZero"], unfollowed := true, recurses := true, named := ["internal/strconv.uint64pow10", "math/bits.deBruijn32tab", "math/bits.deBruijn64tab"], apart := false, laid := [("math/bits.deBruijn32tab", laid_math_bits_deBruijn32tab), ("math/bits.deBruijn64tab", laid_math_bits_deBruijn64tab), ("internal/strconv.uint64pow10", laid_internal_strconv_uint64pow10)] }
def BelowLatticeSaid : Prop := belowLatticeRow.holds Tryz.pinned (OpenSpec.ofChange belowLatticeSpec)

/-- ITS FALSE NEIGHBOUR: 'it returns false'. Refute it at one input. -/
def belowLatticeWrong : ChangeSpec := { name := "belowLattice", fn := fun _ => fun
  | [d1, d2, d3] => { results := [.lit (.bool false)], args := [d1, d2, d3] }
  | _ => none }
def BelowLatticeWrongFalsely : Prop := belowLatticeRow.holds Tryz.pinned (OpenSpec.ofChange belowLatticeWrong)

/-- 'syntagmalaw16.BoundPuts': WHATEVER THE INPUT: true; the input reads as it did. -/
def boundPutsSpec : ChangeSpec := { name := "boundPuts", fn := fun _ => fun
  | [d1, d2] => { results := [.lit (.bool true)], args := [d1, d2] }
  | _ => none }
def boundPutsRow : OpenClaim := { program := "ytkfnogdccpcmhaagreatdoor", sum := "49c4f84fb95cca01368df76eff25e9f9fdd8ee67fd86afa53d4e6d0f4542dbba", func := "syntagma/syntagmalaw16.BoundPuts", spec := "boundPuts", inPlace := ["internal/abi.NoEscape", "internal/bytealg.MakeNoZero"], unfollowed := true, recurses := true, named := ["internal/strconv.uint64pow10", "math/bits.deBruijn32tab", "math/bits.deBruijn64tab"], apart := false, laid := [("math/bits.deBruijn32tab", laid_math_bits_deBruijn32tab), ("math/bits.deBruijn64tab", laid_math_bits_deBruijn64tab), ("internal/strconv.uint64pow10", laid_internal_strconv_uint64pow10)] }
def BoundPutsSaid : Prop := boundPutsRow.holds Tryz.pinned (OpenSpec.ofChange boundPutsSpec)

/-- ITS FALSE NEIGHBOUR: 'it returns false'. Refute it at one input. -/
def boundPutsWrong : ChangeSpec := { name := "boundPuts", fn := fun _ => fun
  | [d1, d2] => { results := [.lit (.bool false)], args := [d1, d2] }
  | _ => none }
def BoundPutsWrongFalsely : Prop := boundPutsRow.holds Tryz.pinned (OpenSpec.ofChange boundPutsWrong)

/-- 'syntagmalaw16.BoundHolds': WHATEVER THE INPUT: true; the input reads as it did. -/
def boundHoldsSpec : ChangeSpec := { name := "boundHolds", fn := fun _ => fun
  | [d1, d2, d3] => { results := [.lit (.bool true)], args := [d1, d2, d3] }
  | _ => none }
def boundHoldsRow : OpenClaim := { program := "ytkfnogdccpcmhaagreatdoor", sum := "49c4f84fb95cca01368df76eff25e9f9fdd8ee67fd86afa53d4e6d0f4542dbba", func := "syntagma/syntagmalaw16.BoundHolds", spec := "boundHolds", inPlace := ["internal/abi.NoEscape", "internal/bytealg.MakeNoZero"], unfollowed := true, recurses := true, named := ["internal/strconv.uint64pow10", "math/bits.deBruijn32tab", "math/bits.deBruijn64tab"], apart := false, laid := [("math/bits.deBruijn32tab", laid_math_bits_deBruijn32tab), ("math/bits.deBruijn64tab", laid_math_bits_deBruijn64tab), ("internal/strconv.uint64pow10", laid_internal_strconv_uint64pow10)] }
def BoundHoldsSaid : Prop := boundHoldsRow.holds Tryz.pinned (OpenSpec.ofChange boundHoldsSpec)

/-- ITS FALSE NEIGHBOUR: 'it returns false'. Refute it at one input. -/
def boundHoldsWrong : ChangeSpec := { name := "boundHolds", fn := fun _ => fun
  | [d1, d2, d3] => { results := [.lit (.bool false)], args := [d1, d2, d3] }
  | _ => none }
def BoundHoldsWrongFalsely : Prop := boundHoldsRow.holds Tryz.pinned (OpenSpec.ofChange boundHoldsWrong)

/-- 'syntagmalaw16.BoundMakes': WHATEVER THE INPUT: true; the input reads as it did. -/
def boundMakesSpec : ChangeSpec := { name := "boundMakes", fn := fun _ => fun
  | [d] => { results := [.lit (.bool true)], args := [d] }
  | _ => none }
def boundMakesRow : OpenClaim := { program := "ytkfnogdccpcmhaagreatdoor", sum := "49c4f84fb95cca01368df76eff25e9f9fdd8ee67fd86afa53d4e6d0f4542dbba", func := "syntagma/syntagmalaw16.BoundMakes", spec := "boundMakes", inPlace := ["internal/abi.NoEscape", "internal/bytealg.MakeNoZero"], unfollowed := true, recurses := true, named := ["internal/strconv.uint64pow10", "math/bits.deBruijn32tab", "math/bits.deBruijn64tab"], apart := false, laid := [("math/bits.deBruijn32tab", laid_math_bits_deBruijn32tab), ("math/bits.deBruijn64tab", laid_math_bits_deBruijn64tab), ("internal/strconv.uint64pow10", laid_internal_strconv_uint64pow10)] }
def BoundMakesSaid : Prop := boundMakesRow.holds Tryz.pinned (OpenSpec.ofChange boundMakesSpec)

/-- ITS FALSE NEIGHBOUR: 'it returns false'. Refute it at one input. -/
def boundMakesWrong : ChangeSpec := { name := "boundMakes", fn := fun _ => fun
  | [d] => { results := [.lit (.bool false)], args := [d] }
  | _ => none }
def BoundMakesWrongFalsely : Prop := boundMakesRow.holds Tryz.pinned (OpenSpec.ofChange boundMakesWrong)

/-- 'syntagmalaw16.BoundRecords': WHATEVER THE INPUT: true; the input reads as it did. -/
def boundRecordsSpec : ChangeSpec := { name := "boundRecords", fn := fun _ => fun
  | [d1, d2] => { results := [.lit (.bool true)], args := [d1, d2] }
  | _ => none }
def boundRecordsRow : OpenClaim := { program := "ytkfnogdccpcmhaagreatdoor", sum := "49c4f84fb95cca01368df76eff25e9f9fdd8ee67fd86afa53d4e6d0f4542dbba", func := "syntagma/syntagmalaw16.BoundRecords", spec := "boundRecords", inPlace := ["internal/abi.NoEscape", "internal/bytealg.MakeNoZero"], unfollowed := true, recurses := true, named := ["internal/strconv.uint64pow10", "math/bits.deBruijn32tab", "math/bits.deBruijn64tab"], apart := false, laid := [("math/bits.deBruijn32tab", laid_math_bits_deBruijn32tab), ("math/bits.deBruijn64tab", laid_math_bits_deBruijn64tab), ("internal/strconv.uint64pow10", laid_internal_strconv_uint64pow10)] }
def BoundRecordsSaid : Prop := boundRecordsRow.holds Tryz.pinned (OpenSpec.ofChange boundRecordsSpec)

/-- ITS FALSE NEIGHBOUR: 'it returns false'. Refute it at one input. -/
def boundRecordsWrong : ChangeSpec := { name := "boundRecords", fn := fun _ => fun
  | [d1, d2] => { results := [.lit (.bool false)], args := [d1, d2] }
  | _ => none }
def BoundRecordsWrongFalsely : Prop := boundRecordsRow.holds Tryz.pinned (OpenSpec.ofChange boundRecordsWrong)

/- THE SECOND FORM. 'bulk': how many values and letters a reading holds, each counted each time it is reached (what is shared counts as often as it is met; a slice's spare places count too). A statement '..UptoSaid' is the law's where the arguments, and the package variables that the reading takes, are together of bulk at most 1048576: NARROWER than '..Said'. Prove '..Said' where nothing that the law and all that it calls make is longer than what came in: it says more and counts as full. Else prove '..UptoSaid'. A law counts once. -/
mutual
def uptoBulk {H : Type} : DataW H → Nat
  | .lit (.string bytes) => bytes.length + 1
  | .lit _ => 1
  | .nil => 1
  | .ptr d => uptoBulk d + 1
  | .slice elems spare => uptoBulkAll elems + uptoBulkAll spare + 1
  | .agg parts => uptoBulkAll parts + 1
  | .iface _ d => uptoBulk d + 1
  | .map entries => uptoBulkEntries entries + 1
  | .held _ => 1
def uptoBulkAll {H : Type} : List (DataW H) → Nat
  | [] => 0
  | d :: r => uptoBulk d + uptoBulkAll r
def uptoBulkEntries {H : Type} : List (Lit × DataW H) → Nat
  | [] => 0
  | x :: r => uptoBulkEntry x + uptoBulkEntries r
def uptoBulkEntry {H : Type} : Lit × DataW H → Nat
  | (.string bytes, d) => bytes.length + uptoBulk d + 1
  | (_, d) => uptoBulk d + 1
 end
def uptoSmall : (H : Type) → List (DataW H) → Bool := fun _ ds => decide (uptoBulkAll ds ≤ 1048576)
def OpenSpec.upto (s : _root_.Go.ChangeSpec) : _root_.Go.OpenSpec := { _root_.Go.OpenSpec.ofChange s with cond := some uptoSmall }

/-- 'syntagmalaw15.BelowHolds', WHERE WHAT IT READS IS OF BULK AT MOST 1048576: true; the input reads as it did. -/
def belowHoldsUptoRow : OpenClaim := { program := "ytkfnogdccpcmhaagreatdoor", sum := "49c4f84fb95cca01368df76eff25e9f9fdd8ee67fd86afa53d4e6d0f4542dbba", func := "syntagma/syntagmalaw15.BelowHolds", spec := "belowHolds", inPlace := ["internal/abi.NoEscape", "internal/bytealg.MakeNoZero"], unfollowed := true, recurses := true, named := ["internal/strconv.uint64pow10", "math/bits.deBruijn32tab", "math/bits.deBruijn64tab"], apart := false, laid := [("math/bits.deBruijn32tab", laid_math_bits_deBruijn32tab), ("math/bits.deBruijn64tab", laid_math_bits_deBruijn64tab), ("internal/strconv.uint64pow10", laid_internal_strconv_uint64pow10)], narrowed := true }
def BelowHoldsUptoSaid : Prop := belowHoldsUptoRow.holds Tryz.pinned (OpenSpec.upto belowHoldsSpec)

/-- 'syntagmalaw39.NormJoins', WHERE WHAT IT READS IS OF BULK AT MOST 1048576: true; the input reads as it did. -/
def normJoinsUptoRow : OpenClaim := { program := "ytkfnogdccpcmhaagreatdoor", sum := "49c4f84fb95cca01368df76eff25e9f9fdd8ee67fd86afa53d4e6d0f4542dbba", func := "syntagma/syntagmalaw39.NormJoins", spec := "normJoins", inPlace := ["internal/abi.NoEscape", "internal/bytealg.MakeNoZero"], unfollowed := true, recurses := true, named := ["internal/strconv.uint64pow10", "math/bits.deBruijn32tab", "math/bits.deBruijn64tab"], apart := false, laid := [("math/bits.deBruijn32tab", laid_math_bits_deBruijn32tab), ("math/bits.deBruijn64tab", laid_math_bits_deBruijn64tab), ("internal/strconv.uint64pow10", laid_internal_strconv_uint64pow10)], narrowed := true }
def NormJoinsUptoSaid : Prop := normJoinsUptoRow.holds Tryz.pinned (OpenSpec.upto normJoinsSpec)

/-- 'syntagmalaw15.BelowTypes', WHERE WHAT IT READS IS OF BULK AT MOST 1048576: true; the input reads as it did. -/
def belowTypesUptoRow : OpenClaim := { program := "ytkfnogdccpcmhaagreatdoor", sum := "49c4f84fb95cca01368df76eff25e9f9fdd8ee67fd86afa53d4e6d0f4542dbba", func := "syntagma/syntagmalaw15.BelowTypes", spec := "belowTypes", inPlace := ["internal/abi.NoEscape", "internal/bytealg.MakeNoZero"], unfollowed := true, recurses := true, named := ["internal/strconv.uint64pow10", "math/bits.deBruijn32tab", "math/bits.deBruijn64tab"], apart := false, laid := [("math/bits.deBruijn32tab", laid_math_bits_deBruijn32tab), ("math/bits.deBruijn64tab", laid_math_bits_deBruijn64tab), ("internal/strconv.uint64pow10", laid_internal_strconv_uint64pow10)], narrowed := true }
def BelowTypesUptoSaid : Prop := belowTypesUptoRow.holds Tryz.pinned (OpenSpec.upto belowTypesSpec)

/-- 'syntagmalaw39.NormChains', WHERE WHAT IT READS IS OF BULK AT MOST 1048576: true; the input reads as it did. -/
def normChainsUptoRow : OpenClaim := { program := "ytkfnogdccpcmhaagreatdoor", sum := "49c4f84fb95cca01368df76eff25e9f9fdd8ee67fd86afa53d4e6d0f4542dbba", func := "syntagma/syntagmalaw39.NormChains", spec := "normChains", inPlace := ["internal/abi.NoEscape", "internal/bytealg.MakeNoZero"], unfollowed := true, recurses := true, named := ["internal/strconv.uint64pow10", "math/bits.deBruijn32tab", "math/bits.deBruijn64tab"], apart := false, laid := [("math/bits.deBruijn32tab", laid_math_bits_deBruijn32tab), ("math/bits.deBruijn64tab", laid_math_bits_deBruijn64tab), ("internal/strconv.uint64pow10", laid_internal_strconv_uint64pow10)], narrowed := true }
def NormChainsUptoSaid : Prop := normChainsUptoRow.holds Tryz.pinned (OpenSpec.upto normChainsSpec)

/-- 'syntagmalaw39.NormEnds', WHERE WHAT IT READS IS OF BULK AT MOST 1048576: true; the input reads as it did. -/
def normEndsUptoRow : OpenClaim := { program := "ytkfnogdccpcmhaagreatdoor", sum := "49c4f84fb95cca01368df76eff25e9f9fdd8ee67fd86afa53d4e6d0f4542dbba", func := "syntagma/syntagmalaw39.NormEnds", spec := "normEnds", inPlace := ["internal/abi.NoEscape", "internal/bytealg.MakeNoZero"], unfollowed := true, recurses := true, named := ["internal/strconv.uint64pow10", "math/bits.deBruijn32tab", "math/bits.deBruijn64tab"], apart := false, laid := [("math/bits.deBruijn32tab", laid_math_bits_deBruijn32tab), ("math/bits.deBruijn64tab", laid_math_bits_deBruijn64tab), ("internal/strconv.uint64pow10", laid_internal_strconv_uint64pow10)], narrowed := true }
def NormEndsUptoSaid : Prop := normEndsUptoRow.holds Tryz.pinned (OpenSpec.upto normEndsSpec)

/-- 'syntagmalaw15.BelowOrder', WHERE WHAT IT READS IS OF BULK AT MOST 1048576: true; the input reads as it did. -/
def belowOrderUptoRow : OpenClaim := { program := "ytkfnogdccpcmhaagreatdoor", sum := "49c4f84fb95cca01368df76eff25e9f9fdd8ee67fd86afa53d4e6d0f4542dbba", func := "syntagma/syntagmalaw15.BelowOrder", spec := "belowOrder", inPlace := ["internal/abi.NoEscape", "internal/bytealg.MakeNoZero"], unfollowed := true, recurses := true, named := ["internal/strconv.uint64pow10", "math/bits.deBruijn32tab", "math/bits.deBruijn64tab"], apart := false, laid := [("math/bits.deBruijn32tab", laid_math_bits_deBruijn32tab), ("math/bits.deBruijn64tab", laid_math_bits_deBruijn64tab), ("internal/strconv.uint64pow10", laid_internal_strconv_uint64pow10)], narrowed := true }
def BelowOrderUptoSaid : Prop := belowOrderUptoRow.holds Tryz.pinned (OpenSpec.upto belowOrderSpec)

/-- 'syntagmalaw15.BelowLattice', WHERE WHAT IT READS IS OF BULK AT MOST 1048576: true; the input reads as it did. -/
def belowLatticeUptoRow : OpenClaim := { program := "ytkfnogdccpcmhaagreatdoor", sum := "49c4f84fb95cca01368df76eff25e9f9fdd8ee67fd86afa53d4e6d0f4542dbba", func := "syntagma/syntagmalaw15.BelowLattice", spec := "belowLattice", inPlace := ["internal/abi.NoEscape", "internal/bytealg.MakeNoZero"], unfollowed := true, recurses := true, named := ["internal/strconv.uint64pow10", "math/bits.deBruijn32tab", "math/bits.deBruijn64tab"], apart := false, laid := [("math/bits.deBruijn32tab", laid_math_bits_deBruijn32tab), ("math/bits.deBruijn64tab", laid_math_bits_deBruijn64tab), ("internal/strconv.uint64pow10", laid_internal_strconv_uint64pow10)], narrowed := true }
def BelowLatticeUptoSaid : Prop := belowLatticeUptoRow.holds Tryz.pinned (OpenSpec.upto belowLatticeSpec)

/-- 'syntagmalaw16.BoundPuts', WHERE WHAT IT READS IS OF BULK AT MOST 1048576: true; the input reads as it did. -/
def boundPutsUptoRow : OpenClaim := { program := "ytkfnogdccpcmhaagreatdoor", sum := "49c4f84fb95cca01368df76eff25e9f9fdd8ee67fd86afa53d4e6d0f4542dbba", func := "syntagma/syntagmalaw16.BoundPuts", spec := "boundPuts", inPlace := ["internal/abi.NoEscape", "internal/bytealg.MakeNoZero"], unfollowed := true, recurses := true, named := ["internal/strconv.uint64pow10", "math/bits.deBruijn32tab", "math/bits.deBruijn64tab"], apart := false, laid := [("math/bits.deBruijn32tab", laid_math_bits_deBruijn32tab), ("math/bits.deBruijn64tab", laid_math_bits_deBruijn64tab), ("internal/strconv.uint64pow10", laid_internal_strconv_uint64pow10)], narrowed := true }
def BoundPutsUptoSaid : Prop := boundPutsUptoRow.holds Tryz.pinned (OpenSpec.upto boundPutsSpec)

/-- 'syntagmalaw16.BoundHolds', WHERE WHAT IT READS IS OF BULK AT MOST 1048576: true; the input reads as it did. -/
def boundHoldsUptoRow : OpenClaim := { program := "ytkfnogdccpcmhaagreatdoor", sum := "49c4f84fb95cca01368df76eff25e9f9fdd8ee67fd86afa53d4e6d0f4542dbba", func := "syntagma/syntagmalaw16.BoundHolds", spec := "boundHolds", inPlace := ["internal/abi.NoEscape", "internal/bytealg.MakeNoZero"], unfollowed := true, recurses := true, named := ["internal/strconv.uint64pow10", "math/bits.deBruijn32tab", "math/bits.deBruijn64tab"], apart := false, laid := [("math/bits.deBruijn32tab", laid_math_bits_deBruijn32tab), ("math/bits.deBruijn64tab", laid_math_bits_deBruijn64tab), ("internal/strconv.uint64pow10", laid_internal_strconv_uint64pow10)], narrowed := true }
def BoundHoldsUptoSaid : Prop := boundHoldsUptoRow.holds Tryz.pinned (OpenSpec.upto boundHoldsSpec)

/-- 'syntagmalaw16.BoundMakes', WHERE WHAT IT READS IS OF BULK AT MOST 1048576: true; the input reads as it did. -/
def boundMakesUptoRow : OpenClaim := { program := "ytkfnogdccpcmhaagreatdoor", sum := "49c4f84fb95cca01368df76eff25e9f9fdd8ee67fd86afa53d4e6d0f4542dbba", func := "syntagma/syntagmalaw16.BoundMakes", spec := "boundMakes", inPlace := ["internal/abi.NoEscape", "internal/bytealg.MakeNoZero"], unfollowed := true, recurses := true, named := ["internal/strconv.uint64pow10", "math/bits.deBruijn32tab", "math/bits.deBruijn64tab"], apart := false, laid := [("math/bits.deBruijn32tab", laid_math_bits_deBruijn32tab), ("math/bits.deBruijn64tab", laid_math_bits_deBruijn64tab), ("internal/strconv.uint64pow10", laid_internal_strconv_uint64pow10)], narrowed := true }
def BoundMakesUptoSaid : Prop := boundMakesUptoRow.holds Tryz.pinned (OpenSpec.upto boundMakesSpec)

/-- 'syntagmalaw16.BoundRecords', WHERE WHAT IT READS IS OF BULK AT MOST 1048576: true; the input reads as it did. -/
def boundRecordsUptoRow : OpenClaim := { program := "ytkfnogdccpcmhaagreatdoor", sum := "49c4f84fb95cca01368df76eff25e9f9fdd8ee67fd86afa53d4e6d0f4542dbba", func := "syntagma/syntagmalaw16.BoundRecords", spec := "boundRecords", inPlace := ["internal/abi.NoEscape", "internal/bytealg.MakeNoZero"], unfollowed := true, recurses := true, named := ["internal/strconv.uint64pow10", "math/bits.deBruijn32tab", "math/bits.deBruijn64tab"], apart := false, laid := [("math/bits.deBruijn32tab", laid_math_bits_deBruijn32tab), ("math/bits.deBruijn64tab", laid_math_bits_deBruijn64tab), ("internal/strconv.uint64pow10", laid_internal_strconv_uint64pow10)], narrowed := true }
def BoundRecordsUptoSaid : Prop := boundRecordsUptoRow.holds Tryz.pinned (OpenSpec.upto boundRecordsSpec)

end Rows
end Go.Proofs.YtkfnogdccpcmhaaGreatDoor
