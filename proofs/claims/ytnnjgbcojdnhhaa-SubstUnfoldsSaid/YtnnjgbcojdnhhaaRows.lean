/-
  No cell of these rows narrows 'for every input' (looked for: loops, veiled, ifaces, maps, wideKeys, modest, calm, conditions, laid).
  DERIVED. THE GIVEN ROWS OF THIS SEAT. 12 by the template 'for every input the law returns true; each argument reads behind the call as it read before'; 0 by the template 'total and deterministic' (their statements: YtnnjgbcojdnhhaaTotals.lean).
  GIVEN WITH THE SEED: the statements are not yours to turn. If you find one false, say at which input.
  Laid BY PROGRAM, IN A SANDBOX (cutbox-rows.mjs): the forced cells as the released guide's own fill.sh prints them over the translation db494ed82576bd38… (all of the seat's roots in one cut). By AI agents, Wed Nov 11 2026. No macro, syntax, notation, axiom, sorry.
-/
import Derived.Test.YtnnjgbcojdnhhaaChecked
import GoSem.Claim
import GoSem.ClaimJoined
import GoSem.ClaimMapViews
import Derived.JoinedTies
import Derived.KernelRfl
namespace Go.Proofs.Ytnnjgbcojdnhhaa
/- THE CELL 'sum', in the pinned program and in every row, IS THE sha256 OF THE DUMP (.gsa) THAT YtnnjgbcojdnhhaaProg.lean LOADS. Nothing in Lean hashes anything: it is a label: what it is worth is what the hold of that sum in a sandbox is worth. -/
noncomputable def Try.pinned : Pinned := { name := "ytnnjgbcojdnhhaa", sum := "db494ed82576bd38b9dd6c9474361b4d29b093a565f6ec75aabf0beea00dd877", checked := Try.checked }
namespace Rows
def none {H : Type} : Left H := { results := [], args := [] }

/-- 'syntagmalaw04.LexTokens': WHATEVER THE INPUT: true; the input reads as it did. -/
def lexTokensSpec : ChangeSpec := { name := "lexTokens", fn := fun _ => fun
  | [d] => { results := [.lit (.bool true)], args := [d] }
  | _ => none }
def lexTokensRow : OpenClaim := { program := "ytnnjgbcojdnhhaa", sum := "db494ed82576bd38b9dd6c9474361b4d29b093a565f6ec75aabf0beea00dd877", func := "syntagma/syntagmalaw04.LexTokens", spec := "lexTokens", inPlace := ["internal/bytealg.IndexByteString", "internal/abi.NoEscape"], unfollowed := true, recurses := true, apart := false }
def LexTokensSaid : Prop := lexTokensRow.holds Try.pinned (OpenSpec.ofChange lexTokensSpec)

/-- ITS FALSE NEIGHBOUR: 'it returns false'. Refute it at one input. -/
def lexTokensWrong : ChangeSpec := { name := "lexTokens", fn := fun _ => fun
  | [d] => { results := [.lit (.bool false)], args := [d] }
  | _ => none }
def LexTokensWrongFalsely : Prop := lexTokensRow.holds Try.pinned (OpenSpec.ofChange lexTokensWrong)

/-- 'syntagmalaw04.LexAll': WHATEVER THE INPUT: true; the input reads as it did. -/
def lexAllSpec : ChangeSpec := { name := "lexAll", fn := fun _ => fun
  | [d] => { results := [.lit (.bool true)], args := [d] }
  | _ => none }
def lexAllRow : OpenClaim := { program := "ytnnjgbcojdnhhaa", sum := "db494ed82576bd38b9dd6c9474361b4d29b093a565f6ec75aabf0beea00dd877", func := "syntagma/syntagmalaw04.LexAll", spec := "lexAll", inPlace := ["internal/bytealg.IndexByteString", "internal/abi.NoEscape"], unfollowed := true, recurses := true, apart := false }
def LexAllSaid : Prop := lexAllRow.holds Try.pinned (OpenSpec.ofChange lexAllSpec)

/-- ITS FALSE NEIGHBOUR: 'it returns false'. Refute it at one input. -/
def lexAllWrong : ChangeSpec := { name := "lexAll", fn := fun _ => fun
  | [d] => { results := [.lit (.bool false)], args := [d] }
  | _ => none }
def LexAllWrongFalsely : Prop := lexAllRow.holds Try.pinned (OpenSpec.ofChange lexAllWrong)

/-- 'syntagmalaw05.TreeMays': WHATEVER THE INPUT: true; the input reads as it did. -/
def treeMaysSpec : ChangeSpec := { name := "treeMays", fn := fun _ => fun
  | [d1, d2] => { results := [.lit (.bool true)], args := [d1, d2] }
  | _ => none }
def treeMaysRow : OpenClaim := { program := "ytnnjgbcojdnhhaa", sum := "db494ed82576bd38b9dd6c9474361b4d29b093a565f6ec75aabf0beea00dd877", func := "syntagma/syntagmalaw05.TreeMays", spec := "treeMays", unfollowed := true, recurses := true, apart := false }
def TreeMaysSaid : Prop := treeMaysRow.holds Try.pinned (OpenSpec.ofChange treeMaysSpec)

/-- ITS FALSE NEIGHBOUR: 'it returns false'. Refute it at one input. -/
def treeMaysWrong : ChangeSpec := { name := "treeMays", fn := fun _ => fun
  | [d1, d2] => { results := [.lit (.bool false)], args := [d1, d2] }
  | _ => none }
def TreeMaysWrongFalsely : Prop := treeMaysRow.holds Try.pinned (OpenSpec.ofChange treeMaysWrong)

/-- 'syntagmalaw05.TreeJoins': WHATEVER THE INPUT: true; the input reads as it did. -/
def treeJoinsSpec : ChangeSpec := { name := "treeJoins", fn := fun _ => fun
  | [d1, d2] => { results := [.lit (.bool true)], args := [d1, d2] }
  | _ => none }
def treeJoinsRow : OpenClaim := { program := "ytnnjgbcojdnhhaa", sum := "db494ed82576bd38b9dd6c9474361b4d29b093a565f6ec75aabf0beea00dd877", func := "syntagma/syntagmalaw05.TreeJoins", spec := "treeJoins", unfollowed := true, recurses := true, apart := false }
def TreeJoinsSaid : Prop := treeJoinsRow.holds Try.pinned (OpenSpec.ofChange treeJoinsSpec)

/-- ITS FALSE NEIGHBOUR: 'it returns false'. Refute it at one input. -/
def treeJoinsWrong : ChangeSpec := { name := "treeJoins", fn := fun _ => fun
  | [d1, d2] => { results := [.lit (.bool false)], args := [d1, d2] }
  | _ => none }
def TreeJoinsWrongFalsely : Prop := treeJoinsRow.holds Try.pinned (OpenSpec.ofChange treeJoinsWrong)

/-- 'syntagmalaw05.TreeNorms': WHATEVER THE INPUT: true; the input reads as it did. -/
def treeNormsSpec : ChangeSpec := { name := "treeNorms", fn := fun _ => fun
  | [d1, d2, d3] => { results := [.lit (.bool true)], args := [d1, d2, d3] }
  | _ => none }
def treeNormsRow : OpenClaim := { program := "ytnnjgbcojdnhhaa", sum := "db494ed82576bd38b9dd6c9474361b4d29b093a565f6ec75aabf0beea00dd877", func := "syntagma/syntagmalaw05.TreeNorms", spec := "treeNorms", unfollowed := true, recurses := true, apart := false }
def TreeNormsSaid : Prop := treeNormsRow.holds Try.pinned (OpenSpec.ofChange treeNormsSpec)

/-- ITS FALSE NEIGHBOUR: 'it returns false'. Refute it at one input. -/
def treeNormsWrong : ChangeSpec := { name := "treeNorms", fn := fun _ => fun
  | [d1, d2, d3] => { results := [.lit (.bool false)], args := [d1, d2, d3] }
  | _ => none }
def TreeNormsWrongFalsely : Prop := treeNormsRow.holds Try.pinned (OpenSpec.ofChange treeNormsWrong)

/-- 'syntagmalaw05.TreeStays': WHATEVER THE INPUT: true; the input reads as it did. -/
def treeStaysSpec : ChangeSpec := { name := "treeStays", fn := fun _ => fun
  | [d1, d2] => { results := [.lit (.bool true)], args := [d1, d2] }
  | _ => none }
def treeStaysRow : OpenClaim := { program := "ytnnjgbcojdnhhaa", sum := "db494ed82576bd38b9dd6c9474361b4d29b093a565f6ec75aabf0beea00dd877", func := "syntagma/syntagmalaw05.TreeStays", spec := "treeStays", unfollowed := true, recurses := true, apart := false }
def TreeStaysSaid : Prop := treeStaysRow.holds Try.pinned (OpenSpec.ofChange treeStaysSpec)

/-- ITS FALSE NEIGHBOUR: 'it returns false'. Refute it at one input. -/
def treeStaysWrong : ChangeSpec := { name := "treeStays", fn := fun _ => fun
  | [d1, d2] => { results := [.lit (.bool false)], args := [d1, d2] }
  | _ => none }
def TreeStaysWrongFalsely : Prop := treeStaysRow.holds Try.pinned (OpenSpec.ofChange treeStaysWrong)

/-- 'syntagmalaw06.ScopeFree': WHATEVER THE INPUT: true; the input reads as it did. -/
def scopeFreeSpec : ChangeSpec := { name := "scopeFree", fn := fun _ => fun
  | [d] => { results := [.lit (.bool true)], args := [d] }
  | _ => none }
def scopeFreeRow : OpenClaim := { program := "ytnnjgbcojdnhhaa", sum := "db494ed82576bd38b9dd6c9474361b4d29b093a565f6ec75aabf0beea00dd877", func := "syntagma/syntagmalaw06.ScopeFree", spec := "scopeFree", unfollowed := true, recurses := true, apart := false }
def ScopeFreeSaid : Prop := scopeFreeRow.holds Try.pinned (OpenSpec.ofChange scopeFreeSpec)

/-- ITS FALSE NEIGHBOUR: 'it returns false'. Refute it at one input. -/
def scopeFreeWrong : ChangeSpec := { name := "scopeFree", fn := fun _ => fun
  | [d] => { results := [.lit (.bool false)], args := [d] }
  | _ => none }
def ScopeFreeWrongFalsely : Prop := scopeFreeRow.holds Try.pinned (OpenSpec.ofChange scopeFreeWrong)

/-- 'syntagmalaw06.ScopeSame': WHATEVER THE INPUT: true; the input reads as it did. -/
def scopeSameSpec : ChangeSpec := { name := "scopeSame", fn := fun _ => fun
  | [d1, d2] => { results := [.lit (.bool true)], args := [d1, d2] }
  | _ => none }
def scopeSameRow : OpenClaim := { program := "ytnnjgbcojdnhhaa", sum := "db494ed82576bd38b9dd6c9474361b4d29b093a565f6ec75aabf0beea00dd877", func := "syntagma/syntagmalaw06.ScopeSame", spec := "scopeSame", unfollowed := true, recurses := true, apart := false }
def ScopeSameSaid : Prop := scopeSameRow.holds Try.pinned (OpenSpec.ofChange scopeSameSpec)

/-- ITS FALSE NEIGHBOUR: 'it returns false'. Refute it at one input. -/
def scopeSameWrong : ChangeSpec := { name := "scopeSame", fn := fun _ => fun
  | [d1, d2] => { results := [.lit (.bool false)], args := [d1, d2] }
  | _ => none }
def ScopeSameWrongFalsely : Prop := scopeSameRow.holds Try.pinned (OpenSpec.ofChange scopeSameWrong)

/-- 'syntagmalaw06.ScopeBinders': WHATEVER THE INPUT: true; the input reads as it did. -/
def scopeBindersSpec : ChangeSpec := { name := "scopeBinders", fn := fun _ => fun
  | [d1, d2] => { results := [.lit (.bool true)], args := [d1, d2] }
  | _ => none }
def scopeBindersRow : OpenClaim := { program := "ytnnjgbcojdnhhaa", sum := "db494ed82576bd38b9dd6c9474361b4d29b093a565f6ec75aabf0beea00dd877", func := "syntagma/syntagmalaw06.ScopeBinders", spec := "scopeBinders", unfollowed := true, recurses := true, apart := false }
def ScopeBindersSaid : Prop := scopeBindersRow.holds Try.pinned (OpenSpec.ofChange scopeBindersSpec)

/-- ITS FALSE NEIGHBOUR: 'it returns false'. Refute it at one input. -/
def scopeBindersWrong : ChangeSpec := { name := "scopeBinders", fn := fun _ => fun
  | [d1, d2] => { results := [.lit (.bool false)], args := [d1, d2] }
  | _ => none }
def ScopeBindersWrongFalsely : Prop := scopeBindersRow.holds Try.pinned (OpenSpec.ofChange scopeBindersWrong)

/-- 'syntagmalaw09.SubstPuts': WHATEVER THE INPUT: true; the input reads as it did. -/
def substPutsSpec : ChangeSpec := { name := "substPuts", fn := fun _ => fun
  | [d1, d2, d3] => { results := [.lit (.bool true)], args := [d1, d2, d3] }
  | _ => none }
def substPutsRow : OpenClaim := { program := "ytnnjgbcojdnhhaa", sum := "db494ed82576bd38b9dd6c9474361b4d29b093a565f6ec75aabf0beea00dd877", func := "syntagma/syntagmalaw09.SubstPuts", spec := "substPuts", unfollowed := true, recurses := true, apart := false }
def SubstPutsSaid : Prop := substPutsRow.holds Try.pinned (OpenSpec.ofChange substPutsSpec)

/-- ITS FALSE NEIGHBOUR: 'it returns false'. Refute it at one input. -/
def substPutsWrong : ChangeSpec := { name := "substPuts", fn := fun _ => fun
  | [d1, d2, d3] => { results := [.lit (.bool false)], args := [d1, d2, d3] }
  | _ => none }
def SubstPutsWrongFalsely : Prop := substPutsRow.holds Try.pinned (OpenSpec.ofChange substPutsWrong)

/-- 'syntagmalaw09.SubstStays': WHATEVER THE INPUT: true; the input reads as it did. -/
def substStaysSpec : ChangeSpec := { name := "substStays", fn := fun _ => fun
  | [d1, d2, d3] => { results := [.lit (.bool true)], args := [d1, d2, d3] }
  | _ => none }
def substStaysRow : OpenClaim := { program := "ytnnjgbcojdnhhaa", sum := "db494ed82576bd38b9dd6c9474361b4d29b093a565f6ec75aabf0beea00dd877", func := "syntagma/syntagmalaw09.SubstStays", spec := "substStays", unfollowed := true, recurses := true, apart := false }
def SubstStaysSaid : Prop := substStaysRow.holds Try.pinned (OpenSpec.ofChange substStaysSpec)

/-- ITS FALSE NEIGHBOUR: 'it returns false'. Refute it at one input. -/
def substStaysWrong : ChangeSpec := { name := "substStays", fn := fun _ => fun
  | [d1, d2, d3] => { results := [.lit (.bool false)], args := [d1, d2, d3] }
  | _ => none }
def SubstStaysWrongFalsely : Prop := substStaysRow.holds Try.pinned (OpenSpec.ofChange substStaysWrong)

/-- 'syntagmalaw09.SubstUnfolds': WHATEVER THE INPUT: true; the input reads as it did. -/
def substUnfoldsSpec : ChangeSpec := { name := "substUnfolds", fn := fun _ => fun
  | [d] => { results := [.lit (.bool true)], args := [d] }
  | _ => none }
def substUnfoldsRow : OpenClaim := { program := "ytnnjgbcojdnhhaa", sum := "db494ed82576bd38b9dd6c9474361b4d29b093a565f6ec75aabf0beea00dd877", func := "syntagma/syntagmalaw09.SubstUnfolds", spec := "substUnfolds", unfollowed := true, recurses := true, apart := false }
def SubstUnfoldsSaid : Prop := substUnfoldsRow.holds Try.pinned (OpenSpec.ofChange substUnfoldsSpec)

/-- ITS FALSE NEIGHBOUR: 'it returns false'. Refute it at one input. -/
def substUnfoldsWrong : ChangeSpec := { name := "substUnfolds", fn := fun _ => fun
  | [d] => { results := [.lit (.bool false)], args := [d] }
  | _ => none }
def SubstUnfoldsWrongFalsely : Prop := substUnfoldsRow.holds Try.pinned (OpenSpec.ofChange substUnfoldsWrong)

/- THE SECOND FORM. 'bulk': how many values and letters a reading holds, each counted each time it is reached (what is shared counts as often as it is met; a slice's spare places count too). A statement '..UptoSaid' is the law's where the arguments, and the package variables that the reading takes, are together of bulk at most 1048576: NARROWER than '..Said'. Prove '..Said' where nothing that the law and all that it calls make is longer than what came in: it says more and counts as full. Else prove '..UptoSaid'. A law counts once. -/
mutual
def uptoBulk {H : Type} : DataW H → Nat
  | .lit (.string bytes) => bytes.length + 1
  | .lit _ => 1
  | .nil => 1
  | .ptr d => uptoBulk d + 1
  | .slice elems spare => uptoBulkAll elems + uptoBulkAll spare + 1
  | .agg parts => uptoBulkAll parts + 1
  | .iface _ d => uptoBulk d + 1
  | .map entries => uptoBulkEntries entries + 1
  | .held _ => 1
def uptoBulkAll {H : Type} : List (DataW H) → Nat
  | [] => 0
  | d :: r => uptoBulk d + uptoBulkAll r
def uptoBulkEntries {H : Type} : List (Lit × DataW H) → Nat
  | [] => 0
  | x :: r => uptoBulkEntry x + uptoBulkEntries r
def uptoBulkEntry {H : Type} : Lit × DataW H → Nat
  | (.string bytes, d) => bytes.length + uptoBulk d + 1
  | (_, d) => uptoBulk d + 1
 end
def uptoSmall : (H : Type) → List (DataW H) → Bool := fun _ ds => decide (uptoBulkAll ds ≤ 1048576)
def OpenSpec.upto (s : _root_.Go.ChangeSpec) : _root_.Go.OpenSpec := { _root_.Go.OpenSpec.ofChange s with cond := some uptoSmall }

/-- 'syntagmalaw04.LexTokens', WHERE WHAT IT READS IS OF BULK AT MOST 1048576: true; the input reads as it did. -/
def lexTokensUptoRow : OpenClaim := { program := "ytnnjgbcojdnhhaa", sum := "db494ed82576bd38b9dd6c9474361b4d29b093a565f6ec75aabf0beea00dd877", func := "syntagma/syntagmalaw04.LexTokens", spec := "lexTokens", inPlace := ["internal/bytealg.IndexByteString", "internal/abi.NoEscape"], unfollowed := true, recurses := true, apart := false, narrowed := true }
def LexTokensUptoSaid : Prop := lexTokensUptoRow.holds Try.pinned (OpenSpec.upto lexTokensSpec)

/-- 'syntagmalaw04.LexAll', WHERE WHAT IT READS IS OF BULK AT MOST 1048576: true; the input reads as it did. -/
def lexAllUptoRow : OpenClaim := { program := "ytnnjgbcojdnhhaa", sum := "db494ed82576bd38b9dd6c9474361b4d29b093a565f6ec75aabf0beea00dd877", func := "syntagma/syntagmalaw04.LexAll", spec := "lexAll", inPlace := ["internal/bytealg.IndexByteString", "internal/abi.NoEscape"], unfollowed := true, recurses := true, apart := false, narrowed := true }
def LexAllUptoSaid : Prop := lexAllUptoRow.holds Try.pinned (OpenSpec.upto lexAllSpec)

/-- 'syntagmalaw05.TreeMays', WHERE WHAT IT READS IS OF BULK AT MOST 1048576: true; the input reads as it did. -/
def treeMaysUptoRow : OpenClaim := { program := "ytnnjgbcojdnhhaa", sum := "db494ed82576bd38b9dd6c9474361b4d29b093a565f6ec75aabf0beea00dd877", func := "syntagma/syntagmalaw05.TreeMays", spec := "treeMays", unfollowed := true, recurses := true, apart := false, narrowed := true }
def TreeMaysUptoSaid : Prop := treeMaysUptoRow.holds Try.pinned (OpenSpec.upto treeMaysSpec)

/-- 'syntagmalaw05.TreeJoins', WHERE WHAT IT READS IS OF BULK AT MOST 1048576: true; the input reads as it did. -/
def treeJoinsUptoRow : OpenClaim := { program := "ytnnjgbcojdnhhaa", sum := "db494ed82576bd38b9dd6c9474361b4d29b093a565f6ec75aabf0beea00dd877", func := "syntagma/syntagmalaw05.TreeJoins", spec := "treeJoins", unfollowed := true, recurses := true, apart := false, narrowed := true }
def TreeJoinsUptoSaid : Prop := treeJoinsUptoRow.holds Try.pinned (OpenSpec.upto treeJoinsSpec)

/-- 'syntagmalaw05.TreeNorms', WHERE WHAT IT READS IS OF BULK AT MOST 1048576: true; the input reads as it did. -/
def treeNormsUptoRow : OpenClaim := { program := "ytnnjgbcojdnhhaa", sum := "db494ed82576bd38b9dd6c9474361b4d29b093a565f6ec75aabf0beea00dd877", func := "syntagma/syntagmalaw05.TreeNorms", spec := "treeNorms", unfollowed := true, recurses := true, apart := false, narrowed := true }
def TreeNormsUptoSaid : Prop := treeNormsUptoRow.holds Try.pinned (OpenSpec.upto treeNormsSpec)

/-- 'syntagmalaw05.TreeStays', WHERE WHAT IT READS IS OF BULK AT MOST 1048576: true; the input reads as it did. -/
def treeStaysUptoRow : OpenClaim := { program := "ytnnjgbcojdnhhaa", sum := "db494ed82576bd38b9dd6c9474361b4d29b093a565f6ec75aabf0beea00dd877", func := "syntagma/syntagmalaw05.TreeStays", spec := "treeStays", unfollowed := true, recurses := true, apart := false, narrowed := true }
def TreeStaysUptoSaid : Prop := treeStaysUptoRow.holds Try.pinned (OpenSpec.upto treeStaysSpec)

/-- 'syntagmalaw06.ScopeFree', WHERE WHAT IT READS IS OF BULK AT MOST 1048576: true; the input reads as it did. -/
def scopeFreeUptoRow : OpenClaim := { program := "ytnnjgbcojdnhhaa", sum := "db494ed82576bd38b9dd6c9474361b4d29b093a565f6ec75aabf0beea00dd877", func := "syntagma/syntagmalaw06.ScopeFree", spec := "scopeFree", unfollowed := true, recurses := true, apart := false, narrowed := true }
def ScopeFreeUptoSaid : Prop := scopeFreeUptoRow.holds Try.pinned (OpenSpec.upto scopeFreeSpec)

/-- 'syntagmalaw06.ScopeSame', WHERE WHAT IT READS IS OF BULK AT MOST 1048576: true; the input reads as it did. -/
def scopeSameUptoRow : OpenClaim := { program := "ytnnjgbcojdnhhaa", sum := "db494ed82576bd38b9dd6c9474361b4d29b093a565f6ec75aabf0beea00dd877", func := "syntagma/syntagmalaw06.ScopeSame", spec := "scopeSame", unfollowed := true, recurses := true, apart := false, narrowed := true }
def ScopeSameUptoSaid : Prop := scopeSameUptoRow.holds Try.pinned (OpenSpec.upto scopeSameSpec)

/-- 'syntagmalaw06.ScopeBinders', WHERE WHAT IT READS IS OF BULK AT MOST 1048576: true; the input reads as it did. -/
def scopeBindersUptoRow : OpenClaim := { program := "ytnnjgbcojdnhhaa", sum := "db494ed82576bd38b9dd6c9474361b4d29b093a565f6ec75aabf0beea00dd877", func := "syntagma/syntagmalaw06.ScopeBinders", spec := "scopeBinders", unfollowed := true, recurses := true, apart := false, narrowed := true }
def ScopeBindersUptoSaid : Prop := scopeBindersUptoRow.holds Try.pinned (OpenSpec.upto scopeBindersSpec)

/-- 'syntagmalaw09.SubstPuts', WHERE WHAT IT READS IS OF BULK AT MOST 1048576: true; the input reads as it did. -/
def substPutsUptoRow : OpenClaim := { program := "ytnnjgbcojdnhhaa", sum := "db494ed82576bd38b9dd6c9474361b4d29b093a565f6ec75aabf0beea00dd877", func := "syntagma/syntagmalaw09.SubstPuts", spec := "substPuts", unfollowed := true, recurses := true, apart := false, narrowed := true }
def SubstPutsUptoSaid : Prop := substPutsUptoRow.holds Try.pinned (OpenSpec.upto substPutsSpec)

/-- 'syntagmalaw09.SubstStays', WHERE WHAT IT READS IS OF BULK AT MOST 1048576: true; the input reads as it did. -/
def substStaysUptoRow : OpenClaim := { program := "ytnnjgbcojdnhhaa", sum := "db494ed82576bd38b9dd6c9474361b4d29b093a565f6ec75aabf0beea00dd877", func := "syntagma/syntagmalaw09.SubstStays", spec := "substStays", unfollowed := true, recurses := true, apart := false, narrowed := true }
def SubstStaysUptoSaid : Prop := substStaysUptoRow.holds Try.pinned (OpenSpec.upto substStaysSpec)

/-- 'syntagmalaw09.SubstUnfolds', WHERE WHAT IT READS IS OF BULK AT MOST 1048576: true; the input reads as it did. -/
def substUnfoldsUptoRow : OpenClaim := { program := "ytnnjgbcojdnhhaa", sum := "db494ed82576bd38b9dd6c9474361b4d29b093a565f6ec75aabf0beea00dd877", func := "syntagma/syntagmalaw09.SubstUnfolds", spec := "substUnfolds", unfollowed := true, recurses := true, apart := false, narrowed := true }
def SubstUnfoldsUptoSaid : Prop := substUnfoldsUptoRow.holds Try.pinned (OpenSpec.upto substUnfoldsSpec)

end Rows
end Go.Proofs.Ytnnjgbcojdnhhaa
