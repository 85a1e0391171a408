/-
  No cell of these rows narrows 'for every input' (looked for: loops, veiled, ifaces, maps, wideKeys, modest, calm, conditions, laid).
  DERIVED. THE GIVEN ROWS OF THIS SEAT. 12 by the template 'for every input the law returns true; each argument reads behind the call as it read before'; 0 by the template 'total and deterministic' (their statements: YtfcifodaohhcbaaTotals.lean).
  GIVEN WITH THE SEED: the statements are not yours to turn. If you find one false, say at which input.
  Laid BY PROGRAM, IN A SANDBOX (cutbox-rows.mjs): the forced cells as the released guide's own fill.sh prints them over the translation d62cda3755d2c25e… (all of the seat's roots in one cut). By AI agents, Wed Nov 11 2026. No macro, syntax, notation, axiom, sorry.
-/
import Derived.Test.YtfcifodaohhcbaaChecked
import GoSem.Claim
import GoSem.ClaimJoined
import GoSem.ClaimMapViews
import Derived.JoinedTies
import Derived.KernelRfl
namespace Go.Proofs.Ytfcifodaohhcbaa
/- THE CELL 'sum', in the pinned program and in every row, IS THE sha256 OF THE DUMP (.gsa) THAT YtfcifodaohhcbaaProg.lean LOADS. Nothing in Lean hashes anything: it is a label: what it is worth is what the hold of that sum in a sandbox is worth. -/
noncomputable def Try.pinned : Pinned := { name := "ytfcifodaohhcbaa", sum := "d62cda3755d2c25e9ad854383cc5cc8f07d885a4bcac2b8a9198f4a0146aab86", checked := Try.checked }
namespace Rows
def none {H : Type} : Left H := { results := [], args := [] }

/-- 'syntagmalaw21.FreshFinds': WHATEVER THE INPUT: true; the input reads as it did. -/
def freshFindsSpec : ChangeSpec := { name := "freshFinds", fn := fun _ => fun
  | [d1, d2, d3] => { results := [.lit (.bool true)], args := [d1, d2, d3] }
  | _ => none }
def freshFindsRow : OpenClaim := { program := "ytfcifodaohhcbaa", sum := "d62cda3755d2c25e9ad854383cc5cc8f07d885a4bcac2b8a9198f4a0146aab86", func := "syntagma/syntagmalaw21.FreshFinds", spec := "freshFinds", unfollowed := true, recurses := true, apart := false }
def FreshFindsSaid : Prop := freshFindsRow.holds Try.pinned (OpenSpec.ofChange freshFindsSpec)

/-- ITS FALSE NEIGHBOUR: 'it returns false'. Refute it at one input. -/
def freshFindsWrong : ChangeSpec := { name := "freshFinds", fn := fun _ => fun
  | [d1, d2, d3] => { results := [.lit (.bool false)], args := [d1, d2, d3] }
  | _ => none }
def FreshFindsWrongFalsely : Prop := freshFindsRow.holds Try.pinned (OpenSpec.ofChange freshFindsWrong)

/-- 'syntagmalaw18.QueuePlays': WHATEVER THE INPUT: true; the input reads as it did. -/
def queuePlaysSpec : ChangeSpec := { name := "queuePlays", fn := fun _ => fun
  | [d1, d2] => { results := [.lit (.bool true)], args := [d1, d2] }
  | _ => none }
def queuePlaysRow : OpenClaim := { program := "ytfcifodaohhcbaa", sum := "d62cda3755d2c25e9ad854383cc5cc8f07d885a4bcac2b8a9198f4a0146aab86", func := "syntagma/syntagmalaw18.QueuePlays", spec := "queuePlays", apart := false }
def QueuePlaysSaid : Prop := queuePlaysRow.holds Try.pinned (OpenSpec.ofChange queuePlaysSpec)

/-- ITS FALSE NEIGHBOUR: 'it returns false'. Refute it at one input. -/
def queuePlaysWrong : ChangeSpec := { name := "queuePlays", fn := fun _ => fun
  | [d1, d2] => { results := [.lit (.bool false)], args := [d1, d2] }
  | _ => none }
def QueuePlaysWrongFalsely : Prop := queuePlaysRow.holds Try.pinned (OpenSpec.ofChange queuePlaysWrong)

/-- 'syntagmalaw18.QueueTexts': WHATEVER THE INPUT: true; the input reads as it did. -/
def queueTextsSpec : ChangeSpec := { name := "queueTexts", fn := fun _ => fun
  | [d1, d2] => { results := [.lit (.bool true)], args := [d1, d2] }
  | _ => none }
def queueTextsRow : OpenClaim := { program := "ytfcifodaohhcbaa", sum := "d62cda3755d2c25e9ad854383cc5cc8f07d885a4bcac2b8a9198f4a0146aab86", func := "syntagma/syntagmalaw18.QueueTexts", spec := "queueTexts", apart := false }
def QueueTextsSaid : Prop := queueTextsRow.holds Try.pinned (OpenSpec.ofChange queueTextsSpec)

/-- ITS FALSE NEIGHBOUR: 'it returns false'. Refute it at one input. -/
def queueTextsWrong : ChangeSpec := { name := "queueTexts", fn := fun _ => fun
  | [d1, d2] => { results := [.lit (.bool false)], args := [d1, d2] }
  | _ => none }
def QueueTextsWrongFalsely : Prop := queueTextsRow.holds Try.pinned (OpenSpec.ofChange queueTextsWrong)

/-- 'syntagmalaw18.QueueEither': WHATEVER THE INPUT: true; the input reads as it did. -/
def queueEitherSpec : ChangeSpec := { name := "queueEither", fn := fun _ => fun
  | [d1, d2, d3] => { results := [.lit (.bool true)], args := [d1, d2, d3] }
  | _ => none }
def queueEitherRow : OpenClaim := { program := "ytfcifodaohhcbaa", sum := "d62cda3755d2c25e9ad854383cc5cc8f07d885a4bcac2b8a9198f4a0146aab86", func := "syntagma/syntagmalaw18.QueueEither", spec := "queueEither", apart := false }
def QueueEitherSaid : Prop := queueEitherRow.holds Try.pinned (OpenSpec.ofChange queueEitherSpec)

/-- ITS FALSE NEIGHBOUR: 'it returns false'. Refute it at one input. -/
def queueEitherWrong : ChangeSpec := { name := "queueEither", fn := fun _ => fun
  | [d1, d2, d3] => { results := [.lit (.bool false)], args := [d1, d2, d3] }
  | _ => none }
def QueueEitherWrongFalsely : Prop := queueEitherRow.holds Try.pinned (OpenSpec.ofChange queueEitherWrong)

/-- 'syntagmalaw02.QuoteTakes': WHATEVER THE INPUT: true; the input reads as it did. -/
def quoteTakesSpec : ChangeSpec := { name := "quoteTakes", fn := fun _ => fun
  | [d] => { results := [.lit (.bool true)], args := [d] }
  | _ => none }
def quoteTakesRow : OpenClaim := { program := "ytfcifodaohhcbaa", sum := "d62cda3755d2c25e9ad854383cc5cc8f07d885a4bcac2b8a9198f4a0146aab86", func := "syntagma/syntagmalaw02.QuoteTakes", spec := "quoteTakes", inPlace := ["internal/bytealg.IndexByteString", "internal/abi.NoEscape"], apart := false }
def QuoteTakesSaid : Prop := quoteTakesRow.holds Try.pinned (OpenSpec.ofChange quoteTakesSpec)

/-- ITS FALSE NEIGHBOUR: 'it returns false'. Refute it at one input. -/
def quoteTakesWrong : ChangeSpec := { name := "quoteTakes", fn := fun _ => fun
  | [d] => { results := [.lit (.bool false)], args := [d] }
  | _ => none }
def QuoteTakesWrongFalsely : Prop := quoteTakesRow.holds Try.pinned (OpenSpec.ofChange quoteTakesWrong)

/-- 'syntagmalaw02.QuoteBack': WHATEVER THE INPUT: true; the input reads as it did. -/
def quoteBackSpec : ChangeSpec := { name := "quoteBack", fn := fun _ => fun
  | [d1, d2] => { results := [.lit (.bool true)], args := [d1, d2] }
  | _ => none }
def quoteBackRow : OpenClaim := { program := "ytfcifodaohhcbaa", sum := "d62cda3755d2c25e9ad854383cc5cc8f07d885a4bcac2b8a9198f4a0146aab86", func := "syntagma/syntagmalaw02.QuoteBack", spec := "quoteBack", inPlace := ["internal/bytealg.IndexByteString", "internal/abi.NoEscape"], apart := false }
def QuoteBackSaid : Prop := quoteBackRow.holds Try.pinned (OpenSpec.ofChange quoteBackSpec)

/-- ITS FALSE NEIGHBOUR: 'it returns false'. Refute it at one input. -/
def quoteBackWrong : ChangeSpec := { name := "quoteBack", fn := fun _ => fun
  | [d1, d2] => { results := [.lit (.bool false)], args := [d1, d2] }
  | _ => none }
def QuoteBackWrongFalsely : Prop := quoteBackRow.holds Try.pinned (OpenSpec.ofChange quoteBackWrong)

/-- 'syntagmalaw02.QuotePrints': WHATEVER THE INPUT: true; the input reads as it did. -/
def quotePrintsSpec : ChangeSpec := { name := "quotePrints", fn := fun _ => fun
  | [d] => { results := [.lit (.bool true)], args := [d] }
  | _ => none }
def quotePrintsRow : OpenClaim := { program := "ytfcifodaohhcbaa", sum := "d62cda3755d2c25e9ad854383cc5cc8f07d885a4bcac2b8a9198f4a0146aab86", func := "syntagma/syntagmalaw02.QuotePrints", spec := "quotePrints", inPlace := ["internal/abi.NoEscape", "internal/bytealg.IndexByteString"], apart := false }
def QuotePrintsSaid : Prop := quotePrintsRow.holds Try.pinned (OpenSpec.ofChange quotePrintsSpec)

/-- ITS FALSE NEIGHBOUR: 'it returns false'. Refute it at one input. -/
def quotePrintsWrong : ChangeSpec := { name := "quotePrints", fn := fun _ => fun
  | [d] => { results := [.lit (.bool false)], args := [d] }
  | _ => none }
def QuotePrintsWrongFalsely : Prop := quotePrintsRow.holds Try.pinned (OpenSpec.ofChange quotePrintsWrong)

/-- 'syntagmalaw24.AutoMays': WHATEVER THE INPUT: true; the input reads as it did. -/
def autoMaysSpec : ChangeSpec := { name := "autoMays", fn := fun _ => fun
  | [d1, d2] => { results := [.lit (.bool true)], args := [d1, d2] }
  | _ => none }
def autoMaysRow : OpenClaim := { program := "ytfcifodaohhcbaa", sum := "d62cda3755d2c25e9ad854383cc5cc8f07d885a4bcac2b8a9198f4a0146aab86", func := "syntagma/syntagmalaw24.AutoMays", spec := "autoMays", unfollowed := true, recurses := true, apart := false }
def AutoMaysSaid : Prop := autoMaysRow.holds Try.pinned (OpenSpec.ofChange autoMaysSpec)

/-- ITS FALSE NEIGHBOUR: 'it returns false'. Refute it at one input. -/
def autoMaysWrong : ChangeSpec := { name := "autoMays", fn := fun _ => fun
  | [d1, d2] => { results := [.lit (.bool false)], args := [d1, d2] }
  | _ => none }
def AutoMaysWrongFalsely : Prop := autoMaysRow.holds Try.pinned (OpenSpec.ofChange autoMaysWrong)

/-- 'syntagmalaw24.AutoNorms': WHATEVER THE INPUT: true; the input reads as it did. -/
def autoNormsSpec : ChangeSpec := { name := "autoNorms", fn := fun _ => fun
  | [d1, d2] => { results := [.lit (.bool true)], args := [d1, d2] }
  | _ => none }
def autoNormsRow : OpenClaim := { program := "ytfcifodaohhcbaa", sum := "d62cda3755d2c25e9ad854383cc5cc8f07d885a4bcac2b8a9198f4a0146aab86", func := "syntagma/syntagmalaw24.AutoNorms", spec := "autoNorms", unfollowed := true, recurses := true, apart := false }
def AutoNormsSaid : Prop := autoNormsRow.holds Try.pinned (OpenSpec.ofChange autoNormsSpec)

/-- ITS FALSE NEIGHBOUR: 'it returns false'. Refute it at one input. -/
def autoNormsWrong : ChangeSpec := { name := "autoNorms", fn := fun _ => fun
  | [d1, d2] => { results := [.lit (.bool false)], args := [d1, d2] }
  | _ => none }
def AutoNormsWrongFalsely : Prop := autoNormsRow.holds Try.pinned (OpenSpec.ofChange autoNormsWrong)

/-- 'syntagmalaw24.AutoStays': WHATEVER THE INPUT: true; the input reads as it did. -/
def autoStaysSpec : ChangeSpec := { name := "autoStays", fn := fun _ => fun
  | [d] => { results := [.lit (.bool true)], args := [d] }
  | _ => none }
def autoStaysRow : OpenClaim := { program := "ytfcifodaohhcbaa", sum := "d62cda3755d2c25e9ad854383cc5cc8f07d885a4bcac2b8a9198f4a0146aab86", func := "syntagma/syntagmalaw24.AutoStays", spec := "autoStays", unfollowed := true, recurses := true, apart := false }
def AutoStaysSaid : Prop := autoStaysRow.holds Try.pinned (OpenSpec.ofChange autoStaysSpec)

/-- ITS FALSE NEIGHBOUR: 'it returns false'. Refute it at one input. -/
def autoStaysWrong : ChangeSpec := { name := "autoStays", fn := fun _ => fun
  | [d] => { results := [.lit (.bool false)], args := [d] }
  | _ => none }
def AutoStaysWrongFalsely : Prop := autoStaysRow.holds Try.pinned (OpenSpec.ofChange autoStaysWrong)

/-- 'syntagmalaw04.LexTokens': WHATEVER THE INPUT: true; the input reads as it did. -/
def lexTokensSpec : ChangeSpec := { name := "lexTokens", fn := fun _ => fun
  | [d] => { results := [.lit (.bool true)], args := [d] }
  | _ => none }
def lexTokensRow : OpenClaim := { program := "ytfcifodaohhcbaa", sum := "d62cda3755d2c25e9ad854383cc5cc8f07d885a4bcac2b8a9198f4a0146aab86", func := "syntagma/syntagmalaw04.LexTokens", spec := "lexTokens", inPlace := ["internal/bytealg.IndexByteString", "internal/abi.NoEscape"], unfollowed := true, recurses := true, apart := false }
def LexTokensSaid : Prop := lexTokensRow.holds Try.pinned (OpenSpec.ofChange lexTokensSpec)

/-- ITS FALSE NEIGHBOUR: 'it returns false'. Refute it at one input. -/
def lexTokensWrong : ChangeSpec := { name := "lexTokens", fn := fun _ => fun
  | [d] => { results := [.lit (.bool false)], args := [d] }
  | _ => none }
def LexTokensWrongFalsely : Prop := lexTokensRow.holds Try.pinned (OpenSpec.ofChange lexTokensWrong)

/-- 'syntagmalaw05.TreeMays': WHATEVER THE INPUT: true; the input reads as it did. -/
def treeMaysSpec : ChangeSpec := { name := "treeMays", fn := fun _ => fun
  | [d1, d2] => { results := [.lit (.bool true)], args := [d1, d2] }
  | _ => none }
def treeMaysRow : OpenClaim := { program := "ytfcifodaohhcbaa", sum := "d62cda3755d2c25e9ad854383cc5cc8f07d885a4bcac2b8a9198f4a0146aab86", func := "syntagma/syntagmalaw05.TreeMays", spec := "treeMays", unfollowed := true, recurses := true, apart := false }
def TreeMaysSaid : Prop := treeMaysRow.holds Try.pinned (OpenSpec.ofChange treeMaysSpec)

/-- ITS FALSE NEIGHBOUR: 'it returns false'. Refute it at one input. -/
def treeMaysWrong : ChangeSpec := { name := "treeMays", fn := fun _ => fun
  | [d1, d2] => { results := [.lit (.bool false)], args := [d1, d2] }
  | _ => none }
def TreeMaysWrongFalsely : Prop := treeMaysRow.holds Try.pinned (OpenSpec.ofChange treeMaysWrong)

/- THE SECOND FORM. 'bulk': how many values and letters a reading holds, each counted each time it is reached (what is shared counts as often as it is met; a slice's spare places count too). A statement '..UptoSaid' is the law's where the arguments, and the package variables that the reading takes, are together of bulk at most 1048576: NARROWER than '..Said'. Prove '..Said' where nothing that the law and all that it calls make is longer than what came in: it says more and counts as full. Else prove '..UptoSaid'. A law counts once. -/
mutual
def uptoBulk {H : Type} : DataW H → Nat
  | .lit (.string bytes) => bytes.length + 1
  | .lit _ => 1
  | .nil => 1
  | .ptr d => uptoBulk d + 1
  | .slice elems spare => uptoBulkAll elems + uptoBulkAll spare + 1
  | .agg parts => uptoBulkAll parts + 1
  | .iface _ d => uptoBulk d + 1
  | .map entries => uptoBulkEntries entries + 1
  | .held _ => 1
def uptoBulkAll {H : Type} : List (DataW H) → Nat
  | [] => 0
  | d :: r => uptoBulk d + uptoBulkAll r
def uptoBulkEntries {H : Type} : List (Lit × DataW H) → Nat
  | [] => 0
  | x :: r => uptoBulkEntry x + uptoBulkEntries r
def uptoBulkEntry {H : Type} : Lit × DataW H → Nat
  | (.string bytes, d) => bytes.length + uptoBulk d + 1
  | (_, d) => uptoBulk d + 1
 end
def uptoSmall : (H : Type) → List (DataW H) → Bool := fun _ ds => decide (uptoBulkAll ds ≤ 1048576)
def OpenSpec.upto (s : _root_.Go.ChangeSpec) : _root_.Go.OpenSpec := { _root_.Go.OpenSpec.ofChange s with cond := some uptoSmall }

/-- 'syntagmalaw21.FreshFinds', WHERE WHAT IT READS IS OF BULK AT MOST 1048576: true; the input reads as it did. -/
def freshFindsUptoRow : OpenClaim := { program := "ytfcifodaohhcbaa", sum := "d62cda3755d2c25e9ad854383cc5cc8f07d885a4bcac2b8a9198f4a0146aab86", func := "syntagma/syntagmalaw21.FreshFinds", spec := "freshFinds", unfollowed := true, recurses := true, apart := false, narrowed := true }
def FreshFindsUptoSaid : Prop := freshFindsUptoRow.holds Try.pinned (OpenSpec.upto freshFindsSpec)

/-- 'syntagmalaw18.QueuePlays', WHERE WHAT IT READS IS OF BULK AT MOST 1048576: true; the input reads as it did. -/
def queuePlaysUptoRow : OpenClaim := { program := "ytfcifodaohhcbaa", sum := "d62cda3755d2c25e9ad854383cc5cc8f07d885a4bcac2b8a9198f4a0146aab86", func := "syntagma/syntagmalaw18.QueuePlays", spec := "queuePlays", apart := false, narrowed := true }
def QueuePlaysUptoSaid : Prop := queuePlaysUptoRow.holds Try.pinned (OpenSpec.upto queuePlaysSpec)

/-- 'syntagmalaw18.QueueTexts', WHERE WHAT IT READS IS OF BULK AT MOST 1048576: true; the input reads as it did. -/
def queueTextsUptoRow : OpenClaim := { program := "ytfcifodaohhcbaa", sum := "d62cda3755d2c25e9ad854383cc5cc8f07d885a4bcac2b8a9198f4a0146aab86", func := "syntagma/syntagmalaw18.QueueTexts", spec := "queueTexts", apart := false, narrowed := true }
def QueueTextsUptoSaid : Prop := queueTextsUptoRow.holds Try.pinned (OpenSpec.upto queueTextsSpec)

/-- 'syntagmalaw18.QueueEither', WHERE WHAT IT READS IS OF BULK AT MOST 1048576: true; the input reads as it did. -/
def queueEitherUptoRow : OpenClaim := { program := "ytfcifodaohhcbaa", sum := "d62cda3755d2c25e9ad854383cc5cc8f07d885a4bcac2b8a9198f4a0146aab86", func := "syntagma/syntagmalaw18.QueueEither", spec := "queueEither", apart := false, narrowed := true }
def QueueEitherUptoSaid : Prop := queueEitherUptoRow.holds Try.pinned (OpenSpec.upto queueEitherSpec)

/-- 'syntagmalaw02.QuoteTakes', WHERE WHAT IT READS IS OF BULK AT MOST 1048576: true; the input reads as it did. -/
def quoteTakesUptoRow : OpenClaim := { program := "ytfcifodaohhcbaa", sum := "d62cda3755d2c25e9ad854383cc5cc8f07d885a4bcac2b8a9198f4a0146aab86", func := "syntagma/syntagmalaw02.QuoteTakes", spec := "quoteTakes", inPlace := ["internal/bytealg.IndexByteString", "internal/abi.NoEscape"], apart := false, narrowed := true }
def QuoteTakesUptoSaid : Prop := quoteTakesUptoRow.holds Try.pinned (OpenSpec.upto quoteTakesSpec)

/-- 'syntagmalaw02.QuoteBack', WHERE WHAT IT READS IS OF BULK AT MOST 1048576: true; the input reads as it did. -/
def quoteBackUptoRow : OpenClaim := { program := "ytfcifodaohhcbaa", sum := "d62cda3755d2c25e9ad854383cc5cc8f07d885a4bcac2b8a9198f4a0146aab86", func := "syntagma/syntagmalaw02.QuoteBack", spec := "quoteBack", inPlace := ["internal/bytealg.IndexByteString", "internal/abi.NoEscape"], apart := false, narrowed := true }
def QuoteBackUptoSaid : Prop := quoteBackUptoRow.holds Try.pinned (OpenSpec.upto quoteBackSpec)

/-- 'syntagmalaw02.QuotePrints', WHERE WHAT IT READS IS OF BULK AT MOST 1048576: true; the input reads as it did. -/
def quotePrintsUptoRow : OpenClaim := { program := "ytfcifodaohhcbaa", sum := "d62cda3755d2c25e9ad854383cc5cc8f07d885a4bcac2b8a9198f4a0146aab86", func := "syntagma/syntagmalaw02.QuotePrints", spec := "quotePrints", inPlace := ["internal/abi.NoEscape", "internal/bytealg.IndexByteString"], apart := false, narrowed := true }
def QuotePrintsUptoSaid : Prop := quotePrintsUptoRow.holds Try.pinned (OpenSpec.upto quotePrintsSpec)

/-- 'syntagmalaw24.AutoMays', WHERE WHAT IT READS IS OF BULK AT MOST 1048576: true; the input reads as it did. -/
def autoMaysUptoRow : OpenClaim := { program := "ytfcifodaohhcbaa", sum := "d62cda3755d2c25e9ad854383cc5cc8f07d885a4bcac2b8a9198f4a0146aab86", func := "syntagma/syntagmalaw24.AutoMays", spec := "autoMays", unfollowed := true, recurses := true, apart := false, narrowed := true }
def AutoMaysUptoSaid : Prop := autoMaysUptoRow.holds Try.pinned (OpenSpec.upto autoMaysSpec)

/-- 'syntagmalaw24.AutoNorms', WHERE WHAT IT READS IS OF BULK AT MOST 1048576: true; the input reads as it did. -/
def autoNormsUptoRow : OpenClaim := { program := "ytfcifodaohhcbaa", sum := "d62cda3755d2c25e9ad854383cc5cc8f07d885a4bcac2b8a9198f4a0146aab86", func := "syntagma/syntagmalaw24.AutoNorms", spec := "autoNorms", unfollowed := true, recurses := true, apart := false, narrowed := true }
def AutoNormsUptoSaid : Prop := autoNormsUptoRow.holds Try.pinned (OpenSpec.upto autoNormsSpec)

/-- 'syntagmalaw24.AutoStays', WHERE WHAT IT READS IS OF BULK AT MOST 1048576: true; the input reads as it did. -/
def autoStaysUptoRow : OpenClaim := { program := "ytfcifodaohhcbaa", sum := "d62cda3755d2c25e9ad854383cc5cc8f07d885a4bcac2b8a9198f4a0146aab86", func := "syntagma/syntagmalaw24.AutoStays", spec := "autoStays", unfollowed := true, recurses := true, apart := false, narrowed := true }
def AutoStaysUptoSaid : Prop := autoStaysUptoRow.holds Try.pinned (OpenSpec.upto autoStaysSpec)

/-- 'syntagmalaw04.LexTokens', WHERE WHAT IT READS IS OF BULK AT MOST 1048576: true; the input reads as it did. -/
def lexTokensUptoRow : OpenClaim := { program := "ytfcifodaohhcbaa", sum := "d62cda3755d2c25e9ad854383cc5cc8f07d885a4bcac2b8a9198f4a0146aab86", func := "syntagma/syntagmalaw04.LexTokens", spec := "lexTokens", inPlace := ["internal/bytealg.IndexByteString", "internal/abi.NoEscape"], unfollowed := true, recurses := true, apart := false, narrowed := true }
def LexTokensUptoSaid : Prop := lexTokensUptoRow.holds Try.pinned (OpenSpec.upto lexTokensSpec)

/-- 'syntagmalaw05.TreeMays', WHERE WHAT IT READS IS OF BULK AT MOST 1048576: true; the input reads as it did. -/
def treeMaysUptoRow : OpenClaim := { program := "ytfcifodaohhcbaa", sum := "d62cda3755d2c25e9ad854383cc5cc8f07d885a4bcac2b8a9198f4a0146aab86", func := "syntagma/syntagmalaw05.TreeMays", spec := "treeMays", unfollowed := true, recurses := true, apart := false, narrowed := true }
def TreeMaysUptoSaid : Prop := treeMaysUptoRow.holds Try.pinned (OpenSpec.upto treeMaysSpec)

end Rows
end Go.Proofs.Ytfcifodaohhcbaa
