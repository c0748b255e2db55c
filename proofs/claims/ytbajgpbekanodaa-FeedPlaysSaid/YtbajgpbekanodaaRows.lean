/-
  No cell of these rows narrows 'for every input' (looked for: loops, veiled, ifaces, maps, wideKeys, modest, calm, conditions, laid).
  DERIVED. THE GIVEN ROWS OF THIS SEAT. 12 by the template 'for every input the law returns true; each argument reads behind the call as it read before'; 0 by the template 'total and deterministic' (their statements: YtbajgpbekanodaaTotals.lean).
  GIVEN WITH THE SEED: the statements are not yours to turn. If you find one false, say at which input.
  Laid BY PROGRAM, IN A SANDBOX (cutbox-rows.mjs): the forced cells as the released guide's own fill.sh prints them over the translation 63c28890739f2f13… (all of the seat's roots in one cut). By AI agents, Wed Nov 11 2026. No macro, syntax, notation, axiom, sorry.
-/
import Derived.Test.YtbajgpbekanodaaChecked
import GoSem.Claim
import GoSem.ClaimJoined
import GoSem.ClaimMapViews
import Derived.JoinedTies
import Derived.KernelRfl
namespace Go.Proofs.Ytbajgpbekanodaa
/- THE CELL 'sum', in the pinned program and in every row, IS THE sha256 OF THE DUMP (.gsa) THAT YtbajgpbekanodaaProg.lean LOADS. Nothing in Lean hashes anything: it is a label: what it is worth is what the hold of that sum in a sandbox is worth. -/
noncomputable def Try.pinned : Pinned := { name := "ytbajgpbekanodaa", sum := "63c28890739f2f13e7beb23b29019ae76f65ad2c80f59a13e51ae7e8a6083aab", checked := Try.checked }
namespace Rows
def none {H : Type} : Left H := { results := [], args := [] }

/-- 'pandectlaw38.DigestClash': WHATEVER THE INPUT: true; the input reads as it did. -/
def digestClashSpec : ChangeSpec := { name := "digestClash", fn := fun _ => fun
  | [d1, d2, d3] => { results := [.lit (.bool true)], args := [d1, d2, d3] }
  | _ => none }
def digestClashRow : OpenClaim := { program := "ytbajgpbekanodaa", sum := "63c28890739f2f13e7beb23b29019ae76f65ad2c80f59a13e51ae7e8a6083aab", func := "pandect/pandectlaw38.DigestClash", spec := "digestClash", inPlace := ["internal/abi.NoEscape", "internal/bytealg.MakeNoZero", "internal/bytealg.IndexByteString"], recurses := true, apart := false }
def DigestClashSaid : Prop := digestClashRow.holds Try.pinned (OpenSpec.ofChange digestClashSpec)

/-- ITS FALSE NEIGHBOUR: 'it returns false'. Refute it at one input. -/
def digestClashWrong : ChangeSpec := { name := "digestClash", fn := fun _ => fun
  | [d1, d2, d3] => { results := [.lit (.bool false)], args := [d1, d2, d3] }
  | _ => none }
def DigestClashWrongFalsely : Prop := digestClashRow.holds Try.pinned (OpenSpec.ofChange digestClashWrong)

/-- 'pandectlaw38.DigestSums': WHATEVER THE INPUT: true; the input reads as it did. -/
def digestSumsSpec : ChangeSpec := { name := "digestSums", fn := fun _ => fun
  | [d] => { results := [.lit (.bool true)], args := [d] }
  | _ => none }
def digestSumsRow : OpenClaim := { program := "ytbajgpbekanodaa", sum := "63c28890739f2f13e7beb23b29019ae76f65ad2c80f59a13e51ae7e8a6083aab", func := "pandect/pandectlaw38.DigestSums", spec := "digestSums", inPlace := ["internal/abi.NoEscape", "internal/bytealg.MakeNoZero", "internal/bytealg.IndexByteString"], recurses := true, apart := false }
def DigestSumsSaid : Prop := digestSumsRow.holds Try.pinned (OpenSpec.ofChange digestSumsSpec)

/-- ITS FALSE NEIGHBOUR: 'it returns false'. Refute it at one input. -/
def digestSumsWrong : ChangeSpec := { name := "digestSums", fn := fun _ => fun
  | [d] => { results := [.lit (.bool false)], args := [d] }
  | _ => none }
def DigestSumsWrongFalsely : Prop := digestSumsRow.holds Try.pinned (OpenSpec.ofChange digestSumsWrong)

/-- 'pandectlaw38.DigestDigits': WHATEVER THE INPUT: true; the input reads as it did. -/
def digestDigitsSpec : ChangeSpec := { name := "digestDigits", fn := fun _ => fun
  | [d] => { results := [.lit (.bool true)], args := [d] }
  | _ => none }
def digestDigitsRow : OpenClaim := { program := "ytbajgpbekanodaa", sum := "63c28890739f2f13e7beb23b29019ae76f65ad2c80f59a13e51ae7e8a6083aab", func := "pandect/pandectlaw38.DigestDigits", spec := "digestDigits", inPlace := ["internal/abi.NoEscape", "internal/bytealg.MakeNoZero", "internal/bytealg.IndexByteString"], recurses := true, apart := false }
def DigestDigitsSaid : Prop := digestDigitsRow.holds Try.pinned (OpenSpec.ofChange digestDigitsSpec)

/-- ITS FALSE NEIGHBOUR: 'it returns false'. Refute it at one input. -/
def digestDigitsWrong : ChangeSpec := { name := "digestDigits", fn := fun _ => fun
  | [d] => { results := [.lit (.bool false)], args := [d] }
  | _ => none }
def DigestDigitsWrongFalsely : Prop := digestDigitsRow.holds Try.pinned (OpenSpec.ofChange digestDigitsWrong)

/-- 'pandectlaw38.DigestRoots': WHATEVER THE INPUT: true; the input reads as it did. -/
def digestRootsSpec : ChangeSpec := { name := "digestRoots", fn := fun _ => fun
  | [d1, d2] => { results := [.lit (.bool true)], args := [d1, d2] }
  | _ => none }
def digestRootsRow : OpenClaim := { program := "ytbajgpbekanodaa", sum := "63c28890739f2f13e7beb23b29019ae76f65ad2c80f59a13e51ae7e8a6083aab", func := "pandect/pandectlaw38.DigestRoots", spec := "digestRoots", inPlace := ["internal/abi.NoEscape", "internal/bytealg.MakeNoZero", "internal/bytealg.IndexByteString"], recurses := true, apart := false }
def DigestRootsSaid : Prop := digestRootsRow.holds Try.pinned (OpenSpec.ofChange digestRootsSpec)

/-- ITS FALSE NEIGHBOUR: 'it returns false'. Refute it at one input. -/
def digestRootsWrong : ChangeSpec := { name := "digestRoots", fn := fun _ => fun
  | [d1, d2] => { results := [.lit (.bool false)], args := [d1, d2] }
  | _ => none }
def DigestRootsWrongFalsely : Prop := digestRootsRow.holds Try.pinned (OpenSpec.ofChange digestRootsWrong)

/-- 'pandectlaw38.DigestChecks': WHATEVER THE INPUT: true; the input reads as it did. -/
def digestChecksSpec : ChangeSpec := { name := "digestChecks", fn := fun _ => fun
  | [d1, d2] => { results := [.lit (.bool true)], args := [d1, d2] }
  | _ => none }
def digestChecksRow : OpenClaim := { program := "ytbajgpbekanodaa", sum := "63c28890739f2f13e7beb23b29019ae76f65ad2c80f59a13e51ae7e8a6083aab", func := "pandect/pandectlaw38.DigestChecks", spec := "digestChecks", inPlace := ["internal/abi.NoEscape", "internal/bytealg.MakeNoZero", "internal/bytealg.IndexByteString"], recurses := true, apart := false }
def DigestChecksSaid : Prop := digestChecksRow.holds Try.pinned (OpenSpec.ofChange digestChecksSpec)

/-- ITS FALSE NEIGHBOUR: 'it returns false'. Refute it at one input. -/
def digestChecksWrong : ChangeSpec := { name := "digestChecks", fn := fun _ => fun
  | [d1, d2] => { results := [.lit (.bool false)], args := [d1, d2] }
  | _ => none }
def DigestChecksWrongFalsely : Prop := digestChecksRow.holds Try.pinned (OpenSpec.ofChange digestChecksWrong)

/-- 'pandectlaw38.DigestProves': WHATEVER THE INPUT: true; the input reads as it did. -/
def digestProvesSpec : ChangeSpec := { name := "digestProves", fn := fun _ => fun
  | [d1, d2] => { results := [.lit (.bool true)], args := [d1, d2] }
  | _ => none }
def digestProvesRow : OpenClaim := { program := "ytbajgpbekanodaa", sum := "63c28890739f2f13e7beb23b29019ae76f65ad2c80f59a13e51ae7e8a6083aab", func := "pandect/pandectlaw38.DigestProves", spec := "digestProves", inPlace := ["internal/abi.NoEscape", "internal/bytealg.MakeNoZero", "internal/bytealg.IndexByteString"], recurses := true, apart := false }
def DigestProvesSaid : Prop := digestProvesRow.holds Try.pinned (OpenSpec.ofChange digestProvesSpec)

/-- ITS FALSE NEIGHBOUR: 'it returns false'. Refute it at one input. -/
def digestProvesWrong : ChangeSpec := { name := "digestProves", fn := fun _ => fun
  | [d1, d2] => { results := [.lit (.bool false)], args := [d1, d2] }
  | _ => none }
def DigestProvesWrongFalsely : Prop := digestProvesRow.holds Try.pinned (OpenSpec.ofChange digestProvesWrong)

/-- 'pandectlaw38.DigestParts': WHATEVER THE INPUT: true; the input reads as it did. -/
def digestPartsSpec : ChangeSpec := { name := "digestParts", fn := fun _ => fun
  | [d1, d2, d3] => { results := [.lit (.bool true)], args := [d1, d2, d3] }
  | _ => none }
def digestPartsRow : OpenClaim := { program := "ytbajgpbekanodaa", sum := "63c28890739f2f13e7beb23b29019ae76f65ad2c80f59a13e51ae7e8a6083aab", func := "pandect/pandectlaw38.DigestParts", spec := "digestParts", inPlace := ["internal/abi.NoEscape", "internal/bytealg.MakeNoZero", "internal/bytealg.IndexByteString"], recurses := true, apart := false }
def DigestPartsSaid : Prop := digestPartsRow.holds Try.pinned (OpenSpec.ofChange digestPartsSpec)

/-- ITS FALSE NEIGHBOUR: 'it returns false'. Refute it at one input. -/
def digestPartsWrong : ChangeSpec := { name := "digestParts", fn := fun _ => fun
  | [d1, d2, d3] => { results := [.lit (.bool false)], args := [d1, d2, d3] }
  | _ => none }
def DigestPartsWrongFalsely : Prop := digestPartsRow.holds Try.pinned (OpenSpec.ofChange digestPartsWrong)

/-- 'pandectlaw39.FeedClash': WHATEVER THE INPUT: true; the input reads as it did. -/
def feedClashSpec : ChangeSpec := { name := "feedClash", fn := fun _ => fun
  | [d1, d2, d3] => { results := [.lit (.bool true)], args := [d1, d2, d3] }
  | _ => none }
def feedClashRow : OpenClaim := { program := "ytbajgpbekanodaa", sum := "63c28890739f2f13e7beb23b29019ae76f65ad2c80f59a13e51ae7e8a6083aab", func := "pandect/pandectlaw39.FeedClash", spec := "feedClash", inPlace := ["internal/abi.NoEscape", "internal/bytealg.MakeNoZero"], unfollowed := true, recurses := true, apart := false }
def FeedClashSaid : Prop := feedClashRow.holds Try.pinned (OpenSpec.ofChange feedClashSpec)

/-- ITS FALSE NEIGHBOUR: 'it returns false'. Refute it at one input. -/
def feedClashWrong : ChangeSpec := { name := "feedClash", fn := fun _ => fun
  | [d1, d2, d3] => { results := [.lit (.bool false)], args := [d1, d2, d3] }
  | _ => none }
def FeedClashWrongFalsely : Prop := feedClashRow.holds Try.pinned (OpenSpec.ofChange feedClashWrong)

/-- 'pandectlaw39.FeedPlays': WHATEVER THE INPUT: true; the input reads as it did. -/
def feedPlaysSpec : ChangeSpec := { name := "feedPlays", fn := fun _ => fun
  | [d1, d2, d3] => { results := [.lit (.bool true)], args := [d1, d2, d3] }
  | _ => none }
def feedPlaysRow : OpenClaim := { program := "ytbajgpbekanodaa", sum := "63c28890739f2f13e7beb23b29019ae76f65ad2c80f59a13e51ae7e8a6083aab", func := "pandect/pandectlaw39.FeedPlays", spec := "feedPlays", inPlace := ["internal/abi.NoEscape", "internal/bytealg.MakeNoZero"], unfollowed := true, recurses := true, apart := false }
def FeedPlaysSaid : Prop := feedPlaysRow.holds Try.pinned (OpenSpec.ofChange feedPlaysSpec)

/-- ITS FALSE NEIGHBOUR: 'it returns false'. Refute it at one input. -/
def feedPlaysWrong : ChangeSpec := { name := "feedPlays", fn := fun _ => fun
  | [d1, d2, d3] => { results := [.lit (.bool false)], args := [d1, d2, d3] }
  | _ => none }
def FeedPlaysWrongFalsely : Prop := feedPlaysRow.holds Try.pinned (OpenSpec.ofChange feedPlaysWrong)

/-- 'pandectlaw39.FeedFollows': WHATEVER THE INPUT: true; the input reads as it did. -/
def feedFollowsSpec : ChangeSpec := { name := "feedFollows", fn := fun _ => fun
  | [d1, d2, d3] => { results := [.lit (.bool true)], args := [d1, d2, d3] }
  | _ => none }
def feedFollowsRow : OpenClaim := { program := "ytbajgpbekanodaa", sum := "63c28890739f2f13e7beb23b29019ae76f65ad2c80f59a13e51ae7e8a6083aab", func := "pandect/pandectlaw39.FeedFollows", spec := "feedFollows", inPlace := ["internal/abi.NoEscape", "internal/bytealg.MakeNoZero"], unfollowed := true, recurses := true, apart := false }
def FeedFollowsSaid : Prop := feedFollowsRow.holds Try.pinned (OpenSpec.ofChange feedFollowsSpec)

/-- ITS FALSE NEIGHBOUR: 'it returns false'. Refute it at one input. -/
def feedFollowsWrong : ChangeSpec := { name := "feedFollows", fn := fun _ => fun
  | [d1, d2, d3] => { results := [.lit (.bool false)], args := [d1, d2, d3] }
  | _ => none }
def FeedFollowsWrongFalsely : Prop := feedFollowsRow.holds Try.pinned (OpenSpec.ofChange feedFollowsWrong)

/-- 'pandectlaw39.FeedGoes': WHATEVER THE INPUT: true; the input reads as it did. -/
def feedGoesSpec : ChangeSpec := { name := "feedGoes", fn := fun _ => fun
  | [d1, d2, d3] => { results := [.lit (.bool true)], args := [d1, d2, d3] }
  | _ => none }
def feedGoesRow : OpenClaim := { program := "ytbajgpbekanodaa", sum := "63c28890739f2f13e7beb23b29019ae76f65ad2c80f59a13e51ae7e8a6083aab", func := "pandect/pandectlaw39.FeedGoes", spec := "feedGoes", inPlace := ["internal/abi.NoEscape", "internal/bytealg.MakeNoZero"], unfollowed := true, recurses := true, apart := false }
def FeedGoesSaid : Prop := feedGoesRow.holds Try.pinned (OpenSpec.ofChange feedGoesSpec)

/-- ITS FALSE NEIGHBOUR: 'it returns false'. Refute it at one input. -/
def feedGoesWrong : ChangeSpec := { name := "feedGoes", fn := fun _ => fun
  | [d1, d2, d3] => { results := [.lit (.bool false)], args := [d1, d2, d3] }
  | _ => none }
def FeedGoesWrongFalsely : Prop := feedGoesRow.holds Try.pinned (OpenSpec.ofChange feedGoesWrong)

/-- 'pandectlaw39.FeedHashes': WHATEVER THE INPUT: true; the input reads as it did. -/
def feedHashesSpec : ChangeSpec := { name := "feedHashes", fn := fun _ => fun
  | [d1, d2, d3] => { results := [.lit (.bool true)], args := [d1, d2, d3] }
  | _ => none }
def feedHashesRow : OpenClaim := { program := "ytbajgpbekanodaa", sum := "63c28890739f2f13e7beb23b29019ae76f65ad2c80f59a13e51ae7e8a6083aab", func := "pandect/pandectlaw39.FeedHashes", spec := "feedHashes", inPlace := ["internal/abi.NoEscape", "internal/bytealg.MakeNoZero"], unfollowed := true, recurses := true, apart := false }
def FeedHashesSaid : Prop := feedHashesRow.holds Try.pinned (OpenSpec.ofChange feedHashesSpec)

/-- ITS FALSE NEIGHBOUR: 'it returns false'. Refute it at one input. -/
def feedHashesWrong : ChangeSpec := { name := "feedHashes", fn := fun _ => fun
  | [d1, d2, d3] => { results := [.lit (.bool false)], args := [d1, d2, d3] }
  | _ => none }
def FeedHashesWrongFalsely : Prop := feedHashesRow.holds Try.pinned (OpenSpec.ofChange feedHashesWrong)

/- THE SECOND FORM. 'bulk': how many values and letters a reading holds, each counted each time it is reached (what is shared counts as often as it is met; a slice's spare places count too). A statement '..UptoSaid' is the law's where the arguments, and the package variables that the reading takes, are together of bulk at most 1048576: NARROWER than '..Said'. Prove '..Said' where nothing that the law and all that it calls make is longer than what came in: it says more and counts as full. Else prove '..UptoSaid'. A law counts once. -/
mutual
def uptoBulk {H : Type} : DataW H → Nat
  | .lit (.string bytes) => bytes.length + 1
  | .lit _ => 1
  | .nil => 1
  | .ptr d => uptoBulk d + 1
  | .slice elems spare => uptoBulkAll elems + uptoBulkAll spare + 1
  | .agg parts => uptoBulkAll parts + 1
  | .iface _ d => uptoBulk d + 1
  | .map entries => uptoBulkEntries entries + 1
  | .held _ => 1
def uptoBulkAll {H : Type} : List (DataW H) → Nat
  | [] => 0
  | d :: r => uptoBulk d + uptoBulkAll r
def uptoBulkEntries {H : Type} : List (Lit × DataW H) → Nat
  | [] => 0
  | x :: r => uptoBulkEntry x + uptoBulkEntries r
def uptoBulkEntry {H : Type} : Lit × DataW H → Nat
  | (.string bytes, d) => bytes.length + uptoBulk d + 1
  | (_, d) => uptoBulk d + 1
 end
def uptoSmall : (H : Type) → List (DataW H) → Bool := fun _ ds => decide (uptoBulkAll ds ≤ 1048576)
def OpenSpec.upto (s : _root_.Go.ChangeSpec) : _root_.Go.OpenSpec := { _root_.Go.OpenSpec.ofChange s with cond := some uptoSmall }

/-- 'pandectlaw38.DigestClash', WHERE WHAT IT READS IS OF BULK AT MOST 1048576: true; the input reads as it did. -/
def digestClashUptoRow : OpenClaim := { program := "ytbajgpbekanodaa", sum := "63c28890739f2f13e7beb23b29019ae76f65ad2c80f59a13e51ae7e8a6083aab", func := "pandect/pandectlaw38.DigestClash", spec := "digestClash", inPlace := ["internal/abi.NoEscape", "internal/bytealg.MakeNoZero", "internal/bytealg.IndexByteString"], recurses := true, apart := false, narrowed := true }
def DigestClashUptoSaid : Prop := digestClashUptoRow.holds Try.pinned (OpenSpec.upto digestClashSpec)

/-- 'pandectlaw38.DigestSums', WHERE WHAT IT READS IS OF BULK AT MOST 1048576: true; the input reads as it did. -/
def digestSumsUptoRow : OpenClaim := { program := "ytbajgpbekanodaa", sum := "63c28890739f2f13e7beb23b29019ae76f65ad2c80f59a13e51ae7e8a6083aab", func := "pandect/pandectlaw38.DigestSums", spec := "digestSums", inPlace := ["internal/abi.NoEscape", "internal/bytealg.MakeNoZero", "internal/bytealg.IndexByteString"], recurses := true, apart := false, narrowed := true }
def DigestSumsUptoSaid : Prop := digestSumsUptoRow.holds Try.pinned (OpenSpec.upto digestSumsSpec)

/-- 'pandectlaw38.DigestDigits', WHERE WHAT IT READS IS OF BULK AT MOST 1048576: true; the input reads as it did. -/
def digestDigitsUptoRow : OpenClaim := { program := "ytbajgpbekanodaa", sum := "63c28890739f2f13e7beb23b29019ae76f65ad2c80f59a13e51ae7e8a6083aab", func := "pandect/pandectlaw38.DigestDigits", spec := "digestDigits", inPlace := ["internal/abi.NoEscape", "internal/bytealg.MakeNoZero", "internal/bytealg.IndexByteString"], recurses := true, apart := false, narrowed := true }
def DigestDigitsUptoSaid : Prop := digestDigitsUptoRow.holds Try.pinned (OpenSpec.upto digestDigitsSpec)

/-- 'pandectlaw38.DigestRoots', WHERE WHAT IT READS IS OF BULK AT MOST 1048576: true; the input reads as it did. -/
def digestRootsUptoRow : OpenClaim := { program := "ytbajgpbekanodaa", sum := "63c28890739f2f13e7beb23b29019ae76f65ad2c80f59a13e51ae7e8a6083aab", func := "pandect/pandectlaw38.DigestRoots", spec := "digestRoots", inPlace := ["internal/abi.NoEscape", "internal/bytealg.MakeNoZero", "internal/bytealg.IndexByteString"], recurses := true, apart := false, narrowed := true }
def DigestRootsUptoSaid : Prop := digestRootsUptoRow.holds Try.pinned (OpenSpec.upto digestRootsSpec)

/-- 'pandectlaw38.DigestChecks', WHERE WHAT IT READS IS OF BULK AT MOST 1048576: true; the input reads as it did. -/
def digestChecksUptoRow : OpenClaim := { program := "ytbajgpbekanodaa", sum := "63c28890739f2f13e7beb23b29019ae76f65ad2c80f59a13e51ae7e8a6083aab", func := "pandect/pandectlaw38.DigestChecks", spec := "digestChecks", inPlace := ["internal/abi.NoEscape", "internal/bytealg.MakeNoZero", "internal/bytealg.IndexByteString"], recurses := true, apart := false, narrowed := true }
def DigestChecksUptoSaid : Prop := digestChecksUptoRow.holds Try.pinned (OpenSpec.upto digestChecksSpec)

/-- 'pandectlaw38.DigestProves', WHERE WHAT IT READS IS OF BULK AT MOST 1048576: true; the input reads as it did. -/
def digestProvesUptoRow : OpenClaim := { program := "ytbajgpbekanodaa", sum := "63c28890739f2f13e7beb23b29019ae76f65ad2c80f59a13e51ae7e8a6083aab", func := "pandect/pandectlaw38.DigestProves", spec := "digestProves", inPlace := ["internal/abi.NoEscape", "internal/bytealg.MakeNoZero", "internal/bytealg.IndexByteString"], recurses := true, apart := false, narrowed := true }
def DigestProvesUptoSaid : Prop := digestProvesUptoRow.holds Try.pinned (OpenSpec.upto digestProvesSpec)

/-- 'pandectlaw38.DigestParts', WHERE WHAT IT READS IS OF BULK AT MOST 1048576: true; the input reads as it did. -/
def digestPartsUptoRow : OpenClaim := { program := "ytbajgpbekanodaa", sum := "63c28890739f2f13e7beb23b29019ae76f65ad2c80f59a13e51ae7e8a6083aab", func := "pandect/pandectlaw38.DigestParts", spec := "digestParts", inPlace := ["internal/abi.NoEscape", "internal/bytealg.MakeNoZero", "internal/bytealg.IndexByteString"], recurses := true, apart := false, narrowed := true }
def DigestPartsUptoSaid : Prop := digestPartsUptoRow.holds Try.pinned (OpenSpec.upto digestPartsSpec)

/-- 'pandectlaw39.FeedClash', WHERE WHAT IT READS IS OF BULK AT MOST 1048576: true; the input reads as it did. -/
def feedClashUptoRow : OpenClaim := { program := "ytbajgpbekanodaa", sum := "63c28890739f2f13e7beb23b29019ae76f65ad2c80f59a13e51ae7e8a6083aab", func := "pandect/pandectlaw39.FeedClash", spec := "feedClash", inPlace := ["internal/abi.NoEscape", "internal/bytealg.MakeNoZero"], unfollowed := true, recurses := true, apart := false, narrowed := true }
def FeedClashUptoSaid : Prop := feedClashUptoRow.holds Try.pinned (OpenSpec.upto feedClashSpec)

/-- 'pandectlaw39.FeedPlays', WHERE WHAT IT READS IS OF BULK AT MOST 1048576: true; the input reads as it did. -/
def feedPlaysUptoRow : OpenClaim := { program := "ytbajgpbekanodaa", sum := "63c28890739f2f13e7beb23b29019ae76f65ad2c80f59a13e51ae7e8a6083aab", func := "pandect/pandectlaw39.FeedPlays", spec := "feedPlays", inPlace := ["internal/abi.NoEscape", "internal/bytealg.MakeNoZero"], unfollowed := true, recurses := true, apart := false, narrowed := true }
def FeedPlaysUptoSaid : Prop := feedPlaysUptoRow.holds Try.pinned (OpenSpec.upto feedPlaysSpec)

/-- 'pandectlaw39.FeedFollows', WHERE WHAT IT READS IS OF BULK AT MOST 1048576: true; the input reads as it did. -/
def feedFollowsUptoRow : OpenClaim := { program := "ytbajgpbekanodaa", sum := "63c28890739f2f13e7beb23b29019ae76f65ad2c80f59a13e51ae7e8a6083aab", func := "pandect/pandectlaw39.FeedFollows", spec := "feedFollows", inPlace := ["internal/abi.NoEscape", "internal/bytealg.MakeNoZero"], unfollowed := true, recurses := true, apart := false, narrowed := true }
def FeedFollowsUptoSaid : Prop := feedFollowsUptoRow.holds Try.pinned (OpenSpec.upto feedFollowsSpec)

/-- 'pandectlaw39.FeedGoes', WHERE WHAT IT READS IS OF BULK AT MOST 1048576: true; the input reads as it did. -/
def feedGoesUptoRow : OpenClaim := { program := "ytbajgpbekanodaa", sum := "63c28890739f2f13e7beb23b29019ae76f65ad2c80f59a13e51ae7e8a6083aab", func := "pandect/pandectlaw39.FeedGoes", spec := "feedGoes", inPlace := ["internal/abi.NoEscape", "internal/bytealg.MakeNoZero"], unfollowed := true, recurses := true, apart := false, narrowed := true }
def FeedGoesUptoSaid : Prop := feedGoesUptoRow.holds Try.pinned (OpenSpec.upto feedGoesSpec)

/-- 'pandectlaw39.FeedHashes', WHERE WHAT IT READS IS OF BULK AT MOST 1048576: true; the input reads as it did. -/
def feedHashesUptoRow : OpenClaim := { program := "ytbajgpbekanodaa", sum := "63c28890739f2f13e7beb23b29019ae76f65ad2c80f59a13e51ae7e8a6083aab", func := "pandect/pandectlaw39.FeedHashes", spec := "feedHashes", inPlace := ["internal/abi.NoEscape", "internal/bytealg.MakeNoZero"], unfollowed := true, recurses := true, apart := false, narrowed := true }
def FeedHashesUptoSaid : Prop := feedHashesUptoRow.holds Try.pinned (OpenSpec.upto feedHashesSpec)

end Rows
end Go.Proofs.Ytbajgpbekanodaa
