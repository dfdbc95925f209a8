/-
  No cell of these rows narrows 'for every input' (looked for: loops, veiled, ifaces, maps, wideKeys, modest, calm, conditions, laid).
  DERIVED. THE GIVEN ROWS OF THIS SEAT. 13 by the template 'for every input the law returns true; each argument reads behind the call as it read before'; 0 by the template 'total and deterministic' (their statements: YtnhifinfjfpoiaaTotals.lean).
  GIVEN WITH THE SEED: the statements are not yours to turn. If you find one false, say at which input.
  Laid BY PROGRAM, IN A SANDBOX (cutbox-rows.mjs): the forced cells as the released guide's own fill.sh prints them over the translation 7b5780e34e708e8e… (all of the seat's roots in one cut). By AI agents, Wed Nov 11 2026. No macro, syntax, notation, axiom, sorry.
-/
import Derived.Test.YtnhifinfjfpoiaaChecked
import GoSem.Claim
import GoSem.ClaimJoined
import GoSem.ClaimMapViews
import Derived.JoinedTies
import Derived.KernelRfl
namespace Go.Proofs.Ytnhifinfjfpoiaa
/- THE CELL 'sum', in the pinned program and in every row, IS THE sha256 OF THE DUMP (.gsa) THAT YtnhifinfjfpoiaaProg.lean LOADS. Nothing in Lean hashes anything: it is a label: what it is worth is what the hold of that sum in a sandbox is worth. -/
noncomputable def Try.pinned : Pinned := { name := "ytnhifinfjfpoiaa", sum := "7b5780e34e708e8e3d3c24a2fca6f124c52cbd606ccaa954f82011f17922a003", checked := Try.checked }
namespace Rows
def none {H : Type} : Left H := { results := [], args := [] }

/-- 'laystalllaw08.RatColonies': WHATEVER THE INPUT: true; the input reads as it did. -/
def ratColoniesSpec : ChangeSpec := { name := "ratColonies", fn := fun _ => fun
  | [d1, d2, d3] => { results := [.lit (.bool true)], args := [d1, d2, d3] }
  | _ => none }
def ratColoniesRow : OpenClaim := { program := "ytnhifinfjfpoiaa", sum := "7b5780e34e708e8e3d3c24a2fca6f124c52cbd606ccaa954f82011f17922a003", func := "laystall/laystalllaw08.RatColonies", spec := "ratColonies", unfollowed := true, recurses := true, plainKeys := false, apart := false }
def RatColoniesSaid : Prop := ratColoniesRow.holds Try.pinned (OpenSpec.ofChange ratColoniesSpec)

/-- ITS FALSE NEIGHBOUR: 'it returns false'. Refute it at one input. -/
def ratColoniesWrong : ChangeSpec := { name := "ratColonies", fn := fun _ => fun
  | [d1, d2, d3] => { results := [.lit (.bool false)], args := [d1, d2, d3] }
  | _ => none }
def RatColoniesWrongFalsely : Prop := ratColoniesRow.holds Try.pinned (OpenSpec.ofChange ratColoniesWrong)

/-- 'laystalllaw08.RatAfter': WHATEVER THE INPUT: true; the input reads as it did. -/
def ratAfterSpec : ChangeSpec := { name := "ratAfter", fn := fun _ => fun
  | [d1, d2, d3] => { results := [.lit (.bool true)], args := [d1, d2, d3] }
  | _ => none }
def ratAfterRow : OpenClaim := { program := "ytnhifinfjfpoiaa", sum := "7b5780e34e708e8e3d3c24a2fca6f124c52cbd606ccaa954f82011f17922a003", func := "laystall/laystalllaw08.RatAfter", spec := "ratAfter", unfollowed := true, recurses := true, plainKeys := false, apart := false }
def RatAfterSaid : Prop := ratAfterRow.holds Try.pinned (OpenSpec.ofChange ratAfterSpec)

/-- ITS FALSE NEIGHBOUR: 'it returns false'. Refute it at one input. -/
def ratAfterWrong : ChangeSpec := { name := "ratAfter", fn := fun _ => fun
  | [d1, d2, d3] => { results := [.lit (.bool false)], args := [d1, d2, d3] }
  | _ => none }
def RatAfterWrongFalsely : Prop := ratAfterRow.holds Try.pinned (OpenSpec.ofChange ratAfterWrong)

/-- 'laystalllaw08.RatMore': WHATEVER THE INPUT: true; the input reads as it did. -/
def ratMoreSpec : ChangeSpec := { name := "ratMore", fn := fun _ => fun
  | [d1, d2, d3] => { results := [.lit (.bool true)], args := [d1, d2, d3] }
  | _ => none }
def ratMoreRow : OpenClaim := { program := "ytnhifinfjfpoiaa", sum := "7b5780e34e708e8e3d3c24a2fca6f124c52cbd606ccaa954f82011f17922a003", func := "laystall/laystalllaw08.RatMore", spec := "ratMore", unfollowed := true, recurses := true, plainKeys := false, apart := false }
def RatMoreSaid : Prop := ratMoreRow.holds Try.pinned (OpenSpec.ofChange ratMoreSpec)

/-- ITS FALSE NEIGHBOUR: 'it returns false'. Refute it at one input. -/
def ratMoreWrong : ChangeSpec := { name := "ratMore", fn := fun _ => fun
  | [d1, d2, d3] => { results := [.lit (.bool false)], args := [d1, d2, d3] }
  | _ => none }
def RatMoreWrongFalsely : Prop := ratMoreRow.holds Try.pinned (OpenSpec.ofChange ratMoreWrong)

/-- 'laystalllaw08.RatShort': WHATEVER THE INPUT: true; the input reads as it did. -/
def ratShortSpec : ChangeSpec := { name := "ratShort", fn := fun _ => fun
  | [d1, d2] => { results := [.lit (.bool true)], args := [d1, d2] }
  | _ => none }
def ratShortRow : OpenClaim := { program := "ytnhifinfjfpoiaa", sum := "7b5780e34e708e8e3d3c24a2fca6f124c52cbd606ccaa954f82011f17922a003", func := "laystall/laystalllaw08.RatShort", spec := "ratShort", unfollowed := true, recurses := true, plainKeys := false, apart := false }
def RatShortSaid : Prop := ratShortRow.holds Try.pinned (OpenSpec.ofChange ratShortSpec)

/-- ITS FALSE NEIGHBOUR: 'it returns false'. Refute it at one input. -/
def ratShortWrong : ChangeSpec := { name := "ratShort", fn := fun _ => fun
  | [d1, d2] => { results := [.lit (.bool false)], args := [d1, d2] }
  | _ => none }
def RatShortWrongFalsely : Prop := ratShortRow.holds Try.pinned (OpenSpec.ofChange ratShortWrong)

/-- 'laystalllaw08.RatTight': WHATEVER THE INPUT: true; the input reads as it did. -/
def ratTightSpec : ChangeSpec := { name := "ratTight", fn := fun _ => fun
  | [d1, d2] => { results := [.lit (.bool true)], args := [d1, d2] }
  | _ => none }
def ratTightRow : OpenClaim := { program := "ytnhifinfjfpoiaa", sum := "7b5780e34e708e8e3d3c24a2fca6f124c52cbd606ccaa954f82011f17922a003", func := "laystall/laystalllaw08.RatTight", spec := "ratTight", unfollowed := true, recurses := true, plainKeys := false, apart := false }
def RatTightSaid : Prop := ratTightRow.holds Try.pinned (OpenSpec.ofChange ratTightSpec)

/-- ITS FALSE NEIGHBOUR: 'it returns false'. Refute it at one input. -/
def ratTightWrong : ChangeSpec := { name := "ratTight", fn := fun _ => fun
  | [d1, d2] => { results := [.lit (.bool false)], args := [d1, d2] }
  | _ => none }
def RatTightWrongFalsely : Prop := ratTightRow.holds Try.pinned (OpenSpec.ofChange ratTightWrong)

/-- 'laystalllaw08.RatNext': WHATEVER THE INPUT: true; the input reads as it did. -/
def ratNextSpec : ChangeSpec := { name := "ratNext", fn := fun _ => fun
  | [d] => { results := [.lit (.bool true)], args := [d] }
  | _ => none }
def ratNextRow : OpenClaim := { program := "ytnhifinfjfpoiaa", sum := "7b5780e34e708e8e3d3c24a2fca6f124c52cbd606ccaa954f82011f17922a003", func := "laystall/laystalllaw08.RatNext", spec := "ratNext", unfollowed := true, recurses := true, plainKeys := false, apart := false }
def RatNextSaid : Prop := ratNextRow.holds Try.pinned (OpenSpec.ofChange ratNextSpec)

/-- ITS FALSE NEIGHBOUR: 'it returns false'. Refute it at one input. -/
def ratNextWrong : ChangeSpec := { name := "ratNext", fn := fun _ => fun
  | [d] => { results := [.lit (.bool false)], args := [d] }
  | _ => none }
def RatNextWrongFalsely : Prop := ratNextRow.holds Try.pinned (OpenSpec.ofChange ratNextWrong)

/-- 'laystalllaw08.RatNamed': WHATEVER THE INPUT: true; the input reads as it did. -/
def ratNamedSpec : ChangeSpec := { name := "ratNamed", fn := fun _ => fun
  | [d1, d2, d3] => { results := [.lit (.bool true)], args := [d1, d2, d3] }
  | _ => none }
def ratNamedRow : OpenClaim := { program := "ytnhifinfjfpoiaa", sum := "7b5780e34e708e8e3d3c24a2fca6f124c52cbd606ccaa954f82011f17922a003", func := "laystall/laystalllaw08.RatNamed", spec := "ratNamed", unfollowed := true, recurses := true, plainKeys := false, apart := false }
def RatNamedSaid : Prop := ratNamedRow.holds Try.pinned (OpenSpec.ofChange ratNamedSpec)

/-- ITS FALSE NEIGHBOUR: 'it returns false'. Refute it at one input. -/
def ratNamedWrong : ChangeSpec := { name := "ratNamed", fn := fun _ => fun
  | [d1, d2, d3] => { results := [.lit (.bool false)], args := [d1, d2, d3] }
  | _ => none }
def RatNamedWrongFalsely : Prop := ratNamedRow.holds Try.pinned (OpenSpec.ofChange ratNamedWrong)

/-- 'laystalllaw08.RatStarted': WHATEVER THE INPUT: true; the input reads as it did. -/
def ratStartedSpec : ChangeSpec := { name := "ratStarted", fn := fun _ => fun
  | [d1, d2] => { results := [.lit (.bool true)], args := [d1, d2] }
  | _ => none }
def ratStartedRow : OpenClaim := { program := "ytnhifinfjfpoiaa", sum := "7b5780e34e708e8e3d3c24a2fca6f124c52cbd606ccaa954f82011f17922a003", func := "laystall/laystalllaw08.RatStarted", spec := "ratStarted", unfollowed := true, recurses := true, plainKeys := false, apart := false }
def RatStartedSaid : Prop := ratStartedRow.holds Try.pinned (OpenSpec.ofChange ratStartedSpec)

/-- ITS FALSE NEIGHBOUR: 'it returns false'. Refute it at one input. -/
def ratStartedWrong : ChangeSpec := { name := "ratStarted", fn := fun _ => fun
  | [d1, d2] => { results := [.lit (.bool false)], args := [d1, d2] }
  | _ => none }
def RatStartedWrongFalsely : Prop := ratStartedRow.holds Try.pinned (OpenSpec.ofChange ratStartedWrong)

/-- 'laystalllaw08.RatBaited': WHATEVER THE INPUT: true; the input reads as it did. -/
def ratBaitedSpec : ChangeSpec := { name := "ratBaited", fn := fun _ => fun
  | [d] => { results := [.lit (.bool true)], args := [d] }
  | _ => none }
def ratBaitedRow : OpenClaim := { program := "ytnhifinfjfpoiaa", sum := "7b5780e34e708e8e3d3c24a2fca6f124c52cbd606ccaa954f82011f17922a003", func := "laystall/laystalllaw08.RatBaited", spec := "ratBaited", unfollowed := true, recurses := true, plainKeys := false, apart := false }
def RatBaitedSaid : Prop := ratBaitedRow.holds Try.pinned (OpenSpec.ofChange ratBaitedSpec)

/-- ITS FALSE NEIGHBOUR: 'it returns false'. Refute it at one input. -/
def ratBaitedWrong : ChangeSpec := { name := "ratBaited", fn := fun _ => fun
  | [d] => { results := [.lit (.bool false)], args := [d] }
  | _ => none }
def RatBaitedWrongFalsely : Prop := ratBaitedRow.holds Try.pinned (OpenSpec.ofChange ratBaitedWrong)

/-- 'laystalllaw08.RatWays': WHATEVER THE INPUT: true; the input reads as it did. -/
def ratWaysSpec : ChangeSpec := { name := "ratWays", fn := fun _ => fun
  | [d1, d2, d3, d4, d5] => { results := [.lit (.bool true)], args := [d1, d2, d3, d4, d5] }
  | _ => none }
def ratWaysRow : OpenClaim := { program := "ytnhifinfjfpoiaa", sum := "7b5780e34e708e8e3d3c24a2fca6f124c52cbd606ccaa954f82011f17922a003", func := "laystall/laystalllaw08.RatWays", spec := "ratWays", unfollowed := true, recurses := true, plainKeys := false, apart := false }
def RatWaysSaid : Prop := ratWaysRow.holds Try.pinned (OpenSpec.ofChange ratWaysSpec)

/-- ITS FALSE NEIGHBOUR: 'it returns false'. Refute it at one input. -/
def ratWaysWrong : ChangeSpec := { name := "ratWays", fn := fun _ => fun
  | [d1, d2, d3, d4, d5] => { results := [.lit (.bool false)], args := [d1, d2, d3, d4, d5] }
  | _ => none }
def RatWaysWrongFalsely : Prop := ratWaysRow.holds Try.pinned (OpenSpec.ofChange ratWaysWrong)

/-- 'laystalllaw08.RatGone': WHATEVER THE INPUT: true; the input reads as it did. -/
def ratGoneSpec : ChangeSpec := { name := "ratGone", fn := fun _ => fun
  | [d1, d2] => { results := [.lit (.bool true)], args := [d1, d2] }
  | _ => none }
def ratGoneRow : OpenClaim := { program := "ytnhifinfjfpoiaa", sum := "7b5780e34e708e8e3d3c24a2fca6f124c52cbd606ccaa954f82011f17922a003", func := "laystall/laystalllaw08.RatGone", spec := "ratGone", unfollowed := true, recurses := true, plainKeys := false, apart := false }
def RatGoneSaid : Prop := ratGoneRow.holds Try.pinned (OpenSpec.ofChange ratGoneSpec)

/-- ITS FALSE NEIGHBOUR: 'it returns false'. Refute it at one input. -/
def ratGoneWrong : ChangeSpec := { name := "ratGone", fn := fun _ => fun
  | [d1, d2] => { results := [.lit (.bool false)], args := [d1, d2] }
  | _ => none }
def RatGoneWrongFalsely : Prop := ratGoneRow.holds Try.pinned (OpenSpec.ofChange ratGoneWrong)

/-- 'laystalllaw08.RatCounts': WHATEVER THE INPUT: true; the input reads as it did. -/
def ratCountsSpec : ChangeSpec := { name := "ratCounts", fn := fun _ => fun
  | [d1, d2] => { results := [.lit (.bool true)], args := [d1, d2] }
  | _ => none }
def ratCountsRow : OpenClaim := { program := "ytnhifinfjfpoiaa", sum := "7b5780e34e708e8e3d3c24a2fca6f124c52cbd606ccaa954f82011f17922a003", func := "laystall/laystalllaw08.RatCounts", spec := "ratCounts", unfollowed := true, recurses := true, plainKeys := false, apart := false }
def RatCountsSaid : Prop := ratCountsRow.holds Try.pinned (OpenSpec.ofChange ratCountsSpec)

/-- ITS FALSE NEIGHBOUR: 'it returns false'. Refute it at one input. -/
def ratCountsWrong : ChangeSpec := { name := "ratCounts", fn := fun _ => fun
  | [d1, d2] => { results := [.lit (.bool false)], args := [d1, d2] }
  | _ => none }
def RatCountsWrongFalsely : Prop := ratCountsRow.holds Try.pinned (OpenSpec.ofChange ratCountsWrong)

/-- 'laystalllaw08.RatCounted': WHATEVER THE INPUT: true; the input reads as it did. -/
def ratCountedSpec : ChangeSpec := { name := "ratCounted", fn := fun _ => fun
  | [d] => { results := [.lit (.bool true)], args := [d] }
  | _ => none }
def ratCountedRow : OpenClaim := { program := "ytnhifinfjfpoiaa", sum := "7b5780e34e708e8e3d3c24a2fca6f124c52cbd606ccaa954f82011f17922a003", func := "laystall/laystalllaw08.RatCounted", spec := "ratCounted", unfollowed := true, recurses := true, plainKeys := false, apart := false }
def RatCountedSaid : Prop := ratCountedRow.holds Try.pinned (OpenSpec.ofChange ratCountedSpec)

/-- ITS FALSE NEIGHBOUR: 'it returns false'. Refute it at one input. -/
def ratCountedWrong : ChangeSpec := { name := "ratCounted", fn := fun _ => fun
  | [d] => { results := [.lit (.bool false)], args := [d] }
  | _ => none }
def RatCountedWrongFalsely : Prop := ratCountedRow.holds Try.pinned (OpenSpec.ofChange ratCountedWrong)

/- THE SECOND FORM. 'bulk': how many values and letters a reading holds, each counted each time it is reached (what is shared counts as often as it is met; a slice's spare places count too). A statement '..UptoSaid' is the law's where the arguments, and the package variables that the reading takes, are together of bulk at most 1048576: NARROWER than '..Said'. Prove '..Said' where nothing that the law and all that it calls make is longer than what came in: it says more and counts as full. Else prove '..UptoSaid'. A law counts once. -/
mutual
def uptoBulk {H : Type} : DataW H → Nat
  | .lit (.string bytes) => bytes.length + 1
  | .lit _ => 1
  | .nil => 1
  | .ptr d => uptoBulk d + 1
  | .slice elems spare => uptoBulkAll elems + uptoBulkAll spare + 1
  | .agg parts => uptoBulkAll parts + 1
  | .iface _ d => uptoBulk d + 1
  | .map entries => uptoBulkEntries entries + 1
  | .held _ => 1
def uptoBulkAll {H : Type} : List (DataW H) → Nat
  | [] => 0
  | d :: r => uptoBulk d + uptoBulkAll r
def uptoBulkEntries {H : Type} : List (Lit × DataW H) → Nat
  | [] => 0
  | x :: r => uptoBulkEntry x + uptoBulkEntries r
def uptoBulkEntry {H : Type} : Lit × DataW H → Nat
  | (.string bytes, d) => bytes.length + uptoBulk d + 1
  | (_, d) => uptoBulk d + 1
 end
def uptoSmall : (H : Type) → List (DataW H) → Bool := fun _ ds => decide (uptoBulkAll ds ≤ 1048576)
def OpenSpec.upto (s : _root_.Go.ChangeSpec) : _root_.Go.OpenSpec := { _root_.Go.OpenSpec.ofChange s with cond := some uptoSmall }

/-- 'laystalllaw08.RatColonies', WHERE WHAT IT READS IS OF BULK AT MOST 1048576: true; the input reads as it did. -/
def ratColoniesUptoRow : OpenClaim := { program := "ytnhifinfjfpoiaa", sum := "7b5780e34e708e8e3d3c24a2fca6f124c52cbd606ccaa954f82011f17922a003", func := "laystall/laystalllaw08.RatColonies", spec := "ratColonies", unfollowed := true, recurses := true, plainKeys := false, apart := false, narrowed := true }
def RatColoniesUptoSaid : Prop := ratColoniesUptoRow.holds Try.pinned (OpenSpec.upto ratColoniesSpec)

/-- 'laystalllaw08.RatAfter', WHERE WHAT IT READS IS OF BULK AT MOST 1048576: true; the input reads as it did. -/
def ratAfterUptoRow : OpenClaim := { program := "ytnhifinfjfpoiaa", sum := "7b5780e34e708e8e3d3c24a2fca6f124c52cbd606ccaa954f82011f17922a003", func := "laystall/laystalllaw08.RatAfter", spec := "ratAfter", unfollowed := true, recurses := true, plainKeys := false, apart := false, narrowed := true }
def RatAfterUptoSaid : Prop := ratAfterUptoRow.holds Try.pinned (OpenSpec.upto ratAfterSpec)

/-- 'laystalllaw08.RatMore', WHERE WHAT IT READS IS OF BULK AT MOST 1048576: true; the input reads as it did. -/
def ratMoreUptoRow : OpenClaim := { program := "ytnhifinfjfpoiaa", sum := "7b5780e34e708e8e3d3c24a2fca6f124c52cbd606ccaa954f82011f17922a003", func := "laystall/laystalllaw08.RatMore", spec := "ratMore", unfollowed := true, recurses := true, plainKeys := false, apart := false, narrowed := true }
def RatMoreUptoSaid : Prop := ratMoreUptoRow.holds Try.pinned (OpenSpec.upto ratMoreSpec)

/-- 'laystalllaw08.RatShort', WHERE WHAT IT READS IS OF BULK AT MOST 1048576: true; the input reads as it did. -/
def ratShortUptoRow : OpenClaim := { program := "ytnhifinfjfpoiaa", sum := "7b5780e34e708e8e3d3c24a2fca6f124c52cbd606ccaa954f82011f17922a003", func := "laystall/laystalllaw08.RatShort", spec := "ratShort", unfollowed := true, recurses := true, plainKeys := false, apart := false, narrowed := true }
def RatShortUptoSaid : Prop := ratShortUptoRow.holds Try.pinned (OpenSpec.upto ratShortSpec)

/-- 'laystalllaw08.RatTight', WHERE WHAT IT READS IS OF BULK AT MOST 1048576: true; the input reads as it did. -/
def ratTightUptoRow : OpenClaim := { program := "ytnhifinfjfpoiaa", sum := "7b5780e34e708e8e3d3c24a2fca6f124c52cbd606ccaa954f82011f17922a003", func := "laystall/laystalllaw08.RatTight", spec := "ratTight", unfollowed := true, recurses := true, plainKeys := false, apart := false, narrowed := true }
def RatTightUptoSaid : Prop := ratTightUptoRow.holds Try.pinned (OpenSpec.upto ratTightSpec)

/-- 'laystalllaw08.RatNext', WHERE WHAT IT READS IS OF BULK AT MOST 1048576: true; the input reads as it did. -/
def ratNextUptoRow : OpenClaim := { program := "ytnhifinfjfpoiaa", sum := "7b5780e34e708e8e3d3c24a2fca6f124c52cbd606ccaa954f82011f17922a003", func := "laystall/laystalllaw08.RatNext", spec := "ratNext", unfollowed := true, recurses := true, plainKeys := false, apart := false, narrowed := true }
def RatNextUptoSaid : Prop := ratNextUptoRow.holds Try.pinned (OpenSpec.upto ratNextSpec)

/-- 'laystalllaw08.RatNamed', WHERE WHAT IT READS IS OF BULK AT MOST 1048576: true; the input reads as it did. -/
def ratNamedUptoRow : OpenClaim := { program := "ytnhifinfjfpoiaa", sum := "7b5780e34e708e8e3d3c24a2fca6f124c52cbd606ccaa954f82011f17922a003", func := "laystall/laystalllaw08.RatNamed", spec := "ratNamed", unfollowed := true, recurses := true, plainKeys := false, apart := false, narrowed := true }
def RatNamedUptoSaid : Prop := ratNamedUptoRow.holds Try.pinned (OpenSpec.upto ratNamedSpec)

/-- 'laystalllaw08.RatStarted', WHERE WHAT IT READS IS OF BULK AT MOST 1048576: true; the input reads as it did. -/
def ratStartedUptoRow : OpenClaim := { program := "ytnhifinfjfpoiaa", sum := "7b5780e34e708e8e3d3c24a2fca6f124c52cbd606ccaa954f82011f17922a003", func := "laystall/laystalllaw08.RatStarted", spec := "ratStarted", unfollowed := true, recurses := true, plainKeys := false, apart := false, narrowed := true }
def RatStartedUptoSaid : Prop := ratStartedUptoRow.holds Try.pinned (OpenSpec.upto ratStartedSpec)

/-- 'laystalllaw08.RatBaited', WHERE WHAT IT READS IS OF BULK AT MOST 1048576: true; the input reads as it did. -/
def ratBaitedUptoRow : OpenClaim := { program := "ytnhifinfjfpoiaa", sum := "7b5780e34e708e8e3d3c24a2fca6f124c52cbd606ccaa954f82011f17922a003", func := "laystall/laystalllaw08.RatBaited", spec := "ratBaited", unfollowed := true, recurses := true, plainKeys := false, apart := false, narrowed := true }
def RatBaitedUptoSaid : Prop := ratBaitedUptoRow.holds Try.pinned (OpenSpec.upto ratBaitedSpec)

/-- 'laystalllaw08.RatWays', WHERE WHAT IT READS IS OF BULK AT MOST 1048576: true; the input reads as it did. -/
def ratWaysUptoRow : OpenClaim := { program := "ytnhifinfjfpoiaa", sum := "7b5780e34e708e8e3d3c24a2fca6f124c52cbd606ccaa954f82011f17922a003", func := "laystall/laystalllaw08.RatWays", spec := "ratWays", unfollowed := true, recurses := true, plainKeys := false, apart := false, narrowed := true }
def RatWaysUptoSaid : Prop := ratWaysUptoRow.holds Try.pinned (OpenSpec.upto ratWaysSpec)

/-- 'laystalllaw08.RatGone', WHERE WHAT IT READS IS OF BULK AT MOST 1048576: true; the input reads as it did. -/
def ratGoneUptoRow : OpenClaim := { program := "ytnhifinfjfpoiaa", sum := "7b5780e34e708e8e3d3c24a2fca6f124c52cbd606ccaa954f82011f17922a003", func := "laystall/laystalllaw08.RatGone", spec := "ratGone", unfollowed := true, recurses := true, plainKeys := false, apart := false, narrowed := true }
def RatGoneUptoSaid : Prop := ratGoneUptoRow.holds Try.pinned (OpenSpec.upto ratGoneSpec)

/-- 'laystalllaw08.RatCounts', WHERE WHAT IT READS IS OF BULK AT MOST 1048576: true; the input reads as it did. -/
def ratCountsUptoRow : OpenClaim := { program := "ytnhifinfjfpoiaa", sum := "7b5780e34e708e8e3d3c24a2fca6f124c52cbd606ccaa954f82011f17922a003", func := "laystall/laystalllaw08.RatCounts", spec := "ratCounts", unfollowed := true, recurses := true, plainKeys := false, apart := false, narrowed := true }
def RatCountsUptoSaid : Prop := ratCountsUptoRow.holds Try.pinned (OpenSpec.upto ratCountsSpec)

/-- 'laystalllaw08.RatCounted', WHERE WHAT IT READS IS OF BULK AT MOST 1048576: true; the input reads as it did. -/
def ratCountedUptoRow : OpenClaim := { program := "ytnhifinfjfpoiaa", sum := "7b5780e34e708e8e3d3c24a2fca6f124c52cbd606ccaa954f82011f17922a003", func := "laystall/laystalllaw08.RatCounted", spec := "ratCounted", unfollowed := true, recurses := true, plainKeys := false, apart := false, narrowed := true }
def RatCountedUptoSaid : Prop := ratCountedUptoRow.holds Try.pinned (OpenSpec.upto ratCountedSpec)

end Rows
end Go.Proofs.Ytnhifinfjfpoiaa
