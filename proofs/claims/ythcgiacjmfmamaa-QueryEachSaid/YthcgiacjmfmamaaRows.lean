/-
  No cell of these rows narrows 'for every input' (looked for: loops, veiled, ifaces, maps, wideKeys, modest, calm, conditions, laid).
  DERIVED. THE GIVEN ROWS OF THIS SEAT. 10 by the template 'for every input the law returns true; each argument reads behind the call as it read before'; 0 by the template 'total and deterministic' (their statements: YthcgiacjmfmamaaTotals.lean).
  GIVEN WITH THE SEED: the statements are not yours to turn. If you find one false, say at which input.
  Laid BY PROGRAM, IN A SANDBOX (cutbox-rows.mjs): the forced cells as the released guide's own fill.sh prints them over the translation ea962845390c0776… (all of the seat's roots in one cut). By AI agents, Wed Nov 11 2026. No macro, syntax, notation, axiom, sorry.
-/
import Derived.Test.YthcgiacjmfmamaaChecked
import GoSem.Claim
import GoSem.ClaimJoined
import GoSem.ClaimMapViews
import Derived.JoinedTies
import Derived.KernelRfl
namespace Go.Proofs.Ythcgiacjmfmamaa
/- THE CELL 'sum', in the pinned program and in every row, IS THE sha256 OF THE DUMP (.gsa) THAT YthcgiacjmfmamaaProg.lean LOADS. Nothing in Lean hashes anything: it is a label: what it is worth is what the hold of that sum in a sandbox is worth. -/
noncomputable def Try.pinned : Pinned := { name := "ythcgiacjmfmamaa", sum := "ea962845390c07768df19a844b6f84d648f1f3f2adee9946d100ab1b504f601a", checked := Try.checked }
namespace Rows
def none {H : Type} : Left H := { results := [], args := [] }

/-- 'hedgerowlaw12.QueryMatches': WHATEVER THE INPUT: true; the input reads as it did. -/
def queryMatchesSpec : ChangeSpec := { name := "queryMatches", fn := fun _ => fun
  | [d1, d2] => { results := [.lit (.bool true)], args := [d1, d2] }
  | _ => none }
def queryMatchesRow : OpenClaim := { program := "ythcgiacjmfmamaa", sum := "ea962845390c07768df19a844b6f84d648f1f3f2adee9946d100ab1b504f601a", func := "hedgerow/hedgerowlaw12.QueryMatches", spec := "queryMatches", unfollowed := true, recurses := true, plainKeys := false, apart := false }
def QueryMatchesSaid : Prop := queryMatchesRow.holds Try.pinned (OpenSpec.ofChange queryMatchesSpec)

/-- ITS FALSE NEIGHBOUR: 'it returns false'. Refute it at one input. -/
def queryMatchesWrong : ChangeSpec := { name := "queryMatches", fn := fun _ => fun
  | [d1, d2] => { results := [.lit (.bool false)], args := [d1, d2] }
  | _ => none }
def QueryMatchesWrongFalsely : Prop := queryMatchesRow.holds Try.pinned (OpenSpec.ofChange queryMatchesWrong)

/-- 'hedgerowlaw12.QueryWithin': WHATEVER THE INPUT: true; the input reads as it did. -/
def queryWithinSpec : ChangeSpec := { name := "queryWithin", fn := fun _ => fun
  | [d1, d2, d3] => { results := [.lit (.bool true)], args := [d1, d2, d3] }
  | _ => none }
def queryWithinRow : OpenClaim := { program := "ythcgiacjmfmamaa", sum := "ea962845390c07768df19a844b6f84d648f1f3f2adee9946d100ab1b504f601a", func := "hedgerow/hedgerowlaw12.QueryWithin", spec := "queryWithin", unfollowed := true, recurses := true, plainKeys := false, apart := false }
def QueryWithinSaid : Prop := queryWithinRow.holds Try.pinned (OpenSpec.ofChange queryWithinSpec)

/-- ITS FALSE NEIGHBOUR: 'it returns false'. Refute it at one input. -/
def queryWithinWrong : ChangeSpec := { name := "queryWithin", fn := fun _ => fun
  | [d1, d2, d3] => { results := [.lit (.bool false)], args := [d1, d2, d3] }
  | _ => none }
def QueryWithinWrongFalsely : Prop := queryWithinRow.holds Try.pinned (OpenSpec.ofChange queryWithinWrong)

/-- 'hedgerowlaw12.QueryNear': WHATEVER THE INPUT: true; the input reads as it did. -/
def queryNearSpec : ChangeSpec := { name := "queryNear", fn := fun _ => fun
  | [d1, d2, d3] => { results := [.lit (.bool true)], args := [d1, d2, d3] }
  | _ => none }
def queryNearRow : OpenClaim := { program := "ythcgiacjmfmamaa", sum := "ea962845390c07768df19a844b6f84d648f1f3f2adee9946d100ab1b504f601a", func := "hedgerow/hedgerowlaw12.QueryNear", spec := "queryNear", unfollowed := true, recurses := true, plainKeys := false, apart := false }
def QueryNearSaid : Prop := queryNearRow.holds Try.pinned (OpenSpec.ofChange queryNearSpec)

/-- ITS FALSE NEIGHBOUR: 'it returns false'. Refute it at one input. -/
def queryNearWrong : ChangeSpec := { name := "queryNear", fn := fun _ => fun
  | [d1, d2, d3] => { results := [.lit (.bool false)], args := [d1, d2, d3] }
  | _ => none }
def QueryNearWrongFalsely : Prop := queryNearRow.holds Try.pinned (OpenSpec.ofChange queryNearWrong)

/-- 'hedgerowlaw12.QueryNarrows': WHATEVER THE INPUT: true; the input reads as it did. -/
def queryNarrowsSpec : ChangeSpec := { name := "queryNarrows", fn := fun _ => fun
  | [d1, d2, d3] => { results := [.lit (.bool true)], args := [d1, d2, d3] }
  | _ => none }
def queryNarrowsRow : OpenClaim := { program := "ythcgiacjmfmamaa", sum := "ea962845390c07768df19a844b6f84d648f1f3f2adee9946d100ab1b504f601a", func := "hedgerow/hedgerowlaw12.QueryNarrows", spec := "queryNarrows", unfollowed := true, recurses := true, plainKeys := false, apart := false }
def QueryNarrowsSaid : Prop := queryNarrowsRow.holds Try.pinned (OpenSpec.ofChange queryNarrowsSpec)

/-- ITS FALSE NEIGHBOUR: 'it returns false'. Refute it at one input. -/
def queryNarrowsWrong : ChangeSpec := { name := "queryNarrows", fn := fun _ => fun
  | [d1, d2, d3] => { results := [.lit (.bool false)], args := [d1, d2, d3] }
  | _ => none }
def QueryNarrowsWrongFalsely : Prop := queryNarrowsRow.holds Try.pinned (OpenSpec.ofChange queryNarrowsWrong)

/-- 'hedgerowlaw12.QueryFars': WHATEVER THE INPUT: true; the input reads as it did. -/
def queryFarsSpec : ChangeSpec := { name := "queryFars", fn := fun _ => fun
  | [d1, d2, d3] => { results := [.lit (.bool true)], args := [d1, d2, d3] }
  | _ => none }
def queryFarsRow : OpenClaim := { program := "ythcgiacjmfmamaa", sum := "ea962845390c07768df19a844b6f84d648f1f3f2adee9946d100ab1b504f601a", func := "hedgerow/hedgerowlaw12.QueryFars", spec := "queryFars", unfollowed := true, recurses := true, plainKeys := false, apart := false }
def QueryFarsSaid : Prop := queryFarsRow.holds Try.pinned (OpenSpec.ofChange queryFarsSpec)

/-- ITS FALSE NEIGHBOUR: 'it returns false'. Refute it at one input. -/
def queryFarsWrong : ChangeSpec := { name := "queryFars", fn := fun _ => fun
  | [d1, d2, d3] => { results := [.lit (.bool false)], args := [d1, d2, d3] }
  | _ => none }
def QueryFarsWrongFalsely : Prop := queryFarsRow.holds Try.pinned (OpenSpec.ofChange queryFarsWrong)

/-- 'hedgerowlaw12.QueryParts': WHATEVER THE INPUT: true; the input reads as it did. -/
def queryPartsSpec : ChangeSpec := { name := "queryParts", fn := fun _ => fun
  | [d1, d2, d3] => { results := [.lit (.bool true)], args := [d1, d2, d3] }
  | _ => none }
def queryPartsRow : OpenClaim := { program := "ythcgiacjmfmamaa", sum := "ea962845390c07768df19a844b6f84d648f1f3f2adee9946d100ab1b504f601a", func := "hedgerow/hedgerowlaw12.QueryParts", spec := "queryParts", unfollowed := true, recurses := true, plainKeys := false, apart := false }
def QueryPartsSaid : Prop := queryPartsRow.holds Try.pinned (OpenSpec.ofChange queryPartsSpec)

/-- ITS FALSE NEIGHBOUR: 'it returns false'. Refute it at one input. -/
def queryPartsWrong : ChangeSpec := { name := "queryParts", fn := fun _ => fun
  | [d1, d2, d3] => { results := [.lit (.bool false)], args := [d1, d2, d3] }
  | _ => none }
def QueryPartsWrongFalsely : Prop := queryPartsRow.holds Try.pinned (OpenSpec.ofChange queryPartsWrong)

/-- 'hedgerowlaw12.QueryAsks': WHATEVER THE INPUT: true; the input reads as it did. -/
def queryAsksSpec : ChangeSpec := { name := "queryAsks", fn := fun _ => fun
  | [d1, d2] => { results := [.lit (.bool true)], args := [d1, d2] }
  | _ => none }
def queryAsksRow : OpenClaim := { program := "ythcgiacjmfmamaa", sum := "ea962845390c07768df19a844b6f84d648f1f3f2adee9946d100ab1b504f601a", func := "hedgerow/hedgerowlaw12.QueryAsks", spec := "queryAsks", unfollowed := true, recurses := true, plainKeys := false, apart := false }
def QueryAsksSaid : Prop := queryAsksRow.holds Try.pinned (OpenSpec.ofChange queryAsksSpec)

/-- ITS FALSE NEIGHBOUR: 'it returns false'. Refute it at one input. -/
def queryAsksWrong : ChangeSpec := { name := "queryAsks", fn := fun _ => fun
  | [d1, d2] => { results := [.lit (.bool false)], args := [d1, d2] }
  | _ => none }
def QueryAsksWrongFalsely : Prop := queryAsksRow.holds Try.pinned (OpenSpec.ofChange queryAsksWrong)

/-- 'hedgerowlaw12.QueryNone': WHATEVER THE INPUT: true; the input reads as it did. -/
def queryNoneSpec : ChangeSpec := { name := "queryNone", fn := fun _ => fun
  | [d1, d2] => { results := [.lit (.bool true)], args := [d1, d2] }
  | _ => none }
def queryNoneRow : OpenClaim := { program := "ythcgiacjmfmamaa", sum := "ea962845390c07768df19a844b6f84d648f1f3f2adee9946d100ab1b504f601a", func := "hedgerow/hedgerowlaw12.QueryNone", spec := "queryNone", unfollowed := true, recurses := true, plainKeys := false, apart := false }
def QueryNoneSaid : Prop := queryNoneRow.holds Try.pinned (OpenSpec.ofChange queryNoneSpec)

/-- ITS FALSE NEIGHBOUR: 'it returns false'. Refute it at one input. -/
def queryNoneWrong : ChangeSpec := { name := "queryNone", fn := fun _ => fun
  | [d1, d2] => { results := [.lit (.bool false)], args := [d1, d2] }
  | _ => none }
def QueryNoneWrongFalsely : Prop := queryNoneRow.holds Try.pinned (OpenSpec.ofChange queryNoneWrong)

/-- 'hedgerowlaw12.QueryOrder': WHATEVER THE INPUT: true; the input reads as it did. -/
def queryOrderSpec : ChangeSpec := { name := "queryOrder", fn := fun _ => fun
  | [d1, d2, d3] => { results := [.lit (.bool true)], args := [d1, d2, d3] }
  | _ => none }
def queryOrderRow : OpenClaim := { program := "ythcgiacjmfmamaa", sum := "ea962845390c07768df19a844b6f84d648f1f3f2adee9946d100ab1b504f601a", func := "hedgerow/hedgerowlaw12.QueryOrder", spec := "queryOrder", unfollowed := true, recurses := true, plainKeys := false, apart := false }
def QueryOrderSaid : Prop := queryOrderRow.holds Try.pinned (OpenSpec.ofChange queryOrderSpec)

/-- ITS FALSE NEIGHBOUR: 'it returns false'. Refute it at one input. -/
def queryOrderWrong : ChangeSpec := { name := "queryOrder", fn := fun _ => fun
  | [d1, d2, d3] => { results := [.lit (.bool false)], args := [d1, d2, d3] }
  | _ => none }
def QueryOrderWrongFalsely : Prop := queryOrderRow.holds Try.pinned (OpenSpec.ofChange queryOrderWrong)

/-- 'hedgerowlaw12.QueryEach': WHATEVER THE INPUT: true; the input reads as it did. -/
def queryEachSpec : ChangeSpec := { name := "queryEach", fn := fun _ => fun
  | [d1, d2, d3] => { results := [.lit (.bool true)], args := [d1, d2, d3] }
  | _ => none }
def queryEachRow : OpenClaim := { program := "ythcgiacjmfmamaa", sum := "ea962845390c07768df19a844b6f84d648f1f3f2adee9946d100ab1b504f601a", func := "hedgerow/hedgerowlaw12.QueryEach", spec := "queryEach", unfollowed := true, recurses := true, plainKeys := false, apart := false }
def QueryEachSaid : Prop := queryEachRow.holds Try.pinned (OpenSpec.ofChange queryEachSpec)

/-- ITS FALSE NEIGHBOUR: 'it returns false'. Refute it at one input. -/
def queryEachWrong : ChangeSpec := { name := "queryEach", fn := fun _ => fun
  | [d1, d2, d3] => { results := [.lit (.bool false)], args := [d1, d2, d3] }
  | _ => none }
def QueryEachWrongFalsely : Prop := queryEachRow.holds Try.pinned (OpenSpec.ofChange queryEachWrong)

/- THE SECOND FORM. 'bulk': how many values and letters a reading holds, each counted each time it is reached (what is shared counts as often as it is met; a slice's spare places count too). A statement '..UptoSaid' is the law's where the arguments, and the package variables that the reading takes, are together of bulk at most 1048576: NARROWER than '..Said'. Prove '..Said' where nothing that the law and all that it calls make is longer than what came in: it says more and counts as full. Else prove '..UptoSaid'. A law counts once. -/
mutual
def uptoBulk {H : Type} : DataW H → Nat
  | .lit (.string bytes) => bytes.length + 1
  | .lit _ => 1
  | .nil => 1
  | .ptr d => uptoBulk d + 1
  | .slice elems spare => uptoBulkAll elems + uptoBulkAll spare + 1
  | .agg parts => uptoBulkAll parts + 1
  | .iface _ d => uptoBulk d + 1
  | .map entries => uptoBulkEntries entries + 1
  | .held _ => 1
def uptoBulkAll {H : Type} : List (DataW H) → Nat
  | [] => 0
  | d :: r => uptoBulk d + uptoBulkAll r
def uptoBulkEntries {H : Type} : List (Lit × DataW H) → Nat
  | [] => 0
  | x :: r => uptoBulkEntry x + uptoBulkEntries r
def uptoBulkEntry {H : Type} : Lit × DataW H → Nat
  | (.string bytes, d) => bytes.length + uptoBulk d + 1
  | (_, d) => uptoBulk d + 1
 end
def uptoSmall : (H : Type) → List (DataW H) → Bool := fun _ ds => decide (uptoBulkAll ds ≤ 1048576)
def OpenSpec.upto (s : _root_.Go.ChangeSpec) : _root_.Go.OpenSpec := { _root_.Go.OpenSpec.ofChange s with cond := some uptoSmall }

/-- 'hedgerowlaw12.QueryMatches', WHERE WHAT IT READS IS OF BULK AT MOST 1048576: true; the input reads as it did. -/
def queryMatchesUptoRow : OpenClaim := { program := "ythcgiacjmfmamaa", sum := "ea962845390c07768df19a844b6f84d648f1f3f2adee9946d100ab1b504f601a", func := "hedgerow/hedgerowlaw12.QueryMatches", spec := "queryMatches", unfollowed := true, recurses := true, plainKeys := false, apart := false, narrowed := true }
def QueryMatchesUptoSaid : Prop := queryMatchesUptoRow.holds Try.pinned (OpenSpec.upto queryMatchesSpec)

/-- 'hedgerowlaw12.QueryWithin', WHERE WHAT IT READS IS OF BULK AT MOST 1048576: true; the input reads as it did. -/
def queryWithinUptoRow : OpenClaim := { program := "ythcgiacjmfmamaa", sum := "ea962845390c07768df19a844b6f84d648f1f3f2adee9946d100ab1b504f601a", func := "hedgerow/hedgerowlaw12.QueryWithin", spec := "queryWithin", unfollowed := true, recurses := true, plainKeys := false, apart := false, narrowed := true }
def QueryWithinUptoSaid : Prop := queryWithinUptoRow.holds Try.pinned (OpenSpec.upto queryWithinSpec)

/-- 'hedgerowlaw12.QueryNear', WHERE WHAT IT READS IS OF BULK AT MOST 1048576: true; the input reads as it did. -/
def queryNearUptoRow : OpenClaim := { program := "ythcgiacjmfmamaa", sum := "ea962845390c07768df19a844b6f84d648f1f3f2adee9946d100ab1b504f601a", func := "hedgerow/hedgerowlaw12.QueryNear", spec := "queryNear", unfollowed := true, recurses := true, plainKeys := false, apart := false, narrowed := true }
def QueryNearUptoSaid : Prop := queryNearUptoRow.holds Try.pinned (OpenSpec.upto queryNearSpec)

/-- 'hedgerowlaw12.QueryNarrows', WHERE WHAT IT READS IS OF BULK AT MOST 1048576: true; the input reads as it did. -/
def queryNarrowsUptoRow : OpenClaim := { program := "ythcgiacjmfmamaa", sum := "ea962845390c07768df19a844b6f84d648f1f3f2adee9946d100ab1b504f601a", func := "hedgerow/hedgerowlaw12.QueryNarrows", spec := "queryNarrows", unfollowed := true, recurses := true, plainKeys := false, apart := false, narrowed := true }
def QueryNarrowsUptoSaid : Prop := queryNarrowsUptoRow.holds Try.pinned (OpenSpec.upto queryNarrowsSpec)

/-- 'hedgerowlaw12.QueryFars', WHERE WHAT IT READS IS OF BULK AT MOST 1048576: true; the input reads as it did. -/
def queryFarsUptoRow : OpenClaim := { program := "ythcgiacjmfmamaa", sum := "ea962845390c07768df19a844b6f84d648f1f3f2adee9946d100ab1b504f601a", func := "hedgerow/hedgerowlaw12.QueryFars", spec := "queryFars", unfollowed := true, recurses := true, plainKeys := false, apart := false, narrowed := true }
def QueryFarsUptoSaid : Prop := queryFarsUptoRow.holds Try.pinned (OpenSpec.upto queryFarsSpec)

/-- 'hedgerowlaw12.QueryParts', WHERE WHAT IT READS IS OF BULK AT MOST 1048576: true; the input reads as it did. -/
def queryPartsUptoRow : OpenClaim := { program := "ythcgiacjmfmamaa", sum := "ea962845390c07768df19a844b6f84d648f1f3f2adee9946d100ab1b504f601a", func := "hedgerow/hedgerowlaw12.QueryParts", spec := "queryParts", unfollowed := true, recurses := true, plainKeys := false, apart := false, narrowed := true }
def QueryPartsUptoSaid : Prop := queryPartsUptoRow.holds Try.pinned (OpenSpec.upto queryPartsSpec)

/-- 'hedgerowlaw12.QueryAsks', WHERE WHAT IT READS IS OF BULK AT MOST 1048576: true; the input reads as it did. -/
def queryAsksUptoRow : OpenClaim := { program := "ythcgiacjmfmamaa", sum := "ea962845390c07768df19a844b6f84d648f1f3f2adee9946d100ab1b504f601a", func := "hedgerow/hedgerowlaw12.QueryAsks", spec := "queryAsks", unfollowed := true, recurses := true, plainKeys := false, apart := false, narrowed := true }
def QueryAsksUptoSaid : Prop := queryAsksUptoRow.holds Try.pinned (OpenSpec.upto queryAsksSpec)

/-- 'hedgerowlaw12.QueryNone', WHERE WHAT IT READS IS OF BULK AT MOST 1048576: true; the input reads as it did. -/
def queryNoneUptoRow : OpenClaim := { program := "ythcgiacjmfmamaa", sum := "ea962845390c07768df19a844b6f84d648f1f3f2adee9946d100ab1b504f601a", func := "hedgerow/hedgerowlaw12.QueryNone", spec := "queryNone", unfollowed := true, recurses := true, plainKeys := false, apart := false, narrowed := true }
def QueryNoneUptoSaid : Prop := queryNoneUptoRow.holds Try.pinned (OpenSpec.upto queryNoneSpec)

/-- 'hedgerowlaw12.QueryOrder', WHERE WHAT IT READS IS OF BULK AT MOST 1048576: true; the input reads as it did. -/
def queryOrderUptoRow : OpenClaim := { program := "ythcgiacjmfmamaa", sum := "ea962845390c07768df19a844b6f84d648f1f3f2adee9946d100ab1b504f601a", func := "hedgerow/hedgerowlaw12.QueryOrder", spec := "queryOrder", unfollowed := true, recurses := true, plainKeys := false, apart := false, narrowed := true }
def QueryOrderUptoSaid : Prop := queryOrderUptoRow.holds Try.pinned (OpenSpec.upto queryOrderSpec)

/-- 'hedgerowlaw12.QueryEach', WHERE WHAT IT READS IS OF BULK AT MOST 1048576: true; the input reads as it did. -/
def queryEachUptoRow : OpenClaim := { program := "ythcgiacjmfmamaa", sum := "ea962845390c07768df19a844b6f84d648f1f3f2adee9946d100ab1b504f601a", func := "hedgerow/hedgerowlaw12.QueryEach", spec := "queryEach", unfollowed := true, recurses := true, plainKeys := false, apart := false, narrowed := true }
def QueryEachUptoSaid : Prop := queryEachUptoRow.holds Try.pinned (OpenSpec.upto queryEachSpec)

end Rows
end Go.Proofs.Ythcgiacjmfmamaa
