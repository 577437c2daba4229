/-
  No cell of these rows narrows 'for every input' (looked for: loops, veiled, ifaces, maps, wideKeys, modest, calm, conditions, laid).
  DERIVED. THE GIVEN ROWS OF THIS SEAT. 7 by the template 'for every input the law returns true; each argument reads behind the call as it read before'; 0 by the template 'total and deterministic' (their statements: YtfibmpacakjodaaTotals.lean).
  GIVEN WITH THE SEED: the statements are not yours to turn. If you find one false, say at which input.
  Laid BY PROGRAM, IN A SANDBOX (cutbox-rows.mjs): the forced cells as the released guide's own fill.sh prints them over the translation 23f3e53820aaf38f… (all of the seat's roots in one cut). By AI agents, Wed Nov 11 2026. No macro, syntax, notation, axiom, sorry.
-/
import Derived.Test.YtfibmpacakjodaaChecked
import GoSem.Claim
import GoSem.ClaimJoined
import GoSem.ClaimMapViews
import Derived.JoinedTies
import Derived.KernelRfl
namespace Go.Proofs.Ytfibmpacakjodaa
/- THE CELL 'sum', in the pinned program and in every row, IS THE sha256 OF THE DUMP (.gsa) THAT YtfibmpacakjodaaProg.lean LOADS. Nothing in Lean hashes anything: it is a label: what it is worth is what the hold of that sum in a sandbox is worth. -/
noncomputable def Try.pinned : Pinned := { name := "ytfibmpacakjodaa", sum := "23f3e53820aaf38f3cae61fdc3857e362a5f159d329b30cae751eb70b2acf055", checked := Try.checked }
namespace Rows
def none {H : Type} : Left H := { results := [], args := [] }

/-- 'garretlaw15.LookupOne': WHATEVER THE INPUT: true; the input reads as it did. -/
def lookupOneSpec : ChangeSpec := { name := "lookupOne", fn := fun _ => fun
  | [d1, d2, d3] => { results := [.lit (.bool true)], args := [d1, d2, d3] }
  | _ => none }
def lookupOneRow : OpenClaim := { program := "ytfibmpacakjodaa", sum := "23f3e53820aaf38f3cae61fdc3857e362a5f159d329b30cae751eb70b2acf055", func := "garret/garretlaw15.LookupOne", spec := "lookupOne", inPlace := ["internal/abi.NoEscape", "internal/bytealg.MakeNoZero", "slices.overlaps[garret/api.Item]"], unfollowed := true, recurses := true, apart := false }
def LookupOneSaid : Prop := lookupOneRow.holds Try.pinned (OpenSpec.ofChange lookupOneSpec)

/-- ITS FALSE NEIGHBOUR: 'it returns false'. Refute it at one input. -/
def lookupOneWrong : ChangeSpec := { name := "lookupOne", fn := fun _ => fun
  | [d1, d2, d3] => { results := [.lit (.bool false)], args := [d1, d2, d3] }
  | _ => none }
def LookupOneWrongFalsely : Prop := lookupOneRow.holds Try.pinned (OpenSpec.ofChange lookupOneWrong)

/-- 'garretlaw16.IndexBack': WHATEVER THE INPUT: true; the input reads as it did. -/
def indexBackSpec : ChangeSpec := { name := "indexBack", fn := fun _ => fun
  | [d1, d2, d3] => { results := [.lit (.bool true)], args := [d1, d2, d3] }
  | _ => none }
def indexBackRow : OpenClaim := { program := "ytfibmpacakjodaa", sum := "23f3e53820aaf38f3cae61fdc3857e362a5f159d329b30cae751eb70b2acf055", func := "garret/garretlaw16.IndexBack", spec := "indexBack", inPlace := ["internal/abi.NoEscape", "internal/bytealg.MakeNoZero", "slices.overlaps[garret/api.Item]"], unfollowed := true, recurses := true, apart := false }
def IndexBackSaid : Prop := indexBackRow.holds Try.pinned (OpenSpec.ofChange indexBackSpec)

/-- ITS FALSE NEIGHBOUR: 'it returns false'. Refute it at one input. -/
def indexBackWrong : ChangeSpec := { name := "indexBack", fn := fun _ => fun
  | [d1, d2, d3] => { results := [.lit (.bool false)], args := [d1, d2, d3] }
  | _ => none }
def IndexBackWrongFalsely : Prop := indexBackRow.holds Try.pinned (OpenSpec.ofChange indexBackWrong)

/-- 'garretlaw08.PortTurns': WHATEVER THE INPUT: true; the input reads as it did. -/
def portTurnsSpec : ChangeSpec := { name := "portTurns", fn := fun _ => fun
  | [d1, d2, d3] => { results := [.lit (.bool true)], args := [d1, d2, d3] }
  | _ => none }
def portTurnsRow : OpenClaim := { program := "ytfibmpacakjodaa", sum := "23f3e53820aaf38f3cae61fdc3857e362a5f159d329b30cae751eb70b2acf055", func := "garret/garretlaw08.PortTurns", spec := "portTurns", inPlace := ["sync/atomic.AddInt64"], unfollowed := true, recurses := true, apart := false }
def PortTurnsSaid : Prop := portTurnsRow.holds Try.pinned (OpenSpec.ofChange portTurnsSpec)

/-- ITS FALSE NEIGHBOUR: 'it returns false'. Refute it at one input. -/
def portTurnsWrong : ChangeSpec := { name := "portTurns", fn := fun _ => fun
  | [d1, d2, d3] => { results := [.lit (.bool false)], args := [d1, d2, d3] }
  | _ => none }
def PortTurnsWrongFalsely : Prop := portTurnsRow.holds Try.pinned (OpenSpec.ofChange portTurnsWrong)

/-- 'garretlaw08.PortAsks': WHATEVER THE INPUT: true; the input reads as it did. -/
def portAsksSpec : ChangeSpec := { name := "portAsks", fn := fun _ => fun
  | [d] => { results := [.lit (.bool true)], args := [d] }
  | _ => none }
def portAsksRow : OpenClaim := { program := "ytfibmpacakjodaa", sum := "23f3e53820aaf38f3cae61fdc3857e362a5f159d329b30cae751eb70b2acf055", func := "garret/garretlaw08.PortAsks", spec := "portAsks", inPlace := ["sync/atomic.AddInt64"], unfollowed := true, recurses := true, apart := false }
def PortAsksSaid : Prop := portAsksRow.holds Try.pinned (OpenSpec.ofChange portAsksSpec)

/-- ITS FALSE NEIGHBOUR: 'it returns false'. Refute it at one input. -/
def portAsksWrong : ChangeSpec := { name := "portAsks", fn := fun _ => fun
  | [d] => { results := [.lit (.bool false)], args := [d] }
  | _ => none }
def PortAsksWrongFalsely : Prop := portAsksRow.holds Try.pinned (OpenSpec.ofChange portAsksWrong)

/-- 'garretlaw08.PortRuns': WHATEVER THE INPUT: true; the input reads as it did. -/
def portRunsSpec : ChangeSpec := { name := "portRuns", fn := fun _ => fun
  | [d1, d2] => { results := [.lit (.bool true)], args := [d1, d2] }
  | _ => none }
def portRunsRow : OpenClaim := { program := "ytfibmpacakjodaa", sum := "23f3e53820aaf38f3cae61fdc3857e362a5f159d329b30cae751eb70b2acf055", func := "garret/garretlaw08.PortRuns", spec := "portRuns", inPlace := ["sync/atomic.AddInt64"], unfollowed := true, recurses := true, apart := false }
def PortRunsSaid : Prop := portRunsRow.holds Try.pinned (OpenSpec.ofChange portRunsSpec)

/-- ITS FALSE NEIGHBOUR: 'it returns false'. Refute it at one input. -/
def portRunsWrong : ChangeSpec := { name := "portRuns", fn := fun _ => fun
  | [d1, d2] => { results := [.lit (.bool false)], args := [d1, d2] }
  | _ => none }
def PortRunsWrongFalsely : Prop := portRunsRow.holds Try.pinned (OpenSpec.ofChange portRunsWrong)

/-- 'garretlaw09.FanFirst': WHATEVER THE INPUT: true; the input reads as it did. -/
def fanFirstSpec : ChangeSpec := { name := "fanFirst", fn := fun _ => fun
  | [d1, d2] => { results := [.lit (.bool true)], args := [d1, d2] }
  | _ => none }
def fanFirstRow : OpenClaim := { program := "ytfibmpacakjodaa", sum := "23f3e53820aaf38f3cae61fdc3857e362a5f159d329b30cae751eb70b2acf055", func := "garret/garretlaw09.FanFirst", spec := "fanFirst", inPlace := ["sync/atomic.AddInt64"], unfollowed := true, recurses := true, apart := false }
def FanFirstSaid : Prop := fanFirstRow.holds Try.pinned (OpenSpec.ofChange fanFirstSpec)

/-- ITS FALSE NEIGHBOUR: 'it returns false'. Refute it at one input. -/
def fanFirstWrong : ChangeSpec := { name := "fanFirst", fn := fun _ => fun
  | [d1, d2] => { results := [.lit (.bool false)], args := [d1, d2] }
  | _ => none }
def FanFirstWrongFalsely : Prop := fanFirstRow.holds Try.pinned (OpenSpec.ofChange fanFirstWrong)

/-- 'garretlaw09.FanBack': WHATEVER THE INPUT: true; the input reads as it did. -/
def fanBackSpec : ChangeSpec := { name := "fanBack", fn := fun _ => fun
  | [d1, d2] => { results := [.lit (.bool true)], args := [d1, d2] }
  | _ => none }
def fanBackRow : OpenClaim := { program := "ytfibmpacakjodaa", sum := "23f3e53820aaf38f3cae61fdc3857e362a5f159d329b30cae751eb70b2acf055", func := "garret/garretlaw09.FanBack", spec := "fanBack", inPlace := ["sync/atomic.AddInt64"], unfollowed := true, recurses := true, apart := false }
def FanBackSaid : Prop := fanBackRow.holds Try.pinned (OpenSpec.ofChange fanBackSpec)

/-- ITS FALSE NEIGHBOUR: 'it returns false'. Refute it at one input. -/
def fanBackWrong : ChangeSpec := { name := "fanBack", fn := fun _ => fun
  | [d1, d2] => { results := [.lit (.bool false)], args := [d1, d2] }
  | _ => none }
def FanBackWrongFalsely : Prop := fanBackRow.holds Try.pinned (OpenSpec.ofChange fanBackWrong)

/- THE SECOND FORM. 'bulk': how many values and letters a reading holds, each counted each time it is reached (what is shared counts as often as it is met; a slice's spare places count too). A statement '..UptoSaid' is the law's where the arguments, and the package variables that the reading takes, are together of bulk at most 1048576: NARROWER than '..Said'. Prove '..Said' where nothing that the law and all that it calls make is longer than what came in: it says more and counts as full. Else prove '..UptoSaid'. A law counts once. -/
mutual
def uptoBulk {H : Type} : DataW H → Nat
  | .lit (.string bytes) => bytes.length + 1
  | .lit _ => 1
  | .nil => 1
  | .ptr d => uptoBulk d + 1
  | .slice elems spare => uptoBulkAll elems + uptoBulkAll spare + 1
  | .agg parts => uptoBulkAll parts + 1
  | .iface _ d => uptoBulk d + 1
  | .map entries => uptoBulkEntries entries + 1
  | .held _ => 1
def uptoBulkAll {H : Type} : List (DataW H) → Nat
  | [] => 0
  | d :: r => uptoBulk d + uptoBulkAll r
def uptoBulkEntries {H : Type} : List (Lit × DataW H) → Nat
  | [] => 0
  | x :: r => uptoBulkEntry x + uptoBulkEntries r
def uptoBulkEntry {H : Type} : Lit × DataW H → Nat
  | (.string bytes, d) => bytes.length + uptoBulk d + 1
  | (_, d) => uptoBulk d + 1
 end
def uptoSmall : (H : Type) → List (DataW H) → Bool := fun _ ds => decide (uptoBulkAll ds ≤ 1048576)
def OpenSpec.upto (s : _root_.Go.ChangeSpec) : _root_.Go.OpenSpec := { _root_.Go.OpenSpec.ofChange s with cond := some uptoSmall }

/-- 'garretlaw15.LookupOne', WHERE WHAT IT READS IS OF BULK AT MOST 1048576: true; the input reads as it did. -/
def lookupOneUptoRow : OpenClaim := { program := "ytfibmpacakjodaa", sum := "23f3e53820aaf38f3cae61fdc3857e362a5f159d329b30cae751eb70b2acf055", func := "garret/garretlaw15.LookupOne", spec := "lookupOne", inPlace := ["internal/abi.NoEscape", "internal/bytealg.MakeNoZero", "slices.overlaps[garret/api.Item]"], unfollowed := true, recurses := true, apart := false, narrowed := true }
def LookupOneUptoSaid : Prop := lookupOneUptoRow.holds Try.pinned (OpenSpec.upto lookupOneSpec)

/-- 'garretlaw16.IndexBack', WHERE WHAT IT READS IS OF BULK AT MOST 1048576: true; the input reads as it did. -/
def indexBackUptoRow : OpenClaim := { program := "ytfibmpacakjodaa", sum := "23f3e53820aaf38f3cae61fdc3857e362a5f159d329b30cae751eb70b2acf055", func := "garret/garretlaw16.IndexBack", spec := "indexBack", inPlace := ["internal/abi.NoEscape", "internal/bytealg.MakeNoZero", "slices.overlaps[garret/api.Item]"], unfollowed := true, recurses := true, apart := false, narrowed := true }
def IndexBackUptoSaid : Prop := indexBackUptoRow.holds Try.pinned (OpenSpec.upto indexBackSpec)

/-- 'garretlaw08.PortTurns', WHERE WHAT IT READS IS OF BULK AT MOST 1048576: true; the input reads as it did. -/
def portTurnsUptoRow : OpenClaim := { program := "ytfibmpacakjodaa", sum := "23f3e53820aaf38f3cae61fdc3857e362a5f159d329b30cae751eb70b2acf055", func := "garret/garretlaw08.PortTurns", spec := "portTurns", inPlace := ["sync/atomic.AddInt64"], unfollowed := true, recurses := true, apart := false, narrowed := true }
def PortTurnsUptoSaid : Prop := portTurnsUptoRow.holds Try.pinned (OpenSpec.upto portTurnsSpec)

/-- 'garretlaw08.PortAsks', WHERE WHAT IT READS IS OF BULK AT MOST 1048576: true; the input reads as it did. -/
def portAsksUptoRow : OpenClaim := { program := "ytfibmpacakjodaa", sum := "23f3e53820aaf38f3cae61fdc3857e362a5f159d329b30cae751eb70b2acf055", func := "garret/garretlaw08.PortAsks", spec := "portAsks", inPlace := ["sync/atomic.AddInt64"], unfollowed := true, recurses := true, apart := false, narrowed := true }
def PortAsksUptoSaid : Prop := portAsksUptoRow.holds Try.pinned (OpenSpec.upto portAsksSpec)

/-- 'garretlaw08.PortRuns', WHERE WHAT IT READS IS OF BULK AT MOST 1048576: true; the input reads as it did. -/
def portRunsUptoRow : OpenClaim := { program := "ytfibmpacakjodaa", sum := "23f3e53820aaf38f3cae61fdc3857e362a5f159d329b30cae751eb70b2acf055", func := "garret/garretlaw08.PortRuns", spec := "portRuns", inPlace := ["sync/atomic.AddInt64"], unfollowed := true, recurses := true, apart := false, narrowed := true }
def PortRunsUptoSaid : Prop := portRunsUptoRow.holds Try.pinned (OpenSpec.upto portRunsSpec)

/-- 'garretlaw09.FanFirst', WHERE WHAT IT READS IS OF BULK AT MOST 1048576: true; the input reads as it did. -/
def fanFirstUptoRow : OpenClaim := { program := "ytfibmpacakjodaa", sum := "23f3e53820aaf38f3cae61fdc3857e362a5f159d329b30cae751eb70b2acf055", func := "garret/garretlaw09.FanFirst", spec := "fanFirst", inPlace := ["sync/atomic.AddInt64"], unfollowed := true, recurses := true, apart := false, narrowed := true }
def FanFirstUptoSaid : Prop := fanFirstUptoRow.holds Try.pinned (OpenSpec.upto fanFirstSpec)

/-- 'garretlaw09.FanBack', WHERE WHAT IT READS IS OF BULK AT MOST 1048576: true; the input reads as it did. -/
def fanBackUptoRow : OpenClaim := { program := "ytfibmpacakjodaa", sum := "23f3e53820aaf38f3cae61fdc3857e362a5f159d329b30cae751eb70b2acf055", func := "garret/garretlaw09.FanBack", spec := "fanBack", inPlace := ["sync/atomic.AddInt64"], unfollowed := true, recurses := true, apart := false, narrowed := true }
def FanBackUptoSaid : Prop := fanBackUptoRow.holds Try.pinned (OpenSpec.upto fanBackSpec)

end Rows
end Go.Proofs.Ytfibmpacakjodaa
