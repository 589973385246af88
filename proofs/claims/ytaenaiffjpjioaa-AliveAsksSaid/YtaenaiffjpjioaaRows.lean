/-
  No cell of these rows narrows 'for every input' (looked for: loops, veiled, ifaces, maps, wideKeys, modest, calm, conditions, laid).
  DERIVED. THE GIVEN ROWS OF THIS SEAT. 3 by the template 'for every input the law returns true; each argument reads behind the call as it read before'; 0 by the template 'total and deterministic' (their statements: YtaenaiffjpjioaaTotals.lean).
  GIVEN WITH THE SEED: the statements are not yours to turn. If you find one false, say at which input.
  Laid BY PROGRAM, IN A SANDBOX (cutbox-rows.mjs): the forced cells as the released guide's own fill.sh prints them over the translation 6340edcd032abc47… (all of the seat's roots in one cut). By AI agents, Wed Nov 11 2026. No macro, syntax, notation, axiom, sorry.
-/
import Derived.Test.YtaenaiffjpjioaaChecked
import GoSem.Claim
import GoSem.ClaimJoined
import GoSem.ClaimMapViews
import Derived.JoinedTies
import Derived.KernelRfl
namespace Go.Proofs.Ytaenaiffjpjioaa
/- THE CELL 'sum', in the pinned program and in every row, IS THE sha256 OF THE DUMP (.gsa) THAT YtaenaiffjpjioaaProg.lean LOADS. Nothing in Lean hashes anything: it is a label: what it is worth is what the hold of that sum in a sandbox is worth. -/
noncomputable def Try.pinned : Pinned := { name := "ytaenaiffjpjioaa", sum := "6340edcd032abc4733b64494bafb8f25cf0493870b6c2af1721d69bec4e86cd2", checked := Try.checked }
namespace Rows
def none {H : Type} : Left H := { results := [], args := [] }

/-- 'gunwalelaw34.AliveOver': WHATEVER THE INPUT: true; the input reads as it did. -/
def aliveOverSpec : ChangeSpec := { name := "aliveOver", fn := fun _ => fun
  | [d1, d2, d3] => { results := [.lit (.bool true)], args := [d1, d2, d3] }
  | _ => none }
def aliveOverRow : OpenClaim := { program := "ytaenaiffjpjioaa", sum := "6340edcd032abc4733b64494bafb8f25cf0493870b6c2af1721d69bec4e86cd2", func := "gunwale/gunwalelaw34.AliveOver", spec := "aliveOver", unfollowed := true, recurses := true, apart := false }
def AliveOverSaid : Prop := aliveOverRow.holds Try.pinned (OpenSpec.ofChange aliveOverSpec)

/-- ITS FALSE NEIGHBOUR: 'it returns false'. Refute it at one input. -/
def aliveOverWrong : ChangeSpec := { name := "aliveOver", fn := fun _ => fun
  | [d1, d2, d3] => { results := [.lit (.bool false)], args := [d1, d2, d3] }
  | _ => none }
def AliveOverWrongFalsely : Prop := aliveOverRow.holds Try.pinned (OpenSpec.ofChange aliveOverWrong)

/-- 'gunwalelaw34.AliveAsks': WHATEVER THE INPUT: true; the input reads as it did. -/
def aliveAsksSpec : ChangeSpec := { name := "aliveAsks", fn := fun _ => fun
  | [d1, d2] => { results := [.lit (.bool true)], args := [d1, d2] }
  | _ => none }
def aliveAsksRow : OpenClaim := { program := "ytaenaiffjpjioaa", sum := "6340edcd032abc4733b64494bafb8f25cf0493870b6c2af1721d69bec4e86cd2", func := "gunwale/gunwalelaw34.AliveAsks", spec := "aliveAsks", unfollowed := true, recurses := true, apart := false }
def AliveAsksSaid : Prop := aliveAsksRow.holds Try.pinned (OpenSpec.ofChange aliveAsksSpec)

/-- ITS FALSE NEIGHBOUR: 'it returns false'. Refute it at one input. -/
def aliveAsksWrong : ChangeSpec := { name := "aliveAsks", fn := fun _ => fun
  | [d1, d2] => { results := [.lit (.bool false)], args := [d1, d2] }
  | _ => none }
def AliveAsksWrongFalsely : Prop := aliveAsksRow.holds Try.pinned (OpenSpec.ofChange aliveAsksWrong)

/-- 'gunwalelaw34.AliveTicks': WHATEVER THE INPUT: true; the input reads as it did. -/
def aliveTicksSpec : ChangeSpec := { name := "aliveTicks", fn := fun _ => fun
  | [d1, d2, d3] => { results := [.lit (.bool true)], args := [d1, d2, d3] }
  | _ => none }
def aliveTicksRow : OpenClaim := { program := "ytaenaiffjpjioaa", sum := "6340edcd032abc4733b64494bafb8f25cf0493870b6c2af1721d69bec4e86cd2", func := "gunwale/gunwalelaw34.AliveTicks", spec := "aliveTicks", unfollowed := true, recurses := true, apart := false }
def AliveTicksSaid : Prop := aliveTicksRow.holds Try.pinned (OpenSpec.ofChange aliveTicksSpec)

/-- ITS FALSE NEIGHBOUR: 'it returns false'. Refute it at one input. -/
def aliveTicksWrong : ChangeSpec := { name := "aliveTicks", fn := fun _ => fun
  | [d1, d2, d3] => { results := [.lit (.bool false)], args := [d1, d2, d3] }
  | _ => none }
def AliveTicksWrongFalsely : Prop := aliveTicksRow.holds Try.pinned (OpenSpec.ofChange aliveTicksWrong)

/- THE SECOND FORM. 'bulk': how many values and letters a reading holds, each counted each time it is reached (what is shared counts as often as it is met; a slice's spare places count too). A statement '..UptoSaid' is the law's where the arguments, and the package variables that the reading takes, are together of bulk at most 1048576: NARROWER than '..Said'. Prove '..Said' where nothing that the law and all that it calls make is longer than what came in: it says more and counts as full. Else prove '..UptoSaid'. A law counts once. -/
mutual
def uptoBulk {H : Type} : DataW H → Nat
  | .lit (.string bytes) => bytes.length + 1
  | .lit _ => 1
  | .nil => 1
  | .ptr d => uptoBulk d + 1
  | .slice elems spare => uptoBulkAll elems + uptoBulkAll spare + 1
  | .agg parts => uptoBulkAll parts + 1
  | .iface _ d => uptoBulk d + 1
  | .map entries => uptoBulkEntries entries + 1
  | .held _ => 1
def uptoBulkAll {H : Type} : List (DataW H) → Nat
  | [] => 0
  | d :: r => uptoBulk d + uptoBulkAll r
def uptoBulkEntries {H : Type} : List (Lit × DataW H) → Nat
  | [] => 0
  | x :: r => uptoBulkEntry x + uptoBulkEntries r
def uptoBulkEntry {H : Type} : Lit × DataW H → Nat
  | (.string bytes, d) => bytes.length + uptoBulk d + 1
  | (_, d) => uptoBulk d + 1
 end
def uptoSmall : (H : Type) → List (DataW H) → Bool := fun _ ds => decide (uptoBulkAll ds ≤ 1048576)
def OpenSpec.upto (s : _root_.Go.ChangeSpec) : _root_.Go.OpenSpec := { _root_.Go.OpenSpec.ofChange s with cond := some uptoSmall }

/-- 'gunwalelaw34.AliveOver', WHERE WHAT IT READS IS OF BULK AT MOST 1048576: true; the input reads as it did. -/
def aliveOverUptoRow : OpenClaim := { program := "ytaenaiffjpjioaa", sum := "6340edcd032abc4733b64494bafb8f25cf0493870b6c2af1721d69bec4e86cd2", func := "gunwale/gunwalelaw34.AliveOver", spec := "aliveOver", unfollowed := true, recurses := true, apart := false, narrowed := true }
def AliveOverUptoSaid : Prop := aliveOverUptoRow.holds Try.pinned (OpenSpec.upto aliveOverSpec)

/-- 'gunwalelaw34.AliveAsks', WHERE WHAT IT READS IS OF BULK AT MOST 1048576: true; the input reads as it did. -/
def aliveAsksUptoRow : OpenClaim := { program := "ytaenaiffjpjioaa", sum := "6340edcd032abc4733b64494bafb8f25cf0493870b6c2af1721d69bec4e86cd2", func := "gunwale/gunwalelaw34.AliveAsks", spec := "aliveAsks", unfollowed := true, recurses := true, apart := false, narrowed := true }
def AliveAsksUptoSaid : Prop := aliveAsksUptoRow.holds Try.pinned (OpenSpec.upto aliveAsksSpec)

/-- 'gunwalelaw34.AliveTicks', WHERE WHAT IT READS IS OF BULK AT MOST 1048576: true; the input reads as it did. -/
def aliveTicksUptoRow : OpenClaim := { program := "ytaenaiffjpjioaa", sum := "6340edcd032abc4733b64494bafb8f25cf0493870b6c2af1721d69bec4e86cd2", func := "gunwale/gunwalelaw34.AliveTicks", spec := "aliveTicks", unfollowed := true, recurses := true, apart := false, narrowed := true }
def AliveTicksUptoSaid : Prop := aliveTicksUptoRow.holds Try.pinned (OpenSpec.upto aliveTicksSpec)

end Rows
end Go.Proofs.Ytaenaiffjpjioaa
