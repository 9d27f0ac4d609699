/-
  No cell of these rows narrows 'for every input' (looked for: loops, veiled, ifaces, maps, wideKeys, modest, calm, conditions, laid).
  DERIVED. THE GIVEN ROWS OF THIS SEAT. 5 by the template 'for every input the law returns true; each argument reads behind the call as it read before'; 0 by the template 'total and deterministic' (their statements: YtiejdbdbafmccaaTotals.lean).
  GIVEN WITH THE SEED: the statements are not yours to turn. If you find one false, say at which input.
  Laid BY PROGRAM, IN A SANDBOX (cutbox-rows.mjs): the forced cells as the released guide's own fill.sh prints them over the translation b94a0a27e834cbd9… (all of the seat's roots in one cut). By AI agents, Wed Nov 11 2026. No macro, syntax, notation, axiom, sorry.
-/
import Derived.Test.YtiejdbdbafmccaaChecked
import GoSem.Claim
import GoSem.ClaimJoined
import GoSem.ClaimMapViews
import Derived.JoinedTies
import Derived.KernelRfl
namespace Go.Proofs.Ytiejdbdbafmccaa
/- THE CELL 'sum', in the pinned program and in every row, IS THE sha256 OF THE DUMP (.gsa) THAT YtiejdbdbafmccaaProg.lean LOADS. Nothing in Lean hashes anything: it is a label: what it is worth is what the hold of that sum in a sandbox is worth. -/
noncomputable def Try.pinned : Pinned := { name := "ytiejdbdbafmccaa", sum := "b94a0a27e834cbd93c9f8310e2dfae4bb169c5503c007f1f994da46141d83734", checked := Try.checked }
namespace Rows
def none {H : Type} : Left H := { results := [], args := [] }

/-- 'athanorlaw20.ChainPlans': WHATEVER THE INPUT: true; the input reads as it did. -/
def chainPlansSpec : ChangeSpec := { name := "chainPlans", fn := fun _ => fun
  | [d1, d2] => { results := [.lit (.bool true)], args := [d1, d2] }
  | _ => none }
def chainPlansRow : OpenClaim := { program := "ytiejdbdbafmccaa", sum := "b94a0a27e834cbd93c9f8310e2dfae4bb169c5503c007f1f994da46141d83734", func := "athanor/athanorlaw20.ChainPlans", spec := "chainPlans", unfollowed := true, recurses := true, plainKeys := false, apart := false }
def ChainPlansSaid : Prop := chainPlansRow.holds Try.pinned (OpenSpec.ofChange chainPlansSpec)

/-- ITS FALSE NEIGHBOUR: 'it returns false'. Refute it at one input. -/
def chainPlansWrong : ChangeSpec := { name := "chainPlans", fn := fun _ => fun
  | [d1, d2] => { results := [.lit (.bool false)], args := [d1, d2] }
  | _ => none }
def ChainPlansWrongFalsely : Prop := chainPlansRow.holds Try.pinned (OpenSpec.ofChange chainPlansWrong)

/-- 'athanorlaw20.ChainWalks': WHATEVER THE INPUT: true; the input reads as it did. -/
def chainWalksSpec : ChangeSpec := { name := "chainWalks", fn := fun _ => fun
  | [d1, d2, d3] => { results := [.lit (.bool true)], args := [d1, d2, d3] }
  | _ => none }
def chainWalksRow : OpenClaim := { program := "ytiejdbdbafmccaa", sum := "b94a0a27e834cbd93c9f8310e2dfae4bb169c5503c007f1f994da46141d83734", func := "athanor/athanorlaw20.ChainWalks", spec := "chainWalks", unfollowed := true, recurses := true, plainKeys := false, apart := false }
def ChainWalksSaid : Prop := chainWalksRow.holds Try.pinned (OpenSpec.ofChange chainWalksSpec)

/-- ITS FALSE NEIGHBOUR: 'it returns false'. Refute it at one input. -/
def chainWalksWrong : ChangeSpec := { name := "chainWalks", fn := fun _ => fun
  | [d1, d2, d3] => { results := [.lit (.bool false)], args := [d1, d2, d3] }
  | _ => none }
def ChainWalksWrongFalsely : Prop := chainWalksRow.holds Try.pinned (OpenSpec.ofChange chainWalksWrong)

/-- 'athanorlaw20.ChainMore': WHATEVER THE INPUT: true; the input reads as it did. -/
def chainMoreSpec : ChangeSpec := { name := "chainMore", fn := fun _ => fun
  | [d1, d2, d3] => { results := [.lit (.bool true)], args := [d1, d2, d3] }
  | _ => none }
def chainMoreRow : OpenClaim := { program := "ytiejdbdbafmccaa", sum := "b94a0a27e834cbd93c9f8310e2dfae4bb169c5503c007f1f994da46141d83734", func := "athanor/athanorlaw20.ChainMore", spec := "chainMore", unfollowed := true, recurses := true, plainKeys := false, apart := false }
def ChainMoreSaid : Prop := chainMoreRow.holds Try.pinned (OpenSpec.ofChange chainMoreSpec)

/-- ITS FALSE NEIGHBOUR: 'it returns false'. Refute it at one input. -/
def chainMoreWrong : ChangeSpec := { name := "chainMore", fn := fun _ => fun
  | [d1, d2, d3] => { results := [.lit (.bool false)], args := [d1, d2, d3] }
  | _ => none }
def ChainMoreWrongFalsely : Prop := chainMoreRow.holds Try.pinned (OpenSpec.ofChange chainMoreWrong)

/-- 'athanorlaw20.ChainLowest': WHATEVER THE INPUT: true; the input reads as it did. -/
def chainLowestSpec : ChangeSpec := { name := "chainLowest", fn := fun _ => fun
  | [d] => { results := [.lit (.bool true)], args := [d] }
  | _ => none }
def chainLowestRow : OpenClaim := { program := "ytiejdbdbafmccaa", sum := "b94a0a27e834cbd93c9f8310e2dfae4bb169c5503c007f1f994da46141d83734", func := "athanor/athanorlaw20.ChainLowest", spec := "chainLowest", unfollowed := true, recurses := true, plainKeys := false, apart := false }
def ChainLowestSaid : Prop := chainLowestRow.holds Try.pinned (OpenSpec.ofChange chainLowestSpec)

/-- ITS FALSE NEIGHBOUR: 'it returns false'. Refute it at one input. -/
def chainLowestWrong : ChangeSpec := { name := "chainLowest", fn := fun _ => fun
  | [d] => { results := [.lit (.bool false)], args := [d] }
  | _ => none }
def ChainLowestWrongFalsely : Prop := chainLowestRow.holds Try.pinned (OpenSpec.ofChange chainLowestWrong)

/-- 'athanorlaw20.ChainLeast': WHATEVER THE INPUT: true; the input reads as it did. -/
def chainLeastSpec : ChangeSpec := { name := "chainLeast", fn := fun _ => fun
  | [d1, d2] => { results := [.lit (.bool true)], args := [d1, d2] }
  | _ => none }
def chainLeastRow : OpenClaim := { program := "ytiejdbdbafmccaa", sum := "b94a0a27e834cbd93c9f8310e2dfae4bb169c5503c007f1f994da46141d83734", func := "athanor/athanorlaw20.ChainLeast", spec := "chainLeast", unfollowed := true, recurses := true, plainKeys := false, apart := false }
def ChainLeastSaid : Prop := chainLeastRow.holds Try.pinned (OpenSpec.ofChange chainLeastSpec)

/-- ITS FALSE NEIGHBOUR: 'it returns false'. Refute it at one input. -/
def chainLeastWrong : ChangeSpec := { name := "chainLeast", fn := fun _ => fun
  | [d1, d2] => { results := [.lit (.bool false)], args := [d1, d2] }
  | _ => none }
def ChainLeastWrongFalsely : Prop := chainLeastRow.holds Try.pinned (OpenSpec.ofChange chainLeastWrong)

/- THE SECOND FORM. 'bulk': how many values and letters a reading holds, each counted each time it is reached (what is shared counts as often as it is met; a slice's spare places count too). A statement '..UptoSaid' is the law's where the arguments, and the package variables that the reading takes, are together of bulk at most 1048576: NARROWER than '..Said'. Prove '..Said' where nothing that the law and all that it calls make is longer than what came in: it says more and counts as full. Else prove '..UptoSaid'. A law counts once. -/
mutual
def uptoBulk {H : Type} : DataW H → Nat
  | .lit (.string bytes) => bytes.length + 1
  | .lit _ => 1
  | .nil => 1
  | .ptr d => uptoBulk d + 1
  | .slice elems spare => uptoBulkAll elems + uptoBulkAll spare + 1
  | .agg parts => uptoBulkAll parts + 1
  | .iface _ d => uptoBulk d + 1
  | .map entries => uptoBulkEntries entries + 1
  | .held _ => 1
def uptoBulkAll {H : Type} : List (DataW H) → Nat
  | [] => 0
  | d :: r => uptoBulk d + uptoBulkAll r
def uptoBulkEntries {H : Type} : List (Lit × DataW H) → Nat
  | [] => 0
  | x :: r => uptoBulkEntry x + uptoBulkEntries r
def uptoBulkEntry {H : Type} : Lit × DataW H → Nat
  | (.string bytes, d) => bytes.length + uptoBulk d + 1
  | (_, d) => uptoBulk d + 1
 end
def uptoSmall : (H : Type) → List (DataW H) → Bool := fun _ ds => decide (uptoBulkAll ds ≤ 1048576)
def OpenSpec.upto (s : _root_.Go.ChangeSpec) : _root_.Go.OpenSpec := { _root_.Go.OpenSpec.ofChange s with cond := some uptoSmall }

/-- 'athanorlaw20.ChainPlans', WHERE WHAT IT READS IS OF BULK AT MOST 1048576: true; the input reads as it did. -/
def chainPlansUptoRow : OpenClaim := { program := "ytiejdbdbafmccaa", sum := "b94a0a27e834cbd93c9f8310e2dfae4bb169c5503c007f1f994da46141d83734", func := "athanor/athanorlaw20.ChainPlans", spec := "chainPlans", unfollowed := true, recurses := true, plainKeys := false, apart := false, narrowed := true }
def ChainPlansUptoSaid : Prop := chainPlansUptoRow.holds Try.pinned (OpenSpec.upto chainPlansSpec)

/-- 'athanorlaw20.ChainWalks', WHERE WHAT IT READS IS OF BULK AT MOST 1048576: true; the input reads as it did. -/
def chainWalksUptoRow : OpenClaim := { program := "ytiejdbdbafmccaa", sum := "b94a0a27e834cbd93c9f8310e2dfae4bb169c5503c007f1f994da46141d83734", func := "athanor/athanorlaw20.ChainWalks", spec := "chainWalks", unfollowed := true, recurses := true, plainKeys := false, apart := false, narrowed := true }
def ChainWalksUptoSaid : Prop := chainWalksUptoRow.holds Try.pinned (OpenSpec.upto chainWalksSpec)

/-- 'athanorlaw20.ChainMore', WHERE WHAT IT READS IS OF BULK AT MOST 1048576: true; the input reads as it did. -/
def chainMoreUptoRow : OpenClaim := { program := "ytiejdbdbafmccaa", sum := "b94a0a27e834cbd93c9f8310e2dfae4bb169c5503c007f1f994da46141d83734", func := "athanor/athanorlaw20.ChainMore", spec := "chainMore", unfollowed := true, recurses := true, plainKeys := false, apart := false, narrowed := true }
def ChainMoreUptoSaid : Prop := chainMoreUptoRow.holds Try.pinned (OpenSpec.upto chainMoreSpec)

/-- 'athanorlaw20.ChainLowest', WHERE WHAT IT READS IS OF BULK AT MOST 1048576: true; the input reads as it did. -/
def chainLowestUptoRow : OpenClaim := { program := "ytiejdbdbafmccaa", sum := "b94a0a27e834cbd93c9f8310e2dfae4bb169c5503c007f1f994da46141d83734", func := "athanor/athanorlaw20.ChainLowest", spec := "chainLowest", unfollowed := true, recurses := true, plainKeys := false, apart := false, narrowed := true }
def ChainLowestUptoSaid : Prop := chainLowestUptoRow.holds Try.pinned (OpenSpec.upto chainLowestSpec)

/-- 'athanorlaw20.ChainLeast', WHERE WHAT IT READS IS OF BULK AT MOST 1048576: true; the input reads as it did. -/
def chainLeastUptoRow : OpenClaim := { program := "ytiejdbdbafmccaa", sum := "b94a0a27e834cbd93c9f8310e2dfae4bb169c5503c007f1f994da46141d83734", func := "athanor/athanorlaw20.ChainLeast", spec := "chainLeast", unfollowed := true, recurses := true, plainKeys := false, apart := false, narrowed := true }
def ChainLeastUptoSaid : Prop := chainLeastUptoRow.holds Try.pinned (OpenSpec.upto chainLeastSpec)

end Rows
end Go.Proofs.Ytiejdbdbafmccaa
