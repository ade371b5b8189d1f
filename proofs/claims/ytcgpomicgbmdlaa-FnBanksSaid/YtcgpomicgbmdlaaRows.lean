/-
  No cell of these rows narrows 'for every input' (looked for: loops, veiled, ifaces, maps, wideKeys, modest, calm, conditions, laid).
  DERIVED. THE GIVEN ROWS OF THIS SEAT. 6 by the template 'for every input the law returns true; each argument reads behind the call as it read before'; 0 by the template 'total and deterministic' (their statements: YtcgpomicgbmdlaaTotals.lean).
  GIVEN WITH THE SEED: the statements are not yours to turn. If you find one false, say at which input.
  Laid BY PROGRAM, IN A SANDBOX (cutbox-rows.mjs): the forced cells as the released guide's own fill.sh prints them over the translation 327d1eb9cb9f5dd3… (all of the seat's roots in one cut). By AI agents, Wed Nov 11 2026. No macro, syntax, notation, axiom, sorry.
-/
import Derived.Test.YtcgpomicgbmdlaaChecked
import GoSem.Claim
import GoSem.ClaimJoined
import GoSem.ClaimMapViews
import Derived.JoinedTies
import Derived.KernelRfl
namespace Go.Proofs.Ytcgpomicgbmdlaa
/- THE CELL 'sum', in the pinned program and in every row, IS THE sha256 OF THE DUMP (.gsa) THAT YtcgpomicgbmdlaaProg.lean LOADS. Nothing in Lean hashes anything: it is a label: what it is worth is what the hold of that sum in a sandbox is worth. -/
noncomputable def Try.pinned : Pinned := { name := "ytcgpomicgbmdlaa", sum := "327d1eb9cb9f5dd35674434bc8a51c9846b8bf7704899ace89a463b9a7590ca7", checked := Try.checked }
namespace Rows
def none {H : Type} : Left H := { results := [], args := [] }

/-- 'laws.FnDots': WHATEVER THE INPUT: true; the input reads as it did. -/
def fnDotsSpec : ChangeSpec := { name := "fnDots", fn := fun _ => fun
  | [d1, d2] => { results := [.lit (.bool true)], args := [d1, d2] }
  | _ => none }
def fnDotsRow : OpenClaim := { program := "ytcgpomicgbmdlaa", sum := "327d1eb9cb9f5dd35674434bc8a51c9846b8bf7704899ace89a463b9a7590ca7", func := "loop.example/g01212/laws.FnDots", spec := "fnDots", inPlace := ["math.Float32frombits", "math.Float32bits"], apart := false }
def FnDotsSaid : Prop := fnDotsRow.holds Try.pinned (OpenSpec.ofChange fnDotsSpec)

/-- ITS FALSE NEIGHBOUR: 'it returns false'. Refute it at one input. -/
def fnDotsWrong : ChangeSpec := { name := "fnDots", fn := fun _ => fun
  | [d1, d2] => { results := [.lit (.bool false)], args := [d1, d2] }
  | _ => none }
def FnDotsWrongFalsely : Prop := fnDotsRow.holds Try.pinned (OpenSpec.ofChange fnDotsWrong)

/-- 'laws.FnAroundTaps': WHATEVER THE INPUT: true; the input reads as it did. -/
def fnAroundTapsSpec : ChangeSpec := { name := "fnAroundTaps", fn := fun _ => fun
  | [d1, d2] => { results := [.lit (.bool true)], args := [d1, d2] }
  | _ => none }
def fnAroundTapsRow : OpenClaim := { program := "ytcgpomicgbmdlaa", sum := "327d1eb9cb9f5dd35674434bc8a51c9846b8bf7704899ace89a463b9a7590ca7", func := "loop.example/g01212/laws.FnAroundTaps", spec := "fnAroundTaps", inPlace := ["math.Float32frombits", "math.Float64frombits", "math.Float32bits"], unfollowed := true, recurses := true, apart := false }
def FnAroundTapsSaid : Prop := fnAroundTapsRow.holds Try.pinned (OpenSpec.ofChange fnAroundTapsSpec)

/-- ITS FALSE NEIGHBOUR: 'it returns false'. Refute it at one input. -/
def fnAroundTapsWrong : ChangeSpec := { name := "fnAroundTaps", fn := fun _ => fun
  | [d1, d2] => { results := [.lit (.bool false)], args := [d1, d2] }
  | _ => none }
def FnAroundTapsWrongFalsely : Prop := fnAroundTapsRow.holds Try.pinned (OpenSpec.ofChange fnAroundTapsWrong)

/-- 'laws.FnBanks': WHATEVER THE INPUT: true; the input reads as it did. -/
def fnBanksSpec : ChangeSpec := { name := "fnBanks", fn := fun _ => fun
  | [d1, d2] => { results := [.lit (.bool true)], args := [d1, d2] }
  | _ => none }
def fnBanksRow : OpenClaim := { program := "ytcgpomicgbmdlaa", sum := "327d1eb9cb9f5dd35674434bc8a51c9846b8bf7704899ace89a463b9a7590ca7", func := "loop.example/g01212/laws.FnBanks", spec := "fnBanks", inPlace := ["math.Float32frombits", "math.Float64frombits", "math.sqrt"], unfollowed := true, recurses := true, apart := false }
def FnBanksSaid : Prop := fnBanksRow.holds Try.pinned (OpenSpec.ofChange fnBanksSpec)

/-- ITS FALSE NEIGHBOUR: 'it returns false'. Refute it at one input. -/
def fnBanksWrong : ChangeSpec := { name := "fnBanks", fn := fun _ => fun
  | [d1, d2] => { results := [.lit (.bool false)], args := [d1, d2] }
  | _ => none }
def FnBanksWrongFalsely : Prop := fnBanksRow.holds Try.pinned (OpenSpec.ofChange fnBanksWrong)

/-- 'laws.FnCommon': WHATEVER THE INPUT: true; the input reads as it did. -/
def fnCommonSpec : ChangeSpec := { name := "fnCommon", fn := fun _ => fun
  | [d1, d2] => { results := [.lit (.bool true)], args := [d1, d2] }
  | _ => none }
def fnCommonRow : OpenClaim := { program := "ytcgpomicgbmdlaa", sum := "327d1eb9cb9f5dd35674434bc8a51c9846b8bf7704899ace89a463b9a7590ca7", func := "loop.example/g01212/laws.FnCommon", spec := "fnCommon", inPlace := ["math.Float32frombits", "math.Float64frombits", "math.Float64bits", "math.archTrunc", "math.sqrt", "math.Float32bits"], unfollowed := true, recurses := true, apart := false }
def FnCommonSaid : Prop := fnCommonRow.holds Try.pinned (OpenSpec.ofChange fnCommonSpec)

/-- ITS FALSE NEIGHBOUR: 'it returns false'. Refute it at one input. -/
def fnCommonWrong : ChangeSpec := { name := "fnCommon", fn := fun _ => fun
  | [d1, d2] => { results := [.lit (.bool false)], args := [d1, d2] }
  | _ => none }
def FnCommonWrongFalsely : Prop := fnCommonRow.holds Try.pinned (OpenSpec.ofChange fnCommonWrong)

/-- 'laws.FnAround': WHATEVER THE INPUT: true; the input reads as it did. -/
def fnAroundSpec : ChangeSpec := { name := "fnAround", fn := fun _ => fun
  | [d1, d2] => { results := [.lit (.bool true)], args := [d1, d2] }
  | _ => none }
def fnAroundRow : OpenClaim := { program := "ytcgpomicgbmdlaa", sum := "327d1eb9cb9f5dd35674434bc8a51c9846b8bf7704899ace89a463b9a7590ca7", func := "loop.example/g01212/laws.FnAround", spec := "fnAround", inPlace := ["math.Float32frombits", "math.Float64frombits", "math.sqrt", "math.Float32bits"], unfollowed := true, recurses := true, apart := false }
def FnAroundSaid : Prop := fnAroundRow.holds Try.pinned (OpenSpec.ofChange fnAroundSpec)

/-- ITS FALSE NEIGHBOUR: 'it returns false'. Refute it at one input. -/
def fnAroundWrong : ChangeSpec := { name := "fnAround", fn := fun _ => fun
  | [d1, d2] => { results := [.lit (.bool false)], args := [d1, d2] }
  | _ => none }
def FnAroundWrongFalsely : Prop := fnAroundRow.holds Try.pinned (OpenSpec.ofChange fnAroundWrong)

/-- 'laws.FnBalanced': WHATEVER THE INPUT: true; the input reads as it did. -/
def fnBalancedSpec : ChangeSpec := { name := "fnBalanced", fn := fun _ => fun
  | [d1, d2] => { results := [.lit (.bool true)], args := [d1, d2] }
  | _ => none }
def fnBalancedRow : OpenClaim := { program := "ytcgpomicgbmdlaa", sum := "327d1eb9cb9f5dd35674434bc8a51c9846b8bf7704899ace89a463b9a7590ca7", func := "loop.example/g01212/laws.FnBalanced", spec := "fnBalanced", inPlace := ["math.Float32frombits", "math.Float64frombits", "math.sqrt"], unfollowed := true, recurses := true, apart := false }
def FnBalancedSaid : Prop := fnBalancedRow.holds Try.pinned (OpenSpec.ofChange fnBalancedSpec)

/-- ITS FALSE NEIGHBOUR: 'it returns false'. Refute it at one input. -/
def fnBalancedWrong : ChangeSpec := { name := "fnBalanced", fn := fun _ => fun
  | [d1, d2] => { results := [.lit (.bool false)], args := [d1, d2] }
  | _ => none }
def FnBalancedWrongFalsely : Prop := fnBalancedRow.holds Try.pinned (OpenSpec.ofChange fnBalancedWrong)

/- THE SECOND FORM. 'bulk': how many values and letters a reading holds, each counted each time it is reached (what is shared counts as often as it is met; a slice's spare places count too). A statement '..UptoSaid' is the law's where the arguments, and the package variables that the reading takes, are together of bulk at most 1048576: NARROWER than '..Said'. Prove '..Said' where nothing that the law and all that it calls make is longer than what came in: it says more and counts as full. Else prove '..UptoSaid'. A law counts once. -/
mutual
def uptoBulk {H : Type} : DataW H → Nat
  | .lit (.string bytes) => bytes.length + 1
  | .lit _ => 1
  | .nil => 1
  | .ptr d => uptoBulk d + 1
  | .slice elems spare => uptoBulkAll elems + uptoBulkAll spare + 1
  | .agg parts => uptoBulkAll parts + 1
  | .iface _ d => uptoBulk d + 1
  | .map entries => uptoBulkEntries entries + 1
  | .held _ => 1
def uptoBulkAll {H : Type} : List (DataW H) → Nat
  | [] => 0
  | d :: r => uptoBulk d + uptoBulkAll r
def uptoBulkEntries {H : Type} : List (Lit × DataW H) → Nat
  | [] => 0
  | x :: r => uptoBulkEntry x + uptoBulkEntries r
def uptoBulkEntry {H : Type} : Lit × DataW H → Nat
  | (.string bytes, d) => bytes.length + uptoBulk d + 1
  | (_, d) => uptoBulk d + 1
 end
def uptoSmall : (H : Type) → List (DataW H) → Bool := fun _ ds => decide (uptoBulkAll ds ≤ 1048576)
def OpenSpec.upto (s : _root_.Go.ChangeSpec) : _root_.Go.OpenSpec := { _root_.Go.OpenSpec.ofChange s with cond := some uptoSmall }

/-- 'laws.FnDots', WHERE WHAT IT READS IS OF BULK AT MOST 1048576: true; the input reads as it did. -/
def fnDotsUptoRow : OpenClaim := { program := "ytcgpomicgbmdlaa", sum := "327d1eb9cb9f5dd35674434bc8a51c9846b8bf7704899ace89a463b9a7590ca7", func := "loop.example/g01212/laws.FnDots", spec := "fnDots", inPlace := ["math.Float32frombits", "math.Float32bits"], apart := false, narrowed := true }
def FnDotsUptoSaid : Prop := fnDotsUptoRow.holds Try.pinned (OpenSpec.upto fnDotsSpec)

/-- 'laws.FnAroundTaps', WHERE WHAT IT READS IS OF BULK AT MOST 1048576: true; the input reads as it did. -/
def fnAroundTapsUptoRow : OpenClaim := { program := "ytcgpomicgbmdlaa", sum := "327d1eb9cb9f5dd35674434bc8a51c9846b8bf7704899ace89a463b9a7590ca7", func := "loop.example/g01212/laws.FnAroundTaps", spec := "fnAroundTaps", inPlace := ["math.Float32frombits", "math.Float64frombits", "math.Float32bits"], unfollowed := true, recurses := true, apart := false, narrowed := true }
def FnAroundTapsUptoSaid : Prop := fnAroundTapsUptoRow.holds Try.pinned (OpenSpec.upto fnAroundTapsSpec)

/-- 'laws.FnBanks', WHERE WHAT IT READS IS OF BULK AT MOST 1048576: true; the input reads as it did. -/
def fnBanksUptoRow : OpenClaim := { program := "ytcgpomicgbmdlaa", sum := "327d1eb9cb9f5dd35674434bc8a51c9846b8bf7704899ace89a463b9a7590ca7", func := "loop.example/g01212/laws.FnBanks", spec := "fnBanks", inPlace := ["math.Float32frombits", "math.Float64frombits", "math.sqrt"], unfollowed := true, recurses := true, apart := false, narrowed := true }
def FnBanksUptoSaid : Prop := fnBanksUptoRow.holds Try.pinned (OpenSpec.upto fnBanksSpec)

/-- 'laws.FnCommon', WHERE WHAT IT READS IS OF BULK AT MOST 1048576: true; the input reads as it did. -/
def fnCommonUptoRow : OpenClaim := { program := "ytcgpomicgbmdlaa", sum := "327d1eb9cb9f5dd35674434bc8a51c9846b8bf7704899ace89a463b9a7590ca7", func := "loop.example/g01212/laws.FnCommon", spec := "fnCommon", inPlace := ["math.Float32frombits", "math.Float64frombits", "math.Float64bits", "math.archTrunc", "math.sqrt", "math.Float32bits"], unfollowed := true, recurses := true, apart := false, narrowed := true }
def FnCommonUptoSaid : Prop := fnCommonUptoRow.holds Try.pinned (OpenSpec.upto fnCommonSpec)

/-- 'laws.FnAround', WHERE WHAT IT READS IS OF BULK AT MOST 1048576: true; the input reads as it did. -/
def fnAroundUptoRow : OpenClaim := { program := "ytcgpomicgbmdlaa", sum := "327d1eb9cb9f5dd35674434bc8a51c9846b8bf7704899ace89a463b9a7590ca7", func := "loop.example/g01212/laws.FnAround", spec := "fnAround", inPlace := ["math.Float32frombits", "math.Float64frombits", "math.sqrt", "math.Float32bits"], unfollowed := true, recurses := true, apart := false, narrowed := true }
def FnAroundUptoSaid : Prop := fnAroundUptoRow.holds Try.pinned (OpenSpec.upto fnAroundSpec)

/-- 'laws.FnBalanced', WHERE WHAT IT READS IS OF BULK AT MOST 1048576: true; the input reads as it did. -/
def fnBalancedUptoRow : OpenClaim := { program := "ytcgpomicgbmdlaa", sum := "327d1eb9cb9f5dd35674434bc8a51c9846b8bf7704899ace89a463b9a7590ca7", func := "loop.example/g01212/laws.FnBalanced", spec := "fnBalanced", inPlace := ["math.Float32frombits", "math.Float64frombits", "math.sqrt"], unfollowed := true, recurses := true, apart := false, narrowed := true }
def FnBalancedUptoSaid : Prop := fnBalancedUptoRow.holds Try.pinned (OpenSpec.upto fnBalancedSpec)

end Rows
end Go.Proofs.Ytcgpomicgbmdlaa
