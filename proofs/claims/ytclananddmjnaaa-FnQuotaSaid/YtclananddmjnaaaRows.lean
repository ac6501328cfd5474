/-
  No cell of these rows narrows 'for every input' (looked for: loops, veiled, ifaces, maps, wideKeys, modest, calm, conditions, laid).
  DERIVED. THE GIVEN ROWS OF THIS SEAT. 12 by the template 'for every input the law returns true; each argument reads behind the call as it read before'; 0 by the template 'total and deterministic' (their statements: YtclananddmjnaaaTotals.lean).
  GIVEN WITH THE SEED: the statements are not yours to turn. If you find one false, say at which input.
  Laid BY PROGRAM, IN A SANDBOX (cutbox-rows.mjs): the forced cells as the released guide's own fill.sh prints them over the translation a9203c082ea15ab1… (all of the seat's roots in one cut). By AI agents, Wed Nov 11 2026. No macro, syntax, notation, axiom, sorry.
-/
import Derived.Test.YtclananddmjnaaaChecked
import GoSem.Claim
import GoSem.ClaimJoined
import GoSem.ClaimMapViews
import Derived.JoinedTies
import Derived.KernelRfl
namespace Go.Proofs.Ytclananddmjnaaa
/- THE CELL 'sum', in the pinned program and in every row, IS THE sha256 OF THE DUMP (.gsa) THAT YtclananddmjnaaaProg.lean LOADS. Nothing in Lean hashes anything: it is a label: what it is worth is what the hold of that sum in a sandbox is worth. -/
noncomputable def Try.pinned : Pinned := { name := "ytclananddmjnaaa", sum := "a9203c082ea15ab1597c6981497849e29aeec1793ed7e579ae2a5148ebfe1bfb", checked := Try.checked }
namespace Rows
def none {H : Type} : Left H := { results := [], args := [] }

/-- 'laws.FnExactRoom': WHATEVER THE INPUT: true; the input reads as it did. -/
def fnExactRoomSpec : ChangeSpec := { name := "fnExactRoom", fn := fun _ => fun
  | [d1, d2] => { results := [.lit (.bool true)], args := [d1, d2] }
  | _ => none }
def fnExactRoomRow : OpenClaim := { program := "ytclananddmjnaaa", sum := "a9203c082ea15ab1597c6981497849e29aeec1793ed7e579ae2a5148ebfe1bfb", func := "loop.example/g01287/laws.FnExactRoom", spec := "fnExactRoom", apart := false }
def FnExactRoomSaid : Prop := fnExactRoomRow.holds Try.pinned (OpenSpec.ofChange fnExactRoomSpec)

/-- ITS FALSE NEIGHBOUR: 'it returns false'. Refute it at one input. -/
def fnExactRoomWrong : ChangeSpec := { name := "fnExactRoom", fn := fun _ => fun
  | [d1, d2] => { results := [.lit (.bool false)], args := [d1, d2] }
  | _ => none }
def FnExactRoomWrongFalsely : Prop := fnExactRoomRow.holds Try.pinned (OpenSpec.ofChange fnExactRoomWrong)

/-- 'laws.FnExactLeasesFit': WHATEVER THE INPUT: true; the input reads as it did. -/
def fnExactLeasesFitSpec : ChangeSpec := { name := "fnExactLeasesFit", fn := fun _ => fun
  | [d1, d2] => { results := [.lit (.bool true)], args := [d1, d2] }
  | _ => none }
def fnExactLeasesFitRow : OpenClaim := { program := "ytclananddmjnaaa", sum := "a9203c082ea15ab1597c6981497849e29aeec1793ed7e579ae2a5148ebfe1bfb", func := "loop.example/g01287/laws.FnExactLeasesFit", spec := "fnExactLeasesFit", apart := false }
def FnExactLeasesFitSaid : Prop := fnExactLeasesFitRow.holds Try.pinned (OpenSpec.ofChange fnExactLeasesFitSpec)

/-- ITS FALSE NEIGHBOUR: 'it returns false'. Refute it at one input. -/
def fnExactLeasesFitWrong : ChangeSpec := { name := "fnExactLeasesFit", fn := fun _ => fun
  | [d1, d2] => { results := [.lit (.bool false)], args := [d1, d2] }
  | _ => none }
def FnExactLeasesFitWrongFalsely : Prop := fnExactLeasesFitRow.holds Try.pinned (OpenSpec.ofChange fnExactLeasesFitWrong)

/-- 'laws.FnExactClosure': WHATEVER THE INPUT: true; the input reads as it did. -/
def fnExactClosureSpec : ChangeSpec := { name := "fnExactClosure", fn := fun _ => fun
  | [d1, d2] => { results := [.lit (.bool true)], args := [d1, d2] }
  | _ => none }
def fnExactClosureRow : OpenClaim := { program := "ytclananddmjnaaa", sum := "a9203c082ea15ab1597c6981497849e29aeec1793ed7e579ae2a5148ebfe1bfb", func := "loop.example/g01287/laws.FnExactClosure", spec := "fnExactClosure", apart := false }
def FnExactClosureSaid : Prop := fnExactClosureRow.holds Try.pinned (OpenSpec.ofChange fnExactClosureSpec)

/-- ITS FALSE NEIGHBOUR: 'it returns false'. Refute it at one input. -/
def fnExactClosureWrong : ChangeSpec := { name := "fnExactClosure", fn := fun _ => fun
  | [d1, d2] => { results := [.lit (.bool false)], args := [d1, d2] }
  | _ => none }
def FnExactClosureWrongFalsely : Prop := fnExactClosureRow.holds Try.pinned (OpenSpec.ofChange fnExactClosureWrong)

/-- 'laws.FnLeases': WHATEVER THE INPUT: true; the input reads as it did. -/
def fnLeasesSpec : ChangeSpec := { name := "fnLeases", fn := fun _ => fun
  | [d] => { results := [.lit (.bool true)], args := [d] }
  | _ => none }
def fnLeasesRow : OpenClaim := { program := "ytclananddmjnaaa", sum := "a9203c082ea15ab1597c6981497849e29aeec1793ed7e579ae2a5148ebfe1bfb", func := "loop.example/g01287/laws.FnLeases", spec := "fnLeases", apart := false }
def FnLeasesSaid : Prop := fnLeasesRow.holds Try.pinned (OpenSpec.ofChange fnLeasesSpec)

/-- ITS FALSE NEIGHBOUR: 'it returns false'. Refute it at one input. -/
def fnLeasesWrong : ChangeSpec := { name := "fnLeases", fn := fun _ => fun
  | [d] => { results := [.lit (.bool false)], args := [d] }
  | _ => none }
def FnLeasesWrongFalsely : Prop := fnLeasesRow.holds Try.pinned (OpenSpec.ofChange fnLeasesWrong)

/-- 'laws.FnExactQuotaAdd': WHATEVER THE INPUT: true; the input reads as it did. -/
def fnExactQuotaAddSpec : ChangeSpec := { name := "fnExactQuotaAdd", fn := fun _ => fun
  | [d1, d2, d3] => { results := [.lit (.bool true)], args := [d1, d2, d3] }
  | _ => none }
def fnExactQuotaAddRow : OpenClaim := { program := "ytclananddmjnaaa", sum := "a9203c082ea15ab1597c6981497849e29aeec1793ed7e579ae2a5148ebfe1bfb", func := "loop.example/g01287/laws.FnExactQuotaAdd", spec := "fnExactQuotaAdd", apart := false }
def FnExactQuotaAddSaid : Prop := fnExactQuotaAddRow.holds Try.pinned (OpenSpec.ofChange fnExactQuotaAddSpec)

/-- ITS FALSE NEIGHBOUR: 'it returns false'. Refute it at one input. -/
def fnExactQuotaAddWrong : ChangeSpec := { name := "fnExactQuotaAdd", fn := fun _ => fun
  | [d1, d2, d3] => { results := [.lit (.bool false)], args := [d1, d2, d3] }
  | _ => none }
def FnExactQuotaAddWrongFalsely : Prop := fnExactQuotaAddRow.holds Try.pinned (OpenSpec.ofChange fnExactQuotaAddWrong)

/-- 'laws.FnExactRefund': WHATEVER THE INPUT: true; the input reads as it did. -/
def fnExactRefundSpec : ChangeSpec := { name := "fnExactRefund", fn := fun _ => fun
  | [d1, d2, d3] => { results := [.lit (.bool true)], args := [d1, d2, d3] }
  | _ => none }
def fnExactRefundRow : OpenClaim := { program := "ytclananddmjnaaa", sum := "a9203c082ea15ab1597c6981497849e29aeec1793ed7e579ae2a5148ebfe1bfb", func := "loop.example/g01287/laws.FnExactRefund", spec := "fnExactRefund", apart := false }
def FnExactRefundSaid : Prop := fnExactRefundRow.holds Try.pinned (OpenSpec.ofChange fnExactRefundSpec)

/-- ITS FALSE NEIGHBOUR: 'it returns false'. Refute it at one input. -/
def fnExactRefundWrong : ChangeSpec := { name := "fnExactRefund", fn := fun _ => fun
  | [d1, d2, d3] => { results := [.lit (.bool false)], args := [d1, d2, d3] }
  | _ => none }
def FnExactRefundWrongFalsely : Prop := fnExactRefundRow.holds Try.pinned (OpenSpec.ofChange fnExactRefundWrong)

/-- 'laws.FnExactCharge': WHATEVER THE INPUT: true; the input reads as it did. -/
def fnExactChargeSpec : ChangeSpec := { name := "fnExactCharge", fn := fun _ => fun
  | [d1, d2, d3] => { results := [.lit (.bool true)], args := [d1, d2, d3] }
  | _ => none }
def fnExactChargeRow : OpenClaim := { program := "ytclananddmjnaaa", sum := "a9203c082ea15ab1597c6981497849e29aeec1793ed7e579ae2a5148ebfe1bfb", func := "loop.example/g01287/laws.FnExactCharge", spec := "fnExactCharge", apart := false }
def FnExactChargeSaid : Prop := fnExactChargeRow.holds Try.pinned (OpenSpec.ofChange fnExactChargeSpec)

/-- ITS FALSE NEIGHBOUR: 'it returns false'. Refute it at one input. -/
def fnExactChargeWrong : ChangeSpec := { name := "fnExactCharge", fn := fun _ => fun
  | [d1, d2, d3] => { results := [.lit (.bool false)], args := [d1, d2, d3] }
  | _ => none }
def FnExactChargeWrongFalsely : Prop := fnExactChargeRow.holds Try.pinned (OpenSpec.ofChange fnExactChargeWrong)

/-- 'laws.FnExactHoard': WHATEVER THE INPUT: true; the input reads as it did. -/
def fnExactHoardSpec : ChangeSpec := { name := "fnExactHoard", fn := fun _ => fun
  | [d1, d2] => { results := [.lit (.bool true)], args := [d1, d2] }
  | _ => none }
def fnExactHoardRow : OpenClaim := { program := "ytclananddmjnaaa", sum := "a9203c082ea15ab1597c6981497849e29aeec1793ed7e579ae2a5148ebfe1bfb", func := "loop.example/g01287/laws.FnExactHoard", spec := "fnExactHoard", apart := false }
def FnExactHoardSaid : Prop := fnExactHoardRow.holds Try.pinned (OpenSpec.ofChange fnExactHoardSpec)

/-- ITS FALSE NEIGHBOUR: 'it returns false'. Refute it at one input. -/
def fnExactHoardWrong : ChangeSpec := { name := "fnExactHoard", fn := fun _ => fun
  | [d1, d2] => { results := [.lit (.bool false)], args := [d1, d2] }
  | _ => none }
def FnExactHoardWrongFalsely : Prop := fnExactHoardRow.holds Try.pinned (OpenSpec.ofChange fnExactHoardWrong)

/-- 'laws.FnQuota': WHATEVER THE INPUT: true; the input reads as it did. -/
def fnQuotaSpec : ChangeSpec := { name := "fnQuota", fn := fun _ => fun
  | [d] => { results := [.lit (.bool true)], args := [d] }
  | _ => none }
def fnQuotaRow : OpenClaim := { program := "ytclananddmjnaaa", sum := "a9203c082ea15ab1597c6981497849e29aeec1793ed7e579ae2a5148ebfe1bfb", func := "loop.example/g01287/laws.FnQuota", spec := "fnQuota", apart := false }
def FnQuotaSaid : Prop := fnQuotaRow.holds Try.pinned (OpenSpec.ofChange fnQuotaSpec)

/-- ITS FALSE NEIGHBOUR: 'it returns false'. Refute it at one input. -/
def fnQuotaWrong : ChangeSpec := { name := "fnQuota", fn := fun _ => fun
  | [d] => { results := [.lit (.bool false)], args := [d] }
  | _ => none }
def FnQuotaWrongFalsely : Prop := fnQuotaRow.holds Try.pinned (OpenSpec.ofChange fnQuotaWrong)

/-- 'laws.FnExactDecay': WHATEVER THE INPUT: true; the input reads as it did. -/
def fnExactDecaySpec : ChangeSpec := { name := "fnExactDecay", fn := fun _ => fun
  | [d1, d2, d3] => { results := [.lit (.bool true)], args := [d1, d2, d3] }
  | _ => none }
def fnExactDecayRow : OpenClaim := { program := "ytclananddmjnaaa", sum := "a9203c082ea15ab1597c6981497849e29aeec1793ed7e579ae2a5148ebfe1bfb", func := "loop.example/g01287/laws.FnExactDecay", spec := "fnExactDecay", apart := false }
def FnExactDecaySaid : Prop := fnExactDecayRow.holds Try.pinned (OpenSpec.ofChange fnExactDecaySpec)

/-- ITS FALSE NEIGHBOUR: 'it returns false'. Refute it at one input. -/
def fnExactDecayWrong : ChangeSpec := { name := "fnExactDecay", fn := fun _ => fun
  | [d1, d2, d3] => { results := [.lit (.bool false)], args := [d1, d2, d3] }
  | _ => none }
def FnExactDecayWrongFalsely : Prop := fnExactDecayRow.holds Try.pinned (OpenSpec.ofChange fnExactDecayWrong)

/-- 'laws.FnExactDecayRounds': WHATEVER THE INPUT: true; the input reads as it did. -/
def fnExactDecayRoundsSpec : ChangeSpec := { name := "fnExactDecayRounds", fn := fun _ => fun
  | [d1, d2, d3, d4] => { results := [.lit (.bool true)], args := [d1, d2, d3, d4] }
  | _ => none }
def fnExactDecayRoundsRow : OpenClaim := { program := "ytclananddmjnaaa", sum := "a9203c082ea15ab1597c6981497849e29aeec1793ed7e579ae2a5148ebfe1bfb", func := "loop.example/g01287/laws.FnExactDecayRounds", spec := "fnExactDecayRounds", apart := false }
def FnExactDecayRoundsSaid : Prop := fnExactDecayRoundsRow.holds Try.pinned (OpenSpec.ofChange fnExactDecayRoundsSpec)

/-- ITS FALSE NEIGHBOUR: 'it returns false'. Refute it at one input. -/
def fnExactDecayRoundsWrong : ChangeSpec := { name := "fnExactDecayRounds", fn := fun _ => fun
  | [d1, d2, d3, d4] => { results := [.lit (.bool false)], args := [d1, d2, d3, d4] }
  | _ => none }
def FnExactDecayRoundsWrongFalsely : Prop := fnExactDecayRoundsRow.holds Try.pinned (OpenSpec.ofChange fnExactDecayRoundsWrong)

/-- 'laws.FnDecay': WHATEVER THE INPUT: true; the input reads as it did. -/
def fnDecaySpec : ChangeSpec := { name := "fnDecay", fn := fun _ => fun
  | [d] => { results := [.lit (.bool true)], args := [d] }
  | _ => none }
def fnDecayRow : OpenClaim := { program := "ytclananddmjnaaa", sum := "a9203c082ea15ab1597c6981497849e29aeec1793ed7e579ae2a5148ebfe1bfb", func := "loop.example/g01287/laws.FnDecay", spec := "fnDecay", apart := false }
def FnDecaySaid : Prop := fnDecayRow.holds Try.pinned (OpenSpec.ofChange fnDecaySpec)

/-- ITS FALSE NEIGHBOUR: 'it returns false'. Refute it at one input. -/
def fnDecayWrong : ChangeSpec := { name := "fnDecay", fn := fun _ => fun
  | [d] => { results := [.lit (.bool false)], args := [d] }
  | _ => none }
def FnDecayWrongFalsely : Prop := fnDecayRow.holds Try.pinned (OpenSpec.ofChange fnDecayWrong)

/- THE SECOND FORM. 'bulk': how many values and letters a reading holds, each counted each time it is reached (what is shared counts as often as it is met; a slice's spare places count too). A statement '..UptoSaid' is the law's where the arguments, and the package variables that the reading takes, are together of bulk at most 1048576: NARROWER than '..Said'. Prove '..Said' where nothing that the law and all that it calls make is longer than what came in: it says more and counts as full. Else prove '..UptoSaid'. A law counts once. -/
mutual
def uptoBulk {H : Type} : DataW H → Nat
  | .lit (.string bytes) => bytes.length + 1
  | .lit _ => 1
  | .nil => 1
  | .ptr d => uptoBulk d + 1
  | .slice elems spare => uptoBulkAll elems + uptoBulkAll spare + 1
  | .agg parts => uptoBulkAll parts + 1
  | .iface _ d => uptoBulk d + 1
  | .map entries => uptoBulkEntries entries + 1
  | .held _ => 1
def uptoBulkAll {H : Type} : List (DataW H) → Nat
  | [] => 0
  | d :: r => uptoBulk d + uptoBulkAll r
def uptoBulkEntries {H : Type} : List (Lit × DataW H) → Nat
  | [] => 0
  | x :: r => uptoBulkEntry x + uptoBulkEntries r
def uptoBulkEntry {H : Type} : Lit × DataW H → Nat
  | (.string bytes, d) => bytes.length + uptoBulk d + 1
  | (_, d) => uptoBulk d + 1
 end
def uptoSmall : (H : Type) → List (DataW H) → Bool := fun _ ds => decide (uptoBulkAll ds ≤ 1048576)
def OpenSpec.upto (s : _root_.Go.ChangeSpec) : _root_.Go.OpenSpec := { _root_.Go.OpenSpec.ofChange s with cond := some uptoSmall }

/-- 'laws.FnExactRoom', WHERE WHAT IT READS IS OF BULK AT MOST 1048576: true; the input reads as it did. -/
def fnExactRoomUptoRow : OpenClaim := { program := "ytclananddmjnaaa", sum := "a9203c082ea15ab1597c6981497849e29aeec1793ed7e579ae2a5148ebfe1bfb", func := "loop.example/g01287/laws.FnExactRoom", spec := "fnExactRoom", apart := false, narrowed := true }
def FnExactRoomUptoSaid : Prop := fnExactRoomUptoRow.holds Try.pinned (OpenSpec.upto fnExactRoomSpec)

/-- 'laws.FnExactLeasesFit', WHERE WHAT IT READS IS OF BULK AT MOST 1048576: true; the input reads as it did. -/
def fnExactLeasesFitUptoRow : OpenClaim := { program := "ytclananddmjnaaa", sum := "a9203c082ea15ab1597c6981497849e29aeec1793ed7e579ae2a5148ebfe1bfb", func := "loop.example/g01287/laws.FnExactLeasesFit", spec := "fnExactLeasesFit", apart := false, narrowed := true }
def FnExactLeasesFitUptoSaid : Prop := fnExactLeasesFitUptoRow.holds Try.pinned (OpenSpec.upto fnExactLeasesFitSpec)

/-- 'laws.FnExactClosure', WHERE WHAT IT READS IS OF BULK AT MOST 1048576: true; the input reads as it did. -/
def fnExactClosureUptoRow : OpenClaim := { program := "ytclananddmjnaaa", sum := "a9203c082ea15ab1597c6981497849e29aeec1793ed7e579ae2a5148ebfe1bfb", func := "loop.example/g01287/laws.FnExactClosure", spec := "fnExactClosure", apart := false, narrowed := true }
def FnExactClosureUptoSaid : Prop := fnExactClosureUptoRow.holds Try.pinned (OpenSpec.upto fnExactClosureSpec)

/-- 'laws.FnLeases', WHERE WHAT IT READS IS OF BULK AT MOST 1048576: true; the input reads as it did. -/
def fnLeasesUptoRow : OpenClaim := { program := "ytclananddmjnaaa", sum := "a9203c082ea15ab1597c6981497849e29aeec1793ed7e579ae2a5148ebfe1bfb", func := "loop.example/g01287/laws.FnLeases", spec := "fnLeases", apart := false, narrowed := true }
def FnLeasesUptoSaid : Prop := fnLeasesUptoRow.holds Try.pinned (OpenSpec.upto fnLeasesSpec)

/-- 'laws.FnExactQuotaAdd', WHERE WHAT IT READS IS OF BULK AT MOST 1048576: true; the input reads as it did. -/
def fnExactQuotaAddUptoRow : OpenClaim := { program := "ytclananddmjnaaa", sum := "a9203c082ea15ab1597c6981497849e29aeec1793ed7e579ae2a5148ebfe1bfb", func := "loop.example/g01287/laws.FnExactQuotaAdd", spec := "fnExactQuotaAdd", apart := false, narrowed := true }
def FnExactQuotaAddUptoSaid : Prop := fnExactQuotaAddUptoRow.holds Try.pinned (OpenSpec.upto fnExactQuotaAddSpec)

/-- 'laws.FnExactRefund', WHERE WHAT IT READS IS OF BULK AT MOST 1048576: true; the input reads as it did. -/
def fnExactRefundUptoRow : OpenClaim := { program := "ytclananddmjnaaa", sum := "a9203c082ea15ab1597c6981497849e29aeec1793ed7e579ae2a5148ebfe1bfb", func := "loop.example/g01287/laws.FnExactRefund", spec := "fnExactRefund", apart := false, narrowed := true }
def FnExactRefundUptoSaid : Prop := fnExactRefundUptoRow.holds Try.pinned (OpenSpec.upto fnExactRefundSpec)

/-- 'laws.FnExactCharge', WHERE WHAT IT READS IS OF BULK AT MOST 1048576: true; the input reads as it did. -/
def fnExactChargeUptoRow : OpenClaim := { program := "ytclananddmjnaaa", sum := "a9203c082ea15ab1597c6981497849e29aeec1793ed7e579ae2a5148ebfe1bfb", func := "loop.example/g01287/laws.FnExactCharge", spec := "fnExactCharge", apart := false, narrowed := true }
def FnExactChargeUptoSaid : Prop := fnExactChargeUptoRow.holds Try.pinned (OpenSpec.upto fnExactChargeSpec)

/-- 'laws.FnExactHoard', WHERE WHAT IT READS IS OF BULK AT MOST 1048576: true; the input reads as it did. -/
def fnExactHoardUptoRow : OpenClaim := { program := "ytclananddmjnaaa", sum := "a9203c082ea15ab1597c6981497849e29aeec1793ed7e579ae2a5148ebfe1bfb", func := "loop.example/g01287/laws.FnExactHoard", spec := "fnExactHoard", apart := false, narrowed := true }
def FnExactHoardUptoSaid : Prop := fnExactHoardUptoRow.holds Try.pinned (OpenSpec.upto fnExactHoardSpec)

/-- 'laws.FnQuota', WHERE WHAT IT READS IS OF BULK AT MOST 1048576: true; the input reads as it did. -/
def fnQuotaUptoRow : OpenClaim := { program := "ytclananddmjnaaa", sum := "a9203c082ea15ab1597c6981497849e29aeec1793ed7e579ae2a5148ebfe1bfb", func := "loop.example/g01287/laws.FnQuota", spec := "fnQuota", apart := false, narrowed := true }
def FnQuotaUptoSaid : Prop := fnQuotaUptoRow.holds Try.pinned (OpenSpec.upto fnQuotaSpec)

/-- 'laws.FnExactDecay', WHERE WHAT IT READS IS OF BULK AT MOST 1048576: true; the input reads as it did. -/
def fnExactDecayUptoRow : OpenClaim := { program := "ytclananddmjnaaa", sum := "a9203c082ea15ab1597c6981497849e29aeec1793ed7e579ae2a5148ebfe1bfb", func := "loop.example/g01287/laws.FnExactDecay", spec := "fnExactDecay", apart := false, narrowed := true }
def FnExactDecayUptoSaid : Prop := fnExactDecayUptoRow.holds Try.pinned (OpenSpec.upto fnExactDecaySpec)

/-- 'laws.FnExactDecayRounds', WHERE WHAT IT READS IS OF BULK AT MOST 1048576: true; the input reads as it did. -/
def fnExactDecayRoundsUptoRow : OpenClaim := { program := "ytclananddmjnaaa", sum := "a9203c082ea15ab1597c6981497849e29aeec1793ed7e579ae2a5148ebfe1bfb", func := "loop.example/g01287/laws.FnExactDecayRounds", spec := "fnExactDecayRounds", apart := false, narrowed := true }
def FnExactDecayRoundsUptoSaid : Prop := fnExactDecayRoundsUptoRow.holds Try.pinned (OpenSpec.upto fnExactDecayRoundsSpec)

/-- 'laws.FnDecay', WHERE WHAT IT READS IS OF BULK AT MOST 1048576: true; the input reads as it did. -/
def fnDecayUptoRow : OpenClaim := { program := "ytclananddmjnaaa", sum := "a9203c082ea15ab1597c6981497849e29aeec1793ed7e579ae2a5148ebfe1bfb", func := "loop.example/g01287/laws.FnDecay", spec := "fnDecay", apart := false, narrowed := true }
def FnDecayUptoSaid : Prop := fnDecayUptoRow.holds Try.pinned (OpenSpec.upto fnDecaySpec)

end Rows
end Go.Proofs.Ytclananddmjnaaa
