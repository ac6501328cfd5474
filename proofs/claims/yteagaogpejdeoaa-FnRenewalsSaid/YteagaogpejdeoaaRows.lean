/-
  No cell of these rows narrows 'for every input' (looked for: loops, veiled, ifaces, maps, wideKeys, modest, calm, conditions, laid).
  DERIVED. THE GIVEN ROWS OF THIS SEAT. 12 by the template 'for every input the law returns true; each argument reads behind the call as it read before'; 0 by the template 'total and deterministic' (their statements: YteagaogpejdeoaaTotals.lean).
  GIVEN WITH THE SEED: the statements are not yours to turn. If you find one false, say at which input.
  Laid BY PROGRAM, IN A SANDBOX (cutbox-rows.mjs): the forced cells as the released guide's own fill.sh prints them over the translation f31124cadf19d1ac… (all of the seat's roots in one cut). By AI agents, Wed Nov 11 2026. No macro, syntax, notation, axiom, sorry.
-/
import Derived.Test.YteagaogpejdeoaaChecked
import GoSem.Claim
import GoSem.ClaimJoined
import GoSem.ClaimMapViews
import Derived.JoinedTies
import Derived.KernelRfl
namespace Go.Proofs.Yteagaogpejdeoaa
/- THE CELL 'sum', in the pinned program and in every row, IS THE sha256 OF THE DUMP (.gsa) THAT YteagaogpejdeoaaProg.lean LOADS. Nothing in Lean hashes anything: it is a label: what it is worth is what the hold of that sum in a sandbox is worth. -/
noncomputable def Try.pinned : Pinned := { name := "yteagaogpejdeoaa", sum := "f31124cadf19d1ac0fecc3536064f84284ab758f85c0a6047c4e82390d9ae0b7", checked := Try.checked }
namespace Rows
def none {H : Type} : Left H := { results := [], args := [] }

/-- 'laws.FnExactEntryOk': WHATEVER THE INPUT: true; the input reads as it did. -/
def fnExactEntryOkSpec : ChangeSpec := { name := "fnExactEntryOk", fn := fun _ => fun
  | [d] => { results := [.lit (.bool true)], args := [d] }
  | _ => none }
def fnExactEntryOkRow : OpenClaim := { program := "yteagaogpejdeoaa", sum := "f31124cadf19d1ac0fecc3536064f84284ab758f85c0a6047c4e82390d9ae0b7", func := "loop.example/g01287/laws.FnExactEntryOk", spec := "fnExactEntryOk", apart := false }
def FnExactEntryOkSaid : Prop := fnExactEntryOkRow.holds Try.pinned (OpenSpec.ofChange fnExactEntryOkSpec)

/-- ITS FALSE NEIGHBOUR: 'it returns false'. Refute it at one input. -/
def fnExactEntryOkWrong : ChangeSpec := { name := "fnExactEntryOk", fn := fun _ => fun
  | [d] => { results := [.lit (.bool false)], args := [d] }
  | _ => none }
def FnExactEntryOkWrongFalsely : Prop := fnExactEntryOkRow.holds Try.pinned (OpenSpec.ofChange fnExactEntryOkWrong)

/-- 'laws.FnRenewals': WHATEVER THE INPUT: true; the input reads as it did. -/
def fnRenewalsSpec : ChangeSpec := { name := "fnRenewals", fn := fun _ => fun
  | [d] => { results := [.lit (.bool true)], args := [d] }
  | _ => none }
def fnRenewalsRow : OpenClaim := { program := "yteagaogpejdeoaa", sum := "f31124cadf19d1ac0fecc3536064f84284ab758f85c0a6047c4e82390d9ae0b7", func := "loop.example/g01287/laws.FnRenewals", spec := "fnRenewals", apart := false }
def FnRenewalsSaid : Prop := fnRenewalsRow.holds Try.pinned (OpenSpec.ofChange fnRenewalsSpec)

/-- ITS FALSE NEIGHBOUR: 'it returns false'. Refute it at one input. -/
def fnRenewalsWrong : ChangeSpec := { name := "fnRenewals", fn := fun _ => fun
  | [d] => { results := [.lit (.bool false)], args := [d] }
  | _ => none }
def FnRenewalsWrongFalsely : Prop := fnRenewalsRow.holds Try.pinned (OpenSpec.ofChange fnRenewalsWrong)

/-- 'laws.FnExactRenewals': WHATEVER THE INPUT: true; the input reads as it did. -/
def fnExactRenewalsSpec : ChangeSpec := { name := "fnExactRenewals", fn := fun _ => fun
  | [d1, d2, d3] => { results := [.lit (.bool true)], args := [d1, d2, d3] }
  | _ => none }
def fnExactRenewalsRow : OpenClaim := { program := "yteagaogpejdeoaa", sum := "f31124cadf19d1ac0fecc3536064f84284ab758f85c0a6047c4e82390d9ae0b7", func := "loop.example/g01287/laws.FnExactRenewals", spec := "fnExactRenewals", apart := false }
def FnExactRenewalsSaid : Prop := fnExactRenewalsRow.holds Try.pinned (OpenSpec.ofChange fnExactRenewalsSpec)

/-- ITS FALSE NEIGHBOUR: 'it returns false'. Refute it at one input. -/
def fnExactRenewalsWrong : ChangeSpec := { name := "fnExactRenewals", fn := fun _ => fun
  | [d1, d2, d3] => { results := [.lit (.bool false)], args := [d1, d2, d3] }
  | _ => none }
def FnExactRenewalsWrongFalsely : Prop := fnExactRenewalsRow.holds Try.pinned (OpenSpec.ofChange fnExactRenewalsWrong)

/-- 'laws.FnExactLeasesOk': WHATEVER THE INPUT: true; the input reads as it did. -/
def fnExactLeasesOkSpec : ChangeSpec := { name := "fnExactLeasesOk", fn := fun _ => fun
  | [d] => { results := [.lit (.bool true)], args := [d] }
  | _ => none }
def fnExactLeasesOkRow : OpenClaim := { program := "yteagaogpejdeoaa", sum := "f31124cadf19d1ac0fecc3536064f84284ab758f85c0a6047c4e82390d9ae0b7", func := "loop.example/g01287/laws.FnExactLeasesOk", spec := "fnExactLeasesOk", apart := false }
def FnExactLeasesOkSaid : Prop := fnExactLeasesOkRow.holds Try.pinned (OpenSpec.ofChange fnExactLeasesOkSpec)

/-- ITS FALSE NEIGHBOUR: 'it returns false'. Refute it at one input. -/
def fnExactLeasesOkWrong : ChangeSpec := { name := "fnExactLeasesOk", fn := fun _ => fun
  | [d] => { results := [.lit (.bool false)], args := [d] }
  | _ => none }
def FnExactLeasesOkWrongFalsely : Prop := fnExactLeasesOkRow.holds Try.pinned (OpenSpec.ofChange fnExactLeasesOkWrong)

/-- 'laws.FnExactCanReach': WHATEVER THE INPUT: true; the input reads as it did. -/
def fnExactCanReachSpec : ChangeSpec := { name := "fnExactCanReach", fn := fun _ => fun
  | [d1, d2, d3, d4] => { results := [.lit (.bool true)], args := [d1, d2, d3, d4] }
  | _ => none }
def fnExactCanReachRow : OpenClaim := { program := "yteagaogpejdeoaa", sum := "f31124cadf19d1ac0fecc3536064f84284ab758f85c0a6047c4e82390d9ae0b7", func := "loop.example/g01287/laws.FnExactCanReach", spec := "fnExactCanReach", apart := false }
def FnExactCanReachSaid : Prop := fnExactCanReachRow.holds Try.pinned (OpenSpec.ofChange fnExactCanReachSpec)

/-- ITS FALSE NEIGHBOUR: 'it returns false'. Refute it at one input. -/
def fnExactCanReachWrong : ChangeSpec := { name := "fnExactCanReach", fn := fun _ => fun
  | [d1, d2, d3, d4] => { results := [.lit (.bool false)], args := [d1, d2, d3, d4] }
  | _ => none }
def FnExactCanReachWrongFalsely : Prop := fnExactCanReachRow.holds Try.pinned (OpenSpec.ofChange fnExactCanReachWrong)

/-- 'laws.FnExactLeaseCost': WHATEVER THE INPUT: true; the input reads as it did. -/
def fnExactLeaseCostSpec : ChangeSpec := { name := "fnExactLeaseCost", fn := fun _ => fun
  | [d] => { results := [.lit (.bool true)], args := [d] }
  | _ => none }
def fnExactLeaseCostRow : OpenClaim := { program := "yteagaogpejdeoaa", sum := "f31124cadf19d1ac0fecc3536064f84284ab758f85c0a6047c4e82390d9ae0b7", func := "loop.example/g01287/laws.FnExactLeaseCost", spec := "fnExactLeaseCost", apart := false }
def FnExactLeaseCostSaid : Prop := fnExactLeaseCostRow.holds Try.pinned (OpenSpec.ofChange fnExactLeaseCostSpec)

/-- ITS FALSE NEIGHBOUR: 'it returns false'. Refute it at one input. -/
def fnExactLeaseCostWrong : ChangeSpec := { name := "fnExactLeaseCost", fn := fun _ => fun
  | [d] => { results := [.lit (.bool false)], args := [d] }
  | _ => none }
def FnExactLeaseCostWrongFalsely : Prop := fnExactLeaseCostRow.holds Try.pinned (OpenSpec.ofChange fnExactLeaseCostWrong)

/-- 'laws.FnExactPagesAt': WHATEVER THE INPUT: true; the input reads as it did. -/
def fnExactPagesAtSpec : ChangeSpec := { name := "fnExactPagesAt", fn := fun _ => fun
  | [d1, d2] => { results := [.lit (.bool true)], args := [d1, d2] }
  | _ => none }
def fnExactPagesAtRow : OpenClaim := { program := "yteagaogpejdeoaa", sum := "f31124cadf19d1ac0fecc3536064f84284ab758f85c0a6047c4e82390d9ae0b7", func := "loop.example/g01287/laws.FnExactPagesAt", spec := "fnExactPagesAt", apart := false }
def FnExactPagesAtSaid : Prop := fnExactPagesAtRow.holds Try.pinned (OpenSpec.ofChange fnExactPagesAtSpec)

/-- ITS FALSE NEIGHBOUR: 'it returns false'. Refute it at one input. -/
def fnExactPagesAtWrong : ChangeSpec := { name := "fnExactPagesAt", fn := fun _ => fun
  | [d1, d2] => { results := [.lit (.bool false)], args := [d1, d2] }
  | _ => none }
def FnExactPagesAtWrongFalsely : Prop := fnExactPagesAtRow.holds Try.pinned (OpenSpec.ofChange fnExactPagesAtWrong)

/-- 'laws.FnExactCountCodes': WHATEVER THE INPUT: true; the input reads as it did. -/
def fnExactCountCodesSpec : ChangeSpec := { name := "fnExactCountCodes", fn := fun _ => fun
  | [d] => { results := [.lit (.bool true)], args := [d] }
  | _ => none }
def fnExactCountCodesRow : OpenClaim := { program := "yteagaogpejdeoaa", sum := "f31124cadf19d1ac0fecc3536064f84284ab758f85c0a6047c4e82390d9ae0b7", func := "loop.example/g01287/laws.FnExactCountCodes", spec := "fnExactCountCodes", apart := false }
def FnExactCountCodesSaid : Prop := fnExactCountCodesRow.holds Try.pinned (OpenSpec.ofChange fnExactCountCodesSpec)

/-- ITS FALSE NEIGHBOUR: 'it returns false'. Refute it at one input. -/
def fnExactCountCodesWrong : ChangeSpec := { name := "fnExactCountCodes", fn := fun _ => fun
  | [d] => { results := [.lit (.bool false)], args := [d] }
  | _ => none }
def FnExactCountCodesWrongFalsely : Prop := fnExactCountCodesRow.holds Try.pinned (OpenSpec.ofChange fnExactCountCodesWrong)

/-- 'laws.FnExactQuotaOk': WHATEVER THE INPUT: true; the input reads as it did. -/
def fnExactQuotaOkSpec : ChangeSpec := { name := "fnExactQuotaOk", fn := fun _ => fun
  | [d] => { results := [.lit (.bool true)], args := [d] }
  | _ => none }
def fnExactQuotaOkRow : OpenClaim := { program := "yteagaogpejdeoaa", sum := "f31124cadf19d1ac0fecc3536064f84284ab758f85c0a6047c4e82390d9ae0b7", func := "loop.example/g01287/laws.FnExactQuotaOk", spec := "fnExactQuotaOk", apart := false }
def FnExactQuotaOkSaid : Prop := fnExactQuotaOkRow.holds Try.pinned (OpenSpec.ofChange fnExactQuotaOkSpec)

/-- ITS FALSE NEIGHBOUR: 'it returns false'. Refute it at one input. -/
def fnExactQuotaOkWrong : ChangeSpec := { name := "fnExactQuotaOk", fn := fun _ => fun
  | [d] => { results := [.lit (.bool false)], args := [d] }
  | _ => none }
def FnExactQuotaOkWrongFalsely : Prop := fnExactQuotaOkRow.holds Try.pinned (OpenSpec.ofChange fnExactQuotaOkWrong)

/-- 'laws.FnExactOwnUse': WHATEVER THE INPUT: true; the input reads as it did. -/
def fnExactOwnUseSpec : ChangeSpec := { name := "fnExactOwnUse", fn := fun _ => fun
  | [d1, d2] => { results := [.lit (.bool true)], args := [d1, d2] }
  | _ => none }
def fnExactOwnUseRow : OpenClaim := { program := "yteagaogpejdeoaa", sum := "f31124cadf19d1ac0fecc3536064f84284ab758f85c0a6047c4e82390d9ae0b7", func := "loop.example/g01287/laws.FnExactOwnUse", spec := "fnExactOwnUse", apart := false }
def FnExactOwnUseSaid : Prop := fnExactOwnUseRow.holds Try.pinned (OpenSpec.ofChange fnExactOwnUseSpec)

/-- ITS FALSE NEIGHBOUR: 'it returns false'. Refute it at one input. -/
def fnExactOwnUseWrong : ChangeSpec := { name := "fnExactOwnUse", fn := fun _ => fun
  | [d1, d2] => { results := [.lit (.bool false)], args := [d1, d2] }
  | _ => none }
def FnExactOwnUseWrongFalsely : Prop := fnExactOwnUseRow.holds Try.pinned (OpenSpec.ofChange fnExactOwnUseWrong)

/-- 'laws.FnExactFirstShort': WHATEVER THE INPUT: true; the input reads as it did. -/
def fnExactFirstShortSpec : ChangeSpec := { name := "fnExactFirstShort", fn := fun _ => fun
  | [d1, d2] => { results := [.lit (.bool true)], args := [d1, d2] }
  | _ => none }
def fnExactFirstShortRow : OpenClaim := { program := "yteagaogpejdeoaa", sum := "f31124cadf19d1ac0fecc3536064f84284ab758f85c0a6047c4e82390d9ae0b7", func := "loop.example/g01287/laws.FnExactFirstShort", spec := "fnExactFirstShort", apart := false }
def FnExactFirstShortSaid : Prop := fnExactFirstShortRow.holds Try.pinned (OpenSpec.ofChange fnExactFirstShortSpec)

/-- ITS FALSE NEIGHBOUR: 'it returns false'. Refute it at one input. -/
def fnExactFirstShortWrong : ChangeSpec := { name := "fnExactFirstShort", fn := fun _ => fun
  | [d1, d2] => { results := [.lit (.bool false)], args := [d1, d2] }
  | _ => none }
def FnExactFirstShortWrongFalsely : Prop := fnExactFirstShortRow.holds Try.pinned (OpenSpec.ofChange fnExactFirstShortWrong)

/-- 'laws.FnExactPeak': WHATEVER THE INPUT: true; the input reads as it did. -/
def fnExactPeakSpec : ChangeSpec := { name := "fnExactPeak", fn := fun _ => fun
  | [d] => { results := [.lit (.bool true)], args := [d] }
  | _ => none }
def fnExactPeakRow : OpenClaim := { program := "yteagaogpejdeoaa", sum := "f31124cadf19d1ac0fecc3536064f84284ab758f85c0a6047c4e82390d9ae0b7", func := "loop.example/g01287/laws.FnExactPeak", spec := "fnExactPeak", apart := false }
def FnExactPeakSaid : Prop := fnExactPeakRow.holds Try.pinned (OpenSpec.ofChange fnExactPeakSpec)

/-- ITS FALSE NEIGHBOUR: 'it returns false'. Refute it at one input. -/
def fnExactPeakWrong : ChangeSpec := { name := "fnExactPeak", fn := fun _ => fun
  | [d] => { results := [.lit (.bool false)], args := [d] }
  | _ => none }
def FnExactPeakWrongFalsely : Prop := fnExactPeakRow.holds Try.pinned (OpenSpec.ofChange fnExactPeakWrong)

/- THE SECOND FORM. 'bulk': how many values and letters a reading holds, each counted each time it is reached (what is shared counts as often as it is met; a slice's spare places count too). A statement '..UptoSaid' is the law's where the arguments, and the package variables that the reading takes, are together of bulk at most 1048576: NARROWER than '..Said'. Prove '..Said' where nothing that the law and all that it calls make is longer than what came in: it says more and counts as full. Else prove '..UptoSaid'. A law counts once. -/
mutual
def uptoBulk {H : Type} : DataW H → Nat
  | .lit (.string bytes) => bytes.length + 1
  | .lit _ => 1
  | .nil => 1
  | .ptr d => uptoBulk d + 1
  | .slice elems spare => uptoBulkAll elems + uptoBulkAll spare + 1
  | .agg parts => uptoBulkAll parts + 1
  | .iface _ d => uptoBulk d + 1
  | .map entries => uptoBulkEntries entries + 1
  | .held _ => 1
def uptoBulkAll {H : Type} : List (DataW H) → Nat
  | [] => 0
  | d :: r => uptoBulk d + uptoBulkAll r
def uptoBulkEntries {H : Type} : List (Lit × DataW H) → Nat
  | [] => 0
  | x :: r => uptoBulkEntry x + uptoBulkEntries r
def uptoBulkEntry {H : Type} : Lit × DataW H → Nat
  | (.string bytes, d) => bytes.length + uptoBulk d + 1
  | (_, d) => uptoBulk d + 1
 end
def uptoSmall : (H : Type) → List (DataW H) → Bool := fun _ ds => decide (uptoBulkAll ds ≤ 1048576)
def OpenSpec.upto (s : _root_.Go.ChangeSpec) : _root_.Go.OpenSpec := { _root_.Go.OpenSpec.ofChange s with cond := some uptoSmall }

/-- 'laws.FnExactEntryOk', WHERE WHAT IT READS IS OF BULK AT MOST 1048576: true; the input reads as it did. -/
def fnExactEntryOkUptoRow : OpenClaim := { program := "yteagaogpejdeoaa", sum := "f31124cadf19d1ac0fecc3536064f84284ab758f85c0a6047c4e82390d9ae0b7", func := "loop.example/g01287/laws.FnExactEntryOk", spec := "fnExactEntryOk", apart := false, narrowed := true }
def FnExactEntryOkUptoSaid : Prop := fnExactEntryOkUptoRow.holds Try.pinned (OpenSpec.upto fnExactEntryOkSpec)

/-- 'laws.FnRenewals', WHERE WHAT IT READS IS OF BULK AT MOST 1048576: true; the input reads as it did. -/
def fnRenewalsUptoRow : OpenClaim := { program := "yteagaogpejdeoaa", sum := "f31124cadf19d1ac0fecc3536064f84284ab758f85c0a6047c4e82390d9ae0b7", func := "loop.example/g01287/laws.FnRenewals", spec := "fnRenewals", apart := false, narrowed := true }
def FnRenewalsUptoSaid : Prop := fnRenewalsUptoRow.holds Try.pinned (OpenSpec.upto fnRenewalsSpec)

/-- 'laws.FnExactRenewals', WHERE WHAT IT READS IS OF BULK AT MOST 1048576: true; the input reads as it did. -/
def fnExactRenewalsUptoRow : OpenClaim := { program := "yteagaogpejdeoaa", sum := "f31124cadf19d1ac0fecc3536064f84284ab758f85c0a6047c4e82390d9ae0b7", func := "loop.example/g01287/laws.FnExactRenewals", spec := "fnExactRenewals", apart := false, narrowed := true }
def FnExactRenewalsUptoSaid : Prop := fnExactRenewalsUptoRow.holds Try.pinned (OpenSpec.upto fnExactRenewalsSpec)

/-- 'laws.FnExactLeasesOk', WHERE WHAT IT READS IS OF BULK AT MOST 1048576: true; the input reads as it did. -/
def fnExactLeasesOkUptoRow : OpenClaim := { program := "yteagaogpejdeoaa", sum := "f31124cadf19d1ac0fecc3536064f84284ab758f85c0a6047c4e82390d9ae0b7", func := "loop.example/g01287/laws.FnExactLeasesOk", spec := "fnExactLeasesOk", apart := false, narrowed := true }
def FnExactLeasesOkUptoSaid : Prop := fnExactLeasesOkUptoRow.holds Try.pinned (OpenSpec.upto fnExactLeasesOkSpec)

/-- 'laws.FnExactCanReach', WHERE WHAT IT READS IS OF BULK AT MOST 1048576: true; the input reads as it did. -/
def fnExactCanReachUptoRow : OpenClaim := { program := "yteagaogpejdeoaa", sum := "f31124cadf19d1ac0fecc3536064f84284ab758f85c0a6047c4e82390d9ae0b7", func := "loop.example/g01287/laws.FnExactCanReach", spec := "fnExactCanReach", apart := false, narrowed := true }
def FnExactCanReachUptoSaid : Prop := fnExactCanReachUptoRow.holds Try.pinned (OpenSpec.upto fnExactCanReachSpec)

/-- 'laws.FnExactLeaseCost', WHERE WHAT IT READS IS OF BULK AT MOST 1048576: true; the input reads as it did. -/
def fnExactLeaseCostUptoRow : OpenClaim := { program := "yteagaogpejdeoaa", sum := "f31124cadf19d1ac0fecc3536064f84284ab758f85c0a6047c4e82390d9ae0b7", func := "loop.example/g01287/laws.FnExactLeaseCost", spec := "fnExactLeaseCost", apart := false, narrowed := true }
def FnExactLeaseCostUptoSaid : Prop := fnExactLeaseCostUptoRow.holds Try.pinned (OpenSpec.upto fnExactLeaseCostSpec)

/-- 'laws.FnExactPagesAt', WHERE WHAT IT READS IS OF BULK AT MOST 1048576: true; the input reads as it did. -/
def fnExactPagesAtUptoRow : OpenClaim := { program := "yteagaogpejdeoaa", sum := "f31124cadf19d1ac0fecc3536064f84284ab758f85c0a6047c4e82390d9ae0b7", func := "loop.example/g01287/laws.FnExactPagesAt", spec := "fnExactPagesAt", apart := false, narrowed := true }
def FnExactPagesAtUptoSaid : Prop := fnExactPagesAtUptoRow.holds Try.pinned (OpenSpec.upto fnExactPagesAtSpec)

/-- 'laws.FnExactCountCodes', WHERE WHAT IT READS IS OF BULK AT MOST 1048576: true; the input reads as it did. -/
def fnExactCountCodesUptoRow : OpenClaim := { program := "yteagaogpejdeoaa", sum := "f31124cadf19d1ac0fecc3536064f84284ab758f85c0a6047c4e82390d9ae0b7", func := "loop.example/g01287/laws.FnExactCountCodes", spec := "fnExactCountCodes", apart := false, narrowed := true }
def FnExactCountCodesUptoSaid : Prop := fnExactCountCodesUptoRow.holds Try.pinned (OpenSpec.upto fnExactCountCodesSpec)

/-- 'laws.FnExactQuotaOk', WHERE WHAT IT READS IS OF BULK AT MOST 1048576: true; the input reads as it did. -/
def fnExactQuotaOkUptoRow : OpenClaim := { program := "yteagaogpejdeoaa", sum := "f31124cadf19d1ac0fecc3536064f84284ab758f85c0a6047c4e82390d9ae0b7", func := "loop.example/g01287/laws.FnExactQuotaOk", spec := "fnExactQuotaOk", apart := false, narrowed := true }
def FnExactQuotaOkUptoSaid : Prop := fnExactQuotaOkUptoRow.holds Try.pinned (OpenSpec.upto fnExactQuotaOkSpec)

/-- 'laws.FnExactOwnUse', WHERE WHAT IT READS IS OF BULK AT MOST 1048576: true; the input reads as it did. -/
def fnExactOwnUseUptoRow : OpenClaim := { program := "yteagaogpejdeoaa", sum := "f31124cadf19d1ac0fecc3536064f84284ab758f85c0a6047c4e82390d9ae0b7", func := "loop.example/g01287/laws.FnExactOwnUse", spec := "fnExactOwnUse", apart := false, narrowed := true }
def FnExactOwnUseUptoSaid : Prop := fnExactOwnUseUptoRow.holds Try.pinned (OpenSpec.upto fnExactOwnUseSpec)

/-- 'laws.FnExactFirstShort', WHERE WHAT IT READS IS OF BULK AT MOST 1048576: true; the input reads as it did. -/
def fnExactFirstShortUptoRow : OpenClaim := { program := "yteagaogpejdeoaa", sum := "f31124cadf19d1ac0fecc3536064f84284ab758f85c0a6047c4e82390d9ae0b7", func := "loop.example/g01287/laws.FnExactFirstShort", spec := "fnExactFirstShort", apart := false, narrowed := true }
def FnExactFirstShortUptoSaid : Prop := fnExactFirstShortUptoRow.holds Try.pinned (OpenSpec.upto fnExactFirstShortSpec)

/-- 'laws.FnExactPeak', WHERE WHAT IT READS IS OF BULK AT MOST 1048576: true; the input reads as it did. -/
def fnExactPeakUptoRow : OpenClaim := { program := "yteagaogpejdeoaa", sum := "f31124cadf19d1ac0fecc3536064f84284ab758f85c0a6047c4e82390d9ae0b7", func := "loop.example/g01287/laws.FnExactPeak", spec := "fnExactPeak", apart := false, narrowed := true }
def FnExactPeakUptoSaid : Prop := fnExactPeakUptoRow.holds Try.pinned (OpenSpec.upto fnExactPeakSpec)

end Rows
end Go.Proofs.Yteagaogpejdeoaa
