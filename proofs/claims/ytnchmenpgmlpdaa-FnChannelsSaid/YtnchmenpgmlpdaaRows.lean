/-
  No cell of these rows narrows 'for every input' (looked for: loops, veiled, ifaces, maps, wideKeys, modest, calm, conditions, laid).
  DERIVED. THE GIVEN ROWS OF THIS SEAT. 10 by the template 'for every input the law returns true; each argument reads behind the call as it read before'; 0 by the template 'total and deterministic' (their statements: YtnchmenpgmlpdaaTotals.lean).
  GIVEN WITH THE SEED: the statements are not yours to turn. If you find one false, say at which input.
  Laid BY PROGRAM, IN A SANDBOX (cutbox-rows.mjs): the forced cells as the released guide's own fill.sh prints them over the translation 73312e0dbb4d71f2… (all of the seat's roots in one cut). By AI agents, Wed Nov 11 2026. No macro, syntax, notation, axiom, sorry.
-/
import Derived.Test.YtnchmenpgmlpdaaChecked
import GoSem.Claim
import GoSem.ClaimJoined
import GoSem.ClaimMapViews
import Derived.JoinedTies
import Derived.KernelRfl
namespace Go.Proofs.Ytnchmenpgmlpdaa
/- THE CELL 'sum', in the pinned program and in every row, IS THE sha256 OF THE DUMP (.gsa) THAT YtnchmenpgmlpdaaProg.lean LOADS. Nothing in Lean hashes anything: it is a label: what it is worth is what the hold of that sum in a sandbox is worth. -/
noncomputable def Try.pinned : Pinned := { name := "ytnchmenpgmlpdaa", sum := "73312e0dbb4d71f264ccd343e0d28eb032bfa854b028f24ccb48535091e301d9", checked := Try.checked }
namespace Rows
def none {H : Type} : Left H := { results := [], args := [] }

/-- 'laws.FnExactChannels': WHATEVER THE INPUT: true; the input reads as it did. -/
def fnExactChannelsSpec : ChangeSpec := { name := "fnExactChannels", fn := fun _ => fun
  | [d1, d2] => { results := [.lit (.bool true)], args := [d1, d2] }
  | _ => none }
def fnExactChannelsRow : OpenClaim := { program := "ytnchmenpgmlpdaa", sum := "73312e0dbb4d71f264ccd343e0d28eb032bfa854b028f24ccb48535091e301d9", func := "loop.example/g01287/laws.FnExactChannels", spec := "fnExactChannels", apart := false }
def FnExactChannelsSaid : Prop := fnExactChannelsRow.holds Try.pinned (OpenSpec.ofChange fnExactChannelsSpec)

/-- ITS FALSE NEIGHBOUR: 'it returns false'. Refute it at one input. -/
def fnExactChannelsWrong : ChangeSpec := { name := "fnExactChannels", fn := fun _ => fun
  | [d1, d2] => { results := [.lit (.bool false)], args := [d1, d2] }
  | _ => none }
def FnExactChannelsWrongFalsely : Prop := fnExactChannelsRow.holds Try.pinned (OpenSpec.ofChange fnExactChannelsWrong)

/-- 'laws.FnExactLeaks': WHATEVER THE INPUT: true; the input reads as it did. -/
def fnExactLeaksSpec : ChangeSpec := { name := "fnExactLeaks", fn := fun _ => fun
  | [d] => { results := [.lit (.bool true)], args := [d] }
  | _ => none }
def fnExactLeaksRow : OpenClaim := { program := "ytnchmenpgmlpdaa", sum := "73312e0dbb4d71f264ccd343e0d28eb032bfa854b028f24ccb48535091e301d9", func := "loop.example/g01287/laws.FnExactLeaks", spec := "fnExactLeaks", apart := false }
def FnExactLeaksSaid : Prop := fnExactLeaksRow.holds Try.pinned (OpenSpec.ofChange fnExactLeaksSpec)

/-- ITS FALSE NEIGHBOUR: 'it returns false'. Refute it at one input. -/
def fnExactLeaksWrong : ChangeSpec := { name := "fnExactLeaks", fn := fun _ => fun
  | [d] => { results := [.lit (.bool false)], args := [d] }
  | _ => none }
def FnExactLeaksWrongFalsely : Prop := fnExactLeaksRow.holds Try.pinned (OpenSpec.ofChange fnExactLeaksWrong)

/-- 'laws.FnChannels': WHATEVER THE INPUT: true; the input reads as it did. -/
def fnChannelsSpec : ChangeSpec := { name := "fnChannels", fn := fun _ => fun
  | [d] => { results := [.lit (.bool true)], args := [d] }
  | _ => none }
def fnChannelsRow : OpenClaim := { program := "ytnchmenpgmlpdaa", sum := "73312e0dbb4d71f264ccd343e0d28eb032bfa854b028f24ccb48535091e301d9", func := "loop.example/g01287/laws.FnChannels", spec := "fnChannels", apart := false }
def FnChannelsSaid : Prop := fnChannelsRow.holds Try.pinned (OpenSpec.ofChange fnChannelsSpec)

/-- ITS FALSE NEIGHBOUR: 'it returns false'. Refute it at one input. -/
def fnChannelsWrong : ChangeSpec := { name := "fnChannels", fn := fun _ => fun
  | [d] => { results := [.lit (.bool false)], args := [d] }
  | _ => none }
def FnChannelsWrongFalsely : Prop := fnChannelsRow.holds Try.pinned (OpenSpec.ofChange fnChannelsWrong)

/-- 'laws.FnExactShowTree': WHATEVER THE INPUT: true; the input reads as it did. -/
def fnExactShowTreeSpec : ChangeSpec := { name := "fnExactShowTree", fn := fun _ => fun
  | [d] => { results := [.lit (.bool true)], args := [d] }
  | _ => none }
def fnExactShowTreeRow : OpenClaim := { program := "ytnchmenpgmlpdaa", sum := "73312e0dbb4d71f264ccd343e0d28eb032bfa854b028f24ccb48535091e301d9", func := "loop.example/g01287/laws.FnExactShowTree", spec := "fnExactShowTree", apart := false }
def FnExactShowTreeSaid : Prop := fnExactShowTreeRow.holds Try.pinned (OpenSpec.ofChange fnExactShowTreeSpec)

/-- ITS FALSE NEIGHBOUR: 'it returns false'. Refute it at one input. -/
def fnExactShowTreeWrong : ChangeSpec := { name := "fnExactShowTree", fn := fun _ => fun
  | [d] => { results := [.lit (.bool false)], args := [d] }
  | _ => none }
def FnExactShowTreeWrongFalsely : Prop := fnExactShowTreeRow.holds Try.pinned (OpenSpec.ofChange fnExactShowTreeWrong)

/-- 'laws.FnExactReadTree': WHATEVER THE INPUT: true; the input reads as it did. -/
def fnExactReadTreeSpec : ChangeSpec := { name := "fnExactReadTree", fn := fun _ => fun
  | [d] => { results := [.lit (.bool true)], args := [d] }
  | _ => none }
def fnExactReadTreeRow : OpenClaim := { program := "ytnchmenpgmlpdaa", sum := "73312e0dbb4d71f264ccd343e0d28eb032bfa854b028f24ccb48535091e301d9", func := "loop.example/g01287/laws.FnExactReadTree", spec := "fnExactReadTree", apart := false }
def FnExactReadTreeSaid : Prop := fnExactReadTreeRow.holds Try.pinned (OpenSpec.ofChange fnExactReadTreeSpec)

/-- ITS FALSE NEIGHBOUR: 'it returns false'. Refute it at one input. -/
def fnExactReadTreeWrong : ChangeSpec := { name := "fnExactReadTree", fn := fun _ => fun
  | [d] => { results := [.lit (.bool false)], args := [d] }
  | _ => none }
def FnExactReadTreeWrongFalsely : Prop := fnExactReadTreeRow.holds Try.pinned (OpenSpec.ofChange fnExactReadTreeWrong)

/-- 'laws.FnExactShowObj': WHATEVER THE INPUT: true; the input reads as it did. -/
def fnExactShowObjSpec : ChangeSpec := { name := "fnExactShowObj", fn := fun _ => fun
  | [d] => { results := [.lit (.bool true)], args := [d] }
  | _ => none }
def fnExactShowObjRow : OpenClaim := { program := "ytnchmenpgmlpdaa", sum := "73312e0dbb4d71f264ccd343e0d28eb032bfa854b028f24ccb48535091e301d9", func := "loop.example/g01287/laws.FnExactShowObj", spec := "fnExactShowObj", apart := false }
def FnExactShowObjSaid : Prop := fnExactShowObjRow.holds Try.pinned (OpenSpec.ofChange fnExactShowObjSpec)

/-- ITS FALSE NEIGHBOUR: 'it returns false'. Refute it at one input. -/
def fnExactShowObjWrong : ChangeSpec := { name := "fnExactShowObj", fn := fun _ => fun
  | [d] => { results := [.lit (.bool false)], args := [d] }
  | _ => none }
def FnExactShowObjWrongFalsely : Prop := fnExactShowObjRow.holds Try.pinned (OpenSpec.ofChange fnExactShowObjWrong)

/-- 'laws.FnExactReadObj': WHATEVER THE INPUT: true; the input reads as it did. -/
def fnExactReadObjSpec : ChangeSpec := { name := "fnExactReadObj", fn := fun _ => fun
  | [d] => { results := [.lit (.bool true)], args := [d] }
  | _ => none }
def fnExactReadObjRow : OpenClaim := { program := "ytnchmenpgmlpdaa", sum := "73312e0dbb4d71f264ccd343e0d28eb032bfa854b028f24ccb48535091e301d9", func := "loop.example/g01287/laws.FnExactReadObj", spec := "fnExactReadObj", apart := false }
def FnExactReadObjSaid : Prop := fnExactReadObjRow.holds Try.pinned (OpenSpec.ofChange fnExactReadObjSpec)

/-- ITS FALSE NEIGHBOUR: 'it returns false'. Refute it at one input. -/
def fnExactReadObjWrong : ChangeSpec := { name := "fnExactReadObj", fn := fun _ => fun
  | [d] => { results := [.lit (.bool false)], args := [d] }
  | _ => none }
def FnExactReadObjWrongFalsely : Prop := fnExactReadObjRow.holds Try.pinned (OpenSpec.ofChange fnExactReadObjWrong)

/-- 'laws.FnExactShowArena': WHATEVER THE INPUT: true; the input reads as it did. -/
def fnExactShowArenaSpec : ChangeSpec := { name := "fnExactShowArena", fn := fun _ => fun
  | [d] => { results := [.lit (.bool true)], args := [d] }
  | _ => none }
def fnExactShowArenaRow : OpenClaim := { program := "ytnchmenpgmlpdaa", sum := "73312e0dbb4d71f264ccd343e0d28eb032bfa854b028f24ccb48535091e301d9", func := "loop.example/g01287/laws.FnExactShowArena", spec := "fnExactShowArena", apart := false }
def FnExactShowArenaSaid : Prop := fnExactShowArenaRow.holds Try.pinned (OpenSpec.ofChange fnExactShowArenaSpec)

/-- ITS FALSE NEIGHBOUR: 'it returns false'. Refute it at one input. -/
def fnExactShowArenaWrong : ChangeSpec := { name := "fnExactShowArena", fn := fun _ => fun
  | [d] => { results := [.lit (.bool false)], args := [d] }
  | _ => none }
def FnExactShowArenaWrongFalsely : Prop := fnExactShowArenaRow.holds Try.pinned (OpenSpec.ofChange fnExactShowArenaWrong)

/-- 'laws.FnExactReadArena': WHATEVER THE INPUT: true; the input reads as it did. -/
def fnExactReadArenaSpec : ChangeSpec := { name := "fnExactReadArena", fn := fun _ => fun
  | [d] => { results := [.lit (.bool true)], args := [d] }
  | _ => none }
def fnExactReadArenaRow : OpenClaim := { program := "ytnchmenpgmlpdaa", sum := "73312e0dbb4d71f264ccd343e0d28eb032bfa854b028f24ccb48535091e301d9", func := "loop.example/g01287/laws.FnExactReadArena", spec := "fnExactReadArena", apart := false }
def FnExactReadArenaSaid : Prop := fnExactReadArenaRow.holds Try.pinned (OpenSpec.ofChange fnExactReadArenaSpec)

/-- ITS FALSE NEIGHBOUR: 'it returns false'. Refute it at one input. -/
def fnExactReadArenaWrong : ChangeSpec := { name := "fnExactReadArena", fn := fun _ => fun
  | [d] => { results := [.lit (.bool false)], args := [d] }
  | _ => none }
def FnExactReadArenaWrongFalsely : Prop := fnExactReadArenaRow.holds Try.pinned (OpenSpec.ofChange fnExactReadArenaWrong)

/-- 'laws.FnImages': WHATEVER THE INPUT: true; the input reads as it did. -/
def fnImagesSpec : ChangeSpec := { name := "fnImages", fn := fun _ => fun
  | [d] => { results := [.lit (.bool true)], args := [d] }
  | _ => none }
def fnImagesRow : OpenClaim := { program := "ytnchmenpgmlpdaa", sum := "73312e0dbb4d71f264ccd343e0d28eb032bfa854b028f24ccb48535091e301d9", func := "loop.example/g01287/laws.FnImages", spec := "fnImages", unfollowed := true, recurses := true, apart := false }
def FnImagesSaid : Prop := fnImagesRow.holds Try.pinned (OpenSpec.ofChange fnImagesSpec)

/-- ITS FALSE NEIGHBOUR: 'it returns false'. Refute it at one input. -/
def fnImagesWrong : ChangeSpec := { name := "fnImages", fn := fun _ => fun
  | [d] => { results := [.lit (.bool false)], args := [d] }
  | _ => none }
def FnImagesWrongFalsely : Prop := fnImagesRow.holds Try.pinned (OpenSpec.ofChange fnImagesWrong)

/- THE SECOND FORM. 'bulk': how many values and letters a reading holds, each counted each time it is reached (what is shared counts as often as it is met; a slice's spare places count too). A statement '..UptoSaid' is the law's where the arguments, and the package variables that the reading takes, are together of bulk at most 1048576: NARROWER than '..Said'. Prove '..Said' where nothing that the law and all that it calls make is longer than what came in: it says more and counts as full. Else prove '..UptoSaid'. A law counts once. -/
mutual
def uptoBulk {H : Type} : DataW H → Nat
  | .lit (.string bytes) => bytes.length + 1
  | .lit _ => 1
  | .nil => 1
  | .ptr d => uptoBulk d + 1
  | .slice elems spare => uptoBulkAll elems + uptoBulkAll spare + 1
  | .agg parts => uptoBulkAll parts + 1
  | .iface _ d => uptoBulk d + 1
  | .map entries => uptoBulkEntries entries + 1
  | .held _ => 1
def uptoBulkAll {H : Type} : List (DataW H) → Nat
  | [] => 0
  | d :: r => uptoBulk d + uptoBulkAll r
def uptoBulkEntries {H : Type} : List (Lit × DataW H) → Nat
  | [] => 0
  | x :: r => uptoBulkEntry x + uptoBulkEntries r
def uptoBulkEntry {H : Type} : Lit × DataW H → Nat
  | (.string bytes, d) => bytes.length + uptoBulk d + 1
  | (_, d) => uptoBulk d + 1
 end
def uptoSmall : (H : Type) → List (DataW H) → Bool := fun _ ds => decide (uptoBulkAll ds ≤ 1048576)
def OpenSpec.upto (s : _root_.Go.ChangeSpec) : _root_.Go.OpenSpec := { _root_.Go.OpenSpec.ofChange s with cond := some uptoSmall }

/-- 'laws.FnExactChannels', WHERE WHAT IT READS IS OF BULK AT MOST 1048576: true; the input reads as it did. -/
def fnExactChannelsUptoRow : OpenClaim := { program := "ytnchmenpgmlpdaa", sum := "73312e0dbb4d71f264ccd343e0d28eb032bfa854b028f24ccb48535091e301d9", func := "loop.example/g01287/laws.FnExactChannels", spec := "fnExactChannels", apart := false, narrowed := true }
def FnExactChannelsUptoSaid : Prop := fnExactChannelsUptoRow.holds Try.pinned (OpenSpec.upto fnExactChannelsSpec)

/-- 'laws.FnExactLeaks', WHERE WHAT IT READS IS OF BULK AT MOST 1048576: true; the input reads as it did. -/
def fnExactLeaksUptoRow : OpenClaim := { program := "ytnchmenpgmlpdaa", sum := "73312e0dbb4d71f264ccd343e0d28eb032bfa854b028f24ccb48535091e301d9", func := "loop.example/g01287/laws.FnExactLeaks", spec := "fnExactLeaks", apart := false, narrowed := true }
def FnExactLeaksUptoSaid : Prop := fnExactLeaksUptoRow.holds Try.pinned (OpenSpec.upto fnExactLeaksSpec)

/-- 'laws.FnChannels', WHERE WHAT IT READS IS OF BULK AT MOST 1048576: true; the input reads as it did. -/
def fnChannelsUptoRow : OpenClaim := { program := "ytnchmenpgmlpdaa", sum := "73312e0dbb4d71f264ccd343e0d28eb032bfa854b028f24ccb48535091e301d9", func := "loop.example/g01287/laws.FnChannels", spec := "fnChannels", apart := false, narrowed := true }
def FnChannelsUptoSaid : Prop := fnChannelsUptoRow.holds Try.pinned (OpenSpec.upto fnChannelsSpec)

/-- 'laws.FnExactShowTree', WHERE WHAT IT READS IS OF BULK AT MOST 1048576: true; the input reads as it did. -/
def fnExactShowTreeUptoRow : OpenClaim := { program := "ytnchmenpgmlpdaa", sum := "73312e0dbb4d71f264ccd343e0d28eb032bfa854b028f24ccb48535091e301d9", func := "loop.example/g01287/laws.FnExactShowTree", spec := "fnExactShowTree", apart := false, narrowed := true }
def FnExactShowTreeUptoSaid : Prop := fnExactShowTreeUptoRow.holds Try.pinned (OpenSpec.upto fnExactShowTreeSpec)

/-- 'laws.FnExactReadTree', WHERE WHAT IT READS IS OF BULK AT MOST 1048576: true; the input reads as it did. -/
def fnExactReadTreeUptoRow : OpenClaim := { program := "ytnchmenpgmlpdaa", sum := "73312e0dbb4d71f264ccd343e0d28eb032bfa854b028f24ccb48535091e301d9", func := "loop.example/g01287/laws.FnExactReadTree", spec := "fnExactReadTree", apart := false, narrowed := true }
def FnExactReadTreeUptoSaid : Prop := fnExactReadTreeUptoRow.holds Try.pinned (OpenSpec.upto fnExactReadTreeSpec)

/-- 'laws.FnExactShowObj', WHERE WHAT IT READS IS OF BULK AT MOST 1048576: true; the input reads as it did. -/
def fnExactShowObjUptoRow : OpenClaim := { program := "ytnchmenpgmlpdaa", sum := "73312e0dbb4d71f264ccd343e0d28eb032bfa854b028f24ccb48535091e301d9", func := "loop.example/g01287/laws.FnExactShowObj", spec := "fnExactShowObj", apart := false, narrowed := true }
def FnExactShowObjUptoSaid : Prop := fnExactShowObjUptoRow.holds Try.pinned (OpenSpec.upto fnExactShowObjSpec)

/-- 'laws.FnExactReadObj', WHERE WHAT IT READS IS OF BULK AT MOST 1048576: true; the input reads as it did. -/
def fnExactReadObjUptoRow : OpenClaim := { program := "ytnchmenpgmlpdaa", sum := "73312e0dbb4d71f264ccd343e0d28eb032bfa854b028f24ccb48535091e301d9", func := "loop.example/g01287/laws.FnExactReadObj", spec := "fnExactReadObj", apart := false, narrowed := true }
def FnExactReadObjUptoSaid : Prop := fnExactReadObjUptoRow.holds Try.pinned (OpenSpec.upto fnExactReadObjSpec)

/-- 'laws.FnExactShowArena', WHERE WHAT IT READS IS OF BULK AT MOST 1048576: true; the input reads as it did. -/
def fnExactShowArenaUptoRow : OpenClaim := { program := "ytnchmenpgmlpdaa", sum := "73312e0dbb4d71f264ccd343e0d28eb032bfa854b028f24ccb48535091e301d9", func := "loop.example/g01287/laws.FnExactShowArena", spec := "fnExactShowArena", apart := false, narrowed := true }
def FnExactShowArenaUptoSaid : Prop := fnExactShowArenaUptoRow.holds Try.pinned (OpenSpec.upto fnExactShowArenaSpec)

/-- 'laws.FnExactReadArena', WHERE WHAT IT READS IS OF BULK AT MOST 1048576: true; the input reads as it did. -/
def fnExactReadArenaUptoRow : OpenClaim := { program := "ytnchmenpgmlpdaa", sum := "73312e0dbb4d71f264ccd343e0d28eb032bfa854b028f24ccb48535091e301d9", func := "loop.example/g01287/laws.FnExactReadArena", spec := "fnExactReadArena", apart := false, narrowed := true }
def FnExactReadArenaUptoSaid : Prop := fnExactReadArenaUptoRow.holds Try.pinned (OpenSpec.upto fnExactReadArenaSpec)

/-- 'laws.FnImages', WHERE WHAT IT READS IS OF BULK AT MOST 1048576: true; the input reads as it did. -/
def fnImagesUptoRow : OpenClaim := { program := "ytnchmenpgmlpdaa", sum := "73312e0dbb4d71f264ccd343e0d28eb032bfa854b028f24ccb48535091e301d9", func := "loop.example/g01287/laws.FnImages", spec := "fnImages", unfollowed := true, recurses := true, apart := false, narrowed := true }
def FnImagesUptoSaid : Prop := fnImagesUptoRow.holds Try.pinned (OpenSpec.upto fnImagesSpec)

end Rows
end Go.Proofs.Ytnchmenpgmlpdaa
