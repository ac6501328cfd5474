/- The types of the program, as typed data. -/
import Derived.Test.YtiimdlkeikcfiaaGreatVW
import Derived.Test.YtiimdlkeikcfiaaGreatMTI
namespace Go.Proofs.YtiimdlkeikcfiaaGreat.V
open Go.RowKit M

def VT : VTab := fun e => match e with
  | 3 => some .i64
  | 5 => some .u8
  | 4 => some .bool
  | 9 => some .str
  | 142 => some .msg
  | 72 => some .obj
  | 109 => some .res
  | 119 => some .tap
  | 117 => some .tree
  | 55 => some .part
  | 62 => some .boot
  | 34 => some .reply
  | 38 => some .call
  | _ => none
theorem vtOk : VTOk TI VT := by
  refine ⟨fun e ty i h1 h2 => ?_⟩
  unfold VT at h1
  split at h1
  · injection h1 with h1; subst h1; injection h2 with h2; subst h2; rfl
  · injection h1 with h1; subst h1; injection h2 with h2; subst h2; rfl
  · injection h1 with h1; subst h1; injection h2 with h2; subst h2; rfl
  · injection h1 with h1; subst h1; injection h2 with h2; subst h2; rfl
  · injection h1 with h1; subst h1; injection h2 with h2; subst h2; rfl
  · injection h1 with h1; subst h1; injection h2 with h2; subst h2; rfl
  · injection h1 with h1; subst h1; injection h2 with h2; subst h2; rfl
  · injection h1 with h1; subst h1; injection h2 with h2; subst h2; rfl
  · injection h1 with h1; subst h1; injection h2 with h2; subst h2; rfl
  · injection h1 with h1; subst h1; injection h2 with h2; subst h2; rfl
  · injection h1 with h1; subst h1; injection h2 with h2; subst h2; rfl
  · injection h1 with h1; subst h1; injection h2 with h2; subst h2; rfl
  · injection h1 with h1; subst h1; injection h2 with h2; subst h2; rfl
  · cases h1
end Go.Proofs.YtiimdlkeikcfiaaGreat.V
