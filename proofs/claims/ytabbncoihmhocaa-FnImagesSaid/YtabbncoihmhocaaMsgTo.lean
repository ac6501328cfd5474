/- Messages and ints: the laws' helpers. -/
import Derived.Test.YtabbncoihmhocaaObjPure
import Derived.Test.YtabbncoihmhocaaSmall
namespace Go.Proofs.Ytabbncoihmhocaa
open Go.RowKit


/-- What is left of `left` behind n more. -/
def szLeft (left : Int) (n : Nat) : Int := if left < (n : Int) then -1 else left - (n : Int)
theorem szLeft_no {left : Int} {n : Nat} (h : left < (n : Int)) : szLeft left n = -1 := if_pos h
theorem szLeft_yes {left : Int} {n : Nat} (h : ¬ left < (n : Int)) : szLeft left n = left - (n : Int) := if_neg h

theorem Try.infoInt : (Try.prog.info? 3).map (fun i => (i.zero, i.size, i.bytes)) = some (some (.int .i64 0), 1, 8) := by kernel_rfl
def ienc (x : Int) : List Value := [.int .i64 x]
theorem ienc_len (x : Int) : (ienc x).length = 1 := rfl
theorem icell_flat (l : List Int) : l.flatMap ienc = icell l := by
  unfold ienc icell
  induction l with
  | nil => rfl
  | cons x l ih => rw [List.flatMap_cons, ih]; rfl
theorem Try.infoMsg : (Try.prog.info? 67).map (fun i => (i.zero, i.size, i.bytes)) = some (some (.agg #[.int .i64 0, .int .i64 0]), 2, 16) := by kernel_rfl

end Go.Proofs.Ytabbncoihmhocaa
