/- []PartBoot: the data owned; sz. -/
import Derived.Test.YtpiaahkfnefplaaRowsOwn
import Derived.Test.YtpiaahkfnefplaaBootOk
import Derived.Test.YtpiaahkfnefplaaMsgTo
import Derived.Deep.LoopGhost
namespace Go.Proofs.Ytpiaahkfnefplaa
open Go.RowKit

/-- A boot whose lists are the call's own. -/
structure BootOwn (w : World) (base : Nat) (x : Boot) (vl vo : Value) : Prop where
  l : w.ownsRow base 3 1 vl x.lv.length (icell x.lv)
  o : w.ownsRow base 3 1 vo x.own.length (icell x.own)
  lo : ∀ k, vl.ownBlock = some k → vo.ownBlock ≠ some k
def bootCells (x : Boot) : List Value → List Value
  | [a, b] => x.cells a b
  | _ => []
def bootOwnL (w : World) (base : Nat) (x : Boot) (vs : List Value) : Prop := ∃ vl vo, vs = [vl, vo] ∧ BootOwn w base x vl vo
theorem mine2 {a b : Value} {g : Nat} : mineL [a, b] g ↔ a.ownBlock = some g ∨ b.ownBlock = some g := by
  unfold mineL
  simp
def bootsSize : List Boot → Nat
  | [] => 0
  | x :: l => x.lv.length + x.own.length + bootsSize l
theorem bootsSize_mem {l : List Boot} {x : Boot} (h : x ∈ l) : x.lv.length ≤ bootsSize l ∧ x.own.length ≤ bootsSize l := by
  induction l with
  | nil => cases h
  | cons y l ih =>
    rw [bootsSize]
    rcases List.mem_cons.1 h with rfl | h
    · omega
    · have := ih h; omega
theorem bootsSize_drop {l : List Boot} {k : Nat} {x : Boot} (h : l[k]? = some x) : bootsSize (l.drop k) = x.lv.length + x.own.length + bootsSize (l.drop (k + 1)) := by
  rw [drop_cons h, bootsSize]
set_option maxRecDepth 100000 in
set_option maxHeartbeats 4000000 in
theorem szLabel_any (a : Option Addr) (n cap : Nat) (hn : n ≤ maxLen) (left : Int) (h0 : 0 ≤ left ∧ left ≤ 1048576) (w : World) :
    Calls Try.prog 34 #[.agg #[.slice a n cap], .int .i64 left] w fun e w' => e = .returned (.int .i64 (szLeft left n)) ∧ Below w.heap.size w w' := by
  have hb0 := hideP (below_a1 w (.cells #[.slice a n cap] 63))
  go_enter Try.func34, Try.ntmps34
  go_wp2_with fail
  refine (szIntS_any _ _ _ hn left h0 _).mono ?_
  rintro e w1 ⟨rfl, rfl⟩
  by_cases c1 : left < (n : Int)
  · have HS := hideP (szLeft_no c1)
    rw [szLeft_no c1]
    go_wp2
    go_ret
    exact ⟨ret_int HS.out.symm, hb0.out⟩
  · have HS := hideP (szLeft_yes c1)
    rw [szLeft_yes c1]
    have d1 : ¬ (left - (n : Int) < 0) := by omega
    go_wp2
    go_ret
    exact ⟨ret_int HS.out.symm, hb0.out⟩
end Go.Proofs.Ytpiaahkfnefplaa
