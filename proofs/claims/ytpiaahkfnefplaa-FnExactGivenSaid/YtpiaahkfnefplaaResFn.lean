/- The small functions of amounts and trees. -/
import Derived.Test.YtpiaahkfnefplaaAmount
import Derived.Test.YtpiaahkfnefplaaResPure
import Derived.Deep.LoopGhost
namespace Go.Proofs.Ytpiaahkfnefplaa
open Go.RowKit


theorem isPlace_any (n : Int) (w : World) : Calls Try.prog 51 #[.int .i64 n] w fun e w' => e = .returned (.bool (inB n 0 4)) ∧ w = w' := by
  go_enter Try.func51, Try.ntmps51
  go_wp2_with (go_at_call 26; refine (within_any _ _ _ _).mono ?_; rintro e w' ⟨rfl, rfl⟩)
  go_ret
  exact ⟨rfl, rfl⟩

theorem l6Res_any (n : Int) (w : World) : Calls Try.prog 28 #[.int .i64 n] w fun e w' => e = .returned (.bool (inB n 0 4)) ∧ w = w' := by
  go_enter Try.func28, Try.ntmps28
  go_wp2_with (go_at_call 17; refine (l1In_any _ _ _ _).mono ?_; rintro e w' ⟨rfl, rfl⟩)
  go_ret
  exact ⟨rfl, rfl⟩

theorem leadsUpB_s (t : List Res) (f : Nat) (i : Int) : leadsUpB t (f + 1) i = if i = 0 then true else if isLiveB t i = true then leadsUpB t f (resAt t i).par else false := rfl
theorem live_place {t : List Res} {i : Int} (h : isLiveB t i = true) : 0 ≤ i ∧ i ≤ 4 := by
  unfold isLiveB at h
  rw [Bool.and_eq_true, inB_true] at h
  exact h.1

def Small (x : Amt) : Prop := (-1000000000000 ≤ x.p ∧ x.p ≤ 1000000000000) ∧ (-1000000000000 ≤ x.r ∧ x.r ≤ 1000000000000) ∧ (-1000000000000 ≤ x.c ∧ x.c ≤ 1000000000000)
end Go.Proofs.Ytpiaahkfnefplaa
