/- LeasesFit of both sides. -/
import Derived.Test.YtclananddmjnaaaLease5
namespace Go.Proofs.Ytclananddmjnaaa
open Go.RowKit

def leasesFit (l : List Lease) (p : Int) : Bool := leasesOk l && decide ((peak l).2 ≤ p)

set_option maxHeartbeats 400000 in
theorem implLeasesFit_any (a : Option Addr) (n cap : Nat) (l : List Lease) (p : Int) (hn : n = l.length) (hl : n ≤ 1048576) (w : World) (h : Rd w a (l.flatMap Lease.enc)) :
    Calls Try.prog 23 #[.slice a n cap, .int .i64 p] w fun e w' => e = .returned (.bool (leasesFit l p)) ∧ Below w.heap.size w w' := by
  have Hn := Lib.hid hn
  clear hn
  go_enter Try.func23, Try.ntmps23
  go_wp2_with fail
  refine (implPeak_any _ _ _ l Hn.out hl _ h).mono ?_
  rintro e w1 ⟨rfl, hb1⟩
  go_wp2_with fail
  refine (implLeasesOk_any _ _ _ l Hn.out hl _ (h.below hb1)).mono ?_
  rintro e w2 ⟨rfl, hb2⟩
  have hb := hb1.trans (hb2.mono hb1.size)
  cases hok : leasesOk l
  · have Hr : Hid (leasesFit l p = false) := hideP (by unfold leasesFit; rw [hok]; rfl)
    go_wp2
    go_ret
    exact ⟨ret_bool Hr.out.symm, hb⟩
  · have Hr : Hid (leasesFit l p = decide ((peak l).2 ≤ p)) := hideP (by unfold leasesFit; rw [hok]; rfl)
    go_wp2
    go_ret
    exact ⟨ret_bool Hr.out.symm, hb⟩

set_option maxHeartbeats 400000 in
theorem specLeasesFit_any (a : Option Addr) (n cap : Nat) (l : List Lease) (p : Int) (hn : n = l.length) (hl : n ≤ 1048576) (w : World) (h : Rd w a (l.flatMap Lease.enc)) :
    Calls Try.prog 21 #[.slice a n cap, .int .i64 p] w fun e w' => e = .returned (.bool (leasesFit l p)) ∧ Qt w w' := by
  have Hn := Lib.hid hn
  clear hn
  go_enter Try.func21, Try.ntmps21
  go_wp2_with fail
  refine (specPeak_any _ _ _ l Hn.out hl _ h).mono ?_
  rintro e w1 ⟨rfl, m1, rfl⟩
  go_wp2_with fail
  refine (specLeasesOk_any _ _ _ l Hn.out hl _ (h.drewN m1)).mono ?_
  rintro e w2 ⟨rfl, m2, rfl⟩
  cases hok : leasesOk l
  · have Hr : Hid (leasesFit l p = false) := hideP (by unfold leasesFit; rw [hok]; rfl)
    go_wp2
    go_ret
    exact ⟨ret_bool Hr.out.symm, (by first | exact Qt.d _ _ | exact Qt.dd _ _ _)⟩
  · have Hr : Hid (leasesFit l p = decide ((peak l).2 ≤ p)) := hideP (by unfold leasesFit; rw [hok]; rfl)
    go_wp2
    go_ret
    exact ⟨ret_bool Hr.out.symm, (by first | exact Qt.d _ _ | exact Qt.dd _ _ _)⟩
end Go.Proofs.Ytclananddmjnaaa
