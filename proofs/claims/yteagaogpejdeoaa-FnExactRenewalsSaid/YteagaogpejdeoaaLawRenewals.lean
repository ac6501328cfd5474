/- The walk of FnExactRenewals. -/
import Derived.Test.YteagaogpejdeoaaRenew
import Derived.Test.YteagaogpejdeoaaIntMark
import Derived.Test.YteagaogpejdeoaaIntHeld
namespace Go.Proofs.Yteagaogpejdeoaa
open Go.RowKit

theorem renewals_length (u w s : Int) : (renewals u w s).length ≤ 100 := by
  unfold renewals
  split
  · exact renew_length _ _ _ _
  · simp

set_option maxHeartbeats 1000000 in
theorem lawFnExactRenewals_walk (a0 : Int) (w0 : (Lit.int .i64 a0).wf = true) (a1 : Int) (w1 : (Lit.int .i64 a1).wf = true) (a2 : Int) (w2 : (Lit.int .i64 a2).wf = true) (w : World) :
    Calls Try.prog 5 #[.int .i64 a0, .int .i64 a1, .int .i64 a2] w fun e w' => e = .returned (.bool true) ∧ Below w.heap.size w w' := by
  have hn : (renewals a0 a1 a2).length ≤ 1048576 := Nat.le_trans (renewals_length _ _ _) (by decide)
  go_enter Try.func5, Try.ntmps5
  go_wp2_with fail
  refine (specRenewals_any a0 a1 a2 _).mono ?_
  rintro e w1 ⟨v0, rfl, ho0, hb1⟩
  obtain ⟨p0, c0, rfl, _⟩ := owns_slice ho0
  have Ho0 := Lib.hid ho0
  clear ho0
  go_wp2_with fail
  refine (implRenewals_any a0 a1 a2 _).mono ?_
  rintro e w2 ⟨v1, rfl, ho1, hb2⟩
  obtain ⟨p1, c1, rfl, _⟩ := owns_slice ho1
  have Ho1 := Lib.hid ho1
  clear ho1
  have h02 := hb1.trans (hb2.mono hb1.size)
  have s01 := hb1.size
  have s12 := hb2.size
  go_wp2_with fail
  refine (eqIntS_any _ _ _ _ _ _ rfl hn _ (rd_of_owns Ho1.out) (rd_of_owns (owns_below Ho0.out (Nat.le_refl _) hb2))).mono ?_
  rintro e w3 ⟨rfl, hb3⟩
  have h03 := h02.trans (hb3.mono h02.size)
  have s23 := hb3.size
  have Ho1' := Lib.hid (owns_below Ho1.out (Nat.le_refl _) hb3)
  go_wp2_with fail
  refine (markIntS_any _ _ _ _ _ (by omega) hn _ Ho1'.out).mono ?_
  rintro e w4 ⟨rfl, ho4, hg4⟩
  have hb4 := below_of_grown hg4 Ho1'.out (Nat.le_trans s12 s23)
  have Ho4 := Lib.hid ho4
  clear ho4
  have h04 := h03.trans (hb4.mono s01)
  have s34 := hb4.size
  go_wp2_with fail
  refine (heldIntS_any _ _ _ _ (by omega) hn _ (rd_of_owns Ho4.out)).mono ?_
  rintro e w5 ⟨rfl, rfl⟩
  go_wp2_with fail
  refine (implRenewals_any a0 a1 a2 _).mono ?_
  rintro e w5 ⟨v5, rfl, ho5, hb5⟩
  obtain ⟨p5, c5, rfl, _⟩ := owns_slice ho5
  have Ho5 := Lib.hid ho5
  clear ho5
  have h05 := h04.trans (hb5.mono h04.size)
  have s45 := hb5.size
  have h15 := ((hb2.trans (hb3.mono s12)).trans hb4).trans (hb5.mono (Nat.le_trans s12 (Nat.le_trans s23 s34)))
  go_wp2_with fail
  refine (eqIntS_any _ _ _ _ _ _ rfl hn _ (rd_of_owns Ho5.out) (rd_of_owns (owns_below Ho0.out (Nat.le_refl _) h15))).mono ?_
  rintro e w6 ⟨rfl, hb6⟩
  have h06 := h05.trans (hb6.mono h05.size)
  have h46 := hb5.trans (hb6.mono s45)
  go_wp2_with fail
  refine (heldIntS_any _ _ _ _ (by omega) hn _ ((rd_of_owns Ho4.out).below h46)).mono ?_
  rintro e w7 ⟨rfl, rfl⟩
  go_wp2
  go_ret
  exact ⟨rfl, h06⟩

end Go.Proofs.Yteagaogpejdeoaa
