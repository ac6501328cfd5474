/- The walk of FnExactShowTree. -/
import Derived.Test.YtnchmenpgmlpdaaShowTreeI
import Derived.Test.YtnchmenpgmlpdaaShowTreeS
namespace Go.Proofs.Ytnchmenpgmlpdaa
open Go.RowKit


set_option maxHeartbeats 400000 in
theorem lawFnExactShowTree_walk (a : Option Addr) (n cap : Nat) (l : List Res) (hn : n = l.length) (hl : n ≤ maxLen) (w : World) (h : Rd w a (l.flatMap Res.enc)) :
    Calls Try.prog 6 #[.slice a n cap] w fun e w' => e = .returned (.bool true) ∧ Below w.heap.size w w' := by
  have Hn := Lib.hid hn
  clear hn
  by_cases hs : n ≤ 1048576
  · go_enter Try.func6, Try.ntmps6
    go_wp2_with fail
    refine (szResS_any _ _ _ hl _).mono ?_
    rintro e w' ⟨rfl, rfl⟩
    rw [if_pos hs]
    go_wp2_with fail
    refine (toResS_any _ _ _ l Hn.out hs _ h).mono ?_
    rintro e w1 ⟨v1, rfl, ho1, hb1⟩
    obtain ⟨a1, c1, rfl, hc1⟩ := owns_slice ho1
    have Ho1 := Lib.hid ho1
    clear ho1
    go_wp2_with fail
    refine (specShowTree_any _ _ _ l Hn.out hs _ (rd_of_owns Ho1.out)).mono ?_
    rintro e w2 ⟨rfl, hq2⟩
    have hb2 := hq2
    have hb02 := hb1.trans (hb2.mono hb1.size)
    go_wp2_with fail
    refine (toResS_any _ _ _ l Hn.out hs _ (h.below hb02)).mono ?_
    rintro e w3 ⟨v3, rfl, ho3, hb3⟩
    obtain ⟨a3, c3, rfl, hc3⟩ := owns_slice ho3
    have Ho3 := Lib.hid ho3
    clear ho3
    have hb03 := hb02.trans (hb3.mono hb02.size)
    go_wp2_with fail
    refine (implShowTree_any _ _ _ l Hn.out hs _ (rd_of_owns Ho3.out)).mono ?_
    rintro e w4 ⟨rfl, hb4⟩
    have hb04 := hb03.trans (hb4.mono hb03.size)
    go_wp2_with fail
    refine (toResS_any _ _ _ l Hn.out hs _ (h.below hb04)).mono ?_
    rintro e w5 ⟨v5, rfl, ho5, hb5⟩
    obtain ⟨a5, c5, rfl, hc5⟩ := owns_slice ho5
    have Ho5 := Lib.hid ho5
    clear ho5
    have hb05 := hb04.trans (hb5.mono hb04.size)
    go_wp2_with fail
    refine (eqResS_any _ _ _ _ _ l Hn.out hs _ (((rd_of_owns Ho3.out).below hb4).below hb5) (rd_of_owns Ho5.out)).mono ?_
    rintro e w6 ⟨rfl, hb6⟩
    have hb06 := hb05.trans (hb6.mono hb05.size)
    go_wp2
    go_ret
    exact ⟨rfl, hb06⟩
  · go_enter Try.func6, Try.ntmps6
    go_wp2_with fail
    refine (szResS_any _ _ _ hl _).mono ?_
    rintro e w' ⟨rfl, rfl⟩
    rw [if_neg hs]
    go_wp2
    go_ret
    exact ⟨rfl, Below.refl _ _⟩

end Go.Proofs.Ytnchmenpgmlpdaa
