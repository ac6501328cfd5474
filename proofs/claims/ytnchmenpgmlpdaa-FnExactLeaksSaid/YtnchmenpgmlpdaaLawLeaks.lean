/- The walk of FnExactLeaks. -/
import Derived.Test.YtnchmenpgmlpdaaLeaksI
import Derived.Test.YtnchmenpgmlpdaaBootMark
import Derived.Test.YtnchmenpgmlpdaaBootEq
import Derived.Test.YtnchmenpgmlpdaaChanEq
import Derived.Test.YtnchmenpgmlpdaaChanMark
import Derived.Test.YtnchmenpgmlpdaaChanHeld
namespace Go.Proofs.Ytnchmenpgmlpdaa
open Go.RowKit

set_option maxRecDepth 100000 in
set_option maxHeartbeats 8000000 in
theorem lawFnExactLeaks_walk (p : Option Addr) (n c : Nat) (l : List Boot) (hn : n = l.length) (hm : n ≤ maxLen) (w : World) (h : BootsRd w p l) :
    Calls Try.prog 4 #[.slice p n c] w fun e w' => e = .returned (.bool true) ∧ Below w.heap.size w w' := by
  subst hn
  have HR := hideP h
  clear h
  by_cases hz : l.length + bootsSize l ≤ 1048576
  · have hl : l.length ≤ 1048576 := by omega
    have hsz : bootsSize l ≤ 1048576 := by omega
    have hs : ∀ x ∈ l, x.lv.length ≤ 1048576 ∧ x.own.length ≤ 1048576 := fun x hx => by have := bootsSize_mem hx; omega
    have hsm : ∀ x ∈ l, x.lv.length ≤ maxLen ∧ x.own.length ≤ maxLen := fun x hx => by have := hs x hx; unfold maxLen; omega
    have hcl : (leaks l).length ≤ 1048576 := by have := leaks_len l; omega
    have d0 : ¬ ((1048576 : Int) - ((l.length + bootsSize l : Nat) : Int) < 0) := by omega
    go_enter Try.func4, Try.ntmps4
    go_wp2_with fail
    refine (szPartBootS_any l p c hm _ HR.out).mono ?_
    rintro e w1 ⟨rfl, hb1⟩
    rw [szLeft_yes (by omega)]
    have HB := hideP hb1
    clear hb1
    obtain ⟨lf, hlf⟩ : ∃ lf, lf = (1048576 : Int) - ((l.length + bootsSize l : Nat) : Int) := ⟨_, rfl⟩
    rw [← hlf] at d0 ⊢
    clear hlf
    go_wp2_with fail
    refine (toPartBootS_any l p c hl hs _ (HR.out.below HB.out)).mono ?_
    rintro e w2 ⟨v2, rs2, rfl, ho2, hb2⟩
    obtain ⟨p2, c2, rfl, _⟩ := owns_slice ho2.row
    have RS := hideP (BootsOwn.rd ho2 hsm)
    have HB := hideP (HB.out.trans (hb2.mono HB.out.size))
    clear ho2 hb2
    go_wp2_with fail
    refine (specLeaks_any l p2 c2 hm _ RS.out).mono ?_
    rintro e w3 ⟨v3, rfl, ho3, hb3⟩
    obtain ⟨q3, k3, rfl, _⟩ := owns_slice ho3
    have HW := hideP (rd_of_owns ho3)
    have HB := hideP (HB.out.trans (hb3.mono HB.out.size))
    have hw3 : w.heap.size ≤ w3.heap.size := HB.out.size
    clear ho3 hb3 RS
    go_wp2_with fail
    refine (toPartBootS_any l p c hl hs _ (HR.out.below HB.out)).mono ?_
    rintro e w4 ⟨v4, rs4, rfl, ho4, hb4⟩
    obtain ⟨p4, c4, rfl, _⟩ := owns_slice ho4.row
    have HX := hideP ho4
    have HB3 := hideP hb4
    have hz4 : w3.heap.size ≤ w4.heap.size := hb4.size
    have HB := hideP (HB.out.trans (hb4.mono HB.out.size))
    have TG : ∀ q, (Value.slice p4 l.length c4).ownBlock = some q → q < w4.heap.size := fun q e => (ho4.row.lt q e).2
    have TR : ∀ (i : Nat) (vs : List Value), rs4[i]? = some vs → ∀ q, mineL vs q → q < w4.heap.size := fun i vs hv q hq => (ho4.lt hv hq).2
    clear ho4 hb4
    go_wp2_with fail
    refine (implLeaks_any l p4 c4 hm _ (BootsOwn.rd HX.out hsm)).mono ?_
    rintro e w5 ⟨v5, rfl, ho5, hb5⟩
    obtain ⟨q5, k5, rfl, _⟩ := owns_slice ho5
    have HG := hideP ho5
    have HX := hideP (HX.out.below hb5)
    have HB3 := hideP (HB3.out.trans (hb5.mono HB3.out.size))
    have hz5 : w4.heap.size ≤ w5.heap.size := hb5.size
    have HB := hideP (HB.out.trans (hb5.mono HB.out.size))
    clear ho5 hb5
    go_wp2_with fail
    refine (eqChanS_any _ _ _ _ _ (leaks l) rfl hcl _ (rd_of_owns HG.out) (HW.out.below HB3.out)).mono ?_
    rintro e w6 ⟨rfl, hb6⟩
    have HG := hideP (owns_below HG.out (Nat.le_refl _) hb6)
    have HX := hideP (HX.out.below hb6)
    have HB3 := hideP (HB3.out.trans (hb6.mono HB3.out.size))
    have hz6 : w5.heap.size ≤ w6.heap.size := hb6.size
    have HB := hideP (HB.out.trans (hb6.mono HB.out.size))
    clear hb6
    go_wp2_with fail
    refine (toPartBootS_any l p c hl hs _ (HR.out.below HB.out)).mono ?_
    rintro e w7 ⟨v7, rs7, rfl, ho7, hb7⟩
    obtain ⟨p7, c7, rfl, _⟩ := owns_slice ho7.row
    have HG := hideP (owns_below HG.out (Nat.le_refl _) hb7)
    have HX := hideP (HX.out.below hb7)
    have HB3 := hideP (HB3.out.trans (hb7.mono HB3.out.size))
    have hz7 : w6.heap.size ≤ w7.heap.size := hb7.size
    have HB := hideP (HB.out.trans (hb7.mono HB.out.size))
    have R7 := hideP (BootsOwn.rd ho7 hsm)
    clear hb7 ho7
    go_wp2_with fail
    refine (eqPartBootS_any l p4 p7 c4 c7 hl hs _ (BootsOwn.rd HX.out hsm) R7.out).mono ?_
    rintro e w8 ⟨rfl, hb8⟩
    have HG := hideP (owns_below HG.out (Nat.le_refl _) hb8)
    have HX := hideP (HX.out.below hb8)
    have HB3 := hideP (HB3.out.trans (hb8.mono HB3.out.size))
    have hz8 : w7.heap.size ≤ w8.heap.size := hb8.size
    have HB := hideP (HB.out.trans (hb8.mono HB.out.size))
    clear hb8 R7
    go_wp2_with fail
    refine (markPartBootS_any _ w3.heap.size l rs4 hl hsz _ w4.heap.size TG TR HX.out).mono ?_
    rintro e w9 ⟨r9, rfl, hr0, hr1, hk9⟩
    have HG := hideP (hk9.owns HG.out (fun q e e2 => by have := HG.out.lt q e; omega))
    have HB3 := hideP (HB3.out.trans (hk9.below (B := w3.heap.size) (by omega) (fun q e => e.1)))
    have hz9 : w8.heap.size ≤ w9.heap.size := hk9.size
    have hsw := HB.out.size
    have HB := hideP (HB.out.trans (hk9.below (B := w.heap.size) (by omega) (fun q e => Nat.le_trans hw3 e.1)))
    have d9 : ¬ (r9 < 0) := by omega
    clear hk9 HX
    go_wp2_with fail
    refine (eqChanS_any _ _ _ _ _ (leaks l) rfl hcl _ (rd_of_owns HG.out) (HW.out.below HB3.out)).mono ?_
    rintro e w10 ⟨rfl, hb10⟩
    have HG := hideP (owns_below HG.out (Nat.le_refl _) hb10)
    have HB3 := hideP (HB3.out.trans (hb10.mono HB3.out.size))
    have hz10 : w9.heap.size ≤ w10.heap.size := hb10.size
    have HB := hideP (HB.out.trans (hb10.mono HB.out.size))
    clear hb10
    go_wp2_with fail
    refine (markChanS_any _ _ _ _ _ (by omega) hcl _ HG.out).mono ?_
    rintro e w11 ⟨rfl, ho11, hg11⟩
    have hb11 := below_of_grown hg11 HG.out (by omega)
    have HM := hideP ho11
    have HB3 := hideP (HB3.out.trans (hb11.mono hz4))
    have HB := hideP (HB.out.trans (hb11.mono (by omega)))
    clear ho11 hg11 HG hb11
    go_wp2_with fail
    refine (heldChanS_any _ _ _ _ (by omega) hcl _ (rd_of_owns HM.out)).mono ?_
    rintro e w12 ⟨rfl, rfl⟩
    go_wp2_with fail
    refine (toPartBootS_any l p c hl hs _ (HR.out.below HB.out)).mono ?_
    rintro e w13 ⟨v13, rs13, rfl, ho13, hb13⟩
    obtain ⟨p13, c13, rfl, _⟩ := owns_slice ho13.row
    have HM := hideP (owns_below HM.out (Nat.le_refl _) hb13)
    have HB3 := hideP (HB3.out.trans (hb13.mono HB3.out.size))
    have HB := hideP (HB.out.trans (hb13.mono HB.out.size))
    have R13 := hideP (BootsOwn.rd ho13 hsm)
    clear hb13 ho13
    go_wp2_with fail
    refine (implLeaks_any l p13 c13 hm _ R13.out).mono ?_
    rintro e w14 ⟨v14, rfl, ho14, hb14⟩
    obtain ⟨q14, k14, rfl, _⟩ := owns_slice ho14
    have HM := hideP (owns_below HM.out (Nat.le_refl _) hb14)
    have HB3 := hideP (HB3.out.trans (hb14.mono HB3.out.size))
    have HB := hideP (HB.out.trans (hb14.mono HB.out.size))
    have HH := hideP (rd_of_owns ho14)
    clear hb14 ho14 R13
    go_wp2_with fail
    refine (eqChanS_any _ _ _ _ _ (leaks l) rfl hcl _ HH.out (HW.out.below HB3.out)).mono ?_
    rintro e w15 ⟨rfl, hb15⟩
    have HM := hideP (owns_below HM.out (Nat.le_refl _) hb15)
    have HB := hideP (HB.out.trans (hb15.mono HB.out.size))
    clear hb15
    go_wp2_with fail
    refine (heldChanS_any _ _ _ _ (by omega) hcl _ (rd_of_owns HM.out)).mono ?_
    rintro e w16 ⟨rfl, rfl⟩
    go_wp2
    go_ret
    exact ⟨rfl, HB.out⟩
  · go_enter Try.func4, Try.ntmps4
    go_wp2_with fail
    refine (szPartBootS_any l p c hm _ HR.out).mono ?_
    rintro e w1 ⟨rfl, hb1⟩
    rw [szLeft_no (by omega)]
    have HB := hideP hb1
    clear hb1
    go_wp2
    go_ret
    exact ⟨rfl, HB.out⟩

end Go.Proofs.Ytnchmenpgmlpdaa
