/- The walk of FnExactShowArena. -/
import Derived.Test.YtnchmenpgmlpdaaThingsTo
import Derived.Test.YtnchmenpgmlpdaaThingsEq
import Derived.Test.YtnchmenpgmlpdaaShowArenaI
namespace Go.Proofs.Ytnchmenpgmlpdaa
open Go.RowKit

set_option maxRecDepth 100000 in
set_option maxHeartbeats 8000000 in
theorem lawFnExactShowArena_walk (p : Option Addr) (n c : Nat) (l : List Thing) (hn : n = l.length) (hm : n ≤ maxLen) (w : World) (h : ThingsRd w p l) (hs : Short maxLen l) :
    Calls Try.prog 10 #[.slice p n c] w fun e w' => e = .returned (.bool true) ∧ Below w.heap.size w w' := by
  subst hn
  have HR := hideP h
  have HM := hideP hs
  clear h hs
  by_cases hz : l.length + thingsSize l ≤ 1048576
  · have hl : l.length ≤ 1048576 := by omega
    have HS : Hid (Short 1048576 l) := hideP (fun x hx => by have := thingsSize_mem hx; unfold thingSize at this; exact ⟨⟨by omega, by omega, by omega⟩, (HM.out x hx).2⟩)
    have d0 : ¬ ((1048576 : Int) - ((l.length + thingsSize l : Nat) : Int) < 0) := by omega
    go_enter Try.func10, Try.ntmps10
    go_wp2_with fail
    refine (szObjS_any l p c 1048576 (by decide) hm HM.out _ HR.out).mono ?_
    rintro e w1 ⟨rfl, hb1⟩
    rw [szLeft_yes (by omega)]
    have HB := hideP hb1
    clear hb1
    obtain ⟨lf, hlf⟩ : ∃ lf, lf = (1048576 : Int) - ((l.length + thingsSize l : Nat) : Int) := ⟨_, rfl⟩
    rw [← hlf] at d0 ⊢
    clear hlf
    go_wp2_with fail
    refine (toObjS_any l p c hl HS.out _ (HR.out.below HB.out)).mono ?_
    rintro e w2 ⟨v2, rs2, rfl, ho2, hb2⟩
    obtain ⟨p2, c2, rfl, _⟩ := owns_slice ho2.row
    have RS := hideP (ThingsOwn.rd ho2)
    have HB := hideP (HB.out.trans (hb2.mono HB.out.size))
    clear ho2 hb2
    go_wp2_with fail
    refine (specShowArena_any l p2 c2 hl HS.out _ RS.out).mono ?_
    rintro e w3 ⟨rfl, hb3⟩
    have HB := hideP (HB.out.trans (hb3.mono HB.out.size))
    clear hb3 RS
    go_wp2_with fail
    refine (toObjS_any l p c hl HS.out _ (HR.out.below HB.out)).mono ?_
    rintro e w4 ⟨v4, rs4, rfl, ho4, hb4⟩
    obtain ⟨p4, c4, rfl, _⟩ := owns_slice ho4.row
    have RX := hideP (ThingsOwn.rd ho4)
    have HB := hideP (HB.out.trans (hb4.mono HB.out.size))
    clear ho4 hb4
    go_wp2_with fail
    refine (implShowArena_any l p4 c4 hl HS.out _ RX.out).mono ?_
    rintro e w5 ⟨rfl, hb5⟩
    have RX := hideP (RX.out.below hb5)
    have HB := hideP (HB.out.trans (hb5.mono HB.out.size))
    clear hb5
    go_wp2_with fail
    refine (toObjS_any l p c hl HS.out _ (HR.out.below HB.out)).mono ?_
    rintro e w6 ⟨v6, rs6, rfl, ho6, hb6⟩
    obtain ⟨p6, c6, rfl, _⟩ := owns_slice ho6.row
    have RY := hideP (ThingsOwn.rd ho6)
    have RX := hideP (RX.out.below hb6)
    have HB := hideP (HB.out.trans (hb6.mono HB.out.size))
    clear ho6 hb6
    go_wp2_with fail
    refine (eqObjS_any l p4 p6 c4 c6 hl HS.out _ RX.out RY.out).mono ?_
    rintro e w7 ⟨rfl, hb7⟩
    have HB := hideP (HB.out.trans (hb7.mono HB.out.size))
    clear hb7
    go_wp2
    go_ret
    exact ⟨rfl, HB.out⟩
  · go_enter Try.func10, Try.ntmps10
    go_wp2_with fail
    refine (szObjS_any l p c 1048576 (by decide) hm HM.out _ HR.out).mono ?_
    rintro e w1 ⟨rfl, hb1⟩
    rw [szLeft_no (by omega)]
    have HB := hideP hb1
    clear hb1
    go_wp2
    go_ret
    exact ⟨rfl, HB.out⟩

end Go.Proofs.Ytnchmenpgmlpdaa
