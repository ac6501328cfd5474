/- The walk of FnDecay. -/
import Derived.Test.YtcahncppkolkbaaDecayDraw
import Derived.Test.YtcahncppkolkbaaDecayLaws
import Derived.Test.YtcahncppkolkbaaDecayWalk
import Derived.Test.YtcahncppkolkbaaRoundsWalk
import Derived.Test.YtcahncppkolkbaaHoard
import Derived.Test.YtcahncppkolkbaaBig
namespace Go.Proofs.Ytcahncppkolkbaa
open Go.RowKit

theorem hoard_in {t : List Res} (h : treeOk t = true) (q : Int) : 0 ≤ hoard t q ∧ hoard t q ≤ 4000000 := by
  have e := (hoard_eq h q).1
  have p1 := part_in h q 1
  have p2 := part_in h q 2
  have p3 := part_in h q 3
  have p4 := part_in h q 4
  simp only [Int.cast_ofNat_Int] at *
  omega
set_option maxRecDepth 100000 in
set_option maxHeartbeats 8000000 in
theorem lawFnDecay_walk (a : Option Addr) (n cap : Nat) (cl : List UInt8) (hn : n = cl.length) (hl : n ≤ maxLen) (w : World) (h : Rd w a (byteCells cl)) :
    Calls Try.prog 3 #[.slice a n cap] w fun e w' => e = .returned (.bool true) ∧ Below w.heap.size w w' := by
  have Hn := Lib.hid hn
  clear hn
  by_cases hs : n ≤ 1048576
  · have d0 : decide (1048576 < n) = false := by simpa using hs
    go_enter Try.func3, Try.ntmps3
    go_wp2_with fail
    refine (big_any _ _ _ _ hl).mono ?_
    rintro e w' ⟨rfl, rfl⟩
    rw [d0]
    go_wp2_with fail
    refine (drawDecay_any _ _ _ cl Hn.out hs _ h).mono ?_
    rintro e W ⟨v, t, q, p, rfl, hlen, ho, hb0⟩
    obtain ⟨la, lc, rfl, hcap⟩ := owns_slice ho
    have HR0 := hideP (rd_of_owns ho)
    have HB0 := Lib.hid hb0
    have hln : t.length ≤ 1048576 := by omega
    clear ho hb0 h
    go_wp2_with fail
    refine (implDecay_any _ _ _ t q p rfl hln _ HR0.out).mono ?_
    rintro e Wx ⟨vx, rfl, hox, hbx⟩
    obtain ⟨xa, xc, rfl, hcx⟩ := owns_slice hox
    have hxl := decay_len (t := t) q p
    cases hok : decayOk t q p
    · have hd := decay_bad hok
      rw [hd] at hox hxl ⊢
      have HX : Hid (Rd Wx xa (t.flatMap Res.enc)) := hideP (rd_of_owns hox)
      have HR := hideP (HR0.out.below hbx)
      have HBX := Lib.hid hbx
      have HB : Hid (Below Wx.heap.size Wx Wx) := hideP (Below.refl _ _)
      clear hox hbx hd hxl
      cases tk : treeOk t
      · go_wp2_with fail
        refine (specTreeOk_any _ _ _ t rfl hln _ (HR.out.below HB.out)).mono ?_
        rintro e w1 ⟨rfl, hb1⟩
        rw [tk]
        have HB := hideP (HB.out.trans (hb1.mono HB.out.size))
        clear hb1
        go_wp2_with fail
        refine (sameTree_same _ _ _ _ _ t rfl hln _ (HX.out.below HB.out) (HR.out.below HB.out)).mono ?_
        rintro e w2 ⟨rfl, hb2⟩
        have HB := hideP (HB.out.trans (hb2.mono HB.out.size))
        clear hb2
        go_wp2
        go_ret
        exact ⟨rfl, HB0.out.trans ((HBX.out.trans (HB.out.mono HBX.out.size)).mono HB0.out.size)⟩
      · have hqp : q < 0 ∨ (¬ q < 0 ∧ 2 < q) ∨ (¬ q < 0 ∧ ¬ 2 < q ∧ p < 0) ∨ (¬ q < 0 ∧ ¬ 2 < q ∧ ¬ p < 0 ∧ 100 < p) := by
          unfold decayOk at hok
          rw [tk, Bool.true_and] at hok
          cases h1 : inB q 0 2
          · have := inB_false.1 h1; omega
          · rw [h1, Bool.true_and] at hok
            have h1' := inB_true.1 h1
            have := inB_false.1 hok
            omega
        clear hok
        go_wp2_with fail
        refine (specTreeOk_any _ _ _ t rfl hln _ (HR.out.below HB.out)).mono ?_
        rintro e w1 ⟨rfl, hb1⟩
        rw [tk]
        have HB := hideP (HB.out.trans (hb1.mono HB.out.size))
        clear hb1 tk
        rcases hqp with h1 | ⟨h1, h2⟩ | ⟨h1, h2, h3⟩ | ⟨h1, h2, h3, h4⟩
        all_goals
          go_wp2_with fail
          refine (sameTree_same _ _ _ _ _ t rfl hln _ (HX.out.below HB.out) (HR.out.below HB.out)).mono ?_
          rintro e w2 ⟨rfl, hb2⟩
          have HB := hideP (HB.out.trans (hb2.mono HB.out.size))
          clear hb2
          go_wp2
          go_ret
          exact ⟨rfl, HB0.out.trans ((HBX.out.trans (HB.out.mono HBX.out.size)).mono HB0.out.size)⟩
    · obtain ⟨g1, g2, g3, g4, g5⟩ := decay_good hok
      have tk : treeOk t = true := by unfold decayOk at hok; rw [Bool.and_eq_true] at hok; exact hok.1
      have hq : (0 ≤ q ∧ q ≤ 2) ∧ 0 ≤ p ∧ p ≤ 100 := by
        unfold decayOk at hok
        simp only [Bool.and_eq_true] at hok
        exact ⟨inB_true.1 hok.2.1, inB_true.1 hok.2.2⟩
      obtain ⟨⟨q0, q2⟩, p0, p1⟩ := hq
      have HTS : Hid (treeSum (decayT t q p).1 = treeSum t) := hideP (by unfold treeSum; rw [if_pos g1, if_pos tk, g2])
      have hh := hoard_in tk q
      have hh9 := hoard_in g1 q
      have HRN : Hid (10 ≤ p → hoard t q ≤ 1000 → hoard (roundsM q p 100 t) q = 0) := hideP (fun h1 h2 => rounds_nought hok h1 h2)
      have HYL : Hid (t.length = (roundsM q p 100 t).length) := hideP (roundsM_len q p 100 t).symm
      obtain ⟨x, m, hxm⟩ : ∃ x m, decayT t q p = (x, m) := ⟨_, _, rfl⟩
      rw [hxm] at hox hxl g1 g2 g3 g4 g5 HTS hh9 ⊢
      dsimp only at hox hxl g1 g2 g3 g4 g5 HTS hh9 ⊢
      have HX := hideP (rd_of_owns hox)
      have HR := hideP (HR0.out.below hbx)
      have HBX := Lib.hid hbx
      have HB : Hid (Below Wx.heap.size Wx Wx) := hideP (Below.refl _ _)
      have HXL : Hid (t.length = x.length) := hideP hxl.symm
      have HG1 := Lib.hid g1
      have HTK := Lib.hid tk
      have HG5 : Hid (p = 0 → x = t) := hideP g5
      obtain ⟨ht, hht⟩ : ∃ z, hoard t q = z := ⟨_, rfl⟩
      obtain ⟨hx, hhx⟩ : ∃ z, hoard x q = z := ⟨_, rfl⟩
      rw [hht] at hh g3 HRN
      rw [hhx] at hh9 g3
      have HT := Lib.hid hht
      have HX9 := Lib.hid hhx
      have sm : IntKind.i64.wrap (hx + m) = hx + m := IntWalk.i64_in _ (by omega)
      have dsm : (hx + m != ht) = false := by simp [g3]
      have HDS := hideP dsm
      obtain ⟨hh0, hh1⟩ := hh
      obtain ⟨hh2, hh3⟩ := hh9
      clear hox hbx hxm hxl g1 g2 g5 tk hok hht hhx HR0 sm dsm
      go_wp2_with fail
      refine (specTreeOk_any _ _ _ t rfl hln _ (HR.out.below HB.out)).mono ?_
      rintro e w1 ⟨rfl, hb1⟩
      rw [HTK.out]
      have HB := hideP (HB.out.trans (hb1.mono HB.out.size))
      clear hb1
      go_wp2_with fail
      refine (specTreeOk_any _ _ _ x HXL.out hln _ (HX.out.below HB.out)).mono ?_
      rintro e w2 ⟨rfl, hb2⟩
      rw [HG1.out]
      have HB := hideP (HB.out.trans (hb2.mono HB.out.size))
      clear hb2
      go_wp2_with fail
      refine (specTreeSum_any _ _ _ x HXL.out hln _ (HX.out.below HB.out)).mono ?_
      rintro e w3 ⟨rfl, hb3⟩
      rw [HTS.out]
      have HB := hideP (HB.out.trans (hb3.mono HB.out.size))
      clear hb3
      go_wp2_with fail
      refine (specTreeSum_any _ _ _ t rfl hln _ (HR.out.below HB.out)).mono ?_
      rintro e w4 ⟨rfl, hb4⟩
      have HB := hideP (HB.out.trans (hb4.mono HB.out.size))
      clear hb4
      go_wp2_with fail
      refine (implHoard_any _ _ _ x q HXL.out hln hcx _ (HX.out.below HB.out)).mono ?_
      rintro e w5 ⟨rfl, hb5⟩
      rw [HX9.out]
      have HB := hideP (HB.out.trans (hb5.mono HB.out.size))
      clear hb5
      go_wp2_with fail
      refine (implHoard_any _ _ _ t q rfl hln hcap _ (HR.out.below HB.out)).mono ?_
      rintro e w6 ⟨rfl, hb6⟩
      rw [HT.out]
      have HB := hideP (HB.out.trans (hb6.mono HB.out.size))
      clear hb6
      have dsm := HDS.out
      have dm : ¬ (m < 0) := by omega
      clear g3
      go_wp2_with fail
      refine (implDecayRounds_any _ _ _ t q p 100 rfl hln _ (HR.out.below HB.out)).mono ?_
      rintro e w7 ⟨v7, rfl, ho7, hb7⟩
      obtain ⟨ya, yc, rfl, hcy⟩ := owns_slice ho7
      have HY := hideP (rd_of_owns ho7)
      have HB7 := hideP hb7
      have HB := hideP (HB.out.trans (hb7.mono HB.out.size))
      clear ho7 hb7 dsm
      by_cases hp10 : p < 10
      · by_cases hp0 : 0 < p
        · go_wp2
          go_ret
          exact ⟨rfl, HB0.out.trans ((HBX.out.trans (HB.out.mono HBX.out.size)).mono HB0.out.size)⟩
        · have hx9 := HG5.out (by omega)
          subst hx9
          go_wp2_with fail
          refine (sameTree_same _ _ _ _ _ _ rfl hln _ (HX.out.below HB.out) (HR.out.below HB.out)).mono ?_
          rintro e w8 ⟨rfl, hb8⟩
          have HB := hideP (HB.out.trans (hb8.mono HB.out.size))
          clear hb8
          go_wp2
          go_ret
          exact ⟨rfl, HB0.out.trans ((HBX.out.trans (HB.out.mono HBX.out.size)).mono HB0.out.size)⟩
      · have hp9 : 0 < p := by omega
        go_wp2_with fail
        refine (implHoard_any _ _ _ t q rfl hln hcap _ (HR.out.below HB.out)).mono ?_
        rintro e w8 ⟨rfl, hb8⟩
        rw [HT.out]
        have HB := hideP (HB.out.trans (hb8.mono HB.out.size))
        have HY := hideP (HY.out.below hb8)
        clear hb8
        by_cases h1000 : 1000 < ht
        · go_wp2
          go_ret
          exact ⟨rfl, HB0.out.trans ((HBX.out.trans (HB.out.mono HBX.out.size)).mono HB0.out.size)⟩
        · have HZ := hideP (HRN.out (by omega) (by omega))
          go_wp2_with fail
          refine (implHoard_any _ _ _ (roundsM q p 100 t) q HYL.out hln hcy _ HY.out).mono ?_
          rintro e w9 ⟨rfl, hb9⟩
          rw [HZ.out]
          have HB := hideP (HB.out.trans (hb9.mono HB.out.size))
          clear hb9
          go_wp2
          go_ret
          exact ⟨rfl, HB0.out.trans ((HBX.out.trans (HB.out.mono HBX.out.size)).mono HB0.out.size)⟩
  · have d0 : decide (1048576 < n) = true := by simpa using hs
    go_enter Try.func3, Try.ntmps3
    go_wp2_with fail
    refine (big_any _ _ _ _ hl).mono ?_
    rintro e w' ⟨rfl, rfl⟩
    rw [d0]
    go_wp2
    go_ret
    exact ⟨rfl, Below.refl _ _⟩

end Go.Proofs.Ytcahncppkolkbaa
