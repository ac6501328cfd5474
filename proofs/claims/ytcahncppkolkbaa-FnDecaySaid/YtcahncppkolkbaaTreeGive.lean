/- The walk of TreeGive. -/
import Derived.Test.YtcahncppkolkbaaTreeBackI
namespace Go.Proofs.Ytcahncppkolkbaa
open Go.RowKit

set_option maxRecDepth 100000 in
set_option maxHeartbeats 1000000 in
theorem implTreeGive_any (ad : Option Addr) (n cap : Nat) (t : List Res) (i j : Int) (a : Amt) (hn : n = t.length) (hl : n ≤ 1048576) (w : World) (h : Rd w ad (t.flatMap Res.enc)) :
    Calls Try.prog 20 #[.slice ad n cap, .int .i64 i, .int .i64 j, .agg #[.int .i64 a.p, .int .i64 a.r, .int .i64 a.c]] w (OwnRet2 w 45 5 n ((giveT t i j a).1.flatMap Res.enc) (giveT t i j a).2) := by
  have Hn := Lib.hid hn
  clear hn
  go_enter Try.func20, Try.ntmps20
  go_wp2_with fail
  refine (implTreePay_any _ _ _ t i a Hn.out hl _ (h.below (below_a1 _ _))).mono ?_
  rintro e w1 ⟨v1, rfl, ho1, hb1⟩
  have hb01 := (below_a1 w _).trans (hb1.mono (by simp))
  have HA := hideP (Acc.of (below_a1 w _) ho1 hb1)
  obtain ⟨bc1, bf1⟩ := bcell hb1
  have hz1 := hb1.size
  simp only [World.size_alloc] at bc1 bf1 hz1
  have q0 : w.heap.size < w1.heap.size := by omega
  have HR1 := hideP (h.below hb01)
  have HPL := Lib.hid (pay_len t i a)
  clear ho1 hb1
  obtain ⟨va, vc, rfl, hrd⟩ := HA.out.slice
  have HRV := hideP hrd
  clear hrd
  cases hp : (payT t i a).2
  · have HG : Hid (giveT t i j a = (t, false)) := hideP (by unfold giveT; rw [hp]; rfl)
    go_wp2_with fail
    refine (implCopyTree_any _ _ _ t Hn.out hl _ HR1.out).mono ?_
    rintro e w2 ⟨v2, rfl, ho2, hb2⟩
    have HA2 := hideP (Acc.of hb01 ho2 hb2)
    clear ho2
    go_wp2
    go_ret2
    exact HA2.out.ret2' HG.out
  · have hok : treeOk t = true := by
      cases hc : treeOk t
      · rw [pay_no (by simp [hc])] at hp; cases hp
      · rfl
    have H5 := Lib.hid (tree_parts hok).1
    have hn5 : n = 5 := by have := Hn.out; have := H5.out; omega
    subst hn5
    clear hok
    cases hlv : isLiveB t j
    · have HG : Hid (giveT t i j a = (t, false)) := hideP (by unfold giveT; rw [hp, hlv]; rfl)
      go_wp2_with fail
      refine (isLive_any _ _ t j H5.out _ HR1.out).mono ?_
      rintro e w' ⟨rfl, rfl⟩
      rw [hlv]
      go_wp2_with fail
      refine (implCopyTree_any _ _ _ t Hn.out hl _ HR1.out).mono ?_
      rintro e w2 ⟨v2, rfl, ho2, hb2⟩
      have HA2 := hideP (Acc.of hb01 ho2 hb2)
      clear ho2
      go_wp2
      go_ret2
      exact HA2.out.ret2' HG.out
    · have HG : Hid (giveT t i j a = backT (payT t i a).1 j a) := hideP (by unfold giveT; rw [hp, hlv]; rfl)
      go_wp2_with fail
      refine (isLive_any _ _ t j H5.out _ HR1.out).mono ?_
      rintro e w' ⟨rfl, rfl⟩
      rw [hlv]
      go_wp2_with fail
      refine (implTreeBack_any _ _ _ (payT t i a).1 j a (by rw [HPL.out, Hn.out]) (by decide) _ HRV.out).mono ?_
      rintro e w2 ⟨v2, rfl, ho2, hb2⟩
      have HA2 := hideP (Acc.of hb01 ho2 hb2)
      clear ho2
      go_wp2
      go_ret2
      have HF := HA2.out.ret2 (backT (payT t i a).1 j a).2
      rw [HG.out]
      exact HF

end Go.Proofs.Ytcahncppkolkbaa
