/- Refund: the walk of one side. -/
import Derived.Test.YtclananddmjnaaaRoomImpl
import Derived.Test.YtclananddmjnaaaCharged
import Derived.Test.YtclananddmjnaaaChargePure
import Derived.Deep.LoopGhost
namespace Go.Proofs.Ytclananddmjnaaa
open Go.RowKit

set_option maxRecDepth 100000 in
set_option maxHeartbeats 2000000 in
theorem implRefund_any (a : Option Addr) (n cap : Nat) (l : List Node) (i m : Int) (hn : n = l.length) (hl : n ≤ 1048576) (w : World) (h : Rd w a (l.flatMap Node.enc)) :
    Calls Try.prog 45 #[.slice a n cap, .int .i64 i, .int .i64 m] w (OwnRet2 w 69 3 n ((refund l i m).1.flatMap Node.enc) (refund l i m).2) := by
  have Hn := Lib.hid hn
  clear hn
  go_enter Try.func45, Try.ntmps45
  go_wp2_with fail
  refine (hasQuota_any _ _ _ l i Hn.out hl _ h).mono ?_
  rintro e w1 ⟨rfl, hb1⟩
  cases hh : hasQ l i
  · have Hr := Lib.hid (refund_no1 (m := m) hh)
    go_wp2_with fail
    refine (implCopy_any _ _ _ l Hn.out hl _ (h.below hb1)).mono ?_
    rintro e w2 ⟨v2, rfl, ho2, hb2⟩
    have HA := Lib.hid (Acc.of hb1 ho2 hb2)
    clear ho2
    go_wp2
    go_ret2
    rw [Hr.out]
    exact HA.out.ret2 false
  go_wp2_with fail
  refine (implOwnUse_any _ _ _ l i Hn.out hl _ (h.below hb1)).mono ?_
  rintro e w2 ⟨rfl, hb2⟩
  have hb02 := hb1.trans (hb2.mono hb1.size)
  cases hm : inB m 0 (ownUse l i)
  · have Hr := Lib.hid (refund_no2 hm)
    go_wp2_with (go_at_call 76; refine (within_any _ _ _ _).mono ?_; rintro e w' ⟨rfl, rfl⟩)
    refine (implCopy_any _ _ _ l Hn.out hl _ (h.below hb02)).mono ?_
    rintro e w3 ⟨v3, rfl, ho3, hb3⟩
    have HA := Lib.hid (Acc.of hb02 ho3 hb3)
    clear ho3
    go_wp2
    go_ret2
    rw [Hr.out]
    exact HA.out.ret2 false
  · have Hr := Lib.hid (refund_yes hh hm)
    have hm1 := inB_true.1 hm
    obtain ⟨hq', k0, x0, rfl, hx0, hk0⟩ := has_split hh
    have hlim := ownUse_le hh
    have hk : k0 < n := by have := Hn.out; omega
    clear hh
    go_wp2_with (go_at_call 76; refine (within_any _ _ _ _).mono ?_; rintro e w' ⟨rfl, rfl⟩)
    refine (implCharged_any _ _ _ l k0 _ Hn.out hl (quotaOk_nodes hq') hk (by omega) _ (h.below hb02)).mono ?_
    rintro e w3 ⟨v3, rfl, ho3, hb3⟩
    have HA := Lib.hid (Acc.of hb02 ho3 hb3)
    clear ho3
    go_wp2
    go_ret2
    rw [Hr.out]
    exact HA.out.ret2 true
end Go.Proofs.Ytclananddmjnaaa
