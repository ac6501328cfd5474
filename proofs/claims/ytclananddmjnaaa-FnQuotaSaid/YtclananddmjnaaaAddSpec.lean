/- QuotaAdd: the walk of one side. -/
import Derived.Test.YtclananddmjnaaaChargePure
import Derived.Deep.LoopGhost
namespace Go.Proofs.Ytclananddmjnaaa
open Go.RowKit

set_option maxRecDepth 100000 in
set_option maxHeartbeats 2000000 in
theorem specQuotaAdd_any (a : Option Addr) (n cap : Nat) (l : List Node) (p q : Int) (hn : n = l.length) (hl : n ≤ 1048576) (w : World) (h : Rd w a (l.flatMap Node.enc)) :
    Calls Try.prog 40 #[.slice a n cap, .int .i64 p, .int .i64 q] w (OwnRet2 w 69 3 (quotaAdd l p q).1.length ((quotaAdd l p q).1.flatMap Node.enc) (quotaAdd l p q).2) := by
  have Hn := Lib.hid hn
  clear hn
  obtain ⟨i0, hi, hz0, hz1, hz2⟩ := info_parts Try.infoNode
  go_enter Try.func40, Try.ntmps40
  go_wp2_with fail
  refine (specCopy_any _ _ _ l Hn.out hl _ h).mono ?_
  rintro e w1 ⟨v1, rfl, ho1, hb1⟩
  have Ha1 : Hid (Acc w 69 3 n (l.flatMap Node.enc) v1 w1) := hideP ⟨ho1, hb1⟩
  clear ho1 hb1
  go_wp2_with (at_builtin; refine wpList_append_acc rfl _ _ 25 rfl 69 i0 (.agg #[.int .i64 0, .int .i64 0, .int .i64 0]) 3 24 Try.underlying25 hi hz0 hz1 hz2 rfl (by decide) _ _ _ rfl (Acc.alloc Ha1.out _) _ 1 1 (Node.enc ⟨p, q, 0⟩) rfl rfl (rd_lit rfl) ?c1 ?c2 ?c3 ?_)
  case c1 => simp [Value.oneCell', Node.enc]
  case c2 => unfold maxLen; omega
  case c3 => omega
  intro v2 w2 h2 _
  have hlen2 : n + 1 = (l ++ [(⟨p, q, 0⟩ : Node)]).length := by have := Hn.out; simp; omega
  have Hlen2 := Lib.hid hlen2
  have Ha2 : Hid (Acc w 69 3 (n + 1) ((l ++ [(⟨p, q, 0⟩ : Node)]).flatMap Node.enc) v2 w2) := hideP (by simpa using h2)
  clear h2 hlen2
  obtain ⟨a2, c2, rfl, hr2⟩ := Ha2.out.slice
  have Hr2 := Lib.hid hr2
  clear hr2
  go_wp2_with fail
  refine (specQuotaOk_any _ _ _ l Hn.out hl _ (h.below Ha2.out.2)).mono ?_
  rintro e w3 ⟨rfl, hb3⟩
  have Hb3 := Lib.hid (hb3.below w2.heap.size)
  clear hb3
  cases hq : quotaOk l
  · have Hr : Hid (quotaAdd l p q = (l, false)) := hideP (by unfold quotaAdd; rw [hq]; rfl)
    go_wp2_with fail
    refine (specCopy_any _ _ _ l Hn.out hl _ ((h.below Ha2.out.2).below Hb3.out)).mono ?_
    rintro e w4 ⟨v4, rfl, ho4, hb4⟩
    have HA := Lib.hid (Acc.of (Ha2.out.below Hb3.out).2 ho4 hb4)
    clear ho4 hb4
    go_wp2
    go_ret2
    rw [Hr.out]
    exact (HA.out.cast Hn.out).ret2 false
  go_wp2_with fail
  refine (specQuotaOk_big _ _ _ (l ++ [(⟨p, q, 0⟩ : Node)]) Hlen2.out (by omega) _ (Hr2.out.below Hb3.out)).mono ?_
  rintro e w4 ⟨rfl, hb4⟩
  have Hb4 := Lib.hid (Hb3.out.trans ((hb4.below w3.heap.size).mono Hb3.out.size))
  clear hb4
  cases hq2 : quotaOk (l ++ [(⟨p, q, 0⟩ : Node)])
  · have Hr : Hid (quotaAdd l p q = (l, false)) := hideP (by unfold quotaAdd; rw [hq2, Bool.and_false]; rfl)
    go_wp2_with fail
    refine (specCopy_any _ _ _ l Hn.out hl _ ((h.below Ha2.out.2).below Hb4.out)).mono ?_
    rintro e w5 ⟨v5, rfl, ho5, hb5⟩
    have HA := Lib.hid (Acc.of (Ha2.out.below Hb4.out).2 ho5 hb5)
    clear ho5 hb5
    go_wp2
    go_ret2
    rw [Hr.out]
    exact (HA.out.cast Hn.out).ret2 false
  · have Hr : Hid (quotaAdd l p q = (l ++ [(⟨p, q, 0⟩ : Node)], true)) := hideP (by unfold quotaAdd; rw [hq, hq2]; rfl)
    go_wp2
    go_ret2
    rw [Hr.out]
    exact ((Ha2.out.below Hb4.out).cast Hlen2.out).ret2 true
end Go.Proofs.Ytclananddmjnaaa
