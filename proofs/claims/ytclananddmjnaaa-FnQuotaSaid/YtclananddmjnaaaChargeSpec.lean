/- Charge: the walk of one side. -/
import Derived.Test.YtclananddmjnaaaRoomSpec
import Derived.Test.YtclananddmjnaaaChargePure
import Derived.Deep.LoopGhost
namespace Go.Proofs.Ytclananddmjnaaa
open Go.RowKit

set_option maxRecDepth 100000 in
set_option maxHeartbeats 2000000 in
theorem specCharge_any (a : Option Addr) (n cap : Nat) (l : List Node) (i m : Int) (hn : n = l.length) (hl : n ≤ 1048576) (w : World) (h : Rd w a (l.flatMap Node.enc)) :
    Calls Try.prog 46 #[.slice a n cap, .int .i64 i, .int .i64 m] w (OwnRet2 w 69 3 n ((charge l i m).1.flatMap Node.enc) (charge l i m).2) := by
  have Hn := Lib.hid hn
  clear hn
  go_enter Try.func46, Try.ntmps46
  go_wp2_with fail
  refine (specCopy_any _ _ _ l Hn.out hl _ h).mono ?_
  rintro e w1 ⟨v1, rfl, ho1, hb1⟩
  have hacc0 : Acc w 69 3 n (l.flatMap Node.enc) v1 w1 := ⟨ho1, hb1⟩
  have Ha0 := Lib.hid hacc0
  clear ho1 hacc0
  go_wp2_with fail
  refine (specQuotaOk_any _ _ _ l Hn.out hl _ (h.below hb1)).mono ?_
  rintro e w2 ⟨rfl, hq2⟩
  have Ha2 := Lib.hid (Ha0.out.below (hq2.below _))
  clear hq2
  cases hq : quotaOk l
  · have Hr := Lib.hid (charge_no1 (m := m) (show hasQ l i = false by unfold hasQ; rw [hq]; rfl))
    go_wp2
    go_ret2
    rw [Hr.out]
    exact Ha2.out.ret2 false
  cases hi : inB i 0 ((n : Int) - 1)
  · have Hr := Lib.hid (charge_no1 (m := m) (show hasQ l i = false by unfold hasQ; rw [hq, ← Hn.out, hi]; rfl))
    go_wp2_with (go_at_call 66; refine (l1In_any _ _ _ _).mono ?_; rintro e w' ⟨rfl, rfl⟩)
    go_ret2
    rw [Hr.out]
    exact Ha2.out.ret2 false
  have hh : hasQ l i = true := by unfold hasQ; rw [hq, ← Hn.out, hi]; rfl
  go_wp2_with (go_at_call 66; refine (l1In_any _ _ _ _).mono ?_; rintro e w' ⟨rfl, rfl⟩)
  refine (specRoom_any _ _ _ l i Hn.out hl _ (h.below Ha2.out.2)).mono ?_
  rintro e w3 ⟨rfl, hb3⟩
  have Ha3 := Lib.hid (Ha2.out.below (hb3))
  clear hb3
  cases hm : inB m 0 (room l i)
  · have Hr := Lib.hid (charge_no2 hm)
    go_wp2_with (go_at_call 66; refine (l1In_any _ _ _ _).mono ?_; rintro e w' ⟨rfl, rfl⟩)
    go_ret2
    rw [Hr.out]
    exact Ha3.out.ret2 false
  have Hr := Lib.hid (charge_yes hh hm)
  have hm1 := inB_true.1 hm
  have hlim := room_le hh
  obtain ⟨hq', k0, x0, rfl, hx0, hk0⟩ := has_split hh
  have hk : k0 < n := by have := Hn.out; omega
  have Hno := Lib.hid (quotaOk_nodes hq')
  have h8 : n ≤ 8 := by have := (nodesOk_small Hno.out).1; have := Hn.out; omega
  obtain ⟨g, c, rfl, hg, _⟩ := Ha3.out.block (by omega)
  have m0 : 0 ≤ m := hm1.1
  have m1 : m ≤ 1000000 := by omega
  clear hh hq hq' hx0 hm1 hlim
  go_wp2_with (go_at_call 66; refine (l1In_any _ _ _ _).mono ?_; rintro e w' ⟨rfl, rfl⟩)

  go_loopg [9] 10 (fun gk iv wr => ∃ (j : Int) (acc : List Node) (fu : Nat), j + 1 < gk ∧ -1 ≤ j ∧ j < n ∧ j < fu ∧ iv = .int .i64 j ∧ Hid (Same l acc j) ∧ Hid (charged l (k0 : Int) m = chargeGo l m fu j acc) ∧ Acc w 69 3 n (acc.flatMap Node.enc) (.slice (some ⟨g, 0, none⟩) n c) wr)
  case atStart => exact ⟨(k0 : Int), l, 9, by omega, by omega, by omega, by omega, rfl, hideP ⟨rfl, fun _ _ => rfl⟩, hideP rfl, Ha3.out⟩
  case round =>
    obtain ⟨j, acc, fu, hgk, hj0, hj1, hjf, rfl, hS, hR, hacc⟩ := hrel
    by_cases hj : j < 0
    · have HE := Lib.hid (hR.out.trans (chargeGo_end _ _ _ _ hj))
      go_wp2
      first | go_ret | go_ret2
      rw [Hr.out, HE.out]
      exact hacc.ret2 true
    · obtain ⟨k, rfl⟩ := Int.eq_ofNat_of_zero_le (show 0 ≤ j by omega)
      obtain ⟨x, hx⟩ := some_at (l := l) (k := k) (by have := Hn.out; omega)
      obtain ⟨v1, v2, v3, v4, v5, v6, v7⟩ := node_up Hno.out hx
      obtain ⟨b, o, rfl, hbw, g1, g2, g3⟩ := h.rowNode hx
      have hxa := hideP ((hS.out.2 k (Int.le_refl _)).trans hx)
      obtain ⟨c0, f0⟩ := hacc.cell Node.enc_len (j := 2) hxa.out rfl
      have n1 : b ≠ g := by omega
      have n2 : g ≠ b := by omega
      obtain ⟨bc, bf⟩ := bcell hacc.2
      obtain ⟨fu', rfl⟩ : ∃ z, fu = z + 1 := ⟨fu - 1, by omega⟩
      have HS := Lib.hid (hR.out.trans (chargeGo_at m fu' acc hx))
      have HQ := Lib.hid (hS.out.next (y := ⟨x.p, x.l, x.u + m⟩) v2)
      have HA := Lib.hid (hacc.setField Node.enc_len hg (k := k) (j := 2) (x' := ⟨x.p, x.l, x.u + m⟩) (u := .int .i64 (x.u + m)) hxa.out (by decide) (by rfl))
      clear hx
      go_wp2
      go_roundg (gk - 1)
      case measure => omega
      case rel => exact ⟨x.p, _, fu', by omega, by omega, by omega, by omega, rfl, HQ, HS, HA.out⟩
end Go.Proofs.Ytclananddmjnaaa
