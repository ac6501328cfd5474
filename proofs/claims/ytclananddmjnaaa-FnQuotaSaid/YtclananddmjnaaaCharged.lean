/- charged: what one and all above it use. -/
import Derived.Test.YtclananddmjnaaaChargePure
import Derived.Deep.LoopGhost
namespace Go.Proofs.Ytclananddmjnaaa
open Go.RowKit

set_option maxRecDepth 100000 in
set_option maxHeartbeats 2000000 in
theorem implCharged_any (a : Option Addr) (n cap : Nat) (l : List Node) (k0 : Nat) (d : Int) (hn : n = l.length) (hl : n ≤ 1048576) (hno : nodesOk l = true) (hk : k0 < n) (hd : -1000000 ≤ d ∧ d ≤ 1000000) (w : World) (h : Rd w a (l.flatMap Node.enc)) :
    Calls Try.prog 85 #[.slice a n cap, .int .i64 k0, .int .i64 d] w (OwnRet w 69 3 n ((charged l (k0 : Int) d).flatMap Node.enc)) := by
  have Hn := Lib.hid hn
  have Hno := Lib.hid hno
  obtain ⟨d0, d1⟩ := hd
  have h8 : n ≤ 8 := by have := (nodesOk_small hno).1; omega
  clear hn hno
  go_enter Try.func85, Try.ntmps85
  go_wp2_with fail
  refine (implCopy_any _ _ _ l Hn.out hl _ h).mono ?_
  rintro e w1 ⟨v1, rfl, ho1, hb1⟩
  have hacc0 : Acc w 69 3 n (l.flatMap Node.enc) v1 w1 := ⟨ho1, hb1⟩
  obtain ⟨g, c, rfl, hg, _⟩ := hacc0.block (by omega)
  have Ha0 := Lib.hid hacc0
  clear ho1 hacc0
  go_wp2

  go_loopg [1] 10 (fun gk iv wr => ∃ (j : Int) (acc : List Node) (fu : Nat), j + 1 < gk ∧ -1 ≤ j ∧ j < n ∧ j < fu ∧ iv = .int .i64 j ∧ Hid (Same l acc j) ∧ Hid (charged l (k0 : Int) d = chargeGo l d fu j acc) ∧ Acc w 69 3 n (acc.flatMap Node.enc) (.slice (some ⟨g, 0, none⟩) n c) wr)
  case atStart => exact ⟨(k0 : Int), l, 9, by omega, by omega, by omega, by omega, rfl, hideP ⟨rfl, fun _ _ => rfl⟩, hideP rfl, Ha0.out⟩
  case round =>
    obtain ⟨j, acc, fu, hgk, hj0, hj1, hjf, rfl, hS, hR, hacc⟩ := hrel
    by_cases hj : j < 0
    · have HE := Lib.hid (hR.out.trans (chargeGo_end _ _ _ _ hj))
      go_wp2
      first | go_ret | go_ret2
      rw [HE.out]
      exact hacc.ret
    · obtain ⟨k, rfl⟩ := Int.eq_ofNat_of_zero_le (show 0 ≤ j by omega)
      obtain ⟨x, hx⟩ := some_at (l := l) (k := k) (by have := Hn.out; omega)
      obtain ⟨v1, v2, v3, v4, v5, v6, v7⟩ := node_up Hno.out hx
      obtain ⟨b, o, rfl, hbw, g1, g2, g3⟩ := h.rowNode hx
      have hxa := hideP ((hS.out.2 k (Int.le_refl _)).trans hx)
      obtain ⟨c0, f0⟩ := hacc.cell Node.enc_len (j := 2) hxa.out rfl
      have n1 : b ≠ g := by omega
      have n2 : g ≠ b := by omega
      obtain ⟨bc, bf⟩ := bcell hacc.2
      obtain ⟨fu', rfl⟩ : ∃ z, fu = z + 1 := ⟨fu - 1, by omega⟩
      have HS := Lib.hid (hR.out.trans (chargeGo_at d fu' acc hx))
      have HQ := Lib.hid (hS.out.next (y := ⟨x.p, x.l, x.u + d⟩) v2)
      have HA := Lib.hid (hacc.setField Node.enc_len hg (k := k) (j := 2) (x' := ⟨x.p, x.l, x.u + d⟩) (u := .int .i64 (x.u + d)) hxa.out (by decide) (by rfl))
      clear hx
      go_wp2
      go_roundg (gk - 1)
      case measure => omega
      case rel => exact ⟨x.p, _, fu', by omega, by omega, by omega, by omega, rfl, HQ, HS, HA.out⟩
end Go.Proofs.Ytclananddmjnaaa
