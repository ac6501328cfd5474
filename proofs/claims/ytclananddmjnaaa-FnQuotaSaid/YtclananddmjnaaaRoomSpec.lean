/- Room: the walk of one side. -/
import Derived.Test.YtclananddmjnaaaChargePure
import Derived.Deep.LoopGhost
namespace Go.Proofs.Ytclananddmjnaaa
open Go.RowKit

set_option maxRecDepth 100000 in
set_option maxHeartbeats 2000000 in
theorem specRoom_any (a : Option Addr) (n cap : Nat) (l : List Node) (i : Int) (hn : n = l.length) (hl : n ≤ 1048576) (w : World) (h : Rd w a (l.flatMap Node.enc)) :
    Calls Try.prog 16 #[.slice a n cap, .int .i64 i] w fun e w' => e = .returned (.int .i64 (room l i)) ∧ Below w.heap.size w w' := by
  have Hn := Lib.hid hn
  clear hn
  go_enter Try.func16, Try.ntmps16
  go_wp2_with fail
  refine (specQuotaOk_any _ _ _ l Hn.out hl _ h).mono ?_
  rintro e w1 ⟨rfl, hb1⟩
  replace hb1 := hb1.below w.heap.size
  cases hq : quotaOk l
  · have Hr : Hid (room l i = 0) := hideP (room_no (by unfold hasQ; rw [hq]; rfl))
    go_wp2
    go_ret
    exact ⟨ret_int Hr.out.symm, hb1⟩
  cases hi : inB i 0 ((n : Int) - 1)
  · have Hr : Hid (room l i = 0) := hideP (room_no (by unfold hasQ; rw [hq, ← Hn.out, hi]; rfl))
    go_wp2_with (go_at_call 66; refine (l1In_any _ _ _ _).mono ?_; rintro e w' ⟨rfl, rfl⟩)
    go_ret
    exact ⟨ret_int Hr.out.symm, hb1⟩
  have hh : hasQ l i = true := by unfold hasQ; rw [hq, ← Hn.out, hi]; rfl
  obtain ⟨hq', k0, x0, rfl, hx0, hk0⟩ := has_split hh
  have Hr := Lib.hid (room_at hh hx0)
  have Hno := Lib.hid (quotaOk_nodes hq')
  obtain ⟨q1, q2, q3, q4, q5, q6, q7⟩ := node_up Hno.out hx0
  have hr1 := hideP (h.below hb1)
  obtain ⟨b, o, ha, hbw, g1, g2, g3⟩ := hr1.out.rowNode hx0
  have h8 : n ≤ 8 := by have := (nodesOk_small Hno.out).1; have := Hn.out; omega
  have hk' : k0 < n := by have := Hn.out; omega
  subst ha
  have d1 := hi
  clear hx0 hq' hh hq
  have sm1 : IntKind.i64.wrap (x0.l - x0.u) = x0.l - x0.u := IntWalk.i64_in _ (by omega)
  go_wp2_with (go_at_call 66; refine (l1In_any _ _ _ _).mono ?_; rintro e w' ⟨rfl, rfl⟩)
  go_quiet (fail)
  clear sm1 g1 g2 g3
  go_wp2
  go_loopg [5, 6] 10 (fun gk v iv wr => ∃ (j acc : Int) (fu : Nat), j + 1 < gk ∧ -1 ≤ j ∧ j < n ∧ j < fu ∧ 0 ≤ acc ∧ acc ≤ 1000000 ∧ iv = .int .i64 j ∧ v = .int .i64 acc ∧ Hid (room l (k0 : Int) = roomGo l fu j acc) ∧ Below w.heap.size w wr)
  case atStart => exact ⟨(k0 : Int), _, 9, by omega, by omega, by omega, by omega, q3, q4, rfl, rfl, Hr, by first | exact below_drewN hb1 _⟩
  case round =>
    clear q1 q2 q3 q4 q5 q6 q7
    obtain ⟨j, acc, fu, hgk, hj0, hj1, hjf, ha0, ha1, rfl, rfl, hR, hb⟩ := hrel
    by_cases hj : j < 0
    · have HE := Lib.hid (hR.out.trans (roomGo_end _ _ _ hj))
      go_wp2
      go_ret
      exact ⟨ret_int HE.out.symm, hb⟩
    · obtain ⟨k, rfl⟩ := Int.eq_ofNat_of_zero_le (show 0 ≤ j by omega)
      obtain ⟨x, hx⟩ := some_at (l := l) (k := k) (by have := Hn.out; omega)
      obtain ⟨v1, v2, v3, v4, v5, v6, v7⟩ := node_up Hno.out hx
      obtain ⟨b', o', ha, hbw', g1, g2, g3⟩ := (h.below hb).rowNode hx
      simp only [Option.some.injEq, Addr.mk.injEq, and_true] at ha
      obtain ⟨rfl, rfl⟩ := ha
      obtain ⟨fu', rfl⟩ : ∃ z, fu = z + 1 := ⟨fu - 1, by omega⟩
      have HS := Lib.hid (hR.out.trans (roomGo_at fu' acc hx))
      clear hx
      have sm1 : IntKind.i64.wrap (x.l - x.u) = x.l - x.u := IntWalk.i64_in _ (by omega)
      by_cases hm : x.l - x.u < acc
      · rw [Int.min_eq_right (by omega)] at HS
        go_wp2
        go_quiet (fail)
        go_wp2
        go_roundg (gk - 1)
        case measure => omega
        case rel => exact ⟨x.p, _, fu', by omega, by omega, by omega, by omega, v3, v4, rfl, by first | rfl | (congr 1; omega), HS, below_drewN hb _⟩
      · rw [Int.min_eq_left (by omega)] at HS
        go_wp2
        go_quiet (fail)
        go_wp2
        go_roundg (gk - 1)
        case measure => omega
        case rel => exact ⟨x.p, _, fu', by omega, by omega, by omega, by omega, ha0, ha1, rfl, by first | rfl | (congr 1; omega), HS, below_drewN hb _⟩
end Go.Proofs.Ytclananddmjnaaa
