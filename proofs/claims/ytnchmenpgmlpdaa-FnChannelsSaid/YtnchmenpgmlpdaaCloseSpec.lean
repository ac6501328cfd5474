/- Closure: the walk of one side. -/
import Derived.Test.YtnchmenpgmlpdaaClosePure
import Derived.Deep.LoopGhost
namespace Go.Proofs.Ytnchmenpgmlpdaa
open Go.RowKit

set_option maxRecDepth 100000 in
set_option maxHeartbeats 2000000 in
theorem specClosure_any (n : Int) (a : Option Addr) (m cap : Nat) (l : List Chan) (hm : m = l.length) (hl : m ≤ 1048576) (w : World) (h : Rd w a (l.flatMap Chan.enc)) :
    Calls Try.prog 77 #[.int .i64 n, .slice a m cap] w (OwnRet w 52 2 (closure n l).length ((closure n l).flatMap Chan.enc)) := by
  have Hm := Lib.hid hm
  clear hm
  obtain ⟨i0, hi, hz0, hz1, hz2⟩ := info_parts Try.infoChan
  by_cases hin : inB n 1 20 = true
  · have hb8 := inB_true.1 hin
    obtain ⟨N, rfl⟩ := Int.eq_ofNat_of_zero_le (show 0 ≤ n by omega)
    have hc : closure (N : Int) l = closeRows (N : Int) l N N := by rw [closure, if_pos hin]; rfl
    rw [hc]
    clear hc
    go_enter Try.func77, Try.ntmps77
    go_wp2_with (go_at_call 84; refine (l1In_any _ _ _ _).mono ?_; rintro e w' ⟨rfl, rfl⟩)
    go_loopg [5, 6] (N + 1) (fun gk v i wr => ∃ k : Nat, N - k < gk ∧ k ≤ N ∧ i = .int .i64 k ∧ CloseAcc w (closeRows (N : Int) l k N) v wr)
    case atStart => exact ⟨0, by omega, by omega, rfl, Acc.nil (Below.refl _ _) rfl⟩
    case round =>
      rename_i v0 _ _
      obtain ⟨k, hgk, hk, rfl, hacc⟩ := hrel
      obtain ⟨gko, rfl⟩ : ∃ g, g = gk := ⟨_, rfl⟩
      by_cases hlt : k < N
      · go_wp2
        go_loopg [5, 7] (N + 1) (fun gk1 v i wr => ∃ j : Nat, N - j < gk1 ∧ j ≤ N ∧ i = .int .i64 j ∧ CloseAcc w (closeRows (N : Int) l k N ++ closeRow (N : Int) l k j) v wr)
        case atStart => exact ⟨0, by omega, by omega, rfl, by simpa [closeRow] using hacc⟩
        case round =>
          obtain ⟨j, hgj, hj, rfl, hacc1⟩ := hrel
          by_cases hlj : j < N
          · by_cases hkj : k = j
            · have hacc2 := hideP (hacc1.next j (pick_no (.inl hkj)))
              have d1 : ((k : Int) != (j : Int)) = false := by simp [hkj]
              clear hkj
              go_wp2
              go_roundg (gk - 1)
              case measure => omega
              case rel => exact ⟨j + 1, by omega, by omega, by go_num, hacc2.out⟩
            · have d1 : ((k : Int) != (j : Int)) = true := by simp; omega
              cases hr : canReach (N : Int) l (k : Int) (j : Int)
              · have hacc2 := hideP (hacc1.next j (pick_no (.inr hr)))
                have Hr := Lib.hid hr
                clear hr hkj
                go_wp2_with fail
                refine (specCanReach_any _ _ _ _ l _ _ Hm.out hl _ (h.below (Acc.wb hacc1))).mono ?_
                rintro e w2 ⟨rfl, hb2⟩
                rw [Hr.out]
                go_wp2
                go_roundg (gk - 1)
                case measure => omega
                case rel => exact ⟨j + 1, by omega, by omega, by go_num, Acc.below hacc2.out hb2⟩
              · have hp := hideP (pick_yes hkj hr)
                have Hr := Lib.hid hr
                have hlen := closeRow_len (N : Int) l k j
                have hlen2 := closeRows_len (N : Int) l N k
                have hle : k * N ≤ 20 * 20 := Nat.mul_le_mul (by omega) (by omega)
                clear hr hkj
                go_wp2_with fail
                refine (specCanReach_any _ _ _ _ l _ _ Hm.out hl _ (h.below (Acc.wb hacc1))).mono ?_
                rintro e w2 ⟨rfl, hb2⟩
                rw [Hr.out]
                have hacc2 := hideP (Acc.below hacc1 hb2)
                go_wp2_with (at_builtin; refine wpList_append_acc rfl _ _ 24 rfl 52 i0 (.agg #[.int .i64 0, .int .i64 0]) 2 16 Try.underlying24 hi hz0 hz1 hz2 rfl (by decide) _ _ _ rfl (Acc.alloc hacc2.out _) _ 1 1 (Chan.enc ⟨(k : Int), (j : Int)⟩) rfl rfl (rd_lit rfl) ?c1 ?c2 ?c3 ?_)
                case c1 => simp [Value.oneCell', Chan.enc]
                case c2 => unfold maxLen; simp; omega
                case c3 => simp; omega
                intro v' w3 h3 _
                have hacc3 := hideP (CloseAcc.pick h3 hp.out)
                clear h3
                go_wp2
                go_roundg (gk - 1)
                case measure => omega
                case rel => exact ⟨j + 1, by omega, by omega, by go_num, hacc3.out⟩
          · have hjN : j = N := by omega
            subst hjN
            rw [← closeRows_succ] at hacc1
            go_wp2
            go_roundg (gko - 1)
            case measure => omega
            case rel => exact ⟨k + 1, by omega, by omega, by go_num, hacc1⟩
      · have hkN : k = N := by omega
        subst hkN
        go_wp2
        go_ret
        exact Acc.ret hacc
  · have hin' : inB n 1 20 = false := by simpa using hin
    have hc : closure n l = [] := by rw [closure, if_neg hin]
    rw [hc]
    go_enter Try.func77, Try.ntmps77
    go_wp2_with (go_at_call 84; refine (l1In_any _ _ _ _).mono ?_; rintro e w' ⟨rfl, rfl⟩)
    go_ret
    exact ⟨_, rfl, owns_lit (Nat.le_refl _) rfl (by decide) rfl rfl, below_a1 _ _⟩
end Go.Proofs.Ytnchmenpgmlpdaa
