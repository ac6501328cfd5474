import Derived.Test.YtpiaahkfnefplaaSmall
import Derived.Test.YtpiaahkfnefplaaCnt
namespace Go.Proofs.Ytpiaahkfnefplaa
open Go.RowKit


set_option maxHeartbeats 400000 in
theorem markMsgS_any (v : Value) (n base : Nat) (xs : List Value) (q0 : Int) (hq0 : 0 ≤ q0 ∧ q0 ≤ 1000000000000) (hl : n ≤ 1048576) (w : World) (h : w.ownsRow base 77 2 v n xs) :
    Calls Try.prog 55 #[v, .int .i64 q0] w fun e w' => e = .returned (.int .i64 (q0 + ((n * 2 : Nat) : Int))) ∧ w'.ownsRow base 77 2 v n (cnt q0 (n * 2)) ∧ w.grownBy w' v.ownBlock := by
  obtain ⟨a, cap, rfl, hnc⟩ := owns_slice h
  have H := Lib.hid h
  clear h
  go_enter Try.func55, Try.ntmps55
  go_wp2
  go_loopw [1, 5] (fun c i wr => ∃ k : Nat, ∃ q : Int, ∃ tl : List Value, k ≤ n ∧ i = .int .i64 k ∧ c = .int .i64 q ∧ Hid (q = q0 + ((k * 2 : Nat) : Int)) ∧ Hid (wr.ownsRow base 77 2 (.slice a n cap) n (cnt q0 (k * 2) ++ tl)) ∧ Hid (w.grownBy wr (Value.slice a n cap).ownBlock)) (fun _ i _ => n - (intOf i).toNat)
  case atStart => exact ⟨0, q0, xs, Nat.zero_le _, rfl, rfl, hideP (by simp), by simpa [Hid, cnt] using H.out, hideP (World.grownBy.refl _ _)⟩
  case round =>
    obtain ⟨k, q, tl, hk, rfl, rfl, hq, hown, hb⟩ := hrel
    have hqb : 0 ≤ q ∧ q ≤ 2000000000000 := by have := hq.out; omega
    by_cases hlt : k < n
    · obtain ⟨g, rfl, hbg⟩ := owns_block hown.out (by omega)
      obtain ⟨⟨u0, c0⟩, f0⟩ := owns_at hown.out (j := k * 2) (by omega)
      obtain ⟨⟨u1, c1⟩, f1⟩ := owns_at hown.out (j := k * 2 + 1) (by omega)
      go_wp2
      go_roundw
      case rel => exact ⟨k + 1, q + 1 + 1, tl.drop 2, by omega, by go_num, rfl, hideP (by have := hq.out; omega), hideP (owns_cnt 2 (pre := cnt q0 (k * 2)) (pre' := cnt q0 ((k + 1) * 2)) [.int .i64 (q), .int .i64 (q + 1)] rfl hown.out hlt ⟨cnt_length _ _, by rw [cnt_succ2, ← hq.out]⟩), hideP (grown_setCells [.int .i64 (q), .int .i64 (q + 1)] (k * 2) hb.out)⟩
      case measure => simp [intOf]; omega
    · go_wp2
      go_ret
      have hkn : k = n := by omega
      subst hkn
      exact ⟨ret_int hq.out, owns_cnt_full hown.out, hb.out⟩


end Go.Proofs.Ytpiaahkfnefplaa
