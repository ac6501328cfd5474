import Derived.Test.YtpiaahkfnefplaaSmall
import Derived.Test.YtpiaahkfnefplaaCnt
namespace Go.Proofs.Ytpiaahkfnefplaa
open Go.RowKit


set_option maxHeartbeats 400000 in
theorem markIntS_any (v : Value) (n base : Nat) (xs : List Value) (q0 : Int) (hq0 : 0 ≤ q0 ∧ q0 ≤ 1000000000000) (hl : n ≤ 1048576) (w : World) (h : w.ownsRow base 3 1 v n xs) :
    Calls Try.prog 14 #[v, .int .i64 q0] w fun e w' => e = .returned (.int .i64 (q0 + ((n : Nat) : Int))) ∧ w'.ownsRow base 3 1 v n (cnt q0 (n)) ∧ w.grownBy w' v.ownBlock := by
  obtain ⟨a, cap, rfl, hnc⟩ := owns_slice h
  have H := Lib.hid h
  clear h
  go_enter Try.func14, Try.ntmps14
  go_wp2
  go_loopw [1, 5] (fun c i wr => ∃ k : Nat, ∃ q : Int, ∃ tl : List Value, k ≤ n ∧ i = .int .i64 k ∧ c = .int .i64 q ∧ Hid (q = q0 + ((k : Nat) : Int)) ∧ Hid (wr.ownsRow base 3 1 (.slice a n cap) n (cnt q0 (k) ++ tl)) ∧ Hid (w.grownBy wr (Value.slice a n cap).ownBlock)) (fun _ i _ => n - (intOf i).toNat)
  case atStart => exact ⟨0, q0, xs, Nat.zero_le _, rfl, rfl, hideP (by simp), by simpa [Hid, cnt] using H.out, hideP (World.grownBy.refl _ _)⟩
  case round =>
    obtain ⟨k, q, tl, hk, rfl, rfl, hq, hown, hb⟩ := hrel
    have hqb : 0 ≤ q ∧ q ≤ 2000000000000 := by have := hq.out; omega
    by_cases hlt : k < n
    · obtain ⟨g, rfl, hbg⟩ := owns_block hown.out (by omega)
      obtain ⟨⟨u0, c0⟩, f0⟩ := owns_at hown.out (j := k) (by omega)
      go_wp2
      go_roundw
      case rel => exact ⟨k + 1, q + 1, tl.drop 1, by omega, by go_num, rfl, hideP (by have := hq.out; omega), hideP (owns_cnt1 (pre := cnt q0 (k)) (pre' := cnt q0 (k + 1)) [.int .i64 (q)] rfl hown.out hlt ⟨cnt_length _ _, by rw [cnt_succ, ← hq.out]⟩), hideP (grown_setCells [.int .i64 (q)] (k) hb.out)⟩
      case measure => simp [intOf]; omega
    · go_wp2
      go_ret
      have hkn : k = n := by omega
      subst hkn
      exact ⟨ret_int hq.out, owns_cnt_full1 hown.out, hb.out⟩


end Go.Proofs.Ytpiaahkfnefplaa
