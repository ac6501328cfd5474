/- markTapS. -/
import Derived.Test.YtpiaahkfnefplaaSmall
import Derived.Test.YtpiaahkfnefplaaCnt
namespace Go.Proofs.Ytpiaahkfnefplaa
open Go.RowKit

theorem cnt_addT (q : Int) (m b : Nat) : cnt q (m + b) = cnt q m ++ (List.range b).map fun j => Value.int .i64 (q + ((m + j : Nat) : Int)) := by
  simp [cnt, List.range_add, Function.comp_def]
theorem cnt_succ6 (q : Int) (k : Nat) : cnt q ((k + 1) * 6) = cnt q (k * 6) ++ [.int .i64 (q + ((k * 6 : Nat) : Int)), .int .i64 (q + ((k * 6 : Nat) : Int) + 1), .int .i64 (q + ((k * 6 : Nat) : Int) + 2), .int .i64 (q + ((k * 6 : Nat) : Int) + 3), .int .i64 (q + ((k * 6 : Nat) : Int) + 4), .int .i64 (q + ((k * 6 : Nat) : Int) + 5)] := by
  rw [show (k + 1) * 6 = k * 6 + 6 by omega, cnt_addT]
  congr 1
  have e : ∀ j : Nat, q + ((k * 6 + j : Nat) : Int) = q + ((k * 6 : Nat) : Int) + (j : Int) := fun j => by push_cast; omega
  simp only [e, show List.range 6 = [0, 1, 2, 3, 4, 5] from rfl, List.map_cons, List.map_nil]
  simp

set_option maxRecDepth 100000 in
set_option maxHeartbeats 4000000 in
theorem markTapS_any (v : Value) (n base : Nat) (xs : List Value) (q0 : Int) (hq0 : 0 ≤ q0 ∧ q0 ≤ 1000000000000) (hl : n ≤ 1048576) (w : World) (h : w.ownsRow base 101 6 v n xs) :
    Calls Try.prog 33 #[v, .int .i64 q0] w fun e w' => e = .returned (.int .i64 (q0 + ((n * 6 : Nat) : Int))) ∧ w'.ownsRow base 101 6 v n (cnt q0 (n * 6)) ∧ w.grownBy w' v.ownBlock := by
  obtain ⟨a, cap, rfl, hnc⟩ := owns_slice h
  have H := Lib.hid h
  clear h
  go_enter Try.func33, Try.ntmps33
  go_wp2
  go_loopw [1, 5] (fun c i wr => ∃ k : Nat, ∃ q : Int, ∃ tl : List Value, k ≤ n ∧ i = .int .i64 k ∧ c = .int .i64 q ∧ Hid (q = q0 + ((k * 6 : Nat) : Int)) ∧ Hid (wr.ownsRow base 101 6 (.slice a n cap) n (cnt q0 (k * 6) ++ tl)) ∧ Hid (w.grownBy wr (Value.slice a n cap).ownBlock)) (fun _ i _ => n - (intOf i).toNat)
  case atStart => exact ⟨0, q0, xs, Nat.zero_le _, rfl, rfl, hideP (by simp), by simpa [Hid, cnt] using H.out, hideP (World.grownBy.refl _ _)⟩
  case round =>
    obtain ⟨k, q, tl, hk, rfl, rfl, hq, hown, hb⟩ := hrel
    have hqb : 0 ≤ q ∧ q ≤ 2000000000000 := by have := hq.out; omega
    by_cases hlt : k < n
    · obtain ⟨g, rfl, hbg⟩ := owns_block hown.out (by omega)
      obtain ⟨⟨u0, c0⟩, f0⟩ := owns_at hown.out (j := k * 6) (by omega)
      obtain ⟨⟨u1, c1⟩, f1⟩ := owns_at hown.out (j := k * 6 + 1) (by omega)
      obtain ⟨⟨u2, c2⟩, f2⟩ := owns_at hown.out (j := k * 6 + 2) (by omega)
      obtain ⟨⟨u3, c3⟩, f3⟩ := owns_at hown.out (j := k * 6 + 3) (by omega)
      obtain ⟨⟨u4, c4⟩, f4⟩ := owns_at hown.out (j := k * 6 + 4) (by omega)
      obtain ⟨⟨u5, c5⟩, f5⟩ := owns_at hown.out (j := k * 6 + 5) (by omega)
      go_wp2
      go_roundw
      case rel => exact ⟨k + 1, q + 1 + 1 + 1 + 1 + 1 + 1, tl.drop 6, by omega, by go_num, rfl, hideP (by have := hq.out; omega), hideP (owns_cnt 6 (pre := cnt q0 (k * 6)) (pre' := cnt q0 ((k + 1) * 6)) [.int .i64 (q), .int .i64 (q + 1), .int .i64 (q + 1 + 1), .int .i64 (q + 1 + 1 + 1), .int .i64 (q + 1 + 1 + 1 + 1), .int .i64 (q + 1 + 1 + 1 + 1 + 1)] rfl hown.out hlt ⟨cnt_length _ _, by rw [cnt_succ6, ← hq.out, show q + 1 + 1 + 1 + 1 + 1 = q + 5 from by omega, show q + 1 + 1 + 1 + 1 = q + 4 from by omega, show q + 1 + 1 + 1 = q + 3 from by omega, show q + 1 + 1 = q + 2 from by omega]⟩), hideP (grown_setCells [.int .i64 (q), .int .i64 (q + 1), .int .i64 (q + 1 + 1), .int .i64 (q + 1 + 1 + 1), .int .i64 (q + 1 + 1 + 1 + 1), .int .i64 (q + 1 + 1 + 1 + 1 + 1)] (k * 6) hb.out)⟩
      case measure => simp [intOf]; omega
    · go_wp2
      go_ret
      have hkn : k = n := by omega
      subst hkn
      exact ⟨ret_int hq.out, owns_cnt_full hown.out, hb.out⟩


end Go.Proofs.Ytpiaahkfnefplaa
