import Derived.Test.YtpiaahkfnefplaaSmall
import Derived.Test.YtpiaahkfnefplaaCnt
namespace Go.Proofs.Ytpiaahkfnefplaa
open Go.RowKit


/-- The cells of element k of what was marked. -/
theorem Rd.markedInt {w : World} {a : Option Addr} {q0 q : Int} {n k : Nat} (h : Rd w a (cnt q0 (n))) (hk : k < n) (hq : q = q0 + ((k : Nat) : Int)) :
    ∃ b o, a = some ⟨b, o, none⟩ ∧ b < w.heap.size ∧ w.cell? ⟨b, o + k, none⟩ = some (.int .i64 (q)) := by
  rcases h with h | ⟨b, o, ha, hlt, hc⟩
  · have hl := cnt_length q0 (n)
    rw [h, List.length_nil] at hl
    omega
  · subst hq
    refine ⟨b, o, ha, hlt, ?_⟩
    · refine (hc (k) _ (cnt_get q0 (n) _ (by omega))).trans ?_
      first | rfl | (congr 2; omega)

set_option maxHeartbeats 400000 in
theorem heldIntS_any (a : Option Addr) (n cap : Nat) (q0 : Int) (hq0 : 0 ≤ q0 ∧ q0 ≤ 1000000000000) (hl : n ≤ 1048576) (w : World) (h : Rd w a (cnt q0 (n))) :
    Calls Try.prog 15 #[.slice a n cap, .int .i64 q0] w fun e w' => e = .returned (.int .i64 (q0 + ((n : Nat) : Int))) ∧ w = w' := by
  have H := Lib.hid h
  clear h
  go_enter Try.func15, Try.ntmps15
  go_wp2
  go_loop [1, 5] (fun c i => ∃ k : Nat, ∃ q : Int, k ≤ n ∧ i = .int .i64 k ∧ c = .int .i64 q ∧ Hid (q = q0 + ((k : Nat) : Int))) (fun _ i => n - (intOf i).toNat)
  case atStart => exact ⟨0, q0, Nat.zero_le _, rfl, rfl, hideP (by simp)⟩
  case round =>
    obtain ⟨k, q, hk, rfl, rfl, hq⟩ := hrel
    have hqb : 0 ≤ q ∧ q ≤ 2000000000000 := by have := hq.out; omega
    by_cases hlt : k < n
    · obtain ⟨b, o, rfl, hbw, g1⟩ := H.out.markedInt hlt hq.out
      go_wp2
      go_round
      case rel => exact ⟨k + 1, q + 1, by omega, by go_num, rfl, hideP (by have := hq.out; omega)⟩
      case measure => simp [intOf]; omega
    · go_wp2
      go_ret
      have hkn : k = n := by omega
      subst hkn
      exact ⟨ret_int hq.out, rfl⟩

end Go.Proofs.Ytpiaahkfnefplaa
