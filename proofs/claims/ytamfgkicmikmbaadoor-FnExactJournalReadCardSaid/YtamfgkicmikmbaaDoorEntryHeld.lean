/- heldEntryS. -/
import Derived.Test.YtamfgkicmikmbaaDoorSmall
import Derived.Test.YtamfgkicmikmbaaDoorCnt
namespace Go.Proofs.YtamfgkicmikmbaaDoor
open Go.RowKit


/-- The cells of element k of what was marked. -/
theorem Rd.markedEntry {w : World} {a : Option Addr} {q0 q : Int} {n k : Nat} (h : Rd w a (cnt q0 (n * 9))) (hk : k < n) (hq : q = q0 + ((k * 9 : Nat) : Int)) :
    ∃ b o, a = some ⟨b, o, none⟩ ∧ b < w.heap.size ∧ w.cell? ⟨b, o + k * 9, none⟩ = some (.int .i64 (q)) ∧ w.cell? ⟨b, o + k * 9 + 1, none⟩ = some (.int .i64 (q + 1)) ∧ w.cell? ⟨b, o + k * 9 + 2, none⟩ = some (.int .i64 (q + 2)) ∧ w.cell? ⟨b, o + k * 9 + 3, none⟩ = some (.int .i64 (q + 3)) ∧ w.cell? ⟨b, o + k * 9 + 4, none⟩ = some (.int .i64 (q + 4)) ∧ w.cell? ⟨b, o + k * 9 + 5, none⟩ = some (.int .i64 (q + 5)) ∧ w.cell? ⟨b, o + k * 9 + 6, none⟩ = some (.int .i64 (q + 6)) ∧ w.cell? ⟨b, o + k * 9 + 7, none⟩ = some (.int .i64 (q + 7)) ∧ w.cell? ⟨b, o + k * 9 + 8, none⟩ = some (.int .i64 (q + 8)) := by
  rcases h with h | ⟨b, o, ha, hlt, hc⟩
  · have hl := cnt_length q0 (n * 9)
    rw [h, List.length_nil] at hl
    omega
  · subst hq
    refine ⟨b, o, ha, hlt, ?_, ?_, ?_, ?_, ?_, ?_, ?_, ?_, ?_⟩
    · refine (hc (k * 9) _ (cnt_get q0 (n * 9) _ (by omega))).trans ?_
      first | rfl | (congr 2; omega)
    · refine (hc (k * 9 + 1) _ (cnt_get q0 (n * 9) _ (by omega))).trans ?_
      first | rfl | (congr 2; omega)
    · refine (hc (k * 9 + 2) _ (cnt_get q0 (n * 9) _ (by omega))).trans ?_
      first | rfl | (congr 2; omega)
    · refine (hc (k * 9 + 3) _ (cnt_get q0 (n * 9) _ (by omega))).trans ?_
      first | rfl | (congr 2; omega)
    · refine (hc (k * 9 + 4) _ (cnt_get q0 (n * 9) _ (by omega))).trans ?_
      first | rfl | (congr 2; omega)
    · refine (hc (k * 9 + 5) _ (cnt_get q0 (n * 9) _ (by omega))).trans ?_
      first | rfl | (congr 2; omega)
    · refine (hc (k * 9 + 6) _ (cnt_get q0 (n * 9) _ (by omega))).trans ?_
      first | rfl | (congr 2; omega)
    · refine (hc (k * 9 + 7) _ (cnt_get q0 (n * 9) _ (by omega))).trans ?_
      first | rfl | (congr 2; omega)
    · refine (hc (k * 9 + 8) _ (cnt_get q0 (n * 9) _ (by omega))).trans ?_
      first | rfl | (congr 2; omega)

set_option maxRecDepth 100000 in
set_option maxHeartbeats 4000000 in
theorem heldEntryS_any (a : Option Addr) (n cap : Nat) (q0 : Int) (hq0 : 0 ≤ q0 ∧ q0 ≤ 1000000000000) (hl : n ≤ 1048576) (w : World) (h : Rd w a (cnt q0 (n * 9))) :
    Calls Tryd.prog 13 #[.slice a n cap, .int .i64 q0] w fun e w' => e = .returned (.int .i64 (q0 + ((n * 9 : Nat) : Int))) ∧ w = w' := by
  have H := Lib.hid h
  clear h
  go_enter Tryd.func13, Tryd.ntmps13
  go_wp2
  go_loop [1, 5] (fun c i => ∃ k : Nat, ∃ q : Int, k ≤ n ∧ i = .int .i64 k ∧ c = .int .i64 q ∧ Hid (q = q0 + ((k * 9 : Nat) : Int))) (fun _ i => n - (intOf i).toNat)
  case atStart => exact ⟨0, q0, Nat.zero_le _, rfl, rfl, hideP (by simp)⟩
  case round =>
    obtain ⟨k, q, hk, rfl, rfl, hq⟩ := hrel
    have hqb : 0 ≤ q ∧ q ≤ 2000000000000 := by have := hq.out; omega
    by_cases hlt : k < n
    · obtain ⟨b, o, rfl, hbw, g1, g2, g3, g4, g5, g6, g7, g8, g9⟩ := H.out.markedEntry hlt hq.out
      go_wp2
      go_round
      case rel => exact ⟨k + 1, q + 1 + 1 + 1 + 1 + 1 + 1 + 1 + 1 + 1, by omega, by go_num, rfl, hideP (by have := hq.out; omega)⟩
      case measure => simp [intOf]; omega
    · go_wp2
      go_ret
      have hkn : k = n := by omega
      subst hkn
      exact ⟨ret_int hq.out, rfl⟩

end Go.Proofs.YtamfgkicmikmbaaDoor
