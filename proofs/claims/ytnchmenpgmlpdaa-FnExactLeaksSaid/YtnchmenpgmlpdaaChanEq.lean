import Derived.Test.YtnchmenpgmlpdaaChan0
namespace Go.Proofs.Ytnchmenpgmlpdaa
open Go.RowKit

set_option maxHeartbeats 400000 in
theorem eqChan_any (x : Chan) (w : World) :
    Calls Try.prog 74 #[.agg #[.int .i64 x.f, .int .i64 x.t], .agg #[.int .i64 x.f, .int .i64 x.t]] w fun e w' => e = .returned (.bool true) ∧ Below w.heap.size w w' := by
  go_enter Try.func74, Try.ntmps74
  go_wp2
  go_ret
  exact ⟨rfl, ((Below.refl _ _).alloc (Nat.le_refl _) _).alloc (by simp) _⟩

set_option maxRecDepth 100000 in
set_option maxHeartbeats 400000 in
theorem eqChanS_any (a a' : Option Addr) (n cap cap' : Nat) (l : List Chan) (hn : n = l.length) (hl : n ≤ 1048576) (w : World) (h : Rd w a (l.flatMap Chan.enc)) (h' : Rd w a' (l.flatMap Chan.enc)) :
    Calls Try.prog 17 #[.slice a n cap, .slice a' n cap'] w fun e w' => e = .returned (.bool true) ∧ Below w.heap.size w w' := by
  have Hn := Lib.hid hn
  clear hn
  go_enter Try.func17, Try.ntmps17
  go_wp2
  go_loopw [5] (fun i wr => ∃ k : Nat, k ≤ n ∧ i = .int .i64 k ∧ Below w.heap.size w wr) (fun i _ => n - (intOf i).toNat)
  case atStart => exact ⟨0, Nat.zero_le _, rfl, Below.refl _ _⟩
  case round =>
    obtain ⟨k, hk, rfl, hb⟩ := hrel
    by_cases hlt : k < n
    · obtain ⟨x, hx⟩ := some_at (l := l) (k := k) (by have := Hn.out; omega)
      have hr := h.below hb
      have hr' := h'.below hb
      obtain ⟨b, o, rfl, hbw, g1, g2⟩ := hr.rowChan hx
      obtain ⟨b', o', rfl, hbw', g1', g2'⟩ := hr'.rowChan hx
      have Hx := Lib.hid hx
      clear hx hr h hr' h'
      go_wp2
      go_still_tail 8, (by kernel_rfl)
      go_wp2_with (go_at_call 74; refine (eqChan_any x _).mono ?_; rintro e w2 ⟨rfl, hb2⟩)
      go_roundw
      case rel => exact ⟨k + 1, by omega, by go_num, hb.drew.trans (hb2.mono hb.size)⟩
      case measure => simp [intOf]; omega
    · go_wp2
      go_ret
      exact ⟨rfl, hb⟩

end Go.Proofs.Ytnchmenpgmlpdaa
