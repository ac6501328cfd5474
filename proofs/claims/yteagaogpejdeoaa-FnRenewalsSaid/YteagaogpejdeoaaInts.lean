/- []int: eqIntS, markIntS, heldIntS. -/
import Derived.Test.YteagaogpejdeoaaSmall
import Derived.Test.YteagaogpejdeoaaCnt
namespace Go.Proofs.Yteagaogpejdeoaa
open Go.RowKit

theorem Rd.rowInt {w : World} {a : Option Addr} {l : List Int} (h : Rd w a (l.map (Value.int .i64))) {k : Nat} {x : Int} (hx : l[k]? = some x) :
    ∃ b o, a = some ⟨b, o, none⟩ ∧ b < w.heap.size ∧ w.cell? ⟨b, o + k, none⟩ = some (.int .i64 x) := by
  rcases h with h | ⟨b, o, ha, hlt, hc⟩
  · simp at h
    subst h
    simp at hx
  · exact ⟨b, o, ha, hlt, hc k _ (by rw [List.getElem?_map, hx]; rfl)⟩

set_option maxRecDepth 100000 in
set_option maxHeartbeats 400000 in
theorem eqIntS_any (a a' : Option Addr) (n cap cap' : Nat) (l : List Int) (hn : n = l.length) (hl : n ≤ 1048576) (w : World) (h : Rd w a (l.map (Value.int .i64))) (h' : Rd w a' (l.map (Value.int .i64))) :
    Calls Try.prog 22 #[.slice a n cap, .slice a' n cap'] w fun e w' => e = .returned (.bool true) ∧ Below w.heap.size w w' := by
  have Hn := Lib.hid hn
  clear hn
  go_enter Try.func22, Try.ntmps22
  go_wp2
  go_loopw [5] (fun i wr => ∃ k : Nat, k ≤ n ∧ i = .int .i64 k ∧ Below w.heap.size w wr) (fun i _ => n - (intOf i).toNat)
  case atStart => exact ⟨0, Nat.zero_le _, rfl, Below.refl _ _⟩
  case round =>
    obtain ⟨k, hk, rfl, hb⟩ := hrel
    by_cases hlt : k < n
    · obtain ⟨x, hx⟩ := some_at (l := l) (k := k) (by have := Hn.out; omega)
      have hr := h.below hb
      have hr' := h'.below hb
      obtain ⟨b, o, rfl, hbw, g1⟩ := hr.rowInt hx
      obtain ⟨b', o', rfl, hbw', g1'⟩ := hr'.rowInt hx
      have Hx := Lib.hid hx
      clear hx hr h hr' h'
      go_wp2
      go_quiet (fail)
      go_wp2
      go_roundw
      case rel => exact ⟨k + 1, by omega, by go_num, below_drewN hb _⟩
      case measure => simp [intOf]; omega
    · go_wp2
      go_ret
      exact ⟨rfl, hb⟩

end Go.Proofs.Yteagaogpejdeoaa
