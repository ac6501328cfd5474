/- eqEntryS. -/
import Derived.Test.YtamfgkicmikmbaaDoorJournalI
import Derived.Test.YtamfgkicmikmbaaDoorEntryEq
namespace Go.Proofs.YtamfgkicmikmbaaDoor
open Go.RowKit

theorem Rd.rowEntry {w : World} {a : Option Addr} {l : List Entry} (h : Rd w a (l.flatMap Entry.enc)) {k : Nat} {x : Entry} (hx : l[k]? = some x) :
    ∃ b o, a = some ⟨b, o, none⟩ ∧ b < w.heap.size ∧ w.cell? ⟨b, o + k * 9, none⟩ = some (.int .i64 x.k) ∧ w.cell? ⟨b, o + k * 9 + 1, none⟩ = some (.int .i64 x.p) ∧ w.cell? ⟨b, o + k * 9 + 2, none⟩ = some (.int .i64 x.t) ∧ w.cell? ⟨b, o + k * 9 + 3, none⟩ = some (.int .i64 x.ck) ∧ w.cell? ⟨b, o + k * 9 + 4, none⟩ = some (.int .i64 x.ca) ∧ w.cell? ⟨b, o + k * 9 + 5, none⟩ = some (.int .i64 x.cb) ∧ w.cell? ⟨b, o + k * 9 + 6, none⟩ = some (.int .i64 x.cc) ∧ w.cell? ⟨b, o + k * 9 + 7, none⟩ = some (.int .i64 x.cd) ∧ w.cell? ⟨b, o + k * 9 + 8, none⟩ = some (.int .i64 x.ce) := by
  obtain ⟨b, o, ha, hlt, hc⟩ := h.row Entry.enc_len (by decide) hx
  exact ⟨b, o, ha, hlt, hc 0 _ (by decide) rfl, hc 1 _ (by decide) rfl, hc 2 _ (by decide) rfl, hc 3 _ (by decide) rfl, hc 4 _ (by decide) rfl, hc 5 _ (by decide) rfl, hc 6 _ (by decide) rfl, hc 7 _ (by decide) rfl, hc 8 _ (by decide) rfl⟩
set_option maxRecDepth 100000 in
set_option maxHeartbeats 400000 in
theorem eqEntryS_any (a a' : Option Addr) (n cap cap' : Nat) (l : List Entry) (hn : n = l.length) (hl : n ≤ 1048576) (w : World) (h : Rd w a (l.flatMap Entry.enc)) (h' : Rd w a' (l.flatMap Entry.enc)) :
    Calls Tryd.prog 11 #[.slice a n cap, .slice a' n cap'] w fun e w' => e = .returned (.bool true) ∧ Below w.heap.size w w' := by
  have Hn := Lib.hid hn
  clear hn
  go_enter Tryd.func11, Tryd.ntmps11
  go_wp2
  go_loopw [5] (fun i wr => ∃ k : Nat, k ≤ n ∧ i = .int .i64 k ∧ Below w.heap.size w wr) (fun i _ => n - (intOf i).toNat)
  case atStart => exact ⟨0, Nat.zero_le _, rfl, Below.refl _ _⟩
  case round =>
    obtain ⟨k, hk, rfl, hb⟩ := hrel
    by_cases hlt : k < n
    · obtain ⟨x, hx⟩ := some_at (l := l) (k := k) (by have := Hn.out; omega)
      have hr := h.below hb
      have hr' := h'.below hb
      obtain ⟨b, o, rfl, hbw, g1, g2, g3, g4, g5, g6, g7, g8, g9⟩ := hr.rowEntry hx
      obtain ⟨b', o', rfl, hbw', g1', g2', g3', g4', g5', g6', g7', g8', g9'⟩ := hr'.rowEntry hx
      have Hx := Lib.hid hx
      clear hx hr h hr' h'
      go_wp2
      go_still_tail 8, (by kernel_rfl)
      go_wp2_with (go_at_call 8; refine (eqEntry_any x _).mono ?_; rintro e w2 ⟨rfl, hb2⟩)
      go_roundw
      case rel => exact ⟨k + 1, by omega, by go_num, hb.drew.trans (hb2.mono hb.size)⟩
      case measure => simp [intOf]; omega
    · go_wp2
      go_ret
      exact ⟨rfl, hb⟩

end Go.Proofs.YtamfgkicmikmbaaDoor
