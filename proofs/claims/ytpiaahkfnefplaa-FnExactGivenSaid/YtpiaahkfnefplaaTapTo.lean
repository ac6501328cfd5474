/- Tap: the laws' helpers toTap, toTapS, szTapS, eqTap, eqTapS; the data. -/
import Derived.Test.YtpiaahkfnefplaaSmall
namespace Go.Proofs.Ytpiaahkfnefplaa
open Go.RowKit

structure Tap where
  r : Int
  tp : Int
  tr : Int
  wh : Int
  kd : Int
  rt : Int
def Tap.enc (x : Tap) : List Value := [.int .i64 x.r, .int .i64 x.tp, .int .i64 x.tr, .int .i64 x.wh, .int .i64 x.kd, .int .i64 x.rt]
theorem Tap.enc_len (x : Tap) : x.enc.length = 6 := rfl
instance : Inhabited Tap := ⟨⟨0, 0, 0, 0, 0, 0⟩⟩

theorem Rd.rowTap {w : World} {a : Option Addr} {l : List Tap} (h : Rd w a (l.flatMap Tap.enc)) {k : Nat} {x : Tap} (hx : l[k]? = some x) :
    ∃ b o, a = some ⟨b, o, none⟩ ∧ b < w.heap.size ∧ w.cell? ⟨b, o + k * 6, none⟩ = some (.int .i64 x.r) ∧ w.cell? ⟨b, o + k * 6 + 1, none⟩ = some (.int .i64 x.tp) ∧ w.cell? ⟨b, o + k * 6 + 2, none⟩ = some (.int .i64 x.tr) ∧ w.cell? ⟨b, o + k * 6 + 3, none⟩ = some (.int .i64 x.wh) ∧ w.cell? ⟨b, o + k * 6 + 4, none⟩ = some (.int .i64 x.kd) ∧ w.cell? ⟨b, o + k * 6 + 5, none⟩ = some (.int .i64 x.rt) := by
  obtain ⟨b, o, ha, hlt, hc⟩ := h.row Tap.enc_len (by decide) hx
  exact ⟨b, o, ha, hlt, hc 0 _ (by decide) rfl, hc 1 _ (by decide) rfl, hc 2 _ (by decide) rfl, hc 3 _ (by decide) rfl, hc 4 _ (by decide) rfl, hc 5 _ (by decide) rfl⟩

theorem Try.infoTap : (Try.prog.info? 101).map (fun i => (i.zero, i.size, i.bytes)) = some (some (.agg #[.int .i64 0, .int .i64 0, .int .i64 0, .int .i64 0, .int .i64 0, .int .i64 0]), 6, 48) := by kernel_rfl

set_option maxHeartbeats 400000 in
theorem toTap_any (x : Tap) (w : World) :
    Calls Try.prog 61 #[.agg #[.int .i64 x.r, .int .i64 x.tp, .int .i64 x.tr, .int .i64 x.wh, .int .i64 x.kd, .int .i64 x.rt]] w fun e w' => e = .returned (.agg #[.int .i64 x.r, .int .i64 x.tp, .int .i64 x.tr, .int .i64 x.wh, .int .i64 x.kd, .int .i64 x.rt]) ∧ Below w.heap.size w w' := by
  go_enter Try.func61, Try.ntmps61
  go_wp2
  refine bodyPost_ret (v := .agg #[.int .i64 x.r, .int .i64 x.tp, .int .i64 x.tr, .int .i64 x.wh, .int .i64 x.kd, .int .i64 x.rt]) (by simp [results, Try.results61, go_sem]) rfl ⟨rfl, ?_⟩
  exact (((Below.refl _ _).alloc (Nat.le_refl _) _).alloc (by simp) _).alloc (by simp; omega) _

set_option maxHeartbeats 400000 in
theorem toTapS_any (a : Option Addr) (n cap : Nat) (l : List Tap) (hn : n = l.length) (hl : n ≤ 1048576) (w : World) (h : Rd w a (l.flatMap Tap.enc)) :
    Calls Try.prog 43 #[.slice a n cap] w fun e w' => ∃ v, e = .returned v ∧ w'.ownsRow w.heap.size 101 6 v n (l.flatMap Tap.enc) ∧ Below w.heap.size w w' := by
  have Hn := Lib.hid hn
  clear hn
  obtain ⟨i0, hi, hz0, hz1, hz2⟩ := info_parts Try.infoTap
  go_enter Try.func43, Try.ntmps43
  go_wp2_with (at_make; refine wpList_make_full _ rfl _ _ 48 rfl w.heap.size 101 i0 (.agg #[.int .i64 0, .int .i64 0, .int .i64 0, .int .i64 0, .int .i64 0, .int .i64 0]) 6 Try.underlying48 hi hz0 hz1 .i64 .i64 _ _ n rfl rfl rfl rfl ?c1 ?c2 (Nat.le_refl _) ?_)
  case c1 => rw [hz2]; omega
  case c2 => unfold maxLen; omega
  intro w1 hown hg
  have hb1 := (Below.refl w.heap.size w).grown hg (Nat.le_refl _) (by simp)
  have hsz : w.heap.size < w1.heap.size := (hown.lt w.heap.size rfl).2
  have Hg := Lib.hid hg
  have Hown := Lib.hid hown
  clear hg hown
  go_wp2
  go_loopw [4] (fun i wr => ∃ k : Nat, ∃ tl : List Value, k ≤ n ∧ i = .int .i64 k ∧ Hid (wr.ownsRow w.heap.size 101 6 (.slice (some ⟨w.heap.size, 0, none⟩) n n) n ((l.take k).flatMap Tap.enc ++ tl)) ∧ Below w.heap.size w wr ∧ w.heap.size < wr.heap.size) (fun i _ => n - (intOf i).toNat)
  case atStart => exact ⟨0, _, Nat.zero_le _, rfl, Hown.out, hb1, hsz⟩
  case round =>
    obtain ⟨k, tl, hk, rfl, hown, hb, hsz1⟩ := hrel
    by_cases hlt : k < n
    · obtain ⟨x, hx⟩ := some_at (l := l) (k := k) (by have := Hn.out; omega)
      have hr := h.below hb
      obtain ⟨b, o, rfl, hbw, g1, g2, g3, g4, g5, g6⟩ := hr.rowTap hx
      have Hx := Lib.hid hx
      clear hx hr h
      go_wp2_with (go_at_call 61; refine (toTap_any x _).mono ?_; rintro e w2 ⟨rfl, hb2⟩; have hown2 := hideP (owns_below hown.out (Nat.le_refl _) hb2); obtain ⟨⟨u0, c0⟩, f0⟩ := owns_at hown2.out (j := k * 6) (by omega); obtain ⟨⟨u1, c1⟩, f1⟩ := owns_at hown2.out (j := k * 6 + 1) (by omega); obtain ⟨⟨u2, c2⟩, f2⟩ := owns_at hown2.out (j := k * 6 + 2) (by omega); obtain ⟨⟨u3, c3⟩, f3⟩ := owns_at hown2.out (j := k * 6 + 3) (by omega); obtain ⟨⟨u4, c4⟩, f4⟩ := owns_at hown2.out (j := k * 6 + 4) (by omega); obtain ⟨⟨u5, c5⟩, f5⟩ := owns_at hown2.out (j := k * 6 + 5) (by omega))
      go_roundw
      case rel => exact ⟨k + 1, tl.drop 6, by omega, by go_num, owns_put (x := x) Tap.enc_len hown2.out Hx.out hlt, below_setCells (x.enc) (k * 6) (hb.trans (hb2.mono hb.size)) (Nat.le_refl _), by have h2 := hb2.size; simp; omega⟩
      case measure => simp [intOf]; omega
    · go_wp2
      go_ret
      exact ⟨_, rfl, owns_full Tap.enc_len hown.out Hn.out (by omega), hb⟩

set_option maxHeartbeats 400000 in
theorem eqTap_any (x : Tap) (w : World) :
    Calls Try.prog 65 #[.agg #[.int .i64 x.r, .int .i64 x.tp, .int .i64 x.tr, .int .i64 x.wh, .int .i64 x.kd, .int .i64 x.rt], .agg #[.int .i64 x.r, .int .i64 x.tp, .int .i64 x.tr, .int .i64 x.wh, .int .i64 x.kd, .int .i64 x.rt]] w fun e w' => e = .returned (.bool true) ∧ Below w.heap.size w w' := by
  go_enter Try.func65, Try.ntmps65
  go_wp2
  go_ret
  exact ⟨rfl, ((Below.refl _ _).alloc (Nat.le_refl _) _).alloc (by simp) _⟩

set_option maxRecDepth 100000 in
set_option maxHeartbeats 400000 in
theorem eqTapS_any (a a' : Option Addr) (n cap cap' : Nat) (l : List Tap) (hn : n = l.length) (hl : n ≤ 1048576) (w : World) (h : Rd w a (l.flatMap Tap.enc)) (h' : Rd w a' (l.flatMap Tap.enc)) :
    Calls Try.prog 48 #[.slice a n cap, .slice a' n cap'] w fun e w' => e = .returned (.bool true) ∧ Below w.heap.size w w' := by
  have Hn := Lib.hid hn
  clear hn
  go_enter Try.func48, Try.ntmps48
  go_wp2
  go_loopw [5] (fun i wr => ∃ k : Nat, k ≤ n ∧ i = .int .i64 k ∧ Below w.heap.size w wr) (fun i _ => n - (intOf i).toNat)
  case atStart => exact ⟨0, Nat.zero_le _, rfl, Below.refl _ _⟩
  case round =>
    obtain ⟨k, hk, rfl, hb⟩ := hrel
    by_cases hlt : k < n
    · obtain ⟨x, hx⟩ := some_at (l := l) (k := k) (by have := Hn.out; omega)
      have hr := h.below hb
      have hr' := h'.below hb
      obtain ⟨b, o, rfl, hbw, g1, g2, g3, g4, g5, g6⟩ := hr.rowTap hx
      obtain ⟨b', o', rfl, hbw', g1', g2', g3', g4', g5', g6'⟩ := hr'.rowTap hx
      have Hx := Lib.hid hx
      clear hx hr h hr' h'
      go_wp2
      go_still_tail 8, (by kernel_rfl)
      go_wp2_with (go_at_call 65; refine (eqTap_any x _).mono ?_; rintro e w2 ⟨rfl, hb2⟩)
      go_roundw
      case rel => exact ⟨k + 1, by omega, by go_num, hb.drew.trans (hb2.mono hb.size)⟩
      case measure => simp [intOf]; omega
    · go_wp2
      go_ret
      exact ⟨rfl, hb⟩

end Go.Proofs.Ytpiaahkfnefplaa
