/- Node: the laws' helpers toNode, toNodeS, szNodeS, eqNode, eqNodeS; the data. -/
import Derived.Test.YtclananddmjnaaaSmall
namespace Go.Proofs.Ytclananddmjnaaa
open Go.RowKit

structure Node where
  p : Int
  l : Int
  u : Int
def Node.enc (x : Node) : List Value := [.int .i64 x.p, .int .i64 x.l, .int .i64 x.u]
theorem Node.enc_len (x : Node) : x.enc.length = 3 := rfl
instance : Inhabited Node := ⟨⟨0, 0, 0⟩⟩

theorem Rd.rowNode {w : World} {a : Option Addr} {l : List Node} (h : Rd w a (l.flatMap Node.enc)) {k : Nat} {x : Node} (hx : l[k]? = some x) :
    ∃ b o, a = some ⟨b, o, none⟩ ∧ b < w.heap.size ∧ w.cell? ⟨b, o + k * 3, none⟩ = some (.int .i64 x.p) ∧ w.cell? ⟨b, o + k * 3 + 1, none⟩ = some (.int .i64 x.l) ∧ w.cell? ⟨b, o + k * 3 + 2, none⟩ = some (.int .i64 x.u) := by
  obtain ⟨b, o, ha, hlt, hc⟩ := h.row Node.enc_len (by decide) hx
  exact ⟨b, o, ha, hlt, hc 0 _ (by decide) rfl, hc 1 _ (by decide) rfl, hc 2 _ (by decide) rfl⟩

theorem Try.infoNode : (Try.prog.info? 69).map (fun i => (i.zero, i.size, i.bytes)) = some (some (.agg #[.int .i64 0, .int .i64 0, .int .i64 0]), 3, 24) := by kernel_rfl

set_option maxHeartbeats 400000 in
theorem toNode_any (x : Node) (w : World) :
    Calls Try.prog 67 #[.agg #[.int .i64 x.p, .int .i64 x.l, .int .i64 x.u]] w fun e w' => e = .returned (.agg #[.int .i64 x.p, .int .i64 x.l, .int .i64 x.u]) ∧ Below w.heap.size w w' := by
  go_enter Try.func67, Try.ntmps67
  go_wp2
  refine bodyPost_ret (v := .agg #[.int .i64 x.p, .int .i64 x.l, .int .i64 x.u]) (by simp [results, Try.results67, go_sem]) rfl ⟨rfl, ?_⟩
  exact (((Below.refl _ _).alloc (Nat.le_refl _) _).alloc (by simp) _).alloc (by simp; omega) _

set_option maxHeartbeats 400000 in
theorem toNodeS_any (a : Option Addr) (n cap : Nat) (l : List Node) (hn : n = l.length) (hl : n ≤ 1048576) (w : World) (h : Rd w a (l.flatMap Node.enc)) :
    Calls Try.prog 17 #[.slice a n cap] w fun e w' => ∃ v, e = .returned v ∧ w'.ownsRow w.heap.size 69 3 v n (l.flatMap Node.enc) ∧ Below w.heap.size w w' := by
  have Hn := Lib.hid hn
  clear hn
  obtain ⟨i0, hi, hz0, hz1, hz2⟩ := info_parts Try.infoNode
  go_enter Try.func17, Try.ntmps17
  go_wp2_with (at_make; refine wpList_make_full _ rfl _ _ 25 rfl w.heap.size 69 i0 (.agg #[.int .i64 0, .int .i64 0, .int .i64 0]) 3 Try.underlying25 hi hz0 hz1 .i64 .i64 _ _ n rfl rfl rfl rfl ?c1 ?c2 (Nat.le_refl _) ?_)
  case c1 => rw [hz2]; omega
  case c2 => unfold maxLen; omega
  intro w1 hown hg
  have hb1 := (Below.refl w.heap.size w).grown hg (Nat.le_refl _) (by simp)
  have hsz : w.heap.size < w1.heap.size := (hown.lt w.heap.size rfl).2
  have Hg := Lib.hid hg
  have Hown := Lib.hid hown
  clear hg hown
  go_wp2
  go_loopw [4] (fun i wr => ∃ k : Nat, ∃ tl : List Value, k ≤ n ∧ i = .int .i64 k ∧ Hid (wr.ownsRow w.heap.size 69 3 (.slice (some ⟨w.heap.size, 0, none⟩) n n) n ((l.take k).flatMap Node.enc ++ tl)) ∧ Below w.heap.size w wr ∧ w.heap.size < wr.heap.size) (fun i _ => n - (intOf i).toNat)
  case atStart => exact ⟨0, _, Nat.zero_le _, rfl, Hown.out, hb1, hsz⟩
  case round =>
    obtain ⟨k, tl, hk, rfl, hown, hb, hsz1⟩ := hrel
    by_cases hlt : k < n
    · obtain ⟨x, hx⟩ := some_at (l := l) (k := k) (by have := Hn.out; omega)
      have hr := h.below hb
      obtain ⟨b, o, rfl, hbw, g1, g2, g3⟩ := hr.rowNode hx
      have Hx := Lib.hid hx
      clear hx hr h
      go_wp2_with (go_at_call 67; refine (toNode_any x _).mono ?_; rintro e w2 ⟨rfl, hb2⟩; have hown2 := hideP (owns_below hown.out (Nat.le_refl _) hb2); obtain ⟨⟨u0, c0⟩, f0⟩ := owns_at hown2.out (j := k * 3) (by omega); obtain ⟨⟨u1, c1⟩, f1⟩ := owns_at hown2.out (j := k * 3 + 1) (by omega); obtain ⟨⟨u2, c2⟩, f2⟩ := owns_at hown2.out (j := k * 3 + 2) (by omega))
      go_roundw
      case rel => exact ⟨k + 1, tl.drop 3, by omega, by go_num, owns_put (x := x) Node.enc_len hown2.out Hx.out hlt, below_setCells (x.enc) (k * 3) (hb.trans (hb2.mono hb.size)) (Nat.le_refl _), by have h2 := hb2.size; simp; omega⟩
      case measure => simp [intOf]; omega
    · go_wp2
      go_ret
      exact ⟨_, rfl, owns_full Node.enc_len hown.out Hn.out (by omega), hb⟩

set_option maxHeartbeats 400000 in
theorem szNodeS_any (a : Option Addr) (n cap : Nat) (hn : n ≤ maxLen) (w : World) :
    Calls Try.prog 15 #[.slice a n cap, .int .i64 1048576] w fun e w' => e = .returned (.int .i64 (if n ≤ 1048576 then 1048576 - (n : Int) else -1)) ∧ w = w' := by
  unfold maxLen at hn
  by_cases h : n ≤ 1048576
  · go_enter Try.func15, Try.ntmps15
    go_wp2
    go_ret
    exact ⟨ret_int (by simp), rfl⟩
  · go_enter Try.func15, Try.ntmps15
    go_wp2
    go_ret
    exact ⟨ret_int (by simp), rfl⟩

set_option maxHeartbeats 400000 in
theorem eqNode_any (x : Node) (w : World) :
    Calls Try.prog 69 #[.agg #[.int .i64 x.p, .int .i64 x.l, .int .i64 x.u], .agg #[.int .i64 x.p, .int .i64 x.l, .int .i64 x.u]] w fun e w' => e = .returned (.bool true) ∧ Below w.heap.size w w' := by
  go_enter Try.func69, Try.ntmps69
  go_wp2
  go_ret
  exact ⟨rfl, ((Below.refl _ _).alloc (Nat.le_refl _) _).alloc (by simp) _⟩

set_option maxRecDepth 100000 in
set_option maxHeartbeats 400000 in
theorem eqNodeS_any (a a' : Option Addr) (n cap cap' : Nat) (l : List Node) (hn : n = l.length) (hl : n ≤ 1048576) (w : World) (h : Rd w a (l.flatMap Node.enc)) (h' : Rd w a' (l.flatMap Node.enc)) :
    Calls Try.prog 19 #[.slice a n cap, .slice a' n cap'] w fun e w' => e = .returned (.bool true) ∧ Below w.heap.size w w' := by
  have Hn := Lib.hid hn
  clear hn
  go_enter Try.func19, Try.ntmps19
  go_wp2
  go_loopw [5] (fun i wr => ∃ k : Nat, k ≤ n ∧ i = .int .i64 k ∧ Below w.heap.size w wr) (fun i _ => n - (intOf i).toNat)
  case atStart => exact ⟨0, Nat.zero_le _, rfl, Below.refl _ _⟩
  case round =>
    obtain ⟨k, hk, rfl, hb⟩ := hrel
    by_cases hlt : k < n
    · obtain ⟨x, hx⟩ := some_at (l := l) (k := k) (by have := Hn.out; omega)
      have hr := h.below hb
      have hr' := h'.below hb
      obtain ⟨b, o, rfl, hbw, g1, g2, g3⟩ := hr.rowNode hx
      obtain ⟨b', o', rfl, hbw', g1', g2', g3'⟩ := hr'.rowNode hx
      have Hx := Lib.hid hx
      clear hx hr h hr' h'
      go_wp2
      go_still_tail 8, (by kernel_rfl)
      go_wp2_with (go_at_call 69; refine (eqNode_any x _).mono ?_; rintro e w2 ⟨rfl, hb2⟩)
      go_roundw
      case rel => exact ⟨k + 1, by omega, by go_num, hb.drew.trans (hb2.mono hb.size)⟩
      case measure => simp [intOf]; omega
    · go_wp2
      go_ret
      exact ⟨rfl, hb⟩

end Go.Proofs.Ytclananddmjnaaa
