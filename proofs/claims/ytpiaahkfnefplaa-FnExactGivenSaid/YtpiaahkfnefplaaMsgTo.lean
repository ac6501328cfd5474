/- Messages and ints: the laws' helpers. -/
import Derived.Test.YtpiaahkfnefplaaObjPure
import Derived.Test.YtpiaahkfnefplaaSmall
namespace Go.Proofs.Ytpiaahkfnefplaa
open Go.RowKit


/-- What is left of `left` behind n more. -/
def szLeft (left : Int) (n : Nat) : Int := if left < (n : Int) then -1 else left - (n : Int)
theorem szLeft_no {left : Int} {n : Nat} (h : left < (n : Int)) : szLeft left n = -1 := if_pos h
theorem szLeft_yes {left : Int} {n : Nat} (h : ¬ left < (n : Int)) : szLeft left n = left - (n : Int) := if_neg h

theorem szIntS_any (a : Option Addr) (n cap : Nat) (hn : n ≤ maxLen) (left : Int) (h0 : 0 ≤ left ∧ left ≤ 1048576) (w : World) :
    Calls Try.prog 35 #[.slice a n cap, .int .i64 left] w fun e w' => e = .returned (.int .i64 (szLeft left n)) ∧ w = w' := by
  unfold maxLen at hn
  by_cases h : left < (n : Int)
  · have HS := hideP (szLeft_no h)
    go_enter Try.func35, Try.ntmps35
    go_wp2
    go_ret
    exact ⟨ret_int HS.out.symm, rfl⟩
  · have HS := hideP (szLeft_yes h)
    go_enter Try.func35, Try.ntmps35
    go_wp2
    go_ret
    exact ⟨ret_int HS.out.symm, rfl⟩

theorem szMsgS_any (a : Option Addr) (n cap : Nat) (hn : n ≤ maxLen) (left : Int) (h0 : 0 ≤ left ∧ left ≤ 1048576) (w : World) :
    Calls Try.prog 71 #[.slice a n cap, .int .i64 left] w fun e w' => e = .returned (.int .i64 (szLeft left n)) ∧ w = w' := by
  unfold maxLen at hn
  by_cases h : left < (n : Int)
  · have HS := hideP (szLeft_no h)
    go_enter Try.func71, Try.ntmps71
    go_wp2
    go_ret
    exact ⟨ret_int HS.out.symm, rfl⟩
  · have HS := hideP (szLeft_yes h)
    go_enter Try.func71, Try.ntmps71
    go_wp2
    go_ret
    exact ⟨ret_int HS.out.symm, rfl⟩

theorem Try.infoInt : (Try.prog.info? 3).map (fun i => (i.zero, i.size, i.bytes)) = some (some (.int .i64 0), 1, 8) := by kernel_rfl
def ienc (x : Int) : List Value := [.int .i64 x]
theorem ienc_len (x : Int) : (ienc x).length = 1 := rfl
theorem icell_flat (l : List Int) : l.flatMap ienc = icell l := by
  unfold ienc icell
  induction l with
  | nil => rfl
  | cons x l ih => rw [List.flatMap_cons, ih]; rfl
set_option maxHeartbeats 400000 in
theorem toIntS_any (a : Option Addr) (n cap : Nat) (l : List Int) (hn : n = l.length) (hl : n ≤ 1048576) (w : World) (h : Rd w a (icell l)) :
    Calls Try.prog 40 #[.slice a n cap] w fun e w' => ∃ v, e = .returned v ∧ w'.ownsRow w.heap.size 3 1 v n (icell l) ∧ Below w.heap.size w w' := by
  have Hn := Lib.hid hn
  clear hn
  obtain ⟨i0, hi, hz0, hz1, hz2⟩ := info_parts Try.infoInt
  go_enter Try.func40, Try.ntmps40
  go_wp2_with (at_make; refine wpList_make_full _ rfl _ _ 33 rfl w.heap.size 3 i0 (.int .i64 0) 1 Try.underlying33 hi hz0 hz1 .i64 .i64 _ _ n rfl rfl rfl rfl ?c1 ?c2 (Nat.le_refl _) ?_)
  case c1 => rw [hz2]; omega
  case c2 => unfold maxLen; omega
  intro w1 hown hg
  have hb1 := (Below.refl w.heap.size w).grown hg (Nat.le_refl _) (by simp)
  have hsz : w.heap.size < w1.heap.size := (hown.lt w.heap.size rfl).2
  have Hg := Lib.hid hg
  have Hown := Lib.hid hown
  clear hg hown
  go_wp2
  go_loopw [4] (fun i wr => ∃ k : Nat, ∃ tl : List Value, k ≤ n ∧ i = .int .i64 k ∧ Hid (wr.ownsRow w.heap.size 3 1 (.slice (some ⟨w.heap.size, 0, none⟩) n n) n ((l.take k).flatMap ienc ++ tl)) ∧ Below w.heap.size w wr ∧ w.heap.size < wr.heap.size) (fun i _ => n - (intOf i).toNat)
  case atStart => exact ⟨0, _, Nat.zero_le _, rfl, Hown.out, hb1, hsz⟩
  case round =>
    obtain ⟨k, tl, hk, rfl, hown, hb, hsz1⟩ := hrel
    by_cases hlt : k < n
    · obtain ⟨x, hx⟩ := some_at (l := l) (k := k) (by have := Hn.out; omega)
      have hr := h.below hb
      obtain ⟨b, o, rfl, hbw, g1⟩ := rdInt hr hx
      obtain ⟨⟨u0, c0⟩, f0⟩ := owns_at hown.out (j := k) (by omega)
      have Hx := Lib.hid hx
      clear hx hr h
      have HP := hideP (owns_put (x := x) ienc_len hown.out Hx.out hlt)
      rw [Nat.mul_one] at HP
      have hbs := below_setCells (ienc x) k hb (Nat.le_refl w.heap.size)
      go_wp2
      go_roundw
      case rel => exact ⟨k + 1, tl.drop 1, by omega, by go_num, HP, hbs, by simp; omega⟩
      case measure => simp [intOf]; omega
    · have HO := hideP (owns_full ienc_len hown.out Hn.out (by omega))
      rw [icell_flat] at HO
      go_wp2
      go_ret
      exact ⟨_, rfl, HO.out, hb⟩

theorem Try.infoMsg : (Try.prog.info? 77).map (fun i => (i.zero, i.size, i.bytes)) = some (some (.agg #[.int .i64 0, .int .i64 0]), 2, 16) := by kernel_rfl

set_option maxHeartbeats 400000 in
theorem toMsg_any (x : Msg) (w : World) :
    Calls Try.prog 74 #[.agg #[.int .i64 x.f, .int .i64 x.n]] w fun e w' => e = .returned (.agg #[.int .i64 x.f, .int .i64 x.n]) ∧ Below w.heap.size w w' := by
  go_enter Try.func74, Try.ntmps74
  go_wp2
  refine bodyPost_ret (v := .agg #[.int .i64 x.f, .int .i64 x.n]) (by simp [results, Try.results74, go_sem]) rfl ⟨rfl, ?_⟩
  exact (((Below.refl _ _).alloc (Nat.le_refl _) _).alloc (by simp) _).alloc (by simp; omega) _

set_option maxHeartbeats 400000 in
theorem toMsgS_any (a : Option Addr) (n cap : Nat) (l : List Msg) (hn : n = l.length) (hl : n ≤ 1048576) (w : World) (h : Rd w a (l.flatMap Msg.enc)) :
    Calls Try.prog 72 #[.slice a n cap] w fun e w' => ∃ v, e = .returned v ∧ w'.ownsRow w.heap.size 77 2 v n (l.flatMap Msg.enc) ∧ Below w.heap.size w w' := by
  have Hn := Lib.hid hn
  clear hn
  obtain ⟨i0, hi, hz0, hz1, hz2⟩ := info_parts Try.infoMsg
  go_enter Try.func72, Try.ntmps72
  go_wp2_with (at_make; refine wpList_make_full _ rfl _ _ 53 rfl w.heap.size 77 i0 (.agg #[.int .i64 0, .int .i64 0]) 2 Try.underlying53 hi hz0 hz1 .i64 .i64 _ _ n rfl rfl rfl rfl ?c1 ?c2 (Nat.le_refl _) ?_)
  case c1 => rw [hz2]; omega
  case c2 => unfold maxLen; omega
  intro w1 hown hg
  have hb1 := (Below.refl w.heap.size w).grown hg (Nat.le_refl _) (by simp)
  have hsz : w.heap.size < w1.heap.size := (hown.lt w.heap.size rfl).2
  have Hg := Lib.hid hg
  have Hown := Lib.hid hown
  clear hg hown
  go_wp2
  go_loopw [4] (fun i wr => ∃ k : Nat, ∃ tl : List Value, k ≤ n ∧ i = .int .i64 k ∧ Hid (wr.ownsRow w.heap.size 77 2 (.slice (some ⟨w.heap.size, 0, none⟩) n n) n ((l.take k).flatMap Msg.enc ++ tl)) ∧ Below w.heap.size w wr ∧ w.heap.size < wr.heap.size) (fun i _ => n - (intOf i).toNat)
  case atStart => exact ⟨0, _, Nat.zero_le _, rfl, Hown.out, hb1, hsz⟩
  case round =>
    obtain ⟨k, tl, hk, rfl, hown, hb, hsz1⟩ := hrel
    by_cases hlt : k < n
    · obtain ⟨x, hx⟩ := some_at (l := l) (k := k) (by have := Hn.out; omega)
      have hr := h.below hb
      obtain ⟨b, o, rfl, hbw, g1, g2⟩ := hr.rowMsg hx
      have Hx := Lib.hid hx
      clear hx hr h
      go_wp2_with (go_at_call 74; refine (toMsg_any x _).mono ?_; rintro e w2 ⟨rfl, hb2⟩; have hown2 := hideP (owns_below hown.out (Nat.le_refl _) hb2); obtain ⟨⟨u0, c0⟩, f0⟩ := owns_at hown2.out (j := k * 2) (by omega); obtain ⟨⟨u1, c1⟩, f1⟩ := owns_at hown2.out (j := k * 2 + 1) (by omega))
      go_roundw
      case rel => exact ⟨k + 1, tl.drop 2, by omega, by go_num, owns_put (x := x) Msg.enc_len hown2.out Hx.out hlt, below_setCells (x.enc) (k * 2) (hb.trans (hb2.mono hb.size)) (Nat.le_refl _), by have h2 := hb2.size; simp; omega⟩
      case measure => simp [intOf]; omega
    · go_wp2
      go_ret
      exact ⟨_, rfl, owns_full Msg.enc_len hown.out Hn.out (by omega), hb⟩

set_option maxHeartbeats 400000 in
theorem eqMsg_any (x : Msg) (w : World) :
    Calls Try.prog 75 #[.agg #[.int .i64 x.f, .int .i64 x.n], .agg #[.int .i64 x.f, .int .i64 x.n]] w fun e w' => e = .returned (.bool true) ∧ Below w.heap.size w w' := by
  go_enter Try.func75, Try.ntmps75
  go_wp2
  go_ret
  exact ⟨rfl, ((Below.refl _ _).alloc (Nat.le_refl _) _).alloc (by simp) _⟩

set_option maxRecDepth 100000 in
set_option maxHeartbeats 400000 in
theorem eqMsgS_any (a a' : Option Addr) (n cap cap' : Nat) (l : List Msg) (hn : n = l.length) (hl : n ≤ 1048576) (w : World) (h : Rd w a (l.flatMap Msg.enc)) (h' : Rd w a' (l.flatMap Msg.enc)) :
    Calls Try.prog 73 #[.slice a n cap, .slice a' n cap'] w fun e w' => e = .returned (.bool true) ∧ Below w.heap.size w w' := by
  have Hn := Lib.hid hn
  clear hn
  go_enter Try.func73, Try.ntmps73
  go_wp2
  go_loopw [5] (fun i wr => ∃ k : Nat, k ≤ n ∧ i = .int .i64 k ∧ Below w.heap.size w wr) (fun i _ => n - (intOf i).toNat)
  case atStart => exact ⟨0, Nat.zero_le _, rfl, Below.refl _ _⟩
  case round =>
    obtain ⟨k, hk, rfl, hb⟩ := hrel
    by_cases hlt : k < n
    · obtain ⟨x, hx⟩ := some_at (l := l) (k := k) (by have := Hn.out; omega)
      have hr := h.below hb
      have hr' := h'.below hb
      obtain ⟨b, o, rfl, hbw, g1, g2⟩ := hr.rowMsg hx
      obtain ⟨b', o', rfl, hbw', g1', g2'⟩ := hr'.rowMsg hx
      have Hx := Lib.hid hx
      clear hx hr h hr' h'
      go_wp2
      go_still_tail 8, (by kernel_rfl)
      go_wp2_with (go_at_call 75; refine (eqMsg_any x _).mono ?_; rintro e w2 ⟨rfl, hb2⟩)
      go_roundw
      case rel => exact ⟨k + 1, by omega, by go_num, hb.drew.trans (hb2.mono hb.size)⟩
      case measure => simp [intOf]; omega
    · go_wp2
      go_ret
      exact ⟨rfl, hb⟩

set_option maxRecDepth 100000 in
set_option maxHeartbeats 400000 in
theorem eqIntS_any (a a' : Option Addr) (n cap cap' : Nat) (l : List Int) (hn : n = l.length) (hl : n ≤ 1048576) (w : World) (h : Rd w a (icell l)) (h' : Rd w a' (icell l)) :
    Calls Try.prog 12 #[.slice a n cap, .slice a' n cap'] w fun e w' => e = .returned (.bool true) ∧ Below w.heap.size w w' := by
  have Hn := Lib.hid hn
  clear hn
  go_enter Try.func12, Try.ntmps12
  go_wp2
  go_loopw [5] (fun i wr => ∃ k : Nat, k ≤ n ∧ i = .int .i64 k ∧ Below w.heap.size w wr) (fun i _ => n - (intOf i).toNat)
  case atStart => exact ⟨0, Nat.zero_le _, rfl, Below.refl _ _⟩
  case round =>
    obtain ⟨k, hk, rfl, hb⟩ := hrel
    by_cases hlt : k < n
    · obtain ⟨x, hx⟩ := some_at (l := l) (k := k) (by have := Hn.out; omega)
      have hr := h.below hb
      have hr' := h'.below hb
      obtain ⟨b, o, rfl, hbw, g1⟩ := rdInt hr hx
      obtain ⟨b', o', rfl, hbw', g1'⟩ := rdInt hr' hx
      have Hx := Lib.hid hx
      clear hx hr h hr' h'
      go_wp2
      go_quiet (fail)
      go_wp2
      go_roundw
      case rel => exact ⟨k + 1, by omega, by go_num, below_drewN hb _⟩
      case measure => simp [intOf]; omega
    · go_wp2
      go_ret
      exact ⟨rfl, hb⟩

end Go.Proofs.Ytpiaahkfnefplaa
