/- Res and Amt: the data; the laws' helpers. -/
import Derived.Test.YtpiaahkfnefplaaSmall
import Derived.Test.YtpiaahkfnefplaaCnt
namespace Go.Proofs.Ytpiaahkfnefplaa
open Go.RowKit

structure Amt where
  p : Int
  r : Int
  c : Int
deriving DecidableEq
structure Res where
  live : Bool
  par : Int
  bal : Amt
deriving DecidableEq
instance : Inhabited Amt := ⟨⟨0, 0, 0⟩⟩
instance : Inhabited Res := ⟨⟨false, 0, default⟩⟩
def Amt.val (x : Amt) : Value := .agg #[.int .i64 x.p, .int .i64 x.r, .int .i64 x.c]
def Res.enc (x : Res) : List Value := [.bool x.live, .int .i64 x.par, .int .i64 x.bal.p, .int .i64 x.bal.r, .int .i64 x.bal.c]
theorem Res.enc_len (x : Res) : x.enc.length = 5 := rfl
theorem Rd.rowRes {w : World} {a : Option Addr} {l : List Res} (h : Rd w a (l.flatMap Res.enc)) {k : Nat} {x : Res} (hx : l[k]? = some x) :
    ∃ b o, a = some ⟨b, o, none⟩ ∧ b < w.heap.size ∧ w.cell? ⟨b, o + k * 5, none⟩ = some (.bool x.live) ∧ w.cell? ⟨b, o + k * 5 + 1, none⟩ = some (.int .i64 x.par) ∧ w.cell? ⟨b, o + k * 5 + 2, none⟩ = some (.int .i64 x.bal.p) ∧ w.cell? ⟨b, o + k * 5 + 3, none⟩ = some (.int .i64 x.bal.r) ∧ w.cell? ⟨b, o + k * 5 + 4, none⟩ = some (.int .i64 x.bal.c) := by
  obtain ⟨b, o, ha, hlt, hc⟩ := h.row Res.enc_len (by decide) hx
  exact ⟨b, o, ha, hlt, hc 0 _ (by decide) rfl, hc 1 _ (by decide) rfl, hc 2 _ (by decide) rfl, hc 3 _ (by decide) rfl, hc 4 _ (by decide) rfl⟩
theorem Try.infoRes : (Try.prog.info? 98).map (fun i => (i.zero, i.size, i.bytes)) = some (some (.agg #[.bool false, .int .i64 0, .int .i64 0, .int .i64 0, .int .i64 0]), 5, 40) := by kernel_rfl

set_option maxHeartbeats 400000 in
theorem toAmt_any (x : Amt) (w : World) :
    Calls Try.prog 44 #[.agg #[.int .i64 x.p, .int .i64 x.r, .int .i64 x.c]] w fun e w' => e = .returned (.agg #[.int .i64 x.p, .int .i64 x.r, .int .i64 x.c]) ∧ Below w.heap.size w w' := by
  go_enter Try.func44, Try.ntmps44
  go_wp2
  refine bodyPost_ret (v := .agg #[.int .i64 x.p, .int .i64 x.r, .int .i64 x.c]) (by simp [results, Try.results44, go_sem]) rfl ⟨rfl, ?_⟩
  exact (((Below.refl _ _).alloc (Nat.le_refl _) _).alloc (by simp) _).alloc (by simp; omega) _

set_option maxHeartbeats 400000 in
theorem toRes_any (x : Res) (w : World) :
    Calls Try.prog 58 #[.agg #[.bool x.live, .int .i64 x.par, .int .i64 x.bal.p, .int .i64 x.bal.r, .int .i64 x.bal.c]] w fun e w' => e = .returned (.agg #[.bool x.live, .int .i64 x.par, .int .i64 x.bal.p, .int .i64 x.bal.r, .int .i64 x.bal.c]) ∧ Below w.heap.size w w' := by
  go_enter Try.func58, Try.ntmps58
  go_wp2_with fail
  refine (toAmt_any x.bal _).mono ?_
  rintro e w2 ⟨rfl, hb2⟩
  obtain ⟨bc, bf⟩ := bcell hb2
  have hz := hb2.size
  simp only [World.size_alloc] at bc bf hz
  go_wp2
  refine bodyPost_ret (v := .agg #[.bool x.live, .int .i64 x.par, .int .i64 x.bal.p, .int .i64 x.bal.r, .int .i64 x.bal.c]) (by simp [results, Try.results58, go_sem, bc]) rfl ⟨rfl, ?_⟩
  repeat (refine Below.setCell ?_ (by first | exact Nat.le_refl _ | (simp; done) | (simp; omega)) _)
  refine Below.trans ?_ (hb2.mono (by first | exact Nat.le_refl _ | (simp; done) | (simp; omega)))
  repeat (refine Below.alloc ?_ (by first | exact Nat.le_refl _ | (simp; done) | (simp; omega)) _)
  exact Below.refl _ _

set_option maxHeartbeats 400000 in
theorem toResS_any (a : Option Addr) (n cap : Nat) (l : List Res) (hn : n = l.length) (hl : n ≤ 1048576) (w : World) (h : Rd w a (l.flatMap Res.enc)) :
    Calls Try.prog 41 #[.slice a n cap] w fun e w' => ∃ v, e = .returned v ∧ w'.ownsRow w.heap.size 98 5 v n (l.flatMap Res.enc) ∧ Below w.heap.size w w' := by
  have Hn := Lib.hid hn
  clear hn
  obtain ⟨i0, hi, hz0, hz1, hz2⟩ := info_parts Try.infoRes
  go_enter Try.func41, Try.ntmps41
  go_wp2_with (at_make; refine wpList_make_full _ rfl _ _ 47 rfl w.heap.size 98 i0 (.agg #[.bool false, .int .i64 0, .int .i64 0, .int .i64 0, .int .i64 0]) 5 Try.underlying47 hi hz0 hz1 .i64 .i64 _ _ n rfl rfl rfl rfl ?c1 ?c2 (Nat.le_refl _) ?_)
  case c1 => rw [hz2]; omega
  case c2 => unfold maxLen; omega
  intro w1 hown hg
  have hb1 := (Below.refl w.heap.size w).grown hg (Nat.le_refl _) (by simp)
  have hsz : w.heap.size < w1.heap.size := (hown.lt w.heap.size rfl).2
  have Hg := Lib.hid hg
  have Hown := Lib.hid hown
  clear hg hown
  go_wp2
  go_loopw [4] (fun i wr => ∃ k : Nat, ∃ tl : List Value, k ≤ n ∧ i = .int .i64 k ∧ Hid (wr.ownsRow w.heap.size 98 5 (.slice (some ⟨w.heap.size, 0, none⟩) n n) n ((l.take k).flatMap Res.enc ++ tl)) ∧ Below w.heap.size w wr ∧ w.heap.size < wr.heap.size) (fun i _ => n - (intOf i).toNat)
  case atStart => exact ⟨0, _, Nat.zero_le _, rfl, Hown.out, hb1, hsz⟩
  case round =>
    obtain ⟨k, tl, hk, rfl, hown, hb, hsz1⟩ := hrel
    by_cases hlt : k < n
    · obtain ⟨x, hx⟩ := some_at (l := l) (k := k) (by have := Hn.out; omega)
      have hr := h.below hb
      obtain ⟨b, o, rfl, hbw, g1, g2, g3, g4, g5⟩ := hr.rowRes hx
      have Hx := Lib.hid hx
      clear hx hr h
      go_wp2_with (go_at_call 58; refine (toRes_any x _).mono ?_; rintro e w2 ⟨rfl, hb2⟩; have hown2 := hideP (owns_below hown.out (Nat.le_refl _) hb2); obtain ⟨⟨u60, c0⟩, f0⟩ := owns_at hown2.out (j := k * 5) (by omega); obtain ⟨⟨u61, c1⟩, f1⟩ := owns_at hown2.out (j := k * 5 + 1) (by omega); obtain ⟨⟨u62, c2⟩, f2⟩ := owns_at hown2.out (j := k * 5 + 2) (by omega); obtain ⟨⟨u63, c3⟩, f3⟩ := owns_at hown2.out (j := k * 5 + 3) (by omega); obtain ⟨⟨u64, c4⟩, f4⟩ := owns_at hown2.out (j := k * 5 + 4) (by omega))
      go_roundw
      case rel => exact ⟨k + 1, tl.drop 5, by omega, by go_num, owns_put (x := x) Res.enc_len hown2.out Hx.out hlt, below_setCells (x.enc) (k * 5) (hb.trans (hb2.mono hb.size)) (Nat.le_refl _), by have h2 := hb2.size; simp; omega⟩
      case measure => simp [intOf]; omega
    · go_wp2
      go_ret
      exact ⟨_, rfl, owns_full Res.enc_len hown.out Hn.out (by omega), hb⟩

set_option maxHeartbeats 400000 in
theorem szResS_any (a : Option Addr) (n cap : Nat) (hn : n ≤ maxLen) (w : World) :
    Calls Try.prog 36 #[.slice a n cap, .int .i64 1048576] w fun e w' => e = .returned (.int .i64 (if n ≤ 1048576 then 1048576 - (n : Int) else -1)) ∧ w = w' := by
  unfold maxLen at hn
  by_cases h : n ≤ 1048576
  · go_enter Try.func36, Try.ntmps36
    go_wp2
    go_ret
    exact ⟨ret_int (by simp), rfl⟩
  · go_enter Try.func36, Try.ntmps36
    go_wp2
    go_ret
    exact ⟨ret_int (by simp), rfl⟩

set_option maxHeartbeats 400000 in
theorem eqAmt_any (x : Amt) (w : World) :
    Calls Try.prog 49 #[.agg #[.int .i64 x.p, .int .i64 x.r, .int .i64 x.c], .agg #[.int .i64 x.p, .int .i64 x.r, .int .i64 x.c]] w fun e w' => e = .returned (.bool true) ∧ Below w.heap.size w w' := by
  go_enter Try.func49, Try.ntmps49
  go_wp2
  go_ret
  exact ⟨rfl, ((Below.refl _ _).alloc (Nat.le_refl _) _).alloc (by simp) _⟩

set_option maxHeartbeats 400000 in
theorem eqRes_any (x : Res) (w : World) :
    Calls Try.prog 62 #[.agg #[.bool x.live, .int .i64 x.par, .int .i64 x.bal.p, .int .i64 x.bal.r, .int .i64 x.bal.c], .agg #[.bool x.live, .int .i64 x.par, .int .i64 x.bal.p, .int .i64 x.bal.r, .int .i64 x.bal.c]] w fun e w' => e = .returned (.bool true) ∧ Below w.heap.size w w' := by
  go_enter Try.func62, Try.ntmps62
  go_wp2_with fail
  refine (eqAmt_any x.bal _).mono ?_
  rintro e w2 ⟨rfl, hb2⟩
  go_wp2
  go_ret
  refine ⟨rfl, ?_⟩
  repeat (refine Below.setCell ?_ (by first | exact Nat.le_refl _ | (simp; done) | (simp; omega)) _)
  refine Below.trans ?_ (hb2.mono (by first | exact Nat.le_refl _ | (simp; done) | (simp; omega)))
  repeat (refine Below.alloc ?_ (by first | exact Nat.le_refl _ | (simp; done) | (simp; omega)) _)
  exact Below.refl _ _

set_option maxRecDepth 100000 in
set_option maxHeartbeats 400000 in
theorem eqResS_any (a a' : Option Addr) (n cap cap' : Nat) (l : List Res) (hn : n = l.length) (hl : n ≤ 1048576) (w : World) (h : Rd w a (l.flatMap Res.enc)) (h' : Rd w a' (l.flatMap Res.enc)) :
    Calls Try.prog 46 #[.slice a n cap, .slice a' n cap'] w fun e w' => e = .returned (.bool true) ∧ Below w.heap.size w w' := by
  have Hn := Lib.hid hn
  clear hn
  go_enter Try.func46, Try.ntmps46
  go_wp2
  go_loopw [5] (fun i wr => ∃ k : Nat, k ≤ n ∧ i = .int .i64 k ∧ Below w.heap.size w wr) (fun i _ => n - (intOf i).toNat)
  case atStart => exact ⟨0, Nat.zero_le _, rfl, Below.refl _ _⟩
  case round =>
    obtain ⟨k, hk, rfl, hb⟩ := hrel
    by_cases hlt : k < n
    · obtain ⟨x, hx⟩ := some_at (l := l) (k := k) (by have := Hn.out; omega)
      have hr := h.below hb
      have hr' := h'.below hb
      obtain ⟨b, o, rfl, hbw, g1, g2, g3, g4, g5⟩ := hr.rowRes hx
      obtain ⟨b', o', rfl, hbw', g1', g2', g3', g4', g5'⟩ := hr'.rowRes hx
      have Hx := Lib.hid hx
      clear hx hr h hr' h'
      go_wp2
      go_still_tail 8, (by kernel_rfl)
      go_wp2_with (go_at_call 62; refine (eqRes_any x _).mono ?_; rintro e w2 ⟨rfl, hb2⟩)
      go_roundw
      case rel => exact ⟨k + 1, by omega, by go_num, hb.drew.trans (hb2.mono hb.size)⟩
      case measure => simp [intOf]; omega
    · go_wp2
      go_ret
      exact ⟨rfl, hb⟩

/-- What a mark leaves in a row. -/
def resMark (q : Int) : List Value := [.bool (q % 3 == 0), .int .i64 (q + 1), .int .i64 (q + 1 + 1), .int .i64 (q + 1 + 1 + 1), .int .i64 (q + 1 + 1 + 1 + 1)]
def resMarks (q0 : Int) (n : Nat) : List Value := (List.range n).flatMap fun i => resMark (q0 + ((i * 5 : Nat) : Int))
theorem Rd.markedRes {w : World} {a : Option Addr} {q0 q : Int} {n k : Nat} (h : Rd w a (resMarks q0 n)) (hk : k < n) (hq : q = q0 + ((k * 5 : Nat) : Int)) :
    ∃ b o, a = some ⟨b, o, none⟩ ∧ b < w.heap.size ∧ w.cell? ⟨b, o + k * 5, none⟩ = some (.bool (q % 3 == 0)) ∧ w.cell? ⟨b, o + k * 5 + 1, none⟩ = some (.int .i64 (q + 1)) ∧ w.cell? ⟨b, o + k * 5 + 2, none⟩ = some (.int .i64 (q + 1 + 1)) ∧
      w.cell? ⟨b, o + k * 5 + 3, none⟩ = some (.int .i64 (q + 1 + 1 + 1)) ∧ w.cell? ⟨b, o + k * 5 + 4, none⟩ = some (.int .i64 (q + 1 + 1 + 1 + 1)) := by
  subst hq
  obtain ⟨b, o, ha, hlt, hc⟩ := Rd.row (enc := fun i : Nat => resMark (q0 + ((i * 5 : Nat) : Int))) (s := 5) (fun _ => rfl) (by decide) h (k := k) (x := k) (by simp [hk])
  exact ⟨b, o, ha, hlt, hc 0 _ (by decide) rfl, hc 1 _ (by decide) rfl, hc 2 _ (by decide) rfl, hc 3 _ (by decide) rfl, hc 4 _ (by decide) rfl⟩

set_option maxHeartbeats 800000 in
theorem markResS_any (v : Value) (n base : Nat) (xs : List Value) (q0 : Int) (hq0 : 0 ≤ q0 ∧ q0 ≤ 1000000000000) (hl : n ≤ 1048576) (w : World) (h : w.ownsRow base 98 5 v n xs) :
    Calls Try.prog 31 #[v, .int .i64 q0] w fun e w' => e = .returned (.int .i64 (q0 + ((n * 5 : Nat) : Int))) ∧ w'.ownsRow base 98 5 v n (resMarks q0 n) ∧ w.grownBy w' v.ownBlock := by
  obtain ⟨a, cap, rfl, hnc⟩ := owns_slice h
  have H := Lib.hid h
  clear h
  go_enter Try.func31, Try.ntmps31
  go_wp2
  go_loopw [1, 5] (fun c i wr => ∃ k : Nat, ∃ q : Int, ∃ tl : List Value, k ≤ n ∧ i = .int .i64 k ∧ c = .int .i64 q ∧ Hid (q = q0 + ((k * 5 : Nat) : Int)) ∧ Hid (wr.ownsRow base 98 5 (.slice a n cap) n (((List.range n).take k).flatMap (fun i => resMark (q0 + ((i * 5 : Nat) : Int))) ++ tl)) ∧ Hid (w.grownBy wr (Value.slice a n cap).ownBlock)) (fun _ i _ => n - (intOf i).toNat)
  case atStart => exact ⟨0, q0, xs, Nat.zero_le _, rfl, rfl, hideP (by simp), by simpa [Hid] using H.out, hideP (World.grownBy.refl _ _)⟩
  case round =>
    obtain ⟨k, q, tl, hk, rfl, rfl, hq, hown, hb⟩ := hrel
    have hqb : 0 ≤ q ∧ q ≤ 2000000000000 := by have := hq.out; omega
    by_cases hlt : k < n
    · obtain ⟨g, rfl, hbg⟩ := owns_block hown.out (by omega)
      obtain ⟨⟨u60, c0⟩, f0⟩ := owns_at hown.out (j := k * 5) (by omega)
      obtain ⟨⟨u61, c1⟩, f1⟩ := owns_at hown.out (j := k * 5 + 1) (by omega)
      obtain ⟨⟨u62, c2⟩, f2⟩ := owns_at hown.out (j := k * 5 + 2) (by omega)
      obtain ⟨⟨u63, c3⟩, f3⟩ := owns_at hown.out (j := k * 5 + 3) (by omega)
      obtain ⟨⟨u64, c4⟩, f4⟩ := owns_at hown.out (j := k * 5 + 4) (by omega)
      have HP := hideP (owns_put (enc := fun i : Nat => resMark (q0 + ((i * 5 : Nat) : Int))) (fun _ => rfl) hown.out (x := k) (by simp [hlt]) hlt)
      rw [← hq.out] at HP
      go_wp2
      go_roundw
      case rel => exact ⟨k + 1, q + 1 + 1 + 1 + 1 + 1, tl.drop 5, by omega, by go_num, rfl, hideP (by have := hq.out; omega), HP, hideP (grown_setCells (resMark q) (k * 5) hb.out)⟩
      case measure => simp [intOf]; omega
    · go_wp2
      go_ret
      have hkn : k = n := by omega
      subst hkn
      exact ⟨ret_int hq.out, owns_full (enc := fun i : Nat => resMark (q0 + ((i * 5 : Nat) : Int))) (l := List.range k) (fun _ => rfl) hown.out List.length_range.symm (Nat.le_refl _), hb.out⟩

end Go.Proofs.Ytpiaahkfnefplaa
