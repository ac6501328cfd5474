/- AmtOne, AmtFits, AmtSub, AmtAdd, the copies, l6Live, TreeSum. -/
import Derived.Test.YtcahncppkolkbaaHoard
import Derived.Test.YtcahncppkolkbaaApp
namespace Go.Proofs.Ytcahncppkolkbaa
open Go.RowKit

def amtOne (i m : Int) : Amt := if i = 0 then ⟨m, 0, 0⟩ else if i = 1 then ⟨0, m, 0⟩ else if i = 2 then ⟨0, 0, m⟩ else ⟨0, 0, 0⟩
def amtFits (x y : Amt) : Bool := amtOk x && amtOk y && decide (x.p ≤ y.p) && decide (x.r ≤ y.r) && decide (x.c ≤ y.c)
def amtSub (x y : Amt) : Amt × Bool := if amtFits y x then (⟨x.p - y.p, x.r - y.r, x.c - y.c⟩, true) else (x, false)
def amtAddB (x y : Amt) : Amt × Bool := if amtOk x && (amtOk y && amtOk (amtAdd x y)) then (amtAdd x y, true) else (x, false)
theorem fits_in {x y : Amt} (h : amtFits x y = true) : (0 ≤ x.p ∧ x.p ≤ 1000000) ∧ (0 ≤ x.r ∧ x.r ≤ 1000000) ∧ (0 ≤ x.c ∧ x.c ≤ 1000000) ∧ x.p ≤ y.p ∧ y.p ≤ 1000000 ∧ x.r ≤ y.r ∧ y.r ≤ 1000000 ∧ x.c ≤ y.c ∧ y.c ≤ 1000000 := by
  unfold amtFits at h
  simp only [Bool.and_eq_true, decide_eq_true_eq] at h
  obtain ⟨⟨⟨⟨h1, h2⟩, h3⟩, h4⟩, h5⟩ := h
  have a := amtOk_iff.1 h1
  have b := amtOk_iff.1 h2
  omega

set_option maxHeartbeats 800000 in
theorem implAmtOne_any (i m : Int) (w : World) : Calls Try.prog 21 #[.int .i64 i, .int .i64 m] w fun e w' => e = .returned (.agg #[.int .i64 (amtOne i m).p, .int .i64 (amtOne i m).r, .int .i64 (amtOne i m).c]) ∧ Below w.heap.size w w' := by
  obtain rfl | rfl | rfl | ⟨h0, h1, h2⟩ : i = 0 ∨ i = 1 ∨ i = 2 ∨ (i ≠ 0 ∧ i ≠ 1 ∧ i ≠ 2) := by omega
  · show Calls _ _ _ _ fun e w' => e = .returned (.agg #[.int .i64 m, .int .i64 0, .int .i64 0]) ∧ _
    go_enter Try.func21, Try.ntmps21
    go_wp2
    refine bodyPost_ret (v := .agg #[.int .i64 m, .int .i64 0, .int .i64 0]) (by simp [results, Try.results21, go_sem]) rfl ⟨rfl, ?_⟩
    repeat (refine Below.setCell ?_ (by first | exact Nat.le_refl _ | (simp; done) | (simp; omega)) _)
    exact below_a1 _ _
  · show Calls _ _ _ _ fun e w' => e = .returned (.agg #[.int .i64 0, .int .i64 m, .int .i64 0]) ∧ _
    go_enter Try.func21, Try.ntmps21
    go_wp2
    refine bodyPost_ret (v := .agg #[.int .i64 0, .int .i64 m, .int .i64 0]) (by simp [results, Try.results21, go_sem]) rfl ⟨rfl, ?_⟩
    repeat (refine Below.setCell ?_ (by first | exact Nat.le_refl _ | (simp; done) | (simp; omega)) _)
    exact below_a1 _ _
  · show Calls _ _ _ _ fun e w' => e = .returned (.agg #[.int .i64 0, .int .i64 0, .int .i64 m]) ∧ _
    go_enter Try.func21, Try.ntmps21
    go_wp2
    refine bodyPost_ret (v := .agg #[.int .i64 0, .int .i64 0, .int .i64 m]) (by simp [results, Try.results21, go_sem]) rfl ⟨rfl, ?_⟩
    repeat (refine Below.setCell ?_ (by first | exact Nat.le_refl _ | (simp; done) | (simp; omega)) _)
    exact below_a1 _ _
  · have hr : amtOne i m = ⟨0, 0, 0⟩ := by unfold amtOne; rw [if_neg h0, if_neg h1, if_neg h2]
    rw [hr]
    have d0 : (i == 0) = false := by simpa using h0
    have d1 : (i == 1) = false := by simpa using h1
    have d2 : (i == 2) = false := by simpa using h2
    clear h0 h1 h2 hr
    go_enter Try.func21, Try.ntmps21
    go_wp2
    refine bodyPost_ret (v := .agg #[.int .i64 0, .int .i64 0, .int .i64 0]) (by simp [results, Try.results21, go_sem]) rfl ⟨rfl, ?_⟩
    repeat (refine Below.setCell ?_ (by first | exact Nat.le_refl _ | (simp; done) | (simp; omega)) _)
    exact below_a1 _ _

set_option maxHeartbeats 1000000 in
theorem implAmtFits_any (x y : Amt) (w : World) : Calls Try.prog 48 #[.agg #[.int .i64 x.p, .int .i64 x.r, .int .i64 x.c], .agg #[.int .i64 y.p, .int .i64 y.r, .int .i64 y.c]] w fun e w' => e = .returned (.bool (amtFits x y)) ∧ Below w.heap.size w w' := by
  go_enter Try.func48, Try.ntmps48
  go_wp2_with fail
  refine (implAmtOk_any x _).mono ?_
  rintro e w1 ⟨rfl, hb1⟩
  have hb01 := (below_a2 w _ _).trans (hb1.mono (by first | exact Nat.le_refl _ | (simp; done) | (simp; omega)))
  obtain ⟨bc1, bf1⟩ := bcell hb1
  have hz1 := hb1.size
  simp only [World.size_alloc] at bc1 bf1 hz1
  have q0 : w.heap.size < w1.heap.size := by omega
  have q1 : w.heap.size + 1 < w1.heap.size := by omega
  cases hx : amtOk x
  · have HR : Hid (amtFits x y = false) := hideP (by unfold amtFits; rw [hx]; rfl)
    go_wp2
    go_ret
    exact ⟨ret_bool HR.out.symm, hb01⟩
  go_wp2_with fail
  refine (implAmtOk_any y _).mono ?_
  rintro e w2 ⟨rfl, hb2⟩
  have hb02 := hb01.trans (hb2.mono hb01.size)
  obtain ⟨bc2, bf2⟩ := bcell hb2
  cases hy : amtOk y
  · have HR : Hid (amtFits x y = false) := hideP (by unfold amtFits; rw [hx, hy]; rfl)
    go_wp2
    go_ret
    exact ⟨ret_bool HR.out.symm, hb02⟩
  have HR : Hid (amtFits x y = (decide (x.p ≤ y.p) && (decide (x.r ≤ y.r) && decide (x.c ≤ y.c)))) := hideP (by unfold amtFits; rw [hx, hy]; simp [Bool.and_assoc])
  clear hx hy
  by_cases h1 : x.p ≤ y.p
  · by_cases h2 : x.r ≤ y.r
    · go_wp2
      all_goals (go_ret; exact ⟨ret_bool (by rw [HR.out]; first | (simp [h1, h2]; done) | (simp [h1]; done) | (simp <;> omega)), hb02⟩)
    · go_wp2
      go_ret
      exact ⟨ret_bool (by rw [HR.out]; simp <;> omega), hb02⟩
  · go_wp2
    go_ret
    exact ⟨ret_bool (by rw [HR.out]; simp <;> omega), hb02⟩

set_option maxHeartbeats 1000000 in
theorem specAmtFits_any (x y : Amt) (w : World) : Calls Try.prog 50 #[.agg #[.int .i64 x.p, .int .i64 x.r, .int .i64 x.c], .agg #[.int .i64 y.p, .int .i64 y.r, .int .i64 y.c]] w fun e w' => e = .returned (.bool (amtFits x y)) ∧ Below w.heap.size w w' := by
  go_enter Try.func50, Try.ntmps50
  go_wp2_with fail
  refine (specAmtOk_any x _).mono ?_
  rintro e w1 ⟨rfl, hb1⟩
  have hb01 := (below_a2 w _ _).trans (hb1.mono (by first | exact Nat.le_refl _ | (simp; done) | (simp; omega)))
  obtain ⟨bc1, bf1⟩ := bcell hb1
  have hz1 := hb1.size
  simp only [World.size_alloc] at bc1 bf1 hz1
  have q0 : w.heap.size < w1.heap.size := by omega
  have q1 : w.heap.size + 1 < w1.heap.size := by omega
  cases hx : amtOk x
  · have HR : Hid (amtFits x y = false) := hideP (by unfold amtFits; rw [hx]; rfl)
    go_wp2
    go_ret
    exact ⟨ret_bool HR.out.symm, hb01⟩
  go_wp2_with fail
  refine (specAmtOk_any y _).mono ?_
  rintro e w2 ⟨rfl, hb2⟩
  have hb02 := hb01.trans (hb2.mono hb01.size)
  obtain ⟨bc2, bf2⟩ := bcell hb2
  cases hy : amtOk y
  · have HR : Hid (amtFits x y = false) := hideP (by unfold amtFits; rw [hx, hy]; rfl)
    go_wp2
    go_ret
    exact ⟨ret_bool HR.out.symm, hb02⟩
  have HR : Hid (amtFits x y = (decide (x.p ≤ y.p) && (decide (x.r ≤ y.r) && decide (x.c ≤ y.c)))) := hideP (by unfold amtFits; rw [hx, hy]; simp [Bool.and_assoc])
  clear hx hy
  by_cases h1 : x.p ≤ y.p
  · by_cases h2 : x.r ≤ y.r
    · go_wp2
      all_goals (go_ret; exact ⟨ret_bool (by rw [HR.out]; first | (simp [h1, h2]; done) | (simp [h1]; done) | (simp <;> omega)), hb02⟩)
    · go_wp2
      go_ret
      exact ⟨ret_bool (by rw [HR.out]; simp <;> omega), hb02⟩
  · go_wp2
    go_ret
    exact ⟨ret_bool (by rw [HR.out]; simp <;> omega), hb02⟩

set_option maxHeartbeats 1000000 in
theorem implAmtSub_any (x y : Amt) (w : World) : Calls Try.prog 41 #[.agg #[.int .i64 x.p, .int .i64 x.r, .int .i64 x.c], .agg #[.int .i64 y.p, .int .i64 y.r, .int .i64 y.c]] w fun e w' => e = .returned (.tuple #[.agg #[.int .i64 ((amtSub x y).1).p, .int .i64 ((amtSub x y).1).r, .int .i64 ((amtSub x y).1).c], .bool (amtSub x y).2]) ∧ Below w.heap.size w w' := by
  go_enter Try.func41, Try.ntmps41
  go_wp2_with fail
  refine (implAmtFits_any y x _).mono ?_
  rintro e w1 ⟨rfl, hb1⟩
  have hb01 := (below_a3 w _ _ _).trans (hb1.mono (by first | exact Nat.le_refl _ | (simp; done) | (simp; omega)))
  obtain ⟨bc1, bf1⟩ := bcell hb1
  have hz1 := hb1.size
  simp only [World.size_alloc] at bc1 bf1 hz1
  have q0 : w.heap.size < w1.heap.size := by omega
  have q1 : w.heap.size + 1 < w1.heap.size := by omega
  have q2 : w.heap.size + 1 + 1 < w1.heap.size := by omega
  cases hx : amtFits y x
  · have HR : Hid (amtSub x y = (x, false)) := hideP (by unfold amtSub; rw [hx]; rfl)
    go_wp2
    refine bodyPost_ret (v := .tuple #[.agg #[.int .i64 x.p, .int .i64 x.r, .int .i64 x.c], .bool false]) (by simp [results, Try.results41, go_sem, bc1]) rfl ⟨by rw [HR.out], ?_⟩
    repeat (refine Below.setCell ?_ (by first | exact Nat.le_refl _ | (simp; done) | (simp; omega)) _)
    exact hb01
  · have HR : Hid (amtSub x y = (⟨x.p - y.p, x.r - y.r, x.c - y.c⟩, true)) := hideP (by unfold amtSub; rw [hx]; rfl)
    obtain ⟨⟨i1, i2⟩, ⟨i3, i4⟩, ⟨i5, i6⟩, j1, j2, j3, j4, j5, j6⟩ := fits_in hx
    clear hx
    go_wp2
    refine bodyPost_ret (v := .tuple #[.agg #[.int .i64 (x.p - y.p), .int .i64 (x.r - y.r), .int .i64 (x.c - y.c)], .bool true]) (by simp [results, Try.results41, go_sem, bc1]) rfl ⟨by rw [HR.out], ?_⟩
    repeat (refine Below.setCell ?_ (by first | exact Nat.le_refl _ | (simp; done) | (simp; omega)) _)
    exact hb01

set_option maxHeartbeats 1000000 in
theorem specAmtSub_any (x y : Amt) (w : World) : Calls Try.prog 49 #[.agg #[.int .i64 x.p, .int .i64 x.r, .int .i64 x.c], .agg #[.int .i64 y.p, .int .i64 y.r, .int .i64 y.c]] w fun e w' => e = .returned (.tuple #[.agg #[.int .i64 ((amtSub x y).1).p, .int .i64 ((amtSub x y).1).r, .int .i64 ((amtSub x y).1).c], .bool (amtSub x y).2]) ∧ Below w.heap.size w w' := by
  go_enter Try.func49, Try.ntmps49
  go_wp2_with fail
  refine (specAmtFits_any y x _).mono ?_
  rintro e w1 ⟨rfl, hb1⟩
  have hb01 := (below_a3 w _ _ _).trans (hb1.mono (by first | exact Nat.le_refl _ | (simp; done) | (simp; omega)))
  obtain ⟨bc1, bf1⟩ := bcell hb1
  have hz1 := hb1.size
  simp only [World.size_alloc] at bc1 bf1 hz1
  have q0 : w.heap.size < w1.heap.size := by omega
  have q1 : w.heap.size + 1 < w1.heap.size := by omega
  have q2 : w.heap.size + 1 + 1 < w1.heap.size := by omega
  cases hx : amtFits y x
  · have HR : Hid (amtSub x y = (x, false)) := hideP (by unfold amtSub; rw [hx]; rfl)
    go_wp2
    refine bodyPost_ret (v := .tuple #[.agg #[.int .i64 x.p, .int .i64 x.r, .int .i64 x.c], .bool false]) (by simp [results, Try.results49, go_sem, bc1]) rfl ⟨by rw [HR.out], ?_⟩
    repeat (refine Below.setCell ?_ (by first | exact Nat.le_refl _ | (simp; done) | (simp; omega)) _)
    exact hb01
  · have HR : Hid (amtSub x y = (⟨x.p - y.p, x.r - y.r, x.c - y.c⟩, true)) := hideP (by unfold amtSub; rw [hx]; rfl)
    obtain ⟨⟨i1, i2⟩, ⟨i3, i4⟩, ⟨i5, i6⟩, j1, j2, j3, j4, j5, j6⟩ := fits_in hx
    clear hx
    go_wp2
    refine bodyPost_ret (v := .tuple #[.agg #[.int .i64 (x.p - y.p), .int .i64 (x.r - y.r), .int .i64 (x.c - y.c)], .bool true]) (by simp [results, Try.results49, go_sem, bc1]) rfl ⟨by rw [HR.out], ?_⟩
    repeat (refine Below.setCell ?_ (by first | exact Nat.le_refl _ | (simp; done) | (simp; omega)) _)
    exact hb01

set_option maxHeartbeats 800000 in
theorem implCopyTree_any (a : Option Addr) (n cap : Nat) (l : List Res) (hn : n = l.length) (hl : n ≤ 1048576) (w : World) (h : Rd w a (l.flatMap Res.enc)) :
    Calls Try.prog 16 #[.slice a n cap] w (OwnRet w 45 5 n (l.flatMap Res.enc)) := by
  have Hn := Lib.hid hn
  clear hn
  obtain ⟨i0, hi, hz0, hz1, hz2⟩ := info_parts Try.infoRes
  go_enter Try.func16, Try.ntmps16
  go_wp2_with (at_builtin; refine wpList_append_acc (w0 := w) rfl _ _ 24 rfl 45 i0 (.agg #[.bool false, .int .i64 0, .int .i64 0, .int .i64 0, .int .i64 0]) 5 40 Try.underlying24 hi hz0 hz1 hz2 rfl (by decide) _ _ _ rfl (Acc.nil (Below.refl _ _) rfl) a n cap (l.flatMap Res.enc) rfl ?c1 (h.below (below_a1 _ _)) ?c2 ?c3 ?c4 ?_)
  case c1 => rw [flat_length Res.enc 5 Res.enc_len, Hn.out]
  case c2 =>
    intro u hu
    obtain ⟨x, _, hx⟩ := List.mem_flatMap.1 hu
    simp [Res.enc] at hx
    rcases hx with rfl | rfl | rfl | rfl | rfl <;> simp [Value.oneCell']
  case c3 => unfold maxLen; omega
  case c4 => omega
  intro v' w' h1 _
  have H1 := Lib.hid h1
  clear h1
  go_wp2
  go_ret
  have h2 := H1.out.ret
  simpa using h2

set_option maxHeartbeats 800000 in
theorem specCopyTree_any (a : Option Addr) (n cap : Nat) (l : List Res) (hn : n = l.length) (hl : n ≤ 1048576) (w : World) (h : Rd w a (l.flatMap Res.enc)) :
    Calls Try.prog 44 #[.slice a n cap] w (OwnRet w 45 5 n (l.flatMap Res.enc)) := by
  have Hn := Lib.hid hn
  clear hn
  obtain ⟨i0, hi, hz0, hz1, hz2⟩ := info_parts Try.infoRes
  go_enter Try.func44, Try.ntmps44
  go_wp2_with (at_builtin; refine wpList_append_acc (w0 := w) rfl _ _ 24 rfl 45 i0 (.agg #[.bool false, .int .i64 0, .int .i64 0, .int .i64 0, .int .i64 0]) 5 40 Try.underlying24 hi hz0 hz1 hz2 rfl (by decide) _ _ _ rfl (Acc.nil (Below.refl _ _) rfl) a n cap (l.flatMap Res.enc) rfl ?c1 (h.below (below_a1 _ _)) ?c2 ?c3 ?c4 ?_)
  case c1 => rw [flat_length Res.enc 5 Res.enc_len, Hn.out]
  case c2 =>
    intro u hu
    obtain ⟨x, _, hx⟩ := List.mem_flatMap.1 hu
    simp [Res.enc] at hx
    rcases hx with rfl | rfl | rfl | rfl | rfl <;> simp [Value.oneCell']
  case c3 => unfold maxLen; omega
  case c4 => omega
  intro v' w' h1 _
  have H1 := Lib.hid h1
  clear h1
  go_wp2
  go_ret
  have h2 := H1.out.ret
  simpa using h2

set_option maxHeartbeats 1000000 in
theorem specAmtAdd_any (x y : Amt) (w : World) : Calls Try.prog 46 #[.agg #[.int .i64 x.p, .int .i64 x.r, .int .i64 x.c], .agg #[.int .i64 y.p, .int .i64 y.r, .int .i64 y.c]] w fun e w' => e = .returned (.tuple #[.agg #[.int .i64 ((amtAddB x y).1).p, .int .i64 ((amtAddB x y).1).r, .int .i64 ((amtAddB x y).1).c], .bool (amtAddB x y).2]) ∧ Below w.heap.size w w' := by
  go_enter Try.func46, Try.ntmps46
  go_wp2_with fail
  refine (specAmtOk_any x _).mono ?_
  rintro e w1 ⟨rfl, hb1⟩
  have hb01 := (below_a3 w _ _ _).trans (hb1.mono (by first | exact Nat.le_refl _ | (simp; done) | (simp; omega)))
  obtain ⟨bc1, bf1⟩ := bcell hb1
  have hz1 := hb1.size
  simp only [World.size_alloc] at bc1 bf1 hz1
  have q0 : w.heap.size < w1.heap.size := by omega
  have q1 : w.heap.size + 1 < w1.heap.size := by omega
  have q2 : w.heap.size + 1 + 1 < w1.heap.size := by omega
  cases hx : amtOk x
  · have HR : Hid (amtAddB x y = (x, false)) := hideP (by unfold amtAddB; rw [hx]; rfl)
    go_wp2
    refine bodyPost_ret (v := .tuple #[.agg #[.int .i64 x.p, .int .i64 x.r, .int .i64 x.c], .bool false]) (by simp [results, Try.results46, go_sem, bc1]) rfl ⟨by rw [HR.out], ?_⟩
    repeat (refine Below.setCell ?_ (by first | exact Nat.le_refl _ | (simp; done) | (simp; omega)) _)
    exact hb01
  go_wp2_with fail
  refine (specAmtOk_any y _).mono ?_
  rintro e w2 ⟨rfl, hb2⟩
  have hb02 := hb01.trans (hb2.mono hb01.size)
  obtain ⟨bc2, bf2⟩ := bcell hb2
  have hz2 := hb2.size
  have p0 : w.heap.size < w2.heap.size := by omega
  have p1 : w.heap.size + 1 < w2.heap.size := by omega
  have p2 : w.heap.size + 1 + 1 < w2.heap.size := by omega
  cases hy : amtOk y
  · have HR : Hid (amtAddB x y = (x, false)) := hideP (by unfold amtAddB; rw [hx, hy]; rfl)
    go_wp2
    refine bodyPost_ret (v := .tuple #[.agg #[.int .i64 x.p, .int .i64 x.r, .int .i64 x.c], .bool false]) (by simp [results, Try.results46, go_sem, bc1, bc2, q2]) rfl ⟨by rw [HR.out], ?_⟩
    repeat (refine Below.setCell ?_ (by first | exact Nat.le_refl _ | (simp; done) | (simp; omega)) _)
    exact hb02
  have HXY : Hid (amtAddB x y = if amtOk (amtAdd x y) then (amtAdd x y, true) else (x, false)) := hideP (by unfold amtAddB; rw [hx, hy]; rfl)
  obtain ⟨⟨x1, x2⟩, ⟨x3, x4⟩, ⟨x5, x6⟩⟩ := amtOk_iff.1 hx
  obtain ⟨⟨y1, y2⟩, ⟨y3, y4⟩, ⟨y5, y6⟩⟩ := amtOk_iff.1 hy
  clear hx hy
  go_wp2_with fail
  refine (specAmtOk_any (amtAdd x y) _).mono ?_
  rintro e w3 ⟨rfl, hb3⟩
  have hb03 := (hb02.alloc hb02.size _).trans (hb3.mono (by have := hb02.size; simp; omega))
  obtain ⟨bc3, bf3⟩ := bcell hb3
  have hz3 := hb3.size
  simp only [World.size_alloc] at bc3 bf3 hz3
  have r0 : w.heap.size < w3.heap.size := by omega
  have r1 : w.heap.size + 1 < w3.heap.size := by omega
  have r2 : w.heap.size + 1 + 1 < w3.heap.size := by omega
  have r3 : w2.heap.size < w3.heap.size := by omega
  have s0 : w.heap.size < w2.heap.size + 1 := by omega
  have s2 : w.heap.size + 1 + 1 < w2.heap.size + 1 := by omega
  have ne1 : w.heap.size ≠ w2.heap.size := by omega
  have ne2 : w.heap.size + 1 + 1 ≠ w2.heap.size := by omega
  cases hxy : amtOk (amtAdd x y)
  · have HR : Hid (amtAddB x y = (x, false)) := hideP (by rw [HXY.out, hxy]; rfl)
    go_wp2
    refine bodyPost_ret (v := .tuple #[.agg #[.int .i64 x.p, .int .i64 x.r, .int .i64 x.c], .bool false]) (by simp [results, Try.results46, go_sem, bc1, bc2, bc3, q2, p2, s2]) rfl ⟨by rw [HR.out], ?_⟩
    repeat (refine Below.setCell ?_ (by first | exact Nat.le_refl _ | (simp; done) | (simp; omega)) _)
    exact hb03
  · have HR : Hid (amtAddB x y = (amtAdd x y, true)) := hideP (by rw [HXY.out, hxy]; rfl)
    go_wp2
    refine bodyPost_ret (v := .tuple #[.agg #[.int .i64 (amtAdd x y).p, .int .i64 (amtAdd x y).r, .int .i64 (amtAdd x y).c], .bool true]) (by simp [results, Try.results46, go_sem, bc1, bc2, bc3, q2, p2, s2, amtAdd]) rfl ⟨by rw [HR.out], ?_⟩
    repeat (refine Below.setCell ?_ (by first | exact Nat.le_refl _ | (simp; done) | (simp; omega)) _)
    exact hb03

end Go.Proofs.Ytcahncppkolkbaa
