/- AmtAdd of both sides. -/
import Derived.Test.YtnchmenpgmlpdaaResFn
import Derived.Test.YtnchmenpgmlpdaaApp
namespace Go.Proofs.Ytnchmenpgmlpdaa
open Go.RowKit

def amtAddB (x y : Amt) : Amt × Bool := if amtOk x && (amtOk y && amtOk (amtAdd x y)) then (amtAdd x y, true) else (x, false)
theorem amtOk_iff' {a : Amt} : amtOk a = true ↔ (0 ≤ a.p ∧ a.p ≤ 1000000) ∧ (0 ≤ a.r ∧ a.r ≤ 1000000) ∧ (0 ≤ a.c ∧ a.c ≤ 1000000) := by
  unfold amtOk okN
  simp only [Bool.and_eq_true, inB_true]
set_option maxHeartbeats 1000000 in
theorem specAmtAdd_any (x y : Amt) (w : World) : Calls Try.prog 83 #[.agg #[.int .i64 x.p, .int .i64 x.r, .int .i64 x.c], .agg #[.int .i64 y.p, .int .i64 y.r, .int .i64 y.c]] w fun e w' => e = .returned (.tuple #[.agg #[.int .i64 ((amtAddB x y).1).p, .int .i64 ((amtAddB x y).1).r, .int .i64 ((amtAddB x y).1).c], .bool (amtAddB x y).2]) ∧ Below w.heap.size w w' := by
  go_enter Try.func83, Try.ntmps83
  go_wp2_with fail
  refine (specAmtOk_any x _).mono ?_
  rintro e w1 ⟨rfl, hb1⟩
  have hb01 := (below_a3 w _ _ _).trans (hb1.mono (by first | exact Nat.le_refl _ | (simp; done) | (simp; omega)))
  obtain ⟨bc1, bf1⟩ := bcell hb1
  have hz1 := hb1.size
  simp only [World.size_alloc] at bc1 bf1 hz1
  have q0 : w.heap.size < w1.heap.size := by omega
  have q1 : w.heap.size + 1 < w1.heap.size := by omega
  have q2 : w.heap.size + 1 + 1 < w1.heap.size := by omega
  cases hx : amtOk x
  · have HR : Hid (amtAddB x y = (x, false)) := hideP (by unfold amtAddB; rw [hx]; rfl)
    go_wp2
    refine bodyPost_ret (v := .tuple #[.agg #[.int .i64 x.p, .int .i64 x.r, .int .i64 x.c], .bool false]) (by simp [results, Try.results83, go_sem, bc1]) rfl ⟨by rw [HR.out], ?_⟩
    repeat (refine Below.setCell ?_ (by first | exact Nat.le_refl _ | (simp; done) | (simp; omega)) _)
    exact hb01
  go_wp2_with fail
  refine (specAmtOk_any y _).mono ?_
  rintro e w2 ⟨rfl, hb2⟩
  have hb02 := hb01.trans (hb2.mono hb01.size)
  obtain ⟨bc2, bf2⟩ := bcell hb2
  have hz2 := hb2.size
  have p0 : w.heap.size < w2.heap.size := by omega
  have p1 : w.heap.size + 1 < w2.heap.size := by omega
  have p2 : w.heap.size + 1 + 1 < w2.heap.size := by omega
  cases hy : amtOk y
  · have HR : Hid (amtAddB x y = (x, false)) := hideP (by unfold amtAddB; rw [hx, hy]; rfl)
    go_wp2
    refine bodyPost_ret (v := .tuple #[.agg #[.int .i64 x.p, .int .i64 x.r, .int .i64 x.c], .bool false]) (by simp [results, Try.results83, go_sem, bc1, bc2, q2]) rfl ⟨by rw [HR.out], ?_⟩
    repeat (refine Below.setCell ?_ (by first | exact Nat.le_refl _ | (simp; done) | (simp; omega)) _)
    exact hb02
  have HXY : Hid (amtAddB x y = if amtOk (amtAdd x y) then (amtAdd x y, true) else (x, false)) := hideP (by unfold amtAddB; rw [hx, hy]; rfl)
  obtain ⟨⟨x1, x2⟩, ⟨x3, x4⟩, ⟨x5, x6⟩⟩ := amtOk_iff'.1 hx
  obtain ⟨⟨y1, y2⟩, ⟨y3, y4⟩, ⟨y5, y6⟩⟩ := amtOk_iff'.1 hy
  clear hx hy
  go_wp2_with fail
  refine (specAmtOk_any (amtAdd x y) _).mono ?_
  rintro e w3 ⟨rfl, hb3⟩
  have hb03 := (hb02.alloc hb02.size _).trans (hb3.mono (by have := hb02.size; simp; omega))
  obtain ⟨bc3, bf3⟩ := bcell hb3
  have hz3 := hb3.size
  simp only [World.size_alloc] at bc3 bf3 hz3
  have r0 : w.heap.size < w3.heap.size := by omega
  have r1 : w.heap.size + 1 < w3.heap.size := by omega
  have r2 : w.heap.size + 1 + 1 < w3.heap.size := by omega
  have r3 : w2.heap.size < w3.heap.size := by omega
  have s0 : w.heap.size < w2.heap.size + 1 := by omega
  have s2 : w.heap.size + 1 + 1 < w2.heap.size + 1 := by omega
  have ne1 : w.heap.size ≠ w2.heap.size := by omega
  have ne2 : w.heap.size + 1 + 1 ≠ w2.heap.size := by omega
  cases hxy : amtOk (amtAdd x y)
  · have HR : Hid (amtAddB x y = (x, false)) := hideP (by rw [HXY.out, hxy]; rfl)
    go_wp2
    refine bodyPost_ret (v := .tuple #[.agg #[.int .i64 x.p, .int .i64 x.r, .int .i64 x.c], .bool false]) (by simp [results, Try.results83, go_sem, bc1, bc2, bc3, q2, p2, s2]) rfl ⟨by rw [HR.out], ?_⟩
    repeat (refine Below.setCell ?_ (by first | exact Nat.le_refl _ | (simp; done) | (simp; omega)) _)
    exact hb03
  · have HR : Hid (amtAddB x y = (amtAdd x y, true)) := hideP (by rw [HXY.out, hxy]; rfl)
    go_wp2
    refine bodyPost_ret (v := .tuple #[.agg #[.int .i64 (amtAdd x y).p, .int .i64 (amtAdd x y).r, .int .i64 (amtAdd x y).c], .bool true]) (by simp [results, Try.results83, go_sem, bc1, bc2, bc3, q2, p2, s2, amtAdd]) rfl ⟨by rw [HR.out], ?_⟩
    repeat (refine Below.setCell ?_ (by first | exact Nat.le_refl _ | (simp; done) | (simp; omega)) _)
    exact hb03
set_option maxRecDepth 100000 in
set_option maxHeartbeats 4000000 in
theorem implAmtAdd_any (x y : Amt) (w : World) : Calls Try.prog 128 #[.agg #[.int .i64 x.p, .int .i64 x.r, .int .i64 x.c], .agg #[.int .i64 y.p, .int .i64 y.r, .int .i64 y.c]] w fun e w' => e = .returned (.tuple #[.agg #[.int .i64 ((amtAddB x y).1).p, .int .i64 ((amtAddB x y).1).r, .int .i64 ((amtAddB x y).1).c], .bool (amtAddB x y).2]) ∧ Below w.heap.size w w' := by
  go_enter Try.func128, Try.ntmps128
  go_wp2_with fail
  refine (implAmtOk_any x _).mono ?_
  rintro e w1 ⟨rfl, hb1⟩
  have hb01 := (below_a3 w _ _ _).trans (hb1.mono (by first | exact Nat.le_refl _ | (simp; done) | (simp; omega)))
  obtain ⟨bc1, bf1⟩ := bcell hb1
  have hz1 := hb1.size
  simp only [World.size_alloc] at bc1 bf1 hz1
  have q0 : w.heap.size < w1.heap.size := by omega
  have q1 : w.heap.size + 1 < w1.heap.size := by omega
  have q2 : w.heap.size + 1 + 1 < w1.heap.size := by omega
  cases hx : amtOk x
  · have HR : Hid (amtAddB x y = (x, false)) := hideP (by unfold amtAddB; rw [hx]; rfl)
    go_wp2
    refine bodyPost_ret (v := .tuple #[.agg #[.int .i64 x.p, .int .i64 x.r, .int .i64 x.c], .bool false]) (by simp [results, Try.results128, go_sem, bc1]) rfl ⟨by rw [HR.out], ?_⟩
    repeat (refine Below.setCell ?_ (by first | exact Nat.le_refl _ | (simp; done) | (simp; omega)) _)
    exact hb01
  go_wp2_with fail
  refine (implAmtOk_any y _).mono ?_
  rintro e w2 ⟨rfl, hb2⟩
  have hb02 := hb01.trans (hb2.mono hb01.size)
  obtain ⟨bc2, bf2⟩ := bcell hb2
  have hz2 := hb2.size
  have p0 : w.heap.size < w2.heap.size := by omega
  have p1 : w.heap.size + 1 < w2.heap.size := by omega
  have p2 : w.heap.size + 1 + 1 < w2.heap.size := by omega
  cases hy : amtOk y
  · have HR : Hid (amtAddB x y = (x, false)) := hideP (by unfold amtAddB; rw [hx, hy]; rfl)
    go_wp2
    refine bodyPost_ret (v := .tuple #[.agg #[.int .i64 x.p, .int .i64 x.r, .int .i64 x.c], .bool false]) (by simp [results, Try.results128, go_sem, bc1, bc2, q2]) rfl ⟨by rw [HR.out], ?_⟩
    repeat (refine Below.setCell ?_ (by first | exact Nat.le_refl _ | (simp; done) | (simp; omega)) _)
    exact hb02
  have HXY : Hid (amtAddB x y = if amtOk (amtAdd x y) then (amtAdd x y, true) else (x, false)) := hideP (by unfold amtAddB; rw [hx, hy]; rfl)
  have sx : Small x := by have := amtOk_iff'.1 hx; unfold Small; omega
  have sy : Small y := by have := amtOk_iff'.1 hy; unfold Small; omega
  clear hx hy
  go_wp2_with fail
  refine (sumOf_any x y sx sy _).mono ?_
  rintro e w3 ⟨rfl, hb3⟩
  have hb03 := hb02.trans (hb3.mono hb02.size)
  obtain ⟨bc3, bf3⟩ := bcell hb3
  have hz3 := hb3.size
  have r0 : w.heap.size < w3.heap.size := by omega
  have r1 : w.heap.size + 1 < w3.heap.size := by omega
  have r2 : w.heap.size + 1 + 1 < w3.heap.size := by omega
  go_wp2_with fail
  refine (implAmtOk_any (amtAdd x y) _).mono ?_
  rintro e w4 ⟨rfl, hb4⟩
  have hb04 := hb03.trans (hb4.mono hb03.size)
  obtain ⟨bc4, bf4⟩ := bcell hb4
  have hz4 := hb4.size
  have t0 : w.heap.size < w4.heap.size := by omega
  have t1 : w.heap.size + 1 < w4.heap.size := by omega
  have t2 : w.heap.size + 1 + 1 < w4.heap.size := by omega
  cases hxy : amtOk (amtAdd x y)
  · have HR : Hid (amtAddB x y = (x, false)) := hideP (by rw [HXY.out, hxy]; rfl)
    go_wp2
    refine bodyPost_ret (v := .tuple #[.agg #[.int .i64 x.p, .int .i64 x.r, .int .i64 x.c], .bool false]) (by simp [results, Try.results128, go_sem, bc1, bc2, bc3, bc4, q2, p2, r2]) rfl ⟨by rw [HR.out], ?_⟩
    repeat (refine Below.setCell ?_ (by first | exact Nat.le_refl _ | (simp; done) | (simp; omega)) _)
    exact hb04
  · have HR : Hid (amtAddB x y = (amtAdd x y, true)) := hideP (by rw [HXY.out, hxy]; rfl)
    go_wp2_with fail
    refine (sumOf_any x y sx sy _).mono ?_
    rintro e w5 ⟨rfl, hb5⟩
    have hb05 := hb04.trans (hb5.mono hb04.size)
    obtain ⟨bc5, bf5⟩ := bcell hb5
    have hz5 := hb5.size
    have v0 : w.heap.size < w5.heap.size := by omega
    have v1 : w.heap.size + 1 < w5.heap.size := by omega
    have v2 : w.heap.size + 1 + 1 < w5.heap.size := by omega
    go_wp2
    refine bodyPost_ret (v := .tuple #[.agg #[.int .i64 (amtAdd x y).p, .int .i64 (amtAdd x y).r, .int .i64 (amtAdd x y).c], .bool true]) (by simp [results, Try.results128, go_sem, bc1, bc2, bc3, bc4, bc5, q2, p2, r2, t2, amtAdd]) rfl ⟨by rw [HR.out], ?_⟩
    repeat (refine Below.setCell ?_ (by first | exact Nat.le_refl _ | (simp; done) | (simp; omega)) _)
    exact hb05

end Go.Proofs.Ytnchmenpgmlpdaa
