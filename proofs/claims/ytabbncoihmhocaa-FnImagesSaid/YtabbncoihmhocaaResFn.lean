/- The small functions of amounts and trees. -/
import Derived.Test.YtabbncoihmhocaaAmount
import Derived.Test.YtabbncoihmhocaaResPure
import Derived.Deep.LoopGhost
namespace Go.Proofs.Ytabbncoihmhocaa
open Go.RowKit


set_option maxHeartbeats 800000 in
theorem implAmtOk_any (x : Amt) (w : World) : Calls Try.prog 49 #[.agg #[.int .i64 x.p, .int .i64 x.r, .int .i64 x.c]] w fun e w' => e = .returned (.bool (amtOk x)) ∧ Below w.heap.size w w' := by
  have hr : amtOk x = (inB x.p 0 1000000 && (inB x.r 0 1000000 && inB x.c 0 1000000)) := rfl
  rw [hr]
  clear hr
  cases t1 : inB x.p 0 1000000
  · go_enter Try.func49, Try.ntmps49
    go_wp2_with (go_at_call 74; refine (isAmount_any _ _).mono ?_; rintro e w' ⟨rfl, rfl⟩)
    go_ret
    exact ⟨rfl, below_a1 _ _⟩
  · cases t2 : inB x.r 0 1000000
    · go_enter Try.func49, Try.ntmps49
      go_wp2_with (go_at_call 74; refine (isAmount_any _ _).mono ?_; rintro e w' ⟨rfl, rfl⟩)
      go_ret
      exact ⟨rfl, below_a1 _ _⟩
    · go_enter Try.func49, Try.ntmps49
      go_wp2_with (go_at_call 74; refine (isAmount_any _ _).mono ?_; rintro e w' ⟨rfl, rfl⟩)
      go_ret
      exact ⟨rfl, below_a1 _ _⟩

set_option maxHeartbeats 800000 in
theorem specAmtOk_any (x : Amt) (w : World) : Calls Try.prog 28 #[.agg #[.int .i64 x.p, .int .i64 x.r, .int .i64 x.c]] w fun e w' => e = .returned (.bool (amtOk x)) ∧ Below w.heap.size w w' := by
  have hr : amtOk x = (inB x.p 0 1000000 && (inB x.r 0 1000000 && inB x.c 0 1000000)) := rfl
  rw [hr]
  clear hr
  cases t1 : inB x.p 0 1000000
  · go_enter Try.func28, Try.ntmps28
    go_wp2_with (go_at_call 53; refine (l5In_any _ _).mono ?_; rintro e w' ⟨rfl, rfl⟩)
    go_ret
    exact ⟨rfl, below_a1 _ _⟩
  · cases t2 : inB x.r 0 1000000
    · go_enter Try.func28, Try.ntmps28
      go_wp2_with (go_at_call 53; refine (l5In_any _ _).mono ?_; rintro e w' ⟨rfl, rfl⟩)
      go_ret
      exact ⟨rfl, below_a1 _ _⟩
    · go_enter Try.func28, Try.ntmps28
      go_wp2_with (go_at_call 53; refine (l5In_any _ _).mono ?_; rintro e w' ⟨rfl, rfl⟩)
      go_ret
      exact ⟨rfl, below_a1 _ _⟩

theorem isPlace_any (n : Int) (w : World) : Calls Try.prog 55 #[.int .i64 n] w fun e w' => e = .returned (.bool (inB n 0 4)) ∧ w = w' := by
  go_enter Try.func55, Try.ntmps55
  go_wp2_with (go_at_call 54; refine (within_any _ _ _ _).mono ?_; rintro e w' ⟨rfl, rfl⟩)
  go_ret
  exact ⟨rfl, rfl⟩

theorem l6Res_any (n : Int) (w : World) : Calls Try.prog 29 #[.int .i64 n] w fun e w' => e = .returned (.bool (inB n 0 4)) ∧ w = w' := by
  go_enter Try.func29, Try.ntmps29
  go_wp2_with (go_at_call 34; refine (l1In_any _ _ _ _).mono ?_; rintro e w' ⟨rfl, rfl⟩)
  go_ret
  exact ⟨rfl, rfl⟩

theorem isLive_any (a : Option Addr) (cap : Nat) (t : List Res) (i : Int) (ht : t.length = 5) (w : World) (h : Rd w a (t.flatMap Res.enc)) :
    Calls Try.prog 75 #[.slice a 5 cap, .int .i64 i] w fun e w' => e = .returned (.bool (isLiveB t i)) ∧ w = w' := by
  have Ht := Lib.hid ht
  clear ht
  cases t1 : inB i 0 4
  · have HR : Hid (isLiveB t i = false) := hideP (by unfold isLiveB; rw [t1]; rfl)
    go_enter Try.func75, Try.ntmps75
    go_wp2_with (go_at_call 55; refine (isPlace_any _ _).mono ?_; rintro e w' ⟨rfl, rfl⟩)
    go_ret
    exact ⟨ret_bool HR.out.symm, rfl⟩
  · have hb := inB_true.1 t1
    obtain ⟨k, rfl⟩ := Int.eq_ofNat_of_zero_le hb.1
    obtain ⟨x, hx⟩ := some_at (l := t) (k := k) (by have := Ht.out; omega)
    have HR : Hid (isLiveB t (k : Int) = x.live) := hideP (by unfold isLiveB; rw [t1, resAt_get hx]; rfl)
    obtain ⟨b, o, rfl, hbw, g1, g2, g3, g4, g5⟩ := h.rowRes hx
    have hk : k < 5 := by omega
    clear hb hx
    go_enter Try.func75, Try.ntmps75
    go_wp2_with (go_at_call 55; refine (isPlace_any _ _).mono ?_; rintro e w' ⟨rfl, rfl⟩)
    go_ret
    exact ⟨ret_bool HR.out.symm, rfl⟩
theorem leadsUpB_s (t : List Res) (f : Nat) (i : Int) : leadsUpB t (f + 1) i = if i = 0 then true else if isLiveB t i = true then leadsUpB t f (resAt t i).par else false := rfl
theorem live_place {t : List Res} {i : Int} (h : isLiveB t i = true) : 0 ≤ i ∧ i ≤ 4 := by
  unfold isLiveB at h
  rw [Bool.and_eq_true, inB_true] at h
  exact h.1

set_option maxHeartbeats 800000 in
theorem leadsUp_any (a : Option Addr) (cap : Nat) (t : List Res) (i : Int) (ht : t.length = 5) (w : World) (h : Rd w a (t.flatMap Res.enc)) :
    Calls Try.prog 50 #[.slice a 5 cap, .int .i64 i] w fun e w' => e = .returned (.bool (leadsUpB t 5 i)) ∧ w = w' := by
  have Ht := Lib.hid ht
  clear ht
  go_enter Try.func50, Try.ntmps50
  go_wp2
  go_loopg [5, 1] 6 (fun gk c iv wr => ∃ (k : Nat) (j : Int), 5 < gk + k ∧ k ≤ 5 ∧ c = .int .i64 k ∧ iv = .int .i64 j ∧ Hid (leadsUpB t 5 i = leadsUpB t (5 - k) j) ∧ w = wr)
  case atStart => exact ⟨0, i, by omega, by omega, rfl, rfl, hideP rfl, rfl⟩
  case round =>
    obtain ⟨k, j, hgk, hk, rfl, rfl, hl, rfl⟩ := hrel
    by_cases hlt : k < 5
    · obtain ⟨m, hm⟩ : ∃ m, 5 - k = m + 1 := ⟨4 - k, by omega⟩
      have hm' : 5 - (k + 1) = m := by omega
      have hl' := (hl.out.trans (by rw [hm])).trans (leadsUpB_s t m j)
      have Hm := Lib.hid hm'
      clear hm hm' hl
      by_cases h0 : j = 0
      · rw [if_pos h0] at hl'
        have HL := Lib.hid hl'
        have d0 : (j == 0) = true := by simpa using h0
        clear hl' h0
        go_wp2
        go_ret
        exact ⟨ret_bool HL.out.symm, rfl⟩
      · rw [if_neg h0] at hl'
        have d0 : (j == 0) = false := by simpa using h0
        clear h0
        cases hv : isLiveB t j
        · rw [hv, if_neg (by decide)] at hl'
          have HL := Lib.hid hl'
          clear hl'
          go_wp2_with fail
          refine (isLive_any _ _ t j Ht.out _ h).mono ?_
          rintro e w' ⟨rfl, rfl⟩
          rw [hv]
          go_wp2
          go_ret
          exact ⟨ret_bool HL.out.symm, rfl⟩
        · rw [hv, if_pos rfl] at hl'
          have hp := live_place hv
          obtain ⟨q, rfl⟩ := Int.eq_ofNat_of_zero_le hp.1
          obtain ⟨x, hx⟩ := some_at (l := t) (k := q) (by have := Ht.out; omega)
          rw [resAt_get hx, ← Hm.out] at hl'
          obtain ⟨b, o, ha, hbw, g1, g2, g3, g4, g5⟩ := h.rowRes hx
          have HL := Lib.hid hl'
          have Hv := Lib.hid hv
          have hq5 : q < 5 := by omega
          subst ha
          clear hl' hx hp hv
          go_wp2_with fail
          refine (isLive_any _ _ t _ Ht.out _ h).mono ?_
          rintro e w' ⟨rfl, rfl⟩
          rw [Hv.out]
          go_wp2
          go_roundg (gk - 1)
          case measure => omega
          case rel => exact ⟨k + 1, x.par, by omega, by omega, by go_num, rfl, HL, rfl⟩
    · have hk5 : k = 5 := by omega
      subst hk5
      go_wp2
      go_ret
      exact ⟨ret_bool hl.out.symm, rfl⟩

def Small (x : Amt) : Prop := (-1000000000000 ≤ x.p ∧ x.p ≤ 1000000000000) ∧ (-1000000000000 ≤ x.r ∧ x.r ≤ 1000000000000) ∧ (-1000000000000 ≤ x.c ∧ x.c ≤ 1000000000000)
set_option maxHeartbeats 800000 in
theorem sumOf_any (x y : Amt) (hx : Small x) (hy : Small y) (w : World) :
    Calls Try.prog 51 #[.agg #[.int .i64 x.p, .int .i64 x.r, .int .i64 x.c], .agg #[.int .i64 y.p, .int .i64 y.r, .int .i64 y.c]] w fun e w' => e = .returned (.agg #[.int .i64 (x.p + y.p), .int .i64 (x.r + y.r), .int .i64 (x.c + y.c)]) ∧ Below w.heap.size w w' := by
  obtain ⟨⟨x1, x2⟩, ⟨x3, x4⟩, ⟨x5, x6⟩⟩ := hx
  obtain ⟨⟨y1, y2⟩, ⟨y3, y4⟩, ⟨y5, y6⟩⟩ := hy
  go_enter Try.func51, Try.ntmps51
  go_wp2
  refine bodyPost_ret (v := .agg #[.int .i64 (x.p + y.p), .int .i64 (x.r + y.r), .int .i64 (x.c + y.c)]) (by simp [results, Try.results51, go_sem]) rfl ⟨rfl, ?_⟩
  repeat (refine Below.setCell ?_ (by first | exact Nat.le_refl _ | (simp; done) | (simp; omega)) _)
  repeat (refine Below.alloc ?_ (by first | exact Nat.le_refl _ | (simp; done) | (simp; omega)) _)
  exact Below.refl _ _

end Go.Proofs.Ytabbncoihmhocaa
