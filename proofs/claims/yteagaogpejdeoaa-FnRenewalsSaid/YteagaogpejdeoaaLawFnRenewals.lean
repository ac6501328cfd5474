/- The walk of FnRenewals. -/
import Derived.Test.YteagaogpejdeoaaDrawPick
import Derived.Test.YteagaogpejdeoaaRenew
namespace Go.Proofs.Yteagaogpejdeoaa
open Go.RowKit

theorem renew_each {s w : Int} (hs : 1 ≤ s) : ∀ (f : Nat) (u : Int) (i : Nat) (x : Int), (renew s w f u)[i]? = some x → 1 ≤ x ∧ x ≤ s ∧ (i + 1 < (renew s w f u).length → x = s)
  | 0, u, i, x, h => by simp [renew] at h
  | f + 1, u, i, x, h => by
    unfold renew at h ⊢
    by_cases hu : u < w
    · rw [if_pos hu] at h ⊢
      cases i with
      | zero =>
        simp only [List.getElem?_cons_zero, Option.some.injEq] at h
        subst h
        by_cases hd : w - u < s
        · rw [if_pos hd]
          refine ⟨by omega, by omega, fun hl => ?_⟩
          exfalso
          have : (renew s w f (u + (w - u))).length = 0 := by
            cases f with
            | zero => simp [renew]
            | succ f => simp [renew]; omega
          simp only [List.length_cons] at hl
          omega
        · rw [if_neg hd]
          exact ⟨hs, Int.le_refl _, fun _ => rfl⟩
      | succ i =>
        simp only [List.getElem?_cons_succ] at h
        have := renew_each (w := w) hs f _ i x h
        refine ⟨this.1, this.2.1, fun hl => this.2.2 ?_⟩
        simp only [List.length_cons] at hl
        omega
    · rw [if_neg hu] at h; simp at h

theorem renew_sum {s w : Int} (hs : 1 ≤ s) : ∀ (f : Nat) (u : Int), (u < w → u + (renew s w f u).sum ≤ w ∧ ((renew s w f u).length < f → u + (renew s w f u).sum = w)) ∧ (w ≤ u → renew s w f u = [])
  | 0, u => by refine ⟨fun h => ⟨by simp [renew]; omega, fun hl => by simp [renew] at hl⟩, fun _ => rfl⟩
  | f + 1, u => by
    refine ⟨fun hu => ?_, fun hu => by unfold renew; rw [if_neg (show ¬ (u < w) from by omega)]⟩
    unfold renew
    rw [if_pos hu]
    by_cases hd : w - u < s
    · rw [if_pos hd]
      have := (renew_sum (w := w) hs f (u + (w - u))).2 (by omega)
      rw [this]
      simp only [List.sum_cons, List.sum_nil, List.length_cons, List.length_nil]
      omega
    · rw [if_neg hd]
      simp only [List.sum_cons, List.length_cons]
      by_cases he : u + s < w
      · have := (renew_sum (w := w) hs f (u + s)).1 he
        refine ⟨by omega, fun hl => by have := this.2 (by omega); omega⟩
      · have := (renew_sum (w := w) hs f (u + s)).2 (by omega)
        rw [this]
        simp only [List.sum_nil]
        omega

theorem sum_step {l : List Int} {k : Nat} {x acc : Int} (h : l.sum = acc + (l.drop k).sum) (hx : l[k]? = some x) : l.sum = (acc + x) + (l.drop (k + 1)).sum := by
  rw [h, drop_cons hx, List.sum_cons]; omega

theorem big_any (a : Option Addr) (n cap : Nat) (w : World) (hn : n ≤ maxLen) : Calls Try.prog 18 #[.slice a n cap] w fun e w' => e = .returned (.bool (decide (1048576 < n))) ∧ w = w' := by
  unfold maxLen at hn
  go_enter Try.func18, Try.ntmps18
  go_wp2
  go_ret
  exact ⟨ret_bool (by simp; omega), rfl⟩

set_option maxRecDepth 100000 in
set_option maxHeartbeats 2000000 in
theorem lawFnRenewals_walk (a : Option Addr) (n cap : Nat) (l : List UInt8) (hn : n = l.length) (hl : n ≤ maxLen) (w : World) (h : Rd w a (byteCells l)) :
    Calls Try.prog 4 #[.slice a n cap] w fun e w' => e = .returned (.bool true) ∧ Below w.heap.size w w' := by
  have Hn := Lib.hid hn
  clear hn
  by_cases hs : n ≤ 1048576
  · have d0 : decide (1048576 < n) = false := by simpa using hs
    go_enter Try.func4, Try.ntmps4
    go_wp2_with fail
    refine (big_any _ _ _ _ hl).mono ?_
    rintro e w' ⟨rfl, rfl⟩
    rw [d0]
    go_wp2_with fail
    refine (drawRenewals_any _ _ _ l Hn.out hs _ h).mono ?_
    rintro e w1 ⟨u, v, s, rfl, ⟨u0, u1⟩, ⟨v0, v1⟩, ⟨s0, s1⟩, hb1⟩
    go_wp2_with fail
    refine (implRenewals_any u v s _).mono ?_
    rintro e w2 ⟨r, rfl, ho2, hb2⟩
    obtain ⟨ra, rc, rfl, _⟩ := owns_slice ho2
    have hr2 := hideP (rd_of_owns ho2)
    have hb := hb1.trans (hb2.mono hb1.size)
    clear ho2 hb1 hb2
    by_cases hin : (inB u 0 1000000 && (inB v 0 1000000 && inB s 1 1000)) = true
    · have hre : renewals u v s = renew s v 100 u := by rw [renewals, if_pos hin]
      simp only [Bool.and_eq_true, inB_true] at hin
      have H1 := hideP (renew_each (s := s) (w := v) (by omega) 100 u)
      have H2 := hideP (renew_sum (s := s) (w := v) (by omega) 100 u)
      have H3 := hideP (renew_length s v 100 u)
      rw [hre] at hr2 ⊢
      clear hre
      generalize renew s v 100 u = ls at hr2 H1 H2 H3 ⊢
      obtain ⟨⟨i1, i2⟩, ⟨i3, i4⟩, i5, i6⟩ := hin
      have h100 : ls.length ≤ 100 := H3.out
      generalize hm : ls.length = m at h100 H1 H2 ⊢
      have Hm := Lib.hid hm
      clear hm
      go_wp2
      go_loopg [7, 8] (m + 1) (fun gk sm i wr => ∃ (k : Nat) (acc : Int), m - k < gk ∧ k ≤ m ∧ i = .int .i64 k ∧ sm = .int .i64 acc ∧ 0 ≤ acc ∧ acc ≤ k * 1000 ∧ Hid (ls.sum = acc + (ls.drop k).sum) ∧ w2 = wr)
      case atStart => exact ⟨0, 0, by omega, by omega, rfl, rfl, by omega, by omega, hideP (by simp), rfl⟩
      case round =>
        obtain ⟨k, acc, hgk, hk, rfl, rfl, ha0, ha1, hf, rfl⟩ := hrel
        by_cases hlt : k < m
        · obtain ⟨x, hx⟩ := some_at (l := ls) (k := k) (by have := Hm.out; omega)
          obtain ⟨b, o, ha, hbw, g1⟩ := hr2.out.rowInt hx
          obtain ⟨x1, x2, x3⟩ := H1.out k x hx
          have Hs := Lib.hid (sum_step hf.out hx)
          subst ha
          clear hx
          by_cases hl1 : k + 1 < m
          · have hxs := x3 (by have := Hm.out; omega)
            have d1 : (x != s) = false := by simp [hxs]
            have d1' : (x == s) = true := by simp [hxs]
            clear hxs x3
            go_wp2
            go_roundg (gk - 1)
            case measure => omega
            case rel => exact ⟨k + 1, acc + x, by omega, by omega, by go_num, rfl, by omega, by omega, Hs, rfl⟩
          · clear x3
            go_wp2
            go_roundg (gk - 1)
            case measure => omega
            case rel => exact ⟨k + 1, acc + x, by omega, by omega, by go_num, rfl, by omega, by omega, Hs, rfl⟩
        · have hsum : ls.sum = acc := by rw [hf.out, List.drop_eq_nil_of_le (by have := Hm.out; omega)]; simp
          have Hsum := Lib.hid hsum
          clear hsum
          by_cases h99 : m < 100
          · have d2 : ((m : Int) == 100) = false := by simp; omega
            by_cases huv : u < v
            · have e : u + acc = v := by
                have h2 := H2.out
                rw [Hsum.out] at h2
                exact (h2.1 huv).2 h99
              have d3 : (u + acc == v) = true := by simpa using e
              have d4 : u + acc ≤ v := by omega
              clear e
              go_wp2
              all_goals (go_ret; exact ⟨rfl, hb⟩)
            · have e : acc = 0 := by
                have := H2.out.2 (by omega)
                have e := Hsum.out
                rw [this] at e
                simpa using e.symm
              subst e
              go_wp2
              all_goals (go_ret; exact ⟨rfl, hb⟩)
          · have hle : u + acc ≤ v := by
              have h2 := H2.out
              rw [Hsum.out] at h2
              by_cases huv : u < v
              · exact (h2.1 huv).1
              · have := h2.2 (by omega)
                have e := Hm.out
                rw [this] at e
                simp at e
                omega
            have d2 : ((m : Int) == 100) = true := by simp; omega
            go_wp2
            all_goals (go_ret; exact ⟨rfl, hb⟩)
    · have hre : renewals u v s = [] := by rw [renewals, if_neg hin]
      have hc : u < 0 ∨ 1000000 < u ∨ v < 0 ∨ 1000000 < v ∨ s < 1 ∨ 1000 < s := by
        simp only [Bool.and_eq_true, inB_true] at hin
        omega
      rw [hre]
      clear hre hin
      rcases hc with hc | hc | hc | hc | hc | hc
      all_goals
        go_wp2
        all_goals (go_ret; exact ⟨rfl, hb⟩)
  · have d0 : decide (1048576 < n) = true := by simpa using hs
    go_enter Try.func4, Try.ntmps4
    go_wp2_with fail
    refine (big_any _ _ _ _ hl).mono ?_
    rintro e w' ⟨rfl, rfl⟩
    rw [d0]
    go_wp2
    go_ret
    exact ⟨rfl, Below.refl _ _⟩
end Go.Proofs.Yteagaogpejdeoaa
