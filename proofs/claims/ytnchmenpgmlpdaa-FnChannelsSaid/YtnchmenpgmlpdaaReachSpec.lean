/- CanReach: the walk of one side. -/
import Derived.Test.YtnchmenpgmlpdaaReachPure
namespace Go.Proofs.Ytnchmenpgmlpdaa
open Go.RowKit

set_option maxRecDepth 100000 in
set_option maxHeartbeats 2000000 in
theorem specCanReach_no (n : Int) (a : Option Addr) (m cap : Nat) (l : List Chan) (fr to : Int) (hm : m = l.length) (hl : m ≤ 1048576) (w : World)
    (hin : ¬ (inB n 1 20 && (inB fr 0 (n - 1) && (inB to 0 (n - 1) && decide (l.length ≤ 400)))) = true) :
    Calls Try.prog 135 #[.int .i64 n, .slice a m cap, .int .i64 fr, .int .i64 to] w fun e w' => e = .returned (.bool (canReach n l fr to)) ∧ Below w.heap.size w w' := by
  have Hm := Lib.hid hm
  clear hm
  have hr : canReach n l fr to = false := by rw [canReach, if_neg hin]
  rw [hr]
  clear hr
  cases t1 : inB n 1 20
  · clear hin
    go_enter Try.func135, Try.ntmps135
    go_wp2_with (go_at_call 84; refine (l1In_any _ _ _ _).mono ?_; rintro e w' ⟨rfl, rfl⟩)
    go_ret
    exact ⟨rfl, Below.refl _ _⟩
  · have hn1 := inB_true.1 t1
    cases t2 : inB fr 0 (n - 1)
    · clear hin
      go_enter Try.func135, Try.ntmps135
      go_wp2_with (go_at_call 84; refine (l1In_any _ _ _ _).mono ?_; rintro e w' ⟨rfl, rfl⟩)
      go_ret
      exact ⟨rfl, Below.refl _ _⟩
    · cases t3 : inB to 0 (n - 1)
      · clear hin
        go_enter Try.func135, Try.ntmps135
        go_wp2_with (go_at_call 84; refine (l1In_any _ _ _ _).mono ?_; rintro e w' ⟨rfl, rfl⟩)
        go_ret
        exact ⟨rfl, Below.refl _ _⟩
      · have t4 : 400 < m := by
          have hm0 := Hm.out
          rw [t1, t2, t3] at hin
          simp at hin
          omega
        clear hin
        go_enter Try.func135, Try.ntmps135
        go_wp2_with (go_at_call 84; refine (l1In_any _ _ _ _).mono ?_; rintro e w' ⟨rfl, rfl⟩)
        go_ret
        exact ⟨rfl, Below.refl _ _⟩

set_option maxRecDepth 100000 in
set_option maxHeartbeats 4000000 in
theorem specCanReach_yes (N : Nat) (a : Option Addr) (m cap : Nat) (l : List Chan) (Fr To : Nat) (hm : m = l.length) (hl : m ≤ 400) (w : World) (h : Rd w a (l.flatMap Chan.enc))
    (hN1 : 1 ≤ N) (hN : N ≤ 20) (hFr : Fr < N) (hTo : To < N) :
    Calls Try.prog 135 #[.int .i64 N, .slice a m cap, .int .i64 Fr, .int .i64 To] w fun e w' => e = .returned (.bool ((riter (N : Int) l N ((List.replicate N false).set Fr true)).getD To false)) ∧ Below w.heap.size w w' := by
  have Hm := Lib.hid hm
  clear hm
  obtain ⟨i0, hi, hz0, hz1, hz2⟩ := info_parts Try.infoBool
  have t1 : inB (N : Int) 1 20 = true := inB_true.2 (by omega)
  have t2 : inB (Fr : Int) 0 ((N : Int) - 1) = true := inB_true.2 (by omega)
  have t3 : inB (To : Int) 0 ((N : Int) - 1) = true := inB_true.2 (by omega)
  have cnt0 : ((List.replicate N false).set Fr true).count true = 1 := by
    rw [count_set (by simpa using hFr) (by simp [List.getD_eq_getElem?_getD, hFr])]
    simp [List.count_replicate]
  generalize hT : riter (N : Int) l N ((List.replicate N false).set Fr true) = T
  have HTT := Lib.hid hT
  have Cnt0 := Lib.hid cnt0
  clear hT cnt0
  go_enter Try.func135, Try.ntmps135
  go_wp2_with (first | (go_at_call 84; refine (l1In_any _ _ _ _).mono ?_; rintro e w' ⟨rfl, rfl⟩) | (at_make; refine wpList_make_full _ rfl _ _ 118 rfl w.heap.size 4 i0 (.bool false) 1 Try.underlying118 hi hz0 hz1 .i64 .i64 _ _ N rfl rfl rfl rfl ?c1 ?c2 (Nat.le_refl _) ?_))
  case c1 => rw [hz2]; omega
  case c2 => unfold maxLen; omega
  intro w1 hown hg
  have hmk : Marks w1 w.heap.size N (List.replicate N false) := ⟨by simp, by
    have := hown
    rw [toList_madeCells_one] at this
    rw [List.map_replicate]; exact this⟩
  have hb1 := (Below.refl w.heap.size w).grown hg (Nat.le_refl _) (by simp)
  have hs1 := hmk.lt
  have c1 := hmk.cell hFr (v := false) (by simp [List.getD_eq_getElem?_getD, hFr])
  have c2 := hmk.frozen Fr
  have Hmk := Lib.hid hmk
  clear hmk hown hg
  go_wp2
  have hmk0 := hideP (Hmk.out.set Fr true)
  have hb0 := hb1.setCell (p := ⟨w.heap.size, Fr, none⟩) (Nat.le_refl _) (.bool true)
  have hs0 : w.heap.size < (w1.setCell ⟨w.heap.size, Fr, none⟩ (.bool true)).heap.size := by simpa using hs1
  clear c1 c2
  have HTT' := HTT.out
  subst HTT'
  clear HTT
  have cnt0 := Cnt0.out
  generalize hT : riter (N : Int) l N ((List.replicate N false).set Fr true) = T
  have HTT := Lib.hid hT
  clear hT
  go_loopg [10] (N + 2) (fun gk i wr => ∃ (j : Nat) (r : List Bool), N - j < gk ∧ j ≤ N ∧ i = .int .i64 j ∧ Hid (Marks wr w.heap.size N r) ∧ Hid (riter (N : Int) l (N - j) r = T) ∧ Below w.heap.size w wr ∧ w.heap.size < wr.heap.size)
  case atStart => exact ⟨0, _, by omega, by omega, rfl, hmk0, HTT, hb0, hs0⟩
  case round =>
      obtain ⟨j, r, hgk, hj, rfl, hmk, hT, hb, hs⟩ := hrel
      obtain ⟨gko, rfl⟩ : ∃ g, g = gk := ⟨_, rfl⟩
      obtain ⟨wo, rfl⟩ : ∃ wo : World, wo = wr := ⟨_, rfl⟩
      by_cases hjn : j < N
      · go_wp2
        go_loopg [11] (m + 1) (fun gk1 i wi => ∃ (k : Nat) (r1 : List Bool), m - k < gk1 ∧ k ≤ m ∧ i = .int .i64 k ∧ Hid (Marks wi w.heap.size N r1) ∧ Hid (l.foldl (rstep (N : Int)) r = (l.drop k).foldl (rstep (N : Int)) r1) ∧ Below w.heap.size w wi ∧ w.heap.size < wi.heap.size)
        case atStart => exact ⟨0, r, by omega, by omega, rfl, hmk, hideP rfl, hb, hs⟩
        case round =>
            obtain ⟨k, r1, hgk, hk, rfl, hmk1, hf1, hb1, hs1⟩ := hrel
            by_cases hlt : k < m
            · obtain ⟨x, hx⟩ := some_at (l := l) (k := k) (by have := Hm.out; omega)
              obtain ⟨b, o, ha, hbw, g1, g2⟩ := (h.below hb1).rowChan hx
              subst ha
              obtain ⟨xf, xt⟩ := x
              have Hx := Lib.hid hx
              clear hx
              dsimp only at g1 g2
              by_cases t1 : inB xf 0 ((N : Int) - 1) = true
              · have e1 := inB_true.1 t1
                obtain ⟨f', rfl⟩ := Int.eq_ofNat_of_zero_le e1.1
                have e1' : f' < N := by omega
                by_cases t2 : inB xt 0 ((N : Int) - 1) = true
                · have e2 := inB_true.1 t2
                  obtain ⟨t', rfl⟩ := Int.eq_ofNat_of_zero_le e2.1
                  have e2' : t' < N := by omega
                  have hok : chanIn (N : Int) ⟨(f' : Int), (t' : Int)⟩ = true := by unfold chanIn; rw [t1, t2]; rfl
                  clear e1 e2
                  cases hv1 : r1.getD f' false
                  · have c1 := hmk1.out.cell e1' hv1
                    have Hok := Lib.hid hok
                    have Hv1 := Lib.hid hv1
                    clear hok hv1
                    go_wp2_with (go_at_call 84; refine (l1In_any _ _ _ _).mono ?_; rintro e w' ⟨rfl, rfl⟩)
                    go_roundg (gk - 1)
                    case measure => omega
                    case rel => exact ⟨k + 1, r1, by omega, by omega, by go_num, hmk1, hideP (by have h0 := fold_step hf1.out Hx.out; rw [rstep_un Hv1.out] at h0; exact h0), hb1, hs1⟩
                  · have c1 := hmk1.out.cell e1' hv1
                    cases hv2 : r1.getD t' false
                    · have c2 := hmk1.out.cell e2' hv2
                      have c3 := hmk1.out.frozen t'
                      have Hok := Lib.hid hok
                      have Hv1 := Lib.hid hv1
                      have Hv2 := Lib.hid hv2
                      clear hok hv1 hv2
                      go_wp2_with (go_at_call 84; refine (l1In_any _ _ _ _).mono ?_; rintro e w' ⟨rfl, rfl⟩)
                      go_roundg (gk - 1)
                      case measure => omega
                      case rel => exact ⟨k + 1, r1.set t' true, by omega, by omega, by go_num, hideP (hmk1.out.set t' true), hideP (by have h0 := fold_step hf1.out Hx.out; rw [rstep_set Hok.out Hv1.out] at h0; exact h0), (hb1.setCell (p := ⟨w.heap.size, t', none⟩) (Nat.le_refl _) _), by simpa using hs1⟩
                    · have c2 := hmk1.out.cell e2' hv2
                      have c3 := hmk1.out.frozen t'
                      have Hok := Lib.hid hok
                      have Hv1 := Lib.hid hv1
                      have Hv2 := Lib.hid hv2
                      clear hok hv1 hv2
                      go_wp2_with (go_at_call 84; refine (l1In_any _ _ _ _).mono ?_; rintro e w' ⟨rfl, rfl⟩)
                      go_roundg (gk - 1)
                      case measure => omega
                      case rel => exact ⟨k + 1, r1.set t' true, by omega, by omega, by go_num, hideP (hmk1.out.set t' true), hideP (by have h0 := fold_step hf1.out Hx.out; rw [rstep_set Hok.out Hv1.out] at h0; exact h0), (hb1.setCell (p := ⟨w.heap.size, t', none⟩) (Nat.le_refl _) _), by simpa using hs1⟩
                · have t2 : inB xt 0 ((N : Int) - 1) = false := by simpa using t2
                  have hok : chanIn (N : Int) ⟨(f' : Int), xt⟩ = false := by unfold chanIn; rw [t1, t2]; rfl
                  have Hok := Lib.hid hok
                  clear hok e1
                  go_wp2_with (go_at_call 84; refine (l1In_any _ _ _ _).mono ?_; rintro e w' ⟨rfl, rfl⟩)
                  go_roundg (gk - 1)
                  case measure => omega
                  case rel => exact ⟨k + 1, r1, by omega, by omega, by go_num, hmk1, hideP (by have h0 := fold_step hf1.out Hx.out; rw [rstep_out Hok.out] at h0; exact h0), hb1, hs1⟩
              · have t1 : inB xf 0 ((N : Int) - 1) = false := by simpa using t1
                have hok : chanIn (N : Int) ⟨xf, xt⟩ = false := by unfold chanIn; rw [t1]; rfl
                have Hok := Lib.hid hok
                clear hok
                go_wp2_with (go_at_call 84; refine (l1In_any _ _ _ _).mono ?_; rintro e w' ⟨rfl, rfl⟩)
                go_roundg (gk - 1)
                case measure => omega
                case rel => exact ⟨k + 1, r1, by omega, by omega, by go_num, hmk1, hideP (by have h0 := fold_step hf1.out Hx.out; rw [rstep_out Hok.out] at h0; exact h0), hb1, hs1⟩
            · have hfe := fold_end hf1.out (by have := Hm.out; omega)
              have Hfe := Lib.hid hfe
              clear hfe
              go_wp2
              go_roundg (gko - 1)
              case measure => omega
              case rel => exact ⟨j + 1, r1, by omega, by omega, by go_num, hmk1, hideP (by have h0 := hT.out; rw [show N - j = (N - (j + 1)) + 1 from by omega, riter] at h0; rw [← Hfe.out]; exact h0), hb1, hs1⟩
      · have hT' : r = T := by have h0 := hT.out; rw [show N - j = 0 from by omega] at h0; exact h0
        have c1 := hmk.out.cell (i := To) hTo rfl
        have HT := Lib.hid hT'
        clear hT'
        go_wp2
        go_ret
        exact ⟨ret_bool (by rw [HT.out, HTT.out]; try simp), hb⟩

theorem specCanReach_any (n : Int) (a : Option Addr) (m cap : Nat) (l : List Chan) (fr to : Int) (hm : m = l.length) (hl : m ≤ 1048576) (w : World) (h : Rd w a (l.flatMap Chan.enc)) :
    Calls Try.prog 135 #[.int .i64 n, .slice a m cap, .int .i64 fr, .int .i64 to] w fun e w' => e = .returned (.bool (canReach n l fr to)) ∧ Below w.heap.size w w' := by
  by_cases hin : (inB n 1 20 && (inB fr 0 (n - 1) && (inB to 0 (n - 1) && decide (l.length ≤ 400)))) = true
  · have hr : canReach n l fr to = (riter n l n.toNat ((List.replicate n.toNat false).set fr.toNat true)).getD to.toNat false := by rw [canReach, if_pos hin]
    rw [hr]
    simp only [Bool.and_eq_true, inB_true, decide_eq_true_eq] at hin
    obtain ⟨N, rfl⟩ := Int.eq_ofNat_of_zero_le (show 0 ≤ n by omega)
    obtain ⟨Fr, rfl⟩ := Int.eq_ofNat_of_zero_le (show 0 ≤ fr by omega)
    obtain ⟨To, rfl⟩ := Int.eq_ofNat_of_zero_le (show 0 ≤ to by omega)
    exact specCanReach_yes N a m cap l Fr To hm (by omega) w h (by omega) (by omega) (by omega) (by omega)
  · exact specCanReach_no n a m cap l fr to hm hl w hin
end Go.Proofs.Ytnchmenpgmlpdaa
