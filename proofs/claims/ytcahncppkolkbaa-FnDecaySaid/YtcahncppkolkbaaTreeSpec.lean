/- TreeOk: the reference's side. -/
import Derived.Test.YtcahncppkolkbaaTreeImpl
import Derived.BigRegion
namespace Go.Proofs.Ytcahncppkolkbaa
open Go.RowKit

theorem treeS_bad1 {t : List Res} {k : Nat} {x : Res} (hx : t[k]? = some x) (h : placeS1 t k x = false) : treeOk t = false := by
  rw [← treeOkS_eq]
  unfold treeOkS
  rw [idxAll_bad hx h]
  simp
theorem treeS_bad2 {t : List Res} {k : Nat} {x : Res} (hx : t[k]? = some x) (h : placeS2 t k x = false) : treeOk t = false := by
  rw [← treeOkS_eq]
  unfold treeOkS
  rw [idxAll_bad hx h]
  simp
theorem treeS_end {t : List Res} (hh : treeHead t = true) (h1 : idxAll (placeS1 t) 0 t = true) (h2 : idxAll (placeS2 t) 0 t = true) : treeOk t = amtOk (sumLive t) := by
  rw [← treeOkS_eq]
  unfold treeOkS
  rw [hh, h1, h2]
  rfl
theorem s1_up {t : List Res} (hl : t.length = 5) (h : idxAll (placeS1 t) 0 t = true) : UpOk t ∧ ∀ x ∈ t, amtOk x.bal = true := by
  rw [idxAll_iff] at h
  constructor
  · intro i hi1 hi4 hlv
    obtain ⟨k, rfl⟩ := Int.eq_ofNat_of_zero_le (show 0 ≤ i by omega)
    obtain ⟨x, hx⟩ := some_at (l := t) (k := k) (by omega)
    rw [resAt_get hx] at hlv ⊢
    have := h k x hx
    simp only [placeS1, Nat.zero_add, Bool.and_eq_true, Bool.or_eq_true, Bool.not_eq_true', Bool.and_eq_false_iff, decide_eq_false_iff_not, hlv, inB_true] at this
    obtain ⟨_, _, h3⟩ := this
    rcases h3 with h3 | h3
    · rcases h3 with h3 | h3
      · omega
      · cases h3
    · exact ⟨h3.1.1, h3.1.2, h3.2.2⟩
  · intro x hx
    obtain ⟨k, hk⟩ := List.getElem?_of_mem hx
    have := h k x hk
    simp only [placeS1, Bool.and_eq_true] at this
    exact this.2.1

set_option maxRecDepth 100000 in
set_option maxHeartbeats 2000000 in
theorem l6Sum_any (a : Option Addr) (n cap : Nat) (t : List Res) (hn : n = t.length) (hl : n ≤ 1000) (hok : ∀ x ∈ t, amtOk x.bal = true) (w : World) (h : Rd w a (t.flatMap Res.enc)) :
    Calls Try.prog 24 #[.slice a n cap] w fun e w' => e = .returned (.agg #[.int .i64 (sumLive t).p, .int .i64 (sumLive t).r, .int .i64 (sumLive t).c]) ∧ Below w.heap.size w w' := by
  have Hn := Lib.hid hn
  have HOK := hideP hok
  clear hn hok
  go_enter Try.func24, Try.ntmps24
  go_wp2
  go_loopg [4] (n + 1) (fun gk i wr => ∃ (k : Nat) (s : Amt), n < gk + k ∧ k ≤ n ∧ i = .int .i64 k ∧ Hid (sumLive (t.take k) = s) ∧ InTo s k ∧ Hid (Blk wr (w.heap.size + 1) 32 [.int .i64 s.p, .int .i64 s.r, .int .i64 s.c]) ∧ Hid (Blk wr w.heap.size 32 [.int .i64 0, .int .i64 0, .int .i64 0]) ∧ Below w.heap.size w wr)
  case atStart => exact ⟨0, ⟨0, 0, 0⟩, by omega, by omega, rfl, hideP rfl, InTo.zero, hideP (by have := Blk.new (w.alloc (.cells #[.int .i64 0, .int .i64 0, .int .i64 0] 32)) #[.int .i64 0, .int .i64 0, .int .i64 0] 32; simpa using this), hideP ((Blk.new w #[.int .i64 0, .int .i64 0, .int .i64 0] 32).alloc _), below_a2 _ _ _⟩
  case round =>
    obtain ⟨k, s, hgk, hk, rfl, hS, hI, hB, hR, hb⟩ := hrel
    have c0 := hB.out.cell 0
    have c1 := hB.out.cell 1
    have c2 := hB.out.cell 2
    have f0 := hB.out.frozen 0
    have f1 := hB.out.frozen 1
    have f2 := hB.out.frozen 2
    simp only [List.getElem?_cons_zero, List.getElem?_cons_succ] at c0 c1 c2
    by_cases hlt : k < n
    · obtain ⟨x, hx⟩ := some_at (l := t) (k := k) (by have := Hn.out; omega)
      obtain ⟨b, o, rfl, hbw, g1, g2, g3, g4, g5⟩ := (h.below hb).rowRes hx
      have hbW : b < w.heap.size := by
        obtain ⟨b', o', e, hbw', _⟩ := h.rowRes hx
        cases e
        exact hbw'
      have n1 : b ≠ w.heap.size + 1 := by omega
      have n2 : w.heap.size + 1 ≠ b := by omega
      have hax := HOK.out x (List.mem_of_getElem? hx)
      have HS := Lib.hid (sumLive_next hx)
      obtain ⟨xl, xp, ⟨y1, y2, y3⟩⟩ := x
      dsimp only at g1 g2 g3 g4 g5
      cases xl
      · have HS' := Lib.hid (HS.out.trans (show _ = s from hS.out))
        clear hx hax HS
        go_wp2
        go_roundg (gk - 1)
        case measure => omega
        case rel => exact ⟨k + 1, s, by omega, by omega, by go_num, HS', hI.next, hB, hR, hb⟩
      · have HS' := Lib.hid (HS.out.trans (by rw [hS.out]; rfl : _ = amtAdd s ⟨y1, y2, y3⟩))
        have HI := hI.add hax
        have hin := amtOk_iff.1 hax
        have his := hI
        unfold InTo at his
        obtain ⟨⟨s1, s2⟩, ⟨s3, s4⟩, ⟨s5, s6⟩⟩ := his
        obtain ⟨⟨i1, i2⟩, ⟨i3, i4⟩, ⟨i5, i6⟩⟩ := hin
        dsimp only at i1 i2 i3 i4 i5 i6
        clear hx hax HS
        go_wp2
        go_region
        go_wp2
        go_region
        go_wp2
        go_region
        go_wp2
        go_roundg (gk - 1)
        case measure => omega
        case rel => exact ⟨k + 1, amtAdd s ⟨y1, y2, y3⟩, by omega, by omega, by go_num, HS', HI, hideP (((hB.out.set 0 _).set 1 _).set 2 _), hideP (((hR.out.other 0 _ (by omega)).other 1 _ (by omega)).other 2 _ (by omega)), (by repeat (first | exact hb | refine Below.drew ?_ | refine Below.setCell ?_ (by first | exact Nat.le_refl _ | (simp; done) | (simp; omega)) _))⟩
    · have hkn : k = n := by omega
      subst hkn
      rw [Hn.out, List.take_length] at hS
      have r0 := hR.out.cell 0
      have r1 := hR.out.cell 1
      have r2 := hR.out.cell 2
      have q0 := hR.out.frozen 0
      have q1 := hR.out.frozen 1
      have q2 := hR.out.frozen 2
      simp only [List.getElem?_cons_zero, List.getElem?_cons_succ] at r0 r1 r2
      go_wp2
      refine bodyPost_ret (v := .agg #[.int .i64 s.p, .int .i64 s.r, .int .i64 s.c]) (by simp [results, Try.results24, go_sem, r0, r1, r2]) rfl ⟨by rw [hS.out], ?_⟩
      repeat (refine Below.setCell ?_ (by first | exact Nat.le_refl _ | (simp; done) | (simp; omega)) _)
      exact hb

set_option maxRecDepth 100000 in
set_option maxHeartbeats 4000000 in
theorem specTreeOk_any (a : Option Addr) (n cap : Nat) (t : List Res) (hn : n = t.length) (hl : n ≤ 1048576) (w : World) (h : Rd w a (t.flatMap Res.enc)) :
    Calls Try.prog 7 #[.slice a n cap] w fun e w' => e = .returned (.bool (treeOk t)) ∧ Below w.heap.size w w' := by
  by_cases h5 : n = 5
  · subst h5
    obtain ⟨x0, hx0⟩ := some_at (l := t) (k := 0) (by omega)
    obtain ⟨b0, o0, rfl, hbw0, g1, g2, g3, g4, g5⟩ := h.rowRes hx0
    simp only [Nat.zero_mul, Nat.add_zero] at g1 g2
    have hd0 : t.headD zeroRes = x0 := by cases t <;> simp_all
    clear g3 g4 g5
    by_cases hhd : x0.live = true ∧ x0.par = -1
    · have Hh : Hid (treeHead t = true) := hideP (by unfold treeHead; rw [hd0, hhd.1, hhd.2, ← hn]; rfl)
      have Hn : Hid (t.length = 5) := hideP hn.symm
      obtain ⟨d1, d2'⟩ := hhd
      have d2 : (x0.par != -1) = false := by simp [d2']
      have Hx0 := Lib.hid hx0
      have Hl0 := Lib.hid d1
      clear hd0 hx0 d2' hn
      go_enter Try.func7, Try.ntmps7
      go_wp2
      clear d1 d2 g1 g2
      go_loopg [2, 3] 6 (fun gk r i wr => ∃ (k : Nat), 5 < gk + k ∧ k ≤ 5 ∧ i = .int .i64 k ∧ r = .bool false ∧ Hid (AllTo (placeS1 t) t k) ∧ Below w.heap.size w wr)
      case atStart => exact ⟨0, by omega, by omega, rfl, rfl, hideP (AllTo.zero _ _), Below.refl _ _⟩
      case round =>
        obtain ⟨k, hgk, hk, rfl, rfl, hA, hb⟩ := hrel
        by_cases hlt : k < 5
        · obtain ⟨x, hx⟩ := some_at (l := t) (k := k) (by have := Hn.out; omega)
          obtain ⟨b, o, ha, hbw, g1, g2, g3, g4, g5⟩ := (h.below hb).rowRes hx
          simp only [Option.some.injEq, Addr.mk.injEq, and_true] at ha
          obtain ⟨rfl, rfl⟩ := ha
          have Hx := Lib.hid hx
          clear hx
          obtain ⟨xl, xp, ⟨y1, y2, y3⟩⟩ := x
          dsimp only at g1 g2 g3 g4 g5
          cases xl
          · by_cases hz0 : xp = 0 ∧ y1 = 0 ∧ y2 = 0 ∧ y3 = 0
            · obtain ⟨rfl, rfl, rfl, rfl⟩ := hz0
              have HA := Lib.hid (hA.out.next Hx.out (show placeS1 t k ⟨false, 0, ⟨0, 0, 0⟩⟩ = true from by simp [placeS1, zeroRes, amtOk_zero]))
              go_wp2_with fail
              refine (specAmtOk_any ⟨0, 0, 0⟩ _).mono ?_
              rintro e w2 ⟨rfl, hb2⟩
              rw [amtOk_zero]
              obtain ⟨bc2, bf2⟩ := bcell hb2
              by_cases hk0 : 0 < k
              · have e0 : decide (0 < k) = true := by simpa using hk0
                have e1 : decide (0 < (k : Int)) = true := by simpa using hk0
                go_wp2
                go_roundg (gk - 1)
                case measure => omega
                case rel => exact ⟨k + 1, by omega, by omega, by go_num, rfl, HA, hb.trans (hb2.mono hb.size)⟩
              · have e0 : decide (0 < k) = false := by simpa using hk0
                have e1 : decide (0 < (k : Int)) = false := by simpa using hk0
                go_wp2
                go_roundg (gk - 1)
                case measure => omega
                case rel => exact ⟨k + 1, by omega, by omega, by go_num, rfl, HA, hb.trans (hb2.mono hb.size)⟩
            · have HB := Lib.hid (treeS_bad1 Hx.out (show placeS1 t k ⟨false, xp, ⟨y1, y2, y3⟩⟩ = false from by simp [placeS1, zeroRes]; intro e1 e2 e3 e4; exact absurd ⟨e1, e2, e3, e4⟩ hz0))
              have hz0' : xp ≠ 0 ∨ (xp = 0 ∧ y1 ≠ 0) ∨ (xp = 0 ∧ y1 = 0 ∧ y2 ≠ 0) ∨ (xp = 0 ∧ y1 = 0 ∧ y2 = 0 ∧ y3 ≠ 0) := by omega
              clear hz0
              rcases hz0' with e1 | ⟨rfl, e1⟩ | ⟨rfl, rfl, e1⟩ | ⟨rfl, rfl, rfl, e1⟩
              all_goals
                go_wp2
                go_ret
                exact ⟨ret_bool HB.out.symm, hb⟩
          · go_wp2_with fail
            refine (specAmtOk_any ⟨y1, y2, y3⟩ _).mono ?_
            rintro e w2 ⟨rfl, hb2⟩
            obtain ⟨bc2, bf2⟩ := bcell hb2
            have hb02 := Lib.hid (hb.trans (hb2.mono hb.size))
            cases ha : amtOk ⟨y1, y2, y3⟩
            · have HB := Lib.hid (treeS_bad1 Hx.out (show placeS1 t k ⟨true, xp, ⟨y1, y2, y3⟩⟩ = false from by simp [placeS1, ha]))
              go_wp2
              go_ret
              exact ⟨ret_bool HB.out.symm, hb02.out⟩
            · have Ha := Lib.hid ha
              clear ha
              by_cases hk0 : 0 < k
              · have e0 : decide (0 < k) = true := by simpa using hk0
                have e1 : decide (0 < (k : Int)) = true := by simpa using hk0
                cases hp : inB xp 0 4
                · have HB := Lib.hid (treeS_bad1 Hx.out (show placeS1 t k ⟨true, xp, ⟨y1, y2, y3⟩⟩ = false from by simp [placeS1, hp, hk0]))
                  go_wp2_with (go_at_call 23; refine (l6Res_any _ _).mono ?_; rintro e w' ⟨rfl, rfl⟩)
                  go_ret
                  exact ⟨ret_bool HB.out.symm, hb02.out⟩
                · have hpp := inB_true.1 hp
                  obtain ⟨q, rfl⟩ := Int.eq_ofNat_of_zero_le hpp.1
                  have hq5 : q < 5 := by omega
                  by_cases hqk : q = k
                  · have HB := Lib.hid (treeS_bad1 Hx.out (show placeS1 t k ⟨true, (q : Int), ⟨y1, y2, y3⟩⟩ = false from by simp [placeS1, hk0, hqk]))
                    have dq : ((q : Int) == (k : Int)) = true := by simp [hqk]
                    clear hqk hpp
                    go_wp2_with (go_at_call 23; refine (l6Res_any _ _).mono ?_; rintro e w' ⟨rfl, rfl⟩)
                    go_ret
                    exact ⟨ret_bool HB.out.symm, hb02.out⟩
                  · have dq : ((q : Int) == (k : Int)) = false := by simp; omega
                    obtain ⟨z, hz⟩ := some_at (l := t) (k := q) (by have := Hn.out; omega)
                    obtain ⟨b', o', ha', hbw', z1, z2, z3, z4, z5⟩ := (h.below hb).rowRes hz
                    simp only [Option.some.injEq, Addr.mk.injEq, and_true] at ha'
                    obtain ⟨rfl, rfl⟩ := ha'
                    cases hzl : z.live
                    · have HB := Lib.hid (treeS_bad1 Hx.out (show placeS1 t k ⟨true, (q : Int), ⟨y1, y2, y3⟩⟩ = false from by simp [placeS1, hk0, resAt_get hz, hzl]))
                      rw [hzl] at z1
                      clear hqk hpp hz
                      go_wp2_with (go_at_call 23; refine (l6Res_any _ _).mono ?_; rintro e w' ⟨rfl, rfl⟩)
                      go_ret
                      exact ⟨ret_bool HB.out.symm, hb02.out⟩
                    · have HA := Lib.hid (hA.out.next Hx.out (show placeS1 t k ⟨true, (q : Int), ⟨y1, y2, y3⟩⟩ = true from by simp [placeS1, hk0, resAt_get hz, hzl, hp, Ha.out]; omega))
                      rw [hzl] at z1
                      clear hqk hpp hz
                      go_wp2_with (go_at_call 23; refine (l6Res_any _ _).mono ?_; rintro e w' ⟨rfl, rfl⟩)
                      go_roundg (gk - 1)
                      case measure => omega
                      case rel => exact ⟨k + 1, by omega, by omega, by go_num, rfl, HA, hb02.out⟩
              · have e0 : decide (0 < k) = false := by simpa using hk0
                have e1 : decide (0 < (k : Int)) = false := by simpa using hk0
                have HA := Lib.hid (hA.out.next Hx.out (show placeS1 t k ⟨true, xp, ⟨y1, y2, y3⟩⟩ = true from by simp [placeS1, hk0, Ha.out]))
                go_wp2
                go_roundg (gk - 1)
                case measure => omega
                case rel => exact ⟨k + 1, by omega, by omega, by go_num, rfl, HA, hb02.out⟩
        · have H1 := Lib.hid (hA.out.all (by rw [Hn.out]; omega))
          have HUP := Lib.hid (s1_up Hn.out H1.out).1
          have HOK := Lib.hid (s1_up Hn.out H1.out).2
          clear hA hgk
          go_wp2
          go_loopg [2, 4] 6 (fun gk r i wi => ∃ (k : Nat), 5 < gk + k ∧ k ≤ 5 ∧ i = .int .i64 k ∧ r = .bool false ∧ Hid (AllTo (placeS2 t) t k) ∧ wr = wi)
          case atStart => exact ⟨0, by omega, by omega, rfl, rfl, hideP (AllTo.zero _ _), rfl⟩
          case round =>
            obtain ⟨k, hgk, hk, rfl, rfl, hA, rfl⟩ := hrel
            obtain ⟨gko, rfl⟩ : ∃ g, g = gk := ⟨_, rfl⟩
            by_cases hlt : k < 5
            · obtain ⟨x, hx⟩ := some_at (l := t) (k := k) (by have := Hn.out; omega)
              obtain ⟨b, o, ha, hbw, g1, g2, g3, g4, g5⟩ := (h.below hb).rowRes hx
              simp only [Option.some.injEq, Addr.mk.injEq, and_true] at ha
              obtain ⟨rfl, rfl⟩ := ha
              have Hx := Lib.hid hx
              have hrx := Lib.hid (resAt_get hx)
              have dk : decide ((k : Int) < 5) = true := by simp; omega
              clear hx g2 g3 g4 g5
              obtain ⟨xl, xp, y⟩ := x
              dsimp only at g1
              cases xl
              · have HA := Lib.hid (hA.out.next Hx.out (show placeS2 t k ⟨false, xp, y⟩ = true from rfl))
                go_wp2
                go_loopg [5, 6] 1 (fun gk2 av nv wi => av = .int .i64 k ∧ nv = .int .i64 (0 : Nat) ∧ wr = wi)
                case atStart => exact ⟨rfl, rfl, rfl⟩
                case round =>
                  obtain ⟨rfl, rfl, rfl⟩ := hrel
                  go_wp2
                  go_roundg (gko - 1)
                  case measure => omega
                  case rel => exact ⟨k + 1, by omega, by omega, by go_num, rfl, HA, rfl⟩
              · go_wp2
                go_loopg [5, 6] 7 (fun gk2 av nv wi => ∃ (m : Nat) (j : Int), 5 < gk2 + m ∧ m ≤ 5 ∧ av = .int .i64 j ∧ nv = .int .i64 m ∧ Hid (walkUp t 5 (k : Int) = walkUp t (5 - m) j) ∧ 0 ≤ j ∧ j ≤ 4 ∧ Hid ((resAt t j).live = true) ∧ wr = wi)
                case atStart => exact ⟨0, (k : Int), by omega, by omega, rfl, rfl, hideP rfl, by omega, by omega, hideP (by rw [hrx.out]), rfl⟩
                case round =>
                  obtain ⟨m, j, hgm, hm, rfl, rfl, hW, hj0, hj4, hL, rfl⟩ := hrel
                  by_cases hgo : m < 5 ∧ 0 < j
                  · obtain ⟨m5, j1⟩ := hgo
                    obtain ⟨q, rfl⟩ := Int.eq_ofNat_of_zero_le hj0
                    obtain ⟨z, hz⟩ := some_at (l := t) (k := q) (by have := Hn.out; omega)
                    obtain ⟨b', o', ha', hbw', z1, z2, z3, z4, z5⟩ := (h.below hb).rowRes hz
                    simp only [Option.some.injEq, Addr.mk.injEq, and_true] at ha'
                    obtain ⟨rfl, rfl⟩ := ha'
                    obtain ⟨p1, p2, p3⟩ := HUP.out (q : Int) (by omega) (by omega) hL.out
                    rw [resAt_get hz] at p1 p2 p3
                    have HW : Hid (walkUp t 5 (k : Int) = walkUp t (5 - (m + 1)) z.par) := hideP (by
                      rw [hW.out, show 5 - m = (5 - (m + 1)) + 1 from by omega, walkUp, if_pos j1, resAt_get hz])
                    have HP := Lib.hid p3
                    have hq5 : q < 5 := by omega
                    clear hz p3
                    go_wp2
                    go_roundg (gk - 1)
                    case measure => omega
                    case rel => exact ⟨m + 1, z.par, by omega, by omega, rfl, by go_num, HW, p1, p2, HP, rfl⟩
                  · have HE : Hid (walkUp t 5 (k : Int) = j) := hideP (by
                      rw [hW.out]
                      by_cases h0 : 0 < j
                      · rw [show 5 - m = 0 from by omega]; rfl
                      · cases 5 - m with
                        | zero => rfl
                        | succ f => rw [walkUp, if_neg h0])
                    have hc : 5 ≤ m ∨ (m < 5 ∧ j ≤ 0) := by omega
                    clear hgo hgm
                    by_cases hj : j = 0
                    · have HA := Lib.hid (hA.out.next Hx.out (show placeS2 t k ⟨true, xp, y⟩ = true from by simp [placeS2, HE.out, hj]))
                      have dj : (j != 0) = false := by simp [hj]
                      clear hj
                      rcases hc with hc | ⟨hc, hc'⟩
                      all_goals
                        go_wp2
                        go_roundg (gko - 1)
                        case measure => omega
                        case rel => exact ⟨k + 1, by omega, by omega, by go_num, rfl, HA, rfl⟩
                    · have HB := Lib.hid (treeS_bad2 Hx.out (show placeS2 t k ⟨true, xp, y⟩ = false from by simp [placeS2, HE.out, hj]))
                      have dj : (j != 0) = true := by simpa using hj
                      have hc5 : 5 ≤ m := by omega
                      clear hj hc
                      go_wp2
                      go_ret
                      exact ⟨ret_bool HB.out.symm, hb⟩
            · have H2 := Lib.hid (hA.out.all (by rw [Hn.out]; omega))
              have HT := Lib.hid (treeS_end Hh.out H1.out H2.out)
              go_wp2_with fail
              refine (l6Sum_any _ _ _ t Hn.out.symm (by omega) HOK.out _ (h.below hb)).mono ?_
              rintro e w2 ⟨rfl, hb2⟩
              go_wp2_with fail
              refine (specAmtOk_any (sumLive t) _).mono ?_
              rintro e w3 ⟨rfl, hb3⟩
              go_wp2
              go_ret
              exact ⟨ret_bool HT.out.symm, (hb.trans (hb2.mono hb.size)).trans (hb3.mono (Nat.le_trans hb.size hb2.size))⟩
    · have Hh : Hid (treeOk t = false) := hideP (by unfold treeOk treeHead; rw [hd0]; simp; intro _ e1 e2; exact absurd ⟨e1, e2⟩ hhd)
      have hc : x0.live = false ∨ (x0.live = true ∧ x0.par ≠ -1) := by cases hv : x0.live <;> simp_all
      clear hd0 hx0 hhd hn
      rcases hc with hv | ⟨hv, hp⟩
      · go_enter Try.func7, Try.ntmps7
        go_wp2
        go_ret
        exact ⟨ret_bool Hh.out.symm, Below.refl _ _⟩
      · have d2 : (x0.par != -1) = true := by simpa using hp
        clear hp
        go_enter Try.func7, Try.ntmps7
        go_wp2
        go_ret
        exact ⟨ret_bool Hh.out.symm, Below.refl _ _⟩
  · have Hh : Hid (treeOk t = false) := hideP (by unfold treeOk treeHead; rw [← hn]; simp [h5])
    have d1 : ((n : Int) != 5) = true := by simp; omega
    clear hn
    go_enter Try.func7, Try.ntmps7
    go_wp2
    go_ret
    exact ⟨ret_bool Hh.out.symm, Below.refl _ _⟩

end Go.Proofs.Ytcahncppkolkbaa
