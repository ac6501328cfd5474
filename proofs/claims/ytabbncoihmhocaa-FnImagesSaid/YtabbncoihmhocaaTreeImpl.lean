/- TreeOk: the program's side. -/
import Derived.Test.YtabbncoihmhocaaResFn
import Derived.Test.YtabbncoihmhocaaBlk
namespace Go.Proofs.Ytabbncoihmhocaa
open Go.RowKit

theorem amtOk_iff {a : Amt} : amtOk a = true ↔ (0 ≤ a.p ∧ a.p ≤ 1000000) ∧ (0 ≤ a.r ∧ a.r ≤ 1000000) ∧ (0 ≤ a.c ∧ a.c ≤ 1000000) := by
  unfold amtOk okN
  simp only [Bool.and_eq_true, inB_true]
/-- A sum of k amounts. -/
def InTo (s : Amt) (k : Nat) : Prop := (0 ≤ s.p ∧ s.p ≤ 1000000 * k) ∧ (0 ≤ s.r ∧ s.r ≤ 1000000 * k) ∧ (0 ≤ s.c ∧ s.c ≤ 1000000 * k)
theorem InTo.zero : InTo ⟨0, 0, 0⟩ 0 := by unfold InTo; simp
theorem InTo.next {s : Amt} {k : Nat} (h : InTo s k) : InTo s (k + 1) := by unfold InTo at *; omega
theorem InTo.add {s a : Amt} {k : Nat} (h : InTo s k) (ha : amtOk a = true) : InTo (amtAdd s a) (k + 1) := by
  rw [amtOk_iff] at ha
  unfold InTo amtAdd at *
  simp only
  omega
theorem InTo.small {s : Amt} {k : Nat} (h : InTo s k) (hk : k ≤ 1000) : Small s := by unfold InTo Small at *; omega
theorem amtOk_small {a : Amt} (h : amtOk a = true) : Small a := by rw [amtOk_iff] at h; unfold Small; omega
theorem tree_bad {t : List Res} {k : Nat} {x : Res} (hx : t[k]? = some x) (h : placeI t k x = false) : treeOk t = false := by
  unfold treeOk
  rw [idxAll_bad hx h]
  simp
theorem tree_end {t : List Res} (hh : treeHead t = true) (h : idxAll (placeI t) 0 t = true) : treeOk t = amtOk (sumLive t) := by
  unfold treeOk
  rw [hh, h]
  rfl
theorem sumLive_next {t : List Res} {k : Nat} {x : Res} (hx : t[k]? = some x) : sumLive (t.take (k + 1)) = if x.live then amtAdd (sumLive (t.take k)) x.bal else sumLive (t.take k) := by
  obtain ⟨hl, rfl⟩ := List.getElem?_eq_some_iff.1 hx
  unfold sumLive
  rw [List.take_succ_eq_append_getElem hl, List.foldl_append]
  rfl

set_option maxRecDepth 100000 in
set_option maxHeartbeats 2000000 in
theorem implTreeOk_any (a : Option Addr) (n cap : Nat) (t : List Res) (hn : n = t.length) (hl : n ≤ 1048576) (w : World) (h : Rd w a (t.flatMap Res.enc)) :
    Calls Try.prog 25 #[.slice a n cap] w fun e w' => e = .returned (.bool (treeOk t)) ∧ Below w.heap.size w w' := by
  by_cases h5 : n = 5
  · subst h5
    obtain ⟨x0, hx0⟩ := some_at (l := t) (k := 0) (by omega)
    obtain ⟨b0, o0, rfl, hbw0, g1, g2, g3, g4, g5⟩ := h.rowRes hx0
    simp only [Nat.zero_mul, Nat.add_zero] at g1 g2
    have hd0 : t.headD zeroRes = x0 := by cases t <;> simp_all
    clear g3 g4 g5
    by_cases hhd : x0.live = true ∧ x0.par = -1
    · have Hh : Hid (treeHead t = true) := hideP (by unfold treeHead; rw [hd0, hhd.1, hhd.2, ← hn]; rfl)
      have Hn : Hid (t.length = 5) := hideP hn.symm
      obtain ⟨d1, d2'⟩ := hhd
      have d2 : (x0.par != -1) = false := by simp [d2']
      clear hd0 hx0 d2' hn
      go_enter Try.func25, Try.ntmps25
      go_wp2
      clear d1 d2 g1 g2
      go_loopg [2, 26] 6 (fun gk r i wr => ∃ (k : Nat) (s : Amt), 5 < gk + k ∧ k ≤ 5 ∧ i = .int .i64 k ∧ r = .bool false ∧ Hid (AllTo (placeI t) t k) ∧ Hid (sumLive (t.take k) = s) ∧ InTo s k ∧ Hid (Blk wr w.heap.size 55 [.int .i64 s.p, .int .i64 s.r, .int .i64 s.c]) ∧ Below w.heap.size w wr)
      case atStart => exact ⟨0, ⟨0, 0, 0⟩, by omega, by omega, rfl, rfl, hideP (AllTo.zero _ _), hideP rfl, InTo.zero, hideP (Blk.new w _ 55), below_a1 _ _⟩
      case round =>
        obtain ⟨k, s, hgk, hk, rfl, rfl, hA, hS, hI, hB, hb⟩ := hrel
        have c0 := hB.out.cell 0
        have c1 := hB.out.cell 1
        have c2 := hB.out.cell 2
        have f0 := hB.out.frozen 0
        have f1 := hB.out.frozen 1
        have f2 := hB.out.frozen 2
        have hz := hb.size
        have hz1 := hB.out.lt
        simp only [List.getElem?_cons_zero, List.getElem?_cons_succ] at c0 c1 c2
        by_cases hlt : k < 5
        · obtain ⟨x, hx⟩ := some_at (l := t) (k := k) (by have := Hn.out; omega)
          obtain ⟨b, o, ha, hbw, g1, g2, g3, g4, g5⟩ := (h.below hb).rowRes hx
          simp only [Option.some.injEq, Addr.mk.injEq, and_true] at ha
          obtain ⟨rfl, rfl⟩ := ha
          have Hx := Lib.hid hx
          clear hx
          obtain ⟨xl, xp, ⟨y1, y2, y3⟩⟩ := x
          dsimp only at g1 g2 g3 g4 g5
          cases xl
          · by_cases hz0 : xp = 0 ∧ y1 = 0 ∧ y2 = 0 ∧ y3 = 0
            · obtain ⟨rfl, rfl, rfl, rfl⟩ := hz0
              have HA := Lib.hid (hA.out.next Hx.out (show placeI t k ⟨false, 0, ⟨0, 0, 0⟩⟩ = true from rfl))
              have HS := Lib.hid ((sumLive_next Hx.out).trans (show _ = s from hS.out))
              go_wp2
              go_roundg (gk - 1)
              case measure => omega
              case rel => exact ⟨k + 1, s, by omega, by omega, by go_num, rfl, HA, HS, hI.next, hideP (hB.out.alloc _), hb.alloc hb.size _⟩
            · have HB := Lib.hid (tree_bad Hx.out (show placeI t k ⟨false, xp, ⟨y1, y2, y3⟩⟩ = false from by simp [placeI, zeroRes]; omega))
              have hz0' : xp ≠ 0 ∨ (xp = 0 ∧ y1 ≠ 0) ∨ (xp = 0 ∧ y1 = 0 ∧ y2 ≠ 0) ∨ (xp = 0 ∧ y1 = 0 ∧ y2 = 0 ∧ y3 ≠ 0) := by omega
              clear hz0
              rcases hz0' with e1 | ⟨rfl, e1⟩ | ⟨rfl, rfl, e1⟩ | ⟨rfl, rfl, rfl, e1⟩
              all_goals
                go_wp2
                go_ret
                exact ⟨ret_bool HB.out.symm, hb.alloc hb.size _⟩
          · go_wp2_with fail
            refine (implAmtOk_any ⟨y1, y2, y3⟩ _).mono ?_
            rintro e w2 ⟨rfl, hb2⟩
            obtain ⟨bc2, bf2⟩ := bcell hb2
            have hz2 := hb2.size
            simp only [World.size_alloc] at hz2
            have hb02 := Lib.hid ((hb.alloc hb.size _).trans (hb2.mono (by simp; omega)))
            have hB2 := hideP ((hB.out.alloc _).below hb2)
            cases ha : amtOk ⟨y1, y2, y3⟩
            · have HB := Lib.hid (tree_bad Hx.out (show placeI t k ⟨true, xp, ⟨y1, y2, y3⟩⟩ = false from by simp [placeI, ha]))
              go_wp2
              go_ret
              exact ⟨ret_bool HB.out.symm, hb02.out⟩
            · have Ha := Lib.hid ha
              clear ha
              go_wp2_with fail
              refine (leadsUp_any _ _ t _ Hn.out _ (h.below hb02.out)).mono ?_
              rintro e w' ⟨rfl, rfl⟩
              cases hv : leadsUpB t 5 (k : Int)
              · have HB := Lib.hid (tree_bad Hx.out (show placeI t k ⟨true, xp, ⟨y1, y2, y3⟩⟩ = false from by simp [placeI, hv]))
                go_wp2
                go_ret
                exact ⟨ret_bool HB.out.symm, hb02.out⟩
              · have HA := Lib.hid (hA.out.next Hx.out (show placeI t k ⟨true, xp, ⟨y1, y2, y3⟩⟩ = true from by simp [placeI, hv, Ha.out]))
                have HS := Lib.hid ((sumLive_next Hx.out).trans (by rw [hS.out]; rfl : _ = amtAdd s ⟨y1, y2, y3⟩))
                have HI := hI.add Ha.out
                have c0' := hB2.out.cell 0
                have c1' := hB2.out.cell 1
                have c2' := hB2.out.cell 2
                simp only [List.getElem?_cons_zero, List.getElem?_cons_succ] at c0' c1' c2'
                clear hv
                go_wp2_with fail
                refine (sumOf_any s ⟨y1, y2, y3⟩ (hI.small (by omega)) (amtOk_small Ha.out) _).mono ?_
                rintro e w3 ⟨rfl, hb3⟩
                have hB3 := hideP (hB2.out.below hb3)
                have f0' := hB3.out.frozen 0
                have f1' := hB3.out.frozen 1
                have f2' := hB3.out.frozen 2
                have c0'' := hB3.out.cell 0
                have c1'' := hB3.out.cell 1
                have c2'' := hB3.out.cell 2
                simp only [List.getElem?_cons_zero, List.getElem?_cons_succ] at c0'' c1'' c2''
                have hb03 := Lib.hid (hb02.out.trans (hb3.mono hb02.out.size))
                go_wp2
                go_roundg (gk - 1)
                case measure => omega
                case rel => exact ⟨k + 1, amtAdd s ⟨y1, y2, y3⟩, by omega, by omega, by go_num, rfl, HA, HS, HI, hideP (((hB3.out.set 0 _).set 1 _).set 2 _), ((hb03.out.setCell (Nat.le_refl _) _).setCell (Nat.le_refl _) _).setCell (Nat.le_refl _) _⟩
        · have hk5 : k = 5 := by omega
          subst hk5
          have HT := Lib.hid (tree_end Hh.out (hA.out.all (by rw [Hn.out]; exact Nat.le_refl _)))
          rw [← Hn.out, List.take_length] at hS
          go_wp2_with fail
          refine (implAmtOk_any s _).mono ?_
          rintro e w2 ⟨rfl, hb2⟩
          go_wp2
          go_ret
          exact ⟨ret_bool (by rw [HT.out, hS.out]), hb.trans (hb2.mono hb.size)⟩
    · have Hh : Hid (treeOk t = false) := hideP (by unfold treeOk treeHead; rw [hd0]; simp; intro _ e1 e2; exact absurd ⟨e1, e2⟩ hhd)
      have hc : x0.live = false ∨ (x0.live = true ∧ x0.par ≠ -1) := by cases hv : x0.live <;> simp_all
      clear hd0 hx0 hhd hn
      rcases hc with hv | ⟨hv, hp⟩
      · go_enter Try.func25, Try.ntmps25
        go_wp2
        go_ret
        exact ⟨ret_bool Hh.out.symm, Below.refl _ _⟩
      · have d2 : (x0.par != -1) = true := by simpa using hp
        clear hp
        go_enter Try.func25, Try.ntmps25
        go_wp2
        go_ret
        exact ⟨ret_bool Hh.out.symm, Below.refl _ _⟩
  · have Hh : Hid (treeOk t = false) := hideP (by unfold treeOk treeHead; rw [← hn]; simp [h5])
    have d1 : ((n : Int) != 5) = true := by simp; omega
    clear hn
    unfold maxLen at *
    go_enter Try.func25, Try.ntmps25
    go_wp2
    go_ret
    exact ⟨ret_bool Hh.out.symm, Below.refl _ _⟩

end Go.Proofs.Ytabbncoihmhocaa
