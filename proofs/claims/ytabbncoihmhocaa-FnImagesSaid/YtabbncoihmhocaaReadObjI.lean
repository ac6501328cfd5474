/- The walk of the program's ReadObj. -/
import Derived.Test.YtabbncoihmhocaaReadListI
import Derived.Test.YtabbncoihmhocaaThingOkI
import Derived.Test.YtabbncoihmhocaaObjTo
import Derived.Deep.DeepCutAuto
import Derived.BigRegion
import Derived.ChangeAlike
namespace Go.Proofs.Ytabbncoihmhocaa
open Go.RowKit

theorem owns_setother {w : World} {base M i : Nat} {u : Value} {e : TypeId} {s n : Nat} {v : Value} {xs : List Value} (ho : w.ownsRow base e s v n xs) (hne : ∀ k, v.ownBlock = some k → k ≠ M) : (w.setCell ⟨M, i, none⟩ u).ownsRow base e s v n xs :=
  ((Kept.refl M M w).set (i := i) (v := u)).owns ho (fun k hk => ⟨hne k hk, hne k hk⟩)
theorem owns_sl' {w : World} {base : Nat} {e : TypeId} {s n : Nat} {v : Value} {xs : List Value} (h : w.ownsRow base e s v n xs) : SlIs w v n xs := by
  obtain ⟨a, c, rfl, hc⟩ := owns_slice h
  exact ⟨a, c, rfl, hc, rd_of_owns h⟩
set_option maxRecDepth 100000 in
set_option maxHeartbeats 8000000 in
theorem implReadObj_any (s : ByteArray) (hs : s.size ≤ maxLen) (w : World) : Calls Try.prog 12 #[.string s] w (ThingRet w (bl s)) := by
  obtain ⟨im, him, hzm0, hzm1, hzm2⟩ := info_parts Try.infoMsg
  obtain ⟨n0, A0, b0, h0⟩ : ∃ n A' b', rNum (bl s) 0 false = (n, A', b') := ⟨_, _, _, rfl⟩
  have hA0 : A0 ≤ s.size := by have := (rNum_le (l := bl s) (a := 0) (b := false) (by rw [bl_length]; exact (Nat.zero_le _))).1; rw [h0, bl_length] at this; exact this
  have hn0 : n0 ≤ 562949953421311 := by have := (rNum_le (l := bl s) (a := 0) (b := false) (by rw [bl_length]; exact (Nat.zero_le _))).2; rw [h0] at this; exact this
  have HN0 := hideP (number_any (s := s) (a := 0) (b := false) (hs := hs) (ha := (Nat.zero_le _)))
  rw [h0] at HN0
  dsimp only at HN0
  obtain ⟨n1, A1, b1, h1⟩ : ∃ n A' b', rNum (bl s) A0 b0 = (n, A', b') := ⟨_, _, _, rfl⟩
  have hA1 : A1 ≤ s.size := by have := (rNum_le (l := bl s) (a := A0) (b := b0) (by rw [bl_length]; exact hA0)).1; rw [h1, bl_length] at this; exact this
  have hn1 : n1 ≤ 562949953421311 := by have := (rNum_le (l := bl s) (a := A0) (b := b0) (by rw [bl_length]; exact hA0)).2; rw [h1] at this; exact this
  have HN1 := hideP (number_any (s := s) (a := A0) (b := b0) (hs := hs) (ha := hA0))
  rw [h1] at HN1
  dsimp only at HN1
  obtain ⟨n2, A2, b2, h2⟩ : ∃ n A' b', rNum (bl s) A1 b1 = (n, A', b') := ⟨_, _, _, rfl⟩
  have hA2 : A2 ≤ s.size := by have := (rNum_le (l := bl s) (a := A1) (b := b1) (by rw [bl_length]; exact hA1)).1; rw [h2, bl_length] at this; exact this
  have hn2 : n2 ≤ 562949953421311 := by have := (rNum_le (l := bl s) (a := A1) (b := b1) (by rw [bl_length]; exact hA1)).2; rw [h2] at this; exact this
  have HN2 := hideP (number_any (s := s) (a := A1) (b := b1) (hs := hs) (ha := hA1))
  rw [h2] at HN2
  dsimp only at HN2
  obtain ⟨n3, A3, b3, h3⟩ : ∃ n A' b', rNum (bl s) A2 b2 = (n, A', b') := ⟨_, _, _, rfl⟩
  have hA3 : A3 ≤ s.size := by have := (rNum_le (l := bl s) (a := A2) (b := b2) (by rw [bl_length]; exact hA2)).1; rw [h3, bl_length] at this; exact this
  have hn3 : n3 ≤ 562949953421311 := by have := (rNum_le (l := bl s) (a := A2) (b := b2) (by rw [bl_length]; exact hA2)).2; rw [h3] at this; exact this
  have HN3 := hideP (number_any (s := s) (a := A2) (b := b2) (hs := hs) (ha := hA2))
  rw [h3] at HN3
  dsimp only at HN3
  obtain ⟨n4, A4, b4, h4⟩ : ∃ n A' b', rNum (bl s) A3 b3 = (n, A', b') := ⟨_, _, _, rfl⟩
  have hA4 : A4 ≤ s.size := by have := (rNum_le (l := bl s) (a := A3) (b := b3) (by rw [bl_length]; exact hA3)).1; rw [h4, bl_length] at this; exact this
  have hn4 : n4 ≤ 562949953421311 := by have := (rNum_le (l := bl s) (a := A3) (b := b3) (by rw [bl_length]; exact hA3)).2; rw [h4] at this; exact this
  have HN4 := hideP (number_any (s := s) (a := A3) (b := b3) (hs := hs) (ha := hA3))
  rw [h4] at HN4
  dsimp only at HN4
  obtain ⟨n5, A5, b5, h5⟩ : ∃ n A' b', rNum (bl s) A4 b4 = (n, A', b') := ⟨_, _, _, rfl⟩
  have hA5 : A5 ≤ s.size := by have := (rNum_le (l := bl s) (a := A4) (b := b4) (by rw [bl_length]; exact hA4)).1; rw [h5, bl_length] at this; exact this
  have hn5 : n5 ≤ 562949953421311 := by have := (rNum_le (l := bl s) (a := A4) (b := b4) (by rw [bl_length]; exact hA4)).2; rw [h5] at this; exact this
  have HN5 := hideP (number_any (s := s) (a := A4) (b := b4) (hs := hs) (ha := hA4))
  rw [h5] at HN5
  dsimp only at HN5
  obtain ⟨n6, A6, b6, h6⟩ : ∃ n A' b', rNum (bl s) A5 b5 = (n, A', b') := ⟨_, _, _, rfl⟩
  have hA6 : A6 ≤ s.size := by have := (rNum_le (l := bl s) (a := A5) (b := b5) (by rw [bl_length]; exact hA5)).1; rw [h6, bl_length] at this; exact this
  have hn6 : n6 ≤ 562949953421311 := by have := (rNum_le (l := bl s) (a := A5) (b := b5) (by rw [bl_length]; exact hA5)).2; rw [h6] at this; exact this
  have HN6 := hideP (number_any (s := s) (a := A5) (b := b5) (hs := hs) (ha := hA5))
  rw [h6] at HN6
  dsimp only at HN6
  obtain ⟨n7, A7, b7, h7⟩ : ∃ n A' b', rNum (bl s) A6 b6 = (n, A', b') := ⟨_, _, _, rfl⟩
  have hA7 : A7 ≤ s.size := by have := (rNum_le (l := bl s) (a := A6) (b := b6) (by rw [bl_length]; exact hA6)).1; rw [h7, bl_length] at this; exact this
  have hn7 : n7 ≤ 562949953421311 := by have := (rNum_le (l := bl s) (a := A6) (b := b6) (by rw [bl_length]; exact hA6)).2; rw [h7] at this; exact this
  have HN7 := hideP (number_any (s := s) (a := A6) (b := b6) (hs := hs) (ha := hA6))
  rw [h7] at HN7
  dsimp only at HN7
  obtain ⟨n8, A8, b8, h8⟩ : ∃ n A' b', rNum (bl s) A7 b7 = (n, A', b') := ⟨_, _, _, rfl⟩
  have hA8 : A8 ≤ s.size := by have := (rNum_le (l := bl s) (a := A7) (b := b7) (by rw [bl_length]; exact hA7)).1; rw [h8, bl_length] at this; exact this
  have hn8 : n8 ≤ 562949953421311 := by have := (rNum_le (l := bl s) (a := A7) (b := b7) (by rw [bl_length]; exact hA7)).2; rw [h8] at this; exact this
  have HN8 := hideP (number_any (s := s) (a := A7) (b := b7) (hs := hs) (ha := hA7))
  rw [h8] at HN8
  dsimp only at HN8
  obtain ⟨f, A9, b9, h9⟩ : ∃ n A' b', rFlag (bl s) A8 b8 = (n, A', b') := ⟨_, _, _, rfl⟩
  have hA9 : A9 ≤ s.size := by have h1 := (rNum_le (l := bl s) (a := A8) (b := b8) (by rw [bl_length]; exact hA8)).1; have e : A9 = (rNum (bl s) A8 b8).2.1 := (by have h2 : (rFlag (bl s) A8 b8).2.1 = A9 := (by rw [h9]); rw [← h2]; rfl); rw [e]; rw [bl_length] at h1; exact h1
  have HN9 := hideP (flag_any (s := s) (a := A8) (b := b8) (hs := hs) (ha := hA8))
  rw [h9] at HN9
  obtain ⟨lk, A10, b10, h10⟩ : ∃ n A' b', rList (bl s) A9 b9 1 = (n, A', b') := ⟨_, _, _, rfl⟩
  have hA10 := rList_le (l := bl s) (a := A9) (b := b9) (c := 1) (by rw [bl_length]; exact hA9)
  have HN10 := hideP (list_any (s := s) (a := A9) (b := b9) (c := 1) (hs := hs) (ha := hA9) (hc := by decide))
  rw [h10] at HN10 hA10
  rw [bl_length] at hA10
  obtain ⟨hA10, hlk⟩ := hA10
  obtain ⟨dt, A11, b11, h11⟩ : ∃ n A' b', rList (bl s) A10 b10 0 = (n, A', b') := ⟨_, _, _, rfl⟩
  have hA11 := rList_le (l := bl s) (a := A10) (b := b10) (c := 0) (by rw [bl_length]; exact hA10)
  have HN11 := hideP (list_any (s := s) (a := A10) (b := b10) (c := 0) (hs := hs) (ha := hA10) (hc := by decide))
  rw [h11] at HN11 hA11
  rw [bl_length] at hA11
  obtain ⟨hA11, hdt⟩ := hA11
  obtain ⟨n, A12, b12, h12⟩ : ∃ n A' b', rNum (bl s) A11 b11 = (n, A', b') := ⟨_, _, _, rfl⟩
  have hA12 : A12 ≤ s.size := by have := (rNum_le (l := bl s) (a := A11) (b := b11) (by rw [bl_length]; exact hA11)).1; rw [h12, bl_length] at this; exact this
  have HN12 := hideP (number_any (s := s) (a := A11) (b := b11) (hs := hs) (ha := hA11))
  rw [h12] at HN12
  dsimp only at HN9 HN10 HN11 HN12
  have HT := hideP (rThing_steps h0 h1 h2 h3 h4 h5 h6 h7 h8 h9 h10 h11 h12)
  rw [rThing_eq] at HT
  clear h0 h1 h2 h3 h4 h5 h6 h7 h8 h9 h10 h11 h12
  have HZ0 := hideP (((Blk.new' (w := w) (g := w.heap.size) #[.int .i64 0, .int .i64 0, .int .i64 0, .int .i64 0, .int .i64 0, .int .i64 0, .int .i64 0, .int .i64 0, .int .i64 0, .bool false, .slice none 0 0, .slice none 0 0, .slice none 0 0] 34 rfl).alloc (.cells #[.string s, .int .i64 0, .bool false] 53)).alloc (.cells #[.int .i64 0, .int .i64 0, .int .i64 0, .int .i64 0, .int .i64 0, .int .i64 0, .int .i64 0, .int .i64 0, .int .i64 0, .bool false, .slice none 0 0, .slice none 0 0, .slice none 0 0] 34))
  have HB0 : Hid (Blk (((w.alloc (.cells #[.int .i64 0, .int .i64 0, .int .i64 0, .int .i64 0, .int .i64 0, .int .i64 0, .int .i64 0, .int .i64 0, .int .i64 0, .bool false, .slice none 0 0, .slice none 0 0, .slice none 0 0] 34)).alloc (.cells #[.string s, .int .i64 0, .bool false] 53)).alloc (.cells #[.int .i64 0, .int .i64 0, .int .i64 0, .int .i64 0, .int .i64 0, .int .i64 0, .int .i64 0, .int .i64 0, .int .i64 0, .bool false, .slice none 0 0, .slice none 0 0, .slice none 0 0] 34)) (w.heap.size + 1) 53 [.string s, .int .i64 ((0 : Nat) : Int), .bool false]) := hideP ((Blk.new' (w := w.alloc (.cells #[.int .i64 0, .int .i64 0, .int .i64 0, .int .i64 0, .int .i64 0, .int .i64 0, .int .i64 0, .int .i64 0, .int .i64 0, .bool false, .slice none 0 0, .slice none 0 0, .slice none 0 0] 34)) (g := w.heap.size + 1) #[.string s, .int .i64 0, .bool false] 53 (by simp)).alloc (.cells #[.int .i64 0, .int .i64 0, .int .i64 0, .int .i64 0, .int .i64 0, .int .i64 0, .int .i64 0, .int .i64 0, .int .i64 0, .bool false, .slice none 0 0, .slice none 0 0, .slice none 0 0] 34))
  have HX0 : Hid (Blk (((w.alloc (.cells #[.int .i64 0, .int .i64 0, .int .i64 0, .int .i64 0, .int .i64 0, .int .i64 0, .int .i64 0, .int .i64 0, .int .i64 0, .bool false, .slice none 0 0, .slice none 0 0, .slice none 0 0] 34)).alloc (.cells #[.string s, .int .i64 0, .bool false] 53)).alloc (.cells #[.int .i64 0, .int .i64 0, .int .i64 0, .int .i64 0, .int .i64 0, .int .i64 0, .int .i64 0, .int .i64 0, .int .i64 0, .bool false, .slice none 0 0, .slice none 0 0, .slice none 0 0] 34)) (w.heap.size + 2) 34 [.int .i64 0, .int .i64 0, .int .i64 0, .int .i64 0, .int .i64 0, .int .i64 0, .int .i64 0, .int .i64 0, .int .i64 0, .bool false, .slice none 0 0, .slice none 0 0, .slice none 0 0]) := hideP (Blk.new' (w := ((w.alloc (.cells #[.int .i64 0, .int .i64 0, .int .i64 0, .int .i64 0, .int .i64 0, .int .i64 0, .int .i64 0, .int .i64 0, .int .i64 0, .bool false, .slice none 0 0, .slice none 0 0, .slice none 0 0] 34)).alloc (.cells #[.string s, .int .i64 0, .bool false] 53))) (g := w.heap.size + 2) #[.int .i64 0, .int .i64 0, .int .i64 0, .int .i64 0, .int .i64 0, .int .i64 0, .int .i64 0, .int .i64 0, .int .i64 0, .bool false, .slice none 0 0, .slice none 0 0, .slice none 0 0] 34 (by simp))
  have HK0 := hideP (Kept.refl (w.heap.size + 1) (w.heap.size + 2) (((w.alloc (.cells #[.int .i64 0, .int .i64 0, .int .i64 0, .int .i64 0, .int .i64 0, .int .i64 0, .int .i64 0, .int .i64 0, .int .i64 0, .bool false, .slice none 0 0, .slice none 0 0, .slice none 0 0] 34)).alloc (.cells #[.string s, .int .i64 0, .bool false] 53)).alloc (.cells #[.int .i64 0, .int .i64 0, .int .i64 0, .int .i64 0, .int .i64 0, .int .i64 0, .int .i64 0, .int .i64 0, .int .i64 0, .bool false, .slice none 0 0, .slice none 0 0, .slice none 0 0] 34)))
  have HE0 := hideP (below_a3 w (.cells #[.int .i64 0, .int .i64 0, .int .i64 0, .int .i64 0, .int .i64 0, .int .i64 0, .int .i64 0, .int .i64 0, .int .i64 0, .bool false, .slice none 0 0, .slice none 0 0, .slice none 0 0] 34) (.cells #[.string s, .int .i64 0, .bool false] 53) (.cells #[.int .i64 0, .int .i64 0, .int .i64 0, .int .i64 0, .int .i64 0, .int .i64 0, .int .i64 0, .int .i64 0, .int .i64 0, .bool false, .slice none 0 0, .slice none 0 0, .slice none 0 0] 34))
  have z0 : w.heap.size + 2 < ((((w.alloc (.cells #[.int .i64 0, .int .i64 0, .int .i64 0, .int .i64 0, .int .i64 0, .int .i64 0, .int .i64 0, .int .i64 0, .int .i64 0, .bool false, .slice none 0 0, .slice none 0 0, .slice none 0 0] 34)).alloc (.cells #[.string s, .int .i64 0, .bool false] 53)).alloc (.cells #[.int .i64 0, .int .i64 0, .int .i64 0, .int .i64 0, .int .i64 0, .int .i64 0, .int .i64 0, .int .i64 0, .int .i64 0, .bool false, .slice none 0 0, .slice none 0 0, .slice none 0 0] 34))).heap.size := by simp
  go_enter Try.func12, Try.ntmps12
  go_wp2_with fail
  refine (HN0.out (w.heap.size + 1) _ HB0.out).mono ?_
  rintro e w0 ⟨rfl, hB0, hg0⟩
  have HC0 := Lib.hid hB0
  have HY0 := hideP (grown_blk hg0 HX0.out (show (w.heap.size + 2) ≠ (w.heap.size + 1) by omega))
  have HL0 := hideP (HK0.out.trans (Kept.left hg0))
  clear hB0 hg0
  have x0 : w0.cell? ⟨w.heap.size + 2, 0, none⟩ = some (.int .i64 0) := (HY0.out.cell 0).trans rfl
  have y0 : w0.frozen? ⟨w.heap.size + 2, 0, none⟩ = false := HY0.out.frozen 0
  have HB1 := hideP (HC0.out.other 0 (.int .i64 ((n0 : Int))) (show (w.heap.size + 1) ≠ (w.heap.size + 2) by omega))
  have HX1 : Hid (Blk (w0.setCell ⟨(w.heap.size + 2), 0, none⟩ (.int .i64 ((n0 : Int)))) (w.heap.size + 2) 34 [.int .i64 ((n0 : Int)), .int .i64 0, .int .i64 0, .int .i64 0, .int .i64 0, .int .i64 0, .int .i64 0, .int .i64 0, .int .i64 0, .bool false, .slice none 0 0, .slice none 0 0, .slice none 0 0]) := hideP (HY0.out.set 0 (.int .i64 ((n0 : Int))))
  have HK1 := hideP (HL0.out.set (i := 0) (v := .int .i64 ((n0 : Int))))
  go_wp2_with fail
  refine (HN1.out (w.heap.size + 1) _ HB1.out).mono ?_
  rintro e w1 ⟨rfl, hB1, hg1⟩
  have HC1 := Lib.hid hB1
  have HY1 := hideP (grown_blk hg1 HX1.out (show (w.heap.size + 2) ≠ (w.heap.size + 1) by omega))
  have HL1 := hideP (HK1.out.trans (Kept.left hg1))
  clear hB1 hg1 x0 y0 HC0 HY0 HL0
  have x1 : w1.cell? ⟨w.heap.size + 2, 1, none⟩ = some (.int .i64 0) := (HY1.out.cell 1).trans rfl
  have y1 : w1.frozen? ⟨w.heap.size + 2, 1, none⟩ = false := HY1.out.frozen 1
  have HB2 := hideP (HC1.out.other 1 (.int .i64 ((n1 : Int))) (show (w.heap.size + 1) ≠ (w.heap.size + 2) by omega))
  have HX2 : Hid (Blk (w1.setCell ⟨(w.heap.size + 2), 1, none⟩ (.int .i64 ((n1 : Int)))) (w.heap.size + 2) 34 [.int .i64 ((n0 : Int)), .int .i64 ((n1 : Int)), .int .i64 0, .int .i64 0, .int .i64 0, .int .i64 0, .int .i64 0, .int .i64 0, .int .i64 0, .bool false, .slice none 0 0, .slice none 0 0, .slice none 0 0]) := hideP (HY1.out.set 1 (.int .i64 ((n1 : Int))))
  have HK2 := hideP (HL1.out.set (i := 1) (v := .int .i64 ((n1 : Int))))
  go_wp2_with fail
  refine (HN2.out (w.heap.size + 1) _ HB2.out).mono ?_
  rintro e w2 ⟨rfl, hB2, hg2⟩
  have HC2 := Lib.hid hB2
  have HY2 := hideP (grown_blk hg2 HX2.out (show (w.heap.size + 2) ≠ (w.heap.size + 1) by omega))
  have HL2 := hideP (HK2.out.trans (Kept.left hg2))
  clear hB2 hg2 x1 y1 HC1 HY1 HL1
  have x2 : w2.cell? ⟨w.heap.size + 2, 2, none⟩ = some (.int .i64 0) := (HY2.out.cell 2).trans rfl
  have y2 : w2.frozen? ⟨w.heap.size + 2, 2, none⟩ = false := HY2.out.frozen 2
  have HB3 := hideP (HC2.out.other 2 (.int .i64 ((n2 : Int) - 1)) (show (w.heap.size + 1) ≠ (w.heap.size + 2) by omega))
  have HX3 : Hid (Blk (w2.setCell ⟨(w.heap.size + 2), 2, none⟩ (.int .i64 ((n2 : Int) - 1))) (w.heap.size + 2) 34 [.int .i64 ((n0 : Int)), .int .i64 ((n1 : Int)), .int .i64 ((n2 : Int) - 1), .int .i64 0, .int .i64 0, .int .i64 0, .int .i64 0, .int .i64 0, .int .i64 0, .bool false, .slice none 0 0, .slice none 0 0, .slice none 0 0]) := hideP (HY2.out.set 2 (.int .i64 ((n2 : Int) - 1)))
  have HK3 := hideP (HL2.out.set (i := 2) (v := .int .i64 ((n2 : Int) - 1)))
  go_wp2_with fail
  refine (HN3.out (w.heap.size + 1) _ HB3.out).mono ?_
  rintro e w3 ⟨rfl, hB3, hg3⟩
  have HC3 := Lib.hid hB3
  have HY3 := hideP (grown_blk hg3 HX3.out (show (w.heap.size + 2) ≠ (w.heap.size + 1) by omega))
  have HL3 := hideP (HK3.out.trans (Kept.left hg3))
  clear hB3 hg3 x2 y2 HC2 HY2 HL2
  have x3 : w3.cell? ⟨w.heap.size + 2, 3, none⟩ = some (.int .i64 0) := (HY3.out.cell 3).trans rfl
  have y3 : w3.frozen? ⟨w.heap.size + 2, 3, none⟩ = false := HY3.out.frozen 3
  have HB4 := hideP (HC3.out.other 3 (.int .i64 ((n3 : Int))) (show (w.heap.size + 1) ≠ (w.heap.size + 2) by omega))
  have HX4 : Hid (Blk (w3.setCell ⟨(w.heap.size + 2), 3, none⟩ (.int .i64 ((n3 : Int)))) (w.heap.size + 2) 34 [.int .i64 ((n0 : Int)), .int .i64 ((n1 : Int)), .int .i64 ((n2 : Int) - 1), .int .i64 ((n3 : Int)), .int .i64 0, .int .i64 0, .int .i64 0, .int .i64 0, .int .i64 0, .bool false, .slice none 0 0, .slice none 0 0, .slice none 0 0]) := hideP (HY3.out.set 3 (.int .i64 ((n3 : Int))))
  have HK4 := hideP (HL3.out.set (i := 3) (v := .int .i64 ((n3 : Int))))
  go_wp2_with fail
  refine (HN4.out (w.heap.size + 1) _ HB4.out).mono ?_
  rintro e w4 ⟨rfl, hB4, hg4⟩
  have HC4 := Lib.hid hB4
  have HY4 := hideP (grown_blk hg4 HX4.out (show (w.heap.size + 2) ≠ (w.heap.size + 1) by omega))
  have HL4 := hideP (HK4.out.trans (Kept.left hg4))
  clear hB4 hg4 x3 y3 HC3 HY3 HL3
  have x4 : w4.cell? ⟨w.heap.size + 2, 4, none⟩ = some (.int .i64 0) := (HY4.out.cell 4).trans rfl
  have y4 : w4.frozen? ⟨w.heap.size + 2, 4, none⟩ = false := HY4.out.frozen 4
  have HB5 := hideP (HC4.out.other 4 (.int .i64 ((n4 : Int))) (show (w.heap.size + 1) ≠ (w.heap.size + 2) by omega))
  have HX5 : Hid (Blk (w4.setCell ⟨(w.heap.size + 2), 4, none⟩ (.int .i64 ((n4 : Int)))) (w.heap.size + 2) 34 [.int .i64 ((n0 : Int)), .int .i64 ((n1 : Int)), .int .i64 ((n2 : Int) - 1), .int .i64 ((n3 : Int)), .int .i64 ((n4 : Int)), .int .i64 0, .int .i64 0, .int .i64 0, .int .i64 0, .bool false, .slice none 0 0, .slice none 0 0, .slice none 0 0]) := hideP (HY4.out.set 4 (.int .i64 ((n4 : Int))))
  have HK5 := hideP (HL4.out.set (i := 4) (v := .int .i64 ((n4 : Int))))
  go_wp2_with fail
  refine (HN5.out (w.heap.size + 1) _ HB5.out).mono ?_
  rintro e w5 ⟨rfl, hB5, hg5⟩
  have HC5 := Lib.hid hB5
  have HY5 := hideP (grown_blk hg5 HX5.out (show (w.heap.size + 2) ≠ (w.heap.size + 1) by omega))
  have HL5 := hideP (HK5.out.trans (Kept.left hg5))
  clear hB5 hg5 x4 y4 HC4 HY4 HL4
  have x5 : w5.cell? ⟨w.heap.size + 2, 5, none⟩ = some (.int .i64 0) := (HY5.out.cell 5).trans rfl
  have y5 : w5.frozen? ⟨w.heap.size + 2, 5, none⟩ = false := HY5.out.frozen 5
  have HB6 := hideP (HC5.out.other 5 (.int .i64 ((n5 : Int))) (show (w.heap.size + 1) ≠ (w.heap.size + 2) by omega))
  have HX6 : Hid (Blk (w5.setCell ⟨(w.heap.size + 2), 5, none⟩ (.int .i64 ((n5 : Int)))) (w.heap.size + 2) 34 [.int .i64 ((n0 : Int)), .int .i64 ((n1 : Int)), .int .i64 ((n2 : Int) - 1), .int .i64 ((n3 : Int)), .int .i64 ((n4 : Int)), .int .i64 ((n5 : Int)), .int .i64 0, .int .i64 0, .int .i64 0, .bool false, .slice none 0 0, .slice none 0 0, .slice none 0 0]) := hideP (HY5.out.set 5 (.int .i64 ((n5 : Int))))
  have HK6 := hideP (HL5.out.set (i := 5) (v := .int .i64 ((n5 : Int))))
  go_wp2_with fail
  refine (HN6.out (w.heap.size + 1) _ HB6.out).mono ?_
  rintro e w6 ⟨rfl, hB6, hg6⟩
  have HC6 := Lib.hid hB6
  have HY6 := hideP (grown_blk hg6 HX6.out (show (w.heap.size + 2) ≠ (w.heap.size + 1) by omega))
  have HL6 := hideP (HK6.out.trans (Kept.left hg6))
  clear hB6 hg6 x5 y5 HC5 HY5 HL5
  have x6 : w6.cell? ⟨w.heap.size + 2, 6, none⟩ = some (.int .i64 0) := (HY6.out.cell 6).trans rfl
  have y6 : w6.frozen? ⟨w.heap.size + 2, 6, none⟩ = false := HY6.out.frozen 6
  have HB7 := hideP (HC6.out.other 6 (.int .i64 ((n6 : Int))) (show (w.heap.size + 1) ≠ (w.heap.size + 2) by omega))
  have HX7 : Hid (Blk (w6.setCell ⟨(w.heap.size + 2), 6, none⟩ (.int .i64 ((n6 : Int)))) (w.heap.size + 2) 34 [.int .i64 ((n0 : Int)), .int .i64 ((n1 : Int)), .int .i64 ((n2 : Int) - 1), .int .i64 ((n3 : Int)), .int .i64 ((n4 : Int)), .int .i64 ((n5 : Int)), .int .i64 ((n6 : Int)), .int .i64 0, .int .i64 0, .bool false, .slice none 0 0, .slice none 0 0, .slice none 0 0]) := hideP (HY6.out.set 6 (.int .i64 ((n6 : Int))))
  have HK7 := hideP (HL6.out.set (i := 6) (v := .int .i64 ((n6 : Int))))
  go_wp2_with fail
  refine (HN7.out (w.heap.size + 1) _ HB7.out).mono ?_
  rintro e w7 ⟨rfl, hB7, hg7⟩
  have HC7 := Lib.hid hB7
  have HY7 := hideP (grown_blk hg7 HX7.out (show (w.heap.size + 2) ≠ (w.heap.size + 1) by omega))
  have HL7 := hideP (HK7.out.trans (Kept.left hg7))
  clear hB7 hg7 x6 y6 HC6 HY6 HL6
  have x7 : w7.cell? ⟨w.heap.size + 2, 7, none⟩ = some (.int .i64 0) := (HY7.out.cell 7).trans rfl
  have y7 : w7.frozen? ⟨w.heap.size + 2, 7, none⟩ = false := HY7.out.frozen 7
  have HB8 := hideP (HC7.out.other 7 (.int .i64 ((n7 : Int) - 1)) (show (w.heap.size + 1) ≠ (w.heap.size + 2) by omega))
  have HX8 : Hid (Blk (w7.setCell ⟨(w.heap.size + 2), 7, none⟩ (.int .i64 ((n7 : Int) - 1))) (w.heap.size + 2) 34 [.int .i64 ((n0 : Int)), .int .i64 ((n1 : Int)), .int .i64 ((n2 : Int) - 1), .int .i64 ((n3 : Int)), .int .i64 ((n4 : Int)), .int .i64 ((n5 : Int)), .int .i64 ((n6 : Int)), .int .i64 ((n7 : Int) - 1), .int .i64 0, .bool false, .slice none 0 0, .slice none 0 0, .slice none 0 0]) := hideP (HY7.out.set 7 (.int .i64 ((n7 : Int) - 1)))
  have HK8 := hideP (HL7.out.set (i := 7) (v := .int .i64 ((n7 : Int) - 1)))
  go_wp2_with fail
  refine (HN8.out (w.heap.size + 1) _ HB8.out).mono ?_
  rintro e w8 ⟨rfl, hB8, hg8⟩
  have HC8 := Lib.hid hB8
  have HY8 := hideP (grown_blk hg8 HX8.out (show (w.heap.size + 2) ≠ (w.heap.size + 1) by omega))
  have HL8 := hideP (HK8.out.trans (Kept.left hg8))
  clear hB8 hg8 x7 y7 HC7 HY7 HL7
  have x8 : w8.cell? ⟨w.heap.size + 2, 8, none⟩ = some (.int .i64 0) := (HY8.out.cell 8).trans rfl
  have y8 : w8.frozen? ⟨w.heap.size + 2, 8, none⟩ = false := HY8.out.frozen 8
  have HB9 := hideP (HC8.out.other 8 (.int .i64 ((n8 : Int))) (show (w.heap.size + 1) ≠ (w.heap.size + 2) by omega))
  have HX9 : Hid (Blk (w8.setCell ⟨(w.heap.size + 2), 8, none⟩ (.int .i64 ((n8 : Int)))) (w.heap.size + 2) 34 [.int .i64 ((n0 : Int)), .int .i64 ((n1 : Int)), .int .i64 ((n2 : Int) - 1), .int .i64 ((n3 : Int)), .int .i64 ((n4 : Int)), .int .i64 ((n5 : Int)), .int .i64 ((n6 : Int)), .int .i64 ((n7 : Int) - 1), .int .i64 ((n8 : Int)), .bool false, .slice none 0 0, .slice none 0 0, .slice none 0 0]) := hideP (HY8.out.set 8 (.int .i64 ((n8 : Int))))
  have HK9 := hideP (HL8.out.set (i := 8) (v := .int .i64 ((n8 : Int))))
  go_wp2_with fail
  refine (HN9.out (w.heap.size + 1) _ HB9.out).mono ?_
  rintro e w9 ⟨rfl, hB9, hg9⟩
  have HC9 := Lib.hid hB9
  have HY9 := hideP (grown_blk hg9 HX9.out (show (w.heap.size + 2) ≠ (w.heap.size + 1) by omega))
  have HL9 := hideP (HK9.out.trans (Kept.left hg9))
  clear hB9 hg9 x8 y8 HC8 HY8 HL8
  have x9 : w9.cell? ⟨w.heap.size + 2, 9, none⟩ = some (.bool false) := (HY9.out.cell 9).trans rfl
  have y9 : w9.frozen? ⟨w.heap.size + 2, 9, none⟩ = false := HY9.out.frozen 9
  have HB10 := hideP (HC9.out.other 9 (.bool f) (show (w.heap.size + 1) ≠ (w.heap.size + 2) by omega))
  have HX10 : Hid (Blk (w9.setCell ⟨(w.heap.size + 2), 9, none⟩ (.bool f)) (w.heap.size + 2) 34 [.int .i64 ((n0 : Int)), .int .i64 ((n1 : Int)), .int .i64 ((n2 : Int) - 1), .int .i64 ((n3 : Int)), .int .i64 ((n4 : Int)), .int .i64 ((n5 : Int)), .int .i64 ((n6 : Int)), .int .i64 ((n7 : Int) - 1), .int .i64 ((n8 : Int)), .bool f, .slice none 0 0, .slice none 0 0, .slice none 0 0]) := hideP (HY9.out.set 9 (.bool f))
  have HK10 := hideP (HL9.out.set (i := 9) (v := .bool f))
  go_wp2_with fail
  refine (HN10.out (w.heap.size + 1) _ HB10.out).mono ?_
  rintro e w10 ⟨vl, rfl, hol, hB10, hg10⟩
  have HC10 := Lib.hid hB10
  have HY10 := hideP (grown_blk hg10 HX10.out (show (w.heap.size + 2) ≠ (w.heap.size + 1) by omega))
  have HL10 := hideP (HK10.out.trans (Kept.left hg10))
  obtain ⟨pl, cl, rfl, _⟩ := owns_slice hol
  have HOl := Lib.hid hol
  clear hol hB10 hg10 x9 y9 HC9 HY9 HL9
  have x10 : w10.cell? ⟨w.heap.size + 2, 10, none⟩ = some (.slice none 0 0) := (HY10.out.cell 10).trans rfl
  have y10 : w10.frozen? ⟨w.heap.size + 2, 10, none⟩ = false := HY10.out.frozen 10
  have HB11 := hideP (HC10.out.other 10 (.slice pl lk.length cl) (show (w.heap.size + 1) ≠ (w.heap.size + 2) by omega))
  have HX11 : Hid (Blk (w10.setCell ⟨(w.heap.size + 2), 10, none⟩ (.slice pl lk.length cl)) (w.heap.size + 2) 34 [.int .i64 ((n0 : Int)), .int .i64 ((n1 : Int)), .int .i64 ((n2 : Int) - 1), .int .i64 ((n3 : Int)), .int .i64 ((n4 : Int)), .int .i64 ((n5 : Int)), .int .i64 ((n6 : Int)), .int .i64 ((n7 : Int) - 1), .int .i64 ((n8 : Int)), .bool f, .slice pl lk.length cl, .slice none 0 0, .slice none 0 0]) := hideP (HY10.out.set 10 (.slice pl lk.length cl))
  have HK11 := hideP (HL10.out.set (i := 10) (v := .slice pl lk.length cl))
  go_wp2_with fail
  refine (HN11.out (w.heap.size + 1) _ HB11.out).mono ?_
  rintro e w11 ⟨vd, rfl, hod, hB11, hg11⟩
  have HC11 := Lib.hid hB11
  have HY11 := hideP (grown_blk hg11 HX11.out (show (w.heap.size + 2) ≠ (w.heap.size + 1) by omega))
  have HL11 := hideP (HK11.out.trans (Kept.left hg11))
  obtain ⟨pd, cd, rfl, _⟩ := owns_slice hod
  have HOd := Lib.hid hod
  have HGX11 := Lib.hid hg11
  clear hod hB11 hg11 x10 y10 HC10 HY10 HL10
  have x11 : w11.cell? ⟨w.heap.size + 2, 11, none⟩ = some (.slice none 0 0) := (HY11.out.cell 11).trans rfl
  have y11 : w11.frozen? ⟨w.heap.size + 2, 11, none⟩ = false := HY11.out.frozen 11
  have HB12 := hideP (HC11.out.other 11 (.slice pd dt.length cd) (show (w.heap.size + 1) ≠ (w.heap.size + 2) by omega))
  have HX12 : Hid (Blk (w11.setCell ⟨(w.heap.size + 2), 11, none⟩ (.slice pd dt.length cd)) (w.heap.size + 2) 34 [.int .i64 ((n0 : Int)), .int .i64 ((n1 : Int)), .int .i64 ((n2 : Int) - 1), .int .i64 ((n3 : Int)), .int .i64 ((n4 : Int)), .int .i64 ((n5 : Int)), .int .i64 ((n6 : Int)), .int .i64 ((n7 : Int) - 1), .int .i64 ((n8 : Int)), .bool f, .slice pl lk.length cl, .slice pd dt.length cd, .slice none 0 0]) := hideP (HY11.out.set 11 (.slice pd dt.length cd))
  have HK12 := hideP (HL11.out.set (i := 11) (v := .slice pd dt.length cd))
  go_wp2_with fail
  refine (HN12.out (w.heap.size + 1) _ HB12.out).mono ?_
  rintro e w12 ⟨rfl, hB12, hg12⟩
  have HC12 := Lib.hid hB12
  have HY12 := hideP (grown_blk hg12 HX12.out (show (w.heap.size + 2) ≠ (w.heap.size + 1) by omega))
  have HL12 := hideP (HK12.out.trans (Kept.left hg12))
  have HGX12 := Lib.hid hg12
  clear hB12 hg12 x11 y11
  have s0 : w.heap.size + 2 < w12.heap.size := HY12.out.lt
  have K11 := hideP (((Kept.refl (w.heap.size + 1) (w.heap.size + 2) w11).set (i := 11) (v := .slice pd dt.length cd)).trans (Kept.left HGX12.out))
  have K10 := hideP ((((Kept.refl (w.heap.size + 1) (w.heap.size + 2) w10).set (i := 10) (v := .slice pl lk.length cl)).trans (Kept.left HGX11.out)).trans K11.out)
  have Pl : ∀ k, (Value.slice pl lk.length cl).ownBlock = some k → w.heap.size + 2 < k ∧ k < w10.heap.size := fun k hk => by
    have h1 := HOl.out.lt k hk
    have h2 := HX10.out.lt
    omega
  have Pd : ∀ k, (Value.slice pd dt.length cd).ownBlock = some k → w10.heap.size ≤ k ∧ k < w11.heap.size := fun k hk => by
    have h1 := HOd.out.lt k hk
    simp only [World.size_setCell] at h1
    exact h1
  have z10 : w10.heap.size ≤ w11.heap.size := by have := HGX11.out.size; simp only [World.size_setCell] at this; exact this
  have z11 : w11.heap.size ≤ w12.heap.size := by have := HGX12.out.size; simp only [World.size_setCell] at this; exact this
  have HE0s : Hid (w.heap.size + 2 < w9.heap.size) := hideP (by have := HX10.out.lt; simp only [World.size_setCell] at this; exact this)
  have z8 : w.heap.size + 2 < w10.heap.size := by have := HX11.out.lt; simp only [World.size_setCell] at this; exact this
  have HOl := hideP (K10.out.owns HOl.out (fun k hk => by have := Pl k hk; omega))
  have HOd := hideP (K11.out.owns HOd.out (fun k hk => by have := Pd k hk; omega))
  have HZ := hideP (HL12.out.blk HZ0.out (show w.heap.size ≠ (w.heap.size + 1) by omega) (show w.heap.size ≠ (w.heap.size + 2) by omega))
  have HE := hideP (HL12.out.below HE0.out (by omega) (by omega) (by omega))
  have HB := hideP HC12.out
  have HX : Hid (Blk w12 (w.heap.size + 2) 34 [.int .i64 ((n0 : Int)), .int .i64 ((n1 : Int)), .int .i64 ((n2 : Int) - 1), .int .i64 ((n3 : Int)), .int .i64 ((n4 : Int)), .int .i64 ((n5 : Int)), .int .i64 ((n6 : Int)), .int .i64 ((n7 : Int) - 1), .int .i64 ((n8 : Int)), .bool f, .slice pl lk.length cl, .slice pd dt.length cd, .slice none 0 0]) := hideP HY12.out
  clear HC12 HY12 HL12 HZ0 HE0 HK0 HB0 HX0 K10 K11 HGX11 HGX12 z0 HB1 HX1 HK1 HB2 HX2 HK2 HB3 HX3 HK3 HB4 HX4 HK4 HB5 HX5 HK5 HB6 HX6 HK6 HB7 HX7 HK7 HB8 HX8 HK8 HB9 HX9 HK9 HB10 HX10 HK10 HB11 HX11 HK11 HB12 HX12 HK12
  clear HN0 HN1 HN2 HN3 HN4 HN5 HN6 HN7 HN8 HN9 HN10 HN11 HN12
  by_cases hbig : 2 < n
  · have d1 : (2 : Int) < (n : Int) := by omega
    have HN : Hid (readThing (bl s) = none) := hideP (by rw [HT.out, if_pos hbig])
    clear hbig
    have HZw := HZ
    have z0 : w12.cell? ⟨w.heap.size, 0, none⟩ = some (.int .i64 0) := (HZw.out.cell 0).trans rfl
    have k0 : w12.frozen? ⟨w.heap.size, 0, none⟩ = false := HZw.out.frozen 0
    have z1 : w12.cell? ⟨w.heap.size, 1, none⟩ = some (.int .i64 0) := (HZw.out.cell 1).trans rfl
    have k1 : w12.frozen? ⟨w.heap.size, 1, none⟩ = false := HZw.out.frozen 1
    have z2 : w12.cell? ⟨w.heap.size, 2, none⟩ = some (.int .i64 0) := (HZw.out.cell 2).trans rfl
    have k2 : w12.frozen? ⟨w.heap.size, 2, none⟩ = false := HZw.out.frozen 2
    have z3 : w12.cell? ⟨w.heap.size, 3, none⟩ = some (.int .i64 0) := (HZw.out.cell 3).trans rfl
    have k3 : w12.frozen? ⟨w.heap.size, 3, none⟩ = false := HZw.out.frozen 3
    have z4 : w12.cell? ⟨w.heap.size, 4, none⟩ = some (.int .i64 0) := (HZw.out.cell 4).trans rfl
    have k4 : w12.frozen? ⟨w.heap.size, 4, none⟩ = false := HZw.out.frozen 4
    have z5 : w12.cell? ⟨w.heap.size, 5, none⟩ = some (.int .i64 0) := (HZw.out.cell 5).trans rfl
    have k5 : w12.frozen? ⟨w.heap.size, 5, none⟩ = false := HZw.out.frozen 5
    have z6 : w12.cell? ⟨w.heap.size, 6, none⟩ = some (.int .i64 0) := (HZw.out.cell 6).trans rfl
    have k6 : w12.frozen? ⟨w.heap.size, 6, none⟩ = false := HZw.out.frozen 6
    have z7 : w12.cell? ⟨w.heap.size, 7, none⟩ = some (.int .i64 0) := (HZw.out.cell 7).trans rfl
    have k7 : w12.frozen? ⟨w.heap.size, 7, none⟩ = false := HZw.out.frozen 7
    have z8 : w12.cell? ⟨w.heap.size, 8, none⟩ = some (.int .i64 0) := (HZw.out.cell 8).trans rfl
    have k8 : w12.frozen? ⟨w.heap.size, 8, none⟩ = false := HZw.out.frozen 8
    have z9 : w12.cell? ⟨w.heap.size, 9, none⟩ = some (.bool false) := (HZw.out.cell 9).trans rfl
    have k9 : w12.frozen? ⟨w.heap.size, 9, none⟩ = false := HZw.out.frozen 9
    have z10 : w12.cell? ⟨w.heap.size, 10, none⟩ = some (.slice none 0 0) := (HZw.out.cell 10).trans rfl
    have k10 : w12.frozen? ⟨w.heap.size, 10, none⟩ = false := HZw.out.frozen 10
    have z11 : w12.cell? ⟨w.heap.size, 11, none⟩ = some (.slice none 0 0) := (HZw.out.cell 11).trans rfl
    have k11 : w12.frozen? ⟨w.heap.size, 11, none⟩ = false := HZw.out.frozen 11
    have z12 : w12.cell? ⟨w.heap.size, 12, none⟩ = some (.slice none 0 0) := (HZw.out.cell 12).trans rfl
    have k12 : w12.frozen? ⟨w.heap.size, 12, none⟩ = false := HZw.out.frozen 12
    go_wp2
    refine bodyPost_ret (v := .tuple #[.agg #[.int .i64 0, .int .i64 0, .int .i64 0, .int .i64 0, .int .i64 0, .int .i64 0, .int .i64 0, .int .i64 0, .int .i64 0, .bool false, .slice none 0 0, .slice none 0 0, .slice none 0 0], .int .i64 0]) (by simp [results, Try.results12, go_sem, z0, z1, z2, z3, z4, z5, z6, z7, z8, z9, z10, z11, z12]) rfl (ThingRet.no HN.out ?_)
    repeat (first | (with_reducible exact HE.out) | refine Below.setCell ?_ (by simp) _)
  have d1 : ¬ (2 : Int) < (n : Int) := by omega
  rw [if_neg hbig] at HT
  clear hbig
  go_wp2
  go_loopg [61] (n + 1) (fun gk i wr => ∃ (k : Nat) (q : List Msg) (A : Nat) (b : Bool) (pq : Option Addr) (cq : Nat), n < gk + k ∧ k ≤ n ∧ i = .int .i64 (k : Int) ∧ A ≤ s.size ∧ Hid (rMsgs (bl s) A12 b12 k = (q, A, b)) ∧ Hid (Blk wr (w.heap.size + 1) 53 [.string s, .int .i64 (A : Int), .bool b]) ∧ Hid (Blk wr (w.heap.size + 2) 34 [.int .i64 ((n0 : Int)), .int .i64 ((n1 : Int)), .int .i64 ((n2 : Int) - 1), .int .i64 ((n3 : Int)), .int .i64 ((n4 : Int)), .int .i64 ((n5 : Int)), .int .i64 ((n6 : Int)), .int .i64 ((n7 : Int) - 1), .int .i64 ((n8 : Int)), .bool f, .slice pl lk.length cl, .slice pd dt.length cd, .slice pq k cq]) ∧ Hid (wr.ownsRow w12.heap.size 67 2 (.slice pq k cq) k (q.flatMap Msg.enc)) ∧ Hid (Kept (w.heap.size + 1) (w.heap.size + 2) w12 wr))
  case atStart => exact ⟨0, [], A12, b12, none, 0, by omega, by omega, rfl, hA12, hideP rfl, HB, HX, hideP (owns_nil' _ _ _ _), hideP (Kept.refl _ _ _)⟩
  case round =>
    clear HB HX
    obtain ⟨k, q, A, b, pq, cq, hgk, hk, rfl, hA, hq, hB, hX, hO, hK⟩ := hrel
    have p0 : w.heap.size + 2 < wr.heap.size := Nat.lt_of_lt_of_le s0 hK.out.size
    have p1 : w12.heap.size ≤ wr.heap.size := hK.out.size
    by_cases hlt : k < n
    · obtain ⟨m1, A1, c1, e1⟩ : ∃ n A' b', rNum (bl s) A b = (n, A', b') := ⟨_, _, _, rfl⟩
      have hA1 : A1 ≤ s.size := by have := (rNum_le (l := bl s) (a := A) (b := b) (by rw [bl_length]; exact hA)).1; rw [e1, bl_length] at this; exact this
      have hm1 : m1 ≤ 562949953421311 := by have := (rNum_le (l := bl s) (a := A) (b := b) (by rw [bl_length]; exact hA)).2; rw [e1] at this; exact this
      obtain ⟨m2, A2, c2, e2⟩ : ∃ n A' b', rNum (bl s) A1 c1 = (n, A', b') := ⟨_, _, _, rfl⟩
      have hA2 : A2 ≤ s.size := by have := (rNum_le (l := bl s) (a := A1) (b := c1) (by rw [bl_length]; exact hA1)).1; rw [e2, bl_length] at this; exact this
      have hm2 : m2 ≤ 562949953421311 := by have := (rNum_le (l := bl s) (a := A1) (b := c1) (by rw [bl_length]; exact hA1)).2; rw [e2] at this; exact this
      have M1 := hideP (number_any (s := s) (a := A) (b := b) (hs := hs) (ha := hA))
      have M2 := hideP (number_any (s := s) (a := A1) (b := c1) (hs := hs) (ha := hA1))
      rw [e1] at M1
      rw [e2] at M2
      dsimp only at M1 M2
      have HQ : Hid (rMsgs (bl s) A12 b12 (k + 1) = (q ++ [⟨(m1 : Int) - 1, (m2 : Int)⟩], A2, c2)) := hideP (by rw [rMsgs, hq.out]; unfold rMsg; dsimp only; rw [e1]; dsimp only; rw [e2])
      clear e1 e2
      have OB : ∀ x, (Value.slice pq k cq).ownBlock = some x → w.heap.size + 2 < x ∧ x < wr.heap.size ∧ w12.heap.size ≤ x := fun x hx => by have := hO.out.lt x hx; omega
      have B0 := hideP (hB.out.alloc (.cells #[.int .i64 0, .int .i64 0] 67))
      have X0 := hideP (hX.out.alloc (.cells #[.int .i64 0, .int .i64 0] 67))
      have N0 : Hid (Blk (wr.alloc (.cells #[.int .i64 0, .int .i64 0] 67)) wr.heap.size 67 [.int .i64 0, .int .i64 0]) := hideP (Blk.new wr #[.int .i64 0, .int .i64 0] 67)
      have O0 := hideP (hO.out.alloc (.cells #[.int .i64 0, .int .i64 0] 67))
      have K0 := hideP (hK.out.alloc (.cells #[.int .i64 0, .int .i64 0] 67))
      go_wp2_with fail
      refine (M1.out (w.heap.size + 1) _ B0.out).mono ?_
      rintro e v1 ⟨rfl, hB1, hg1⟩
      have B1 := Lib.hid hB1
      have X1 := hideP (grown_blk hg1 X0.out (show (w.heap.size + 2) ≠ (w.heap.size + 1) by omega))
      have N1 := hideP (grown_blk hg1 N0.out (show wr.heap.size ≠ (w.heap.size + 1) by omega))
      have O1 := hideP (owns_other O0.out hg1 (show (w.heap.size + 1) < w12.heap.size by omega))
      have K1 := hideP (K0.out.trans (Kept.left hg1))
      clear hB1 hg1 B0 X0 N0 O0 K0
      have a0 : v1.cell? ⟨wr.heap.size, 0, none⟩ = some (.int .i64 0) := (N1.out.cell 0).trans rfl
      have f0 : v1.frozen? ⟨wr.heap.size, 0, none⟩ = false := N1.out.frozen 0
      have B1s := hideP (B1.out.other 0 (.int .i64 ((m1 : Int) - 1)) (show (w.heap.size + 1) ≠ wr.heap.size by omega))
      have X1s := hideP (X1.out.other 0 (.int .i64 ((m1 : Int) - 1)) (show (w.heap.size + 2) ≠ wr.heap.size by omega))
      have N1s : Hid (Blk (v1.setCell ⟨wr.heap.size, 0, none⟩ (.int .i64 ((m1 : Int) - 1))) wr.heap.size 67 [.int .i64 ((m1 : Int) - 1), .int .i64 0]) := hideP (N1.out.set 0 (.int .i64 ((m1 : Int) - 1)))
      have O1s := hideP (owns_setother (M := wr.heap.size) (i := 0) (u := .int .i64 ((m1 : Int) - 1)) O1.out (fun x hx => by have := OB x hx; omega))
      have K1s := hideP (K1.out.setnew (M := wr.heap.size) (i := 0) (v := .int .i64 ((m1 : Int) - 1)) p1)
      clear B1 X1 N1 O1 K1
      go_wp2_with fail
      refine (M2.out (w.heap.size + 1) _ B1s.out).mono ?_
      rintro e v2 ⟨rfl, hB2, hg2⟩
      have B2 := Lib.hid hB2
      have X2 := hideP (grown_blk hg2 X1s.out (show (w.heap.size + 2) ≠ (w.heap.size + 1) by omega))
      have N2 := hideP (grown_blk hg2 N1s.out (show wr.heap.size ≠ (w.heap.size + 1) by omega))
      have O2 := hideP (owns_other O1s.out hg2 (show (w.heap.size + 1) < w12.heap.size by omega))
      have K2 := hideP (K1s.out.trans (Kept.left hg2))
      have q2 : wr.heap.size < v2.heap.size := N2.out.lt
      clear hB2 hg2 B1s X1s N1s O1s K1s a0 f0
      have a0 : v2.cell? ⟨wr.heap.size, 0, none⟩ = some (.int .i64 ((m1 : Int) - 1)) := (N2.out.cell 0).trans rfl
      have a1 : v2.cell? ⟨wr.heap.size, 1, none⟩ = some (.int .i64 0) := (N2.out.cell 1).trans rfl
      have f1 : v2.frozen? ⟨wr.heap.size, 1, none⟩ = false := N2.out.frozen 1
      have a12 : v2.cell? ⟨w.heap.size + 2, 12, none⟩ = some (.slice pq k cq) := (X2.out.cell 12).trans rfl
      have B2s := hideP (B2.out.other 1 (.int .i64 (m2 : Int)) (show (w.heap.size + 1) ≠ wr.heap.size by omega))
      have X2s := hideP (X2.out.other 1 (.int .i64 (m2 : Int)) (show (w.heap.size + 2) ≠ wr.heap.size by omega))
      have O2s := hideP (owns_setother (M := wr.heap.size) (i := 1) (u := .int .i64 (m2 : Int)) O2.out (fun x hx => by have := OB x hx; omega))
      have K2s := hideP (K2.out.setnew (M := wr.heap.size) (i := 1) (v := .int .i64 (m2 : Int)) p1)
      clear B2 X2 N2 O2 K2
      have ne1 : ¬ w.heap.size + 2 = wr.heap.size := by omega
      go_wp2_with (at_builtin; refine wpList_append_rd _ rfl _ _ 32 rfl w12.heap.size 67 im (.agg #[.int .i64 0, .int .i64 0]) 2 16 Try.underlying32 him hzm0 hzm1 hzm2 rfl (by decide) _ _ _ rfl (O2s.out.alloc _) _ 1 1 (Msg.enc ⟨(m1 : Int) - 1, (m2 : Int)⟩) rfl rfl (rd_litg (by rfl) (by simp)) ?c1 ?c2 ?c3 ?c4 ?_)
      case c1 => simp [Value.oneCell', Msg.enc]
      case c2 => unfold maxLen; omega
      case c3 => omega
      case c4 => simp; omega
      intro v' w9 ho9 hg9
      obtain ⟨pq', cq', rfl, _⟩ := owns_slice ho9
      have ONE : ∀ x, (Value.slice pq' (k + 1) cq').ownBlock = some x → w.heap.size + 2 < x := fun x hx => by have := ho9.lt x hx; omega
      have HO9 : Hid (w9.ownsRow w12.heap.size 67 2 (.slice pq' (k + 1) cq') (k + 1) ((q ++ [(⟨(m1 : Int) - 1, (m2 : Int)⟩ : Msg)]).flatMap Msg.enc)) := hideP (by rw [List.flatMap_append]; simpa using ho9)
      have B9 := hideP ((B2s.out.alloc (.cells #[.int .i64 ((m1 : Int) - 1), .int .i64 (m2 : Int)] 67)).kept (hg9.block _ (B2s.out.alloc _).lt (fun e => by have := OB _ e.symm; omega)))
      have X9 := hideP ((X2s.out.alloc (.cells #[.int .i64 ((m1 : Int) - 1), .int .i64 (m2 : Int)] 67)).kept (hg9.block _ (X2s.out.alloc _).lt (fun e => by have := OB _ e.symm; omega)))
      have K9 := hideP ((K2s.out.alloc (.cells #[.int .i64 ((m1 : Int) - 1), .int .i64 (m2 : Int)] 67)).own hg9 (fun x hx => (OB x hx).2.2))
      clear ho9 hg9 B2s X2s O2s K2s a0 a1 f1 a12
      have a12 : w9.cell? ⟨w.heap.size + 2, 12, none⟩ = some (.slice pq k cq) := (X9.out.cell 12).trans rfl
      have f12 : w9.frozen? ⟨w.heap.size + 2, 12, none⟩ = false := X9.out.frozen 12
      have B9s := hideP (B9.out.other 12 (.slice pq' (k + 1) cq') (show (w.heap.size + 1) ≠ (w.heap.size + 2) by omega))
      have X9s : Hid (Blk (w9.setCell ⟨(w.heap.size + 2), 12, none⟩ (.slice pq' (k + 1) cq')) (w.heap.size + 2) 34 [.int .i64 ((n0 : Int)), .int .i64 ((n1 : Int)), .int .i64 ((n2 : Int) - 1), .int .i64 ((n3 : Int)), .int .i64 ((n4 : Int)), .int .i64 ((n5 : Int)), .int .i64 ((n6 : Int)), .int .i64 ((n7 : Int) - 1), .int .i64 ((n8 : Int)), .bool f, .slice pl lk.length cl, .slice pd dt.length cd, (.slice pq' (k + 1) cq')]) := hideP (X9.out.set 12 (.slice pq' (k + 1) cq'))
      have O9s := hideP (owns_setother (M := (w.heap.size + 2)) (i := 12) (u := .slice pq' (k + 1) cq') HO9.out (fun x hx => by have := ONE x hx; omega))
      have K9s := hideP (K9.out.set (i := 12) (v := .slice pq' (k + 1) cq'))
      clear B9 X9 HO9 K9
      go_wp2
      go_roundg (gk - 1)
      case measure => omega
      case rel => exact ⟨k + 1, _, A2, c2, pq', cq', by omega, by omega, by go_num, hA2, HQ, B9s, X9s, O9s, K9s⟩
    · have hkn : k = n := by omega
      subst hkn
      rw [hq.out] at HT
      dsimp only at HT
      have HOl := hideP (hK.out.owns HOl.out (fun x hx => by have := Pl x hx; omega))
      have HOd := hideP (hK.out.owns HOd.out (fun x hx => by have := Pd x hx; omega))
      have HZ := hideP (hK.out.blk HZ.out (show w.heap.size ≠ (w.heap.size + 1) by omega) (show w.heap.size ≠ (w.heap.size + 2) by omega))
      have HE := hideP (hK.out.below HE.out (by omega) (by omega) (by omega))
      have ql : q.length = k := by have := (rMsgs_le (l := bl s) (a := A12) (b := b12) (by rw [bl_length]; exact hA12) k).2; rw [hq.out] at this; exact this
      subst ql
      have r2 : wr.cell? ⟨w.heap.size + 1, 2, none⟩ = some (.bool b) := (hB.out.cell 2).trans rfl
      cases b
      case true =>
        have HN : Hid (readThing (bl s) = none) := hideP (by rw [HT.out]; simp)
        have HZw := HZ
        have z0 : wr.cell? ⟨w.heap.size, 0, none⟩ = some (.int .i64 0) := (HZw.out.cell 0).trans rfl
        have k0 : wr.frozen? ⟨w.heap.size, 0, none⟩ = false := HZw.out.frozen 0
        have z1 : wr.cell? ⟨w.heap.size, 1, none⟩ = some (.int .i64 0) := (HZw.out.cell 1).trans rfl
        have k1 : wr.frozen? ⟨w.heap.size, 1, none⟩ = false := HZw.out.frozen 1
        have z2 : wr.cell? ⟨w.heap.size, 2, none⟩ = some (.int .i64 0) := (HZw.out.cell 2).trans rfl
        have k2 : wr.frozen? ⟨w.heap.size, 2, none⟩ = false := HZw.out.frozen 2
        have z3 : wr.cell? ⟨w.heap.size, 3, none⟩ = some (.int .i64 0) := (HZw.out.cell 3).trans rfl
        have k3 : wr.frozen? ⟨w.heap.size, 3, none⟩ = false := HZw.out.frozen 3
        have z4 : wr.cell? ⟨w.heap.size, 4, none⟩ = some (.int .i64 0) := (HZw.out.cell 4).trans rfl
        have k4 : wr.frozen? ⟨w.heap.size, 4, none⟩ = false := HZw.out.frozen 4
        have z5 : wr.cell? ⟨w.heap.size, 5, none⟩ = some (.int .i64 0) := (HZw.out.cell 5).trans rfl
        have k5 : wr.frozen? ⟨w.heap.size, 5, none⟩ = false := HZw.out.frozen 5
        have z6 : wr.cell? ⟨w.heap.size, 6, none⟩ = some (.int .i64 0) := (HZw.out.cell 6).trans rfl
        have k6 : wr.frozen? ⟨w.heap.size, 6, none⟩ = false := HZw.out.frozen 6
        have z7 : wr.cell? ⟨w.heap.size, 7, none⟩ = some (.int .i64 0) := (HZw.out.cell 7).trans rfl
        have k7 : wr.frozen? ⟨w.heap.size, 7, none⟩ = false := HZw.out.frozen 7
        have z8 : wr.cell? ⟨w.heap.size, 8, none⟩ = some (.int .i64 0) := (HZw.out.cell 8).trans rfl
        have k8 : wr.frozen? ⟨w.heap.size, 8, none⟩ = false := HZw.out.frozen 8
        have z9 : wr.cell? ⟨w.heap.size, 9, none⟩ = some (.bool false) := (HZw.out.cell 9).trans rfl
        have k9 : wr.frozen? ⟨w.heap.size, 9, none⟩ = false := HZw.out.frozen 9
        have z10 : wr.cell? ⟨w.heap.size, 10, none⟩ = some (.slice none 0 0) := (HZw.out.cell 10).trans rfl
        have k10 : wr.frozen? ⟨w.heap.size, 10, none⟩ = false := HZw.out.frozen 10
        have z11 : wr.cell? ⟨w.heap.size, 11, none⟩ = some (.slice none 0 0) := (HZw.out.cell 11).trans rfl
        have k11 : wr.frozen? ⟨w.heap.size, 11, none⟩ = false := HZw.out.frozen 11
        have z12 : wr.cell? ⟨w.heap.size, 12, none⟩ = some (.slice none 0 0) := (HZw.out.cell 12).trans rfl
        have k12 : wr.frozen? ⟨w.heap.size, 12, none⟩ = false := HZw.out.frozen 12
        go_wp2
        refine bodyPost_ret (v := .tuple #[.agg #[.int .i64 0, .int .i64 0, .int .i64 0, .int .i64 0, .int .i64 0, .int .i64 0, .int .i64 0, .int .i64 0, .int .i64 0, .bool false, .slice none 0 0, .slice none 0 0, .slice none 0 0], .int .i64 0]) (by simp [results, Try.results12, go_sem, z0, z1, z2, z3, z4, z5, z6, z7, z8, z9, z10, z11, z12]) rfl (ThingRet.no HN.out ?_)
        repeat (first | (with_reducible exact HE.out) | refine Below.setCell ?_ (by simp) _)
      case false =>
        have x0 : wr.cell? ⟨w.heap.size + 2, 0, none⟩ = some (.int .i64 ((n0 : Int))) := (hX.out.cell 0).trans rfl
        have x1 : wr.cell? ⟨w.heap.size + 2, 1, none⟩ = some (.int .i64 ((n1 : Int))) := (hX.out.cell 1).trans rfl
        have x2 : wr.cell? ⟨w.heap.size + 2, 2, none⟩ = some (.int .i64 ((n2 : Int) - 1)) := (hX.out.cell 2).trans rfl
        have x3 : wr.cell? ⟨w.heap.size + 2, 3, none⟩ = some (.int .i64 ((n3 : Int))) := (hX.out.cell 3).trans rfl
        have x4 : wr.cell? ⟨w.heap.size + 2, 4, none⟩ = some (.int .i64 ((n4 : Int))) := (hX.out.cell 4).trans rfl
        have x5 : wr.cell? ⟨w.heap.size + 2, 5, none⟩ = some (.int .i64 ((n5 : Int))) := (hX.out.cell 5).trans rfl
        have x6 : wr.cell? ⟨w.heap.size + 2, 6, none⟩ = some (.int .i64 ((n6 : Int))) := (hX.out.cell 6).trans rfl
        have x7 : wr.cell? ⟨w.heap.size + 2, 7, none⟩ = some (.int .i64 ((n7 : Int) - 1)) := (hX.out.cell 7).trans rfl
        have x8 : wr.cell? ⟨w.heap.size + 2, 8, none⟩ = some (.int .i64 ((n8 : Int))) := (hX.out.cell 8).trans rfl
        have x9 : wr.cell? ⟨w.heap.size + 2, 9, none⟩ = some (.bool f) := (hX.out.cell 9).trans rfl
        have x10 : wr.cell? ⟨w.heap.size + 2, 10, none⟩ = some (.slice pl lk.length cl) := (hX.out.cell 10).trans rfl
        have x11 : wr.cell? ⟨w.heap.size + 2, 11, none⟩ = some (.slice pd dt.length cd) := (hX.out.cell 11).trans rfl
        have x12 : wr.cell? ⟨w.heap.size + 2, 12, none⟩ = some (.slice pq q.length cq) := (hX.out.cell 12).trans rfl
        have HTI : Hid (ThIs wr ⟨(n0 : Int), (n1 : Int), (n2 : Int) - 1, (n3 : Int), (n4 : Int), (n5 : Int), (n6 : Int), (n7 : Int) - 1, (n8 : Int), f, lk, dt, q⟩ (.slice pl lk.length cl) (.slice pd dt.length cd) (.slice pq q.length cq)) := hideP ⟨owns_sl' HOl.out, owns_sl' HOd.out, owns_sl' hO.out⟩
        have hwt : Hid (I64 (n6 : Int)) := hideP (by unfold I64; omega)
        go_wp2_with fail
        refine (implThingOk_any ⟨(n0 : Int), (n1 : Int), (n2 : Int) - 1, (n3 : Int), (n4 : Int), (n5 : Int), (n6 : Int), (n7 : Int) - 1, (n8 : Int), f, lk, dt, q⟩ _ _ _ (by simp; omega) (by simp; omega) (by simp; omega) hwt _ HTI.out).mono ?_
        rintro e w13 ⟨rfl, hb13⟩
        have HE13 := hideP (HE.out.trans (hb13.mono HE.out.size))
        have HZ := hideP (HZ.out.below hb13)
        have HB13 := hideP (hB.out.below hb13)
        have HX13 := hideP (hX.out.below hb13)
        have HOl := hideP (owns_below HOl.out (Nat.le_refl _) hb13)
        have HOd := hideP (owns_below HOd.out (Nat.le_refl _) hb13)
        have HOq := hideP (owns_below hO.out (Nat.le_refl _) hb13)
        clear hb13 x0 x1 x2 x3 x4 x5 x6 x7 x8 x9 x10 x11 x12 r2
        cases hok : thingOk ⟨(n0 : Int), (n1 : Int), (n2 : Int) - 1, (n3 : Int), (n4 : Int), (n5 : Int), (n6 : Int), (n7 : Int) - 1, (n8 : Int), f, lk, dt, q⟩
        case false =>
          have HN : Hid (readThing (bl s) = none) := hideP (by rw [HT.out, hok]; rfl)
          clear hok
          have HZw := HZ
          have z0 : w13.cell? ⟨w.heap.size, 0, none⟩ = some (.int .i64 0) := (HZw.out.cell 0).trans rfl
          have k0 : w13.frozen? ⟨w.heap.size, 0, none⟩ = false := HZw.out.frozen 0
          have z1 : w13.cell? ⟨w.heap.size, 1, none⟩ = some (.int .i64 0) := (HZw.out.cell 1).trans rfl
          have k1 : w13.frozen? ⟨w.heap.size, 1, none⟩ = false := HZw.out.frozen 1
          have z2 : w13.cell? ⟨w.heap.size, 2, none⟩ = some (.int .i64 0) := (HZw.out.cell 2).trans rfl
          have k2 : w13.frozen? ⟨w.heap.size, 2, none⟩ = false := HZw.out.frozen 2
          have z3 : w13.cell? ⟨w.heap.size, 3, none⟩ = some (.int .i64 0) := (HZw.out.cell 3).trans rfl
          have k3 : w13.frozen? ⟨w.heap.size, 3, none⟩ = false := HZw.out.frozen 3
          have z4 : w13.cell? ⟨w.heap.size, 4, none⟩ = some (.int .i64 0) := (HZw.out.cell 4).trans rfl
          have k4 : w13.frozen? ⟨w.heap.size, 4, none⟩ = false := HZw.out.frozen 4
          have z5 : w13.cell? ⟨w.heap.size, 5, none⟩ = some (.int .i64 0) := (HZw.out.cell 5).trans rfl
          have k5 : w13.frozen? ⟨w.heap.size, 5, none⟩ = false := HZw.out.frozen 5
          have z6 : w13.cell? ⟨w.heap.size, 6, none⟩ = some (.int .i64 0) := (HZw.out.cell 6).trans rfl
          have k6 : w13.frozen? ⟨w.heap.size, 6, none⟩ = false := HZw.out.frozen 6
          have z7 : w13.cell? ⟨w.heap.size, 7, none⟩ = some (.int .i64 0) := (HZw.out.cell 7).trans rfl
          have k7 : w13.frozen? ⟨w.heap.size, 7, none⟩ = false := HZw.out.frozen 7
          have z8 : w13.cell? ⟨w.heap.size, 8, none⟩ = some (.int .i64 0) := (HZw.out.cell 8).trans rfl
          have k8 : w13.frozen? ⟨w.heap.size, 8, none⟩ = false := HZw.out.frozen 8
          have z9 : w13.cell? ⟨w.heap.size, 9, none⟩ = some (.bool false) := (HZw.out.cell 9).trans rfl
          have k9 : w13.frozen? ⟨w.heap.size, 9, none⟩ = false := HZw.out.frozen 9
          have z10 : w13.cell? ⟨w.heap.size, 10, none⟩ = some (.slice none 0 0) := (HZw.out.cell 10).trans rfl
          have k10 : w13.frozen? ⟨w.heap.size, 10, none⟩ = false := HZw.out.frozen 10
          have z11 : w13.cell? ⟨w.heap.size, 11, none⟩ = some (.slice none 0 0) := (HZw.out.cell 11).trans rfl
          have k11 : w13.frozen? ⟨w.heap.size, 11, none⟩ = false := HZw.out.frozen 11
          have z12 : w13.cell? ⟨w.heap.size, 12, none⟩ = some (.slice none 0 0) := (HZw.out.cell 12).trans rfl
          have k12 : w13.frozen? ⟨w.heap.size, 12, none⟩ = false := HZw.out.frozen 12
          go_wp2
          refine bodyPost_ret (v := .tuple #[.agg #[.int .i64 0, .int .i64 0, .int .i64 0, .int .i64 0, .int .i64 0, .int .i64 0, .int .i64 0, .int .i64 0, .int .i64 0, .bool false, .slice none 0 0, .slice none 0 0, .slice none 0 0], .int .i64 0]) (by simp [results, Try.results12, go_sem, z0, z1, z2, z3, z4, z5, z6, z7, z8, z9, z10, z11, z12]) rfl (ThingRet.no HN.out ?_)
          repeat (first | (with_reducible exact HE13.out) | refine Below.setCell ?_ (by simp) _)
        case true =>
          have HY : Hid (readThing (bl s) = some (⟨(n0 : Int), (n1 : Int), (n2 : Int) - 1, (n3 : Int), (n4 : Int), (n5 : Int), (n6 : Int), (n7 : Int) - 1, (n8 : Int), f, lk, dt, q⟩, A)) := hideP (by rw [HT.out, hok]; rfl)
          clear hok HT
          have x0 : w13.cell? ⟨w.heap.size + 2, 0, none⟩ = some (.int .i64 ((n0 : Int))) := (HX13.out.cell 0).trans rfl
          have x1 : w13.cell? ⟨w.heap.size + 2, 1, none⟩ = some (.int .i64 ((n1 : Int))) := (HX13.out.cell 1).trans rfl
          have x2 : w13.cell? ⟨w.heap.size + 2, 2, none⟩ = some (.int .i64 ((n2 : Int) - 1)) := (HX13.out.cell 2).trans rfl
          have x3 : w13.cell? ⟨w.heap.size + 2, 3, none⟩ = some (.int .i64 ((n3 : Int))) := (HX13.out.cell 3).trans rfl
          have x4 : w13.cell? ⟨w.heap.size + 2, 4, none⟩ = some (.int .i64 ((n4 : Int))) := (HX13.out.cell 4).trans rfl
          have x5 : w13.cell? ⟨w.heap.size + 2, 5, none⟩ = some (.int .i64 ((n5 : Int))) := (HX13.out.cell 5).trans rfl
          have x6 : w13.cell? ⟨w.heap.size + 2, 6, none⟩ = some (.int .i64 ((n6 : Int))) := (HX13.out.cell 6).trans rfl
          have x7 : w13.cell? ⟨w.heap.size + 2, 7, none⟩ = some (.int .i64 ((n7 : Int) - 1)) := (HX13.out.cell 7).trans rfl
          have x8 : w13.cell? ⟨w.heap.size + 2, 8, none⟩ = some (.int .i64 ((n8 : Int))) := (HX13.out.cell 8).trans rfl
          have x9 : w13.cell? ⟨w.heap.size + 2, 9, none⟩ = some (.bool f) := (HX13.out.cell 9).trans rfl
          have x10 : w13.cell? ⟨w.heap.size + 2, 10, none⟩ = some (.slice pl lk.length cl) := (HX13.out.cell 10).trans rfl
          have x11 : w13.cell? ⟨w.heap.size + 2, 11, none⟩ = some (.slice pd dt.length cd) := (HX13.out.cell 11).trans rfl
          have x12 : w13.cell? ⟨w.heap.size + 2, 12, none⟩ = some (.slice pq q.length cq) := (HX13.out.cell 12).trans rfl
          have r1 : w13.cell? ⟨w.heap.size + 1, 1, none⟩ = some (.int .i64 (A : Int)) := (HB13.out.cell 1).trans rfl
          have HZw := HZ
          have z0 : w13.cell? ⟨w.heap.size, 0, none⟩ = some (.int .i64 0) := (HZw.out.cell 0).trans rfl
          have k0 : w13.frozen? ⟨w.heap.size, 0, none⟩ = false := HZw.out.frozen 0
          have z1 : w13.cell? ⟨w.heap.size, 1, none⟩ = some (.int .i64 0) := (HZw.out.cell 1).trans rfl
          have k1 : w13.frozen? ⟨w.heap.size, 1, none⟩ = false := HZw.out.frozen 1
          have z2 : w13.cell? ⟨w.heap.size, 2, none⟩ = some (.int .i64 0) := (HZw.out.cell 2).trans rfl
          have k2 : w13.frozen? ⟨w.heap.size, 2, none⟩ = false := HZw.out.frozen 2
          have z3 : w13.cell? ⟨w.heap.size, 3, none⟩ = some (.int .i64 0) := (HZw.out.cell 3).trans rfl
          have k3 : w13.frozen? ⟨w.heap.size, 3, none⟩ = false := HZw.out.frozen 3
          have z4 : w13.cell? ⟨w.heap.size, 4, none⟩ = some (.int .i64 0) := (HZw.out.cell 4).trans rfl
          have k4 : w13.frozen? ⟨w.heap.size, 4, none⟩ = false := HZw.out.frozen 4
          have z5 : w13.cell? ⟨w.heap.size, 5, none⟩ = some (.int .i64 0) := (HZw.out.cell 5).trans rfl
          have k5 : w13.frozen? ⟨w.heap.size, 5, none⟩ = false := HZw.out.frozen 5
          have z6 : w13.cell? ⟨w.heap.size, 6, none⟩ = some (.int .i64 0) := (HZw.out.cell 6).trans rfl
          have k6 : w13.frozen? ⟨w.heap.size, 6, none⟩ = false := HZw.out.frozen 6
          have z7 : w13.cell? ⟨w.heap.size, 7, none⟩ = some (.int .i64 0) := (HZw.out.cell 7).trans rfl
          have k7 : w13.frozen? ⟨w.heap.size, 7, none⟩ = false := HZw.out.frozen 7
          have z8 : w13.cell? ⟨w.heap.size, 8, none⟩ = some (.int .i64 0) := (HZw.out.cell 8).trans rfl
          have k8 : w13.frozen? ⟨w.heap.size, 8, none⟩ = false := HZw.out.frozen 8
          have z9 : w13.cell? ⟨w.heap.size, 9, none⟩ = some (.bool false) := (HZw.out.cell 9).trans rfl
          have k9 : w13.frozen? ⟨w.heap.size, 9, none⟩ = false := HZw.out.frozen 9
          have z10 : w13.cell? ⟨w.heap.size, 10, none⟩ = some (.slice none 0 0) := (HZw.out.cell 10).trans rfl
          have k10 : w13.frozen? ⟨w.heap.size, 10, none⟩ = false := HZw.out.frozen 10
          have z11 : w13.cell? ⟨w.heap.size, 11, none⟩ = some (.slice none 0 0) := (HZw.out.cell 11).trans rfl
          have k11 : w13.frozen? ⟨w.heap.size, 11, none⟩ = false := HZw.out.frozen 11
          have z12 : w13.cell? ⟨w.heap.size, 12, none⟩ = some (.slice none 0 0) := (HZw.out.cell 12).trans rfl
          have k12 : w13.frozen? ⟨w.heap.size, 12, none⟩ = false := HZw.out.frozen 12
          have Pq : ∀ k, (Value.slice pq q.length cq).ownBlock = some k → w12.heap.size ≤ k := fun x hx => (HOq.out.lt x hx).1
          have OLN : Hid (∀ W' : World, w13.grownBy W' (some w.heap.size) → ObjOwn W' w.heap.size ⟨(n0 : Int), (n1 : Int), (n2 : Int) - 1, (n3 : Int), (n4 : Int), (n5 : Int), (n6 : Int), (n7 : Int) - 1, (n8 : Int), f, lk, dt, q⟩ (.slice pl lk.length cl) (.slice pd dt.length cd) (.slice pq q.length cq)) := hideP (fun W' hW => ⟨
            owns_mono ((Kept.left (x := w.heap.size) hW).owns HOl.out (fun x hx => by have := Pl x hx; omega)) (by simp only [World.size_setCell]; have := HE0s.out; omega),
            owns_mono ((Kept.left (x := w.heap.size) hW).owns HOd.out (fun x hx => by have := Pd x hx; omega)) (by simp only [World.size_setCell]; omega),
            owns_mono ((Kept.left (x := w.heap.size) hW).owns HOq.out (fun x hx => by have := Pq x hx; omega)) (by omega),
            fun x hx e => by have h1 := Pl x hx; have h2 := Pd x e; omega,
            fun x hx e => by have h1 := Pl x hx; have h2 := Pq x e; omega,
            fun x hx e => by have h1 := Pd x hx; have h2 := Pq x e; omega⟩)
          have HGR : w13.grownBy w13 (some w.heap.size) := World.grownBy.refl _ _
          have HGD : w13.grownBy w13.drew (some w.heap.size) := grown_dr HGR
          have HED := HE13.out.drew
          go_wp2
          go_region
          all_goals
            go_wp2
            refine bodyPost_ret (v := .tuple #[.agg #[.int .i64 ((n0 : Int)), .int .i64 ((n1 : Int)), .int .i64 ((n2 : Int) - 1), .int .i64 ((n3 : Int)), .int .i64 ((n4 : Int)), .int .i64 ((n5 : Int)), .int .i64 ((n6 : Int)), .int .i64 ((n7 : Int) - 1), .int .i64 ((n8 : Int)), .bool f, .slice pl lk.length cl, .slice pd dt.length cd, .slice pq q.length cq], .int .i64 (A : Int)]) (by simp [results, Try.results12, go_sem, z0, z1, z2, z3, z4, z5, z6, z7, z8, z9, z10, z11, z12]) rfl (ThingRet.yes HY.out rfl (OLN.out _ ?_) ?_)
            · repeat (first | (with_reducible exact HGR) | (with_reducible exact HGD) | (with_reducible refine grown_set1 ?_) | (with_reducible refine grown_dr ?_))
            · repeat (first | (with_reducible exact HE13.out) | (with_reducible exact HED) | (with_reducible refine Below.drew ?_) | refine Below.setCell ?_ (by simp) _)

end Go.Proofs.Ytabbncoihmhocaa
