/- The walk of the program's ReadTree. -/
import Derived.Test.YtnchmenpgmlpdaaReadEnv
import Derived.Test.YtnchmenpgmlpdaaTreeRead
import Derived.Test.YtnchmenpgmlpdaaShowTreeI
namespace Go.Proofs.Ytnchmenpgmlpdaa
open Go.RowKit

theorem rTree_le (l : List UInt8) : ∀ k, (rTree l k).2.1 ≤ l.length ∧ (rTree l k).1.length = k
  | 0 => ⟨Nat.zero_le _, rfl⟩
  | k + 1 => by
    obtain ⟨h1, h2⟩ := rTree_le l k
    refine ⟨?_, ?_⟩
    · rw [rTree]
      dsimp only
      unfold rRes
      dsimp only
      refine (rNum_le ?_).1
      refine (rNum_le ?_).1
      refine (rNum_le ?_).1
      refine (rNum_le ?_).1
      exact (rNum_le h1).1
    · rw [rTree, List.length_append, h2]; rfl
/-- What ReadTree hands back. -/
def TreeRet (w : World) (l : List UInt8) (e : Ending) (w' : World) : Prop :=
  match readTree l with
  | some t => ∃ v, e = .returned (.tuple #[v, .bool true]) ∧ w'.ownsRow w.heap.size 122 5 v 5 (t.flatMap Res.enc) ∧ Below w.heap.size w w'
  | none => ∃ v, e = .returned (.tuple #[v, .bool false]) ∧ w'.ownsRow w.heap.size 122 5 v 0 [] ∧ Below w.heap.size w w'
theorem TreeRet.yes {w w' : World} {l : List UInt8} {t : List Res} {v : Value} (h : readTree l = some t) (ho : w'.ownsRow w.heap.size 122 5 v 5 (t.flatMap Res.enc)) (hb : Below w.heap.size w w') : TreeRet w l (.returned (.tuple #[v, .bool true])) w' := by
  unfold TreeRet; rw [h]; exact ⟨v, rfl, ho, hb⟩
theorem TreeRet.no {w w' : World} {l : List UInt8} {v : Value} (h : readTree l = none) (ho : w'.ownsRow w.heap.size 122 5 v 0 []) (hb : Below w.heap.size w w') : TreeRet w l (.returned (.tuple #[v, .bool false])) w' := by
  unfold TreeRet; rw [h]; exact ⟨v, rfl, ho, hb⟩
theorem owns_nil (w : World) (base : Nat) (e : TypeId) (s : Nat) : w.ownsRow base e s (.slice none 0 0) 0 [] := ⟨by simp, .inl ⟨rfl, rfl⟩⟩
set_option maxRecDepth 100000 in
set_option maxHeartbeats 4000000 in
theorem implReadTree_any (s : ByteArray) (hs : s.size ≤ maxLen) (w : World) :
    Calls Try.prog 36 #[.string s] w (TreeRet w (bl s)) := by
  obtain ⟨i0, hi, hz0, hz1, hz2⟩ := info_parts Try.infoRes
  go_enter Try.func36, Try.ntmps36
  go_wp2
  go_loopg [5, 12] 6 (fun gk v iv wr => ∃ (k : Nat), 5 < gk + k ∧ k ≤ 5 ∧ iv = .int .i64 (k : Int) ∧ Blk wr w.heap.size 132 [.string s, .int .i64 ((rTree (bl s) k).2.1 : Int), .bool (rTree (bl s) k).2.2] ∧ wr.ownsRow (w.heap.size + 1) 122 5 v k ((rTree (bl s) k).1.flatMap Res.enc) ∧ Below w.heap.size w wr ∧ w.heap.size + 1 < wr.heap.size)
  case atStart => exact ⟨0, by omega, by omega, rfl, (Blk.new w #[.string s, .int .i64 0, .bool false] 132).alloc _, owns_lit (by simp) (by simp) (by decide) (by simp) rfl, below_a2 _ _ _, by simp⟩
  case round =>
    obtain ⟨k, hgk, hk, rfl, hB, hown, hb, hzr⟩ := hrel
    by_cases hlt : k < 5
    · obtain ⟨xs, A, b, hT⟩ : ∃ xs A b, rTree (bl s) k = (xs, A, b) := ⟨_, _, _, rfl⟩
      rw [hT] at hB hown
      dsimp only at hB hown
      have hA : A ≤ s.size := by have := (rTree_le (bl s) k).1; rw [hT, bl_length] at this; exact this
      obtain ⟨n0, A0, b0, h0⟩ : ∃ n A' b', rFlag (bl s) A b = (n, A', b') := ⟨_, _, _, rfl⟩
      have hA0 : A0 ≤ s.size := by have h1 := (rNum_le (l := bl s) (a := A) (b := b) (by rw [bl_length]; exact hA)).1; have e : A0 = (rNum (bl s) A b).2.1 := (by have h2 : (rFlag (bl s) A b).2.1 = A0 := (by rw [h0]); rw [← h2]; rfl); rw [e]; rw [bl_length] at h1; exact h1
      obtain ⟨n1, A1, b1, h1⟩ : ∃ n A' b', rNum (bl s) A0 b0 = (n, A', b') := ⟨_, _, _, rfl⟩
      have hA1 : A1 ≤ s.size := by have := (rNum_le (l := bl s) (a := A0) (b := b0) (by rw [bl_length]; exact hA0)).1; rw [h1, bl_length] at this; exact this
      have hn1 : n1 ≤ 562949953421311 := by have := (rNum_le (l := bl s) (a := A0) (b := b0) (by rw [bl_length]; exact hA0)).2; rw [h1] at this; exact this
      obtain ⟨n2, A2, b2, h2⟩ : ∃ n A' b', rNum (bl s) A1 b1 = (n, A', b') := ⟨_, _, _, rfl⟩
      have hA2 : A2 ≤ s.size := by have := (rNum_le (l := bl s) (a := A1) (b := b1) (by rw [bl_length]; exact hA1)).1; rw [h2, bl_length] at this; exact this
      have hn2 : n2 ≤ 562949953421311 := by have := (rNum_le (l := bl s) (a := A1) (b := b1) (by rw [bl_length]; exact hA1)).2; rw [h2] at this; exact this
      obtain ⟨n3, A3, b3, h3⟩ : ∃ n A' b', rNum (bl s) A2 b2 = (n, A', b') := ⟨_, _, _, rfl⟩
      have hA3 : A3 ≤ s.size := by have := (rNum_le (l := bl s) (a := A2) (b := b2) (by rw [bl_length]; exact hA2)).1; rw [h3, bl_length] at this; exact this
      have hn3 : n3 ≤ 562949953421311 := by have := (rNum_le (l := bl s) (a := A2) (b := b2) (by rw [bl_length]; exact hA2)).2; rw [h3] at this; exact this
      obtain ⟨n4, A4, b4, h4⟩ : ∃ n A' b', rNum (bl s) A3 b3 = (n, A', b') := ⟨_, _, _, rfl⟩
      have hA4 : A4 ≤ s.size := by have := (rNum_le (l := bl s) (a := A3) (b := b3) (by rw [bl_length]; exact hA3)).1; rw [h4, bl_length] at this; exact this
      have hn4 : n4 ≤ 562949953421311 := by have := (rNum_le (l := bl s) (a := A3) (b := b3) (by rw [bl_length]; exact hA3)).2; rw [h4] at this; exact this
      have HTN : Hid (rTree (bl s) (k + 1) = (xs ++ [⟨n0, (n1 : Int) - 1, ⟨(n2 : Int), (n3 : Int), (n4 : Int)⟩⟩], A4, b4)) := hideP (by
        rw [rTree, hT]
        unfold rRes
        dsimp only
        rw [h0]
        dsimp only
        rw [h1]
        dsimp only
        rw [h2]
        dsimp only
        rw [h3]
        dsimp only
        rw [h4])
      have HF := hideP (flag_any (s := s) (a := A) (b := b) (hs := hs) (ha := hA))
      rw [h0] at HF
      have HN1 := hideP (number_any (s := s) (a := A0) (b := b0) (hs := hs) (ha := hA0))
      rw [h1] at HN1
      have HN2 := hideP (number_any (s := s) (a := A1) (b := b1) (hs := hs) (ha := hA1))
      rw [h2] at HN2
      have HN3 := hideP (number_any (s := s) (a := A2) (b := b2) (hs := hs) (ha := hA2))
      rw [h3] at HN3
      have HN4 := hideP (number_any (s := s) (a := A3) (b := b3) (hs := hs) (ha := hA3))
      rw [h4] at HN4
      dsimp only at HF HN1 HN2 HN3 HN4
      clear hT h0 h1 h2 h3 h4
      have HB0 := hideP (hB.alloc (.cells #[.bool false, .int .i64 0, .int .i64 0, .int .i64 0, .int .i64 0] 122))
      have HX0 := hideP (Blk.new wr #[.bool false, .int .i64 0, .int .i64 0, .int .i64 0, .int .i64 0] 122)
      have HK0 := hideP ((Kept.refl w.heap.size wr.heap.size wr).alloc (.cells #[.bool false, .int .i64 0, .int .i64 0, .int .i64 0, .int .i64 0] 122))
      go_wp2_with fail
      refine (HF.out w.heap.size _ HB0.out).mono ?_
      rintro e w0 ⟨rfl, hB0, hg0⟩
      have HC0 := Lib.hid hB0
      have HY0 := hideP (grown_blk hg0 HX0.out (show wr.heap.size ≠ w.heap.size by omega))
      have HL0 := hideP (HK0.out.trans (Kept.left hg0))
      have z0 : wr.heap.size < w0.heap.size := HY0.out.lt
      clear hB0 hg0
      have x00 := HY0.out.cell 0
      have y00 := HY0.out.frozen 0
      have x01 := HY0.out.cell 1
      have y01 := HY0.out.frozen 1
      have x02 := HY0.out.cell 2
      have y02 := HY0.out.frozen 2
      have x03 := HY0.out.cell 3
      have y03 := HY0.out.frozen 3
      have x04 := HY0.out.cell 4
      have y04 := HY0.out.frozen 4
      simp only [List.getElem?_cons_zero, List.getElem?_cons_succ] at x00 x01 x02 x03 x04
      have HB1 := hideP (HC0.out.other 0 (.bool n0) (show w.heap.size ≠ wr.heap.size by omega))
      have HX1 := hideP (HY0.out.set 0 (.bool n0))
      have HK1 := hideP (HL0.out.set (i := 0) (v := .bool n0))
      simp only [List.set_cons_zero, List.set_cons_succ] at HX1
      go_wp2_with fail
      refine (HN1.out w.heap.size _ HB1.out).mono ?_
      rintro e w1 ⟨rfl, hB1, hg1⟩
      have HC1 := Lib.hid hB1
      have HY1 := hideP (grown_blk hg1 HX1.out (show wr.heap.size ≠ w.heap.size by omega))
      have HL1 := hideP (HK1.out.trans (Kept.left hg1))
      have z1 : wr.heap.size < w1.heap.size := HY1.out.lt
      clear hB1 hg1
      have x10 := HY1.out.cell 0
      have y10 := HY1.out.frozen 0
      have x11 := HY1.out.cell 1
      have y11 := HY1.out.frozen 1
      have x12 := HY1.out.cell 2
      have y12 := HY1.out.frozen 2
      have x13 := HY1.out.cell 3
      have y13 := HY1.out.frozen 3
      have x14 := HY1.out.cell 4
      have y14 := HY1.out.frozen 4
      simp only [List.getElem?_cons_zero, List.getElem?_cons_succ] at x10 x11 x12 x13 x14
      have HB2 := hideP (HC1.out.other 1 (.int .i64 ((n1 : Int) - 1)) (show w.heap.size ≠ wr.heap.size by omega))
      have HX2 := hideP (HY1.out.set 1 (.int .i64 ((n1 : Int) - 1)))
      have HK2 := hideP (HL1.out.set (i := 1) (v := .int .i64 ((n1 : Int) - 1)))
      simp only [List.set_cons_zero, List.set_cons_succ] at HX2
      go_wp2_with fail
      refine (HN2.out w.heap.size _ HB2.out).mono ?_
      rintro e w2 ⟨rfl, hB2, hg2⟩
      have HC2 := Lib.hid hB2
      have HY2 := hideP (grown_blk hg2 HX2.out (show wr.heap.size ≠ w.heap.size by omega))
      have HL2 := hideP (HK2.out.trans (Kept.left hg2))
      have z2 : wr.heap.size < w2.heap.size := HY2.out.lt
      clear hB2 hg2
      have x20 := HY2.out.cell 0
      have y20 := HY2.out.frozen 0
      have x21 := HY2.out.cell 1
      have y21 := HY2.out.frozen 1
      have x22 := HY2.out.cell 2
      have y22 := HY2.out.frozen 2
      have x23 := HY2.out.cell 3
      have y23 := HY2.out.frozen 3
      have x24 := HY2.out.cell 4
      have y24 := HY2.out.frozen 4
      simp only [List.getElem?_cons_zero, List.getElem?_cons_succ] at x20 x21 x22 x23 x24
      have HB3 := hideP (HC2.out.other 2 (.int .i64 (n2 : Int)) (show w.heap.size ≠ wr.heap.size by omega))
      have HX3 := hideP (HY2.out.set 2 (.int .i64 (n2 : Int)))
      have HK3 := hideP (HL2.out.set (i := 2) (v := .int .i64 (n2 : Int)))
      simp only [List.set_cons_zero, List.set_cons_succ] at HX3
      go_wp2_with fail
      refine (HN3.out w.heap.size _ HB3.out).mono ?_
      rintro e w3 ⟨rfl, hB3, hg3⟩
      have HC3 := Lib.hid hB3
      have HY3 := hideP (grown_blk hg3 HX3.out (show wr.heap.size ≠ w.heap.size by omega))
      have HL3 := hideP (HK3.out.trans (Kept.left hg3))
      have z3 : wr.heap.size < w3.heap.size := HY3.out.lt
      clear hB3 hg3
      have x30 := HY3.out.cell 0
      have y30 := HY3.out.frozen 0
      have x31 := HY3.out.cell 1
      have y31 := HY3.out.frozen 1
      have x32 := HY3.out.cell 2
      have y32 := HY3.out.frozen 2
      have x33 := HY3.out.cell 3
      have y33 := HY3.out.frozen 3
      have x34 := HY3.out.cell 4
      have y34 := HY3.out.frozen 4
      simp only [List.getElem?_cons_zero, List.getElem?_cons_succ] at x30 x31 x32 x33 x34
      have HB4 := hideP (HC3.out.other 3 (.int .i64 (n3 : Int)) (show w.heap.size ≠ wr.heap.size by omega))
      have HX4 := hideP (HY3.out.set 3 (.int .i64 (n3 : Int)))
      have HK4 := hideP (HL3.out.set (i := 3) (v := .int .i64 (n3 : Int)))
      simp only [List.set_cons_zero, List.set_cons_succ] at HX4
      go_wp2_with fail
      refine (HN4.out w.heap.size _ HB4.out).mono ?_
      rintro e w4 ⟨rfl, hB4, hg4⟩
      have HC4 := Lib.hid hB4
      have HY4 := hideP (grown_blk hg4 HX4.out (show wr.heap.size ≠ w.heap.size by omega))
      have HL4 := hideP (HK4.out.trans (Kept.left hg4))
      have z4 : wr.heap.size < w4.heap.size := HY4.out.lt
      clear hB4 hg4
      have x40 := HY4.out.cell 0
      have y40 := HY4.out.frozen 0
      have x41 := HY4.out.cell 1
      have y41 := HY4.out.frozen 1
      have x42 := HY4.out.cell 2
      have y42 := HY4.out.frozen 2
      have x43 := HY4.out.cell 3
      have y43 := HY4.out.frozen 3
      have x44 := HY4.out.cell 4
      have y44 := HY4.out.frozen 4
      simp only [List.getElem?_cons_zero, List.getElem?_cons_succ] at x40 x41 x42 x43 x44
      have HB5 := hideP (HC4.out.other 4 (.int .i64 (n4 : Int)) (show w.heap.size ≠ wr.heap.size by omega))
      have HX5 := hideP (HY4.out.set 4 (.int .i64 (n4 : Int)))
      have HK5 := hideP (HL4.out.set (i := 4) (v := .int .i64 (n4 : Int)))
      simp only [List.set_cons_zero, List.set_cons_succ] at HX5
      have HAP := hideP (owns_apart (g := w.heap.size) (x := wr.heap.size) hown (by omega) (Nat.le_refl _))
      have HOW := hideP (HK5.out.owns hown HAP.out)
      have HBL := hideP (HK5.out.below hb hb.size (Nat.le_refl _) hb.size)
      have HKN := hideP HK5.out.size
      clear hB hown
      go_wp2_with (at_builtin; refine wpList_append_rd _ rfl _ _ 56 rfl (w.heap.size + 1) 122 i0 (.agg #[.bool false, .int .i64 0, .int .i64 0, .int .i64 0, .int .i64 0]) 5 40 Try.underlying56 hi hz0 hz1 hz2 rfl (by decide) _ _ _ rfl (HOW.out.alloc _) _ 1 1 (Res.enc ⟨n0, (n1 : Int) - 1, ⟨(n2 : Int), (n3 : Int), (n4 : Int)⟩⟩) rfl rfl (rd_litg (by rfl) (by simp)) ?c1 ?c2 ?c3 ?c4 ?_)
      case c1 => simp [Value.oneCell', Res.enc]
      case c2 => unfold maxLen; omega
      case c3 => omega
      case c4 => have := HKN.out; simp at this ⊢; omega
      intro v' w9 ho9 hg9
      have HO9 : Hid (w9.ownsRow (w.heap.size + 1) 122 5 v' (k + 1) ((xs ++ [(⟨n0, (n1 : Int) - 1, ⟨(n2 : Int), (n3 : Int), (n4 : Int)⟩⟩ : Res)]).flatMap Res.enc)) := hideP (by rw [List.flatMap_append]; simpa using ho9)
      have HB9 := hideP ((HB5.out.alloc (.cells (Res.enc ⟨n0, (n1 : Int) - 1, ⟨(n2 : Int), (n3 : Int), (n4 : Int)⟩⟩).toArray 122)).kept (hg9.block _ (HB5.out.alloc _).lt (fun e => (HAP.out _ e.symm).1 rfl)))
      have HL9 := hideP (HBL.out.alloc HBL.out.size (.cells (Res.enc ⟨n0, (n1 : Int) - 1, ⟨(n2 : Int), (n3 : Int), (n4 : Int)⟩⟩).toArray 122) |>.grown hg9 (by have := HBL.out.size; simp at this ⊢; omega) (fun q hq => by have := (HOW.out.lt q hq).1; omega))
      have z9 : w.heap.size + 1 < w9.heap.size := by have h1 := hg9.size; have h2 := HKN.out; simp at h1 h2; omega
      clear ho9 hg9
      go_wp2
      go_roundg (gk - 1)
      case measure => omega
      case rel => exact ⟨k + 1, by omega, by omega, by go_num, by rw [HTN.out]; exact HB9.out, by rw [HTN.out]; exact HO9.out, HL9.out, z9⟩
    · have hk5 : k = 5 := by omega
      subst hk5
      obtain ⟨xs, A, b, hT⟩ : ∃ xs A b, rTree (bl s) 5 = (xs, A, b) := ⟨_, _, _, rfl⟩
      have hRT := readTree_impl (bl s)
      rw [hT] at hB hown hRT
      dsimp only at hB hown hRT
      have hxl : xs.length = 5 := by have := (rTree_le (bl s) 5).2; rw [hT] at this; exact this
      have HXL : Hid (5 = xs.length) := hideP hxl.symm
      have c2 := hB.cell 2
      simp only [List.getElem?_cons_zero, List.getElem?_cons_succ] at c2
      obtain ⟨va, vc, rfl, _⟩ := owns_slice hown
      have HRD := hideP (rd_of_owns hown)
      have HO := Lib.hid (owns_mono hown (show w.heap.size ≤ w.heap.size + 1 by omega))
      have HRT := Lib.hid hRT
      clear hT hRT hxl hB hown
      cases b
      · go_wp2_with fail
        refine (implTreeOk_any _ _ _ xs HXL.out (by decide) _ HRD.out).mono ?_
        rintro e w2 ⟨rfl, hb2⟩
        have hb02 := hb.trans (hb2.mono hb.size)
        cases hok : treeOk xs
        · have HN : Hid (readTree (bl s) = none) := hideP (by rw [HRT.out, hok]; rfl)
          go_wp2
          go_ret2
          exact TreeRet.no HN.out (owns_nil _ _ _ _) hb02
        · have Hok := Lib.hid hok
          clear hok
          go_wp2_with fail
          refine (implShowTree_any _ _ _ xs HXL.out (by decide) _ (HRD.out.below hb2)).mono ?_
          rintro e w3 ⟨rfl, hb3⟩
          have hb03 := hb02.trans (hb3.mono hb02.size)
          have HO3 := hideP (owns_below (owns_below HO.out (Nat.le_refl _) hb2) (Nat.le_refl _) hb3)
          go_wp2
          · rename_i hq
            have hne : ¬ showTree xs = bl s := fun e => by
              rw [e] at hq
              unfold bl at hq
              rw [← ByteArray.toList_eq] at hq
              simp at hq
            have HN : Hid (readTree (bl s) = none) := hideP (by rw [HRT.out, Hok.out, decide_eq_false hne]; rfl)
            clear hq hne
            go_ret2
            exact TreeRet.no HN.out (owns_nil _ _ _ _) hb03
          · rename_i hq
            have he : showTree xs = bl s := by
              unfold bl
              rw [← ByteArray.toList_eq]
              simpa using hq
            have HN : Hid (readTree (bl s) = some xs) := hideP (by rw [HRT.out, Hok.out, decide_eq_true he]; rfl)
            clear hq he
            go_ret2
            exact TreeRet.yes HN.out HO3.out hb03
      · have HN : Hid (readTree (bl s) = none) := hideP (by rw [HRT.out]; rfl)
        go_wp2
        go_ret2
        exact TreeRet.no HN.out (owns_nil _ _ _ _) hb

end Go.Proofs.Ytnchmenpgmlpdaa
