/- FnImages: for every code trees, things and arenas that are drawn are read back from their texts, and no other text is one. No condition. -/
import Derived.Test.YtabbncoihmhocaaReadEnv
import Derived.Test.YtabbncoihmhocaaKeep
import Derived.Laws.World
import Derived.Test.YtabbncoihmhocaaShowObjPure
import Derived.Test.YtabbncoihmhocaaThingOkI
import Derived.Deep.DeepCutAuto
import Derived.Deep.LoopGhost
import Derived.Test.YtabbncoihmhocaaArenaPure
import Derived.Test.YtabbncoihmhocaaShowArenaS
import Derived.Test.YtabbncoihmhocaaReadObjI
import Derived.Test.YtabbncoihmhocaaAppAt
import Derived.Test.YtabbncoihmhocaaSmall
import Derived.Test.YtabbncoihmhocaaZClaimFnImagesa
namespace Go.Proofs.Ytabbncoihmhocaa
open Go.RowKit

theorem rTree_le (l : List UInt8) : ∀ k, (rTree l k).2.1 ≤ l.length ∧ (rTree l k).1.length = k
  | 0 => ⟨Nat.zero_le _, rfl⟩
  | k + 1 => by
    obtain ⟨h1, h2⟩ := rTree_le l k
    refine ⟨?_, ?_⟩
    · rw [rTree]
      dsimp only
      unfold rRes
      dsimp only
      refine (rNum_le ?_).1
      refine (rNum_le ?_).1
      refine (rNum_le ?_).1
      refine (rNum_le ?_).1
      exact (rNum_le h1).1
    · rw [rTree, List.length_append, h2]; rfl
/-- What ReadTree hands back. -/
def TreeRet (w : World) (l : List UInt8) (e : Ending) (w' : World) : Prop :=
  match readTree l with
  | some t => ∃ v, e = .returned (.tuple #[v, .bool true]) ∧ w'.ownsRow w.heap.size 57 5 v 5 (t.flatMap Res.enc) ∧ Below w.heap.size w w'
  | none => ∃ v, e = .returned (.tuple #[v, .bool false]) ∧ w'.ownsRow w.heap.size 57 5 v 0 [] ∧ Below w.heap.size w w'
theorem TreeRet.yes {w w' : World} {l : List UInt8} {t : List Res} {v : Value} (h : readTree l = some t) (ho : w'.ownsRow w.heap.size 57 5 v 5 (t.flatMap Res.enc)) (hb : Below w.heap.size w w') : TreeRet w l (.returned (.tuple #[v, .bool true])) w' := by
  unfold TreeRet; rw [h]; exact ⟨v, rfl, ho, hb⟩
theorem TreeRet.no {w w' : World} {l : List UInt8} {v : Value} (h : readTree l = none) (ho : w'.ownsRow w.heap.size 57 5 v 0 []) (hb : Below w.heap.size w w') : TreeRet w l (.returned (.tuple #[v, .bool false])) w' := by
  unfold TreeRet; rw [h]; exact ⟨v, rfl, ho, hb⟩
theorem owns_nil (w : World) (base : Nat) (e : TypeId) (s : Nat) : w.ownsRow base e s (.slice none 0 0) 0 [] := ⟨by simp, .inl ⟨rfl, rfl⟩⟩
set_option maxRecDepth 100000 in
set_option maxHeartbeats 4000000 in
theorem implReadTree_any (s : ByteArray) (hs : s.size ≤ maxLen) (w : World) :
    Calls Try.prog 6 #[.string s] w (TreeRet w (bl s)) := by
  obtain ⟨i0, hi, hz0, hz1, hz2⟩ := info_parts Try.infoRes
  go_enter Try.func6, Try.ntmps6
  go_wp2
  go_loopg [5, 12] 6 (fun gk v iv wr => ∃ (k : Nat), 5 < gk + k ∧ k ≤ 5 ∧ iv = .int .i64 (k : Int) ∧ Blk wr w.heap.size 53 [.string s, .int .i64 ((rTree (bl s) k).2.1 : Int), .bool (rTree (bl s) k).2.2] ∧ wr.ownsRow (w.heap.size + 1) 57 5 v k ((rTree (bl s) k).1.flatMap Res.enc) ∧ Below w.heap.size w wr ∧ w.heap.size + 1 < wr.heap.size)
  case atStart => exact ⟨0, by omega, by omega, rfl, (Blk.new w #[.string s, .int .i64 0, .bool false] 53).alloc _, owns_lit (by simp) (by simp) (by decide) (by simp) rfl, below_a2 _ _ _, by simp⟩
  case round =>
    obtain ⟨k, hgk, hk, rfl, hB, hown, hb, hzr⟩ := hrel
    by_cases hlt : k < 5
    · obtain ⟨xs, A, b, hT⟩ : ∃ xs A b, rTree (bl s) k = (xs, A, b) := ⟨_, _, _, rfl⟩
      rw [hT] at hB hown
      dsimp only at hB hown
      have hA : A ≤ s.size := by have := (rTree_le (bl s) k).1; rw [hT, bl_length] at this; exact this
      obtain ⟨n0, A0, b0, h0⟩ : ∃ n A' b', rFlag (bl s) A b = (n, A', b') := ⟨_, _, _, rfl⟩
      have hA0 : A0 ≤ s.size := by have h1 := (rNum_le (l := bl s) (a := A) (b := b) (by rw [bl_length]; exact hA)).1; have e : A0 = (rNum (bl s) A b).2.1 := (by have h2 : (rFlag (bl s) A b).2.1 = A0 := (by rw [h0]); rw [← h2]; rfl); rw [e]; rw [bl_length] at h1; exact h1
      obtain ⟨n1, A1, b1, h1⟩ : ∃ n A' b', rNum (bl s) A0 b0 = (n, A', b') := ⟨_, _, _, rfl⟩
      have hA1 : A1 ≤ s.size := by have := (rNum_le (l := bl s) (a := A0) (b := b0) (by rw [bl_length]; exact hA0)).1; rw [h1, bl_length] at this; exact this
      have hn1 : n1 ≤ 562949953421311 := by have := (rNum_le (l := bl s) (a := A0) (b := b0) (by rw [bl_length]; exact hA0)).2; rw [h1] at this; exact this
      obtain ⟨n2, A2, b2, h2⟩ : ∃ n A' b', rNum (bl s) A1 b1 = (n, A', b') := ⟨_, _, _, rfl⟩
      have hA2 : A2 ≤ s.size := by have := (rNum_le (l := bl s) (a := A1) (b := b1) (by rw [bl_length]; exact hA1)).1; rw [h2, bl_length] at this; exact this
      have hn2 : n2 ≤ 562949953421311 := by have := (rNum_le (l := bl s) (a := A1) (b := b1) (by rw [bl_length]; exact hA1)).2; rw [h2] at this; exact this
      obtain ⟨n3, A3, b3, h3⟩ : ∃ n A' b', rNum (bl s) A2 b2 = (n, A', b') := ⟨_, _, _, rfl⟩
      have hA3 : A3 ≤ s.size := by have := (rNum_le (l := bl s) (a := A2) (b := b2) (by rw [bl_length]; exact hA2)).1; rw [h3, bl_length] at this; exact this
      have hn3 : n3 ≤ 562949953421311 := by have := (rNum_le (l := bl s) (a := A2) (b := b2) (by rw [bl_length]; exact hA2)).2; rw [h3] at this; exact this
      obtain ⟨n4, A4, b4, h4⟩ : ∃ n A' b', rNum (bl s) A3 b3 = (n, A', b') := ⟨_, _, _, rfl⟩
      have hA4 : A4 ≤ s.size := by have := (rNum_le (l := bl s) (a := A3) (b := b3) (by rw [bl_length]; exact hA3)).1; rw [h4, bl_length] at this; exact this
      have hn4 : n4 ≤ 562949953421311 := by have := (rNum_le (l := bl s) (a := A3) (b := b3) (by rw [bl_length]; exact hA3)).2; rw [h4] at this; exact this
      have HTN : Hid (rTree (bl s) (k + 1) = (xs ++ [⟨n0, (n1 : Int) - 1, ⟨(n2 : Int), (n3 : Int), (n4 : Int)⟩⟩], A4, b4)) := hideP (by
        rw [rTree, hT]
        unfold rRes
        dsimp only
        rw [h0]
        dsimp only
        rw [h1]
        dsimp only
        rw [h2]
        dsimp only
        rw [h3]
        dsimp only
        rw [h4])
      have HF := hideP (flag_any (s := s) (a := A) (b := b) (hs := hs) (ha := hA))
      rw [h0] at HF
      have HN1 := hideP (number_any (s := s) (a := A0) (b := b0) (hs := hs) (ha := hA0))
      rw [h1] at HN1
      have HN2 := hideP (number_any (s := s) (a := A1) (b := b1) (hs := hs) (ha := hA1))
      rw [h2] at HN2
      have HN3 := hideP (number_any (s := s) (a := A2) (b := b2) (hs := hs) (ha := hA2))
      rw [h3] at HN3
      have HN4 := hideP (number_any (s := s) (a := A3) (b := b3) (hs := hs) (ha := hA3))
      rw [h4] at HN4
      dsimp only at HF HN1 HN2 HN3 HN4
      clear hT h0 h1 h2 h3 h4
      have HB0 := hideP (hB.alloc (.cells #[.bool false, .int .i64 0, .int .i64 0, .int .i64 0, .int .i64 0] 57))
      have HX0 := hideP (Blk.new wr #[.bool false, .int .i64 0, .int .i64 0, .int .i64 0, .int .i64 0] 57)
      have HK0 := hideP ((Kept.refl w.heap.size wr.heap.size wr).alloc (.cells #[.bool false, .int .i64 0, .int .i64 0, .int .i64 0, .int .i64 0] 57))
      go_wp2_with fail
      refine (HF.out w.heap.size _ HB0.out).mono ?_
      rintro e w0 ⟨rfl, hB0, hg0⟩
      have HC0 := Lib.hid hB0
      have HY0 := hideP (grown_blk hg0 HX0.out (show wr.heap.size ≠ w.heap.size by omega))
      have HL0 := hideP (HK0.out.trans (Kept.left hg0))
      have z0 : wr.heap.size < w0.heap.size := HY0.out.lt
      clear hB0 hg0
      have x00 := HY0.out.cell 0
      have y00 := HY0.out.frozen 0
      have x01 := HY0.out.cell 1
      have y01 := HY0.out.frozen 1
      have x02 := HY0.out.cell 2
      have y02 := HY0.out.frozen 2
      have x03 := HY0.out.cell 3
      have y03 := HY0.out.frozen 3
      have x04 := HY0.out.cell 4
      have y04 := HY0.out.frozen 4
      simp only [List.getElem?_cons_zero, List.getElem?_cons_succ] at x00 x01 x02 x03 x04
      have HB1 := hideP (HC0.out.other 0 (.bool n0) (show w.heap.size ≠ wr.heap.size by omega))
      have HX1 := hideP (HY0.out.set 0 (.bool n0))
      have HK1 := hideP (HL0.out.set (i := 0) (v := .bool n0))
      simp only [List.set_cons_zero, List.set_cons_succ] at HX1
      go_wp2_with fail
      refine (HN1.out w.heap.size _ HB1.out).mono ?_
      rintro e w1 ⟨rfl, hB1, hg1⟩
      have HC1 := Lib.hid hB1
      have HY1 := hideP (grown_blk hg1 HX1.out (show wr.heap.size ≠ w.heap.size by omega))
      have HL1 := hideP (HK1.out.trans (Kept.left hg1))
      have z1 : wr.heap.size < w1.heap.size := HY1.out.lt
      clear hB1 hg1
      have x10 := HY1.out.cell 0
      have y10 := HY1.out.frozen 0
      have x11 := HY1.out.cell 1
      have y11 := HY1.out.frozen 1
      have x12 := HY1.out.cell 2
      have y12 := HY1.out.frozen 2
      have x13 := HY1.out.cell 3
      have y13 := HY1.out.frozen 3
      have x14 := HY1.out.cell 4
      have y14 := HY1.out.frozen 4
      simp only [List.getElem?_cons_zero, List.getElem?_cons_succ] at x10 x11 x12 x13 x14
      have HB2 := hideP (HC1.out.other 1 (.int .i64 ((n1 : Int) - 1)) (show w.heap.size ≠ wr.heap.size by omega))
      have HX2 := hideP (HY1.out.set 1 (.int .i64 ((n1 : Int) - 1)))
      have HK2 := hideP (HL1.out.set (i := 1) (v := .int .i64 ((n1 : Int) - 1)))
      simp only [List.set_cons_zero, List.set_cons_succ] at HX2
      go_wp2_with fail
      refine (HN2.out w.heap.size _ HB2.out).mono ?_
      rintro e w2 ⟨rfl, hB2, hg2⟩
      have HC2 := Lib.hid hB2
      have HY2 := hideP (grown_blk hg2 HX2.out (show wr.heap.size ≠ w.heap.size by omega))
      have HL2 := hideP (HK2.out.trans (Kept.left hg2))
      have z2 : wr.heap.size < w2.heap.size := HY2.out.lt
      clear hB2 hg2
      have x20 := HY2.out.cell 0
      have y20 := HY2.out.frozen 0
      have x21 := HY2.out.cell 1
      have y21 := HY2.out.frozen 1
      have x22 := HY2.out.cell 2
      have y22 := HY2.out.frozen 2
      have x23 := HY2.out.cell 3
      have y23 := HY2.out.frozen 3
      have x24 := HY2.out.cell 4
      have y24 := HY2.out.frozen 4
      simp only [List.getElem?_cons_zero, List.getElem?_cons_succ] at x20 x21 x22 x23 x24
      have HB3 := hideP (HC2.out.other 2 (.int .i64 (n2 : Int)) (show w.heap.size ≠ wr.heap.size by omega))
      have HX3 := hideP (HY2.out.set 2 (.int .i64 (n2 : Int)))
      have HK3 := hideP (HL2.out.set (i := 2) (v := .int .i64 (n2 : Int)))
      simp only [List.set_cons_zero, List.set_cons_succ] at HX3
      go_wp2_with fail
      refine (HN3.out w.heap.size _ HB3.out).mono ?_
      rintro e w3 ⟨rfl, hB3, hg3⟩
      have HC3 := Lib.hid hB3
      have HY3 := hideP (grown_blk hg3 HX3.out (show wr.heap.size ≠ w.heap.size by omega))
      have HL3 := hideP (HK3.out.trans (Kept.left hg3))
      have z3 : wr.heap.size < w3.heap.size := HY3.out.lt
      clear hB3 hg3
      have x30 := HY3.out.cell 0
      have y30 := HY3.out.frozen 0
      have x31 := HY3.out.cell 1
      have y31 := HY3.out.frozen 1
      have x32 := HY3.out.cell 2
      have y32 := HY3.out.frozen 2
      have x33 := HY3.out.cell 3
      have y33 := HY3.out.frozen 3
      have x34 := HY3.out.cell 4
      have y34 := HY3.out.frozen 4
      simp only [List.getElem?_cons_zero, List.getElem?_cons_succ] at x30 x31 x32 x33 x34
      have HB4 := hideP (HC3.out.other 3 (.int .i64 (n3 : Int)) (show w.heap.size ≠ wr.heap.size by omega))
      have HX4 := hideP (HY3.out.set 3 (.int .i64 (n3 : Int)))
      have HK4 := hideP (HL3.out.set (i := 3) (v := .int .i64 (n3 : Int)))
      simp only [List.set_cons_zero, List.set_cons_succ] at HX4
      go_wp2_with fail
      refine (HN4.out w.heap.size _ HB4.out).mono ?_
      rintro e w4 ⟨rfl, hB4, hg4⟩
      have HC4 := Lib.hid hB4
      have HY4 := hideP (grown_blk hg4 HX4.out (show wr.heap.size ≠ w.heap.size by omega))
      have HL4 := hideP (HK4.out.trans (Kept.left hg4))
      have z4 : wr.heap.size < w4.heap.size := HY4.out.lt
      clear hB4 hg4
      have x40 := HY4.out.cell 0
      have y40 := HY4.out.frozen 0
      have x41 := HY4.out.cell 1
      have y41 := HY4.out.frozen 1
      have x42 := HY4.out.cell 2
      have y42 := HY4.out.frozen 2
      have x43 := HY4.out.cell 3
      have y43 := HY4.out.frozen 3
      have x44 := HY4.out.cell 4
      have y44 := HY4.out.frozen 4
      simp only [List.getElem?_cons_zero, List.getElem?_cons_succ] at x40 x41 x42 x43 x44
      have HB5 := hideP (HC4.out.other 4 (.int .i64 (n4 : Int)) (show w.heap.size ≠ wr.heap.size by omega))
      have HX5 := hideP (HY4.out.set 4 (.int .i64 (n4 : Int)))
      have HK5 := hideP (HL4.out.set (i := 4) (v := .int .i64 (n4 : Int)))
      simp only [List.set_cons_zero, List.set_cons_succ] at HX5
      have HAP := hideP (owns_apart (g := w.heap.size) (x := wr.heap.size) hown (by omega) (Nat.le_refl _))
      have HOW := hideP (HK5.out.owns hown HAP.out)
      have HBL := hideP (HK5.out.below hb hb.size (Nat.le_refl _) hb.size)
      have HKN := hideP HK5.out.size
      clear hB hown
      go_wp2_with (at_builtin; refine wpList_append_rd _ rfl _ _ 24 rfl (w.heap.size + 1) 57 i0 (.agg #[.bool false, .int .i64 0, .int .i64 0, .int .i64 0, .int .i64 0]) 5 40 Try.underlying24 hi hz0 hz1 hz2 rfl (by decide) _ _ _ rfl (HOW.out.alloc _) _ 1 1 (Res.enc ⟨n0, (n1 : Int) - 1, ⟨(n2 : Int), (n3 : Int), (n4 : Int)⟩⟩) rfl rfl (rd_litg (by rfl) (by simp)) ?c1 ?c2 ?c3 ?c4 ?_)
      case c1 => simp [Value.oneCell', Res.enc]
      case c2 => unfold maxLen; omega
      case c3 => omega
      case c4 => have := HKN.out; simp at this ⊢; omega
      intro v' w9 ho9 hg9
      have HO9 : Hid (w9.ownsRow (w.heap.size + 1) 57 5 v' (k + 1) ((xs ++ [(⟨n0, (n1 : Int) - 1, ⟨(n2 : Int), (n3 : Int), (n4 : Int)⟩⟩ : Res)]).flatMap Res.enc)) := hideP (by rw [List.flatMap_append]; simpa using ho9)
      have HB9 := hideP ((HB5.out.alloc (.cells (Res.enc ⟨n0, (n1 : Int) - 1, ⟨(n2 : Int), (n3 : Int), (n4 : Int)⟩⟩).toArray 57)).kept (hg9.block _ (HB5.out.alloc _).lt (fun e => (HAP.out _ e.symm).1 rfl)))
      have HL9 := hideP (HBL.out.alloc HBL.out.size (.cells (Res.enc ⟨n0, (n1 : Int) - 1, ⟨(n2 : Int), (n3 : Int), (n4 : Int)⟩⟩).toArray 57) |>.grown hg9 (by have := HBL.out.size; simp at this ⊢; omega) (fun q hq => by have := (HOW.out.lt q hq).1; omega))
      have z9 : w.heap.size + 1 < w9.heap.size := by have h1 := hg9.size; have h2 := HKN.out; simp at h1 h2; omega
      clear ho9 hg9
      go_wp2
      go_roundg (gk - 1)
      case measure => omega
      case rel => exact ⟨k + 1, by omega, by omega, by go_num, by rw [HTN.out]; exact HB9.out, by rw [HTN.out]; exact HO9.out, HL9.out, z9⟩
    · have hk5 : k = 5 := by omega
      subst hk5
      obtain ⟨xs, A, b, hT⟩ : ∃ xs A b, rTree (bl s) 5 = (xs, A, b) := ⟨_, _, _, rfl⟩
      have hRT := readTree_impl (bl s)
      rw [hT] at hB hown hRT
      dsimp only at hB hown hRT
      have hxl : xs.length = 5 := by have := (rTree_le (bl s) 5).2; rw [hT] at this; exact this
      have HXL : Hid (5 = xs.length) := hideP hxl.symm
      have c2 := hB.cell 2
      simp only [List.getElem?_cons_zero, List.getElem?_cons_succ] at c2
      obtain ⟨va, vc, rfl, _⟩ := owns_slice hown
      have HRD := hideP (rd_of_owns hown)
      have HO := Lib.hid (owns_mono hown (show w.heap.size ≤ w.heap.size + 1 by omega))
      have HRT := Lib.hid hRT
      clear hT hRT hxl hB hown
      cases b
      · go_wp2_with fail
        refine (implTreeOk_any _ _ _ xs HXL.out (by decide) _ HRD.out).mono ?_
        rintro e w2 ⟨rfl, hb2⟩
        have hb02 := hb.trans (hb2.mono hb.size)
        cases hok : treeOk xs
        · have HN : Hid (readTree (bl s) = none) := hideP (by rw [HRT.out, hok]; rfl)
          go_wp2
          go_ret2
          exact TreeRet.no HN.out (owns_nil _ _ _ _) hb02
        · have Hok := Lib.hid hok
          clear hok
          go_wp2_with fail
          refine (implShowTree_any _ _ _ xs HXL.out (by decide) _ (HRD.out.below hb2)).mono ?_
          rintro e w3 ⟨rfl, hb3⟩
          have hb03 := hb02.trans (hb3.mono hb02.size)
          have HO3 := hideP (owns_below (owns_below HO.out (Nat.le_refl _) hb2) (Nat.le_refl _) hb3)
          go_wp2
          · rename_i hq
            have hne : ¬ showTree xs = bl s := fun e => by
              rw [e] at hq
              unfold bl at hq
              rw [← ByteArray.toList_eq] at hq
              simp at hq
            have HN : Hid (readTree (bl s) = none) := hideP (by rw [HRT.out, Hok.out, decide_eq_false hne]; rfl)
            clear hq hne
            go_ret2
            exact TreeRet.no HN.out (owns_nil _ _ _ _) hb03
          · rename_i hq
            have he : showTree xs = bl s := by
              unfold bl
              rw [← ByteArray.toList_eq]
              simpa using hq
            have HN : Hid (readTree (bl s) = some xs) := hideP (by rw [HRT.out, Hok.out, decide_eq_true he]; rfl)
            clear hq he
            go_ret2
            exact TreeRet.yes HN.out HO3.out hb03
      · have HN : Hid (readTree (bl s) = none) := hideP (by rw [HRT.out]; rfl)
        go_wp2
        go_ret2
        exact TreeRet.no HN.out (owns_nil _ _ _ _) hb

end Go.Proofs.Ytabbncoihmhocaa

namespace Go.Proofs.Ytabbncoihmhocaa
open Go.RowKit

theorem cell_alloc_keep {w : World} {p : Addr} {v : Value} (h : w.cell? p = some v) (o : Obj) : (w.alloc o).cell? p = some v := ((below_a1 w o).cell (World.block_lt_of_cell? w _ h)).trans h
theorem freshA1 {W W1 : World} {p0 o0 : Nat} {u0 : Value} {B : Nat} (_hS : W1.cell? ⟨p0, o0, none⟩ = some u0 ∧ Below B W W1) (E : TypeId) (v : Value) : (W1.alloc (.cells #[v] E)).cell? ⟨W1.heap.size, 0, none⟩ = some v := by simp
theorem freshA2 {W W1 : World} {p0 o0 p1 o1 : Nat} {u0 u1 : Value} {B : Nat} (_hS : W1.cell? ⟨p0, o0, none⟩ = some u0 ∧ W1.cell? ⟨p1, o1, none⟩ = some u1 ∧ Below B W W1) (E : TypeId) (v : Value) : (W1.alloc (.cells #[v] E)).cell? ⟨W1.heap.size, 0, none⟩ = some v := by simp
theorem freshA3 {W W1 : World} {p0 o0 p1 o1 p2 o2 : Nat} {u0 u1 u2 : Value} {B : Nat} (_hS : W1.cell? ⟨p0, o0, none⟩ = some u0 ∧ W1.cell? ⟨p1, o1, none⟩ = some u1 ∧ W1.cell? ⟨p2, o2, none⟩ = some u2 ∧ Below B W W1) (E : TypeId) (v : Value) : (W1.alloc (.cells #[v] E)).cell? ⟨W1.heap.size, 0, none⟩ = some v := by simp
theorem freshA4 {W W1 : World} {p0 o0 p1 o1 p2 o2 p3 o3 : Nat} {u0 u1 u2 u3 : Value} {B : Nat} (_hS : W1.cell? ⟨p0, o0, none⟩ = some u0 ∧ W1.cell? ⟨p1, o1, none⟩ = some u1 ∧ W1.cell? ⟨p2, o2, none⟩ = some u2 ∧ W1.cell? ⟨p3, o3, none⟩ = some u3 ∧ Below B W W1) (E : TypeId) (v : Value) : (W1.alloc (.cells #[v] E)).cell? ⟨W1.heap.size, 0, none⟩ = some v := by simp
theorem freshA5 {W W1 : World} {p0 o0 p1 o1 p2 o2 p3 o3 p4 o4 : Nat} {u0 u1 u2 u3 u4 : Value} {B : Nat} (_hS : W1.cell? ⟨p0, o0, none⟩ = some u0 ∧ W1.cell? ⟨p1, o1, none⟩ = some u1 ∧ W1.cell? ⟨p2, o2, none⟩ = some u2 ∧ W1.cell? ⟨p3, o3, none⟩ = some u3 ∧ W1.cell? ⟨p4, o4, none⟩ = some u4 ∧ Below B W W1) (E : TypeId) (v : Value) : (W1.alloc (.cells #[v] E)).cell? ⟨W1.heap.size, 0, none⟩ = some v := by simp
theorem freshA6 {W W1 : World} {p0 o0 p1 o1 p2 o2 p3 o3 p4 o4 p5 o5 : Nat} {u0 u1 u2 u3 u4 u5 : Value} {B : Nat} (_hS : W1.cell? ⟨p0, o0, none⟩ = some u0 ∧ W1.cell? ⟨p1, o1, none⟩ = some u1 ∧ W1.cell? ⟨p2, o2, none⟩ = some u2 ∧ W1.cell? ⟨p3, o3, none⟩ = some u3 ∧ W1.cell? ⟨p4, o4, none⟩ = some u4 ∧ W1.cell? ⟨p5, o5, none⟩ = some u5 ∧ Below B W W1) (E : TypeId) (v : Value) : (W1.alloc (.cells #[v] E)).cell? ⟨W1.heap.size, 0, none⟩ = some v := by simp
theorem freshA7 {W W1 : World} {p0 o0 p1 o1 p2 o2 p3 o3 p4 o4 p5 o5 p6 o6 : Nat} {u0 u1 u2 u3 u4 u5 u6 : Value} {B : Nat} (_hS : W1.cell? ⟨p0, o0, none⟩ = some u0 ∧ W1.cell? ⟨p1, o1, none⟩ = some u1 ∧ W1.cell? ⟨p2, o2, none⟩ = some u2 ∧ W1.cell? ⟨p3, o3, none⟩ = some u3 ∧ W1.cell? ⟨p4, o4, none⟩ = some u4 ∧ W1.cell? ⟨p5, o5, none⟩ = some u5 ∧ W1.cell? ⟨p6, o6, none⟩ = some u6 ∧ Below B W W1) (E : TypeId) (v : Value) : (W1.alloc (.cells #[v] E)).cell? ⟨W1.heap.size, 0, none⟩ = some v := by simp
theorem freshA8 {W W1 : World} {p0 o0 p1 o1 p2 o2 p3 o3 p4 o4 p5 o5 p6 o6 p7 o7 : Nat} {u0 u1 u2 u3 u4 u5 u6 u7 : Value} {B : Nat} (_hS : W1.cell? ⟨p0, o0, none⟩ = some u0 ∧ W1.cell? ⟨p1, o1, none⟩ = some u1 ∧ W1.cell? ⟨p2, o2, none⟩ = some u2 ∧ W1.cell? ⟨p3, o3, none⟩ = some u3 ∧ W1.cell? ⟨p4, o4, none⟩ = some u4 ∧ W1.cell? ⟨p5, o5, none⟩ = some u5 ∧ W1.cell? ⟨p6, o6, none⟩ = some u6 ∧ W1.cell? ⟨p7, o7, none⟩ = some u7 ∧ Below B W W1) (E : TypeId) (v : Value) : (W1.alloc (.cells #[v] E)).cell? ⟨W1.heap.size, 0, none⟩ = some v := by simp
theorem freshA9 {W W1 : World} {p0 o0 p1 o1 p2 o2 p3 o3 p4 o4 p5 o5 p6 o6 p7 o7 p8 o8 : Nat} {u0 u1 u2 u3 u4 u5 u6 u7 u8 : Value} {B : Nat} (_hS : W1.cell? ⟨p0, o0, none⟩ = some u0 ∧ W1.cell? ⟨p1, o1, none⟩ = some u1 ∧ W1.cell? ⟨p2, o2, none⟩ = some u2 ∧ W1.cell? ⟨p3, o3, none⟩ = some u3 ∧ W1.cell? ⟨p4, o4, none⟩ = some u4 ∧ W1.cell? ⟨p5, o5, none⟩ = some u5 ∧ W1.cell? ⟨p6, o6, none⟩ = some u6 ∧ W1.cell? ⟨p7, o7, none⟩ = some u7 ∧ W1.cell? ⟨p8, o8, none⟩ = some u8 ∧ Below B W W1) (E : TypeId) (v : Value) : (W1.alloc (.cells #[v] E)).cell? ⟨W1.heap.size, 0, none⟩ = some v := by simp
theorem freshA10 {W W1 : World} {p0 o0 p1 o1 p2 o2 p3 o3 p4 o4 p5 o5 p6 o6 p7 o7 p8 o8 p9 o9 : Nat} {u0 u1 u2 u3 u4 u5 u6 u7 u8 u9 : Value} {B : Nat} (_hS : W1.cell? ⟨p0, o0, none⟩ = some u0 ∧ W1.cell? ⟨p1, o1, none⟩ = some u1 ∧ W1.cell? ⟨p2, o2, none⟩ = some u2 ∧ W1.cell? ⟨p3, o3, none⟩ = some u3 ∧ W1.cell? ⟨p4, o4, none⟩ = some u4 ∧ W1.cell? ⟨p5, o5, none⟩ = some u5 ∧ W1.cell? ⟨p6, o6, none⟩ = some u6 ∧ W1.cell? ⟨p7, o7, none⟩ = some u7 ∧ W1.cell? ⟨p8, o8, none⟩ = some u8 ∧ W1.cell? ⟨p9, o9, none⟩ = some u9 ∧ Below B W W1) (E : TypeId) (v : Value) : (W1.alloc (.cells #[v] E)).cell? ⟨W1.heap.size, 0, none⟩ = some v := by simp
theorem freshA11 {W W1 : World} {p0 o0 p1 o1 p2 o2 p3 o3 p4 o4 p5 o5 p6 o6 p7 o7 p8 o8 p9 o9 p10 o10 : Nat} {u0 u1 u2 u3 u4 u5 u6 u7 u8 u9 u10 : Value} {B : Nat} (_hS : W1.cell? ⟨p0, o0, none⟩ = some u0 ∧ W1.cell? ⟨p1, o1, none⟩ = some u1 ∧ W1.cell? ⟨p2, o2, none⟩ = some u2 ∧ W1.cell? ⟨p3, o3, none⟩ = some u3 ∧ W1.cell? ⟨p4, o4, none⟩ = some u4 ∧ W1.cell? ⟨p5, o5, none⟩ = some u5 ∧ W1.cell? ⟨p6, o6, none⟩ = some u6 ∧ W1.cell? ⟨p7, o7, none⟩ = some u7 ∧ W1.cell? ⟨p8, o8, none⟩ = some u8 ∧ W1.cell? ⟨p9, o9, none⟩ = some u9 ∧ W1.cell? ⟨p10, o10, none⟩ = some u10 ∧ Below B W W1) (E : TypeId) (v : Value) : (W1.alloc (.cells #[v] E)).cell? ⟨W1.heap.size, 0, none⟩ = some v := by simp
theorem freshA12 {W W1 : World} {p0 o0 p1 o1 p2 o2 p3 o3 p4 o4 p5 o5 p6 o6 p7 o7 p8 o8 p9 o9 p10 o10 p11 o11 : Nat} {u0 u1 u2 u3 u4 u5 u6 u7 u8 u9 u10 u11 : Value} {B : Nat} (_hS : W1.cell? ⟨p0, o0, none⟩ = some u0 ∧ W1.cell? ⟨p1, o1, none⟩ = some u1 ∧ W1.cell? ⟨p2, o2, none⟩ = some u2 ∧ W1.cell? ⟨p3, o3, none⟩ = some u3 ∧ W1.cell? ⟨p4, o4, none⟩ = some u4 ∧ W1.cell? ⟨p5, o5, none⟩ = some u5 ∧ W1.cell? ⟨p6, o6, none⟩ = some u6 ∧ W1.cell? ⟨p7, o7, none⟩ = some u7 ∧ W1.cell? ⟨p8, o8, none⟩ = some u8 ∧ W1.cell? ⟨p9, o9, none⟩ = some u9 ∧ W1.cell? ⟨p10, o10, none⟩ = some u10 ∧ W1.cell? ⟨p11, o11, none⟩ = some u11 ∧ Below B W W1) (E : TypeId) (v : Value) : (W1.alloc (.cells #[v] E)).cell? ⟨W1.heap.size, 0, none⟩ = some v := by simp
theorem freshA13 {W W1 : World} {p0 o0 p1 o1 p2 o2 p3 o3 p4 o4 p5 o5 p6 o6 p7 o7 p8 o8 p9 o9 p10 o10 p11 o11 p12 o12 : Nat} {u0 u1 u2 u3 u4 u5 u6 u7 u8 u9 u10 u11 u12 : Value} {B : Nat} (_hS : W1.cell? ⟨p0, o0, none⟩ = some u0 ∧ W1.cell? ⟨p1, o1, none⟩ = some u1 ∧ W1.cell? ⟨p2, o2, none⟩ = some u2 ∧ W1.cell? ⟨p3, o3, none⟩ = some u3 ∧ W1.cell? ⟨p4, o4, none⟩ = some u4 ∧ W1.cell? ⟨p5, o5, none⟩ = some u5 ∧ W1.cell? ⟨p6, o6, none⟩ = some u6 ∧ W1.cell? ⟨p7, o7, none⟩ = some u7 ∧ W1.cell? ⟨p8, o8, none⟩ = some u8 ∧ W1.cell? ⟨p9, o9, none⟩ = some u9 ∧ W1.cell? ⟨p10, o10, none⟩ = some u10 ∧ W1.cell? ⟨p11, o11, none⟩ = some u11 ∧ W1.cell? ⟨p12, o12, none⟩ = some u12 ∧ Below B W W1) (E : TypeId) (v : Value) : (W1.alloc (.cells #[v] E)).cell? ⟨W1.heap.size, 0, none⟩ = some v := by simp
theorem freshA14 {W W1 : World} {p0 o0 p1 o1 p2 o2 p3 o3 p4 o4 p5 o5 p6 o6 p7 o7 p8 o8 p9 o9 p10 o10 p11 o11 p12 o12 p13 o13 : Nat} {u0 u1 u2 u3 u4 u5 u6 u7 u8 u9 u10 u11 u12 u13 : Value} {B : Nat} (_hS : W1.cell? ⟨p0, o0, none⟩ = some u0 ∧ W1.cell? ⟨p1, o1, none⟩ = some u1 ∧ W1.cell? ⟨p2, o2, none⟩ = some u2 ∧ W1.cell? ⟨p3, o3, none⟩ = some u3 ∧ W1.cell? ⟨p4, o4, none⟩ = some u4 ∧ W1.cell? ⟨p5, o5, none⟩ = some u5 ∧ W1.cell? ⟨p6, o6, none⟩ = some u6 ∧ W1.cell? ⟨p7, o7, none⟩ = some u7 ∧ W1.cell? ⟨p8, o8, none⟩ = some u8 ∧ W1.cell? ⟨p9, o9, none⟩ = some u9 ∧ W1.cell? ⟨p10, o10, none⟩ = some u10 ∧ W1.cell? ⟨p11, o11, none⟩ = some u11 ∧ W1.cell? ⟨p12, o12, none⟩ = some u12 ∧ W1.cell? ⟨p13, o13, none⟩ = some u13 ∧ Below B W W1) (E : TypeId) (v : Value) : (W1.alloc (.cells #[v] E)).cell? ⟨W1.heap.size, 0, none⟩ = some v := by simp
theorem freshA15 {W W1 : World} {p0 o0 p1 o1 p2 o2 p3 o3 p4 o4 p5 o5 p6 o6 p7 o7 p8 o8 p9 o9 p10 o10 p11 o11 p12 o12 p13 o13 p14 o14 : Nat} {u0 u1 u2 u3 u4 u5 u6 u7 u8 u9 u10 u11 u12 u13 u14 : Value} {B : Nat} (_hS : W1.cell? ⟨p0, o0, none⟩ = some u0 ∧ W1.cell? ⟨p1, o1, none⟩ = some u1 ∧ W1.cell? ⟨p2, o2, none⟩ = some u2 ∧ W1.cell? ⟨p3, o3, none⟩ = some u3 ∧ W1.cell? ⟨p4, o4, none⟩ = some u4 ∧ W1.cell? ⟨p5, o5, none⟩ = some u5 ∧ W1.cell? ⟨p6, o6, none⟩ = some u6 ∧ W1.cell? ⟨p7, o7, none⟩ = some u7 ∧ W1.cell? ⟨p8, o8, none⟩ = some u8 ∧ W1.cell? ⟨p9, o9, none⟩ = some u9 ∧ W1.cell? ⟨p10, o10, none⟩ = some u10 ∧ W1.cell? ⟨p11, o11, none⟩ = some u11 ∧ W1.cell? ⟨p12, o12, none⟩ = some u12 ∧ W1.cell? ⟨p13, o13, none⟩ = some u13 ∧ W1.cell? ⟨p14, o14, none⟩ = some u14 ∧ Below B W W1) (E : TypeId) (v : Value) : (W1.alloc (.cells #[v] E)).cell? ⟨W1.heap.size, 0, none⟩ = some v := by simp
theorem freshA16 {W W1 : World} {p0 o0 p1 o1 p2 o2 p3 o3 p4 o4 p5 o5 p6 o6 p7 o7 p8 o8 p9 o9 p10 o10 p11 o11 p12 o12 p13 o13 p14 o14 p15 o15 : Nat} {u0 u1 u2 u3 u4 u5 u6 u7 u8 u9 u10 u11 u12 u13 u14 u15 : Value} {B : Nat} (_hS : W1.cell? ⟨p0, o0, none⟩ = some u0 ∧ W1.cell? ⟨p1, o1, none⟩ = some u1 ∧ W1.cell? ⟨p2, o2, none⟩ = some u2 ∧ W1.cell? ⟨p3, o3, none⟩ = some u3 ∧ W1.cell? ⟨p4, o4, none⟩ = some u4 ∧ W1.cell? ⟨p5, o5, none⟩ = some u5 ∧ W1.cell? ⟨p6, o6, none⟩ = some u6 ∧ W1.cell? ⟨p7, o7, none⟩ = some u7 ∧ W1.cell? ⟨p8, o8, none⟩ = some u8 ∧ W1.cell? ⟨p9, o9, none⟩ = some u9 ∧ W1.cell? ⟨p10, o10, none⟩ = some u10 ∧ W1.cell? ⟨p11, o11, none⟩ = some u11 ∧ W1.cell? ⟨p12, o12, none⟩ = some u12 ∧ W1.cell? ⟨p13, o13, none⟩ = some u13 ∧ W1.cell? ⟨p14, o14, none⟩ = some u14 ∧ W1.cell? ⟨p15, o15, none⟩ = some u15 ∧ Below B W W1) (E : TypeId) (v : Value) : (W1.alloc (.cells #[v] E)).cell? ⟨W1.heap.size, 0, none⟩ = some v := by simp
end Go.Proofs.Ytabbncoihmhocaa

namespace Go.Proofs.Ytabbncoihmhocaa
open Go.RowKit

set_option maxRecDepth 100000 in
set_option maxHeartbeats 8000000 in
theorem implShowObj_any (o : Thing) (vl vd vq : Value) (hl : o.links.length ≤ 1048576) (hd : o.data.length ≤ 1048576) (hq : o.queue.length ≤ 1048576) (hw : Hid (I64 o.wait)) (w : World) (h : ThIs w o vl vd vq) :
    Calls Try.prog 11 #[.agg #[.int .i64 o.gen, .int .i64 o.kind, .int .i64 o.box, .int .i64 o.res, .int .i64 o.til, .int .i64 o.pages, .int .i64 o.wait, .int .i64 o.got, .int .i64 o.ran, .bool o.mark, vl, vd, vq]] w fun e w' => e = .returned (.string ⟨(showThing o).toArray⟩) ∧ Below w.heap.size w w' := by
  obtain ⟨⟨al, cl, rfl, hcl, hrl⟩, ⟨ad, cd, rfl, hcd, hrd⟩, ⟨aq, cq, rfl, hcq, hrq⟩⟩ := h
  have hb0 := below_a1 w (.cells #[.int .i64 o.gen, .int .i64 o.kind, .int .i64 o.box, .int .i64 o.res, .int .i64 o.til, .int .i64 o.pages, .int .i64 o.wait, .int .i64 o.got, .int .i64 o.ran, .bool o.mark, .slice al o.links.length cl, .slice ad o.data.length cd, .slice aq o.queue.length cq] 34)
  have hB0 : Blk (w.alloc (.cells #[.int .i64 o.gen, .int .i64 o.kind, .int .i64 o.box, .int .i64 o.res, .int .i64 o.til, .int .i64 o.pages, .int .i64 o.wait, .int .i64 o.got, .int .i64 o.ran, .bool o.mark, .slice al o.links.length cl, .slice ad o.data.length cd, .slice aq o.queue.length cq] 34)) w.heap.size 34 [.int .i64 o.gen, .int .i64 o.kind, .int .i64 o.box, .int .i64 o.res, .int .i64 o.til, .int .i64 o.pages, .int .i64 o.wait, .int .i64 o.got, .int .i64 o.ran, .bool o.mark, .slice al o.links.length cl, .slice ad o.data.length cd, .slice aq o.queue.length cq] := Blk.new w #[.int .i64 o.gen, .int .i64 o.kind, .int .i64 o.box, .int .i64 o.res, .int .i64 o.til, .int .i64 o.pages, .int .i64 o.wait, .int .i64 o.got, .int .i64 o.ran, .bool o.mark, .slice al o.links.length cl, .slice ad o.data.length cd, .slice aq o.queue.length cq] 34
  have HB0 := Lib.hid hB0
  clear hB0
  go_enter Try.func11, Try.ntmps11
  go_wp2_with fail
  refine (implThingOk_any o _ _ _ hl hd hq hw _ ⟨⟨al, cl, rfl, hcl, hrl.below hb0⟩, ⟨ad, cd, rfl, hcd, hrd.below hb0⟩, ⟨aq, cq, rfl, hcq, hrq.below hb0⟩⟩).mono ?_
  rintro e w1 ⟨rfl, hb1⟩
  have HBK := hideP (HB0.out.below hb1)
  have hbx : Below w.heap.size w w1 := hb0.trans (hb1.mono hb0.size)
  have pz : w.heap.size < w1.heap.size := HBK.out.lt
  clear hb0 HB0 hb1
  cases hok : thingOk o
  · have HS : Hid (showThing o = []) := hideP (by unfold showThing; rw [hok]; rfl)
    go_wp2
    go_ret
    exact ⟨by rw [HS.out]; rfl, hbx⟩
  have HS : Hid (showThing o = thingShow o) := hideP (by unfold showThing; rw [hok]; rfl)
  have HG := hideP (thing_good hok)
  obtain ⟨bx0, bx1⟩ := HG.out.box
  obtain ⟨bg0, bg1⟩ := HG.out.got
  have n1 := HG.out.links
  have n2 := HG.out.data
  have n3 := HG.out.queue
  clear hok hl hd hq
  have c0 : w1.cell? ⟨w.heap.size, 0, none⟩ = some (.int .i64 o.gen) := (HBK.out.cell 0).trans rfl
  have c1 : w1.cell? ⟨w.heap.size, 1, none⟩ = some (.int .i64 o.kind) := (HBK.out.cell 1).trans rfl
  have c2 : w1.cell? ⟨w.heap.size, 2, none⟩ = some (.int .i64 o.box) := (HBK.out.cell 2).trans rfl
  have c3 : w1.cell? ⟨w.heap.size, 3, none⟩ = some (.int .i64 o.res) := (HBK.out.cell 3).trans rfl
  have c4 : w1.cell? ⟨w.heap.size, 4, none⟩ = some (.int .i64 o.til) := (HBK.out.cell 4).trans rfl
  have c5 : w1.cell? ⟨w.heap.size, 5, none⟩ = some (.int .i64 o.pages) := (HBK.out.cell 5).trans rfl
  have c6 : w1.cell? ⟨w.heap.size, 6, none⟩ = some (.int .i64 o.wait) := (HBK.out.cell 6).trans rfl
  have c7 : w1.cell? ⟨w.heap.size, 7, none⟩ = some (.int .i64 o.got) := (HBK.out.cell 7).trans rfl
  have c8 : w1.cell? ⟨w.heap.size, 8, none⟩ = some (.int .i64 o.ran) := (HBK.out.cell 8).trans rfl
  have c9 : w1.cell? ⟨w.heap.size, 9, none⟩ = some (.bool o.mark) := (HBK.out.cell 9).trans rfl
  have c10 : w1.cell? ⟨w.heap.size, 10, none⟩ = some (.slice al o.links.length cl) := (HBK.out.cell 10).trans rfl
  have zw1 : IntKind.i64.wrap (o.box + 1) = o.box + 1 := IntWalk.i64_in _ (by omega)
  have zw2 : IntKind.i64.wrap (o.got + 1) = o.got + 1 := IntWalk.i64_in _ (by omega)
  go_upto_region 3 with fail
  go_cut [3] (fun s wx => s = .string ⟨(varsL (thingNums o)).toArray⟩ ∧ Hid (Blk wx w.heap.size 34 [.int .i64 o.gen, .int .i64 o.kind, .int .i64 o.box, .int .i64 o.res, .int .i64 o.til, .int .i64 o.pages, .int .i64 o.wait, .int .i64 o.got, .int .i64 o.ran, .bool o.mark, .slice al o.links.length cl, .slice ad o.data.length cd, .slice aq o.queue.length cq]) ∧ Below w.heap.size w wx)
  case first =>
    skip
    refine wp_region_held_drew (S := fun w' => w'.cell? ⟨w.heap.size, 0, none⟩ = some (.int .i64 o.gen) ∧ w'.cell? ⟨w.heap.size, 1, none⟩ = some (.int .i64 o.kind) ∧ w'.cell? ⟨w.heap.size, 2, none⟩ = some (.int .i64 o.box) ∧ w'.cell? ⟨w.heap.size, 3, none⟩ = some (.int .i64 o.res) ∧ w'.cell? ⟨w.heap.size, 4, none⟩ = some (.int .i64 o.til) ∧ w'.cell? ⟨w.heap.size, 5, none⟩ = some (.int .i64 o.pages) ∧ w'.cell? ⟨w.heap.size, 6, none⟩ = some (.int .i64 o.wait) ∧ w'.cell? ⟨w.heap.size, 7, none⟩ = some (.int .i64 o.got) ∧ w'.cell? ⟨w.heap.size, 8, none⟩ = some (.int .i64 o.ran) ∧ w'.cell? ⟨w.heap.size, 9, none⟩ = some (.bool o.mark) ∧ w'.cell? ⟨w.heap.size, 10, none⟩ = some (.slice al o.links.length cl) ∧ Below w1.heap.size w1 w') (by kernel_rfl) (held011 c0 c1 c2 c3 c4 c5 c6 c7 c8 c9 c10) (fun hHeld => ?_)
    refine takeD (i := 0) (oi := _) (v := ?_) (some 11) rfl rfl (by kernel_rfl) (by kernel_rfl) (by kernel_rfl) (fun _ _ _ h => h) (Or.inl ⟨by rfl, ?_⟩) (by assumption) ?_
    rotate_left
    · intro wS hSw; (try dsimp only at hSw); go_simp; (try rw [if_neg (by omega)]); try with_reducible rfl
    try simp only [Act.put, List.setIfInBounds_toArray, List.set_cons_zero, List.set_cons_succ]
    refine takeD (i := 1) (oi := _) (v := ?_) (some 12) rfl rfl (by kernel_rfl) (by kernel_rfl) (by kernel_rfl) (fun _ _ _ h => h) (Or.inl ⟨by rfl, ?_⟩) (by assumption) ?_
    rotate_left
    · intro wS hSw; (try dsimp only at hSw); go_simp; (try rw [if_neg (by omega)]); try with_reducible rfl
    try simp only [Act.put, List.setIfInBounds_toArray, List.set_cons_zero, List.set_cons_succ]
    refine takeD (i := 2) (oi := _) (v := ?_) (some 13) rfl rfl (by kernel_rfl) (by kernel_rfl) (by kernel_rfl) (fun _ _ _ h => h) (Or.inl ⟨by rfl, ?_⟩) (by assumption) ?_
    rotate_left
    · intro wS hSw; (try dsimp only at hSw); go_simp; (try rw [if_neg (by omega)]); try with_reducible rfl
    try simp only [Act.put, List.setIfInBounds_toArray, List.set_cons_zero, List.set_cons_succ]
    refine takeD (i := 3) (oi := _) (v := ?_) (some 14) rfl rfl (by kernel_rfl) (by kernel_rfl) (by kernel_rfl) (fun _ _ _ h => h) (Or.inl ⟨by rfl, ?_⟩) (by assumption) ?_
    rotate_left
    · intro wS hSw; (try dsimp only at hSw); go_simp; (try rw [if_neg (by omega)]); try with_reducible rfl
    try simp only [Act.put, List.setIfInBounds_toArray, List.set_cons_zero, List.set_cons_succ]
    refine takeD (i := 4) (oi := _) (v := ?_) (some 15) rfl rfl (by kernel_rfl) (by kernel_rfl) (by kernel_rfl) (fun _ _ _ h => h) (Or.inl ⟨by rfl, ?_⟩) (by assumption) ?_
    rotate_left
    · intro wS hSw; (try dsimp only at hSw); go_simp; (try rw [if_neg (by omega)]); try with_reducible rfl
    try simp only [Act.put, List.setIfInBounds_toArray, List.set_cons_zero, List.set_cons_succ]
    refine takeD (i := 5) (oi := _) (v := ?_) (some 16) rfl rfl (by kernel_rfl) (by kernel_rfl) (by kernel_rfl) (fun _ _ _ h => h) (Or.inl ⟨by rfl, ?_⟩) (by assumption) ?_
    rotate_left
    · intro wS hSw; (try dsimp only at hSw); go_simp; (try rw [if_neg (by omega)]); try with_reducible rfl
    try simp only [Act.put, List.setIfInBounds_toArray, List.set_cons_zero, List.set_cons_succ]
    refine takeD (i := 6) (oi := _) (v := ?_) (some 17) rfl rfl (by kernel_rfl) (by kernel_rfl) (by kernel_rfl) (fun _ _ _ h => h) (Or.inl ⟨by rfl, ?_⟩) (by assumption) ?_
    rotate_left
    · intro wS hSw; (try dsimp only at hSw); go_simp; (try rw [if_neg (by omega)]); try with_reducible rfl
    try simp only [Act.put, List.setIfInBounds_toArray, List.set_cons_zero, List.set_cons_succ]
    refine takeD (i := 7) (oi := _) (v := ?_) (some 18) rfl rfl (by kernel_rfl) (by kernel_rfl) (by kernel_rfl) (fun _ _ _ h => h) (Or.inl ⟨by rfl, ?_⟩) (by assumption) ?_
    rotate_left
    · intro wS hSw; (try dsimp only at hSw); go_simp; (try rw [if_neg (by omega)]); try with_reducible rfl
    try simp only [Act.put, List.setIfInBounds_toArray, List.set_cons_zero, List.set_cons_succ]
    refine takeD (i := 8) (oi := _) (v := ?_) (some 19) rfl rfl (by kernel_rfl) (by kernel_rfl) (by kernel_rfl) (fun _ _ _ h => h) (Or.inl ⟨by rfl, ?_⟩) (by assumption) ?_
    rotate_left
    · intro wS hSw; (try dsimp only at hSw); go_simp; (try rw [if_neg (by omega)]); try with_reducible rfl
    try simp only [Act.put, List.setIfInBounds_toArray, List.set_cons_zero, List.set_cons_succ]
    refine takeD (i := 9) (oi := _) (v := ?_) (some 20) rfl rfl (by kernel_rfl) (by kernel_rfl) (by kernel_rfl) (fun _ _ _ h => h) (Or.inl ⟨by rfl, ?_⟩) (by assumption) ?_
    rotate_left
    · intro wS hSw; (try dsimp only at hSw); go_simp; (try rw [if_neg (by omega)]); try with_reducible rfl
    try simp only [Act.put, List.setIfInBounds_toArray, List.set_cons_zero, List.set_cons_succ]
    refine takeD (i := 10) (oi := _) (v := ?_) (some 21) rfl rfl (by kernel_rfl) (by kernel_rfl) (by kernel_rfl) (fun _ _ _ h => h) (Or.inl ⟨by rfl, ?_⟩) (by assumption) ?_
    rotate_left
    · intro wS hSw; (try dsimp only at hSw); go_simp; (try rw [if_neg (by omega)]); try with_reducible rfl
    try simp only [Act.put, List.setIfInBounds_toArray, List.set_cons_zero, List.set_cons_succ]
    refine takeD (i := 11) (oi := _) (v := ?_) (some 22) rfl rfl (by kernel_rfl) (by kernel_rfl) (by kernel_rfl) (fun _ _ _ h => h) (Or.inl ⟨by rfl, ?_⟩) (by assumption) ?_
    rotate_left
    · intro wS hSw; (try dsimp only at hSw); go_simp; (try rw [if_neg (by omega)]); try with_reducible rfl
    try simp only [Act.put, List.setIfInBounds_toArray, List.set_cons_zero, List.set_cons_succ]
    refine takeD (i := 12) (oi := _) (v := ?_) (some 23) rfl rfl (by kernel_rfl) (by kernel_rfl) (by kernel_rfl) (fun _ _ _ h => h) (Or.inl ⟨by rfl, ?_⟩) (by assumption) ?_
    rotate_left
    · intro wS hSw; (try dsimp only at hSw); go_simp; (try rw [if_neg (by omega)]); try with_reducible rfl
    try simp only [Act.put, List.setIfInBounds_toArray, List.set_cons_zero, List.set_cons_succ]
    refine takeD (i := 13) (oi := _) (v := ?_) (some 24) rfl rfl (by kernel_rfl) (by kernel_rfl) (by kernel_rfl) (fun _ _ _ h => h) (Or.inl ⟨by rfl, ?_⟩) (by assumption) ?_
    rotate_left
    · intro wS hSw; (try dsimp only at hSw); go_simp; (try rw [if_neg (by omega)]); try with_reducible rfl
    try simp only [Act.put, List.setIfInBounds_toArray, List.set_cons_zero, List.set_cons_succ]
    refine takeD (i := 14) (oi := _) (v := ?_) (some 25) rfl rfl (by kernel_rfl) (by kernel_rfl) (by kernel_rfl) (fun _ _ _ h => h) (Or.inl ⟨by rfl, ?_⟩) (by assumption) ?_
    rotate_left
    · intro wS hSw; (try dsimp only at hSw); go_simp; (try rw [if_neg (by omega)]); try with_reducible rfl
    try simp only [Act.put, List.setIfInBounds_toArray, List.set_cons_zero, List.set_cons_succ]
    refine takeD (i := 15) (oi := _) (v := ?_) (some 26) rfl rfl (by kernel_rfl) (by kernel_rfl) (by kernel_rfl) (fun _ _ _ h => h) (Or.inl ⟨by rfl, ?_⟩) (by assumption) ?_
    rotate_left
    · intro wS hSw; (try dsimp only at hSw); go_simp; (try rw [if_neg (by omega)]); try with_reducible rfl
    try simp only [Act.put, List.setIfInBounds_toArray, List.set_cons_zero, List.set_cons_succ]
    refine takeD (i := 16) (oi := _) (v := ?_) (some 27) rfl rfl (by kernel_rfl) (by kernel_rfl) (by kernel_rfl) (fun _ _ _ h => h) (Or.inl ⟨by rfl, ?_⟩) (by assumption) ?_
    rotate_left
    · intro wS hSw; (try dsimp only at hSw); go_simp; (try rw [if_neg (by omega)]); try with_reducible rfl
    try simp only [Act.put, List.setIfInBounds_toArray, List.set_cons_zero, List.set_cons_succ]
    refine takeD (i := 17) (oi := _) (v := ?_) (some 28) rfl rfl (by kernel_rfl) (by kernel_rfl) (by kernel_rfl) (fun _ _ _ h => h) (Or.inl ⟨by rfl, ?_⟩) (by assumption) ?_
    rotate_left
    · intro wS hSw; (try dsimp only at hSw); go_simp; (try rw [if_neg (by omega)]); try with_reducible rfl
    try simp only [Act.put, List.setIfInBounds_toArray, List.set_cons_zero, List.set_cons_succ]
    refine takeD (i := 18) (oi := _) (v := ?_) (some 29) rfl rfl (by kernel_rfl) (by kernel_rfl) (by kernel_rfl) (fun _ _ _ h => h) (Or.inl ⟨by rfl, ?_⟩) (by assumption) ?_
    rotate_left
    · intro wS hSw; (try dsimp only at hSw); go_simp; (try rw [if_neg (by omega)]); try with_reducible rfl
    try simp only [Act.put, List.setIfInBounds_toArray, List.set_cons_zero, List.set_cons_succ]
    refine takeD (i := 19) (oi := _) (v := ?_) (some 30) rfl rfl (by kernel_rfl) (by kernel_rfl) (by kernel_rfl) (fun _ _ _ h => h) (Or.inl ⟨by rfl, ?_⟩) (by assumption) ?_
    rotate_left
    · intro wS hSw; (try dsimp only at hSw); go_simp; (try rw [if_neg (by omega)]); try with_reducible rfl
    try simp only [Act.put, List.setIfInBounds_toArray, List.set_cons_zero, List.set_cons_succ]
    refine takeD (i := 20) (oi := _) (v := ?_) (some 31) rfl rfl (by kernel_rfl) (by kernel_rfl) (by kernel_rfl) (fun _ _ _ h => h) (Or.inl ⟨by rfl, ?_⟩) (by assumption) ?_
    rotate_left
    · intro wS hSw; (try dsimp only at hSw); go_simp; (try rw [if_neg (by omega)]); try with_reducible rfl
    try simp only [Act.put, List.setIfInBounds_toArray, List.set_cons_zero, List.set_cons_succ]
    refine takeD (i := 21) (oi := _) (v := ?_) (some 32) rfl rfl (by kernel_rfl) (by kernel_rfl) (by kernel_rfl) (fun _ _ _ h => h) (Or.inl ⟨by rfl, ?_⟩) (by assumption) ?_
    rotate_left
    · intro wS hSw; (try dsimp only at hSw); go_simp; (try rw [if_neg (by omega)]); try with_reducible rfl
    try simp only [Act.put, List.setIfInBounds_toArray, List.set_cons_zero, List.set_cons_succ]
    refine takeD (i := 23) (oi := _) (v := ?_) (some 34) rfl rfl (by kernel_rfl) (by kernel_rfl) (by kernel_rfl) (fun _ _ _ h => h) (Or.inl ⟨by rfl, ?_⟩) (by assumption) ?_
    rotate_left
    · intro wS hSw; (try dsimp only at hSw); go_simp; (try rw [if_neg (by omega)]); try with_reducible rfl
    try simp only [Act.put, List.setIfInBounds_toArray, List.set_cons_zero, List.set_cons_succ]
    refine takeD (i := 24) (oi := _) (v := ?_) (some 35) rfl rfl (by kernel_rfl) (by kernel_rfl) (by kernel_rfl) (fun _ _ _ h => h) (Or.inl ⟨by rfl, ?_⟩) (by assumption) ?_
    rotate_left
    · intro wS hSw; (try dsimp only at hSw); go_simp; (try rw [if_neg (by omega)]); try with_reducible rfl
    try simp only [Act.put, List.setIfInBounds_toArray, List.set_cons_zero, List.set_cons_succ]
    refine takeD (i := 25) (oi := _) (v := ?_) (some 36) rfl rfl (by kernel_rfl) (by kernel_rfl) (by kernel_rfl) (fun _ _ _ h => h) (Or.inl ⟨by rfl, ?_⟩) (by assumption) ?_
    rotate_left
    · intro wS hSw; (try dsimp only at hSw); go_simp; (try rw [if_neg (by omega)]); try with_reducible rfl
    try simp only [Act.put, List.setIfInBounds_toArray, List.set_cons_zero, List.set_cons_succ]
    refine wpAnyH_ready (rs := [22]) (by kernel_rfl) (by simp) ?_
    refine AllReadyH.cons (o := _) rfl (fun K hK => ?_) AllReadyH.nil
    go_simp
    refine (implFlag_any _ _).mono ?_
    rintro e w' ⟨rfl, rfl⟩
    go_wp2_with fail
    refine hK.out _ _ (hHeld) (fun hNext => ?_)
    clear hK K hHeld
    revert hNext
    intro hHeld
    try simp only [Act.put, List.setIfInBounds_toArray, List.set_cons_zero, List.set_cons_succ]
    refine wpAnyH_ready (rs := [26]) (by kernel_rfl) (by simp) ?_
    refine AllReadyH.cons (o := _) rfl (fun K hK => ?_) AllReadyH.nil
    go_simp
    refine hK.out _ _ (heldA11 hHeld (Nat.le_refl _) pz pz pz pz pz pz pz pz pz pz pz) (fun hNext => ?_)
    clear hK K hHeld
    revert hNext
    intro hHeld
    try simp only [Act.put, List.setIfInBounds_toArray, List.set_cons_zero, List.set_cons_succ]
    refine wpAnyH_ready (rs := [27]) (by kernel_rfl) (by simp) ?_
    refine AllReadyH.cons (o := _) rfl (fun K hK => ?_) AllReadyH.nil
    go_simp
    refine (vars_any _ _ _ (thingNums o) rfl (show 11 ≤ 1000000 by decide) _ (rd_litd (by rfl) (by simp))).mono ?_
    rintro e w2 ⟨rfl, hb2⟩
    go_wp2_with fail
    refine hK.out _ _ (heldC11 hHeld hb2 (Nat.le_refl _) pz pz pz pz pz pz pz pz pz pz pz) (fun hNext => ?_)
    clear hK K hHeld
    revert hNext
    intro hHeld
    try simp only [Act.put, List.setIfInBounds_toArray, List.set_cons_zero, List.set_cons_succ]
    refine takeD (i := 28) (oi := _) (v := ?_) (some 3) rfl rfl (by kernel_rfl) (by kernel_rfl) (by kernel_rfl) (fun _ _ _ h => h) (Or.inl ⟨by rfl, ?_⟩) (by assumption) ?_
    rotate_left
    · intro wS hSw; (try dsimp only at hSw); go_simp; (try rw [if_neg (by omega)]); try with_reducible rfl
    try simp only [Act.put, List.setIfInBounds_toArray, List.set_cons_zero, List.set_cons_succ]
    refine wpAnyH_done (by kernel_rfl) ?_ _
    have hS := heldL11 hHeld
    have HB2 := hideP (HBK.out.below hS)
    have hb02 := hbx.trans (hS.mono hbx.size)
    clear hHeld hS hb2 zw1 zw2 HBK hbx pz c0 c1 c2 c3 c4 c5 c6 c7 c8 c9 c10
    go_wp2
    go_meet
    exact ⟨rfl, HB2, hb02⟩
  case rest =>
  clear zw1 zw2 HBK hbx pz c0 c1 c2 c3 c4 c5 c6 c7 c8 c9 c10
  obtain ⟨rfl, HB2, hb02⟩ := hcut
  have c10 : World.cell? _ ⟨w.heap.size, 10, none⟩ = some (.slice al o.links.length cl) := (HB2.out.cell 10).trans rfl
  go_wp2
  clear c10
  have HLA : Hid ((varsL (thingNums o)).length ≤ 88) := hideP (varsL_len _)
  go_loopg [3, 42] (o.links.length + 1) (fun gk s i wr => ∃ (k : Nat) (acc : List UInt8), o.links.length < gk + k ∧ k ≤ o.links.length ∧ i = .int .i64 (k : Int) ∧ s = .string ⟨acc.toArray⟩ ∧ acc.length ≤ 200 ∧ Hid (varsL (thingNums o) ++ varsL ((linkNums o).take k) = acc) ∧ Hid (Blk wr w.heap.size 34 [.int .i64 o.gen, .int .i64 o.kind, .int .i64 o.box, .int .i64 o.res, .int .i64 o.til, .int .i64 o.pages, .int .i64 o.wait, .int .i64 o.got, .int .i64 o.ran, .bool o.mark, .slice al o.links.length cl, .slice ad o.data.length cd, .slice aq o.queue.length cq]) ∧ Below w.heap.size w wr)
  case atStart => exact ⟨0, varsL (thingNums o), by omega, by omega, rfl, rfl, by have := HLA.out; omega, hideP (by simp [varsL]), HB2, hb02⟩
  case round =>
    clear HB2 hb02
    obtain ⟨k, acc, hgk, hk, rfl, rfl, hal, hv, HB, hb⟩ := hrel
    by_cases hlt : k < o.links.length
    · obtain ⟨x, hx⟩ := some_at (l := o.links) (k := k) hlt
      obtain ⟨b, oo, rfl, hbw, g1⟩ := rdInt (hrl.below hb) hx
      obtain ⟨x0, x1⟩ := HG.out.link x (List.mem_of_getElem? hx)
      have HV := hideP (varsL_map_next (linkNums_at hx) _ _ hv.out)
      have HAL : Hid ((acc ++ varS (x + 1)).length ≤ 200) := hideP (by have h1 := len_take (n := 2) HV.out (by simp [linkNums]; omega); have := HLA.out; omega)
      have hvl := varS_len (x + 1)
      clear hx
      go_wp2_with fail
      refine (vars1_any _ _ (x + 1) _ ?_).mono ?_
      · simp
      rintro e w3 ⟨rfl, hb3⟩
      have hba := hb.alloc hb.size (.cells #[.int .i64 (x + 1)] 3)
      have HB3 := hideP ((HB.out.alloc (.cells #[.int .i64 (x + 1)] 3)).below hb3)
      have hb03 := hba.trans (hb3.mono hba.size)
      clear hba hb3
      go_wp2
      go_roundg (gk - 1)
      case measure => omega
      case rel => exact ⟨k + 1, acc ++ varS (x + 1), by omega, by omega, by go_num, by rw [ByteArray.mk_append_mk], HAL.out, HV, HB3, hb03⟩
    · have HV : Hid (varsL (thingNums o) ++ varsL (linkNums o) = acc) := hideP (by rw [← hv.out, List.take_of_length_le (by simp [linkNums]; omega)])
      clear hv
      have hdl := varsL_len o.data
      have hv1 := varS_len (o.data.length : Int)
      have hv2 := varS_len (o.queue.length : Int)
      have c11 : wr.cell? ⟨w.heap.size, 11, none⟩ = some (.slice ad o.data.length cd) := (HB.out.cell 11).trans rfl
      have c12 : wr.cell? ⟨w.heap.size, 12, none⟩ = some (.slice aq o.queue.length cq) := (HB.out.cell 12).trans rfl
      have pz : w.heap.size < wr.heap.size := HB.out.lt
      go_upto_region 9 with fail
      go_cut [3] (fun s wx => s = .string ⟨(acc ++ (varS (o.data.length : Int) ++ (varsL o.data ++ varS (o.queue.length : Int)))).toArray⟩ ∧ Hid (Blk wx w.heap.size 34 [.int .i64 o.gen, .int .i64 o.kind, .int .i64 o.box, .int .i64 o.res, .int .i64 o.til, .int .i64 o.pages, .int .i64 o.wait, .int .i64 o.got, .int .i64 o.ran, .bool o.mark, .slice al o.links.length cl, .slice ad o.data.length cd, .slice aq o.queue.length cq]) ∧ Below w.heap.size w wx)
      case first =>
        skip
        have HRD := hideP (hrd.below hb)
        refine wp_region_held_drew (S := fun w' => w'.cell? ⟨w.heap.size, 11, none⟩ = some (.slice ad o.data.length cd) ∧ w'.cell? ⟨w.heap.size, 12, none⟩ = some (.slice aq o.queue.length cq) ∧ Below wr.heap.size wr w') (by kernel_rfl) (held02 c11 c12) (fun hHeld => ?_)
        refine takeD (i := 0) (oi := _) (v := ?_) (some 53) rfl rfl (by kernel_rfl) (by kernel_rfl) (by kernel_rfl) (fun _ _ _ h => h) (Or.inl ⟨by rfl, ?_⟩) (by assumption) ?_
        rotate_left
        · intro wS hSw; (try dsimp only at hSw); go_simp; (try rw [if_neg (by omega)]); try with_reducible rfl
        try simp only [Act.put, List.setIfInBounds_toArray, List.set_cons_zero, List.set_cons_succ]
        refine takeD (i := 1) (oi := _) (v := ?_) (some 54) rfl rfl (by kernel_rfl) (by kernel_rfl) (by kernel_rfl) (fun _ _ _ h => h) (Or.inl ⟨by rfl, ?_⟩) (by assumption) ?_
        rotate_left
        · intro wS hSw; (try dsimp only at hSw); go_simp; (try rw [if_neg (by omega)]); try with_reducible rfl
        try simp only [Act.put, List.setIfInBounds_toArray, List.set_cons_zero, List.set_cons_succ]
        refine takeD (i := 6) (oi := _) (v := ?_) (some 59) rfl rfl (by kernel_rfl) (by kernel_rfl) (by kernel_rfl) (fun _ _ _ h => h) (Or.inl ⟨by rfl, ?_⟩) (by assumption) ?_
        rotate_left
        · intro wS hSw; (try dsimp only at hSw); go_simp; (try rw [if_neg (by omega)]); try with_reducible rfl
        try simp only [Act.put, List.setIfInBounds_toArray, List.set_cons_zero, List.set_cons_succ]
        refine takeD (i := 10) (oi := _) (v := ?_) (some 63) rfl rfl (by kernel_rfl) (by kernel_rfl) (by kernel_rfl) (fun _ _ _ h => h) (Or.inl ⟨by rfl, ?_⟩) (by assumption) ?_
        rotate_left
        · intro wS hSw; (try dsimp only at hSw); go_simp; (try rw [if_neg (by omega)]); try with_reducible rfl
        try simp only [Act.put, List.setIfInBounds_toArray, List.set_cons_zero, List.set_cons_succ]
        refine takeD (i := 2) (oi := _) (v := ?_) (some 55) rfl rfl (by kernel_rfl) (by kernel_rfl) (by kernel_rfl) (fun _ _ _ h => h) (Or.inl ⟨by rfl, ?_⟩) (by assumption) ?_
        rotate_left
        · intro wS hSw; (try dsimp only at hSw); go_simp; (try rw [if_neg (by omega)]); try with_reducible rfl
        try simp only [Act.put, List.setIfInBounds_toArray, List.set_cons_zero, List.set_cons_succ]
        refine takeD (i := 7) (oi := _) (v := ?_) (some 60) rfl rfl (by kernel_rfl) (by kernel_rfl) (by kernel_rfl) (fun _ _ _ h => h) (Or.inl ⟨by rfl, ?_⟩) (by assumption) ?_
        rotate_left
        · intro wS hSw; (try dsimp only at hSw); go_simp; (try rw [if_neg (by omega)]); try with_reducible rfl
        try simp only [Act.put, List.setIfInBounds_toArray, List.set_cons_zero, List.set_cons_succ]
        refine takeD (i := 11) (oi := _) (v := ?_) (some 64) rfl rfl (by kernel_rfl) (by kernel_rfl) (by kernel_rfl) (fun _ _ _ h => h) (Or.inl ⟨by rfl, ?_⟩) (by assumption) ?_
        rotate_left
        · intro wS hSw; (try dsimp only at hSw); go_simp; (try rw [if_neg (by omega)]); try with_reducible rfl
        try simp only [Act.put, List.setIfInBounds_toArray, List.set_cons_zero, List.set_cons_succ]
        refine takeD (i := 3) (oi := _) (v := ?_) (some 56) rfl rfl (by kernel_rfl) (by kernel_rfl) (by kernel_rfl) (fun _ _ _ h => h) (Or.inl ⟨by rfl, ?_⟩) (by assumption) ?_
        rotate_left
        · intro wS hSw; (try dsimp only at hSw); go_simp; (try rw [if_neg (by omega)]); try with_reducible rfl
        try simp only [Act.put, List.setIfInBounds_toArray, List.set_cons_zero, List.set_cons_succ]
        refine takeD (i := 12) (oi := _) (v := ?_) (some 65) rfl rfl (by kernel_rfl) (by kernel_rfl) (by kernel_rfl) (fun _ _ _ h => h) (Or.inl ⟨by rfl, ?_⟩) (by assumption) ?_
        rotate_left
        · intro wS hSw; (try dsimp only at hSw); go_simp; (try rw [if_neg (by omega)]); try with_reducible rfl
        try simp only [Act.put, List.setIfInBounds_toArray, List.set_cons_zero, List.set_cons_succ]
        refine wpAnyH_ready (rs := [4, 13]) (by kernel_rfl) (by simp) ?_
        refine AllReadyH.cons (o := _) rfl (fun K hK => ?_) (AllReadyH.cons (o := _) rfl (fun K hK => ?_) (AllReadyH.nil))
        · go_simp
          have hf4 := freshA2 hHeld 3 (.int .i64 (o.data.length : Int))
          try simp only [World.size_drew] at hf4
          try simp only [World.size_alloc] at hf4
          refine hK.out _ _ (heldA2 hHeld (Nat.le_refl _) pz pz) (fun hNext => ?_)
          clear hK K hHeld
          revert hNext
          intro hHeld
          try simp only [Act.put, List.setIfInBounds_toArray, List.set_cons_zero, List.set_cons_succ]
          refine wpAnyH_ready (rs := [5, 13]) (by kernel_rfl) (by simp) ?_
          refine AllReadyH.cons (o := _) rfl (fun K hK => ?_) (AllReadyH.cons (o := _) rfl (fun K hK => ?_) (AllReadyH.nil))
          · go_simp
            refine (vars1_any _ _ _ _ hf4).mono ?_
            rintro e wc2 ⟨rfl, hc2⟩
            go_wp2_with fail
            have hf4 := (hc2.cell (p := ⟨_, 0, none⟩) (World.block_lt_of_cell? _ _ hf4)).trans hf4
            refine hK.out _ _ (heldC2 hHeld hc2 (Nat.le_refl _) pz pz) (fun hNext => ?_)
            clear hK K hHeld
            revert hNext
            intro hHeld
            try simp only [Act.put, List.setIfInBounds_toArray, List.set_cons_zero, List.set_cons_succ]
            refine wpAnyH_ready (rs := [8, 13]) (by kernel_rfl) (by simp) ?_
            refine AllReadyH.cons (o := _) rfl (fun K hK => ?_) (AllReadyH.cons (o := _) rfl (fun K hK => ?_) (AllReadyH.nil))
            · go_simp
              refine (vars_any ad _ cd o.data rfl (by omega) _ (HRD.out.below (heldL2 hHeld))).mono ?_
              rintro e wc3 ⟨rfl, hc3⟩
              go_wp2_with fail
              have hf4 := (hc3.cell (p := ⟨_, 0, none⟩) (World.block_lt_of_cell? _ _ hf4)).trans hf4
              refine hK.out _ _ (heldC2 hHeld hc3 (Nat.le_refl _) pz pz) (fun hNext => ?_)
              clear hK K hHeld
              revert hNext
              intro hHeld
              try simp only [Act.put, List.setIfInBounds_toArray, List.set_cons_zero, List.set_cons_succ]
              refine takeD (i := 9) (oi := _) (v := ?_) (some 62) rfl rfl (by kernel_rfl) (by kernel_rfl) (by kernel_rfl) (fun _ _ _ h => h) (Or.inl ⟨by rfl, ?_⟩) (by assumption) ?_
              rotate_left
              · intro wS hSw; (try dsimp only at hSw); go_simp; (try rw [if_neg (by omega)]); try with_reducible rfl
              try simp only [Act.put, List.setIfInBounds_toArray, List.set_cons_zero, List.set_cons_succ]
              refine wpAnyH_ready (rs := [13]) (by kernel_rfl) (by simp) ?_
              refine AllReadyH.cons (o := _) rfl (fun K hK => ?_) (AllReadyH.nil)
              · go_simp
                have hf13 := freshA2 hHeld 3 (.int .i64 (o.queue.length : Int))
                try simp only [World.size_drew] at hf13
                try simp only [World.size_alloc] at hf13
                have hf4 := cell_alloc_keep hf4 (.cells #[.int .i64 (o.queue.length : Int)] 3)
                refine hK.out _ _ (heldA2 hHeld (Nat.le_refl _) pz pz) (fun hNext => ?_)
                clear hK K hHeld
                revert hNext
                intro hHeld
                try simp only [Act.put, List.setIfInBounds_toArray, List.set_cons_zero, List.set_cons_succ]
                refine wpAnyH_ready (rs := [14]) (by kernel_rfl) (by simp) ?_
                refine AllReadyH.cons (o := _) rfl (fun K hK => ?_) (AllReadyH.nil)
                · go_simp
                  refine (vars1_any _ _ _ _ hf13).mono ?_
                  rintro e wc5 ⟨rfl, hc5⟩
                  go_wp2_with fail
                  have hf4 := (hc5.cell (p := ⟨_, 0, none⟩) (World.block_lt_of_cell? _ _ hf4)).trans hf4
                  have hf13 := (hc5.cell (p := ⟨_, 0, none⟩) (World.block_lt_of_cell? _ _ hf13)).trans hf13
                  refine hK.out _ _ (heldC2 hHeld hc5 (Nat.le_refl _) pz pz) (fun hNext => ?_)
                  clear hK K hHeld
                  revert hNext
                  intro hHeld
                  try simp only [Act.put, List.setIfInBounds_toArray, List.set_cons_zero, List.set_cons_succ]
                  refine takeD (i := 15) (oi := _) (v := ?_) (some 68) rfl rfl (by kernel_rfl) (by kernel_rfl) (by kernel_rfl) (fun _ _ _ h => h) (Or.inl ⟨by rfl, ?_⟩) (by assumption) ?_
                  rotate_left
                  · intro wS hSw; (try dsimp only at hSw); go_simp; (try rw [if_neg (by omega)]); try with_reducible rfl
                  try simp only [Act.put, List.setIfInBounds_toArray, List.set_cons_zero, List.set_cons_succ]
                  refine takeD (i := 16) (oi := _) (v := ?_) (some 69) rfl rfl (by kernel_rfl) (by kernel_rfl) (by kernel_rfl) (fun _ _ _ h => h) (Or.inl ⟨by rfl, ?_⟩) (by assumption) ?_
                  rotate_left
                  · intro wS hSw; (try dsimp only at hSw); go_simp; (try rw [if_neg (by omega)]); try with_reducible rfl
                  try simp only [Act.put, List.setIfInBounds_toArray, List.set_cons_zero, List.set_cons_succ]
                  refine takeD (i := 17) (oi := _) (v := ?_) (some 3) rfl rfl (by kernel_rfl) (by kernel_rfl) (by kernel_rfl) (fun _ _ _ h => h) (Or.inl ⟨by rfl, ?_⟩) (by assumption) ?_
                  rotate_left
                  · intro wS hSw; (try dsimp only at hSw); go_simp; (try rw [if_neg (by omega)]); try with_reducible rfl
                  try simp only [Act.put, List.setIfInBounds_toArray, List.set_cons_zero, List.set_cons_succ]
                  refine wpAnyH_done (by kernel_rfl) ?_ _
                  have hS := heldL2 hHeld
                  have HBx := hideP (HB.out.below hS)
                  have hbx := hb.trans (hS.mono hb.size)
                  clear hHeld hS
                  go_wp2
                  go_meet
                  exact ⟨by simp only [ByteArray.mk_append_mk, List.append_assoc], HBx, hbx⟩
            · go_simp
              have hf13 := freshA2 hHeld 3 (.int .i64 (o.queue.length : Int))
              try simp only [World.size_drew] at hf13
              try simp only [World.size_alloc] at hf13
              have hf4 := cell_alloc_keep hf4 (.cells #[.int .i64 (o.queue.length : Int)] 3)
              refine hK.out _ _ (heldA2 hHeld (Nat.le_refl _) pz pz) (fun hNext => ?_)
              clear hK K hHeld
              revert hNext
              intro hHeld
              try simp only [Act.put, List.setIfInBounds_toArray, List.set_cons_zero, List.set_cons_succ]
              refine wpAnyH_ready (rs := [8]) (by kernel_rfl) (by simp) ?_
              refine AllReadyH.cons (o := _) rfl (fun K hK => ?_) (AllReadyH.nil)
              · go_simp
                refine (vars_any ad _ cd o.data rfl (by omega) _ (HRD.out.below (heldL2 hHeld))).mono ?_
                rintro e wc7 ⟨rfl, hc7⟩
                go_wp2_with fail
                have hf4 := (hc7.cell (p := ⟨_, 0, none⟩) (World.block_lt_of_cell? _ _ hf4)).trans hf4
                have hf13 := (hc7.cell (p := ⟨_, 0, none⟩) (World.block_lt_of_cell? _ _ hf13)).trans hf13
                refine hK.out _ _ (heldC2 hHeld hc7 (Nat.le_refl _) pz pz) (fun hNext => ?_)
                clear hK K hHeld
                revert hNext
                intro hHeld
                try simp only [Act.put, List.setIfInBounds_toArray, List.set_cons_zero, List.set_cons_succ]
                refine takeD (i := 9) (oi := _) (v := ?_) (some 62) rfl rfl (by kernel_rfl) (by kernel_rfl) (by kernel_rfl) (fun _ _ _ h => h) (Or.inl ⟨by rfl, ?_⟩) (by assumption) ?_
                rotate_left
                · intro wS hSw; (try dsimp only at hSw); go_simp; (try rw [if_neg (by omega)]); try with_reducible rfl
                try simp only [Act.put, List.setIfInBounds_toArray, List.set_cons_zero, List.set_cons_succ]
                refine wpAnyH_ready (rs := [14]) (by kernel_rfl) (by simp) ?_
                refine AllReadyH.cons (o := _) rfl (fun K hK => ?_) (AllReadyH.nil)
                · go_simp
                  refine (vars1_any _ _ _ _ hf13).mono ?_
                  rintro e wc8 ⟨rfl, hc8⟩
                  go_wp2_with fail
                  have hf4 := (hc8.cell (p := ⟨_, 0, none⟩) (World.block_lt_of_cell? _ _ hf4)).trans hf4
                  have hf13 := (hc8.cell (p := ⟨_, 0, none⟩) (World.block_lt_of_cell? _ _ hf13)).trans hf13
                  refine hK.out _ _ (heldC2 hHeld hc8 (Nat.le_refl _) pz pz) (fun hNext => ?_)
                  clear hK K hHeld
                  revert hNext
                  intro hHeld
                  try simp only [Act.put, List.setIfInBounds_toArray, List.set_cons_zero, List.set_cons_succ]
                  refine takeD (i := 15) (oi := _) (v := ?_) (some 68) rfl rfl (by kernel_rfl) (by kernel_rfl) (by kernel_rfl) (fun _ _ _ h => h) (Or.inl ⟨by rfl, ?_⟩) (by assumption) ?_
                  rotate_left
                  · intro wS hSw; (try dsimp only at hSw); go_simp; (try rw [if_neg (by omega)]); try with_reducible rfl
                  try simp only [Act.put, List.setIfInBounds_toArray, List.set_cons_zero, List.set_cons_succ]
                  refine takeD (i := 16) (oi := _) (v := ?_) (some 69) rfl rfl (by kernel_rfl) (by kernel_rfl) (by kernel_rfl) (fun _ _ _ h => h) (Or.inl ⟨by rfl, ?_⟩) (by assumption) ?_
                  rotate_left
                  · intro wS hSw; (try dsimp only at hSw); go_simp; (try rw [if_neg (by omega)]); try with_reducible rfl
                  try simp only [Act.put, List.setIfInBounds_toArray, List.set_cons_zero, List.set_cons_succ]
                  refine takeD (i := 17) (oi := _) (v := ?_) (some 3) rfl rfl (by kernel_rfl) (by kernel_rfl) (by kernel_rfl) (fun _ _ _ h => h) (Or.inl ⟨by rfl, ?_⟩) (by assumption) ?_
                  rotate_left
                  · intro wS hSw; (try dsimp only at hSw); go_simp; (try rw [if_neg (by omega)]); try with_reducible rfl
                  try simp only [Act.put, List.setIfInBounds_toArray, List.set_cons_zero, List.set_cons_succ]
                  refine wpAnyH_done (by kernel_rfl) ?_ _
                  have hS := heldL2 hHeld
                  have HBx := hideP (HB.out.below hS)
                  have hbx := hb.trans (hS.mono hb.size)
                  clear hHeld hS
                  go_wp2
                  go_meet
                  exact ⟨by simp only [ByteArray.mk_append_mk, List.append_assoc], HBx, hbx⟩
          · go_simp
            have hf13 := freshA2 hHeld 3 (.int .i64 (o.queue.length : Int))
            try simp only [World.size_drew] at hf13
            try simp only [World.size_alloc] at hf13
            have hf4 := cell_alloc_keep hf4 (.cells #[.int .i64 (o.queue.length : Int)] 3)
            refine hK.out _ _ (heldA2 hHeld (Nat.le_refl _) pz pz) (fun hNext => ?_)
            clear hK K hHeld
            revert hNext
            intro hHeld
            try simp only [Act.put, List.setIfInBounds_toArray, List.set_cons_zero, List.set_cons_succ]
            refine wpAnyH_ready (rs := [5]) (by kernel_rfl) (by simp) ?_
            refine AllReadyH.cons (o := _) rfl (fun K hK => ?_) (AllReadyH.nil)
            · go_simp
              refine (vars1_any _ _ _ _ hf4).mono ?_
              rintro e wc10 ⟨rfl, hc10⟩
              go_wp2_with fail
              have hf4 := (hc10.cell (p := ⟨_, 0, none⟩) (World.block_lt_of_cell? _ _ hf4)).trans hf4
              have hf13 := (hc10.cell (p := ⟨_, 0, none⟩) (World.block_lt_of_cell? _ _ hf13)).trans hf13
              refine hK.out _ _ (heldC2 hHeld hc10 (Nat.le_refl _) pz pz) (fun hNext => ?_)
              clear hK K hHeld
              revert hNext
              intro hHeld
              try simp only [Act.put, List.setIfInBounds_toArray, List.set_cons_zero, List.set_cons_succ]
              refine wpAnyH_ready (rs := [8]) (by kernel_rfl) (by simp) ?_
              refine AllReadyH.cons (o := _) rfl (fun K hK => ?_) (AllReadyH.nil)
              · go_simp
                refine (vars_any ad _ cd o.data rfl (by omega) _ (HRD.out.below (heldL2 hHeld))).mono ?_
                rintro e wc11 ⟨rfl, hc11⟩
                go_wp2_with fail
                have hf4 := (hc11.cell (p := ⟨_, 0, none⟩) (World.block_lt_of_cell? _ _ hf4)).trans hf4
                have hf13 := (hc11.cell (p := ⟨_, 0, none⟩) (World.block_lt_of_cell? _ _ hf13)).trans hf13
                refine hK.out _ _ (heldC2 hHeld hc11 (Nat.le_refl _) pz pz) (fun hNext => ?_)
                clear hK K hHeld
                revert hNext
                intro hHeld
                try simp only [Act.put, List.setIfInBounds_toArray, List.set_cons_zero, List.set_cons_succ]
                refine takeD (i := 9) (oi := _) (v := ?_) (some 62) rfl rfl (by kernel_rfl) (by kernel_rfl) (by kernel_rfl) (fun _ _ _ h => h) (Or.inl ⟨by rfl, ?_⟩) (by assumption) ?_
                rotate_left
                · intro wS hSw; (try dsimp only at hSw); go_simp; (try rw [if_neg (by omega)]); try with_reducible rfl
                try simp only [Act.put, List.setIfInBounds_toArray, List.set_cons_zero, List.set_cons_succ]
                refine wpAnyH_ready (rs := [14]) (by kernel_rfl) (by simp) ?_
                refine AllReadyH.cons (o := _) rfl (fun K hK => ?_) (AllReadyH.nil)
                · go_simp
                  refine (vars1_any _ _ _ _ hf13).mono ?_
                  rintro e wc12 ⟨rfl, hc12⟩
                  go_wp2_with fail
                  have hf4 := (hc12.cell (p := ⟨_, 0, none⟩) (World.block_lt_of_cell? _ _ hf4)).trans hf4
                  have hf13 := (hc12.cell (p := ⟨_, 0, none⟩) (World.block_lt_of_cell? _ _ hf13)).trans hf13
                  refine hK.out _ _ (heldC2 hHeld hc12 (Nat.le_refl _) pz pz) (fun hNext => ?_)
                  clear hK K hHeld
                  revert hNext
                  intro hHeld
                  try simp only [Act.put, List.setIfInBounds_toArray, List.set_cons_zero, List.set_cons_succ]
                  refine takeD (i := 15) (oi := _) (v := ?_) (some 68) rfl rfl (by kernel_rfl) (by kernel_rfl) (by kernel_rfl) (fun _ _ _ h => h) (Or.inl ⟨by rfl, ?_⟩) (by assumption) ?_
                  rotate_left
                  · intro wS hSw; (try dsimp only at hSw); go_simp; (try rw [if_neg (by omega)]); try with_reducible rfl
                  try simp only [Act.put, List.setIfInBounds_toArray, List.set_cons_zero, List.set_cons_succ]
                  refine takeD (i := 16) (oi := _) (v := ?_) (some 69) rfl rfl (by kernel_rfl) (by kernel_rfl) (by kernel_rfl) (fun _ _ _ h => h) (Or.inl ⟨by rfl, ?_⟩) (by assumption) ?_
                  rotate_left
                  · intro wS hSw; (try dsimp only at hSw); go_simp; (try rw [if_neg (by omega)]); try with_reducible rfl
                  try simp only [Act.put, List.setIfInBounds_toArray, List.set_cons_zero, List.set_cons_succ]
                  refine takeD (i := 17) (oi := _) (v := ?_) (some 3) rfl rfl (by kernel_rfl) (by kernel_rfl) (by kernel_rfl) (fun _ _ _ h => h) (Or.inl ⟨by rfl, ?_⟩) (by assumption) ?_
                  rotate_left
                  · intro wS hSw; (try dsimp only at hSw); go_simp; (try rw [if_neg (by omega)]); try with_reducible rfl
                  try simp only [Act.put, List.setIfInBounds_toArray, List.set_cons_zero, List.set_cons_succ]
                  refine wpAnyH_done (by kernel_rfl) ?_ _
                  have hS := heldL2 hHeld
                  have HBx := hideP (HB.out.below hS)
                  have hbx := hb.trans (hS.mono hb.size)
                  clear hHeld hS
                  go_wp2
                  go_meet
                  exact ⟨by simp only [ByteArray.mk_append_mk, List.append_assoc], HBx, hbx⟩
        · go_simp
          have hf13 := freshA2 hHeld 3 (.int .i64 (o.queue.length : Int))
          try simp only [World.size_drew] at hf13
          try simp only [World.size_alloc] at hf13
          refine hK.out _ _ (heldA2 hHeld (Nat.le_refl _) pz pz) (fun hNext => ?_)
          clear hK K hHeld
          revert hNext
          intro hHeld
          try simp only [Act.put, List.setIfInBounds_toArray, List.set_cons_zero, List.set_cons_succ]
          refine wpAnyH_ready (rs := [4]) (by kernel_rfl) (by simp) ?_
          refine AllReadyH.cons (o := _) rfl (fun K hK => ?_) (AllReadyH.nil)
          · go_simp
            have hf4 := freshA2 hHeld 3 (.int .i64 (o.data.length : Int))
            try simp only [World.size_drew] at hf4
            try simp only [World.size_alloc] at hf4
            have hf13 := cell_alloc_keep hf13 (.cells #[.int .i64 (o.data.length : Int)] 3)
            refine hK.out _ _ (heldA2 hHeld (Nat.le_refl _) pz pz) (fun hNext => ?_)
            clear hK K hHeld
            revert hNext
            intro hHeld
            try simp only [Act.put, List.setIfInBounds_toArray, List.set_cons_zero, List.set_cons_succ]
            refine wpAnyH_ready (rs := [5]) (by kernel_rfl) (by simp) ?_
            refine AllReadyH.cons (o := _) rfl (fun K hK => ?_) (AllReadyH.nil)
            · go_simp
              refine (vars1_any _ _ _ _ hf4).mono ?_
              rintro e wc15 ⟨rfl, hc15⟩
              go_wp2_with fail
              have hf4 := (hc15.cell (p := ⟨_, 0, none⟩) (World.block_lt_of_cell? _ _ hf4)).trans hf4
              have hf13 := (hc15.cell (p := ⟨_, 0, none⟩) (World.block_lt_of_cell? _ _ hf13)).trans hf13
              refine hK.out _ _ (heldC2 hHeld hc15 (Nat.le_refl _) pz pz) (fun hNext => ?_)
              clear hK K hHeld
              revert hNext
              intro hHeld
              try simp only [Act.put, List.setIfInBounds_toArray, List.set_cons_zero, List.set_cons_succ]
              refine wpAnyH_ready (rs := [8]) (by kernel_rfl) (by simp) ?_
              refine AllReadyH.cons (o := _) rfl (fun K hK => ?_) (AllReadyH.nil)
              · go_simp
                refine (vars_any ad _ cd o.data rfl (by omega) _ (HRD.out.below (heldL2 hHeld))).mono ?_
                rintro e wc16 ⟨rfl, hc16⟩
                go_wp2_with fail
                have hf4 := (hc16.cell (p := ⟨_, 0, none⟩) (World.block_lt_of_cell? _ _ hf4)).trans hf4
                have hf13 := (hc16.cell (p := ⟨_, 0, none⟩) (World.block_lt_of_cell? _ _ hf13)).trans hf13
                refine hK.out _ _ (heldC2 hHeld hc16 (Nat.le_refl _) pz pz) (fun hNext => ?_)
                clear hK K hHeld
                revert hNext
                intro hHeld
                try simp only [Act.put, List.setIfInBounds_toArray, List.set_cons_zero, List.set_cons_succ]
                refine takeD (i := 9) (oi := _) (v := ?_) (some 62) rfl rfl (by kernel_rfl) (by kernel_rfl) (by kernel_rfl) (fun _ _ _ h => h) (Or.inl ⟨by rfl, ?_⟩) (by assumption) ?_
                rotate_left
                · intro wS hSw; (try dsimp only at hSw); go_simp; (try rw [if_neg (by omega)]); try with_reducible rfl
                try simp only [Act.put, List.setIfInBounds_toArray, List.set_cons_zero, List.set_cons_succ]
                refine wpAnyH_ready (rs := [14]) (by kernel_rfl) (by simp) ?_
                refine AllReadyH.cons (o := _) rfl (fun K hK => ?_) (AllReadyH.nil)
                · go_simp
                  refine (vars1_any _ _ _ _ hf13).mono ?_
                  rintro e wc17 ⟨rfl, hc17⟩
                  go_wp2_with fail
                  have hf4 := (hc17.cell (p := ⟨_, 0, none⟩) (World.block_lt_of_cell? _ _ hf4)).trans hf4
                  have hf13 := (hc17.cell (p := ⟨_, 0, none⟩) (World.block_lt_of_cell? _ _ hf13)).trans hf13
                  refine hK.out _ _ (heldC2 hHeld hc17 (Nat.le_refl _) pz pz) (fun hNext => ?_)
                  clear hK K hHeld
                  revert hNext
                  intro hHeld
                  try simp only [Act.put, List.setIfInBounds_toArray, List.set_cons_zero, List.set_cons_succ]
                  refine takeD (i := 15) (oi := _) (v := ?_) (some 68) rfl rfl (by kernel_rfl) (by kernel_rfl) (by kernel_rfl) (fun _ _ _ h => h) (Or.inl ⟨by rfl, ?_⟩) (by assumption) ?_
                  rotate_left
                  · intro wS hSw; (try dsimp only at hSw); go_simp; (try rw [if_neg (by omega)]); try with_reducible rfl
                  try simp only [Act.put, List.setIfInBounds_toArray, List.set_cons_zero, List.set_cons_succ]
                  refine takeD (i := 16) (oi := _) (v := ?_) (some 69) rfl rfl (by kernel_rfl) (by kernel_rfl) (by kernel_rfl) (fun _ _ _ h => h) (Or.inl ⟨by rfl, ?_⟩) (by assumption) ?_
                  rotate_left
                  · intro wS hSw; (try dsimp only at hSw); go_simp; (try rw [if_neg (by omega)]); try with_reducible rfl
                  try simp only [Act.put, List.setIfInBounds_toArray, List.set_cons_zero, List.set_cons_succ]
                  refine takeD (i := 17) (oi := _) (v := ?_) (some 3) rfl rfl (by kernel_rfl) (by kernel_rfl) (by kernel_rfl) (fun _ _ _ h => h) (Or.inl ⟨by rfl, ?_⟩) (by assumption) ?_
                  rotate_left
                  · intro wS hSw; (try dsimp only at hSw); go_simp; (try rw [if_neg (by omega)]); try with_reducible rfl
                  try simp only [Act.put, List.setIfInBounds_toArray, List.set_cons_zero, List.set_cons_succ]
                  refine wpAnyH_done (by kernel_rfl) ?_ _
                  have hS := heldL2 hHeld
                  have HBx := hideP (HB.out.below hS)
                  have hbx := hb.trans (hS.mono hb.size)
                  clear hHeld hS
                  go_wp2
                  go_meet
                  exact ⟨by simp only [ByteArray.mk_append_mk, List.append_assoc], HBx, hbx⟩
      case rest =>
        clear HB hb pz c11 c12
        obtain ⟨rfl, HB, hb⟩ := hcut
        have HAC : Hid ((acc ++ (varS (o.data.length : Int) ++ (varsL o.data ++ varS (o.queue.length : Int)))).length ≤ 300) := hideP (by simp only [List.length_append]; omega)
        have HAQ : Hid (thingShow o = (acc ++ (varS (o.data.length : Int) ++ (varsL o.data ++ varS (o.queue.length : Int)))) ++ msgsShow o.queue) := hideP (by rw [thing_show_eq, HV.out])
        obtain ⟨A, hA⟩ : ∃ A, A = acc ++ (varS (o.data.length : Int) ++ (varsL o.data ++ varS (o.queue.length : Int))) := ⟨_, rfl⟩
        rw [← hA] at HAC HAQ ⊢
        clear hA HV hal hdl hv1 hv2

        have c12 := (HB.out.cell 12)
        simp only [List.getElem?_cons_succ, List.getElem?_cons_zero] at c12
        go_wp2
        clear c12
        go_loopg [3, 73] (o.queue.length + 1) (fun gk s i wr => ∃ (k : Nat) (acc : List UInt8), o.queue.length < gk + k ∧ k ≤ o.queue.length ∧ i = .int .i64 (k : Int) ∧ s = .string ⟨acc.toArray⟩ ∧ acc.length ≤ 400 ∧ Hid (A ++ msgsShow (o.queue.take k) = acc) ∧ Hid (Blk wr w.heap.size 34 [.int .i64 o.gen, .int .i64 o.kind, .int .i64 o.box, .int .i64 o.res, .int .i64 o.til, .int .i64 o.pages, .int .i64 o.wait, .int .i64 o.got, .int .i64 o.ran, .bool o.mark, .slice al o.links.length cl, .slice ad o.data.length cd, .slice aq o.queue.length cq]) ∧ Below w.heap.size w wr)
        case atStart => exact ⟨0, A, by omega, by omega, rfl, rfl, by have := HAC.out; omega, hideP (by simp [msgsShow, varsL]), HB, hb⟩
        case round =>
          clear HB hb
          obtain ⟨k, acc, hgk, hk, rfl, rfl, hal, hv, HB, hb⟩ := hrel
          by_cases hlt : k < o.queue.length
          · obtain ⟨x, hx⟩ := some_at (l := o.queue) (k := k) hlt
            obtain ⟨b, oo, rfl, hbw, g1, g2⟩ := (hrq.below hb).rowMsg hx
            obtain ⟨x0, x1, x2, x3⟩ := HG.out.msg x (List.mem_of_getElem? hx)
            have HV := hideP (msgsShow_next hx _ _ hv.out)
            obtain ⟨xf, xn⟩ := x
            dsimp only at g1 g2 x0 x1 x2 x3
            have HAL : Hid ((acc ++ varsL [xf + 1, xn]).length ≤ 400) := hideP (by have h1 : (acc ++ varsL [xf + 1, xn]).length ≤ _ := len_take2 (n := 2) HV.out n3; have := HAC.out; omega)
            have hvl : (varsL [xf + 1, xn]).length ≤ 16 := varsL_len [xf + 1, xn]
            clear hx
            go_wp2_with fail
            refine (vars_any _ _ _ [xf + 1, xn] rfl (show 2 ≤ 1000000 by decide) _ (rd_litg (by rfl) (by simp))).mono ?_
            rintro e w3 ⟨rfl, hb3⟩
            have hba := (hb.alloc hb.size (.cells #[.int .i64 xf, .int .i64 xn] 67)).alloc (Nat.le_trans hb.size (by simp)) (.cells #[.int .i64 (xf + 1), .int .i64 xn] 3)
            have HB3 := hideP (((HB.out.alloc (.cells #[.int .i64 xf, .int .i64 xn] 67)).alloc (.cells #[.int .i64 (xf + 1), .int .i64 xn] 3)).below hb3)
            have hb03 := hba.trans (hb3.mono hba.size)
            clear hba hb3
            go_wp2
            go_roundg (gk - 1)
            case measure => omega
            case rel => exact ⟨k + 1, acc ++ varsL [xf + 1, xn], by omega, by omega, by go_num, by rw [ByteArray.mk_append_mk], HAL.out, HV, HB3, hb03⟩
          · have HV : Hid (thingShow o = acc) := hideP (by rw [HAQ.out, ← hv.out, List.take_of_length_le (by omega)])
            go_wp2
            go_ret
            exact ⟨by rw [HS.out, HV.out]; rfl, hb⟩

end Go.Proofs.Ytabbncoihmhocaa

namespace Go.Proofs.Ytabbncoihmhocaa
open Go.RowKit

set_option maxRecDepth 100000 in
set_option maxHeartbeats 8000000 in
theorem implArenaOk_any (l : List Thing) (p : Option Addr) (c : Nat) (hl : l.length ≤ 1048576) (hs : Short 1048576 l) (w : World) (h : ThingsRd w p l) :
    Calls Try.prog 37 #[.slice p l.length c] w fun e w' => e = .returned (.bool (arenaOk l)) ∧ Below w.heap.size w w' := by
  have HR := hideP h
  have HS := hideP hs
  clear h hs
  by_cases h10 : l.length = 10
  rotate_left
  · have HN : Hid (arenaOk l = false) := hideP (arena_len h10)
    have d1 : ((l.length : Int) != 10) = true := by simp; omega
    clear h10
    go_enter Try.func37, Try.ntmps37
    go_wp2
    go_ret
    exact ⟨ret_bool HN.out.symm, Below.refl _ _⟩
  have d1 : ((l.length : Int) != 10) = false := by simp [h10]
  have HLN := hideP h10
  have hl10 : l.length ≤ 10 := by omega
  have hl11 : 10 ≤ l.length := by omega
  have hl12 : 0 < l.length := by omega
  obtain ⟨x0, hx0⟩ := some_at (l := l) (k := 0) hl12
  obtain ⟨b, o, v0, v1, v2, rfl, hbw, _, hz0⟩ := HR.out 0 x0 hx0
  have HX0 := hideP hx0
  have g1 : w.cell? ⟨b, o + 1, none⟩ = some (.int .i64 x0.kind) := by have := hz0 1 _ rfl; simpa using this
  have g2 : w.cell? ⟨b, o + 2, none⟩ = some (.int .i64 x0.box) := by have := hz0 2 _ rfl; simpa using this
  have g4 : w.cell? ⟨b, o + 4, none⟩ = some (.int .i64 x0.til) := by have := hz0 4 _ rfl; simpa using this
  clear hz0 hx0 h10
  by_cases h2 : x0.kind = 1
  rotate_left
  · have HN : Hid (arenaOk l = false) := hideP (arena_head HX0.out (.inl h2))
    have d2 : (x0.kind != 1) = true := by simpa using h2
    clear h2
    go_enter Try.func37, Try.ntmps37
    go_wp2
    go_ret
    exact ⟨ret_bool HN.out.symm, Below.refl _ _⟩
  have d2 : (x0.kind != 1) = false := by simp [h2]
  by_cases h3 : x0.box = -1
  rotate_left
  · have HN : Hid (arenaOk l = false) := hideP (arena_head HX0.out (.inr (.inl h3)))
    have d3 : (x0.box != -1) = true := by simpa using h3
    clear h2 h3
    go_enter Try.func37, Try.ntmps37
    go_wp2
    go_ret
    exact ⟨ret_bool HN.out.symm, Below.refl _ _⟩
  have d3 : (x0.box != -1) = false := by simp [h3]
  by_cases h4 : x0.til = 1000000
  rotate_left
  · have HN : Hid (arenaOk l = false) := hideP (arena_head HX0.out (.inr (.inr h4)))
    have d4 : (x0.til != 1000000) = true := by simpa using h4
    clear h2 h3 h4
    go_enter Try.func37, Try.ntmps37
    go_wp2
    go_ret
    exact ⟨ret_bool HN.out.symm, Below.refl _ _⟩
  have d4 : (x0.til != 1000000) = false := by simp [h4]
  have HG : Hid (∀ k, AllTo (slotOk l) l k → l.length ≤ k → arenaOk l = true) := hideP (fun k ha hk => arena_good HLN.out HX0.out h2 h3 h4 ha hk)
  clear h2 h3 h4
  go_enter Try.func37, Try.ntmps37
  go_wp2
  clear d1 d2 d3 d4 g1 g2 g4
  go_loopg [33] (l.length + 1) (fun gk i wr => ∃ (k : Nat), l.length < gk + k ∧ k ≤ l.length ∧ i = .int .i64 (k : Int) ∧ Hid (AllTo (slotOk l) l k) ∧ Hid (Below w.heap.size w wr))
  case atStart => exact ⟨0, by omega, by omega, rfl, hideP (AllTo.zero _ _), hideP (Below.refl _ _)⟩
  case round =>
    obtain ⟨k, hgk, hk, rfl, hat, HB⟩ := hrel
    obtain ⟨gko, rfl⟩ : ∃ g, g = gk := ⟨_, rfl⟩
    by_cases hlt : k < l.length
    · obtain ⟨x, hx⟩ := some_at (l := l) (k := k) hlt
      obtain ⟨b', o', vl, vd, vq, e', hbr, hth, hz9⟩ := HR.out.below HB.out k x hx
      cases e'
      obtain ⟨⟨s1, s2, s3⟩, hw⟩ := HS.out x (List.mem_of_getElem? hx)
      have g0 : World.cell? _ ⟨b, o + k * 13, none⟩ = some (.int .i64 x.gen) := hz9 0 _ rfl
      have g1 : World.cell? _ ⟨b, o + k * 13 + 1, none⟩ = some (.int .i64 x.kind) := hz9 1 _ rfl
      have g2 : World.cell? _ ⟨b, o + k * 13 + 2, none⟩ = some (.int .i64 x.box) := hz9 2 _ rfl
      have g3 : World.cell? _ ⟨b, o + k * 13 + 3, none⟩ = some (.int .i64 x.res) := hz9 3 _ rfl
      have g4 : World.cell? _ ⟨b, o + k * 13 + 4, none⟩ = some (.int .i64 x.til) := hz9 4 _ rfl
      have g5 : World.cell? _ ⟨b, o + k * 13 + 5, none⟩ = some (.int .i64 x.pages) := hz9 5 _ rfl
      have g6 : World.cell? _ ⟨b, o + k * 13 + 6, none⟩ = some (.int .i64 x.wait) := hz9 6 _ rfl
      have g7 : World.cell? _ ⟨b, o + k * 13 + 7, none⟩ = some (.int .i64 x.got) := hz9 7 _ rfl
      have g8 : World.cell? _ ⟨b, o + k * 13 + 8, none⟩ = some (.int .i64 x.ran) := hz9 8 _ rfl
      have g9 : World.cell? _ ⟨b, o + k * 13 + 9, none⟩ = some (.bool x.mark) := hz9 9 _ rfl
      have g10 : World.cell? _ ⟨b, o + k * 13 + 10, none⟩ = some (vl) := hz9 10 _ rfl
      have g11 : World.cell? _ ⟨b, o + k * 13 + 11, none⟩ = some (vd) := hz9 11 _ rfl
      have g12 : World.cell? _ ⟨b, o + k * 13 + 12, none⟩ = some (vq) := hz9 12 _ rfl
      have k0 : (0 : Int) ≤ (k : Int) := by omega
      have k1 : (k : Int) < (l.length : Int) := by omega
      have HX := hideP hx
      have HT := hideP hth
      clear hx hz9 hth
      obtain ⟨al, cl, rfl⟩ := HT.out.l.shape
      obtain ⟨ad, cd, rfl⟩ := HT.out.d.shape
      obtain ⟨aq, cq, rfl⟩ := HT.out.q.shape
      go_upto_region 6 with fail
      have hb9 := below_a1 wr (.cells #[.int .i64 x.gen, .int .i64 x.kind, .int .i64 x.box, .int .i64 x.res, .int .i64 x.til, .int .i64 x.pages, .int .i64 x.wait, .int .i64 x.got, .int .i64 x.ran, .bool x.mark, .slice al x.links.length cl, .slice ad x.data.length cd, .slice aq x.queue.length cq] 34)
      have X0 := hideP (Blk.new wr #[.int .i64 x.gen, .int .i64 x.kind, .int .i64 x.box, .int .i64 x.res, .int .i64 x.til, .int .i64 x.pages, .int .i64 x.wait, .int .i64 x.got, .int .i64 x.ran, .bool x.mark, .slice al x.links.length cl, .slice ad x.data.length cd, .slice aq x.queue.length cq] 34)
      have HB := hideP (HB.out.trans (hb9.mono HB.out.size))
      have HT := hideP (HT.out.below hb9)
      obtain ⟨W, hW⟩ : ∃ W, W = wr.alloc (.cells #[.int .i64 x.gen, .int .i64 x.kind, .int .i64 x.box, .int .i64 x.res, .int .i64 x.til, .int .i64 x.pages, .int .i64 x.wait, .int .i64 x.got, .int .i64 x.ran, .bool x.mark, .slice al x.links.length cl, .slice ad x.data.length cd, .slice aq x.queue.length cq] 34) := ⟨_, rfl⟩
      rw [← hW] at X0 HB HT ⊢
      clear hW hb9 hbr g0 g1 g2 g3 g4 g5 g6 g7 g8 g9 g10 g11 g12
      obtain ⟨XB, hXB⟩ : ∃ XB, XB = wr.heap.size := ⟨_, rfl⟩
      rw [← hXB] at X0 ⊢
      clear hXB
      have X0 : Hid (Blk W XB 34 [.int .i64 x.gen, .int .i64 x.kind, .int .i64 x.box, .int .i64 x.res, .int .i64 x.til, .int .i64 x.pages, .int .i64 x.wait, .int .i64 x.got, .int .i64 x.ran, .bool x.mark, .slice al x.links.length cl, .slice ad x.data.length cd, .slice aq x.queue.length cq]) := X0
      have c0 : W.cell? ⟨XB, 0, none⟩ = some (.int .i64 x.gen) := (X0.out.cell 0).trans rfl
      have c1 : W.cell? ⟨XB, 1, none⟩ = some (.int .i64 x.kind) := (X0.out.cell 1).trans rfl
      have c2 : W.cell? ⟨XB, 2, none⟩ = some (.int .i64 x.box) := (X0.out.cell 2).trans rfl
      have c3 : W.cell? ⟨XB, 3, none⟩ = some (.int .i64 x.res) := (X0.out.cell 3).trans rfl
      have c4 : W.cell? ⟨XB, 4, none⟩ = some (.int .i64 x.til) := (X0.out.cell 4).trans rfl
      have c5 : W.cell? ⟨XB, 5, none⟩ = some (.int .i64 x.pages) := (X0.out.cell 5).trans rfl
      have c6 : W.cell? ⟨XB, 6, none⟩ = some (.int .i64 x.wait) := (X0.out.cell 6).trans rfl
      have c7 : W.cell? ⟨XB, 7, none⟩ = some (.int .i64 x.got) := (X0.out.cell 7).trans rfl
      have c8 : W.cell? ⟨XB, 8, none⟩ = some (.int .i64 x.ran) := (X0.out.cell 8).trans rfl
      have c9 : W.cell? ⟨XB, 9, none⟩ = some (.bool x.mark) := (X0.out.cell 9).trans rfl
      have c10 : W.cell? ⟨XB, 10, none⟩ = some (.slice al x.links.length cl) := (X0.out.cell 10).trans rfl
      have c11 : W.cell? ⟨XB, 11, none⟩ = some (.slice ad x.data.length cd) := (X0.out.cell 11).trans rfl
      have c12 : W.cell? ⟨XB, 12, none⟩ = some (.slice aq x.queue.length cq) := (X0.out.cell 12).trans rfl
      go_wp2_with fail
      refine (implThingOk_any x _ _ _ s1 s2 s3 hw _ HT.out).mono ?_
      rintro e w1 ⟨rfl, hb1⟩
      have HB := hideP (HB.out.trans (hb1.mono HB.out.size))
      have X0 := hideP (X0.out.below hb1)
      have HRL := hideP ((HT.out.below hb1).l.rd)
      clear hb1 HT c0 c1 c2 c3 c4 c5 c6 c7 c8 c9 c10 c11 c12
      have c1 : w1.cell? ⟨XB, 1, none⟩ = some (.int .i64 x.kind) := (X0.out.cell 1).trans rfl
      have c2 : w1.cell? ⟨XB, 2, none⟩ = some (.int .i64 x.box) := (X0.out.cell 2).trans rfl
      have c10 : w1.cell? ⟨XB, 10, none⟩ = some (.slice al x.links.length cl) := (X0.out.cell 10).trans rfl
      cases tg : thingOk x
      · have HN : Hid (arenaOk l = false) := hideP (arena_bad HX.out (slot_bad1 tg))
        clear tg
        go_wp2
        go_ret
        exact ⟨ret_bool HN.out.symm, HB.out⟩
      have HTG := hideP tg
      clear tg
      by_cases hkd : x.kind = 0
      · have HBB := hideP (boxBad_no (l := l) (k := k) (x := x) (.inr (.inl hkd)))
        have dk : (x.kind != 0) = false := by simp [hkd]
        clear hkd
        rcases Nat.eq_zero_or_pos k with hkp | hkp
        · have dp : decide (0 < k) = false := by simp [hkp]
          have dp1 : ¬ (0 < k) := by omega
          have dp2 : ¬ ((0 : Int) < (k : Int)) := by omega
          clear hkp
          have hb1z := HB.out
          clear hb1z
          go_wp2
          go_loopg [67] (x.links.length + 1) (fun gk1 i wr2 => ∃ (j : Nat), x.links.length < gk1 + j ∧ j ≤ x.links.length ∧ i = .int .i64 (j : Int) ∧ Hid (x.links.all (linkB l) = (x.links.drop j).all (linkB l)) ∧ Hid (Below w.heap.size w wr2) ∧ Hid (Rd wr2 al (icell x.links)))
          case atStart => exact ⟨0, by omega, by omega, rfl, hideP rfl, HB, HRL⟩
          case round =>
            clear HB HRL
            obtain ⟨j, hgj, hj, rfl, hall, HB, HRL⟩ := hrel
            by_cases hlj : j < x.links.length
            · obtain ⟨y, hy⟩ := some_at (l := x.links) (k := j) hlj
              obtain ⟨yb, yo, rfl, hyb, gy⟩ := rdInt HRL.out hy
              obtain ⟨y0, y9⟩ := thing_link HTG.out hy
              have HY := hideP hy
              clear hy
              have j0 : (0 : Int) ≤ (j : Int) := by omega
              have j1 : (j : Int) < (x.links.length : Int) := by omega
              by_cases hy0 : 0 ≤ y
              · obtain ⟨m, rfl⟩ := Int.eq_ofNat_of_zero_le hy0
                obtain ⟨Z, hZ⟩ := some_at (l := l) (k := m) (by omega)
                have gz := (HR.out.below HB.out).kind hZ
                have m1 : (m : Int) < (l.length : Int) := by omega
                have HZ := hideP hZ
                clear hZ
                by_cases hz : Z.kind = 0
                · have HN : Hid (arenaOk l = false) := hideP (arena_bad HX.out (slot_bad3 (all_bad hall.out HY.out (linkB_no HZ.out hz))))
                  have dz : (Z.kind == 0) = true := by simp [hz]
                  clear hz hall
                  go_wp2
                  go_ret
                  exact ⟨ret_bool HN.out.symm, HB.out⟩
                · have HA : Hid (x.links.all (linkB l) = (x.links.drop (j + 1)).all (linkB l)) := hideP (all_good hall.out HY.out (linkB_yes HZ.out hz))
                  have dz : (Z.kind == 0) = false := by simp [hz]
                  clear hz hall
                  go_wp2
                  go_roundg (gk - 1)
                  case measure => omega
                  case rel => exact ⟨j + 1, by omega, by omega, by go_num, HA, HB, HRL⟩
              · have HA : Hid (x.links.all (linkB l) = (x.links.drop (j + 1)).all (linkB l)) := hideP (all_good hall.out HY.out (linkB_neg l hy0))
                clear hall
                go_wp2
                go_roundg (gk - 1)
                case measure => omega
                case rel => exact ⟨j + 1, by omega, by omega, by go_num, HA, HB, HRL⟩
            · have HA : Hid (AllTo (slotOk l) l (k + 1)) := hideP (hat.out.next HX.out (slot_good HTG.out HBB.out (all_end hall.out (by omega))))
              have d1 : ¬ ((j : Int) < (x.links.length : Int)) := by omega
              clear hall
              go_wp2
              go_roundg (gko - 1)
              case measure => omega
              case rel => exact ⟨k + 1, by omega, by omega, by go_num, HA, HB⟩
        · have dp : decide (0 < k) = true := by simpa using hkp
          have dp2 : (0 : Int) < (k : Int) := by omega
          have hb1z := HB.out
          clear hb1z
          go_wp2
          go_loopg [67] (x.links.length + 1) (fun gk1 i wr2 => ∃ (j : Nat), x.links.length < gk1 + j ∧ j ≤ x.links.length ∧ i = .int .i64 (j : Int) ∧ Hid (x.links.all (linkB l) = (x.links.drop j).all (linkB l)) ∧ Hid (Below w.heap.size w wr2) ∧ Hid (Rd wr2 al (icell x.links)))
          case atStart => exact ⟨0, by omega, by omega, rfl, hideP rfl, HB, HRL⟩
          case round =>
            clear HB HRL
            obtain ⟨j, hgj, hj, rfl, hall, HB, HRL⟩ := hrel
            by_cases hlj : j < x.links.length
            · obtain ⟨y, hy⟩ := some_at (l := x.links) (k := j) hlj
              obtain ⟨yb, yo, rfl, hyb, gy⟩ := rdInt HRL.out hy
              obtain ⟨y0, y9⟩ := thing_link HTG.out hy
              have HY := hideP hy
              clear hy
              have j0 : (0 : Int) ≤ (j : Int) := by omega
              have j1 : (j : Int) < (x.links.length : Int) := by omega
              by_cases hy0 : 0 ≤ y
              · obtain ⟨m, rfl⟩ := Int.eq_ofNat_of_zero_le hy0
                obtain ⟨Z, hZ⟩ := some_at (l := l) (k := m) (by omega)
                have gz := (HR.out.below HB.out).kind hZ
                have m1 : (m : Int) < (l.length : Int) := by omega
                have HZ := hideP hZ
                clear hZ
                by_cases hz : Z.kind = 0
                · have HN : Hid (arenaOk l = false) := hideP (arena_bad HX.out (slot_bad3 (all_bad hall.out HY.out (linkB_no HZ.out hz))))
                  have dz : (Z.kind == 0) = true := by simp [hz]
                  clear hz hall
                  go_wp2
                  go_ret
                  exact ⟨ret_bool HN.out.symm, HB.out⟩
                · have HA : Hid (x.links.all (linkB l) = (x.links.drop (j + 1)).all (linkB l)) := hideP (all_good hall.out HY.out (linkB_yes HZ.out hz))
                  have dz : (Z.kind == 0) = false := by simp [hz]
                  clear hz hall
                  go_wp2
                  go_roundg (gk - 1)
                  case measure => omega
                  case rel => exact ⟨j + 1, by omega, by omega, by go_num, HA, HB, HRL⟩
              · have HA : Hid (x.links.all (linkB l) = (x.links.drop (j + 1)).all (linkB l)) := hideP (all_good hall.out HY.out (linkB_neg l hy0))
                clear hall
                go_wp2
                go_roundg (gk - 1)
                case measure => omega
                case rel => exact ⟨j + 1, by omega, by omega, by go_num, HA, HB, HRL⟩
            · have HA : Hid (AllTo (slotOk l) l (k + 1)) := hideP (hat.out.next HX.out (slot_good HTG.out HBB.out (all_end hall.out (by omega))))
              have d1 : ¬ ((j : Int) < (x.links.length : Int)) := by omega
              clear hall
              go_wp2
              go_roundg (gko - 1)
              case measure => omega
              case rel => exact ⟨k + 1, by omega, by omega, by go_num, HA, HB⟩
      have dk : (x.kind != 0) = true := by simpa using hkd
      obtain ⟨bx0, bx9⟩ := thing_box HTG.out hkd
      rcases Nat.eq_zero_or_pos k with hkp | hkp
      · have HBB := hideP (boxBad_no (l := l) (k := k) (x := x) (.inl hkp))
        clear hkd
        have dp : decide (0 < k) = false := by simp [hkp]
        have dp1 : ¬ (0 < k) := by omega
        have dp2 : ¬ ((0 : Int) < (k : Int)) := by omega
        clear hkp
        have hb1z := HB.out
        clear hb1z
        go_wp2
        go_loopg [67] (x.links.length + 1) (fun gk1 i wr2 => ∃ (j : Nat), x.links.length < gk1 + j ∧ j ≤ x.links.length ∧ i = .int .i64 (j : Int) ∧ Hid (x.links.all (linkB l) = (x.links.drop j).all (linkB l)) ∧ Hid (Below w.heap.size w wr2) ∧ Hid (Rd wr2 al (icell x.links)))
        case atStart => exact ⟨0, by omega, by omega, rfl, hideP rfl, HB, HRL⟩
        case round =>
          clear HB HRL
          obtain ⟨j, hgj, hj, rfl, hall, HB, HRL⟩ := hrel
          by_cases hlj : j < x.links.length
          · obtain ⟨y, hy⟩ := some_at (l := x.links) (k := j) hlj
            obtain ⟨yb, yo, rfl, hyb, gy⟩ := rdInt HRL.out hy
            obtain ⟨y0, y9⟩ := thing_link HTG.out hy
            have HY := hideP hy
            clear hy
            have j0 : (0 : Int) ≤ (j : Int) := by omega
            have j1 : (j : Int) < (x.links.length : Int) := by omega
            by_cases hy0 : 0 ≤ y
            · obtain ⟨m, rfl⟩ := Int.eq_ofNat_of_zero_le hy0
              obtain ⟨Z, hZ⟩ := some_at (l := l) (k := m) (by omega)
              have gz := (HR.out.below HB.out).kind hZ
              have m1 : (m : Int) < (l.length : Int) := by omega
              have HZ := hideP hZ
              clear hZ
              by_cases hz : Z.kind = 0
              · have HN : Hid (arenaOk l = false) := hideP (arena_bad HX.out (slot_bad3 (all_bad hall.out HY.out (linkB_no HZ.out hz))))
                have dz : (Z.kind == 0) = true := by simp [hz]
                clear hz hall
                go_wp2
                go_ret
                exact ⟨ret_bool HN.out.symm, HB.out⟩
              · have HA : Hid (x.links.all (linkB l) = (x.links.drop (j + 1)).all (linkB l)) := hideP (all_good hall.out HY.out (linkB_yes HZ.out hz))
                have dz : (Z.kind == 0) = false := by simp [hz]
                clear hz hall
                go_wp2
                go_roundg (gk - 1)
                case measure => omega
                case rel => exact ⟨j + 1, by omega, by omega, by go_num, HA, HB, HRL⟩
            · have HA : Hid (x.links.all (linkB l) = (x.links.drop (j + 1)).all (linkB l)) := hideP (all_good hall.out HY.out (linkB_neg l hy0))
              clear hall
              go_wp2
              go_roundg (gk - 1)
              case measure => omega
              case rel => exact ⟨j + 1, by omega, by omega, by go_num, HA, HB, HRL⟩
          · have HA : Hid (AllTo (slotOk l) l (k + 1)) := hideP (hat.out.next HX.out (slot_good HTG.out HBB.out (all_end hall.out (by omega))))
            have d1 : ¬ ((j : Int) < (x.links.length : Int)) := by omega
            clear hall
            go_wp2
            go_roundg (gko - 1)
            case measure => omega
            case rel => exact ⟨k + 1, by omega, by omega, by go_num, HA, HB⟩
      have dp : decide (0 < k) = true := by simpa using hkp
      have dp2 : (0 : Int) < (k : Int) := by omega
      by_cases hbx : 0 ≤ x.box
      rotate_left
      · have HBB := hideP (boxBad_no (l := l) (k := k) (x := x) (.inr (.inr (.inl (by omega)))))
        clear hkd
        have hb1z := HB.out
        clear hb1z
        go_wp2
        go_loopg [67] (x.links.length + 1) (fun gk1 i wr2 => ∃ (j : Nat), x.links.length < gk1 + j ∧ j ≤ x.links.length ∧ i = .int .i64 (j : Int) ∧ Hid (x.links.all (linkB l) = (x.links.drop j).all (linkB l)) ∧ Hid (Below w.heap.size w wr2) ∧ Hid (Rd wr2 al (icell x.links)))
        case atStart => exact ⟨0, by omega, by omega, rfl, hideP rfl, HB, HRL⟩
        case round =>
          clear HB HRL
          obtain ⟨j, hgj, hj, rfl, hall, HB, HRL⟩ := hrel
          by_cases hlj : j < x.links.length
          · obtain ⟨y, hy⟩ := some_at (l := x.links) (k := j) hlj
            obtain ⟨yb, yo, rfl, hyb, gy⟩ := rdInt HRL.out hy
            obtain ⟨y0, y9⟩ := thing_link HTG.out hy
            have HY := hideP hy
            clear hy
            have j0 : (0 : Int) ≤ (j : Int) := by omega
            have j1 : (j : Int) < (x.links.length : Int) := by omega
            by_cases hy0 : 0 ≤ y
            · obtain ⟨m, rfl⟩ := Int.eq_ofNat_of_zero_le hy0
              obtain ⟨Z, hZ⟩ := some_at (l := l) (k := m) (by omega)
              have gz := (HR.out.below HB.out).kind hZ
              have m1 : (m : Int) < (l.length : Int) := by omega
              have HZ := hideP hZ
              clear hZ
              by_cases hz : Z.kind = 0
              · have HN : Hid (arenaOk l = false) := hideP (arena_bad HX.out (slot_bad3 (all_bad hall.out HY.out (linkB_no HZ.out hz))))
                have dz : (Z.kind == 0) = true := by simp [hz]
                clear hz hall
                go_wp2
                go_ret
                exact ⟨ret_bool HN.out.symm, HB.out⟩
              · have HA : Hid (x.links.all (linkB l) = (x.links.drop (j + 1)).all (linkB l)) := hideP (all_good hall.out HY.out (linkB_yes HZ.out hz))
                have dz : (Z.kind == 0) = false := by simp [hz]
                clear hz hall
                go_wp2
                go_roundg (gk - 1)
                case measure => omega
                case rel => exact ⟨j + 1, by omega, by omega, by go_num, HA, HB, HRL⟩
            · have HA : Hid (x.links.all (linkB l) = (x.links.drop (j + 1)).all (linkB l)) := hideP (all_good hall.out HY.out (linkB_neg l hy0))
              clear hall
              go_wp2
              go_roundg (gk - 1)
              case measure => omega
              case rel => exact ⟨j + 1, by omega, by omega, by go_num, HA, HB, HRL⟩
          · have HA : Hid (AllTo (slotOk l) l (k + 1)) := hideP (hat.out.next HX.out (slot_good HTG.out HBB.out (all_end hall.out (by omega))))
            have d1 : ¬ ((j : Int) < (x.links.length : Int)) := by omega
            clear hall
            go_wp2
            go_roundg (gko - 1)
            case measure => omega
            case rel => exact ⟨k + 1, by omega, by omega, by go_num, HA, HB⟩
      obtain ⟨m, hm⟩ := Int.eq_ofNat_of_zero_le hbx
      obtain ⟨Y, hY⟩ := some_at (l := l) (k := m) (by omega)
      have gy := (HR.out.below HB.out).kind hY
      have m1 : (m : Int) < (l.length : Int) := by omega
      by_cases hYk : Y.kind = 0
      · have HN : Hid (arenaOk l = false) := hideP (arena_bad HX.out (slot_bad2 (boxBad_yes hkp hkd hm hY hYk)))
        have dy : (Y.kind == 0) = true := by simp [hYk]
        rw [hm] at c2
        clear hkd hm hY hYk hbx bx0 bx9
        go_wp2
        go_ret
        exact ⟨ret_bool HN.out.symm, HB.out⟩
      · have HBB := hideP (boxBad_no (l := l) (k := k) (x := x) (.inr (.inr (.inr ⟨m, Y, hm, hY, hYk⟩))))
        have dy : (Y.kind == 0) = false := by simp [hYk]
        rw [hm] at c2
        clear hkd hm hY hYk hbx bx0 bx9
        have hb1z := HB.out
        clear hb1z
        go_wp2
        go_loopg [67] (x.links.length + 1) (fun gk1 i wr2 => ∃ (j : Nat), x.links.length < gk1 + j ∧ j ≤ x.links.length ∧ i = .int .i64 (j : Int) ∧ Hid (x.links.all (linkB l) = (x.links.drop j).all (linkB l)) ∧ Hid (Below w.heap.size w wr2) ∧ Hid (Rd wr2 al (icell x.links)))
        case atStart => exact ⟨0, by omega, by omega, rfl, hideP rfl, HB, HRL⟩
        case round =>
          clear HB HRL
          obtain ⟨j, hgj, hj, rfl, hall, HB, HRL⟩ := hrel
          by_cases hlj : j < x.links.length
          · obtain ⟨y, hy⟩ := some_at (l := x.links) (k := j) hlj
            obtain ⟨yb, yo, rfl, hyb, gy⟩ := rdInt HRL.out hy
            obtain ⟨y0, y9⟩ := thing_link HTG.out hy
            have HY := hideP hy
            clear hy
            have j0 : (0 : Int) ≤ (j : Int) := by omega
            have j1 : (j : Int) < (x.links.length : Int) := by omega
            by_cases hy0 : 0 ≤ y
            · obtain ⟨m, rfl⟩ := Int.eq_ofNat_of_zero_le hy0
              obtain ⟨Z, hZ⟩ := some_at (l := l) (k := m) (by omega)
              have gz := (HR.out.below HB.out).kind hZ
              have m1 : (m : Int) < (l.length : Int) := by omega
              have HZ := hideP hZ
              clear hZ
              by_cases hz : Z.kind = 0
              · have HN : Hid (arenaOk l = false) := hideP (arena_bad HX.out (slot_bad3 (all_bad hall.out HY.out (linkB_no HZ.out hz))))
                have dz : (Z.kind == 0) = true := by simp [hz]
                clear hz hall
                go_wp2
                go_ret
                exact ⟨ret_bool HN.out.symm, HB.out⟩
              · have HA : Hid (x.links.all (linkB l) = (x.links.drop (j + 1)).all (linkB l)) := hideP (all_good hall.out HY.out (linkB_yes HZ.out hz))
                have dz : (Z.kind == 0) = false := by simp [hz]
                clear hz hall
                go_wp2
                go_roundg (gk - 1)
                case measure => omega
                case rel => exact ⟨j + 1, by omega, by omega, by go_num, HA, HB, HRL⟩
            · have HA : Hid (x.links.all (linkB l) = (x.links.drop (j + 1)).all (linkB l)) := hideP (all_good hall.out HY.out (linkB_neg l hy0))
              clear hall
              go_wp2
              go_roundg (gk - 1)
              case measure => omega
              case rel => exact ⟨j + 1, by omega, by omega, by go_num, HA, HB, HRL⟩
          · have HA : Hid (AllTo (slotOk l) l (k + 1)) := hideP (hat.out.next HX.out (slot_good HTG.out HBB.out (all_end hall.out (by omega))))
            have d1 : ¬ ((j : Int) < (x.links.length : Int)) := by omega
            clear hall
            go_wp2
            go_roundg (gko - 1)
            case measure => omega
            case rel => exact ⟨k + 1, by omega, by omega, by go_num, HA, HB⟩
    · have HN := hideP (HG.out k hat.out (by omega))
      have d1 : ¬ ((k : Int) < (l.length : Int)) := by omega
      go_wp2
      go_ret
      exact ⟨ret_bool HN.out.symm, HB.out⟩

end Go.Proofs.Ytabbncoihmhocaa

namespace Go.Proofs.Ytabbncoihmhocaa
open Go.RowKit

set_option maxRecDepth 100000 in
set_option maxHeartbeats 8000000 in
theorem implShowArena_any (l : List Thing) (p : Option Addr) (c : Nat) (hl : l.length ≤ 1048576) (hs : Short 1048576 l) (w : World) (h : ThingsRd w p l) :
    Calls Try.prog 16 #[.slice p l.length c] w fun e w' => e = .returned (.string ⟨(showArena l).toArray⟩) ∧ Below w.heap.size w w' := by
  have HR := hideP h
  have HS := hideP hs
  clear h hs
  go_enter Try.func16, Try.ntmps16
  go_wp2_with fail
  refine (implArenaOk_any l p c hl HS.out _ HR.out).mono ?_
  rintro e w1 ⟨rfl, hb1⟩
  have HB := hideP hb1
  clear hb1
  cases hok : arenaOk l
  · have HN : Hid (showArena l = []) := hideP (by unfold showArena; rw [hok]; rfl)
    go_wp2
    go_ret
    exact ⟨by rw [HN.out]; rfl, HB.out⟩
  have HN : Hid (showArena l = l.flatMap showThing) := hideP (by unfold showArena; rw [hok]; rfl)
  have HL := hideP (arena_ten hok)
  clear hok
  go_wp2
  go_loopg [3, 12] (l.length + 1) (fun gk s i wr => ∃ (k : Nat) (acc : List UInt8), l.length < gk + k ∧ k ≤ l.length ∧ i = .int .i64 (k : Int) ∧ s = .string ⟨acc.toArray⟩ ∧ acc.length ≤ 2160 ∧ Hid ((l.take k).flatMap showThing = acc) ∧ Hid (Below w.heap.size w wr))
  case atStart => exact ⟨0, [], by omega, by omega, rfl, rfl, by simp, hideP rfl, HB⟩
  case round =>
    clear HB
    obtain ⟨k, acc, hgk, hk, rfl, rfl, hal, hv, HB⟩ := hrel
    by_cases hlt : k < l.length
    · obtain ⟨x, hx⟩ := some_at (l := l) (k := k) hlt
      obtain ⟨b, o, vl, vd, vq, rfl, hbr, hth, hz9⟩ := HR.out.below HB.out k x hx
      obtain ⟨⟨s1, s2, s3⟩, hw⟩ := HS.out x (List.mem_of_getElem? hx)
      have HT := hideP hth
      clear hth
      obtain ⟨al, cl, rfl⟩ := HT.out.l.shape
      obtain ⟨ad, cd, rfl⟩ := HT.out.d.shape
      obtain ⟨aq, cq, rfl⟩ := HT.out.q.shape
      have g0 : World.cell? _ ⟨b, o + k * 13, none⟩ = some (.int .i64 x.gen) := hz9 0 _ rfl
      have g1 : World.cell? _ ⟨b, o + k * 13 + 1, none⟩ = some (.int .i64 x.kind) := hz9 1 _ rfl
      have g2 : World.cell? _ ⟨b, o + k * 13 + 2, none⟩ = some (.int .i64 x.box) := hz9 2 _ rfl
      have g3 : World.cell? _ ⟨b, o + k * 13 + 3, none⟩ = some (.int .i64 x.res) := hz9 3 _ rfl
      have g4 : World.cell? _ ⟨b, o + k * 13 + 4, none⟩ = some (.int .i64 x.til) := hz9 4 _ rfl
      have g5 : World.cell? _ ⟨b, o + k * 13 + 5, none⟩ = some (.int .i64 x.pages) := hz9 5 _ rfl
      have g6 : World.cell? _ ⟨b, o + k * 13 + 6, none⟩ = some (.int .i64 x.wait) := hz9 6 _ rfl
      have g7 : World.cell? _ ⟨b, o + k * 13 + 7, none⟩ = some (.int .i64 x.got) := hz9 7 _ rfl
      have g8 : World.cell? _ ⟨b, o + k * 13 + 8, none⟩ = some (.int .i64 x.ran) := hz9 8 _ rfl
      have g9 : World.cell? _ ⟨b, o + k * 13 + 9, none⟩ = some (.bool x.mark) := hz9 9 _ rfl
      have g10 : World.cell? _ ⟨b, o + k * 13 + 10, none⟩ = some (.slice al x.links.length cl) := hz9 10 _ rfl
      have g11 : World.cell? _ ⟨b, o + k * 13 + 11, none⟩ = some (.slice ad x.data.length cd) := hz9 11 _ rfl
      have g12 : World.cell? _ ⟨b, o + k * 13 + 12, none⟩ = some (.slice aq x.queue.length cq) := hz9 12 _ rfl
      have k0 : (0 : Int) ≤ (k : Int) := by omega
      have k1 : (k : Int) < (l.length : Int) := by omega
      have HV : Hid ((l.take (k + 1)).flatMap showThing = acc ++ showThing x) := hideP (by rw [shows_next hx, hv.out])
      have hal2 : (acc ++ showThing x).length ≤ 2160 := by rw [← HV.out]; exact shows_take l HL.out _
      have HAL := Lib.hid hal2
      have hsl := showThing_len x
      clear hx hz9 hal2
      go_upto_region 7 with fail
      have hb9 := below_a1 wr (.cells #[.int .i64 x.gen, .int .i64 x.kind, .int .i64 x.box, .int .i64 x.res, .int .i64 x.til, .int .i64 x.pages, .int .i64 x.wait, .int .i64 x.got, .int .i64 x.ran, .bool x.mark, .slice al x.links.length cl, .slice ad x.data.length cd, .slice aq x.queue.length cq] 34)
      have X0 := hideP (Blk.new wr #[.int .i64 x.gen, .int .i64 x.kind, .int .i64 x.box, .int .i64 x.res, .int .i64 x.til, .int .i64 x.pages, .int .i64 x.wait, .int .i64 x.got, .int .i64 x.ran, .bool x.mark, .slice al x.links.length cl, .slice ad x.data.length cd, .slice aq x.queue.length cq] 34)
      have HB := hideP (HB.out.trans (hb9.mono HB.out.size))
      have HT := hideP (HT.out.below hb9)
      obtain ⟨W, hW⟩ : ∃ W, W = wr.alloc (.cells #[.int .i64 x.gen, .int .i64 x.kind, .int .i64 x.box, .int .i64 x.res, .int .i64 x.til, .int .i64 x.pages, .int .i64 x.wait, .int .i64 x.got, .int .i64 x.ran, .bool x.mark, .slice al x.links.length cl, .slice ad x.data.length cd, .slice aq x.queue.length cq] 34) := ⟨_, rfl⟩
      rw [← hW] at X0 HB HT ⊢
      clear hW hb9 hbr g0 g1 g2 g3 g4 g5 g6 g7 g8 g9 g10 g11 g12
      obtain ⟨XB, hXB⟩ : ∃ XB, XB = wr.heap.size := ⟨_, rfl⟩
      rw [← hXB] at X0 ⊢
      clear hXB
      have X0 : Hid (Blk W XB 34 [.int .i64 x.gen, .int .i64 x.kind, .int .i64 x.box, .int .i64 x.res, .int .i64 x.til, .int .i64 x.pages, .int .i64 x.wait, .int .i64 x.got, .int .i64 x.ran, .bool x.mark, .slice al x.links.length cl, .slice ad x.data.length cd, .slice aq x.queue.length cq]) := X0
      have c0 : W.cell? ⟨XB, 0, none⟩ = some (.int .i64 x.gen) := (X0.out.cell 0).trans rfl
      have c1 : W.cell? ⟨XB, 1, none⟩ = some (.int .i64 x.kind) := (X0.out.cell 1).trans rfl
      have c2 : W.cell? ⟨XB, 2, none⟩ = some (.int .i64 x.box) := (X0.out.cell 2).trans rfl
      have c3 : W.cell? ⟨XB, 3, none⟩ = some (.int .i64 x.res) := (X0.out.cell 3).trans rfl
      have c4 : W.cell? ⟨XB, 4, none⟩ = some (.int .i64 x.til) := (X0.out.cell 4).trans rfl
      have c5 : W.cell? ⟨XB, 5, none⟩ = some (.int .i64 x.pages) := (X0.out.cell 5).trans rfl
      have c6 : W.cell? ⟨XB, 6, none⟩ = some (.int .i64 x.wait) := (X0.out.cell 6).trans rfl
      have c7 : W.cell? ⟨XB, 7, none⟩ = some (.int .i64 x.got) := (X0.out.cell 7).trans rfl
      have c8 : W.cell? ⟨XB, 8, none⟩ = some (.int .i64 x.ran) := (X0.out.cell 8).trans rfl
      have c9 : W.cell? ⟨XB, 9, none⟩ = some (.bool x.mark) := (X0.out.cell 9).trans rfl
      have c10 : W.cell? ⟨XB, 10, none⟩ = some (.slice al x.links.length cl) := (X0.out.cell 10).trans rfl
      have c11 : W.cell? ⟨XB, 11, none⟩ = some (.slice ad x.data.length cd) := (X0.out.cell 11).trans rfl
      have c12 : W.cell? ⟨XB, 12, none⟩ = some (.slice aq x.queue.length cq) := (X0.out.cell 12).trans rfl
      go_wp2_with fail
      refine (implShowObj_any x _ _ _ s1 s2 s3 hw _ HT.out).mono ?_
      rintro e w2 ⟨rfl, hb2⟩
      have HB := hideP (HB.out.trans (hb2.mono HB.out.size))
      clear hb2 HT X0 c0 c1 c2 c3 c4 c5 c6 c7 c8 c9 c10 c11 c12
      go_wp2
      go_roundg (gk - 1)
      case measure => omega
      case rel => exact ⟨k + 1, _, by omega, by omega, by go_num, (by rw [ByteArray.mk_append_mk]; try rfl), HAL.out, HV, HB⟩
    · have HV : Hid (l.flatMap showThing = acc) := hideP (by rw [← hv.out, List.take_of_length_le (by omega)])
      have d1 : ¬ ((k : Int) < (l.length : Int)) := by omega
      go_wp2
      go_ret
      exact ⟨by rw [HN.out, HV.out]; rfl, HB.out⟩

end Go.Proofs.Ytabbncoihmhocaa

namespace Go.Proofs.Ytabbncoihmhocaa
open Go.RowKit

set_option maxRecDepth 100000 in
set_option maxHeartbeats 8000000 in
theorem implReadArena_any (s : ByteArray) (hs : s.size ≤ maxLen) (w : World) : Calls Try.prog 15 #[.string s] w (ArenaRet w (bl s)) := by
  have HS := hideP hs
  unfold maxLen at hs
  obtain ⟨i0, hi, hz0, hz1, hz2⟩ := info_parts Try.infoObj
  have H0 : Hid (RowsOwn KThing (w.alloc (.cells #[] 34)) w.heap.size (.slice (some ⟨w.heap.size, 0, none⟩) 0 0) ([] : List Thing).length [] [] []) := hideP (RowsOwn.nil (K := KThing) (l := []) (owns_lit (Nat.le_refl _) rfl (by decide) rfl rfl))
  have HB := hideP (below_a1 w (.cells #[] 34))
  go_enter Try.func15, Try.ntmps15
  go_wp2
  go_loopg [4, 5, 9] 11 (fun gk v av iv wr => ∃ (k a : Nat) (xs : List Thing) (rs : List (List Value)), 10 < gk + k ∧ k ≤ 10 ∧ iv = .int .i64 (k : Int) ∧ av = .int .i64 (a : Int) ∧ a ≤ s.size ∧ xs.length ≤ 10 ∧ Hid (rdThings (bl s) k = some (xs, a)) ∧ Hid (RowsOwn KThing wr w.heap.size v xs.length xs rs []) ∧ Hid (Below w.heap.size w wr))
  case atStart => exact ⟨0, 0, [], [], by omega, by omega, rfl, rfl, by omega, by simp, hideP rfl, H0, HB⟩
  case round =>
    clear H0 HB
    obtain ⟨k, a, xs, rs, hgk, hk, rfl, rfl, ha, hxl, hrd, HO, HB⟩ := hrel
    by_cases hlt : k < 10
    · have HV : Hid (∀ W, Calls Try.prog 12 #[.string (s.extract a s.size)] W (ThingRet W ((bl s).drop a))) := hideP (fun W => by
        have := implReadObj_any (s.extract a s.size) (by unfold maxLen; rw [ByteArray.size_extract]; omega) W
        rwa [bl_from] at this)
      have hai : (a : Int) ≤ (s.size : Int) := by omega
      have k0 : (0 : Int) ≤ (a : Int) := by omega
      have k5 : (k : Int) < 10 := by omega
      go_wp2_with fail
      refine (HV.out _).mono ?_
      rintro e w2 ⟨o, n, vl, vd, vq, hres, rfl, ho, hb2⟩
      obtain ⟨al, cl, rfl, _⟩ := owns_slice ho.l
      obtain ⟨ad, cd, rfl, _⟩ := owns_slice ho.d
      obtain ⟨aq, cq, rfl, _⟩ := owns_slice ho.q
      have HB2 := hideP (HB.out.trans (hb2.mono HB.out.size))
      by_cases hz : n = 0
      · have HN : Hid (readArena (bl s) = none) := hideP (readArena_no (rd_none (rd_stop hrd.out (thingRes_no (by rw [hres, hz]))) (show k + 1 ≤ 10 by omega)))
        have d1 : ((n : Int) == 0) = true := by simp [hz]
        have hb3 := HB2.out.alloc HB2.out.size (.cells #[.int .i64 o.gen, .int .i64 o.kind, .int .i64 o.box, .int .i64 o.res, .int .i64 o.til, .int .i64 o.pages, .int .i64 o.wait, .int .i64 o.got, .int .i64 o.ran, .bool o.mark, .slice al o.links.length cl, .slice ad o.data.length cd, .slice aq o.queue.length cq] 34)
        clear hz hres
        go_wp2
        go_ret2
        exact ArenaRet.no HN.out (owns_nil' _ _ _ _) hb3
      · have hrt := thingRes_yes hres hz
        have HRD := hideP (rd_step hrd.out hrt)
        have han : a + n ≤ s.size := by have := rd_le HRD.out; rwa [bl_length] at this
        have hxs : Hid (xs.length = k) := hideP (rd_good hrd.out).1
        have hxk : xs.length ≤ k := by have := hxs.out; omega
        have d1 : ((n : Int) == 0) = false := by simp; omega
        have HO2 := hideP (HO.out.below hb2)
        have HE : KThing.own w2 wr.heap.size o [.slice al o.links.length cl, .slice ad o.data.length cd, .slice aq o.queue.length cq] := ⟨_, _, _, rfl, ho⟩
        have HN : Hid (∀ q, mineL [.slice al o.links.length cl, .slice ad o.data.length cd, .slice aq o.queue.length cq] q → wr.heap.size ≤ q) := hideP (fun q hq => (KThing.lt HE q hq).1)
        have HL : Hid (∀ (i : Nat) (a : List Value), rs[i]? = some a → ∀ q, mineL a q → q < wr.heap.size) := hideP (fun i a ha q hq => (HO.out.lt ha hq).2)
        have HVB : Hid (∀ q, _ = some q → q < wr.heap.size) := hideP (fun q (e : Value.ownBlock _ = some q) => (HO.out.row.lt q e).2)
        have HE := hideP (KThing.mono HE HB.out.size)
        have hz2w := HB2.out.size
        clear hz hres hrt hb2 ho HO HB
        go_wp2_with (at_builtin; refine wpList_append_rdat _ rfl _ _ 40 rfl w.heap.size 34 i0 (.agg #[.int .i64 0, .int .i64 0, .int .i64 0, .int .i64 0, .int .i64 0, .int .i64 0, .int .i64 0, .int .i64 0, .int .i64 0, .bool false, .slice none 0 0, .slice none 0 0, .slice none 0 0]) 13 152 Try.underlying40 hi hz0 hz1 hz2 rfl (by decide) _ _ _ rfl (World.ownsRow.alloc (World.ownsRow.alloc HO2.out.row _) _) _ 1 1 (Thing.cells o (.slice al o.links.length cl) (.slice ad o.data.length cd) (.slice aq o.queue.length cq)) rfl rfl (rd_litg (by rfl) (by simp)) ?c1 ?c2 ?c3 ?c4 ?_)
        case c1 => simp [Value.oneCell', Thing.cells]
        case c2 => unfold maxLen; omega
        case c3 => omega
        case c4 => simp; omega
        intro v9 w9 ho9 hg9 hat9
        have HBB := HB2.out.trans ((below_a2 w2 (.cells #[.int .i64 o.gen, .int .i64 o.kind, .int .i64 o.box, .int .i64 o.res, .int .i64 o.til, .int .i64 o.pages, .int .i64 o.wait, .int .i64 o.got, .int .i64 o.ran, .bool o.mark, .slice al o.links.length cl, .slice ad o.data.length cd, .slice aq o.queue.length cq] 34) (.cells #[.int .i64 o.gen, .int .i64 o.kind, .int .i64 o.box, .int .i64 o.res, .int .i64 o.til, .int .i64 o.pages, .int .i64 o.wait, .int .i64 o.got, .int .i64 o.ran, .bool o.mark, .slice al o.links.length cl, .slice ad o.data.length cd, .slice aq o.queue.length cq] 34)).mono hz2w)
        have HO3 := HO2.out.below (below_a2 w2 (.cells #[.int .i64 o.gen, .int .i64 o.kind, .int .i64 o.box, .int .i64 o.res, .int .i64 o.til, .int .i64 o.pages, .int .i64 o.wait, .int .i64 o.got, .int .i64 o.ran, .bool o.mark, .slice al o.links.length cl, .slice ad o.data.length cd, .slice aq o.queue.length cq] 34) (.cells #[.int .i64 o.gen, .int .i64 o.kind, .int .i64 o.box, .int .i64 o.res, .int .i64 o.til, .int .i64 o.pages, .int .i64 o.wait, .int .i64 o.got, .int .i64 o.ran, .bool o.mark, .slice al o.links.length cl, .slice ad o.data.length cd, .slice aq o.queue.length cq] 34))
        have HE3 := KThing.kept (P := fun _ => False) HE.out (KeptP.of_below (below_a2 w2 (.cells #[.int .i64 o.gen, .int .i64 o.kind, .int .i64 o.box, .int .i64 o.res, .int .i64 o.til, .int .i64 o.pages, .int .i64 o.wait, .int .i64 o.got, .int .i64 o.ran, .bool o.mark, .slice al o.links.length cl, .slice ad o.data.length cd, .slice aq o.queue.length cq] 34) (.cells #[.int .i64 o.gen, .int .i64 o.kind, .int .i64 o.box, .int .i64 o.res, .int .i64 o.til, .int .i64 o.pages, .int .i64 o.wait, .int .i64 o.got, .int .i64 o.ran, .bool o.mark, .slice al o.links.length cl, .slice ad o.data.length cd, .slice aq o.queue.length cq] 34))) (fun _ _ e => e)
        have HP := hideP (RowsOwn.append HO3 HE3 ho9 hg9 hat9 (by simp) HL.out HN.out (fun q hq e => by have h1 := HN.out q hq; have h2 := HVB.out q e; omega))
        have HB9 := hideP (HBB.grown hg9 HBB.size (fun q e => (HO3.row.lt q e).1))
        have hl9 : (xs ++ [o]).length ≤ 10 := by rw [List.length_append, List.length_singleton]; omega
        clear ho9 hg9 hat9 HBB HO3 HE3 HO2 HE HN HL HVB HB2 hrd hxs
        go_wp2
        go_roundg (gk - 1)
        case measure => omega
        case rel => exact ⟨k + 1, a + n, xs ++ [o], _, by omega, by omega, by go_num, by go_num, han, hl9, HRD, HP, HB9⟩
    · have HRD : Hid (rdThings (bl s) 10 = some (xs, a)) := hideP (by rw [← show k = 10 by omega]; exact hrd.out)
      have HSH := hideP (good_short (rd_good HRD.out).2.2)
      obtain ⟨pv, cv, rfl, _⟩ := owns_slice HO.out.row
      have hl6 : xs.length ≤ 1048576 := by omega
      have d1 : ¬ ((k : Int) < 10) := by omega
      clear hrd
      by_cases hae : a = s.size
      · have d2 : ((a : Int) != (s.size : Int)) = false := by simp [hae]
        have HAE := hideP hae
        clear hae
        go_wp2_with fail
        refine (implArenaOk_any xs pv cv hl6 HSH.out _ (ThingsOwn.rd HO.out)).mono ?_
        rintro e w3 ⟨rfl, hb3⟩
        have HO3 := hideP (HO.out.below hb3)
        have HB3 := hideP (HB.out.trans (hb3.mono HB.out.size))
        clear hb3 HO HB
        cases hok : arenaOk xs
        · have HN := hideP (readArena_bad HRD.out (.inr hok))
          clear hok
          go_wp2
          go_ret2
          exact ArenaRet.no HN.out (owns_nil' _ _ _ _) HB3.out
        · have HN := hideP (readArena_yes HRD.out (by rw [bl_length]; exact HAE.out) hok)
          clear hok
          go_wp2
          go_ret2
          exact ArenaRet.yes HN.out HO3.out HB3.out
      · have HN := hideP (readArena_bad HRD.out (.inl (by rw [bl_length]; exact hae)))
        have d2 : ((a : Int) != (s.size : Int)) = true := by simp; omega
        clear hae
        go_wp2
        go_ret2
        exact ArenaRet.no HN.out (owns_nil' _ _ _ _) HB.out

end Go.Proofs.Ytabbncoihmhocaa

namespace Go.Proofs.Ytabbncoihmhocaa
open Go.RowKit

theorem big_any (a : Option Addr) (n cap : Nat) (w : World) (hn : n ≤ maxLen) : Calls Try.prog 4 #[.slice a n cap] w fun e w' => e = .returned (.bool (decide (1048576 < n))) ∧ w = w' := by
  unfold maxLen at hn
  go_enter Try.func4, Try.ntmps4
  go_wp2
  go_ret
  exact ⟨ret_bool (by simp; omega), rfl⟩
end Go.Proofs.Ytabbncoihmhocaa

namespace Go.Proofs.Ytabbncoihmhocaa
open Go.RowKit

theorem implShowArena_n (l : List Thing) (p : Option Addr) (c n : Nat) (hn : l.length = n) (hl : n ≤ 1048576) (hs : Short 1048576 l) (w : World) (h : ThingsRd w p l) :
    Calls Try.prog 16 #[.slice p n c] w fun e w' => e = .returned (.string ⟨(showArena l).toArray⟩) ∧ Below w.heap.size w w' := by
  subst hn
  exact implShowArena_any l p c hl hs w h
/-- What ReadTree hands back, in one piece. -/
theorem TreeRet.one {w w' : World} {l : List UInt8} {e : Ending} (h : TreeRet w l e w') : ∃ p m c b, e = .returned (.tuple #[.slice p m c, .bool b]) ∧ b = (readTree l).isSome ∧ (∀ t, readTree l = some t → m = t.length ∧ Rd w' p (t.flatMap Res.enc)) ∧ Below w.heap.size w w' := by
  unfold TreeRet at h
  cases hr : readTree l with
  | none =>
    rw [hr] at h
    obtain ⟨v, he, ho, hb⟩ := h
    obtain ⟨p, c, rfl, _⟩ := owns_slice ho
    exact ⟨p, 0, c, false, he, rfl, fun t ht => by (cases ht), hb⟩
  | some t =>
    rw [hr] at h
    obtain ⟨v, he, ho, hb⟩ := h
    obtain ⟨p, c, rfl, _⟩ := owns_slice ho
    exact ⟨p, 5, c, true, he, rfl, fun u hu => by cases hu; exact ⟨(tree_len hr).symm, rd_of_owns ho⟩, hb⟩
theorem ArenaRet.one {w w' : World} {l : List UInt8} {e : Ending} (h : ArenaRet w l e w') : ∃ p m c b, e = .returned (.tuple #[.slice p m c, .bool b]) ∧ b = (readArena l).isSome ∧ (∀ t, readArena l = some t → m = t.length ∧ t.length ≤ 10 ∧ Short 1048576 t ∧ ThingsRd w' p t) ∧ Below w.heap.size w w' := by
  obtain ⟨v, rs, he, ho, hb⟩ := h
  obtain ⟨p, c, rfl, _⟩ := owns_slice ho.row
  refine ⟨p, _, c, _, he, rfl, fun t ht => ?_, hb⟩
  have e1 : arenaRes l = t := by unfold arenaRes; rw [ht]; rfl
  rw [e1] at ho ⊢
  exact ⟨rfl, by rw [← e1]; exact arenaRes_len l, by rw [← e1]; exact good_short (arenaRes_ok l), ThingsOwn.rd ho⟩
theorem isSome_tree (t : List Res) : (readTree (showTree t)).isSome = treeOk t := by
  cases h : treeOk t
  · rw [tree_void h, readTree_empty]; rfl
  · rw [tree_back h]; rfl
theorem isSome_arena (t : List Thing) : (readArena (showArena t)).isSome = arenaOk t := by
  cases h : arenaOk t
  · rw [arena_void h, readArena_empty]; rfl
  · rw [arena_back h]; rfl
set_option maxRecDepth 100000 in
set_option maxHeartbeats 8000000 in
theorem lawFnImages_walk (a : Option Addr) (n cap : Nat) (cl : List UInt8) (hn : n = cl.length) (hl : n ≤ maxLen) (w : World) (h : Rd w a (byteCells cl)) :
    Calls Try.prog 3 #[.slice a n cap] w fun e w' => e = .returned (.bool true) ∧ Below w.heap.size w w' := by
  have Hn := Lib.hid hn
  have HC := hideP h
  clear hn h
  by_cases hs : n ≤ 1048576
  · have d0 : decide (1048576 < n) = false := by simpa using hs
    go_enter Try.func3, Try.ntmps3
    go_wp2_with fail
    refine (big_any _ _ _ _ hl).mono ?_
    rintro e w' ⟨rfl, rfl⟩
    rw [d0]
    go_wp2_with fail
    refine (drawShowTree_any _ _ _ cl Hn.out hs _ HC.out).mono ?_
    rintro e w1 ⟨v, t, rfl, hlen, ho, hb⟩
    obtain ⟨tp, tc, rfl, _⟩ := owns_slice ho
    have HT := hideP (rd_of_owns ho)
    have HB := hideP hb
    clear ho hb
    go_wp2_with fail
    refine (implShowTree_any _ _ tc t rfl (by omega) w1 HT.out).mono ?_
    rintro e w2 ⟨rfl, hb⟩
    have HT := hideP (HT.out.below hb)
    have HB := hideP (HB.out.trans (hb.mono HB.out.size))
    clear hb
    have HSZ : Hid ((⟨(showTree t).toArray⟩ : ByteArray).size ≤ maxLen) := hideP (by
      show (showTree t).toArray.size ≤ maxLen
      have h1 := treeShow_len t
      rw [List.size_toArray]
      unfold showTree maxLen
      split
      · omega
      · simp)
    go_wp2_with fail
    refine (implReadTree_any _ HSZ.out w2).mono ?_
    rintro e w3 hr
    rw [bl_mk] at hr
    obtain ⟨up, um, uc, ub, rfl, hub, hut, hb⟩ := hr.one
    rw [isSome_tree] at hub
    have HU : Hid (treeOk t = true → um = t.length ∧ Rd w3 up (t.flatMap Res.enc)) := hideP (fun e => hut t (tree_back e))
    have HT := hideP (HT.out.below hb)
    have HB := hideP (HB.out.trans (hb.mono HB.out.size))
    clear hb hut hr HSZ
    subst hub
    go_upto_region 5 with fail
    go_cut [4, 5, 41] (fun _s4 _s5 s wx => s = .bool false ∧ Hid (Below w.heap.size w wx))
    case first =>
      cases tk : treeOk t
      · go_wp2_with fail
        refine (specTreeOk_any _ _ tc t rfl (by omega) w3 HT.out).mono ?_
        rintro e w4 ⟨rfl, hb⟩
        rw [tk]
        have HB := hideP (HB.out.trans (hb.mono HB.out.size))
        clear hb
        go_wp2
        go_meet
        exact ⟨rfl, HB⟩
      · obtain ⟨hum, hur⟩ := HU.out tk
        have HUR := hideP hur
        clear hur HU
        subst hum
        go_wp2_with fail
        refine (specTreeOk_any _ _ tc t rfl (by omega) w3 HT.out).mono ?_
        rintro e w4 ⟨rfl, hb⟩
        rw [tk]
        have HT := hideP (HT.out.below hb)
        have HUR := hideP (HUR.out.below hb)
        have HB := hideP (HB.out.trans (hb.mono HB.out.size))
        clear hb
        go_wp2_with fail
        refine (sameTree_same _ _ _ uc tc t rfl (by omega) w4 HUR.out HT.out).mono ?_
        rintro e w5 ⟨rfl, hb⟩
        have HB := hideP (HB.out.trans (hb.mono HB.out.size))
        clear hb
        go_wp2
        go_meet
        exact ⟨rfl, HB⟩
    case rest =>
    clear HB HT HU
    obtain ⟨rfl, HB⟩ := hcut
    go_wp2_with fail
    refine (drawShowObj_any _ _ _ cl Hn.out hs wc (HC.out.below HB.out)).mono ?_
    rintro e w4 ⟨ob, vl, vd, vq, rfl, ho, hb⟩
    have hEl : RI w4 wc.heap.size vl ob.links := ho.l
    have hEd : RI w4 wc.heap.size vd ob.data := ho.d
    have hEq : RM w4 wc.heap.size vq ob.queue := ho.q
    obtain ⟨pl, ql, rfl, _⟩ := owns_slice hEl
    obtain ⟨pd, qd, rfl, _⟩ := owns_slice hEd
    obtain ⟨pq, qq, rfl, _⟩ := owns_slice hEq
    have HB := hideP (HB.out.trans (hb.mono HB.out.size))
    go_upto_region 8 with fail
    obtain ⟨w5, hw5⟩ : ∃ z, z = w4.alloc (.cells #[.int .i64 ob.gen, .int .i64 ob.kind, .int .i64 ob.box, .int .i64 ob.res, .int .i64 ob.til, .int .i64 ob.pages, .int .i64 ob.wait, .int .i64 ob.got, .int .i64 ob.ran, .bool ob.mark, .slice pl ob.links.length ql, .slice pd ob.data.length qd, .slice pq ob.queue.length qq] 34) := ⟨_, rfl⟩
    obtain ⟨O, hO⟩ : ∃ O, O = w4.heap.size := ⟨_, rfl⟩
    have B6 := hideP (show Blk w5 O 34 _ by rw [hw5, hO]; exact Blk.new w4 #[.int .i64 ob.gen, .int .i64 ob.kind, .int .i64 ob.box, .int .i64 ob.res, .int .i64 ob.til, .int .i64 ob.pages, .int .i64 ob.wait, .int .i64 ob.got, .int .i64 ob.ran, .bool ob.mark, .slice pl ob.links.length ql, .slice pd ob.data.length qd, .slice pq ob.queue.length qq] 34)
    have HTI : Hid (ThIs w5 ob (.slice pl ob.links.length ql) (.slice pd ob.data.length qd) (.slice pq ob.queue.length qq)) := hideP (by rw [hw5]; exact ThIs.below ⟨owns_sl hEl, owns_sl hEd, owns_sl hEq⟩ (below_a1 w4 _))
    have HB := hideP (show Below w.heap.size w w5 by rw [hw5]; exact HB.out.alloc HB.out.size _)
    have HSM : Hid (Sm 200 false ob) := hideP ho.s
    rw [← hw5, ← hO]
    clear hw5 hO hEl hEd hEq ho hb
    have b0 : w5.cell? ⟨O, 0, none⟩ = some (.int .i64 ob.gen) := (B6.out.cell 0).trans rfl
    have b1 : w5.cell? ⟨O, 1, none⟩ = some (.int .i64 ob.kind) := (B6.out.cell 1).trans rfl
    have b2 : w5.cell? ⟨O, 2, none⟩ = some (.int .i64 ob.box) := (B6.out.cell 2).trans rfl
    have b3 : w5.cell? ⟨O, 3, none⟩ = some (.int .i64 ob.res) := (B6.out.cell 3).trans rfl
    have b4 : w5.cell? ⟨O, 4, none⟩ = some (.int .i64 ob.til) := (B6.out.cell 4).trans rfl
    have b5 : w5.cell? ⟨O, 5, none⟩ = some (.int .i64 ob.pages) := (B6.out.cell 5).trans rfl
    have b6 : w5.cell? ⟨O, 6, none⟩ = some (.int .i64 ob.wait) := (B6.out.cell 6).trans rfl
    have b7 : w5.cell? ⟨O, 7, none⟩ = some (.int .i64 ob.got) := (B6.out.cell 7).trans rfl
    have b8 : w5.cell? ⟨O, 8, none⟩ = some (.int .i64 ob.ran) := (B6.out.cell 8).trans rfl
    have b9 : w5.cell? ⟨O, 9, none⟩ = some (.bool ob.mark) := (B6.out.cell 9).trans rfl
    have b10 : w5.cell? ⟨O, 10, none⟩ = some (.slice pl ob.links.length ql) := (B6.out.cell 10).trans rfl
    have b11 : w5.cell? ⟨O, 11, none⟩ = some (.slice pd ob.data.length qd) := (B6.out.cell 11).trans rfl
    have b12 : w5.cell? ⟨O, 12, none⟩ = some (.slice pq ob.queue.length qq) := (B6.out.cell 12).trans rfl
    have l1 : ob.links.length ≤ 1048576 := by have := HSM.out.l; omega
    have l2 : ob.data.length ≤ 1048576 := by have := HSM.out.d; omega
    have l3 : ob.queue.length ≤ 1048576 := by have := HSM.out.q; omega
    go_wp2_with fail
    refine (implShowObj_any ob _ _ _ l1 l2 l3 (hideP HSM.out.w) w5 HTI.out).mono ?_
    rintro e w6 ⟨rfl, hb⟩
    have B6 := hideP (B6.out.below hb)
    have HTI := hideP (HTI.out.below hb)
    have HB := hideP (HB.out.trans (hb.mono HB.out.size))
    obtain ⟨S, hS⟩ : ∃ S : ByteArray, S = ⟨(showThing ob).toArray⟩ := ⟨_, rfl⟩
    have HSb : Hid (bl S = showThing ob) := hideP (by rw [hS, bl_mk])
    rw [← hS]
    have hSz : S.size ≤ 216 := by rw [← bl_length, HSb.out]; exact showThing_len ob
    clear hb hS b0 b1 b2 b3 b4 b5 b6 b7 b8 b9 b10 b11 b12
    go_wp2_with fail
    have HAP : Hid (bl (S ++ ⟨#[120]⟩) = showThing ob ++ [120]) := hideP (by rw [← HSb.out]; unfold bl; rw [ByteArray.data_append]; simp)
    refine (implReadObj_any _ (by rw [ByteArray.size_append]; unfold maxLen; show S.size + 1 ≤ _; omega) w6).mono ?_
    rintro e w7 ⟨q, k, xl, xd, xq, hres, rfl, ho, hb⟩
    rw [HAP.out] at hres
    have HQ : Hid (thingOk ob = true → ob = q ∧ (showThing ob).length = k) := hideP (fun e => by
      have h1 := thing_back e [120]
      unfold thingRes at hres
      rw [h1] at hres
      injection hres with e1 e2
      exact ⟨e1, e2⟩)
    obtain ⟨yl, zl, rfl, _⟩ := owns_slice ho.l
    obtain ⟨yd, zd, rfl, _⟩ := owns_slice ho.d
    obtain ⟨yq, zq, rfl, _⟩ := owns_slice ho.q
    go_upto_region 10 with fail
    obtain ⟨w8, hw8⟩ : ∃ z, z = w7.alloc (.cells #[.int .i64 q.gen, .int .i64 q.kind, .int .i64 q.box, .int .i64 q.res, .int .i64 q.til, .int .i64 q.pages, .int .i64 q.wait, .int .i64 q.got, .int .i64 q.ran, .bool q.mark, .slice yl q.links.length zl, .slice yd q.data.length zd, .slice yq q.queue.length zq] 34) := ⟨_, rfl⟩
    obtain ⟨O2, hO2⟩ : ∃ O, O = w7.heap.size := ⟨_, rfl⟩
    have hb2 : Below w6.heap.size w6 w8 := by rw [hw8]; exact hb.alloc hb.size _
    have B8 := hideP (show Blk w8 O2 34 _ by rw [hw8, hO2]; exact Blk.new w7 #[.int .i64 q.gen, .int .i64 q.kind, .int .i64 q.box, .int .i64 q.res, .int .i64 q.til, .int .i64 q.pages, .int .i64 q.wait, .int .i64 q.got, .int .i64 q.ran, .bool q.mark, .slice yl q.links.length zl, .slice yd q.data.length zd, .slice yq q.queue.length zq] 34)
    have HQI : Hid (ThIs w8 q (.slice yl q.links.length zl) (.slice yd q.data.length zd) (.slice yq q.queue.length zq)) := hideP (by rw [hw8]; exact ThIs.below ⟨owns_sl ho.l, owns_sl ho.d, owns_sl ho.q⟩ (below_a1 w7 _))
    have B6 := hideP (B6.out.below hb2)
    have HTI := hideP (HTI.out.below hb2)
    have HB := hideP (HB.out.trans (hb2.mono HB.out.size))
    rw [← hw8, ← hO2]
    clear hw8 hO2 hb2 hb ho hres HAP
    go_cut [72] (fun s wx => s = .bool false ∧ Hid (Below w.heap.size w wx))
    case first =>
      have b0 : w8.cell? ⟨O, 0, none⟩ = some (.int .i64 ob.gen) := (B6.out.cell 0).trans rfl
      have b1 : w8.cell? ⟨O, 1, none⟩ = some (.int .i64 ob.kind) := (B6.out.cell 1).trans rfl
      have b2 : w8.cell? ⟨O, 2, none⟩ = some (.int .i64 ob.box) := (B6.out.cell 2).trans rfl
      have b3 : w8.cell? ⟨O, 3, none⟩ = some (.int .i64 ob.res) := (B6.out.cell 3).trans rfl
      have b4 : w8.cell? ⟨O, 4, none⟩ = some (.int .i64 ob.til) := (B6.out.cell 4).trans rfl
      have b5 : w8.cell? ⟨O, 5, none⟩ = some (.int .i64 ob.pages) := (B6.out.cell 5).trans rfl
      have b6 : w8.cell? ⟨O, 6, none⟩ = some (.int .i64 ob.wait) := (B6.out.cell 6).trans rfl
      have b7 : w8.cell? ⟨O, 7, none⟩ = some (.int .i64 ob.got) := (B6.out.cell 7).trans rfl
      have b8 : w8.cell? ⟨O, 8, none⟩ = some (.int .i64 ob.ran) := (B6.out.cell 8).trans rfl
      have b9 : w8.cell? ⟨O, 9, none⟩ = some (.bool ob.mark) := (B6.out.cell 9).trans rfl
      have b10 : w8.cell? ⟨O, 10, none⟩ = some (.slice pl ob.links.length ql) := (B6.out.cell 10).trans rfl
      have b11 : w8.cell? ⟨O, 11, none⟩ = some (.slice pd ob.data.length qd) := (B6.out.cell 11).trans rfl
      have b12 : w8.cell? ⟨O, 12, none⟩ = some (.slice pq ob.queue.length qq) := (B6.out.cell 12).trans rfl
      have e0 : w8.cell? ⟨O2, 0, none⟩ = some (.int .i64 q.gen) := (B8.out.cell 0).trans rfl
      have e1 : w8.cell? ⟨O2, 1, none⟩ = some (.int .i64 q.kind) := (B8.out.cell 1).trans rfl
      have e2 : w8.cell? ⟨O2, 2, none⟩ = some (.int .i64 q.box) := (B8.out.cell 2).trans rfl
      have e3 : w8.cell? ⟨O2, 3, none⟩ = some (.int .i64 q.res) := (B8.out.cell 3).trans rfl
      have e4 : w8.cell? ⟨O2, 4, none⟩ = some (.int .i64 q.til) := (B8.out.cell 4).trans rfl
      have e5 : w8.cell? ⟨O2, 5, none⟩ = some (.int .i64 q.pages) := (B8.out.cell 5).trans rfl
      have e6 : w8.cell? ⟨O2, 6, none⟩ = some (.int .i64 q.wait) := (B8.out.cell 6).trans rfl
      have e7 : w8.cell? ⟨O2, 7, none⟩ = some (.int .i64 q.got) := (B8.out.cell 7).trans rfl
      have e8 : w8.cell? ⟨O2, 8, none⟩ = some (.int .i64 q.ran) := (B8.out.cell 8).trans rfl
      have e9 : w8.cell? ⟨O2, 9, none⟩ = some (.bool q.mark) := (B8.out.cell 9).trans rfl
      have e10 : w8.cell? ⟨O2, 10, none⟩ = some (.slice yl q.links.length zl) := (B8.out.cell 10).trans rfl
      have e11 : w8.cell? ⟨O2, 11, none⟩ = some (.slice yd q.data.length zd) := (B8.out.cell 11).trans rfl
      have e12 : w8.cell? ⟨O2, 12, none⟩ = some (.slice yq q.queue.length zq) := (B8.out.cell 12).trans rfl
      cases tk : thingOk ob
      · have ds2 : (S.toList == ([] : List UInt8)) = true := by
          rw [ByteArray.toList_eq]
          show (bl S == []) = true
          rw [HSb.out, thing_void tk]; rfl
        go_wp2_with fail
        refine (specThingOk_any ob _ _ _ l1 l2 l3 (hideP HSM.out.w) w8 HTI.out).mono ?_
        rintro e w9 ⟨rfl, hw9⟩
        rw [tk]
        have HB := hideP (show Below w.heap.size w w9 by rw [hw9]; exact HB.out.alloc HB.out.size _)
        clear hw9
        go_wp2
        go_meet
        exact ⟨rfl, HB⟩
      · obtain ⟨hq1, hq2⟩ := HQ.out tk
        have hS0 : bl S ≠ [] := by rw [HSb.out]; exact thing_some tk
        have ds2 : (S.toList == ([] : List UInt8)) = false := by
          rw [ByteArray.toList_eq]
          show (bl S == []) = false
          simpa using hS0
        have ds4 : ((k : Int) != (S.size : Int)) = false := by
          have : S.size = k := by rw [← bl_length, HSb.out, hq2]
          rw [this]; simp
        have hqS : (⟨(showThing q).toArray⟩ : ByteArray) = S := bl_inj (by rw [bl_mk, HSb.out, hq1])
        have HQS := hideP hqS
        have HSM2 : Hid (Sm 200 false q) := hideP (by rw [← hq1]; exact HSM.out)
        clear hS0 hq1 hq2 hqS
        go_wp2_with fail
        refine (specThingOk_any ob _ _ _ l1 l2 l3 (hideP HSM.out.w) w8 HTI.out).mono ?_
        rintro e w9 ⟨rfl, hw9⟩
        rw [tk]
        have hb9 : Below w8.heap.size w8 w9 := by rw [hw9]; exact below_a1 w8 _
        have HB := hideP (HB.out.trans (hb9.mono HB.out.size))
        have B9 := hideP (B8.out.below hb9)
        have HQI := hideP (HQI.out.below hb9)
        clear hw9 hb9 e0 e1 e2 e3 e4 e5 e6 e7 e8 e9 e10 e11 e12
        have g0 : w9.cell? ⟨O2, 0, none⟩ = some (.int .i64 q.gen) := (B9.out.cell 0).trans rfl
        have g1 : w9.cell? ⟨O2, 1, none⟩ = some (.int .i64 q.kind) := (B9.out.cell 1).trans rfl
        have g2 : w9.cell? ⟨O2, 2, none⟩ = some (.int .i64 q.box) := (B9.out.cell 2).trans rfl
        have g3 : w9.cell? ⟨O2, 3, none⟩ = some (.int .i64 q.res) := (B9.out.cell 3).trans rfl
        have g4 : w9.cell? ⟨O2, 4, none⟩ = some (.int .i64 q.til) := (B9.out.cell 4).trans rfl
        have g5 : w9.cell? ⟨O2, 5, none⟩ = some (.int .i64 q.pages) := (B9.out.cell 5).trans rfl
        have g6 : w9.cell? ⟨O2, 6, none⟩ = some (.int .i64 q.wait) := (B9.out.cell 6).trans rfl
        have g7 : w9.cell? ⟨O2, 7, none⟩ = some (.int .i64 q.got) := (B9.out.cell 7).trans rfl
        have g8 : w9.cell? ⟨O2, 8, none⟩ = some (.int .i64 q.ran) := (B9.out.cell 8).trans rfl
        have g9 : w9.cell? ⟨O2, 9, none⟩ = some (.bool q.mark) := (B9.out.cell 9).trans rfl
        have g10 : w9.cell? ⟨O2, 10, none⟩ = some (.slice yl q.links.length zl) := (B9.out.cell 10).trans rfl
        have g11 : w9.cell? ⟨O2, 11, none⟩ = some (.slice yd q.data.length zd) := (B9.out.cell 11).trans rfl
        have g12 : w9.cell? ⟨O2, 12, none⟩ = some (.slice yq q.queue.length zq) := (B9.out.cell 12).trans rfl
        go_wp2_with fail
        refine (implShowObj_any q _ _ _ (by have := HSM2.out.l; omega) (by have := HSM2.out.d; omega) (by have := HSM2.out.q; omega) (hideP HSM2.out.w) w9 HQI.out).mono ?_
        rintro e w10 ⟨rfl, hb⟩
        rw [HQS.out]
        have HB := hideP (HB.out.trans (hb.mono HB.out.size))
        clear hb
        go_wp2
        go_meet
        exact ⟨rfl, HB⟩
    case rest =>
    clear HB HQ HTI HQI B6 B8 HSM HSb
    obtain ⟨rfl, HB⟩ := hcut
    go_wp2_with fail
    refine (drawShowArena_any _ _ _ cl Hn.out hs wc (HC.out.below HB.out)).mono ?_
    rintro e w4 ⟨v, m, ts, rfl, hm, ht, hb⟩
    obtain ⟨ap, ac, rfl, _⟩ := owns_slice ht.row
    obtain ⟨L, hL⟩ : ∃ L, L = ts.map (·.t) := ⟨_, rfl⟩
    have HLr : Hid (ThingsRd w4 ap L) := hideP (by rw [hL]; exact ht.rd)
    have HLs : Hid (Short 1048576 L) := hideP (by rw [hL]; exact ht.short (by decide))
    have HLn : Hid (L.length = m) := hideP (by rw [hL, List.length_map]; exact ht.len)
    have HB := hideP (HB.out.trans (hb.mono HB.out.size))
    clear ht hb hL
    go_wp2_with fail
    refine (implShowArena_n L ap ac m HLn.out (by omega) HLs.out w4 HLr.out).mono ?_
    rintro e w5 ⟨rfl, hb⟩
    have HLr := hideP (HLr.out.below hb)
    have HB := hideP (HB.out.trans (hb.mono HB.out.size))
    clear hb
    have HSZ : Hid ((⟨(showArena L).toArray⟩ : ByteArray).size ≤ maxLen) := hideP (by
      show (showArena L).toArray.size ≤ maxLen
      have h1 := shows_len L
      rw [HLn.out] at h1
      rw [List.size_toArray]
      unfold showArena maxLen
      split
      · omega
      · simp)
    go_wp2_with fail
    refine (implReadArena_any _ HSZ.out w5).mono ?_
    rintro e w6 hr
    rw [bl_mk] at hr
    obtain ⟨up, um, uc, ub, rfl, hub, hut, hb⟩ := hr.one
    rw [isSome_arena] at hub
    have HU : Hid (arenaOk L = true → um = L.length ∧ ThingsRd w6 up L) := hideP (fun e => ⟨(hut L (arena_back e)).1, (hut L (arena_back e)).2.2.2⟩)
    have HLr := hideP (HLr.out.below hb)
    have HB := hideP (HB.out.trans (hb.mono HB.out.size))
    clear hb hut hr HSZ
    subst hub
    go_upto_region 14 with fail
    go_cut [11, 12, 93] (fun _s4 _s5 s wx => s = .bool false ∧ Hid (Below w.heap.size w wx))
    case first =>
      cases tk : arenaOk L
      · go_wp2_with fail
        refine (specArenaOk_n L ap ac m HLn.out (by omega) HLs.out w6 HLr.out).mono ?_
        rintro e w7 ⟨rfl, hb⟩
        rw [tk]
        have HB := hideP (HB.out.trans (hb.mono HB.out.size))
        clear hb
        go_wp2
        go_meet
        exact ⟨rfl, HB⟩
      · obtain ⟨hum, hur⟩ := HU.out tk
        have HUR := hideP hur
        rw [HLn.out] at hum
        clear hur HU
        subst hum
        go_wp2_with fail
        refine (specArenaOk_n L ap ac um HLn.out (by omega) HLs.out w6 HLr.out).mono ?_
        rintro e w7 ⟨rfl, hb⟩
        rw [tk]
        have HLr := hideP (HLr.out.below hb)
        have HUR := hideP (HUR.out.below hb)
        have HB := hideP (HB.out.trans (hb.mono HB.out.size))
        clear hb
        go_wp2_with fail
        refine (sameArena_same L up ap uc ac um HLn.out (by omega) HLs.out w7 HUR.out HLr.out).mono ?_
        rintro e w8 ⟨rfl, hb⟩
        have HB := hideP (HB.out.trans (hb.mono HB.out.size))
        clear hb
        go_wp2
        go_meet
        exact ⟨rfl, HB⟩
    case rest =>
    clear HB HLr HLs HLn HU
    obtain ⟨rfl, HB⟩ := hcut
    go_wp2_with fail
    refine (drawReadArena_any _ _ _ cl Hn.out hs wc (HC.out.below HB.out)).mono ?_
    rintro e w4 ⟨S1, rfl, hS1, hb⟩
    have HB := hideP (HB.out.trans (hb.mono HB.out.size))
    clear hb
    go_wp2_with fail
    refine (implReadArena_any S1 (by unfold maxLen; omega) w4).mono ?_
    rintro e w5 hr
    obtain ⟨p1, m1, c1, b1, rfl, hb1, ht1, hb⟩ := hr.one
    have HT1 := hideP ht1
    have Hb1 := hideP hb1
    have HB := hideP (HB.out.trans (hb.mono HB.out.size))
    clear hb hr ht1 hb1
    go_wp2_with fail
    refine (drawReadTree_any _ _ _ cl Hn.out hs w5 (HC.out.below HB.out)).mono ?_
    rintro e w6 ⟨S2, rfl, hS2, hb⟩
    have HT1 : Hid (∀ t, readArena (bl S1) = some t → m1 = t.length ∧ t.length ≤ 10 ∧ Short 1048576 t ∧ ThingsRd w6 p1 t) := hideP (fun t e => ⟨(HT1.out t e).1, (HT1.out t e).2.1, (HT1.out t e).2.2.1, (HT1.out t e).2.2.2.below hb⟩)
    have HB := hideP (HB.out.trans (hb.mono HB.out.size))
    clear hb
    go_wp2_with fail
    refine (implReadTree_any S2 (by unfold maxLen; omega) w6).mono ?_
    rintro e w7 hr
    obtain ⟨p2, m2, c2, b2, rfl, hb2, ht2, hb⟩ := hr.one
    have HT1 : Hid (∀ t, readArena (bl S1) = some t → m1 = t.length ∧ t.length ≤ 10 ∧ Short 1048576 t ∧ ThingsRd w7 p1 t) := hideP (fun t e => ⟨(HT1.out t e).1, (HT1.out t e).2.1, (HT1.out t e).2.2.1, (HT1.out t e).2.2.2.below hb⟩)
    have HT2 := hideP ht2
    have Hb2 := hideP hb2
    have HB := hideP (HB.out.trans (hb.mono HB.out.size))
    clear hb hr ht2 hb2
    cases b1
    · cases b2
      · go_wp2
        go_ret
        exact ⟨rfl, HB.out⟩
      · obtain ⟨t2, ht2⟩ := Option.isSome_iff_exists.1 Hb2.out.symm
        obtain ⟨e1, e2⟩ := HT2.out t2 ht2
        have HR2 := hideP e2
        have HL2 := hideP (tree_len ht2)
        have HS2 : Hid ((⟨(showTree t2).toArray⟩ : ByteArray) = S2) := hideP (bl_inj (by rw [bl_mk]; exact tree_reads ht2))
        subst e1
        clear e2 ht2 HT2 HT1
        go_wp2_with fail
        refine (implShowTree_any p2 _ c2 t2 rfl (by have := HL2.out; omega) w7 HR2.out).mono ?_
        rintro e w8 ⟨rfl, hb⟩
        rw [HS2.out]
        have HB := hideP (HB.out.trans (hb.mono HB.out.size))
        clear hb
        go_wp2
        go_ret
        exact ⟨rfl, HB.out⟩
    · obtain ⟨t1, ht1⟩ := Option.isSome_iff_exists.1 Hb1.out.symm
      obtain ⟨e1, e2, e3, e4⟩ := HT1.out t1 ht1
      have HR1 := hideP e4
      have HS1' := hideP e3
      have HS1 : Hid ((⟨(showArena t1).toArray⟩ : ByteArray) = S1) := hideP (bl_inj (by rw [bl_mk]; exact arena_reads ht1))
      subst e1
      clear e3 e4 ht1 HT1
      go_wp2_with fail
      refine (implShowArena_n t1 p1 c1 _ rfl (by omega) HS1'.out w7 HR1.out).mono ?_
      rintro e w8 ⟨rfl, hb⟩
      rw [HS1.out]
      have HB := hideP (HB.out.trans (hb.mono HB.out.size))
      have HT2 : Hid (∀ t, readTree (bl S2) = some t → m2 = t.length ∧ Rd w8 p2 (t.flatMap Res.enc)) := hideP (fun t e => ⟨(HT2.out t e).1, (HT2.out t e).2.below hb⟩)
      clear hb
      cases b2
      · go_wp2
        go_ret
        exact ⟨rfl, HB.out⟩
      · obtain ⟨t2, ht2⟩ := Option.isSome_iff_exists.1 Hb2.out.symm
        obtain ⟨e1, e2⟩ := HT2.out t2 ht2
        have HR2 := hideP e2
        have HL2 := hideP (tree_len ht2)
        have HS2 : Hid ((⟨(showTree t2).toArray⟩ : ByteArray) = S2) := hideP (bl_inj (by rw [bl_mk]; exact tree_reads ht2))
        subst e1
        clear e2 ht2 HT2
        go_wp2_with fail
        refine (implShowTree_any p2 _ c2 t2 rfl (by have := HL2.out; omega) w8 HR2.out).mono ?_
        rintro e w9 ⟨rfl, hb⟩
        rw [HS2.out]
        have HB := hideP (HB.out.trans (hb.mono HB.out.size))
        clear hb
        go_wp2
        go_ret
        exact ⟨rfl, HB.out⟩
  · have d0 : decide (1048576 < n) = true := by simpa using hs
    go_enter Try.func3, Try.ntmps3
    go_wp2_with fail
    refine (big_any _ _ _ _ hl).mono ?_
    rintro e w' ⟨rfl, rfl⟩
    rw [d0]
    go_wp2
    go_ret
    exact ⟨rfl, Below.refl _ _⟩

end Go.Proofs.Ytabbncoihmhocaa

namespace Go.Proofs.Ytabbncoihmhocaa
open Go.ChangeShapes Go.WideShapes Go.ChangeAt Go.RowKit Go.Deep

theorem bytes_flat : ∀ l : List UInt8, l.flatMap (fun b : UInt8 => [Value.int .u8 (b.toNat : Int)]) = byteCells l
  | [] => rfl
  | x :: l => by rw [List.flatMap_cons, bytes_flat l]; rfl
/-- A code's bytes. -/
theorem decByte {H : Type} {enc : TypeId × Value → H} {W : World} (n : Nat) (cs : List Value) (y : DataW H × List MemPlace) (h : DataW.trod enc Try.prog W 0 (fun _ => true) true n 5 cs = some y) : ∃ x : UInt8, cs = [Value.int .u8 (x.toNat : Int)] := by
  obtain ⟨v, hv, _, hw⟩ := DataW.trod_int Try.underlying5 h
  simp [Lit.wf, IntKind.min, IntKind.max, IntKind.signed, IntKind.bits] at hw
  refine ⟨UInt8.ofNat v.toNat, ?_⟩
  rw [hv]
  have : ((UInt8.ofNat v.toNat).toNat : Int) = v := by
    rw [UInt8.toNat_ofNat', Nat.mod_eq_of_lt (by omega)]
    omega
  rw [this]

theorem q1FnImages (os : Os) : (World.plainHolding Try.checked.prog os ⟨#[], #[.slice none 0 0], []⟩).variablesB Try.checked.prog = true := by kernel_rfl
theorem q2FnImages (os : Os) : ((World.plainHolding Try.checked.prog os ⟨#[], #[.slice none 0 0], []⟩).heap.toList.drop Try.checked.prog.globals.size).take ((begin Try.checked.prog (fun _ _ => 0) default).world.heap.size - Try.checked.prog.globals.size) =
      (begin Try.checked.prog (fun _ _ => 0) default).world.heap.toList.drop Try.checked.prog.globals.size := by kernel_rfl
theorem q3FnImages (os : Os) : Input.okWideB Try.checked.prog (World.plainHolding Try.checked.prog os ⟨#[], #[.slice none 0 0], []⟩) 3 ⟨#[], #[.slice none 0 0], []⟩ = true := by kernel_rfl
theorem q4FnImages (os : Os) (H : Type) (enc : TypeId × Value → H) : Rows.fnImagesSpec.preB enc Try.checked.prog Try.f3 Rows.fnImagesRow.domain false (World.plainHolding Try.checked.prog os ⟨#[], #[.slice none 0 0], []⟩).memory #[.slice none 0 0] 8 = true := by kernel_rfl
theorem q5FnImages (os : Os) (H : Type) (enc : TypeId × Value → H) : Rows.fnImagesSpec.sizedB enc Try.checked.prog Try.f3 false (World.plainHolding Try.checked.prog os ⟨#[], #[.slice none 0 0], []⟩).memory #[.slice none 0 0] 8 = true := by kernel_rfl
theorem witFnImages (os : Os) (H : Type) (enc : TypeId × Value → H) : ∃ (w : World) (tape : Tape) (i : Input), w.os = os ∧ (w.forCall tape i).Shaped Try.checked.prog ∧ i.vars = [] ∧ Input.okWide Try.checked.prog (w.forCall tape i) .any w.heap.size 3 i ∧
      Rows.fnImagesSpec.pre6 enc Try.checked.prog Try.f3 Rows.fnImagesRow.domain false (w.forCall tape i).memory i.args ∧ ({} : Assume).holds Try.checked.prog (lone (Frame.enter Try.checked.prog 3 i.args .normal) [] (w.forCall tape i)) :=
    (ChangeSpec.witness6 (enc := enc) (C := Try.checked) false ⟨#[], #[.slice none 0 0], []⟩ 8 (q1FnImages os) (q2FnImages os) (q3FnImages os) (q4FnImages os H enc) (q5FnImages os H enc))
theorem r1FnImages : Try.checked.prog.inits.idxOf? 3 = none := by kernel_rfl
theorem r2FnImages : ownKnob Try.checked.prog.godebug = none := Try.own0
theorem r3FnImages : Try.checked.prog.funcs[3]? = some Try.f3 := Try.func3
theorem rdFnImages0 : Try.prog.readableRec 22 = true ∧ 22 < Try.prog.types.size := ⟨by kernel_rfl, of_decide_eq_true (by kernel_rfl)⟩
theorem rsFnImages : (Try.f3).resultTypes = #[4] := by kernel_rfl

set_option maxRecDepth 100000 in
theorem contractFnImages (H : Type) (enc : TypeId × Value → H) (W : World) (base : Nat) (args : Array Value) (ds gs : List (DataW H)) (before : List MemPlace)
    (hval : ∀ (j : Nat) t v, (Try.f3).params[j]? = some t → args[j]? = some v → Value.okWide Try.prog W .any base t v)
    (hW : DataW.Whole enc Try.prog (Try.f3).params.toList Rows.fnImagesSpec.vars false W args.toList ds gs before) :
    Calls Try.prog 3 args W fun e W' => ∃ v, e = .returned v ∧ Rows.fnImagesSpec.post enc Try.prog Try.f3 false true false false W args v W' := by
  have hW' := hW
  obtain ⟨p, q, hA0, hV, rfl, hfz, hnd⟩ := hW
  have hA : DataW.TrodAll enc Try.prog W 0 (fun _ => true) true (Try.f3).params.toList args.toList ds p := hA0
  rw [Try.params3] at hA hval
  obtain ⟨v0, vs0, d0, ds0, p0, q0, hargs, rfl, rfl, h0, r0⟩ := trodAll_cons hA
  obtain ⟨rfl, rfl, rfl⟩ := trodAll_nil r0
  obtain rfl : args = #[v0] := by cases args; simp_all
  obtain ⟨a0, n0, cap0, l0, rfl, hn0, hm0, hrd0⟩ := open_flat (fun b : UInt8 => [Value.int .u8 (b.toNat : Int)]) 1 Try.underlying22 (by kernel_rfl) (by decide) decByte (hval 0 22 v0 rfl rfl) h0
  rw [bytes_flat] at hrd0
  refine (lawFnImages_walk a0 n0 cap0 l0 hn0 hm0 W hrd0).mono fun e W' ⟨he, hb⟩ => ?_
  subst he
  refine ⟨_, rfl, law_post Try.laidOut0 ?_ rsFnImages Try.underlying4 rfl hW' rfl hb⟩
  rw [Try.params3]
  intro t ht
  simp only [List.mem_cons, List.not_mem_nil, or_false] at ht
  subst ht
  exact rdFnImages0

theorem liftedFnImages (os : Os) (started : os.Started) (H : Type) (enc : TypeId × Value → H) :
    ReturnsInHanded {} Try.checked os 3 .any (Rows.fnImagesSpec.pre6 enc Try.checked.prog Try.f3 Rows.fnImagesRow.domain false) (Rows.fnImagesSpec.post enc Try.checked.prog Try.f3 false true false false) := by
  refine returnsInHanded_of_change (C := Try.checked) r2FnImages started r1FnImages r3FnImages (witFnImages os H enc) ?_
  rw [Try.progEq0]
  intro W base args ds gs before hval hW hcnd _
  exact contractFnImages H enc W base args ds gs before @hval hW

theorem lifted2FnImages (os : Os) (started : os.Started) (H : Type) (enc : TypeId × Value → H) :
    ReturnsInHanded {} Try.checked os 3 .any (Rows.fnImagesSpec.pre6 enc Try.prog Try.f3 Rows.fnImagesRow.domain false) (Rows.fnImagesSpec.post enc Try.prog Try.f3 false true false false) := by
  have h := liftedFnImages os started H enc
  rw [Try.progEq0] at h
  exact h

theorem FnImages_holds : Rows.FnImagesSaid :=
  OpenClaim.holds_of_wide 3 Try.f3 rfl rfl rfl rfl rfl rfl rfl ⟨rfl, rfl, rfl, rfl, rfl⟩ rfl rfl rfl rfl rfl (by kernel_rfl) Try.func3 (by kernel_rfl)
    (of_decide_eq_true (by kernel_rfl)) (by unfold Func.isWrapper; first | (rw [if_pos (by decide +kernel)]; kernel_rfl) | (rw [if_neg (by decide +kernel)]; exact ⟨rfl, rfl⟩))
    (fun os started H enc _ => lifted2FnImages os started H enc)
#print axioms FnImages_holds

end Go.Proofs.Ytabbncoihmhocaa
