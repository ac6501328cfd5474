/- The walk of the reader's list. -/
import Derived.Test.YtabbncoihmhocaaThingRet
import Derived.Test.YtabbncoihmhocaaKeep
import Derived.Deep.LoopGhost
namespace Go.Proofs.Ytabbncoihmhocaa
open Go.RowKit

set_option maxRecDepth 100000 in
set_option maxHeartbeats 8000000 in
theorem list_any (g : Nat) (s : ByteArray) (a : Nat) (b : Bool) (c : Int) (hs : s.size ≤ maxLen) (ha : a ≤ s.size) (hc : 0 ≤ c ∧ c ≤ 1) (w : World) (hB : Blk w g 53 [.string s, .int .i64 (a : Int), .bool b]) :
    Calls Try.prog 33 #[.pointer (some ⟨g, 0, none⟩), .int .i64 c] w fun e w' => ∃ v, e = .returned v ∧ w'.ownsRow w.heap.size 3 1 v (rList (bl s) a b c).1.length (icell (rList (bl s) a b c).1) ∧ Blk w' g 53 [.string s, .int .i64 ((rList (bl s) a b c).2.1 : Int), .bool (rList (bl s) a b c).2.2] ∧ w.grownBy w' (some g) := by
  obtain ⟨hc0, hc1⟩ := hc
  obtain ⟨i0, hi, hz0, hz1, hz2⟩ := info_parts Try.infoInt
  have hgw : g < w.heap.size := hB.lt
  obtain ⟨n, A, f, h0⟩ : ∃ n A' b', rNum (bl s) a b = (n, A', b') := ⟨_, _, _, rfl⟩
  have hA : A ≤ s.size := by have := (rNum_le (l := bl s) (a := a) (b := b) (by rw [bl_length]; exact ha)).1; rw [h0, bl_length] at this; exact this
  have hn : n ≤ 562949953421311 := by have := (rNum_le (l := bl s) (a := a) (b := b) (by rw [bl_length]; exact ha)).2; rw [h0] at this; exact this
  have HN := hideP (number_any (s := s) (a := a) (b := b) (hs := hs) (ha := ha))
  rw [h0] at HN
  dsimp only at HN
  have HR : Hid (rList (bl s) a b c = if 10 < n then ([], A, true) else ((ints (rNums (bl s) A f n).1).map (· - c), (rNums (bl s) A f n).2)) := hideP (by unfold rList; rw [h0])
  have HB0 := hideP (hB.alloc (.cells #[] 3))
  have HO0 : Hid ((w.alloc (.cells #[] 3)).ownsRow w.heap.size 3 1 (.slice (some ⟨w.heap.size, 0, none⟩) 0 0) 0 []) := hideP (owns_lit (Nat.le_refl _) rfl (by decide) (by simp) rfl)
  clear h0 hB
  go_enter Try.func33, Try.ntmps33
  go_wp2_with fail
  refine (HN.out g _ HB0.out).mono ?_
  rintro e w1 ⟨rfl, hB1, hg1⟩
  have HB1 := Lib.hid hB1
  have HO1 := hideP (owns_other HO0.out hg1 hgw)
  have HG1 : Hid (w.grownBy w1 (some g)) := hideP (grown_tr (grown_of_below (below_a1 w (.cells #[] 3))) hg1)
  clear hg1
  by_cases h10 : 10 < n
  · rw [if_pos h10] at HR
    have d1 : (10 : Int) < (n : Int) := by omega
    have c2 := hB1.cell 2
    have f2 := hB1.frozen 2
    simp only [List.getElem?_cons_zero, List.getElem?_cons_succ] at c2
    have HB2 := hideP (HB1.out.set 2 (.bool true))
    have HG2 := hideP (grown_set1 (i := 2) (v := .bool true) HG1.out)
    have HO2 := hideP (owns_other HO1.out (grown_set1 (i := 2) (v := .bool true) (World.grownBy.refl _ _)) hgw)
    clear hB1 h10
    go_wp2
    go_ret
    exact ⟨_, rfl, by rw [HR.out]; exact HO2.out, by rw [HR.out]; exact HB2.out, HG2.out⟩
  · rw [if_neg h10] at HR
    have d1 : ¬ (10 : Int) < (n : Int) := by omega
    clear hB1
    go_wp2
    go_loopg [5, 18] (n + 1) (fun gk v i wr => ∃ (k : Nat) (ns : List Nat) (A' : Nat) (f' : Bool), n < gk + k ∧ k ≤ n ∧ i = .int .i64 (k : Int) ∧ A' ≤ s.size ∧ Hid (rNums (bl s) A f k = (ns, A', f')) ∧ Hid (wr.ownsRow w.heap.size 3 1 v k (icell ((ints ns).map (· - c)))) ∧ Hid (Blk wr g 53 [.string s, .int .i64 (A' : Int), .bool f']) ∧ Hid (w.grownBy wr (some g)))
    case atStart => exact ⟨0, [], A, f, by omega, by omega, rfl, hA, hideP rfl, HO1, HB1, HG1⟩
    case round =>
      clear HO1 HB1 HG1
      obtain ⟨k, ns, A', f', hgk, hk, rfl, hA', hq, hO, hB, hG⟩ := hrel
      by_cases hlt : k < n
      · obtain ⟨n', A2, f2, h0⟩ : ∃ x y z, rNum (bl s) A' f' = (x, y, z) := ⟨_, _, _, rfl⟩
        have hA2 : A2 ≤ s.size := by have := (rNum_le (l := bl s) (a := A') (b := f') (by rw [bl_length]; exact hA')).1; rw [h0, bl_length] at this; exact this
        have hn' : n' ≤ 562949953421311 := by have := (rNum_le (l := bl s) (a := A') (b := f') (by rw [bl_length]; exact hA')).2; rw [h0] at this; exact this
        have HN2 := hideP (number_any (s := s) (a := A') (b := f') (hs := hs) (ha := hA'))
        rw [h0] at HN2
        dsimp only at HN2
        have HQ : Hid (rNums (bl s) A f (k + 1) = (ns ++ [n'], A2, f2)) := hideP (by rw [rNums, hq.out]; dsimp only; rw [h0])
        have ka := (Nat.lt_of_lt_of_le hgw hG.out.size)
        clear h0
        obtain ⟨va, vc, rfl, _⟩ := owns_slice hO.out
        go_wp2_with fail
        refine (HN2.out g _ hB.out).mono ?_
        rintro e w2 ⟨rfl, hB2, hg2⟩
        have HB2 := Lib.hid hB2
        have HO2 := hideP (owns_other hO.out hg2 hgw)
        have HG2 := hideP (grown_tr hG.out hg2)
        have hz2' : w.heap.size ≤ w2.heap.size := HG2.out.size
        clear hB2 hg2
        go_wp2_with (at_builtin; refine wpList_append_rd _ rfl _ _ 31 rfl w.heap.size 3 i0 (.int .i64 0) 1 8 Try.underlying31 hi hz0 hz1 hz2 rfl (by decide) _ _ _ rfl (HO2.out.alloc _) _ 1 1 [.int .i64 ((n' : Int) - c)] rfl rfl (rd_litg (by rfl) (by simp)) ?c1 ?c2 ?c3 ?c4 ?_)
        case c1 => simp [Value.oneCell']
        case c2 => unfold maxLen; omega
        case c3 => omega
        case c4 => simp; omega
        intro v' w9 ho9 hg9
        have HO9 : Hid (w9.ownsRow w.heap.size 3 1 v' (k + 1) (icell ((ints (ns ++ [n'])).map (· - c)))) := hideP (by
          have : icell ((ints (ns ++ [n'])).map (· - c)) = icell ((ints ns).map (· - c)) ++ [.int .i64 ((n' : Int) - c)] := by simp [ints, icell]
          rw [this]; exact ho9)
        have HB9 := hideP ((HB2.out.alloc (.cells #[.int .i64 ((n' : Int) - c)] 3)).kept (hg9.block _ (HB2.out.alloc _).lt (fun e => by have := (HO2.out.lt g e.symm).1; omega)))
        have HG9 := hideP (grown_own (grown_tr HG2.out (grown_of_below (below_a1 w2 (.cells #[.int .i64 ((n' : Int) - c)] 3)))) hg9 (fun q hq => (HO2.out.lt q hq).1))
        clear ho9 hg9
        go_wp2
        go_roundg (gk - 1)
        case measure => omega
        case rel => exact ⟨k + 1, _, A2, f2, by omega, by omega, by go_num, hA2, HQ, HO9, HB9, HG9⟩
      · have hkn : k = n := by omega
        subst hkn
        rw [hq.out] at HR
        dsimp only at HR
        have HL : Hid (((ints ns).map (· - c)).length = k) := hideP (by have := (rNums_le (l := bl s) (a := A) (b := f) (by rw [bl_length]; exact hA) k).2.1; rw [hq.out] at this; rw [List.length_map, ints_len]; exact this)
        go_wp2
        go_ret
        exact ⟨_, rfl, by rw [HR.out, HL.out]; exact hO.out, by rw [HR.out]; exact hB.out, hG.out⟩

end Go.Proofs.Ytabbncoihmhocaa
