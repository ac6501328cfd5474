/- l24Split of the reference. -/
import Derived.Test.YtamfgkicmikmbaaDoorReadEntryP
import Derived.Test.YtamfgkicmikmbaaDoorShowEntry
import Derived.Test.YtamfgkicmikmbaaDoorApp
import Derived.Deep.LoopGhost
namespace Go.Proofs.YtamfgkicmikmbaaDoor
open Go.RowKit

set_option maxRecDepth 100000 in
set_option maxHeartbeats 4000000 in
theorem l24Split_any (s : ByteArray) (hs : s.size ≤ 1048576) (w : World) :
    Calls Tryd.prog 17 #[.string s, .int .u8 32] w fun e w' => ∃ v, e = .returned v ∧ w'.ownsRow w.heap.size 9 1 v (cutS 32 (bl s)).length ((cutS 32 (bl s)).map strV) ∧ Below w.heap.size w w' := by
  obtain ⟨i0, hi, hz0, hz1, hz2⟩ := info_parts Tryd.infoStr
  go_enter Tryd.func17, Tryd.ntmps17
  have HO : Hid ((w.alloc (.cells #[] 9)).ownsRow w.heap.size 9 1 (.slice (some ⟨w.heap.size, 0, none⟩) 0 0) 0 (([] : List (List UInt8)).map strV)) := hideP (owns_lit (by omega) rfl (by decide) rfl rfl)
  have HB := hideP (below_a1 w (.cells #[] 9))
  go_wp2
  go_loopg [5, 6, 7] (s.size + 1) (fun gk sv fv iv wr => ∃ (k fr : Nat) (done : List (List UInt8)) (p : Option Addr) (c : Nat), s.size < gk + k ∧ k ≤ s.size ∧ fr ≤ k ∧ done.length ≤ k ∧ iv = .int .i64 (k : Int) ∧ fv = .int .i64 (fr : Int) ∧ sv = .slice p done.length c ∧ Hid (wr.ownsRow w.heap.size 9 1 (.slice p done.length c) done.length (done.map strV)) ∧ Hid (cutS 32 (bl s) = done ++ glue (((bl s).drop fr).take (k - fr)) (cutS 32 ((bl s).drop k))) ∧ Hid (Below w.heap.size w wr))
  case atStart => exact ⟨0, 0, [], _, _, by omega, by omega, by omega, by simp, rfl, rfl, rfl, HO, hideP (by simp [glue_nil]), HB⟩
  case round =>
    clear HO HB
    obtain ⟨k, fr, done, p, c, hgk, hks, hfr, hdk, rfl, rfl, rfl, HO, HC, HB⟩ := hrel
    by_cases hlt : k < s.size
    · have k1 : (k : Int) < (s.size : Int) := by omega
      have k0 : (0 : Int) ≤ (k : Int) := by omega
      have k2 : (k : Int) ≤ (s.size : Int) := by omega
      have k3 : (fr : Int) ≤ (k : Int) := by omega
      have hc := UInt8.toNat_lt s[k]
      by_cases h32 : s[k].toNat = 32
      · have hce : (((s[k]'hlt).toNat : Int) == 32) = true := by simp [h32]
        have HC1 : Hid (cutS 32 (bl s) = (done ++ [((bl s).drop fr).take (k - fr)]) ++ glue (((bl s).drop (k + 1)).take (k + 1 - (k + 1))) (cutS 32 ((bl s).drop (k + 1)))) := hideP (by
          rw [HC.out, bl_drop hlt, show s[k] = 32 from UInt8.toNat_inj.1 h32, glue_hit, Nat.sub_self, List.take_zero, glue_nil, List.append_assoc]
          rfl)
        have HV : Hid (Value.string (s.extract fr k) = strV (((bl s).drop fr).take (k - fr))) := hideP (by
          rw [← bl_extract]
          show _ = Value.string ⟨(s.extract fr k).data.toList.toArray⟩
          rw [Array.toArray_toList])
        clear h32
        go_wp2_with (at_builtin; refine wpList_append_rd _ rfl _ _ 42 rfl w.heap.size 9 i0 (.string ⟨#[]⟩) 1 16 Tryd.underlying42 hi hz0 hz1 hz2 rfl (by decide) _ done.length _ rfl (World.ownsRow.alloc HO.out _) _ 1 1 [.string (s.extract fr k)] rfl rfl (rd_lit rfl) ?c1 ?c2 ?c3 ?c4 ?_)
        case c1 => simp [Value.oneCell']
        case c2 => unfold maxLen; omega
        case c3 => omega
        case c4 => have := HB.out.size; simp; omega
        intro v9 w9 ho9 hg9
        rw [HV.out] at ho9
        obtain ⟨p9, c9, rfl, _⟩ := owns_slice ho9
        have HO9 : Hid (w9.ownsRow w.heap.size 9 1 (.slice p9 (done.length + 1) c9) (done ++ [((bl s).drop fr).take (k - fr)]).length ((done ++ [((bl s).drop fr).take (k - fr)]).map strV)) := hideP (by rw [List.map_append, List.length_append]; exact ho9)
        have HB9 := hideP ((HB.out.alloc HB.out.size (.cells #[.string (s.extract fr k)] 9)).grown hg9 (by have := HB.out.size; simp; omega) (fun q e => (HO.out.lt q e).1))
        clear ho9 hg9 HO HB HC HV
        go_wp2
        go_roundg (gk - 1)
        case measure => omega
        case rel => exact ⟨k + 1, k + 1, _, p9, c9, by omega, by omega, by omega, by simp; omega, by go_num, by go_num, by simp, by simpa using HO9, HC1, HB9⟩
      · have hce : (((s[k]'hlt).toNat : Int) == 32) = false := by simp; omega
        have HC1 : Hid (cutS 32 (bl s) = done ++ glue (((bl s).drop fr).take (k + 1 - fr)) (cutS 32 ((bl s).drop (k + 1)))) := hideP (by
          rw [HC.out, bl_drop hlt, glue_miss _ _ (fun e => h32 (by rw [e]; rfl))]
          congr 2
          rw [show k + 1 - fr = k - fr + 1 by omega]
          exact (take_snoc (by rw [List.getElem?_drop, show fr + (k - fr) = k by omega]; exact bl_get hlt)).symm)
        clear h32 HC
        go_wp2
        go_roundg (gk - 1)
        case measure => omega
        case rel => exact ⟨k + 1, fr, _, p, c, by omega, by omega, by omega, by omega, by go_num, rfl, rfl, HO, HC1, HB⟩
    · obtain rfl : k = s.size := by omega
      have k3 : (fr : Int) ≤ (s.size : Int) := by omega
      have HC1 : Hid (cutS 32 (bl s) = done ++ [(bl s).drop fr]) := hideP (by
        rw [HC.out, show (bl s).drop s.size = [] from List.drop_of_length_le (by rw [bl_length]; exact Nat.le_refl _), glue_end, List.take_of_length_le (by rw [List.length_drop, bl_length]; exact Nat.le_refl _)])
      have HV : Hid (Value.string (s.extract fr s.size) = strV ((bl s).drop fr)) := hideP (by
        rw [← bl_from]
        show _ = Value.string ⟨(s.extract fr s.size).data.toList.toArray⟩
        rw [Array.toArray_toList])
      clear HC
      go_wp2_with (at_builtin; refine wpList_append_rd _ rfl _ _ 42 rfl w.heap.size 9 i0 (.string ⟨#[]⟩) 1 16 Tryd.underlying42 hi hz0 hz1 hz2 rfl (by decide) _ done.length _ rfl (World.ownsRow.alloc HO.out _) _ 1 1 [.string (s.extract fr s.size)] rfl rfl (rd_lit rfl) ?d1 ?d2 ?d3 ?d4 ?_)
      case d1 => simp [Value.oneCell']
      case d2 => unfold maxLen; omega
      case d3 => omega
      case d4 => have := HB.out.size; simp; omega
      intro v9 w9 ho9 hg9
      rw [HV.out] at ho9
      obtain ⟨p9, c9, rfl, _⟩ := owns_slice ho9
      have HO9 : Hid (w9.ownsRow w.heap.size 9 1 (.slice p9 (done.length + 1) c9) (cutS 32 (bl s)).length ((cutS 32 (bl s)).map strV)) := hideP (by rw [HC1.out, List.map_append, List.length_append]; exact ho9)
      have HB9 := hideP ((HB.out.alloc HB.out.size (.cells #[.string (s.extract fr s.size)] 9)).grown hg9 (by have := HB.out.size; simp; omega) (fun q e => (HO.out.lt q e).1))
      clear ho9 hg9 HO HB HV
      go_wp2
      go_ret
      exact ⟨_, rfl, HO9.out, HB9.out⟩

end Go.Proofs.YtamfgkicmikmbaaDoor
