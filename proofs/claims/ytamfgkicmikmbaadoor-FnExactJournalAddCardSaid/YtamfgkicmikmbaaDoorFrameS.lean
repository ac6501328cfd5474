/- The reference's frame. -/
import Derived.Test.YtamfgkicmikmbaaDoorFixed
import Derived.Test.YtamfgkicmikmbaaDoorCrc
import Derived.Test.YtamfgkicmikmbaaDoorVarW
import Derived.Deep.LoopGhost
namespace Go.Proofs.YtamfgkicmikmbaaDoor
open Go.RowKit

set_option maxRecDepth 100000 in
set_option maxHeartbeats 4000000 in
theorem l24Frame_any (s : ByteArray) (hs : s.size ≤ 1048576) (w : World) :
    Calls Tryd.prog 23 #[.string s] w fun e w' => e = .returned (.string ⟨(frameOf (bl s)).toArray⟩) ∧ Below w.heap.size w w' := by
  have hv := varS_len (s.size : Int)
  have hsl := bl_length s
  have HF : Hid (frameOf (bl s) = low 4 (crc (varS (s.size : Int) ++ bl s)) ++ (varS (s.size : Int) ++ bl s)) := hideP (by unfold frameOf; rw [hsl])
  obtain ⟨V, hV⟩ : ∃ V, varS (s.size : Int) = V := ⟨_, rfl⟩
  rw [hV] at hv HF
  have hlc := crc_lt (V ++ bl s)
  go_enter Tryd.func23, Tryd.ntmps23
  go_wp2_with fail
  refine (specVar_any _ _).mono ?_
  rw [hV]
  rintro e w1 ⟨rfl, hb1⟩
  have HB := hideP hb1
  clear hb1 hV
  obtain ⟨t, ht⟩ : ∃ t, ({ data := V.toArray } : ByteArray) ++ s = t := ⟨_, rfl⟩
  have hbt : bl t = V ++ bl s := by rw [← ht]; simp [bl]
  have hts : t.size ≤ 2097152 := by rw [← bl_length t, hbt, List.length_append, hsl]; omega
  have HT := hideP hbt
  clear hbt
  go_wp2_with fail
  refine (specCrc_any t hts _).mono ?_
  rw [HT.out]
  rintro e w2 ⟨rfl, rfl⟩
  go_wp2_with fail
  refine (specFixed_any _ (by omega) _).mono ?_
  rintro e w2 ⟨rfl, hb2⟩
  have HB := hideP (HB.out.trans (hb2.mono HB.out.size))
  clear hb2
  have hll : (low 4 (crc (V ++ bl s))).length ≤ 4 := by rw [low_len]; exact Nat.le_refl _
  have HR : Hid (Value.string (({ data := (low 4 (crc (V ++ bl s))).toArray } : ByteArray) ++ t) = .string ⟨(frameOf (bl s)).toArray⟩) := hideP (by
    rw [HF.out, ← HT.out]
    congr 1
    first | done | (apply ByteArray.ext; simp [bl]))
  go_wp2
  go_ret
  exact ⟨by rw [← HR.out]; rfl, HB.out⟩

end Go.Proofs.YtamfgkicmikmbaaDoor
