/- Crc of both sides. -/
import Derived.Test.YtamfgkicmikmbaaDoorJournalP
import Derived.Test.YtamfgkicmikmbaaDoorSmall
import Derived.Deep.LoopGhost
namespace Go.Proofs.YtamfgkicmikmbaaDoor
open Go.RowKit

set_option maxRecDepth 100000 in
set_option maxHeartbeats 4000000 in
theorem implCrc_any (s : ByteArray) (hs : s.size ≤ 2097152) (w : World) :
    Calls Tryd.prog 32 #[.string s] w fun e w' => e = .returned (.int .i64 (crc (bl s) : Int)) ∧ w = w' := by
  go_enter Tryd.func32, Tryd.ntmps32
  go_wp2
  go_loopg [3, 4] (s.size + 1) (fun gk cv iv wr => ∃ (k c : Nat), s.size < gk + k ∧ k ≤ s.size ∧ c < 4294967296 ∧ iv = .int .i64 (k : Int) ∧ cv = .int .i64 (c : Int) ∧ Hid (((bl s).take k).foldl crcByte 4294967295 = c) ∧ wr = w)
  case atStart => exact ⟨0, 4294967295, by omega, by omega, by omega, rfl, rfl, hideP rfl, rfl⟩
  case round =>
    obtain ⟨k, c, hgk, hks, hc, rfl, rfl, HC, rfl⟩ := hrel
    obtain ⟨gko, rfl⟩ : ∃ gko : Nat, gko = gk := ⟨_, rfl⟩
    by_cases hlt : k < s.size
    · have k1 : (k : Int) < (s.size : Int) := by omega
      have k0 : (0 : Int) ≤ (k : Int) := by omega
      have hb := UInt8.toNat_lt s[k]
      have HX := hideP (xor64 c (s[k]'hlt).toNat (by omega) (by omega))
      have hx := Nat.xor_lt_two_pow (n := 32) (show c < 2 ^ 32 by omega) (show (s[k]'hlt).toNat < 2 ^ 32 by omega)
      obtain ⟨c1, hc1⟩ : ∃ c1, c ^^^ (s[k]'hlt).toNat = c1 := ⟨_, rfl⟩
      rw [hc1] at HX hx
      have HT : Hid (((bl s).take (k + 1)).foldl crcByte 4294967295 = crcIter 8 c1) := hideP (by
        rw [List.take_add_one, bl_get hlt, List.foldl_append, HC.out]
        show crcIter 8 (c ^^^ s[k].toNat) = _
        rw [hc1])
      clear hc1 HC
      go_wp2
      go_loopg [3, 18] 9 (fun gk cv jv wr' => ∃ (j d : Nat), 8 < gk + j ∧ j ≤ 8 ∧ d < 4294967296 ∧ jv = .int .i64 (j : Int) ∧ cv = .int .i64 (d : Int) ∧ Hid (crcIter j c1 = d) ∧ wr' = wr)
      case atStart => exact ⟨0, c1, by omega, by omega, by omega, rfl, by rw [HX.out], hideP rfl, rfl⟩
      case round =>
        obtain ⟨j, d, hgj, hj, hd, rfl, rfl, HD, rfl⟩ := hrel
        by_cases hlj : j < 8
        · have j1 : (j : Int) < 8 := by omega
          by_cases ho : d % 2 = 1
          · have ho1 : ((d : Int) % 2 == 1) = true := by simp; omega
            have HY := hideP (xor64 (d / 2) 2197175160 (by omega) (by decide))
            have HS : Hid (crcIter (j + 1) c1 = (d / 2) ^^^ 2197175160) := hideP (by rw [crcIter, HD.out]; unfold crcStep; rw [if_pos ho])
            have hy := Nat.xor_lt_two_pow (n := 32) (show d / 2 < 2 ^ 32 by omega) (show 2197175160 < 2 ^ 32 by decide)
            clear ho
            go_wp2
            go_roundg (gk - 1)
            case measure => omega
            case rel => exact ⟨j + 1, _, by omega, by omega, by omega, by go_num, congrArg (Value.int .i64) HY.out, HS, rfl⟩
          · have ho1 : ((d : Int) % 2 == 1) = false := by simp; omega
            have HS : Hid (crcIter (j + 1) c1 = d / 2) := hideP (by rw [crcIter, HD.out]; unfold crcStep; rw [if_neg ho])
            clear ho
            go_wp2
            go_roundg (gk - 1)
            case measure => omega
            case rel => exact ⟨j + 1, _, by omega, by omega, by omega, by go_num, by push_cast; rfl, HS, rfl⟩
        · obtain rfl : j = 8 := by omega
          have HT2 : Hid (((bl s).take (k + 1)).foldl crcByte 4294967295 = d) := hideP (by rw [HT.out, HD.out])
          go_wp2
          go_roundg (gko - 1)
          case measure => omega
          case rel => exact ⟨k + 1, d, by omega, by omega, by omega, by go_num, rfl, HT2, rfl⟩
    · obtain rfl : k = s.size := by omega
      have HE : Hid ((crc (bl s) : Int) = 4294967295 - (c : Int)) := hideP (by
        have := HC.out
        rw [List.take_of_length_le (by rw [bl_length]; exact Nat.le_refl _)] at this
        unfold crc crcAcc
        rw [this]
        omega)
      go_wp2
      go_ret
      exact ⟨by rw [HE.out]; rfl, rfl⟩
set_option maxRecDepth 100000 in
set_option maxHeartbeats 4000000 in
theorem specCrc_any (s : ByteArray) (hs : s.size ≤ 2097152) (w : World) :
    Calls Tryd.prog 40 #[.string s] w fun e w' => e = .returned (.int .i64 (crc (bl s) : Int)) ∧ w = w' := by
  go_enter Tryd.func40, Tryd.ntmps40
  go_wp2
  go_loopg [3, 4] (s.size + 1) (fun gk cv iv wr => ∃ (k c : Nat), s.size < gk + k ∧ k ≤ s.size ∧ c < 4294967296 ∧ iv = .int .i64 (k : Int) ∧ cv = .int .i64 (c : Int) ∧ Hid (((bl s).take k).foldl crcByte 4294967295 = c) ∧ wr = w)
  case atStart => exact ⟨0, 4294967295, by omega, by omega, by omega, rfl, rfl, hideP rfl, rfl⟩
  case round =>
    obtain ⟨k, c, hgk, hks, hc, rfl, rfl, HC, rfl⟩ := hrel
    obtain ⟨gko, rfl⟩ : ∃ gko : Nat, gko = gk := ⟨_, rfl⟩
    by_cases hlt : k < s.size
    · have k1 : (k : Int) < (s.size : Int) := by omega
      have k0 : (0 : Int) ≤ (k : Int) := by omega
      have hb := UInt8.toNat_lt s[k]
      have HX := hideP (xor64 c (s[k]'hlt).toNat (by omega) (by omega))
      have hx := Nat.xor_lt_two_pow (n := 32) (show c < 2 ^ 32 by omega) (show (s[k]'hlt).toNat < 2 ^ 32 by omega)
      obtain ⟨c1, hc1⟩ : ∃ c1, c ^^^ (s[k]'hlt).toNat = c1 := ⟨_, rfl⟩
      rw [hc1] at HX hx
      have HT : Hid (((bl s).take (k + 1)).foldl crcByte 4294967295 = crcIter 8 c1) := hideP (by
        rw [List.take_add_one, bl_get hlt, List.foldl_append, HC.out]
        show crcIter 8 (c ^^^ s[k].toNat) = _
        rw [hc1])
      clear hc1 HC
      go_wp2
      go_loopg [3, 5] 9 (fun gk cv jv wr' => ∃ (j d : Nat), 8 < gk + j ∧ j ≤ 8 ∧ d < 4294967296 ∧ jv = .int .i64 (j : Int) ∧ cv = .int .i64 (d : Int) ∧ Hid (crcIter j c1 = d) ∧ wr' = wr)
      case atStart => exact ⟨0, c1, by omega, by omega, by omega, rfl, by rw [HX.out], hideP rfl, rfl⟩
      case round =>
        obtain ⟨j, d, hgj, hj, hd, rfl, rfl, HD, rfl⟩ := hrel
        by_cases hlj : j < 8
        · have j1 : (j : Int) < 8 := by omega
          by_cases ho : d % 2 = 1
          · have ho1 : ((d : Int) % 2 == 1) = true := by simp; omega
            have HY := hideP (xor64 (d / 2) 2197175160 (by omega) (by decide))
            have HS : Hid (crcIter (j + 1) c1 = (d / 2) ^^^ 2197175160) := hideP (by rw [crcIter, HD.out]; unfold crcStep; rw [if_pos ho])
            have hy := Nat.xor_lt_two_pow (n := 32) (show d / 2 < 2 ^ 32 by omega) (show 2197175160 < 2 ^ 32 by decide)
            clear ho
            go_wp2
            go_roundg (gk - 1)
            case measure => omega
            case rel => exact ⟨j + 1, _, by omega, by omega, by omega, by go_num, congrArg (Value.int .i64) HY.out, HS, rfl⟩
          · have ho1 : ((d : Int) % 2 == 1) = false := by simp; omega
            have HS : Hid (crcIter (j + 1) c1 = d / 2) := hideP (by rw [crcIter, HD.out]; unfold crcStep; rw [if_neg ho])
            clear ho
            go_wp2
            go_roundg (gk - 1)
            case measure => omega
            case rel => exact ⟨j + 1, _, by omega, by omega, by omega, by go_num, by push_cast; rfl, HS, rfl⟩
        · obtain rfl : j = 8 := by omega
          have HT2 : Hid (((bl s).take (k + 1)).foldl crcByte 4294967295 = d) := hideP (by rw [HT.out, HD.out])
          go_wp2
          go_roundg (gko - 1)
          case measure => omega
          case rel => exact ⟨k + 1, d, by omega, by omega, by omega, by go_num, rfl, HT2, rfl⟩
    · obtain rfl : k = s.size := by omega
      have HE : Hid ((crc (bl s) : Int) = 4294967295 - (c : Int)) := hideP (by
        have := HC.out
        rw [List.take_of_length_le (by rw [bl_length]; exact Nat.le_refl _)] at this
        unfold crc crcAcc
        rw [this]
        omega)
      go_wp2
      go_ret
      exact ⟨by rw [HE.out]; rfl, rfl⟩

end Go.Proofs.YtamfgkicmikmbaaDoor
