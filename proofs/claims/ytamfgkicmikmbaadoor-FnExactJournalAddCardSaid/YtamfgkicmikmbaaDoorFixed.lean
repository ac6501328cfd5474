/- Fixed and ReadFixed. -/
import Derived.Test.YtamfgkicmikmbaaDoorJournalP
import Derived.Test.YtamfgkicmikmbaaDoorSmall
import Derived.Test.YtamfgkicmikmbaaDoorVarW
import Derived.Test.YtamfgkicmikmbaaDoorKeep
import Derived.Deep.LoopGhost
namespace Go.Proofs.YtamfgkicmikmbaaDoor
open Go.RowKit

theorem shl8 (n : Nat) (h : n < 4294967296) : wrap64 ((n : Int) * 256) = ((n * 256 : Nat) : Int) := by
  rw [wrap64_in _ (by omega), Int.natCast_mul]
  rfl
theorem or256 (n b : Nat) (h : n < 4294967296) (hb : b < 256) : bits .or .i64 ((n * 256 : Nat) : Int) (b : Int) = ((n * 256 + b : Nat) : Int) := by
  rw [bits_join .i64 63 (by decide) (fun n h0 h1 => by rw [IntKind.wrap_i64]; omega) 8 _ _ (by omega) (by omega) (by omega) (by omega) (by omega) (by omega)]
  omega
theorem fixK_lt : ∀ (l : List UInt8) (k n : Nat), n < 256 ^ k → l.foldl (fun n b => n * 256 + b.toNat) n < 256 ^ (k + l.length)
  | [], k, n, h => by simpa using h
  | b :: l, k, n, h => by
    have := UInt8.toNat_lt b
    have := fixK_lt l (k + 1) (n * 256 + b.toNat) (by rw [Nat.pow_succ]; omega)
    rw [List.foldl_cons, List.length_cons, show k + (l.length + 1) = k + 1 + l.length by omega]
    exact this
def fixRes (s : ByteArray) : Value := if s.size < 4 then .tuple #[.int .i64 0, .bool false] else .tuple #[.int .i64 (fixN (bl s) : Int), .bool true]
set_option maxRecDepth 100000 in
set_option maxHeartbeats 4000000 in
theorem implReadFixed_any (s : ByteArray) (w : World) :
    Calls Tryd.prog 41 #[.string s, .int .i64 4] w fun e w' => e = .returned (fixRes s) ∧ w = w' := by
  go_enter Tryd.func41, Tryd.ntmps41
  go_wp2_with fail
  refine (within_any _ _ _ _).mono ?_
  rintro e w1 ⟨rfl, rfl⟩
  rw [show inB 4 1 7 = true from by decide]
  by_cases h4 : s.size < 4
  · have d1 : (s.size : Int) < 4 := by omega
    have HE : Hid (fixRes s = .tuple #[.int .i64 0, .bool false]) := hideP (by unfold fixRes; rw [if_pos h4])
    clear h4
    go_wp2
    go_ret2
    exact ⟨by rw [HE.out]; rfl, rfl⟩
  · have d1 : ¬ (s.size : Int) < 4 := by omega
    have HE : Hid (fixRes s = .tuple #[.int .i64 (fixN (bl s) : Int), .bool true]) := hideP (by unfold fixRes; rw [if_neg h4])
    have hs4 : 4 ≤ s.size := by omega
    clear h4
    go_wp2
    go_loopg [6, 7] 5 (fun gk nv iv wr => ∃ (k n : Nat), 4 < gk + k ∧ k ≤ 4 ∧ n < 256 ^ k ∧ iv = .int .i64 (k : Int) ∧ nv = .int .i64 (n : Int) ∧ Hid (((bl s).take k).foldl (fun n b => n * 256 + b.toNat) 0 = n) ∧ wr = w)
    case atStart => exact ⟨0, 0, by omega, by omega, by omega, rfl, rfl, hideP rfl, rfl⟩
    case round =>
      obtain ⟨k, n, hgk, hk, hn, rfl, rfl, HF, rfl⟩ := hrel
      by_cases hlt : k < 4
      · have hks : k < s.size := by omega
        have k1 : (k : Int) < 4 := by omega
        have k2 : (k : Int) < (s.size : Int) := by omega
        have k0 : (0 : Int) ≤ (k : Int) := by omega
        have hb := UInt8.toNat_lt s[k]
        have h3 : 256 ^ k ≤ 256 ^ 3 := Nat.pow_le_pow_right (by decide) (by omega)
        have h3' : (256 : Nat) ^ 3 = 16777216 := by decide
        have HS := hideP (shl8 n (by omega))
        have HO := hideP (or256 n (s[k]'hks).toNat (by omega) (by omega))
        have hn2 : n * 256 + (s[k]'hks).toNat < 256 ^ (k + 1) := by rw [Nat.pow_succ]; omega
        have HT : Hid (((bl s).take (k + 1)).foldl (fun n b => n * 256 + b.toNat) 0 = n * 256 + (s[k]'hks).toNat) := hideP (by
          rw [List.take_add_one, bl_get hks, List.foldl_append, HF.out]
          rfl)
        clear h3 h3' HF
        go_wp2
        go_roundg (gk - 1)
        case measure => omega
        case rel => exact ⟨k + 1, _, by omega, by omega, hn2, by go_num, congrArg (Value.int .i64) (by first | exact HO.out | (rw [HS.out]; exact HO.out)), HT, rfl⟩
      · obtain rfl : k = 4 := by omega
        have HE2 : Hid ((fixN (bl s) : Int) = (n : Int)) := hideP (by unfold fixN; rw [HF.out])
        go_wp2
        go_ret2
        exact ⟨by rw [HE.out, HE2.out]; rfl, rfl⟩
theorem and255 (n : Nat) (h : n < 2 ^ 63) : bits .and .i64 (n : Int) 255 = ((n % 256 : Nat) : Int) := by
  have := bits_mask .i64 63 (by decide) (fun n h0 h1 => by rw [IntKind.wrap_i64]; omega) 8 (by decide) (n : Int) (by omega) (by omega)
  simpa using this
theorem made4 : (madeCells #[Value.int .u8 0] 4).toList = [.int .u8 0, .int .u8 0, .int .u8 0, .int .u8 0] := by
  unfold madeCells
  rw [Array.toList_map, Array.toList_range]
  rfl
def rowT (t n : Nat) : List Value := List.replicate (4 - t) (.int .u8 0) ++ bcells (low t n)
theorem rowT_len {t n : Nat} (h : t ≤ 4) : (rowT t n).length = 4 := by simp [rowT, bcells_length, low_len]; omega
theorem rowT_set {t n : Nat} (h : t < 4) : (rowT t n).set (3 - t) (.int .u8 ((n / 256 ^ t % 256 : Nat) : Int)) = rowT (t + 1) n := by
  have e : Value.int .u8 ((n / 256 ^ t % 256 : Nat) : Int) = .int .u8 (((UInt8.ofNat (n / 256 ^ t % 256)).toNat : Nat) : Int) := by rw [u8_nat (Nat.mod_lt _ (by decide))]
  rw [e]
  match t, h with
  | 0, _ => rfl
  | 1, _ => rfl
  | 2, _ => rfl
  | 3, _ => rfl
set_option maxRecDepth 100000 in
set_option maxHeartbeats 4000000 in
theorem implFixed_any (n : Nat) (hn : n < 4294967296) (w : World) :
    Calls Tryd.prog 31 #[.int .i64 (n : Int), .int .i64 4] w fun e w' => e = .returned (.string ⟨(low 4 n).toArray⟩) ∧ Below w.heap.size w w' := by
  obtain ⟨i0, hi, hz0, hz1, hz2⟩ := info_parts Tryd.infoU8
  go_enter Tryd.func31, Tryd.ntmps31
  go_wp2_with fail
  refine (within_any _ _ _ _).mono ?_
  rintro e w1 ⟨rfl, rfl⟩
  rw [show inB 4 1 7 = true from by decide]
  have d0 : ¬ (n : Int) < 0 := by omega
  have d1 : ((n : Int) / 4294967296 != 0) = false := by rw [show (n : Int) / 4294967296 = 0 by omega]; rfl
  go_wp2_with (at_make; refine wpList_make_full _ rfl _ _ 69 rfl w.heap.size 5 i0 (.int .u8 0) 1 Tryd.underlying69 hi hz0 hz1 .i64 .i64 _ _ 4 rfl rfl rfl rfl ?c1 ?c2 (Nat.le_refl _) ?_)
  case c1 => rw [hz2]; omega
  case c2 => unfold maxLen; omega
  intro w2 hown hg
  have HO : Hid (w2.ownsRow w.heap.size 5 1 (.slice (some ⟨w.heap.size, 0, none⟩) 4 4) 4 (rowT 0 n)) := hideP (by rw [made4] at hown; exact hown)
  have HB := hideP ((Below.refl w.heap.size w).grown hg (Nat.le_refl _) (by simp))
  clear hown hg
  go_wp2
  go_loopg [0, 6] 5 (fun gk nv iv wr => ∃ (t m : Nat), 4 < gk + t ∧ t ≤ 4 ∧ m < 4294967296 ∧ iv = .int .i64 (3 - (t : Int)) ∧ nv = .int .i64 (m : Int) ∧ Hid (n / 256 ^ t = m) ∧ Hid (wr.ownsRow w.heap.size 5 1 (.slice (some ⟨w.heap.size, 0, none⟩) 4 4) 4 (rowT t n)) ∧ Hid (Below w.heap.size w wr))
  case atStart => exact ⟨0, n, by omega, by omega, hn, rfl, rfl, hideP (by simp), HO, HB⟩
  case round =>
    clear HO HB
    obtain ⟨t, m, hgt, ht, hm, rfl, rfl, HM, HO, HB⟩ := hrel
    by_cases hlt : t < 4
    · obtain ⟨⟨y0, c0⟩, f0⟩ := owns_at HO.out (j := 3 - t) (by omega)
      have hA := and255 m (by omega)
      have HS : Hid ((rowT t n).set (3 - t) (.int .u8 ((m % 256 : Nat) : Int)) = rowT (t + 1) n) := hideP (by rw [← HM.out]; exact rowT_set hlt)
      have HM2 : Hid (n / 256 ^ (t + 1) = m / 256) := hideP (by rw [Nat.pow_succ, ← Nat.div_div_eq_div_mul, HM.out])
      have k0 : (0 : Int) ≤ 3 - (t : Int) := by omega
      go_wp2
      go_roundg (gk - 1)
      case measure => omega
      case rel => exact ⟨t + 1, m / 256, by omega, by omega, by omega, by congr 1; push_cast; omega, by go_num, HM2, hideP (by have h := (HO.out.stored (3 - t) (.int .u8 ((m % 256 : Nat) : Int))).1; rw [HS.out] at h; exact h), hideP (HB.out.setCell (p := ⟨w.heap.size, 3 - t, none⟩) (Nat.le_refl _) _)⟩
    · obtain rfl : t = 4 := by omega
      have hl : ¬ ((3 : Int) - ((4 : Nat) : Int) ≥ 0) := by omega
      have HC := conv_own (P := Tryd.prog) (src := 69) (dst := 9) Tryd.underlying69 Tryd.underlying5 Tryd.underlying9 (l := low 4 n) (by have h := HO.out; exact h)
      go_wp2
      go_ret
      exact ⟨rfl, HB.out⟩
set_option maxRecDepth 100000 in
set_option maxHeartbeats 4000000 in
theorem specFixed_any (n : Nat) (hn : n < 4294967296) (w : World) :
    Calls Tryd.prog 39 #[.int .i64 (n : Int), .int .i64 4] w fun e w' => e = .returned (.string ⟨(low 4 n).toArray⟩) ∧ Below w.heap.size w w' := by
  go_enter Tryd.func39, Tryd.ntmps39
  go_wp2_with fail
  refine (l1In_any _ _ _ _).mono ?_
  rintro e w1 ⟨rfl, rfl⟩
  rw [show inB 4 1 7 = true from by decide]
  have d0 : ¬ (n : Int) < 0 := by omega
  go_wp2
  go_loopg [0, 5, 6] 5 (fun gk nv sv iv wr => ∃ (t m : Nat), 4 < gk + t ∧ t ≤ 4 ∧ m < 4294967296 ∧ iv = .int .i64 (t : Int) ∧ nv = .int .i64 (m : Int) ∧ sv = .string ⟨(low t n).toArray⟩ ∧ Hid (n / 256 ^ t = m) ∧ Hid (Below w.heap.size w wr))
  case atStart => exact ⟨0, n, by omega, by omega, hn, rfl, rfl, rfl, hideP (by simp), hideP (Below.refl _ _)⟩
  case round =>
    obtain ⟨t, m, hgt, ht, hm, rfl, rfl, rfl, HM, HB⟩ := hrel
    by_cases hlt : t < 4
    · have t1 : (t : Int) < 4 := by omega
      have hll : (low t n).length ≤ 4 := by rw [low_len]; omega
      have h2 : (wr.alloc (.cells #[.int .u8 ((m : Int) % 256)] 5)).ownsRow wr.heap.size 5 1 (.slice (some ⟨wr.heap.size, 0, none⟩) 1 1) 1 (bcells [UInt8.ofNat ((m : Int) % 256).toNat]) := owns_lit (Nat.le_refl _) rfl (by decide) rfl (by rw [bcells_one (by omega)])
      have HC := conv_own (P := Tryd.prog) (src := 69) (dst := 9) Tryd.underlying69 Tryd.underlying5 Tryd.underlying9 h2
      have HM2 : Hid (n / 256 ^ (t + 1) = m / 256) := hideP (by rw [Nat.pow_succ, ← Nat.div_div_eq_div_mul, HM.out])
      have HL : Hid ([UInt8.ofNat ((m : Int) % 256).toNat] ++ low t n = low (t + 1) n) := hideP (by rw [low, HM.out, show ((m : Int) % 256).toNat = m % 256 by omega]; rfl)
      have HB2 := hideP (HB.out.alloc HB.out.size (.cells #[.int .u8 ((m : Int) % 256)] 5))
      clear h2
      go_wp2
      go_roundg (gk - 1)
      case measure => omega
      case rel => exact ⟨t + 1, m / 256, by omega, by omega, by omega, by go_num, by go_num, (str_append [UInt8.ofNat (m % 256)] _).trans (by rw [← HL.out, show ((m : Int) % 256).toNat = m % 256 by omega]), HM2, HB2⟩
    · obtain rfl : t = 4 := by omega
      have h0 : m = 0 := by have := HM.out; omega
      subst h0
      go_wp2
      go_ret
      exact ⟨rfl, HB.out⟩

end Go.Proofs.YtamfgkicmikmbaaDoor
