/- The walk of the program's ReadVar. -/
import Derived.Test.YtabbncoihmhocaaReadPure
import Derived.Test.YtabbncoihmhocaaKeep
import Derived.Test.YtabbncoihmhocaaSmall
import Derived.Deep.LoopGhost
namespace Go.Proofs.Ytabbncoihmhocaa
open Go.RowKit

set_option maxRecDepth 100000 in
set_option maxHeartbeats 2000000 in
theorem implReadVar_any (s : ByteArray) (hs : s.size ≤ maxLen) (w : World) :
    Calls Try.prog 48 #[.string s] w fun e w' => e = .returned (.tuple #[.int .i64 ((readVar (bl s)).1 : Int), .int .i64 ((readVar (bl s)).2 : Int)]) ∧ w = w' := by
  unfold maxLen at hs
  go_enter Try.func48, Try.ntmps48
  go_wp2
  go_loopg [4, 5] 8 (fun gk n i wr => ∃ (k acc : Nat), 7 < gk + k ∧ k ≤ 7 ∧ k ≤ s.size ∧ i = .int .i64 (k : Int) ∧ n = .int .i64 (acc : Int) ∧ Hid (acc < 128 ^ k) ∧ Hid (rvGo 7 true (bl s) = (rvGo (7 - k) (decide (k = 0)) ((bl s).drop k)).map fun p => (acc + 128 ^ k * p.1, k + p.2)) ∧ w = wr)
  case atStart => exact ⟨0, 0, by omega, by omega, by omega, rfl, rfl, hideP (by decide), hideP (by simp), rfl⟩
  case round =>
    obtain ⟨k, acc, hgk, hk, hks, rfl, rfl, hacc, hr, rfl⟩ := hrel
    by_cases hlt : k < 7 ∧ k < s.size
    · obtain ⟨h7, hls⟩ := hlt
      have hc := UInt8.toNat_lt s[k]
      have hA := and127 (s[k].toNat : Int) (by omega)
      have HO := Lib.hid (or_step (c := s[k].toNat) (show k ≤ 6 by omega) hacc.out)
      obtain ⟨f, hf⟩ : ∃ f, 7 - k = f + 1 := ⟨6 - k, by omega⟩
      have hr' := hr.out
      rw [hf, bl_drop hls, rvGo] at hr'
      by_cases hc7 : 127 < s[k].toNat
      · have hf2 : 7 - (k + 1) = f := by omega
        have HR : Hid (rvGo 7 true (bl s) = (rvGo (7 - (k + 1)) (decide (k + 1 = 0)) ((bl s).drop (k + 1))).map fun p => ((acc + 128 ^ k * (s[k].toNat % 128)) + 128 ^ (k + 1) * p.1, k + 1 + p.2)) := hideP (by
          rw [hr', if_neg (by omega), Option.map_map, hf2, decide_eq_false (by omega)]
          congr 1
          funext p
          simp only [Function.comp, Prod.mk.injEq]
          rw [Nat.pow_succ, Nat.mul_add, ← Nat.mul_assoc]
          omega)
        have HA : Hid (acc + 128 ^ k * (s[k].toNat % 128) < 128 ^ (k + 1)) := hideP (by
          have h1 := hacc.out
          have h2 : 128 ^ k * (s[k].toNat % 128) ≤ 128 ^ k * 127 := Nat.mul_le_mul_left _ (by omega)
          rw [Nat.pow_succ]
          omega)
        clear hr' hf hf2
        go_wp2
        go_roundg (gk - 1)
        case measure => omega
        case rel => exact ⟨k + 1, _, by omega, by omega, by omega, by go_num, by rw [HO.out], HA, HR, rfl⟩
      · rw [if_pos (by omega)] at hr'
        by_cases hz : 0 < k ∧ s[k].toNat = 0
        · obtain ⟨hk0, hz0⟩ := hz
          rw [decide_eq_false (by omega), if_pos (by rw [hz0]; rfl)] at hr'
          have HR : Hid (readVar (bl s) = (0, 0)) := hideP (by unfold readVar; rw [hr']; rfl)
          have hzi : ((s[k].toNat : Int) == 0) = true := by simp [hz0]
          clear hr' hf hz0
          go_wp2
          go_ret2
          exact ⟨by rw [HR.out]; rfl, rfl⟩
        · have hcm : s[k].toNat % 128 = s[k].toNat := Nat.mod_eq_of_lt (by omega)
          rw [if_neg (by simp; omega)] at hr'
          have HR : Hid (readVar (bl s) = (acc + 128 ^ k * s[k].toNat, k + 1)) := hideP (by unfold readVar; rw [hr']; rfl)
          have HO2 := HO
          rw [hcm] at HO2
          have hz' : k = 0 ∨ (0 < k ∧ 0 < s[k].toNat) := by omega
          clear hr' hf hz hcm
          rcases hz' with hk0 | ⟨hk0, hcp⟩
          · have d1 : decide (0 < k) = false := by simp; omega
            have d2 : decide ((0 : Int) < (k : Int)) = false := by simp; omega
            clear hk0
            go_wp2
            go_ret2
            exact ⟨by rw [HR.out, ← HO2.out]; rfl, rfl⟩
          · have hzi : ((s[k].toNat : Int) == 0) = false := by simp; omega
            go_wp2
            go_ret2
            exact ⟨by rw [HR.out, ← HO2.out]; rfl, rfl⟩
    · have HR : Hid (readVar (bl s) = (0, 0)) := hideP (by
        unfold readVar
        rw [hr.out]
        by_cases h7 : k = 7
        · subst h7; rfl
        · rw [List.drop_eq_nil_of_le (by rw [bl_length]; omega)]
          obtain ⟨f, hf⟩ : ∃ f, 7 - k = f + 1 := ⟨6 - k, by omega⟩
          rw [hf]
          rfl)
      have hlt' : k = 7 ∨ (k < 7 ∧ k = s.size) := by omega
      rcases hlt' with h7 | ⟨h7, hks2⟩
      · have d1 : decide ((k : Int) < 7) = false := by simp; omega
        clear hlt h7
        go_wp2
        go_ret2
        exact ⟨by rw [HR.out]; rfl, rfl⟩
      · have d1 : decide ((k : Int) < (s.size : Int)) = false := by simp; omega
        have d2 : decide (k < s.size) = false := by simp; omega
        clear hlt hks2
        go_wp2
        go_ret2
        exact ⟨by rw [HR.out]; rfl, rfl⟩

end Go.Proofs.Ytabbncoihmhocaa
