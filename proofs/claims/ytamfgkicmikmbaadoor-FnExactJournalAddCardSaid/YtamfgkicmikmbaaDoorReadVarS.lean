/- The walk of the reference's ReadVar. -/
import Derived.Test.YtamfgkicmikmbaaDoorReadPure
import Derived.Test.YtamfgkicmikmbaaDoorVarW
import Derived.Test.YtamfgkicmikmbaaDoorKeep
import Derived.Test.YtamfgkicmikmbaaDoorSmall
import Derived.Deep.LoopGhost
import Derived.Lib.QuietBelow
namespace Go.Proofs.YtamfgkicmikmbaaDoor
open Go.RowKit

set_option maxRecDepth 100000 in
set_option maxHeartbeats 2000000 in
theorem specReadVar_any (s : ByteArray) (hs : s.size ≤ maxLen) (w : World) :
    Calls Tryd.prog 22 #[.string s] w fun e w' => e = .returned (.tuple #[.int .i64 ((readVar (bl s)).1 : Int), .int .i64 ((readVar (bl s)).2 : Int)]) ∧ Below w.heap.size w w' := by
  unfold maxLen at hs
  go_enter Tryd.func22, Tryd.ntmps22
  go_wp2
  go_loopg [4] 8 (fun gk i wr => ∃ (k : Nat), 8 < gk + k ∧ 1 ≤ k ∧ k ≤ 8 ∧ k ≤ s.size + 1 ∧ i = .int .i64 (k : Int) ∧ Hid (∀ j, 1 ≤ j → j < k → canon true ((bl s).take j) = false) ∧ Below w.heap.size w wr)
  case atStart => exact ⟨1, by omega, by omega, by omega, by omega, rfl, hideP (fun j h1 h2 => by omega), Below.refl _ _⟩
  case round =>
    obtain ⟨k, hgk, hk1, hk, hks, rfl, hno, hb⟩ := hrel
    obtain ⟨wo, rfl⟩ : ∃ wo : World, wo = wr := ⟨_, rfl⟩
    obtain ⟨gko, rfl⟩ : ∃ gko : Nat, gko = gk := ⟨_, rfl⟩
    by_cases hlt : k ≤ 7 ∧ k ≤ s.size
    · obtain ⟨h7, hls⟩ := hlt
      have d1 : ((k : Int) ≤ (s.size : Int)) := by omega
      go_wp2
      go_loopg [5, 6] 8 (fun gk n i wr => ∃ (j : Nat), j < gk ∧ j ≤ k ∧ i = .int .i64 ((j : Int) - 1) ∧ n = .int .i64 (val (((bl s).take k).drop j) : Int) ∧ wr = wo)
      case atStart => exact ⟨k, by omega, by omega, rfl, by rw [List.drop_eq_nil_of_le (by rw [List.length_take]; omega)]; rfl, rfl⟩
      case round =>
        obtain ⟨j, hgj, hjk, rfl, rfl, rfl⟩ := hrel
        by_cases hj0 : 0 < j
        · obtain ⟨m, rfl⟩ : ∃ m, j = m + 1 := ⟨j - 1, by omega⟩
          have hms : m < s.size := by omega
          have hc := UInt8.toNat_lt s[m]
          have hvp := val_part (bl s) k (m + 1) h7 (by omega)
          have HV := Lib.hid (val_back (k := k) (bl_get hms) (by omega))
          have e1 : (((m + 1 : Nat) : Int) - 1) = (m : Int) := by omega
          rw [e1]
          clear e1
          go_wp2
          go_roundg (gk - 1)
          case measure => omega
          case rel => exact ⟨m, by omega, by omega, rfl, by rw [HV.out]; congr 1; push_cast; omega, rfl⟩
        · have hj00 : j = 0 := by omega
          subst hj00
          rw [List.drop_zero]
          clear hj0
          go_wp2
          refine wp_region_quiet_below (by kernel_rfl) (by kernel_rfl) ?_
          repeat (first | go_big_quiet_step ((first | (go_at_call 38; exact Calls.regrown_of (specVar_any _ _)))) | quiet_step ((first | (go_at_call 38; exact Calls.regrown_of (specVar_any _ _)))))
          refine wpQuiet_nil ?_
          intro _ hw'
          obtain ⟨⟨dq, osq⟩, hw''⟩ := hw'
          subst hw''
          obtain ⟨wq, hwq⟩ : ∃ wq, wq = Go.Sort.grow (redrawn wr dq) osq := ⟨_, rfl⟩
          have hbwq : Below wr.heap.size wr wq := hwq ▸ below_regrown _ dq osq
          rw [← hwq]
          clear hwq
          have hbw := hb.trans (hbwq.mono hb.size)
          have hlen : ((bl s).take k).length = k := by rw [List.length_take, bl_length]; omega
          have HVC := Lib.hid (var_canon (l := (bl s).take k) (by omega) (by omega))
          have HEX : Hid ((s.extract 0 k).toList = (bl s).take k) := hideP (by rw [ByteArray.toList_eq]; show bl (s.extract 0 k) = _; rw [bl_extract, List.drop_zero, Nat.sub_zero])
          clear hlen
          go_wp2
          · rename_i hq
            have hq' := eq_of_beq hq
            rw [HEX.out] at hq'
            have hcn := HVC.out.1 hq'
            have HR := Lib.hid (readVar_of hcn hk1 h7 (by rw [bl_length]; omega))
            clear hcn hq hq'
            go_ret2
            exact ⟨by rw [HR.out]; rfl, hbw⟩
          · rename_i hq
            have HN : Hid (∀ j, 1 ≤ j → j < k + 1 → canon true ((bl s).take j) = false) := hideP (fun j h1 h2 => by
              by_cases e : j = k
              · subst e
                cases hcn : canon true ((bl s).take j)
                · rfl
                · have h3 := HVC.out.2 hcn
                  rw [HEX.out, h3] at hq
                  simp at hq
              · exact hno.out j h1 (by omega))
            clear hq
            go_roundg (gko - 1)
            case measure => omega
            case rel => exact ⟨k + 1, by omega, by omega, by omega, by omega, by go_num, HN, hbw⟩
    · have HR : Hid (readVar (bl s) = (0, 0)) := hideP (readVar_no fun j h1 h2 h3 => hno.out j h1 (by rw [bl_length] at h3; omega))
      have hlt' : k = 8 ∨ (k ≤ 7 ∧ k = s.size + 1) := by omega
      rcases hlt' with h7 | ⟨h7, hks2⟩
      · have d1 : decide ((k : Int) ≤ 7) = false := by simp; omega
        clear hlt h7
        go_wp2
        go_ret2
        exact ⟨by rw [HR.out]; rfl, hb⟩
      · have d1 : decide ((k : Int) ≤ (s.size : Int)) = false := by simp; omega
        have d2 : decide (k ≤ s.size) = false := by simp; omega
        clear hlt hks2
        go_wp2
        go_ret2
        exact ⟨by rw [HR.out]; rfl, hb⟩

end Go.Proofs.YtamfgkicmikmbaaDoor
