/- The walks of Var and the flags. -/
import Derived.Test.YtabbncoihmhocaaVarPure
import Derived.Test.YtabbncoihmhocaaSmall
import Derived.Test.YtabbncoihmhocaaKeep
import Derived.Deep.LoopGhost
namespace Go.Proofs.Ytabbncoihmhocaa
open Go.RowKit

theorem Try.infoU8 : (Try.prog.info? 5).map (fun i => (i.zero, i.size, i.bytes)) = some (some (.int .u8 0), 1, 1) := by kernel_rfl
def flagI (b : Bool) : Int := if b then 1 else 0
theorem implFlag_any (b : Bool) (w : World) : Calls Try.prog 27 #[.bool b] w fun e w' => e = .returned (.int .i64 (flagI b)) ∧ w = w' := by
  cases b
  all_goals
    go_enter Try.func27, Try.ntmps27
    go_wp2
    go_ret
    exact ⟨rfl, rfl⟩
theorem specFlag_any (b : Bool) (w : World) : Calls Try.prog 69 #[.bool b] w fun e w' => e = .returned (.int .i64 (flagI b)) ∧ w = w' := by
  cases b
  all_goals
    go_enter Try.func69, Try.ntmps69
    go_wp2
    go_ret
    exact ⟨rfl, rfl⟩
set_option maxRecDepth 100000 in
set_option maxHeartbeats 2000000 in
theorem implVar_any (x : Int) (w : World) : Calls Try.prog 52 #[.int .i64 x] w fun e w' => e = .returned (.string ⟨(varS x).toArray⟩) ∧ Below w.heap.size w w' := by
  cases t1 : inB x 0 562949953421311
  · have HR : Hid (varS x = []) := hideP (by unfold varS; rw [t1]; rfl)
    go_enter Try.func52, Try.ntmps52
    go_wp2_with fail
    refine (within_any _ _ _ _).mono ?_
    rintro e w' ⟨rfl, rfl⟩
    rw [t1]
    go_wp2
    go_ret
    exact ⟨by rw [HR.out]; rfl, Below.refl _ _⟩
  · have hx := inB_true.1 t1
    obtain ⟨q, rfl⟩ := Int.eq_ofNat_of_zero_le hx.1
    have HR : Hid (varS (q : Int) = varN 8 q) := hideP (by unfold varS varL; rw [t1]; rfl)
    have hq : q < 128 ^ 7 := by have := hx.2; simp; omega
    have T1 := Lib.hid t1
    clear hx t1
    obtain ⟨i0, hi, hz0, hz1, hz2⟩ := info_parts Try.infoU8
    go_enter Try.func52, Try.ntmps52
    go_wp2_with fail
    refine (within_any _ _ _ _).mono ?_
    rintro e w' ⟨rfl, rfl⟩
    rw [T1.out]
    go_wp2
    go_loopg [0, 3] 7 (fun gk n v wr => ∃ (m : Nat) (acc : List UInt8), n = .int .i64 (m : Int) ∧ m ≤ 562949953421311 ∧ acc.length ≤ 8 ∧ Hid (gk ≤ 7 ∧ m < 128 ^ gk ∧ acc.length + gk = 7) ∧ Hid (varN 8 q = acc ++ varN (gk + 1) m) ∧ Hid (Acc w 5 1 acc.length (bcells acc) v wr))
    case atStart => exact ⟨q, [], rfl, by simp at hq; omega, by simp, hideP ⟨by decide, hq, rfl⟩, hideP rfl, hideP (Acc.nil (Below.refl _ _) rfl)⟩
    case round =>
      obtain ⟨m, acc, rfl, hm, hal, hg, hv, hacc⟩ := hrel
      by_cases hlt : m < 128
      · have HV : Hid (varS (q : Int) = acc ++ [UInt8.ofNat m]) := hideP (by rw [HR.out, hv.out, varN_lt hlt])
        go_wp2_with (at_builtin; refine wpList_append_acc (w0 := w) rfl _ _ 22 rfl 5 i0 (.int .u8 0) 1 1 Try.underlying22 hi hz0 hz1 hz2 rfl (by decide) _ _ _ rfl (Acc.alloc hacc.out _) _ 1 1 [.int .u8 (m : Int)] rfl rfl (rd_lit rfl) ?c1 ?c2 ?c3 ?_)
        case c1 => simp [Value.oneCell']
        case c2 => unfold maxLen; simp; omega
        case c3 => simp; omega
        intro v' w2 h2 _
        have hb1 := bcells_one (v := (m : Int)) (by omega)
        rw [Int.toNat_natCast] at hb1
        rw [← hb1, ← bcells_append] at h2
        obtain ⟨g, c, rfl, hg0, hg1⟩ := h2.block (by omega)
        have HC := conv_own (P := Try.prog) (src := 22) (dst := 9) Try.underlying22 Try.underlying5 Try.underlying9 h2.1
        have HB := hideP h2.2
        clear h2 hb1
        go_wp2
        go_ret
        exact ⟨by rw [HV.out]; rfl, HB.out⟩
      · have hgk : 1 ≤ gk := by
          rcases Nat.eq_zero_or_pos gk with h0 | h0
          · subst h0; have := hg.out.2.1; simp at this; omega
          · exact h0
        obtain ⟨f, hf⟩ : ∃ f, gk = f + 1 := ⟨gk - 1, by omega⟩
        have HV : Hid (varN 8 q = (acc ++ [UInt8.ofNat (m % 128 + 128)]) ++ varN (f + 1) (m / 128)) := hideP (by rw [hv.out, hf, varN_ge hlt, List.append_assoc]; rfl)
        have HG : Hid (f ≤ 7 ∧ m / 128 < 128 ^ f ∧ acc.length + 1 + f = 7) := hideP ⟨by have := hg.out.1; omega, by have := hg.out.2.1; rw [hf, Nat.pow_succ] at this; omega, by have := hg.out.2.2; omega⟩
        have hal2 : acc.length + 1 ≤ 8 := by have := HG.out.2.2; omega
        have hm2 : m / 128 ≤ 562949953421311 := by omega
        have hA := and127 (m : Int) (by omega)
        have hO := or128 ((m : Int) % 128) (by omega)
        have HF : Hid (f = gk - 1) := hideP (by omega)
        clear hf
        go_wp2_with (at_builtin; refine wpList_append_acc (w0 := w) rfl _ _ 22 rfl 5 i0 (.int .u8 0) 1 1 Try.underlying22 hi hz0 hz1 hz2 rfl (by decide) _ _ _ rfl (Acc.alloc hacc.out _) _ 1 1 [.int .u8 ((m : Int) % 128 + 128)] rfl rfl (rd_lit rfl) ?c1b ?c2b ?c3b ?_)
        case c1b => simp [Value.oneCell']
        case c2b => unfold maxLen; simp; omega
        case c3b => simp; omega
        intro v' w2 h2 _
        have hb1 := bcells_one (v := (m : Int) % 128 + 128) (by omega)
        have hb2 : ((m : Int) % 128 + 128).toNat = m % 128 + 128 := by omega
        rw [hb2] at hb1
        skip
        rw [← hb1, ← bcells_append] at h2
        have HA := hideP (h2.cast (n' := (acc ++ [UInt8.ofNat (m % 128 + 128)]).length) (by simp))
        clear h2 hb1 hb2
        go_wp2
        go_roundg f
        case measure => rw [HF.out]; omega
        case rel => exact ⟨m / 128, _, by go_num, hm2, by simp; omega, hideP (by have := HG.out; simp; omega), HV, HA⟩

set_option maxRecDepth 100000 in
set_option maxHeartbeats 2000000 in
theorem specVar_any (x : Int) (w : World) : Calls Try.prog 68 #[.int .i64 x] w fun e w' => e = .returned (.string ⟨(varS x).toArray⟩) ∧ Below w.heap.size w w' := by
  cases t1 : inB x 0 562949953421311
  · have HR : Hid (varS x = []) := hideP (by unfold varS; rw [t1]; rfl)
    go_enter Try.func68, Try.ntmps68
    go_wp2_with fail
    refine (l1In_any _ _ _ _).mono ?_
    rintro e w' ⟨rfl, rfl⟩
    rw [t1]
    go_wp2
    go_ret
    exact ⟨by rw [HR.out]; rfl, Below.refl _ _⟩
  · have hx := inB_true.1 t1
    obtain ⟨q, rfl⟩ := Int.eq_ofNat_of_zero_le hx.1
    have HR : Hid (varS (q : Int) = varN 8 q) := hideP (by unfold varS varL; rw [t1]; rfl)
    have hq : q < 128 ^ 7 := by have := hx.2; simp; omega
    have T1 := Lib.hid t1
    clear hx t1
    obtain ⟨i0, hi, hz0, hz1, hz2⟩ := info_parts Try.infoU8
    go_enter Try.func68, Try.ntmps68
    go_wp2_with fail
    refine (l1In_any _ _ _ _).mono ?_
    rintro e w' ⟨rfl, rfl⟩
    rw [T1.out]
    go_wp2
    go_loopg [0, 3] 7 (fun gk n v wr => ∃ (m : Nat) (acc : List UInt8), n = .int .i64 (m : Int) ∧ m ≤ 562949953421311 ∧ acc.length ≤ 8 ∧ Hid (gk ≤ 7 ∧ m < 128 ^ gk ∧ acc.length + gk = 7) ∧ Hid (varN 8 q = acc ++ varN (gk + 1) m) ∧ Hid (Acc w 5 1 acc.length (bcells acc) v wr))
    case atStart => exact ⟨q, [], rfl, by simp at hq; omega, by simp, hideP ⟨by decide, hq, rfl⟩, hideP rfl, hideP (Acc.nil (Below.refl _ _) rfl)⟩
    case round =>
      obtain ⟨m, acc, rfl, hm, hal, hg, hv, hacc⟩ := hrel
      by_cases hlt : m < 128
      · have HV : Hid (varS (q : Int) = acc ++ [UInt8.ofNat m]) := hideP (by rw [HR.out, hv.out, varN_lt hlt])
        go_wp2_with (at_builtin; refine wpList_append_acc (w0 := w) rfl _ _ 22 rfl 5 i0 (.int .u8 0) 1 1 Try.underlying22 hi hz0 hz1 hz2 rfl (by decide) _ _ _ rfl (Acc.alloc hacc.out _) _ 1 1 [.int .u8 (m : Int)] rfl rfl (rd_lit rfl) ?c1 ?c2 ?c3 ?_)
        case c1 => simp [Value.oneCell']
        case c2 => unfold maxLen; simp; omega
        case c3 => simp; omega
        intro v' w2 h2 _
        have hb1 := bcells_one (v := (m : Int)) (by omega)
        rw [Int.toNat_natCast] at hb1
        rw [← hb1, ← bcells_append] at h2
        obtain ⟨g, c, rfl, hg0, hg1⟩ := h2.block (by omega)
        have HC := conv_own (P := Try.prog) (src := 22) (dst := 9) Try.underlying22 Try.underlying5 Try.underlying9 h2.1
        have HB := hideP h2.2
        clear h2 hb1
        go_wp2
        go_ret
        exact ⟨by rw [HV.out]; rfl, HB.out⟩
      · have hgk : 1 ≤ gk := by
          rcases Nat.eq_zero_or_pos gk with h0 | h0
          · subst h0; have := hg.out.2.1; simp at this; omega
          · exact h0
        obtain ⟨f, hf⟩ : ∃ f, gk = f + 1 := ⟨gk - 1, by omega⟩
        have HV : Hid (varN 8 q = (acc ++ [UInt8.ofNat (m % 128 + 128)]) ++ varN (f + 1) (m / 128)) := hideP (by rw [hv.out, hf, varN_ge hlt, List.append_assoc]; rfl)
        have HG : Hid (f ≤ 7 ∧ m / 128 < 128 ^ f ∧ acc.length + 1 + f = 7) := hideP ⟨by have := hg.out.1; omega, by have := hg.out.2.1; rw [hf, Nat.pow_succ] at this; omega, by have := hg.out.2.2; omega⟩
        have hal2 : acc.length + 1 ≤ 8 := by have := HG.out.2.2; omega
        have hm2 : m / 128 ≤ 562949953421311 := by omega
        have HF : Hid (f = gk - 1) := hideP (by omega)
        clear hf
        go_wp2_with (at_builtin; refine wpList_append_acc (w0 := w) rfl _ _ 22 rfl 5 i0 (.int .u8 0) 1 1 Try.underlying22 hi hz0 hz1 hz2 rfl (by decide) _ _ _ rfl (Acc.alloc hacc.out _) _ 1 1 [.int .u8 (128 + (m : Int) % 128)] rfl rfl (rd_lit rfl) ?c1b ?c2b ?c3b ?_)
        case c1b => simp [Value.oneCell']
        case c2b => unfold maxLen; simp; omega
        case c3b => simp; omega
        intro v' w2 h2 _
        have hb1 := bcells_one (v := (m : Int) % 128 + 128) (by omega)
        have hb2 : ((m : Int) % 128 + 128).toNat = m % 128 + 128 := by omega
        rw [hb2] at hb1
        rw [Int.add_comm] at h2
        rw [← hb1, ← bcells_append] at h2
        have HA := hideP (h2.cast (n' := (acc ++ [UInt8.ofNat (m % 128 + 128)]).length) (by simp))
        clear h2 hb1 hb2
        go_wp2
        go_roundg f
        case measure => rw [HF.out]; omega
        case rel => exact ⟨m / 128, _, by go_num, hm2, by simp; omega, hideP (by have := HG.out; simp; omega), HV, HA⟩


end Go.Proofs.Ytabbncoihmhocaa
