/- The walk of the reference's ShowTree. -/
import Derived.Test.YtnchmenpgmlpdaaShowPure
import Derived.Test.YtnchmenpgmlpdaaTreeSpec
import Derived.Lib.QuietBelow
namespace Go.Proofs.Ytnchmenpgmlpdaa
open Go.RowKit

set_option maxRecDepth 100000 in
set_option maxHeartbeats 4000000 in
theorem specShowTree_any (ad : Option Addr) (n cap : Nat) (t : List Res) (hn : n = t.length) (hl : n ≤ 1048576) (w : World) (h : Rd w ad (t.flatMap Res.enc)) :
    Calls Try.prog 31 #[.slice ad n cap] w fun e w' => e = .returned (.string ⟨(showTree t).toArray⟩) ∧ Below w.heap.size w w' := by
  have Hn := Lib.hid hn
  clear hn
  go_enter Try.func31, Try.ntmps31
  go_wp2_with fail
  refine (specTreeOk_any _ _ _ t Hn.out hl _ h).mono ?_
  rintro e w1 ⟨rfl, hb1⟩
  cases hok : treeOk t
  · have HS : Hid (showTree t = []) := hideP (by unfold showTree; rw [hok]; rfl)
    go_wp2
    go_ret
    exact ⟨by rw [HS.out]; rfl, hb1⟩
  have HS : Hid (showTree t = treeShow t) := hideP (by unfold showTree; rw [hok]; rfl)
  have Hok := Lib.hid hok
  have hn5 : n = 5 := by have := Hn.out; have := (tree_parts hok).1; omega
  subst hn5
  clear hok
  go_wp2
  go_loopg [3, 4] 6 (fun gk s i wr => ∃ (k : Nat) (acc : List UInt8), 5 < gk + k ∧ k ≤ 5 ∧ i = .int .i64 (k : Int) ∧ s = .string ⟨acc.toArray⟩ ∧ acc.length ≤ 200 ∧ Hid (treeShow (t.take k) = acc) ∧ Below w.heap.size w wr)
  case atStart => exact ⟨0, [], by omega, by omega, rfl, rfl, by simp, hideP rfl, hb1⟩
  case round =>
    obtain ⟨k, acc, hgk, hk, rfl, rfl, hal, hv, hb⟩ := hrel
    by_cases hlt : k < 5
    · obtain ⟨x, hx⟩ := some_at (l := t) (k := k) (by have := Hn.out; omega)
      obtain ⟨b, o, rfl, hbw, g1, g2, g3, g4, g5⟩ := (h.below hb).rowRes hx
      have HV : Hid (treeShow (t.take (k + 1)) = acc ++ resShow x) := hideP (by rw [treeShow_next hx, hv.out])
      have hal2 : (acc ++ resShow x).length ≤ 200 := by rw [← HV.out]; exact treeShow_take t _ Hn.out.symm
      have HAL := Lib.hid hal2
      have hpp := live_par Hok.out hx
      have k0 : (0 : Int) ≤ (k : Int) := by omega
      have k5 : (k : Int) < 5 := by omega
      obtain ⟨xl, xp, ⟨y1, y2, y3⟩⟩ := x
      dsimp only at g1 g2 g3 g4 g5 hpp
      obtain ⟨hpp0, hpp1⟩ := hpp
      have hrl : (varsL (resNums ⟨xl, xp, ⟨y1, y2, y3⟩⟩)).length ≤ 40 := varsL_len _
      rw [resShow_eq] at HV HAL
      have v1 := varS_len (flagI xl); have v2 := varS_len (xp + 1); have v3 := varS_len y1; have v4 := varS_len y2; have v5 := varS_len y3
      have zw : IntKind.i64.wrap (xp + 1) = xp + 1 := IntWalk.i64_in _ (by omega)
      clear hx hal2
      go_wp2
      have q_g1 := fun d os => cell_regrown g1 d os
      have q_g2 := fun d os => cell_regrown g2 d os
      have q_g3 := fun d os => cell_regrown g3 d os
      have q_g4 := fun d os => cell_regrown g4 d os
      have q_g5 := fun d os => cell_regrown g5 d os
      refine wp_region_quiet_below (by kernel_rfl) (by kernel_rfl) ?_
      repeat (first | go_big_quiet_step ((first | (go_at_call 90; exact Calls.regrown_of ((specFlag_any _ _).mono fun _ _ h => ⟨h.1, h.2 ▸ Below.refl _ _⟩)) | (go_at_call 89; exact Calls.regrown_of (specVar_any _ _)))) | quiet_step ((first | (go_at_call 90; exact Calls.regrown_of ((specFlag_any _ _).mono fun _ _ h => ⟨h.1, h.2 ▸ Below.refl _ _⟩)) | (go_at_call 89; exact Calls.regrown_of (specVar_any _ _)))))
      refine wpQuiet_nil ?_
      intro _ hw'
      obtain ⟨⟨dq, osq⟩, hw''⟩ := hw'
      subst hw''
      clear q_g1 q_g2 q_g3 q_g4 q_g5
      obtain ⟨wq, hwq⟩ : ∃ wq, wq = Go.Sort.grow (redrawn wr dq) osq := ⟨_, rfl⟩
      have hbwq : Below wr.heap.size wr wq := hwq ▸ below_regrown _ dq osq
      rw [← hwq]
      clear hwq
      clear zw
      go_wp2
      go_roundg (gk - 1)
      case measure => omega
      case rel => exact ⟨k + 1, _, by omega, by omega, by go_num, by simp only [ByteArray.mk_append_mk, List.append_assoc], HAL.out, HV, hb.trans (hbwq.mono hb.size)⟩
    · have HV : Hid (treeShow t = acc) := hideP (by rw [← hv.out, List.take_of_length_le (by have := Hn.out; omega)])
      go_wp2
      go_ret
      exact ⟨by rw [HS.out, HV.out]; rfl, hb⟩


end Go.Proofs.Ytnchmenpgmlpdaa
