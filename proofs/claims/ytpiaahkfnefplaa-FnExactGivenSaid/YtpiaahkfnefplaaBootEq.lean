/- []PartBoot: eqPartBootS. -/
import Derived.Test.YtpiaahkfnefplaaBootsSz
import Derived.Test.YtpiaahkfnefplaaResTo
import Derived.Deep.DeepCutAuto
import Derived.Lib.QuietBelow
namespace Go.Proofs.Ytpiaahkfnefplaa
open Go.RowKit

set_option maxRecDepth 100000 in
set_option maxHeartbeats 4000000 in
theorem eqLabel_any (l : List Int) (a a' : Option Addr) (c c' : Nat) (hl : l.length ≤ 1048576) (w : World) (h : Rd w a (icell l)) (h' : Rd w a' (icell l)) :
    Calls Try.prog 45 #[.agg #[.slice a l.length c], .agg #[.slice a' l.length c']] w fun e w' => e = .returned (.bool true) ∧ Below w.heap.size w w' := by
  have B0 := hideP ((Blk.new w #[.slice a l.length c] 46).alloc (.cells #[.slice a' l.length c'] 46))
  have B1 : Hid (Blk ((w.alloc (.cells #[.slice a l.length c] 46)).alloc (.cells #[.slice a' l.length c'] 46)) (w.heap.size + 1) 46 [.slice a' l.length c']) := hideP (by have := Blk.new (w.alloc (.cells #[.slice a l.length c] 46)) #[.slice a' l.length c'] 46; simpa using this)
  have HB := hideP (below_a2 w (.cells #[.slice a l.length c] 46) (.cells #[.slice a' l.length c'] 46))
  go_enter Try.func45, Try.ntmps45
  go_upto_region 1 with fail
  obtain ⟨W, hW⟩ : ∃ W, W = (w.alloc (.cells #[.slice a l.length c] 46)).alloc (.cells #[.slice a' l.length c'] 46) := ⟨_, rfl⟩
  rw [← hW] at B0 B1 HB ⊢
  clear hW
  have x0 : W.cell? ⟨w.heap.size, 0, none⟩ = some (.slice a l.length c) := (B0.out.cell 0).trans rfl
  have y0 : W.cell? ⟨w.heap.size + 1, 0, none⟩ = some (.slice a' l.length c') := (B1.out.cell 0).trans rfl
  go_wp2_with fail
  refine (eqIntS_any a a' _ c c' l rfl hl _ (h.below HB.out) (h'.below HB.out)).mono ?_
  rintro e w1 ⟨rfl, hb1⟩
  have HB := hideP (HB.out.trans (hb1.mono HB.out.size))
  go_wp2
  go_ret
  exact ⟨rfl, HB.out⟩
end Go.Proofs.Ytpiaahkfnefplaa
