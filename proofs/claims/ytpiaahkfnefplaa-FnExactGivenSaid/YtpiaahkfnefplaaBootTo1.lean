/- PartBoot: toLabel, toPartBoot. -/
import Derived.Test.YtpiaahkfnefplaaBootsSz
import Derived.Test.YtpiaahkfnefplaaResTo
import Derived.Deep.DeepCutAuto
namespace Go.Proofs.Ytpiaahkfnefplaa
open Go.RowKit

set_option maxRecDepth 100000 in
set_option maxHeartbeats 4000000 in
theorem toLabel_any (l : List Int) (a : Option Addr) (c : Nat) (hl : l.length ≤ 1048576) (w : World) (h : Rd w a (icell l)) :
    Calls Try.prog 39 #[.agg #[.slice a l.length c]] w fun e w' => ∃ v, e = .returned (.agg #[v]) ∧ w'.ownsRow w.heap.size 3 1 v l.length (icell l) ∧ Below w.heap.size w w' := by
  have B1 : Hid (Blk (((w.alloc (.cells #[.slice a l.length c] 63)).alloc (.cells #[.slice none 0 0] 46)).alloc (.cells #[.slice none 0 0] 46)) (w.heap.size + 1) 46 [.slice none 0 0]) := hideP (by have := (Blk.new (w.alloc (.cells #[.slice a l.length c] 63)) #[.slice none 0 0] 46).alloc (.cells #[.slice none 0 0] 46); simpa using this)
  have B2 : Hid (Blk (((w.alloc (.cells #[.slice a l.length c] 63)).alloc (.cells #[.slice none 0 0] 46)).alloc (.cells #[.slice none 0 0] 46)) (w.heap.size + 1 + 1) 46 [.slice none 0 0]) := hideP (by have := Blk.new ((w.alloc (.cells #[.slice a l.length c] 63)).alloc (.cells #[.slice none 0 0] 46)) #[.slice none 0 0] 46; simpa using this)
  have hb0 := below_a3 w (.cells #[.slice a l.length c] 63) (.cells #[.slice none 0 0] 46) (.cells #[.slice none 0 0] 46)
  have HR := hideP (h.below hb0)
  have HB := hideP hb0
  clear h hb0
  go_enter Try.func39, Try.ntmps39
  go_wp2_with fail
  refine (toIntS_any a _ c l rfl hl _ HR.out).mono ?_
  rintro e w1 ⟨v, rfl, ho, hb1⟩
  obtain ⟨p, q, rfl, _⟩ := owns_slice ho
  have B1 := hideP (B1.out.below hb1)
  have B2 := hideP (B2.out.below hb1)
  have HB1 := hideP (HB.out.trans (hb1.mono HB.out.size))
  have HO := hideP ho
  have z1 : w1.cell? ⟨w.heap.size + 1, 0, none⟩ = some (.slice none 0 0) := (B1.out.cell 0).trans rfl
  have f1 : w1.frozen? ⟨w.heap.size + 1, 0, none⟩ = false := B1.out.frozen 0
  have z2 : w1.cell? ⟨w.heap.size + 1 + 1, 0, none⟩ = some (.slice none 0 0) := (B2.out.cell 0).trans rfl
  have f2 : w1.frozen? ⟨w.heap.size + 1 + 1, 0, none⟩ = false := B2.out.frozen 0
  have PP : ∀ k, (Value.slice p l.length q).ownBlock = some k → k ≠ w.heap.size + 1 ∧ k ≠ w.heap.size + 1 + 1 := fun k hk => by have := ho.lt k hk; simp only [World.size_alloc] at this; omega
  clear ho hb1 B1 B2 HR HB
  go_wp2
  refine bodyPost_ret (v := .agg #[.slice p l.length q]) (by simp [results, Try.results39, go_sem, z1]) rfl ⟨_, rfl, ?_, ?_⟩
  · have K : KeptP (fun k => k = w.heap.size + 1 ∨ k = w.heap.size + 1 + 1) w1 w1 := KeptP.refl _ _
    refine KeptP.owns (P := fun k => k = w.heap.size + 1 ∨ k = w.heap.size + 1 + 1) ?_ (owns_mono HO.out (by simp; omega)) (fun k hk e => by have := PP k hk; omega)
    repeat (first | (with_reducible exact K) | (refine KeptP.setCell ?_ (by simp) _))
  · repeat (first | (with_reducible exact HB1.out) | (refine Below.setCell ?_ (by simp; try omega) _))
end Go.Proofs.Ytpiaahkfnefplaa
