/- ShowArena of the program. -/
import Derived.Test.YtnchmenpgmlpdaaShowArenaS
import Derived.Test.YtnchmenpgmlpdaaArenaOkI
import Derived.Test.YtnchmenpgmlpdaaShowObjI
import Derived.Deep.DeepCutAuto
namespace Go.Proofs.Ytnchmenpgmlpdaa
open Go.RowKit

set_option maxRecDepth 100000 in
set_option maxHeartbeats 8000000 in
theorem implShowArena_any (l : List Thing) (p : Option Addr) (c : Nat) (hl : l.length ≤ 1048576) (hs : Short 1048576 l) (w : World) (h : ThingsRd w p l) :
    Calls Try.prog 51 #[.slice p l.length c] w fun e w' => e = .returned (.string ⟨(showArena l).toArray⟩) ∧ Below w.heap.size w w' := by
  have HR := hideP h
  have HS := hideP hs
  clear h hs
  go_enter Try.func51, Try.ntmps51
  go_wp2_with fail
  refine (implArenaOk_any l p c hl HS.out _ HR.out).mono ?_
  rintro e w1 ⟨rfl, hb1⟩
  have HB := hideP hb1
  clear hb1
  cases hok : arenaOk l
  · have HN : Hid (showArena l = []) := hideP (by unfold showArena; rw [hok]; rfl)
    go_wp2
    go_ret
    exact ⟨by rw [HN.out]; rfl, HB.out⟩
  have HN : Hid (showArena l = l.flatMap showThing) := hideP (by unfold showArena; rw [hok]; rfl)
  have HL := hideP (arena_ten hok)
  clear hok
  go_wp2
  go_loopg [3, 12] (l.length + 1) (fun gk s i wr => ∃ (k : Nat) (acc : List UInt8), l.length < gk + k ∧ k ≤ l.length ∧ i = .int .i64 (k : Int) ∧ s = .string ⟨acc.toArray⟩ ∧ acc.length ≤ 2160 ∧ Hid ((l.take k).flatMap showThing = acc) ∧ Hid (Below w.heap.size w wr))
  case atStart => exact ⟨0, [], by omega, by omega, rfl, rfl, by simp, hideP rfl, HB⟩
  case round =>
    clear HB
    obtain ⟨k, acc, hgk, hk, rfl, rfl, hal, hv, HB⟩ := hrel
    by_cases hlt : k < l.length
    · obtain ⟨x, hx⟩ := some_at (l := l) (k := k) hlt
      obtain ⟨b, o, vl, vd, vq, rfl, hbr, hth, hz9⟩ := HR.out.below HB.out k x hx
      obtain ⟨⟨s1, s2, s3⟩, hw⟩ := HS.out x (List.mem_of_getElem? hx)
      have HT := hideP hth
      clear hth
      obtain ⟨al, cl, rfl⟩ := HT.out.l.shape
      obtain ⟨ad, cd, rfl⟩ := HT.out.d.shape
      obtain ⟨aq, cq, rfl⟩ := HT.out.q.shape
      have g0 : World.cell? _ ⟨b, o + k * 13, none⟩ = some (.int .i64 x.gen) := hz9 0 _ rfl
      have g1 : World.cell? _ ⟨b, o + k * 13 + 1, none⟩ = some (.int .i64 x.kind) := hz9 1 _ rfl
      have g2 : World.cell? _ ⟨b, o + k * 13 + 2, none⟩ = some (.int .i64 x.box) := hz9 2 _ rfl
      have g3 : World.cell? _ ⟨b, o + k * 13 + 3, none⟩ = some (.int .i64 x.res) := hz9 3 _ rfl
      have g4 : World.cell? _ ⟨b, o + k * 13 + 4, none⟩ = some (.int .i64 x.til) := hz9 4 _ rfl
      have g5 : World.cell? _ ⟨b, o + k * 13 + 5, none⟩ = some (.int .i64 x.pages) := hz9 5 _ rfl
      have g6 : World.cell? _ ⟨b, o + k * 13 + 6, none⟩ = some (.int .i64 x.wait) := hz9 6 _ rfl
      have g7 : World.cell? _ ⟨b, o + k * 13 + 7, none⟩ = some (.int .i64 x.got) := hz9 7 _ rfl
      have g8 : World.cell? _ ⟨b, o + k * 13 + 8, none⟩ = some (.int .i64 x.ran) := hz9 8 _ rfl
      have g9 : World.cell? _ ⟨b, o + k * 13 + 9, none⟩ = some (.bool x.mark) := hz9 9 _ rfl
      have g10 : World.cell? _ ⟨b, o + k * 13 + 10, none⟩ = some (.slice al x.links.length cl) := hz9 10 _ rfl
      have g11 : World.cell? _ ⟨b, o + k * 13 + 11, none⟩ = some (.slice ad x.data.length cd) := hz9 11 _ rfl
      have g12 : World.cell? _ ⟨b, o + k * 13 + 12, none⟩ = some (.slice aq x.queue.length cq) := hz9 12 _ rfl
      have k0 : (0 : Int) ≤ (k : Int) := by omega
      have k1 : (k : Int) < (l.length : Int) := by omega
      have HV : Hid ((l.take (k + 1)).flatMap showThing = acc ++ showThing x) := hideP (by rw [shows_next hx, hv.out])
      have hal2 : (acc ++ showThing x).length ≤ 2160 := by rw [← HV.out]; exact shows_take l HL.out _
      have HAL := Lib.hid hal2
      have hsl := showThing_len x
      clear hx hz9 hal2
      go_upto_region 7 with fail
      have hb9 := below_a1 wr (.cells #[.int .i64 x.gen, .int .i64 x.kind, .int .i64 x.box, .int .i64 x.res, .int .i64 x.til, .int .i64 x.pages, .int .i64 x.wait, .int .i64 x.got, .int .i64 x.ran, .bool x.mark, .slice al x.links.length cl, .slice ad x.data.length cd, .slice aq x.queue.length cq] 71)
      have X0 := hideP (Blk.new wr #[.int .i64 x.gen, .int .i64 x.kind, .int .i64 x.box, .int .i64 x.res, .int .i64 x.til, .int .i64 x.pages, .int .i64 x.wait, .int .i64 x.got, .int .i64 x.ran, .bool x.mark, .slice al x.links.length cl, .slice ad x.data.length cd, .slice aq x.queue.length cq] 71)
      have HB := hideP (HB.out.trans (hb9.mono HB.out.size))
      have HT := hideP (HT.out.below hb9)
      obtain ⟨W, hW⟩ : ∃ W, W = wr.alloc (.cells #[.int .i64 x.gen, .int .i64 x.kind, .int .i64 x.box, .int .i64 x.res, .int .i64 x.til, .int .i64 x.pages, .int .i64 x.wait, .int .i64 x.got, .int .i64 x.ran, .bool x.mark, .slice al x.links.length cl, .slice ad x.data.length cd, .slice aq x.queue.length cq] 71) := ⟨_, rfl⟩
      rw [← hW] at X0 HB HT ⊢
      clear hW hb9 hbr g0 g1 g2 g3 g4 g5 g6 g7 g8 g9 g10 g11 g12
      obtain ⟨XB, hXB⟩ : ∃ XB, XB = wr.heap.size := ⟨_, rfl⟩
      rw [← hXB] at X0 ⊢
      clear hXB
      have X0 : Hid (Blk W XB 71 [.int .i64 x.gen, .int .i64 x.kind, .int .i64 x.box, .int .i64 x.res, .int .i64 x.til, .int .i64 x.pages, .int .i64 x.wait, .int .i64 x.got, .int .i64 x.ran, .bool x.mark, .slice al x.links.length cl, .slice ad x.data.length cd, .slice aq x.queue.length cq]) := X0
      have c0 : W.cell? ⟨XB, 0, none⟩ = some (.int .i64 x.gen) := (X0.out.cell 0).trans rfl
      have c1 : W.cell? ⟨XB, 1, none⟩ = some (.int .i64 x.kind) := (X0.out.cell 1).trans rfl
      have c2 : W.cell? ⟨XB, 2, none⟩ = some (.int .i64 x.box) := (X0.out.cell 2).trans rfl
      have c3 : W.cell? ⟨XB, 3, none⟩ = some (.int .i64 x.res) := (X0.out.cell 3).trans rfl
      have c4 : W.cell? ⟨XB, 4, none⟩ = some (.int .i64 x.til) := (X0.out.cell 4).trans rfl
      have c5 : W.cell? ⟨XB, 5, none⟩ = some (.int .i64 x.pages) := (X0.out.cell 5).trans rfl
      have c6 : W.cell? ⟨XB, 6, none⟩ = some (.int .i64 x.wait) := (X0.out.cell 6).trans rfl
      have c7 : W.cell? ⟨XB, 7, none⟩ = some (.int .i64 x.got) := (X0.out.cell 7).trans rfl
      have c8 : W.cell? ⟨XB, 8, none⟩ = some (.int .i64 x.ran) := (X0.out.cell 8).trans rfl
      have c9 : W.cell? ⟨XB, 9, none⟩ = some (.bool x.mark) := (X0.out.cell 9).trans rfl
      have c10 : W.cell? ⟨XB, 10, none⟩ = some (.slice al x.links.length cl) := (X0.out.cell 10).trans rfl
      have c11 : W.cell? ⟨XB, 11, none⟩ = some (.slice ad x.data.length cd) := (X0.out.cell 11).trans rfl
      have c12 : W.cell? ⟨XB, 12, none⟩ = some (.slice aq x.queue.length cq) := (X0.out.cell 12).trans rfl
      go_wp2_with fail
      refine (implShowObj_any x _ _ _ s1 s2 s3 hw _ HT.out).mono ?_
      rintro e w2 ⟨rfl, hb2⟩
      have HB := hideP (HB.out.trans (hb2.mono HB.out.size))
      clear hb2 HT X0 c0 c1 c2 c3 c4 c5 c6 c7 c8 c9 c10 c11 c12
      go_wp2
      go_roundg (gk - 1)
      case measure => omega
      case rel => exact ⟨k + 1, _, by omega, by omega, by go_num, (by rw [ByteArray.mk_append_mk]; try rfl), HAL.out, HV, HB⟩
    · have HV : Hid (l.flatMap showThing = acc) := hideP (by rw [← hv.out, List.take_of_length_le (by omega)])
      have d1 : ¬ ((k : Int) < (l.length : Int)) := by omega
      go_wp2
      go_ret
      exact ⟨by rw [HN.out, HV.out]; rfl, HB.out⟩

end Go.Proofs.Ytnchmenpgmlpdaa
