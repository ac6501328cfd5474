/- Things: the laws' helpers toObj, szObj, eqObj. -/
import Derived.Test.YtpiaahkfnefplaaMsgTo
import Derived.Test.YtpiaahkfnefplaaBlk
import Derived.Test.YtpiaahkfnefplaaReadEnv
import Derived.Test.YtpiaahkfnefplaaObjOwn
import Derived.Deep.DeepCutAuto
namespace Go.Proofs.Ytpiaahkfnefplaa
open Go.RowKit

def thingSize (o : Thing) : Nat := o.links.length + o.data.length + o.queue.length
theorem Blk.new' {w : World} {g : Nat} (cs : Array Value) (T : TypeId) (h : g = w.heap.size) : Blk (w.alloc (.cells cs T)) g T cs.toList := by
  subst h; exact Blk.new w cs T
theorem owns_sl {w : World} {base : Nat} {e : TypeId} {s n : Nat} {v : Value} {xs : List Value} (h : w.ownsRow base e s v n xs) : SlIs w v n xs := by
  obtain ⟨a, c, rfl, hc⟩ := owns_slice h
  exact ⟨a, c, rfl, hc, rd_of_owns h⟩
theorem Kept.leftset {g x i : Nat} {a b : World} {v : Value} (h : Kept g x a b) : Kept g x a (b.setCell ⟨g, i, none⟩ v) := h.trans (Kept.left (grown_set1 (World.grownBy.refl _ _)))
set_option maxRecDepth 100000 in
set_option maxHeartbeats 8000000 in
theorem szObj_any (o : Thing) (vl vd vq : Value) (al ad aq : Option Addr) (cl cd cq : Nat) (hl : o.links.length ≤ maxLen) (hd : o.data.length ≤ maxLen) (hq : o.queue.length ≤ maxLen) (h1 : vl = .slice al o.links.length cl) (h2 : vd = .slice ad o.data.length cd) (h3 : vq = .slice aq o.queue.length cq) (left : Int) (h0 : 0 ≤ left ∧ left ≤ 1048576) (w : World) :
    Calls Try.prog 68 #[.agg #[.int .i64 o.gen, .int .i64 o.kind, .int .i64 o.box, .int .i64 o.res, .int .i64 o.til, .int .i64 o.pages, .int .i64 o.wait, .int .i64 o.got, .int .i64 o.ran, .bool o.mark, vl, vd, vq], .int .i64 left] w fun e w' => e = .returned (.int .i64 (szLeft left (thingSize o))) ∧ Below w.heap.size w w' := by
  subst h1 h2 h3
  have hb0 := below_a1 w (.cells #[.int .i64 o.gen, .int .i64 o.kind, .int .i64 o.box, .int .i64 o.res, .int .i64 o.til, .int .i64 o.pages, .int .i64 o.wait, .int .i64 o.got, .int .i64 o.ran, .bool o.mark, .slice al o.links.length cl, .slice ad o.data.length cd, .slice aq o.queue.length cq] 119)
  go_enter Try.func68, Try.ntmps68
  go_wp2_with fail
  refine (szIntS_any _ _ _ hl left h0 _).mono ?_
  rintro e w' ⟨rfl, rfl⟩
  by_cases c1 : left < (o.links.length : Int)
  · have HS : Hid (szLeft left (thingSize o) = -1) := hideP (szLeft_no (by unfold thingSize; omega))
    rw [szLeft_no c1]
    go_wp2
    go_ret
    exact ⟨ret_int HS.out.symm, hb0⟩
  rw [szLeft_yes c1]
  obtain ⟨l1, e1⟩ : ∃ l1, l1 = left - (o.links.length : Int) := ⟨_, rfl⟩
  have hl1 : 0 ≤ l1 ∧ l1 ≤ 1048576 := by omega
  have E1 := Lib.hid e1
  rw [← e1]
  clear e1 c1
  obtain ⟨hl10, hl11⟩ := hl1
  go_wp2_with fail
  refine (szIntS_any _ _ _ hd l1 ⟨hl10, hl11⟩ _).mono ?_
  rintro e w' ⟨rfl, rfl⟩
  by_cases c2 : l1 < (o.data.length : Int)
  · have HS : Hid (szLeft left (thingSize o) = -1) := hideP (szLeft_no (by have := E1.out; unfold thingSize; omega))
    rw [szLeft_no c2]
    go_wp2
    go_ret
    exact ⟨ret_int HS.out.symm, hb0⟩
  rw [szLeft_yes c2]
  obtain ⟨l2, e2⟩ : ∃ l2, l2 = l1 - (o.data.length : Int) := ⟨_, rfl⟩
  have hl2 : 0 ≤ l2 ∧ l2 ≤ 1048576 := by omega
  have E2 := Lib.hid e2
  rw [← e2]
  clear e2 c2
  obtain ⟨hl20, hl21⟩ := hl2
  go_wp2_with fail
  refine (szMsgS_any _ _ _ hq l2 ⟨hl20, hl21⟩ _).mono ?_
  rintro e w' ⟨rfl, rfl⟩
  by_cases c3 : l2 < (o.queue.length : Int)
  · have HS : Hid (szLeft left (thingSize o) = -1) := hideP (szLeft_no (by have := E1.out; have := E2.out; unfold thingSize; omega))
    rw [szLeft_no c3]
    go_wp2
    go_ret
    exact ⟨ret_int HS.out.symm, hb0⟩
  have HS : Hid (szLeft left (thingSize o) = l2 - (o.queue.length : Int)) := hideP (by have := E1.out; have := E2.out; rw [szLeft_yes (by unfold thingSize; omega)]; unfold thingSize; omega)
  rw [szLeft_yes c3]
  go_wp2
  go_ret
  exact ⟨ret_int HS.out.symm, hb0⟩

set_option maxRecDepth 100000 in
set_option maxHeartbeats 8000000 in
theorem toObj_own (o : Thing) (vl vd vq : Value) (hl : o.links.length ≤ 1048576) (hd : o.data.length ≤ 1048576) (hq : o.queue.length ≤ 1048576) (w : World) (h : ThIs w o vl vd vq) :
    Calls Try.prog 69 #[.agg #[.int .i64 o.gen, .int .i64 o.kind, .int .i64 o.box, .int .i64 o.res, .int .i64 o.til, .int .i64 o.pages, .int .i64 o.wait, .int .i64 o.got, .int .i64 o.ran, .bool o.mark, vl, vd, vq]] w fun e w' => ∃ ul ud uq, e = .returned (.agg #[.int .i64 o.gen, .int .i64 o.kind, .int .i64 o.box, .int .i64 o.res, .int .i64 o.til, .int .i64 o.pages, .int .i64 o.wait, .int .i64 o.got, .int .i64 o.ran, .bool o.mark, ul, ud, uq]) ∧ ObjOwn w' w.heap.size o ul ud uq ∧ Below w.heap.size w w' := by
  obtain ⟨⟨al, cl, rfl, hcl, hrl⟩, ⟨ad, cd, rfl, hcd, hrd⟩, ⟨aq, cq, rfl, hcq, hrq⟩⟩ := h
  have hb0 := below_a1 w (.cells #[.int .i64 o.gen, .int .i64 o.kind, .int .i64 o.box, .int .i64 o.res, .int .i64 o.til, .int .i64 o.pages, .int .i64 o.wait, .int .i64 o.got, .int .i64 o.ran, .bool o.mark, .slice al o.links.length cl, .slice ad o.data.length cd, .slice aq o.queue.length cq] 119)
  have hb1 := hb0.alloc hb0.size (.cells #[.int .i64 0, .int .i64 0, .int .i64 0, .int .i64 0, .int .i64 0, .int .i64 0, .int .i64 0, .int .i64 0, .int .i64 0, .bool false, .slice none 0 0, .slice none 0 0, .slice none 0 0] 55)
  have hb2 := hb1.alloc hb1.size (.cells #[.int .i64 o.gen, .int .i64 o.kind, .int .i64 o.box, .int .i64 o.res, .int .i64 o.til, .int .i64 o.pages, .int .i64 o.wait, .int .i64 o.got, .int .i64 o.ran, .bool o.mark, .slice none 0 0, .slice none 0 0, .slice none 0 0] 55)
  have B0 := hideP (((Blk.new' (w := w) (g := w.heap.size) #[.int .i64 o.gen, .int .i64 o.kind, .int .i64 o.box, .int .i64 o.res, .int .i64 o.til, .int .i64 o.pages, .int .i64 o.wait, .int .i64 o.got, .int .i64 o.ran, .bool o.mark, .slice al o.links.length cl, .slice ad o.data.length cd, .slice aq o.queue.length cq] 119 rfl).alloc (.cells #[.int .i64 0, .int .i64 0, .int .i64 0, .int .i64 0, .int .i64 0, .int .i64 0, .int .i64 0, .int .i64 0, .int .i64 0, .bool false, .slice none 0 0, .slice none 0 0, .slice none 0 0] 55)).alloc (.cells #[.int .i64 o.gen, .int .i64 o.kind, .int .i64 o.box, .int .i64 o.res, .int .i64 o.til, .int .i64 o.pages, .int .i64 o.wait, .int .i64 o.got, .int .i64 o.ran, .bool o.mark, .slice none 0 0, .slice none 0 0, .slice none 0 0] 55))
  have B1 := hideP ((Blk.new' (w := w.alloc (.cells #[.int .i64 o.gen, .int .i64 o.kind, .int .i64 o.box, .int .i64 o.res, .int .i64 o.til, .int .i64 o.pages, .int .i64 o.wait, .int .i64 o.got, .int .i64 o.ran, .bool o.mark, .slice al o.links.length cl, .slice ad o.data.length cd, .slice aq o.queue.length cq] 119)) (g := w.heap.size + 1) #[.int .i64 0, .int .i64 0, .int .i64 0, .int .i64 0, .int .i64 0, .int .i64 0, .int .i64 0, .int .i64 0, .int .i64 0, .bool false, .slice none 0 0, .slice none 0 0, .slice none 0 0] 55 (by simp)).alloc (.cells #[.int .i64 o.gen, .int .i64 o.kind, .int .i64 o.box, .int .i64 o.res, .int .i64 o.til, .int .i64 o.pages, .int .i64 o.wait, .int .i64 o.got, .int .i64 o.ran, .bool o.mark, .slice none 0 0, .slice none 0 0, .slice none 0 0] 55))
  have B2 := hideP (Blk.new' (w := (w.alloc (.cells #[.int .i64 o.gen, .int .i64 o.kind, .int .i64 o.box, .int .i64 o.res, .int .i64 o.til, .int .i64 o.pages, .int .i64 o.wait, .int .i64 o.got, .int .i64 o.ran, .bool o.mark, .slice al o.links.length cl, .slice ad o.data.length cd, .slice aq o.queue.length cq] 119)).alloc (.cells #[.int .i64 0, .int .i64 0, .int .i64 0, .int .i64 0, .int .i64 0, .int .i64 0, .int .i64 0, .int .i64 0, .int .i64 0, .bool false, .slice none 0 0, .slice none 0 0, .slice none 0 0] 55)) (g := w.heap.size + 2) #[.int .i64 o.gen, .int .i64 o.kind, .int .i64 o.box, .int .i64 o.res, .int .i64 o.til, .int .i64 o.pages, .int .i64 o.wait, .int .i64 o.got, .int .i64 o.ran, .bool o.mark, .slice none 0 0, .slice none 0 0, .slice none 0 0] 55 (by simp))
  have hz : w.heap.size + 2 < (((w.alloc (.cells #[.int .i64 o.gen, .int .i64 o.kind, .int .i64 o.box, .int .i64 o.res, .int .i64 o.til, .int .i64 o.pages, .int .i64 o.wait, .int .i64 o.got, .int .i64 o.ran, .bool o.mark, .slice al o.links.length cl, .slice ad o.data.length cd, .slice aq o.queue.length cq] 119)).alloc (.cells #[.int .i64 0, .int .i64 0, .int .i64 0, .int .i64 0, .int .i64 0, .int .i64 0, .int .i64 0, .int .i64 0, .int .i64 0, .bool false, .slice none 0 0, .slice none 0 0, .slice none 0 0] 55)).alloc (.cells #[.int .i64 o.gen, .int .i64 o.kind, .int .i64 o.box, .int .i64 o.res, .int .i64 o.til, .int .i64 o.pages, .int .i64 o.wait, .int .i64 o.got, .int .i64 o.ran, .bool o.mark, .slice none 0 0, .slice none 0 0, .slice none 0 0] 55)).heap.size := by simp
  go_enter Try.func69, Try.ntmps69
  go_upto_region 11 with fail
  go_cut [3] (fun s wx => s = .pointer (some ⟨w.heap.size + 2, 0, none⟩) ∧ Hid (Blk wx w.heap.size 119 [.int .i64 o.gen, .int .i64 o.kind, .int .i64 o.box, .int .i64 o.res, .int .i64 o.til, .int .i64 o.pages, .int .i64 o.wait, .int .i64 o.got, .int .i64 o.ran, .bool o.mark, .slice al o.links.length cl, .slice ad o.data.length cd, .slice aq o.queue.length cq]) ∧ Hid (Blk wx (w.heap.size + 1) 55 [.int .i64 0, .int .i64 0, .int .i64 0, .int .i64 0, .int .i64 0, .int .i64 0, .int .i64 0, .int .i64 0, .int .i64 0, .bool false, .slice none 0 0, .slice none 0 0, .slice none 0 0]) ∧ Hid (Blk wx (w.heap.size + 2) 55 [.int .i64 o.gen, .int .i64 o.kind, .int .i64 o.box, .int .i64 o.res, .int .i64 o.til, .int .i64 o.pages, .int .i64 o.wait, .int .i64 o.got, .int .i64 o.ran, .bool o.mark, .slice none 0 0, .slice none 0 0, .slice none 0 0]) ∧ Below w.heap.size w wx ∧ w.heap.size + 2 < wx.heap.size)
  case first =>
    go_wp2
    go_meet
    exact ⟨rfl, B0, B1, B2, hb2, hz⟩
  case rest =>
  clear B0 B1 B2 hb0 hb1 hb2 hz
  obtain ⟨rfl, B0, B1, B2, hb, hz⟩ := hcut
  have a10 : World.cell? _ ⟨w.heap.size, 10, none⟩ = some (.slice al o.links.length cl) := (B0.out.cell 10).trans rfl
  go_wp2_with fail
  refine (toIntS_any al _ cl o.links rfl hl _ (hrl.below hb)).mono ?_
  rintro e w1 ⟨v1, rfl, ho1, hb1⟩
  obtain ⟨p1, q1, rfl, _⟩ := owns_slice ho1
  have hs1 := hb1.size
  try simp only [World.size_setCell] at hs1
  have hc1 : Below w.heap.size w w1 := hb.trans (hb1.mono hb.size)
  have B0 := hideP (B0.out.below hb1)
  have B1 := hideP (B1.out.below hb1)
  have B2 := hideP (B2.out.below hb1)
  have Ho1 := Lib.hid ho1
  have Hb1 := Lib.hid hb1
  clear ho1 hb1 a10
  have s10 : w1.cell? ⟨w.heap.size + 2, 10, none⟩ = some (.slice none 0 0) := (B2.out.cell 10).trans rfl
  have f10 : w1.frozen? ⟨w.heap.size + 2, 10, none⟩ = false := B2.out.frozen 10
  have a11 : w1.cell? ⟨w.heap.size, 11, none⟩ = some (.slice ad o.data.length cd) := (B0.out.cell 11).trans rfl
  have B0x := hideP (B0.out.other 10 (.slice p1 o.links.length q1) (show w.heap.size ≠ w.heap.size + 2 by omega))
  have B1x := hideP (B1.out.other 10 (.slice p1 o.links.length q1) (show w.heap.size + 1 ≠ w.heap.size + 2 by omega))
  have B2x : Hid (Blk (w1.setCell ⟨w.heap.size + 2, 10, none⟩ (.slice p1 o.links.length q1)) (w.heap.size + 2) 55 [.int .i64 o.gen, .int .i64 o.kind, .int .i64 o.box, .int .i64 o.res, .int .i64 o.til, .int .i64 o.pages, .int .i64 o.wait, .int .i64 o.got, .int .i64 o.ran, .bool o.mark, .slice p1 o.links.length q1, .slice none 0 0, .slice none 0 0]) := hideP (B2.out.set 10 (.slice p1 o.links.length q1))
  have hd1 : Below w.heap.size w (w1.setCell ⟨w.heap.size + 2, 10, none⟩ (.slice p1 o.links.length q1)) := hc1.setCell (p := ⟨w.heap.size + 2, 10, none⟩) (by simp) (.slice p1 o.links.length q1)
  clear B0 B1 B2
  have B0 := B0x
  have B1 := B1x
  have B2 := B2x
  clear B0x B1x B2x
  go_wp2_with fail
  refine (toIntS_any ad _ cd o.data rfl hd _ (hrd.below hd1)).mono ?_
  rintro e w2 ⟨v2, rfl, ho2, hb2⟩
  obtain ⟨p2, q2, rfl, _⟩ := owns_slice ho2
  have hs2 := hb2.size
  try simp only [World.size_setCell] at hs2
  have hc2 : Below w.heap.size w w2 := hd1.trans (hb2.mono hd1.size)
  have B0 := hideP (B0.out.below hb2)
  have B1 := hideP (B1.out.below hb2)
  have B2 := hideP (B2.out.below hb2)
  have Ho2 := Lib.hid ho2
  have Hb2 := Lib.hid hb2
  clear ho2 hb2 a11 s10 f10
  have s11 : w2.cell? ⟨w.heap.size + 2, 11, none⟩ = some (.slice none 0 0) := (B2.out.cell 11).trans rfl
  have f11 : w2.frozen? ⟨w.heap.size + 2, 11, none⟩ = false := B2.out.frozen 11
  have a12 : w2.cell? ⟨w.heap.size, 12, none⟩ = some (.slice aq o.queue.length cq) := (B0.out.cell 12).trans rfl
  have B0x := hideP (B0.out.other 11 (.slice p2 o.data.length q2) (show w.heap.size ≠ w.heap.size + 2 by omega))
  have B1x := hideP (B1.out.other 11 (.slice p2 o.data.length q2) (show w.heap.size + 1 ≠ w.heap.size + 2 by omega))
  have B2x : Hid (Blk (w2.setCell ⟨w.heap.size + 2, 11, none⟩ (.slice p2 o.data.length q2)) (w.heap.size + 2) 55 [.int .i64 o.gen, .int .i64 o.kind, .int .i64 o.box, .int .i64 o.res, .int .i64 o.til, .int .i64 o.pages, .int .i64 o.wait, .int .i64 o.got, .int .i64 o.ran, .bool o.mark, .slice p1 o.links.length q1, .slice p2 o.data.length q2, .slice none 0 0]) := hideP (B2.out.set 11 (.slice p2 o.data.length q2))
  have hd2 : Below w.heap.size w (w2.setCell ⟨w.heap.size + 2, 11, none⟩ (.slice p2 o.data.length q2)) := hc2.setCell (p := ⟨w.heap.size + 2, 11, none⟩) (by simp) (.slice p2 o.data.length q2)
  clear B0 B1 B2
  have B0 := B0x
  have B1 := B1x
  have B2 := B2x
  clear B0x B1x B2x
  go_wp2_with fail
  refine (toMsgS_any aq _ cq o.queue rfl hq _ (hrq.below hd2)).mono ?_
  rintro e w3 ⟨v3, rfl, ho3, hb3⟩
  obtain ⟨p3, q3, rfl, _⟩ := owns_slice ho3
  have hs3 := hb3.size
  try simp only [World.size_setCell] at hs3
  have hc3 : Below w.heap.size w w3 := hd2.trans (hb3.mono hd2.size)
  have B0 := hideP (B0.out.below hb3)
  have B1 := hideP (B1.out.below hb3)
  have B2 := hideP (B2.out.below hb3)
  have Ho3 := Lib.hid ho3
  have Hb3 := Lib.hid hb3
  clear ho3 hb3 a12 s11 f11
  have s12 : w3.cell? ⟨w.heap.size + 2, 12, none⟩ = some (.slice none 0 0) := (B2.out.cell 12).trans rfl
  have f12 : w3.frozen? ⟨w.heap.size + 2, 12, none⟩ = false := B2.out.frozen 12
  have c0 : w3.cell? ⟨w.heap.size + 2, 0, none⟩ = some (.int .i64 o.gen) := (B2.out.cell 0).trans rfl
  have c1 : w3.cell? ⟨w.heap.size + 2, 1, none⟩ = some (.int .i64 o.kind) := (B2.out.cell 1).trans rfl
  have c2 : w3.cell? ⟨w.heap.size + 2, 2, none⟩ = some (.int .i64 o.box) := (B2.out.cell 2).trans rfl
  have c3 : w3.cell? ⟨w.heap.size + 2, 3, none⟩ = some (.int .i64 o.res) := (B2.out.cell 3).trans rfl
  have c4 : w3.cell? ⟨w.heap.size + 2, 4, none⟩ = some (.int .i64 o.til) := (B2.out.cell 4).trans rfl
  have c5 : w3.cell? ⟨w.heap.size + 2, 5, none⟩ = some (.int .i64 o.pages) := (B2.out.cell 5).trans rfl
  have c6 : w3.cell? ⟨w.heap.size + 2, 6, none⟩ = some (.int .i64 o.wait) := (B2.out.cell 6).trans rfl
  have c7 : w3.cell? ⟨w.heap.size + 2, 7, none⟩ = some (.int .i64 o.got) := (B2.out.cell 7).trans rfl
  have c8 : w3.cell? ⟨w.heap.size + 2, 8, none⟩ = some (.int .i64 o.ran) := (B2.out.cell 8).trans rfl
  have c9 : w3.cell? ⟨w.heap.size + 2, 9, none⟩ = some (.bool o.mark) := (B2.out.cell 9).trans rfl
  have c10 : w3.cell? ⟨w.heap.size + 2, 10, none⟩ = some (.slice p1 o.links.length q1) := (B2.out.cell 10).trans rfl
  have c11 : w3.cell? ⟨w.heap.size + 2, 11, none⟩ = some (.slice p2 o.data.length q2) := (B2.out.cell 11).trans rfl
  have d0 : w3.cell? ⟨w.heap.size + 1, 0, none⟩ = some (.int .i64 0) := (B1.out.cell 0).trans rfl
  have k0 : w3.frozen? ⟨w.heap.size + 1, 0, none⟩ = false := B1.out.frozen 0
  have d1 : w3.cell? ⟨w.heap.size + 1, 1, none⟩ = some (.int .i64 0) := (B1.out.cell 1).trans rfl
  have k1 : w3.frozen? ⟨w.heap.size + 1, 1, none⟩ = false := B1.out.frozen 1
  have d2 : w3.cell? ⟨w.heap.size + 1, 2, none⟩ = some (.int .i64 0) := (B1.out.cell 2).trans rfl
  have k2 : w3.frozen? ⟨w.heap.size + 1, 2, none⟩ = false := B1.out.frozen 2
  have d3 : w3.cell? ⟨w.heap.size + 1, 3, none⟩ = some (.int .i64 0) := (B1.out.cell 3).trans rfl
  have k3 : w3.frozen? ⟨w.heap.size + 1, 3, none⟩ = false := B1.out.frozen 3
  have d4 : w3.cell? ⟨w.heap.size + 1, 4, none⟩ = some (.int .i64 0) := (B1.out.cell 4).trans rfl
  have k4 : w3.frozen? ⟨w.heap.size + 1, 4, none⟩ = false := B1.out.frozen 4
  have d5 : w3.cell? ⟨w.heap.size + 1, 5, none⟩ = some (.int .i64 0) := (B1.out.cell 5).trans rfl
  have k5 : w3.frozen? ⟨w.heap.size + 1, 5, none⟩ = false := B1.out.frozen 5
  have d6 : w3.cell? ⟨w.heap.size + 1, 6, none⟩ = some (.int .i64 0) := (B1.out.cell 6).trans rfl
  have k6 : w3.frozen? ⟨w.heap.size + 1, 6, none⟩ = false := B1.out.frozen 6
  have d7 : w3.cell? ⟨w.heap.size + 1, 7, none⟩ = some (.int .i64 0) := (B1.out.cell 7).trans rfl
  have k7 : w3.frozen? ⟨w.heap.size + 1, 7, none⟩ = false := B1.out.frozen 7
  have d8 : w3.cell? ⟨w.heap.size + 1, 8, none⟩ = some (.int .i64 0) := (B1.out.cell 8).trans rfl
  have k8 : w3.frozen? ⟨w.heap.size + 1, 8, none⟩ = false := B1.out.frozen 8
  have d9 : w3.cell? ⟨w.heap.size + 1, 9, none⟩ = some (.bool false) := (B1.out.cell 9).trans rfl
  have k9 : w3.frozen? ⟨w.heap.size + 1, 9, none⟩ = false := B1.out.frozen 9
  have d10 : w3.cell? ⟨w.heap.size + 1, 10, none⟩ = some (.slice none 0 0) := (B1.out.cell 10).trans rfl
  have k10 : w3.frozen? ⟨w.heap.size + 1, 10, none⟩ = false := B1.out.frozen 10
  have d11 : w3.cell? ⟨w.heap.size + 1, 11, none⟩ = some (.slice none 0 0) := (B1.out.cell 11).trans rfl
  have k11 : w3.frozen? ⟨w.heap.size + 1, 11, none⟩ = false := B1.out.frozen 11
  have d12 : w3.cell? ⟨w.heap.size + 1, 12, none⟩ = some (.slice none 0 0) := (B1.out.cell 12).trans rfl
  have k12 : w3.frozen? ⟨w.heap.size + 1, 12, none⟩ = false := B1.out.frozen 12
  go_wp2
  have P1 : ∀ k, (Value.slice p1 o.links.length q1).ownBlock = some k → k ≠ w.heap.size + 1 ∧ k ≠ w.heap.size + 2 := fun k hk => by have := Ho1.out.lt k hk; omega
  have P2 : ∀ k, (Value.slice p2 o.data.length q2).ownBlock = some k → k ≠ w.heap.size + 1 ∧ k ≠ w.heap.size + 2 := fun k hk => by have := Ho2.out.lt k hk; simp only [World.size_setCell] at this; omega
  have P3 : ∀ k, (Value.slice p3 o.queue.length q3).ownBlock = some k → k ≠ w.heap.size + 1 ∧ k ≠ w.heap.size + 2 := fun k hk => by have := Ho3.out.lt k hk; simp only [World.size_setCell] at this; omega
  have K3 : Kept (w.heap.size + 1) (w.heap.size + 2) w3 (w3.setCell ⟨w.heap.size + 2, 12, none⟩ (.slice p3 o.queue.length q3)) := (Kept.refl _ _ _).set
  have K2 : Kept (w.heap.size + 1) (w.heap.size + 2) w2 (w3.setCell ⟨w.heap.size + 2, 12, none⟩ (.slice p3 o.queue.length q3)) := ((Kept.refl _ _ _).set.below' Hb3.out).set
  have K1 : Kept (w.heap.size + 1) (w.heap.size + 2) w1 (w3.setCell ⟨w.heap.size + 2, 12, none⟩ (.slice p3 o.queue.length q3)) := ((((Kept.refl _ _ _).set.below' Hb2.out).set).below' Hb3.out).set
  have M1 : w.heap.size ≤ _ := hb.size
  have M2 := hd1.size
  have M3 := hd2.size
  have L12 : ∀ k, (Value.slice p1 o.links.length q1).ownBlock = some k → (Value.slice p2 o.data.length q2).ownBlock ≠ some k := fun k h1 h2 => by
    have a := Ho1.out.lt k h1
    have b := Ho2.out.lt k h2
    simp only [World.size_setCell] at b
    omega
  have L13 : ∀ k, (Value.slice p1 o.links.length q1).ownBlock = some k → (Value.slice p3 o.queue.length q3).ownBlock ≠ some k := fun k h1 h2 => by
    have a := Ho1.out.lt k h1
    have b := Ho3.out.lt k h2
    simp only [World.size_setCell] at b
    omega
  have L23 : ∀ k, (Value.slice p2 o.data.length q2).ownBlock = some k → (Value.slice p3 o.queue.length q3).ownBlock ≠ some k := fun k h1 h2 => by
    have a := Ho2.out.lt k h1
    have b := Ho3.out.lt k h2
    simp only [World.size_setCell] at b
    omega
  refine bodyPost_ret (v := .agg #[.int .i64 o.gen, .int .i64 o.kind, .int .i64 o.box, .int .i64 o.res, .int .i64 o.til, .int .i64 o.pages, .int .i64 o.wait, .int .i64 o.got, .int .i64 o.ran, .bool o.mark, .slice p1 o.links.length q1, .slice p2 o.data.length q2, .slice p3 o.queue.length q3]) (by simp [results, Try.results69, go_sem, d0, d1, d2, d3, d4, d5, d6, d7, d8, d9, d10, d11, d12]) rfl ⟨_, _, _, rfl, ⟨owns_mono (Kept.owns ?_ Ho1.out P1) M1, owns_mono (Kept.owns ?_ Ho2.out P2) M2, owns_mono (Kept.owns ?_ Ho3.out P3) M3, L12, L13, L23⟩, ?_⟩
  · repeat (first | (with_reducible exact K1) | (with_reducible refine Kept.leftset ?_))
  · repeat (first | (with_reducible exact K2) | (with_reducible refine Kept.leftset ?_))
  · repeat (first | (with_reducible exact K3) | (with_reducible refine Kept.leftset ?_))
  · repeat (first | (with_reducible exact hc3) | refine Below.setCell ?_ (by simp) _)

theorem toObj_any (o : Thing) (vl vd vq : Value) (hl : o.links.length ≤ 1048576) (hd : o.data.length ≤ 1048576) (hq : o.queue.length ≤ 1048576) (w : World) (h : ThIs w o vl vd vq) :
    Calls Try.prog 69 #[.agg #[.int .i64 o.gen, .int .i64 o.kind, .int .i64 o.box, .int .i64 o.res, .int .i64 o.til, .int .i64 o.pages, .int .i64 o.wait, .int .i64 o.got, .int .i64 o.ran, .bool o.mark, vl, vd, vq]] w fun e w' => ∃ ul ud uq, e = .returned (.agg #[.int .i64 o.gen, .int .i64 o.kind, .int .i64 o.box, .int .i64 o.res, .int .i64 o.til, .int .i64 o.pages, .int .i64 o.wait, .int .i64 o.got, .int .i64 o.ran, .bool o.mark, ul, ud, uq]) ∧ ThIs w' o ul ud uq ∧ Below w.heap.size w w' :=
  (toObj_own o vl vd vq hl hd hq w h).mono fun _ _ ⟨ul, ud, uq, he, ho, hb⟩ => ⟨ul, ud, uq, he, ⟨owns_sl ho.l, owns_sl ho.d, owns_sl ho.q⟩, hb⟩

set_option maxRecDepth 100000 in
set_option maxHeartbeats 8000000 in
theorem eqObj_any (o : Thing) (vl vd vq ul ud uq : Value) (hl : o.links.length ≤ 1048576) (hd : o.data.length ≤ 1048576) (hq : o.queue.length ≤ 1048576) (w : World) (h : ThIs w o vl vd vq) (g : ThIs w o ul ud uq) :
    Calls Try.prog 70 #[.agg #[.int .i64 o.gen, .int .i64 o.kind, .int .i64 o.box, .int .i64 o.res, .int .i64 o.til, .int .i64 o.pages, .int .i64 o.wait, .int .i64 o.got, .int .i64 o.ran, .bool o.mark, vl, vd, vq], .agg #[.int .i64 o.gen, .int .i64 o.kind, .int .i64 o.box, .int .i64 o.res, .int .i64 o.til, .int .i64 o.pages, .int .i64 o.wait, .int .i64 o.got, .int .i64 o.ran, .bool o.mark, ul, ud, uq]] w fun e w' => e = .returned (.bool true) ∧ Below w.heap.size w w' := by
  obtain ⟨⟨al, cl, rfl, hcl, hrl⟩, ⟨ad, cd, rfl, hcd, hrd⟩, ⟨aq, cq, rfl, hcq, hrq⟩⟩ := h
  obtain ⟨⟨el, fl, rfl, gcl, grl⟩, ⟨ed, fd, rfl, gcd, grd⟩, ⟨eq2, fq, rfl, gcq, grq⟩⟩ := g
  have hb0 := below_a2 w (.cells #[.int .i64 o.gen, .int .i64 o.kind, .int .i64 o.box, .int .i64 o.res, .int .i64 o.til, .int .i64 o.pages, .int .i64 o.wait, .int .i64 o.got, .int .i64 o.ran, .bool o.mark, .slice al o.links.length cl, .slice ad o.data.length cd, .slice aq o.queue.length cq] 55) (.cells #[.int .i64 o.gen, .int .i64 o.kind, .int .i64 o.box, .int .i64 o.res, .int .i64 o.til, .int .i64 o.pages, .int .i64 o.wait, .int .i64 o.got, .int .i64 o.ran, .bool o.mark, .slice el o.links.length fl, .slice ed o.data.length fd, .slice eq2 o.queue.length fq] 55)
  have B0 := hideP ((Blk.new' (w := w) (g := w.heap.size) #[.int .i64 o.gen, .int .i64 o.kind, .int .i64 o.box, .int .i64 o.res, .int .i64 o.til, .int .i64 o.pages, .int .i64 o.wait, .int .i64 o.got, .int .i64 o.ran, .bool o.mark, .slice al o.links.length cl, .slice ad o.data.length cd, .slice aq o.queue.length cq] 55 rfl).alloc (.cells #[.int .i64 o.gen, .int .i64 o.kind, .int .i64 o.box, .int .i64 o.res, .int .i64 o.til, .int .i64 o.pages, .int .i64 o.wait, .int .i64 o.got, .int .i64 o.ran, .bool o.mark, .slice el o.links.length fl, .slice ed o.data.length fd, .slice eq2 o.queue.length fq] 55))
  have B1 := hideP (Blk.new' (w := w.alloc (.cells #[.int .i64 o.gen, .int .i64 o.kind, .int .i64 o.box, .int .i64 o.res, .int .i64 o.til, .int .i64 o.pages, .int .i64 o.wait, .int .i64 o.got, .int .i64 o.ran, .bool o.mark, .slice al o.links.length cl, .slice ad o.data.length cd, .slice aq o.queue.length cq] 55)) (g := w.heap.size + 1) #[.int .i64 o.gen, .int .i64 o.kind, .int .i64 o.box, .int .i64 o.res, .int .i64 o.til, .int .i64 o.pages, .int .i64 o.wait, .int .i64 o.got, .int .i64 o.ran, .bool o.mark, .slice el o.links.length fl, .slice ed o.data.length fd, .slice eq2 o.queue.length fq] 55 (by simp))
  go_enter Try.func70, Try.ntmps70
  go_upto_region 1 with fail
  obtain ⟨W, hW⟩ : ∃ W, W = (w.alloc (.cells #[.int .i64 o.gen, .int .i64 o.kind, .int .i64 o.box, .int .i64 o.res, .int .i64 o.til, .int .i64 o.pages, .int .i64 o.wait, .int .i64 o.got, .int .i64 o.ran, .bool o.mark, .slice al o.links.length cl, .slice ad o.data.length cd, .slice aq o.queue.length cq] 55)).alloc (.cells #[.int .i64 o.gen, .int .i64 o.kind, .int .i64 o.box, .int .i64 o.res, .int .i64 o.til, .int .i64 o.pages, .int .i64 o.wait, .int .i64 o.got, .int .i64 o.ran, .bool o.mark, .slice el o.links.length fl, .slice ed o.data.length fd, .slice eq2 o.queue.length fq] 55) := ⟨_, rfl⟩
  rw [← hW] at hb0 B0 B1 ⊢
  clear hW
  have a0 : W.cell? ⟨w.heap.size, 0, none⟩ = some (.int .i64 o.gen) := (B0.out.cell 0).trans rfl
  have b0 : W.cell? ⟨w.heap.size + 1, 0, none⟩ = some (.int .i64 o.gen) := (B1.out.cell 0).trans rfl
  have a1 : W.cell? ⟨w.heap.size, 1, none⟩ = some (.int .i64 o.kind) := (B0.out.cell 1).trans rfl
  have b1 : W.cell? ⟨w.heap.size + 1, 1, none⟩ = some (.int .i64 o.kind) := (B1.out.cell 1).trans rfl
  have a2 : W.cell? ⟨w.heap.size, 2, none⟩ = some (.int .i64 o.box) := (B0.out.cell 2).trans rfl
  have b2 : W.cell? ⟨w.heap.size + 1, 2, none⟩ = some (.int .i64 o.box) := (B1.out.cell 2).trans rfl
  have a3 : W.cell? ⟨w.heap.size, 3, none⟩ = some (.int .i64 o.res) := (B0.out.cell 3).trans rfl
  have b3 : W.cell? ⟨w.heap.size + 1, 3, none⟩ = some (.int .i64 o.res) := (B1.out.cell 3).trans rfl
  have a4 : W.cell? ⟨w.heap.size, 4, none⟩ = some (.int .i64 o.til) := (B0.out.cell 4).trans rfl
  have b4 : W.cell? ⟨w.heap.size + 1, 4, none⟩ = some (.int .i64 o.til) := (B1.out.cell 4).trans rfl
  have a5 : W.cell? ⟨w.heap.size, 5, none⟩ = some (.int .i64 o.pages) := (B0.out.cell 5).trans rfl
  have b5 : W.cell? ⟨w.heap.size + 1, 5, none⟩ = some (.int .i64 o.pages) := (B1.out.cell 5).trans rfl
  have a6 : W.cell? ⟨w.heap.size, 6, none⟩ = some (.int .i64 o.wait) := (B0.out.cell 6).trans rfl
  have b6 : W.cell? ⟨w.heap.size + 1, 6, none⟩ = some (.int .i64 o.wait) := (B1.out.cell 6).trans rfl
  have a7 : W.cell? ⟨w.heap.size, 7, none⟩ = some (.int .i64 o.got) := (B0.out.cell 7).trans rfl
  have b7 : W.cell? ⟨w.heap.size + 1, 7, none⟩ = some (.int .i64 o.got) := (B1.out.cell 7).trans rfl
  have a8 : W.cell? ⟨w.heap.size, 8, none⟩ = some (.int .i64 o.ran) := (B0.out.cell 8).trans rfl
  have b8 : W.cell? ⟨w.heap.size + 1, 8, none⟩ = some (.int .i64 o.ran) := (B1.out.cell 8).trans rfl
  have a9 : W.cell? ⟨w.heap.size, 9, none⟩ = some (.bool o.mark) := (B0.out.cell 9).trans rfl
  have b9 : W.cell? ⟨w.heap.size + 1, 9, none⟩ = some (.bool o.mark) := (B1.out.cell 9).trans rfl
  have a10 : W.cell? ⟨w.heap.size, 10, none⟩ = some (.slice al o.links.length cl) := (B0.out.cell 10).trans rfl
  have b10 : W.cell? ⟨w.heap.size + 1, 10, none⟩ = some (.slice el o.links.length fl) := (B1.out.cell 10).trans rfl
  have HB := Lib.hid hb0
  clear hb0
  go_wp2_with fail
  refine (eqIntS_any al el _ cl fl o.links rfl hl _ (hrl.below HB.out) (grl.below HB.out)).mono ?_
  rintro e w1 ⟨rfl, hb1⟩
  have HB1 := hideP (HB.out.trans (hb1.mono HB.out.size))
  have B0 := hideP (B0.out.below hb1)
  have B1 := hideP (B1.out.below hb1)
  clear hb1
  clear a0 b0 a1 b1 a2 b2 a3 b3 a4 b4 a5 b5 a6 b6 a7 b7 a8 b8 a9 b9 a10 b10
  have a11 : w1.cell? ⟨w.heap.size, 11, none⟩ = some (.slice ad o.data.length cd) := (B0.out.cell 11).trans rfl
  have b11 : w1.cell? ⟨w.heap.size + 1, 11, none⟩ = some (.slice ed o.data.length fd) := (B1.out.cell 11).trans rfl
  go_wp2_with fail
  refine (eqIntS_any ad ed _ cd fd o.data rfl hd _ (hrd.below HB1.out) (grd.below HB1.out)).mono ?_
  rintro e w2 ⟨rfl, hb2⟩
  have HB2 := hideP (HB1.out.trans (hb2.mono HB1.out.size))
  have B0 := hideP (B0.out.below hb2)
  have B1 := hideP (B1.out.below hb2)
  clear hb2
  clear a11 b11
  have a12 : w2.cell? ⟨w.heap.size, 12, none⟩ = some (.slice aq o.queue.length cq) := (B0.out.cell 12).trans rfl
  have b12 : w2.cell? ⟨w.heap.size + 1, 12, none⟩ = some (.slice eq2 o.queue.length fq) := (B1.out.cell 12).trans rfl
  go_wp2_with fail
  refine (eqMsgS_any aq eq2 _ cq fq o.queue rfl hq _ (hrq.below HB2.out) (grq.below HB2.out)).mono ?_
  rintro e w3 ⟨rfl, hb3⟩
  have HB3 := hideP (HB2.out.trans (hb3.mono HB2.out.size))
  have B0 := hideP (B0.out.below hb3)
  have B1 := hideP (B1.out.below hb3)
  clear hb3
  clear a12 b12
  go_wp2
  go_ret
  exact ⟨rfl, HB3.out⟩

end Go.Proofs.Ytpiaahkfnefplaa
