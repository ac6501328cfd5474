/- Things: the laws' helpers markObj, heldObj. -/
import Derived.Test.YtnchmenpgmlpdaaObjTo
import Derived.Test.YtnchmenpgmlpdaaRowsOwn
import Derived.Test.YtnchmenpgmlpdaaThingRet
import Derived.Test.YtnchmenpgmlpdaaIntMark
import Derived.Test.YtnchmenpgmlpdaaIntHeld
import Derived.Test.YtnchmenpgmlpdaaMsgMark
import Derived.Test.YtnchmenpgmlpdaaMsgHeld
import Derived.Deep.DeepCutAuto
namespace Go.Proofs.Ytnchmenpgmlpdaa
open Go.RowKit

/-- A thing whose lists have been marked. -/
structure ObjMarked (w : World) (base : Nat) (o : Thing) (vl vd vq : Value) (q : Int) : Prop where
  l : w.ownsRow base 3 1 vl o.links.length (cnt q o.links.length)
  d : w.ownsRow base 3 1 vd o.data.length (cnt (q + (o.links.length : Int)) o.data.length)
  q : w.ownsRow base 137 2 vq o.queue.length (cnt (q + (o.links.length : Int) + (o.data.length : Int)) (o.queue.length * 2))
def mine (vl vd vq : Value) (k : Nat) : Prop := vl.ownBlock = some k ∨ vd.ownBlock = some k ∨ vq.ownBlock = some k
theorem ObjMarked.kept {P : Nat → Prop} {w w' : World} {base : Nat} {o : Thing} {vl vd vq : Value} {q : Int} (h : ObjMarked w base o vl vd vq q) (k : KeptP P w w') (hP : ∀ n, mine vl vd vq n → ¬ P n) : ObjMarked w' base o vl vd vq q :=
  ⟨k.owns h.l fun n e => hP n (.inl e), k.owns h.d fun n e => hP n (.inr (.inl e)), k.owns h.q fun n e => hP n (.inr (.inr e))⟩
theorem ObjOwn.kept {P : Nat → Prop} {w w' : World} {base : Nat} {o : Thing} {vl vd vq : Value} (h : ObjOwn w base o vl vd vq) (k : KeptP P w w') (hP : ∀ n, mine vl vd vq n → ¬ P n) : ObjOwn w' base o vl vd vq :=
  ⟨k.owns h.l fun n e => hP n (.inl e), k.owns h.d fun n e => hP n (.inr (.inl e)), k.owns h.q fun n e => hP n (.inr (.inr e)), h.ld, h.lq, h.dq⟩
theorem ObjOwn.lt {w : World} {base : Nat} {o : Thing} {vl vd vq : Value} (h : ObjOwn w base o vl vd vq) {n : Nat} (hn : mine vl vd vq n) : base ≤ n ∧ n < w.heap.size := by
  rcases hn with e | e | e
  · exact h.l.lt n e
  · exact h.d.lt n e
  · exact h.q.lt n e
theorem ObjMarked.lt {w : World} {base : Nat} {o : Thing} {vl vd vq : Value} {q : Int} (h : ObjMarked w base o vl vd vq q) {n : Nat} (hn : mine vl vd vq n) : base ≤ n ∧ n < w.heap.size := by
  rcases hn with e | e | e
  · exact h.l.lt n e
  · exact h.d.lt n e
  · exact h.q.lt n e
theorem ObjOwn.is {w : World} {base : Nat} {o : Thing} {vl vd vq : Value} (h : ObjOwn w base o vl vd vq) : ThIs w o vl vd vq := ⟨owns_sl h.l, owns_sl h.d, owns_sl h.q⟩
theorem ObjOwn.below {w w' : World} {base : Nat} {o : Thing} {vl vd vq : Value} (h : ObjOwn w base o vl vd vq) (hb : Below w.heap.size w w') : ObjOwn w' base o vl vd vq := h.kept (P := fun _ => False) (KeptP.of_below hb) (fun _ _ e => e)
theorem ObjMarked.below {w w' : World} {base : Nat} {o : Thing} {vl vd vq : Value} {q : Int} (h : ObjMarked w base o vl vd vq q) (hb : Below w.heap.size w w') : ObjMarked w' base o vl vd vq q := h.kept (P := fun _ => False) (KeptP.of_below hb) (fun _ _ e => e)
set_option maxRecDepth 100000 in
set_option maxHeartbeats 8000000 in
theorem markObj_any (o : Thing) (vl vd vq : Value) (base : Nat) (q0 : Int) (hq0 : 0 ≤ q0 ∧ q0 ≤ 900000000000) (hl : o.links.length ≤ 1048576) (hd : o.data.length ≤ 1048576) (hq : o.queue.length ≤ 1048576) (w : World) (h : ObjOwn w base o vl vd vq) :
    Calls Try.prog 46 #[.agg #[.int .i64 o.gen, .int .i64 o.kind, .int .i64 o.box, .int .i64 o.res, .int .i64 o.til, .int .i64 o.pages, .int .i64 o.wait, .int .i64 o.got, .int .i64 o.ran, .bool o.mark, vl, vd, vq], .int .i64 q0] w fun e w' => e = .returned (.int .i64 (q0 + (o.links.length : Int) + (o.data.length : Int) + ((o.queue.length * 2 : Nat) : Int))) ∧ ObjMarked w' base o vl vd vq q0 ∧ KeptP (mine vl vd vq) w w' := by
  obtain ⟨hol, hod, hoq, hld, hlq, hdq⟩ := h
  obtain ⟨al, cl, rfl, _⟩ := owns_slice hol
  obtain ⟨ad, cd, rfl, _⟩ := owns_slice hod
  obtain ⟨aq, cq, rfl, _⟩ := owns_slice hoq
  have Pl : ∀ k, (Value.slice al o.links.length cl).ownBlock = some k → k < w.heap.size := fun k e => (hol.lt k e).2
  have Pd : ∀ k, (Value.slice ad o.data.length cd).ownBlock = some k → k < w.heap.size := fun k e => (hod.lt k e).2
  have Pq : ∀ k, (Value.slice aq o.queue.length cq).ownBlock = some k → k < w.heap.size := fun k e => (hoq.lt k e).2
  have B0 := hideP (Blk.new' (w := w) (g := w.heap.size) #[.int .i64 o.gen, .int .i64 o.kind, .int .i64 o.box, .int .i64 o.res, .int .i64 o.til, .int .i64 o.pages, .int .i64 o.wait, .int .i64 o.got, .int .i64 o.ran, .bool o.mark, .slice al o.links.length cl, .slice ad o.data.length cd, .slice aq o.queue.length cq] 71 rfl)
  have K0 : KeptP (mine (.slice al o.links.length cl) (.slice ad o.data.length cd) (.slice aq o.queue.length cq)) w (w.alloc (.cells #[.int .i64 o.gen, .int .i64 o.kind, .int .i64 o.box, .int .i64 o.res, .int .i64 o.til, .int .i64 o.pages, .int .i64 o.wait, .int .i64 o.got, .int .i64 o.ran, .bool o.mark, .slice al o.links.length cl, .slice ad o.data.length cd, .slice aq o.queue.length cq] 71)) := KeptP.of_below (below_a1 w _)
  have Hl := hideP (World.ownsRow.alloc hol (.cells #[.int .i64 o.gen, .int .i64 o.kind, .int .i64 o.box, .int .i64 o.res, .int .i64 o.til, .int .i64 o.pages, .int .i64 o.wait, .int .i64 o.got, .int .i64 o.ran, .bool o.mark, .slice al o.links.length cl, .slice ad o.data.length cd, .slice aq o.queue.length cq] 71))
  have Hd := hideP (World.ownsRow.alloc hod (.cells #[.int .i64 o.gen, .int .i64 o.kind, .int .i64 o.box, .int .i64 o.res, .int .i64 o.til, .int .i64 o.pages, .int .i64 o.wait, .int .i64 o.got, .int .i64 o.ran, .bool o.mark, .slice al o.links.length cl, .slice ad o.data.length cd, .slice aq o.queue.length cq] 71))
  have Hq := hideP (World.ownsRow.alloc hoq (.cells #[.int .i64 o.gen, .int .i64 o.kind, .int .i64 o.box, .int .i64 o.res, .int .i64 o.til, .int .i64 o.pages, .int .i64 o.wait, .int .i64 o.got, .int .i64 o.ran, .bool o.mark, .slice al o.links.length cl, .slice ad o.data.length cd, .slice aq o.queue.length cq] 71))
  clear hol hod hoq
  go_enter Try.func46, Try.ntmps46
  go_upto_region 1 with fail
  obtain ⟨W, hW⟩ : ∃ W, W = w.alloc (.cells #[.int .i64 o.gen, .int .i64 o.kind, .int .i64 o.box, .int .i64 o.res, .int .i64 o.til, .int .i64 o.pages, .int .i64 o.wait, .int .i64 o.got, .int .i64 o.ran, .bool o.mark, .slice al o.links.length cl, .slice ad o.data.length cd, .slice aq o.queue.length cq] 71) := ⟨_, rfl⟩
  rw [← hW] at B0 K0 Hl Hd Hq ⊢
  clear hW
  have a10 : W.cell? ⟨w.heap.size, 10, none⟩ = some (.slice al o.links.length cl) := (B0.out.cell 10).trans rfl
  go_wp2_with fail
  refine (markIntS_any _ _ base _ q0 (by omega) hl _ Hl.out).mono ?_
  rintro e w1 ⟨rfl, ho1, hg1⟩
  have K1 := KeptP.of_grown hg1
  have N1 := hideP ho1
  have B1 := hideP (K1.blk B0.out (fun e => by have := Pl _ e; omega))
  have Hd1 := hideP (K1.owns Hd.out (fun k e e2 => hld k e2 e))
  have Hq1 := hideP (K1.owns Hq.out (fun k e e2 => hlq k e2 e))
  have KK1 := hideP (K0.trans (K1.mono (Q := mine (.slice al o.links.length cl) (.slice ad o.data.length cd) (.slice aq o.queue.length cq)) (fun k _ e => .inl e)))
  have a11 : w1.cell? ⟨w.heap.size, 11, none⟩ = some (.slice ad o.data.length cd) := (B1.out.cell 11).trans rfl
  clear a10 K1 K0 hg1 ho1 B0 Hl Hd Hq
  go_wp2_with fail
  refine (markIntS_any _ _ base _ (q0 + (o.links.length : Int)) (by omega) hd _ Hd1.out).mono ?_
  rintro e w2 ⟨rfl, ho2, hg2⟩
  have K2 := KeptP.of_grown hg2
  have N2 := hideP ho2
  have N12 := hideP (K2.owns N1.out (fun k e e2 => hld k e e2))
  have B2 := hideP (K2.blk B1.out (fun e => by have := Pd _ e; omega))
  have Hq2 := hideP (K2.owns Hq1.out (fun k e e2 => hdq k e2 e))
  have KK2 := hideP (KK1.out.trans (K2.mono (Q := mine (.slice al o.links.length cl) (.slice ad o.data.length cd) (.slice aq o.queue.length cq)) (fun k _ e => .inr (.inl e))))
  have a12 : w2.cell? ⟨w.heap.size, 12, none⟩ = some (.slice aq o.queue.length cq) := (B2.out.cell 12).trans rfl
  clear a11 K2 KK1 hg2 ho2 B1 Hq1 N1 Hd1
  go_wp2_with fail
  refine (markMsgS_any _ _ base _ (q0 + (o.links.length : Int) + (o.data.length : Int)) (by omega) hq _ Hq2.out).mono ?_
  rintro e w3 ⟨rfl, ho3, hg3⟩
  have K3 := KeptP.of_grown hg3
  have N13 := hideP (K3.owns N12.out (fun k e e2 => hlq k e e2))
  have N23 := hideP (K3.owns N2.out (fun k e e2 => hdq k e e2))
  have KK3 := hideP (KK2.out.trans (K3.mono (Q := mine (.slice al o.links.length cl) (.slice ad o.data.length cd) (.slice aq o.queue.length cq)) (fun k _ e => .inr (.inr e))))
  have N3 := hideP ho3
  clear a12 K3 KK2 hg3 ho3 B2 Hq2 N12 N2
  go_wp2
  go_ret
  exact ⟨rfl, ⟨N13.out, N23.out, N3.out⟩, KK3.out⟩
set_option maxRecDepth 100000 in
set_option maxHeartbeats 8000000 in
theorem heldObj_any (o : Thing) (vl vd vq : Value) (base : Nat) (q0 : Int) (hq0 : 0 ≤ q0 ∧ q0 ≤ 900000000000) (hl : o.links.length ≤ 1048576) (hd : o.data.length ≤ 1048576) (hq : o.queue.length ≤ 1048576) (w : World) (h : ObjMarked w base o vl vd vq q0) :
    Calls Try.prog 47 #[.agg #[.int .i64 o.gen, .int .i64 o.kind, .int .i64 o.box, .int .i64 o.res, .int .i64 o.til, .int .i64 o.pages, .int .i64 o.wait, .int .i64 o.got, .int .i64 o.ran, .bool o.mark, vl, vd, vq], .int .i64 q0] w fun e w' => e = .returned (.int .i64 (q0 + (o.links.length : Int) + (o.data.length : Int) + ((o.queue.length * 2 : Nat) : Int))) ∧ Below w.heap.size w w' := by
  obtain ⟨hol, hod, hoq⟩ := h
  obtain ⟨al, cl, rfl, _⟩ := owns_slice hol
  obtain ⟨ad, cd, rfl, _⟩ := owns_slice hod
  obtain ⟨aq, cq, rfl, _⟩ := owns_slice hoq
  have B0 := hideP (Blk.new' (w := w) (g := w.heap.size) #[.int .i64 o.gen, .int .i64 o.kind, .int .i64 o.box, .int .i64 o.res, .int .i64 o.til, .int .i64 o.pages, .int .i64 o.wait, .int .i64 o.got, .int .i64 o.ran, .bool o.mark, .slice al o.links.length cl, .slice ad o.data.length cd, .slice aq o.queue.length cq] 71 rfl)
  have hb0 := below_a1 w (.cells #[.int .i64 o.gen, .int .i64 o.kind, .int .i64 o.box, .int .i64 o.res, .int .i64 o.til, .int .i64 o.pages, .int .i64 o.wait, .int .i64 o.got, .int .i64 o.ran, .bool o.mark, .slice al o.links.length cl, .slice ad o.data.length cd, .slice aq o.queue.length cq] 71)
  have Rl := hideP ((rd_of_owns hol).below hb0)
  have Rd' := hideP ((rd_of_owns hod).below hb0)
  have Rq := hideP ((rd_of_owns hoq).below hb0)
  have HB := hideP hb0
  clear hol hod hoq hb0
  go_enter Try.func47, Try.ntmps47
  go_upto_region 1 with fail
  obtain ⟨W, hW⟩ : ∃ W, W = w.alloc (.cells #[.int .i64 o.gen, .int .i64 o.kind, .int .i64 o.box, .int .i64 o.res, .int .i64 o.til, .int .i64 o.pages, .int .i64 o.wait, .int .i64 o.got, .int .i64 o.ran, .bool o.mark, .slice al o.links.length cl, .slice ad o.data.length cd, .slice aq o.queue.length cq] 71) := ⟨_, rfl⟩
  rw [← hW] at B0 Rl Rd' Rq HB ⊢
  clear hW
  have a10 : W.cell? ⟨w.heap.size, 10, none⟩ = some (.slice al o.links.length cl) := (B0.out.cell 10).trans rfl
  have a11 : W.cell? ⟨w.heap.size, 11, none⟩ = some (.slice ad o.data.length cd) := (B0.out.cell 11).trans rfl
  have a12 : W.cell? ⟨w.heap.size, 12, none⟩ = some (.slice aq o.queue.length cq) := (B0.out.cell 12).trans rfl
  go_wp2_with fail
  refine (heldIntS_any _ _ _ q0 (by omega) hl _ Rl.out).mono ?_
  rintro e w1 ⟨rfl, rfl⟩
  go_wp2_with fail
  refine (heldIntS_any _ _ _ (q0 + (o.links.length : Int)) (by omega) hd _ Rd'.out).mono ?_
  rintro e w2 ⟨rfl, rfl⟩
  go_wp2_with fail
  refine (heldMsgS_any _ _ _ (q0 + (o.links.length : Int) + (o.data.length : Int)) (by omega) hq _ Rq.out).mono ?_
  rintro e w3 ⟨rfl, rfl⟩
  go_wp2
  go_ret
  exact ⟨rfl, HB.out⟩

end Go.Proofs.Ytnchmenpgmlpdaa
