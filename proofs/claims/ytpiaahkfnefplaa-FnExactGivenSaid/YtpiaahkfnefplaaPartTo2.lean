/- Part: to. -/
import Derived.Test.YtpiaahkfnefplaaPartTo1
import Derived.Test.YtpiaahkfnefplaaBootTo1
namespace Go.Proofs.Ytpiaahkfnefplaa
open Go.RowKit

theorem rise_six {vl vo vt va vg vp : Value} {F : List Value} (h : Rising [[vl], [vo], [vt], va :: vg :: F, [vp]]) (hx : ∀ g q, mineL (va :: F) g → mineL [vg] q → g < q) : Rising [[vl], [vo], [vt], va :: F, [vg], [vp]] := by
  have s1 : ∀ g, mineL (va :: F) g → mineL (va :: vg :: F) g := fun g e => (mineC.1 e).elim (fun e => mineC.2 (.inl e)) (fun e => mineC.2 (.inr (mineC.2 (.inr e))))
  have s2 : ∀ g, mineL [vg] g → mineL (va :: vg :: F) g := fun g e => mineC.2 (.inr (mineC.2 (.inl (mine1.1 e))))
  intro i j a b hij ha hb g q hg hq
  rcases i with _ | _ | _ | _ | _ | _ | i <;> rcases j with _ | _ | _ | _ | _ | _ | j <;> simp at hij ha hb
  all_goals try omega
  all_goals
    subst ha hb
    first
      | exact hx g q hg hq
      | exact h 0 1 _ _ (by decide) rfl rfl g q (id hg) (id hq)
      | exact h 0 2 _ _ (by decide) rfl rfl g q (id hg) (id hq)
      | exact h 0 3 _ _ (by decide) rfl rfl g q (id hg) (s1 q hq)
      | exact h 0 3 _ _ (by decide) rfl rfl g q (id hg) (s2 q hq)
      | exact h 0 4 _ _ (by decide) rfl rfl g q (id hg) (id hq)
      | exact h 1 2 _ _ (by decide) rfl rfl g q (id hg) (id hq)
      | exact h 1 3 _ _ (by decide) rfl rfl g q (id hg) (s1 q hq)
      | exact h 1 3 _ _ (by decide) rfl rfl g q (id hg) (s2 q hq)
      | exact h 1 4 _ _ (by decide) rfl rfl g q (id hg) (id hq)
      | exact h 2 3 _ _ (by decide) rfl rfl g q (id hg) (s1 q hq)
      | exact h 2 3 _ _ (by decide) rfl rfl g q (id hg) (s2 q hq)
      | exact h 2 4 _ _ (by decide) rfl rfl g q (id hg) (id hq)
      | exact h 3 4 _ _ (by decide) rfl rfl g q (s1 g hg) (id hq)
      | exact h 3 4 _ _ (by decide) rfl rfl g q (s2 g hg) (id hq)
set_option maxRecDepth 100000 in
set_option maxHeartbeats 8000000 in
theorem toPart_any (x : PartD) (al : Option Addr) (cl : Nat) (ao : Option Addr) (co : Nat) (at_ : Option Addr) (ct : Nat) (aa : Option Addr) (ca : Nat) (ag : Option Addr) (cg : Nat) (ap : Option Addr) (cp : Nat) (hm : PShort 1048576 x) (w : World) (hl : Rd w al (icell x.lv)) (ho : Rd w ao (icell x.own)) (ht : Rd w at_ (x.tree.flatMap Res.enc)) (ha : ThingsRd w aa x.arena) (hg : Rd w ag (icell x.grey)) (hp : Rd w ap (x.taps.flatMap Tap.enc)) :
    Calls Try.prog 25 #[.agg #[.slice al x.lv.length cl, .slice ao x.own.length co, .slice at_ x.tree.length ct, .slice aa x.arena.length ca, .int .i64 x.ph, .int .i64 x.pt, .int .i64 x.rd, .slice ag x.grey.length cg, .slice ap x.taps.length cp, .int .i64 x.nx, .int .i64 x.wt, .int .i64 x.sp.p, .int .i64 x.sp.r, .int .i64 x.sp.c, .int .i64 x.pr, .int .i64 x.lo]] w fun e w' => ∃ vs, e = .returned (.agg (partCells x vs).toArray) ∧ KPart.own w' w.heap.size x vs ∧ Below w.heap.size w w' := by
  have B0 := hideP (((Blk.new w #[.slice al x.lv.length cl, .slice ao x.own.length co, .slice at_ x.tree.length ct, .slice aa x.arena.length ca, .int .i64 x.ph, .int .i64 x.pt, .int .i64 x.rd, .slice ag x.grey.length cg, .slice ap x.taps.length cp, .int .i64 x.nx, .int .i64 x.wt, .int .i64 x.sp.p, .int .i64 x.sp.r, .int .i64 x.sp.c, .int .i64 x.pr, .int .i64 x.lo] 72).alloc (.cells #[.slice none 0 0, .slice none 0 0, .slice none 0 0, .slice none 0 0, .int .i64 0, .int .i64 0, .int .i64 0, .slice none 0 0, .slice none 0 0, .int .i64 0, .int .i64 0, .int .i64 0, .int .i64 0, .int .i64 0, .int .i64 0, .int .i64 0] 52)).alloc (.cells #[.slice none 0 0, .slice none 0 0, .slice none 0 0, .slice none 0 0, .int .i64 0, .int .i64 0, .int .i64 0, .slice none 0 0, .slice none 0 0, .int .i64 0, .int .i64 0, .int .i64 0, .int .i64 0, .int .i64 0, .int .i64 0, .int .i64 0] 52))
  have B1 : Hid (Blk (((w.alloc (.cells #[.slice al x.lv.length cl, .slice ao x.own.length co, .slice at_ x.tree.length ct, .slice aa x.arena.length ca, .int .i64 x.ph, .int .i64 x.pt, .int .i64 x.rd, .slice ag x.grey.length cg, .slice ap x.taps.length cp, .int .i64 x.nx, .int .i64 x.wt, .int .i64 x.sp.p, .int .i64 x.sp.r, .int .i64 x.sp.c, .int .i64 x.pr, .int .i64 x.lo] 72)).alloc (.cells #[.slice none 0 0, .slice none 0 0, .slice none 0 0, .slice none 0 0, .int .i64 0, .int .i64 0, .int .i64 0, .slice none 0 0, .slice none 0 0, .int .i64 0, .int .i64 0, .int .i64 0, .int .i64 0, .int .i64 0, .int .i64 0, .int .i64 0] 52)).alloc (.cells #[.slice none 0 0, .slice none 0 0, .slice none 0 0, .slice none 0 0, .int .i64 0, .int .i64 0, .int .i64 0, .slice none 0 0, .slice none 0 0, .int .i64 0, .int .i64 0, .int .i64 0, .int .i64 0, .int .i64 0, .int .i64 0, .int .i64 0] 52)) (w.heap.size + 1) 52 [.slice none 0 0, .slice none 0 0, .slice none 0 0, .slice none 0 0, .int .i64 0, .int .i64 0, .int .i64 0, .slice none 0 0, .slice none 0 0, .int .i64 0, .int .i64 0, .int .i64 0, .int .i64 0, .int .i64 0, .int .i64 0, .int .i64 0]) := hideP (by have := (Blk.new (w.alloc (.cells #[.slice al x.lv.length cl, .slice ao x.own.length co, .slice at_ x.tree.length ct, .slice aa x.arena.length ca, .int .i64 x.ph, .int .i64 x.pt, .int .i64 x.rd, .slice ag x.grey.length cg, .slice ap x.taps.length cp, .int .i64 x.nx, .int .i64 x.wt, .int .i64 x.sp.p, .int .i64 x.sp.r, .int .i64 x.sp.c, .int .i64 x.pr, .int .i64 x.lo] 72)) #[.slice none 0 0, .slice none 0 0, .slice none 0 0, .slice none 0 0, .int .i64 0, .int .i64 0, .int .i64 0, .slice none 0 0, .slice none 0 0, .int .i64 0, .int .i64 0, .int .i64 0, .int .i64 0, .int .i64 0, .int .i64 0, .int .i64 0] 52).alloc (.cells #[.slice none 0 0, .slice none 0 0, .slice none 0 0, .slice none 0 0, .int .i64 0, .int .i64 0, .int .i64 0, .slice none 0 0, .slice none 0 0, .int .i64 0, .int .i64 0, .int .i64 0, .int .i64 0, .int .i64 0, .int .i64 0, .int .i64 0] 52); simpa using this)
  have B2 : Hid (Blk (((w.alloc (.cells #[.slice al x.lv.length cl, .slice ao x.own.length co, .slice at_ x.tree.length ct, .slice aa x.arena.length ca, .int .i64 x.ph, .int .i64 x.pt, .int .i64 x.rd, .slice ag x.grey.length cg, .slice ap x.taps.length cp, .int .i64 x.nx, .int .i64 x.wt, .int .i64 x.sp.p, .int .i64 x.sp.r, .int .i64 x.sp.c, .int .i64 x.pr, .int .i64 x.lo] 72)).alloc (.cells #[.slice none 0 0, .slice none 0 0, .slice none 0 0, .slice none 0 0, .int .i64 0, .int .i64 0, .int .i64 0, .slice none 0 0, .slice none 0 0, .int .i64 0, .int .i64 0, .int .i64 0, .int .i64 0, .int .i64 0, .int .i64 0, .int .i64 0] 52)).alloc (.cells #[.slice none 0 0, .slice none 0 0, .slice none 0 0, .slice none 0 0, .int .i64 0, .int .i64 0, .int .i64 0, .slice none 0 0, .slice none 0 0, .int .i64 0, .int .i64 0, .int .i64 0, .int .i64 0, .int .i64 0, .int .i64 0, .int .i64 0] 52)) (w.heap.size + 1 + 1) 52 [.slice none 0 0, .slice none 0 0, .slice none 0 0, .slice none 0 0, .int .i64 0, .int .i64 0, .int .i64 0, .slice none 0 0, .slice none 0 0, .int .i64 0, .int .i64 0, .int .i64 0, .int .i64 0, .int .i64 0, .int .i64 0, .int .i64 0]) := hideP (by have := Blk.new ((w.alloc (.cells #[.slice al x.lv.length cl, .slice ao x.own.length co, .slice at_ x.tree.length ct, .slice aa x.arena.length ca, .int .i64 x.ph, .int .i64 x.pt, .int .i64 x.rd, .slice ag x.grey.length cg, .slice ap x.taps.length cp, .int .i64 x.nx, .int .i64 x.wt, .int .i64 x.sp.p, .int .i64 x.sp.r, .int .i64 x.sp.c, .int .i64 x.pr, .int .i64 x.lo] 72)).alloc (.cells #[.slice none 0 0, .slice none 0 0, .slice none 0 0, .slice none 0 0, .int .i64 0, .int .i64 0, .int .i64 0, .slice none 0 0, .slice none 0 0, .int .i64 0, .int .i64 0, .int .i64 0, .int .i64 0, .int .i64 0, .int .i64 0, .int .i64 0] 52)) #[.slice none 0 0, .slice none 0 0, .slice none 0 0, .slice none 0 0, .int .i64 0, .int .i64 0, .int .i64 0, .slice none 0 0, .slice none 0 0, .int .i64 0, .int .i64 0, .int .i64 0, .int .i64 0, .int .i64 0, .int .i64 0, .int .i64 0] 52; simpa using this)
  have HB := hideP (below_a3 w (.cells #[.slice al x.lv.length cl, .slice ao x.own.length co, .slice at_ x.tree.length ct, .slice aa x.arena.length ca, .int .i64 x.ph, .int .i64 x.pt, .int .i64 x.rd, .slice ag x.grey.length cg, .slice ap x.taps.length cp, .int .i64 x.nx, .int .i64 x.wt, .int .i64 x.sp.p, .int .i64 x.sp.r, .int .i64 x.sp.c, .int .i64 x.pr, .int .i64 x.lo] 72) (.cells #[.slice none 0 0, .slice none 0 0, .slice none 0 0, .slice none 0 0, .int .i64 0, .int .i64 0, .int .i64 0, .slice none 0 0, .slice none 0 0, .int .i64 0, .int .i64 0, .int .i64 0, .int .i64 0, .int .i64 0, .int .i64 0, .int .i64 0] 52) (.cells #[.slice none 0 0, .slice none 0 0, .slice none 0 0, .slice none 0 0, .int .i64 0, .int .i64 0, .int .i64 0, .slice none 0 0, .slice none 0 0, .int .i64 0, .int .i64 0, .int .i64 0, .int .i64 0, .int .i64 0, .int .i64 0, .int .i64 0] 52))
  go_enter Try.func25, Try.ntmps25
  go_upto_region 2 with fail
  obtain ⟨W0, hW⟩ : ∃ W0, W0 = (((w.alloc (.cells #[.slice al x.lv.length cl, .slice ao x.own.length co, .slice at_ x.tree.length ct, .slice aa x.arena.length ca, .int .i64 x.ph, .int .i64 x.pt, .int .i64 x.rd, .slice ag x.grey.length cg, .slice ap x.taps.length cp, .int .i64 x.nx, .int .i64 x.wt, .int .i64 x.sp.p, .int .i64 x.sp.r, .int .i64 x.sp.c, .int .i64 x.pr, .int .i64 x.lo] 72)).alloc (.cells #[.slice none 0 0, .slice none 0 0, .slice none 0 0, .slice none 0 0, .int .i64 0, .int .i64 0, .int .i64 0, .slice none 0 0, .slice none 0 0, .int .i64 0, .int .i64 0, .int .i64 0, .int .i64 0, .int .i64 0, .int .i64 0, .int .i64 0] 52)).alloc (.cells #[.slice none 0 0, .slice none 0 0, .slice none 0 0, .slice none 0 0, .int .i64 0, .int .i64 0, .int .i64 0, .slice none 0 0, .slice none 0 0, .int .i64 0, .int .i64 0, .int .i64 0, .int .i64 0, .int .i64 0, .int .i64 0, .int .i64 0] 52)) := ⟨_, rfl⟩
  rw [← hW] at B0 B1 B2 HB ⊢
  clear hW
  have L0 : w.heap.size + 1 + 1 < W0.heap.size := B2.out.lt
  have KC : Hid (KeptP (fun k => k = w.heap.size + 1 + 1) W0 W0) := hideP (KeptP.refl _ _)
  have PI := hideP (Pieces.nil W0.heap.size (w.heap.size + 1 + 1 + 1))
  have x0 : W0.cell? ⟨w.heap.size, 0, none⟩ = some (.slice al x.lv.length cl) := ((KC.out.blk B0.out (by omega)).cell 0).trans rfl
  go_wp2_with fail
  refine (toLabel_any x.lv al cl hm.l _ (hl.below HB.out)).mono ?_
  rintro e w1 ⟨vl, rfl, ho1, hb1⟩
  obtain ⟨pl, ql, rfl, _⟩ := owns_slice ho1
  have z1 := hb1.size
  have U1 := hideP (KeptP.of_below (P := fun k => k = w.heap.size + 1 + 1) hb1)
  have KC := hideP (KC.out.trans U1.out)
  have B2 := hideP (B2.out.below hb1)
  have HB := hideP (HB.out.trans (hb1.mono HB.out.size))
  have PB1 : ∀ g, mineL [.slice pl x.lv.length ql] g → W0.heap.size ≤ g ∧ g < w1.heap.size := fun g hg => ho1.lt g (mine1.1 hg)
  have PI := hideP (PI.out.snoc (by omega) z1 PB1)
  have c0 : w1.cell? ⟨w.heap.size + 1 + 1, 0, none⟩ = some (.slice none 0 0) := (B2.out.cell 0).trans rfl
  have f0 : w1.frozen? ⟨w.heap.size + 1 + 1, 0, none⟩ = false := B2.out.frozen 0
  go_upto_region 3 with fail
  have T1 := hideP ((KeptP.refl (fun k => k = w.heap.size + 1 + 1) w1).setCell (p := ⟨w.heap.size + 1 + 1, 0, none⟩) rfl (.slice pl x.lv.length ql))
  have KC := hideP (KC.out.trans T1.out)
  have B2 : Hid (Blk (w1.setCell ⟨w.heap.size + 1 + 1, 0, none⟩ (.slice pl x.lv.length ql)) (w.heap.size + 1 + 1) 52 [.slice pl x.lv.length ql, .slice none 0 0, .slice none 0 0, .slice none 0 0, .int .i64 0, .int .i64 0, .int .i64 0, .slice none 0 0, .slice none 0 0, .int .i64 0, .int .i64 0, .int .i64 0, .int .i64 0, .int .i64 0, .int .i64 0, .int .i64 0]) := hideP (B2.out.set 0 (.slice pl x.lv.length ql))
  have HB := hideP (HB.out.setCell (p := ⟨w.heap.size + 1 + 1, 0, none⟩) (show w.heap.size ≤ w.heap.size + 1 + 1 by omega) (.slice pl x.lv.length ql))
  obtain ⟨W1, hW⟩ : ∃ W1, W1 = (w1.setCell ⟨w.heap.size + 1 + 1, 0, none⟩ (.slice pl x.lv.length ql)) := ⟨_, rfl⟩
  have s1 : W1.heap.size = w1.heap.size := by rw [hW]; simp
  rw [← hW] at KC B2 HB T1 ⊢
  rw [← s1] at PI
  clear hW hb1 x0 c0 f0
  have x1 : W1.cell? ⟨w.heap.size, 1, none⟩ = some (.slice ao x.own.length co) := ((KC.out.blk B0.out (by omega)).cell 1).trans rfl
  go_wp2_with fail
  refine (toIntS_any ao _ co x.own rfl hm.o _ (ho.below HB.out)).mono ?_
  rintro e w2 ⟨vo, rfl, ho2, hb2⟩
  obtain ⟨po, qo, rfl, _⟩ := owns_slice ho2
  have z2 := hb2.size
  have U2 := hideP (KeptP.of_below (P := fun k => k = w.heap.size + 1 + 1) hb2)
  have KC := hideP (KC.out.trans U2.out)
  have B2 := hideP (B2.out.below hb2)
  have HB := hideP (HB.out.trans (hb2.mono HB.out.size))
  have PB2 : ∀ g, mineL [.slice po x.own.length qo] g → W1.heap.size ≤ g ∧ g < w2.heap.size := fun g hg => ho2.lt g (mine1.1 hg)
  have PI := hideP (PI.out.snoc (by omega) z2 PB2)
  have c1 : w2.cell? ⟨w.heap.size + 1 + 1, 1, none⟩ = some (.slice none 0 0) := (B2.out.cell 1).trans rfl
  have f1 : w2.frozen? ⟨w.heap.size + 1 + 1, 1, none⟩ = false := B2.out.frozen 1
  go_upto_region 4 with fail
  have T2 := hideP ((KeptP.refl (fun k => k = w.heap.size + 1 + 1) w2).setCell (p := ⟨w.heap.size + 1 + 1, 1, none⟩) rfl (.slice po x.own.length qo))
  have KC := hideP (KC.out.trans T2.out)
  have B2 : Hid (Blk (w2.setCell ⟨w.heap.size + 1 + 1, 1, none⟩ (.slice po x.own.length qo)) (w.heap.size + 1 + 1) 52 [.slice pl x.lv.length ql, .slice po x.own.length qo, .slice none 0 0, .slice none 0 0, .int .i64 0, .int .i64 0, .int .i64 0, .slice none 0 0, .slice none 0 0, .int .i64 0, .int .i64 0, .int .i64 0, .int .i64 0, .int .i64 0, .int .i64 0, .int .i64 0]) := hideP (B2.out.set 1 (.slice po x.own.length qo))
  have HB := hideP (HB.out.setCell (p := ⟨w.heap.size + 1 + 1, 1, none⟩) (show w.heap.size ≤ w.heap.size + 1 + 1 by omega) (.slice po x.own.length qo))
  obtain ⟨W2, hW⟩ : ∃ W2, W2 = (w2.setCell ⟨w.heap.size + 1 + 1, 1, none⟩ (.slice po x.own.length qo)) := ⟨_, rfl⟩
  have s2 : W2.heap.size = w2.heap.size := by rw [hW]; simp
  rw [← hW] at KC B2 HB T2 ⊢
  rw [← s2] at PI
  clear hW hb2 x1 c1 f1
  have x2 : W2.cell? ⟨w.heap.size, 2, none⟩ = some (.slice at_ x.tree.length ct) := ((KC.out.blk B0.out (by omega)).cell 2).trans rfl
  go_wp2_with fail
  refine (toResS_any at_ _ ct x.tree rfl hm.t _ (ht.below HB.out)).mono ?_
  rintro e w3 ⟨vt, rfl, ho3, hb3⟩
  obtain ⟨pt, qt, rfl, _⟩ := owns_slice ho3
  have z3 := hb3.size
  have U3 := hideP (KeptP.of_below (P := fun k => k = w.heap.size + 1 + 1) hb3)
  have KC := hideP (KC.out.trans U3.out)
  have B2 := hideP (B2.out.below hb3)
  have HB := hideP (HB.out.trans (hb3.mono HB.out.size))
  have PB3 : ∀ g, mineL [.slice pt x.tree.length qt] g → W2.heap.size ≤ g ∧ g < w3.heap.size := fun g hg => ho3.lt g (mine1.1 hg)
  have PI := hideP (PI.out.snoc (by omega) z3 PB3)
  have c2 : w3.cell? ⟨w.heap.size + 1 + 1, 2, none⟩ = some (.slice none 0 0) := (B2.out.cell 2).trans rfl
  have f2 : w3.frozen? ⟨w.heap.size + 1 + 1, 2, none⟩ = false := B2.out.frozen 2
  go_upto_region 5 with fail
  have T3 := hideP ((KeptP.refl (fun k => k = w.heap.size + 1 + 1) w3).setCell (p := ⟨w.heap.size + 1 + 1, 2, none⟩) rfl (.slice pt x.tree.length qt))
  have KC := hideP (KC.out.trans T3.out)
  have B2 : Hid (Blk (w3.setCell ⟨w.heap.size + 1 + 1, 2, none⟩ (.slice pt x.tree.length qt)) (w.heap.size + 1 + 1) 52 [.slice pl x.lv.length ql, .slice po x.own.length qo, .slice pt x.tree.length qt, .slice none 0 0, .int .i64 0, .int .i64 0, .int .i64 0, .slice none 0 0, .slice none 0 0, .int .i64 0, .int .i64 0, .int .i64 0, .int .i64 0, .int .i64 0, .int .i64 0, .int .i64 0]) := hideP (B2.out.set 2 (.slice pt x.tree.length qt))
  have HB := hideP (HB.out.setCell (p := ⟨w.heap.size + 1 + 1, 2, none⟩) (show w.heap.size ≤ w.heap.size + 1 + 1 by omega) (.slice pt x.tree.length qt))
  obtain ⟨W3, hW⟩ : ∃ W3, W3 = (w3.setCell ⟨w.heap.size + 1 + 1, 2, none⟩ (.slice pt x.tree.length qt)) := ⟨_, rfl⟩
  have s3 : W3.heap.size = w3.heap.size := by rw [hW]; simp
  rw [← hW] at KC B2 HB T3 ⊢
  rw [← s3] at PI
  clear hW hb3 x2 c2 f2
  have x3 : W3.cell? ⟨w.heap.size, 3, none⟩ = some (.slice aa x.arena.length ca) := ((KC.out.blk B0.out (by omega)).cell 3).trans rfl
  have x4 : W3.cell? ⟨w.heap.size, 4, none⟩ = some (.int .i64 x.ph) := ((KC.out.blk B0.out (by omega)).cell 4).trans rfl
  have x5 : W3.cell? ⟨w.heap.size, 5, none⟩ = some (.int .i64 x.pt) := ((KC.out.blk B0.out (by omega)).cell 5).trans rfl
  have x6 : W3.cell? ⟨w.heap.size, 6, none⟩ = some (.int .i64 x.rd) := ((KC.out.blk B0.out (by omega)).cell 6).trans rfl
  have x7 : W3.cell? ⟨w.heap.size, 7, none⟩ = some (.slice ag x.grey.length cg) := ((KC.out.blk B0.out (by omega)).cell 7).trans rfl
  go_wp2_with fail
  refine (toHeap_any x ag cg aa ca hm _ (ha.below HB.out) (hg.below HB.out)).mono ?_
  rintro e w4 ⟨va, rs, vg, rfl, hoa, hog, hap, hb4⟩
  obtain ⟨pa, qa, rfl, _⟩ := owns_slice hoa.row
  obtain ⟨pg, qg, rfl, _⟩ := owns_slice hog
  have z4 := hb4.size
  have U4 := hideP (KeptP.of_below (P := fun k => k = w.heap.size + 1 + 1) hb4)
  have KC := hideP (KC.out.trans U4.out)
  have B2 := hideP (B2.out.below hb4)
  have HB := hideP (HB.out.trans (hb4.mono HB.out.size))
  have PB4 : ∀ g, mineL (.slice pa x.arena.length qa :: .slice pg x.grey.length qg :: rs.flatten) g → W3.heap.size ≤ g ∧ g < w4.heap.size := fun g hg => (mineC.1 hg).elim (fun e => thingRows_lt hoa (mineC.2 (.inl e))) (fun e => (mineC.1 e).elim (fun e => hog.lt g e) (fun e => thingRows_lt hoa (mineC.2 (.inr e))))
  have PI := hideP (PI.out.snoc (by omega) z4 PB4)
  have c3 : w4.cell? ⟨w.heap.size + 1 + 1, 3, none⟩ = some (.slice none 0 0) := (B2.out.cell 3).trans rfl
  have f3 : w4.frozen? ⟨w.heap.size + 1 + 1, 3, none⟩ = false := B2.out.frozen 3
  have c4 : w4.cell? ⟨w.heap.size + 1 + 1, 4, none⟩ = some (.int .i64 0) := (B2.out.cell 4).trans rfl
  have f4 : w4.frozen? ⟨w.heap.size + 1 + 1, 4, none⟩ = false := B2.out.frozen 4
  have c5 : w4.cell? ⟨w.heap.size + 1 + 1, 5, none⟩ = some (.int .i64 0) := (B2.out.cell 5).trans rfl
  have f5 : w4.frozen? ⟨w.heap.size + 1 + 1, 5, none⟩ = false := B2.out.frozen 5
  have c6 : w4.cell? ⟨w.heap.size + 1 + 1, 6, none⟩ = some (.int .i64 0) := (B2.out.cell 6).trans rfl
  have f6 : w4.frozen? ⟨w.heap.size + 1 + 1, 6, none⟩ = false := B2.out.frozen 6
  have c7 : w4.cell? ⟨w.heap.size + 1 + 1, 7, none⟩ = some (.slice none 0 0) := (B2.out.cell 7).trans rfl
  have f7 : w4.frozen? ⟨w.heap.size + 1 + 1, 7, none⟩ = false := B2.out.frozen 7
  go_upto_region 6 with fail
  have T4 := hideP ((((((KeptP.refl (fun k => k = w.heap.size + 1 + 1) w4).setCell (p := ⟨w.heap.size + 1 + 1, 3, none⟩) rfl (.slice pa x.arena.length qa)).setCell (p := ⟨w.heap.size + 1 + 1, 4, none⟩) rfl (.int .i64 x.ph)).setCell (p := ⟨w.heap.size + 1 + 1, 5, none⟩) rfl (.int .i64 x.pt)).setCell (p := ⟨w.heap.size + 1 + 1, 6, none⟩) rfl (.int .i64 x.rd)).setCell (p := ⟨w.heap.size + 1 + 1, 7, none⟩) rfl (.slice pg x.grey.length qg))
  have KC := hideP (KC.out.trans T4.out)
  have B2 : Hid (Blk (((((w4.setCell ⟨w.heap.size + 1 + 1, 3, none⟩ (.slice pa x.arena.length qa)).setCell ⟨w.heap.size + 1 + 1, 4, none⟩ (.int .i64 x.ph)).setCell ⟨w.heap.size + 1 + 1, 5, none⟩ (.int .i64 x.pt)).setCell ⟨w.heap.size + 1 + 1, 6, none⟩ (.int .i64 x.rd)).setCell ⟨w.heap.size + 1 + 1, 7, none⟩ (.slice pg x.grey.length qg)) (w.heap.size + 1 + 1) 52 [.slice pl x.lv.length ql, .slice po x.own.length qo, .slice pt x.tree.length qt, .slice pa x.arena.length qa, .int .i64 x.ph, .int .i64 x.pt, .int .i64 x.rd, .slice pg x.grey.length qg, .slice none 0 0, .int .i64 0, .int .i64 0, .int .i64 0, .int .i64 0, .int .i64 0, .int .i64 0, .int .i64 0]) := hideP (((((B2.out.set 3 (.slice pa x.arena.length qa)).set 4 (.int .i64 x.ph)).set 5 (.int .i64 x.pt)).set 6 (.int .i64 x.rd)).set 7 (.slice pg x.grey.length qg))
  have HB := hideP (((((HB.out.setCell (p := ⟨w.heap.size + 1 + 1, 3, none⟩) (show w.heap.size ≤ w.heap.size + 1 + 1 by omega) (.slice pa x.arena.length qa)).setCell (p := ⟨w.heap.size + 1 + 1, 4, none⟩) (show w.heap.size ≤ w.heap.size + 1 + 1 by omega) (.int .i64 x.ph)).setCell (p := ⟨w.heap.size + 1 + 1, 5, none⟩) (show w.heap.size ≤ w.heap.size + 1 + 1 by omega) (.int .i64 x.pt)).setCell (p := ⟨w.heap.size + 1 + 1, 6, none⟩) (show w.heap.size ≤ w.heap.size + 1 + 1 by omega) (.int .i64 x.rd)).setCell (p := ⟨w.heap.size + 1 + 1, 7, none⟩) (show w.heap.size ≤ w.heap.size + 1 + 1 by omega) (.slice pg x.grey.length qg))
  obtain ⟨W4, hW⟩ : ∃ W4, W4 = (((((w4.setCell ⟨w.heap.size + 1 + 1, 3, none⟩ (.slice pa x.arena.length qa)).setCell ⟨w.heap.size + 1 + 1, 4, none⟩ (.int .i64 x.ph)).setCell ⟨w.heap.size + 1 + 1, 5, none⟩ (.int .i64 x.pt)).setCell ⟨w.heap.size + 1 + 1, 6, none⟩ (.int .i64 x.rd)).setCell ⟨w.heap.size + 1 + 1, 7, none⟩ (.slice pg x.grey.length qg)) := ⟨_, rfl⟩
  have s4 : W4.heap.size = w4.heap.size := by rw [hW]; simp
  rw [← hW] at KC B2 HB T4 ⊢
  rw [← s4] at PI
  clear hW hb4 x3 x4 x5 x6 x7 c3 f3 c4 f4 c5 f5 c6 f6 c7 f7
  have x8 : W4.cell? ⟨w.heap.size, 8, none⟩ = some (.slice ap x.taps.length cp) := ((KC.out.blk B0.out (by omega)).cell 8).trans rfl
  go_wp2_with fail
  refine (toTapS_any ap _ cp x.taps rfl hm.p _ (hp.below HB.out)).mono ?_
  rintro e w5 ⟨vp, rfl, ho5, hb5⟩
  obtain ⟨pp, qp, rfl, _⟩ := owns_slice ho5
  have z5 := hb5.size
  have U5 := hideP (KeptP.of_below (P := fun k => k = w.heap.size + 1 + 1) hb5)
  have KC := hideP (KC.out.trans U5.out)
  have B2 := hideP (B2.out.below hb5)
  have HB := hideP (HB.out.trans (hb5.mono HB.out.size))
  have PB5 : ∀ g, mineL [.slice pp x.taps.length qp] g → W4.heap.size ≤ g ∧ g < w5.heap.size := fun g hg => ho5.lt g (mine1.1 hg)
  have PI := hideP (PI.out.snoc (by omega) z5 PB5)
  have c8 : w5.cell? ⟨w.heap.size + 1 + 1, 8, none⟩ = some (.slice none 0 0) := (B2.out.cell 8).trans rfl
  have f8 : w5.frozen? ⟨w.heap.size + 1 + 1, 8, none⟩ = false := B2.out.frozen 8
  go_upto_region 7 with fail
  have T5 := hideP ((KeptP.refl (fun k => k = w.heap.size + 1 + 1) w5).setCell (p := ⟨w.heap.size + 1 + 1, 8, none⟩) rfl (.slice pp x.taps.length qp))
  have KC := hideP (KC.out.trans T5.out)
  have B2 : Hid (Blk (w5.setCell ⟨w.heap.size + 1 + 1, 8, none⟩ (.slice pp x.taps.length qp)) (w.heap.size + 1 + 1) 52 [.slice pl x.lv.length ql, .slice po x.own.length qo, .slice pt x.tree.length qt, .slice pa x.arena.length qa, .int .i64 x.ph, .int .i64 x.pt, .int .i64 x.rd, .slice pg x.grey.length qg, .slice pp x.taps.length qp, .int .i64 0, .int .i64 0, .int .i64 0, .int .i64 0, .int .i64 0, .int .i64 0, .int .i64 0]) := hideP (B2.out.set 8 (.slice pp x.taps.length qp))
  have HB := hideP (HB.out.setCell (p := ⟨w.heap.size + 1 + 1, 8, none⟩) (show w.heap.size ≤ w.heap.size + 1 + 1 by omega) (.slice pp x.taps.length qp))
  obtain ⟨W5, hW⟩ : ∃ W5, W5 = (w5.setCell ⟨w.heap.size + 1 + 1, 8, none⟩ (.slice pp x.taps.length qp)) := ⟨_, rfl⟩
  have s5 : W5.heap.size = w5.heap.size := by rw [hW]; simp
  rw [← hW] at KC B2 HB T5 ⊢
  rw [← s5] at PI
  clear hW hb5 x8 c8 f8
  have x9 : W5.cell? ⟨w.heap.size, 9, none⟩ = some (.int .i64 x.nx) := ((KC.out.blk B0.out (by omega)).cell 9).trans rfl
  have c9 : W5.cell? ⟨w.heap.size + 1 + 1, 9, none⟩ = some (.int .i64 0) := (B2.out.cell 9).trans rfl
  have f9 : W5.frozen? ⟨w.heap.size + 1 + 1, 9, none⟩ = false := B2.out.frozen 9
  have x10 : W5.cell? ⟨w.heap.size, 10, none⟩ = some (.int .i64 x.wt) := ((KC.out.blk B0.out (by omega)).cell 10).trans rfl
  have c10 : W5.cell? ⟨w.heap.size + 1 + 1, 10, none⟩ = some (.int .i64 0) := (B2.out.cell 10).trans rfl
  have f10 : W5.frozen? ⟨w.heap.size + 1 + 1, 10, none⟩ = false := B2.out.frozen 10
  go_upto_region 9 with fail
  have T6 := hideP (((KeptP.refl (fun k => k = w.heap.size + 1 + 1) W5).setCell (p := ⟨w.heap.size + 1 + 1, 9, none⟩) rfl (.int .i64 x.nx)).setCell (p := ⟨w.heap.size + 1 + 1, 10, none⟩) rfl (.int .i64 x.wt))
  have KC := hideP (KC.out.trans T6.out)
  have B2 : Hid (Blk ((W5.setCell ⟨w.heap.size + 1 + 1, 9, none⟩ (.int .i64 x.nx)).setCell ⟨w.heap.size + 1 + 1, 10, none⟩ (.int .i64 x.wt)) (w.heap.size + 1 + 1) 52 [.slice pl x.lv.length ql, .slice po x.own.length qo, .slice pt x.tree.length qt, .slice pa x.arena.length qa, .int .i64 x.ph, .int .i64 x.pt, .int .i64 x.rd, .slice pg x.grey.length qg, .slice pp x.taps.length qp, .int .i64 x.nx, .int .i64 x.wt, .int .i64 0, .int .i64 0, .int .i64 0, .int .i64 0, .int .i64 0]) := hideP ((B2.out.set 9 (.int .i64 x.nx)).set 10 (.int .i64 x.wt))
  have HB := hideP ((HB.out.setCell (p := ⟨w.heap.size + 1 + 1, 9, none⟩) (show w.heap.size ≤ w.heap.size + 1 + 1 by omega) (.int .i64 x.nx)).setCell (p := ⟨w.heap.size + 1 + 1, 10, none⟩) (show w.heap.size ≤ w.heap.size + 1 + 1 by omega) (.int .i64 x.wt))
  obtain ⟨W6, hW⟩ : ∃ W6, W6 = ((W5.setCell ⟨w.heap.size + 1 + 1, 9, none⟩ (.int .i64 x.nx)).setCell ⟨w.heap.size + 1 + 1, 10, none⟩ (.int .i64 x.wt)) := ⟨_, rfl⟩
  have s6 : W6.heap.size = W5.heap.size := by rw [hW]; simp
  rw [← hW] at KC B2 HB T6 ⊢
  rw [← s6] at PI
  clear hW x9 c9 f9 x10 c10 f10
  have x11 : W6.cell? ⟨w.heap.size, 11, none⟩ = some (.int .i64 x.sp.p) := ((KC.out.blk B0.out (by omega)).cell 11).trans rfl
  have x12 : W6.cell? ⟨w.heap.size, 12, none⟩ = some (.int .i64 x.sp.r) := ((KC.out.blk B0.out (by omega)).cell 12).trans rfl
  have x13 : W6.cell? ⟨w.heap.size, 13, none⟩ = some (.int .i64 x.sp.c) := ((KC.out.blk B0.out (by omega)).cell 13).trans rfl
  go_wp2_with fail
  refine (toAmt_any x.sp _).mono ?_
  rintro e w7 ⟨rfl, hb7⟩
  have z7 := hb7.size
  have U7 := hideP (KeptP.of_below (P := fun k => k = w.heap.size + 1 + 1) hb7)
  have KC := hideP (KC.out.trans U7.out)
  have B2 := hideP (B2.out.below hb7)
  have HB := hideP (HB.out.trans (hb7.mono HB.out.size))
  have PI := hideP (PI.out.more z7)
  have c11 : w7.cell? ⟨w.heap.size + 1 + 1, 11, none⟩ = some (.int .i64 0) := (B2.out.cell 11).trans rfl
  have f11 : w7.frozen? ⟨w.heap.size + 1 + 1, 11, none⟩ = false := B2.out.frozen 11
  have c12 : w7.cell? ⟨w.heap.size + 1 + 1, 12, none⟩ = some (.int .i64 0) := (B2.out.cell 12).trans rfl
  have f12 : w7.frozen? ⟨w.heap.size + 1 + 1, 12, none⟩ = false := B2.out.frozen 12
  have c13 : w7.cell? ⟨w.heap.size + 1 + 1, 13, none⟩ = some (.int .i64 0) := (B2.out.cell 13).trans rfl
  have f13 : w7.frozen? ⟨w.heap.size + 1 + 1, 13, none⟩ = false := B2.out.frozen 13
  go_upto_region 10 with fail
  have T7 := hideP ((((KeptP.refl (fun k => k = w.heap.size + 1 + 1) w7).setCell (p := ⟨w.heap.size + 1 + 1, 11, none⟩) rfl (.int .i64 x.sp.p)).setCell (p := ⟨w.heap.size + 1 + 1, 12, none⟩) rfl (.int .i64 x.sp.r)).setCell (p := ⟨w.heap.size + 1 + 1, 13, none⟩) rfl (.int .i64 x.sp.c))
  have KC := hideP (KC.out.trans T7.out)
  have B2 : Hid (Blk (((w7.setCell ⟨w.heap.size + 1 + 1, 11, none⟩ (.int .i64 x.sp.p)).setCell ⟨w.heap.size + 1 + 1, 12, none⟩ (.int .i64 x.sp.r)).setCell ⟨w.heap.size + 1 + 1, 13, none⟩ (.int .i64 x.sp.c)) (w.heap.size + 1 + 1) 52 [.slice pl x.lv.length ql, .slice po x.own.length qo, .slice pt x.tree.length qt, .slice pa x.arena.length qa, .int .i64 x.ph, .int .i64 x.pt, .int .i64 x.rd, .slice pg x.grey.length qg, .slice pp x.taps.length qp, .int .i64 x.nx, .int .i64 x.wt, .int .i64 x.sp.p, .int .i64 x.sp.r, .int .i64 x.sp.c, .int .i64 0, .int .i64 0]) := hideP (((B2.out.set 11 (.int .i64 x.sp.p)).set 12 (.int .i64 x.sp.r)).set 13 (.int .i64 x.sp.c))
  have HB := hideP (((HB.out.setCell (p := ⟨w.heap.size + 1 + 1, 11, none⟩) (show w.heap.size ≤ w.heap.size + 1 + 1 by omega) (.int .i64 x.sp.p)).setCell (p := ⟨w.heap.size + 1 + 1, 12, none⟩) (show w.heap.size ≤ w.heap.size + 1 + 1 by omega) (.int .i64 x.sp.r)).setCell (p := ⟨w.heap.size + 1 + 1, 13, none⟩) (show w.heap.size ≤ w.heap.size + 1 + 1 by omega) (.int .i64 x.sp.c))
  obtain ⟨W7, hW⟩ : ∃ W7, W7 = (((w7.setCell ⟨w.heap.size + 1 + 1, 11, none⟩ (.int .i64 x.sp.p)).setCell ⟨w.heap.size + 1 + 1, 12, none⟩ (.int .i64 x.sp.r)).setCell ⟨w.heap.size + 1 + 1, 13, none⟩ (.int .i64 x.sp.c)) := ⟨_, rfl⟩
  have s7 : W7.heap.size = w7.heap.size := by rw [hW]; simp
  rw [← hW] at KC B2 HB T7 ⊢
  rw [← s7] at PI
  clear hW hb7 x11 x12 x13 c11 f11 c12 f12 c13 f13
  have x14 : W7.cell? ⟨w.heap.size, 14, none⟩ = some (.int .i64 x.pr) := ((KC.out.blk B0.out (by omega)).cell 14).trans rfl
  have c14 : W7.cell? ⟨w.heap.size + 1 + 1, 14, none⟩ = some (.int .i64 0) := (B2.out.cell 14).trans rfl
  have f14 : W7.frozen? ⟨w.heap.size + 1 + 1, 14, none⟩ = false := B2.out.frozen 14
  have x15 : W7.cell? ⟨w.heap.size, 15, none⟩ = some (.int .i64 x.lo) := ((KC.out.blk B0.out (by omega)).cell 15).trans rfl
  have c15 : W7.cell? ⟨w.heap.size + 1 + 1, 15, none⟩ = some (.int .i64 0) := (B2.out.cell 15).trans rfl
  have f15 : W7.frozen? ⟨w.heap.size + 1 + 1, 15, none⟩ = false := B2.out.frozen 15
  go_upto_region 12 with fail
  have T8 := hideP (((KeptP.refl (fun k => k = w.heap.size + 1 + 1) W7).setCell (p := ⟨w.heap.size + 1 + 1, 14, none⟩) rfl (.int .i64 x.pr)).setCell (p := ⟨w.heap.size + 1 + 1, 15, none⟩) rfl (.int .i64 x.lo))
  have KC := hideP (KC.out.trans T8.out)
  have B2 : Hid (Blk ((W7.setCell ⟨w.heap.size + 1 + 1, 14, none⟩ (.int .i64 x.pr)).setCell ⟨w.heap.size + 1 + 1, 15, none⟩ (.int .i64 x.lo)) (w.heap.size + 1 + 1) 52 [.slice pl x.lv.length ql, .slice po x.own.length qo, .slice pt x.tree.length qt, .slice pa x.arena.length qa, .int .i64 x.ph, .int .i64 x.pt, .int .i64 x.rd, .slice pg x.grey.length qg, .slice pp x.taps.length qp, .int .i64 x.nx, .int .i64 x.wt, .int .i64 x.sp.p, .int .i64 x.sp.r, .int .i64 x.sp.c, .int .i64 x.pr, .int .i64 x.lo]) := hideP ((B2.out.set 14 (.int .i64 x.pr)).set 15 (.int .i64 x.lo))
  have HB := hideP ((HB.out.setCell (p := ⟨w.heap.size + 1 + 1, 14, none⟩) (show w.heap.size ≤ w.heap.size + 1 + 1 by omega) (.int .i64 x.pr)).setCell (p := ⟨w.heap.size + 1 + 1, 15, none⟩) (show w.heap.size ≤ w.heap.size + 1 + 1 by omega) (.int .i64 x.lo))
  obtain ⟨W8, hW⟩ : ∃ W8, W8 = ((W7.setCell ⟨w.heap.size + 1 + 1, 14, none⟩ (.int .i64 x.pr)).setCell ⟨w.heap.size + 1 + 1, 15, none⟩ (.int .i64 x.lo)) := ⟨_, rfl⟩
  have s8 : W8.heap.size = W7.heap.size := by rw [hW]; simp
  rw [← hW] at KC B2 HB T8 ⊢
  rw [← s8] at PI
  clear hW x14 c14 f14 x15 c15 f15
  have B1 := hideP (KC.out.blk B1.out (by omega))
  have d0 : W8.cell? ⟨w.heap.size + 1 + 1, 0, none⟩ = some (.slice pl x.lv.length ql) := (B2.out.cell 0).trans rfl
  have c0 : W8.cell? ⟨w.heap.size + 1, 0, none⟩ = some (.slice none 0 0) := (B1.out.cell 0).trans rfl
  have f0 : W8.frozen? ⟨w.heap.size + 1, 0, none⟩ = false := B1.out.frozen 0
  have d1 : W8.cell? ⟨w.heap.size + 1 + 1, 1, none⟩ = some (.slice po x.own.length qo) := (B2.out.cell 1).trans rfl
  have c1 : W8.cell? ⟨w.heap.size + 1, 1, none⟩ = some (.slice none 0 0) := (B1.out.cell 1).trans rfl
  have f1 : W8.frozen? ⟨w.heap.size + 1, 1, none⟩ = false := B1.out.frozen 1
  have d2 : W8.cell? ⟨w.heap.size + 1 + 1, 2, none⟩ = some (.slice pt x.tree.length qt) := (B2.out.cell 2).trans rfl
  have c2 : W8.cell? ⟨w.heap.size + 1, 2, none⟩ = some (.slice none 0 0) := (B1.out.cell 2).trans rfl
  have f2 : W8.frozen? ⟨w.heap.size + 1, 2, none⟩ = false := B1.out.frozen 2
  have d3 : W8.cell? ⟨w.heap.size + 1 + 1, 3, none⟩ = some (.slice pa x.arena.length qa) := (B2.out.cell 3).trans rfl
  have c3 : W8.cell? ⟨w.heap.size + 1, 3, none⟩ = some (.slice none 0 0) := (B1.out.cell 3).trans rfl
  have f3 : W8.frozen? ⟨w.heap.size + 1, 3, none⟩ = false := B1.out.frozen 3
  have d4 : W8.cell? ⟨w.heap.size + 1 + 1, 4, none⟩ = some (.int .i64 x.ph) := (B2.out.cell 4).trans rfl
  have c4 : W8.cell? ⟨w.heap.size + 1, 4, none⟩ = some (.int .i64 0) := (B1.out.cell 4).trans rfl
  have f4 : W8.frozen? ⟨w.heap.size + 1, 4, none⟩ = false := B1.out.frozen 4
  have d5 : W8.cell? ⟨w.heap.size + 1 + 1, 5, none⟩ = some (.int .i64 x.pt) := (B2.out.cell 5).trans rfl
  have c5 : W8.cell? ⟨w.heap.size + 1, 5, none⟩ = some (.int .i64 0) := (B1.out.cell 5).trans rfl
  have f5 : W8.frozen? ⟨w.heap.size + 1, 5, none⟩ = false := B1.out.frozen 5
  have d6 : W8.cell? ⟨w.heap.size + 1 + 1, 6, none⟩ = some (.int .i64 x.rd) := (B2.out.cell 6).trans rfl
  have c6 : W8.cell? ⟨w.heap.size + 1, 6, none⟩ = some (.int .i64 0) := (B1.out.cell 6).trans rfl
  have f6 : W8.frozen? ⟨w.heap.size + 1, 6, none⟩ = false := B1.out.frozen 6
  have d7 : W8.cell? ⟨w.heap.size + 1 + 1, 7, none⟩ = some (.slice pg x.grey.length qg) := (B2.out.cell 7).trans rfl
  have c7 : W8.cell? ⟨w.heap.size + 1, 7, none⟩ = some (.slice none 0 0) := (B1.out.cell 7).trans rfl
  have f7 : W8.frozen? ⟨w.heap.size + 1, 7, none⟩ = false := B1.out.frozen 7
  have d8 : W8.cell? ⟨w.heap.size + 1 + 1, 8, none⟩ = some (.slice pp x.taps.length qp) := (B2.out.cell 8).trans rfl
  have c8 : W8.cell? ⟨w.heap.size + 1, 8, none⟩ = some (.slice none 0 0) := (B1.out.cell 8).trans rfl
  have f8 : W8.frozen? ⟨w.heap.size + 1, 8, none⟩ = false := B1.out.frozen 8
  have d9 : W8.cell? ⟨w.heap.size + 1 + 1, 9, none⟩ = some (.int .i64 x.nx) := (B2.out.cell 9).trans rfl
  have c9 : W8.cell? ⟨w.heap.size + 1, 9, none⟩ = some (.int .i64 0) := (B1.out.cell 9).trans rfl
  have f9 : W8.frozen? ⟨w.heap.size + 1, 9, none⟩ = false := B1.out.frozen 9
  have d10 : W8.cell? ⟨w.heap.size + 1 + 1, 10, none⟩ = some (.int .i64 x.wt) := (B2.out.cell 10).trans rfl
  have c10 : W8.cell? ⟨w.heap.size + 1, 10, none⟩ = some (.int .i64 0) := (B1.out.cell 10).trans rfl
  have f10 : W8.frozen? ⟨w.heap.size + 1, 10, none⟩ = false := B1.out.frozen 10
  have d11 : W8.cell? ⟨w.heap.size + 1 + 1, 11, none⟩ = some (.int .i64 x.sp.p) := (B2.out.cell 11).trans rfl
  have c11 : W8.cell? ⟨w.heap.size + 1, 11, none⟩ = some (.int .i64 0) := (B1.out.cell 11).trans rfl
  have f11 : W8.frozen? ⟨w.heap.size + 1, 11, none⟩ = false := B1.out.frozen 11
  have d12 : W8.cell? ⟨w.heap.size + 1 + 1, 12, none⟩ = some (.int .i64 x.sp.r) := (B2.out.cell 12).trans rfl
  have c12 : W8.cell? ⟨w.heap.size + 1, 12, none⟩ = some (.int .i64 0) := (B1.out.cell 12).trans rfl
  have f12 : W8.frozen? ⟨w.heap.size + 1, 12, none⟩ = false := B1.out.frozen 12
  have d13 : W8.cell? ⟨w.heap.size + 1 + 1, 13, none⟩ = some (.int .i64 x.sp.c) := (B2.out.cell 13).trans rfl
  have c13 : W8.cell? ⟨w.heap.size + 1, 13, none⟩ = some (.int .i64 0) := (B1.out.cell 13).trans rfl
  have f13 : W8.frozen? ⟨w.heap.size + 1, 13, none⟩ = false := B1.out.frozen 13
  have d14 : W8.cell? ⟨w.heap.size + 1 + 1, 14, none⟩ = some (.int .i64 x.pr) := (B2.out.cell 14).trans rfl
  have c14 : W8.cell? ⟨w.heap.size + 1, 14, none⟩ = some (.int .i64 0) := (B1.out.cell 14).trans rfl
  have f14 : W8.frozen? ⟨w.heap.size + 1, 14, none⟩ = false := B1.out.frozen 14
  have d15 : W8.cell? ⟨w.heap.size + 1 + 1, 15, none⟩ = some (.int .i64 x.lo) := (B2.out.cell 15).trans rfl
  have c15 : W8.cell? ⟨w.heap.size + 1, 15, none⟩ = some (.int .i64 0) := (B1.out.cell 15).trans rfl
  have f15 : W8.frozen? ⟨w.heap.size + 1, 15, none⟩ = false := B1.out.frozen 15
  go_wp2
  have BN : Hid (Blk ((((((((((((((((W8.setCell ⟨w.heap.size + 1, 0, none⟩ (.slice pl x.lv.length ql)).setCell ⟨w.heap.size + 1, 1, none⟩ (.slice po x.own.length qo)).setCell ⟨w.heap.size + 1, 2, none⟩ (.slice pt x.tree.length qt)).setCell ⟨w.heap.size + 1, 3, none⟩ (.slice pa x.arena.length qa)).setCell ⟨w.heap.size + 1, 4, none⟩ (.int .i64 x.ph)).setCell ⟨w.heap.size + 1, 5, none⟩ (.int .i64 x.pt)).setCell ⟨w.heap.size + 1, 6, none⟩ (.int .i64 x.rd)).setCell ⟨w.heap.size + 1, 7, none⟩ (.slice pg x.grey.length qg)).setCell ⟨w.heap.size + 1, 8, none⟩ (.slice pp x.taps.length qp)).setCell ⟨w.heap.size + 1, 9, none⟩ (.int .i64 x.nx)).setCell ⟨w.heap.size + 1, 10, none⟩ (.int .i64 x.wt)).setCell ⟨w.heap.size + 1, 11, none⟩ (.int .i64 x.sp.p)).setCell ⟨w.heap.size + 1, 12, none⟩ (.int .i64 x.sp.r)).setCell ⟨w.heap.size + 1, 13, none⟩ (.int .i64 x.sp.c)).setCell ⟨w.heap.size + 1, 14, none⟩ (.int .i64 x.pr)).setCell ⟨w.heap.size + 1, 15, none⟩ (.int .i64 x.lo)) (w.heap.size + 1) 52 [.slice pl x.lv.length ql, .slice po x.own.length qo, .slice pt x.tree.length qt, .slice pa x.arena.length qa, .int .i64 x.ph, .int .i64 x.pt, .int .i64 x.rd, .slice pg x.grey.length qg, .slice pp x.taps.length qp, .int .i64 x.nx, .int .i64 x.wt, .int .i64 x.sp.p, .int .i64 x.sp.r, .int .i64 x.sp.c, .int .i64 x.pr, .int .i64 x.lo]) := hideP ((((((((((((((((B1.out.set 0 (.slice pl x.lv.length ql)).set 1 (.slice po x.own.length qo)).set 2 (.slice pt x.tree.length qt)).set 3 (.slice pa x.arena.length qa)).set 4 (.int .i64 x.ph)).set 5 (.int .i64 x.pt)).set 6 (.int .i64 x.rd)).set 7 (.slice pg x.grey.length qg)).set 8 (.slice pp x.taps.length qp)).set 9 (.int .i64 x.nx)).set 10 (.int .i64 x.wt)).set 11 (.int .i64 x.sp.p)).set 12 (.int .i64 x.sp.r)).set 13 (.int .i64 x.sp.c)).set 14 (.int .i64 x.pr)).set 15 (.int .i64 x.lo))
  have KE := hideP (((((((((((((((((KeptP.refl (fun k => k = w.heap.size + 1 ∨ k = w.heap.size + 1 + 1) W8).setCell (p := ⟨w.heap.size + 1, 0, none⟩) (.inl rfl) (.slice pl x.lv.length ql)).setCell (p := ⟨w.heap.size + 1, 1, none⟩) (.inl rfl) (.slice po x.own.length qo)).setCell (p := ⟨w.heap.size + 1, 2, none⟩) (.inl rfl) (.slice pt x.tree.length qt)).setCell (p := ⟨w.heap.size + 1, 3, none⟩) (.inl rfl) (.slice pa x.arena.length qa)).setCell (p := ⟨w.heap.size + 1, 4, none⟩) (.inl rfl) (.int .i64 x.ph)).setCell (p := ⟨w.heap.size + 1, 5, none⟩) (.inl rfl) (.int .i64 x.pt)).setCell (p := ⟨w.heap.size + 1, 6, none⟩) (.inl rfl) (.int .i64 x.rd)).setCell (p := ⟨w.heap.size + 1, 7, none⟩) (.inl rfl) (.slice pg x.grey.length qg)).setCell (p := ⟨w.heap.size + 1, 8, none⟩) (.inl rfl) (.slice pp x.taps.length qp)).setCell (p := ⟨w.heap.size + 1, 9, none⟩) (.inl rfl) (.int .i64 x.nx)).setCell (p := ⟨w.heap.size + 1, 10, none⟩) (.inl rfl) (.int .i64 x.wt)).setCell (p := ⟨w.heap.size + 1, 11, none⟩) (.inl rfl) (.int .i64 x.sp.p)).setCell (p := ⟨w.heap.size + 1, 12, none⟩) (.inl rfl) (.int .i64 x.sp.r)).setCell (p := ⟨w.heap.size + 1, 13, none⟩) (.inl rfl) (.int .i64 x.sp.c)).setCell (p := ⟨w.heap.size + 1, 14, none⟩) (.inl rfl) (.int .i64 x.pr)).setCell (p := ⟨w.heap.size + 1, 15, none⟩) (.inl rfl) (.int .i64 x.lo))
  have HB := hideP ((((((((((((((((HB.out.setCell (p := ⟨w.heap.size + 1, 0, none⟩) (show w.heap.size ≤ w.heap.size + 1 by omega) (.slice pl x.lv.length ql)).setCell (p := ⟨w.heap.size + 1, 1, none⟩) (show w.heap.size ≤ w.heap.size + 1 by omega) (.slice po x.own.length qo)).setCell (p := ⟨w.heap.size + 1, 2, none⟩) (show w.heap.size ≤ w.heap.size + 1 by omega) (.slice pt x.tree.length qt)).setCell (p := ⟨w.heap.size + 1, 3, none⟩) (show w.heap.size ≤ w.heap.size + 1 by omega) (.slice pa x.arena.length qa)).setCell (p := ⟨w.heap.size + 1, 4, none⟩) (show w.heap.size ≤ w.heap.size + 1 by omega) (.int .i64 x.ph)).setCell (p := ⟨w.heap.size + 1, 5, none⟩) (show w.heap.size ≤ w.heap.size + 1 by omega) (.int .i64 x.pt)).setCell (p := ⟨w.heap.size + 1, 6, none⟩) (show w.heap.size ≤ w.heap.size + 1 by omega) (.int .i64 x.rd)).setCell (p := ⟨w.heap.size + 1, 7, none⟩) (show w.heap.size ≤ w.heap.size + 1 by omega) (.slice pg x.grey.length qg)).setCell (p := ⟨w.heap.size + 1, 8, none⟩) (show w.heap.size ≤ w.heap.size + 1 by omega) (.slice pp x.taps.length qp)).setCell (p := ⟨w.heap.size + 1, 9, none⟩) (show w.heap.size ≤ w.heap.size + 1 by omega) (.int .i64 x.nx)).setCell (p := ⟨w.heap.size + 1, 10, none⟩) (show w.heap.size ≤ w.heap.size + 1 by omega) (.int .i64 x.wt)).setCell (p := ⟨w.heap.size + 1, 11, none⟩) (show w.heap.size ≤ w.heap.size + 1 by omega) (.int .i64 x.sp.p)).setCell (p := ⟨w.heap.size + 1, 12, none⟩) (show w.heap.size ≤ w.heap.size + 1 by omega) (.int .i64 x.sp.r)).setCell (p := ⟨w.heap.size + 1, 13, none⟩) (show w.heap.size ≤ w.heap.size + 1 by omega) (.int .i64 x.sp.c)).setCell (p := ⟨w.heap.size + 1, 14, none⟩) (show w.heap.size ≤ w.heap.size + 1 by omega) (.int .i64 x.pr)).setCell (p := ⟨w.heap.size + 1, 15, none⟩) (show w.heap.size ≤ w.heap.size + 1 by omega) (.int .i64 x.lo))
  obtain ⟨wn, hwn⟩ : ∃ wn, wn = ((((((((((((((((W8.setCell ⟨w.heap.size + 1, 0, none⟩ (.slice pl x.lv.length ql)).setCell ⟨w.heap.size + 1, 1, none⟩ (.slice po x.own.length qo)).setCell ⟨w.heap.size + 1, 2, none⟩ (.slice pt x.tree.length qt)).setCell ⟨w.heap.size + 1, 3, none⟩ (.slice pa x.arena.length qa)).setCell ⟨w.heap.size + 1, 4, none⟩ (.int .i64 x.ph)).setCell ⟨w.heap.size + 1, 5, none⟩ (.int .i64 x.pt)).setCell ⟨w.heap.size + 1, 6, none⟩ (.int .i64 x.rd)).setCell ⟨w.heap.size + 1, 7, none⟩ (.slice pg x.grey.length qg)).setCell ⟨w.heap.size + 1, 8, none⟩ (.slice pp x.taps.length qp)).setCell ⟨w.heap.size + 1, 9, none⟩ (.int .i64 x.nx)).setCell ⟨w.heap.size + 1, 10, none⟩ (.int .i64 x.wt)).setCell ⟨w.heap.size + 1, 11, none⟩ (.int .i64 x.sp.p)).setCell ⟨w.heap.size + 1, 12, none⟩ (.int .i64 x.sp.r)).setCell ⟨w.heap.size + 1, 13, none⟩ (.int .i64 x.sp.c)).setCell ⟨w.heap.size + 1, 14, none⟩ (.int .i64 x.pr)).setCell ⟨w.heap.size + 1, 15, none⟩ (.int .i64 x.lo)) := ⟨_, rfl⟩
  rw [← hwn] at BN KE HB ⊢
  clear hwn d0 c0 f0 d1 c1 f1 d2 c2 f2 d3 c3 f3 d4 c4 f4 d5 c5 f5 d6 c6 f6 d7 c7 f7 d8 c8 f8 d9 c9 f9 d10 c10 f10 d11 c11 f11 d12 c12 f12 d13 c13 f13 d14 c14 f14 d15 c15 f15
  have KF := KE.out
  have K_T8 : KeptP (fun k => k = w.heap.size + 1 ∨ k = w.heap.size + 1 + 1) W7 wn := (T8.out.mono (fun k _ e => .inr e)).trans (KE.out)
  have K_T7 : KeptP (fun k => k = w.heap.size + 1 ∨ k = w.heap.size + 1 + 1) w7 wn := (T7.out.mono (fun k _ e => .inr e)).trans (K_T8)
  have K_U7 : KeptP (fun k => k = w.heap.size + 1 ∨ k = w.heap.size + 1 + 1) W6 wn := (U7.out.mono (fun k _ e => .inr e)).trans (K_T7)
  have K_T6 : KeptP (fun k => k = w.heap.size + 1 ∨ k = w.heap.size + 1 + 1) W5 wn := (T6.out.mono (fun k _ e => .inr e)).trans (K_U7)
  have K_T5 : KeptP (fun k => k = w.heap.size + 1 ∨ k = w.heap.size + 1 + 1) w5 wn := (T5.out.mono (fun k _ e => .inr e)).trans (K_T6)
  have K_U5 : KeptP (fun k => k = w.heap.size + 1 ∨ k = w.heap.size + 1 + 1) W4 wn := (U5.out.mono (fun k _ e => .inr e)).trans (K_T5)
  have K_T4 : KeptP (fun k => k = w.heap.size + 1 ∨ k = w.heap.size + 1 + 1) w4 wn := (T4.out.mono (fun k _ e => .inr e)).trans (K_U5)
  have K_U4 : KeptP (fun k => k = w.heap.size + 1 ∨ k = w.heap.size + 1 + 1) W3 wn := (U4.out.mono (fun k _ e => .inr e)).trans (K_T4)
  have K_T3 : KeptP (fun k => k = w.heap.size + 1 ∨ k = w.heap.size + 1 + 1) w3 wn := (T3.out.mono (fun k _ e => .inr e)).trans (K_U4)
  have K_U3 : KeptP (fun k => k = w.heap.size + 1 ∨ k = w.heap.size + 1 + 1) W2 wn := (U3.out.mono (fun k _ e => .inr e)).trans (K_T3)
  have K_T2 : KeptP (fun k => k = w.heap.size + 1 ∨ k = w.heap.size + 1 + 1) w2 wn := (T2.out.mono (fun k _ e => .inr e)).trans (K_U3)
  have K_U2 : KeptP (fun k => k = w.heap.size + 1 ∨ k = w.heap.size + 1 + 1) W1 wn := (U2.out.mono (fun k _ e => .inr e)).trans (K_T2)
  have K_T1 : KeptP (fun k => k = w.heap.size + 1 ∨ k = w.heap.size + 1 + 1) w1 wn := (T1.out.mono (fun k _ e => .inr e)).trans (K_U2)
  have K_U1 : KeptP (fun k => k = w.heap.size + 1 ∨ k = w.heap.size + 1 + 1) W0 wn := (U1.out.mono (fun k _ e => .inr e)).trans (K_T1)
  have PP1 : ∀ g, mineL [.slice pl x.lv.length ql] g → ¬ (g = w.heap.size + 1 ∨ g = w.heap.size + 1 + 1) := fun g hg e => by have := PI.out.2 0 [.slice pl x.lv.length ql] rfl g hg; omega
  have KP1 := K_T1
  have PP2 : ∀ g, mineL [.slice po x.own.length qo] g → ¬ (g = w.heap.size + 1 ∨ g = w.heap.size + 1 + 1) := fun g hg e => by have := PI.out.2 1 [.slice po x.own.length qo] rfl g hg; omega
  have KP2 := K_T2
  have PP3 : ∀ g, mineL [.slice pt x.tree.length qt] g → ¬ (g = w.heap.size + 1 ∨ g = w.heap.size + 1 + 1) := fun g hg e => by have := PI.out.2 2 [.slice pt x.tree.length qt] rfl g hg; omega
  have KP3 := K_T3
  have PP4 : ∀ g, mineL (.slice pa x.arena.length qa :: .slice pg x.grey.length qg :: rs.flatten) g → ¬ (g = w.heap.size + 1 ∨ g = w.heap.size + 1 + 1) := fun g hg e => by have := PI.out.2 3 (.slice pa x.arena.length qa :: .slice pg x.grey.length qg :: rs.flatten) rfl g hg; omega
  have KP4 := K_T4
  have PP5 : ∀ g, mineL [.slice pp x.taps.length qp] g → ¬ (g = w.heap.size + 1 ∨ g = w.heap.size + 1 + 1) := fun g hg e => by have := PI.out.2 4 [.slice pp x.taps.length qp] rfl g hg; omega
  have KP5 := K_T5
  have z0q : wn.cell? ⟨w.heap.size + 1, 0, none⟩ = some (.slice pl x.lv.length ql) := (BN.out.cell 0).trans rfl
  have z1q : wn.cell? ⟨w.heap.size + 1, 1, none⟩ = some (.slice po x.own.length qo) := (BN.out.cell 1).trans rfl
  have z2q : wn.cell? ⟨w.heap.size + 1, 2, none⟩ = some (.slice pt x.tree.length qt) := (BN.out.cell 2).trans rfl
  have z3q : wn.cell? ⟨w.heap.size + 1, 3, none⟩ = some (.slice pa x.arena.length qa) := (BN.out.cell 3).trans rfl
  have z4q : wn.cell? ⟨w.heap.size + 1, 4, none⟩ = some (.int .i64 x.ph) := (BN.out.cell 4).trans rfl
  have z5q : wn.cell? ⟨w.heap.size + 1, 5, none⟩ = some (.int .i64 x.pt) := (BN.out.cell 5).trans rfl
  have z6q : wn.cell? ⟨w.heap.size + 1, 6, none⟩ = some (.int .i64 x.rd) := (BN.out.cell 6).trans rfl
  have z7q : wn.cell? ⟨w.heap.size + 1, 7, none⟩ = some (.slice pg x.grey.length qg) := (BN.out.cell 7).trans rfl
  have z8q : wn.cell? ⟨w.heap.size + 1, 8, none⟩ = some (.slice pp x.taps.length qp) := (BN.out.cell 8).trans rfl
  have z9q : wn.cell? ⟨w.heap.size + 1, 9, none⟩ = some (.int .i64 x.nx) := (BN.out.cell 9).trans rfl
  have z10q : wn.cell? ⟨w.heap.size + 1, 10, none⟩ = some (.int .i64 x.wt) := (BN.out.cell 10).trans rfl
  have z11q : wn.cell? ⟨w.heap.size + 1, 11, none⟩ = some (.int .i64 x.sp.p) := (BN.out.cell 11).trans rfl
  have z12q : wn.cell? ⟨w.heap.size + 1, 12, none⟩ = some (.int .i64 x.sp.r) := (BN.out.cell 12).trans rfl
  have z13q : wn.cell? ⟨w.heap.size + 1, 13, none⟩ = some (.int .i64 x.sp.c) := (BN.out.cell 13).trans rfl
  have z14q : wn.cell? ⟨w.heap.size + 1, 14, none⟩ = some (.int .i64 x.pr) := (BN.out.cell 14).trans rfl
  have z15q : wn.cell? ⟨w.heap.size + 1, 15, none⟩ = some (.int .i64 x.lo) := (BN.out.cell 15).trans rfl
  refine bodyPost_ret (v := .agg #[.slice pl x.lv.length ql, .slice po x.own.length qo, .slice pt x.tree.length qt, .slice pa x.arena.length qa, .int .i64 x.ph, .int .i64 x.pt, .int .i64 x.rd, .slice pg x.grey.length qg, .slice pp x.taps.length qp, .int .i64 x.nx, .int .i64 x.wt, .int .i64 x.sp.p, .int .i64 x.sp.r, .int .i64 x.sp.c, .int .i64 x.pr, .int .i64 x.lo]) (by simp [results, Try.results25, go_sem, z0q, z1q, z2q, z3q, z4q, z5q, z6q, z7q, z8q, z9q, z10q, z11q, z12q, z13q, z14q, z15q]) rfl ⟨partVs (.slice pl x.lv.length ql) (.slice po x.own.length qo) (.slice pt x.tree.length qt) (.slice pa x.arena.length qa) (.slice pg x.grey.length qg) (.slice pp x.taps.length qp) rs, rfl, ⟨_, _, _, _, _, _, rs, rfl, ⟨?_, ?_, ?_, ?_, ?_, ?_, ?_⟩⟩, HB.out⟩
  · exact owns_mono (KP1.owns ho1 (fun g e => PP1 g (mine1.2 e))) (by omega)
  · exact owns_mono (KP2.owns ho2 (fun g e => PP2 g (mine1.2 e))) (by omega)
  · exact owns_mono (KP3.owns ho3 (fun g e => PP3 g (mine1.2 e))) (by omega)
  · exact thingRows_mono (thingRows_kept hoa KP4 (fun g hg => PP4 g ((mineC.1 hg).elim (fun e => mineC.2 (.inl e)) (fun e => mineC.2 (.inr (mineC.2 (.inr e))))))) (by omega)
  · exact owns_mono (KP4.owns hog (fun g e => PP4 g (mineC.2 (.inr (mineC.2 (.inl e)))))) (by omega)
  · exact owns_mono (KP5.owns ho5 (fun g e => PP5 g (mine1.2 e))) (by omega)
  · exact rise_six PI.out.1 hap

end Go.Proofs.Ytpiaahkfnefplaa
