/- Parts: eq. -/
import Derived.Test.YtpiaahkfnefplaaPartPure
import Derived.Test.YtpiaahkfnefplaaBootEq
import Derived.Test.YtpiaahkfnefplaaThingsEq
import Derived.Test.YtpiaahkfnefplaaResTo
import Derived.Deep.LoopGhost
import Derived.Lib.QuietBelow
namespace Go.Proofs.Ytpiaahkfnefplaa
open Go.RowKit

set_option maxRecDepth 100000 in
set_option maxHeartbeats 8000000 in
theorem eqGc_any (x : PartD) (ag : Option Addr) (cg : Nat) (bg : Option Addr) (dg : Nat) (mg : x.grey.length ≤ 1048576) (w : World) (hg : Rd w ag (icell x.grey)) (hg2 : Rd w bg (icell x.grey)) :
    Calls Try.prog 64 #[.agg #[.int .i64 x.ph, .int .i64 x.pt, .int .i64 x.rd, .slice ag x.grey.length cg], .agg #[.int .i64 x.ph, .int .i64 x.pt, .int .i64 x.rd, .slice bg x.grey.length dg]] w fun e w' => e = .returned (.bool true) ∧ Below w.heap.size w w' := by
  have B0 := hideP ((Blk.new w #[.int .i64 x.ph, .int .i64 x.pt, .int .i64 x.rd, .slice ag x.grey.length cg] 42).alloc (.cells #[.int .i64 x.ph, .int .i64 x.pt, .int .i64 x.rd, .slice bg x.grey.length dg] 42))
  have B1 : Hid (Blk ((w.alloc (.cells #[.int .i64 x.ph, .int .i64 x.pt, .int .i64 x.rd, .slice ag x.grey.length cg] 42)).alloc (.cells #[.int .i64 x.ph, .int .i64 x.pt, .int .i64 x.rd, .slice bg x.grey.length dg] 42)) (w.heap.size + 1) 42 [.int .i64 x.ph, .int .i64 x.pt, .int .i64 x.rd, .slice bg x.grey.length dg]) := hideP (by have := Blk.new (w.alloc (.cells #[.int .i64 x.ph, .int .i64 x.pt, .int .i64 x.rd, .slice ag x.grey.length cg] 42)) #[.int .i64 x.ph, .int .i64 x.pt, .int .i64 x.rd, .slice bg x.grey.length dg] 42; simpa using this)
  have HB := hideP (below_a2 w (.cells #[.int .i64 x.ph, .int .i64 x.pt, .int .i64 x.rd, .slice ag x.grey.length cg] 42) (.cells #[.int .i64 x.ph, .int .i64 x.pt, .int .i64 x.rd, .slice bg x.grey.length dg] 42))
  go_enter Try.func64, Try.ntmps64
  go_upto_region 1 with fail
  obtain ⟨W, hW⟩ : ∃ W, W = ((w.alloc (.cells #[.int .i64 x.ph, .int .i64 x.pt, .int .i64 x.rd, .slice ag x.grey.length cg] 42)).alloc (.cells #[.int .i64 x.ph, .int .i64 x.pt, .int .i64 x.rd, .slice bg x.grey.length dg] 42)) := ⟨_, rfl⟩
  rw [← hW] at B0 B1 HB ⊢
  clear hW
  have x0 : W.cell? ⟨w.heap.size, 0, none⟩ = some (.int .i64 x.ph) := (B0.out.cell 0).trans rfl
  have y0 : W.cell? ⟨w.heap.size + 1, 0, none⟩ = some (.int .i64 x.ph) := (B1.out.cell 0).trans rfl
  have x1 : W.cell? ⟨w.heap.size, 1, none⟩ = some (.int .i64 x.pt) := (B0.out.cell 1).trans rfl
  have y1 : W.cell? ⟨w.heap.size + 1, 1, none⟩ = some (.int .i64 x.pt) := (B1.out.cell 1).trans rfl
  have x2 : W.cell? ⟨w.heap.size, 2, none⟩ = some (.int .i64 x.rd) := (B0.out.cell 2).trans rfl
  have y2 : W.cell? ⟨w.heap.size + 1, 2, none⟩ = some (.int .i64 x.rd) := (B1.out.cell 2).trans rfl
  have x3 : W.cell? ⟨w.heap.size, 3, none⟩ = some (.slice ag x.grey.length cg) := (B0.out.cell 3).trans rfl
  have y3 : W.cell? ⟨w.heap.size + 1, 3, none⟩ = some (.slice bg x.grey.length dg) := (B1.out.cell 3).trans rfl
  go_wp2_with fail
  refine (eqIntS_any ag bg _ cg dg x.grey rfl mg _ (hg.below HB.out) (hg2.below HB.out)).mono ?_
  rintro e w1 ⟨rfl, hb1⟩
  have HB := hideP (HB.out.trans (hb1.mono HB.out.size))
  have B0 := hideP (B0.out.below hb1)
  have B1 := hideP (B1.out.below hb1)
  clear hb1 x0 y0 x1 y1 x2 y2 x3 y3
  go_wp2
  go_ret
  exact ⟨rfl, HB.out⟩
set_option maxRecDepth 100000 in
set_option maxHeartbeats 8000000 in
theorem eqHeap_any (x : PartD) (ag : Option Addr) (cg : Nat) (bg : Option Addr) (dg : Nat) (aa : Option Addr) (ca : Nat) (ba : Option Addr) (da : Nat) (hm : PShort 1048576 x) (w : World) (ha : ThingsRd w aa x.arena) (ha2 : ThingsRd w ba x.arena) (hg : Rd w ag (icell x.grey)) (hg2 : Rd w bg (icell x.grey)) :
    Calls Try.prog 47 #[.agg #[.slice aa x.arena.length ca, .int .i64 x.ph, .int .i64 x.pt, .int .i64 x.rd, .slice ag x.grey.length cg], .agg #[.slice ba x.arena.length da, .int .i64 x.ph, .int .i64 x.pt, .int .i64 x.rd, .slice bg x.grey.length dg]] w fun e w' => e = .returned (.bool true) ∧ Below w.heap.size w w' := by
  have B0 := hideP ((Blk.new w #[.slice aa x.arena.length ca, .int .i64 x.ph, .int .i64 x.pt, .int .i64 x.rd, .slice ag x.grey.length cg] 44).alloc (.cells #[.slice ba x.arena.length da, .int .i64 x.ph, .int .i64 x.pt, .int .i64 x.rd, .slice bg x.grey.length dg] 44))
  have B1 : Hid (Blk ((w.alloc (.cells #[.slice aa x.arena.length ca, .int .i64 x.ph, .int .i64 x.pt, .int .i64 x.rd, .slice ag x.grey.length cg] 44)).alloc (.cells #[.slice ba x.arena.length da, .int .i64 x.ph, .int .i64 x.pt, .int .i64 x.rd, .slice bg x.grey.length dg] 44)) (w.heap.size + 1) 44 [.slice ba x.arena.length da, .int .i64 x.ph, .int .i64 x.pt, .int .i64 x.rd, .slice bg x.grey.length dg]) := hideP (by have := Blk.new (w.alloc (.cells #[.slice aa x.arena.length ca, .int .i64 x.ph, .int .i64 x.pt, .int .i64 x.rd, .slice ag x.grey.length cg] 44)) #[.slice ba x.arena.length da, .int .i64 x.ph, .int .i64 x.pt, .int .i64 x.rd, .slice bg x.grey.length dg] 44; simpa using this)
  have HB := hideP (below_a2 w (.cells #[.slice aa x.arena.length ca, .int .i64 x.ph, .int .i64 x.pt, .int .i64 x.rd, .slice ag x.grey.length cg] 44) (.cells #[.slice ba x.arena.length da, .int .i64 x.ph, .int .i64 x.pt, .int .i64 x.rd, .slice bg x.grey.length dg] 44))
  go_enter Try.func47, Try.ntmps47
  go_upto_region 1 with fail
  obtain ⟨W, hW⟩ : ∃ W, W = ((w.alloc (.cells #[.slice aa x.arena.length ca, .int .i64 x.ph, .int .i64 x.pt, .int .i64 x.rd, .slice ag x.grey.length cg] 44)).alloc (.cells #[.slice ba x.arena.length da, .int .i64 x.ph, .int .i64 x.pt, .int .i64 x.rd, .slice bg x.grey.length dg] 44)) := ⟨_, rfl⟩
  rw [← hW] at B0 B1 HB ⊢
  clear hW
  have x0 : W.cell? ⟨w.heap.size, 0, none⟩ = some (.slice aa x.arena.length ca) := (B0.out.cell 0).trans rfl
  have y0 : W.cell? ⟨w.heap.size + 1, 0, none⟩ = some (.slice ba x.arena.length da) := (B1.out.cell 0).trans rfl
  go_wp2_with fail
  refine (eqObjS_any x.arena aa ba ca da hm.a hm.s _ (ha.below HB.out) (ha2.below HB.out)).mono ?_
  rintro e w1 ⟨rfl, hb1⟩
  have HB := hideP (HB.out.trans (hb1.mono HB.out.size))
  have B0 := hideP (B0.out.below hb1)
  have B1 := hideP (B1.out.below hb1)
  clear hb1 x0 y0
  have x1 : w1.cell? ⟨w.heap.size, 1, none⟩ = some (.int .i64 x.ph) := (B0.out.cell 1).trans rfl
  have y1 : w1.cell? ⟨w.heap.size + 1, 1, none⟩ = some (.int .i64 x.ph) := (B1.out.cell 1).trans rfl
  have x2 : w1.cell? ⟨w.heap.size, 2, none⟩ = some (.int .i64 x.pt) := (B0.out.cell 2).trans rfl
  have y2 : w1.cell? ⟨w.heap.size + 1, 2, none⟩ = some (.int .i64 x.pt) := (B1.out.cell 2).trans rfl
  have x3 : w1.cell? ⟨w.heap.size, 3, none⟩ = some (.int .i64 x.rd) := (B0.out.cell 3).trans rfl
  have y3 : w1.cell? ⟨w.heap.size + 1, 3, none⟩ = some (.int .i64 x.rd) := (B1.out.cell 3).trans rfl
  have x4 : w1.cell? ⟨w.heap.size, 4, none⟩ = some (.slice ag x.grey.length cg) := (B0.out.cell 4).trans rfl
  have y4 : w1.cell? ⟨w.heap.size + 1, 4, none⟩ = some (.slice bg x.grey.length dg) := (B1.out.cell 4).trans rfl
  go_wp2_with fail
  refine (eqGc_any x ag cg bg dg hm.g _ (hg.below HB.out) (hg2.below HB.out)).mono ?_
  rintro e w2 ⟨rfl, hb2⟩
  have HB := hideP (HB.out.trans (hb2.mono HB.out.size))
  have B0 := hideP (B0.out.below hb2)
  have B1 := hideP (B1.out.below hb2)
  clear hb2 x1 y1 x2 y2 x3 y3 x4 y4
  go_wp2
  go_ret
  exact ⟨rfl, HB.out⟩
set_option maxRecDepth 100000 in
set_option maxHeartbeats 8000000 in
theorem eqPart_any (x : PartD) (al : Option Addr) (cl : Nat) (ao : Option Addr) (co : Nat) (at_ : Option Addr) (ct : Nat) (aa : Option Addr) (ca : Nat) (ag : Option Addr) (cg : Nat) (ap : Option Addr) (cp : Nat) (bl9 : Option Addr) (dl : Nat) (bo : Option Addr) (do9 : Nat) (bt : Option Addr) (dt : Nat) (ba : Option Addr) (da : Nat) (bg : Option Addr) (dg : Nat) (bp : Option Addr) (dp : Nat) (hm : PShort 1048576 x) (w : World) (hl : Rd w al (icell x.lv)) (ho : Rd w ao (icell x.own)) (ht : Rd w at_ (x.tree.flatMap Res.enc)) (ha : ThingsRd w aa x.arena) (hg : Rd w ag (icell x.grey)) (hp : Rd w ap (x.taps.flatMap Tap.enc)) (hl2 : Rd w bl9 (icell x.lv)) (ho2 : Rd w bo (icell x.own)) (ht2 : Rd w bt (x.tree.flatMap Res.enc)) (ha2 : ThingsRd w ba x.arena) (hg2 : Rd w bg (icell x.grey)) (hp2 : Rd w bp (x.taps.flatMap Tap.enc)) :
    Calls Try.prog 27 #[.agg #[.slice al x.lv.length cl, .slice ao x.own.length co, .slice at_ x.tree.length ct, .slice aa x.arena.length ca, .int .i64 x.ph, .int .i64 x.pt, .int .i64 x.rd, .slice ag x.grey.length cg, .slice ap x.taps.length cp, .int .i64 x.nx, .int .i64 x.wt, .int .i64 x.sp.p, .int .i64 x.sp.r, .int .i64 x.sp.c, .int .i64 x.pr, .int .i64 x.lo], .agg #[.slice bl9 x.lv.length dl, .slice bo x.own.length do9, .slice bt x.tree.length dt, .slice ba x.arena.length da, .int .i64 x.ph, .int .i64 x.pt, .int .i64 x.rd, .slice bg x.grey.length dg, .slice bp x.taps.length dp, .int .i64 x.nx, .int .i64 x.wt, .int .i64 x.sp.p, .int .i64 x.sp.r, .int .i64 x.sp.c, .int .i64 x.pr, .int .i64 x.lo]] w fun e w' => e = .returned (.bool true) ∧ Below w.heap.size w w' := by
  have B0 := hideP ((Blk.new w #[.slice al x.lv.length cl, .slice ao x.own.length co, .slice at_ x.tree.length ct, .slice aa x.arena.length ca, .int .i64 x.ph, .int .i64 x.pt, .int .i64 x.rd, .slice ag x.grey.length cg, .slice ap x.taps.length cp, .int .i64 x.nx, .int .i64 x.wt, .int .i64 x.sp.p, .int .i64 x.sp.r, .int .i64 x.sp.c, .int .i64 x.pr, .int .i64 x.lo] 52).alloc (.cells #[.slice bl9 x.lv.length dl, .slice bo x.own.length do9, .slice bt x.tree.length dt, .slice ba x.arena.length da, .int .i64 x.ph, .int .i64 x.pt, .int .i64 x.rd, .slice bg x.grey.length dg, .slice bp x.taps.length dp, .int .i64 x.nx, .int .i64 x.wt, .int .i64 x.sp.p, .int .i64 x.sp.r, .int .i64 x.sp.c, .int .i64 x.pr, .int .i64 x.lo] 52))
  have B1 : Hid (Blk ((w.alloc (.cells #[.slice al x.lv.length cl, .slice ao x.own.length co, .slice at_ x.tree.length ct, .slice aa x.arena.length ca, .int .i64 x.ph, .int .i64 x.pt, .int .i64 x.rd, .slice ag x.grey.length cg, .slice ap x.taps.length cp, .int .i64 x.nx, .int .i64 x.wt, .int .i64 x.sp.p, .int .i64 x.sp.r, .int .i64 x.sp.c, .int .i64 x.pr, .int .i64 x.lo] 52)).alloc (.cells #[.slice bl9 x.lv.length dl, .slice bo x.own.length do9, .slice bt x.tree.length dt, .slice ba x.arena.length da, .int .i64 x.ph, .int .i64 x.pt, .int .i64 x.rd, .slice bg x.grey.length dg, .slice bp x.taps.length dp, .int .i64 x.nx, .int .i64 x.wt, .int .i64 x.sp.p, .int .i64 x.sp.r, .int .i64 x.sp.c, .int .i64 x.pr, .int .i64 x.lo] 52)) (w.heap.size + 1) 52 [.slice bl9 x.lv.length dl, .slice bo x.own.length do9, .slice bt x.tree.length dt, .slice ba x.arena.length da, .int .i64 x.ph, .int .i64 x.pt, .int .i64 x.rd, .slice bg x.grey.length dg, .slice bp x.taps.length dp, .int .i64 x.nx, .int .i64 x.wt, .int .i64 x.sp.p, .int .i64 x.sp.r, .int .i64 x.sp.c, .int .i64 x.pr, .int .i64 x.lo]) := hideP (by have := Blk.new (w.alloc (.cells #[.slice al x.lv.length cl, .slice ao x.own.length co, .slice at_ x.tree.length ct, .slice aa x.arena.length ca, .int .i64 x.ph, .int .i64 x.pt, .int .i64 x.rd, .slice ag x.grey.length cg, .slice ap x.taps.length cp, .int .i64 x.nx, .int .i64 x.wt, .int .i64 x.sp.p, .int .i64 x.sp.r, .int .i64 x.sp.c, .int .i64 x.pr, .int .i64 x.lo] 52)) #[.slice bl9 x.lv.length dl, .slice bo x.own.length do9, .slice bt x.tree.length dt, .slice ba x.arena.length da, .int .i64 x.ph, .int .i64 x.pt, .int .i64 x.rd, .slice bg x.grey.length dg, .slice bp x.taps.length dp, .int .i64 x.nx, .int .i64 x.wt, .int .i64 x.sp.p, .int .i64 x.sp.r, .int .i64 x.sp.c, .int .i64 x.pr, .int .i64 x.lo] 52; simpa using this)
  have HB := hideP (below_a2 w (.cells #[.slice al x.lv.length cl, .slice ao x.own.length co, .slice at_ x.tree.length ct, .slice aa x.arena.length ca, .int .i64 x.ph, .int .i64 x.pt, .int .i64 x.rd, .slice ag x.grey.length cg, .slice ap x.taps.length cp, .int .i64 x.nx, .int .i64 x.wt, .int .i64 x.sp.p, .int .i64 x.sp.r, .int .i64 x.sp.c, .int .i64 x.pr, .int .i64 x.lo] 52) (.cells #[.slice bl9 x.lv.length dl, .slice bo x.own.length do9, .slice bt x.tree.length dt, .slice ba x.arena.length da, .int .i64 x.ph, .int .i64 x.pt, .int .i64 x.rd, .slice bg x.grey.length dg, .slice bp x.taps.length dp, .int .i64 x.nx, .int .i64 x.wt, .int .i64 x.sp.p, .int .i64 x.sp.r, .int .i64 x.sp.c, .int .i64 x.pr, .int .i64 x.lo] 52))
  go_enter Try.func27, Try.ntmps27
  go_upto_region 1 with fail
  obtain ⟨W, hW⟩ : ∃ W, W = ((w.alloc (.cells #[.slice al x.lv.length cl, .slice ao x.own.length co, .slice at_ x.tree.length ct, .slice aa x.arena.length ca, .int .i64 x.ph, .int .i64 x.pt, .int .i64 x.rd, .slice ag x.grey.length cg, .slice ap x.taps.length cp, .int .i64 x.nx, .int .i64 x.wt, .int .i64 x.sp.p, .int .i64 x.sp.r, .int .i64 x.sp.c, .int .i64 x.pr, .int .i64 x.lo] 52)).alloc (.cells #[.slice bl9 x.lv.length dl, .slice bo x.own.length do9, .slice bt x.tree.length dt, .slice ba x.arena.length da, .int .i64 x.ph, .int .i64 x.pt, .int .i64 x.rd, .slice bg x.grey.length dg, .slice bp x.taps.length dp, .int .i64 x.nx, .int .i64 x.wt, .int .i64 x.sp.p, .int .i64 x.sp.r, .int .i64 x.sp.c, .int .i64 x.pr, .int .i64 x.lo] 52)) := ⟨_, rfl⟩
  rw [← hW] at B0 B1 HB ⊢
  clear hW
  have x0 : W.cell? ⟨w.heap.size, 0, none⟩ = some (.slice al x.lv.length cl) := (B0.out.cell 0).trans rfl
  have y0 : W.cell? ⟨w.heap.size + 1, 0, none⟩ = some (.slice bl9 x.lv.length dl) := (B1.out.cell 0).trans rfl
  go_wp2_with fail
  refine (eqLabel_any x.lv al bl9 cl dl hm.l _ (hl.below HB.out) (hl2.below HB.out)).mono ?_
  rintro e w1 ⟨rfl, hb1⟩
  have HB := hideP (HB.out.trans (hb1.mono HB.out.size))
  have B0 := hideP (B0.out.below hb1)
  have B1 := hideP (B1.out.below hb1)
  clear hb1 x0 y0
  have x1 : w1.cell? ⟨w.heap.size, 1, none⟩ = some (.slice ao x.own.length co) := (B0.out.cell 1).trans rfl
  have y1 : w1.cell? ⟨w.heap.size + 1, 1, none⟩ = some (.slice bo x.own.length do9) := (B1.out.cell 1).trans rfl
  go_wp2_with fail
  refine (eqIntS_any ao bo _ co do9 x.own rfl hm.o _ (ho.below HB.out) (ho2.below HB.out)).mono ?_
  rintro e w2 ⟨rfl, hb2⟩
  have HB := hideP (HB.out.trans (hb2.mono HB.out.size))
  have B0 := hideP (B0.out.below hb2)
  have B1 := hideP (B1.out.below hb2)
  clear hb2 x1 y1
  have x2 : w2.cell? ⟨w.heap.size, 2, none⟩ = some (.slice at_ x.tree.length ct) := (B0.out.cell 2).trans rfl
  have y2 : w2.cell? ⟨w.heap.size + 1, 2, none⟩ = some (.slice bt x.tree.length dt) := (B1.out.cell 2).trans rfl
  go_wp2_with fail
  refine (eqResS_any at_ bt _ ct dt x.tree rfl hm.t _ (ht.below HB.out) (ht2.below HB.out)).mono ?_
  rintro e w3 ⟨rfl, hb3⟩
  have HB := hideP (HB.out.trans (hb3.mono HB.out.size))
  have B0 := hideP (B0.out.below hb3)
  have B1 := hideP (B1.out.below hb3)
  clear hb3 x2 y2
  have x3 : w3.cell? ⟨w.heap.size, 3, none⟩ = some (.slice aa x.arena.length ca) := (B0.out.cell 3).trans rfl
  have y3 : w3.cell? ⟨w.heap.size + 1, 3, none⟩ = some (.slice ba x.arena.length da) := (B1.out.cell 3).trans rfl
  have x4 : w3.cell? ⟨w.heap.size, 4, none⟩ = some (.int .i64 x.ph) := (B0.out.cell 4).trans rfl
  have y4 : w3.cell? ⟨w.heap.size + 1, 4, none⟩ = some (.int .i64 x.ph) := (B1.out.cell 4).trans rfl
  have x5 : w3.cell? ⟨w.heap.size, 5, none⟩ = some (.int .i64 x.pt) := (B0.out.cell 5).trans rfl
  have y5 : w3.cell? ⟨w.heap.size + 1, 5, none⟩ = some (.int .i64 x.pt) := (B1.out.cell 5).trans rfl
  have x6 : w3.cell? ⟨w.heap.size, 6, none⟩ = some (.int .i64 x.rd) := (B0.out.cell 6).trans rfl
  have y6 : w3.cell? ⟨w.heap.size + 1, 6, none⟩ = some (.int .i64 x.rd) := (B1.out.cell 6).trans rfl
  have x7 : w3.cell? ⟨w.heap.size, 7, none⟩ = some (.slice ag x.grey.length cg) := (B0.out.cell 7).trans rfl
  have y7 : w3.cell? ⟨w.heap.size + 1, 7, none⟩ = some (.slice bg x.grey.length dg) := (B1.out.cell 7).trans rfl
  go_wp2_with fail
  refine (eqHeap_any x ag cg bg dg aa ca ba da hm _ (ha.below HB.out) (ha2.below HB.out) (hg.below HB.out) (hg2.below HB.out)).mono ?_
  rintro e w4 ⟨rfl, hb4⟩
  have HB := hideP (HB.out.trans (hb4.mono HB.out.size))
  have B0 := hideP (B0.out.below hb4)
  have B1 := hideP (B1.out.below hb4)
  clear hb4 x3 y3 x4 y4 x5 y5 x6 y6 x7 y7
  have x8 : w4.cell? ⟨w.heap.size, 8, none⟩ = some (.slice ap x.taps.length cp) := (B0.out.cell 8).trans rfl
  have y8 : w4.cell? ⟨w.heap.size + 1, 8, none⟩ = some (.slice bp x.taps.length dp) := (B1.out.cell 8).trans rfl
  go_wp2_with fail
  refine (eqTapS_any ap bp _ cp dp x.taps rfl hm.p _ (hp.below HB.out) (hp2.below HB.out)).mono ?_
  rintro e w5 ⟨rfl, hb5⟩
  have HB := hideP (HB.out.trans (hb5.mono HB.out.size))
  have B0 := hideP (B0.out.below hb5)
  have B1 := hideP (B1.out.below hb5)
  clear hb5 x8 y8
  have x9 : w5.cell? ⟨w.heap.size, 9, none⟩ = some (.int .i64 x.nx) := (B0.out.cell 9).trans rfl
  have y9 : w5.cell? ⟨w.heap.size + 1, 9, none⟩ = some (.int .i64 x.nx) := (B1.out.cell 9).trans rfl
  have x10 : w5.cell? ⟨w.heap.size, 10, none⟩ = some (.int .i64 x.wt) := (B0.out.cell 10).trans rfl
  have y10 : w5.cell? ⟨w.heap.size + 1, 10, none⟩ = some (.int .i64 x.wt) := (B1.out.cell 10).trans rfl
  have x11 : w5.cell? ⟨w.heap.size, 11, none⟩ = some (.int .i64 x.sp.p) := (B0.out.cell 11).trans rfl
  have y11 : w5.cell? ⟨w.heap.size + 1, 11, none⟩ = some (.int .i64 x.sp.p) := (B1.out.cell 11).trans rfl
  have x12 : w5.cell? ⟨w.heap.size, 12, none⟩ = some (.int .i64 x.sp.r) := (B0.out.cell 12).trans rfl
  have y12 : w5.cell? ⟨w.heap.size + 1, 12, none⟩ = some (.int .i64 x.sp.r) := (B1.out.cell 12).trans rfl
  have x13 : w5.cell? ⟨w.heap.size, 13, none⟩ = some (.int .i64 x.sp.c) := (B0.out.cell 13).trans rfl
  have y13 : w5.cell? ⟨w.heap.size + 1, 13, none⟩ = some (.int .i64 x.sp.c) := (B1.out.cell 13).trans rfl
  go_wp2_with fail
  refine (eqAmt_any x.sp _).mono ?_
  rintro e w6 ⟨rfl, hb6⟩
  have HB := hideP (HB.out.trans (hb6.mono HB.out.size))
  have B0 := hideP (B0.out.below hb6)
  have B1 := hideP (B1.out.below hb6)
  clear hb6 x9 y9 x10 y10 x11 y11 x12 y12 x13 y13
  have x14 : w6.cell? ⟨w.heap.size, 14, none⟩ = some (.int .i64 x.pr) := (B0.out.cell 14).trans rfl
  have y14 : w6.cell? ⟨w.heap.size + 1, 14, none⟩ = some (.int .i64 x.pr) := (B1.out.cell 14).trans rfl
  have x15 : w6.cell? ⟨w.heap.size, 15, none⟩ = some (.int .i64 x.lo) := (B0.out.cell 15).trans rfl
  have y15 : w6.cell? ⟨w.heap.size + 1, 15, none⟩ = some (.int .i64 x.lo) := (B1.out.cell 15).trans rfl
  go_wp2
  go_ret
  exact ⟨rfl, HB.out⟩
set_option maxRecDepth 100000 in
set_option maxHeartbeats 8000000 in
theorem eqPartS_any (l : List PartD) (p p' : Option Addr) (c c' : Nat) (hl : l.length ≤ 1048576) (hs : ∀ x ∈ l, PShort 1048576 x) (w : World) (h : PartsRd w p l) (h' : PartsRd w p' l) :
    Calls Try.prog 20 #[.slice p l.length c, .slice p' l.length c'] w fun e w' => e = .returned (.bool true) ∧ Below w.heap.size w w' := by
  have HR := hideP h
  have HR' := hideP h'
  have HS := hideP hs
  clear h h' hs
  go_enter Try.func20, Try.ntmps20
  go_wp2
  go_loopg [5] (l.length + 1) (fun gk i wr => ∃ (k : Nat), l.length < gk + k ∧ k ≤ l.length ∧ i = .int .i64 (k : Int) ∧ Hid (Below w.heap.size w wr))
  case atStart => exact ⟨0, by omega, by omega, rfl, hideP (Below.refl _ _)⟩
  case round =>
    obtain ⟨k, hgk, hk, rfl, HB⟩ := hrel
    by_cases hlt : k < l.length
    · obtain ⟨x, hx⟩ := some_at (l := l) (k := k) hlt
      obtain ⟨b, o, vl, vo, vt, va, vg, vp, rfl, hbw, hth, hz9⟩ := HR.out.below HB.out k x hx
      obtain ⟨⟨al, cl, rfl, _, rl⟩, ⟨ao, co, rfl, _, ro⟩, ⟨at_, ct, rfl, _, rt⟩, ⟨aa, ca, rfl, _, ra⟩, ⟨ag, cg, rfl, _, rg⟩, ⟨ap, cp, rfl, _, rp⟩⟩ := hth
      obtain ⟨b', o', vl, vo, vt, va, vg, vp, rfl, hbw', hth', hz9'⟩ := HR'.out.below HB.out k x hx
      obtain ⟨⟨bl9, dl, rfl, _, rl2⟩, ⟨bo, do9, rfl, _, ro2⟩, ⟨bt, dt, rfl, _, rt2⟩, ⟨ba, da, rfl, _, ra2⟩, ⟨bg, dg, rfl, _, rg2⟩, ⟨bp, dp, rfl, _, rp2⟩⟩ := hth'
      have hm := HS.out x (List.mem_of_getElem? hx)
      have g0 : World.cell? _ ⟨b, o + k * 16, none⟩ = some (.slice al x.lv.length cl) := hz9 0 _ rfl
      have g1 : World.cell? _ ⟨b, o + k * 16 + 1, none⟩ = some (.slice ao x.own.length co) := hz9 1 _ rfl
      have g2 : World.cell? _ ⟨b, o + k * 16 + 2, none⟩ = some (.slice at_ x.tree.length ct) := hz9 2 _ rfl
      have g3 : World.cell? _ ⟨b, o + k * 16 + 3, none⟩ = some (.slice aa x.arena.length ca) := hz9 3 _ rfl
      have g4 : World.cell? _ ⟨b, o + k * 16 + 4, none⟩ = some (.int .i64 x.ph) := hz9 4 _ rfl
      have g5 : World.cell? _ ⟨b, o + k * 16 + 5, none⟩ = some (.int .i64 x.pt) := hz9 5 _ rfl
      have g6 : World.cell? _ ⟨b, o + k * 16 + 6, none⟩ = some (.int .i64 x.rd) := hz9 6 _ rfl
      have g7 : World.cell? _ ⟨b, o + k * 16 + 7, none⟩ = some (.slice ag x.grey.length cg) := hz9 7 _ rfl
      have g8 : World.cell? _ ⟨b, o + k * 16 + 8, none⟩ = some (.slice ap x.taps.length cp) := hz9 8 _ rfl
      have g9 : World.cell? _ ⟨b, o + k * 16 + 9, none⟩ = some (.int .i64 x.nx) := hz9 9 _ rfl
      have g10 : World.cell? _ ⟨b, o + k * 16 + 10, none⟩ = some (.int .i64 x.wt) := hz9 10 _ rfl
      have g11 : World.cell? _ ⟨b, o + k * 16 + 11, none⟩ = some (.int .i64 x.sp.p) := hz9 11 _ rfl
      have g12 : World.cell? _ ⟨b, o + k * 16 + 12, none⟩ = some (.int .i64 x.sp.r) := hz9 12 _ rfl
      have g13 : World.cell? _ ⟨b, o + k * 16 + 13, none⟩ = some (.int .i64 x.sp.c) := hz9 13 _ rfl
      have g14 : World.cell? _ ⟨b, o + k * 16 + 14, none⟩ = some (.int .i64 x.pr) := hz9 14 _ rfl
      have g15 : World.cell? _ ⟨b, o + k * 16 + 15, none⟩ = some (.int .i64 x.lo) := hz9 15 _ rfl
      have j0 : World.cell? _ ⟨b', o' + k * 16, none⟩ = some (.slice bl9 x.lv.length dl) := hz9' 0 _ rfl
      have j1 : World.cell? _ ⟨b', o' + k * 16 + 1, none⟩ = some (.slice bo x.own.length do9) := hz9' 1 _ rfl
      have j2 : World.cell? _ ⟨b', o' + k * 16 + 2, none⟩ = some (.slice bt x.tree.length dt) := hz9' 2 _ rfl
      have j3 : World.cell? _ ⟨b', o' + k * 16 + 3, none⟩ = some (.slice ba x.arena.length da) := hz9' 3 _ rfl
      have j4 : World.cell? _ ⟨b', o' + k * 16 + 4, none⟩ = some (.int .i64 x.ph) := hz9' 4 _ rfl
      have j5 : World.cell? _ ⟨b', o' + k * 16 + 5, none⟩ = some (.int .i64 x.pt) := hz9' 5 _ rfl
      have j6 : World.cell? _ ⟨b', o' + k * 16 + 6, none⟩ = some (.int .i64 x.rd) := hz9' 6 _ rfl
      have j7 : World.cell? _ ⟨b', o' + k * 16 + 7, none⟩ = some (.slice bg x.grey.length dg) := hz9' 7 _ rfl
      have j8 : World.cell? _ ⟨b', o' + k * 16 + 8, none⟩ = some (.slice bp x.taps.length dp) := hz9' 8 _ rfl
      have j9 : World.cell? _ ⟨b', o' + k * 16 + 9, none⟩ = some (.int .i64 x.nx) := hz9' 9 _ rfl
      have j10 : World.cell? _ ⟨b', o' + k * 16 + 10, none⟩ = some (.int .i64 x.wt) := hz9' 10 _ rfl
      have j11 : World.cell? _ ⟨b', o' + k * 16 + 11, none⟩ = some (.int .i64 x.sp.p) := hz9' 11 _ rfl
      have j12 : World.cell? _ ⟨b', o' + k * 16 + 12, none⟩ = some (.int .i64 x.sp.r) := hz9' 12 _ rfl
      have j13 : World.cell? _ ⟨b', o' + k * 16 + 13, none⟩ = some (.int .i64 x.sp.c) := hz9' 13 _ rfl
      have j14 : World.cell? _ ⟨b', o' + k * 16 + 14, none⟩ = some (.int .i64 x.pr) := hz9' 14 _ rfl
      have j15 : World.cell? _ ⟨b', o' + k * 16 + 15, none⟩ = some (.int .i64 x.lo) := hz9' 15 _ rfl
      have k0 : (0 : Int) ≤ (k : Int) := by omega
      have k1 : (k : Int) < (l.length : Int) := by omega
      clear hx hz9 hz9'
      go_wp2
      have q_g0 := fun d os => cell_regrown g0 d os
      have q_g1 := fun d os => cell_regrown g1 d os
      have q_g2 := fun d os => cell_regrown g2 d os
      have q_g3 := fun d os => cell_regrown g3 d os
      have q_g4 := fun d os => cell_regrown g4 d os
      have q_g5 := fun d os => cell_regrown g5 d os
      have q_g6 := fun d os => cell_regrown g6 d os
      have q_g7 := fun d os => cell_regrown g7 d os
      have q_g8 := fun d os => cell_regrown g8 d os
      have q_g9 := fun d os => cell_regrown g9 d os
      have q_g10 := fun d os => cell_regrown g10 d os
      have q_g11 := fun d os => cell_regrown g11 d os
      have q_g12 := fun d os => cell_regrown g12 d os
      have q_g13 := fun d os => cell_regrown g13 d os
      have q_g14 := fun d os => cell_regrown g14 d os
      have q_g15 := fun d os => cell_regrown g15 d os
      have q_j0 := fun d os => cell_regrown j0 d os
      have q_j1 := fun d os => cell_regrown j1 d os
      have q_j2 := fun d os => cell_regrown j2 d os
      have q_j3 := fun d os => cell_regrown j3 d os
      have q_j4 := fun d os => cell_regrown j4 d os
      have q_j5 := fun d os => cell_regrown j5 d os
      have q_j6 := fun d os => cell_regrown j6 d os
      have q_j7 := fun d os => cell_regrown j7 d os
      have q_j8 := fun d os => cell_regrown j8 d os
      have q_j9 := fun d os => cell_regrown j9 d os
      have q_j10 := fun d os => cell_regrown j10 d os
      have q_j11 := fun d os => cell_regrown j11 d os
      have q_j12 := fun d os => cell_regrown j12 d os
      have q_j13 := fun d os => cell_regrown j13 d os
      have q_j14 := fun d os => cell_regrown j14 d os
      have q_j15 := fun d os => cell_regrown j15 d os
      refine wp_region_quiet_below (by kernel_rfl) (by kernel_rfl) ?_
      repeat (first | go_big_quiet_step ((first | (go_at_call 27; exact Calls.regrown_of (eqPart_any x al cl ao co at_ ct aa ca ag cg ap cp bl9 dl bo do9 bt dt ba da bg dg bp dp hm _ (rl.below (below_regrown _ _ _)) (ro.below (below_regrown _ _ _)) (rt.below (below_regrown _ _ _)) (ra.below (below_regrown _ _ _)) (rg.below (below_regrown _ _ _)) (rp.below (below_regrown _ _ _)) (rl2.below (below_regrown _ _ _)) (ro2.below (below_regrown _ _ _)) (rt2.below (below_regrown _ _ _)) (ra2.below (below_regrown _ _ _)) (rg2.below (below_regrown _ _ _)) (rp2.below (below_regrown _ _ _)))))) | quiet_step ((first | (go_at_call 27; exact Calls.regrown_of (eqPart_any x al cl ao co at_ ct aa ca ag cg ap cp bl9 dl bo do9 bt dt ba da bg dg bp dp hm _ (rl.below (below_regrown _ _ _)) (ro.below (below_regrown _ _ _)) (rt.below (below_regrown _ _ _)) (ra.below (below_regrown _ _ _)) (rg.below (below_regrown _ _ _)) (rp.below (below_regrown _ _ _)) (rl2.below (below_regrown _ _ _)) (ro2.below (below_regrown _ _ _)) (rt2.below (below_regrown _ _ _)) (ra2.below (below_regrown _ _ _)) (rg2.below (below_regrown _ _ _)) (rp2.below (below_regrown _ _ _)))))))
      refine wpQuiet_nil ?_
      intro _ hw'
      obtain ⟨⟨dq, osq⟩, hw''⟩ := hw'
      subst hw''
      clear q_g0 q_g1 q_g2 q_g3 q_g4 q_g5 q_g6 q_g7 q_g8 q_g9 q_g10 q_g11 q_g12 q_g13 q_g14 q_g15 q_j0 q_j1 q_j2 q_j3 q_j4 q_j5 q_j6 q_j7 q_j8 q_j9 q_j10 q_j11 q_j12 q_j13 q_j14 q_j15
      obtain ⟨wq, hwq⟩ : ∃ wq, wq = Go.Sort.grow (redrawn wr dq) osq := ⟨_, rfl⟩
      have hbwq : Below wr.heap.size wr wq := hwq ▸ below_regrown _ dq osq
      rw [← hwq]
      clear hwq
      have HB := hideP (HB.out.trans (hbwq.mono HB.out.size))
      clear hbwq rl ro rt ra rg rp rl2 ro2 rt2 ra2 rg2 rp2 g0 g1 g2 g3 g4 g5 g6 g7 g8 g9 g10 g11 g12 g13 g14 g15 j0 j1 j2 j3 j4 j5 j6 j7 j8 j9 j10 j11 j12 j13 j14 j15
      go_wp2
      go_roundg (gk - 1)
      case measure => omega
      case rel => exact ⟨k + 1, by omega, by omega, by go_num, HB⟩
    · have d1 : ¬ ((k : Int) < (l.length : Int)) := by omega
      go_wp2
      go_ret
      exact ⟨rfl, HB.out⟩
set_option maxRecDepth 100000 in
set_option maxHeartbeats 8000000 in
theorem eqWorld_any (nw : Int) (l : List PartD) (p : Option Addr) (c : Nat) (p2 : Option Addr) (c2 : Nat) (hl : l.length ≤ 1048576) (hs : ∀ x ∈ l, PShort 1048576 x) (w : World) (h : PartsRd w p l) (h2 : PartsRd w p2 l) :
    Calls Try.prog 9 #[.agg #[.int .i64 nw, .slice p l.length c], .agg #[.int .i64 nw, .slice p2 l.length c2]] w fun e w' => e = .returned (.bool true) ∧ Below w.heap.size w w' := by
  have B0 := hideP ((Blk.new w #[.int .i64 nw, .slice p l.length c] 29).alloc (.cells #[.int .i64 nw, .slice p2 l.length c2] 29))
  have B1 : Hid (Blk ((w.alloc (.cells #[.int .i64 nw, .slice p l.length c] 29)).alloc (.cells #[.int .i64 nw, .slice p2 l.length c2] 29)) (w.heap.size + 1) 29 [.int .i64 nw, .slice p2 l.length c2]) := hideP (by have := Blk.new (w.alloc (.cells #[.int .i64 nw, .slice p l.length c] 29)) #[.int .i64 nw, .slice p2 l.length c2] 29; simpa using this)
  have HB := hideP (below_a2 w (.cells #[.int .i64 nw, .slice p l.length c] 29) (.cells #[.int .i64 nw, .slice p2 l.length c2] 29))
  go_enter Try.func9, Try.ntmps9
  go_upto_region 1 with fail
  obtain ⟨W, hW⟩ : ∃ W, W = ((w.alloc (.cells #[.int .i64 nw, .slice p l.length c] 29)).alloc (.cells #[.int .i64 nw, .slice p2 l.length c2] 29)) := ⟨_, rfl⟩
  rw [← hW] at B0 B1 HB ⊢
  clear hW
  have x0 : W.cell? ⟨w.heap.size, 0, none⟩ = some (.int .i64 nw) := (B0.out.cell 0).trans rfl
  have y0 : W.cell? ⟨w.heap.size + 1, 0, none⟩ = some (.int .i64 nw) := (B1.out.cell 0).trans rfl
  have x1 : W.cell? ⟨w.heap.size, 1, none⟩ = some (.slice p l.length c) := (B0.out.cell 1).trans rfl
  have y1 : W.cell? ⟨w.heap.size + 1, 1, none⟩ = some (.slice p2 l.length c2) := (B1.out.cell 1).trans rfl
  go_wp2_with fail
  refine (eqPartS_any l p p2 c c2 hl hs _ (h.below HB.out) (h2.below HB.out)).mono ?_
  rintro e w1 ⟨rfl, hb1⟩
  have HB := hideP (HB.out.trans (hb1.mono HB.out.size))
  have B0 := hideP (B0.out.below hb1)
  have B1 := hideP (B1.out.below hb1)
  clear hb1 x0 y0 x1 y1
  go_wp2
  go_ret
  exact ⟨rfl, HB.out⟩

end Go.Proofs.Ytpiaahkfnefplaa
