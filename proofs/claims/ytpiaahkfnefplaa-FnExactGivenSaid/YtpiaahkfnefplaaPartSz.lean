/- Parts: sz. -/
import Derived.Test.YtpiaahkfnefplaaPartPure
import Derived.Test.YtpiaahkfnefplaaBootsSz
import Derived.Deep.LoopGhost
namespace Go.Proofs.Ytpiaahkfnefplaa
open Go.RowKit


theorem szResS_anyL (a : Option Addr) (n cap : Nat) (hn : n ≤ maxLen) (left : Int) (h0 : 0 ≤ left ∧ left ≤ 1048576) (w : World) :
    Calls Try.prog 36 #[.slice a n cap, .int .i64 left] w fun e w' => e = .returned (.int .i64 (szLeft left n)) ∧ w = w' := by
  unfold maxLen at hn
  by_cases h : left < (n : Int)
  · have HS := hideP (szLeft_no h)
    go_enter Try.func36, Try.ntmps36
    go_wp2
    go_ret
    exact ⟨ret_int HS.out.symm, rfl⟩
  · have HS := hideP (szLeft_yes h)
    go_enter Try.func36, Try.ntmps36
    go_wp2
    go_ret
    exact ⟨ret_int HS.out.symm, rfl⟩

theorem szTapS_anyL (a : Option Addr) (n cap : Nat) (hn : n ≤ maxLen) (left : Int) (h0 : 0 ≤ left ∧ left ≤ 1048576) (w : World) :
    Calls Try.prog 38 #[.slice a n cap, .int .i64 left] w fun e w' => e = .returned (.int .i64 (szLeft left n)) ∧ w = w' := by
  unfold maxLen at hn
  by_cases h : left < (n : Int)
  · have HS := hideP (szLeft_no h)
    go_enter Try.func38, Try.ntmps38
    go_wp2
    go_ret
    exact ⟨ret_int HS.out.symm, rfl⟩
  · have HS := hideP (szLeft_yes h)
    go_enter Try.func38, Try.ntmps38
    go_wp2
    go_ret
    exact ⟨ret_int HS.out.symm, rfl⟩
set_option maxRecDepth 100000 in
set_option maxHeartbeats 8000000 in
theorem szGc_any (x : PartD) (ag : Option Addr) (cg : Nat) (mg : x.grey.length ≤ maxLen) (left : Int) (h0 : 0 ≤ left ∧ left ≤ 1048576) (w : World) :
    Calls Try.prog 57 #[.agg #[.int .i64 x.ph, .int .i64 x.pt, .int .i64 x.rd, .slice ag x.grey.length cg], .int .i64 left] w fun e w' => e = .returned (.int .i64 (szLeft left (x.grey.length))) ∧ Below w.heap.size w w' := by
  have HB := hideP (below_a1 w (.cells #[.int .i64 x.ph, .int .i64 x.pt, .int .i64 x.rd, .slice ag x.grey.length cg] 66))
  have B0 := hideP (Blk.new w #[.int .i64 x.ph, .int .i64 x.pt, .int .i64 x.rd, .slice ag x.grey.length cg] 66)
  obtain ⟨R, hR⟩ : ∃ R, R = szLeft left (x.grey.length) := ⟨_, rfl⟩
  rw [← hR]
  have HS : Hid (R = szLeft left (x.grey.length)) := hideP hR
  clear hR
  go_enter Try.func57, Try.ntmps57
  go_wp2_with fail
  refine (szIntS_any _ _ _ mg left h0 _).mono ?_
  rintro e w1 ⟨rfl, rfl⟩
  by_cases c0 : left < ((x.grey.length : Nat) : Int)
  · have HN : Hid (R = -1) := hideP (HS.out.trans (szLeft_no c0))
    rw [szLeft_no c0]
    go_wp2
    go_ret
    exact ⟨ret_int HN.out.symm, HB.out⟩
  · rw [szLeft_yes c0]
    have HN : Hid (R = left - ((x.grey.length : Nat) : Int)) := hideP (HS.out.trans (szLeft_yes c0))
    have d0 : ¬ (left - ((x.grey.length : Nat) : Int) < 0) := by omega
    go_wp2
    go_ret
    exact ⟨ret_int HN.out.symm, HB.out⟩
set_option maxRecDepth 100000 in
set_option maxHeartbeats 8000000 in
theorem szHeap_any (x : PartD) (ag : Option Addr) (cg : Nat) (mg : x.grey.length ≤ maxLen) (aa : Option Addr) (ca : Nat) (ma : x.arena.length ≤ maxLen) (ms : Short maxLen x.arena) (left : Int) (h0 : 0 ≤ left ∧ left ≤ 1048576) (w : World) (ha : ThingsRd w aa x.arena) :
    Calls Try.prog 37 #[.agg #[.slice aa x.arena.length ca, .int .i64 x.ph, .int .i64 x.pt, .int .i64 x.rd, .slice ag x.grey.length cg], .int .i64 left] w fun e w' => e = .returned (.int .i64 (szLeft left (heapSize x))) ∧ Below w.heap.size w w' := by
  have HB := hideP (below_a1 w (.cells #[.slice aa x.arena.length ca, .int .i64 x.ph, .int .i64 x.pt, .int .i64 x.rd, .slice ag x.grey.length cg] 68))
  have B0 := hideP (Blk.new w #[.slice aa x.arena.length ca, .int .i64 x.ph, .int .i64 x.pt, .int .i64 x.rd, .slice ag x.grey.length cg] 68)
  obtain ⟨R, hR⟩ : ∃ R, R = szLeft left (heapSize x) := ⟨_, rfl⟩
  rw [← hR]
  have HS : Hid (R = szLeft left ((x.arena.length + thingsSize x.arena) + (x.grey.length))) := hideP hR
  clear hR
  go_enter Try.func37, Try.ntmps37
  go_wp2_with fail
  refine (szObjS_any x.arena aa ca left h0 ma ms _ (ha.below HB.out)).mono ?_
  rintro e w1 ⟨rfl, hb1⟩
  have HB := hideP (HB.out.trans (hb1.mono HB.out.size))
  have B0 := hideP (B0.out.below hb1)
  clear hb1 
  by_cases c0 : left < (((x.arena.length + thingsSize x.arena) : Nat) : Int)
  · have HN : Hid (R = -1) := hideP (HS.out.trans (szLeft_add_no c0))
    rw [szLeft_no c0]
    go_wp2
    go_ret
    exact ⟨ret_int HN.out.symm, HB.out⟩
  · rw [szLeft_yes c0]
    have HS := hideP (HS.out.trans (szLeft_add_yes c0))
    obtain ⟨lf0, hlf0⟩ : ∃ lg, lg = left - (((x.arena.length + thingsSize x.arena) : Nat) : Int) := ⟨_, rfl⟩
    rw [← hlf0] at HS ⊢
    have hl0 : 0 ≤ lf0 ∧ lf0 ≤ 1048576 := by omega
    have d0 : ¬ (lf0 < 0) := by omega
    clear hlf0 c0
    have x1 : w1.cell? ⟨w.heap.size, 1, none⟩ = some (.int .i64 x.ph) := (B0.out.cell 1).trans rfl
    have x2 : w1.cell? ⟨w.heap.size, 2, none⟩ = some (.int .i64 x.pt) := (B0.out.cell 2).trans rfl
    have x3 : w1.cell? ⟨w.heap.size, 3, none⟩ = some (.int .i64 x.rd) := (B0.out.cell 3).trans rfl
    have x4 : w1.cell? ⟨w.heap.size, 4, none⟩ = some (.slice ag x.grey.length cg) := (B0.out.cell 4).trans rfl
    go_wp2_with fail
    refine (szGc_any x ag cg mg lf0 hl0 _).mono ?_
    rintro e w2 ⟨rfl, hb2⟩
    have HB := hideP (HB.out.trans (hb2.mono HB.out.size))
    have B0 := hideP (B0.out.below hb2)
    clear hb2 x1 x2 x3 x4
    by_cases c1 : lf0 < ((x.grey.length : Nat) : Int)
    · have HN : Hid (R = -1) := hideP (HS.out.trans (szLeft_no c1))
      rw [szLeft_no c1]
      go_wp2
      go_ret
      exact ⟨ret_int HN.out.symm, HB.out⟩
    · rw [szLeft_yes c1]
      have HN : Hid (R = lf0 - ((x.grey.length : Nat) : Int)) := hideP (HS.out.trans (szLeft_yes c1))
      have d1 : ¬ (lf0 - ((x.grey.length : Nat) : Int) < 0) := by omega
      go_wp2
      go_ret
      exact ⟨ret_int HN.out.symm, HB.out⟩
set_option maxRecDepth 100000 in
set_option maxHeartbeats 8000000 in
theorem szPart_any (x : PartD) (al : Option Addr) (cl : Nat) (ao : Option Addr) (co : Nat) (at_ : Option Addr) (ct : Nat) (aa : Option Addr) (ca : Nat) (ag : Option Addr) (cg : Nat) (ap : Option Addr) (cp : Nat) (hm : PShort maxLen x) (left : Int) (h0 : 0 ≤ left ∧ left ≤ 1048576) (w : World) (ha : ThingsRd w aa x.arena) :
    Calls Try.prog 24 #[.agg #[.slice al x.lv.length cl, .slice ao x.own.length co, .slice at_ x.tree.length ct, .slice aa x.arena.length ca, .int .i64 x.ph, .int .i64 x.pt, .int .i64 x.rd, .slice ag x.grey.length cg, .slice ap x.taps.length cp, .int .i64 x.nx, .int .i64 x.wt, .int .i64 x.sp.p, .int .i64 x.sp.r, .int .i64 x.sp.c, .int .i64 x.pr, .int .i64 x.lo], .int .i64 left] w fun e w' => e = .returned (.int .i64 (szLeft left (partSize x))) ∧ Below w.heap.size w w' := by
  have HB := hideP (below_a1 w (.cells #[.slice al x.lv.length cl, .slice ao x.own.length co, .slice at_ x.tree.length ct, .slice aa x.arena.length ca, .int .i64 x.ph, .int .i64 x.pt, .int .i64 x.rd, .slice ag x.grey.length cg, .slice ap x.taps.length cp, .int .i64 x.nx, .int .i64 x.wt, .int .i64 x.sp.p, .int .i64 x.sp.r, .int .i64 x.sp.c, .int .i64 x.pr, .int .i64 x.lo] 72))
  have B0 := hideP (Blk.new w #[.slice al x.lv.length cl, .slice ao x.own.length co, .slice at_ x.tree.length ct, .slice aa x.arena.length ca, .int .i64 x.ph, .int .i64 x.pt, .int .i64 x.rd, .slice ag x.grey.length cg, .slice ap x.taps.length cp, .int .i64 x.nx, .int .i64 x.wt, .int .i64 x.sp.p, .int .i64 x.sp.r, .int .i64 x.sp.c, .int .i64 x.pr, .int .i64 x.lo] 72)
  obtain ⟨R, hR⟩ : ∃ R, R = szLeft left (partSize x) := ⟨_, rfl⟩
  rw [← hR]
  have HS : Hid (R = szLeft left (x.lv.length + (x.own.length + (x.tree.length + (heapSize x + (x.taps.length)))))) := hideP hR
  clear hR
  go_enter Try.func24, Try.ntmps24
  go_wp2_with fail
  refine (szLabel_any _ _ _ hm.l left h0 _).mono ?_
  rintro e w1 ⟨rfl, hb1⟩
  have HB := hideP (HB.out.trans (hb1.mono HB.out.size))
  have B0 := hideP (B0.out.below hb1)
  clear hb1 
  by_cases c0 : left < ((x.lv.length : Nat) : Int)
  · have HN : Hid (R = -1) := hideP (HS.out.trans (szLeft_add_no c0))
    rw [szLeft_no c0]
    go_wp2
    go_ret
    exact ⟨ret_int HN.out.symm, HB.out⟩
  · rw [szLeft_yes c0]
    have HS := hideP (HS.out.trans (szLeft_add_yes c0))
    obtain ⟨lf0, hlf0⟩ : ∃ lg, lg = left - ((x.lv.length : Nat) : Int) := ⟨_, rfl⟩
    rw [← hlf0] at HS ⊢
    have hl0 : 0 ≤ lf0 ∧ lf0 ≤ 1048576 := by omega
    have d0 : ¬ (lf0 < 0) := by omega
    clear hlf0 c0
    have x1 : w1.cell? ⟨w.heap.size, 1, none⟩ = some (.slice ao x.own.length co) := (B0.out.cell 1).trans rfl
    go_wp2_with fail
    refine (szIntS_any _ _ _ hm.o lf0 hl0 _).mono ?_
    rintro e w2 ⟨rfl, rfl⟩
    clear x1
    by_cases c1 : lf0 < ((x.own.length : Nat) : Int)
    · have HN : Hid (R = -1) := hideP (HS.out.trans (szLeft_add_no c1))
      rw [szLeft_no c1]
      go_wp2
      go_ret
      exact ⟨ret_int HN.out.symm, HB.out⟩
    · rw [szLeft_yes c1]
      have HS := hideP (HS.out.trans (szLeft_add_yes c1))
      obtain ⟨lf1, hlf1⟩ : ∃ lg, lg = lf0 - ((x.own.length : Nat) : Int) := ⟨_, rfl⟩
      rw [← hlf1] at HS ⊢
      have hl1 : 0 ≤ lf1 ∧ lf1 ≤ 1048576 := by omega
      have d1 : ¬ (lf1 < 0) := by omega
      clear hlf1 c1
      have x2 : w1.cell? ⟨w.heap.size, 2, none⟩ = some (.slice at_ x.tree.length ct) := (B0.out.cell 2).trans rfl
      go_wp2_with fail
      refine (szResS_anyL _ _ _ hm.t lf1 hl1 _).mono ?_
      rintro e w3 ⟨rfl, rfl⟩
      clear x2
      by_cases c2 : lf1 < ((x.tree.length : Nat) : Int)
      · have HN : Hid (R = -1) := hideP (HS.out.trans (szLeft_add_no c2))
        rw [szLeft_no c2]
        go_wp2
        go_ret
        exact ⟨ret_int HN.out.symm, HB.out⟩
      · rw [szLeft_yes c2]
        have HS := hideP (HS.out.trans (szLeft_add_yes c2))
        obtain ⟨lf2, hlf2⟩ : ∃ lg, lg = lf1 - ((x.tree.length : Nat) : Int) := ⟨_, rfl⟩
        rw [← hlf2] at HS ⊢
        have hl2 : 0 ≤ lf2 ∧ lf2 ≤ 1048576 := by omega
        have d2 : ¬ (lf2 < 0) := by omega
        clear hlf2 c2
        have x3 : w1.cell? ⟨w.heap.size, 3, none⟩ = some (.slice aa x.arena.length ca) := (B0.out.cell 3).trans rfl
        have x4 : w1.cell? ⟨w.heap.size, 4, none⟩ = some (.int .i64 x.ph) := (B0.out.cell 4).trans rfl
        have x5 : w1.cell? ⟨w.heap.size, 5, none⟩ = some (.int .i64 x.pt) := (B0.out.cell 5).trans rfl
        have x6 : w1.cell? ⟨w.heap.size, 6, none⟩ = some (.int .i64 x.rd) := (B0.out.cell 6).trans rfl
        have x7 : w1.cell? ⟨w.heap.size, 7, none⟩ = some (.slice ag x.grey.length cg) := (B0.out.cell 7).trans rfl
        go_wp2_with fail
        refine (szHeap_any x ag cg hm.g aa ca hm.a hm.s lf2 hl2 _ (ha.below HB.out)).mono ?_
        rintro e w4 ⟨rfl, hb4⟩
        have HB := hideP (HB.out.trans (hb4.mono HB.out.size))
        have B0 := hideP (B0.out.below hb4)
        clear hb4 x3 x4 x5 x6 x7
        by_cases c3 : lf2 < ((heapSize x : Nat) : Int)
        · have HN : Hid (R = -1) := hideP (HS.out.trans (szLeft_add_no c3))
          rw [szLeft_no c3]
          go_wp2
          go_ret
          exact ⟨ret_int HN.out.symm, HB.out⟩
        · rw [szLeft_yes c3]
          have HS := hideP (HS.out.trans (szLeft_add_yes c3))
          obtain ⟨lf3, hlf3⟩ : ∃ lg, lg = lf2 - ((heapSize x : Nat) : Int) := ⟨_, rfl⟩
          rw [← hlf3] at HS ⊢
          have hl3 : 0 ≤ lf3 ∧ lf3 ≤ 1048576 := by omega
          have d3 : ¬ (lf3 < 0) := by omega
          clear hlf3 c3
          have x8 : w4.cell? ⟨w.heap.size, 8, none⟩ = some (.slice ap x.taps.length cp) := (B0.out.cell 8).trans rfl
          go_wp2_with fail
          refine (szTapS_anyL _ _ _ hm.p lf3 hl3 _).mono ?_
          rintro e w5 ⟨rfl, rfl⟩
          clear x8
          by_cases c4 : lf3 < ((x.taps.length : Nat) : Int)
          · have HN : Hid (R = -1) := hideP (HS.out.trans (szLeft_no c4))
            rw [szLeft_no c4]
            go_wp2
            go_ret
            exact ⟨ret_int HN.out.symm, HB.out⟩
          · rw [szLeft_yes c4]
            have HN : Hid (R = lf3 - ((x.taps.length : Nat) : Int)) := hideP (HS.out.trans (szLeft_yes c4))
            have d4 : ¬ (lf3 - ((x.taps.length : Nat) : Int) < 0) := by omega
            go_wp2
            go_ret
            exact ⟨ret_int HN.out.symm, HB.out⟩
set_option maxRecDepth 100000 in
set_option maxHeartbeats 8000000 in
theorem szPartS_any (l : List PartD) (p : Option Addr) (c : Nat) (left0 : Int) (h0 : 0 ≤ left0 ∧ left0 ≤ 1048576) (hl : l.length ≤ maxLen) (hs : ∀ x ∈ l, PShort maxLen x) (w : World) (h : PartsRd w p l) :
    Calls Try.prog 16 #[.slice p l.length c, .int .i64 left0] w fun e w' => e = .returned (.int .i64 (szLeft left0 (l.length + partsSize l))) ∧ Below w.heap.size w w' := by
  have hl63 := hl
  unfold maxLen at hl63
  obtain ⟨h01, h02⟩ := h0
  have HR := hideP h
  have HS := hideP hs
  clear h hs
  by_cases c0 : left0 < (l.length : Int)
  · have HS : Hid (szLeft left0 (l.length + partsSize l) = -1) := hideP (szLeft_no (by omega))
    have d1 : left0 - (l.length : Int) < 0 := by omega
    go_enter Try.func16, Try.ntmps16
    go_wp2
    go_ret
    exact ⟨ret_int HS.out.symm, Below.refl _ _⟩
  have d1 : ¬ (left0 - (l.length : Int) < 0) := by omega
  have zw : IntKind.i64.wrap (left0 - (l.length : Int)) = left0 - (l.length : Int) := IntWalk.i64_in _ (by omega)
  go_enter Try.func16, Try.ntmps16
  go_wp2
  clear zw
  go_loopg [1, 5] (l.length + 1) (fun gk q i wr => ∃ (k : Nat) (left : Int), l.length < gk + k ∧ k ≤ l.length ∧ i = .int .i64 (k : Int) ∧ q = .int .i64 left ∧ (0 ≤ left ∧ left ≤ 1048576) ∧ Hid (szLeft left0 (l.length + partsSize l) = szLeft left (partsSize (l.drop k))) ∧ Hid (Below w.heap.size w wr))
  case atStart => exact ⟨0, left0 - (l.length : Int), by omega, by omega, rfl, rfl, by omega, hideP (by
    rw [List.drop_zero]
    by_cases c2 : left0 < ((l.length + partsSize l : Nat) : Int)
    · rw [szLeft_no c2, szLeft_no (by omega)]
    · rw [szLeft_yes c2, szLeft_yes (by omega)]; omega), hideP (Below.refl _ _)⟩
  case round =>
    clear d1
    obtain ⟨k, left, hgk, hk, rfl, rfl, hlf, hs, HB⟩ := hrel
    by_cases hlt : k < l.length
    · obtain ⟨x, hx⟩ := some_at (l := l) (k := k) hlt
      obtain ⟨b, o, vl, vo, vt, va, vg, vp, rfl, hbw, hth, hz9⟩ := HR.out.below HB.out k x hx
      obtain ⟨⟨al, cl, rfl, _, _⟩, ⟨ao, co, rfl, _, _⟩, ⟨at_, ct, rfl, _, _⟩, ⟨aa, ca, rfl, _, hta⟩, ⟨ag, cg, rfl, _, _⟩, ⟨ap, cp, rfl, _, _⟩⟩ := hth
      have hm := HS.out x (List.mem_of_getElem? hx)
      have g0 : World.cell? _ ⟨b, o + k * 16, none⟩ = some (.slice al x.lv.length cl) := hz9 0 _ rfl
      have g1 : World.cell? _ ⟨b, o + k * 16 + 1, none⟩ = some (.slice ao x.own.length co) := hz9 1 _ rfl
      have g2 : World.cell? _ ⟨b, o + k * 16 + 2, none⟩ = some (.slice at_ x.tree.length ct) := hz9 2 _ rfl
      have g3 : World.cell? _ ⟨b, o + k * 16 + 3, none⟩ = some (.slice aa x.arena.length ca) := hz9 3 _ rfl
      have g4 : World.cell? _ ⟨b, o + k * 16 + 4, none⟩ = some (.int .i64 x.ph) := hz9 4 _ rfl
      have g5 : World.cell? _ ⟨b, o + k * 16 + 5, none⟩ = some (.int .i64 x.pt) := hz9 5 _ rfl
      have g6 : World.cell? _ ⟨b, o + k * 16 + 6, none⟩ = some (.int .i64 x.rd) := hz9 6 _ rfl
      have g7 : World.cell? _ ⟨b, o + k * 16 + 7, none⟩ = some (.slice ag x.grey.length cg) := hz9 7 _ rfl
      have g8 : World.cell? _ ⟨b, o + k * 16 + 8, none⟩ = some (.slice ap x.taps.length cp) := hz9 8 _ rfl
      have g9 : World.cell? _ ⟨b, o + k * 16 + 9, none⟩ = some (.int .i64 x.nx) := hz9 9 _ rfl
      have g10 : World.cell? _ ⟨b, o + k * 16 + 10, none⟩ = some (.int .i64 x.wt) := hz9 10 _ rfl
      have g11 : World.cell? _ ⟨b, o + k * 16 + 11, none⟩ = some (.int .i64 x.sp.p) := hz9 11 _ rfl
      have g12 : World.cell? _ ⟨b, o + k * 16 + 12, none⟩ = some (.int .i64 x.sp.r) := hz9 12 _ rfl
      have g13 : World.cell? _ ⟨b, o + k * 16 + 13, none⟩ = some (.int .i64 x.sp.c) := hz9 13 _ rfl
      have g14 : World.cell? _ ⟨b, o + k * 16 + 14, none⟩ = some (.int .i64 x.pr) := hz9 14 _ rfl
      have g15 : World.cell? _ ⟨b, o + k * 16 + 15, none⟩ = some (.int .i64 x.lo) := hz9 15 _ rfl
      have k0 : (0 : Int) ≤ (k : Int) := by omega
      have k1 : (k : Int) < (l.length : Int) := by omega
      have HD := hideP (partsSize_drop hx)
      clear hx hz9
      go_wp2_with fail
      refine (szPart_any x al cl ao co at_ ct aa ca ag cg ap cp hm left hlf _ hta).mono ?_
      rintro e w1 ⟨rfl, hb1⟩
      have HB := hideP (HB.out.trans (hb1.mono HB.out.size))
      clear hb1 hta g0 g1 g2 g3 g4 g5 g6 g7 g8 g9 g10 g11 g12 g13 g14 g15
      by_cases c2 : left < ((partSize x : Nat) : Int)
      · have HS : Hid (szLeft left0 (l.length + partsSize l) = -1) := hideP (by rw [hs.out, szLeft_no (by rw [HD.out]; omega)])
        rw [szLeft_no c2]
        clear hs
        go_wp2
        go_ret
        exact ⟨ret_int HS.out.symm, HB.out⟩
      · have HS : Hid (szLeft left0 (l.length + partsSize l) = szLeft (left - ((partSize x : Nat) : Int)) (partsSize (l.drop (k + 1)))) := hideP (by
          rw [hs.out, HD.out]
          by_cases c3 : left < ((partSize x + partsSize (l.drop (k + 1)) : Nat) : Int)
          · rw [szLeft_no c3, szLeft_no (by omega)]
          · rw [szLeft_yes c3, szLeft_yes (by omega)]; omega)
        rw [szLeft_yes c2]
        obtain ⟨lf, hlf2⟩ : ∃ lf, lf = left - ((partSize x : Nat) : Int) := ⟨_, rfl⟩
        rw [← hlf2] at HS ⊢
        have d2 : ¬ (lf < 0) := by omega
        have hlf3 : 0 ≤ lf ∧ lf ≤ 1048576 := by omega
        clear hs hlf2 c2
        go_wp2
        go_roundg (gk - 1)
        case measure => omega
        case rel => exact ⟨k + 1, lf, by omega, by omega, by go_num, rfl, hlf3, HS, HB⟩
    · have HS : Hid (szLeft left0 (l.length + partsSize l) = left) := hideP (by
        rw [hs.out, List.drop_eq_nil_of_le (by omega), partsSize, szLeft_yes (by omega)]
        omega)
      have d2 : ¬ ((k : Int) < (l.length : Int)) := by omega
      clear hs
      go_wp2
      go_ret
      exact ⟨ret_int HS.out.symm, HB.out⟩
set_option maxRecDepth 100000 in
set_option maxHeartbeats 8000000 in
theorem szWorld_any (nw : Int) (l : List PartD) (p : Option Addr) (c : Nat) (hl : l.length ≤ maxLen) (hs : ∀ x ∈ l, PShort maxLen x) (w : World) (h : PartsRd w p l) :
    Calls Try.prog 5 #[.agg #[.int .i64 nw, .slice p l.length c], .int .i64 1048576] w fun e w' => e = .returned (.int .i64 (szLeft 1048576 (l.length + partsSize l))) ∧ Below w.heap.size w w' := by
  have HB := hideP (below_a1 w (.cells #[.int .i64 nw, .slice p l.length c] 24))
  go_enter Try.func5, Try.ntmps5
  go_wp2_with fail
  refine (szPartS_any l p c 1048576 (by omega) hl hs _ (h.below HB.out)).mono ?_
  rintro e w1 ⟨rfl, hb1⟩
  have HB := hideP (HB.out.trans (hb1.mono HB.out.size))
  clear hb1
  by_cases c0 : (1048576 : Int) < ((l.length + partsSize l : Nat) : Int)
  · have HN := hideP (szLeft_no c0)
    rw [szLeft_no c0]
    go_wp2
    go_ret
    exact ⟨ret_int HN.out.symm, HB.out⟩
  · have HN := hideP (szLeft_yes c0)
    rw [szLeft_yes c0]
    have d0 : ¬ ((1048576 : Int) - ((l.length + partsSize l : Nat) : Int) < 0) := by omega
    go_wp2
    go_ret
    exact ⟨ret_int HN.out.symm, HB.out⟩

end Go.Proofs.Ytpiaahkfnefplaa
