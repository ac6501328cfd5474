/- DrawDecay; TreeSum of the reference; sameTree. -/
import Derived.Test.YtcahncppkolkbaaTreeDraw
import Derived.Test.YtcahncppkolkbaaTreeSpec
import Derived.Test.YtcahncppkolkbaaTreeWalk
import Derived.Deep.LoopGhost
namespace Go.Proofs.Ytcahncppkolkbaa
open Go.RowKit


set_option maxRecDepth 100000 in
set_option maxHeartbeats 4000000 in
theorem drawDecay_any (a : Option Addr) (n cap : Nat) (l : List UInt8) (hn : n = l.length) (hl : n ≤ 1048576) (w : World) (h : Rd w a (byteCells l)) :
    Calls Try.prog 5 #[.slice a n cap] w fun e w' => ∃ (v : Value) (x : List Res) (i m : Int), e = .returned (.tuple #[v, .int .i64 i, .int .i64 m]) ∧ x.length ≤ 5 ∧ w'.ownsRow w.heap.size 45 5 v x.length (x.flatMap Res.enc) ∧ Below w.heap.size w w' := by
  have Hn := Lib.hid hn
  clear hn
  go_enter Try.func5, Try.ntmps5
  go_wp2_with fail
  refine (de_new a n cap l Hn.out hl _ h).mono ?_
  rintro e W ⟨rfl, hd, hb⟩
  have Hb := Lib.hid hb
  have Hd := Lib.hid hd
  clear hb hd
  go_wp2_with fail
  refine (l6Any_any Hd.out).mono ?_
  rintro e w2 ⟨v, x, rfl, hx, _, hA⟩
  have H2 := Lib.hid hA
  clear hA
  go_wp2_with fail
  refine (de_below 5 (by omega) (by omega) H2.out.de).mono ?_
  rintro e w3 ⟨y, rfl, y0, y1, hd⟩
  have H3 := Lib.hid (H2.out.drew hd)
  clear hd
  have hcb := H3.out.de.lt
  obtain ⟨hcb1, hcb2⟩ := hcb
  go_wp2_with fail
  refine (de_pick [0, 1, 10, 50, 99, 100, 101, -1] 8 rfl (by decide) (by decide) (H3.out.alloc _).de (lit_cells _ [0, 1, 10, 50, 99, 100, 101, -1] 3) (by omega)).mono ?_
  rintro e w4 ⟨z, _, rfl, hd⟩
  have H4 := Lib.hid ((H3.out.alloc _).drew hd)
  clear hd
  go_wp2
  go_ret3
  exact ⟨v, x, _, z, rfl, hx, owns_mono H4.out.1 Hb.out.size, Hb.out.grown H4.out.2.1 Hb.out.size (fun k hk => by cases hk; exact Nat.le_refl _)⟩
set_option maxRecDepth 100000 in
set_option maxHeartbeats 4000000 in
theorem specTreeSum_any (ad : Option Addr) (n cap : Nat) (t : List Res) (hn : n = t.length) (hl : n ≤ 1048576) (w : World) (h : Rd w ad (t.flatMap Res.enc)) :
    Calls Try.prog 9 #[.slice ad n cap] w fun e w' => e = .returned (.agg #[.int .i64 (treeSum t).p, .int .i64 (treeSum t).r, .int .i64 (treeSum t).c]) ∧ Below w.heap.size w w' := by
  have Hn := Lib.hid hn
  have HR := hideP h
  have HB := hideP (below_a1 w (.cells #[.int .i64 0, .int .i64 0, .int .i64 0] 32))
  have B0 := hideP (Blk.new w #[.int .i64 0, .int .i64 0, .int .i64 0] 32)
  clear hn h
  go_enter Try.func9, Try.ntmps9
  go_wp2_with fail
  refine (specTreeOk_any _ _ _ t Hn.out hl _ (HR.out.below HB.out)).mono ?_
  rintro e w1 ⟨rfl, hb1⟩
  have HB := hideP (HB.out.trans (hb1.mono HB.out.size))
  have B0 := hideP (B0.out.below hb1)
  clear hb1
  cases hok : treeOk t
  · have HS : Hid (treeSum t = ⟨0, 0, 0⟩) := hideP (by unfold treeSum; rw [if_neg (by rw [hok]; decide)])
    have c0 : w1.cell? ⟨w.heap.size, 0, none⟩ = some (.int .i64 0) := (B0.out.cell 0).trans rfl
    have c1 : w1.cell? ⟨w.heap.size, 1, none⟩ = some (.int .i64 0) := (B0.out.cell 1).trans rfl
    have c2 : w1.cell? ⟨w.heap.size, 2, none⟩ = some (.int .i64 0) := (B0.out.cell 2).trans rfl
    have f0 : w1.frozen? ⟨w.heap.size, 0, none⟩ = false := B0.out.frozen 0
    have f1 : w1.frozen? ⟨w.heap.size, 1, none⟩ = false := B0.out.frozen 1
    have f2 : w1.frozen? ⟨w.heap.size, 2, none⟩ = false := B0.out.frozen 2
    go_wp2
    refine bodyPost_ret (v := .agg #[.int .i64 0, .int .i64 0, .int .i64 0]) (by simp [results, Try.results9, go_sem, c0, c1, c2]) rfl ⟨by rw [HS.out], ?_⟩
    repeat (first | (with_reducible exact HB.out) | (refine Below.setCell ?_ (by simp) _))
  · have HS : Hid (treeSum t = sumLive t) := hideP (by unfold treeSum; rw [if_pos hok]; exact (sumLive_all fun k x hx => ((tree_places hok).2 k x hx).2).symm)
    have HO : Hid (∀ x ∈ t, amtOk x.bal = true) := hideP (fun x hx => by obtain ⟨k, hk⟩ := List.mem_iff_getElem?.1 hx; exact ((tree_places hok).2 k x hk).1)
    have hn5 : n ≤ 1000 := by have := Hn.out; have := (tree_parts hok).1; omega
    clear hok
    go_wp2_with fail
    refine (l6Sum_any _ _ _ t Hn.out hn5 HO.out _ (HR.out.below HB.out)).mono ?_
    rintro e w2 ⟨rfl, hb2⟩
    have HB := hideP (HB.out.trans (hb2.mono HB.out.size))
    have B0 := hideP (B0.out.below hb2)
    clear hb2
    have c0 : w2.cell? ⟨w.heap.size, 0, none⟩ = some (.int .i64 0) := (B0.out.cell 0).trans rfl
    have c1 : w2.cell? ⟨w.heap.size, 1, none⟩ = some (.int .i64 0) := (B0.out.cell 1).trans rfl
    have c2 : w2.cell? ⟨w.heap.size, 2, none⟩ = some (.int .i64 0) := (B0.out.cell 2).trans rfl
    have f0 : w2.frozen? ⟨w.heap.size, 0, none⟩ = false := B0.out.frozen 0
    have f1 : w2.frozen? ⟨w.heap.size, 1, none⟩ = false := B0.out.frozen 1
    have f2 : w2.frozen? ⟨w.heap.size, 2, none⟩ = false := B0.out.frozen 2
    go_wp2
    refine bodyPost_ret (v := .agg #[.int .i64 (sumLive t).p, .int .i64 (sumLive t).r, .int .i64 (sumLive t).c]) (by simp [results, Try.results9, go_sem, c0, c1, c2]) rfl ⟨by rw [HS.out], ?_⟩
    repeat (first | (with_reducible exact HB.out) | (refine Below.setCell ?_ (by simp) _))
set_option maxRecDepth 100000 in
set_option maxHeartbeats 4000000 in
theorem sameTree_same (a a' : Option Addr) (n cap cap' : Nat) (t : List Res) (hn : n = t.length) (hl : n ≤ 1048576) (w : World) (h : Rd w a (t.flatMap Res.enc)) (h' : Rd w a' (t.flatMap Res.enc)) :
    Calls Try.prog 8 #[.slice a n cap, .slice a' n cap'] w fun e w' => e = .returned (.bool true) ∧ Below w.heap.size w w' := by
  have Hn := Lib.hid hn
  have HR := hideP h
  have HR' := hideP h'
  clear hn h h'
  go_enter Try.func8, Try.ntmps8
  go_wp2
  go_loopg [5] (n + 1) (fun gk iv wr => ∃ (k : Nat), n < gk + k ∧ k ≤ n ∧ iv = .int .i64 (k : Int) ∧ Hid (Below w.heap.size w wr))
  case atStart => exact ⟨0, by omega, by omega, rfl, hideP (Below.refl _ _)⟩
  case round =>
    obtain ⟨k, hgk, hk, rfl, HB⟩ := hrel
    by_cases hlt : k < n
    · obtain ⟨x, hx⟩ := some_at (l := t) (k := k) (by have := Hn.out; omega)
      obtain ⟨b, o, rfl, hbw, g1, g2, g3, g4, g5⟩ := (HR.out.below HB.out).rowRes hx
      obtain ⟨b', o', rfl, hbw', j1, j2, j3, j4, j5⟩ := (HR'.out.below HB.out).rowRes hx
      have k0 : (0 : Int) ≤ (k : Int) := by omega
      have k1 : (k : Int) < (n : Int) := by omega
      clear hx
      go_wp2
      go_quiet (fail)
      go_wp2
      go_roundg (gk - 1)
      case measure => omega
      case rel => exact ⟨k + 1, by omega, by omega, by go_num, hideP (below_drewN HB.out _)⟩
    · have d1 : ¬ ((k : Int) < (n : Int)) := by omega
      go_wp2
      go_ret
      exact ⟨rfl, HB.out⟩

end Go.Proofs.Ytcahncppkolkbaa
