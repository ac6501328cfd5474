/- Trees made: TreeNew, TreeSplit of the reference, what shape they leave. -/
import Derived.Test.YtcahncppkolkbaaTreeWalk
import Derived.Test.YtcahncppkolkbaaDecayFn
import Derived.Test.YtcahncppkolkbaaTreeOps
import Derived.Deep.LoopGhost
namespace Go.Proofs.Ytcahncppkolkbaa
open Go.RowKit

/-- A tree of five, own memory, and a bit. -/
def TreeMade (w : World) (n : Nat) (e : Ending) (w' : World) : Prop := ∃ (v : Value) (t : List Res) (b : Bool), e = .returned (.tuple #[v, .bool b]) ∧ t.length = n ∧ w'.ownsRow w.heap.size 45 5 v n (t.flatMap Res.enc) ∧ Below w.heap.size w w'
def TreeMade3 (w : World) (n : Nat) (e : Ending) (w' : World) : Prop := ∃ (v : Value) (t : List Res) (k : Int) (b : Bool), e = .returned (.tuple #[v, .int .i64 k, .bool b]) ∧ t.length = n ∧ w'.ownsRow w.heap.size 45 5 v n (t.flatMap Res.enc) ∧ Below w.heap.size w w'
theorem made_five : (madeCells #[.bool false, .int .i64 0, .int .i64 0, .int .i64 0, .int .i64 0] 25).toList = (List.replicate 5 zeroRes).flatMap Res.enc := by
  unfold madeCells
  rw [Array.toList_map, Array.toList_range]
  rfl
theorem Acc.row5 {w0 w : World} {E : TypeId} {g c n k : Nat} {t : List Res} {x y : Res} (h : Acc w0 E 5 n (t.flatMap Res.enc) (.slice (some ⟨g, 0, none⟩) n c) w) (hg : w0.heap.size ≤ g) (hx : t[k]? = some x) :
    Acc w0 E 5 n ((t.set k y).flatMap Res.enc) (.slice (some ⟨g, 0, none⟩) n c) (setCells w g (k * 5) y.enc) := by
  have hk : k < t.length := (List.getElem?_eq_some_iff.1 hx).1
  have h0 := h.setField (x' := ⟨y.live, x.par, x.bal⟩) (j := 0) (u := .bool y.live) Res.enc_len hg hx (by decide) rfl
  have h1 := h0.setField (x := ⟨y.live, x.par, x.bal⟩) (x' := ⟨y.live, y.par, x.bal⟩) (k := k) (j := 1) (u := .int .i64 y.par) Res.enc_len hg (by rw [List.getElem?_set_self hk]) (by decide) rfl
  rw [List.set_set] at h1
  have h2 := h1.bal (x := ⟨y.live, y.par, x.bal⟩) (b := y.bal) hg (by rw [List.getElem?_set_self hk])
  rw [List.set_set] at h2
  have e : ({ live := y.live, par := y.par, bal := y.bal } : Res) = y := rfl
  dsimp only at h2
  rw [e] at h2
  exact h2
set_option maxRecDepth 100000 in
set_option maxHeartbeats 4000000 in
theorem treeNew_any (x : Amt) (hx : amtOk x = true) (w : World) : Calls Try.prog 35 #[.agg #[.int .i64 (x).p, .int .i64 (x).r, .int .i64 (x).c]] w (TreeMade w 5) := by
  obtain ⟨i0, hi, hz0, hz1, hz2⟩ := info_parts Try.infoRes
  have HX := hideP hx
  clear hx
  go_enter Try.func35, Try.ntmps35
  go_wp2_with fail
  refine (specAmtOk_any x _).mono ?_
  rintro e w1 ⟨rfl, hb1⟩
  rw [HX.out]
  have HB := hideP ((below_a1 w _).trans (hb1.mono (below_a1 w _).size))
  obtain ⟨bc1, bf1⟩ := bcell hb1
  have hz := hb1.size
  simp only [World.size_alloc] at bc1 bf1 hz
  have a0 : w1.cell? ⟨w.heap.size, 0, none⟩ = some (.int .i64 x.p) := by rw [bc1 _ _ (by omega)]; simp
  have a1 : w1.cell? ⟨w.heap.size, 1, none⟩ = some (.int .i64 x.r) := by rw [bc1 _ _ (by omega)]; simp
  have a2 : w1.cell? ⟨w.heap.size, 2, none⟩ = some (.int .i64 x.c) := by rw [bc1 _ _ (by omega)]; simp
  clear bc1 bf1 hb1
  go_wp2_with (at_make; refine wpList_make_full _ rfl _ _ 24 rfl w1.heap.size 45 i0 (.agg #[.bool false, .int .i64 0, .int .i64 0, .int .i64 0, .int .i64 0]) 5 Try.underlying24 hi hz0 hz1 .i64 .i64 _ _ 5 rfl rfl rfl rfl ?c1 ?c2 (Nat.le_refl _) ?_)
  case c1 => rw [hz2]; omega
  case c2 => unfold maxLen; omega
  intro w2 hown hg
  have hb2 := (Below.refl w1.heap.size w1).grown hg (Nat.le_refl _) (by simp)
  rw [made_five] at hown
  have HA : Hid (Acc w 45 5 5 ((List.replicate 5 zeroRes).flatMap Res.enc) (.slice (some ⟨w1.heap.size, 0, none⟩) 5 5) w2) := hideP (Acc.of HB.out hown hb2)
  obtain ⟨bc2, bf2⟩ := bcell hb2
  have a0 : w2.cell? ⟨w.heap.size, 0, none⟩ = some (.int .i64 x.p) := by rw [bc2 _ _ (by omega)]; exact a0
  have a1 : w2.cell? ⟨w.heap.size, 1, none⟩ = some (.int .i64 x.r) := by rw [bc2 _ _ (by omega)]; exact a1
  have a2 : w2.cell? ⟨w.heap.size, 2, none⟩ = some (.int .i64 x.c) := by rw [bc2 _ _ (by omega)]; exact a2
  obtain ⟨⟨y0, c0⟩, f0⟩ := owns_at HA.out.1 (j := 0) (by omega)
  obtain ⟨⟨y1, c1⟩, f1⟩ := owns_at HA.out.1 (j := 1) (by omega)
  obtain ⟨⟨y2, c2⟩, f2⟩ := owns_at HA.out.1 (j := 2) (by omega)
  obtain ⟨⟨y3, c3⟩, f3⟩ := owns_at HA.out.1 (j := 3) (by omega)
  obtain ⟨⟨y4, c4⟩, f4⟩ := owns_at HA.out.1 (j := 4) (by omega)
  have HN := hideP (HA.out.row5 (k := 0) (x := zeroRes) (y := ⟨true, -1, x⟩) (by omega) rfl)
  clear hown hg hb2 bc2 bf2
  go_wp2
  go_ret2
  exact ⟨_, _, true, rfl, by simp, HN.out.1, HN.out.2⟩
set_option maxRecDepth 100000 in
set_option maxHeartbeats 4000000 in
theorem treeSplit_any (ad : Option Addr) (n cap : Nat) (t : List Res) (i : Int) (a : Amt) (hn : n = t.length) (hl : n ≤ 1048576) (w : World) (h : Rd w ad (t.flatMap Res.enc)) :
    Calls Try.prog 39 #[.slice ad n cap, .int .i64 i, .agg #[.int .i64 (a).p, .int .i64 (a).r, .int .i64 (a).c]] w (TreeMade3 w n) := by
  have Hn := Lib.hid hn
  have HR := hideP h
  clear hn h
  go_enter Try.func39, Try.ntmps39
  go_wp2_with fail
  refine (specTreePay_any _ _ _ t i a Hn.out hl _ (HR.out.below (below_a1 _ _))).mono ?_
  rintro e w1 ⟨v1, rfl, ho1, hb1⟩
  have HB1 := hideP ((below_a1 w _).trans (hb1.mono (below_a1 w _).size))
  have HA := hideP (Acc.of (below_a1 w _) ho1 hb1)
  obtain ⟨bc1, bf1⟩ := bcell hb1
  have hz := hb1.size
  simp only [World.size_alloc] at bc1 bf1 hz
  have a0 : w1.cell? ⟨w.heap.size, 0, none⟩ = some (.int .i64 a.p) := by rw [bc1 _ _ (by omega)]; simp
  have a1 : w1.cell? ⟨w.heap.size, 1, none⟩ = some (.int .i64 a.r) := by rw [bc1 _ _ (by omega)]; simp
  have a2 : w1.cell? ⟨w.heap.size, 2, none⟩ = some (.int .i64 a.c) := by rw [bc1 _ _ (by omega)]; simp
  have hpl := pay_len t i a
  generalize (payT t i a).1 = x at HA hpl ⊢
  generalize (payT t i a).2 = ok at ⊢
  have Hxl : Hid (n = x.length) := hideP (by rw [hpl]; exact Hn.out)
  clear ho1 hb1 bc1 bf1 hpl
  cases ok
  · go_wp2_with fail
    refine (specCopyTree_any _ _ _ t Hn.out hl _ (HR.out.below HB1.out)).mono ?_
    rintro e w2 ⟨v2, rfl, ho2, hb2⟩
    have HC := hideP (Acc.of HB1.out ho2 hb2)
    clear ho2 hb2
    go_wp2
    go_ret3
    exact ⟨_, t, 0, false, rfl, Hn.out.symm, HC.out.1, HC.out.2⟩
  obtain ⟨xa, xc, rfl, _⟩ := owns_slice HA.out.1
  go_wp2
  go_loopg [11] (n + 1) (fun gk iv wr => ∃ (k : Nat), n < gk + k ∧ k ≤ n ∧ iv = .int .i64 (k : Int) ∧ w1 = wr)
  case atStart => exact ⟨0, by omega, by omega, rfl, rfl⟩
  case round =>
    obtain ⟨k, hgk, hk, rfl, rfl⟩ := hrel
    by_cases hlt : k < n
    · obtain ⟨y, hy⟩ := some_at (l := x) (k := k) (by have := Hxl.out; omega)
      obtain ⟨g, c, e, hg0, hg1⟩ := HA.out.block (by omega)
      cases e
      have q0 := (HA.out.cell Res.enc_len hy (j := 0) rfl).1
      have k0 : (0 : Int) ≤ (k : Int) := by omega
      have k1 : (k : Int) < (n : Int) := by omega
      simp only [Nat.add_zero] at q0
      have HY := hideP hy
      clear hy
      obtain ⟨yl, yp, yb⟩ := y
      dsimp only at q0
      cases yl
      · obtain ⟨_, f0⟩ := owns_at HA.out.1 (j := k * 5) (by omega)
        obtain ⟨⟨y1, c1⟩, f1⟩ := owns_at HA.out.1 (j := k * 5 + 1) (by omega)
        obtain ⟨⟨y2, c2⟩, f2⟩ := owns_at HA.out.1 (j := k * 5 + 2) (by omega)
        obtain ⟨⟨y3, c3⟩, f3⟩ := owns_at HA.out.1 (j := k * 5 + 3) (by omega)
        obtain ⟨⟨y4, c4⟩, f4⟩ := owns_at HA.out.1 (j := k * 5 + 4) (by omega)
        have HN := hideP (HA.out.row5 (y := ⟨true, i, a⟩) hg0 HY.out)
        have HL : Hid ((x.set k ⟨true, i, a⟩).length = n) := hideP (by rw [List.length_set]; exact Hxl.out.symm)
        go_wp2
        go_ret3
        exact ⟨_, _, (k : Int), true, rfl, HL.out, HN.out.1, HN.out.2⟩
      · go_wp2
        go_roundg (gk - 1)
        case measure => omega
        case rel => exact ⟨k + 1, by omega, by omega, by go_num, rfl⟩
    · have d1 : ¬ ((k : Int) < (n : Int)) := by omega
      go_wp2_with fail
      refine (specCopyTree_any _ _ _ t Hn.out hl _ (HR.out.below HB1.out)).mono ?_
      rintro e w2 ⟨v2, rfl, ho2, hb2⟩
      have HC := hideP (Acc.of HB1.out ho2 hb2)
      clear ho2 hb2
      go_wp2
      go_ret3
      exact ⟨_, t, 0, false, rfl, Hn.out.symm, HC.out.1, HC.out.2⟩

end Go.Proofs.Ytcahncppkolkbaa
