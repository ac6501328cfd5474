/- Boots drawn: l13Boot, l5Any, l4Own. -/
import Derived.Test.YtnchmenpgmlpdaaBootDraw
import Derived.Test.YtnchmenpgmlpdaaApp
import Derived.Deep.LoopGhost
namespace Go.Proofs.Ytnchmenpgmlpdaa
open Go.RowKit

/-- A boot drawn: nothing owned. -/
def BootRet (W : World) (cb : Nat) (w : World) (e : Ending) (w' : World) : Prop :=
  ∃ (p : Option Addr) (c : Nat) (ls : List Int) (a : Amt), e = .returned (.agg #[.slice p 4 c, .slice none 0 0, .int .i64 a.p, .int .i64 a.r, .int .i64 a.c]) ∧ ls.length = 4 ∧ w'.ownsRow w.heap.size 3 1 (.slice p 4 c) 4 (icell ls) ∧ Drew W cb w w'
set_option maxRecDepth 100000 in
set_option maxHeartbeats 4000000 in
theorem l13Boot_any {W w : World} {cb : Nat} (h : DE W cb w) : Calls Try.prog 137 #[.pointer (some ⟨cb, 0, none⟩)] w (BootRet W cb w) := by
  have hW := h.lt.2
  have HD := hideP ((Drew.refl h).alloc (.cells #[.slice none 0 0, .slice none 0 0, .int .i64 0, .int .i64 0, .int .i64 0] 45))
  have HB := hideP (Blk.new w #[.slice none 0 0, .slice none 0 0, .int .i64 0, .int .i64 0, .int .i64 0] 45)
  have hza : w.heap.size < (w.alloc (.cells #[.slice none 0 0, .slice none 0 0, .int .i64 0, .int .i64 0, .int .i64 0] 45)).heap.size := by simp
  clear h
  go_enter Try.func137, Try.ntmps137
  go_wp2_with fail
  refine (l3Label_any HD.out.1).mono ?_
  rintro e w1 ⟨p, c, ls, rfl, hls, ho, hd⟩
  have HL := hideP hls
  have HO := hideP ho
  have OB : ∀ q, (Value.slice p 4 c).ownBlock = some q → w.heap.size < q := fun q e => by have := (ho.lt q e).1; omega
  have HB := hideP (hd.blk HB.out hW)
  have HD := hideP (HD.out.trans hd)
  have hwb : W.heap.size ≤ (w.alloc (.cells #[.slice none 0 0, .slice none 0 0, .int .i64 0, .int .i64 0, .int .i64 0] 45)).heap.size := by omega
  clear hls ho hd
  go_wp2_with fail
  refine (de_below 25 (by omega) (by omega) HD.out.1).mono ?_
  rintro e w2 ⟨x, rfl, x0, x1, hd⟩
  have HB := hideP (hd.blk HB.out hW)
  have HO := hideP (hd.owns HO.out hwb)
  have HD := hideP (HD.out.trans hd)
  clear hd
  go_wp2_with fail
  refine (de_big 900 (by omega) (by omega) HD.out.1).mono ?_
  rintro e w3 ⟨y, rfl, y0, y1, hd⟩
  have HB := hideP (hd.blk HB.out hW)
  have HO := hideP (hd.owns HO.out hwb)
  have HD := hideP (HD.out.trans hd)
  clear hd
  go_wp2_with fail
  refine (de_below 60 (by omega) (by omega) HD.out.1).mono ?_
  rintro e w4 ⟨z, rfl, z0, z1, hd⟩
  have HB := hideP (hd.blk HB.out hW)
  have HO := hideP (hd.owns HO.out hwb)
  have HD := hideP (HD.out.trans hd)
  clear hd
  have c0 : w4.cell? ⟨w.heap.size, 0, none⟩ = some (.slice none 0 0) := (HB.out.cell 0).trans rfl
  have f0 : w4.frozen? ⟨w.heap.size, 0, none⟩ = false := HB.out.frozen 0
  have c1 : w4.cell? ⟨w.heap.size, 1, none⟩ = some (.slice none 0 0) := (HB.out.cell 1).trans rfl
  have f1 : w4.frozen? ⟨w.heap.size, 1, none⟩ = false := HB.out.frozen 1
  have c2 : w4.cell? ⟨w.heap.size, 2, none⟩ = some (.int .i64 0) := (HB.out.cell 2).trans rfl
  have f2 : w4.frozen? ⟨w.heap.size, 2, none⟩ = false := HB.out.frozen 2
  have c3 : w4.cell? ⟨w.heap.size, 3, none⟩ = some (.int .i64 0) := (HB.out.cell 3).trans rfl
  have f3 : w4.frozen? ⟨w.heap.size, 3, none⟩ = false := HB.out.frozen 3
  have c4 : w4.cell? ⟨w.heap.size, 4, none⟩ = some (.int .i64 0) := (HB.out.cell 4).trans rfl
  have f4 : w4.frozen? ⟨w.heap.size, 4, none⟩ = false := HB.out.frozen 4
  have HF := hideP (((((HD.out.set (g := w.heap.size) (i := 0) (v := .slice p 4 c) hW (Nat.le_refl _)).set (g := w.heap.size) (i := 1) (v := .slice none 0 0) hW (Nat.le_refl _)).set (g := w.heap.size) (i := 2) (v := .int .i64 x) hW (Nat.le_refl _)).set (g := w.heap.size) (i := 3) (v := .int .i64 y) hW (Nat.le_refl _)).set (g := w.heap.size) (i := 4) (v := .int .i64 z) hW (Nat.le_refl _))
  have NE : ∀ q, (Value.slice p 4 c).ownBlock = some q → q ≠ w.heap.size := fun q e => by have := OB q e; omega
  have HW := hideP (owns_setB (g := w.heap.size) (i := 4) (u := .int .i64 z) (owns_setB (g := w.heap.size) (i := 3) (u := .int .i64 y) (owns_setB (g := w.heap.size) (i := 2) (u := .int .i64 x) (owns_setB (g := w.heap.size) (i := 1) (u := .slice none 0 0) (owns_setB (g := w.heap.size) (i := 0) (u := .slice p 4 c) (owns_mono HO.out (base' := w.heap.size) (by omega)) NE) NE) NE) NE) NE)
  clear HB HO HD OB NE
  go_wp2
  exact bodyPost_ret (v := .agg #[.slice p 4 c, .slice none 0 0, .int .i64 x, .int .i64 y, .int .i64 z]) (by simp [results, Try.results137, go_sem, c0, c1, c2, c3, c4]) rfl ⟨p, c, ls, ⟨x, y, z⟩, rfl, HL.out, HW.out, HF.out⟩
set_option maxRecDepth 100000 in
set_option maxHeartbeats 4000000 in
theorem l5Num_any {W w : World} {cb : Nat} (h : DE W cb w) : Calls Try.prog 168 #[.pointer (some ⟨cb, 0, none⟩)] w (DrawnI (-1) 1000001 W cb w) := by
  have H0 := hideP h
  have hcb := h.lt.1
  have hcw := h.lt.2
  clear h
  go_enter Try.func168, Try.ntmps168
  go_wp2_with fail
  refine (de_onceB 20 (by omega) (by omega) H0.out).mono ?_
  rintro e w1 ⟨b, rfl, hd⟩
  have HD := hideP hd
  have hz := hd.2.size
  clear hd
  cases b
  · go_wp2_with fail
    refine (de_below 60 (by omega) (by omega) HD.out.1).mono ?_
    rintro e w2 ⟨x, rfl, x0, x1, hd⟩
    have HD := hideP (HD.out.trans hd)
    clear hd
    go_wp2
    go_ret
    exact ⟨x, rfl, by omega, by omega, HD.out⟩
  · go_wp2_with fail
    refine (de_pick [-1, 1000000, 1000001, 999999] 4 rfl (by decide) (by decide) (HD.out.1.alloc _) (lit_cells _ [-1, 1000000, 1000001, 999999] 3) (by omega)).mono ?_
    rintro e w2 ⟨x, hx, rfl, hd⟩
    have HD := hideP ((HD.out.alloc _).trans hd)
    have hxb : -1 ≤ x ∧ x ≤ 1000001 := by simp at hx; omega
    clear hd hx
    go_wp2
    go_ret
    exact ⟨x, rfl, hxb.1, hxb.2, HD.out⟩
set_option maxRecDepth 100000 in
set_option maxHeartbeats 4000000 in
theorem l5Any_any {W w : World} {cb : Nat} (h : DE W cb w) : Calls Try.prog 139 #[.pointer (some ⟨cb, 0, none⟩)] w fun e w' => ∃ x : Amt, e = .returned (.agg #[.int .i64 x.p, .int .i64 x.r, .int .i64 x.c]) ∧ Drew W cb w w' := by
  have hW := h.lt.2
  have HD := hideP ((Drew.refl h).alloc (.cells #[.int .i64 0, .int .i64 0, .int .i64 0] 43))
  have HB := hideP (Blk.new w #[.int .i64 0, .int .i64 0, .int .i64 0] 43)
  clear h
  go_enter Try.func139, Try.ntmps139
  go_wp2_with fail
  refine (l5Num_any HD.out.1).mono ?_
  rintro e w1 ⟨x, rfl, x0, x1, hd⟩
  have HB := hideP (hd.blk HB.out hW)
  have HD := hideP (HD.out.trans hd)
  clear hd
  go_wp2_with fail
  refine (l5Num_any HD.out.1).mono ?_
  rintro e w2 ⟨y, rfl, y0, y1, hd⟩
  have HB := hideP (hd.blk HB.out hW)
  have HD := hideP (HD.out.trans hd)
  clear hd
  go_wp2_with fail
  refine (l5Num_any HD.out.1).mono ?_
  rintro e w3 ⟨z, rfl, z0, z1, hd⟩
  have HB := hideP (hd.blk HB.out hW)
  have HD := hideP (HD.out.trans hd)
  clear hd
  have c0 : w3.cell? ⟨w.heap.size, 0, none⟩ = some (.int .i64 0) := (HB.out.cell 0).trans rfl
  have f0 : w3.frozen? ⟨w.heap.size, 0, none⟩ = false := HB.out.frozen 0
  have c1 : w3.cell? ⟨w.heap.size, 1, none⟩ = some (.int .i64 0) := (HB.out.cell 1).trans rfl
  have f1 : w3.frozen? ⟨w.heap.size, 1, none⟩ = false := HB.out.frozen 1
  have c2 : w3.cell? ⟨w.heap.size, 2, none⟩ = some (.int .i64 0) := (HB.out.cell 2).trans rfl
  have f2 : w3.frozen? ⟨w.heap.size, 2, none⟩ = false := HB.out.frozen 2
  have HF := hideP (((HD.out.set (g := w.heap.size) (i := 0) (v := .int .i64 x) hW (Nat.le_refl _)).set (g := w.heap.size) (i := 1) (v := .int .i64 y) hW (Nat.le_refl _)).set (g := w.heap.size) (i := 2) (v := .int .i64 z) hW (Nat.le_refl _))
  clear HB HD
  go_wp2
  exact bodyPost_ret (v := .agg #[.int .i64 x, .int .i64 y, .int .i64 z]) (by simp [results, Try.results139, go_sem, c0, c1, c2]) rfl ⟨⟨x, y, z⟩, rfl, HF.out⟩
/-- What is owned, drawn. -/
def OwnDrawn (W : World) (cb : Nat) (w : World) (e : Ending) (w' : World) : Prop := ∃ (v : Value) (ls : List Int), e = .returned v ∧ ls.length ≤ 5 ∧ w'.ownsRow w.heap.size 3 1 v ls.length (icell ls) ∧ Drew W cb w w'
set_option maxRecDepth 100000 in
set_option maxHeartbeats 4000000 in
theorem l4Own_any {W w : World} {cb : Nat} (h : DE W cb w) : Calls Try.prog 140 #[.pointer (some ⟨cb, 0, none⟩)] w (OwnDrawn W cb w) := by
  obtain ⟨i0, hi, hz0, hz1, hz2⟩ := info_parts Try.infoIntB
  have hW := h.lt.2
  have HD := hideP ((Drew.refl h).alloc (.cells #[] 3))
  have HO : Hid ((w.alloc (.cells #[] 3)).ownsRow w.heap.size 3 1 (.slice (some ⟨w.heap.size, 0, none⟩) 0 0) ([] : List Int).length (icell [])) := hideP (owns_lit (Nat.le_refl _) rfl (by decide) rfl rfl)
  clear h
  go_enter Try.func140, Try.ntmps140
  go_wp2
  go_loopg [3, 4] 5 (fun gk v iv wr => ∃ (k : Nat) (ls : List Int), 4 < gk + k ∧ k ≤ 4 ∧ iv = .int .i64 (k : Int) ∧ ls.length ≤ k ∧ Hid (wr.ownsRow w.heap.size 3 1 v ls.length (icell ls)) ∧ Hid (Drew W cb w wr))
  case atStart => exact ⟨0, [], by omega, by omega, rfl, by simp, HO, HD⟩
  case round =>
    clear HO HD
    obtain ⟨k, ls, hgk, hk, rfl, hls, HO, HD⟩ := hrel
    by_cases hlt : k < 4
    · have k1 : (k : Int) < 4 := by omega
      go_wp2_with fail
      refine (de_onceB 3 (by omega) (by omega) HD.out.1).mono ?_
      rintro e w2 ⟨b, rfl, hd⟩
      have HO := hideP (hd.owns HO.out hW)
      have HD := hideP (HD.out.trans hd)
      clear hd
      cases b
      · go_wp2
        go_roundg (gk - 1)
        case measure => omega
        case rel => exact ⟨k + 1, ls, by omega, by omega, by go_num, by omega, HO, HD⟩
      · skip
        go_wp2_with (at_builtin; refine wpList_append_rd _ rfl _ _ 39 rfl w.heap.size 3 i0 (.int .i64 0) 1 8 Try.underlying39 hi hz0 hz1 hz2 rfl (by decide) _ _ _ rfl (World.ownsRow.alloc HO.out _) _ 1 1 [.int .i64 ((k : Int))] rfl rfl (rd_lit rfl) ?c1a ?c2a ?c3a ?c4a ?_)
        case c1a => simp [Value.oneCell']
        case c2a => unfold maxLen; omega
        case c3a => omega
        case c4a => have := HD.out.2.size; simp; omega
        intro v9 w9 ho9 hg9
        have HO9 : Hid (w9.ownsRow w.heap.size 3 1 v9 (ls ++ [(k : Int)]).length (icell (ls ++ [(k : Int)]))) := hideP (by
          rw [List.length_append, show icell (ls ++ [(k : Int)]) = icell ls ++ [.int .i64 ((k : Int))] by simp [icell]]
          exact ho9)
        have HD9 := hideP ((HD.out.alloc _).own hg9 hW (fun q e => (HO.out.lt q e).1))
        have hl9 : (ls ++ [(k : Int)]).length ≤ ls.length + 1 := by simp
        clear ho9 hg9
        go_wp2
        go_roundg (gk - 1)
        case measure => omega
        case rel => exact ⟨k + 1, _, by omega, by omega, by go_num, by omega, HO9, HD9⟩
    · have d1 : ¬ ((k : Int) < 4) := by omega
      go_wp2_with fail
      refine (de_below 20 (by omega) (by omega) HD.out.1).mono ?_
      rintro e w2 ⟨y, rfl, y0, y1, hd⟩
      have HO := hideP (hd.owns HO.out hW)
      have HD := hideP (HD.out.trans hd)
      clear hd
      obtain rfl | rfl | hy : y = 0 ∨ y = 1 ∨ 2 ≤ y := by omega
      · skip
        go_wp2_with (at_builtin; refine wpList_append_rd _ rfl _ _ 39 rfl w.heap.size 3 i0 (.int .i64 0) 1 8 Try.underlying39 hi hz0 hz1 hz2 rfl (by decide) _ _ _ rfl (World.ownsRow.alloc HO.out _) _ 1 1 [.int .i64 (4)] rfl rfl (rd_lit rfl) ?c1b ?c2b ?c3b ?c4b ?_)
        case c1b => simp [Value.oneCell']
        case c2b => unfold maxLen; omega
        case c3b => omega
        case c4b => have := HD.out.2.size; simp; omega
        intro v9 w9 ho9 hg9
        have HO9 : Hid (w9.ownsRow w.heap.size 3 1 v9 (ls ++ [4]).length (icell (ls ++ [4]))) := hideP (by
          rw [List.length_append, show icell (ls ++ [4]) = icell ls ++ [.int .i64 (4)] by simp [icell]]
          exact ho9)
        have HD9 := hideP ((HD.out.alloc _).own hg9 hW (fun q e => (HO.out.lt q e).1))
        have hl9 : (ls ++ [4]).length ≤ ls.length + 1 := by simp
        clear ho9 hg9
        go_wp2
        go_ret
        exact ⟨v9, _, rfl, by omega, HO9.out, HD9.out⟩
      · skip
        go_wp2_with (at_builtin; refine wpList_append_rd _ rfl _ _ 39 rfl w.heap.size 3 i0 (.int .i64 0) 1 8 Try.underlying39 hi hz0 hz1 hz2 rfl (by decide) _ _ _ rfl (World.ownsRow.alloc HO.out _) _ 1 1 [.int .i64 (0)] rfl rfl (rd_lit rfl) ?c1c ?c2c ?c3c ?c4c ?_)
        case c1c => simp [Value.oneCell']
        case c2c => unfold maxLen; omega
        case c3c => omega
        case c4c => have := HD.out.2.size; simp; omega
        intro v9 w9 ho9 hg9
        have HO9 : Hid (w9.ownsRow w.heap.size 3 1 v9 (ls ++ [0]).length (icell (ls ++ [0]))) := hideP (by
          rw [List.length_append, show icell (ls ++ [0]) = icell ls ++ [.int .i64 (0)] by simp [icell]]
          exact ho9)
        have HD9 := hideP ((HD.out.alloc _).own hg9 hW (fun q e => (HO.out.lt q e).1))
        have hl9 : (ls ++ [0]).length ≤ ls.length + 1 := by simp
        clear ho9 hg9
        go_wp2
        go_ret
        exact ⟨v9, _, rfl, by omega, HO9.out, HD9.out⟩
      · have d2 : (y == 0) = false := by simp; omega
        have d3 : (y == 1) = false := by simp; omega
        go_wp2
        go_ret
        exact ⟨_, ls, rfl, by omega, HO.out, HD.out⟩

end Go.Proofs.Ytnchmenpgmlpdaa
