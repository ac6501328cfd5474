/- ArenaPut of the reference: what shape it keeps. -/
import Derived.Test.YtabbncoihmhocaaArenaFree
import Derived.Test.YtabbncoihmhocaaShowArenaS
import Derived.Deep.DeepCutAuto
import Derived.Deep.LoopGhost
namespace Go.Proofs.Ytabbncoihmhocaa
open Go.RowKit

theorem thing_gen {x : Thing} (h : thingOk x = true) : 0 ≤ x.gen := by
  unfold thingOk at h
  rw [Bool.and_eq_true] at h
  exact (inB_true.1 h.1).1
theorem specArenaOk_n (l : List Thing) (p : Option Addr) (c n : Nat) (hn : l.length = n) (hl : n ≤ 1048576) (hs : Short 1048576 l) (w : World) (h : ThingsRd w p l) :
    Calls Try.prog 17 #[.slice p n c] w fun e w' => e = .returned (.bool (arenaOk l)) ∧ Below w.heap.size w w' := by
  subst hn
  exact specArenaOk_any l p c hl hs w h
def MadeI (w : World) (M n : Nat) (e : Ending) (w' : World) : Prop := ∃ v ts b, e = .returned (.tuple #[v, .int .i64 b]) ∧ TS w' w.heap.size M true v n ts ∧ Below w.heap.size w w'
set_option maxRecDepth 100000 in
set_option maxHeartbeats 4000000 in
theorem arenaPut_any (l : List Thing) (p : Option Addr) (c M : Nat) (hl : l.length ≤ 1048576) (hM : M ≤ 1048576) (hs : ∀ x ∈ l, Sm M true x) (ob : Thing) (wl wd wq : Value) (hso : Sm M true ob) (w : World) (ho : ThIs w ob wl wd wq) (h : ThingsRd w p l) :
    Calls Try.prog 64 #[.slice p l.length c, .agg #[.int .i64 ob.gen, .int .i64 ob.kind, .int .i64 ob.box, .int .i64 ob.res, .int .i64 ob.til, .int .i64 ob.pages, .int .i64 ob.wait, .int .i64 ob.got, .int .i64 ob.ran, .bool ob.mark, wl, wd, wq]] w (MadeI w M l.length) := by
  have HW := hideP (below_a1 w (.cells #[.int .i64 ob.gen, .int .i64 ob.kind, .int .i64 ob.box, .int .i64 ob.res, .int .i64 ob.til, .int .i64 ob.pages, .int .i64 ob.wait, .int .i64 ob.got, .int .i64 ob.ran, .bool ob.mark, wl, wd, wq] 34))
  have HR := hideP (h.below HW.out)
  have H0 := hideP h
  have HS := hideP hs
  have HSO := hideP hso
  have HSH : Hid (Short 1048576 l) := hideP (fun x hx => ⟨⟨Nat.le_trans (hs x hx).l hM, Nat.le_trans (hs x hx).d hM, Nat.le_trans (hs x hx).q hM⟩, hideP (hs x hx).w⟩)
  have HI := hideP (ho.below HW.out)
  obtain ⟨⟨al, cl, rfl, hcl, hrl⟩, ⟨ad, cd, rfl, hcd, hrd⟩, ⟨aq, cq, rfl, hcq, hrq⟩⟩ := ho
  clear h hs hso hcl hrl hcd hrd hcq hrq
  have B0 := hideP (Blk.new w #[.int .i64 ob.gen, .int .i64 ob.kind, .int .i64 ob.box, .int .i64 ob.res, .int .i64 ob.til, .int .i64 ob.pages, .int .i64 ob.wait, .int .i64 ob.got, .int .i64 ob.ran, .bool ob.mark, .slice al ob.links.length cl, .slice ad ob.data.length cd, .slice aq ob.queue.length cq] 34)
  go_enter Try.func64, Try.ntmps64
  go_upto_region 1 with fail
  obtain ⟨w0, hw0⟩ : ∃ w0, w0 = w.alloc (.cells #[.int .i64 ob.gen, .int .i64 ob.kind, .int .i64 ob.box, .int .i64 ob.res, .int .i64 ob.til, .int .i64 ob.pages, .int .i64 ob.wait, .int .i64 ob.got, .int .i64 ob.ran, .bool ob.mark, .slice al ob.links.length cl, .slice ad ob.data.length cd, .slice aq ob.queue.length cq] 34) := ⟨_, rfl⟩
  have hsz : w0.heap.size = w.heap.size + 1 := by rw [hw0]; simp
  rw [← hw0] at HW HR HI B0 ⊢
  have HSZ := Lib.hid hsz
  clear hw0 hsz
  go_wp2_with fail
  refine (l8Copy_any l p c M true hl hM HS.out w0 HR.out).mono ?_
  rintro e w1 ⟨v, ts, rfl, ht, hm, hb⟩
  have HT := hideP ht
  have HB := hideP hb
  have HMP := hideP hm
  clear ht hb hm
  go_wp2_with fail
  refine (specArenaOk_any l p c hl HSH.out w1 (HR.out.below HB.out)).mono ?_
  rintro e w2 ⟨rfl, hb⟩
  have HT := hideP (HT.out.below hb)
  have HB := hideP (HB.out.trans (hb.mono HB.out.size))
  clear hb
  have HWB : Hid (Below w.heap.size w w2) := hideP (HW.out.trans (HB.out.mono HW.out.size))
  cases hok : arenaOk l
  · go_wp2
    go_ret2
    exact ⟨v, ts, _, rfl, HT.out.mono HW.out.size (Nat.le_refl _) (fun e => e), HWB.out⟩
  · have HL10 : Hid (l.length = 10) := Lib.hid (arena_ten hok)
    have HOK := hideP hok
    clear hok
    go_wp2
    go_loopg [7] (l.length + 1) (fun gk iv wr => ∃ (k : Nat), l.length < gk + k ∧ 1 ≤ k ∧ k ≤ l.length ∧ iv = .int .i64 (k : Int) ∧ w2 = wr)
    case atStart => exact ⟨1, by omega, by omega, by have := HL10.out; omega, rfl, rfl⟩
    case round =>
      obtain ⟨k, hgk, hk1, hk, rfl, rfl⟩ := hrel
      by_cases hlt : k < l.length
      · obtain ⟨x, hx⟩ := some_at hlt
        obtain ⟨b, o, vl, vd, vq, rfl, hbw, _, hc⟩ := (HR.out.below HB.out) k x hx
        have c1 := hc 1 _ rfl
        have c0 := hc 0 _ rfl
        simp only [Nat.add_zero] at c0
        have g0 := thing_gen (arena_thing HOK.out hx)
        have k0 : (0 : Int) ≤ (k : Int) := by omega
        have k1 : (k : Int) < (l.length : Int) := by omega
        clear hc
        by_cases hz : x.kind = 0
        · have dz : (x.kind != 0) = false := by simp [hz]
          clear hz
          by_cases hg : x.gen < 999
          · obtain ⟨g, cv, cs, rfl, hgB, hgl, hBl⟩ := HT.out.block (by omega)
            obtain ⟨y, hy, _⟩ := map_at HMP.out hx
            have HX := hideP hx
            have HY := hideP hy
            have B2 := hideP (B0.out.below HB.out)
            have HI2 := hideP (HI.out.below HB.out)
            clear hx hy hBl
            have b0 : w2.cell? ⟨w.heap.size, 0, none⟩ = some (.int .i64 ob.gen) := (B2.out.cell 0).trans rfl
            have b1 : w2.cell? ⟨w.heap.size, 1, none⟩ = some (.int .i64 ob.kind) := (B2.out.cell 1).trans rfl
            have b2 : w2.cell? ⟨w.heap.size, 2, none⟩ = some (.int .i64 ob.box) := (B2.out.cell 2).trans rfl
            have b3 : w2.cell? ⟨w.heap.size, 3, none⟩ = some (.int .i64 ob.res) := (B2.out.cell 3).trans rfl
            have b4 : w2.cell? ⟨w.heap.size, 4, none⟩ = some (.int .i64 ob.til) := (B2.out.cell 4).trans rfl
            have b5 : w2.cell? ⟨w.heap.size, 5, none⟩ = some (.int .i64 ob.pages) := (B2.out.cell 5).trans rfl
            have b6 : w2.cell? ⟨w.heap.size, 6, none⟩ = some (.int .i64 ob.wait) := (B2.out.cell 6).trans rfl
            have b7 : w2.cell? ⟨w.heap.size, 7, none⟩ = some (.int .i64 ob.got) := (B2.out.cell 7).trans rfl
            have b8 : w2.cell? ⟨w.heap.size, 8, none⟩ = some (.int .i64 ob.ran) := (B2.out.cell 8).trans rfl
            have b9 : w2.cell? ⟨w.heap.size, 9, none⟩ = some (.bool ob.mark) := (B2.out.cell 9).trans rfl
            have b10 : w2.cell? ⟨w.heap.size, 10, none⟩ = some (.slice al ob.links.length cl) := (B2.out.cell 10).trans rfl
            have b11 : w2.cell? ⟨w.heap.size, 11, none⟩ = some (.slice ad ob.data.length cd) := (B2.out.cell 11).trans rfl
            have b12 : w2.cell? ⟨w.heap.size, 12, none⟩ = some (.slice aq ob.queue.length cq) := (B2.out.cell 12).trans rfl
            go_wp2_with fail
            refine (l8Obj_any ob _ _ _ (by have := HSO.out.l; omega) (by have := HSO.out.d; omega) (by have := HSO.out.q; omega) w2 HI2.out).mono ?_
            rintro e w3 ⟨ul, ud, uq, rfl, o1, o2, o3, old, hb3⟩
            obtain ⟨pl, ql, rfl, _⟩ := owns_slice o1
            obtain ⟨pd, qd, rfl, _⟩ := owns_slice o2
            obtain ⟨pq, qq, rfl, _⟩ := owns_slice o3
            clear b0 b1 b2 b3 b4 b5 b6 b7 b8 b9 b10 b11 b12
            go_upto_region 9 with fail
            obtain ⟨w4, hw4⟩ : ∃ z, z = w3.alloc (.cells #[.int .i64 ob.gen, .int .i64 ob.kind, .int .i64 ob.box, .int .i64 ob.res, .int .i64 ob.til, .int .i64 ob.pages, .int .i64 ob.wait, .int .i64 ob.got, .int .i64 ob.ran, .bool ob.mark, .slice pl ob.links.length ql, .slice pd ob.data.length qd, .slice pq ob.queue.length qq] 34) := ⟨_, rfl⟩
            rw [← hw4]
            have HLT : Hid (∀ y ∈ ts, ∀ q, bl2 y q → q < w2.heap.size) := hideP (fun y hy q hq => HT.out.lt hy hq)
            have HGE : Hid (∀ q, bl2 ⟨{ ob with gen := x.gen + 1 }, .slice pl ob.links.length ql, .slice pd ob.data.length qd, .slice pq ob.queue.length qq⟩ q → w2.heap.size ≤ q) := hideP (fun q hq => hq.elim (fun e => (o1.lt q e).1) (fun e => (o2.lt q e).1))
            have HLD := hideP old
            have hb34 : Below w2.heap.size w2 w4 := by rw [hw4]; exact hb3.trans ((below_a1 w3 _).mono hb3.size)
            have hz3 := hb3.size
            have BX := hideP (show Blk w4 w3.heap.size 34 _ by rw [hw4]; exact Blk.new w3 #[.int .i64 ob.gen, .int .i64 ob.kind, .int .i64 ob.box, .int .i64 ob.res, .int .i64 ob.til, .int .i64 ob.pages, .int .i64 ob.wait, .int .i64 ob.got, .int .i64 ob.ran, .bool ob.mark, .slice pl ob.links.length ql, .slice pd ob.data.length qd, .slice pq ob.queue.length qq] 34)
            have HE : Hid (TEOk w4 w0.heap.size M true ⟨{ ob with gen := x.gen + 1 }, .slice pl ob.links.length ql, .slice pd ob.data.length qd, .slice pq ob.queue.length qq⟩) := hideP (by
              rw [hw4]
              exact TEOk.below ⟨owns_mono o1 HB.out.size, owns_mono o2 HB.out.size, owns_mono o3 HB.out.size, ⟨HSO.out.l, HSO.out.d, HSO.out.q, HSO.out.w, HSO.out.k⟩⟩ (below_a1 w3 _))
            have HT4 := hideP (HT.out.below hb34)
            have B4 := hideP (B2.out.below hb34)
            have HWB4 := hideP (HWB.out.trans (hb34.mono HWB.out.size))
            have d0 : w4.cell? ⟨b, o + k * 13, none⟩ = some (.int .i64 x.gen) := (hb34.cell (p := ⟨b, _, none⟩) hbw).trans c0
            have x0 : w4.cell? ⟨w3.heap.size, 0, none⟩ = some (.int .i64 ob.gen) := (BX.out.cell 0).trans rfl
            have fx0 : w4.frozen? ⟨w3.heap.size, 0, none⟩ = false := BX.out.frozen 0
            have hne : g ≠ w3.heap.size := by omega
            have hne2 : g ≠ w.heap.size := by have := HSZ.out; omega
            have hne3 : w.heap.size ≠ w3.heap.size := by have := HWB.out.size; have := B2.out.lt; omega
            clear hw4 o1 o2 o3 hb3 hb34 old
            go_upto_region 10 with fail
            obtain ⟨w5, hw5⟩ : ∃ z, z = w4.setCell ⟨w3.heap.size, 0, none⟩ (.int .i64 (x.gen + 1)) := ⟨_, rfl⟩
            have BX5 := hideP (BX.out.set 0 (.int .i64 (x.gen + 1)))
            have HE5 := hideP (HE.out.other (i := 0) (u := .int .i64 (x.gen + 1)) BX.out (by decide) (by decide))
            have HT5 := hideP (HT4.out.other (i := 0) (u := .int .i64 (x.gen + 1)) BX.out (fun q e => by cases e; exact hne) (by decide) (by decide))
            have B5 := hideP (B4.out.other 0 (.int .i64 (x.gen + 1)) hne3)
            have HWB5 := hideP (HWB4.out.setCell (p := ⟨w3.heap.size, 0, none⟩) (by have := HWB.out.size; dsimp only; omega) (.int .i64 (x.gen + 1)))
            rw [← hw5] at BX5 HE5 HT5 B5 HWB5 ⊢
            clear hw5 d0 x0 fx0 BX HE HT4 B4 HWB4
            have x0 : w5.cell? ⟨w3.heap.size, 0, none⟩ = some (.int .i64 (x.gen + 1)) := (BX5.out.cell 0).trans rfl
            have x1 : w5.cell? ⟨w3.heap.size, 1, none⟩ = some (.int .i64 ob.kind) := (BX5.out.cell 1).trans rfl
            have x2 : w5.cell? ⟨w3.heap.size, 2, none⟩ = some (.int .i64 ob.box) := (BX5.out.cell 2).trans rfl
            have x3 : w5.cell? ⟨w3.heap.size, 3, none⟩ = some (.int .i64 ob.res) := (BX5.out.cell 3).trans rfl
            have x4 : w5.cell? ⟨w3.heap.size, 4, none⟩ = some (.int .i64 ob.til) := (BX5.out.cell 4).trans rfl
            have x5 : w5.cell? ⟨w3.heap.size, 5, none⟩ = some (.int .i64 ob.pages) := (BX5.out.cell 5).trans rfl
            have x6 : w5.cell? ⟨w3.heap.size, 6, none⟩ = some (.int .i64 ob.wait) := (BX5.out.cell 6).trans rfl
            have x7 : w5.cell? ⟨w3.heap.size, 7, none⟩ = some (.int .i64 ob.got) := (BX5.out.cell 7).trans rfl
            have x8 : w5.cell? ⟨w3.heap.size, 8, none⟩ = some (.int .i64 ob.ran) := (BX5.out.cell 8).trans rfl
            have x9 : w5.cell? ⟨w3.heap.size, 9, none⟩ = some (.bool ob.mark) := (BX5.out.cell 9).trans rfl
            have x10 : w5.cell? ⟨w3.heap.size, 10, none⟩ = some (.slice pl ob.links.length ql) := (BX5.out.cell 10).trans rfl
            have x11 : w5.cell? ⟨w3.heap.size, 11, none⟩ = some (.slice pd ob.data.length qd) := (BX5.out.cell 11).trans rfl
            have x12 : w5.cell? ⟨w3.heap.size, 12, none⟩ = some (.slice pq ob.queue.length qq) := (BX5.out.cell 12).trans rfl
            obtain ⟨e0, fe0⟩ := HT5.out.cell HY.out (j := 0) rfl
            obtain ⟨e1, fe1⟩ := HT5.out.cell HY.out (j := 1) rfl
            obtain ⟨e2, fe2⟩ := HT5.out.cell HY.out (j := 2) rfl
            obtain ⟨e3, fe3⟩ := HT5.out.cell HY.out (j := 3) rfl
            obtain ⟨e4, fe4⟩ := HT5.out.cell HY.out (j := 4) rfl
            obtain ⟨e5, fe5⟩ := HT5.out.cell HY.out (j := 5) rfl
            obtain ⟨e6, fe6⟩ := HT5.out.cell HY.out (j := 6) rfl
            obtain ⟨e7, fe7⟩ := HT5.out.cell HY.out (j := 7) rfl
            obtain ⟨e8, fe8⟩ := HT5.out.cell HY.out (j := 8) rfl
            obtain ⟨e9, fe9⟩ := HT5.out.cell HY.out (j := 9) rfl
            obtain ⟨e10, fe10⟩ := HT5.out.cell HY.out (j := 10) rfl
            obtain ⟨e11, fe11⟩ := HT5.out.cell HY.out (j := 11) rfl
            obtain ⟨e12, fe12⟩ := HT5.out.cell HY.out (j := 12) rfl
            simp only [Nat.add_zero] at e0 fe0
            have HT6 := hideP (HT5.out.whole hlt HE5.out (fun e => e) HLT.out HGE.out HLD.out)
            have K6 := keptSets w5 g (k * 13) (TE.enc ⟨{ ob with gen := x.gen + 1 }, .slice pl ob.links.length ql, .slice pd ob.data.length qd, .slice pq ob.queue.length qq⟩)
            have B6 := hideP (K6.blk B5.out (fun e => hne2 e.symm))
            have HWB6 := hideP (HWB5.out.trans (K6.below HWB5.out.size (fun q e => by have := HSZ.out; omega)))
            go_upto_region 11 with fail
            obtain ⟨w6, hw6⟩ : ∃ z, z = setCells w5 g (k * 13) (TE.enc ⟨{ ob with gen := x.gen + 1 }, .slice pl ob.links.length ql, .slice pd ob.data.length qd, .slice pq ob.queue.length qq⟩) := ⟨_, rfl⟩
            rw [← hw6] at HT6 B6 HWB6
            change Code.wp _ _ _ _ (setCells w5 g (k * 13) (TE.enc ⟨{ ob with gen := x.gen + 1 }, .slice pl ob.links.length ql, .slice pd ob.data.length qd, .slice pq ob.queue.length qq⟩))
            rw [← hw6]
            clear hw6 K6 BX5 HE5 HT5 B5 HWB5 x0 x1 x2 x3 x4 x5 x6 x7 x8 x9 x10 x11 x12 e0 e1 e2 e3 e4 e5 e6 e7 e8 e9 e10 e11 e12 fe0 fe1 fe2 fe3 fe4 fe5 fe6 fe7 fe8 fe9 fe10 fe11 fe12 c0 c1
            go_wp2_with fail
            refine (specArenaOk_n _ _ cv l.length (by rw [List.length_map]; exact HT6.out.len) hl (HT6.out.short hM) w6 HT6.out.rd).mono ?_
            rintro e w7 ⟨rfl, hb7⟩
            have HT7 := hideP (HT6.out.below hb7)
            have B7 := hideP (B6.out.below hb7)
            have HWB7 := hideP (HWB6.out.trans (hb7.mono HWB6.out.size))
            have y1 : w7.cell? ⟨w.heap.size, 1, none⟩ = some (.int .i64 ob.kind) := (B7.out.cell 1).trans rfl
            clear hb7 HT6 B6 HWB6
            generalize arenaOk _ = r
            cases r
            · go_wp2_with fail
              refine (l8Copy_any l _ c M true hl hM HS.out w7 (H0.out.below HWB7.out)).mono ?_
              rintro e w8 ⟨v8, ts8, rfl, ht, _, hb⟩
              have HT8 := hideP (ht.mono HWB7.out.size (Nat.le_refl M) (fun e => e))
              have HB8 := hideP (HWB7.out.trans (hb.mono HWB7.out.size))
              clear ht hb
              go_wp2
              go_ret2
              exact ⟨v8, ts8, _, rfl, HT8.out, HB8.out⟩
            · by_cases hk0 : ob.kind = 0
              · have dk : (ob.kind == 0) = true := by simp [hk0]
                clear hk0
                go_wp2_with fail
                refine (l8Copy_any l _ c M true hl hM HS.out w7 (H0.out.below HWB7.out)).mono ?_
                rintro e w8 ⟨v8, ts8, rfl, ht, _, hb⟩
                have HT8 := hideP (ht.mono HWB7.out.size (Nat.le_refl M) (fun e => e))
                have HB8 := hideP (HWB7.out.trans (hb.mono HWB7.out.size))
                clear ht hb
                go_wp2
                go_ret2
                exact ⟨v8, ts8, _, rfl, HT8.out, HB8.out⟩
              · have dk : (ob.kind == 0) = false := by simp [hk0]
                clear hk0
                go_wp2
                go_ret2
                exact ⟨_, _, _, rfl, HT7.out.mono HW.out.size (Nat.le_refl M) (fun e => e), HWB7.out⟩
          · have dg : (x.gen ≥ 999) := by omega
            go_wp2
            go_roundg (gk - 1)
            case measure => omega
            case rel => exact ⟨k + 1, by omega, by omega, by omega, by go_num, rfl⟩
        · have dz : (x.kind != 0) = true := by simp [hz]
          clear hz
          go_wp2
          go_roundg (gk - 1)
          case measure => omega
          case rel => exact ⟨k + 1, by omega, by omega, by omega, by go_num, rfl⟩
      · go_wp2
        go_ret2
        exact ⟨v, ts, _, rfl, HT.out.mono HW.out.size (Nat.le_refl _) (fun e => e), HWB.out⟩

end Go.Proofs.Ytabbncoihmhocaa
