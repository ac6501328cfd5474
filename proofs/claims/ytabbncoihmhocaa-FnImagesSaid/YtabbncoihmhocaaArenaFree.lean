/- ArenaFree of the reference: what shape it keeps. -/
import Derived.Test.YtabbncoihmhocaaArenaObj
import Derived.Test.YtabbncoihmhocaaArenaOkS
import Derived.Deep.DeepCutAuto
import Derived.Deep.LoopGhost
namespace Go.Proofs.Ytabbncoihmhocaa
open Go.RowKit

theorem RI.block {w : World} {B : Nat} {v : Value} {ls : List Int} (h : RI w B v ls) (hn : 0 < ls.length) : ∃ g c cs, v = .slice (some ⟨g, 0, none⟩) ls.length c ∧ B ≤ g ∧ g < w.heap.size ∧ Blk w g 3 cs ∧ (∀ j y, ls[j]? = some y → w.cell? ⟨g, j, none⟩ = some (.int .i64 y)) ∧ (∀ j, w.frozen? ⟨g, j, none⟩ = false) := by
  have h0 := h
  obtain ⟨_, h2⟩ := h0
  rcases h2 with ⟨_, h0⟩ | ⟨g, cap, cur, rfl, hb, hg, _⟩
  · omega
  · have hB : Blk w g 3 cur.toList := by unfold Blk; rw [hg]
    refine ⟨g, cap, cur.toList, rfl, hb, hB.lt, hB, fun j y hy => ?_, fun j => hB.frozen j⟩
    rw [World.ownsRow.cellAt h j (by have := (List.getElem?_eq_some_iff.1 hy).1; omega)]
    simp [icell, hy]
theorem map_at {ts : List TE} {l : List Thing} (h : ts.map (·.t) = l) {k : Nat} {x : Thing} (hx : l[k]? = some x) : ∃ y, ts[k]? = some y ∧ y.t = x := by
  rw [← h, List.getElem?_map] at hx
  exact Option.map_eq_some_iff.1 hx
def Made (w : World) (M n : Nat) (e : Ending) (w' : World) : Prop := ∃ v ts b, e = .returned (.tuple #[v, .bool b]) ∧ TS w' w.heap.size M true v n ts ∧ Below w.heap.size w w'
set_option maxRecDepth 100000 in
set_option maxHeartbeats 4000000 in
theorem arenaFree_any (l : List Thing) (p : Option Addr) (c M : Nat) (hl : l.length ≤ 1048576) (hM : M ≤ 1048576) (hs : ∀ x ∈ l, Sm M true x) (i : Int) (w : World) (h : ThingsRd w p l) :
    Calls Try.prog 63 #[.slice p l.length c, .int .i64 i] w (Made w M l.length) := by
  have HR := hideP h
  have HS := hideP hs
  have HSH : Hid (Short 1048576 l) := hideP (fun x hx => ⟨⟨Nat.le_trans (hs x hx).l hM, Nat.le_trans (hs x hx).d hM, Nat.le_trans (hs x hx).q hM⟩, hideP (hs x hx).w⟩)
  clear h hs
  go_enter Try.func63, Try.ntmps63
  go_wp2_with fail
  refine (l8Copy_any l p c M true hl hM HS.out w HR.out).mono ?_
  rintro e w1 ⟨v, ts, rfl, ht, hm, hb⟩
  have HT := hideP ht
  have HB := hideP hb
  have HMP := hideP hm
  clear ht hb hm
  go_wp2_with fail
  refine (specArenaOk_any l p c hl HSH.out w1 (HR.out.below HB.out)).mono ?_
  rintro e w2 ⟨rfl, hb⟩
  have HT := hideP (HT.out.below hb)
  have HB := hideP (HB.out.trans (hb.mono HB.out.size))
  clear hb
  cases hok : arenaOk l
  · go_wp2
    go_ret2
    exact ⟨v, ts, false, rfl, HT.out, HB.out⟩
  · have HL10 : Hid (l.length = 10) := Lib.hid (Decidable.byContradiction fun e => by rw [arena_len e] at hok; cases hok)
    clear hok
    by_cases hi : 1 ≤ i ∧ i ≤ 9
    · obtain ⟨k, rfl⟩ := Int.eq_ofNat_of_zero_le (show 0 ≤ i by omega)
      have hk : k < l.length := by have := HL10.out; omega
      obtain ⟨x, hx⟩ := some_at hk
      obtain ⟨b, o, vl, vd, vq, rfl, hbw, _, hc⟩ := (HR.out.below HB.out) k x hx
      have c1 := hc 1 _ rfl
      have c0 := hc 0 _ rfl
      simp only [Nat.add_zero] at c0
      have i1 : (1 : Int) ≤ (k : Int) := hi.1
      have i9 : (k : Int) ≤ 9 := hi.2
      have ki : (k : Int) < (l.length : Int) := by omega
      clear hc hi
      by_cases hz : x.kind = 0
      · have dz : (x.kind == 0) = true := by simp [hz]
        clear hz
        go_wp2
        go_ret2
        exact ⟨v, ts, false, rfl, HT.out, HB.out⟩
      · have dz : (x.kind == 0) = false := by simp [hz]
        clear hz
        obtain ⟨g, cv, cs, rfl, hgB, hgl, hBl⟩ := HT.out.block (by omega)
        obtain ⟨y, hy, _⟩ := map_at HMP.out hx
        obtain ⟨e0, fe0⟩ := HT.out.cell hy (j := 0) rfl
        obtain ⟨e1, fe1⟩ := HT.out.cell hy (j := 1) rfl
        obtain ⟨e2, fe2⟩ := HT.out.cell hy (j := 2) rfl
        obtain ⟨e3, fe3⟩ := HT.out.cell hy (j := 3) rfl
        obtain ⟨e4, fe4⟩ := HT.out.cell hy (j := 4) rfl
        obtain ⟨e5, fe5⟩ := HT.out.cell hy (j := 5) rfl
        obtain ⟨e6, fe6⟩ := HT.out.cell hy (j := 6) rfl
        obtain ⟨e7, fe7⟩ := HT.out.cell hy (j := 7) rfl
        obtain ⟨e8, fe8⟩ := HT.out.cell hy (j := 8) rfl
        obtain ⟨e9, fe9⟩ := HT.out.cell hy (j := 9) rfl
        obtain ⟨e10, fe10⟩ := HT.out.cell hy (j := 10) rfl
        obtain ⟨e11, fe11⟩ := HT.out.cell hy (j := 11) rfl
        obtain ⟨e12, fe12⟩ := HT.out.cell hy (j := 12) rfl
        simp only [Nat.add_zero] at e0 fe0
        have HN := hideP (HT.out.whole (k := k) (N := w2.heap.size) hk (zTE_ok _ _ _ _ x.gen) (fun e => e) (fun y hy q hq => HT.out.lt hy hq) (fun q hq => by rcases hq with e | e <;> cases e) (fun q e => by cases e))
        have HBN := hideP (HB.out.trans ((keptSets w2 g (k * 13) (TE.enc ⟨noThing x.gen, .slice none 0 0, .slice none 0 0, .slice none 0 0⟩)).below HB.out.size (fun q e => by omega)))
        clear HT HB hBl hy HMP hx
        go_wp2
        clear e0 e1 e2 e3 e4 e5 e6 e7 e8 e9 e10 e11 e12 fe0 fe1 fe2 fe3 fe4 fe5 fe6 fe7 fe8 fe9 fe10 fe11 fe12 c0 c1
        go_loopg [7] (l.length + 1) (fun gk iv wr => ∃ (k2 : Nat) (ts : List TE), l.length < gk + k2 ∧ k2 ≤ l.length ∧ iv = .int .i64 (k2 : Int) ∧ Hid (TS wr w.heap.size M true (.slice (some ⟨g, 0, none⟩) l.length cv) l.length ts) ∧ Hid (Below w.heap.size w wr))
        case atStart => exact ⟨0, _, by omega, by omega, rfl, HN, HBN⟩
        case round =>
          clear HN HBN
          obtain ⟨k2, ts, hgk, hk2, rfl, HT, HB⟩ := hrel
          obtain ⟨gko, hgo⟩ : ∃ gko, gko = gk := ⟨_, rfl⟩
          rw [← hgo] at hgk
          by_cases hlt : k2 < l.length
          · obtain ⟨⟨t, ul, ud, uq⟩, hy⟩ := some_at (l := ts) (k := k2) (by have := HT.out.len; omega)
            obtain ⟨a1, fa1⟩ := HT.out.cell hy (j := 1) rfl
            obtain ⟨a2, fa2⟩ := HT.out.cell hy (j := 2) rfl
            dsimp only at a1 a2
            have k0 : (0 : Int) ≤ (k2 : Int) := by omega
            have k1 : (k2 : Int) < (l.length : Int) := by omega
            have HY := hideP hy
            clear hy
            by_cases hz : t.kind = 0
            · have dz2 : (t.kind == 0) = true := by simp [hz]
              clear hz
              go_wp2
              go_roundg (gko - 1)
              case measure => omega
              case rel => exact ⟨k2 + 1, ts, by omega, by omega, by go_num, HT, HB⟩
            · have dz2 : (t.kind == 0) = false := by simp [hz]
              have HZ : Hid (t.kind ≠ 0) := hideP hz
              clear hz
              go_upto_if 55 with fail
              go_cut [7] (fun s wx => s = .int .i64 (k2 : Int) ∧ ∃ (ts : List TE) (t : Thing) (ul ud uq : Value), Hid (ts[k2]? = some ⟨t, ul, ud, uq⟩) ∧ Hid (t.kind ≠ 0) ∧ Hid (TS wx w.heap.size M true (.slice (some ⟨g, 0, none⟩) l.length cv) l.length ts) ∧ Hid (Below w.heap.size w wx))
              case first =>
                have HT2 := hideP (HT.out.field (x' := ⟨{ t with box := -1 }, ul, ud, uq⟩) HY.out (j := 2) (u := .int .i64 (-1)) (by decide) rfl (by have := HT.out.el _ (List.mem_of_getElem? HY.out); exact ⟨this.l, this.d, this.q, ⟨this.s.l, this.s.d, this.s.q, this.s.w, this.s.k⟩⟩) rfl rfl (fun e => e))
                have HY2 : Hid ((ts.set k2 ⟨{ t with box := -1 }, ul, ud, uq⟩)[k2]? = some ⟨{ t with box := -1 }, ul, ud, uq⟩) := hideP (List.getElem?_set_self (by have := HT.out.len; omega))
                have HB2 := hideP (HB.out.setCell (p := ⟨g, k2 * 13 + 2, none⟩) hgB (.int .i64 (-1)))
                go_wp2
                · go_meet
                  exact ⟨rfl, _, _, _, _, _, HY2, HZ, HT2, HB2⟩
                · go_meet
                  exact ⟨rfl, _, _, _, _, _, HY, HZ, HT, HB⟩
              case rest =>
              clear HT HB HY HZ a1 a2 fa1 fa2 dz2
              obtain ⟨rfl, ts, t, ul, ud, uq, HY, HZ, HT, HB⟩ := hcut
              go_wp2
              go_loopg [8] 3 (fun gk1 jv wr => ∃ (j : Nat) (ts : List TE) (t : Thing) (ul ud uq : Value), 2 < gk1 + j ∧ j ≤ 2 ∧ jv = .int .i64 (j : Int) ∧ Hid (ts[k2]? = some ⟨t, ul, ud, uq⟩) ∧ Hid (t.kind ≠ 0) ∧ Hid (TS wr w.heap.size M true (.slice (some ⟨g, 0, none⟩) l.length cv) l.length ts) ∧ Hid (Below w.heap.size w wr))
              case atStart => exact ⟨0, ts, t, ul, ud, uq, by omega, by omega, rfl, HY, HZ, HT, HB⟩
              case round =>
                clear HT HB HY HZ
                obtain ⟨j, ts, t, ul, ud, uq, hgj, hj, rfl, HY, HZ, HT, HB⟩ := hrel
                by_cases hlj : j < 2
                · obtain ⟨a10, fa10⟩ := HT.out.cell HY.out (j := 10) rfl
                  have HE := HT.out.el _ (List.mem_of_getElem? HY.out)
                  have h2l : 2 ≤ t.links.length := HE.s.k rfl HZ.out
                  have hLl : RI wr w.heap.size ul t.links := HE.l
                  dsimp only at a10
                  clear HE
                  obtain ⟨g2, c2, cs2, rfl, hg2, hg2l, hB2, hc2, hf2⟩ := hLl.block (by omega)
                  obtain ⟨z, hz⟩ := some_at (l := t.links) (k := j) (by omega)
                  have e0 := hc2 j z hz
                  have fe0 := hf2 j
                  have j0 : (0 : Int) ≤ (j : Int) := by omega
                  have j1 : (j : Int) < (t.links.length : Int) := by omega
                  have HT2 := hideP (HT.out.put (j := j) (z := -1) hB2)
                  have HY2 : Hid ((ts.map (setTE g2 j (-1)))[k2]? = some (setTE g2 j (-1) ⟨t, .slice (some ⟨g2, 0, none⟩) t.links.length c2, ud, uq⟩)) := hideP (by rw [List.getElem?_map, HY.out]; rfl)
                  have HB2 := hideP (HB.out.setCell (p := ⟨g2, j, none⟩) hg2 (.int .i64 (-1)))
                  clear hLl h2l hB2 hc2 hf2 hz
                  go_wp2
                  · go_roundg (gk - 1)
                    case measure => omega
                    case rel => exact ⟨j + 1, _, _, _, _, _, by omega, by omega, by go_num, HY2, HZ, HT2, HB2⟩
                  · go_roundg (gk - 1)
                    case measure => omega
                    case rel => exact ⟨j + 1, _, _, _, _, _, by omega, by omega, by go_num, HY, HZ, HT, HB⟩
                · have hj2 : j = 2 := by omega
                  subst hj2
                  go_wp2
                  go_roundg (gko - 1)
                  case measure => omega
                  case rel => exact ⟨k2 + 1, ts, by omega, by omega, by go_num, HT, HB⟩
          · go_wp2
            go_ret2
            exact ⟨_, ts, true, rfl, HT.out, HB.out⟩
    · have hn : i < 1 ∨ 9 < i := by omega
      clear hi
      rcases hn with hn | hn
      · go_wp2
        go_ret2
        exact ⟨v, ts, false, rfl, HT.out, HB.out⟩
      · go_wp2
        go_ret2
        exact ⟨v, ts, false, rfl, HT.out, HB.out⟩

end Go.Proofs.Ytabbncoihmhocaa
