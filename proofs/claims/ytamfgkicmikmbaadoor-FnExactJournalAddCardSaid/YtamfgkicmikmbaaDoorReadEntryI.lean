/- ReadEntry of the program. -/
import Derived.Test.YtamfgkicmikmbaaDoorReadEntryP
import Derived.Test.YtamfgkicmikmbaaDoorEntryEq
import Derived.Test.YtamfgkicmikmbaaDoorShowEntry
import Derived.Deep.LoopGhost
namespace Go.Proofs.YtamfgkicmikmbaaDoor
open Go.RowKit

set_option maxRecDepth 100000 in
set_option maxHeartbeats 4000000 in
theorem row_ne_blk {w : World} {base s n g : Nat} {e T : TypeId} {v : Value} {xs cs : List Value} (ho : w.ownsRow base e s v n xs) (hb : Blk w g T cs) (hT : e ≠ T) (q : Nat) (hq : v.ownBlock = some q) : q ≠ g := by
  intro h
  subst h
  obtain ⟨_, h1⟩ := ho
  rcases h1 with ⟨rfl, _⟩ | ⟨b, cap, cur, rfl, _, hg, _⟩
  · cases hq
  · obtain rfl : b = q := by simpa [Value.ownBlock] using hq
    have h9 := Option.some.inj (hg.symm.trans hb)
    injection h9 with _ h10 _
    exact hT h10
theorem implSplit_any (s : ByteArray) (hs : s.size ≤ 1048576) (w : World) (m : Int) (hm : w.cell? ⟨0, 0, none⟩ = some (.int .i64 m)) :
    Calls Tryd.prog 19 #[.string s, .string ⟨#[32]⟩] w fun e w' => ∃ g, e = .returned (.slice (some ⟨g, 0, none⟩) (cutS 32 (bl s)).length (cutS 32 (bl s)).length) ∧ w'.ownsRow w.heap.size 9 1 (.slice (some ⟨g, 0, none⟩) (cutS 32 (bl s)).length (cutS 32 (bl s)).length) (cutS 32 (bl s)).length ((cutS 32 (bl s)).map strV) ∧ Below w.heap.size w w' := by
  refine (Tryd.strings_Split s ⟨#[32]⟩ m w (by omega) hm (by decide)).mono ?_
  rintro e w1 ⟨rfl, rfl⟩
  have hN : Lib.countB s ⟨#[32]⟩ + 1 = (cutS 32 (bl s)).length := countB_cut s
  have hl := cutS_len 32 (bl s)
  rw [bl_length] at hl
  have hx : (Lib.splitB ⟨#[32]⟩ 0 (Lib.countB s ⟨#[32]⟩) s).map Value.string = (cutS 32 (bl s)).map strV := splitB_cut s
  rw [hN, hx]
  exact ⟨_, rfl, owns_lit (Nat.le_refl _) rfl (by unfold maxLen; omega) (by simp) (by simp), below_a1 _ _⟩
set_option maxRecDepth 100000 in
set_option maxHeartbeats 4000000 in
theorem implReadEntry_any (s : ByteArray) (hs : s.size ≤ 1048576) (w : World) (hd : Doors w) (m : Int) (hm : w.cell? ⟨0, 0, none⟩ = some (.int .i64 m)) :
    Calls Tryd.prog 7 #[.string s] w fun e w' => e = .returned (entRes (bl s)) ∧ Below w.heap.size w w' := by
  obtain ⟨i0, hi, hz0, hz1, hz2⟩ := info_parts Tryd.infoIntE
  have HD := hideP hd
  clear hd
  have hw0 : 0 < w.heap.size := World.block_lt_of_cell? _ _ hm
  obtain ⟨ws, hws⟩ : ∃ ws, cutS 32 (bl s) = ws := ⟨_, rfl⟩
  have hWS := hideP hws
  have hwl := cutS_len 32 (bl s)
  rw [bl_length, hws] at hwl
  clear hws
  go_enter Tryd.func7, Tryd.ntmps7
  go_wp2_with fail
  refine (implSplit_any s hs _ m (((below_a2 w _ _).cell (p := ⟨0, 0, none⟩) hw0).trans hm)).mono ?_
  rw [hWS.out]
  rintro e w1 ⟨gs, rfl, ho1, hb1⟩
  have HS := hideP (owns_mono ho1 (base' := w.heap.size) (by simp; omega))
  have HL : Hid (w1.ownsRow w.heap.size 3 1 (.slice (some ⟨w.heap.size + 1, 0, none⟩) 0 0) 0 ((ws.take 0).map decI)) := hideP (owns_below (owns_lit (by simp) (by simp) (by decide) rfl rfl) (Nat.le_refl _) hb1)
  have BZ := hideP (((Blk.new w #[.int .i64 0, .int .i64 0, .int .i64 0, .int .i64 0, .int .i64 0, .int .i64 0, .int .i64 0, .int .i64 0, .int .i64 0] 25).alloc (.cells #[] 3)).below hb1)
  have HB := hideP ((below_a2 w (.cells #[.int .i64 0, .int .i64 0, .int .i64 0, .int .i64 0, .int .i64 0, .int .i64 0, .int .i64 0, .int .i64 0, .int .i64 0] 25) (.cells #[] 3)).trans (hb1.mono (by simp; omega)))
  obtain ⟨N, hN⟩ : ∃ N, ws.length = N := ⟨_, rfl⟩
  rw [hN] at HS ⊢
  have HS : Hid (w1.ownsRow w.heap.size 9 1 (.slice (some ⟨gs, 0, none⟩) N N) N (ws.map strV)) := HS
  clear hm ho1 hb1
  go_wp2
  go_loopg [4, 13] (N + 1) (fun gk lv iv wr => ∃ (k : Nat) (p : Option Addr) (c : Nat), N < gk + k ∧ k ≤ N ∧ iv = .int .i64 (k : Int) ∧ lv = .slice p k c ∧ Hid ((ws.take k).all decOk = true) ∧ Hid (wr.ownsRow w.heap.size 3 1 (.slice p k c) k ((ws.take k).map decI)) ∧ Hid (wr.ownsRow w.heap.size 9 1 (.slice (some ⟨gs, 0, none⟩) N N) N (ws.map strV)) ∧ Hid (Blk wr w.heap.size 25 [.int .i64 0, .int .i64 0, .int .i64 0, .int .i64 0, .int .i64 0, .int .i64 0, .int .i64 0, .int .i64 0, .int .i64 0]) ∧ Hid (Below w.heap.size w wr))
  case atStart => exact ⟨0, _, _, by omega, by omega, rfl, rfl, hideP rfl, HL, HS, BZ, HB⟩
  case round =>
    clear HL HS BZ HB
    obtain ⟨k, p, c, hgk, hk, rfl, rfl, HA, HL, HS, BZ, HB⟩ := hrel
    have hz0w : w.heap.size < wr.heap.size := BZ.out.lt
    by_cases hlt : k < N
    · obtain ⟨x, hx⟩ := some_at (l := ws) (k := k) (by omega)
      have g1 := strs_get HS.out hx
      have HX : x.length ≤ s.size := by
        have := cutS_size 32 (bl s) x (by rw [hWS.out]; exact List.mem_of_getElem? hx)
        rwa [bl_length] at this
      have k1 : (k : Int) < (N : Int) := by omega
      have HW := hideP hx
      clear hx
      go_wp2_with fail
      refine (implReadDec_any ⟨x.toArray⟩ (by have := HX; show x.toArray.size ≤ _; simp; omega) _ (HD.out.below HB.out)).mono ?_
      rw [show (ByteArray.mk x.toArray).data.toList = x from by simp]
      rintro e w3 ⟨rfl, hb3⟩
      rw [decRes_ok]
      have HL := hideP (owns_below HL.out (Nat.le_refl _) hb3)
      have HS := hideP (owns_below HS.out (Nat.le_refl _) hb3)
      have BZ := hideP (BZ.out.below hb3)
      have HB := hideP (HB.out.trans (hb3.mono HB.out.size))
      clear hb3 g1
      cases hok : decOk x
      · have HN := hideP (entRes_no (l := bl s) (.inr (by rw [hWS.out]; exact mem_bad HW.out hok)))
        have z0 : w3.cell? ⟨w.heap.size, 0, none⟩ = some (.int .i64 0) := (BZ.out.cell 0).trans rfl
        have kz0 : w3.frozen? ⟨w.heap.size, 0, none⟩ = false := BZ.out.frozen 0
        have z1 : w3.cell? ⟨w.heap.size, 1, none⟩ = some (.int .i64 0) := (BZ.out.cell 1).trans rfl
        have kz1 : w3.frozen? ⟨w.heap.size, 1, none⟩ = false := BZ.out.frozen 1
        have z2 : w3.cell? ⟨w.heap.size, 2, none⟩ = some (.int .i64 0) := (BZ.out.cell 2).trans rfl
        have kz2 : w3.frozen? ⟨w.heap.size, 2, none⟩ = false := BZ.out.frozen 2
        have z3 : w3.cell? ⟨w.heap.size, 3, none⟩ = some (.int .i64 0) := (BZ.out.cell 3).trans rfl
        have kz3 : w3.frozen? ⟨w.heap.size, 3, none⟩ = false := BZ.out.frozen 3
        have z4 : w3.cell? ⟨w.heap.size, 4, none⟩ = some (.int .i64 0) := (BZ.out.cell 4).trans rfl
        have kz4 : w3.frozen? ⟨w.heap.size, 4, none⟩ = false := BZ.out.frozen 4
        have z5 : w3.cell? ⟨w.heap.size, 5, none⟩ = some (.int .i64 0) := (BZ.out.cell 5).trans rfl
        have kz5 : w3.frozen? ⟨w.heap.size, 5, none⟩ = false := BZ.out.frozen 5
        have z6 : w3.cell? ⟨w.heap.size, 6, none⟩ = some (.int .i64 0) := (BZ.out.cell 6).trans rfl
        have kz6 : w3.frozen? ⟨w.heap.size, 6, none⟩ = false := BZ.out.frozen 6
        have z7 : w3.cell? ⟨w.heap.size, 7, none⟩ = some (.int .i64 0) := (BZ.out.cell 7).trans rfl
        have kz7 : w3.frozen? ⟨w.heap.size, 7, none⟩ = false := BZ.out.frozen 7
        have z8 : w3.cell? ⟨w.heap.size, 8, none⟩ = some (.int .i64 0) := (BZ.out.cell 8).trans rfl
        have kz8 : w3.frozen? ⟨w.heap.size, 8, none⟩ = false := BZ.out.frozen 8
        go_wp2
        refine bodyPost_ret (v := entRes (bl s)) (by rw [HN.out]; simp [results, Tryd.results7, go_sem, z0, z1, z2, z3, z4, z5, z6, z7, z8]) rfl ⟨rfl, ?_⟩
        repeat (first | (with_reducible exact HB.out) | refine Below.setCell ?_ (by simp) _)
      · have HA1 := hideP (take_all HA.out HW.out hok)
        have HT : Hid ((ws.take (k + 1)).map decI = (ws.take k).map decI ++ [decI x]) := hideP (by rw [take_snoc HW.out]; simp)
        clear hok HA
        go_wp2_with (at_builtin; refine wpList_append_rd _ rfl _ _ 44 rfl w.heap.size 3 i0 (.int .i64 0) 1 8 Tryd.underlying44 hi hz0 hz1 hz2 rfl (by decide) _ k _ rfl (World.ownsRow.alloc HL.out _) _ 1 1 [.int .i64 (decVal x)] rfl rfl (rd_lit rfl) ?c1 ?c2 ?c3 ?c4 ?_)
        case c1 => simp [Value.oneCell']
        case c2 => unfold maxLen; omega
        case c3 => omega
        case c4 => have := HB.out.size; simp; omega
        intro v9 w9 ho9 hg9
        obtain ⟨p9, c9, rfl, _⟩ := owns_slice ho9
        have HO9 : Hid (w9.ownsRow w.heap.size 3 1 (.slice p9 (k + 1) c9) (k + 1) ((ws.take (k + 1)).map decI)) := hideP (by rw [HT.out, List.map_take]; exact ho9)
        have HLA := hideP (World.ownsRow.alloc HL.out (.cells #[.int .i64 (decVal x)] 3))
        have HSA := hideP (World.ownsRow.alloc HS.out (.cells #[.int .i64 (decVal x)] 3))
        have HS9 := hideP ((KeptP.of_grown hg9).owns HSA.out (fun q hq hq' => rowE_ne HSA.out HLA.out (by decide) q hq hq'))
        have BZ9 : Hid (Blk w9 w.heap.size 25 [.int .i64 0, .int .i64 0, .int .i64 0, .int .i64 0, .int .i64 0, .int .i64 0, .int .i64 0, .int .i64 0, .int .i64 0]) := hideP ((BZ.out.alloc _).kept (hg9.block w.heap.size (BZ.out.alloc _).lt (fun q => row_ne_blk HLA.out (BZ.out.alloc _) (by decide) w.heap.size q.symm rfl)))
        have HB9 := hideP ((HB.out.alloc HB.out.size (.cells #[.int .i64 (decVal x)] 3)).grown hg9 (by have := HB.out.size; simp; omega) (fun q e => (HL.out.lt q e).1))
        clear ho9 hg9 HLA HSA HL HS BZ HB HT
        go_wp2
        go_roundg (gk - 1)
        case measure => omega
        case rel => exact ⟨k + 1, p9, c9, by omega, by omega, by go_num, rfl, HA1, HO9, HS9, BZ9, HB9⟩
    · obtain rfl : k = N := by omega
      have HA1 : Hid (ws.all decOk = true) := hideP (by have := HA.out; rwa [List.take_of_length_le (by omega)] at this)
      have HL1 : Hid (wr.ownsRow w.heap.size 3 1 (.slice p k c) k ((ws.map decVal).map (Value.int .i64))) := hideP (by have := HL.out; rw [List.take_of_length_le (by omega)] at this; rw [List.map_map]; exact this)
      have HN9 := hideP (fun (h : k = 9) => entRes_yes (l := bl s) (by rw [hWS.out]; omega) (by rw [hWS.out]; exact HA1.out))
      rw [hWS.out] at HN9
      clear HA HS
      by_cases hn9 : k = 9
      · subst hn9
        obtain ⟨g9, c9, hp, hc9, hg9, hg0⟩ := strs_at HL.out (by omega)
        obtain ⟨rfl, rfl⟩ : p = some ⟨g9, 0, none⟩ ∧ c = c9 := by simpa using hp
        have HN := hideP (HN9.out rfl)
        obtain ⟨E, hE⟩ : ∃ E, Entry.of (ws.map decVal) = E := ⟨_, rfl⟩
        have g0 : wr.cell? ⟨g9, 0, none⟩ = some (.int .i64 E.k) := by rw [← hE]; exact nums_get HL1.out (k := 0) (by decide)
        have g1 : wr.cell? ⟨g9, 1, none⟩ = some (.int .i64 E.p) := by rw [← hE]; exact nums_get HL1.out (k := 1) (by decide)
        have g2 : wr.cell? ⟨g9, 2, none⟩ = some (.int .i64 E.t) := by rw [← hE]; exact nums_get HL1.out (k := 2) (by decide)
        have g3 : wr.cell? ⟨g9, 3, none⟩ = some (.int .i64 E.ck) := by rw [← hE]; exact nums_get HL1.out (k := 3) (by decide)
        have g4 : wr.cell? ⟨g9, 4, none⟩ = some (.int .i64 E.ca) := by rw [← hE]; exact nums_get HL1.out (k := 4) (by decide)
        have g5 : wr.cell? ⟨g9, 5, none⟩ = some (.int .i64 E.cb) := by rw [← hE]; exact nums_get HL1.out (k := 5) (by decide)
        have g6 : wr.cell? ⟨g9, 6, none⟩ = some (.int .i64 E.cc) := by rw [← hE]; exact nums_get HL1.out (k := 6) (by decide)
        have g7 : wr.cell? ⟨g9, 7, none⟩ = some (.int .i64 E.cd) := by rw [← hE]; exact nums_get HL1.out (k := 7) (by decide)
        have g8 : wr.cell? ⟨g9, 8, none⟩ = some (.int .i64 E.ce) := by rw [← hE]; exact nums_get HL1.out (k := 8) (by decide)
        rw [hE] at HN
        clear hE HL HL1 hp HN9
        obtain ⟨a0, a1, a2, a3, a4, a5, a6, a7, a8⟩ := E
        have z0 : wr.cell? ⟨w.heap.size, 0, none⟩ = some (.int .i64 0) := (BZ.out.cell 0).trans rfl
        have kz0 : wr.frozen? ⟨w.heap.size, 0, none⟩ = false := BZ.out.frozen 0
        have z1 : wr.cell? ⟨w.heap.size, 1, none⟩ = some (.int .i64 0) := (BZ.out.cell 1).trans rfl
        have kz1 : wr.frozen? ⟨w.heap.size, 1, none⟩ = false := BZ.out.frozen 1
        have z2 : wr.cell? ⟨w.heap.size, 2, none⟩ = some (.int .i64 0) := (BZ.out.cell 2).trans rfl
        have kz2 : wr.frozen? ⟨w.heap.size, 2, none⟩ = false := BZ.out.frozen 2
        have z3 : wr.cell? ⟨w.heap.size, 3, none⟩ = some (.int .i64 0) := (BZ.out.cell 3).trans rfl
        have kz3 : wr.frozen? ⟨w.heap.size, 3, none⟩ = false := BZ.out.frozen 3
        have z4 : wr.cell? ⟨w.heap.size, 4, none⟩ = some (.int .i64 0) := (BZ.out.cell 4).trans rfl
        have kz4 : wr.frozen? ⟨w.heap.size, 4, none⟩ = false := BZ.out.frozen 4
        have z5 : wr.cell? ⟨w.heap.size, 5, none⟩ = some (.int .i64 0) := (BZ.out.cell 5).trans rfl
        have kz5 : wr.frozen? ⟨w.heap.size, 5, none⟩ = false := BZ.out.frozen 5
        have z6 : wr.cell? ⟨w.heap.size, 6, none⟩ = some (.int .i64 0) := (BZ.out.cell 6).trans rfl
        have kz6 : wr.frozen? ⟨w.heap.size, 6, none⟩ = false := BZ.out.frozen 6
        have z7 : wr.cell? ⟨w.heap.size, 7, none⟩ = some (.int .i64 0) := (BZ.out.cell 7).trans rfl
        have kz7 : wr.frozen? ⟨w.heap.size, 7, none⟩ = false := BZ.out.frozen 7
        have z8 : wr.cell? ⟨w.heap.size, 8, none⟩ = some (.int .i64 0) := (BZ.out.cell 8).trans rfl
        have kz8 : wr.frozen? ⟨w.heap.size, 8, none⟩ = false := BZ.out.frozen 8
        go_wp2
        go_still_tail 29, (by kernel_rfl)
        go_wp2
        have BN := (((((((((BZ.out.set 0 (.int .i64 a0)).set 1 (.int .i64 a1)).set 2 (.int .i64 a2)).set 3 (.int .i64 a3)).set 4 (.int .i64 a4)).set 5 (.int .i64 a5)).set 6 (.int .i64 a6)).set 7 (.int .i64 a7)).set 8 (.int .i64 a8))
        have HB := hideP ((((((((((HB.out.setCell (p := ⟨w.heap.size, 0, none⟩) (Nat.le_refl _) (.int .i64 a0)).setCell (p := ⟨w.heap.size, 1, none⟩) (Nat.le_refl _) (.int .i64 a1)).setCell (p := ⟨w.heap.size, 2, none⟩) (Nat.le_refl _) (.int .i64 a2)).setCell (p := ⟨w.heap.size, 3, none⟩) (Nat.le_refl _) (.int .i64 a3)).setCell (p := ⟨w.heap.size, 4, none⟩) (Nat.le_refl _) (.int .i64 a4)).setCell (p := ⟨w.heap.size, 5, none⟩) (Nat.le_refl _) (.int .i64 a5)).setCell (p := ⟨w.heap.size, 6, none⟩) (Nat.le_refl _) (.int .i64 a6)).setCell (p := ⟨w.heap.size, 7, none⟩) (Nat.le_refl _) (.int .i64 a7)).setCell (p := ⟨w.heap.size, 8, none⟩) (Nat.le_refl _) (.int .i64 a8)).drew)
        obtain ⟨wn, hwn⟩ : ∃ wn : World, wn = (((((((((wr.setCell ⟨w.heap.size, 0, none⟩ (.int .i64 a0)).setCell ⟨w.heap.size, 1, none⟩ (.int .i64 a1)).setCell ⟨w.heap.size, 2, none⟩ (.int .i64 a2)).setCell ⟨w.heap.size, 3, none⟩ (.int .i64 a3)).setCell ⟨w.heap.size, 4, none⟩ (.int .i64 a4)).setCell ⟨w.heap.size, 5, none⟩ (.int .i64 a5)).setCell ⟨w.heap.size, 6, none⟩ (.int .i64 a6)).setCell ⟨w.heap.size, 7, none⟩ (.int .i64 a7)).setCell ⟨w.heap.size, 8, none⟩ (.int .i64 a8)) := ⟨_, rfl⟩
        rw [← hwn] at BN HB ⊢
        clear hwn z0 z1 z2 z3 z4 z5 z6 z7 z8 kz0 g0 kz1 g1 kz2 g2 kz3 g3 kz4 g4 kz5 g5 kz6 g6 kz7 g7 kz8 g8
        have z0 : wn.cell? ⟨w.heap.size, 0, none⟩ = some (.int .i64 a0) := (BN.cell 0).trans rfl
        have z1 : wn.cell? ⟨w.heap.size, 1, none⟩ = some (.int .i64 a1) := (BN.cell 1).trans rfl
        have z2 : wn.cell? ⟨w.heap.size, 2, none⟩ = some (.int .i64 a2) := (BN.cell 2).trans rfl
        have z3 : wn.cell? ⟨w.heap.size, 3, none⟩ = some (.int .i64 a3) := (BN.cell 3).trans rfl
        have z4 : wn.cell? ⟨w.heap.size, 4, none⟩ = some (.int .i64 a4) := (BN.cell 4).trans rfl
        have z5 : wn.cell? ⟨w.heap.size, 5, none⟩ = some (.int .i64 a5) := (BN.cell 5).trans rfl
        have z6 : wn.cell? ⟨w.heap.size, 6, none⟩ = some (.int .i64 a6) := (BN.cell 6).trans rfl
        have z7 : wn.cell? ⟨w.heap.size, 7, none⟩ = some (.int .i64 a7) := (BN.cell 7).trans rfl
        have z8 : wn.cell? ⟨w.heap.size, 8, none⟩ = some (.int .i64 a8) := (BN.cell 8).trans rfl
        refine bodyPost_ret (v := entRes (bl s)) (by rw [HN.out]; simp [results, Tryd.results7, go_sem, Entry.cells, z0, z1, z2, z3, z4, z5, z6, z7, z8]) rfl ⟨rfl, HB.out⟩
      · have HN := hideP (entRes_no (l := bl s) (.inl (by rw [hWS.out]; omega)))
        have d9 : (((k : Int)) == 9) = false := by simp; omega
        have z0 : wr.cell? ⟨w.heap.size, 0, none⟩ = some (.int .i64 0) := (BZ.out.cell 0).trans rfl
        have kz0 : wr.frozen? ⟨w.heap.size, 0, none⟩ = false := BZ.out.frozen 0
        have z1 : wr.cell? ⟨w.heap.size, 1, none⟩ = some (.int .i64 0) := (BZ.out.cell 1).trans rfl
        have kz1 : wr.frozen? ⟨w.heap.size, 1, none⟩ = false := BZ.out.frozen 1
        have z2 : wr.cell? ⟨w.heap.size, 2, none⟩ = some (.int .i64 0) := (BZ.out.cell 2).trans rfl
        have kz2 : wr.frozen? ⟨w.heap.size, 2, none⟩ = false := BZ.out.frozen 2
        have z3 : wr.cell? ⟨w.heap.size, 3, none⟩ = some (.int .i64 0) := (BZ.out.cell 3).trans rfl
        have kz3 : wr.frozen? ⟨w.heap.size, 3, none⟩ = false := BZ.out.frozen 3
        have z4 : wr.cell? ⟨w.heap.size, 4, none⟩ = some (.int .i64 0) := (BZ.out.cell 4).trans rfl
        have kz4 : wr.frozen? ⟨w.heap.size, 4, none⟩ = false := BZ.out.frozen 4
        have z5 : wr.cell? ⟨w.heap.size, 5, none⟩ = some (.int .i64 0) := (BZ.out.cell 5).trans rfl
        have kz5 : wr.frozen? ⟨w.heap.size, 5, none⟩ = false := BZ.out.frozen 5
        have z6 : wr.cell? ⟨w.heap.size, 6, none⟩ = some (.int .i64 0) := (BZ.out.cell 6).trans rfl
        have kz6 : wr.frozen? ⟨w.heap.size, 6, none⟩ = false := BZ.out.frozen 6
        have z7 : wr.cell? ⟨w.heap.size, 7, none⟩ = some (.int .i64 0) := (BZ.out.cell 7).trans rfl
        have kz7 : wr.frozen? ⟨w.heap.size, 7, none⟩ = false := BZ.out.frozen 7
        have z8 : wr.cell? ⟨w.heap.size, 8, none⟩ = some (.int .i64 0) := (BZ.out.cell 8).trans rfl
        have kz8 : wr.frozen? ⟨w.heap.size, 8, none⟩ = false := BZ.out.frozen 8
        go_wp2
        refine bodyPost_ret (v := entRes (bl s)) (by rw [HN.out]; simp [results, Tryd.results7, go_sem, z0, z1, z2, z3, z4, z5, z6, z7, z8]) rfl ⟨rfl, ?_⟩
        repeat (first | (with_reducible exact HB.out) | refine Below.setCell ?_ (by simp) _)

end Go.Proofs.YtamfgkicmikmbaaDoor
