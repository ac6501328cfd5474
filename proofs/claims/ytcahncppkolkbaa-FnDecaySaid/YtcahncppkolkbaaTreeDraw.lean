/- Trees drawn: l5Amt, l6Tree, l6Any. -/
import Derived.Test.YtcahncppkolkbaaDrawMore
import Derived.Test.YtcahncppkolkbaaTreeDropD
import Derived.Deep.LoopGhost
namespace Go.Proofs.Ytcahncppkolkbaa
open Go.RowKit

set_option maxRecDepth 100000 in
set_option maxHeartbeats 4000000 in
theorem l5Amt_any {W w : World} {cb : Nat} (h : DE W cb w) : Calls Try.prog 36 #[.pointer (some ⟨cb, 0, none⟩)] w fun e w' => ∃ x : Amt, e = .returned (.agg #[.int .i64 (x).p, .int .i64 (x).r, .int .i64 (x).c]) ∧ amtOk x = true ∧ Drew W cb w w' := by
  have hW := h.lt.2
  have HD := hideP ((Drew.refl h).alloc (.cells #[.int .i64 0, .int .i64 0, .int .i64 0] 32))
  have HB := hideP (Blk.new w #[.int .i64 0, .int .i64 0, .int .i64 0] 32)
  clear h
  go_enter Try.func36, Try.ntmps36
  go_wp2_with fail
  refine (de_below 40 (by omega) (by omega) HD.out.1).mono ?_
  rintro e w1 ⟨x, rfl, x0, x1, hd⟩
  have HB := hideP (hd.blk HB.out hW)
  have HD := hideP (HD.out.trans hd)
  clear hd
  go_wp2_with fail
  refine (de_big 400 (by omega) (by omega) HD.out.1).mono ?_
  rintro e w2 ⟨y, rfl, y0, y1, hd⟩
  have HB := hideP (hd.blk HB.out hW)
  have HD := hideP (HD.out.trans hd)
  clear hd
  go_wp2_with fail
  refine (de_below 60 (by omega) (by omega) HD.out.1).mono ?_
  rintro e w3 ⟨z, rfl, z0, z1, hd⟩
  have HB := hideP (hd.blk HB.out hW)
  have HD := hideP (HD.out.trans hd)
  clear hd
  have c0 : w3.cell? ⟨w.heap.size, 0, none⟩ = some (.int .i64 0) := (HB.out.cell 0).trans rfl
  have c1 : w3.cell? ⟨w.heap.size, 1, none⟩ = some (.int .i64 0) := (HB.out.cell 1).trans rfl
  have c2 : w3.cell? ⟨w.heap.size, 2, none⟩ = some (.int .i64 0) := (HB.out.cell 2).trans rfl
  have f0 : w3.frozen? ⟨w.heap.size, 0, none⟩ = false := HB.out.frozen 0
  have f1 : w3.frozen? ⟨w.heap.size, 1, none⟩ = false := HB.out.frozen 1
  have f2 : w3.frozen? ⟨w.heap.size, 2, none⟩ = false := HB.out.frozen 2
  have HX : Hid (amtOk ⟨x, y, z⟩ = true) := hideP (amtOk_iff.2 (by dsimp only; omega))
  have HF := hideP (((HD.out.set (g := w.heap.size) (i := 0) (v := .int .i64 x) hW (Nat.le_refl _)).set (g := w.heap.size) (i := 1) (v := .int .i64 y) hW (Nat.le_refl _)).set (g := w.heap.size) (i := 2) (v := .int .i64 z) hW (Nat.le_refl _))
  clear HB
  go_wp2
  exact bodyPost_ret (v := .agg #[.int .i64 x, .int .i64 y, .int .i64 z]) (by simp [results, Try.results36, go_sem, c0, c1, c2]) rfl ⟨⟨x, y, z⟩, rfl, HX.out, HF.out⟩
/-- A tree drawn. -/
def TreeDrawn (W : World) (cb : Nat) (m : Nat) (e : Ending) (w' : World) : Prop := ∃ (v : Value) (t : List Res), e = .returned v ∧ t.length ≤ 5 ∧ m ≤ t.length ∧ DAcc W cb 45 5 t.length (t.flatMap Res.enc) v w'
set_option maxRecDepth 100000 in
set_option maxHeartbeats 4000000 in
theorem l6Tree_any {W w : World} {cb : Nat} (h : DW W cb w) : Calls Try.prog 25 #[.pointer (some ⟨cb, 0, none⟩)] w (TreeDrawn W cb 5) := by
  have H0 := Lib.hid h
  clear h
  go_enter Try.func25, Try.ntmps25
  go_wp2_with fail
  refine (l5Amt_any H0.out.de).mono ?_
  rintro e w1 ⟨x, rfl, hx, hd⟩
  have H1 := Lib.hid (H0.out.drew hd)
  have HX := hideP hx
  clear hd hx
  go_wp2_with fail
  refine (treeNew_any x HX.out _).mono ?_
  rintro e w2 ⟨v, t, b, rfl, ht, ho, hb⟩
  have HL := hideP ht
  have H2 : Hid (DAcc W cb 45 5 5 (t.flatMap Res.enc) v w2) := hideP (DAcc.of H1.out ho hb)
  clear ho hb ht
  go_wp2_with fail
  refine (de_below 7 (by omega) (by omega) H2.out.de).mono ?_
  rintro e w3 ⟨y, rfl, y0, y1, hd⟩
  have H3 := hideP (H2.out.drew hd)
  clear hd H2
  go_wp2
  go_loopg [3, 5] 8 (fun gk v iv wr => ∃ (t : List Res) (y : Int), y < gk ∧ 0 ≤ y ∧ y ≤ 6 ∧ iv = .int .i64 y ∧ Hid (t.length = 5) ∧ Hid (DAcc W cb 45 5 5 (t.flatMap Res.enc) v wr))
  case atStart => exact ⟨t, y, by omega, by omega, by omega, rfl, HL, H3⟩
  case round =>
    clear H3 HL y0 y1 H1 H0
    obtain ⟨t, y, hgk, y0, y1, rfl, HL, HA⟩ := hrel
    by_cases hp : 0 < y
    · obtain ⟨sa, sc, rfl, _⟩ := HA.out.slice
      go_wp2_with fail
      refine (de_below 5 (by omega) (by omega) HA.out.de).mono ?_
      rintro e w4 ⟨k, rfl, k0, k1, hd⟩
      have HA := hideP (HA.out.drew hd)
      clear hd
      go_wp2_with fail
      refine (de_onceB 4 (by omega) (by omega) HA.out.de).mono ?_
      rintro e w5 ⟨b, rfl, hd⟩
      have HA := hideP (HA.out.drew hd)
      clear hd
      cases b
      · go_wp2_with fail
        refine (de_below 8 (by omega) (by omega) HA.out.de).mono ?_
        rintro e w6 ⟨p, rfl, p0, p1, hd⟩
        have HA := hideP (HA.out.drew hd)
        clear hd
        go_wp2_with fail
        refine (de_below 50 (by omega) (by omega) HA.out.de).mono ?_
        rintro e w7 ⟨r, rfl, r0, r1, hd⟩
        have HA := hideP (HA.out.drew hd)
        clear hd
        go_wp2_with fail
        refine (de_below 9 (by omega) (by omega) HA.out.de).mono ?_
        rintro e w8 ⟨c, rfl, c0, c1, hd⟩
        have HA := hideP (HA.out.drew hd)
        clear hd
        go_wp2_with fail
        refine (treeSplit_any _ 5 _ t k ⟨p, r, c⟩ HL.out.symm (by decide) _ (rd_of_owns HA.out.1)).mono ?_
        rintro e w9 ⟨v9, t9, q9, b9, rfl, hl9, ho9, hb9⟩
        have HL9 := hideP hl9
        have HA9 := hideP (DAcc.of HA.out.dw ho9 hb9)
        clear hl9 ho9 hb9
        go_wp2
        go_roundg (gk - 1)
        case measure => omega
        case rel => exact ⟨t9, y - 1, by omega, by omega, by omega, by go_num, HL9, HA9⟩
      · go_wp2_with fail
        refine (treeDrop_any _ 5 _ t k HL.out.symm (by decide) _ (rd_of_owns HA.out.1)).mono ?_
        rintro e w9 ⟨v9, t9, b9, rfl, hl9, ho9, hb9⟩
        have HL9 := hideP hl9
        have HA9 := hideP (DAcc.of HA.out.dw ho9 hb9)
        clear hl9 ho9 hb9
        go_wp2
        go_roundg (gk - 1)
        case measure => omega
        case rel => exact ⟨t9, y - 1, by omega, by omega, by omega, by go_num, HL9, HA9⟩
    · have d1 : ¬ (0 < y) := hp
      go_wp2
      go_ret
      refine ⟨_, t, rfl, by have := HL.out; omega, by have := HL.out; omega, ?_⟩
      rw [HL.out]
      exact HA.out
set_option maxRecDepth 100000 in
set_option maxHeartbeats 4000000 in
theorem l6Any_any {W w : World} {cb : Nat} (h : DW W cb w) : Calls Try.prog 13 #[.pointer (some ⟨cb, 0, none⟩)] w (TreeDrawn W cb 0) := by
  have H0 := Lib.hid h
  clear h
  go_enter Try.func13, Try.ntmps13
  go_wp2_with fail
  refine (l6Tree_any H0.out).mono ?_
  rintro e w1 ⟨v, t, rfl, hl5, hl0, hA⟩
  have hl : t.length = 5 := by omega
  rw [hl] at hA
  have H1 := Lib.hid hA
  have HL := hideP hl
  clear hA hl5 hl0
  obtain ⟨g, c, rfl, hg, _⟩ := DAcc.block H1.out (by omega)
  have HC : Hid (5 ≤ c) := hideP (by
    obtain ⟨a', c', he, h'⟩ := owns_slice H1.out.1
    cases he
    exact h')
  go_wp2_with fail
  refine (de_below 5 (by omega) (by omega) H1.out.de).mono ?_
  rintro e w2 ⟨kk, rfl, kk0, kk1, hd⟩
  have H2 := Lib.hid (H1.out.drew hd)
  clear hd
  go_wp2_with fail
  refine (de_below 20 (by omega) (by omega) H2.out.de).mono ?_
  rintro e w3 ⟨y, rfl, y0, y1, hd⟩
  have H3 := Lib.hid (H2.out.drew hd)
  clear hd H2 H1
  obtain ⟨k, rfl⟩ := Int.eq_ofNat_of_zero_le kk0
  have hk : k < 5 := by omega
  obtain ⟨x, hx⟩ := some_at (l := t) (k := k) (by omega)
  have Hx := Lib.hid hx
  clear hx hl
  obtain rfl | rfl | rfl | rfl | hy : y = 0 ∨ y = 1 ∨ y = 2 ∨ y = 3 ∨ 4 ≤ y := by omega
  · have hkc : k ≤ c := by have := HC.out; omega
    go_wp2
    go_ret
    refine ⟨_, t.take k, rfl, by rw [List.length_take, HL.out]; omega, Nat.zero_le _, ?_⟩
    have h2 := (DAcc.take H3.out (k := k) (by omega)).cast (n' := (t.take k).length) (by rw [List.length_take, HL.out]; omega)
    exact h2.castx (take_rows Res.enc_len t k)
  · go_wp2_with fail
    refine (de_below 7 (by omega) (by omega) H3.out.de).mono ?_
    rintro e w4 ⟨z, rfl, z0, z1, hd⟩
    have H4 := Lib.hid (H3.out.drew hd)
    clear hd
    obtain ⟨c0, f0⟩ := DAcc.cell Res.enc_len (j := 1) H4.out Hx.out rfl
    have HF := hideP (DAcc.setField (x' := ⟨x.live, z - 1, x.bal⟩) (j := 1) (u := .int .i64 (z - 1)) Res.enc_len H4.out hg Hx.out (by decide) rfl)
    go_wp2
    go_ret
    exact ⟨_, _, rfl, by rw [List.length_set, HL.out]; omega, Nat.zero_le _, HF.out.cast (by rw [List.length_set, HL.out])⟩
  · obtain ⟨c0, f0⟩ := DAcc.cell Res.enc_len (j := 0) H3.out Hx.out rfl
    simp only [Nat.add_zero] at c0 f0
    have HF := hideP (DAcc.setField (x' := ⟨!x.live, x.par, x.bal⟩) (j := 0) (u := .bool (!x.live)) Res.enc_len H3.out hg Hx.out (by decide) rfl)
    go_wp2
    go_ret
    exact ⟨_, _, rfl, by rw [List.length_set, HL.out]; omega, Nat.zero_le _, HF.out.cast (by rw [List.length_set, HL.out])⟩
  · have hcb := H3.out.de.lt
    obtain ⟨hcb1, hcb2⟩ := hcb
    go_wp2_with fail
    refine (de_pick [-1, 1000001, 1000000] 3 rfl (by decide) (by decide) (H3.out.alloc _).de (lit_cells _ [-1, 1000001, 1000000] 3) (by omega)).mono ?_
    rintro e w4 ⟨z, _, rfl, hd⟩
    have H4 := Lib.hid ((H3.out.alloc _).drew hd)
    clear hd
    obtain ⟨c0, f0⟩ := DAcc.cell Res.enc_len (j := 3) H4.out Hx.out rfl
    have HF := hideP (DAcc.setField (x' := ⟨x.live, x.par, ⟨x.bal.p, z, x.bal.c⟩⟩) (j := 3) (u := .int .i64 z) Res.enc_len H4.out hg Hx.out (by decide) rfl)
    go_wp2
    go_ret
    exact ⟨_, _, rfl, by rw [List.length_set, HL.out]; omega, Nat.zero_le _, HF.out.cast (by rw [List.length_set, HL.out])⟩
  · have d0 : (y == 0) = false := by simp; omega
    have d1 : (y == 1) = false := by simp; omega
    have d2 : (y == 2) = false := by simp; omega
    have d3 : (y == 3) = false := by simp; omega
    go_wp2
    go_ret
    exact ⟨_, t, rfl, by rw [HL.out]; omega, Nat.zero_le _, H3.out.cast HL.out.symm⟩

end Go.Proofs.Ytcahncppkolkbaa
