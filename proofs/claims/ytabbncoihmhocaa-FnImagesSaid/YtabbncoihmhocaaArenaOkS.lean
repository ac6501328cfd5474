/- ArenaOk of the reference. -/
import Derived.Test.YtabbncoihmhocaaArenaPure
import Derived.Test.YtabbncoihmhocaaThingOkS
import Derived.Deep.LoopGhost
import Derived.Deep.DeepCutAuto
namespace Go.Proofs.Ytabbncoihmhocaa
open Go.RowKit

set_option maxRecDepth 100000 in
set_option maxHeartbeats 8000000 in
theorem specArenaOk_any (l : List Thing) (p : Option Addr) (c : Nat) (hl : l.length ≤ 1048576) (hs : Short 1048576 l) (w : World) (h : ThingsRd w p l) :
    Calls Try.prog 17 #[.slice p l.length c] w fun e w' => e = .returned (.bool (arenaOk l)) ∧ Below w.heap.size w w' := by
  have HR := hideP h
  have HS := hideP hs
  clear h hs
  by_cases h10 : l.length = 10
  rotate_left
  · have HN : Hid (arenaOk l = false) := hideP (arena_len h10)
    have d1 : ((l.length : Int) != 10) = true := by simp; omega
    clear h10
    go_enter Try.func17, Try.ntmps17
    go_wp2
    go_ret
    exact ⟨ret_bool HN.out.symm, Below.refl _ _⟩
  have d1 : ((l.length : Int) != 10) = false := by simp [h10]
  have HLN := hideP h10
  have hl10 : l.length ≤ 10 := by omega
  have hl11 : 10 ≤ l.length := by omega
  have hl12 : 0 < l.length := by omega
  obtain ⟨x0, hx0⟩ := some_at (l := l) (k := 0) hl12
  obtain ⟨b, o, v0, v1, v2, rfl, hbw, _, hz0⟩ := HR.out 0 x0 hx0
  have HX0 := hideP hx0
  have g1 : w.cell? ⟨b, o + 1, none⟩ = some (.int .i64 x0.kind) := by have := hz0 1 _ rfl; simpa using this
  have g2 : w.cell? ⟨b, o + 2, none⟩ = some (.int .i64 x0.box) := by have := hz0 2 _ rfl; simpa using this
  have g4 : w.cell? ⟨b, o + 4, none⟩ = some (.int .i64 x0.til) := by have := hz0 4 _ rfl; simpa using this
  clear hz0 hx0 h10
  by_cases h2 : x0.kind = 1
  rotate_left
  · have HN : Hid (arenaOk l = false) := hideP (arena_head HX0.out (.inl h2))
    have d2 : (x0.kind != 1) = true := by simpa using h2
    clear h2
    go_enter Try.func17, Try.ntmps17
    go_wp2
    go_ret
    exact ⟨ret_bool HN.out.symm, Below.refl _ _⟩
  have d2 : (x0.kind != 1) = false := by simp [h2]
  by_cases h3 : x0.box = -1
  rotate_left
  · have HN : Hid (arenaOk l = false) := hideP (arena_head HX0.out (.inr (.inl h3)))
    have d3 : (x0.box != -1) = true := by simpa using h3
    clear h2 h3
    go_enter Try.func17, Try.ntmps17
    go_wp2
    go_ret
    exact ⟨ret_bool HN.out.symm, Below.refl _ _⟩
  have d3 : (x0.box != -1) = false := by simp [h3]
  by_cases h4 : x0.til = 1000000
  rotate_left
  · have HN : Hid (arenaOk l = false) := hideP (arena_head HX0.out (.inr (.inr h4)))
    have d4 : (x0.til != 1000000) = true := by simpa using h4
    clear h2 h3 h4
    go_enter Try.func17, Try.ntmps17
    go_wp2
    go_ret
    exact ⟨ret_bool HN.out.symm, Below.refl _ _⟩
  have d4 : (x0.til != 1000000) = false := by simp [h4]
  have HG : Hid (∀ k, AllTo (slotOk l) l k → l.length ≤ k → arenaOk l = true) := hideP (fun k ha hk => arena_good HLN.out HX0.out h2 h3 h4 ha hk)
  clear h2 h3 h4
  go_enter Try.func17, Try.ntmps17
  go_wp2
  clear d1 d2 d3 d4 g1 g2 g4
  go_loopg [3] (l.length + 1) (fun gk i wr => ∃ (k : Nat), l.length < gk + k ∧ k ≤ l.length ∧ i = .int .i64 (k : Int) ∧ Hid (AllTo (slotOk l) l k) ∧ Hid (Below w.heap.size w wr))
  case atStart => exact ⟨0, by omega, by omega, rfl, hideP (AllTo.zero _ _), hideP (Below.refl _ _)⟩
  case round =>
    obtain ⟨k, hgk, hk, rfl, hat, HB⟩ := hrel
    obtain ⟨gko, rfl⟩ : ∃ g, g = gk := ⟨_, rfl⟩
    by_cases hlt : k < l.length
    · obtain ⟨x, hx⟩ := some_at (l := l) (k := k) hlt
      obtain ⟨b', o', vl, vd, vq, e', hbr, hth, hz9⟩ := HR.out.below HB.out k x hx
      cases e'
      obtain ⟨⟨s1, s2, s3⟩, hw⟩ := HS.out x (List.mem_of_getElem? hx)
      have g0 : World.cell? _ ⟨b, o + k * 13, none⟩ = some (.int .i64 x.gen) := hz9 0 _ rfl
      have g1 : World.cell? _ ⟨b, o + k * 13 + 1, none⟩ = some (.int .i64 x.kind) := hz9 1 _ rfl
      have g2 : World.cell? _ ⟨b, o + k * 13 + 2, none⟩ = some (.int .i64 x.box) := hz9 2 _ rfl
      have g3 : World.cell? _ ⟨b, o + k * 13 + 3, none⟩ = some (.int .i64 x.res) := hz9 3 _ rfl
      have g4 : World.cell? _ ⟨b, o + k * 13 + 4, none⟩ = some (.int .i64 x.til) := hz9 4 _ rfl
      have g5 : World.cell? _ ⟨b, o + k * 13 + 5, none⟩ = some (.int .i64 x.pages) := hz9 5 _ rfl
      have g6 : World.cell? _ ⟨b, o + k * 13 + 6, none⟩ = some (.int .i64 x.wait) := hz9 6 _ rfl
      have g7 : World.cell? _ ⟨b, o + k * 13 + 7, none⟩ = some (.int .i64 x.got) := hz9 7 _ rfl
      have g8 : World.cell? _ ⟨b, o + k * 13 + 8, none⟩ = some (.int .i64 x.ran) := hz9 8 _ rfl
      have g9 : World.cell? _ ⟨b, o + k * 13 + 9, none⟩ = some (.bool x.mark) := hz9 9 _ rfl
      have g10 : World.cell? _ ⟨b, o + k * 13 + 10, none⟩ = some (vl) := hz9 10 _ rfl
      have g11 : World.cell? _ ⟨b, o + k * 13 + 11, none⟩ = some (vd) := hz9 11 _ rfl
      have g12 : World.cell? _ ⟨b, o + k * 13 + 12, none⟩ = some (vq) := hz9 12 _ rfl
      have k0 : (0 : Int) ≤ (k : Int) := by omega
      have k1 : (k : Int) < (l.length : Int) := by omega
      have HX := hideP hx
      have HT := hideP hth
      clear hx hz9 hth
      go_wp2_with fail
      refine (specThingOk_any x vl vd vq s1 s2 s3 hw _ HT.out).mono ?_
      rintro e w1 ⟨rfl, hq1⟩
      have hb1 : Below wr.heap.size wr w1 := hq1 ▸ below_a1 _ _
      clear hq1
      have HB := hideP (HB.out.trans (hb1.mono HB.out.size))
      have c1 := (hb1.cell (p := ⟨b, _, none⟩) hbr).trans g1
      have c2 := (hb1.cell (p := ⟨b, _, none⟩) hbr).trans g2
      clear hb1 HT g0 g1 g2 g3 g4 g5 g6 g7 g8 g9 g10 g11 g12
      cases tg : thingOk x
      · have HN : Hid (arenaOk l = false) := hideP (arena_bad HX.out (slot_bad1 tg))
        clear tg
        go_wp2
        go_ret
        exact ⟨ret_bool HN.out.symm, HB.out⟩
      have HTG := hideP tg
      clear tg
      by_cases hkd : x.kind = 0
      · have HBB := hideP (boxBad_no (l := l) (k := k) (x := x) (.inr (.inl hkd)))
        have dk : (x.kind != 0) = false := by simp [hkd]
        clear hkd
        
        have hb1z := HB.out
        clear hb1z
        go_wp2
        go_loopg [4] (x.links.length + 1) (fun gk1 i wr2 => ∃ (j : Nat), x.links.length < gk1 + j ∧ j ≤ x.links.length ∧ i = .int .i64 (j : Int) ∧ Hid (x.links.all (linkB l) = (x.links.drop j).all (linkB l)) ∧ Hid (Below w.heap.size w wr2))
        case atStart => exact ⟨0, by omega, by omega, rfl, hideP rfl, HB⟩
        case round =>
          clear HB
          obtain ⟨j, hgj, hj, rfl, hall, HB⟩ := hrel
          obtain ⟨b', o', vl', vd', vq', e', _, hth', hz'⟩ := HR.out.below HB.out k x HX.out
          cases e'
          obtain ⟨⟨al, cl, rfl, _, hrl⟩, _, _⟩ := hth'
          have g10 : World.cell? _ ⟨b, o + k * 13 + 10, none⟩ = some (.slice al x.links.length cl) := hz' 10 _ rfl
          clear hz'
          have HRL := hideP hrl
          clear hrl
          by_cases hlj : j < x.links.length
          · obtain ⟨y, hy⟩ := some_at (l := x.links) (k := j) hlj
            obtain ⟨yb, yo, rfl, hyb, gy⟩ := rdInt HRL.out hy
            obtain ⟨y0, y9⟩ := thing_link HTG.out hy
            have HY := hideP hy
            clear hy
            have j0 : (0 : Int) ≤ (j : Int) := by omega
            have j1 : (j : Int) < (x.links.length : Int) := by omega
            by_cases hy0 : 0 ≤ y
            · obtain ⟨m, rfl⟩ := Int.eq_ofNat_of_zero_le hy0
              obtain ⟨Z, hZ⟩ := some_at (l := l) (k := m) (by omega)
              have gz := (HR.out.below HB.out).kind hZ
              have m1 : (m : Int) < (l.length : Int) := by omega
              have HZ := hideP hZ
              clear hZ
              by_cases hz : Z.kind = 0
              · have HN : Hid (arenaOk l = false) := hideP (arena_bad HX.out (slot_bad3 (all_bad hall.out HY.out (linkB_no HZ.out hz))))
                have dz : (Z.kind == 0) = true := by simp [hz]
                clear hz hall
                go_wp2
                go_ret
                exact ⟨ret_bool HN.out.symm, HB.out⟩
              · have HA : Hid (x.links.all (linkB l) = (x.links.drop (j + 1)).all (linkB l)) := hideP (all_good hall.out HY.out (linkB_yes HZ.out hz))
                have dz : (Z.kind == 0) = false := by simp [hz]
                clear hz hall
                go_wp2
                go_roundg (gk - 1)
                case measure => omega
                case rel => exact ⟨j + 1, by omega, by omega, by go_num, HA, HB⟩
            · have HA : Hid (x.links.all (linkB l) = (x.links.drop (j + 1)).all (linkB l)) := hideP (all_good hall.out HY.out (linkB_neg l hy0))
              clear hall
              go_wp2
              go_roundg (gk - 1)
              case measure => omega
              case rel => exact ⟨j + 1, by omega, by omega, by go_num, HA, HB⟩
          · have HA : Hid (AllTo (slotOk l) l (k + 1)) := hideP (hat.out.next HX.out (slot_good HTG.out HBB.out (all_end hall.out (by omega))))
            have d1 : ¬ ((j : Int) < (x.links.length : Int)) := by omega
            clear hall
            go_wp2
            go_roundg (gko - 1)
            case measure => omega
            case rel => exact ⟨k + 1, by omega, by omega, by go_num, HA, HB⟩
      have dk : (x.kind != 0) = true := by simpa using hkd
      obtain ⟨bx0, bx9⟩ := thing_box HTG.out hkd
      rcases Nat.eq_zero_or_pos k with hkp | hkp
      · have HBB := hideP (boxBad_no (l := l) (k := k) (x := x) (.inl hkp))
        clear hkd
        have dp : decide (0 < k) = false := by simp [hkp]
        have dp1 : ¬ (0 < k) := by omega
        have dp2 : ¬ ((0 : Int) < (k : Int)) := by omega
        clear hkp
        have hb1z := HB.out
        clear hb1z
        go_wp2
        go_loopg [4] (x.links.length + 1) (fun gk1 i wr2 => ∃ (j : Nat), x.links.length < gk1 + j ∧ j ≤ x.links.length ∧ i = .int .i64 (j : Int) ∧ Hid (x.links.all (linkB l) = (x.links.drop j).all (linkB l)) ∧ Hid (Below w.heap.size w wr2))
        case atStart => exact ⟨0, by omega, by omega, rfl, hideP rfl, HB⟩
        case round =>
          clear HB
          obtain ⟨j, hgj, hj, rfl, hall, HB⟩ := hrel
          obtain ⟨b', o', vl', vd', vq', e', _, hth', hz'⟩ := HR.out.below HB.out k x HX.out
          cases e'
          obtain ⟨⟨al, cl, rfl, _, hrl⟩, _, _⟩ := hth'
          have g10 : World.cell? _ ⟨b, o + k * 13 + 10, none⟩ = some (.slice al x.links.length cl) := hz' 10 _ rfl
          clear hz'
          have HRL := hideP hrl
          clear hrl
          by_cases hlj : j < x.links.length
          · obtain ⟨y, hy⟩ := some_at (l := x.links) (k := j) hlj
            obtain ⟨yb, yo, rfl, hyb, gy⟩ := rdInt HRL.out hy
            obtain ⟨y0, y9⟩ := thing_link HTG.out hy
            have HY := hideP hy
            clear hy
            have j0 : (0 : Int) ≤ (j : Int) := by omega
            have j1 : (j : Int) < (x.links.length : Int) := by omega
            by_cases hy0 : 0 ≤ y
            · obtain ⟨m, rfl⟩ := Int.eq_ofNat_of_zero_le hy0
              obtain ⟨Z, hZ⟩ := some_at (l := l) (k := m) (by omega)
              have gz := (HR.out.below HB.out).kind hZ
              have m1 : (m : Int) < (l.length : Int) := by omega
              have HZ := hideP hZ
              clear hZ
              by_cases hz : Z.kind = 0
              · have HN : Hid (arenaOk l = false) := hideP (arena_bad HX.out (slot_bad3 (all_bad hall.out HY.out (linkB_no HZ.out hz))))
                have dz : (Z.kind == 0) = true := by simp [hz]
                clear hz hall
                go_wp2
                go_ret
                exact ⟨ret_bool HN.out.symm, HB.out⟩
              · have HA : Hid (x.links.all (linkB l) = (x.links.drop (j + 1)).all (linkB l)) := hideP (all_good hall.out HY.out (linkB_yes HZ.out hz))
                have dz : (Z.kind == 0) = false := by simp [hz]
                clear hz hall
                go_wp2
                go_roundg (gk - 1)
                case measure => omega
                case rel => exact ⟨j + 1, by omega, by omega, by go_num, HA, HB⟩
            · have HA : Hid (x.links.all (linkB l) = (x.links.drop (j + 1)).all (linkB l)) := hideP (all_good hall.out HY.out (linkB_neg l hy0))
              clear hall
              go_wp2
              go_roundg (gk - 1)
              case measure => omega
              case rel => exact ⟨j + 1, by omega, by omega, by go_num, HA, HB⟩
          · have HA : Hid (AllTo (slotOk l) l (k + 1)) := hideP (hat.out.next HX.out (slot_good HTG.out HBB.out (all_end hall.out (by omega))))
            have d1 : ¬ ((j : Int) < (x.links.length : Int)) := by omega
            clear hall
            go_wp2
            go_roundg (gko - 1)
            case measure => omega
            case rel => exact ⟨k + 1, by omega, by omega, by go_num, HA, HB⟩
      have dp : decide (0 < k) = true := by simpa using hkp
      have dp2 : (0 : Int) < (k : Int) := by omega
      by_cases hbx : 0 ≤ x.box
      rotate_left
      · have HBB := hideP (boxBad_no (l := l) (k := k) (x := x) (.inr (.inr (.inl (by omega)))))
        clear hkd
        have hb1z := HB.out
        clear hb1z
        go_wp2
        go_loopg [4] (x.links.length + 1) (fun gk1 i wr2 => ∃ (j : Nat), x.links.length < gk1 + j ∧ j ≤ x.links.length ∧ i = .int .i64 (j : Int) ∧ Hid (x.links.all (linkB l) = (x.links.drop j).all (linkB l)) ∧ Hid (Below w.heap.size w wr2))
        case atStart => exact ⟨0, by omega, by omega, rfl, hideP rfl, HB⟩
        case round =>
          clear HB
          obtain ⟨j, hgj, hj, rfl, hall, HB⟩ := hrel
          obtain ⟨b', o', vl', vd', vq', e', _, hth', hz'⟩ := HR.out.below HB.out k x HX.out
          cases e'
          obtain ⟨⟨al, cl, rfl, _, hrl⟩, _, _⟩ := hth'
          have g10 : World.cell? _ ⟨b, o + k * 13 + 10, none⟩ = some (.slice al x.links.length cl) := hz' 10 _ rfl
          clear hz'
          have HRL := hideP hrl
          clear hrl
          by_cases hlj : j < x.links.length
          · obtain ⟨y, hy⟩ := some_at (l := x.links) (k := j) hlj
            obtain ⟨yb, yo, rfl, hyb, gy⟩ := rdInt HRL.out hy
            obtain ⟨y0, y9⟩ := thing_link HTG.out hy
            have HY := hideP hy
            clear hy
            have j0 : (0 : Int) ≤ (j : Int) := by omega
            have j1 : (j : Int) < (x.links.length : Int) := by omega
            by_cases hy0 : 0 ≤ y
            · obtain ⟨m, rfl⟩ := Int.eq_ofNat_of_zero_le hy0
              obtain ⟨Z, hZ⟩ := some_at (l := l) (k := m) (by omega)
              have gz := (HR.out.below HB.out).kind hZ
              have m1 : (m : Int) < (l.length : Int) := by omega
              have HZ := hideP hZ
              clear hZ
              by_cases hz : Z.kind = 0
              · have HN : Hid (arenaOk l = false) := hideP (arena_bad HX.out (slot_bad3 (all_bad hall.out HY.out (linkB_no HZ.out hz))))
                have dz : (Z.kind == 0) = true := by simp [hz]
                clear hz hall
                go_wp2
                go_ret
                exact ⟨ret_bool HN.out.symm, HB.out⟩
              · have HA : Hid (x.links.all (linkB l) = (x.links.drop (j + 1)).all (linkB l)) := hideP (all_good hall.out HY.out (linkB_yes HZ.out hz))
                have dz : (Z.kind == 0) = false := by simp [hz]
                clear hz hall
                go_wp2
                go_roundg (gk - 1)
                case measure => omega
                case rel => exact ⟨j + 1, by omega, by omega, by go_num, HA, HB⟩
            · have HA : Hid (x.links.all (linkB l) = (x.links.drop (j + 1)).all (linkB l)) := hideP (all_good hall.out HY.out (linkB_neg l hy0))
              clear hall
              go_wp2
              go_roundg (gk - 1)
              case measure => omega
              case rel => exact ⟨j + 1, by omega, by omega, by go_num, HA, HB⟩
          · have HA : Hid (AllTo (slotOk l) l (k + 1)) := hideP (hat.out.next HX.out (slot_good HTG.out HBB.out (all_end hall.out (by omega))))
            have d1 : ¬ ((j : Int) < (x.links.length : Int)) := by omega
            clear hall
            go_wp2
            go_roundg (gko - 1)
            case measure => omega
            case rel => exact ⟨k + 1, by omega, by omega, by go_num, HA, HB⟩
      obtain ⟨m, hm⟩ := Int.eq_ofNat_of_zero_le hbx
      obtain ⟨Y, hY⟩ := some_at (l := l) (k := m) (by omega)
      have gy := (HR.out.below HB.out).kind hY
      have m1 : (m : Int) < (l.length : Int) := by omega
      by_cases hYk : Y.kind = 0
      · have HN : Hid (arenaOk l = false) := hideP (arena_bad HX.out (slot_bad2 (boxBad_yes hkp hkd hm hY hYk)))
        have dy : (Y.kind == 0) = true := by simp [hYk]
        rw [hm] at c2
        clear hkd hm hY hYk hbx bx0 bx9
        go_wp2
        go_ret
        exact ⟨ret_bool HN.out.symm, HB.out⟩
      · have HBB := hideP (boxBad_no (l := l) (k := k) (x := x) (.inr (.inr (.inr ⟨m, Y, hm, hY, hYk⟩))))
        have dy : (Y.kind == 0) = false := by simp [hYk]
        rw [hm] at c2
        clear hkd hm hY hYk hbx bx0 bx9
        have hb1z := HB.out
        clear hb1z
        go_wp2
        go_loopg [4] (x.links.length + 1) (fun gk1 i wr2 => ∃ (j : Nat), x.links.length < gk1 + j ∧ j ≤ x.links.length ∧ i = .int .i64 (j : Int) ∧ Hid (x.links.all (linkB l) = (x.links.drop j).all (linkB l)) ∧ Hid (Below w.heap.size w wr2))
        case atStart => exact ⟨0, by omega, by omega, rfl, hideP rfl, HB⟩
        case round =>
          clear HB
          obtain ⟨j, hgj, hj, rfl, hall, HB⟩ := hrel
          obtain ⟨b', o', vl', vd', vq', e', _, hth', hz'⟩ := HR.out.below HB.out k x HX.out
          cases e'
          obtain ⟨⟨al, cl, rfl, _, hrl⟩, _, _⟩ := hth'
          have g10 : World.cell? _ ⟨b, o + k * 13 + 10, none⟩ = some (.slice al x.links.length cl) := hz' 10 _ rfl
          clear hz'
          have HRL := hideP hrl
          clear hrl
          by_cases hlj : j < x.links.length
          · obtain ⟨y, hy⟩ := some_at (l := x.links) (k := j) hlj
            obtain ⟨yb, yo, rfl, hyb, gy⟩ := rdInt HRL.out hy
            obtain ⟨y0, y9⟩ := thing_link HTG.out hy
            have HY := hideP hy
            clear hy
            have j0 : (0 : Int) ≤ (j : Int) := by omega
            have j1 : (j : Int) < (x.links.length : Int) := by omega
            by_cases hy0 : 0 ≤ y
            · obtain ⟨m, rfl⟩ := Int.eq_ofNat_of_zero_le hy0
              obtain ⟨Z, hZ⟩ := some_at (l := l) (k := m) (by omega)
              have gz := (HR.out.below HB.out).kind hZ
              have m1 : (m : Int) < (l.length : Int) := by omega
              have HZ := hideP hZ
              clear hZ
              by_cases hz : Z.kind = 0
              · have HN : Hid (arenaOk l = false) := hideP (arena_bad HX.out (slot_bad3 (all_bad hall.out HY.out (linkB_no HZ.out hz))))
                have dz : (Z.kind == 0) = true := by simp [hz]
                clear hz hall
                go_wp2
                go_ret
                exact ⟨ret_bool HN.out.symm, HB.out⟩
              · have HA : Hid (x.links.all (linkB l) = (x.links.drop (j + 1)).all (linkB l)) := hideP (all_good hall.out HY.out (linkB_yes HZ.out hz))
                have dz : (Z.kind == 0) = false := by simp [hz]
                clear hz hall
                go_wp2
                go_roundg (gk - 1)
                case measure => omega
                case rel => exact ⟨j + 1, by omega, by omega, by go_num, HA, HB⟩
            · have HA : Hid (x.links.all (linkB l) = (x.links.drop (j + 1)).all (linkB l)) := hideP (all_good hall.out HY.out (linkB_neg l hy0))
              clear hall
              go_wp2
              go_roundg (gk - 1)
              case measure => omega
              case rel => exact ⟨j + 1, by omega, by omega, by go_num, HA, HB⟩
          · have HA : Hid (AllTo (slotOk l) l (k + 1)) := hideP (hat.out.next HX.out (slot_good HTG.out HBB.out (all_end hall.out (by omega))))
            have d1 : ¬ ((j : Int) < (x.links.length : Int)) := by omega
            clear hall
            go_wp2
            go_roundg (gko - 1)
            case measure => omega
            case rel => exact ⟨k + 1, by omega, by omega, by go_num, HA, HB⟩
    · have HN := hideP (HG.out k hat.out (by omega))
      have d1 : ¬ ((k : Int) < (l.length : Int)) := by omega
      go_wp2
      go_ret
      exact ⟨ret_bool HN.out.symm, HB.out⟩

end Go.Proofs.Ytabbncoihmhocaa
