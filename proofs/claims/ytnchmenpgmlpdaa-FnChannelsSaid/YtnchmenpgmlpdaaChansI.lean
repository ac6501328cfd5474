/- Channels of the program. -/
import Derived.Test.YtnchmenpgmlpdaaChansS
import Derived.Deep.DeepCutAuto
namespace Go.Proofs.Ytnchmenpgmlpdaa
open Go.RowKit

set_option maxRecDepth 100000 in
set_option maxHeartbeats 8000000 in
theorem implChannels_any (owned : Bool) (l : List Boot) (p : Option Addr) (c : Nat) (hl : l.length ≤ maxLen) (w : World) (h : BootsRd w p l) :
    Calls Try.prog 16 #[.slice p l.length c, .bool owned] w (OwnRet w 52 2 (channels owned l).length ((channels owned l).flatMap Chan.enc)) := by
  obtain ⟨i0, hi, hz0, hz1, hz2⟩ := info_parts Try.infoChan
  have HR := hideP h
  clear h
  have hb0 := below_a1 w (.cells #[] 52)
  have RB := hideP (HR.out.below hb0)
  go_enter Try.func16, Try.ntmps16
  go_wp2_with fail
  refine (implBootOk_any l p c hl _ RB.out).mono ?_
  rintro e w1 ⟨rfl, hb1⟩
  have HC : Hid (ChAcc w [] (.slice (some ⟨w.heap.size, 0, none⟩) 0 0) w1) := hideP (Acc.below (Acc.nil (Below.refl _ _) rfl) hb1)
  clear hb1 hb0 RB
  cases tk : bootOk l
  · have HN : Hid (channels owned l = []) := hideP (by unfold channels; rw [tk]; rfl)
    go_wp2
    go_ret
    rw [HN.out]
    exact Acc.ret HC.out
  · have HN : Hid (channels owned l = chRows owned l l.length) := hideP (by unfold channels; rw [tk]; rfl)
    obtain ⟨hl1, hl3⟩ := bootOk_len tk
    clear tk
    go_wp2
    go_loopg [5, 18] (l.length + 1) (fun gk v i wr => ∃ (k : Nat), l.length < gk + k ∧ k ≤ l.length ∧ i = .int .i64 (k : Int) ∧ Hid (ChAcc w (chRows owned l k) v wr))
    case atStart => exact ⟨0, by omega, by omega, rfl, HC⟩
    case round =>
      clear HC
      obtain ⟨k, hgk, hk, rfl, hacc⟩ := hrel
      obtain ⟨gko, rfl⟩ : ∃ g, g = gk := ⟨_, rfl⟩
      by_cases hlt : k < l.length
      · obtain ⟨x, hx⟩ := some_at (l := l) (k := k) hlt
        have HX0 := hideP hx
        have k0 : (0 : Int) ≤ (k : Int) := by omega
        have k1 : (k : Int) < (l.length : Int) := by omega
        obtain ⟨b, o, al, cl, ao, co, rfl, hbw, r1, r2, m1, m2, g0, g1, g2, g3, g4⟩ := HR.out k x hx
        clear hx
        have g0 := (hacc.out.2.cell (p := ⟨b, _, none⟩) hbw).trans g0
        have g1 := (hacc.out.2.cell (p := ⟨b, _, none⟩) hbw).trans g1
        have g2 := (hacc.out.2.cell (p := ⟨b, _, none⟩) hbw).trans g2
        have g3 := (hacc.out.2.cell (p := ⟨b, _, none⟩) hbw).trans g3
        have g4 := (hacc.out.2.cell (p := ⟨b, _, none⟩) hbw).trans g4
        have r1 := hideP r1
        have r2 := hideP r2
        have hbr : b < wr.heap.size := Nat.lt_of_lt_of_le hbw hacc.out.2.size
        go_upto_region 7 with fail
        have X0 := hideP (Blk.new wr #[.slice al x.lv.length cl, .slice ao x.own.length co, .int .i64 x.a.p, .int .i64 x.a.r, .int .i64 x.a.c] 45)
        replace hacc := hideP (Acc.alloc hacc.out (.cells #[.slice al x.lv.length cl, .slice ao x.own.length co, .int .i64 x.a.p, .int .i64 x.a.r, .int .i64 x.a.c] 45))
        obtain ⟨W, hW⟩ : ∃ W, W = wr.alloc (.cells #[.slice al x.lv.length cl, .slice ao x.own.length co, .int .i64 x.a.p, .int .i64 x.a.r, .int .i64 x.a.c] 45) := ⟨_, rfl⟩
        rw [← hW] at X0 hacc ⊢
        clear hW g0 g1 g2 g3 g4
        obtain ⟨XB, hXB⟩ : ∃ XB, XB = wr.heap.size := ⟨_, rfl⟩
        rw [← hXB] at X0 ⊢
        clear hXB hbr
        have X0 : Hid (Blk W XB 45 [.slice al x.lv.length cl, .slice ao x.own.length co, .int .i64 x.a.p, .int .i64 x.a.r, .int .i64 x.a.c]) := X0
        go_wp2
        go_loopg [5, 25] (l.length + 1) (fun gk v i wr => ∃ (j : Nat) (xs : List Chan), l.length < gk + j ∧ j ≤ l.length ∧ i = .int .i64 (j : Int) ∧ Hid (xs = chRows owned l k ++ chRow owned l k j) ∧ Hid (ChAcc w xs v wr) ∧ Hid (Blk wr XB 45 [.slice al x.lv.length cl, .slice ao x.own.length co, .int .i64 x.a.p, .int .i64 x.a.r, .int .i64 x.a.c]))
        case atStart => exact ⟨0, chRows owned l k, by omega, by omega, rfl, hideP (by simp [chRow]), hacc, X0⟩
        case round =>
          clear hacc X0
          obtain ⟨j, xs, hgj, hj, rfl, hxs, hacc, X0⟩ := hrel
          by_cases hlj : j < l.length
          · have hx := HX0.out
            obtain ⟨y, hy⟩ := some_at (l := l) (k := j) hlj
            have k2 : (0 : Int) ≤ (j : Int) := by omega
            have k3 : (j : Int) < (l.length : Int) := by omega
            obtain ⟨b', o', bl, dl, bo, do9, e', hbw', s1, s2, n1, n2, j0, j1, j2, j3, j4⟩ := HR.out j y hy
            cases e'
            have j0 := (hacc.out.2.cell (p := ⟨b, _, none⟩) hbw).trans j0
            have j1 := (hacc.out.2.cell (p := ⟨b, _, none⟩) hbw).trans j1
            have j2 := (hacc.out.2.cell (p := ⟨b, _, none⟩) hbw).trans j2
            have j3 := (hacc.out.2.cell (p := ⟨b, _, none⟩) hbw).trans j3
            have j4 := (hacc.out.2.cell (p := ⟨b, _, none⟩) hbw).trans j4
            have s1 := hideP s1
            have s2 := hideP s2
            have hbr : b < wr.heap.size := Nat.lt_of_lt_of_le hbw hacc.out.2.size
            go_upto_region 10 with fail
            have Y0 := hideP (Blk.new wr #[.slice bl y.lv.length dl, .slice bo y.own.length do9, .int .i64 y.a.p, .int .i64 y.a.r, .int .i64 y.a.c] 45)
            replace X0 := hideP (X0.out.alloc (.cells #[.slice bl y.lv.length dl, .slice bo y.own.length do9, .int .i64 y.a.p, .int .i64 y.a.r, .int .i64 y.a.c] 45))
            replace hacc := hideP (Acc.alloc hacc.out (.cells #[.slice bl y.lv.length dl, .slice bo y.own.length do9, .int .i64 y.a.p, .int .i64 y.a.r, .int .i64 y.a.c] 45))
            obtain ⟨W2, hW⟩ : ∃ W, W = wr.alloc (.cells #[.slice bl y.lv.length dl, .slice bo y.own.length do9, .int .i64 y.a.p, .int .i64 y.a.r, .int .i64 y.a.c] 45) := ⟨_, rfl⟩
            rw [← hW] at X0 Y0 hacc ⊢
            clear hW j0 j1 j2 j3 j4
            obtain ⟨YB, hYB⟩ : ∃ YB, YB = wr.heap.size := ⟨_, rfl⟩
            rw [← hYB] at Y0 ⊢
            clear hYB hbr
            by_cases hkj : k = j
            · have HX : Hid (xs = chRows owned l k ++ chRow owned l k (j + 1)) := hideP (by rw [hxs.out, chRow_succ, ← hkj, chPick_same, List.append_nil])
              have d1 : ((k : Int) == (j : Int)) = true := by simp [hkj]
              clear hkj hxs hx hy
              go_wp2
              go_roundg (gk - 1)
              case measure => omega
              case rel => exact ⟨j + 1, xs, by omega, by omega, by go_num, HX, hacc, X0⟩
            · have d1 : ((k : Int) == (j : Int)) = false := by simp; omega
              have x0 : W2.cell? ⟨XB, 0, none⟩ = some (.slice al x.lv.length cl) := (X0.out.cell 0).trans rfl
              have x1 : W2.cell? ⟨XB, 1, none⟩ = some (.slice ao x.own.length co) := (X0.out.cell 1).trans rfl
              have y0 : W2.cell? ⟨YB, 0, none⟩ = some (.slice bl y.lv.length dl) := (Y0.out.cell 0).trans rfl
              have y1 : W2.cell? ⟨YB, 1, none⟩ = some (.slice bo y.own.length do9) := (Y0.out.cell 1).trans rfl
              go_wp2_with fail
              refine (implFlows_any x.lv y.lv al cl bl dl m1 n1 _ (r1.out.below hacc.out.2) (s1.out.below hacc.out.2)).mono ?_
              rintro e w2 ⟨rfl, hb2⟩
              clear d1
              replace X0 := hideP (X0.out.below hb2)
              replace Y0 := hideP (Y0.out.below hb2)
              replace hacc := hideP (Acc.below hacc.out hb2)
              clear hb2 x0 x1 y0 y1
              cases owned
              · clear Y0
                cases tf : flows x.lv y.lv
                · have hmf : mayFlow false x y = false := tf
                  have HX : Hid (xs = chRows false l k ++ chRow false l k (j + 1)) := hideP (by rw [hxs.out, chRow_succ, chPick_no hx hy hmf, List.append_nil])
                  clear hxs hx hy
                  go_wp2
                  go_roundg (gk - 1)
                  case measure => omega
                  case rel => exact ⟨j + 1, xs, by omega, by omega, by go_num, HX, hacc, X0⟩
                · have hmf : mayFlow false x y = true := tf
                  have HX : Hid (xs ++ [⟨(k : Int), (j : Int)⟩] = chRows false l k ++ chRow false l k (j + 1)) := hideP (by rw [hxs.out, chRow_succ, chPick_yes hx hy hkj hmf, List.append_assoc])
                  have hxl : xs.length ≤ 20 := by rw [hxs.out, List.length_append]; have h1 := chRows_len false l k; have h2 := chRow_len false l k j; have h3 : k * l.length ≤ 3 * 3 := Nat.mul_le_mul (by omega) hl3; omega
                  clear hxs hx hy
                  go_wp2_with (at_builtin; refine wpList_append_rd _ rfl _ _ 24 rfl w.heap.size 52 i0 (.agg #[.int .i64 0, .int .i64 0]) 2 16 Try.underlying24 hi hz0 hz1 hz2 rfl (by decide) _ _ _ rfl (World.ownsRow.alloc hacc.out.1 _) _ _ _ (Chan.enc ⟨(k : Int), (j : Int)⟩) rfl ?c1 (rd_lit rfl) ?c2 ?c3 ?c4 ?c5 ?_)
                  case c1 => simp [Chan.enc]
                  case c2 => simp [Value.oneCell', Chan.enc]
                  case c3 => unfold maxLen; omega
                  case c4 => omega
                  case c5 => have := hacc.out.2.size; simp; omega
                  intro v9 w9 ho9 hg9
                  have HA9 : Hid (ChAcc w (xs ++ [⟨(k : Int), (j : Int)⟩]) v9 w9) := hideP (ChAcc.snoc ⟨ho9, (hacc.out.2.alloc hacc.out.2.size _).grown hg9 (by have := hacc.out.2.size; simp; omega) (fun q hq => (hacc.out.1.lt q hq).1)⟩)
                  have X9 := hideP ((X0.out.alloc _).kept (hg9.block _ (X0.out.alloc _).lt (fun e => owns_ne_blk hacc.out.1 X0.out (by decide) e.symm)))
                  clear ho9 hg9 hacc X0
                  go_wp2
                  go_roundg (gk - 1)
                  case measure => omega
                  case rel => exact ⟨j + 1, xs ++ [⟨(k : Int), (j : Int)⟩], by omega, by omega, by go_num, HX, HA9, X9⟩
              ·
                have x0 : w2.cell? ⟨XB, 0, none⟩ = some (.slice al x.lv.length cl) := (X0.out.cell 0).trans rfl
                have x1 : w2.cell? ⟨XB, 1, none⟩ = some (.slice ao x.own.length co) := (X0.out.cell 1).trans rfl
                have y0 : w2.cell? ⟨YB, 0, none⟩ = some (.slice bl y.lv.length dl) := (Y0.out.cell 0).trans rfl
                have y1 : w2.cell? ⟨YB, 1, none⟩ = some (.slice bo y.own.length do9) := (Y0.out.cell 1).trans rfl
                go_wp2_with fail
                refine (implFlowsFor_any x.own ao co m2 x.lv y.lv al cl bl dl m1 n1 _ (r2.out.below hacc.out.2) (r1.out.below hacc.out.2) (s1.out.below hacc.out.2)).mono ?_
                rintro e w3 ⟨rfl, hb3⟩
                replace X0 := hideP (X0.out.below hb3)
                replace Y0 := hideP (Y0.out.below hb3)
                replace hacc := hideP (Acc.below hacc.out hb3)
                clear hb3 x0 x1 y0 y1
                cases tf : flowsFor x.own x.lv y.lv
                ·
                  have x0 : w3.cell? ⟨XB, 0, none⟩ = some (.slice al x.lv.length cl) := (X0.out.cell 0).trans rfl
                  have x1 : w3.cell? ⟨XB, 1, none⟩ = some (.slice ao x.own.length co) := (X0.out.cell 1).trans rfl
                  have y0 : w3.cell? ⟨YB, 0, none⟩ = some (.slice bl y.lv.length dl) := (Y0.out.cell 0).trans rfl
                  have y1 : w3.cell? ⟨YB, 1, none⟩ = some (.slice bo y.own.length do9) := (Y0.out.cell 1).trans rfl
                  go_wp2_with fail
                  refine (implFlowsFor_any y.own bo do9 n2 x.lv y.lv al cl bl dl m1 n1 _ (s2.out.below hacc.out.2) (r1.out.below hacc.out.2) (s1.out.below hacc.out.2)).mono ?_
                  rintro e w4 ⟨rfl, hb4⟩
                  replace X0 := hideP (X0.out.below hb4)
                  replace Y0 := hideP (Y0.out.below hb4)
                  replace hacc := hideP (Acc.below hacc.out hb4)
                  clear hb4 x0 x1 y0 y1
                  clear Y0
                  cases tf2 : flowsFor y.own x.lv y.lv
                  · have hmf : mayFlow true x y = false := by unfold mayFlow; rw [if_pos rfl, tf, tf2]; rfl
                    have HX : Hid (xs = chRows true l k ++ chRow true l k (j + 1)) := hideP (by rw [hxs.out, chRow_succ, chPick_no hx hy hmf, List.append_nil])
                    clear hxs hx hy
                    go_wp2
                    go_roundg (gk - 1)
                    case measure => omega
                    case rel => exact ⟨j + 1, xs, by omega, by omega, by go_num, HX, hacc, X0⟩
                  · have hmf : mayFlow true x y = true := by unfold mayFlow; rw [if_pos rfl, tf, tf2]; rfl
                    have HX : Hid (xs ++ [⟨(k : Int), (j : Int)⟩] = chRows true l k ++ chRow true l k (j + 1)) := hideP (by rw [hxs.out, chRow_succ, chPick_yes hx hy hkj hmf, List.append_assoc])
                    have hxl : xs.length ≤ 20 := by rw [hxs.out, List.length_append]; have h1 := chRows_len true l k; have h2 := chRow_len true l k j; have h3 : k * l.length ≤ 3 * 3 := Nat.mul_le_mul (by omega) hl3; omega
                    clear hxs hx hy
                    go_wp2_with (at_builtin; refine wpList_append_rd _ rfl _ _ 24 rfl w.heap.size 52 i0 (.agg #[.int .i64 0, .int .i64 0]) 2 16 Try.underlying24 hi hz0 hz1 hz2 rfl (by decide) _ _ _ rfl (World.ownsRow.alloc hacc.out.1 _) _ _ _ (Chan.enc ⟨(k : Int), (j : Int)⟩) rfl ?c1 (rd_lit rfl) ?c2 ?c3 ?c4 ?c5 ?_)
                    case c1 => simp [Chan.enc]
                    case c2 => simp [Value.oneCell', Chan.enc]
                    case c3 => unfold maxLen; omega
                    case c4 => omega
                    case c5 => have := hacc.out.2.size; simp; omega
                    intro v9 w9 ho9 hg9
                    have HA9 : Hid (ChAcc w (xs ++ [⟨(k : Int), (j : Int)⟩]) v9 w9) := hideP (ChAcc.snoc ⟨ho9, (hacc.out.2.alloc hacc.out.2.size _).grown hg9 (by have := hacc.out.2.size; simp; omega) (fun q hq => (hacc.out.1.lt q hq).1)⟩)
                    have X9 := hideP ((X0.out.alloc _).kept (hg9.block _ (X0.out.alloc _).lt (fun e => owns_ne_blk hacc.out.1 X0.out (by decide) e.symm)))
                    clear ho9 hg9 hacc X0
                    go_wp2
                    go_roundg (gk - 1)
                    case measure => omega
                    case rel => exact ⟨j + 1, xs ++ [⟨(k : Int), (j : Int)⟩], by omega, by omega, by go_num, HX, HA9, X9⟩
                · have hmf : mayFlow true x y = true := by unfold mayFlow; rw [if_pos rfl, tf]; rfl
                  clear Y0
                  have HX : Hid (xs ++ [⟨(k : Int), (j : Int)⟩] = chRows true l k ++ chRow true l k (j + 1)) := hideP (by rw [hxs.out, chRow_succ, chPick_yes hx hy hkj hmf, List.append_assoc])
                  have hxl : xs.length ≤ 20 := by rw [hxs.out, List.length_append]; have h1 := chRows_len true l k; have h2 := chRow_len true l k j; have h3 : k * l.length ≤ 3 * 3 := Nat.mul_le_mul (by omega) hl3; omega
                  clear hxs hx hy
                  go_wp2_with (at_builtin; refine wpList_append_rd _ rfl _ _ 24 rfl w.heap.size 52 i0 (.agg #[.int .i64 0, .int .i64 0]) 2 16 Try.underlying24 hi hz0 hz1 hz2 rfl (by decide) _ _ _ rfl (World.ownsRow.alloc hacc.out.1 _) _ _ _ (Chan.enc ⟨(k : Int), (j : Int)⟩) rfl ?c1 (rd_lit rfl) ?c2 ?c3 ?c4 ?c5 ?_)
                  case c1 => simp [Chan.enc]
                  case c2 => simp [Value.oneCell', Chan.enc]
                  case c3 => unfold maxLen; omega
                  case c4 => omega
                  case c5 => have := hacc.out.2.size; simp; omega
                  intro v9 w9 ho9 hg9
                  have HA9 : Hid (ChAcc w (xs ++ [⟨(k : Int), (j : Int)⟩]) v9 w9) := hideP (ChAcc.snoc ⟨ho9, (hacc.out.2.alloc hacc.out.2.size _).grown hg9 (by have := hacc.out.2.size; simp; omega) (fun q hq => (hacc.out.1.lt q hq).1)⟩)
                  have X9 := hideP ((X0.out.alloc _).kept (hg9.block _ (X0.out.alloc _).lt (fun e => owns_ne_blk hacc.out.1 X0.out (by decide) e.symm)))
                  clear ho9 hg9 hacc X0
                  go_wp2
                  go_roundg (gk - 1)
                  case measure => omega
                  case rel => exact ⟨j + 1, xs ++ [⟨(k : Int), (j : Int)⟩], by omega, by omega, by go_num, HX, HA9, X9⟩
          · have hjN : j = l.length := by omega
            have HA := hacc
            rw [hxs.out, hjN, ← chRows_succ] at HA
            have d1 : ¬ ((j : Int) < (l.length : Int)) := by omega
            clear hacc hxs hjN
            go_wp2
            go_roundg (gko - 1)
            case measure => omega
            case rel => exact ⟨k + 1, by omega, by omega, by go_num, HA⟩
      · have hkN : k = l.length := by omega
        have d1 : ¬ ((k : Int) < (l.length : Int)) := by omega
        have HA := hacc
        rw [hkN] at HA
        clear hacc hkN
        go_wp2
        go_ret
        rw [HN.out]
        exact Acc.ret HA.out

end Go.Proofs.Ytnchmenpgmlpdaa
