/- What FnChannels draws. -/
import Derived.Test.YtnchmenpgmlpdaaBootDraw5
import Derived.Test.YtnchmenpgmlpdaaChan0
import Derived.Deep.LoopGhost
namespace Go.Proofs.Ytnchmenpgmlpdaa
open Go.RowKit

theorem BS.lower {w : World} {B B' : Nat} {v : Value} {bs : List (Boot × Value × Value)} (h : BS w B v bs) (hb : B' ≤ B) : BS w B' v bs :=
  ⟨owns_mono h.row hb, fun x hx => by obtain ⟨h1, h2, h3⟩ := h.el x hx; exact ⟨owns_mono h1 hb, owns_mono h2 hb, h3⟩⟩
theorem BS.rd {w : World} {B n c : Nat} {p : Option Addr} {bs : List (Boot × Value × Value)} (h : BS w B (.slice p n c) bs) : BootsRd w p (bs.map Prod.fst) := by
  intro k x hx
  rw [List.getElem?_map] at hx
  obtain ⟨⟨x', vl, vo⟩, hk, rfl⟩ := Option.map_eq_some_iff.1 hx
  have hr : Rd w p (bs.flatMap fun x => x.1.cells x.2.1 x.2.2) := by
    obtain ⟨a', c', e, _⟩ := owns_slice h.row
    cases e
    exact rd_of_owns h.row
  obtain ⟨b, o, rfl, hlt, hc⟩ := hr.row (s := 5) (fun _ => rfl) (by decide) hk
  obtain ⟨h1, h2, h3, h4⟩ : RowI w B vl x'.lv ∧ RowI w B vo x'.own ∧ x'.lv.length ≤ 5 ∧ x'.own.length ≤ 5 := h.el _ (List.mem_of_getElem? hk)
  obtain ⟨al, cl, rfl, _⟩ := owns_slice h1
  obtain ⟨ao, co, rfl, _⟩ := owns_slice h2
  exact ⟨b, o, al, cl, ao, co, rfl, hlt, rd_of_owns h1, rd_of_owns h2, Nat.le_trans h3 (by decide), Nat.le_trans h4 (by decide), hc 0 _ (by decide) rfl, hc 1 _ (by decide) rfl, hc 2 _ (by decide) rfl, hc 3 _ (by decide) rfl, hc 4 _ (by decide) rfl⟩
/-- Channels drawn. -/
def ChansDrawn (W : World) (cb : Nat) (w : World) (e : Ending) (w' : World) : Prop :=
  ∃ (v : Value) (cs : List Chan), e = .returned v ∧ cs.length ≤ 9 ∧ w'.ownsRow w.heap.size 52 2 v cs.length (cs.flatMap Chan.enc) ∧ Drew W cb w w'
set_option maxRecDepth 100000 in
set_option maxHeartbeats 8000000 in
theorem l22Chans_any {W w : World} {cb : Nat} (n : Int) (hn1 : 1 ≤ n) (hn2 : n ≤ 256) (h : DE W cb w) : Calls Try.prog 87 #[.pointer (some ⟨cb, 0, none⟩), .int .i64 n] w (ChansDrawn W cb w) := by
  obtain ⟨i0, hi, hz0, hz1, hz2⟩ := info_parts Try.infoChan
  have hW := h.lt.2
  have HD := hideP ((Drew.refl h).alloc (.cells #[] 52))
  have HO : Hid ((w.alloc (.cells #[] 52)).ownsRow w.heap.size 52 2 (.slice (some ⟨w.heap.size, 0, none⟩) 0 0) ([] : List Chan).length (([] : List Chan).flatMap Chan.enc)) := hideP (owns_lit (Nat.le_refl _) rfl (by decide) rfl rfl)
  clear h
  go_enter Try.func87, Try.ntmps87
  go_wp2_with fail
  refine (de_below 9 (by omega) (by omega) HD.out.1).mono ?_
  rintro e w1 ⟨y, rfl, y0, y1, hd⟩
  obtain ⟨y, rfl⟩ := Int.eq_ofNat_of_zero_le y0
  have HO := hideP (hd.owns HO.out hW)
  have HD := hideP (HD.out.trans hd)
  have hy8 : y ≤ 8 := by omega
  clear hd y0 y1
  go_wp2
  go_loopg [5, 6] (y + 1) (fun gk sv iv wr => ∃ (v : Value) (m : Nat) (cs : List Chan), m < gk ∧ m + cs.length ≤ 8 ∧ v = sv ∧ iv = .int .i64 (m : Int) ∧ Hid (wr.ownsRow w.heap.size 52 2 v cs.length (cs.flatMap Chan.enc)) ∧ Hid (Drew W cb w wr))
  case atStart => exact ⟨_, y, [], by omega, by simp; omega, rfl, rfl, HO, HD⟩
  case round =>
    clear HO HD
    obtain ⟨v, m, cs, hgk, hm8, rfl, rfl, HO, HD⟩ := hrel
    by_cases h0 : 0 < m
    · have d0 : (m : Int) > 0 := by omega
      go_wp2_with fail
      refine (de_below n hn1 hn2 HD.out.1).mono ?_
      rintro e w2 ⟨a, rfl, a0, a1, hd⟩
      have HO := hideP (hd.owns HO.out hW)
      have HD := hideP (HD.out.trans hd)
      clear hd
      go_wp2_with fail
      refine (de_below n hn1 hn2 HD.out.1).mono ?_
      rintro e w3 ⟨b, rfl, b0, b1, hd⟩
      have HO := hideP (hd.owns HO.out hW)
      have HD := hideP (HD.out.trans hd)
      clear hd
      go_wp2_with (at_builtin; refine wpList_append_rd _ rfl _ _ 24 rfl w.heap.size 52 i0 (.agg #[.int .i64 0, .int .i64 0]) 2 16 Try.underlying24 hi hz0 hz1 hz2 rfl (by decide) _ _ _ rfl (World.ownsRow.alloc HO.out _) _ 1 1 (Chan.enc (⟨a, b⟩ : Chan)) rfl rfl (rd_lit rfl) ?c1a ?c2a ?c3a ?c4a ?_)
      case c1a => simp [Chan.enc, Value.oneCell']
      case c2a => unfold maxLen; omega
      case c3a => omega
      case c4a => have := HD.out.2.size; simp; omega
      intro v9 w9 ho9 hg9
      have HO9 : Hid (w9.ownsRow w.heap.size 52 2 v9 (cs ++ [(⟨a, b⟩ : Chan)]).length ((cs ++ [(⟨a, b⟩ : Chan)]).flatMap Chan.enc)) := hideP (by
        rw [List.length_append, List.flatMap_append, show [(⟨a, b⟩ : Chan)].flatMap Chan.enc = Chan.enc (⟨a, b⟩ : Chan) by simp]
        exact ho9)
      have HD9 := hideP ((HD.out.alloc (.cells #[.int .i64 (⟨a, b⟩ : Chan).f, .int .i64 (⟨a, b⟩ : Chan).t] 52)).own hg9 hW (fun q e => (HO.out.lt q e).1))
      have hl9 : (cs ++ [(⟨a, b⟩ : Chan)] : List Chan).length = cs.length + 1 := by simp
      clear ho9 hg9 HO HD
      go_wp2
      go_roundg (gk - 1)
      case measure => omega
      case rel => exact ⟨_, m - 1, _, by omega, by rw [hl9]; omega, rfl, by go_num, HO9, HD9⟩
    · have d0 : ¬ ((m : Int) > 0) := by omega
      go_wp2_with fail
      refine (de_onceB 10 (by omega) (by omega) HD.out.1).mono ?_
      rintro e w2 ⟨b, rfl, hd⟩
      have HO := hideP (hd.owns HO.out hW)
      have HD := hideP (HD.out.trans hd)
      clear hd
      cases b
      · go_wp2
        go_ret
        exact ⟨v, cs, rfl, by omega, HO.out, HD.out⟩
      · go_wp2_with (at_builtin; refine wpList_append_rd _ rfl _ _ 24 rfl w.heap.size 52 i0 (.agg #[.int .i64 0, .int .i64 0]) 2 16 Try.underlying24 hi hz0 hz1 hz2 rfl (by decide) _ _ _ rfl (World.ownsRow.alloc HO.out _) _ 1 1 (Chan.enc (⟨-1, n⟩ : Chan)) rfl rfl (rd_lit rfl) ?c1b ?c2b ?c3b ?c4b ?_)
        case c1b => simp [Chan.enc, Value.oneCell']
        case c2b => unfold maxLen; omega
        case c3b => omega
        case c4b => have := HD.out.2.size; simp; omega
        intro v9 w9 ho9 hg9
        have HO9 : Hid (w9.ownsRow w.heap.size 52 2 v9 (cs ++ [(⟨-1, n⟩ : Chan)]).length ((cs ++ [(⟨-1, n⟩ : Chan)]).flatMap Chan.enc)) := hideP (by
          rw [List.length_append, List.flatMap_append, show [(⟨-1, n⟩ : Chan)].flatMap Chan.enc = Chan.enc (⟨-1, n⟩ : Chan) by simp]
          exact ho9)
        have HD9 := hideP ((HD.out.alloc (.cells #[.int .i64 (⟨-1, n⟩ : Chan).f, .int .i64 (⟨-1, n⟩ : Chan).t] 52)).own hg9 hW (fun q e => (HO.out.lt q e).1))
        have hl9 : (cs ++ [(⟨-1, n⟩ : Chan)] : List Chan).length = cs.length + 1 := by simp
        clear ho9 hg9 HO HD
        go_wp2
        go_ret
        exact ⟨_, _, rfl, by rw [hl9]; omega, HO9.out, HD9.out⟩
set_option maxRecDepth 100000 in
set_option maxHeartbeats 8000000 in
theorem drawChannels_any (a : Option Addr) (n cap : Nat) (l : List UInt8) (hn : n = l.length) (hl : n ≤ 1048576) (w : World) (h : Rd w a (byteCells l)) :
    Calls Try.prog 25 #[.slice a n cap] w fun e w' => ∃ (v : Value) (bs : List (Boot × Value × Value)) (b : Bool), e = .returned (.tuple #[v, .bool b]) ∧ BS w' w.heap.size v bs ∧ bs.length ≤ 4 ∧ Below w.heap.size w w' := by
  have Hn := Lib.hid hn
  clear hn
  go_enter Try.func25, Try.ntmps25
  go_wp2_with fail
  refine (de_new a n cap l Hn.out hl _ h).mono ?_
  rintro e W ⟨rfl, hd, hb⟩
  have Hb := Lib.hid hb
  have Hd := Lib.hid hd.2
  clear hb hd
  go_wp2_with fail
  refine (l15AnyBoot_any Hd.out).mono ?_
  rintro e w2 ⟨v, bs, rfl, hbs, hl4, hd⟩
  have HBS := hideP hbs
  have HD := hideP hd
  clear hbs hd
  go_wp2_with fail
  refine (de_onceB 2 (by omega) (by omega) HD.out.1).mono ?_
  rintro e w3 ⟨b, rfl, hd⟩
  have HBS := hideP (HBS.out.drew hd Hd.out.lt.2)
  have HD := hideP (HD.out.trans hd)
  clear hd
  go_wp2
  go_ret2
  exact ⟨v, bs, b, rfl, HBS.out.lower Hb.out.size, hl4, Hb.out.grown HD.out.2 Hb.out.size (fun k hk => by cases hk; exact Nat.le_refl _)⟩
set_option maxRecDepth 100000 in
set_option maxHeartbeats 8000000 in
theorem drawClosure_any (a : Option Addr) (n cap : Nat) (l : List UInt8) (hn : n = l.length) (hl : n ≤ 1048576) (w : World) (h : Rd w a (byteCells l)) :
    Calls Try.prog 28 #[.slice a n cap] w fun e w' => ∃ (v : Value) (cs : List Chan) (i : Int), e = .returned (.tuple #[.int .i64 i, v]) ∧ i ≤ 21 ∧ cs.length ≤ 9 ∧ w'.ownsRow w.heap.size 52 2 v cs.length (cs.flatMap Chan.enc) ∧ Below w.heap.size w w' := by
  have Hn := Lib.hid hn
  clear hn
  go_enter Try.func28, Try.ntmps28
  go_wp2_with fail
  refine (de_new a n cap l Hn.out hl _ h).mono ?_
  rintro e W ⟨rfl, hd, hb⟩
  have Hb := Lib.hid hb
  have Hd := Lib.hid hd.2
  clear hb hd
  go_wp2_with fail
  refine (de_below 6 (by omega) (by omega) Hd.out).mono ?_
  rintro e w1 ⟨y, rfl, y0, y1, hd⟩
  have HD := hideP hd
  have hW1 : W.heap.size ≤ w1.heap.size := hd.2.size
  clear hd
  have hm : (1 + y : Int) ≤ 6 := by omega
  have hm1 : 1 ≤ (1 + y : Int) := by omega
  go_wp2_with fail
  refine (l22Chans_any (1 + y) hm1 (by omega) HD.out.1).mono ?_
  rintro e w2 ⟨v, cs, rfl, hcs, ho, hd⟩
  have HO := hideP (owns_mono ho hW1)
  have HD := hideP (HD.out.trans hd)
  clear hd ho
  go_wp2_with fail
  refine (de_onceB 15 (by omega) (by omega) HD.out.1).mono ?_
  rintro e w3 ⟨b, rfl, hd⟩
  have HO := hideP (hd.owns HO.out Hd.out.lt.2)
  have HD := hideP (HD.out.trans hd)
  clear hd
  cases b
  · go_wp2
    go_ret2
    exact ⟨v, cs, _, rfl, by omega, hcs, owns_mono HO.out Hb.out.size, Hb.out.grown HD.out.2 Hb.out.size (fun k hk => by cases hk; exact Nat.le_refl _)⟩
  · have hcb := HD.out.1.lt
    have hsz := HD.out.2.size
    go_wp2_with fail
    refine (de_pick [0, -1, 20, 21] 4 rfl (by decide) (by decide) (HD.out.1.alloc _) (lit_cells _ [0, -1, 20, 21] 3) (by omega)).mono ?_
    rintro e w4 ⟨x, hx, rfl, hd⟩
    have hx21 : x ≤ 21 := by simp at hx; omega
    have HO := hideP (hd.owns (World.ownsRow.alloc HO.out _) Hd.out.lt.2)
    have HD := hideP ((HD.out.alloc _).trans hd)
    clear hd hx
    go_wp2
    go_ret2
    exact ⟨v, cs, x, rfl, hx21, hcs, owns_mono HO.out Hb.out.size, Hb.out.grown HD.out.2 Hb.out.size (fun k hk => by cases hk; exact Nat.le_refl _)⟩

end Go.Proofs.Ytnchmenpgmlpdaa
