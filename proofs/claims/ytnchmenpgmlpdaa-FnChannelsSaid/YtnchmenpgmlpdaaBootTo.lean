/- []PartBoot: toPartBootS. -/
import Derived.Test.YtnchmenpgmlpdaaBootTo1
import Derived.Test.YtnchmenpgmlpdaaApp
namespace Go.Proofs.Ytnchmenpgmlpdaa
open Go.RowKit

theorem Try.infoBoot : (Try.prog.info? 45).map (fun i => (i.zero, i.size, i.bytes)) = some (some (.agg #[.slice none 0 0, .slice none 0 0, .int .i64 0, .int .i64 0, .int .i64 0]), 5, 72) := by kernel_rfl
set_option maxRecDepth 100000 in
set_option maxHeartbeats 4000000 in
theorem toPartBootS_any (l : List Boot) (p : Option Addr) (c : Nat) (hl : l.length ≤ 1048576) (hs : ∀ x ∈ l, x.lv.length ≤ 1048576 ∧ x.own.length ≤ 1048576) (w : World) (h : BootsRd w p l) :
    Calls Try.prog 15 #[.slice p l.length c] w fun e w' => ∃ v rs, e = .returned v ∧ RowsOwn KBoot w' w.heap.size v l.length l rs [] ∧ Below w.heap.size w w' := by
  obtain ⟨i0, hi, hz0, hz1, hz2⟩ := info_parts Try.infoBoot
  have HR := hideP h
  have HS := hideP hs
  clear h hs
  go_enter Try.func15, Try.ntmps15
  go_wp2_with (at_make; refine wpList_make_full _ rfl _ _ 26 rfl w.heap.size 45 i0 (.agg #[.slice none 0 0, .slice none 0 0, .int .i64 0, .int .i64 0, .int .i64 0]) 5 Try.underlying26 hi hz0 hz1 .i64 .i64 _ _ l.length rfl rfl rfl rfl ?c1 ?c2 (Nat.le_refl _) ?_)
  case c1 => rw [hz2]; omega
  case c2 => unfold maxLen; omega
  intro w1 hown hg
  have hb1 := (Below.refl w.heap.size w).grown hg (Nat.le_refl _) (by simp)
  have hsz : w.heap.size < w1.heap.size := (hown.lt w.heap.size rfl).2
  have HO := hideP (RowsOwn.nil (K := KBoot) (l := l) hown)
  have HB := hideP hb1
  clear hg hown hb1
  go_wp2
  go_loopg [4] (l.length + 1) (fun gk i wr => ∃ (k : Nat) (rs : List (List Value)) (tl : List Value), l.length < gk + k ∧ k ≤ l.length ∧ i = .int .i64 (k : Int) ∧ Hid (RowsOwn KBoot wr w.heap.size (.slice (some ⟨w.heap.size, 0, none⟩) l.length l.length) l.length (l.take k) rs tl) ∧ Hid (Below w.heap.size w wr) ∧ w.heap.size < wr.heap.size)
  case atStart => exact ⟨0, [], _, by omega, by omega, rfl, HO, HB, hsz⟩
  case round =>
    clear HO HB hsz
    obtain ⟨k, rs, tl, hgk, hk, rfl, HO, HB, hsz⟩ := hrel
    by_cases hlt : k < l.length
    · obtain ⟨x, hx⟩ := some_at (l := l) (k := k) hlt
      obtain ⟨b, o, al, cl, ao, co, rfl, hbw, r1, r2, m1, m2, g0, g1, g2, g3, g4⟩ := HR.out.below HB.out k x hx
      obtain ⟨s1, s2⟩ := HS.out x (List.mem_of_getElem? hx)
      have k0 : (0 : Int) ≤ (k : Int) := by omega
      have k1 : (k : Int) < (l.length : Int) := by omega
      have HX := hideP hx
      clear hx
      go_wp2_with fail
      refine (toPartBoot_any x al cl ao co s1 s2 _ r1 r2).mono ?_
      rintro e w2 ⟨vl, vo, rfl, ho, hb2⟩
      have z2 := hb2.size
      obtain ⟨pl, ql, rfl, _⟩ := owns_slice ho.l
      obtain ⟨po, qo, rfl, _⟩ := owns_slice ho.o
      have HO2 := hideP (HO.out.below hb2)
      have HB2 := hideP (HB.out.trans (hb2.mono HB.out.size))
      have HE : Hid (KBoot.own w2 w.heap.size x [.slice pl x.lv.length ql, .slice po x.own.length qo]) := hideP ⟨_, _, rfl, owns_mono ho.l HB.out.size, owns_mono ho.o HB.out.size, ho.lo⟩
      have HN : Hid (∀ q, mineL [.slice pl x.lv.length ql, .slice po x.own.length qo] q → wr.heap.size ≤ q) := hideP (fun q hq => by
        rcases mine2.1 hq with e | e
        · exact (ho.l.lt q e).1
        · exact (ho.o.lt q e).1)
      have HL : Hid (∀ (i : Nat) (a : List Value), rs[i]? = some a → ∀ q, mineL a q → q < wr.heap.size) := hideP (fun i a ha q hq => (HO.out.lt ha hq).2)
      have hrow : w2.ownsRow w.heap.size 45 5 (.slice (some ⟨w.heap.size, 0, none⟩) l.length l.length) l.length _ := HO2.out.row
      obtain ⟨⟨u0, c0⟩, f0⟩ := owns_at hrow (j := k * 5) (by omega)
      obtain ⟨⟨u1, c1⟩, f1⟩ := owns_at hrow (j := k * 5 + 1) (by omega)
      obtain ⟨⟨u2, c2⟩, f2⟩ := owns_at hrow (j := k * 5 + 2) (by omega)
      obtain ⟨⟨u3, c3⟩, f3⟩ := owns_at hrow (j := k * 5 + 3) (by omega)
      obtain ⟨⟨u4, c4⟩, f4⟩ := owns_at hrow (j := k * 5 + 4) (by omega)
      clear hrow ho hb2 HO HB g0 g1 g2 g3 g4 r1 r2
      have HP := hideP (RowsOwn.put2 HO2.out HX.out hlt HE.out HL.out HN.out (fun q hq => by have := HN.out q hq; omega))
      have HBP := hideP (below_setCells (x.cells (.slice pl x.lv.length ql) (.slice po x.own.length qo)) (k * 5) HB2.out (Nat.le_refl _))
      have hsp : w.heap.size < (setCells w2 w.heap.size (k * 5) (x.cells (.slice pl x.lv.length ql) (.slice po x.own.length qo))).heap.size := by rw [size_setCells]; omega
      unfold Boot.cells
      go_wp2
      go_roundg (gk - 1)
      case measure => omega
      case rel => exact ⟨k + 1, _, _, by omega, by omega, by go_num, HP, HBP, hsp⟩
    · have hk9 : l.take k = l := List.take_of_length_le (by omega)
      have d1 : ¬ ((k : Int) < (l.length : Int)) := by omega
      rw [hk9] at HO
      clear hk9
      go_wp2
      go_ret
      exact ⟨_, rfl, ⟨rs, HO.out.full rfl⟩, HB.out⟩

end Go.Proofs.Ytnchmenpgmlpdaa
