/- []Obj: toObjS. -/
import Derived.Test.YtpiaahkfnefplaaThingsSz
import Derived.Test.YtpiaahkfnefplaaApp
namespace Go.Proofs.Ytpiaahkfnefplaa
open Go.RowKit

theorem Try.infoObj : (Try.prog.info? 55).map (fun i => (i.zero, i.size, i.bytes)) = some (some (.agg #[.int .i64 0, .int .i64 0, .int .i64 0, .int .i64 0, .int .i64 0, .int .i64 0, .int .i64 0, .int .i64 0, .int .i64 0, .bool false, .slice none 0 0, .slice none 0 0, .slice none 0 0]), 13, 152) := by kernel_rfl
set_option maxRecDepth 100000 in
set_option maxHeartbeats 8000000 in
theorem toObjS_any (l : List Thing) (p : Option Addr) (c : Nat) (hl : l.length ≤ 1048576) (hs : Short 1048576 l) (w : World) (h : ThingsRd w p l) :
    Calls Try.prog 59 #[.slice p l.length c] w fun e w' => ∃ v rs, e = .returned v ∧ RowsOwn KThing w' w.heap.size v l.length l rs [] ∧ Below w.heap.size w w' := by
  obtain ⟨i0, hi, hz0, hz1, hz2⟩ := info_parts Try.infoObj
  have HR := hideP h
  have HS := hideP hs
  clear h hs
  go_enter Try.func59, Try.ntmps59
  go_wp2_with (at_make; refine wpList_make_full _ rfl _ _ 40 rfl w.heap.size 55 i0 (.agg #[.int .i64 0, .int .i64 0, .int .i64 0, .int .i64 0, .int .i64 0, .int .i64 0, .int .i64 0, .int .i64 0, .int .i64 0, .bool false, .slice none 0 0, .slice none 0 0, .slice none 0 0]) 13 Try.underlying40 hi hz0 hz1 .i64 .i64 _ _ l.length rfl rfl rfl rfl ?c1 ?c2 (Nat.le_refl _) ?_)
  case c1 => rw [hz2]; omega
  case c2 => unfold maxLen; omega
  intro w1 hown hg
  have hb1 := (Below.refl w.heap.size w).grown hg (Nat.le_refl _) (by simp)
  have hsz : w.heap.size < w1.heap.size := (hown.lt w.heap.size rfl).2
  have HO := hideP (RowsOwn.nil (K := KThing) (l := l) hown)
  have HB := hideP hb1
  clear hg hown hb1
  go_wp2
  go_loopg [4] (l.length + 1) (fun gk i wr => ∃ (k : Nat) (rs : List (List Value)) (tl : List Value), l.length < gk + k ∧ k ≤ l.length ∧ i = .int .i64 (k : Int) ∧ Hid (RowsOwn KThing wr w.heap.size (.slice (some ⟨w.heap.size, 0, none⟩) l.length l.length) l.length (l.take k) rs tl) ∧ Hid (Below w.heap.size w wr) ∧ w.heap.size < wr.heap.size)
  case atStart => exact ⟨0, [], _, by omega, by omega, rfl, HO, HB, hsz⟩
  case round =>
    clear HO HB hsz
    obtain ⟨k, rs, tl, hgk, hk, rfl, HO, HB, hsz⟩ := hrel
    by_cases hlt : k < l.length
    · obtain ⟨x, hx⟩ := some_at (l := l) (k := k) hlt
      obtain ⟨b, o, vl, vd, vq, rfl, hbw, hth, hz9⟩ := HR.out.below HB.out k x hx
      obtain ⟨⟨s1, s2, s3⟩, _⟩ := HS.out x (List.mem_of_getElem? hx)
      have g0 : World.cell? _ ⟨b, o + k * 13, none⟩ = some (.int .i64 x.gen) := hz9 0 _ rfl
      have g1 : World.cell? _ ⟨b, o + k * 13 + 1, none⟩ = some (.int .i64 x.kind) := hz9 1 _ rfl
      have g2 : World.cell? _ ⟨b, o + k * 13 + 2, none⟩ = some (.int .i64 x.box) := hz9 2 _ rfl
      have g3 : World.cell? _ ⟨b, o + k * 13 + 3, none⟩ = some (.int .i64 x.res) := hz9 3 _ rfl
      have g4 : World.cell? _ ⟨b, o + k * 13 + 4, none⟩ = some (.int .i64 x.til) := hz9 4 _ rfl
      have g5 : World.cell? _ ⟨b, o + k * 13 + 5, none⟩ = some (.int .i64 x.pages) := hz9 5 _ rfl
      have g6 : World.cell? _ ⟨b, o + k * 13 + 6, none⟩ = some (.int .i64 x.wait) := hz9 6 _ rfl
      have g7 : World.cell? _ ⟨b, o + k * 13 + 7, none⟩ = some (.int .i64 x.got) := hz9 7 _ rfl
      have g8 : World.cell? _ ⟨b, o + k * 13 + 8, none⟩ = some (.int .i64 x.ran) := hz9 8 _ rfl
      have g9 : World.cell? _ ⟨b, o + k * 13 + 9, none⟩ = some (.bool x.mark) := hz9 9 _ rfl
      have g10 : World.cell? _ ⟨b, o + k * 13 + 10, none⟩ = some (vl) := hz9 10 _ rfl
      have g11 : World.cell? _ ⟨b, o + k * 13 + 11, none⟩ = some (vd) := hz9 11 _ rfl
      have g12 : World.cell? _ ⟨b, o + k * 13 + 12, none⟩ = some (vq) := hz9 12 _ rfl
      have k0 : (0 : Int) ≤ (k : Int) := by omega
      have k1 : (k : Int) < (l.length : Int) := by omega
      have HX := hideP hx
      have HT := hideP hth
      clear hx hz9 hth
      go_wp2_with fail
      refine (toObj_own x vl vd vq s1 s2 s3 _ HT.out).mono ?_
      rintro e w2 ⟨ul, ud, uq, rfl, ho, hb2⟩
      have z2 := hb2.size
      obtain ⟨pl, ql, rfl, _⟩ := owns_slice ho.l
      obtain ⟨pd, qd, rfl, _⟩ := owns_slice ho.d
      obtain ⟨pq, qq, rfl, _⟩ := owns_slice ho.q
      have HO2 := hideP (HO.out.below hb2)
      have HB2 := hideP (HB.out.trans (hb2.mono HB.out.size))
      have HE : Hid (KThing.own w2 w.heap.size x [.slice pl x.links.length ql, .slice pd x.data.length qd, .slice pq x.queue.length qq]) := hideP (KThing.mono (w := w2) (b := wr.heap.size) ⟨_, _, _, rfl, ho⟩ HB.out.size)
      have HN : Hid (∀ q, mineL [.slice pl x.links.length ql, .slice pd x.data.length qd, .slice pq x.queue.length qq] q → wr.heap.size ≤ q) := hideP (fun q hq => (KThing.lt (w := w2) (b := wr.heap.size) (x := x) ⟨_, _, _, rfl, ho⟩ q hq).1)
      have HL : Hid (∀ (i : Nat) (a : List Value), rs[i]? = some a → ∀ q, mineL a q → q < wr.heap.size) := hideP (fun i a ha q hq => (HO.out.lt ha hq).2)
      have hrow : w2.ownsRow w.heap.size 55 13 (.slice (some ⟨w.heap.size, 0, none⟩) l.length l.length) l.length _ := HO2.out.row
      obtain ⟨⟨u0, c0⟩, f0⟩ := owns_at hrow (j := k * 13) (by omega)
      obtain ⟨⟨u1, c1⟩, f1⟩ := owns_at hrow (j := k * 13 + 1) (by omega)
      obtain ⟨⟨u2, c2⟩, f2⟩ := owns_at hrow (j := k * 13 + 2) (by omega)
      obtain ⟨⟨u3, c3⟩, f3⟩ := owns_at hrow (j := k * 13 + 3) (by omega)
      obtain ⟨⟨u4, c4⟩, f4⟩ := owns_at hrow (j := k * 13 + 4) (by omega)
      obtain ⟨⟨u5, c5⟩, f5⟩ := owns_at hrow (j := k * 13 + 5) (by omega)
      obtain ⟨⟨u6, c6⟩, f6⟩ := owns_at hrow (j := k * 13 + 6) (by omega)
      obtain ⟨⟨u7, c7⟩, f7⟩ := owns_at hrow (j := k * 13 + 7) (by omega)
      obtain ⟨⟨u8, c8⟩, f8⟩ := owns_at hrow (j := k * 13 + 8) (by omega)
      obtain ⟨⟨u9, c9⟩, f9⟩ := owns_at hrow (j := k * 13 + 9) (by omega)
      obtain ⟨⟨u10, c10⟩, f10⟩ := owns_at hrow (j := k * 13 + 10) (by omega)
      obtain ⟨⟨u11, c11⟩, f11⟩ := owns_at hrow (j := k * 13 + 11) (by omega)
      obtain ⟨⟨u12, c12⟩, f12⟩ := owns_at hrow (j := k * 13 + 12) (by omega)
      clear hrow ho hb2 HO HB HT g0 g1 g2 g3 g4 g5 g6 g7 g8 g9 g10 g11 g12
      have HP := hideP (RowsOwn.put2 HO2.out HX.out hlt HE.out HL.out HN.out (fun q hq => by have := HN.out q hq; omega))
      have HBP := hideP (below_setCells (x.cells (.slice pl x.links.length ql) (.slice pd x.data.length qd) (.slice pq x.queue.length qq)) (k * 13) HB2.out (Nat.le_refl _))
      have hsp : w.heap.size < (setCells w2 w.heap.size (k * 13) (x.cells (.slice pl x.links.length ql) (.slice pd x.data.length qd) (.slice pq x.queue.length qq))).heap.size := by rw [size_setCells]; omega
      go_wp2
      go_roundg (gk - 1)
      case measure => omega
      case rel => exact ⟨k + 1, _, _, by omega, by omega, by go_num, HP, HBP, hsp⟩
    · have hk9 : l.take k = l := List.take_of_length_le (by omega)
      have d1 : ¬ ((k : Int) < (l.length : Int)) := by omega
      rw [hk9] at HO
      clear hk9
      go_wp2
      go_ret
      exact ⟨_, rfl, ⟨rs, HO.out.full rfl⟩, HB.out⟩

end Go.Proofs.Ytpiaahkfnefplaa
