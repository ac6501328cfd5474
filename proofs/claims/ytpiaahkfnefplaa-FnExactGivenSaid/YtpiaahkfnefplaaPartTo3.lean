/- []Part: to; World: to. -/
import Derived.Test.YtpiaahkfnefplaaPartTo2
import Derived.Deep.LoopGhost
namespace Go.Proofs.Ytpiaahkfnefplaa
open Go.RowKit

theorem Try.infoPart : (Try.prog.info? 52).map (fun i => (i.zero, i.size, i.bytes)) = some (some (.agg #[.slice none 0 0, .slice none 0 0, .slice none 0 0, .slice none 0 0, .int .i64 0, .int .i64 0, .int .i64 0, .slice none 0 0, .slice none 0 0, .int .i64 0, .int .i64 0, .int .i64 0, .int .i64 0, .int .i64 0, .int .i64 0, .int .i64 0]), 16, 224) := by kernel_rfl
theorem partRows_kept {P : Nat → Prop} {w w' : World} {base : Nat} {va : Value} {l : List PartD} {rs : List (List Value)} (h : RowsOwn KPart w base va l.length l rs []) (k : KeptP P w w') (hg : ∀ g, mineL (va :: rs.flatten) g → ¬ P g) : RowsOwn KPart w' base va l.length l rs [] :=
  h.kept k (fun g e => hg g (mineC.2 (.inl e))) (fun _ vs hv g hm => hg g (mineC.2 (.inr (mineF.2 ⟨vs, List.mem_of_getElem? hv, hm⟩))))
theorem partRows_lt {w : World} {base : Nat} {va : Value} {l : List PartD} {rs : List (List Value)} (h : RowsOwn KPart w base va l.length l rs []) {g : Nat} (hg : mineL (va :: rs.flatten) g) : base ≤ g ∧ g < w.heap.size := by
  rcases mineC.1 hg with e | e
  · exact h.row.lt g e
  · obtain ⟨r, hr, hm⟩ := mineF.1 e
    obtain ⟨i, hi⟩ := List.getElem?_of_mem hr
    exact h.lt hi hm
theorem partRows_mono {w : World} {base base' : Nat} {va : Value} {l : List PartD} {rs : List (List Value)} (h : RowsOwn KPart w base va l.length l rs []) (hb : base' ≤ base) : RowsOwn KPart w base' va l.length l rs [] :=
  ⟨owns_mono h.row hb, h.len, fun k x vs hx hv => KPart.mono (h.el k x vs hx hv) hb, h.rise, h.off⟩
set_option maxRecDepth 100000 in
set_option maxHeartbeats 8000000 in
theorem toPartS_any (l : List PartD) (p : Option Addr) (c : Nat) (hl : l.length ≤ 1048576) (hs : ∀ x ∈ l, PShort 1048576 x) (w : World) (h : PartsRd w p l) :
    Calls Try.prog 18 #[.slice p l.length c] w fun e w' => ∃ v rs, e = .returned v ∧ RowsOwn KPart w' w.heap.size v l.length l rs [] ∧ Below w.heap.size w w' := by
  obtain ⟨i0, hi, hz0, hz1, hz2⟩ := info_parts Try.infoPart
  have HR := hideP h
  have HS := hideP hs
  clear h hs
  go_enter Try.func18, Try.ntmps18
  go_wp2_with (at_make; refine wpList_make_full _ rfl _ _ 27 rfl w.heap.size 52 i0 (.agg #[.slice none 0 0, .slice none 0 0, .slice none 0 0, .slice none 0 0, .int .i64 0, .int .i64 0, .int .i64 0, .slice none 0 0, .slice none 0 0, .int .i64 0, .int .i64 0, .int .i64 0, .int .i64 0, .int .i64 0, .int .i64 0, .int .i64 0]) 16 Try.underlying27 hi hz0 hz1 .i64 .i64 _ _ l.length rfl rfl rfl rfl ?c1 ?c2 (Nat.le_refl _) ?_)
  case c1 => rw [hz2]; omega
  case c2 => unfold maxLen; omega
  intro w1 hown hg
  have hb1 := (Below.refl w.heap.size w).grown hg (Nat.le_refl _) (by simp)
  have hsz : w.heap.size < w1.heap.size := (hown.lt w.heap.size rfl).2
  have HO := hideP (RowsOwn.nil (K := KPart) (l := l) hown)
  have HB := hideP hb1
  clear hg hown hb1
  go_wp2
  go_loopg [4] (l.length + 1) (fun gk i wr => ∃ (k : Nat) (rs : List (List Value)) (tl : List Value), l.length < gk + k ∧ k ≤ l.length ∧ i = .int .i64 (k : Int) ∧ Hid (RowsOwn KPart wr w.heap.size (.slice (some ⟨w.heap.size, 0, none⟩) l.length l.length) l.length (l.take k) rs tl) ∧ Hid (Below w.heap.size w wr) ∧ w.heap.size < wr.heap.size)
  case atStart => exact ⟨0, [], _, by omega, by omega, rfl, HO, HB, hsz⟩
  case round =>
    clear HO HB hsz
    obtain ⟨k, rs, tl, hgk, hk, rfl, HO, HB, hsz⟩ := hrel
    by_cases hlt : k < l.length
    · obtain ⟨x, hx⟩ := some_at (l := l) (k := k) hlt
      obtain ⟨b, o, vl, vo, vt, va, vg, vp, rfl, hbw, hth, hz9⟩ := HR.out.below HB.out k x hx
      obtain ⟨⟨al, cl, rfl, _, rl⟩, ⟨ao, co, rfl, _, ro⟩, ⟨at_, ct, rfl, _, rt⟩, ⟨aa, ca, rfl, _, ra⟩, ⟨ag, cg, rfl, _, rg⟩, ⟨ap, cp, rfl, _, rp⟩⟩ := hth
      have hm := HS.out x (List.mem_of_getElem? hx)
      have g0 : World.cell? _ ⟨b, o + k * 16, none⟩ = some (.slice al x.lv.length cl) := hz9 0 _ rfl
      have g1 : World.cell? _ ⟨b, o + k * 16 + 1, none⟩ = some (.slice ao x.own.length co) := hz9 1 _ rfl
      have g2 : World.cell? _ ⟨b, o + k * 16 + 2, none⟩ = some (.slice at_ x.tree.length ct) := hz9 2 _ rfl
      have g3 : World.cell? _ ⟨b, o + k * 16 + 3, none⟩ = some (.slice aa x.arena.length ca) := hz9 3 _ rfl
      have g4 : World.cell? _ ⟨b, o + k * 16 + 4, none⟩ = some (.int .i64 x.ph) := hz9 4 _ rfl
      have g5 : World.cell? _ ⟨b, o + k * 16 + 5, none⟩ = some (.int .i64 x.pt) := hz9 5 _ rfl
      have g6 : World.cell? _ ⟨b, o + k * 16 + 6, none⟩ = some (.int .i64 x.rd) := hz9 6 _ rfl
      have g7 : World.cell? _ ⟨b, o + k * 16 + 7, none⟩ = some (.slice ag x.grey.length cg) := hz9 7 _ rfl
      have g8 : World.cell? _ ⟨b, o + k * 16 + 8, none⟩ = some (.slice ap x.taps.length cp) := hz9 8 _ rfl
      have g9 : World.cell? _ ⟨b, o + k * 16 + 9, none⟩ = some (.int .i64 x.nx) := hz9 9 _ rfl
      have g10 : World.cell? _ ⟨b, o + k * 16 + 10, none⟩ = some (.int .i64 x.wt) := hz9 10 _ rfl
      have g11 : World.cell? _ ⟨b, o + k * 16 + 11, none⟩ = some (.int .i64 x.sp.p) := hz9 11 _ rfl
      have g12 : World.cell? _ ⟨b, o + k * 16 + 12, none⟩ = some (.int .i64 x.sp.r) := hz9 12 _ rfl
      have g13 : World.cell? _ ⟨b, o + k * 16 + 13, none⟩ = some (.int .i64 x.sp.c) := hz9 13 _ rfl
      have g14 : World.cell? _ ⟨b, o + k * 16 + 14, none⟩ = some (.int .i64 x.pr) := hz9 14 _ rfl
      have g15 : World.cell? _ ⟨b, o + k * 16 + 15, none⟩ = some (.int .i64 x.lo) := hz9 15 _ rfl
      have k0 : (0 : Int) ≤ (k : Int) := by omega
      have k1 : (k : Int) < (l.length : Int) := by omega
      have HX := hideP hx
      clear hx hz9
      go_wp2_with fail
      refine (toPart_any x al cl ao co at_ ct aa ca ag cg ap cp hm _ rl ro rt ra rg rp).mono ?_
      rintro e w2 ⟨vs, rfl, ho, hb2⟩
      obtain ⟨vl, vo, vt, va, vg, vp, r9, rfl, ho⟩ := ho
      have z2 := hb2.size
      obtain ⟨ul, kl, rfl, _⟩ := owns_slice ho.l
      obtain ⟨uo, ko, rfl, _⟩ := owns_slice ho.o
      obtain ⟨ut, kt, rfl, _⟩ := owns_slice ho.t
      obtain ⟨ua, ka, rfl, _⟩ := owns_slice ho.a.row
      obtain ⟨ug, kg, rfl, _⟩ := owns_slice ho.g
      obtain ⟨up, kp, rfl, _⟩ := owns_slice ho.p
      have HO2 := hideP (HO.out.below hb2)
      have HB2 := hideP (HB.out.trans (hb2.mono HB.out.size))
      have HE : Hid (KPart.own w2 w.heap.size x (partVs (.slice ul x.lv.length kl) (.slice uo x.own.length ko) (.slice ut x.tree.length kt) (.slice ua x.arena.length ka) (.slice ug x.grey.length kg) (.slice up x.taps.length kp) r9)) := hideP (KPart.mono (w := w2) (b := wr.heap.size) ⟨_, _, _, _, _, _, _, rfl, ho⟩ HB.out.size)
      have HN : Hid (∀ q, mineL (partVs (.slice ul x.lv.length kl) (.slice uo x.own.length ko) (.slice ut x.tree.length kt) (.slice ua x.arena.length ka) (.slice ug x.grey.length kg) (.slice up x.taps.length kp) r9) q → wr.heap.size ≤ q) := hideP (fun q hq => (KPart.lt (w := w2) (b := wr.heap.size) (x := x) ⟨_, _, _, _, _, _, _, rfl, ho⟩ q hq).1)
      have HL : Hid (∀ (i : Nat) (a : List Value), rs[i]? = some a → ∀ q, mineL a q → q < wr.heap.size) := hideP (fun i a ha q hq => (HO.out.lt ha hq).2)
      have hrow : w2.ownsRow w.heap.size 52 16 (.slice (some ⟨w.heap.size, 0, none⟩) l.length l.length) l.length _ := HO2.out.row
      obtain ⟨⟨u0, c0⟩, f0⟩ := owns_at hrow (j := k * 16) (by omega)
      obtain ⟨⟨u1, c1⟩, f1⟩ := owns_at hrow (j := k * 16 + 1) (by omega)
      obtain ⟨⟨u2, c2⟩, f2⟩ := owns_at hrow (j := k * 16 + 2) (by omega)
      obtain ⟨⟨u3, c3⟩, f3⟩ := owns_at hrow (j := k * 16 + 3) (by omega)
      obtain ⟨⟨u4, c4⟩, f4⟩ := owns_at hrow (j := k * 16 + 4) (by omega)
      obtain ⟨⟨u5, c5⟩, f5⟩ := owns_at hrow (j := k * 16 + 5) (by omega)
      obtain ⟨⟨u6, c6⟩, f6⟩ := owns_at hrow (j := k * 16 + 6) (by omega)
      obtain ⟨⟨u7, c7⟩, f7⟩ := owns_at hrow (j := k * 16 + 7) (by omega)
      obtain ⟨⟨u8, c8⟩, f8⟩ := owns_at hrow (j := k * 16 + 8) (by omega)
      obtain ⟨⟨u9, c9⟩, f9⟩ := owns_at hrow (j := k * 16 + 9) (by omega)
      obtain ⟨⟨u10, c10⟩, f10⟩ := owns_at hrow (j := k * 16 + 10) (by omega)
      obtain ⟨⟨u11, c11⟩, f11⟩ := owns_at hrow (j := k * 16 + 11) (by omega)
      obtain ⟨⟨u12, c12⟩, f12⟩ := owns_at hrow (j := k * 16 + 12) (by omega)
      obtain ⟨⟨u13, c13⟩, f13⟩ := owns_at hrow (j := k * 16 + 13) (by omega)
      obtain ⟨⟨u14, c14⟩, f14⟩ := owns_at hrow (j := k * 16 + 14) (by omega)
      obtain ⟨⟨u15, c15⟩, f15⟩ := owns_at hrow (j := k * 16 + 15) (by omega)
      clear hrow ho hb2 HO HB rl ro rt ra rg rp g0 g1 g2 g3 g4 g5 g6 g7 g8 g9 g10 g11 g12 g13 g14 g15
      have HP := hideP (RowsOwn.put2 HO2.out HX.out hlt HE.out HL.out HN.out (fun q hq => by have := HN.out q hq; omega))
      have HBP := hideP (below_setCells (x.cells (.slice ul x.lv.length kl) (.slice uo x.own.length ko) (.slice ut x.tree.length kt) (.slice ua x.arena.length ka) (.slice ug x.grey.length kg) (.slice up x.taps.length kp)) (k * 16) HB2.out (Nat.le_refl _))
      have hsp : w.heap.size < (setCells w2 w.heap.size (k * 16) (x.cells (.slice ul x.lv.length kl) (.slice uo x.own.length ko) (.slice ut x.tree.length kt) (.slice ua x.arena.length ka) (.slice ug x.grey.length kg) (.slice up x.taps.length kp))).heap.size := by rw [size_setCells]; omega
      unfold partVs partCells PartD.cells
      go_wp2
      go_roundg (gk - 1)
      case measure => omega
      case rel => exact ⟨k + 1, _, _, by omega, by omega, by go_num, HP, HBP, hsp⟩
    · have hk9 : l.take k = l := List.take_of_length_le (by omega)
      have d1 : ¬ ((k : Int) < (l.length : Int)) := by omega
      rw [hk9] at HO
      clear hk9
      go_wp2
      go_ret
      exact ⟨_, rfl, ⟨rs, HO.out.full rfl⟩, HB.out⟩
set_option maxRecDepth 100000 in
set_option maxHeartbeats 8000000 in
theorem toWorld_any (nw : Int) (l : List PartD) (p : Option Addr) (c : Nat) (hl : l.length ≤ 1048576) (hs : ∀ x ∈ l, PShort 1048576 x) (w : World) (h : PartsRd w p l) :
    Calls Try.prog 7 #[.agg #[.int .i64 nw, .slice p l.length c]] w fun e w' => ∃ v rs, e = .returned (.agg #[.int .i64 nw, v]) ∧ RowsOwn KPart w' w.heap.size v l.length l rs [] ∧ Below w.heap.size w w' := by
  have B0 := hideP (((Blk.new w #[.int .i64 nw, .slice p l.length c] 24).alloc (.cells #[.int .i64 0, .slice none 0 0] 29)).alloc (.cells #[.int .i64 0, .slice none 0 0] 29))
  have B1 : Hid (Blk (((w.alloc (.cells #[.int .i64 nw, .slice p l.length c] 24)).alloc (.cells #[.int .i64 0, .slice none 0 0] 29)).alloc (.cells #[.int .i64 0, .slice none 0 0] 29)) (w.heap.size + 1) 29 [.int .i64 0, .slice none 0 0]) := hideP (by have := (Blk.new (w.alloc (.cells #[.int .i64 nw, .slice p l.length c] 24)) #[.int .i64 0, .slice none 0 0] 29).alloc (.cells #[.int .i64 0, .slice none 0 0] 29); simpa using this)
  have B2 : Hid (Blk (((w.alloc (.cells #[.int .i64 nw, .slice p l.length c] 24)).alloc (.cells #[.int .i64 0, .slice none 0 0] 29)).alloc (.cells #[.int .i64 0, .slice none 0 0] 29)) (w.heap.size + 1 + 1) 29 [.int .i64 0, .slice none 0 0]) := hideP (by have := Blk.new ((w.alloc (.cells #[.int .i64 nw, .slice p l.length c] 24)).alloc (.cells #[.int .i64 0, .slice none 0 0] 29)) #[.int .i64 0, .slice none 0 0] 29; simpa using this)
  have HB := hideP (below_a3 w (.cells #[.int .i64 nw, .slice p l.length c] 24) (.cells #[.int .i64 0, .slice none 0 0] 29) (.cells #[.int .i64 0, .slice none 0 0] 29))
  go_enter Try.func7, Try.ntmps7
  go_upto_region 2 with fail
  obtain ⟨W0, hW⟩ : ∃ W0, W0 = (((w.alloc (.cells #[.int .i64 nw, .slice p l.length c] 24)).alloc (.cells #[.int .i64 0, .slice none 0 0] 29)).alloc (.cells #[.int .i64 0, .slice none 0 0] 29)) := ⟨_, rfl⟩
  rw [← hW] at B0 B1 B2 HB ⊢
  clear hW
  have L0 : w.heap.size + 1 + 1 < W0.heap.size := B2.out.lt
  have KC : Hid (KeptP (fun k => k = w.heap.size + 1 + 1) W0 W0) := hideP (KeptP.refl _ _)
  have PI := hideP (Pieces.nil W0.heap.size (w.heap.size + 1 + 1 + 1))
  have x0 : W0.cell? ⟨w.heap.size, 0, none⟩ = some (.int .i64 nw) := ((KC.out.blk B0.out (by omega)).cell 0).trans rfl
  have c0 : W0.cell? ⟨w.heap.size + 1 + 1, 0, none⟩ = some (.int .i64 0) := (B2.out.cell 0).trans rfl
  have f0 : W0.frozen? ⟨w.heap.size + 1 + 1, 0, none⟩ = false := B2.out.frozen 0
  go_upto_region 3 with fail
  have T1 := hideP ((KeptP.refl (fun k => k = w.heap.size + 1 + 1) W0).setCell (p := ⟨w.heap.size + 1 + 1, 0, none⟩) rfl (.int .i64 nw))
  have KC := hideP (KC.out.trans T1.out)
  have B2 : Hid (Blk (W0.setCell ⟨w.heap.size + 1 + 1, 0, none⟩ (.int .i64 nw)) (w.heap.size + 1 + 1) 29 [.int .i64 nw, .slice none 0 0]) := hideP (B2.out.set 0 (.int .i64 nw))
  have HB := hideP (HB.out.setCell (p := ⟨w.heap.size + 1 + 1, 0, none⟩) (show w.heap.size ≤ w.heap.size + 1 + 1 by omega) (.int .i64 nw))
  obtain ⟨W1, hW⟩ : ∃ W1, W1 = (W0.setCell ⟨w.heap.size + 1 + 1, 0, none⟩ (.int .i64 nw)) := ⟨_, rfl⟩
  have s1 : W1.heap.size = W0.heap.size := by rw [hW]; simp
  rw [← hW] at KC B2 HB T1 ⊢
  rw [← s1] at PI
  clear hW x0 c0 f0
  have x1 : W1.cell? ⟨w.heap.size, 1, none⟩ = some (.slice p l.length c) := ((KC.out.blk B0.out (by omega)).cell 1).trans rfl
  go_wp2_with fail
  refine (toPartS_any l p c hl hs _ (h.below HB.out)).mono ?_
  rintro e w2 ⟨v, rs, rfl, ho2, hb2⟩
  obtain ⟨pp, qp, rfl, _⟩ := owns_slice ho2.row
  have z2 := hb2.size
  have U2 := hideP (KeptP.of_below (P := fun k => k = w.heap.size + 1 + 1) hb2)
  have KC := hideP (KC.out.trans U2.out)
  have B2 := hideP (B2.out.below hb2)
  have HB := hideP (HB.out.trans (hb2.mono HB.out.size))
  have PB2 : ∀ g, mineL (.slice pp l.length qp :: rs.flatten) g → W1.heap.size ≤ g ∧ g < w2.heap.size := fun g hg => partRows_lt ho2 hg
  have PI := hideP (PI.out.snoc (by omega) z2 PB2)
  have c1 : w2.cell? ⟨w.heap.size + 1 + 1, 1, none⟩ = some (.slice none 0 0) := (B2.out.cell 1).trans rfl
  have f1 : w2.frozen? ⟨w.heap.size + 1 + 1, 1, none⟩ = false := B2.out.frozen 1
  go_upto_region 4 with fail
  have T2 := hideP ((KeptP.refl (fun k => k = w.heap.size + 1 + 1) w2).setCell (p := ⟨w.heap.size + 1 + 1, 1, none⟩) rfl (.slice pp l.length qp))
  have KC := hideP (KC.out.trans T2.out)
  have B2 : Hid (Blk (w2.setCell ⟨w.heap.size + 1 + 1, 1, none⟩ (.slice pp l.length qp)) (w.heap.size + 1 + 1) 29 [.int .i64 nw, .slice pp l.length qp]) := hideP (B2.out.set 1 (.slice pp l.length qp))
  have HB := hideP (HB.out.setCell (p := ⟨w.heap.size + 1 + 1, 1, none⟩) (show w.heap.size ≤ w.heap.size + 1 + 1 by omega) (.slice pp l.length qp))
  obtain ⟨W2, hW⟩ : ∃ W2, W2 = (w2.setCell ⟨w.heap.size + 1 + 1, 1, none⟩ (.slice pp l.length qp)) := ⟨_, rfl⟩
  have s2 : W2.heap.size = w2.heap.size := by rw [hW]; simp
  rw [← hW] at KC B2 HB T2 ⊢
  rw [← s2] at PI
  clear hW hb2 x1 c1 f1
  have B1 := hideP (KC.out.blk B1.out (by omega))
  have d0 : W2.cell? ⟨w.heap.size + 1 + 1, 0, none⟩ = some (.int .i64 nw) := (B2.out.cell 0).trans rfl
  have c0 : W2.cell? ⟨w.heap.size + 1, 0, none⟩ = some (.int .i64 0) := (B1.out.cell 0).trans rfl
  have f0 : W2.frozen? ⟨w.heap.size + 1, 0, none⟩ = false := B1.out.frozen 0
  have d1 : W2.cell? ⟨w.heap.size + 1 + 1, 1, none⟩ = some (.slice pp l.length qp) := (B2.out.cell 1).trans rfl
  have c1 : W2.cell? ⟨w.heap.size + 1, 1, none⟩ = some (.slice none 0 0) := (B1.out.cell 1).trans rfl
  have f1 : W2.frozen? ⟨w.heap.size + 1, 1, none⟩ = false := B1.out.frozen 1
  go_wp2
  have BN : Hid (Blk ((W2.setCell ⟨w.heap.size + 1, 0, none⟩ (.int .i64 nw)).setCell ⟨w.heap.size + 1, 1, none⟩ (.slice pp l.length qp)) (w.heap.size + 1) 29 [.int .i64 nw, .slice pp l.length qp]) := hideP ((B1.out.set 0 (.int .i64 nw)).set 1 (.slice pp l.length qp))
  have KE := hideP (((KeptP.refl (fun k => k = w.heap.size + 1 ∨ k = w.heap.size + 1 + 1) W2).setCell (p := ⟨w.heap.size + 1, 0, none⟩) (.inl rfl) (.int .i64 nw)).setCell (p := ⟨w.heap.size + 1, 1, none⟩) (.inl rfl) (.slice pp l.length qp))
  have HB := hideP ((HB.out.setCell (p := ⟨w.heap.size + 1, 0, none⟩) (show w.heap.size ≤ w.heap.size + 1 by omega) (.int .i64 nw)).setCell (p := ⟨w.heap.size + 1, 1, none⟩) (show w.heap.size ≤ w.heap.size + 1 by omega) (.slice pp l.length qp))
  obtain ⟨wn, hwn⟩ : ∃ wn, wn = ((W2.setCell ⟨w.heap.size + 1, 0, none⟩ (.int .i64 nw)).setCell ⟨w.heap.size + 1, 1, none⟩ (.slice pp l.length qp)) := ⟨_, rfl⟩
  rw [← hwn] at BN KE HB ⊢
  clear hwn d0 c0 f0 d1 c1 f1
  have KF := KE.out
  have K_T2 : KeptP (fun k => k = w.heap.size + 1 ∨ k = w.heap.size + 1 + 1) w2 wn := (T2.out.mono (fun k _ e => .inr e)).trans (KE.out)
  have K_U2 : KeptP (fun k => k = w.heap.size + 1 ∨ k = w.heap.size + 1 + 1) W1 wn := (U2.out.mono (fun k _ e => .inr e)).trans (K_T2)
  have K_T1 : KeptP (fun k => k = w.heap.size + 1 ∨ k = w.heap.size + 1 + 1) W0 wn := (T1.out.mono (fun k _ e => .inr e)).trans (K_U2)
  have PP2 : ∀ g, mineL (.slice pp l.length qp :: rs.flatten) g → ¬ (g = w.heap.size + 1 ∨ g = w.heap.size + 1 + 1) := fun g hg e => by have := PI.out.2 0 (.slice pp l.length qp :: rs.flatten) rfl g hg; omega
  have KP2 := K_T2
  have z0q : wn.cell? ⟨w.heap.size + 1, 0, none⟩ = some (.int .i64 nw) := (BN.out.cell 0).trans rfl
  have z1q : wn.cell? ⟨w.heap.size + 1, 1, none⟩ = some (.slice pp l.length qp) := (BN.out.cell 1).trans rfl
  refine bodyPost_ret (v := .agg #[.int .i64 nw, .slice pp l.length qp]) (by simp [results, Try.results7, go_sem, z0q, z1q]) rfl ⟨_, rs, rfl, partRows_mono (partRows_kept ho2 KP2 PP2) (by omega), HB.out⟩

end Go.Proofs.Ytpiaahkfnefplaa
