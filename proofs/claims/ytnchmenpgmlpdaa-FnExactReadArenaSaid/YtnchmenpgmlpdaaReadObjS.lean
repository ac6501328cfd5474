/- The walk of the reference's ReadObj. -/
import Derived.Test.YtnchmenpgmlpdaaListS
import Derived.Test.YtnchmenpgmlpdaaObjTo
import Derived.Test.YtnchmenpgmlpdaaFresh
import Derived.Test.YtnchmenpgmlpdaaShowObjS
import Derived.Deep.DeepCutAuto
import Derived.BigRegion
import Derived.ChangeAlike
import Derived.StillTailTactics
import Derived.Deep.RegionLaw
import Derived.Deep.AppendLies
namespace Go.Proofs.Ytnchmenpgmlpdaa
open Go.RowKit

theorem pairs_len : ∀ (l : List Nat), (pairs l).length = l.length / 2
  | [] => rfl
  | [_] => by simp [pairs]
  | x :: y :: l => by
    rw [pairs, List.length_cons, pairs_len l, List.length_cons, List.length_cons]
    omega
theorem pairs_get : ∀ (l : List Nat) (k x y : Nat), l[2 * k]? = some x → l[2 * k + 1]? = some y → (pairs l)[k]? = some ⟨(x : Int) - 1, (y : Int)⟩
  | [], k, x, y, h, _ => by simp at h
  | [a], k, x, y, _, h => by simp at h
  | a :: b :: l, 0, x, y, h1, h2 => by
    simp at h1 h2
    subst h1 h2
    rfl
  | a :: b :: l, k + 1, x, y, h1, h2 => by
    rw [pairs, List.getElem?_cons_succ]
    exact pairs_get l k x y (by rw [show 2 * (k + 1) = 2 * k + 1 + 1 by omega] at h1; simpa using h1) (by rw [show 2 * (k + 1) + 1 = 2 * k + 1 + 1 + 1 by omega] at h2; simpa using h2)
theorem ownsD {w : World} {base : Nat} {e : TypeId} {s n : Nat} {v : Value} {xs : List Value} (h : w.ownsRow base e s v n xs) : w.drew.ownsRow base e s v n xs := h
theorem ownsAD {w : World} {base : Nat} {e : TypeId} {s n : Nat} {v : Value} {xs : List Value} (h : w.ownsRow base e s v n xs) (o : Obj) : ((w.alloc o).drew).ownsRow base e s v n xs := World.ownsRow.alloc h o
theorem grown_undrew {w w' : World} {r : Option Nat} (h : w.drew.grownBy w' r) : w.grownBy w' r := ⟨h.os, h.tape, h.output, h.size, h.block⟩
theorem newsD {w : World} {cs : Array Value} {E : TypeId} {g : Nat} (hg : g = w.heap.size) : ∀ j u, cs.toList[j]? = some u → (w.alloc (.cells cs E)).cell? ((⟨g, 0, none⟩ : Addr).add j) = some u := by
  subst hg
  intro j u hj
  have hB := Blk.new w cs E
  have e : (⟨w.heap.size, 0, none⟩ : Addr).add j = ⟨w.heap.size, j, none⟩ := by rw [add_off, Nat.zero_add]
  rw [e, hB.cell j]
  exact hj
theorem newsDd {w : World} {cs : Array Value} {E : TypeId} {g : Nat} (hg : g = w.heap.size) : ∀ j u, cs.toList[j]? = some u → ((w.alloc (.cells cs E)).drew).cell? ((⟨g, 0, none⟩ : Addr).add j) = some u := newsD hg
theorem take_one {α : Type} {l : List α} {k : Nat} {x : α} (h : l[k]? = some x) : l.take (k + 1) = l.take k ++ [x] := by
  obtain ⟨hk, rfl⟩ := List.getElem?_eq_some_iff.1 h
  exact List.take_succ_eq_append_getElem hk
theorem sub_one_at {l : List Nat} {k y : Nat} (h : l[k]? = some y) : ((ints l).map (· - 1))[k]? = some ((y : Int) - 1) := by
  unfold ints
  simp [h]
theorem ints_at {l : List Nat} {k y : Nat} (h : l[k]? = some y) : (ints l)[k]? = some (y : Int) := by
  unfold ints
  simp [h]
theorem owns_setother2 {w : World} {base M i : Nat} {u : Value} {e : TypeId} {s n : Nat} {v : Value} {xs : List Value} (ho : w.ownsRow base e s v n xs) (hne : ∀ k, v.ownBlock = some k → k ≠ M) : (w.setCell ⟨M, i, none⟩ u).ownsRow base e s v n xs :=
  ((Kept.refl M M w).set (i := i) (v := u)).owns ho (fun k hk => ⟨hne k hk, hne k hk⟩)
theorem owns_sl2 {w : World} {base : Nat} {e : TypeId} {s n : Nat} {v : Value} {xs : List Value} (h : w.ownsRow base e s v n xs) : SlIs w v n xs := by
  obtain ⟨a, c, rfl, hc⟩ := owns_slice h
  exact ⟨a, c, rfl, hc, rd_of_owns h⟩
theorem SlIs.cast {w : World} {v : Value} {n m : Nat} {xs : List Value} (h : SlIs w v n xs) (e : n = m) : SlIs w v m xs := e ▸ h
theorem owns_cast {w : World} {base : Nat} {e : TypeId} {s n m : Nat} {v : Value} {xs : List Value} (h : w.ownsRow base e s v n xs) (he : n = m) : w.ownsRow base e s v m xs := he ▸ h
theorem rdInt2 {w : World} {a : Option Addr} {l : List Int} (h : Rd w a (icell l)) {k : Nat} {x y : Int} (hx : l[k]? = some x) (hy : l[k + 1]? = some y) :
    ∃ b o, a = some ⟨b, o, none⟩ ∧ b < w.heap.size ∧ w.cell? ⟨b, o + k, none⟩ = some (.int .i64 x) ∧ w.cell? ⟨b, o + (k + 1), none⟩ = some (.int .i64 y) := by
  rcases h with h | ⟨b, o, ha, hlt, hc⟩
  · simp [icell] at h
    subst h
    simp at hx
  · exact ⟨b, o, ha, hlt, hc k _ (by unfold icell; rw [List.getElem?_map, hx]; rfl), hc (k + 1) _ (by unfold icell; rw [List.getElem?_map, hy]; rfl)⟩
theorem hblk1_0 {W : World} {g1 : Nat} {T1 : TypeId} {c1 : List Value} (h1 : Blk W g1 T1 c1) : Blk W.drew g1 T1 c1 ∧ Below W.heap.size W W.drew := ⟨h1, (Below.refl _ _).drew⟩
theorem hblk1_C {W W1 W2 : World} {g1 : Nat} {T1 : TypeId} {c1 : List Value} (hS : Blk W1 g1 T1 c1 ∧ Below W.heap.size W W1) (hb : Below W1.heap.size W1 W2) : Blk W2 g1 T1 c1 ∧ Below W.heap.size W W2 :=
  ⟨hS.1.below hb, hS.2.trans (hb.mono hS.2.size)⟩
theorem read4_of {l : List UInt8} {h lk dt qu : List Nat} {a b c d : Nat} (h1 : seqAt l 0 10 = some (h, a)) (h2 : listGo l a 2 1 = some (lk, b)) (h3 : listGo l b 8 1 = some (dt, c)) (h4 : listGo l c 2 2 = some (qu, d)) : read4 l = some (h, lk, dt, qu, d) := by
  unfold read4
  rw [h1]
  simp only [Option.bind_some]
  rw [h2]
  simp only [Option.bind_some]
  rw [h3]
  simp only [Option.bind_some]
  rw [h4]
  rfl
theorem read4_no {l : List UInt8} (h : ((((seqAt l 0 10).bind fun q => listGo l q.2 2 1).bind fun q => listGo l q.2 8 1).bind fun q => listGo l q.2 2 2) = none) : read4 l = none := by
  unfold read4
  cases h1 : seqAt l 0 10 with
  | none => rfl
  | some q1 =>
    rw [h1] at h
    simp only [Option.bind_some] at h ⊢
    cases h2 : listGo l q1.2 2 1 with
    | none => rfl
    | some q2 =>
      rw [h2] at h
      simp only [Option.bind_some] at h ⊢
      cases h3 : listGo l q2.2 8 1 with
      | none => rfl
      | some q3 =>
        rw [h3] at h
        simp only [Option.bind_some] at h ⊢
        rw [h]
        rfl
set_option maxRecDepth 100000 in
set_option maxHeartbeats 8000000 in
theorem specReadObj_any (s : ByteArray) (hs : s.size ≤ maxLen) (w : World) : Calls Try.prog 44 #[.string s] w (ThingRet w (bl s)) := by
  obtain ⟨i0, hi, hz0, hz1, hz2⟩ := info_parts Try.infoInt
  obtain ⟨im, him, hzm0, hzm1, hzm2⟩ := info_parts Try.infoMsg
  obtain ⟨P1, h1⟩ : ∃ P, seqAt (bl s) 0 10 = P := ⟨_, rfl⟩
  have HV1 : Hid (∀ W, Calls Try.prog 96 #[.string s, .int .i64 0, .int .i64 10] W (ListRet W P1)) := hideP (fun W => by have := vars_list s 0 10 hs (Nat.zero_le _) (by decide) W; rw [h1] at this; exact this)
  have a1 : ∀ ns a, P1 = some (ns, a) → a ≤ s.size := fun ns a e => by have := (seqAt_eats (Nat.zero_le _) (h1.trans e)).2.2.le.1; rwa [bl_length] at this
  obtain ⟨P2, h2⟩ : ∃ P, (P1.bind fun q => listGo (bl s) q.2 2 1) = P := ⟨_, rfl⟩
  have HV2 := hideP (fun W => list21_any s P1 hs a1 W)
  rw [h2] at HV2
  have a2 : ∀ ns a, P2 = some (ns, a) → a ≤ s.size := fun ns a e => by
    obtain ⟨⟨q, b⟩, hq, he⟩ := Option.bind_eq_some_iff.1 (h2.trans e)
    have := (listGo_le (by rw [bl_length]; exact a1 _ _ hq) he).2.1
    rwa [bl_length] at this
  obtain ⟨P3, h3⟩ : ∃ P, (P2.bind fun q => listGo (bl s) q.2 8 1) = P := ⟨_, rfl⟩
  have HV3 := hideP (fun W => list81_any s P2 hs a2 W)
  rw [h3] at HV3
  have a3 : ∀ ns a, P3 = some (ns, a) → a ≤ s.size := fun ns a e => by
    obtain ⟨⟨q, b⟩, hq, he⟩ := Option.bind_eq_some_iff.1 (h3.trans e)
    have := (listGo_le (by rw [bl_length]; exact a2 _ _ hq) he).2.1
    rwa [bl_length] at this
  obtain ⟨P4, h4⟩ : ∃ P, (P3.bind fun q => listGo (bl s) q.2 2 2) = P := ⟨_, rfl⟩
  have HV4 := hideP (fun W => list22_any s P3 hs a3 W)
  rw [h4] at HV4
  have a4 : ∀ ns a, P4 = some (ns, a) → a ≤ s.size := fun ns a e => by
    obtain ⟨⟨q, b⟩, hq, he⟩ := Option.bind_eq_some_iff.1 (h4.trans e)
    have := (listGo_le (by rw [bl_length]; exact a3 _ _ hq) he).2.1
    rwa [bl_length] at this
  have H1 := Lib.hid h1
  have H2 := Lib.hid h2
  have H3 := Lib.hid h3
  have H4 := Lib.hid h4
  clear h1 h2 h3 h4 a1 a2 a3
  have HZ := hideP (Blk.new' (w := w) (g := w.heap.size) #[.int .i64 0, .int .i64 0, .int .i64 0, .int .i64 0, .int .i64 0, .int .i64 0, .int .i64 0, .int .i64 0, .int .i64 0, .bool false, .slice none 0 0, .slice none 0 0, .slice none 0 0] 71 rfl)
  have HE := hideP (below_a1 w (.cells #[.int .i64 0, .int .i64 0, .int .i64 0, .int .i64 0, .int .i64 0, .int .i64 0, .int .i64 0, .int .i64 0, .int .i64 0, .bool false, .slice none 0 0, .slice none 0 0, .slice none 0 0] 71))
  go_enter Try.func44, Try.ntmps44
  go_wp2_with fail
  refine (HV1.out _).mono ?_
  rintro e w1 ⟨v1, m1, xs1, rfl, ho1, hx1, hb1⟩
  have HO1 := Lib.hid ho1
  have HX1 := Lib.hid hx1
  have HZ := hideP (HZ.out.below hb1)
  have HE := hideP (HE.out.trans (hb1.mono HE.out.size))
  have HB1 := Lib.hid hb1
  clear ho1 hx1 hb1
  go_wp2_with fail
  refine (HV2.out _).mono ?_
  rintro e w2 ⟨v2, m2, xs2, rfl, ho2, hx2, hb2⟩
  have HO2 := Lib.hid ho2
  have HX2 := Lib.hid hx2
  have HZ := hideP (HZ.out.below hb2)
  have HE := hideP (HE.out.trans (hb2.mono HE.out.size))
  have HB2 := Lib.hid hb2
  clear ho2 hx2 hb2
  go_wp2_with fail
  refine (HV3.out _).mono ?_
  rintro e w3 ⟨v3, m3, xs3, rfl, ho3, hx3, hb3⟩
  have HO3 := Lib.hid ho3
  have HX3 := Lib.hid hx3
  have HZ := hideP (HZ.out.below hb3)
  have HE := hideP (HE.out.trans (hb3.mono HE.out.size))
  have HB3 := Lib.hid hb3
  clear ho3 hx3 hb3
  go_wp2_with fail
  refine (HV4.out _).mono ?_
  rintro e w4 ⟨v4, m4, xs4, rfl, ho4, hx4, hb4⟩
  have HO4 := Lib.hid ho4
  have HX4 := Lib.hid hx4
  have HZ := hideP (HZ.out.below hb4)
  have HE := hideP (HE.out.trans (hb4.mono HE.out.size))
  have HB4 := Lib.hid hb4
  clear ho4 hx4 hb4
  cases P4 with
  | none =>
    have HN : Hid (readThing (bl s) = none) := hideP (by
      unfold readThing
      rw [read4_no (by rw [H1.out, H2.out, H3.out]; exact H4.out)]
      rfl)
    rw [show xOf none = -1 from rfl]
    cases P1 with
    | none =>
      rw [show xOf none = -1 from rfl]
      have HZw := HZ
      have z0 : w4.cell? ⟨w.heap.size, 0, none⟩ = some (.int .i64 0) := (HZw.out.cell 0).trans rfl
      have k0 : w4.frozen? ⟨w.heap.size, 0, none⟩ = false := HZw.out.frozen 0
      have z1 : w4.cell? ⟨w.heap.size, 1, none⟩ = some (.int .i64 0) := (HZw.out.cell 1).trans rfl
      have k1 : w4.frozen? ⟨w.heap.size, 1, none⟩ = false := HZw.out.frozen 1
      have z2 : w4.cell? ⟨w.heap.size, 2, none⟩ = some (.int .i64 0) := (HZw.out.cell 2).trans rfl
      have k2 : w4.frozen? ⟨w.heap.size, 2, none⟩ = false := HZw.out.frozen 2
      have z3 : w4.cell? ⟨w.heap.size, 3, none⟩ = some (.int .i64 0) := (HZw.out.cell 3).trans rfl
      have k3 : w4.frozen? ⟨w.heap.size, 3, none⟩ = false := HZw.out.frozen 3
      have z4 : w4.cell? ⟨w.heap.size, 4, none⟩ = some (.int .i64 0) := (HZw.out.cell 4).trans rfl
      have k4 : w4.frozen? ⟨w.heap.size, 4, none⟩ = false := HZw.out.frozen 4
      have z5 : w4.cell? ⟨w.heap.size, 5, none⟩ = some (.int .i64 0) := (HZw.out.cell 5).trans rfl
      have k5 : w4.frozen? ⟨w.heap.size, 5, none⟩ = false := HZw.out.frozen 5
      have z6 : w4.cell? ⟨w.heap.size, 6, none⟩ = some (.int .i64 0) := (HZw.out.cell 6).trans rfl
      have k6 : w4.frozen? ⟨w.heap.size, 6, none⟩ = false := HZw.out.frozen 6
      have z7 : w4.cell? ⟨w.heap.size, 7, none⟩ = some (.int .i64 0) := (HZw.out.cell 7).trans rfl
      have k7 : w4.frozen? ⟨w.heap.size, 7, none⟩ = false := HZw.out.frozen 7
      have z8 : w4.cell? ⟨w.heap.size, 8, none⟩ = some (.int .i64 0) := (HZw.out.cell 8).trans rfl
      have k8 : w4.frozen? ⟨w.heap.size, 8, none⟩ = false := HZw.out.frozen 8
      have z9 : w4.cell? ⟨w.heap.size, 9, none⟩ = some (.bool false) := (HZw.out.cell 9).trans rfl
      have k9 : w4.frozen? ⟨w.heap.size, 9, none⟩ = false := HZw.out.frozen 9
      have z10 : w4.cell? ⟨w.heap.size, 10, none⟩ = some (.slice none 0 0) := (HZw.out.cell 10).trans rfl
      have k10 : w4.frozen? ⟨w.heap.size, 10, none⟩ = false := HZw.out.frozen 10
      have z11 : w4.cell? ⟨w.heap.size, 11, none⟩ = some (.slice none 0 0) := (HZw.out.cell 11).trans rfl
      have k11 : w4.frozen? ⟨w.heap.size, 11, none⟩ = false := HZw.out.frozen 11
      have z12 : w4.cell? ⟨w.heap.size, 12, none⟩ = some (.slice none 0 0) := (HZw.out.cell 12).trans rfl
      have k12 : w4.frozen? ⟨w.heap.size, 12, none⟩ = false := HZw.out.frozen 12
      go_wp2
      refine bodyPost_ret (v := .tuple #[.agg #[.int .i64 0, .int .i64 0, .int .i64 0, .int .i64 0, .int .i64 0, .int .i64 0, .int .i64 0, .int .i64 0, .int .i64 0, .bool false, .slice none 0 0, .slice none 0 0, .slice none 0 0], .int .i64 0]) (by simp [results, Try.results44, go_sem, z0, z1, z2, z3, z4, z5, z6, z7, z8, z9, z10, z11, z12]) rfl (ThingRet.no HN.out ?_)
      repeat (first | (with_reducible exact HE.out) | refine Below.setCell ?_ (by simp) _)
    | some q =>
      rw [show xOf (some q) = (q.2 : Int) from rfl]
      have d1 : ¬ ((q.2 : Nat) : Int) < 0 := by omega
      have HZw := HZ
      have z0 : w4.cell? ⟨w.heap.size, 0, none⟩ = some (.int .i64 0) := (HZw.out.cell 0).trans rfl
      have k0 : w4.frozen? ⟨w.heap.size, 0, none⟩ = false := HZw.out.frozen 0
      have z1 : w4.cell? ⟨w.heap.size, 1, none⟩ = some (.int .i64 0) := (HZw.out.cell 1).trans rfl
      have k1 : w4.frozen? ⟨w.heap.size, 1, none⟩ = false := HZw.out.frozen 1
      have z2 : w4.cell? ⟨w.heap.size, 2, none⟩ = some (.int .i64 0) := (HZw.out.cell 2).trans rfl
      have k2 : w4.frozen? ⟨w.heap.size, 2, none⟩ = false := HZw.out.frozen 2
      have z3 : w4.cell? ⟨w.heap.size, 3, none⟩ = some (.int .i64 0) := (HZw.out.cell 3).trans rfl
      have k3 : w4.frozen? ⟨w.heap.size, 3, none⟩ = false := HZw.out.frozen 3
      have z4 : w4.cell? ⟨w.heap.size, 4, none⟩ = some (.int .i64 0) := (HZw.out.cell 4).trans rfl
      have k4 : w4.frozen? ⟨w.heap.size, 4, none⟩ = false := HZw.out.frozen 4
      have z5 : w4.cell? ⟨w.heap.size, 5, none⟩ = some (.int .i64 0) := (HZw.out.cell 5).trans rfl
      have k5 : w4.frozen? ⟨w.heap.size, 5, none⟩ = false := HZw.out.frozen 5
      have z6 : w4.cell? ⟨w.heap.size, 6, none⟩ = some (.int .i64 0) := (HZw.out.cell 6).trans rfl
      have k6 : w4.frozen? ⟨w.heap.size, 6, none⟩ = false := HZw.out.frozen 6
      have z7 : w4.cell? ⟨w.heap.size, 7, none⟩ = some (.int .i64 0) := (HZw.out.cell 7).trans rfl
      have k7 : w4.frozen? ⟨w.heap.size, 7, none⟩ = false := HZw.out.frozen 7
      have z8 : w4.cell? ⟨w.heap.size, 8, none⟩ = some (.int .i64 0) := (HZw.out.cell 8).trans rfl
      have k8 : w4.frozen? ⟨w.heap.size, 8, none⟩ = false := HZw.out.frozen 8
      have z9 : w4.cell? ⟨w.heap.size, 9, none⟩ = some (.bool false) := (HZw.out.cell 9).trans rfl
      have k9 : w4.frozen? ⟨w.heap.size, 9, none⟩ = false := HZw.out.frozen 9
      have z10 : w4.cell? ⟨w.heap.size, 10, none⟩ = some (.slice none 0 0) := (HZw.out.cell 10).trans rfl
      have k10 : w4.frozen? ⟨w.heap.size, 10, none⟩ = false := HZw.out.frozen 10
      have z11 : w4.cell? ⟨w.heap.size, 11, none⟩ = some (.slice none 0 0) := (HZw.out.cell 11).trans rfl
      have k11 : w4.frozen? ⟨w.heap.size, 11, none⟩ = false := HZw.out.frozen 11
      have z12 : w4.cell? ⟨w.heap.size, 12, none⟩ = some (.slice none 0 0) := (HZw.out.cell 12).trans rfl
      have k12 : w4.frozen? ⟨w.heap.size, 12, none⟩ = false := HZw.out.frozen 12
      go_wp2
      refine bodyPost_ret (v := .tuple #[.agg #[.int .i64 0, .int .i64 0, .int .i64 0, .int .i64 0, .int .i64 0, .int .i64 0, .int .i64 0, .int .i64 0, .int .i64 0, .bool false, .slice none 0 0, .slice none 0 0, .slice none 0 0], .int .i64 0]) (by simp [results, Try.results44, go_sem, z0, z1, z2, z3, z4, z5, z6, z7, z8, z9, z10, z11, z12]) rfl (ThingRet.no HN.out ?_)
      repeat (first | (with_reducible exact HE.out) | refine Below.setCell ?_ (by simp) _)
  | some q4 =>
    obtain ⟨⟨q3, b3⟩, e3, g4⟩ := Option.bind_eq_some_iff.1 H4.out
    subst e3
    obtain ⟨⟨q2, b2⟩, e2, g3⟩ := Option.bind_eq_some_iff.1 H3.out
    subst e2
    obtain ⟨⟨q1, b1⟩, e1, g2⟩ := Option.bind_eq_some_iff.1 H2.out
    subst e1
    obtain ⟨qu, D⟩ := q4
    have R4 : read4 (bl s) = some (q1, q2, q3, qu, D) := read4_of H1.out g2 g3 g4
    obtain ⟨r1, r2, r3, r4, r5, r6, r7, r8, r9, r10, r11⟩ := read4_le R4
    rw [bl_length] at r2
    have HRT : Hid (readThing (bl s) = if showThing (thingOf q1 q2 q3 qu) = (bl s).take D then some (thingOf q1 q2 q3 qu, D) else none) := hideP (by unfold readThing; rw [R4]; rfl)
    obtain ⟨e1, e2⟩ := HX1.out q1 b1 rfl
    obtain ⟨e3, e4⟩ := HX2.out q2 b2 rfl
    obtain ⟨e5, e6⟩ := HX3.out q3 b3 rfl
    obtain ⟨e7, e8⟩ := HX4.out qu D rfl
    obtain rfl : m1 = 10 := e1.trans r3
    subst e2 e3 e4 e5 e6 e7 e8
    clear g2 g3 g4 R4 HX1 HX2 HX3 HX4 H1 H2 H3 H4 HV1 HV2 HV3 HV4 e1
    rw [show xOf (some (q1, b1)) = (b1 : Int) from rfl, show xOf (some (qu, D)) = (D : Int) from rfl]
    obtain ⟨y0, y1, y2, y3, y4, y5, y6, y7, y8, y9, rfl⟩ : ∃ y0 y1 y2 y3 y4 y5 y6 y7 y8 y9, q1 = [y0, y1, y2, y3, y4, y5, y6, y7, y8, y9] := by
      match q1, r3 with
      | [a, b, c, d, e, f, g, h, i, j], _ => exact ⟨a, b, c, d, e, f, g, h, i, j, rfl⟩
    obtain ⟨p1, c1, rfl, _⟩ := owns_slice HO1.out
    obtain ⟨g1, rfl, hg1⟩ := owns_block HO1.out (by decide)
    obtain ⟨p2, c2, rfl, _⟩ := owns_slice HO2.out
    obtain ⟨p3, c3, rfl, _⟩ := owns_slice HO3.out
    obtain ⟨p4, c4, rfl, _⟩ := owns_slice HO4.out
    have O1 := hideP (owns_below (owns_below (owns_below HO1.out (Nat.le_refl _) HB2.out) (Nat.le_refl _) HB3.out) (Nat.le_refl _) HB4.out)
    have hg1w : g1 < w4.heap.size := (O1.out.lt g1 rfl).2
    have R2 := hideP (rd_of_owns (owns_below (owns_below HO2.out (Nat.le_refl _) HB3.out) (Nat.le_refl _) HB4.out))
    have R3 := hideP (rd_of_owns (owns_below HO3.out (Nat.le_refl _) HB4.out))
    have R4 := hideP (rd_of_owns HO4.out)
    rw [icells_eq] at R2 R4
    have I2 := hideP r9
    have I4 := hideP r11
    have hy2 : y2 ≤ 562949953421311 := r8 y2 (by simp)
    have hy6 : y6 ≤ 562949953421311 := r8 y6 (by simp)
    have hy7 : y7 ≤ 562949953421311 := r8 y7 (by simp)
    clear r3 r8 r9 r10 r11 HB1 HB2 HB3 HB4 HO1 HO2 HO3 HO4
    have u0 : w4.cell? ⟨g1, 0, none⟩ = some (.int .i64 (y0 : Int)) := by rw [O1.out.cellAt 0 (by decide)]; rfl
    have u1 : w4.cell? ⟨g1, 1, none⟩ = some (.int .i64 (y1 : Int)) := by rw [O1.out.cellAt 1 (by decide)]; rfl
    have u2 : w4.cell? ⟨g1, 2, none⟩ = some (.int .i64 (y2 : Int)) := by rw [O1.out.cellAt 2 (by decide)]; rfl
    have u3 : w4.cell? ⟨g1, 3, none⟩ = some (.int .i64 (y3 : Int)) := by rw [O1.out.cellAt 3 (by decide)]; rfl
    have u4 : w4.cell? ⟨g1, 4, none⟩ = some (.int .i64 (y4 : Int)) := by rw [O1.out.cellAt 4 (by decide)]; rfl
    have u5 : w4.cell? ⟨g1, 5, none⟩ = some (.int .i64 (y5 : Int)) := by rw [O1.out.cellAt 5 (by decide)]; rfl
    have u6 : w4.cell? ⟨g1, 6, none⟩ = some (.int .i64 (y6 : Int)) := by rw [O1.out.cellAt 6 (by decide)]; rfl
    have u7 : w4.cell? ⟨g1, 7, none⟩ = some (.int .i64 (y7 : Int)) := by rw [O1.out.cellAt 7 (by decide)]; rfl
    have u8 : w4.cell? ⟨g1, 8, none⟩ = some (.int .i64 (y8 : Int)) := by rw [O1.out.cellAt 8 (by decide)]; rfl
    have u9 : w4.cell? ⟨g1, 9, none⟩ = some (.int .i64 (y9 : Int)) := by rw [O1.out.cellAt 9 (by decide)]; rfl
    obtain ⟨fl, hfl⟩ : ∃ b, b = ((y9 : Int) == 1) := ⟨_, rfl⟩
    have HFL : Hid (decide (y9 = 1) = fl) := hideP (by rw [hfl, Bool.eq_iff_iff]; simp; omega)
    have hfl' := hfl.symm
    clear hfl O1
    have d1 : ¬ ((b1 : Nat) : Int) < 0 := by omega
    have d2 : ¬ ((D : Nat) : Int) < 0 := by omega
    have gX : w.heap.size < w4.heap.size := HZ.out.lt
    have zw2 : IntKind.i64.wrap ((y2 : Int) - 1) = (y2 : Int) - 1 := IntWalk.i64_in _ (by omega)
    have zw7 : IntKind.i64.wrap ((y7 : Int) - 1) = (y7 : Int) - 1 := IntWalk.i64_in _ (by omega)
    go_upto_region 7 with fail
    go_cut [12] (fun s wx => s = .pointer (some ⟨w4.heap.size, 0, none⟩) ∧ Hid (Blk wx w4.heap.size 71 [.int .i64 ((y0 : Int)), .int .i64 ((y1 : Int)), .int .i64 ((y2 : Int) - 1), .int .i64 ((y3 : Int)), .int .i64 ((y4 : Int)), .int .i64 ((y5 : Int)), .int .i64 ((y6 : Int)), .int .i64 ((y7 : Int) - 1), .int .i64 ((y8 : Int)), .bool fl, .slice none 0 0, .slice none 0 0, .slice none 0 0]) ∧ Below w4.heap.size w4 wx)
    case first =>
      refine wp_region_held_drew (S := fun w' => Below w4.heap.size w4 w') (by kernel_rfl) ((Below.refl _ _).drew) (fun hHeld => ?_)
      refine takeD (i := 0) (oi := _) (v := ?_) (some 45) rfl rfl (by kernel_rfl) (by kernel_rfl) (by kernel_rfl) (fun _ _ _ h => h) (Or.inl ⟨by rfl, ?_⟩) (by assumption) ?_
      rotate_left
      · intro wS hSw; (try dsimp only at hSw); go_simp; (try rw [if_neg (by omega)]); try with_reducible rfl
      try simp only [Act.put, List.setIfInBounds_toArray, List.set_cons_zero, List.set_cons_succ]
      refine takeD (i := 1) (oi := _) (v := ?_) (some 46) rfl rfl (by kernel_rfl) (by kernel_rfl) (by kernel_rfl) (fun _ _ _ h => h) (Or.inl ⟨by rfl, ?_⟩) (by assumption) ?_
      rotate_left
      · intro wS hSw; (try dsimp only at hSw); go_simp; (try rw [if_neg (by omega)]); try with_reducible rfl
      try simp only [Act.put, List.setIfInBounds_toArray, List.set_cons_zero, List.set_cons_succ]
      refine takeD (i := 2) (oi := _) (v := ?_) (some 47) rfl rfl (by kernel_rfl) (by kernel_rfl) (by kernel_rfl) (fun _ _ _ h => h) (Or.inl ⟨by rfl, ?_⟩) (by assumption) ?_
      rotate_left
      · intro wS hSw; have zl : wS.cell? ⟨g1, 0, none⟩ = some (.int .i64 (y0 : Int)) := (hSw.cell (p := ⟨g1, 0, none⟩) hg1w).trans u0; go_simp; (try rw [if_neg (by omega)]); try with_reducible rfl
      try simp only [Act.put, List.setIfInBounds_toArray, List.set_cons_zero, List.set_cons_succ]
      refine takeD (i := 3) (oi := _) (v := ?_) (some 48) rfl rfl (by kernel_rfl) (by kernel_rfl) (by kernel_rfl) (fun _ _ _ h => h) (Or.inl ⟨by rfl, ?_⟩) (by assumption) ?_
      rotate_left
      · intro wS hSw; (try dsimp only at hSw); go_simp; (try rw [if_neg (by omega)]); try with_reducible rfl
      try simp only [Act.put, List.setIfInBounds_toArray, List.set_cons_zero, List.set_cons_succ]
      refine takeD (i := 4) (oi := _) (v := ?_) (some 49) rfl rfl (by kernel_rfl) (by kernel_rfl) (by kernel_rfl) (fun _ _ _ h => h) (Or.inl ⟨by rfl, ?_⟩) (by assumption) ?_
      rotate_left
      · intro wS hSw; (try dsimp only at hSw); go_simp; (try rw [if_neg (by omega)]); try with_reducible rfl
      try simp only [Act.put, List.setIfInBounds_toArray, List.set_cons_zero, List.set_cons_succ]
      refine takeD (i := 5) (oi := _) (v := ?_) (some 50) rfl rfl (by kernel_rfl) (by kernel_rfl) (by kernel_rfl) (fun _ _ _ h => h) (Or.inl ⟨by rfl, ?_⟩) (by assumption) ?_
      rotate_left
      · intro wS hSw; have zl : wS.cell? ⟨g1, 1, none⟩ = some (.int .i64 (y1 : Int)) := (hSw.cell (p := ⟨g1, 1, none⟩) hg1w).trans u1; go_simp; (try rw [if_neg (by omega)]); try with_reducible rfl
      try simp only [Act.put, List.setIfInBounds_toArray, List.set_cons_zero, List.set_cons_succ]
      refine takeD (i := 6) (oi := _) (v := ?_) (some 51) rfl rfl (by kernel_rfl) (by kernel_rfl) (by kernel_rfl) (fun _ _ _ h => h) (Or.inl ⟨by rfl, ?_⟩) (by assumption) ?_
      rotate_left
      · intro wS hSw; (try dsimp only at hSw); go_simp; (try rw [if_neg (by omega)]); try with_reducible rfl
      try simp only [Act.put, List.setIfInBounds_toArray, List.set_cons_zero, List.set_cons_succ]
      refine takeD (i := 7) (oi := _) (v := ?_) (some 52) rfl rfl (by kernel_rfl) (by kernel_rfl) (by kernel_rfl) (fun _ _ _ h => h) (Or.inl ⟨by rfl, ?_⟩) (by assumption) ?_
      rotate_left
      · intro wS hSw; (try dsimp only at hSw); go_simp; (try rw [if_neg (by omega)]); try with_reducible rfl
      try simp only [Act.put, List.setIfInBounds_toArray, List.set_cons_zero, List.set_cons_succ]
      refine takeD (i := 8) (oi := _) (v := ?_) (some 53) rfl rfl (by kernel_rfl) (by kernel_rfl) (by kernel_rfl) (fun _ _ _ h => h) (Or.inl ⟨by rfl, ?_⟩) (by assumption) ?_
      rotate_left
      · intro wS hSw; have zl : wS.cell? ⟨g1, 2, none⟩ = some (.int .i64 (y2 : Int)) := (hSw.cell (p := ⟨g1, 2, none⟩) hg1w).trans u2; go_simp; (try rw [if_neg (by omega)]); try with_reducible rfl
      try simp only [Act.put, List.setIfInBounds_toArray, List.set_cons_zero, List.set_cons_succ]
      refine takeD (i := 9) (oi := _) (v := ?_) (some 54) rfl rfl (by kernel_rfl) (by kernel_rfl) (by kernel_rfl) (fun _ _ _ h => h) (Or.inl ⟨by rfl, ?_⟩) (by assumption) ?_
      rotate_left
      · intro wS hSw; (try dsimp only at hSw); go_simp; (try rw [if_neg (by omega)]); try with_reducible rfl
      try simp only [Act.put, List.setIfInBounds_toArray, List.set_cons_zero, List.set_cons_succ]
      refine takeD (i := 10) (oi := _) (v := ?_) (some 55) rfl rfl (by kernel_rfl) (by kernel_rfl) (by kernel_rfl) (fun _ _ _ h => h) (Or.inl ⟨by rfl, ?_⟩) (by assumption) ?_
      rotate_left
      · intro wS hSw; (try dsimp only at hSw); go_simp; (try rw [if_neg (by omega)]); try with_reducible rfl
      try simp only [Act.put, List.setIfInBounds_toArray, List.set_cons_zero, List.set_cons_succ]
      refine takeD (i := 11) (oi := _) (v := ?_) (some 56) rfl rfl (by kernel_rfl) (by kernel_rfl) (by kernel_rfl) (fun _ _ _ h => h) (Or.inl ⟨by rfl, ?_⟩) (by assumption) ?_
      rotate_left
      · intro wS hSw; (try dsimp only at hSw); go_simp; (try rw [if_neg (by omega)]); try with_reducible rfl
      try simp only [Act.put, List.setIfInBounds_toArray, List.set_cons_zero, List.set_cons_succ]
      refine takeD (i := 12) (oi := _) (v := ?_) (some 57) rfl rfl (by kernel_rfl) (by kernel_rfl) (by kernel_rfl) (fun _ _ _ h => h) (Or.inl ⟨by rfl, ?_⟩) (by assumption) ?_
      rotate_left
      · intro wS hSw; have zl : wS.cell? ⟨g1, 3, none⟩ = some (.int .i64 (y3 : Int)) := (hSw.cell (p := ⟨g1, 3, none⟩) hg1w).trans u3; go_simp; (try rw [if_neg (by omega)]); try with_reducible rfl
      try simp only [Act.put, List.setIfInBounds_toArray, List.set_cons_zero, List.set_cons_succ]
      refine takeD (i := 13) (oi := _) (v := ?_) (some 58) rfl rfl (by kernel_rfl) (by kernel_rfl) (by kernel_rfl) (fun _ _ _ h => h) (Or.inl ⟨by rfl, ?_⟩) (by assumption) ?_
      rotate_left
      · intro wS hSw; (try dsimp only at hSw); go_simp; (try rw [if_neg (by omega)]); try with_reducible rfl
      try simp only [Act.put, List.setIfInBounds_toArray, List.set_cons_zero, List.set_cons_succ]
      refine takeD (i := 14) (oi := _) (v := ?_) (some 59) rfl rfl (by kernel_rfl) (by kernel_rfl) (by kernel_rfl) (fun _ _ _ h => h) (Or.inl ⟨by rfl, ?_⟩) (by assumption) ?_
      rotate_left
      · intro wS hSw; (try dsimp only at hSw); go_simp; (try rw [if_neg (by omega)]); try with_reducible rfl
      try simp only [Act.put, List.setIfInBounds_toArray, List.set_cons_zero, List.set_cons_succ]
      refine takeD (i := 15) (oi := _) (v := ?_) (some 60) rfl rfl (by kernel_rfl) (by kernel_rfl) (by kernel_rfl) (fun _ _ _ h => h) (Or.inl ⟨by rfl, ?_⟩) (by assumption) ?_
      rotate_left
      · intro wS hSw; have zl : wS.cell? ⟨g1, 4, none⟩ = some (.int .i64 (y4 : Int)) := (hSw.cell (p := ⟨g1, 4, none⟩) hg1w).trans u4; go_simp; (try rw [if_neg (by omega)]); try with_reducible rfl
      try simp only [Act.put, List.setIfInBounds_toArray, List.set_cons_zero, List.set_cons_succ]
      refine takeD (i := 16) (oi := _) (v := ?_) (some 61) rfl rfl (by kernel_rfl) (by kernel_rfl) (by kernel_rfl) (fun _ _ _ h => h) (Or.inl ⟨by rfl, ?_⟩) (by assumption) ?_
      rotate_left
      · intro wS hSw; (try dsimp only at hSw); go_simp; (try rw [if_neg (by omega)]); try with_reducible rfl
      try simp only [Act.put, List.setIfInBounds_toArray, List.set_cons_zero, List.set_cons_succ]
      refine takeD (i := 17) (oi := _) (v := ?_) (some 62) rfl rfl (by kernel_rfl) (by kernel_rfl) (by kernel_rfl) (fun _ _ _ h => h) (Or.inl ⟨by rfl, ?_⟩) (by assumption) ?_
      rotate_left
      · intro wS hSw; (try dsimp only at hSw); go_simp; (try rw [if_neg (by omega)]); try with_reducible rfl
      try simp only [Act.put, List.setIfInBounds_toArray, List.set_cons_zero, List.set_cons_succ]
      refine takeD (i := 18) (oi := _) (v := ?_) (some 63) rfl rfl (by kernel_rfl) (by kernel_rfl) (by kernel_rfl) (fun _ _ _ h => h) (Or.inl ⟨by rfl, ?_⟩) (by assumption) ?_
      rotate_left
      · intro wS hSw; have zl : wS.cell? ⟨g1, 5, none⟩ = some (.int .i64 (y5 : Int)) := (hSw.cell (p := ⟨g1, 5, none⟩) hg1w).trans u5; go_simp; (try rw [if_neg (by omega)]); try with_reducible rfl
      try simp only [Act.put, List.setIfInBounds_toArray, List.set_cons_zero, List.set_cons_succ]
      refine takeD (i := 19) (oi := _) (v := ?_) (some 64) rfl rfl (by kernel_rfl) (by kernel_rfl) (by kernel_rfl) (fun _ _ _ h => h) (Or.inl ⟨by rfl, ?_⟩) (by assumption) ?_
      rotate_left
      · intro wS hSw; (try dsimp only at hSw); go_simp; (try rw [if_neg (by omega)]); try with_reducible rfl
      try simp only [Act.put, List.setIfInBounds_toArray, List.set_cons_zero, List.set_cons_succ]
      refine takeD (i := 20) (oi := _) (v := ?_) (some 65) rfl rfl (by kernel_rfl) (by kernel_rfl) (by kernel_rfl) (fun _ _ _ h => h) (Or.inl ⟨by rfl, ?_⟩) (by assumption) ?_
      rotate_left
      · intro wS hSw; (try dsimp only at hSw); go_simp; (try rw [if_neg (by omega)]); try with_reducible rfl
      try simp only [Act.put, List.setIfInBounds_toArray, List.set_cons_zero, List.set_cons_succ]
      refine takeD (i := 21) (oi := _) (v := ?_) (some 66) rfl rfl (by kernel_rfl) (by kernel_rfl) (by kernel_rfl) (fun _ _ _ h => h) (Or.inl ⟨by rfl, ?_⟩) (by assumption) ?_
      rotate_left
      · intro wS hSw; have zl : wS.cell? ⟨g1, 6, none⟩ = some (.int .i64 (y6 : Int)) := (hSw.cell (p := ⟨g1, 6, none⟩) hg1w).trans u6; go_simp; (try rw [if_neg (by omega)]); try with_reducible rfl
      try simp only [Act.put, List.setIfInBounds_toArray, List.set_cons_zero, List.set_cons_succ]
      refine takeD (i := 22) (oi := _) (v := ?_) (some 67) rfl rfl (by kernel_rfl) (by kernel_rfl) (by kernel_rfl) (fun _ _ _ h => h) (Or.inl ⟨by rfl, ?_⟩) (by assumption) ?_
      rotate_left
      · intro wS hSw; (try dsimp only at hSw); go_simp; (try rw [if_neg (by omega)]); try with_reducible rfl
      try simp only [Act.put, List.setIfInBounds_toArray, List.set_cons_zero, List.set_cons_succ]
      refine takeD (i := 23) (oi := _) (v := ?_) (some 68) rfl rfl (by kernel_rfl) (by kernel_rfl) (by kernel_rfl) (fun _ _ _ h => h) (Or.inl ⟨by rfl, ?_⟩) (by assumption) ?_
      rotate_left
      · intro wS hSw; (try dsimp only at hSw); go_simp; (try rw [if_neg (by omega)]); try with_reducible rfl
      try simp only [Act.put, List.setIfInBounds_toArray, List.set_cons_zero, List.set_cons_succ]
      refine takeD (i := 24) (oi := _) (v := ?_) (some 69) rfl rfl (by kernel_rfl) (by kernel_rfl) (by kernel_rfl) (fun _ _ _ h => h) (Or.inl ⟨by rfl, ?_⟩) (by assumption) ?_
      rotate_left
      · intro wS hSw; have zl : wS.cell? ⟨g1, 7, none⟩ = some (.int .i64 (y7 : Int)) := (hSw.cell (p := ⟨g1, 7, none⟩) hg1w).trans u7; go_simp; (try rw [if_neg (by omega)]); try with_reducible rfl
      try simp only [Act.put, List.setIfInBounds_toArray, List.set_cons_zero, List.set_cons_succ]
      refine takeD (i := 25) (oi := _) (v := ?_) (some 70) rfl rfl (by kernel_rfl) (by kernel_rfl) (by kernel_rfl) (fun _ _ _ h => h) (Or.inl ⟨by rfl, ?_⟩) (by assumption) ?_
      rotate_left
      · intro wS hSw; (try dsimp only at hSw); go_simp; (try rw [if_neg (by omega)]); try with_reducible rfl
      try simp only [Act.put, List.setIfInBounds_toArray, List.set_cons_zero, List.set_cons_succ]
      refine takeD (i := 26) (oi := _) (v := ?_) (some 71) rfl rfl (by kernel_rfl) (by kernel_rfl) (by kernel_rfl) (fun _ _ _ h => h) (Or.inl ⟨by rfl, ?_⟩) (by assumption) ?_
      rotate_left
      · intro wS hSw; (try dsimp only at hSw); go_simp; (try rw [if_neg (by omega)]); try with_reducible rfl
      try simp only [Act.put, List.setIfInBounds_toArray, List.set_cons_zero, List.set_cons_succ]
      refine takeD (i := 27) (oi := _) (v := ?_) (some 72) rfl rfl (by kernel_rfl) (by kernel_rfl) (by kernel_rfl) (fun _ _ _ h => h) (Or.inl ⟨by rfl, ?_⟩) (by assumption) ?_
      rotate_left
      · intro wS hSw; (try dsimp only at hSw); go_simp; (try rw [if_neg (by omega)]); try with_reducible rfl
      try simp only [Act.put, List.setIfInBounds_toArray, List.set_cons_zero, List.set_cons_succ]
      refine takeD (i := 28) (oi := _) (v := ?_) (some 73) rfl rfl (by kernel_rfl) (by kernel_rfl) (by kernel_rfl) (fun _ _ _ h => h) (Or.inl ⟨by rfl, ?_⟩) (by assumption) ?_
      rotate_left
      · intro wS hSw; have zl : wS.cell? ⟨g1, 8, none⟩ = some (.int .i64 (y8 : Int)) := (hSw.cell (p := ⟨g1, 8, none⟩) hg1w).trans u8; go_simp; (try rw [if_neg (by omega)]); try with_reducible rfl
      try simp only [Act.put, List.setIfInBounds_toArray, List.set_cons_zero, List.set_cons_succ]
      refine takeD (i := 29) (oi := _) (v := ?_) (some 74) rfl rfl (by kernel_rfl) (by kernel_rfl) (by kernel_rfl) (fun _ _ _ h => h) (Or.inl ⟨by rfl, ?_⟩) (by assumption) ?_
      rotate_left
      · intro wS hSw; (try dsimp only at hSw); go_simp; (try rw [if_neg (by omega)]); try with_reducible rfl
      try simp only [Act.put, List.setIfInBounds_toArray, List.set_cons_zero, List.set_cons_succ]
      refine takeD (i := 30) (oi := _) (v := ?_) (some 75) rfl rfl (by kernel_rfl) (by kernel_rfl) (by kernel_rfl) (fun _ _ _ h => h) (Or.inl ⟨by rfl, ?_⟩) (by assumption) ?_
      rotate_left
      · intro wS hSw; (try dsimp only at hSw); go_simp; (try rw [if_neg (by omega)]); try with_reducible rfl
      try simp only [Act.put, List.setIfInBounds_toArray, List.set_cons_zero, List.set_cons_succ]
      refine takeD (i := 31) (oi := _) (v := ?_) (some 76) rfl rfl (by kernel_rfl) (by kernel_rfl) (by kernel_rfl) (fun _ _ _ h => h) (Or.inl ⟨by rfl, ?_⟩) (by assumption) ?_
      rotate_left
      · intro wS hSw; have zl : wS.cell? ⟨g1, 9, none⟩ = some (.int .i64 (y9 : Int)) := (hSw.cell (p := ⟨g1, 9, none⟩) hg1w).trans u9; go_simp; (try rw [if_neg (by omega)]); try with_reducible rfl
      try simp only [Act.put, List.setIfInBounds_toArray, List.set_cons_zero, List.set_cons_succ]
      refine takeD (i := 32) (oi := _) (v := ?_) (some 77) rfl rfl (by kernel_rfl) (by kernel_rfl) (by kernel_rfl) (fun _ _ _ h => h) (Or.inl ⟨by rfl, ?_⟩) (by assumption) ?_
      rotate_left
      · intro wS hSw; (try dsimp only at hSw); go_simp; (try rw [if_neg (by omega)]); try with_reducible rfl
      try simp only [Act.put, List.setIfInBounds_toArray, List.set_cons_zero, List.set_cons_succ]
      refine takeD (i := 33) (oi := _) (v := ?_) (some 78) rfl rfl (by kernel_rfl) (by kernel_rfl) (by kernel_rfl) (fun _ _ _ h => h) (Or.inl ⟨by rfl, ?_⟩) (by assumption) ?_
      rotate_left
      · intro wS hSw; (try dsimp only at hSw); go_simp; (try rw [if_neg (by omega)]); try with_reducible rfl
      try simp only [Act.put, List.setIfInBounds_toArray, List.set_cons_zero, List.set_cons_succ]
      refine wpAnyH_ready (rs := [34]) (by kernel_rfl) (by simp) ?_
      refine AllReadyH.cons (o := _) rfl (fun K hK => ?_) AllReadyH.nil
      go_simp
      refine hK.out _ _ ((below_a1 w4 _).drew) (fun hNext => ?_)
      clear hK K hHeld
      revert hNext
      intro hHeld
      try simp only [Act.put, List.setIfInBounds_toArray, List.set_cons_zero, List.set_cons_succ]
      refine wpAnyH_ready (rs := [35]) (by kernel_rfl) (by simp) ?_
      refine AllReadyH.cons (o := _) rfl (fun K hK => ?_) AllReadyH.nil
      go_simp
      refine hK.out _ _ ((below_a1 w4 _).drew) (fun hNext => ?_)
      clear hK K hHeld
      revert hNext
      intro hHeld
      try simp only [Act.put, List.setIfInBounds_toArray, List.set_cons_zero, List.set_cons_succ]
      refine wpAnyH_done (by kernel_rfl) ?_ _
      clear hHeld
      go_wp2
      go_meet
      exact ⟨rfl, hideP (Blk.new' (w := w4) (g := w4.heap.size) #[.int .i64 ((y0 : Int)), .int .i64 ((y1 : Int)), .int .i64 ((y2 : Int) - 1), .int .i64 ((y3 : Int)), .int .i64 ((y4 : Int)), .int .i64 ((y5 : Int)), .int .i64 ((y6 : Int)), .int .i64 ((y7 : Int) - 1), .int .i64 ((y8 : Int)), .bool fl, .slice none 0 0, .slice none 0 0, .slice none 0 0] 71 rfl), (below_a1 w4 _).drew⟩
    case rest =>
    clear u0 u1 u2 u3 u4 u5 u6 u7 u8 u9 hfl' zw2 zw7
    obtain ⟨rfl, HX, hb⟩ := hcut
    have HZ := hideP (HZ.out.below hb)
    have HE := hideP (HE.out.trans (hb.mono HE.out.size))
    have sX : w4.heap.size < wc.heap.size := HX.out.lt
    go_wp2
    go_loopg [13] (q2.length + 1) (fun gk i wr => ∃ (k : Nat) (pl : Option Addr) (cl : Nat), q2.length < gk + k ∧ k ≤ q2.length ∧ i = .int .i64 (k : Int) ∧ Hid (Blk wr w4.heap.size 71 [.int .i64 ((y0 : Int)), .int .i64 ((y1 : Int)), .int .i64 ((y2 : Int) - 1), .int .i64 ((y3 : Int)), .int .i64 ((y4 : Int)), .int .i64 ((y5 : Int)), .int .i64 ((y6 : Int)), .int .i64 ((y7 : Int) - 1), .int .i64 ((y8 : Int)), .bool fl, .slice pl k cl, .slice none 0 0, .slice none 0 0]) ∧ Hid (wr.ownsRow wc.heap.size 3 1 (.slice pl k cl) k (icell (((ints q2).map (· - 1)).take k))) ∧ Hid (Kept w4.heap.size w4.heap.size wc wr))
    case atStart => exact ⟨0, none, 0, by omega, by omega, rfl, HX, hideP (by rw [List.take_zero]; exact owns_nil' _ _ _ _), hideP (Kept.refl _ _ _)⟩
    case round =>
      clear HX
      obtain ⟨k, pl, cl, hgk, hk, rfl, hX, hO, hK⟩ := hrel
      have sK : wc.heap.size ≤ wr.heap.size := hK.out.size
      have hbr := hideP (hK.out.below hb hb.size (Nat.le_refl _) (Nat.le_refl _))
      by_cases hlt : k < q2.length
      · obtain ⟨y, hy⟩ := some_at (l := q2) (k := k) hlt
        have hyv : y ≤ 562949953421311 := I2.out y (List.mem_of_getElem? hy)
        obtain ⟨b, oo, rfl, hbw, h0⟩ := rdInt (R2.out.below hbr.out) (ints_at hy)
        have HN : Hid (icell (((ints q2).map (· - 1)).take (k + 1)) = icell (((ints q2).map (· - 1)).take k) ++ [.int .i64 ((y : Int) - 1)]) := hideP (by rw [take_one (sub_one_at hy)]; simp [icell])
        have c10 : wr.cell? ⟨w4.heap.size, 10, none⟩ = some (.slice pl k cl) := (hX.out.cell 10).trans rfl
        have e10 := cell_alloc_keep c10 (.cells #[.int .i64 ((y : Int) - 1)] 3)
        have k0 : (0 : Int) ≤ (k : Int) := by omega
        have k1 : (k : Int) < (q2.length : Int) := by omega
        have OB : ∀ x, (Value.slice pl k cl).ownBlock = some x → wc.heap.size ≤ x ∧ x < wr.heap.size := fun x hx => hO.out.lt x hx
        have zw : IntKind.i64.wrap ((y : Int) - 1) = (y : Int) - 1 := IntWalk.i64_in _ (by omega)
        clear hy
        go_wp2
        go_region_law ((refine step_append_lies _ rfl _ _ 39 rfl wc.heap.size 3 i0 (.int .i64 0) 1 8 Try.underlying39 hi hz0 hz1 hz2 rfl (by decide) _ k _ rfl (ownsAD hO.out _) _ 1 1 [.int .i64 ((y : Int) - 1)] rfl rfl (newsDd (cs := #[.int .i64 ((y : Int) - 1)]) rfl) (by simp [Value.oneCell']) (by decide) (by unfold maxLen; omega) (by omega) (by simp; omega) _ rfl ?_; intro g9 c9 w9 ho9 hg9x hq9 hr9; have hg9 : (wr.alloc (.cells #[.int .i64 ((y : Int) - 1)] 3)).grownBy w9 (Value.slice pl k cl).ownBlock := grown_undrew hg9x; clear hg9x; have X9 := hideP ((hX.out.alloc (.cells #[.int .i64 ((y : Int) - 1)] 3)).kept (hg9.block _ (hX.out.alloc _).lt (fun e => by have := OB _ e.symm; omega))); have x9 : w9.cell? ⟨w4.heap.size, 10, none⟩ = some (.slice pl k cl) := (X9.out.cell 10).trans rfl; have f9 : w9.frozen? ⟨w4.heap.size, 10, none⟩ = false := X9.out.frozen 10; have O9 := Lib.hid ho9; have K9 := hideP (((hK.out.alloc (.cells #[.int .i64 ((y : Int) - 1)] 3)).own hg9 (fun x hx => (OB x hx).1)) : Kept w4.heap.size w4.heap.size wc w9); clear ho9 hg9 hq9))
        all_goals
          have ONE : ∀ x, (Value.slice (some ⟨g9, 0, none⟩) (k + 1) c9).ownBlock = some x → w4.heap.size < x := fun x hx => by have := O9.out.lt x hx; omega
          have X9s : Hid (Blk (w9.setCell ⟨w4.heap.size, 10, none⟩ (.slice (some ⟨g9, 0, none⟩) (k + 1) c9)) w4.heap.size 71 [.int .i64 ((y0 : Int)), .int .i64 ((y1 : Int)), .int .i64 ((y2 : Int) - 1), .int .i64 ((y3 : Int)), .int .i64 ((y4 : Int)), .int .i64 ((y5 : Int)), .int .i64 ((y6 : Int)), .int .i64 ((y7 : Int) - 1), .int .i64 ((y8 : Int)), .bool fl, (.slice (some ⟨g9, 0, none⟩) (k + 1) c9), .slice none 0 0, .slice none 0 0]) := hideP (X9.out.set 10 (.slice (some ⟨g9, 0, none⟩) (k + 1) c9))
          have O9s := hideP (owns_setother2 (M := w4.heap.size) (i := 10) (u := .slice (some ⟨g9, 0, none⟩) (k + 1) c9) O9.out (fun x hx => by have := ONE x hx; omega))
          rw [← HN.out] at O9s
          have K9s := hideP (K9.out.set (i := 10) (v := .slice (some ⟨g9, 0, none⟩) (k + 1) c9))
          clear X9 O9 K9 zw c10 e10 x9 f9
          go_wp2
          go_roundg (gk - 1)
          case measure => omega
          case rel => exact ⟨k + 1, some ⟨g9, 0, none⟩, c9, by omega, by omega, by go_num, X9s, O9s, K9s⟩
      · have hkn : k = q2.length := by omega
        subst hkn
        have HOl : Hid (wr.ownsRow wc.heap.size 3 1 (.slice pl q2.length cl) q2.length (icell ((ints q2).map (· - 1)))) := hideP (by have := hO.out; rwa [List.take_of_length_le (by simp [ints])] at this)
        have Pl : ∀ x, (Value.slice pl q2.length cl).ownBlock = some x → wc.heap.size ≤ x ∧ x < wr.heap.size := fun x hx => hO.out.lt x hx
        have HZ := hideP (HZ.out.kept (hK.out.block _ HZ.out.lt (by omega) (by omega)))
        have HE := hideP (hK.out.below HE.out HE.out.size (by omega) (by omega))
        have c11 : wr.cell? ⟨w4.heap.size, 11, none⟩ = some (.slice none 0 0) := (hX.out.cell 11).trans rfl
        clear hO
        go_wp2_with (at_builtin; refine wpList_append_rd _ rfl _ _ 39 rfl wr.heap.size 3 i0 (.int .i64 0) 1 8 Try.underlying39 hi hz0 hz1 hz2 rfl (by decide) _ 0 [] rfl (owns_nil' _ _ _ _) _ _ _ (icells q3) rfl ?c1 (R3.out.below hbr.out) ?c2 ?c3 ?c4 ?c5 ?_)
        case c1 => simp [icells]
        case c2 => simp [icells, Value.oneCell']
        case c3 => unfold maxLen; omega
        case c4 => omega
        case c5 => exact Nat.le_refl _
        intro vd w9 ho9 hg9
        rw [icells_eq] at ho9
        obtain ⟨pd, cd, rfl, _⟩ := owns_slice ho9
        have K9 : Hid (Kept w4.heap.size w4.heap.size wr w9) := hideP ((Kept.refl _ _ _).own hg9 (fun q hq => (by cases hq)))
        have X9 := hideP (hX.out.kept (hg9.block _ hX.out.lt (fun e => (by cases e))))
        have s9 : wr.heap.size ≤ w9.heap.size := hg9.size
        have Pd : ∀ x, (Value.slice pd q3.length cd).ownBlock = some x → wr.heap.size ≤ x ∧ x < w9.heap.size := fun x hx => ho9.lt x hx
        have HOd : Hid (w9.ownsRow wr.heap.size 3 1 (.slice pd q3.length cd) q3.length (icell (ints q3))) := hideP ho9
        clear ho9 hg9 c11
        have c11 : w9.cell? ⟨w4.heap.size, 11, none⟩ = some (.slice none 0 0) := (X9.out.cell 11).trans rfl
        have f11 : w9.frozen? ⟨w4.heap.size, 11, none⟩ = false := X9.out.frozen 11
        have XS : Hid (Blk (w9.setCell ⟨w4.heap.size, 11, none⟩ (.slice pd q3.length cd)) w4.heap.size 71 [.int .i64 ((y0 : Int)), .int .i64 ((y1 : Int)), .int .i64 ((y2 : Int) - 1), .int .i64 ((y3 : Int)), .int .i64 ((y4 : Int)), .int .i64 ((y5 : Int)), .int .i64 ((y6 : Int)), .int .i64 ((y7 : Int) - 1), .int .i64 ((y8 : Int)), .bool fl, .slice pl q2.length cl, .slice pd q3.length cd, .slice none 0 0]) := hideP (X9.out.set 11 (.slice pd q3.length cd))
        have KS := hideP ((Kept.refl w4.heap.size w4.heap.size w9).set (i := 11) (v := .slice pd q3.length cd))
        have sS : (w9.setCell ⟨w4.heap.size, 11, none⟩ (.slice pd q3.length cd)).heap.size = w9.heap.size := by simp
        go_wp2
        clear c11 f11
        go_loopg [14] (qu.length + 1) (fun gk i wr2 => ∃ (k j : Nat) (pq : Option Addr) (cq : Nat), qu.length < gk + k ∧ k ≤ qu.length ∧ i = .int .i64 (j : Int) ∧ Hid (j = 2 * k) ∧ j ≤ qu.length ∧ Hid (Blk wr2 w4.heap.size 71 [.int .i64 ((y0 : Int)), .int .i64 ((y1 : Int)), .int .i64 ((y2 : Int) - 1), .int .i64 ((y3 : Int)), .int .i64 ((y4 : Int)), .int .i64 ((y5 : Int)), .int .i64 ((y6 : Int)), .int .i64 ((y7 : Int) - 1), .int .i64 ((y8 : Int)), .bool fl, .slice pl q2.length cl, .slice pd q3.length cd, .slice pq k cq]) ∧ Hid (wr2.ownsRow w9.heap.size 137 2 (.slice pq k cq) k (((pairs qu).take k).flatMap Msg.enc)) ∧ Hid (Kept w4.heap.size w4.heap.size w9 wr2))
        case atStart => exact ⟨0, 0, none, 0, by omega, by omega, rfl, hideP rfl, by omega, XS, hideP (by rw [List.take_zero]; exact owns_nil' _ _ _ _), KS⟩
        case round =>
          clear XS KS hX
          obtain ⟨k, j, pq, cq, hgk, hk, rfl, hj, hjl, hX, hO, hK2⟩ := hrel
          have s2 : w9.heap.size ≤ wr.heap.size := hK2.out.size
          have hbx := hideP (hK2.out.below (K9.out.below hbr.out hbr.out.size (Nat.le_refl _) (Nat.le_refl _)) (by omega) (Nat.le_refl _) (Nat.le_refl _))
          by_cases hlt2 : j + 1 < qu.length
          · obtain ⟨x, hx⟩ := some_at (l := qu) (k := j) (by omega)
            obtain ⟨y, hy⟩ := some_at (l := qu) (k := j + 1) hlt2
            have hxv : x ≤ 562949953421311 := I4.out x (List.mem_of_getElem? hx)
            obtain ⟨b, oo, rfl, hbw, h0, h1⟩ := rdInt2 (R4.out.below hbx.out) (ints_at hx) (ints_at hy)
            have HN : Hid (((pairs qu).take (k + 1)).flatMap Msg.enc = ((pairs qu).take k).flatMap Msg.enc ++ Msg.enc ⟨(x : Int) - 1, (y : Int)⟩) := hideP (by
              rw [take_one (pairs_get qu k x y (by rw [← hj.out]; exact hx) (by rw [← hj.out]; exact hy)), List.flatMap_append]; simp)
            have c12 : wr.cell? ⟨w4.heap.size, 12, none⟩ = some (.slice pq k cq) := (hX.out.cell 12).trans rfl
            have e12 := cell_alloc_keep c12 (.cells #[.int .i64 ((x : Int) - 1), .int .i64 (y : Int)] 137)
            have k0 : (0 : Int) ≤ (j : Int) := by omega
            have k1 : (j : Int) < (qu.length : Int) := by omega
            have k2 : (j : Int) + 1 < (qu.length : Int) := by omega
            have k3 : (0 : Int) ≤ (j : Int) + 1 := by omega
            have kt : ((j : Int) + 1).toNat = j + 1 := by omega
            have hbr2 : b < wr.heap.size := hbw
            have OB : ∀ x, (Value.slice pq k cq).ownBlock = some x → w9.heap.size ≤ x ∧ x < wr.heap.size := fun x hx => hO.out.lt x hx
            have zw : IntKind.i64.wrap ((x : Int) - 1) = (x : Int) - 1 := IntWalk.i64_in _ (by omega)
            have zj : IntKind.i64.wrap ((j : Int) + 1) = (j : Int) + 1 := IntWalk.i64_in _ (by omega)
            have hj2 : k + 1 ≤ qu.length := by have := hj.out; omega
            have hjn : Hid (j + 2 = 2 * (k + 1)) := hideP (by have := hj.out; omega)
            clear hx hy
            go_wp2
            go_region_law ((refine step_append_lies _ rfl _ _ 69 rfl w9.heap.size 137 im (.agg #[.int .i64 0, .int .i64 0]) 2 16 Try.underlying69 him hzm0 hzm1 hzm2 rfl (by decide) _ k _ rfl (ownsAD hO.out _) _ 1 1 (Msg.enc ⟨(x : Int) - 1, (y : Int)⟩) rfl rfl (newsDd (cs := #[.int .i64 ((x : Int) - 1), .int .i64 (y : Int)]) rfl) (by simp [Value.oneCell', Msg.enc]) (by decide) (by unfold maxLen; omega) (by omega) (by simp; omega) _ rfl ?_; intro g9 c9 v9 ho9 hg9x hq9 hr9; have hg9 : (wr.alloc (.cells #[.int .i64 ((x : Int) - 1), .int .i64 (y : Int)] 137)).grownBy v9 (Value.slice pq k cq).ownBlock := grown_undrew hg9x; clear hg9x; have X9 := hideP ((hX.out.alloc (.cells #[.int .i64 ((x : Int) - 1), .int .i64 (y : Int)] 137)).kept (hg9.block _ (hX.out.alloc _).lt (fun e => by have := OB _ e.symm; omega))); have x9 : v9.cell? ⟨w4.heap.size, 12, none⟩ = some (.slice pq k cq) := (X9.out.cell 12).trans rfl; have f9 : v9.frozen? ⟨w4.heap.size, 12, none⟩ = false := X9.out.frozen 12; have O9 := Lib.hid ho9; have K9n := hideP (((hK2.out.alloc (.cells #[.int .i64 ((x : Int) - 1), .int .i64 (y : Int)] 137)).own hg9 (fun x hx => (OB x hx).1)) : Kept w4.heap.size w4.heap.size w9 v9); clear ho9 hg9 hq9))
            all_goals
              have ONE : ∀ x, (Value.slice (some ⟨g9, 0, none⟩) (k + 1) c9).ownBlock = some x → w4.heap.size < x := fun x hx => by have := O9.out.lt x hx; omega
              have X9s : Hid (Blk (v9.setCell ⟨w4.heap.size, 12, none⟩ (.slice (some ⟨g9, 0, none⟩) (k + 1) c9)) w4.heap.size 71 [.int .i64 ((y0 : Int)), .int .i64 ((y1 : Int)), .int .i64 ((y2 : Int) - 1), .int .i64 ((y3 : Int)), .int .i64 ((y4 : Int)), .int .i64 ((y5 : Int)), .int .i64 ((y6 : Int)), .int .i64 ((y7 : Int) - 1), .int .i64 ((y8 : Int)), .bool fl, .slice pl q2.length cl, .slice pd q3.length cd, (.slice (some ⟨g9, 0, none⟩) (k + 1) c9)]) := hideP (X9.out.set 12 (.slice (some ⟨g9, 0, none⟩) (k + 1) c9))
              have O9s := hideP (owns_setother2 (M := w4.heap.size) (i := 12) (u := .slice (some ⟨g9, 0, none⟩) (k + 1) c9) O9.out (fun x hx => by have := ONE x hx; omega))
              rw [← HN.out] at O9s
              have K9s := hideP (K9n.out.set (i := 12) (v := .slice (some ⟨g9, 0, none⟩) (k + 1) c9))
              clear X9 O9 K9n zw zj c12 e12 x9 f9 kt
              go_wp2
              go_roundg (gk - 1)
              case measure => omega
              case rel => exact ⟨k + 1, j + 2, some ⟨g9, 0, none⟩, c9, by omega, by omega, by go_num, hjn, by omega, X9s, O9s, K9s⟩
          · have hke : k = (pairs qu).length := by have := pairs_len qu; have := hj.out; omega
            have Pq : ∀ x, (Value.slice pq k cq).ownBlock = some x → w9.heap.size ≤ x ∧ x < wr.heap.size := fun x hx => hO.out.lt x hx
            have HOq : Hid (wr.ownsRow w9.heap.size 137 2 (.slice pq k cq) k ((pairs qu).flatMap Msg.enc)) := hideP (by have := hO.out; rwa [List.take_of_length_le (by omega)] at this)
            have HKE := Lib.hid hke
            have HOlx := hideP (hK2.out.owns (K9.out.owns HOl.out (fun x hx => by have := Pl x hx; omega)) (fun x hx => by have := Pl x hx; omega))
            have HOdx := hideP (hK2.out.owns HOd.out (fun x hx => by have := Pd x hx; omega))
            have HZ := hideP (HZ.out.kept ((hK2.out.block _ (by have := HZ.out.lt; omega) (by omega) (by omega)).trans (K9.out.block _ HZ.out.lt (by omega) (by omega))))
            have HE := hideP (hK2.out.below (K9.out.below HE.out HE.out.size (by omega) (by omega)) (by have := HE.out.size; omega) (by omega) (by omega))
            have HOT : Hid (thingOf [y0, y1, y2, y3, y4, y5, y6, y7, y8, y9] q2 q3 qu = ⟨(y0 : Int), (y1 : Int), (y2 : Int) - 1, (y3 : Int), (y4 : Int), (y5 : Int), (y6 : Int), (y7 : Int) - 1, (y8 : Int), fl, (ints q2).map (· - 1), ints q3, pairs qu⟩) := hideP (by
              unfold thingOf
              simp only [List.getD_cons_zero, List.getD_cons_succ, HFL.out])
            rw [HOT.out] at HRT
            have HTI : Hid (ThIs wr ⟨(y0 : Int), (y1 : Int), (y2 : Int) - 1, (y3 : Int), (y4 : Int), (y5 : Int), (y6 : Int), (y7 : Int) - 1, (y8 : Int), fl, (ints q2).map (· - 1), ints q3, pairs qu⟩ (.slice pl q2.length cl) (.slice pd q3.length cd) (.slice pq k cq)) := hideP ⟨(owns_sl2 HOlx.out).cast (by simp [ints]), (owns_sl2 HOdx.out).cast (by simp [ints]), (owns_sl2 HOq.out).cast HKE.out⟩
            have hwt : Hid (I64 (y6 : Int)) := hideP (by unfold I64; omega)
            have hpl := pairs_len qu
            have hDs : (D : Int) ≤ (s.size : Int) := by omega
            have hlq := r6
            have d3 : ¬ ((j : Int) + 1 < (qu.length : Int)) := by omega
            have zj : IntKind.i64.wrap ((j : Int) + 1) = (j : Int) + 1 := IntWalk.i64_in _ (by omega)
            clear hO hke hlt2 hj
            go_wp2
            refine wp_region_held_drew (S := fun w' => Blk w' w4.heap.size 71 [.int .i64 ((y0 : Int)), .int .i64 ((y1 : Int)), .int .i64 ((y2 : Int) - 1), .int .i64 ((y3 : Int)), .int .i64 ((y4 : Int)), .int .i64 ((y5 : Int)), .int .i64 ((y6 : Int)), .int .i64 ((y7 : Int) - 1), .int .i64 ((y8 : Int)), .bool fl, .slice pl q2.length cl, .slice pd q3.length cd, .slice pq k cq] ∧ Below wr.heap.size wr w') (by kernel_rfl) (hblk1_0 hX.out) (fun hHeld => ?_)
            refine takeD (i := 0) (oi := _) (v := ?_) (some 123) rfl rfl (by kernel_rfl) (by kernel_rfl) (by kernel_rfl) (fun _ _ _ h => h) (Or.inl ⟨by rfl, ?_⟩) (by assumption) ?_
            rotate_left
            · intro wS hSw; have z0 : wS.cell? ⟨w4.heap.size, 0, none⟩ = some (.int .i64 ((y0 : Int))) := (hSw.1.cell 0).trans rfl; have z1 : wS.cell? ⟨w4.heap.size, 1, none⟩ = some (.int .i64 ((y1 : Int))) := (hSw.1.cell 1).trans rfl; have z2 : wS.cell? ⟨w4.heap.size, 2, none⟩ = some (.int .i64 ((y2 : Int) - 1)) := (hSw.1.cell 2).trans rfl; have z3 : wS.cell? ⟨w4.heap.size, 3, none⟩ = some (.int .i64 ((y3 : Int))) := (hSw.1.cell 3).trans rfl; have z4 : wS.cell? ⟨w4.heap.size, 4, none⟩ = some (.int .i64 ((y4 : Int))) := (hSw.1.cell 4).trans rfl; have z5 : wS.cell? ⟨w4.heap.size, 5, none⟩ = some (.int .i64 ((y5 : Int))) := (hSw.1.cell 5).trans rfl; have z6 : wS.cell? ⟨w4.heap.size, 6, none⟩ = some (.int .i64 ((y6 : Int))) := (hSw.1.cell 6).trans rfl; have z7 : wS.cell? ⟨w4.heap.size, 7, none⟩ = some (.int .i64 ((y7 : Int) - 1)) := (hSw.1.cell 7).trans rfl; have z8 : wS.cell? ⟨w4.heap.size, 8, none⟩ = some (.int .i64 ((y8 : Int))) := (hSw.1.cell 8).trans rfl; have z9 : wS.cell? ⟨w4.heap.size, 9, none⟩ = some (.bool fl) := (hSw.1.cell 9).trans rfl; have z10 : wS.cell? ⟨w4.heap.size, 10, none⟩ = some (.slice pl q2.length cl) := (hSw.1.cell 10).trans rfl; have z11 : wS.cell? ⟨w4.heap.size, 11, none⟩ = some (.slice pd q3.length cd) := (hSw.1.cell 11).trans rfl; have z12 : wS.cell? ⟨w4.heap.size, 12, none⟩ = some (.slice pq k cq) := (hSw.1.cell 12).trans rfl; go_simp; (try rw [if_neg (by omega)]); try with_reducible rfl
            try simp only [Act.put, List.setIfInBounds_toArray, List.set_cons_zero, List.set_cons_succ]
            refine takeD (i := 2) (oi := _) (v := ?_) (some 125) rfl rfl (by kernel_rfl) (by kernel_rfl) (by kernel_rfl) (fun _ _ _ h => h) (Or.inl ⟨by rfl, ?_⟩) (by assumption) ?_
            rotate_left
            · intro wS hSw; (try dsimp only at hSw); go_simp; (try rw [if_neg (by omega)]); try with_reducible rfl
            try simp only [Act.put, List.setIfInBounds_toArray, List.set_cons_zero, List.set_cons_succ]
            refine takeD (i := 3) (oi := _) (v := ?_) (some 126) rfl rfl (by kernel_rfl) (by kernel_rfl) (by kernel_rfl) (fun _ _ _ h => h) (Or.inl ⟨by rfl, ?_⟩) (by assumption) ?_
            rotate_left
            · intro wS hSw; (try dsimp only at hSw); go_simp; (try rw [if_neg (by omega)]); try with_reducible rfl
            try simp only [Act.put, List.setIfInBounds_toArray, List.set_cons_zero, List.set_cons_succ]
            refine takeD (i := 4) (oi := _) (v := ?_) (some 127) rfl rfl (by kernel_rfl) (by kernel_rfl) (by kernel_rfl) (fun _ _ _ h => h) (Or.inl ⟨by rfl, ?_⟩) (by assumption) ?_
            rotate_left
            · intro wS hSw; (try dsimp only at hSw); go_simp; (try rw [if_neg (by omega)]); try with_reducible rfl
            try simp only [Act.put, List.setIfInBounds_toArray, List.set_cons_zero, List.set_cons_succ]
            refine wpAnyH_ready (rs := [1]) (by kernel_rfl) (by simp) ?_
            refine AllReadyH.cons (o := _) rfl (fun K hK => ?_) AllReadyH.nil
            go_simp
            refine (specShowObj_any ⟨(y0 : Int), (y1 : Int), (y2 : Int) - 1, (y3 : Int), (y4 : Int), (y5 : Int), (y6 : Int), (y7 : Int) - 1, (y8 : Int), fl, (ints q2).map (· - 1), ints q3, pairs qu⟩ _ _ _ (by simp [ints]; omega) (by simp [ints]; omega) (by simp; omega) hwt _ (HTI.out.below hHeld.2)).mono ?_
            rintro e w6 ⟨rfl, hb6⟩
            go_wp2_with fail
            refine hK.out _ _ (hblk1_C hHeld hb6) (fun hNext => ?_)
            clear hK K hHeld
            revert hNext
            intro hHeld
            try simp only [Act.put, List.setIfInBounds_toArray, List.set_cons_zero, List.set_cons_succ]
            refine takeD (i := 5) (oi := _) (v := ?_) (some 128) rfl rfl (by kernel_rfl) (by kernel_rfl) (by kernel_rfl) (fun _ _ _ h => h) (Or.inl ⟨by rfl, ?_⟩) (by assumption) ?_
            rotate_left
            · intro wS hSw; (try dsimp only at hSw); go_simp; (try rw [if_neg (by omega)]); try with_reducible rfl
            try simp only [Act.put, List.setIfInBounds_toArray, List.set_cons_zero, List.set_cons_succ]
            refine wpAnyH_done (by kernel_rfl) ?_ _
            have HX6 := hideP hHeld.1
            have HZ6 := hideP (HZ.out.below hHeld.2)
            have HE6 := hideP (HE.out.trans (hHeld.2.mono HE.out.size))
            have HOl6 := hideP (owns_below HOlx.out (Nat.le_refl _) hHeld.2)
            have HOd6 := hideP (owns_below HOdx.out (Nat.le_refl _) hHeld.2)
            have HOq6 := hideP (owns_below HOq.out (Nat.le_refl _) hHeld.2)
            clear hHeld hb6
            have x0 : w6.cell? ⟨w4.heap.size, 0, none⟩ = some (.int .i64 ((y0 : Int))) := (HX6.out.cell 0).trans rfl
            have x1 : w6.cell? ⟨w4.heap.size, 1, none⟩ = some (.int .i64 ((y1 : Int))) := (HX6.out.cell 1).trans rfl
            have x2 : w6.cell? ⟨w4.heap.size, 2, none⟩ = some (.int .i64 ((y2 : Int) - 1)) := (HX6.out.cell 2).trans rfl
            have x3 : w6.cell? ⟨w4.heap.size, 3, none⟩ = some (.int .i64 ((y3 : Int))) := (HX6.out.cell 3).trans rfl
            have x4 : w6.cell? ⟨w4.heap.size, 4, none⟩ = some (.int .i64 ((y4 : Int))) := (HX6.out.cell 4).trans rfl
            have x5 : w6.cell? ⟨w4.heap.size, 5, none⟩ = some (.int .i64 ((y5 : Int))) := (HX6.out.cell 5).trans rfl
            have x6 : w6.cell? ⟨w4.heap.size, 6, none⟩ = some (.int .i64 ((y6 : Int))) := (HX6.out.cell 6).trans rfl
            have x7 : w6.cell? ⟨w4.heap.size, 7, none⟩ = some (.int .i64 ((y7 : Int) - 1)) := (HX6.out.cell 7).trans rfl
            have x8 : w6.cell? ⟨w4.heap.size, 8, none⟩ = some (.int .i64 ((y8 : Int))) := (HX6.out.cell 8).trans rfl
            have x9 : w6.cell? ⟨w4.heap.size, 9, none⟩ = some (.bool fl) := (HX6.out.cell 9).trans rfl
            have x10 : w6.cell? ⟨w4.heap.size, 10, none⟩ = some (.slice pl q2.length cl) := (HX6.out.cell 10).trans rfl
            have x11 : w6.cell? ⟨w4.heap.size, 11, none⟩ = some (.slice pd q3.length cd) := (HX6.out.cell 11).trans rfl
            have x12 : w6.cell? ⟨w4.heap.size, 12, none⟩ = some (.slice pq k cq) := (HX6.out.cell 12).trans rfl
            have HZw := HZ6
            have z0 : w6.cell? ⟨w.heap.size, 0, none⟩ = some (.int .i64 0) := (HZw.out.cell 0).trans rfl
            have k0 : w6.frozen? ⟨w.heap.size, 0, none⟩ = false := HZw.out.frozen 0
            have z1 : w6.cell? ⟨w.heap.size, 1, none⟩ = some (.int .i64 0) := (HZw.out.cell 1).trans rfl
            have k1 : w6.frozen? ⟨w.heap.size, 1, none⟩ = false := HZw.out.frozen 1
            have z2 : w6.cell? ⟨w.heap.size, 2, none⟩ = some (.int .i64 0) := (HZw.out.cell 2).trans rfl
            have k2 : w6.frozen? ⟨w.heap.size, 2, none⟩ = false := HZw.out.frozen 2
            have z3 : w6.cell? ⟨w.heap.size, 3, none⟩ = some (.int .i64 0) := (HZw.out.cell 3).trans rfl
            have k3 : w6.frozen? ⟨w.heap.size, 3, none⟩ = false := HZw.out.frozen 3
            have z4 : w6.cell? ⟨w.heap.size, 4, none⟩ = some (.int .i64 0) := (HZw.out.cell 4).trans rfl
            have k4 : w6.frozen? ⟨w.heap.size, 4, none⟩ = false := HZw.out.frozen 4
            have z5 : w6.cell? ⟨w.heap.size, 5, none⟩ = some (.int .i64 0) := (HZw.out.cell 5).trans rfl
            have k5 : w6.frozen? ⟨w.heap.size, 5, none⟩ = false := HZw.out.frozen 5
            have z6 : w6.cell? ⟨w.heap.size, 6, none⟩ = some (.int .i64 0) := (HZw.out.cell 6).trans rfl
            have k6 : w6.frozen? ⟨w.heap.size, 6, none⟩ = false := HZw.out.frozen 6
            have z7 : w6.cell? ⟨w.heap.size, 7, none⟩ = some (.int .i64 0) := (HZw.out.cell 7).trans rfl
            have k7 : w6.frozen? ⟨w.heap.size, 7, none⟩ = false := HZw.out.frozen 7
            have z8 : w6.cell? ⟨w.heap.size, 8, none⟩ = some (.int .i64 0) := (HZw.out.cell 8).trans rfl
            have k8 : w6.frozen? ⟨w.heap.size, 8, none⟩ = false := HZw.out.frozen 8
            have z9 : w6.cell? ⟨w.heap.size, 9, none⟩ = some (.bool false) := (HZw.out.cell 9).trans rfl
            have k9 : w6.frozen? ⟨w.heap.size, 9, none⟩ = false := HZw.out.frozen 9
            have z10 : w6.cell? ⟨w.heap.size, 10, none⟩ = some (.slice none 0 0) := (HZw.out.cell 10).trans rfl
            have k10 : w6.frozen? ⟨w.heap.size, 10, none⟩ = false := HZw.out.frozen 10
            have z11 : w6.cell? ⟨w.heap.size, 11, none⟩ = some (.slice none 0 0) := (HZw.out.cell 11).trans rfl
            have k11 : w6.frozen? ⟨w.heap.size, 11, none⟩ = false := HZw.out.frozen 11
            have z12 : w6.cell? ⟨w.heap.size, 12, none⟩ = some (.slice none 0 0) := (HZw.out.cell 12).trans rfl
            have k12 : w6.frozen? ⟨w.heap.size, 12, none⟩ = false := HZw.out.frozen 12
            have OLN : Hid (∀ W' : World, w6.grownBy W' (some w.heap.size) → ObjOwn W' w.heap.size ⟨(y0 : Int), (y1 : Int), (y2 : Int) - 1, (y3 : Int), (y4 : Int), (y5 : Int), (y6 : Int), (y7 : Int) - 1, (y8 : Int), fl, (ints q2).map (· - 1), ints q3, pairs qu⟩ (.slice pl q2.length cl) (.slice pd q3.length cd) (.slice pq k cq)) := hideP (fun W' hW => ⟨
              owns_cast (owns_mono ((Kept.left (x := w.heap.size) hW).owns HOl6.out (fun x hx => by have := Pl x hx; omega)) (by omega)) (by simp [ints]),
              owns_cast (owns_mono ((Kept.left (x := w.heap.size) hW).owns HOd6.out (fun x hx => by have := Pd x hx; omega)) (by omega)) (by simp [ints]),
              owns_cast (owns_mono ((Kept.left (x := w.heap.size) hW).owns HOq6.out (fun x hx => by have := Pq x hx; omega)) (by omega)) HKE.out,
              fun x hx e => by have h1 := Pl x hx; have h2 := Pd x e; omega,
              fun x hx e => by have h1 := Pl x hx; have h2 := Pq x e; omega,
              fun x hx e => by have h1 := Pd x hx; have h2 := Pq x e; omega⟩)
            have HGR : w6.grownBy w6 (some w.heap.size) := World.grownBy.refl _ _
            go_wp2
            · rename_i hq
              have hx : (s.extract 0 D).toList = (bl s).take D := by simp [bl, ByteArray.toList_eq]
              rw [hx] at hq
              have hne : ¬ showThing ⟨(y0 : Int), (y1 : Int), (y2 : Int) - 1, (y3 : Int), (y4 : Int), (y5 : Int), (y6 : Int), (y7 : Int) - 1, (y8 : Int), fl, (ints q2).map (· - 1), ints q3, pairs qu⟩ = (bl s).take D := fun he => by rw [he] at hq; simp at hq
              have HN : Hid (readThing (bl s) = none) := hideP (by rw [HRT.out, if_neg hne])
              refine bodyPost_ret (v := .tuple #[.agg #[.int .i64 0, .int .i64 0, .int .i64 0, .int .i64 0, .int .i64 0, .int .i64 0, .int .i64 0, .int .i64 0, .int .i64 0, .bool false, .slice none 0 0, .slice none 0 0, .slice none 0 0], .int .i64 0]) (by simp [results, Try.results44, go_sem, z0, z1, z2, z3, z4, z5, z6, z7, z8, z9, z10, z11, z12]) rfl (ThingRet.no HN.out ?_)
              repeat (first | (with_reducible exact HE6.out) | refine Below.setCell ?_ (by simp) _)
            · rename_i hq
              have hx : (s.extract 0 D).toList = (bl s).take D := by simp [bl, ByteArray.toList_eq]
              rw [hx] at hq
              have he : showThing ⟨(y0 : Int), (y1 : Int), (y2 : Int) - 1, (y3 : Int), (y4 : Int), (y5 : Int), (y6 : Int), (y7 : Int) - 1, (y8 : Int), fl, (ints q2).map (· - 1), ints q3, pairs qu⟩ = (bl s).take D := by simpa using hq
              have HY : Hid (readThing (bl s) = some (⟨(y0 : Int), (y1 : Int), (y2 : Int) - 1, (y3 : Int), (y4 : Int), (y5 : Int), (y6 : Int), (y7 : Int) - 1, (y8 : Int), fl, (ints q2).map (· - 1), ints q3, pairs qu⟩, D)) := hideP (by rw [HRT.out, if_pos he])
              refine bodyPost_ret (v := .tuple #[.agg #[.int .i64 ((y0 : Int)), .int .i64 ((y1 : Int)), .int .i64 ((y2 : Int) - 1), .int .i64 ((y3 : Int)), .int .i64 ((y4 : Int)), .int .i64 ((y5 : Int)), .int .i64 ((y6 : Int)), .int .i64 ((y7 : Int) - 1), .int .i64 ((y8 : Int)), .bool fl, .slice pl q2.length cl, .slice pd q3.length cd, .slice pq k cq], .int .i64 (D : Int)]) (by simp [results, Try.results44, go_sem, z0, z1, z2, z3, z4, z5, z6, z7, z8, z9, z10, z11, z12]) rfl (ThingRet.yes HY.out rfl (OLN.out _ ?_) ?_)
              · repeat (first | (with_reducible exact HGR) | (with_reducible refine grown_set1 ?_ _ _ (by simp)) | (with_reducible refine grown_set1 ?_))
              · repeat (first | (with_reducible exact HE6.out) | refine Below.setCell ?_ (by simp) _)

end Go.Proofs.Ytnchmenpgmlpdaa
