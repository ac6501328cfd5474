/- l1PickInt; DrawRenewals. -/
import Derived.Test.YteagaogpejdeoaaDraw
namespace Go.Proofs.Yteagaogpejdeoaa
open Go.RowKit

def Picked (vs : List Int) (cb : Nat) (a : Option Addr) (n cap : Nat) (w : World) (e : Ending) (w' : World) : Prop :=
  ∃ x : Int, x ∈ vs ∧ e = .returned (.int .i64 x) ∧ CurAt w' cb a n cap ∧ w.grownBy w' (some cb)

set_option maxRecDepth 100000 in
set_option maxHeartbeats 1000000 in
theorem l1PickInt_any (cb : Nat) (a : Option Addr) (n cap : Nat) (l : List UInt8) (hn : n = l.length) (hl : n ≤ 1048576) (g k : Nat) (vs : List Int) (hk : k = vs.length) (hk1 : 1 ≤ k) (hk2 : k ≤ 256) (w : World) (h : Rd w a (byteCells l)) (hc : CurAt w cb a n cap) (hne : ∀ b o, a = some ⟨b, o, none⟩ → l ≠ [] → b ≠ cb)
    (hg : ∀ i, i < k → w.cell? ⟨g, i, none⟩ = some (.int .i64 (vs.getD i 0))) (hgc : g ≠ cb) :
    Calls Try.prog 62 #[.pointer (some ⟨cb, 0, none⟩), .slice (some ⟨g, 0, none⟩) k k] w (Picked vs cb a n cap w) := by
  have Hn := Lib.hid hn
  have Hc := Lib.hid hc
  have Hne := hideP hne
  have Hg := hideP hg
  have Hk := Lib.hid hk
  clear hn hc hne hg hk
  go_enter Try.func62, Try.ntmps62
  go_wp2_with fail
  refine (l1Below_any cb a n cap l Hn.out hl k (by omega) (by omega) _ h Hc.out Hne.out).mono ?_
  rintro e w1 ⟨x, rfl, hx0, hx1, hc1, hg1⟩
  have Hc1 := Lib.hid hc1
  have Hg1 := Lib.hid hg1
  clear hc1 hg1
  obtain ⟨q, rfl⟩ := Int.eq_ofNat_of_zero_le hx0
  have hq : q < k := by omega
  have c1 := Hg1.out.cell (Hg.out q hq) (by simpa using hgc)
  go_wp2
  go_ret
  refine ⟨_, ?_, rfl, Hc1.out, Hg1.out⟩
  have hq' : q < vs.length := by have := Hk.out; omega
  first
  | (rw [List.getD_eq_getElem?_getD, List.getElem?_eq_getElem hq']; exact List.getElem_mem hq')
  | (rw [List.getElem?_eq_getElem hq']; exact List.getElem_mem hq')

set_option maxRecDepth 100000 in
set_option maxHeartbeats 2000000 in
theorem drawRenewals_any (a : Option Addr) (n cap : Nat) (l : List UInt8) (hn : n = l.length) (hl : n ≤ 1048576) (w : World) (h : Rd w a (byteCells l)) :
    Calls Try.prog 19 #[.slice a n cap] w fun e w' => ∃ u v s : Int, e = .returned (.tuple #[.int .i64 u, .int .i64 v, .int .i64 s]) ∧ (-1 ≤ u ∧ u ≤ 1000000) ∧ (-5 ≤ v ∧ v ≤ 1900000) ∧ (0 ≤ s ∧ s ≤ 1001) ∧ Below w.heap.size w w' := by
  have Hn := Lib.hid hn
  clear hn
  go_enter Try.func19, Try.ntmps19
  go_wp2_with fail
  refine (l1New_any a n cap l Hn.out hl _ h).mono ?_
  rintro e w1 ⟨rfl, hc1, hb1⟩
  have Hc1 := Lib.hid hc1
  have z1 : w.heap.size < w1.heap.size := by obtain ⟨_, _, _, _, hq⟩ := hc1; exact (Array.getElem?_eq_some_iff.1 hq).1
  clear hc1
  have hnx : ∀ b o, a = some ⟨b, o, none⟩ → l ≠ [] → b ≠ w.heap.size := fun b o ha hl' => by have := h.lt ha hl'; omega
  have Hnx := hideP hnx
  clear hnx
  go_wp2_with fail
  refine (l1PickInt_any w.heap.size a n cap l Hn.out hl w1.heap.size 6 [0, 5, 17, 1000000, -1, 3] rfl (by decide) (by decide) _ ((h.below hb1).below (below_a1 _ _)) (Hc1.out.below (below_a1 _ _) z1) Hnx.out (lit_cells w1 [0, 5, 17, 1000000, -1, 3] 3) (by omega)).mono ?_
  rintro e w2 ⟨u, hu, rfl, hc2, hg2⟩
  have Hc2 := Lib.hid hc2
  have hb2 := (hb1.alloc hb1.size (.cells #[.int .i64 0, .int .i64 5, .int .i64 17, .int .i64 1000000, .int .i64 (-1), .int .i64 3] 3)).grown hg2 (by simp; omega) (fun q hq => by cases hq; exact Nat.le_refl _)
  have z2 : w1.heap.size < w2.heap.size := by have := hg2.size; simp at this; omega
  have hub : -1 ≤ u ∧ u ≤ 1000000 := by simp at hu; omega
  have Hu := Lib.hid hu
  clear hc2 hg2 hu
  obtain ⟨u0, u1⟩ := hub
  go_wp2_with fail
  refine (l1PickInt_any w.heap.size a n cap l Hn.out hl w2.heap.size 7 [0, 1, 10, 33, 2000, -4, 900000] rfl (by decide) (by decide) _ ((h.below hb2).below (below_a1 _ _)) (Hc2.out.below (below_a1 _ _) (by omega)) Hnx.out (lit_cells w2 [0, 1, 10, 33, 2000, -4, 900000] 3) (by omega)).mono ?_
  rintro e w3 ⟨v, hv, rfl, hc3, hg3⟩
  have Hc3 := Lib.hid hc3
  have hb3 := (hb2.alloc hb2.size (.cells #[.int .i64 0, .int .i64 1, .int .i64 10, .int .i64 33, .int .i64 2000, .int .i64 (-4), .int .i64 900000] 3)).grown hg3 (by simp; omega) (fun q hq => by cases hq; exact Nat.le_refl _)
  have z3 : w2.heap.size < w3.heap.size := by have := hg3.size; simp at this; omega
  have hvb : -4 ≤ v ∧ v ≤ 900000 := by simp at hv; omega
  have Hv := Lib.hid hv
  clear hc3 hg3 hv
  obtain ⟨v0, v1⟩ := hvb
  go_wp2_with fail
  refine (l1PickInt_any w.heap.size a n cap l Hn.out hl w3.heap.size 7 [1, 3, 10, 1000, 1001, 0, 7] rfl (by decide) (by decide) _ ((h.below hb3).below (below_a1 _ _)) (Hc3.out.below (below_a1 _ _) (by omega)) Hnx.out (lit_cells w3 [1, 3, 10, 1000, 1001, 0, 7] 3) (by omega)).mono ?_
  rintro e w4 ⟨s, hs, rfl, hc4, hg4⟩
  have hb4 := (hb3.alloc hb3.size (.cells #[.int .i64 1, .int .i64 3, .int .i64 10, .int .i64 1000, .int .i64 1001, .int .i64 0, .int .i64 7] 3)).grown hg4 (by simp; omega) (fun q hq => by cases hq; exact Nat.le_refl _)
  have hsb : 0 ≤ s ∧ s ≤ 1001 := by simp at hs; omega
  clear hc4 hg4 hs
  obtain ⟨s0, s1⟩ := hsb
  go_wp2
  go_ret3
  exact ⟨u, u + v, s, rfl, by omega, by omega, by omega, hb4⟩
end Go.Proofs.Yteagaogpejdeoaa
