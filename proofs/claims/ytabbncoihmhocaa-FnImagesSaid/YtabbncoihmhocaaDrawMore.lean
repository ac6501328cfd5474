/- Draws: bytes, numbers above 256; what draws keep. -/
import Derived.Test.YtabbncoihmhocaaDrawEnv
import Derived.Test.YtabbncoihmhocaaRowsOwn
namespace Go.Proofs.Ytabbncoihmhocaa
open Go.RowKit

theorem cell_alloc_keepB {w : World} {p : Addr} {v : Value} (h : w.cell? p = some v) (o : Obj) : (w.alloc o).cell? p = some v := (Below.cell (below_a1 w o) (World.block_lt_of_cell? w p h)).trans h
theorem Try.infoIntB : (Try.prog.info? 3).map (fun i => (i.zero, i.size, i.bytes)) = some (some (.int .i64 0), 1, 8) := by kernel_rfl
theorem ownsADb {w : World} {base : Nat} {e : TypeId} {s n : Nat} {v : Value} {xs : List Value} (h : w.ownsRow base e s v n xs) (o : Obj) : ((w.alloc o).drew).ownsRow base e s v n xs := World.ownsRow.alloc h o
theorem grown_undrewB {w w' : World} {r : Option Nat} (h : w.drew.grownBy w' r) : w.grownBy w' r := ⟨h.os, h.tape, h.output, h.size, h.block⟩
theorem newsB {w : World} {cs : Array Value} {E : TypeId} {g : Nat} (hg : g = w.heap.size) : ∀ j u, cs.toList[j]? = some u → (w.alloc (.cells cs E)).cell? ((⟨g, 0, none⟩ : Addr).add j) = some u := by
  subst hg
  intro j u hu
  rw [add_off, Nat.zero_add, World.cell?_alloc_at _ _ _ _ rfl]
  simpa using hu
theorem owns_setB {w : World} {base g i : Nat} {u : Value} {e : TypeId} {s n : Nat} {v : Value} {xs : List Value} (ho : w.ownsRow base e s v n xs) (hne : ∀ k, v.ownBlock = some k → k ≠ g) : (w.setCell ⟨g, i, none⟩ u).ownsRow base e s v n xs :=
  ((KeptP.refl (fun q => q = g) w).setCell (p := ⟨g, i, none⟩) rfl u).owns ho hne
theorem owns_nilB (w : World) (base : Nat) (e : TypeId) (s : Nat) : w.ownsRow base e s (.slice none 0 0) 0 [] := ⟨by simp, .inl ⟨rfl, rfl⟩⟩
theorem de_onceB {W w : World} {cb : Nat} (m : Int) (hm0 : 1 ≤ m) (hm : m ≤ 256) (h : DE W cb w) :
    Calls Try.prog 42 #[.pointer (some ⟨cb, 0, none⟩), .int .i64 m] w (DrawnB W cb w) := by
  go_enter Try.func42, Try.ntmps42
  go_wp2_with fail
  refine (de_below m hm0 hm h).mono ?_
  rintro e w1 ⟨x, rfl, x0, x1, hd⟩
  go_wp2
  go_ret
  exact ⟨_, rfl, hd⟩
theorem de_byte {W w : World} {cb : Nat} (h : DE W cb w) : Calls Try.prog 67 #[.pointer (some ⟨cb, 0, none⟩)] w (DrawnI 0 255 W cb w) := by
  obtain ⟨h1, h2, a, n, cap, l, hn, hl, hr, hc, hne⟩ := h
  refine (l1Byte_any cb a n cap l hn hl w hr hc (fun b o ha hl' => (hne b o ha hl').1)).mono ?_
  rintro e w' ⟨x, he, hx0, hx1, hc', hg⟩
  exact ⟨x, he, hx0, hx1, DE.turned h1 h2 hn hl hr hne hc' hg⟩
set_option maxRecDepth 100000 in
set_option maxHeartbeats 4000000 in
theorem de_big (m : Int) (hm0 : 256 < m) (hm : m ≤ 1000000) {W w : World} {cb : Nat} (h : DE W cb w) : Calls Try.prog 46 #[.pointer (some ⟨cb, 0, none⟩), .int .i64 m] w (DrawnI 0 (m - 1) W cb w) := by
  have H := hideP h
  clear h
  have d1 : ¬ (m ≤ 0) := by omega
  have d2 : ¬ (m ≤ 256) := by omega
  go_enter Try.func46, Try.ntmps46
  go_wp2_with fail
  refine (de_byte H.out).mono ?_
  rintro e w1 ⟨x, rfl, x0, x1, hd1⟩
  have H1 := hideP hd1
  clear hd1
  go_wp2_with fail
  refine (de_byte H1.out.1).mono ?_
  rintro e w2 ⟨y, rfl, y0, y1, hd2⟩
  have H2 := hideP (H1.out.trans hd2)
  clear hd2 H1
  go_wp2_with fail
  refine (de_byte H2.out.1).mono ?_
  rintro e w3 ⟨z, rfl, z0, z1, hd3⟩
  have H3 := hideP (H2.out.trans hd3)
  clear hd3 H2
  go_wp2_with fail
  refine (de_byte H3.out.1).mono ?_
  rintro e w4 ⟨u, rfl, u0, u1, hd4⟩
  have H4 := hideP (H3.out.trans hd4)
  clear hd4 H3
  go_wp2
  go_ret
  refine ⟨_, rfl, Int.emod_nonneg _ (by omega), ?_, H4.out⟩
  have := Int.emod_lt_of_pos (x * 16777216 + y * 65536 + z * 256 + u) (show 0 < m by omega)
  omega
theorem Drew.refl {W w : World} {cb : Nat} (h : DE W cb w) : Drew W cb w w := ⟨h, World.grownBy.refl _ _⟩
theorem Drew.undrew {W a b : World} {cb : Nat} (h : Drew W cb a.drew b) : Drew W cb a b := ⟨h.1, grown_undrewB h.2⟩
theorem Drew.below {W a b c : World} {cb : Nat} (h : Drew W cb a b) (hb : Below b.heap.size b c) : Drew W cb a c :=
  ⟨h.1.below hb, ⟨hb.os.trans h.2.os, hb.tape.trans h.2.tape, hb.output.trans h.2.output, Nat.le_trans h.2.size hb.size, fun k hk hne => (hb.block k (Nat.lt_of_lt_of_le hk h.2.size)).trans (h.2.block k hk hne)⟩⟩
theorem Drew.own {W a b c : World} {cb : Nat} {r : Option Nat} (h : Drew W cb a b) (hg : b.grownBy c r) (hW : W.heap.size ≤ a.heap.size) (hr : ∀ k, r = some k → a.heap.size ≤ k) : Drew W cb a c :=
  ⟨h.1.grown hg (fun k e => Nat.le_trans hW (hr k e)), ⟨hg.os.trans h.2.os, hg.tape.trans h.2.tape, hg.output.trans h.2.output, Nat.le_trans h.2.size hg.size, fun k hk hne => (hg.block k (Nat.lt_of_lt_of_le hk h.2.size) (fun e => by have := hr k e.symm; omega)).trans (h.2.block k hk hne)⟩⟩
theorem Drew.set {W a b : World} {cb g i : Nat} {v : Value} (h : Drew W cb a b) (hW : W.heap.size ≤ a.heap.size) (hg : a.heap.size ≤ g) : Drew W cb a (b.setCell ⟨g, i, none⟩ v) :=
  h.own (r := some g) (grown_setCells [v] i (World.grownBy.refl b (some g))) hW (fun k e => by cases e; exact hg)
theorem Drew.alloc {W a b : World} {cb : Nat} (h : Drew W cb a b) (o : Obj) : Drew W cb a (b.alloc o) := h.below (below_a1 b o)
theorem Drew.ne {W a b : World} {cb k : Nat} (h : Drew W cb a b) (hk : W.heap.size ≤ k) (hl : k < a.heap.size) : b.heap[k]? = a.heap[k]? :=
  h.2.block k hl (fun e => by cases e; have := h.1.lt.1; omega)
theorem Drew.owns {W a b : World} {cb base : Nat} {e : TypeId} {s n : Nat} {v : Value} {xs : List Value} (h : Drew W cb a b) (ho : a.ownsRow base e s v n xs) (hb : W.heap.size ≤ base) : b.ownsRow base e s v n xs :=
  (KeptP.of_grown h.2).owns ho (fun k hk e => by cases e; have h1 := (ho.lt cb hk).1; have h2 := h.1.lt.1; omega)
theorem Drew.blk {W a b : World} {cb k : Nat} {T : TypeId} {cs : List Value} (h : Drew W cb a b) (hB : Blk a k T cs) (hk : W.heap.size ≤ k) : Blk b k T cs := hB.kept (h.ne hk hB.lt)

end Go.Proofs.Ytabbncoihmhocaa
