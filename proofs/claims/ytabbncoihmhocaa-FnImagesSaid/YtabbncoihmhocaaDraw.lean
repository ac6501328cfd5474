/- The draws of spec: a cursor over bytes. Of what is drawn only the range is told. -/
import Derived.Test.YtabbncoihmhocaaSmall
import Derived.Test.YtabbncoihmhocaaCnt
import Derived.Deep.LoopGhost
namespace Go.Proofs.Ytabbncoihmhocaa
open Go.RowKit

def byteCells (l : List UInt8) : List Value := l.map fun b => Value.int .u8 (b.toNat : Int)
theorem Rd.byte {w : World} {a : Option Addr} {l : List UInt8} (h : Rd w a (byteCells l)) {k : Nat} {x : UInt8} (hx : l[k]? = some x) :
    ∃ b o, a = some ⟨b, o, none⟩ ∧ b < w.heap.size ∧ w.cell? ⟨b, o + k, none⟩ = some (.int .u8 (x.toNat : Int)) := by
  rcases h with h | ⟨b, o, ha, hlt, hc⟩
  · have := congrArg List.length h
    simp [byteCells] at this
    subst this
    simp at hx
  · exact ⟨b, o, ha, hlt, hc k _ (by rw [byteCells, List.getElem?_map, hx]; rfl)⟩
theorem byte_le (x : UInt8) : (x.toNat : Int) ≤ 255 := by have := UInt8.toNat_lt x; omega

theorem i64_and255 (n : Int) : bits .and .i64 n 255 = n % 256 := by
  have h127 : (BitVec.ofInt 64 255).toNat = 2 ^ 8 - 1 := by decide
  have key : (BitVec.ofInt 64 n &&& BitVec.ofInt 64 255).toNat = (n % ((2 ^ 64 : Nat) : Int)).toNat % 2 ^ 8 := by
    rw [BitVec.toNat_and, BitVec.toNat_ofInt, h127, Nat.and_two_pow_sub_one_eq_mod]
  show IntKind.i64.wrap ((BitVec.ofInt 64 n &&& BitVec.ofInt 64 255).toNat : Nat) = n % 256
  rw [key, IntKind.wrap_i64]
  omega
theorem i64_and30 (n : Int) : bits .and .i64 n 1073741823 = n % 1073741824 := by
  have h127 : (BitVec.ofInt 64 1073741823).toNat = 2 ^ 30 - 1 := by decide
  have key : (BitVec.ofInt 64 n &&& BitVec.ofInt 64 1073741823).toNat = (n % ((2 ^ 64 : Nat) : Int)).toNat % 2 ^ 30 := by
    rw [BitVec.toNat_and, BitVec.toNat_ofInt, h127, Nat.and_two_pow_sub_one_eq_mod]
  show IntKind.i64.wrap ((BitVec.ofInt 64 n &&& BitVec.ofInt 64 1073741823).toNat : Nat) = n % 1073741824
  rw [key, IntKind.wrap_i64]
  omega
theorem and255_in (n : Int) : 0 ≤ bits .and .i64 n 255 ∧ bits .and .i64 n 255 ≤ 255 := by rw [i64_and255]; omega
theorem and30_in (n : Int) : 0 ≤ bits .and .i64 n 1073741823 ∧ bits .and .i64 n 1073741823 ≤ 1073741823 := by rw [i64_and30]; omega

theorem Rd.lt {w : World} {a : Option Addr} {l : List UInt8} (h : Rd w a (byteCells l)) {b o : Nat} (ha : a = some ⟨b, o, none⟩) (hl : l ≠ []) : b < w.heap.size := by
  rcases h with h | ⟨b', o', ha', hlt, _⟩
  · exact absurd (by simpa [byteCells] using h) hl
  · rw [ha] at ha'; cases ha'; exact hlt
theorem lit_cells (w : World) (vs : List Int) (t : TypeId) : ∀ i, i < vs.length → (w.alloc (.cells (vs.map (Value.int .i64)).toArray t)).cell? ⟨w.heap.size, i, none⟩ = some (.int .i64 (vs.getD i 0)) := by
  intro i hi
  rw [World.cell?_alloc_at _ _ _ _ rfl]
  rw [List.getElem?_toArray, List.getElem?_map, List.getD_eq_getElem?_getD, List.getElem?_eq_getElem hi]
  rfl

/-- The cursor at block cb over a slice. -/
def CurAt (w : World) (cb : Nat) (a : Option Addr) (n cap : Nat) : Prop :=
  ∃ i h : Int, 0 ≤ i ∧ i ≤ n ∧ w.heap[cb]? = some (.cells #[.slice a n cap, .int .i64 i, .int .i64 h] 76 (0, 0))
theorem CurAt.kept {w w' : World} {cb : Nat} {a : Option Addr} {n cap : Nat} (h : CurAt w cb a n cap) (hk : w'.heap[cb]? = w.heap[cb]?) : CurAt w' cb a n cap := by
  obtain ⟨i, j, h0, h1, h2⟩ := h
  exact ⟨i, j, h0, h1, by rw [hk, h2]⟩
theorem CurAt.below {w w' : World} {cb B : Nat} {a : Option Addr} {n cap : Nat} (h : CurAt w cb a n cap) (hb : Below B w w') (hB : cb < B) : CurAt w' cb a n cap := h.kept (hb.block cb hB)

set_option maxRecDepth 100000 in
set_option maxHeartbeats 800000 in
theorem l1New_any (a : Option Addr) (n cap : Nat) (l : List UInt8) (hn : n = l.length) (hl : n ≤ 1048576) (w : World) (h : Rd w a (byteCells l)) :
    Calls Try.prog 21 #[.slice a n cap] w fun e w' => e = .returned (.pointer (some ⟨w.heap.size, 0, none⟩)) ∧ CurAt w' w.heap.size a n cap ∧ Below w.heap.size w w' := by
  have Hn := Lib.hid hn
  clear hn
  go_enter Try.func21, Try.ntmps21
  go_wp2
  go_loopg [3, 4] (n + 1) (fun gk hh i wr => ∃ (k : Nat) (v : Int), n - k < gk ∧ k ≤ n ∧ i = .int .i64 k ∧ hh = .int .i64 v ∧ 0 ≤ v ∧ v ≤ 1073741823 ∧ w = wr)
  case atStart => exact ⟨0, 10101 + (n : Int), by omega, by omega, rfl, rfl, by omega, by omega, rfl⟩
  case round =>
    obtain ⟨k, v, hgk, hk, rfl, rfl, hv0, hv1, rfl⟩ := hrel
    by_cases hlt : k < n
    · obtain ⟨x, hx⟩ := some_at (l := l) (k := k) (by have := Hn.out; omega)
      obtain ⟨b, o, ha, hbw, g1⟩ := h.byte hx
      have hx8 := byte_le x
      subst ha
      clear hx
      generalize (x.toNat : Int) = xb at g1 hx8
      by_cases h4 : k < 4000
      · go_wp2
        go_roundg (gk - 1)
        case measure => omega
        case rel => exact ⟨k + 1, _, by omega, by omega, by go_num, rfl, (and30_in _).1, (and30_in _).2, rfl⟩
      · go_wp2
        go_ret
        exact ⟨rfl, ⟨0, v, by omega, by omega, heap_alloc_new _ _⟩, below_a1 _ _⟩
    · go_wp2
      go_ret
      exact ⟨rfl, ⟨0, v, by omega, by omega, heap_alloc_new _ _⟩, below_a1 _ _⟩

theorem cur_set2 {w : World} {cb : Nat} {t : TypeId} {s : Value} {i h : Int} (hb : w.heap[cb]? = some (.cells #[s, .int .i64 i, .int .i64 h] t (0, 0))) (v : Int) :
    (w.setCell ⟨cb, 2, none⟩ (.int .i64 v)).heap[cb]? = some (.cells #[s, .int .i64 i, .int .i64 v] t (0, 0)) ∧ w.grownBy (w.setCell ⟨cb, 2, none⟩ (.int .i64 v)) (some cb) :=
  ⟨by rw [heap_setCell_same w cb 2 _ t _ hb]; rfl, ⟨rfl, rfl, rfl, by simp, fun k _ hk => heap_setCell_other w ⟨cb, 2, none⟩ k _ (fun e => hk (by rw [e]))⟩⟩
theorem cur_set1 {w : World} {cb : Nat} {t : TypeId} {s : Value} {i h : Int} (hb : w.heap[cb]? = some (.cells #[s, .int .i64 i, .int .i64 h] t (0, 0))) (v : Int) :
    (w.setCell ⟨cb, 1, none⟩ (.int .i64 v)).heap[cb]? = some (.cells #[s, .int .i64 v, .int .i64 h] t (0, 0)) ∧ w.grownBy (w.setCell ⟨cb, 1, none⟩ (.int .i64 v)) (some cb) :=
  ⟨by rw [heap_setCell_same w cb 1 _ t _ hb]; rfl, ⟨rfl, rfl, rfl, by simp, fun k _ hk => heap_setCell_other w ⟨cb, 1, none⟩ k _ (fun e => hk (by rw [e]))⟩⟩
theorem grown_trans {a b c : World} {r : Option Nat} (h : a.grownBy b r) (k : b.grownBy c r) : a.grownBy c r :=
  ⟨k.os.trans h.os, k.tape.trans h.tape, k.output.trans h.output, Nat.le_trans h.size k.size, fun i hi hne => (k.block i (Nat.lt_of_lt_of_le hi h.size) hne).trans (h.block i hi hne)⟩
theorem grown_drewN {a b : World} {r : Option Nat} (h : a.grownBy b r) (m : Nat) : a.grownBy (b.drewN m) r := ⟨h.os, h.tape, h.output, h.size, h.block⟩

/-- What a draw hands back: a number of a range; the cursor alone has turned. -/
def Drawn (lo hi : Int) (cb : Nat) (a : Option Addr) (n cap : Nat) (w : World) (e : Ending) (w' : World) : Prop :=
  ∃ x : Int, e = .returned (.int .i64 x) ∧ lo ≤ x ∧ x ≤ hi ∧ CurAt w' cb a n cap ∧ w.grownBy w' (some cb)

set_option maxRecDepth 100000 in
set_option maxHeartbeats 1000000 in
theorem l1Byte_any (cb : Nat) (a : Option Addr) (n cap : Nat) (l : List UInt8) (hn : n = l.length) (hl : n ≤ 1048576) (w : World) (h : Rd w a (byteCells l)) (hc : CurAt w cb a n cap) (hne : ∀ b o, a = some ⟨b, o, none⟩ → l ≠ [] → b ≠ cb) :
    Calls Try.prog 67 #[.pointer (some ⟨cb, 0, none⟩)] w (Drawn 0 255 cb a n cap w) := by
  have Hn := Lib.hid hn
  clear hn
  obtain ⟨i, hh, hi0, hi1, hb⟩ := hc
  have c0 := cell_of_row w cb 0 _ _ _ hb
  have c1 := cell_of_row w cb 1 _ _ _ hb
  have c2 := cell_of_row w cb 2 _ _ _ hb
  have f1 := frozen_of_row w cb 1 _ _ hb
  have f2 := frozen_of_row w cb 2 _ _ hb
  simp at c0 c1 c2
  go_enter Try.func67, Try.ntmps67
  go_wp2
  generalize hh2 : wrap64 (wrap64 (hh * 6364136223846793005) + 1442695040888963407) = h2
  clear hh2
  have hlen : n ≤ 1048576 := hl
  by_cases hin : i < n
  · obtain ⟨k, rfl⟩ := Int.eq_ofNat_of_zero_le hi0
    obtain ⟨x, hx⟩ := some_at (l := l) (k := k) (by have := Hn.out; omega)
    obtain ⟨b, o, ha, hbw, g1⟩ := h.byte hx
    have hx8 := byte_le x
    subst ha
    have hbc := hne b o rfl (by intro z; subst z; simp at hx)
    clear hx hne
    generalize (x.toNat : Int) = xb at g1 hx8
    have d1 : decide ((k : Int) < n) = true := by simpa using hin
    have d2 : decide (k < n) = true := by simpa using hin
    have hkn : k < n := by omega
    clear hin
    obtain ⟨e2, k2⟩ := cur_set2 hb h2
    obtain ⟨e3, k3⟩ := cur_set1 e2 ((k : Int) + 1)
    have E3 := Lib.hid e3
    have K3 := Lib.hid (grown_trans k2 k3)
    clear e2 k2 e3 k3
    go_quiet (fail)
    go_wp2
    go_quiet (fail)
    go_wp2
    go_quiet (fail)
    go_wp2
    go_ret
    refine ⟨_, rfl, (and255_in _).1, (and255_in _).2, ⟨(k : Int) + 1, h2, by omega, by omega, E3.out⟩, ?_⟩
    have K := K3.out
    exact ⟨K.os, K.tape, K.output, K.size, K.block⟩
  · have d1 : decide (i < (n : Int)) = false := by simpa using hin
    obtain ⟨e2, k2⟩ := cur_set2 hb h2
    have E3 := Lib.hid e2
    have K3 := Lib.hid k2
    clear e2 k2
    go_quiet (fail)
    go_wp2
    go_quiet (fail)
    go_wp2
    go_ret
    refine ⟨_, rfl, (and255_in _).1, (and255_in _).2, ⟨i, h2, hi0, hi1, E3.out⟩, ?_⟩
    have K := K3.out
    exact ⟨K.os, K.tape, K.output, K.size, K.block⟩

set_option maxRecDepth 100000 in
set_option maxHeartbeats 1000000 in
theorem l1Below_any (cb : Nat) (a : Option Addr) (n cap : Nat) (l : List UInt8) (hn : n = l.length) (hl : n ≤ 1048576) (m : Int) (hm0 : 1 ≤ m) (hm : m ≤ 256) (w : World) (h : Rd w a (byteCells l)) (hc : CurAt w cb a n cap) (hne : ∀ b o, a = some ⟨b, o, none⟩ → l ≠ [] → b ≠ cb) :
    Calls Try.prog 46 #[.pointer (some ⟨cb, 0, none⟩), .int .i64 m] w (Drawn 0 (m - 1) cb a n cap w) := by
  have Hn := Lib.hid hn
  have Hc := Lib.hid hc
  have Hne := hideP hne
  clear hn hc hne
  go_enter Try.func46, Try.ntmps46
  go_wp2_with fail
  refine (l1Byte_any cb a n cap l Hn.out hl _ h Hc.out Hne.out).mono ?_
  rintro e w1 ⟨x, rfl, hx0, hx1, hc1, hg1⟩
  have Hc1 := Lib.hid hc1
  have Hg1 := Lib.hid hg1
  clear hc1 hg1
  go_wp2
  go_ret
  refine ⟨_, rfl, Int.emod_nonneg _ (by omega), ?_, Hc1.out, Hg1.out⟩
  have := Int.emod_lt_of_pos x (show 0 < m by omega)
  omega
end Go.Proofs.Ytabbncoihmhocaa
