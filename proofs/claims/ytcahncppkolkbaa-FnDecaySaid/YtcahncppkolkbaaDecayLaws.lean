/- What decays: plain laws of FnDecay. -/
import Derived.Test.YtcahncppkolkbaaDecayPure
import Derived.Test.YtcahncppkolkbaaHoard
import Derived.Test.YtcahncppkolkbaaTreeWalk
namespace Go.Proofs.Ytcahncppkolkbaa
open Go.RowKit

theorem hoard_eq {t : List Res} (h : treeOk t = true) (q : Int) : hoard t q = amtPart (resAt t 1).bal q + amtPart (resAt t 2).bal q + amtPart (resAt t 3).bal q + amtPart (resAt t 4).bal q ∧ amtPart (sumAll t) q = amtPart (resAt t 0).bal q + hoard t q := by
  obtain ⟨x0, x1, x2, x3, x4, rfl⟩ := five (tree_parts h).1
  have e : hoard [x0, x1, x2, x3, x4] q = amtPart x1.bal q + amtPart x2.bal q + amtPart x3.bal q + amtPart x4.bal q := by
    unfold hoard
    rw [if_pos h]
    simp only [List.drop_succ_cons, List.drop_zero, List.foldl_cons, List.foldl_nil, hoardStep]
    omega
  refine ⟨e, ?_⟩
  rw [e, sumAll5]
  show amtPart _ q = amtPart x0.bal q + _
  unfold amtPart
  repeat' split
  all_goals first | omega | (dsimp only; omega)
theorem decay_good {t : List Res} {q p : Int} (h : decayOk t q p = true) : treeOk (decayT t q p).1 = true ∧ sumAll (decayT t q p).1 = sumAll t ∧ hoard (decayT t q p).1 q + (decayT t q p).2 = hoard t q ∧ 0 ≤ (decayT t q p).2 ∧ (p = 0 → (decayT t q p).1 = t) := by
  have hi := decay_inv h
  have h0 : treeOk t = true := by unfold decayOk at h; rw [Bool.and_eq_true] at h; exact h.1
  have e1 := (hoard_eq h0 q).2
  have e2 := (hoard_eq hi.ok q).2
  have e3 := hi.root
  rw [hi.sum] at e2
  exact ⟨hi.ok, hi.sum, by omega, hi.lo, hi.nought⟩
theorem decay_bad {t : List Res} {q p : Int} (h : decayOk t q p = false) : decayT t q p = (t, 0) := by
  unfold decayT
  rw [if_neg (by rw [h]; decide)]
theorem part_in {t : List Res} (h : treeOk t = true) (q : Int) (i : Nat) : 0 ≤ amtPart (resAt t (i : Int)).bal q ∧ amtPart (resAt t (i : Int)).bal q ≤ 1000000 := by
  have := amtOk_iff.1 (resAt_ok h i)
  unfold amtPart
  repeat' split
  all_goals omega
def less (b : Nat) : Nat := b - (10 * b + 99) / 100
def lessN : Nat → Nat → Nat
  | 0, b => b
  | f + 1, b => lessN f (less b)
theorem less_hundred : lessN 100 1000 = 0 := by decide +kernel
theorem decay_ok_again {t : List Res} {q p : Int} (h : decayOk t q p = true) : decayOk (decayT t q p).1 q p = true := by
  have h1 := (decay_good h).1
  unfold decayOk at h ⊢
  rw [Bool.and_eq_true] at h ⊢
  exact ⟨h1, h.2⟩
theorem less_step {a b : Nat} {p : Int} (hp : 10 ≤ p) (hab : a ≤ b) : (a : Int) - (p * (a : Int) + 99) / 100 ≤ (less b : Int) := by
  unfold less
  have h1 : 10 * (a : Int) ≤ p * (a : Int) := Int.mul_le_mul_of_nonneg_right hp (by omega)
  omega
theorem rounds_small {q p : Int} (hp : 10 ≤ p) : ∀ (f : Nat) {t : List Res} {b : Nat}, decayOk t q p = true → (∀ i : Nat, 1 ≤ i → i < 5 → amtPart (resAt t (i : Int)).bal q ≤ (b : Int)) →
    treeOk (roundsT q p f t) = true ∧ ∀ i : Nat, 1 ≤ i → i < 5 → amtPart (resAt (roundsT q p f t) (i : Int)).bal q ≤ (lessN f b : Int)
  | 0, t, b, h, hb => ⟨by unfold decayOk at h; rw [Bool.and_eq_true] at h; exact h.1, hb⟩
  | f + 1, t, b, h, hb => by
    have hi := decay_inv h
    have h0 : treeOk t = true := by unfold decayOk at h; rw [Bool.and_eq_true] at h; exact h.1
    rw [roundsT, lessN]
    refine rounds_small hp f (decay_ok_again h) ?_
    intro i h1 h5
    have e := hi.past i h1 h5
    have hin := part_in h0 q i
    obtain ⟨a, ha⟩ := Int.eq_ofNat_of_zero_le hin.1
    have hbi := hb i h1 h5
    rw [e]
    unfold decayK
    rw [ha] at hbi ⊢
    exact less_step hp (by omega)
theorem rounds_nought {t : List Res} {q p : Int} (h : decayOk t q p = true) (hp : 10 ≤ p) (hh : hoard t q ≤ 1000) : hoard (roundsT q p 100 t) q = 0 := by
  have h0 : treeOk t = true := by unfold decayOk at h; rw [Bool.and_eq_true] at h; exact h.1
  have e := (hoard_eq h0 q).1
  have p1 := part_in h0 q 1
  have p2 := part_in h0 q 2
  have p3 := part_in h0 q 3
  have p4 := part_in h0 q 4
  obtain ⟨r1, r2⟩ := rounds_small hp 100 (b := 1000) h (fun i h1 h5 => by
    obtain rfl | rfl | rfl | rfl : i = 1 ∨ i = 2 ∨ i = 3 ∨ i = 4 := by omega
    · have : amtPart (resAt t 1).bal q ≤ 1000 := by simp only [Int.cast_ofNat_Int] at *; omega
      exact this
    · have : amtPart (resAt t 2).bal q ≤ 1000 := by simp only [Int.cast_ofNat_Int] at *; omega
      exact this
    · have : amtPart (resAt t 3).bal q ≤ 1000 := by simp only [Int.cast_ofNat_Int] at *; omega
      exact this
    · have : amtPart (resAt t 4).bal q ≤ 1000 := by simp only [Int.cast_ofNat_Int] at *; omega
      exact this)
  rw [less_hundred] at r2
  have e9 := (hoard_eq r1 q).1
  have q1 := part_in r1 q 1
  have q2 := part_in r1 q 2
  have q3 := part_in r1 q 3
  have q4 := part_in r1 q 4
  have s1 := r2 1 (by omega) (by omega)
  have s2 := r2 2 (by omega) (by omega)
  have s3 := r2 3 (by omega) (by omega)
  have s4 := r2 4 (by omega) (by omega)
  simp only [Int.cast_ofNat_Int] at *
  omega

end Go.Proofs.Ytcahncppkolkbaa
