/- ReadDec of the reference: the plain law. -/
import Derived.Test.YtamfgkicmikmbaaDoorReadDec
namespace Go.Proofs.YtamfgkicmikmbaaDoor
open Go.RowKit

def rdFold (l : List UInt8) : Nat × Nat := (l.take 11).foldl rdStep (0, 0)
def rdM (l : List UInt8) : Int := if l.head? = some 45 then -((rdFold l).1 : Int) else ((rdFold l).1 : Int)
theorem rd_fold_count : ∀ (l : List UInt8) (p : Nat × Nat), p.1 < 10 ^ p.2 → (l.foldl rdStep p).1 < 10 ^ (l.foldl rdStep p).2
  | [], p, h => h
  | c :: l, p, h => by
    rw [List.foldl_cons]
    refine rd_fold_count l _ ?_
    unfold rdStep
    split
    · dsimp only
      rw [Nat.pow_succ]
      omega
    · exact h
theorem rdM_in {l : List UInt8} (h : (rdFold l).2 ≤ 9) : -999999999 ≤ rdM l ∧ rdM l ≤ 999999999 := by
  have h1 := rd_fold_count (l.take 11) (0, 0) (by decide)
  have h2 : 10 ^ (rdFold l).2 ≤ 10 ^ 9 := Nat.pow_le_pow_right (by decide) h
  have h3 : (10 : Nat) ^ 9 = 1000000000 := by decide
  have h4 : (rdFold l).1 < 1000000000 := by
    have : (rdFold l).1 < 10 ^ (rdFold l).2 := h1
    omega
  unfold rdM
  split <;> omega
theorem rd_itoa {v : Int} (h : -999999999 ≤ v ∧ v ≤ 999999999) : (rdFold (Lib.itoa v)).2 ≤ 9 ∧ (Lib.itoa v).length ≤ 10 ∧ rdM (Lib.itoa v) = v := by
  unfold Lib.itoa
  split
  · next hv =>
    have hd := nDigits_le 9 v.natAbs (by decide) (by have : (10 : Nat) ^ 9 = 1000000000 := by decide
                                                     omega)
    have hl := Lib.decDigits_length v.natAbs
    have e : rdFold (45 :: Lib.decDigits v.natAbs) = (v.natAbs, Lib.nDigits v.natAbs) := by
      unfold rdFold
      rw [List.take_of_length_le (by simp; omega), List.foldl_cons, show rdStep (0, 0) 45 = (0, 0) from rfl, fold_digits v.natAbs v.natAbs (0, 0) (Nat.le_refl _)]
      simp
    refine ⟨by rw [e]; exact hd, by simp; omega, ?_⟩
    unfold rdM
    rw [e, if_pos (show (45 :: Lib.decDigits v.natAbs).head? = some (45 : UInt8) from rfl)]
    dsimp only
    omega
  · next hv =>
    have hd := nDigits_le 9 v.toNat (by decide) (by have : (10 : Nat) ^ 9 = 1000000000 := by decide
                                                    omega)
    have hl := Lib.decDigits_length v.toNat
    have e : rdFold (Lib.decDigits v.toNat) = (v.toNat, Lib.nDigits v.toNat) := by
      unfold rdFold
      rw [List.take_of_length_le (by omega), fold_digits v.toNat v.toNat (0, 0) (Nat.le_refl _)]
      simp
    refine ⟨by rw [e]; exact hd, by omega, ?_⟩
    unfold rdM
    obtain ⟨c, r, hc, h1, h2⟩ := digits_head v.toNat v.toNat (Nat.le_refl _)
    rw [e, if_neg (by
      rw [hc]
      intro q
      simp at q
      subst q
      exact absurd h1 (by decide))]
    dsimp only
    omega
theorem specRd_yes {l : List UInt8} (h1 : (rdFold l).2 ≤ 9) (h3 : Lib.itoa (rdM l) = l) : decRes l = .tuple #[.int .i64 (rdM l), .bool true] := by
  unfold decRes
  rw [readDec_some.2 ⟨rdM_in h1, h3⟩]
  rfl
theorem specRd_no {l : List UInt8} (h : 9 < (rdFold l).2 ∨ 10 < l.length ∨ Lib.itoa (rdM l) ≠ l) : decRes l = .tuple #[.int .i64 0, .bool false] := by
  unfold decRes
  cases hr : readDec l with
  | none => rfl
  | some v =>
    obtain ⟨hv, he⟩ := readDec_some.1 hr
    have := rd_itoa hv
    rw [he] at this
    obtain ⟨a, b, c⟩ := this
    rcases h with h | h | h
    · omega
    · omega
    · exact absurd (by rw [c]; exact he) h

end Go.Proofs.YtamfgkicmikmbaaDoor
