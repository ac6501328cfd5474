/- Numbers read from texts: plain laws. -/
import Derived.Lib.ItoaNum
import Derived.Lib.ItoaLen
import Derived.Lib.AtoiAll
namespace Go.Proofs.YtamfgkicmikmbaaDoor
open Go.Lib

theorem dig_nat {d : Nat} (h : d < 10) : (UInt8.ofNat (48 + d)).toNat = 48 + d := by
  rw [UInt8.toNat_ofNat', Nat.mod_eq_of_lt (by omega)]
theorem parse_step {acc d : Nat} {r : List UInt8} (hd : d < 10) (h : acc * 10 + d < 1000000000000000000) : parseUint10 acc (UInt8.ofNat (48 + d) :: r) = parseUint10 (acc * 10 + d) r := by
  rw [parseUint10, dig_nat hd, if_pos (by omega), if_neg (by omega), if_neg (by omega)]
  congr 1
  omega
theorem pow_digits (u : Nat) : ∀ acc : Nat, (acc * 10 ^ nDigits (u / 10) + u / 10) * 10 + u % 10 = acc * 10 ^ (nDigits (u / 10) + 1) + u := by
  intro acc
  rw [Nat.pow_succ, Nat.add_mul, Nat.mul_assoc]
  omega
theorem parse_digits : ∀ (f u acc : Nat) (r : List UInt8), u ≤ f → acc * 10 ^ nDigits u + u < 1000000000000000000 → parseUint10 acc (decDigits u ++ r) = parseUint10 (acc * 10 ^ nDigits u + u) r
  | f, u, acc, r, hf, h => by
    by_cases hu : u < 10
    · rw [nDigits_small hu, Nat.pow_one] at h ⊢
      rw [decDigits_one hu]
      exact parse_step hu h
    · match f, hf with
      | 0, hf => omega
      | f + 1, hf =>
        rw [nDigits_big hu] at h ⊢
        have e := pow_digits u acc
        rw [decDigits, dif_neg hu, List.append_assoc, List.singleton_append, parse_digits f (u / 10) acc _ (by omega) (by omega), parse_step (by omega) (by omega), e]
theorem digits_ne (u : Nat) : decDigits u ≠ [] := by
  intro h
  have := decDigits_length u
  rw [h] at this
  have := nDigits_pos u
  simp at *
  omega
theorem parse_whole {u : Nat} (h : u ≤ 999999999) : parseMag (decDigits u) = .ok u := by
  unfold parseMag
  rw [if_neg (digits_ne u)]
  have := parse_digits u u 0 [] (Nat.le_refl _) (by omega)
  rw [List.append_nil, Nat.zero_mul, Nat.zero_add] at this
  rw [this, parseUint10]
theorem digits_head : ∀ (f u : Nat), u ≤ f → ∃ c r, decDigits u = c :: r ∧ 48 ≤ c.toNat ∧ c.toNat ≤ 57
  | f, u, hf => by
    by_cases hu : u < 10
    · exact ⟨_, [], decDigits_one hu, by rw [dig_nat hu]; omega, by rw [dig_nat hu]; omega⟩
    · match f, hf with
      | 0, hf => omega
      | f + 1, hf =>
        obtain ⟨c, r, h, h1, h2⟩ := digits_head f (u / 10) (by omega)
        exact ⟨c, r ++ [UInt8.ofNat (48 + u % 10)], by rw [decDigits, dif_neg hu, h]; rfl, h1, h2⟩
/-- What is written is read back. -/
theorem atoi_itoa {v : Int} (h : -999999999 ≤ v ∧ v ≤ 999999999) : atoiAll (itoa v) = .ok v := by
  unfold itoa
  split
  · next hv =>
    unfold atoiAll
    simp only [show (45 : UInt8).toNat = 45 from rfl, or_true, if_true]
    rw [parse_whole (by omega)]
    dsimp only
    rw [if_neg (by omega), if_neg (by omega)]
    congr 1
    omega
  · next hv =>
    obtain ⟨c, r, hc, h1, h2⟩ := digits_head v.toNat v.toNat (Nat.le_refl _)
    have hp := parse_whole (u := v.toNat) (by omega)
    rw [hc] at hp ⊢
    unfold atoiAll
    dsimp only
    rw [if_neg (by omega), hp]
    dsimp only
    rw [if_neg (by omega), if_neg (by omega)]
    rw [if_neg (by omega)]
    congr 1
    omega
theorem itoa_inj {v u : Int} (hv : -999999999 ≤ v ∧ v ≤ 999999999) (hu : -999999999 ≤ u ∧ u ≤ 999999999) (h : itoa v = itoa u) : v = u := by
  have h1 := atoi_itoa hv
  rw [h, atoi_itoa hu] at h1
  cases h1
  rfl
theorem nDigits_le : ∀ (k u : Nat), 1 ≤ k → u < 10 ^ k → nDigits u ≤ k
  | 0, _, h, _ => by omega
  | k + 1, u, _, hu => by
    by_cases h10 : u < 10
    · rw [nDigits_small h10]; omega
    · rw [nDigits_big h10]
      have hk : 1 ≤ k := by
        rcases Nat.eq_zero_or_pos k with h0 | h0
        · subst h0; omega
        · exact h0
      have := nDigits_le k (u / 10) hk (by rw [Nat.pow_succ] at hu; omega)
      omega
/-- The reference's reading: the digits alone. -/
def rdStep (p : Nat × Nat) (c : UInt8) : Nat × Nat := if 48 ≤ c.toNat ∧ c.toNat ≤ 57 then (p.1 * 10 + (c.toNat - 48), p.2 + 1) else p
theorem fold_digits : ∀ (f u : Nat) (p : Nat × Nat), u ≤ f → (decDigits u).foldl rdStep p = (p.1 * 10 ^ nDigits u + u, p.2 + nDigits u)
  | f, u, p, hf => by
    by_cases hu : u < 10
    · rw [nDigits_small hu, decDigits_one hu, Nat.pow_one]
      simp only [List.foldl_cons, List.foldl_nil, rdStep, dig_nat hu]
      rw [if_pos (by omega)]
      congr 1
      omega
    · match f, hf with
      | 0, hf => omega
      | f + 1, hf =>
        rw [nDigits_big hu, decDigits, dif_neg hu, List.foldl_append, fold_digits f (u / 10) p (by omega)]
        simp only [List.foldl_cons, List.foldl_nil, rdStep, dig_nat (show u % 10 < 10 by omega)]
        rw [if_pos (by omega)]
        have e := pow_digits u p.1
        congr 1
        omega
end Go.Proofs.YtamfgkicmikmbaaDoor
