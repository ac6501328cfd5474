/- Reading a Var: what it is; plain laws. -/
import Derived.Test.YtabbncoihmhocaaVarPure
namespace Go.Proofs.Ytabbncoihmhocaa
open Go.RowKit

def rvGo : Nat → Bool → List UInt8 → Option (Nat × Nat)
  | 0, _, _ => none
  | _ + 1, _, [] => none
  | f + 1, b, c :: l => if c.toNat < 128 then (if (!b && decide (c.toNat = 0)) = true then none else some (c.toNat, 1)) else (rvGo f false l).map fun p => (c.toNat % 128 + 128 * p.1, p.2 + 1)
def readVar (l : List UInt8) : Nat × Nat := (rvGo 7 true l).getD (0, 0)
def val : List UInt8 → Nat
  | [] => 0
  | c :: l => c.toNat % 128 + 128 * val l
/-- A Var's bytes: all but the last from 128 on, the last below, and no nought behind others. -/
def canon : Bool → List UInt8 → Bool
  | _, [] => false
  | b, c :: l => if l.isEmpty then (decide (c.toNat < 128) && !(!b && decide (c.toNat = 0))) else (decide (128 ≤ c.toNat) && canon false l)

theorem rvGo_some : ∀ {f : Nat} {b : Bool} {l : List UInt8} {n k : Nat}, rvGo f b l = some (n, k) → canon b (l.take k) = true ∧ n = val (l.take k) ∧ 1 ≤ k ∧ k ≤ f ∧ k ≤ l.length
  | 0, _, _, _, _, h => by simp [rvGo] at h
  | f + 1, _, [], _, _, h => by simp [rvGo] at h
  | f + 1, b, c :: l, n, k, h => by
    rw [rvGo] at h
    by_cases hc : c.toNat < 128
    · rw [if_pos hc] at h
      split at h
      · cases h
      · rename_i hz
        cases h
        refine ⟨?_, ?_, Nat.le_refl _, by omega, by simp⟩
        · simp only [List.take_succ_cons, List.take_zero, canon, List.isEmpty_nil, if_true, Bool.and_eq_true, decide_eq_true_eq]
          exact ⟨hc, by cases b <;> simp_all⟩
        · simp [val, Nat.mod_eq_of_lt hc]
    · rw [if_neg hc] at h
      obtain ⟨⟨n', k'⟩, hr, he⟩ := Option.map_eq_some_iff.1 h
      obtain ⟨h1, h2, h3, h4, h5⟩ := rvGo_some hr
      cases he
      refine ⟨?_, ?_, by omega, by omega, by simp; omega⟩
      · rw [List.take_succ_cons, canon]
        have hne : (l.take k').isEmpty = false := by
          cases hl : l.take k' with
          | nil => rw [hl] at h1; simp [canon] at h1
          | cons _ _ => rfl
        rw [hne]
        simp [h1]
        omega
      · rw [List.take_succ_cons, val, ← h2]
theorem canon_before : ∀ {b : Bool} {l : List UInt8} {j k : Nat}, canon b (l.take k) = true → 1 ≤ j → j < k → j < l.length → canon b (l.take j) = false
  | b, [], _, _, h, _, _, _ => by simp [canon] at h
  | b, c :: l, j, k, h, hj, hk, hl => by
    obtain ⟨j', rfl⟩ : ∃ j', j = j' + 1 := ⟨j - 1, by omega⟩
    obtain ⟨k', rfl⟩ : ∃ k', k = k' + 1 := ⟨k - 1, by omega⟩
    rw [List.take_succ_cons, canon] at h
    rw [List.take_succ_cons, canon]
    have hne : (l.take k').isEmpty = false := by
      cases l with
      | nil => simp at hl
      | cons _ _ => obtain ⟨k2, rfl⟩ : ∃ k2, k' = k2 + 1 := ⟨k' - 1, by omega⟩
                    rfl
    rw [hne] at h
    simp at h
    by_cases h0 : j' = 0
    · subst h0
      simp
      intro hc
      omega
    · have hne2 : (l.take j').isEmpty = false := by
        cases l with
        | nil => simp at hl
        | cons _ _ => obtain ⟨k2, rfl⟩ : ∃ k2, j' = k2 + 1 := ⟨j' - 1, by omega⟩
                      rfl
      rw [hne2]
      simp only [Bool.false_eq_true, if_false, Bool.and_eq_false_iff]
      exact .inr (canon_before h.2 (by omega) (by omega) (by simpa using hl))
theorem rvGo_none : ∀ {f : Nat} {b : Bool} {l : List UInt8}, rvGo f b l = none → ∀ j, 1 ≤ j → j ≤ f → j ≤ l.length → canon b (l.take j) = false
  | 0, _, _, _, j, h1, h2, _ => by omega
  | f + 1, _, [], _, j, h1, _, h3 => by simp at h3; omega
  | f + 1, b, c :: l, h, j, h1, h2, h3 => by
    obtain ⟨j', rfl⟩ : ∃ j', j = j' + 1 := ⟨j - 1, by omega⟩
    rw [List.take_succ_cons, canon]
    rw [rvGo] at h
    by_cases hc : c.toNat < 128
    · rw [if_pos hc] at h
      split at h
      · rename_i hz
        by_cases h0 : (l.take j').isEmpty = true
        · rw [if_pos h0]
          simp at hz
          simp [hz]
        · rw [if_neg h0]
          simp
          intro hc'
          omega
      · cases h
    · rw [if_neg hc] at h
      have hr := Option.map_eq_none_iff.1 h
      by_cases h0 : (l.take j').isEmpty = true
      · rw [if_pos h0]
        simp
        intro hc'
        omega
      · rw [if_neg h0]
        have hj0 : j' ≠ 0 := by intro e; subst e; simp at h0
        rw [rvGo_none hr j' (by omega) (by omega) (by simpa using h3)]
        simp
theorem val_lt : ∀ (l : List UInt8), val l < 128 ^ l.length
  | [] => by simp [val]
  | c :: l => by
    have := val_lt l
    rw [val, List.length_cons, Nat.pow_succ]
    omega
theorem canon_pos : ∀ {l : List UInt8}, canon false l = true → 1 ≤ val l
  | [], h => by simp [canon] at h
  | c :: l, h => by
    rw [canon] at h
    cases l with
    | nil =>
      simp at h
      rw [val]
      omega
    | cons d l =>
      simp at h
      have := canon_pos (l := d :: l) h.2
      rw [val]
      omega
theorem varN_canon : ∀ {f : Nat} {b : Bool} {l : List UInt8}, canon b l = true → l.length ≤ f → varN f (val l) = l
  | 0, _, [], h, _ => by simp [canon] at h
  | 0, _, c :: l, _, h => by simp at h
  | f + 1, _, [], h, _ => by simp [canon] at h
  | f + 1, b, c :: l, h, hl => by
    rw [canon] at h
    cases l with
    | nil =>
      simp at h
      have hv : val [c] = c.toNat := by rw [val, val, Nat.mod_eq_of_lt h.1]; omega
      rw [hv, varN_lt h.1]
      simp
    | cons d l =>
      simp at h
      have hp := canon_pos h.2
      have hc := UInt8.toNat_lt c
      rw [val, varN_ge (by omega)]
      have e1 : (c.toNat % 128 + 128 * val (d :: l)) % 128 + 128 = c.toNat := by omega
      have e2 : (c.toNat % 128 + 128 * val (d :: l)) / 128 = val (d :: l) := by omega
      rw [e1, e2, varN_canon h.2 (by simpa using hl)]
      simp
theorem varN_is : ∀ {f : Nat} {b : Bool} {n : Nat}, 1 ≤ f → n < 128 ^ f → (b = true ∨ 1 ≤ n) → canon b (varN f n) = true ∧ val (varN f n) = n
  | 0, _, _, h, _, _ => by omega
  | f + 1, b, n, _, hn, hb => by
    by_cases h : n < 128
    · rw [varN_lt h]
      have e : (UInt8.ofNat n).toNat = n := by rw [UInt8.toNat_ofNat']; omega
      rw [canon, val, val, e]
      simp
      refine ⟨⟨by omega, ?_⟩, by omega⟩
      rcases hb with rfl | hb
      · simp
      · omega
    · rw [varN_ge h]
      have hf : 1 ≤ f := by
        rcases Nat.eq_zero_or_pos f with h0 | h0
        · subst h0; simp at hn; omega
        · exact h0
      obtain ⟨h1, h2⟩ := varN_is (f := f) (b := false) (n := n / 128) hf (by rw [Nat.pow_succ] at hn; omega) (.inr (by omega))
      have e : (UInt8.ofNat (n % 128 + 128)).toNat = n % 128 + 128 := by rw [UInt8.toNat_ofNat']; omega
      have hne : (varN f (n / 128)).isEmpty = false := by
        cases hv : varN f (n / 128) with
        | nil => rw [hv] at h1; simp [canon] at h1
        | cons _ _ => rfl
      rw [canon, hne, val, e, h1, h2]
      simp
      omega
theorem readVar_of {l : List UInt8} {k : Nat} (h : canon true (l.take k) = true) (h1 : 1 ≤ k) (h7 : k ≤ 7) (hl : k ≤ l.length) : readVar l = (val (l.take k), k) := by
  unfold readVar
  cases hr : rvGo 7 true l with
  | none => rw [rvGo_none hr k h1 h7 hl] at h; cases h
  | some p =>
    obtain ⟨n, k'⟩ := p
    obtain ⟨g1, g2, g3, g4, g5⟩ := rvGo_some hr
    have e : k' = k := by
      rcases Nat.lt_trichotomy k k' with c | c | c
      · rw [canon_before g1 h1 c (by omega)] at h; cases h
      · exact c.symm
      · rw [canon_before h g3 c (by omega)] at g1; cases g1
    subst e
    rw [g2]; rfl
theorem readVar_no {l : List UInt8} (h : ∀ j, 1 ≤ j → j ≤ 7 → j ≤ l.length → canon true (l.take j) = false) : readVar l = (0, 0) := by
  unfold readVar
  cases hr : rvGo 7 true l with
  | none => rfl
  | some p =>
    obtain ⟨n, k'⟩ := p
    obtain ⟨g1, g2, g3, g4, g5⟩ := rvGo_some hr
    rw [h k' g3 g4 g5] at g1; cases g1
theorem val_back {l : List UInt8} {k j : Nat} {c : UInt8} (hj : l[j]? = some c) (hjk : j < k) : val ((l.take k).drop j) = c.toNat % 128 + 128 * val ((l.take k).drop (j + 1)) := by
  have : (l.take k)[j]? = some c := by rw [List.getElem?_take_of_lt hjk]; exact hj
  rw [drop_cons this, val]
theorem val_part (l : List UInt8) (k j : Nat) (hk : k ≤ 7) (hj : 1 ≤ j) : val ((l.take k).drop j) ≤ 4398046511103 := by
  have h1 := val_lt ((l.take k).drop j)
  have h2 : ((l.take k).drop j).length ≤ 6 := by rw [List.length_drop, List.length_take]; omega
  have h3 : (128 : Nat) ^ ((l.take k).drop j).length ≤ 128 ^ 6 := Nat.pow_le_pow_right (by decide) h2
  have h4 : (128 : Nat) ^ 6 = 4398046511104 := by decide
  omega
/-- Of at most seven bytes: they are the Var of what they say just where they are a Var's bytes. -/
theorem var_canon {l : List UInt8} (hl : l.length ≤ 7) (h1 : 1 ≤ l.length) : (varS (val l : Int) = l) ↔ canon true l = true := by
  have hv := val_lt l
  have hp : 128 ^ l.length ≤ 128 ^ 7 := Nat.pow_le_pow_right (by decide) hl
  have hm : val l ≤ 562949953421311 := by
    have : (128 : Nat) ^ 7 = 562949953421312 := by decide
    omega
  have he : varS (val l : Int) = varN 8 (val l) := by unfold varS varL; rw [inB_true.2 (by omega), if_pos rfl, Int.toNat_natCast]
  rw [he]
  constructor
  · intro h
    have h8 : val l < 128 ^ 8 := by
      have : (128 : Nat) ^ 7 < 128 ^ 8 := by decide
      omega
    have h9 := (varN_is (f := 8) (b := true) (n := val l) (by decide) h8 (.inl rfl)).1
    rwa [h] at h9
  · intro h
    exact varN_canon h (by omega)
def bl (s : ByteArray) : List UInt8 := s.data.toList
theorem bl_length (s : ByteArray) : (bl s).length = s.size := by unfold bl; rw [Array.length_toList]; rfl
theorem bl_get {s : ByteArray} {k : Nat} (h : k < s.size) : (bl s)[k]? = some s[k] := by
  unfold bl
  rw [List.getElem?_eq_getElem (by rw [Array.length_toList]; exact h)]
  rfl
theorem bl_drop {s : ByteArray} {k : Nat} (h : k < s.size) : (bl s).drop k = s[k] :: (bl s).drop (k + 1) := drop_cons (bl_get h)
theorem bl_mk (l : List UInt8) : bl ⟨l.toArray⟩ = l := by simp [bl]
theorem mk_bl (s : ByteArray) : (⟨(bl s).toArray⟩ : ByteArray) = s := by cases s; simp [bl]
theorem bl_extract (s : ByteArray) (a b : Nat) : bl (s.extract a b) = ((bl s).drop a).take (b - a) := by
  simp [bl, ByteArray.data_extract, List.extract_eq_take_drop]
theorem bl_from (s : ByteArray) (a : Nat) : bl (s.extract a s.size) = (bl s).drop a := by
  rw [bl_extract]
  exact List.take_of_length_le (by rw [List.length_drop, bl_length]; exact Nat.le_refl _)
theorem bl_inj {s t : ByteArray} (h : bl s = bl t) : s = t := by rw [← mk_bl s, ← mk_bl t, h]

theorem wrap64_in (n : Int) (h : -9223372036854775808 ≤ n ∧ n ≤ 9223372036854775807) : wrap64 n = n := by unfold wrap64; omega
theorem pow7 (k : Nat) : (128 : Nat) ^ k = 2 ^ (7 * k) := by rw [Nat.pow_mul]
theorem or_step {k acc c : Nat} (hk : k ≤ 6) (ha : acc < 128 ^ k) : bits .or .i64 (acc : Int) (wrap64 ((c : Int) % 128 * 2 ^ (7 * k))) = ((acc + 128 ^ k * (c % 128) : Nat) : Int) := by
  have h1 : ((c : Int) % 128 * 2 ^ (7 * k)) = ((128 ^ k * (c % 128) : Nat) : Int) := by
    rw [pow7]
    push_cast
    rw [Int.mul_comm]
  have h2 : (128 : Nat) ^ k ≤ 128 ^ 6 := Nat.pow_le_pow_right (by decide) hk
  have h3 : 128 ^ k * (c % 128) ≤ 128 ^ 6 * 127 := Nat.mul_le_mul h2 (by omega)
  have h4 : (128 : Nat) ^ 6 = 4398046511104 := by decide
  rw [h1, wrap64_in _ (by omega)]
  have hc : bits .or .i64 (acc : Int) ((128 ^ k * (c % 128) : Nat) : Int) = bits .or .i64 ((128 ^ k * (c % 128) : Nat) : Int) (acc : Int) := by simp only [bits, BitVec.or_comm]
  rw [hc, bits_join .i64 63 (by decide) (fun n h0 h1 => by rw [IntKind.wrap_i64]; omega) (7 * k) _ _ (by omega) ?_ (by omega) (by omega) ?_ (by omega)]
  · push_cast; omega
  · rw [pow7]
    push_cast
    exact Int.mul_emod_right _ _
  · rw [pow7] at ha
    exact_mod_cast ha
end Go.Proofs.Ytabbncoihmhocaa
