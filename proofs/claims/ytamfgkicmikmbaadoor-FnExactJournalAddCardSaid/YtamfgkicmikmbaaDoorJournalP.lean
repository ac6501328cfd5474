/- The journal: sums, fixed numbers, frames; plain laws. -/
import Derived.Test.YtamfgkicmikmbaaDoorReadPure
import Derived.Test.YtamfgkicmikmbaaDoorReadEntryP
namespace Go.Proofs.YtamfgkicmikmbaaDoor
open Go.RowKit

theorem xor64 (a b : Nat) (ha : a < 2 ^ 63) (hb : b < 2 ^ 63) : bits .xor .i64 (a : Int) (b : Int) = ((a ^^^ b : Nat) : Int) := by
  have hp : (2 : Nat) ^ 63 ≤ 2 ^ 64 := Nat.pow_le_pow_right (by decide) (by decide)
  have ha' : a % 2 ^ 64 = a := Nat.mod_eq_of_lt (Nat.lt_of_lt_of_le ha hp)
  have hb' : b % 2 ^ 64 = b := Nat.mod_eq_of_lt (Nat.lt_of_lt_of_le hb hp)
  have hx := Nat.xor_lt_two_pow ha hb
  have hw : ∀ n : Nat, n < 2 ^ 63 → IntKind.i64.wrap (n : Int) = (n : Int) := fun n h => by rw [IntKind.wrap_i64]; omega
  have e : bits .xor .i64 (a : Int) (b : Int) = IntKind.i64.wrap ((a ^^^ b : Nat) : Int) := by
    show IntKind.i64.wrap ((BitVec.ofInt 64 (a : Int) ^^^ BitVec.ofInt 64 (b : Int)).toNat : Int) = _
    rw [BitVec.toNat_xor, BitVec.ofInt_natCast, BitVec.ofInt_natCast, BitVec.toNat_ofNat, BitVec.toNat_ofNat, ha', hb']
  rw [e, hw _ hx]
def crcStep (c : Nat) : Nat := if c % 2 = 1 then (c / 2) ^^^ 2197175160 else c / 2
def crcIter : Nat → Nat → Nat
  | 0, c => c
  | j + 1, c => crcStep (crcIter j c)
def crcByte (c : Nat) (b : UInt8) : Nat := crcIter 8 (c ^^^ b.toNat)
def crcAcc (l : List UInt8) : Nat := l.foldl crcByte 4294967295
def crc (l : List UInt8) : Nat := 4294967295 - crcAcc l
theorem crcStep_lt {c : Nat} (h : c < 2 ^ 32) : crcStep c < 2 ^ 32 := by
  unfold crcStep
  split
  · exact Nat.xor_lt_two_pow (by omega) (by decide)
  · omega
theorem crcIter_lt {c : Nat} (h : c < 2 ^ 32) : ∀ j, crcIter j c < 2 ^ 32
  | 0 => h
  | j + 1 => crcStep_lt (crcIter_lt h j)
theorem crcByte_lt {c : Nat} (b : UInt8) (h : c < 2 ^ 32) : crcByte c b < 2 ^ 32 := by
  have := UInt8.toNat_lt b
  exact crcIter_lt (Nat.xor_lt_two_pow h (by omega)) 8
theorem crcFold_lt : ∀ (l : List UInt8) (c : Nat), c < 2 ^ 32 → l.foldl crcByte c < 2 ^ 32
  | [], _, h => h
  | b :: l, _, h => crcFold_lt l _ (crcByte_lt b h)
theorem crcAcc_lt (l : List UInt8) : crcAcc l < 2 ^ 32 := crcFold_lt l _ (by decide)
theorem crc_lt (l : List UInt8) : crc l < 2 ^ 32 := by unfold crc; omega
/-- Four bytes, the greatest first. -/
def fixN (l : List UInt8) : Nat := (l.take 4).foldl (fun n b => n * 256 + b.toNat) 0
def low : Nat → Nat → List UInt8
  | 0, _ => []
  | k + 1, n => UInt8.ofNat (n / 256 ^ k % 256) :: low k n
theorem low_len : ∀ k n, (low k n).length = k
  | 0, _ => rfl
  | k + 1, n => by rw [low, List.length_cons, low_len k n]
theorem u8_nat {n : Nat} (h : n < 256) : (UInt8.ofNat n).toNat = n := by rw [UInt8.toNat_ofNat', Nat.mod_eq_of_lt h]
theorem fixN_low {n : Nat} (h : n < 2 ^ 32) (r : List UInt8) : fixN (low 4 n ++ r) = n := by
  unfold fixN
  rw [List.take_left' (low_len 4 n)]
  simp only [low, List.foldl_cons, List.foldl_nil, u8_nat (Nat.mod_lt _ (by decide : 0 < 256))]
  omega
theorem low_fixN {l : List UInt8} (h : 4 ≤ l.length) : low 4 (fixN l) = l.take 4 := by
  match l, h with
  | a :: b :: c :: d :: r, _ =>
    have ha := UInt8.toNat_lt a
    have hb := UInt8.toNat_lt b
    have hc := UInt8.toNat_lt c
    have hd := UInt8.toNat_lt d
    unfold fixN
    simp only [List.take_succ_cons, List.take_zero, List.foldl_cons, List.foldl_nil, low]
    have e : ∀ (x : UInt8) (m : Nat), m = x.toNat → UInt8.ofNat m = x := fun x m hm => by rw [hm, UInt8.ofNat_toNat]
    rw [e a _ (by omega), e b _ (by omega), e c _ (by omega), e d _ (by omega)]
theorem fixN_lt (l : List UInt8) : fixN l < 2 ^ 32 := by
  unfold fixN
  have h : ∀ (l : List UInt8) (k n : Nat), n < 256 ^ k → l.foldl (fun n b => n * 256 + b.toNat) n < 256 ^ (k + l.length) := by
    intro l
    induction l with
    | nil => intro k n h; simpa using h
    | cons b l ih =>
      intro k n h
      have := UInt8.toNat_lt b
      have := ih (k + 1) (n * 256 + b.toNat) (by rw [Nat.pow_succ]; omega)
      rw [List.foldl_cons, List.length_cons, show k + (l.length + 1) = k + 1 + l.length by omega]
      exact this
  have h1 := h (l.take 4) 0 0 (by decide)
  have h2 : 256 ^ (0 + (l.take 4).length) ≤ 256 ^ 4 := Nat.pow_le_pow_right (by decide) (by rw [List.length_take]; omega)
  have h3 : (256 : Nat) ^ 4 = 2 ^ 32 := by decide
  omega
/-- A frame at the head of a text: its entry, and how long it is. -/
def frame (l : List UInt8) : Option (Entry × Nat) :=
  if l.length < 4 then none else
  let p := readVar (l.drop 4)
  if p.2 = 0 ∨ l.length - 4 < p.2 + p.1 ∨ crc ((l.drop 4).take (p.2 + p.1)) ≠ fixN l then none else
  (readEntry (((l.drop 4).drop p.2).take p.1)).map fun e => (e, 4 + p.2 + p.1)
def journal : Nat → List UInt8 → List Entry × Nat
  | 0, _ => ([], 0)
  | f + 1, l => match frame l with
    | none => ([], 0)
    | some (e, n) => (e :: (journal f (l.drop n)).1, n + (journal f (l.drop n)).2)
theorem journal_len : ∀ (f : Nat) (l : List UInt8), (journal f l).1.length ≤ f
  | 0, _ => by simp [journal]
  | f + 1, l => by
    rw [journal]
    split
    · simp
    · next e n _ => have := journal_len f (l.drop n); simp; omega
theorem frame_le {l : List UInt8} {e : Entry} {n : Nat} (h : frame l = some (e, n)) : 5 ≤ n ∧ n ≤ l.length := by
  unfold frame at h
  split at h
  · cases h
  · dsimp only at h
    split at h
    · cases h
    · next h1 h2 =>
      obtain ⟨x, _, hx⟩ := Option.map_eq_some_iff.1 h
      cases hx
      omega
theorem journal_le : ∀ (f : Nat) (l : List UInt8), (journal f l).2 ≤ l.length
  | 0, _ => by simp [journal]
  | f + 1, l => by
    rw [journal]
    split
    · simp
    · next e n h =>
      have h1 := frame_le h
      have := journal_le f (l.drop n)
      rw [List.length_drop] at this
      dsimp only
      omega
/-- The reference's frame: sum, length, text. -/
def frameOf (s : List UInt8) : List UInt8 := low 4 (crc (varS (s.length : Int) ++ s)) ++ (varS (s.length : Int) ++ s)
theorem readVar_var {l : List UInt8} {n k : Nat} (h : readVar l = (n, k)) (hk : k ≠ 0) : varS (n : Int) = l.take k ∧ k ≤ 7 ∧ k ≤ l.length ∧ n ≤ 562949953421311 := by
  unfold readVar at h
  cases hr : rvGo 7 true l with
  | none => rw [hr] at h; cases h; omega
  | some p =>
    rw [hr] at h
    obtain rfl : p = (n, k) := h
    obtain ⟨g1, g2, g3, g4, g5⟩ := rvGo_some hr
    have hl : (l.take k).length = k := by rw [List.length_take]; omega
    have hv := val_lt (l.take k)
    have hp : 128 ^ (l.take k).length ≤ 128 ^ 7 := Nat.pow_le_pow_right (by decide) (by omega)
    have h7 : (128 : Nat) ^ 7 = 562949953421312 := by decide
    refine ⟨?_, g4, g5, by omega⟩
    rw [g2]
    exact (var_canon (by omega) (by omega)).2 g1
/-- The reference looks whether the text begins with the very frame. -/
theorem frame_spec {l : List UInt8} {n k : Nat} (h5 : 5 ≤ l.length) (hr : readVar (l.drop 4) = (n, k)) (hk : k ≠ 0) (hn : k + n ≤ l.length - 4) :
    frame l = (if l.take (4 + k + n) = frameOf (((l.drop 4).drop k).take n) then (readEntry (((l.drop 4).drop k).take n)).map fun e => (e, 4 + k + n) else none) := by
  obtain ⟨h1, h2, h3, h4⟩ := readVar_var hr hk
  have hlen : (((l.drop 4).drop k).take n).length = n := by rw [List.length_take, List.length_drop, List.length_drop]; omega
  have ht : varS (n : Int) ++ ((l.drop 4).drop k).take n = (l.drop 4).take (k + n) := by rw [h1, List.take_add]
  have hF : frameOf (((l.drop 4).drop k).take n) = low 4 (crc ((l.drop 4).take (k + n))) ++ (l.drop 4).take (k + n) := by
    unfold frameOf
    rw [hlen, ht]
  have hT : l.take (4 + k + n) = l.take 4 ++ (l.drop 4).take (k + n) := by rw [Nat.add_assoc, List.take_add]
  unfold frame
  rw [if_neg (by omega)]
  dsimp only
  rw [hr]
  dsimp only
  rw [hF, hT]
  by_cases hc : crc ((l.drop 4).take (k + n)) = fixN l
  · rw [if_neg (by rintro (h | h | h) <;> first | omega | exact h hc), if_pos (by rw [hc, low_fixN (by omega)])]
  · rw [if_pos (.inr (.inr hc)), if_neg (fun e => hc (by
      have e1 : l.take 4 = low 4 (crc ((l.drop 4).take (k + n))) := (List.append_inj e (by rw [low_len, List.length_take]; omega)).1
      have e2 := congrArg fixN e1
      have e3 := fixN_low (crc_lt ((l.drop 4).take (k + n))) []
      rw [List.append_nil] at e3
      rw [e3] at e2
      rw [← e2]
      unfold fixN
      rw [List.take_take, Nat.min_self]))]

end Go.Proofs.YtamfgkicmikmbaaDoor
