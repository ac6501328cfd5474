/- A text parted at each byte of a kind: plain laws. -/
import Derived.Lib.SplitLaws
namespace Go.Proofs.YtamfgkicmikmbaaDoor
open Go.Lib

def cutS (c : UInt8) : List UInt8 → List (List UInt8)
  | [] => [[]]
  | b :: r => if b = c then [] :: cutS c r else (b :: (cutS c r).headD []) :: (cutS c r).tail
theorem cutS_ne (c : UInt8) (l : List UInt8) : cutS c l ≠ [] := by
  cases l with
  | nil => simp [cutS]
  | cons b r => rw [cutS]; split <;> simp
theorem splitK_cutS (c : UInt8) : ∀ l : List UInt8, splitK [c] 0 (count l [c]) l = cutS c l
  | [] => by rw [count_miss (by simp [index]), splitK, cutS]
  | b :: l => by
    have ih := splitK_cutS c l
    by_cases h : b = c
    · subst h
      have hix : index (b :: l) [b] = ((0 : Nat) : Int) := by rw [index]; simp [List.isPrefixOf]
      rw [count_cons_eq, Nat.add_comm, splitK, hix, cutS, if_pos rfl, ← ih]
      simp
    · have hp : ([c] : List UInt8).isPrefixOf (b :: l) = false := by simp [List.isPrefixOf, Ne.symm h]
      have hix : index (b :: l) [c] = if index l [c] == -1 then -1 else index l [c] + 1 := by rw [index, hp]; simp
      rw [count_cons_ne b c l h, cutS, if_neg h, ← ih]
      by_cases hm : index l [c] = -1
      · rw [count_miss hm, splitK, splitK]
        rfl
      · have hge := index_ge l [c]
        obtain ⟨j, hj⟩ : ∃ j : Nat, index l [c] = j := ⟨(index l [c]).toNat, by omega⟩
        have hix' : index (b :: l) [c] = ((j + 1 : Nat) : Int) := by rw [hix, if_neg (fun e => hm (beq_iff_eq.1 e)), hj]; omega
        rw [count_hit (by simp) hj, Nat.add_comm, splitK, splitK, hix', hj]
        rw [if_neg (by simp; try omega), if_neg (by simp; try omega)]
        simp
/-- The piece begun, and what is still to be parted. -/
def glue (p : List UInt8) (xs : List (List UInt8)) : List (List UInt8) := (p ++ xs.headD []) :: xs.tail
theorem glue_nil {c : UInt8} (l : List UInt8) : glue [] (cutS c l) = cutS c l := by
  have h := cutS_ne c l
  unfold glue
  cases hx : cutS c l with
  | nil => exact absurd hx h
  | cons a b => simp
theorem glue_end (c : UInt8) (p : List UInt8) : glue p (cutS c []) = [p] := by simp [glue, cutS]
theorem glue_hit (c : UInt8) (p r : List UInt8) : glue p (cutS c (c :: r)) = p :: cutS c r := by simp [glue, cutS]
theorem glue_miss {c b : UInt8} (p r : List UInt8) (h : b ≠ c) : glue p (cutS c (b :: r)) = glue (p ++ [b]) (cutS c r) := by
  unfold glue
  rw [cutS, if_neg h]
  simp
end Go.Proofs.YtamfgkicmikmbaaDoor
