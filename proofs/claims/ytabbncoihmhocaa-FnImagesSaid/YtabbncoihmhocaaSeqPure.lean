/- Reading Vars one behind the other; plain laws. -/
import Derived.Test.YtabbncoihmhocaaReadPure
import Derived.Test.YtabbncoihmhocaaShowPure
namespace Go.Proofs.Ytabbncoihmhocaa
open Go.RowKit

/-- m numbers from the front: the numbers, and how many bytes. -/
def seqGo (l : List UInt8) : Nat → Option (List Nat × Nat)
  | 0 => some ([], 0)
  | m + 1 => (seqGo l m).bind fun q => if (readVar (l.drop q.2)).2 = 0 then none else some (q.1 ++ [(readVar (l.drop q.2)).1], q.2 + (readVar (l.drop q.2)).2)
def ints (ns : List Nat) : List Int := ns.map fun (n : Nat) => (n : Int)
def inVar (n : Nat) : Prop := n ≤ 562949953421311

theorem readVar_spec {l : List UInt8} (h : (readVar l).2 ≠ 0) : varS ((readVar l).1 : Int) = l.take (readVar l).2 ∧ (readVar l).2 ≤ l.length ∧ (readVar l).2 ≤ 7 ∧ inVar (readVar l).1 := by
  unfold readVar at *
  cases hr : rvGo 7 true l with
  | none => rw [hr] at h; simp at h
  | some p =>
    obtain ⟨n, k⟩ := p
    obtain ⟨g1, g2, g3, g4, g5⟩ := rvGo_some hr
    show varS (n : Int) = l.take k ∧ k ≤ l.length ∧ k ≤ 7 ∧ inVar n
    have hlen : (l.take k).length = k := by rw [List.length_take]; omega
    have h1 := val_lt (l.take k)
    have h3 : (128 : Nat) ^ (l.take k).length ≤ 128 ^ 7 := Nat.pow_le_pow_right (by decide) (by omega)
    have h4 : (128 : Nat) ^ 7 = 562949953421312 := by decide
    refine ⟨?_, g5, g4, by unfold inVar; omega⟩
    rw [g2]
    exact (var_canon (by omega) (by omega)).2 g1
theorem readVar_le (l : List UInt8) : (readVar l).2 ≤ l.length ∧ inVar (readVar l).1 := by
  by_cases h : (readVar l).2 = 0
  · refine ⟨by omega, ?_⟩
    unfold readVar at *
    cases hr : rvGo 7 true l with
    | none => unfold inVar; simp
    | some p =>
      obtain ⟨n, k⟩ := p
      obtain ⟨_, _, g3, _, _⟩ := rvGo_some hr
      rw [hr] at h
      have : k = 0 := h
      omega
  · obtain ⟨_, h2, _, h4⟩ := readVar_spec h
    exact ⟨h2, h4⟩
theorem readVar_show {n : Nat} (hn : inVar n) (rest : List UInt8) : readVar (varS (n : Int) ++ rest) = (n, (varS (n : Int)).length) ∧ 1 ≤ (varS (n : Int)).length := by
  unfold inVar at hn
  have he : varS (n : Int) = varN 8 n := by unfold varS varL; rw [inB_true.2 (by omega), if_pos rfl, Int.toNat_natCast]
  have h7 : n < 128 ^ 7 := by have : (128 : Nat) ^ 7 = 562949953421312 := by decide
                              omega
  obtain ⟨c7, v7⟩ := varN_is (f := 7) (b := true) (n := n) (by decide) h7 (.inl rfl)
  have e78 : varN 8 n = varN 7 n := by
    have h := varN_canon (f := 8) c7 (by have := varN_len 7 n; omega)
    rw [v7] at h
    exact h
  rw [he, e78]
  have hl := varN_len 7 n
  have h1 : 1 ≤ (varN 7 n).length := by
    cases hv : varN 7 n with
    | nil => rw [hv] at c7; simp [canon] at c7
    | cons _ _ => simp
  have ht : (varN 7 n ++ rest).take (varN 7 n).length = varN 7 n := List.take_left' rfl
  refine ⟨?_, h1⟩
  have := readVar_of (l := varN 7 n ++ rest) (k := (varN 7 n).length) (by rw [ht]; exact c7) h1 hl (by simp)
  rw [this, ht, v7]
theorem seqGo_inv : ∀ {m : Nat} {l : List UInt8} {ns : List Nat} {a : Nat}, seqGo l m = some (ns, a) → ns.length = m ∧ a ≤ l.length ∧ varsL (ints ns) = l.take a ∧ (∀ n ∈ ns, inVar n) ∧ m ≤ a
  | 0, l, ns, a, h => by
    simp only [seqGo, Option.some.injEq, Prod.mk.injEq] at h
    obtain ⟨rfl, rfl⟩ := h
    exact ⟨rfl, Nat.zero_le _, by simp [ints, varsL], by simp, Nat.le_refl _⟩
  | m + 1, l, ns, a, h => by
    rw [seqGo] at h
    obtain ⟨⟨ms, b⟩, hq, h2⟩ := Option.bind_eq_some_iff.1 h
    obtain ⟨i1, i2, i3, i4, i5⟩ := seqGo_inv hq
    dsimp only at h2
    split at h2
    · cases h2
    · rename_i hk
      cases h2
      obtain ⟨s1, s2, s3, s4⟩ := readVar_spec hk
      rw [List.length_drop] at s2
      refine ⟨by simp [i1], by omega, ?_, ?_, by omega⟩
      · unfold ints varsL at *
        rw [List.map_append, List.flatMap_append, i3]
        simp only [List.map_cons, List.map_nil, List.flatMap_cons, List.flatMap_nil, List.append_nil]
        rw [s1, List.take_add]
      · intro n hn
        rcases List.mem_append.1 hn with hn | hn
        · exact i4 n hn
        · simp at hn; rw [hn]; exact s4
/-- What is shown is read. -/
theorem seqGo_show (l : List UInt8) : ∀ (ns : List Nat) (tail : List Nat) (rest : List UInt8), l = varsL (ints (ns ++ tail)) ++ rest → (∀ n ∈ ns, inVar n) → seqGo l ns.length = some (ns, (varsL (ints ns)).length) := by
  intro ns
  induction hm : ns.length generalizing ns with
  | zero =>
    intro tail rest _ _
    have : ns = [] := List.eq_nil_of_length_eq_zero hm
    subst this
    rfl
  | succ m ih =>
    intro tail rest hl hin
    have hne : ns ≠ [] := by intro e; subst e; simp at hm
    obtain ⟨ms, n, rfl⟩ : ∃ ms n, ns = ms ++ [n] := ⟨ns.dropLast, ns.getLast hne, (List.dropLast_concat_getLast hne).symm⟩
    have hms : ms.length = m := by simpa using hm
    have h1 := ih ms hms (n :: tail) rest (by rw [hl, List.append_assoc]; rfl) (fun x hx => hin x (by simp [hx]))
    rw [seqGo, h1]
    have hd : l.drop (varsL (ints ms)).length = varS (n : Int) ++ (varsL (ints tail) ++ rest) := by
      rw [hl]
      unfold ints varsL
      simp only [List.map_append, List.flatMap_append, List.map_cons, List.map_nil, List.flatMap_cons, List.flatMap_nil, List.append_nil, List.append_assoc]
      exact List.drop_left' rfl
    obtain ⟨r1, r2⟩ := readVar_show (hin n (by simp)) (varsL (ints tail) ++ rest)
    simp only [Option.bind_some, hd, r1]
    rw [if_neg (by omega)]
    congr 2
    unfold ints varsL
    simp [List.map_append, List.flatMap_append]
theorem seqGo_le {l : List UInt8} {m : Nat} {ns : List Nat} {a : Nat} (h : seqGo l m = some (ns, a)) : a ≤ l.length := (seqGo_inv h).2.1

theorem seqGo_none {l : List UInt8} {k m : Nat} (h : seqGo l k = none) (hk : k ≤ m) : seqGo l m = none := by
  induction m with
  | zero => obtain rfl : k = 0 := by omega
            exact h
  | succ m ih =>
    by_cases e : k = m + 1
    · subst e; exact h
    · rw [seqGo, ih (by omega)]; rfl
theorem seqGo_stop {l : List UInt8} {k a : Nat} {ns : List Nat} (h : seqGo l k = some (ns, a)) (h0 : (readVar (l.drop a)).2 = 0) : seqGo l (k + 1) = none := by
  rw [seqGo, h]
  simp only [Option.bind_some]
  rw [if_pos h0]
theorem seqGo_on {l : List UInt8} {k a : Nat} {ns : List Nat} (h : seqGo l k = some (ns, a)) (h0 : (readVar (l.drop a)).2 ≠ 0) : seqGo l (k + 1) = some (ns ++ [(readVar (l.drop a)).1], a + (readVar (l.drop a)).2) := by
  rw [seqGo, h]
  simp only [Option.bind_some]
  rw [if_neg h0]
/-- One number as the program's reader reads it. -/
def rNum (l : List UInt8) (a : Nat) (b : Bool) : Nat × Nat × Bool := if (b || decide ((readVar (l.drop a)).2 = 0)) = true then (0, a, true) else ((readVar (l.drop a)).1, a + (readVar (l.drop a)).2, false)
theorem rNum_le {l : List UInt8} {a : Nat} {b : Bool} (h : a ≤ l.length) : (rNum l a b).2.1 ≤ l.length ∧ inVar (rNum l a b).1 := by
  unfold rNum
  have := readVar_le (l.drop a)
  rw [List.length_drop] at this
  split
  · exact ⟨h, by unfold inVar; simp⟩
  · exact ⟨by dsimp only; omega, this.2⟩
theorem rNum_bad (l : List UInt8) (a : Nat) : rNum l a true = (0, a, true) := by unfold rNum; simp
theorem rNum_ok {l : List UInt8} {a n a' : Nat} {b : Bool} (h : rNum l a b = (n, a', false)) : b = false ∧ (readVar (l.drop a)).2 ≠ 0 ∧ n = (readVar (l.drop a)).1 ∧ a' = a + (readVar (l.drop a)).2 := by
  unfold rNum at h
  split at h
  · cases h
  · rename_i hc
    simp at hc
    cases h
    exact ⟨hc.1, hc.2, rfl, rfl⟩
theorem rNum_seq {l : List UInt8} {m : Nat} {ns : List Nat} {a n a' : Nat} {b : Bool} (hs : seqGo l m = some (ns, a)) (h : rNum l a b = (n, a', false)) : seqGo l (m + 1) = some (ns ++ [n], a') := by
  obtain ⟨_, h2, rfl, rfl⟩ := rNum_ok h
  rw [seqGo, hs]
  simp only [Option.bind_some]
  rw [if_neg h2]
theorem seq_rNum {l : List UInt8} {m : Nat} {ns ms : List Nat} {a b : Nat} (hs : seqGo l m = some (ns, a)) (h : seqGo l (m + 1) = some (ms, b)) : ∃ n, ms = ns ++ [n] ∧ rNum l a false = (n, b, false) := by
  rw [seqGo, hs] at h
  simp only [Option.bind_some] at h
  split at h
  · cases h
  · rename_i hc
    cases h
    exact ⟨_, rfl, by unfold rNum; rw [if_neg (by simpa using hc)]⟩
/-- A flag as the program's reader reads it. -/
def rFlag (l : List UInt8) (a : Nat) (b : Bool) : Bool × Nat × Bool := (decide ((rNum l a b).1 = 1), (rNum l a b).2.1, (rNum l a b).2.2 || decide (1 < (rNum l a b).1))
theorem rNum_no1 {l : List UInt8} {a : Nat} : rNum l a true = (0, a, true) := rNum_bad l a
theorem rNum_no2 {l : List UInt8} {a : Nat} (h : (readVar (l.drop a)).2 = 0) : rNum l a false = (0, a, true) := by unfold rNum; simp [h]
theorem rNum_yes {l : List UInt8} {a : Nat} (h : (readVar (l.drop a)).2 ≠ 0) : rNum l a false = ((readVar (l.drop a)).1, a + (readVar (l.drop a)).2, false) := by unfold rNum; simp [h]
end Go.Proofs.Ytabbncoihmhocaa
