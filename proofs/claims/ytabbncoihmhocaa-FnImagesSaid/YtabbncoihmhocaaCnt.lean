/- What a mark leaves: cells that count up. -/
import Derived.Test.YtabbncoihmhocaaBase
namespace Go.Proofs.Ytabbncoihmhocaa
open Go.RowKit

def cnt (q : Int) (m : Nat) : List Value := (List.range m).map fun (i : Nat) => Value.int .i64 (q + (i : Int))
theorem cnt_length (q : Int) (m : Nat) : (cnt q m).length = m := by simp [cnt]
theorem cnt_get (q : Int) (m i : Nat) (h : i < m) : (cnt q m)[i]? = some (.int .i64 (q + (i : Int))) := by simp [cnt, h]
theorem cnt_succ (q : Int) (m : Nat) : cnt q (m + 1) = cnt q m ++ [.int .i64 (q + (m : Int))] := by simp [cnt, List.range_succ]
theorem cnt_succ2 (q : Int) (k : Nat) : cnt q ((k + 1) * 2) = cnt q (k * 2) ++ [.int .i64 (q + ((k * 2 : Nat) : Int)), .int .i64 (q + ((k * 2 : Nat) : Int) + 1)] := by
  rw [show (k + 1) * 2 = k * 2 + 1 + 1 from by omega, cnt_succ, cnt_succ, List.append_assoc]
  congr 3
  simp; omega
theorem cnt_succ3 (q : Int) (k : Nat) : cnt q ((k + 1) * 3) = cnt q (k * 3) ++ [.int .i64 (q + ((k * 3 : Nat) : Int)), .int .i64 (q + ((k * 3 : Nat) : Int) + 1), .int .i64 (q + ((k * 3 : Nat) : Int) + 2)] := by
  rw [show (k + 1) * 3 = k * 3 + 1 + 1 + 1 from by omega, cnt_succ, cnt_succ, cnt_succ, List.append_assoc, List.append_assoc]
  congr 3
  simp; omega

theorem owns_block {w : World} {base : Nat} {e : TypeId} {size : Nat} {a : Option Addr} {cap n : Nat} {xs : List Value} (h : w.ownsRow base e size (.slice a n cap) n xs) (hn : 0 < n) :
    ∃ g, a = some ⟨g, 0, none⟩ ∧ base ≤ g := by
  obtain ⟨_, h⟩ := h
  rcases h with ⟨hv, h0⟩ | ⟨g, cap', cur, hv, hb, _⟩
  · omega
  · simp only [Value.slice.injEq, true_and] at hv
    exact ⟨g, hv.1, hb⟩

theorem owns_cnt {base : Nat} {e : TypeId} {g n cap k : Nat} {w : World} {pre pre' tl : List Value} (s : Nat) (vs : List Value) (hs : vs.length = s)
    (h : w.ownsRow base e s (.slice (some ⟨g, 0, none⟩) n cap) n (pre ++ tl)) (hkn : k < n) (hp : pre.length = k * s ∧ pre' = pre ++ vs) :
    (setCells w g (k * s) vs).ownsRow base e s (.slice (some ⟨g, 0, none⟩) n cap) n (pre' ++ tl.drop s) := by
  obtain ⟨hlen, rfl⟩ := hp
  have htot := h.1
  have hmul : (k + 1) * s ≤ n * s := Nat.mul_le_mul_right _ hkn
  have h1 := owns_setCells vs (k * s) h (by rw [htot, hs]; rw [Nat.add_mul] at hmul; omega)
  rw [hs, List.take_left' hlen, List.drop_append, List.drop_of_length_le (by omega), hlen, List.nil_append] at h1
  have : k * s + s - k * s = s := by omega
  rw [this] at h1
  exact h1

theorem owns_cnt1 {base : Nat} {e : TypeId} {g n cap k : Nat} {w : World} {pre pre' tl : List Value} (vs : List Value) (hs : vs.length = 1)
    (h : w.ownsRow base e 1 (.slice (some ⟨g, 0, none⟩) n cap) n (pre ++ tl)) (hkn : k < n) (hp : pre.length = k ∧ pre' = pre ++ vs) :
    (setCells w g k vs).ownsRow base e 1 (.slice (some ⟨g, 0, none⟩) n cap) n (pre' ++ tl.drop 1) := by
  have h1 := owns_cnt (k := k) 1 vs hs h hkn (by rw [Nat.mul_one]; exact hp)
  rwa [Nat.mul_one] at h1

theorem owns_cnt_full1 {w : World} {base : Nat} {e : TypeId} {v : Value} {n : Nat} {q : Int} {tl : List Value}
    (h : w.ownsRow base e 1 v n (cnt q n ++ tl)) : w.ownsRow base e 1 v n (cnt q n) := by
  have hl := h.1
  rw [List.length_append, cnt_length] at hl
  have : tl = [] := List.eq_nil_of_length_eq_zero (by omega)
  rw [this, List.append_nil] at h
  exact h

theorem owns_cnt_full {w : World} {base : Nat} {e : TypeId} {s : Nat} {v : Value} {n : Nat} {q : Int} {tl : List Value}
    (h : w.ownsRow base e s v n (cnt q (n * s) ++ tl)) : w.ownsRow base e s v n (cnt q (n * s)) := by
  have hl := h.1
  rw [List.length_append, cnt_length] at hl
  have : tl = [] := List.eq_nil_of_length_eq_zero (by omega)
  rw [this, List.append_nil] at h
  exact h
theorem grown_setCells {g : Nat} {w : World} : ∀ (vs : List Value) {wr : World} (j : Nat), w.grownBy wr (some g) → w.grownBy (setCells wr g j vs) (some g)
  | [], _, _, h => h
  | v :: vs, wr, j, h => grown_setCells vs (j + 1) ⟨h.os, h.tape, h.output, by simpa [World.setCell] using h.size, fun k hk hne => by rw [Below.heap_setCell _ _ _ _ (fun e => hne (by rw [e]))]; exact h.block k hk hne⟩

theorem below_of_grown {base : Nat} {w w' : World} {e : TypeId} {s : Nat} {v : Value} {n : Nat} {xs : List Value} (hg : w.grownBy w' v.ownBlock) (h : w.ownsRow base e s v n xs) (hb : base ≤ w.heap.size) : Below base w w' :=
  (Below.refl base w).grown hg hb (fun k hk => (h.lt k hk).1)

/-- Rows owned from other bases lie apart. -/
theorem apart {w w' : World} {b0 b1 : Nat} {e0 e1 : TypeId} {s0 s1 n0 n1 : Nat} {v0 v1 : Value} {xs ys : List Value} (h0 : w.ownsRow b0 e0 s0 v0 n0 xs) (h1 : w'.ownsRow b1 e1 s1 v1 n1 ys) (hb : w.heap.size ≤ b1) : v0.ownBlock = none ∨ v0.ownBlock ≠ v1.ownBlock := by
  cases hv : v0.ownBlock with
  | none => exact .inl rfl
  | some k => exact .inr (fun e => by have a := (h0.lt k hv).2; have b := (h1.lt k e.symm).1; omega)
theorem apart' {w w' : World} {b0 b1 : Nat} {e0 e1 : TypeId} {s0 s1 n0 n1 : Nat} {v0 v1 : Value} {xs ys : List Value} (h0 : w.ownsRow b0 e0 s0 v0 n0 xs) (h1 : w'.ownsRow b1 e1 s1 v1 n1 ys) (hb : w'.heap.size ≤ b0) : v0.ownBlock = none ∨ v0.ownBlock ≠ v1.ownBlock := by
  cases hv : v0.ownBlock with
  | none => exact .inl rfl
  | some k => exact .inr (fun e => by have a := (h0.lt k hv).1; have b := (h1.lt k e.symm).2; omega)
end Go.Proofs.Ytabbncoihmhocaa
