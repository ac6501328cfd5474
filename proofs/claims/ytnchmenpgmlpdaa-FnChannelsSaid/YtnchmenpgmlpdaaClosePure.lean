/- Closure of both sides. -/
import Derived.Test.YtnchmenpgmlpdaaReachImpl
import Derived.Test.YtnchmenpgmlpdaaReachSpec
import Derived.Test.YtnchmenpgmlpdaaApp
namespace Go.Proofs.Ytnchmenpgmlpdaa
open Go.RowKit

def closePick (n : Int) (l : List Chan) (i j : Nat) : List Chan := if (decide (i ≠ j) && canReach n l i j) = true then [⟨(i : Int), (j : Int)⟩] else []
def closeRow (n : Int) (l : List Chan) (i m : Nat) : List Chan := (List.range m).flatMap (closePick n l i)
def closeRows (n : Int) (l : List Chan) (k m : Nat) : List Chan := (List.range k).flatMap fun i => closeRow n l i m
def closure (n : Int) (l : List Chan) : List Chan := if inB n 1 20 = true then closeRows n l n.toNat n.toNat else []
theorem closeRow_succ (n : Int) (l : List Chan) (i j : Nat) : closeRow n l i (j + 1) = closeRow n l i j ++ closePick n l i j := by
  unfold closeRow; rw [List.range_succ, List.flatMap_append]; simp
theorem closeRows_succ (n : Int) (l : List Chan) (k m : Nat) : closeRows n l (k + 1) m = closeRows n l k m ++ closeRow n l k m := by
  unfold closeRows; rw [List.range_succ, List.flatMap_append]; simp
theorem closeRow_len (n : Int) (l : List Chan) (i : Nat) : ∀ m, (closeRow n l i m).length ≤ m
  | 0 => by simp [closeRow]
  | m + 1 => by
    rw [closeRow_succ, List.length_append]
    have := closeRow_len n l i m
    have : (closePick n l i m).length ≤ 1 := by unfold closePick; split <;> simp
    omega
theorem closeRows_len (n : Int) (l : List Chan) (m : Nat) : ∀ k, (closeRows n l k m).length ≤ k * m
  | 0 => by simp [closeRows]
  | k + 1 => by
    rw [closeRows_succ, List.length_append, Nat.add_mul]
    have := closeRows_len n l m k
    have := closeRow_len n l k m
    omega
theorem pick_yes {n : Int} {l : List Chan} {i j : Nat} (h : i ≠ j) (hr : canReach n l i j = true) : closePick n l i j = [⟨(i : Int), (j : Int)⟩] := by unfold closePick; rw [hr]; simp [h]
theorem pick_no {n : Int} {l : List Chan} {i j : Nat} (h : i = j ∨ canReach n l i j = false) : closePick n l i j = [] := by
  unfold closePick; rcases h with h | h <;> simp [h]

theorem closure_len (n : Int) (l : List Chan) : (closure n l).length ≤ 400 := by
  unfold closure
  split
  · next h =>
    have hb := inB_true.1 h
    have h1 := closeRows_len n l n.toNat n.toNat
    have h2 : n.toNat * n.toNat ≤ 20 * 20 := Nat.mul_le_mul (by omega) (by omega)
    omega
  · simp
/-- What the loops keep: the list so far, own. -/
def CloseAcc (w : World) (xs : List Chan) (v : Value) (wr : World) : Prop := Acc w 52 2 xs.length (xs.flatMap Chan.enc) v wr
theorem Acc.wb {w : World} {xs : List Chan} {v : Value} {wr : World} (h : CloseAcc w xs v wr) : Below w.heap.size w wr := h.2
theorem CloseAcc.next {w : World} {n : Int} {l : List Chan} {pre : List Chan} {v : Value} {wr : World} {i : Nat} (j : Nat) (h : CloseAcc w (pre ++ closeRow n l i j) v wr) (hp : closePick n l i j = []) : CloseAcc w (pre ++ closeRow n l i (j + 1)) v wr := by
  rw [closeRow_succ, hp, List.append_nil]; exact h
theorem CloseAcc.pick {w : World} {n : Int} {l : List Chan} {pre : List Chan} {v : Value} {wr : World} {i j : Nat} {x : Chan} (h : Acc w 52 2 (pre.length + (closeRow n l i j).length + 1) (pre.flatMap Chan.enc ++ ((closeRow n l i j).flatMap Chan.enc ++ x.enc)) v wr) (hp : closePick n l i j = [x]) : CloseAcc w (pre ++ closeRow n l i (j + 1)) v wr := by
  unfold CloseAcc
  rw [closeRow_succ, hp, ← List.append_assoc, List.length_append, List.length_append, List.flatMap_append, List.flatMap_append, List.append_assoc]
  simpa using h
end Go.Proofs.Ytnchmenpgmlpdaa
