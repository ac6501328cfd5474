/- FlowsFor, Flows of both sides. -/
import Derived.Test.YtpiaahkfnefplaaLabel
import Derived.Test.YtpiaahkfnefplaaMsgTo
import Derived.Test.YtpiaahkfnefplaaApp
import Derived.Deep.DeepCutAuto
namespace Go.Proofs.Ytpiaahkfnefplaa
open Go.RowKit

def upAt (a b : List Int) (i : Nat) : Bool := decide (a.getD i 0 ≤ b.getD i 0)
def aboveL (a b : List Int) : List Int := ((List.range 4).filter (fun i => !upAt a b i)).map (fun (i : Nat) => (i : Int))
def flowsFor (own a b : List Int) : Bool := ownOk own && (labelOk a && (labelOk b && (List.range 4).all (fun i => upAt a b i || hasB own (i : Int))))
def flows (a b : List Int) : Bool := labelOk a && (labelOk b && (List.range 4).all (fun i => upAt a b i))
theorem flows_nil (a b : List Int) : flows a b = flowsFor [] a b := by
  unfold flows flowsFor
  have h : ∀ x, hasB [] x = false := fun x => by unfold hasB; simp
  simp only [h, Bool.or_false]
  rw [show ownOk [] = true from rfl, Bool.true_and]
theorem label_len {l : List Int} (h : labelOk l = true) : l.length = 4 := by
  unfold labelOk at h
  simp only [Bool.and_eq_true, decide_eq_true_eq] at h
  exact h.2
theorem all4 {f : Nat → Bool} {k : Nat} (h : ∀ j, j < k → f j = true) (hk : 4 ≤ k) : (List.range 4).all f = true := by
  rw [List.all_eq_true]
  intro x hx
  exact h x (by have := List.mem_range.1 hx; omega)
theorem not4 {f : Nat → Bool} {k : Nat} (hk : k < 4) (h : f k = false) : (List.range 4).all f = false := by
  rw [List.all_eq_false]
  exact ⟨k, List.mem_range.2 hk, by rw [h]; simp⟩
theorem upto_succ {f : Nat → Bool} {k : Nat} (h : ∀ j, j < k → f j = true) (hk : f k = true) : ∀ j, j < k + 1 → f j = true := fun j hj => by
  by_cases e : j = k
  · subst e; exact hk
  · exact h j (by omega)
theorem up_at {a b : List Int} {k : Nat} {x y : Int} (hx : a[k]? = some x) (hy : b[k]? = some y) : upAt a b k = decide (x ≤ y) := by
  unfold upAt
  rw [List.getD_eq_getElem?_getD, List.getD_eq_getElem?_getD, hx, hy]
  rfl
theorem above_all (own a b : List Int) : (aboveL a b).all (fun c => hasB own c) = (List.range 4).all (fun i => upAt a b i || hasB own (i : Int)) := by
  unfold aboveL
  rw [List.all_map, List.all_filter]
  congr 1
  funext i
  cases upAt a b i <;> simp
theorem icell_append (l m : List Int) : icell (l ++ m) = icell l ++ icell m := by unfold icell; rw [List.map_append]
/-- The first of what is above. -/
def aboveN (a b : List Int) (k : Nat) : List Int := ((List.range k).filter (fun i => !upAt a b i)).map (fun (i : Nat) => (i : Int))
theorem aboveN_yes {a b : List Int} {k : Nat} (h : upAt a b k = false) : aboveN a b (k + 1) = aboveN a b k ++ [(k : Int)] := by
  unfold aboveN
  rw [List.range_succ, List.filter_append, List.map_append]
  simp [h]
theorem aboveN_no {a b : List Int} {k : Nat} (h : upAt a b k = true) : aboveN a b (k + 1) = aboveN a b k := by
  unfold aboveN
  rw [List.range_succ, List.filter_append, List.map_append]
  simp [h]
theorem aboveN_len (a b : List Int) (k : Nat) : (aboveN a b k).length ≤ k := by
  unfold aboveN
  rw [List.length_map]
  have h := List.length_filter_le (fun i => !upAt a b i) (List.range k)
  rwa [List.length_range] at h
end Go.Proofs.Ytpiaahkfnefplaa
