/- CanReach of both sides: what is reached by passes over the channels; the impl stops when nothing is new, the spec after n rounds. -/
import Derived.Test.YtnchmenpgmlpdaaChan0
import Derived.Deep.LoopGhost
namespace Go.Proofs.Ytnchmenpgmlpdaa
open Go.RowKit

theorem Try.infoBool : (Try.prog.info? 4).map (fun i => (i.zero, i.size, i.bytes)) = some (some (.bool false), 1, 1) := by kernel_rfl

def chanIn (n : Int) (c : Chan) : Bool := inB c.f 0 (n - 1) && inB c.t 0 (n - 1)
def rstep (n : Int) (s : List Bool) (c : Chan) : List Bool := if (chanIn n c && s.getD c.f.toNat false) = true then s.set c.t.toNat true else s
def rpass (n : Int) (l : List Chan) (s : List Bool) : List Bool := l.foldl (rstep n) s
def riter (n : Int) (l : List Chan) : Nat → List Bool → List Bool
  | 0, s => s
  | m + 1, s => riter n l m (rpass n l s)
def canReach (n : Int) (l : List Chan) (a b : Int) : Bool :=
  if (inB n 1 20 && (inB a 0 (n - 1) && (inB b 0 (n - 1) && decide (l.length ≤ 400)))) = true then (riter n l n.toNat ((List.replicate n.toNat false).set a.toNat true)).getD b.toNat false else false

theorem rstep_len (n : Int) (s : List Bool) (c : Chan) : (rstep n s c).length = s.length := by
  unfold rstep; split <;> simp
theorem riter_fix {n : Int} {l : List Chan} {s : List Bool} (h : rpass n l s = s) : ∀ m, riter n l m s = s
  | 0 => rfl
  | m + 1 => by rw [riter, h]; exact riter_fix h m
theorem set_same {s : List Bool} {i : Nat} (h : s.getD i false = true) : s.set i true = s := by
  apply List.ext_getElem?
  intro j
  rw [List.getElem?_set]
  by_cases hj : i = j
  · subst hj
    by_cases hi : i < s.length
    · rw [if_pos rfl, if_pos hi]
      rw [List.getD_eq_getElem?_getD, List.getElem?_eq_getElem hi] at h
      rw [List.getElem?_eq_getElem hi]
      simpa using h.symm
    · rw [if_pos rfl, if_neg hi, List.getElem?_eq_none (by omega)]
  · rw [if_neg hj]
theorem count_set {s : List Bool} : ∀ {i : Nat}, i < s.length → s.getD i false = false → (s.set i true).count true = s.count true + 1 := by
  induction s with
  | nil => intro i hi; simp at hi
  | cons x s ih =>
    intro i hi h
    cases i with
    | zero => simp at h; subst h; simp
    | succ i =>
      have := ih (i := i) (by simpa using hi) (by simpa using h)
      rw [List.set_cons_succ, List.count_cons, List.count_cons, this]
      omega
theorem count_len (s : List Bool) : s.count true ≤ s.length := List.count_le_length
theorem rstep_out {n : Int} {s : List Bool} {c : Chan} (h : chanIn n c = false) : rstep n s c = s := by unfold rstep; simp [h]
theorem rstep_un {n : Int} {s : List Bool} {c : Chan} (h : s.getD c.f.toNat false = false) : rstep n s c = s := by unfold rstep; rw [h]; simp
theorem rstep_set {n : Int} {s : List Bool} {c : Chan} (h1 : chanIn n c = true) (h2 : s.getD c.f.toNat false = true) : rstep n s c = s.set c.t.toNat true := by unfold rstep; rw [h1, h2]; simp
theorem bools_at {s : List Bool} {i : Nat} {v : Bool} (hi : i < s.length) (h : s.getD i false = v) : (s.map Value.bool)[i]? = some (.bool v) := by
  rw [List.getElem?_map, List.getElem?_eq_getElem hi]
  rw [List.getD_eq_getElem?_getD, List.getElem?_eq_getElem hi] at h
  simpa using h

/-- The row of marks. -/
def Marks (w : World) (G N : Nat) (r : List Bool) : Prop := r.length = N ∧ w.ownsRow G 4 1 (.slice (some ⟨G, 0, none⟩) N N) N (r.map Value.bool)
theorem Marks.cell {w : World} {G N : Nat} {r : List Bool} (h : Marks w G N r) {i : Nat} {v : Bool} (hi : i < N) (hv : r.getD i false = v) : w.cell? ⟨G, i, none⟩ = some (.bool v) := by
  rw [h.2.cellAt i (by omega)]
  exact bools_at (by rw [h.1]; exact hi) hv
theorem Marks.frozen {w : World} {G N : Nat} {r : List Bool} (h : Marks w G N r) (i : Nat) : w.frozen? ⟨G, i, none⟩ = false := h.2.frozenAt i
theorem Marks.alloc {w : World} {G N : Nat} {r : List Bool} (h : Marks w G N r) (o : Obj) : Marks (w.alloc o) G N r := ⟨h.1, h.2.alloc o⟩
theorem Marks.set {w : World} {G N : Nat} {r : List Bool} (h : Marks w G N r) (i : Nat) (v : Bool) : Marks (w.setCell ⟨G, i, none⟩ (.bool v)) G N (r.set i v) :=
  ⟨by simpa using h.1, by have := (h.2.stored i (.bool v)).1; rwa [← List.map_set] at this⟩
theorem Marks.lt {w : World} {G N : Nat} {r : List Bool} (h : Marks w G N r) : G < w.heap.size := (h.2.lt G rfl).2
end Go.Proofs.Ytnchmenpgmlpdaa
