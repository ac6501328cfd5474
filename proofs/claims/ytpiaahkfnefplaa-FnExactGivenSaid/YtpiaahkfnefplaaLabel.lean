/- Labels and what is owned: LabelOk, OwnOk of both sides; l4Has, slices.Contains. -/
import Derived.Test.YtpiaahkfnefplaaObjSmall
import Derived.Test.YtpiaahkfnefplaaBlk
import Derived.Test.YtpiaahkfnefplaaKeep
import Derived.Deep.LoopGhost
namespace Go.Proofs.Ytpiaahkfnefplaa
open Go.RowKit

def labelOk (l : List Int) : Bool := l.all (fun n => inB n 0 3) && decide (l.length = 4)
def lessP : Option Int → Int → Bool
  | none, _ => true
  | some y, x => decide (y < x)
def ownGo : Option Int → List Int → Bool
  | _, [] => true
  | p, x :: l => inB x 0 3 && (lessP p x && ownGo (some x) l)
def ownOk (l : List Int) : Bool := ownGo none l
def prevAt (l : List Int) (k : Nat) : Option Int := if k = 0 then none else l[k - 1]?
theorem prevAt_succ {l : List Int} {k : Nat} {x : Int} (h : l[k]? = some x) : prevAt l (k + 1) = some x := by unfold prevAt; rw [if_neg (by omega)]; simpa using h
theorem own_bad {l : List Int} {k : Nat} {x : Int} (h : ownOk l = ownGo (prevAt l k) (l.drop k)) (hx : l[k]? = some x) (hb : inB x 0 3 = false ∨ lessP (prevAt l k) x = false) : ownOk l = false := by
  rw [h, drop_cons hx, ownGo]
  rcases hb with hb | hb
  · rw [hb]; rfl
  · rw [hb]; simp
theorem own_good {l : List Int} {k : Nat} {x : Int} (h : ownOk l = ownGo (prevAt l k) (l.drop k)) (hx : l[k]? = some x) (h1 : inB x 0 3 = true) (h2 : lessP (prevAt l k) x = true) : ownOk l = ownGo (prevAt l (k + 1)) (l.drop (k + 1)) := by
  rw [h, drop_cons hx, ownGo, h1, h2, prevAt_succ hx]
  rfl
theorem own_end {l : List Int} {k : Nat} (h : ownOk l = ownGo (prevAt l k) (l.drop k)) (hk : l.length ≤ k) : ownOk l = true := by
  rw [h, List.drop_eq_nil_of_le hk]
  cases prevAt l k <;> rfl
def hasB (l : List Int) (x : Int) : Bool := l.contains x
theorem not_has {l : List Int} {x : Int} {k : Nat} (h : ∀ j, j < k → l[j]? ≠ some x) (hk : l.length ≤ k) : hasB l x = false := by
  unfold hasB
  rw [Bool.eq_false_iff]
  intro hc
  have hm : x ∈ l := by simpa using hc
  obtain ⟨j, hj, e⟩ := List.mem_iff_getElem.1 hm
  exact h j (by omega) (by rw [List.getElem?_eq_getElem hj, e])
theorem is_has {l : List Int} {x : Int} {k : Nat} (h : l[k]? = some x) : hasB l x = true := by
  unfold hasB
  simpa using List.mem_of_getElem? h
end Go.Proofs.Ytpiaahkfnefplaa
