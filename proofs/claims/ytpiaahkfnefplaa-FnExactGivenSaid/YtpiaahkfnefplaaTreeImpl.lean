/- TreeOk: the program's side. -/
import Derived.Test.YtpiaahkfnefplaaResFn
import Derived.Test.YtpiaahkfnefplaaBlk
namespace Go.Proofs.Ytpiaahkfnefplaa
open Go.RowKit

theorem amtOk_iff {a : Amt} : amtOk a = true ↔ (0 ≤ a.p ∧ a.p ≤ 1000000) ∧ (0 ≤ a.r ∧ a.r ≤ 1000000) ∧ (0 ≤ a.c ∧ a.c ≤ 1000000) := by
  unfold amtOk okN
  simp only [Bool.and_eq_true, inB_true]
/-- A sum of k amounts. -/
def InTo (s : Amt) (k : Nat) : Prop := (0 ≤ s.p ∧ s.p ≤ 1000000 * k) ∧ (0 ≤ s.r ∧ s.r ≤ 1000000 * k) ∧ (0 ≤ s.c ∧ s.c ≤ 1000000 * k)
theorem InTo.zero : InTo ⟨0, 0, 0⟩ 0 := by unfold InTo; simp
theorem InTo.next {s : Amt} {k : Nat} (h : InTo s k) : InTo s (k + 1) := by unfold InTo at *; omega
theorem InTo.add {s a : Amt} {k : Nat} (h : InTo s k) (ha : amtOk a = true) : InTo (amtAdd s a) (k + 1) := by
  rw [amtOk_iff] at ha
  unfold InTo amtAdd at *
  simp only
  omega
theorem InTo.small {s : Amt} {k : Nat} (h : InTo s k) (hk : k ≤ 1000) : Small s := by unfold InTo Small at *; omega
theorem amtOk_small {a : Amt} (h : amtOk a = true) : Small a := by rw [amtOk_iff] at h; unfold Small; omega
theorem tree_bad {t : List Res} {k : Nat} {x : Res} (hx : t[k]? = some x) (h : placeI t k x = false) : treeOk t = false := by
  unfold treeOk
  rw [idxAll_bad hx h]
  simp
theorem tree_end {t : List Res} (hh : treeHead t = true) (h : idxAll (placeI t) 0 t = true) : treeOk t = amtOk (sumLive t) := by
  unfold treeOk
  rw [hh, h]
  rfl
theorem sumLive_next {t : List Res} {k : Nat} {x : Res} (hx : t[k]? = some x) : sumLive (t.take (k + 1)) = if x.live then amtAdd (sumLive (t.take k)) x.bal else sumLive (t.take k) := by
  obtain ⟨hl, rfl⟩ := List.getElem?_eq_some_iff.1 hx
  unfold sumLive
  rw [List.take_succ_eq_append_getElem hl, List.foldl_append]
  rfl

end Go.Proofs.Ytpiaahkfnefplaa
