/- What TreeOk says; plain laws. -/
import Derived.Test.YtabbncoihmhocaaTreeImpl
namespace Go.Proofs.Ytabbncoihmhocaa
open Go.RowKit

theorem tree_places {t : List Res} (h : treeOk t = true) : t.length = 5 ∧ ∀ (k : Nat) (x : Res), t[k]? = some x → amtOk x.bal = true ∧ (x.live = false → x = zeroRes) := by
  unfold treeOk at h
  simp only [Bool.and_eq_true] at h
  obtain ⟨h1, h2, _⟩ := h
  refine ⟨(head_get h1).1, fun k x hx => ?_⟩
  have := idxAll_iff.1 h2 k x hx
  unfold placeI at this
  cases hl : x.live
  · rw [hl] at this
    simp only [Bool.false_eq_true, if_false, decide_eq_true_eq] at this
    subst this
    exact ⟨amtOk_zero, fun _ => rfl⟩
  · rw [hl, if_pos rfl, Bool.and_eq_true] at this
    exact ⟨this.1, fun e => by cases e⟩
theorem five {t : List Res} (h : t.length = 5) : ∃ x0 x1 x2 x3 x4, t = [x0, x1, x2, x3, x4] := by
  match t, h with
  | [x0, x1, x2, x3, x4], _ => exact ⟨x0, x1, x2, x3, x4, rfl⟩
theorem sumAll5 (x0 x1 x2 x3 x4 : Res) : sumAll [x0, x1, x2, x3, x4] = ⟨x0.bal.p + x1.bal.p + x2.bal.p + x3.bal.p + x4.bal.p, x0.bal.r + x1.bal.r + x2.bal.r + x3.bal.r + x4.bal.r, x0.bal.c + x1.bal.c + x2.bal.c + x3.bal.c + x4.bal.c⟩ := by
  simp [sumAll, amtAdd]
theorem sumLive_all {t : List Res} (h : ∀ (k : Nat) (x : Res), t[k]? = some x → x.live = false → x = zeroRes) : sumLive t = sumAll t := by
  have key : ∀ (l : List Res) (s : Amt), (∀ x ∈ l, x.live = false → x = zeroRes) → l.foldl (fun s r => if r.live then amtAdd s r.bal else s) s = l.foldl (fun s r => amtAdd s r.bal) s := by
    intro l
    induction l with
    | nil => intro s _; rfl
    | cons y l ih =>
      intro s hl
      simp only [List.foldl_cons]
      have hy := hl y (List.mem_cons_self ..)
      have : (if y.live then amtAdd s y.bal else s) = amtAdd s y.bal := by
        cases hv : y.live
        · rw [hy hv]; simp [amtAdd, zeroRes]
        · simp
      rw [this]
      exact ih _ fun x hx => hl x (List.mem_cons_of_mem _ hx)
  refine key t _ fun x hx => ?_
  obtain ⟨k, hk⟩ := List.mem_iff_getElem?.1 hx
  exact h k x hk
/-- What TreeOk says, in one place. -/
theorem tree_parts {t : List Res} (h : treeOk t = true) : t.length = 5 ∧ treeHead t = true ∧ (∀ (k : Nat) (x : Res), t[k]? = some x → placeI t k x = true) ∧ amtOk (sumAll t) = true := by
  have hp := tree_places h
  unfold treeOk at h
  simp only [Bool.and_eq_true] at h
  obtain ⟨h1, h2, h3⟩ := h
  refine ⟨hp.1, h1, fun k x hx => ?_, ?_⟩
  · have := idxAll_iff.1 h2 k x hx
    rwa [Nat.zero_add] at this
  · rwa [sumLive_all fun k x hx => (hp.2 k x hx).2] at h3
theorem tree_mk {t : List Res} (h1 : treeHead t = true) (h2 : ∀ (k : Nat) (x : Res), t[k]? = some x → placeI t k x = true) (h3 : amtOk (sumAll t) = true) : treeOk t = true := by
  unfold treeOk
  have hz : ∀ (k : Nat) (x : Res), t[k]? = some x → x.live = false → x = zeroRes := by
    intro k x hx hl
    have := h2 k x hx
    unfold placeI at this
    rw [hl] at this
    simpa using this
  rw [h1, sumLive_all hz, h3, Bool.true_and, Bool.and_true]
  exact idxAll_iff.2 fun k x hx => by rw [Nat.zero_add]; exact h2 k x hx
/-- Who lives, and below whom, is all that the way up hangs on. -/
theorem leads_congr {t t' : List Res} (h : ∀ i : Int, (resAt t' i).live = (resAt t i).live ∧ (resAt t' i).par = (resAt t i).par) : ∀ (f : Nat) (i : Int), leadsUpB t' f i = leadsUpB t f i
  | 0, _ => rfl
  | f + 1, i => by
    rw [leadsUpB, leadsUpB, (h i).2, leads_congr h f]
    unfold isLiveB
    rw [(h i).1]
theorem resAt_set {t : List Res} {k : Nat} {x y : Res} (hx : t[k]? = some x) (i : Int) : resAt (t.set k y) i = if i.toNat = k then y else resAt t i := by
  have hk : k < t.length := (List.getElem?_eq_some_iff.1 hx).1
  unfold resAt
  rw [List.getD_eq_getElem?_getD, List.getD_eq_getElem?_getD, List.getElem?_set]
  by_cases e : i.toNat = k
  · rw [if_pos e, if_pos e.symm, if_pos (by omega)]; rfl
  · rw [if_neg e, if_neg (fun c => e c.symm)]
theorem resAt_nat {t : List Res} {k : Nat} {x : Res} (hx : t[k]? = some x) {i : Int} (hi : i.toNat = k) : resAt t i = x := by
  unfold resAt
  rw [hi, List.getD_eq_getElem?_getD, hx]; rfl
end Go.Proofs.Ytabbncoihmhocaa
