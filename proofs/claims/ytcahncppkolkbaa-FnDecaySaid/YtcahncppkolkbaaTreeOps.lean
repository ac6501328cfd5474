/- Paying from, giving back into and moving between the places of a tree: what it leaves; plain laws, no program in sight. -/
import Derived.Test.YtcahncppkolkbaaDecayFn
import Derived.Test.YtcahncppkolkbaaTreeLaws
namespace Go.Proofs.Ytcahncppkolkbaa
open Go.RowKit

def amtDif (x y : Amt) : Amt := ⟨x.p - y.p, x.r - y.r, x.c - y.c⟩
def payT (t : List Res) (i : Int) (a : Amt) : List Res × Bool :=
  if (treeOk t && (isLiveB t i && amtFits a (resAt t i).bal)) = true then (t.set i.toNat ⟨true, (resAt t i).par, amtDif (resAt t i).bal a⟩, true) else (t, false)
def backAt (t : List Res) (i : Int) : Int := if isLiveB t i = true then i else 0
def backT (t : List Res) (i : Int) (a : Amt) : List Res × Bool :=
  if (treeOk t && (amtOk a && amtOk (amtAdd (sumAll t) a))) = true then (t.set (backAt t i).toNat ⟨true, (resAt t (backAt t i)).par, amtAdd (resAt t (backAt t i)).bal a⟩, true) else (t, false)
def giveT (t : List Res) (i j : Int) (a : Amt) : List Res × Bool :=
  if ((payT t i a).2 && isLiveB t j) = true then backT (payT t i a).1 j a else (t, false)

/-- Another balance in a place that lives. -/
theorem tree_set {t : List Res} {k : Nat} {x : Res} {b : Amt} (h : treeOk t = true) (hx : t[k]? = some x) (hl : x.live = true) (hb : amtOk b = true) (hs : amtOk (sumAll (t.set k ⟨true, x.par, b⟩)) = true) : treeOk (t.set k ⟨true, x.par, b⟩) = true := by
  obtain ⟨h5, hh, hp, _⟩ := tree_parts h
  have hk : k < t.length := (List.getElem?_eq_some_iff.1 hx).1
  have hsame : ∀ i : Int, (resAt (t.set k ⟨true, x.par, b⟩) i).live = (resAt t i).live ∧ (resAt (t.set k ⟨true, x.par, b⟩) i).par = (resAt t i).par := by
    intro i
    rw [resAt_set hx]
    by_cases e : i.toNat = k
    · rw [if_pos e, resAt_nat hx e]; exact ⟨hl.symm, rfl⟩
    · rw [if_neg e]; exact ⟨rfl, rfl⟩
  refine tree_mk ?_ (fun j y hy => ?_) hs
  · obtain ⟨_, x0, hx0, hl0, hp0⟩ := head_get hh
    unfold treeHead
    have e0 : (t.set k ⟨true, x.par, b⟩).headD zeroRes = resAt (t.set k ⟨true, x.par, b⟩) 0 := by
      unfold resAt
      cases t.set k ⟨true, x.par, b⟩ <;> rfl
    have hr0 : resAt t 0 = x0 := resAt_get (k := 0) hx0
    rw [e0, (hsame 0).1, (hsame 0).2, hr0, hl0, hp0, List.length_set, h5]
    rfl
  · rw [List.getElem?_set] at hy
    unfold placeI
    rw [leads_congr hsame]
    split at hy
    · rename_i e
      cases hy
      subst e
      have := hp _ x hx
      unfold placeI at this
      rw [hl, if_pos rfl, Bool.and_eq_true] at this
      simp [hb, this.2]
    · have := hp _ y hy
      unfold placeI at this
      exact this
theorem sumAll_set {t : List Res} {k : Nat} {x : Res} {q : Int} {b : Amt} (h : t.length = 5) (hx : t[k]? = some x) :
    sumAll (t.set k ⟨true, q, b⟩) = ⟨(sumAll t).p - x.bal.p + b.p, (sumAll t).r - x.bal.r + b.r, (sumAll t).c - x.bal.c + b.c⟩ := by
  obtain ⟨x0, x1, x2, x3, x4, rfl⟩ := five h
  match k, hx with
  | 0, hx => cases hx; simp only [List.set_cons_zero, sumAll5, Amt.mk.injEq]; omega
  | 1, hx => cases hx; simp only [List.set_cons_zero, List.set_cons_succ, sumAll5, Amt.mk.injEq]; omega
  | 2, hx => cases hx; simp only [List.set_cons_zero, List.set_cons_succ, sumAll5, Amt.mk.injEq]; omega
  | 3, hx => cases hx; simp only [List.set_cons_zero, List.set_cons_succ, sumAll5, Amt.mk.injEq]; omega
  | 4, hx => cases hx; simp only [List.set_cons_zero, List.set_cons_succ, sumAll5, Amt.mk.injEq]; omega
  | n + 5, hx => simp at hx
theorem bal_le {t : List Res} (h : treeOk t = true) {k : Nat} {x : Res} (hx : t[k]? = some x) : x.bal.p ≤ (sumAll t).p ∧ x.bal.r ≤ (sumAll t).r ∧ x.bal.c ≤ (sumAll t).c := by
  obtain ⟨h5, hpl⟩ := tree_places h
  obtain ⟨x0, x1, x2, x3, x4, rfl⟩ := five h5
  have a0 := amtOk_iff.1 (hpl 0 x0 rfl).1
  have a1 := amtOk_iff.1 (hpl 1 x1 rfl).1
  have a2 := amtOk_iff.1 (hpl 2 x2 rfl).1
  have a3 := amtOk_iff.1 (hpl 3 x3 rfl).1
  have a4 := amtOk_iff.1 (hpl 4 x4 rfl).1
  rw [sumAll5]
  match k, hx with
  | 0, hx => cases hx; dsimp only; omega
  | 1, hx => cases hx; dsimp only; omega
  | 2, hx => cases hx; dsimp only; omega
  | 3, hx => cases hx; dsimp only; omega
  | 4, hx => cases hx; dsimp only; omega
  | n + 5, hx => simp at hx
theorem live_get {t : List Res} {i : Int} (h5 : t.length = 5) (h : isLiveB t i = true) : ∃ (k : Nat) (x : Res), i = (k : Int) ∧ k < 5 ∧ t[k]? = some x ∧ x.live = true ∧ resAt t i = x := by
  unfold isLiveB at h
  rw [Bool.and_eq_true, inB_true] at h
  obtain ⟨⟨h0, h4⟩, hl⟩ := h
  obtain ⟨k, rfl⟩ := Int.eq_ofNat_of_zero_le h0
  obtain ⟨x, hx⟩ := some_at (l := t) (k := k) (by omega)
  rw [resAt_get hx] at hl
  exact ⟨k, x, rfl, by omega, hx, hl, resAt_get hx⟩
theorem back_get {t : List Res} (h : treeOk t = true) (i : Int) : ∃ (k : Nat) (x : Res), backAt t i = (k : Int) ∧ k < 5 ∧ t[k]? = some x ∧ x.live = true ∧ resAt t (backAt t i) = x := by
  obtain ⟨h5, hh, _, _⟩ := tree_parts h
  unfold backAt
  cases hl : isLiveB t i
  · rw [if_neg (by decide)]
    obtain ⟨_, x, hx, hl0, _⟩ := head_get hh
    exact ⟨0, x, rfl, by decide, hx, hl0, resAt_get (k := 0) hx⟩
  · rw [if_pos rfl]
    exact live_get h5 hl
/-- Two trees in which the same places live below the same places. -/
def SameUp (t t' : List Res) : Prop := ∀ i : Int, (resAt t' i).live = (resAt t i).live ∧ (resAt t' i).par = (resAt t i).par
theorem SameUp.refl (t : List Res) : SameUp t t := fun _ => ⟨rfl, rfl⟩
theorem SameUp.trans {a b c : List Res} (h : SameUp a b) (k : SameUp b c) : SameUp a c := fun i => ⟨(k i).1.trans (h i).1, (k i).2.trans (h i).2⟩
theorem SameUp.live {a b : List Res} (h : SameUp a b) (i : Int) : isLiveB b i = isLiveB a i := by unfold isLiveB; rw [(h i).1]
theorem SameUp.set {t : List Res} {k : Nat} {x : Res} (hx : t[k]? = some x) (hl : x.live = true) (b : Amt) : SameUp t (t.set k ⟨true, x.par, b⟩) := by
  intro i
  rw [resAt_set hx]
  by_cases e : i.toNat = k
  · rw [if_pos e, resAt_nat hx e]; exact ⟨hl.symm, rfl⟩
  · rw [if_neg e]; exact ⟨rfl, rfl⟩
theorem dif_ok {x y : Amt} (h : amtFits y x = true) : amtOk (amtDif x y) = true := by
  have := fits_in h
  rw [amtOk_iff]
  unfold amtDif
  dsimp only
  omega
/-- What a payment leaves. -/
theorem pay_yes {t : List Res} {i : Int} {a : Amt} (h : treeOk t = true) (hl : isLiveB t i = true) (hf : amtFits a (resAt t i).bal = true) :
    ∃ (k : Nat) (x : Res), i = (k : Int) ∧ k < 5 ∧ t[k]? = some x ∧ x.live = true ∧ payT t i a = (t.set k ⟨true, x.par, amtDif x.bal a⟩, true) ∧ treeOk (t.set k ⟨true, x.par, amtDif x.bal a⟩) = true ∧
      sumAll (t.set k ⟨true, x.par, amtDif x.bal a⟩) = amtDif (sumAll t) a ∧ SameUp t (t.set k ⟨true, x.par, amtDif x.bal a⟩) := by
  obtain ⟨h5, hh, hp, hs⟩ := tree_parts h
  obtain ⟨k, x, rfl, hk, hx, hlx, hr⟩ := live_get h5 hl
  have he : payT t (k : Int) a = (t.set k ⟨true, x.par, amtDif x.bal a⟩, true) := by
    unfold payT
    rw [h, hl, hf, hr]
    simp
  rw [hr] at hf
  have hsum : sumAll (t.set k ⟨true, x.par, amtDif x.bal a⟩) = amtDif (sumAll t) a := by
    rw [sumAll_set h5 hx]
    unfold amtDif
    simp only [Amt.mk.injEq]
    omega
  refine ⟨k, x, rfl, hk, hx, hlx, he, tree_set h hx hlx (dif_ok hf) ?_, hsum, SameUp.set hx hlx _⟩
  have hb := bal_le h hx
  have hi := fits_in hf
  rw [hsum, amtOk_iff]
  rw [amtOk_iff] at hs
  unfold amtDif
  dsimp only
  omega
theorem pay_no {t : List Res} {i : Int} {a : Amt} (h : ¬ (treeOk t = true ∧ isLiveB t i = true ∧ amtFits a (resAt t i).bal = true)) : payT t i a = (t, false) := by
  unfold payT
  rw [if_neg (by simpa [Bool.and_eq_true] using h)]
theorem back_yes {t : List Res} {i : Int} {a : Amt} (h : treeOk t = true) (ha : amtOk a = true) (hs : amtOk (amtAdd (sumAll t) a) = true) :
    ∃ (k : Nat) (x : Res), backAt t i = (k : Int) ∧ k < 5 ∧ t[k]? = some x ∧ x.live = true ∧ backT t i a = (t.set k ⟨true, x.par, amtAdd x.bal a⟩, true) ∧ treeOk (t.set k ⟨true, x.par, amtAdd x.bal a⟩) = true ∧
      sumAll (t.set k ⟨true, x.par, amtAdd x.bal a⟩) = amtAdd (sumAll t) a ∧ SameUp t (t.set k ⟨true, x.par, amtAdd x.bal a⟩) ∧ amtOk (amtAdd x.bal a) = true := by
  obtain ⟨h5, hh, hp, _⟩ := tree_parts h
  obtain ⟨k, x, hk0, hk, hx, hlx, hr⟩ := back_get h i
  have he : backT t i a = (t.set k ⟨true, x.par, amtAdd x.bal a⟩, true) := by
    unfold backT
    rw [h, ha, hs, hr, hk0]
    simp
  have hsum : sumAll (t.set k ⟨true, x.par, amtAdd x.bal a⟩) = amtAdd (sumAll t) a := by
    rw [sumAll_set h5 hx]
    unfold amtAdd
    simp only [Amt.mk.injEq]
    omega
  have hb : amtOk (amtAdd x.bal a) = true := by
    have h1 := bal_le h hx
    have h2 := amtOk_iff.1 ((tree_places h).2 k x hx).1
    have h3 := amtOk_iff.1 ha
    have h4 := amtOk_iff.1 hs
    unfold amtAdd at h4 ⊢
    rw [amtOk_iff]
    dsimp only at h4 ⊢
    omega
  exact ⟨k, x, hk0, hk, hx, hlx, he, tree_set h hx hlx hb (by rw [hsum]; exact hs), hsum, SameUp.set hx hlx _, hb⟩
theorem back_no {t : List Res} {i : Int} {a : Amt} (h : ¬ (treeOk t = true ∧ amtOk a = true ∧ amtOk (amtAdd (sumAll t) a) = true)) : backT t i a = (t, false) := by
  unfold backT
  rw [if_neg (by simpa [Bool.and_eq_true] using h)]
theorem pay_len (t : List Res) (i : Int) (a : Amt) : (payT t i a).1.length = t.length := by unfold payT; split <;> simp
theorem back_len (t : List Res) (i : Int) (a : Amt) : (backT t i a).1.length = t.length := by unfold backT; split <;> simp
theorem give_len (t : List Res) (i j : Int) (a : Amt) : (giveT t i j a).1.length = t.length := by unfold giveT; split <;> simp [back_len, pay_len]
theorem pay_sub {t : List Res} {k : Nat} {x : Res} {a : Amt} (h : treeOk t = true) (hl : isLiveB t (k : Int) = true) (hx : t[k]? = some x) (hlx : x.live = true) : payT t (k : Int) a = (t.set k ⟨x.live, x.par, (amtSub x.bal a).1⟩, (amtSub x.bal a).2) := by
  unfold payT amtSub
  rw [h, hl, resAt_get hx, Bool.true_and, Bool.true_and, Int.toNat_natCast, hlx]
  split
  · rfl
  · have : t.set k ⟨true, x.par, x.bal⟩ = t := by
      have e : (⟨true, x.par, x.bal⟩ : Res) = x := by rw [← hlx]
      rw [e]
      obtain ⟨hk, rfl⟩ := List.getElem?_eq_some_iff.1 hx
      exact List.set_getElem_self hk
    rw [this]
theorem Acc.bal {w0 w : World} {E : TypeId} {g c n k : Nat} {t : List Res} {x : Res} {b : Amt} (h : Acc w0 E 5 n (t.flatMap Res.enc) (.slice (some ⟨g, 0, none⟩) n c) w) (hg : w0.heap.size ≤ g) (hx : t[k]? = some x) :
    Acc w0 E 5 n ((t.set k ⟨x.live, x.par, b⟩).flatMap Res.enc) (.slice (some ⟨g, 0, none⟩) n c) (((w.setCell ⟨g, k * 5 + 2, none⟩ (.int .i64 b.p)).setCell ⟨g, k * 5 + 2 + 1, none⟩ (.int .i64 b.r)).setCell ⟨g, k * 5 + 2 + 2, none⟩ (.int .i64 b.c)) := by
  have hk : k < t.length := (List.getElem?_eq_some_iff.1 hx).1
  have h1 := h.setField (x' := ⟨x.live, x.par, ⟨b.p, x.bal.r, x.bal.c⟩⟩) (j := 2) (u := .int .i64 b.p) Res.enc_len hg hx (by decide) rfl
  have h2 := h1.setField (x := ⟨x.live, x.par, ⟨b.p, x.bal.r, x.bal.c⟩⟩) (x' := ⟨x.live, x.par, ⟨b.p, b.r, x.bal.c⟩⟩) (k := k) (j := 2 + 1) (u := .int .i64 b.r) Res.enc_len hg (by rw [List.getElem?_set_self hk]) (by decide) rfl
  have h3 := h2.setField (x := ⟨x.live, x.par, ⟨b.p, b.r, x.bal.c⟩⟩) (x' := ⟨x.live, x.par, b⟩) (k := k) (j := 2 + 2) (u := .int .i64 b.c) Res.enc_len hg (by rw [List.getElem?_set_self (by simpa using hk)]) (by decide) rfl
  rw [List.set_set, List.set_set] at h3
  simpa [Nat.add_assoc] using h3
end Go.Proofs.Ytcahncppkolkbaa
