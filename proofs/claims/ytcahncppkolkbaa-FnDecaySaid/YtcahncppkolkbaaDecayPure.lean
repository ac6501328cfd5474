/- Decay: what a round leaves; plain laws, no program in sight. -/
import Derived.Test.YtcahncppkolkbaaTreeOps
namespace Go.Proofs.Ytcahncppkolkbaa
open Go.RowKit

def decayK (x : Amt) (q p : Int) : Int := (p * amtPart x q + 99) / 100
def decayGo (t0 : List Res) (q p : Int) : Nat → Nat → List Res → Int → List Res × Int
  | 0, _, x, s => (x, s)
  | f + 1, i, x, s =>
    if (resAt t0 (i : Int)).live = true then
      if (giveT x (i : Int) 0 (amtOne q (decayK (resAt t0 (i : Int)).bal q p))).2 = true then decayGo t0 q p f (i + 1) (giveT x (i : Int) 0 (amtOne q (decayK (resAt t0 (i : Int)).bal q p))).1 (s + decayK (resAt t0 (i : Int)).bal q p)
      else decayGo t0 q p f (i + 1) x s
    else decayGo t0 q p f (i + 1) x s
def decayOk (t : List Res) (q p : Int) : Bool := treeOk t && (inB q 0 2 && inB p 0 100)
def decayT (t : List Res) (q p : Int) : List Res × Int := if decayOk t q p = true then decayGo t q p 4 1 t 0 else (t, 0)

structure DInv (t0 : List Res) (q p : Int) (k : Nat) (x : List Res) (s : Int) : Prop where
  ok : treeOk x = true
  sum : sumAll x = sumAll t0
  up : SameUp t0 x
  rest : ∀ i : Nat, k ≤ i → 1 ≤ i → resAt x (i : Int) = resAt t0 (i : Int)
  root : amtPart (resAt x 0).bal q = amtPart (resAt t0 0).bal q + s
  past : ∀ i : Nat, 1 ≤ i → i < k → amtPart (resAt x (i : Int)).bal q = amtPart (resAt t0 (i : Int)).bal q - decayK (resAt t0 (i : Int)).bal q p
  lo : 0 ≤ s
  hi : s ≤ 1000000 * k
  nought : p = 0 → x = t0

theorem resAt_ok {t : List Res} (h : treeOk t = true) (i : Nat) : amtOk (resAt t (i : Int)).bal = true := by
  by_cases hi : i < t.length
  · obtain ⟨x, hx⟩ := some_at hi
    rw [resAt_get hx]
    exact ((tree_places h).2 i x hx).1
  · unfold resAt
    rw [List.getD_eq_getElem?_getD, List.getElem?_eq_none (by simpa using hi)]
    exact amtOk_zero
theorem resAt_dead {t : List Res} (h : treeOk t = true) (i : Nat) (hl : (resAt t (i : Int)).live = false) : resAt t (i : Int) = zeroRes := by
  by_cases hi : i < t.length
  · obtain ⟨x, hx⟩ := some_at hi
    rw [resAt_get hx] at hl ⊢
    exact ((tree_places h).2 i x hx).2 hl
  · unfold resAt
    rw [List.getD_eq_getElem?_getD, List.getElem?_eq_none (by simpa using hi)]
    rfl
theorem decayK_in {x : Amt} {q p : Int} (h : amtOk x = true) (hp : 0 ≤ p ∧ p ≤ 100) : 0 ≤ decayK x q p ∧ decayK x q p ≤ amtPart x q := by
  have hb := amtPart_in (i := q) h
  unfold decayK
  have h1 : p * amtPart x q ≤ 100 * amtPart x q := Int.mul_le_mul_of_nonneg_right hp.2 hb.1
  have h2 : 0 ≤ p * amtPart x q := Int.mul_nonneg hp.1 hb.1
  omega
theorem decayK_zero (q p : Int) : decayK ⟨0, 0, 0⟩ q p = 0 := by unfold decayK; rw [amtPart_zero, Int.mul_zero]; rfl
theorem one_fits {x : Amt} {q n : Int} (h : amtOk x = true) (hq : 0 ≤ q ∧ q ≤ 2) (hn : 0 ≤ n ∧ n ≤ amtPart x q) : amtFits (amtOne q n) x = true ∧ amtOk (amtOne q n) = true := by
  have hx := amtOk_iff.1 h
  unfold amtFits
  rw [h]
  have h3 : q = 0 ∨ q = 1 ∨ q = 2 := by omega
  rcases h3 with rfl | rfl | rfl <;> simp [amtOne, amtPart] at hn ⊢ <;> (rw [amtOk_iff]; dsimp only; omega)
theorem part_dif (x a : Amt) (q : Int) : amtPart (amtDif x a) q = amtPart x q - amtPart a q := by
  unfold amtPart amtDif
  split
  · rfl
  · split
    · rfl
    · split
      · rfl
      · rfl
theorem part_add (x a : Amt) (q : Int) : amtPart (amtAdd x a) q = amtPart x q + amtPart a q := by
  unfold amtPart amtAdd
  split
  · rfl
  · split
    · rfl
    · split
      · rfl
      · rfl
theorem part_one {q n : Int} (hq : 0 ≤ q ∧ q ≤ 2) : amtPart (amtOne q n) q = n := by
  have h3 : q = 0 ∨ q = 1 ∨ q = 2 := by omega
  rcases h3 with rfl | rfl | rfl <;> rfl
theorem dif_add (x a : Amt) : amtAdd (amtDif x a) a = x := by
  obtain ⟨x1, x2, x3⟩ := x
  unfold amtAdd amtDif
  simp only [Amt.mk.injEq]
  omega
theorem one_zero (q : Int) : amtOne q 0 = ⟨0, 0, 0⟩ := by unfold amtOne; split <;> (try rfl); split <;> (try rfl); split <;> rfl
theorem set_same {t : List Res} {k : Nat} {x : Res} (hx : t[k]? = some x) : t.set k x = t := by
  obtain ⟨hk, rfl⟩ := List.getElem?_eq_some_iff.1 hx
  exact List.set_getElem_self hk

/-- A round's step at a place that lives: what is paid comes to the root. -/
theorem give_root {x : List Res} {q n : Int} {k : Nat} (hok : treeOk x = true) (hk : 1 ≤ k) (hk5 : k < 5) (hl : (resAt x (k : Int)).live = true) (hq : 0 ≤ q ∧ q ≤ 2) (hn : 0 ≤ n ∧ n ≤ amtPart (resAt x (k : Int)).bal q) :
    ∃ y z : List Res, payT x (k : Int) (amtOne q n) = (y, true) ∧ backT y 0 (amtOne q n) = (z, true) ∧ giveT x (k : Int) 0 (amtOne q n) = (z, true) ∧ treeOk y = true ∧ treeOk z = true ∧ sumAll z = sumAll x ∧ SameUp x z ∧
      (∀ i : Nat, i ≠ 0 → i ≠ k → resAt z (i : Int) = resAt x (i : Int)) ∧ amtPart (resAt z (k : Int)).bal q = amtPart (resAt x (k : Int)).bal q - n ∧ amtPart (resAt z 0).bal q = amtPart (resAt x 0).bal q + n ∧ (n = 0 → z = x) := by
  have hb := resAt_ok hok k
  obtain ⟨hf, ha⟩ := one_fits hb hq hn
  have hlv : isLiveB x (k : Int) = true := by unfold isLiveB; rw [hl, inB_true.2 (by omega)]; rfl
  obtain ⟨k', r, hkk, _, hr, hrl, hpay, hy, hys, hup⟩ := pay_yes hok hlv hf
  obtain rfl : k = k' := by omega
  have hrr := resAt_get hr
  rw [hrr] at hb hn hf
  obtain ⟨_, hh, _, hso⟩ := tree_parts hok
  obtain ⟨_, x0, hx0, hl0, hp0⟩ := head_get hh
  have hy0 : (x.set k ⟨true, r.par, amtDif r.bal (amtOne q n)⟩)[0]? = some x0 := by rw [List.getElem?_set_ne (by omega)]; exact hx0
  have hlv0 : isLiveB (x.set k ⟨true, r.par, amtDif r.bal (amtOne q n)⟩) 0 = true := by
    unfold isLiveB
    have : resAt (x.set k ⟨true, r.par, amtDif r.bal (amtOne q n)⟩) 0 = x0 := resAt_get (k := 0) hy0
    rw [this, hl0]; rfl
  have hba : backAt (x.set k ⟨true, r.par, amtDif r.bal (amtOne q n)⟩) 0 = 0 := by unfold backAt; rw [if_pos hlv0]
  obtain ⟨j, r0, hj, _, hr0, _, hbk, hz, hzs, hzu, _⟩ := back_yes (i := 0) hy ha (by rw [hys, dif_add]; exact hso)
  obtain rfl : j = 0 := by omega
  rw [hy0] at hr0
  cases hr0
  have hlx0 : isLiveB x 0 = true := by
    unfold isLiveB
    have : resAt x 0 = x0 := resAt_get (k := 0) hx0
    rw [this, hl0]; rfl
  refine ⟨_, _, hpay, hbk, ?_, hy, hz, ?_, hup.trans hzu, ?_, ?_, ?_, ?_⟩
  · unfold giveT
    rw [hpay, hlx0]
    exact hbk
  · rw [hzs, hys, dif_add]
  · intro i hi0 hik
    rw [resAt_set hy0, if_neg (by simpa using hi0), resAt_set hr, if_neg (by simpa using hik)]
  · rw [resAt_set hy0, if_neg (by simp; omega), resAt_set hr, if_pos (by simp), hrr]
    rw [part_dif, part_one hq]
  · rw [resAt_set hy0, if_pos (show Int.toNat 0 = 0 from rfl)]
    have : resAt x 0 = x0 := resAt_get (k := 0) hx0
    rw [this, part_add, part_one hq]
  · intro h0
    subst h0
    rw [one_zero]
    have e1 : amtDif r.bal ⟨0, 0, 0⟩ = r.bal := by cases r.bal; simp [amtDif]
    have e2 : amtAdd x0.bal ⟨0, 0, 0⟩ = x0.bal := by cases x0.bal; simp [amtAdd]
    rw [e1, e2]
    have e3 : (⟨true, r.par, r.bal⟩ : Res) = r := by rw [← hrl]
    have e4 : (⟨true, x0.par, x0.bal⟩ : Res) = x0 := by rw [← hl0]
    rw [e3, e4, set_same hr, set_same hx0]
theorem DInv.start {t : List Res} {q p : Int} (h : treeOk t = true) : DInv t q p 1 t 0 :=
  ⟨h, rfl, SameUp.refl t, fun _ _ _ => rfl, by omega, fun i h1 h2 => by omega, Int.le_refl _, by omega, fun _ => rfl⟩
theorem DInv.dead {t0 x : List Res} {q p s : Int} {k : Nat} (h : DInv t0 q p k x s) (h0 : treeOk t0 = true) (hk : 1 ≤ k) (hl : (resAt t0 (k : Int)).live = false) : DInv t0 q p (k + 1) x s := by
  refine ⟨h.ok, h.sum, h.up, fun i h1 h2 => h.rest i (by omega) h2, h.root, fun i h1 h2 => ?_, h.lo, by have := h.hi; omega, h.nought⟩
  by_cases e : i = k
  · subst e
    rw [h.rest i (Nat.le_refl _) h1, resAt_dead h0 i hl]
    unfold zeroRes
    rw [decayK_zero, amtPart_zero]; rfl
  · exact h.past i h1 (by omega)
theorem DInv.step {t0 x : List Res} {q p s : Int} {k : Nat} (h : DInv t0 q p k x s) (h0 : treeOk t0 = true) (hq : 0 ≤ q ∧ q ≤ 2) (hp : 0 ≤ p ∧ p ≤ 100) (hk : 1 ≤ k) (hk5 : k < 5) (hl : (resAt t0 (k : Int)).live = true) :
    ∃ y z : List Res, payT x (k : Int) (amtOne q (decayK (resAt t0 (k : Int)).bal q p)) = (y, true) ∧ backT y 0 (amtOne q (decayK (resAt t0 (k : Int)).bal q p)) = (z, true) ∧ giveT x (k : Int) 0 (amtOne q (decayK (resAt t0 (k : Int)).bal q p)) = (z, true) ∧
      DInv t0 q p (k + 1) z (s + decayK (resAt t0 (k : Int)).bal q p) := by
  have hr := h.rest k (Nat.le_refl _) hk
  have hb := resAt_ok h0 k
  have hn := decayK_in (q := q) hb hp
  have hpb := amtPart_in (i := q) hb
  obtain ⟨y, z, h1, h2, h3, h4, h5, h6, h7, h8, h9, h10, h11⟩ := give_root (q := q) (n := decayK (resAt t0 (k : Int)).bal q p) h.ok hk hk5 (by rw [hr]; exact hl) hq (by rw [hr]; exact hn)
  refine ⟨y, z, h1, h2, h3, h5, h6.trans h.sum, h.up.trans h7, fun i h1 h2 => ?_, ?_, fun i h1 h2 => ?_, ?_, ?_, fun hp0 => ?_⟩
  · rw [h8 i (by omega) (by omega)]; exact h.rest i (by omega) h2
  · rw [h10, h.root]; omega
  · by_cases e : i = k
    · subst e; rw [h9, hr]
    · rw [h8 i (by omega) e]; exact h.past i h1 (by omega)
  · have := h.lo; omega
  · have := h.hi; omega
  · have hz0 : decayK (resAt t0 (k : Int)).bal q p = 0 := by unfold decayK; rw [hp0, Int.zero_mul]; rfl
    rw [h11 hz0]; exact h.nought hp0
theorem decayGo_live {t0 x z : List Res} {q p s : Int} {k f : Nat} (hl : (resAt t0 (k : Int)).live = true) (hg : giveT x (k : Int) 0 (amtOne q (decayK (resAt t0 (k : Int)).bal q p)) = (z, true)) :
    decayGo t0 q p (f + 1) k x s = decayGo t0 q p f (k + 1) z (s + decayK (resAt t0 (k : Int)).bal q p) := by
  rw [decayGo, if_pos hl, hg, if_pos rfl]
theorem decayGo_dead {t0 x : List Res} {q p s : Int} {k f : Nat} (hl : (resAt t0 (k : Int)).live = false) : decayGo t0 q p (f + 1) k x s = decayGo t0 q p f (k + 1) x s := by
  rw [decayGo, if_neg (by simp [hl])]
theorem decay_inv {t : List Res} {q p : Int} (h : decayOk t q p = true) : DInv t q p 5 (decayT t q p).1 (decayT t q p).2 := by
  have h0 := h
  unfold decayOk at h0
  simp only [Bool.and_eq_true, inB_true] at h0
  obtain ⟨ht, hq, hp⟩ := h0
  have go : ∀ (f k : Nat) (x : List Res) (s : Int), f + k = 5 → 1 ≤ k → DInv t q p k x s → DInv t q p 5 (decayGo t q p f k x s).1 (decayGo t q p f k x s).2 := by
    intro f
    induction f with
    | zero => intro k x s hk _ hi; obtain rfl : k = 5 := by omega
              exact hi
    | succ f ih =>
      intro k x s hk h1 hi
      cases hl : (resAt t (k : Int)).live
      · rw [decayGo_dead hl]
        exact ih _ _ _ (by omega) (by omega) (hi.dead ht h1 hl)
      · obtain ⟨y, z, _, _, h3, h4⟩ := hi.step ht hq hp h1 (by omega) hl
        rw [decayGo_live hl h3]
        exact ih _ _ _ (by omega) (by omega) h4
  unfold decayT
  rw [if_pos h]
  exact go 4 1 t 0 rfl (Nat.le_refl _) (DInv.start ht)
theorem decay_len {t : List Res} (q p : Int) : (decayT t q p).1.length = t.length := by
  cases h : decayOk t q p
  · unfold decayT; rw [if_neg (by simp [h])]
  · have h1 := (tree_parts (decay_inv h).ok).1
    unfold decayOk at h
    rw [Bool.and_eq_true] at h
    rw [h1, (tree_parts h.1).1]
def roundsT (q p : Int) : Nat → List Res → List Res
  | 0, t => t
  | f + 1, t => roundsT q p f (decayT t q p).1
theorem rounds_len (q p : Int) : ∀ (f : Nat) (t : List Res), (roundsT q p f t).length = t.length
  | 0, _ => rfl
  | f + 1, t => by rw [roundsT, rounds_len q p f, decay_len]
end Go.Proofs.Ytcahncppkolkbaa
