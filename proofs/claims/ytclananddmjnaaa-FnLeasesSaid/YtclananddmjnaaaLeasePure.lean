/- Leases: plain laws. No moment needs more than the peak; the first short moment; cost is pages by time. -/
import Derived.Test.YtclananddmjnaaaLease6
import Derived.Test.YtclananddmjnaaaLease4
namespace Go.Proofs.Ytclananddmjnaaa
open Go.RowKit

def onAt (t : Int) (x : Lease) : Prop := x.f ≤ t ∧ t < x.u
instance (t : Int) (x : Lease) : Decidable (onAt t x) := by unfold onAt; infer_instance
def pgs (t : Int) : List Lease → Int
  | [] => 0
  | x :: l => (if onAt t x then x.p else 0) + pgs t l
theorem pgs_fold (t : Int) : ∀ (l : List Lease) (a : Int), l.foldl (pagesStep t) a = a + pgs t l
  | [], a => by simp [pgs]
  | x :: l, a => by
    rw [List.foldl_cons, pgs_fold t l, pgs]
    unfold pagesStep onAt
    split <;> omega
theorem pagesAt_pgs {l : List Lease} (h : leasesOk l = true) (t : Int) : pagesAt l t = pgs t l := by
  rw [pagesAt, if_pos h, pgs_fold]; omega
theorem ok_mem {l : List Lease} (h : leasesOk l = true) : ∀ x ∈ l, 0 ≤ x.p ∧ x.p ≤ 1000 ∧ 0 ≤ x.f ∧ x.f ≤ x.u ∧ x.u ≤ 1000000 := by
  intro x hx
  obtain ⟨k, hk⟩ := List.getElem?_of_mem hx
  exact (lease_bounds h).2 k x hk
theorem pgs_mono {s t : Int} : ∀ {l : List Lease}, (∀ x ∈ l, 0 ≤ x.p) → (∀ x ∈ l, onAt t x → onAt s x) → pgs t l ≤ pgs s l
  | [], _, _ => Int.le_refl _
  | x :: l, hp, h => by
    have ih := pgs_mono (l := l) (fun y hy => hp y (by simp [hy])) (fun y hy => h y (by simp [hy]))
    have h1 := h x (by simp)
    have h2 := hp x (by simp)
    rw [pgs, pgs]
    by_cases c1 : onAt t x
    · rw [if_pos c1, if_pos (h1 c1)]; omega
    · rw [if_neg c1]
      split <;> omega
theorem pgs_none {t : Int} : ∀ {l : List Lease}, (∀ x ∈ l, ¬ onAt t x) → pgs t l = 0
  | [], _ => rfl
  | x :: l, h => by rw [pgs, if_neg (h x (by simp)), pgs_none (l := l) (fun y hy => h y (by simp [hy]))]; rfl
theorem pgs_bound {t : Int} : ∀ {l : List Lease}, (∀ x ∈ l, 0 ≤ x.p ∧ x.p ≤ 1000) → 0 ≤ pgs t l ∧ pgs t l ≤ 1000 * l.length
  | [], _ => by simp [pgs]
  | x :: l, h => by
    have ih := pgs_bound (t := t) (l := l) (fun y hy => h y (by simp [hy]))
    have h1 := h x (by simp)
    rw [pgs, List.length_cons]
    split <;> omega
theorem last_on (t : Int) : ∀ l : List Lease, (∀ x ∈ l, ¬ onAt t x) ∨ ∃ x ∈ l, onAt t x ∧ ∀ y ∈ l, onAt t y → y.f ≤ x.f
  | [] => .inl (by simp)
  | z :: l => by
    rcases last_on t l with h | ⟨x, hx, h1, h2⟩
    · by_cases c : onAt t z
      · refine .inr ⟨z, by simp, c, fun y hy hy' => ?_⟩
        simp at hy
        rcases hy with rfl | hy
        · exact Int.le_refl _
        · exact absurd hy' (h y hy)
      · refine .inl fun y hy => ?_
        simp at hy
        rcases hy with rfl | hy
        · exact c
        · exact h y hy
    · by_cases c : onAt t z ∧ x.f < z.f
      · refine .inr ⟨z, by simp, c.1, fun y hy hy' => ?_⟩
        simp at hy
        rcases hy with rfl | hy
        · exact Int.le_refl _
        · have := h2 y hy hy'; omega
      · refine .inr ⟨x, by simp [hx], h1, fun y hy hy' => ?_⟩
        simp at hy
        rcases hy with rfl | hy
        · by_cases c2 : x.f < y.f
          · exact absurd ⟨hy', c2⟩ c
          · omega
        · exact h2 y hy hy'
theorem top_start {l : List Lease} (h : leasesOk l = true) (t : Int) : pagesAt l t = 0 ∨ ∃ x ∈ l, x.f ≤ t ∧ pagesAt l t ≤ pagesAt l x.f := by
  rw [pagesAt_pgs h]
  have hm := ok_mem h
  rcases last_on t l with h1 | ⟨x, hx, h1, h2⟩
  · exact .inl (pgs_none h1)
  · refine .inr ⟨x, hx, h1.1, ?_⟩
    rw [pagesAt_pgs h]
    exact pgs_mono (fun y hy => (hm y hy).1) (fun y hy hy' => ⟨h2 y hy hy', by have := hy'.2; have := h1.1; omega⟩)
theorem pagesAt_bound {l : List Lease} (h : leasesOk l = true) (t : Int) : 0 ≤ pagesAt l t ∧ pagesAt l t ≤ 20000 := by
  rw [pagesAt_pgs h]
  have := pgs_bound (t := t) (l := l) (fun x hx => ⟨(ok_mem h x hx).1, (ok_mem h x hx).2.1⟩)
  have := (lease_bounds h).1
  omega

theorem peak_ge (l : List Lease) : ∀ (m : List Lease) (s : Int × Int), s.2 ≤ (m.foldl (peakStep l) s).2 ∧ ∀ x ∈ m, pagesAt l x.f ≤ (m.foldl (peakStep l) s).2
  | [], s => ⟨Int.le_refl _, by simp⟩
  | z :: m, s => by
    have ih := peak_ge l m (peakStep l s z)
    have h1 : s.2 ≤ (peakStep l s z).2 ∧ pagesAt l z.f ≤ (peakStep l s z).2 := by
      unfold peakStep
      split
      · rename_i h; simp; omega
      · rename_i h; omega
    rw [List.foldl_cons]
    refine ⟨by omega, fun x hx => ?_⟩
    simp at hx
    rcases hx with rfl | hx
    · omega
    · exact ih.2 x hx
theorem peak_is (l : List Lease) : ∀ (m : List Lease) (s : Int × Int), (pagesAt l s.1 = s.2 ∨ s = (0, 0)) → (pagesAt l (m.foldl (peakStep l) s).1 = (m.foldl (peakStep l) s).2 ∨ m.foldl (peakStep l) s = (0, 0))
  | [], _, h => h
  | z :: m, s, h => by
    rw [List.foldl_cons]
    apply peak_is l m
    unfold peakStep
    split
    · exact .inl rfl
    · exact h
theorem peak_top {l : List Lease} (h : leasesOk l = true) (t : Int) : pagesAt l t ≤ (peak l).2 := by
  have h1 := peak_ge l l (0, 0)
  rcases top_start h t with h0 | ⟨x, hx, _, hle⟩
  · rw [h0]; exact h1.1
  · exact Int.le_trans hle (h1.2 x hx)
theorem peak_eq {l : List Lease} (h : leasesOk l = true) : pagesAt l (peak l).1 = (peak l).2 := by
  rcases peak_is l l (0, 0) (.inr rfl) with h1 | h1
  · exact h1
  · have h2 := peak_top h 0
    have h3 := (pagesAt_bound h 0).1
    have e : peak l = (0, 0) := h1
    rw [e] at h2 ⊢
    simp at h2 ⊢
    omega
theorem peak_bound {l : List Lease} (h : leasesOk l = true) : 0 ≤ (peak l).2 ∧ (peak l).2 ≤ 20000 := by
  rw [← peak_eq h]; exact pagesAt_bound h _

theorem short_inv (l : List Lease) (k : Int) : ∀ (m : List Lease) (a : Int), (∀ x ∈ m, 0 ≤ x.f) → (a < 0 ∨ k < pagesAt l a) →
    (m.foldl (shortStep l k) a < 0 ∨ k < pagesAt l (m.foldl (shortStep l k) a)) ∧ (0 ≤ a → 0 ≤ m.foldl (shortStep l k) a ∧ m.foldl (shortStep l k) a ≤ a) ∧
    ∀ x ∈ m, k < pagesAt l x.f → 0 ≤ m.foldl (shortStep l k) a ∧ m.foldl (shortStep l k) a ≤ x.f
  | [], a, _, h => ⟨h, fun h0 => ⟨h0, Int.le_refl _⟩, by simp⟩
  | z :: m, a, hf, h => by
    have hz := hf z (by simp)
    rw [List.foldl_cons]
    by_cases c : k < pagesAt l z.f ∧ (a < 0 ∨ z.f < a)
    · have e : shortStep l k a z = z.f := by rw [shortStep, if_pos c]
      rw [e]
      obtain ⟨i1, i2, i3⟩ := short_inv l k m z.f (fun y hy => hf y (by simp [hy])) (.inr c.1)
      have i2' := i2 hz
      refine ⟨i1, fun h0 => ⟨i2'.1, by omega⟩, fun x hx hk => ?_⟩
      simp at hx
      rcases hx with rfl | hx
      · exact i2'
      · exact i3 x hx hk
    · have e : shortStep l k a z = a := by rw [shortStep, if_neg c]
      rw [e]
      obtain ⟨i1, i2, i3⟩ := short_inv l k m a (fun y hy => hf y (by simp [hy])) h
      refine ⟨i1, i2, fun x hx hk => ?_⟩
      simp at hx
      rcases hx with rfl | hx
      · have h0 : 0 ≤ a := by omega
        have := i2 h0
        omega
      · exact i3 x hx hk
theorem short_facts {l : List Lease} (h : leasesOk l = true) {k : Int} (hk : 0 ≤ k) :
    (firstShort l k < 0 ↔ (peak l).2 ≤ k) ∧ (0 ≤ firstShort l k → k < pagesAt l (firstShort l k)) ∧ (∀ i, i < firstShort l k → 0 ≤ firstShort l k → pagesAt l i ≤ k) := by
  have hm := ok_mem h
  have hs : firstShort l k = l.foldl (shortStep l k) (-1) := by rw [firstShort, if_pos h]
  obtain ⟨i1, _, i3⟩ := short_inv l k l (-1) (fun x hx => (hm x hx).2.2.1) (.inl (by decide))
  rw [← hs] at i1 i3
  refine ⟨⟨fun h0 => ?_, fun h0 => ?_⟩, fun h0 => by omega, fun i hi h0 => ?_⟩
  · rw [← peak_eq h]
    rcases top_start h (peak l).1 with h1 | ⟨x, hx, _, hle⟩
    · omega
    · by_cases c : k < pagesAt l x.f
      · have := i3 x hx c; omega
      · omega
  · by_cases c : firstShort l k < 0
    · exact c
    · have := peak_top h (firstShort l k); omega
  · rcases top_start h i with h1 | ⟨x, hx, hf, hle⟩
    · omega
    · by_cases c : k < pagesAt l i
      · have := i3 x hx (by omega); omega
      · omega

/-- The sum of the first moments. -/
def sumAt (l : List Lease) : Nat → Int
  | 0 => 0
  | n + 1 => sumAt l n + pgs (n : Int) l
def oneAt (x : Lease) : Nat → Int
  | 0 => 0
  | n + 1 => oneAt x n + (if onAt (n : Int) x then x.p else 0)
theorem sumAt_cons (x : Lease) (l : List Lease) : ∀ n, sumAt (x :: l) n = oneAt x n + sumAt l n
  | 0 => rfl
  | n + 1 => by rw [sumAt, sumAt_cons x l n, oneAt, sumAt, pgs]; omega
theorem sumAt_nil : ∀ n, sumAt [] n = 0
  | 0 => rfl
  | n + 1 => by rw [sumAt, sumAt_nil n]; rfl
theorem oneAt_eq (x : Lease) (h0 : 0 ≤ x.f) (h1 : x.f ≤ x.u) : ∀ n : Nat, oneAt x n = x.p * (max 0 (min (n : Int) x.u - x.f))
  | 0 => by
    rw [oneAt, show max 0 (min ((0 : Nat) : Int) x.u - x.f) = 0 from by omega]; omega
  | n + 1 => by
    rw [oneAt, oneAt_eq x h0 h1 n]
    by_cases c : onAt (n : Int) x
    · rw [if_pos c]
      obtain ⟨c1, c2⟩ := c
      rw [show max 0 (min ((n + 1 : Nat) : Int) x.u - x.f) = max 0 (min (n : Int) x.u - x.f) + 1 from by omega, Int.mul_add]
      omega
    · rw [if_neg c]
      unfold onAt at c
      rw [show max 0 (min ((n + 1 : Nat) : Int) x.u - x.f) = max 0 (min (n : Int) x.u - x.f) from by omega]
      omega
def costs : List Lease → Int
  | [] => 0
  | x :: l => x.p * (x.u - x.f) + costs l
theorem costs_fold : ∀ (l : List Lease) (a : Int), l.foldl costStep a = a + costs l
  | [], a => by simp [costs]
  | x :: l, a => by rw [List.foldl_cons, costs_fold l, costs, costStep]; omega
theorem sum_costs : ∀ {l : List Lease}, (∀ x ∈ l, 0 ≤ x.f ∧ x.f ≤ x.u ∧ x.u < 60) → sumAt l 60 = costs l
  | [], _ => sumAt_nil _
  | x :: l, h => by
    have hx := h x (by simp)
    rw [sumAt_cons, sum_costs (l := l) (fun y hy => h y (by simp [hy])), costs, oneAt_eq x hx.1 hx.2.1]
    rw [show max 0 (min ((60 : Nat) : Int) x.u - x.f) = x.u - x.f from by omega]
theorem sum_cost {l : List Lease} (h : leasesOk l = true) (hs : ∀ x ∈ l, x.u < 60) : sumAt l 60 = leaseCost l := by
  have hm := ok_mem h
  rw [leaseCost, if_pos h, costs_fold, sum_costs (fun x hx => ⟨(hm x hx).2.2.1, (hm x hx).2.2.2.1, hs x hx⟩)]
  omega
end Go.Proofs.Ytclananddmjnaaa
