/- Trees of reserves: what TreeOk says on both sides; sums; plain laws. -/
import Derived.Test.YtabbncoihmhocaaResTo
namespace Go.Proofs.Ytabbncoihmhocaa
open Go.RowKit

def okN (n : Int) : Bool := inB n 0 1000000
def amtOk (a : Amt) : Bool := okN a.p && (okN a.r && okN a.c)
def amtAdd (a b : Amt) : Amt := ⟨a.p + b.p, a.r + b.r, a.c + b.c⟩
def zeroRes : Res := ⟨false, 0, ⟨0, 0, 0⟩⟩
def resAt (t : List Res) (i : Int) : Res := t.getD i.toNat zeroRes
def isLiveB (t : List Res) (i : Int) : Bool := inB i 0 4 && (resAt t i).live
def leadsUpB (t : List Res) : Nat → Int → Bool
  | 0, _ => false
  | f + 1, i => if i = 0 then true else if isLiveB t i = true then leadsUpB t f (resAt t i).par else false
def walkUp (t : List Res) : Nat → Int → Int
  | 0, i => i
  | f + 1, i => if 0 < i then walkUp t f (resAt t i).par else i
def sumAll (l : List Res) : Amt := l.foldl (fun s r => amtAdd s r.bal) ⟨0, 0, 0⟩
def sumLive (l : List Res) : Amt := l.foldl (fun s r => if r.live then amtAdd s r.bal else s) ⟨0, 0, 0⟩
def treeHead (t : List Res) : Bool := decide (t.length = 5) && ((t.headD zeroRes).live && decide ((t.headD zeroRes).par = -1))
def idxAll {α : Type} (f : Nat → α → Bool) : Nat → List α → Bool
  | _, [] => true
  | i, x :: l => f i x && idxAll f (i + 1) l
/-- As the program looks at a place. -/
def placeI (t : List Res) (i : Nat) (r : Res) : Bool := if r.live then amtOk r.bal && leadsUpB t 5 (i : Int) else decide (r = zeroRes)
def treeOk (t : List Res) : Bool := treeHead t && (idxAll (placeI t) 0 t && amtOk (sumLive t))
/-- As the reference looks at it. -/
def placeS1 (t : List Res) (i : Nat) (r : Res) : Bool := (r.live || decide (r = zeroRes)) && (amtOk r.bal && (!(decide (0 < i) && r.live) || (inB r.par 0 4 && (!decide (r.par = (i : Int)) && (resAt t r.par).live))))
def placeS2 (t : List Res) (i : Nat) (r : Res) : Bool := !r.live || decide (walkUp t 5 (i : Int) = 0)
def treeOkS (t : List Res) : Bool := treeHead t && (idxAll (placeS1 t) 0 t && (idxAll (placeS2 t) 0 t && amtOk (sumLive t)))

theorem idxAll_iff {α : Type} {f : Nat → α → Bool} : ∀ {l : List α} {i : Nat}, idxAll f i l = true ↔ ∀ k x, l[k]? = some x → f (i + k) x = true
  | [], i => by simp [idxAll]
  | y :: l, i => by
    rw [idxAll, Bool.and_eq_true, idxAll_iff (l := l)]
    constructor
    · rintro ⟨h1, h2⟩ k x hx
      cases k with
      | zero => simp at hx; subst hx; exact h1
      | succ k =>
        have := h2 k x (by simpa using hx)
        rwa [show i + (k + 1) = i + 1 + k from by omega]
    · intro h
      refine ⟨h 0 y rfl, fun k x hx => ?_⟩
      have := h (k + 1) x (by simpa using hx)
      rwa [show i + (k + 1) = i + 1 + k from by omega] at this
theorem idxAll_bad {α : Type} {f : Nat → α → Bool} {l : List α} {k : Nat} {x : α} (hx : l[k]? = some x) (hb : f k x = false) : idxAll f 0 l = false := by
  rw [← Bool.not_eq_true]
  intro h
  have := idxAll_iff.1 h k x hx
  rw [Nat.zero_add, hb] at this
  cases this
theorem idxAll_end {α : Type} {f : Nat → α → Bool} {l : List α} (h : ∀ j : Nat, j < l.length → ∀ x, l[j]? = some x → f j x = true) : idxAll f 0 l = true :=
  idxAll_iff.2 fun k x hx => by rw [Nat.zero_add]; exact h k (List.getElem?_eq_some_iff.1 hx).1 x hx
/-- All before k are good. -/
def AllTo {α : Type} (f : Nat → α → Bool) (l : List α) (k : Nat) : Prop := ∀ j : Nat, j < k → ∀ x, l[j]? = some x → f j x = true
theorem AllTo.zero {α : Type} (f : Nat → α → Bool) (l : List α) : AllTo f l 0 := fun j hj => absurd hj (Nat.not_lt_zero j)
theorem AllTo.next {α : Type} {f : Nat → α → Bool} {l : List α} {k : Nat} {x : α} (h : AllTo f l k) (hx : l[k]? = some x) (hf : f k x = true) : AllTo f l (k + 1) := by
  intro j hj y hy
  by_cases e : j = k
  · subst e
    rw [hx] at hy
    cases hy
    exact hf
  · exact h j (by omega) y hy
theorem AllTo.all {α : Type} {f : Nat → α → Bool} {l : List α} {k : Nat} (h : AllTo f l k) (hk : l.length ≤ k) : idxAll f 0 l = true := idxAll_end fun j hj => h j (by omega)

theorem resAt_get {t : List Res} {k : Nat} {x : Res} (hx : t[k]? = some x) : resAt t (k : Int) = x := by
  rw [resAt, Int.toNat_natCast, List.getD_eq_getElem?_getD, hx]; rfl
theorem head_get {t : List Res} (h : treeHead t = true) : t.length = 5 ∧ ∃ x, t[0]? = some x ∧ x.live = true ∧ x.par = -1 := by
  unfold treeHead at h
  simp only [Bool.and_eq_true, decide_eq_true_eq] at h
  obtain ⟨h1, h2, h3⟩ := h
  cases t with
  | nil => simp at h1
  | cons x t => exact ⟨h1, x, rfl, by simpa using h2, by simpa using h3⟩

theorem leads_walk {t : List Res} : ∀ (f : Nat) (i : Int), 0 ≤ i → leadsUpB t f i = true → walkUp t f i = 0
  | 0, _, _, h => by simp [leadsUpB] at h
  | f + 1, i, h0, h => by
    rw [leadsUpB] at h
    rw [walkUp]
    by_cases hi : i = 0
    · rw [if_neg (by omega)]; exact hi
    · rw [if_neg hi] at h
      rw [if_pos (by omega)]
      by_cases hl : isLiveB t i = true
      · rw [if_pos hl] at h
        refine leads_walk f _ ?_ h
        cases f with
        | zero => simp [leadsUpB] at h
        | succ f =>
          rw [leadsUpB] at h
          by_cases h1 : (resAt t i).par = 0
          · omega
          · rw [if_neg h1] at h
            by_cases h2 : isLiveB t (resAt t i).par = true
            · unfold isLiveB at h2
              rw [Bool.and_eq_true, inB_true] at h2
              omega
            · rw [if_neg h2] at h; cases h
      · rw [if_neg hl] at h; cases h
theorem leads_self {t : List Res} {i : Int} (hi : i ≠ 0) (hp : (resAt t i).par = i) : ∀ f, leadsUpB t f i = false
  | 0 => rfl
  | f + 1 => by
    rw [leadsUpB, if_neg hi]
    split
    · rw [hp]; exact leads_self hi hp f
    · rfl

/-- The walk over five places: whoever comes to 0 in five steps comes there in four. -/
def stepF (p1 p2 p3 p4 : Fin 5) (i : Fin 5) : Fin 5 := if i = 1 then p1 else if i = 2 then p2 else if i = 3 then p3 else p4
def walkF (p1 p2 p3 p4 : Fin 5) : Nat → Fin 5 → Fin 5
  | 0, i => i
  | f + 1, i => if i = 0 then i else walkF p1 p2 p3 p4 f (stepF p1 p2 p3 p4 i)
def leadsF (p1 p2 p3 p4 : Fin 5) : Nat → Fin 5 → Bool
  | 0, _ => false
  | f + 1, i => if i = 0 then true else leadsF p1 p2 p3 p4 f (stepF p1 p2 p3 p4 i)
theorem walkF_leads : ∀ p1 p2 p3 p4 i : Fin 5, walkF p1 p2 p3 p4 5 i = 0 → leadsF p1 p2 p3 p4 5 i = true := by decide +kernel

def fin5 (n : Int) : Fin 5 := ⟨n.toNat % 5, Nat.mod_lt _ (by decide)⟩
theorem fin5_val {n : Int} (h0 : 0 ≤ n) (h4 : n ≤ 4) : ((fin5 n).val : Int) = n := by
  show ((n.toNat % 5 : Nat) : Int) = n
  omega
/-- Who lives has a place that lives above. -/
def UpOk (t : List Res) : Prop := ∀ i : Int, 1 ≤ i → i ≤ 4 → (resAt t i).live = true → 0 ≤ (resAt t i).par ∧ (resAt t i).par ≤ 4 ∧ (resAt t (resAt t i).par).live = true
theorem step_fin {t : List Res} {i : Fin 5} (hi : i ≠ 0) : stepF (fin5 (resAt t 1).par) (fin5 (resAt t 2).par) (fin5 (resAt t 3).par) (fin5 (resAt t 4).par) i = fin5 (resAt t (i.val : Int)).par := by
  have h : i = 1 ∨ i = 2 ∨ i = 3 ∨ i = 4 := by
    rcases i with ⟨v, hv⟩
    match v, hv with
    | 0, _ => exact absurd rfl hi
    | 1, _ => exact .inl rfl
    | 2, _ => exact .inr (.inl rfl)
    | 3, _ => exact .inr (.inr (.inl rfl))
    | 4, _ => exact .inr (.inr (.inr rfl))
  rcases h with rfl | rfl | rfl | rfl <;> rfl
theorem walk_fin {t : List Res} (h : UpOk t) : ∀ (f : Nat) (i : Fin 5), (resAt t (i.val : Int)).live = true → walkUp t f (i.val : Int) = ((walkF (fin5 (resAt t 1).par) (fin5 (resAt t 2).par) (fin5 (resAt t 3).par) (fin5 (resAt t 4).par) f i).val : Int)
  | 0, _, _ => rfl
  | f + 1, i, hl => by
    rw [walkUp, walkF]
    by_cases hi : i = 0
    · subst hi; rfl
    · have hv : 1 ≤ (i.val : Int) ∧ (i.val : Int) ≤ 4 := by
        have := i.isLt
        have h0 : i.val ≠ 0 := fun e => hi (Fin.ext e)
        omega
      obtain ⟨u1, u2, u3⟩ := h _ hv.1 hv.2 hl
      rw [if_pos (by omega), if_neg hi, step_fin hi, ← walk_fin h f _ (by rw [fin5_val u1 u2]; exact u3), fin5_val u1 u2]
theorem leads_fin {t : List Res} (h : UpOk t) : ∀ (f : Nat) (i : Fin 5), (resAt t (i.val : Int)).live = true → leadsUpB t f (i.val : Int) = leadsF (fin5 (resAt t 1).par) (fin5 (resAt t 2).par) (fin5 (resAt t 3).par) (fin5 (resAt t 4).par) f i
  | 0, _, _ => rfl
  | f + 1, i, hl => by
    rw [leadsUpB, leadsF]
    by_cases hi : i = 0
    · subst hi; rfl
    · have hv : 1 ≤ (i.val : Int) ∧ (i.val : Int) ≤ 4 := by
        have := i.isLt
        have h0 : i.val ≠ 0 := fun e => hi (Fin.ext e)
        omega
      obtain ⟨u1, u2, u3⟩ := h _ hv.1 hv.2 hl
      have hL : isLiveB t (i.val : Int) = true := by
        unfold isLiveB
        rw [hl, inB_true.2 (by omega)]; rfl
      rw [if_neg (by omega), if_pos hL, if_neg hi, step_fin hi, ← leads_fin h f _ (by rw [fin5_val u1 u2]; exact u3), fin5_val u1 u2]

theorem amtOk_zero : amtOk ⟨0, 0, 0⟩ = true := by decide
theorem places_eq {t : List Res} (hh : treeHead t = true) : (idxAll (placeS1 t) 0 t && idxAll (placeS2 t) 0 t) = idxAll (placeI t) 0 t := by
  obtain ⟨hlen, x0, hx0, hl0, hp0⟩ := head_get hh
  rw [Bool.eq_iff_iff, Bool.and_eq_true, idxAll_iff, idxAll_iff, idxAll_iff]
  have hr0 : resAt t 0 = x0 := resAt_get (k := 0) hx0
  constructor
  · rintro ⟨h1, h2⟩
    have hup : UpOk t := by
      intro i hi1 hi4 hl
      obtain ⟨k, rfl⟩ := Int.eq_ofNat_of_zero_le (show 0 ≤ i by omega)
      obtain ⟨x, hx⟩ := some_at (l := t) (k := k) (by omega)
      rw [resAt_get hx] at hl ⊢
      have := h1 k x hx
      simp only [placeS1, Nat.zero_add, Bool.and_eq_true, Bool.or_eq_true, Bool.not_eq_true', Bool.and_eq_false_iff, decide_eq_false_iff_not, hl, inB_true] at this
      obtain ⟨_, _, h3⟩ := this
      rcases h3 with h3 | h3
      · rcases h3 with h3 | h3
        · omega
        · cases h3
      · exact ⟨h3.1.1, h3.1.2, h3.2.2⟩
    intro k x hx
    have h1' := h1 k x hx
    have h2' := h2 k x hx
    rw [Nat.zero_add] at h1' h2' ⊢
    unfold placeI
    cases hl : x.live
    · simp only [placeS1, hl, Bool.false_or, Bool.and_eq_true] at h1'
      simpa using h1'.1
    · simp only [placeS1, Bool.and_eq_true] at h1'
      simp only [placeS2, hl, Bool.not_true, Bool.false_or, decide_eq_true_eq] at h2'
      rw [if_pos rfl, h1'.2.1, Bool.true_and]
      have hk : k < 5 := by have := (List.getElem?_eq_some_iff.1 hx).1; omega
      have hlv : (resAt t ((⟨k, hk⟩ : Fin 5).val : Int)).live = true := by show (resAt t (k : Int)).live = true; rw [resAt_get hx]; exact hl
      have e1 := walk_fin hup 5 ⟨k, hk⟩ hlv
      have e2 := leads_fin hup 5 ⟨k, hk⟩ hlv
      change walkUp t 5 (k : Int) = _ at e1
      change leadsUpB t 5 (k : Int) = _ at e2
      rw [e2]
      apply walkF_leads
      rw [h2'] at e1
      apply Fin.ext
      have : ((walkF (fin5 (resAt t 1).par) (fin5 (resAt t 2).par) (fin5 (resAt t 3).par) (fin5 (resAt t 4).par) 5 ⟨k, hk⟩).val : Int) = 0 := e1.symm
      exact Int.ofNat_eq_zero.1 this
  · intro h
    refine ⟨fun k x hx => ?_, fun k x hx => ?_⟩
    all_goals
      have h1 := h k x hx
      rw [Nat.zero_add] at h1 ⊢
      unfold placeI at h1
      cases hl : x.live
    · rw [hl] at h1
      simp only [Bool.false_eq_true, if_false, decide_eq_true_eq] at h1
      subst h1
      simp [placeS1, zeroRes, amtOk_zero]
    · rw [hl, if_pos rfl, Bool.and_eq_true] at h1
      obtain ⟨ha, hld⟩ := h1
      unfold placeS1
      rw [hl, ha]
      by_cases hk0 : 0 < k
      · rw [leadsUpB, if_neg (by omega)] at hld
        have hL : isLiveB t (k : Int) = true := by
          by_cases c : isLiveB t (k : Int) = true
          · exact c
          · rw [if_neg c] at hld; cases hld
        rw [if_pos hL, resAt_get hx] at hld
        have hne : x.par ≠ (k : Int) := by
          intro e
          rw [e, leads_self (by omega) (by rw [resAt_get hx]; exact e)] at hld
          cases hld
        rw [leadsUpB] at hld
        have hq : 0 ≤ x.par ∧ x.par ≤ 4 ∧ (resAt t x.par).live = true := by
          by_cases c : x.par = 0
          · rw [c, hr0]; exact ⟨Int.le_refl _, by decide, hl0⟩
          · rw [if_neg c] at hld
            by_cases c2 : isLiveB t x.par = true
            · unfold isLiveB at c2
              rw [Bool.and_eq_true, inB_true] at c2
              exact ⟨c2.1.1, c2.1.2, c2.2⟩
            · rw [if_neg c2] at hld; cases hld
        rw [inB_true.2 ⟨hq.1, hq.2.1⟩, hq.2.2]
        simp [hne]
      · simp [hk0]
    · simp [placeS2, hl]
    · rw [hl, if_pos rfl, Bool.and_eq_true] at h1
      simp [placeS2, hl, leads_walk 5 (k : Int) (by omega) h1.2]
theorem treeOkS_eq (t : List Res) : treeOkS t = treeOk t := by
  unfold treeOkS treeOk
  cases hh : treeHead t
  · rfl
  · rw [Bool.true_and, Bool.true_and, ← places_eq hh, Bool.and_assoc]
end Go.Proofs.Ytabbncoihmhocaa
