/- Quota: plain laws. What is charged is right again; own uses add up to the root's; a refund takes a charge back. -/
import Derived.Test.YtclananddmjnaaaChargePure
namespace Go.Proofs.Ytclananddmjnaaa
open Go.RowKit

/-- On the way up from i. -/
def onp (l : List Node) : Nat → Int → Nat → Bool
  | 0, _, _ => false
  | f + 1, i, k => if i < 0 then false else
    match l[i.toNat]? with
    | none => false
    | some x => decide (k = i.toNat) || onp l f x.p k
theorem onp_end (l : List Node) (f : Nat) {i : Int} (k : Nat) (h : i < 0) : onp l f i k = false := by
  cases f with
  | zero => rfl
  | succ f => rw [onp, if_pos h]
theorem onp_at {l : List Node} {j : Nat} {x : Node} (f : Nat) (k : Nat) (hx : l[j]? = some x) : onp l (f + 1) (j : Int) k = (decide (k = j) || onp l f x.p k) := by
  rw [onp, if_neg (by omega), Int.toNat_natCast, hx]
theorem onp_le {l : List Node} (h : nodesOk l = true) : ∀ (f : Nat) (i : Int) (k : Nat), onp l f i k = true → (k : Int) ≤ i
  | 0, _, _, hk => by simp [onp] at hk
  | f + 1, i, k, hk => by
    by_cases hi : i < 0
    · rw [onp_end l _ k hi] at hk; simp at hk
    · obtain ⟨j, rfl⟩ := Int.eq_ofNat_of_zero_le (show 0 ≤ i by omega)
      cases hx : l[j]? with
      | none => rw [onp, if_neg hi, Int.toNat_natCast, hx] at hk; simp at hk
      | some x =>
        rw [onp_at f k hx] at hk
        simp only [Bool.or_eq_true, decide_eq_true_eq] at hk
        rcases hk with rfl | hk
        · exact Int.le_refl _
        · have := onp_le h f x.p k hk
          have := (node_up h hx).2.1
          omega
def Node.add (d : Int) (x : Node) : Node := ⟨x.p, x.l, x.u + d⟩
theorem chargeGo_get {l : List Node} (h : nodesOk l = true) (d : Int) : ∀ (f : Nat) (i : Int) (acc : List Node), Same l acc i → ∀ k, (chargeGo l d f i acc)[k]? = if onp l f i k = true then (l[k]?).map (Node.add d) else acc[k]?
  | 0, _, _, _, k => by simp [chargeGo, onp]
  | f + 1, i, acc, hS, k => by
    by_cases hi : i < 0
    · rw [chargeGo_end _ _ _ _ hi, onp_end _ _ _ hi]; simp
    · obtain ⟨j, rfl⟩ := Int.eq_ofNat_of_zero_le (show 0 ≤ i by omega)
      cases hx : l[j]? with
      | none =>
        have e : onp l (f + 1) (j : Int) k = false := by rw [onp, if_neg hi, Int.toNat_natCast, hx]
        rw [e]
        rw [chargeGo, if_neg hi, Int.toNat_natCast, hx]
        simp
      | some x =>
        have hup := (node_up h hx).2.1
        rw [chargeGo_at d f acc hx, onp_at f k hx, chargeGo_get h d f x.p _ (hS.next hup) k]
        by_cases ho : onp l f x.p k = true
        · rw [if_pos ho, ho, Bool.or_true, if_pos rfl]
        · have ho' : onp l f x.p k = false := by simpa using ho
          rw [if_neg ho, ho', Bool.or_false]
          by_cases hk : k = j
          · subst hk
            have hlt : k < acc.length := by rw [hS.1]; exact (List.getElem?_eq_some_iff.1 hx).1
            rw [if_pos (by simp), List.getElem?_set_self hlt, hx]
            rfl
          · rw [if_neg (by simpa using hk), List.getElem?_set_ne (by omega)]
theorem same_refl (l : List Node) (i : Int) : Same l l i := ⟨rfl, fun _ _ => rfl⟩
theorem charged_get {l : List Node} (h : nodesOk l = true) (i d : Int) (k : Nat) : (charged l i d)[k]? = if onp l 9 i k = true then (l[k]?).map (Node.add d) else l[k]? :=
  chargeGo_get h d 9 i l (same_refl l i) k
theorem onp_congr {l m : List Node} (h : ∀ k : Nat, (l[k]?).map Node.p = (m[k]?).map Node.p) : ∀ (f : Nat) (i : Int) (k : Nat), onp l f i k = onp m f i k
  | 0, _, _ => rfl
  | f + 1, i, k => by
    rw [onp, onp]
    have hh := h i.toNat
    split
    · rfl
    · cases hl : l[i.toNat]? with
      | none => rw [hl] at hh; cases hm : m[i.toNat]? with
        | none => rfl
        | some y => rw [hm] at hh; simp at hh
      | some x => rw [hl] at hh; cases hm : m[i.toNat]? with
        | none => rw [hm] at hh; simp at hh
        | some y => rw [hm] at hh; simp at hh; simp only [hh, onp_congr h f y.p k]

/-- What uses below, as a sum. -/
def ub (k : Int) : List Node → Int
  | [] => 0
  | x :: l => (if x.p = k then x.u else 0) + ub k l
theorem ub_fold (k : Int) : ∀ (l : List Node) (a : Int), l.foldl (belowStep k) a = a + ub k l
  | [], a => by simp [ub]
  | x :: l, a => by
    rw [List.foldl_cons, ub_fold k l, ub]
    unfold belowStep
    split <;> omega
theorem usedBelow_ub (l : List Node) (k : Int) : usedBelow l k = ub k l := by rw [usedBelow, ub_fold]; omega
theorem ub_set {k : Int} : ∀ {l : List Node} {j : Nat} {x : Node} (d : Int), l[j]? = some x → ub k (l.set j (x.add d)) = ub k l + (if x.p = k then d else 0)
  | [], _, _, _, h => by simp at h
  | y :: l, 0, x, d, h => by
    simp at h
    subst h
    rw [List.set_cons_zero, ub, ub]
    simp only [Node.add]
    split <;> omega
  | y :: l, j + 1, x, d, h => by
    simp at h
    rw [List.set_cons_succ, ub, ub, ub_set d h]
    omega

/-- All but the deficit at i. -/
structure Mid (l acc : List Node) (i d : Int) : Prop where
  same : Same l acc i
  lim : ∀ (k : Nat) (x : Node), acc[k]? = some x → ∃ y : Node, l[k]? = some y ∧ x.p = y.p ∧ x.l = y.l ∧ 0 ≤ x.u ∧ x.u ≤ x.l
  sum : ∀ (k : Nat) (x : Node), acc[k]? = some x → ub (k : Int) acc ≤ x.u + (if (k : Int) = i then d else 0)
theorem nodesOk_of {l acc : List Node} (h : nodesOk l = true) (hlen : acc.length = l.length) (hl : ∀ (k : Nat) (x : Node), acc[k]? = some x → ∃ y : Node, l[k]? = some y ∧ x.p = y.p ∧ x.l = y.l ∧ 0 ≤ x.u ∧ x.u ≤ x.l) : nodesOk acc = true := by
  unfold nodesOk quotaHead at h ⊢
  simp only [Bool.and_eq_true, decide_eq_true_eq] at h ⊢
  obtain ⟨⟨h1, h2⟩, h3⟩ := h
  refine ⟨⟨by rw [hlen]; exact h1, ?_⟩, ?_⟩
  · cases acc with
    | nil => cases l with
      | nil => exact h2
      | cons y l => simp at hlen
    | cons x acc =>
      obtain ⟨y, hy, hp, _⟩ := hl 0 x rfl
      cases l with
      | nil => simp at hy
      | cons z l => simp at hy h2 ⊢; subst hy; omega
  · have : ∀ (m : List Node) (j : Nat), (∀ (k : Nat) (x : Node), m[k]? = some x → nodeOk (j + k) x = true) → allFrom nodeOk j m = true := by
      intro m
      induction m with
      | nil => intro j _; rfl
      | cons x m ih =>
        intro j hm
        rw [allFrom, Bool.and_eq_true]
        refine ⟨hm 0 x rfl, ih (j + 1) fun k y hy => ?_⟩
        have := hm (k + 1) y (by simpa using hy)
        rwa [show j + (k + 1) = j + 1 + k from by omega] at this
    refine this acc 0 fun k x hx => ?_
    obtain ⟨y, hy, hp, hll, h0, h4⟩ := hl k x hx
    have hn := allFrom_get h3 hy
    simp only [nodeOk, Bool.and_eq_true, Bool.or_eq_true, decide_eq_true_eq, inB_true] at hn ⊢
    rw [hp, hll]
    refine ⟨hn.1, hn.2.1, h0, by omega⟩
theorem quotaOk_of {acc : List Node} (h : nodesOk acc = true) (hs : ∀ (k : Nat) (x : Node), acc[k]? = some x → ub (k : Int) acc ≤ x.u) : quotaOk acc = true := by
  unfold quotaOk
  rw [h, Bool.true_and]
  unfold sumsOk
  have : ∀ (m : List Node) (j : Nat), (∀ (k : Nat) (x : Node), m[k]? = some x → usedBelow acc ((j + k : Nat) : Int) ≤ x.u) → allFrom (fun i x => decide (usedBelow acc i ≤ x.u)) j m = true := by
    intro m
    induction m with
    | nil => intro j _; rfl
    | cons x m ih =>
      intro j hm
      rw [allFrom, Bool.and_eq_true]
      refine ⟨by simpa using hm 0 x rfl, ih (j + 1) fun k y hy => ?_⟩
      have := hm (k + 1) y (by simpa using hy)
      rwa [show j + (k + 1) = j + 1 + k from by omega] at this
  refine this acc 0 fun k x hx => ?_
  rw [Nat.zero_add, usedBelow_ub]
  exact hs k x hx
theorem quotaOk_sums {l : List Node} (h : quotaOk l = true) : ∀ (k : Nat) (x : Node), l[k]? = some x → ub (k : Int) l ≤ x.u := by
  intro k x hx
  unfold quotaOk sumsOk at h
  simp only [Bool.and_eq_true] at h
  have := allFrom_get h.2 hx
  rw [Nat.zero_add, decide_eq_true_eq, usedBelow_ub] at this
  exact this
theorem ub_nonneg {l : List Node} (h : nodesOk l = true) (k : Int) : 0 ≤ ub k l := by
  have hs := nodesOk_small h
  have := (used_bound hs k).1
  rwa [usedBelow_ub] at this
theorem mid_end {l : List Node} (h : nodesOk l = true) (d : Int) : ∀ (f : Nat) (i : Int) (acc : List Node), Mid l acc i d → i < (f : Int) → i < (l.length : Int) → (∀ (k : Nat) (x : Node), l[k]? = some x → onp l f i k = true → 0 ≤ d → x.u + d ≤ x.l) →
    Mid l (chargeGo l d f i acc) (-1) d
  | f, i, acc, hM, hf, hil, hd => by
    by_cases hi : i < 0
    · rw [chargeGo_end _ _ _ _ hi]
      refine ⟨⟨hM.same.1, fun j hj => by omega⟩, hM.lim, fun k x hx => ?_⟩
      have := hM.sum k x hx
      rw [if_neg (by omega)] at this
      rw [if_neg (by omega)]
      exact this
    · obtain ⟨j, rfl⟩ := Int.eq_ofNat_of_zero_le (show 0 ≤ i by omega)
      obtain ⟨f, rfl⟩ : ∃ z, f = z + 1 := ⟨f - 1, by omega⟩
      obtain ⟨x, hx⟩ := some_at (l := l) (k := j) (by omega)
      have hup := node_up h hx
      have hxa : acc[j]? = some x := (hM.same.2 j (Int.le_refl _)).trans hx
      have hja : j < acc.length := (List.getElem?_eq_some_iff.1 hxa).1
      rw [chargeGo_at d f acc hx]
      have hacc : nodesOk acc = true := nodesOk_of h hM.same.1 hM.lim
      have hself : x.p ≠ (j : Int) := by omega
      have hsum : ∀ k : Nat, ub (k : Int) (acc.set j ⟨x.p, x.l, x.u + d⟩) = ub (k : Int) acc + (if x.p = (k : Int) then d else 0) := fun k => ub_set (x := x) d hxa
      have hxu := hM.sum j x hxa
      rw [if_pos rfl] at hxu
      have hnn := ub_nonneg hacc (j : Int)
      refine mid_end h d f x.p _ ⟨hM.same.next hup.2.1, fun k y hy => ?_, fun k y hy => ?_⟩ (by omega) (by omega) (fun k y hy ho hd0 => hd k y hy (by rw [onp_at f k hx, ho, Bool.or_true]) hd0)
      · by_cases hk : k = j
        · subst hk
          rw [List.getElem?_set_self hja] at hy
          cases hy
          have h1 : 0 ≤ d → x.u + d ≤ x.l := hd k x hx (by rw [onp_at f k hx]; simp)
          exact ⟨x, hx, rfl, rfl, by show 0 ≤ x.u + d; omega, by show x.u + d ≤ x.l; omega⟩
        · rw [List.getElem?_set_ne (by omega)] at hy
          exact hM.lim k y hy
      · rw [hsum k]
        by_cases hk : k = j
        · subst hk
          rw [List.getElem?_set_self hja] at hy
          cases hy
          show _ ≤ x.u + d + _
          rw [if_neg hself]
          split <;> omega
        · rw [List.getElem?_set_ne (by omega)] at hy
          have := hM.sum k y hy
          rw [if_neg (by omega)] at this
          by_cases hp : x.p = (k : Int)
          · rw [if_pos hp, if_pos hp.symm]; omega
          · rw [if_neg hp, if_neg (fun e => hp e.symm)]; omega
termination_by f => f

theorem roomGo_on {l : List Node} : ∀ (f : Nat) (i a : Int) (k : Nat) (x : Node), l[k]? = some x → onp l f i k = true → roomGo l f i a ≤ x.l - x.u
  | 0, _, _, _, _, _, h => by simp [onp] at h
  | f + 1, i, a, k, x, hx, h => by
    by_cases hi : i < 0
    · rw [onp_end _ _ _ hi] at h; simp at h
    · obtain ⟨j, rfl⟩ := Int.eq_ofNat_of_zero_le (show 0 ≤ i by omega)
      cases hy : l[j]? with
      | none => rw [onp, if_neg hi, Int.toNat_natCast, hy] at h; simp at h
      | some y =>
        rw [onp_at f k hy] at h
        rw [roomGo_at f a hy]
        simp only [Bool.or_eq_true, decide_eq_true_eq] at h
        rcases h with rfl | h
        · have : x = y := by rw [hx] at hy; exact Option.some.inj hy
          subst this
          exact Int.le_trans (roomGo_le l f _ _) (Int.min_le_right _ _)
        · exact roomGo_on f _ _ k x hx h
/-- What is charged is right again. -/
theorem charged_ok {l : List Node} {i n : Int} (h : hasQ l i = true) (hn : inB n 0 (room l i) = true) : quotaOk (charged l i n) = true := by
  obtain ⟨hq, k, x, rfl, hx, hk⟩ := has_split h
  have hno := quotaOk_nodes hq
  have hn' := inB_true.1 hn
  have hs := quotaOk_sums hq
  have hsm := nodesOk_small hno
  have hr := room_at h hx
  have hM : Mid l l (k : Int) n := ⟨same_refl l _, fun j y hy => ⟨y, hy, rfl, rfl, by have := node_up hno hy; omega, by have := node_up hno hy; omega⟩, fun j y hy => by
    have := hs j y hy
    split <;> omega⟩
  have hE := mid_end hno n 9 (k : Int) l hM (by have := hsm.1; omega) (by omega) (fun j y hy ho _ => by
    have := roomGo_on 9 (k : Int) (x.l - x.u) j y hy ho
    omega)
  have hno' := nodesOk_of hno hE.same.1 hE.lim
  refine quotaOk_of hno' fun j y hy => ?_
  have := hE.sum j y hy
  rw [if_neg (by omega)] at this
  rw [Int.add_zero] at this
  exact this

theorem onp_self {l : List Node} {k : Nat} {x : Node} (hx : l[k]? = some x) (f : Nat) : onp l (f + 1) (k : Int) k = true := by rw [onp_at f k hx]; simp
/-- What the charged one uses itself. -/
theorem charged_own {l : List Node} {k : Nat} {x : Node} {n : Int} (h : hasQ l (k : Int) = true) (hn : inB n 0 (room l (k : Int)) = true) (hx : l[k]? = some x) :
    hasQ (charged l (k : Int) n) (k : Int) = true ∧ ownUse (charged l (k : Int) n) (k : Int) = ownUse l (k : Int) + n := by
  have hq := (has_split h).1
  have hno := quotaOk_nodes hq
  have hq' := charged_ok h hn
  have hno' := quotaOk_nodes hq'
  have hh : hasQ (charged l (k : Int) n) (k : Int) = true := by
    unfold hasQ at h ⊢
    rw [hq', charged_len]
    simp only [Bool.and_eq_true] at h
    rw [h.2]
    rfl
  refine ⟨hh, ?_⟩
  have hx' : (charged l (k : Int) n)[k]? = some (x.add n) := by rw [charged_get hno, onp_self hx, if_pos rfl, hx]; rfl
  rw [own_at hh hx', own_at h hx, ← kids_eq hno' k, ← kids_eq hno k]
  have hd : (charged l (k : Int) n).drop (k + 1) = l.drop (k + 1) := by
    apply List.ext_getElem?
    intro j
    rw [List.getElem?_drop, List.getElem?_drop, charged_get hno, if_neg]
    intro ho
    have := onp_le hno 9 (k : Int) _ ho
    omega
  rw [hd]
  simp only [Node.add]
  omega
/-- A refund takes a charge back. -/
theorem charged_back {l : List Node} {i n : Int} (h : hasQ l i = true) (hn : inB n 0 (room l i) = true) : charged (charged l i n) i (-n) = l := by
  obtain ⟨hq, k, x, rfl, hx, hk⟩ := has_split h
  have hno := quotaOk_nodes hq
  have hno' := quotaOk_nodes (charged_ok h hn)
  have hp : ∀ j : Nat, ((charged l (k : Int) n)[j]?).map Node.p = (l[j]?).map Node.p := by
    intro j
    rw [charged_get hno]
    split
    · cases l[j]? <;> rfl
    · rfl
  apply List.ext_getElem?
  intro j
  rw [charged_get hno', onp_congr hp, charged_get hno]
  split
  · cases l[j]? with
    | none => rfl
    | some y => simp [Node.add, Int.add_assoc, Int.add_right_neg]
  · rfl

/-- Own uses up to k. -/
def ownSum (l : List Node) : Nat → Int
  | 0 => 0
  | k + 1 => ownSum l k + ownUse l (k : Int)
def uSum : List Node → Int
  | [] => 0
  | x :: l => x.u + uSum l
def ubSum (l : List Node) : Nat → Int
  | 0 => 0
  | k + 1 => ubSum l k + ub (k : Int) l
def inSum (m : Nat) : List Node → Int
  | [] => 0
  | x :: l => (if 0 ≤ x.p ∧ x.p < (m : Int) then x.u else 0) + inSum m l
theorem ubSum_cons (x : Node) (l : List Node) : ∀ m, ubSum (x :: l) m = (if 0 ≤ x.p ∧ x.p < (m : Int) then x.u else 0) + ubSum l m
  | 0 => by simp [ubSum]; omega
  | m + 1 => by
    rw [ubSum, ubSum_cons x l m, ubSum, ub]
    split <;> split <;> split <;> omega
theorem ubSum_nil : ∀ m, ubSum [] m = 0
  | 0 => rfl
  | m + 1 => by rw [ubSum, ubSum_nil m]; rfl
theorem ubSum_in : ∀ (l : List Node) (m : Nat), ubSum l m = inSum m l
  | [], m => ubSum_nil m
  | x :: l, m => by rw [ubSum_cons, ubSum_in l m]; rfl
theorem inSum_all {m : Nat} : ∀ {l : List Node}, (∀ x ∈ l, 0 ≤ x.p ∧ x.p < (m : Int)) → inSum m l = uSum l
  | [], _ => rfl
  | x :: l, h => by rw [inSum, if_pos (h x (by simp)), inSum_all (l := l) (fun y hy => h y (by simp [hy])), uSum]
theorem uSum_take : ∀ {l : List Node} {k : Nat} {x : Node}, l[k]? = some x → uSum (l.take (k + 1)) = uSum (l.take k) + x.u
  | [], _, _, h => by simp at h
  | y :: l, 0, x, h => by simp at h; subst h; simp [uSum]
  | y :: l, k + 1, x, h => by
    simp at h
    rw [List.take_succ_cons, List.take_succ_cons, uSum, uSum, uSum_take h]
    omega
theorem ownSum_eq {l : List Node} (h : quotaOk l = true) : ∀ k, k ≤ l.length → ownSum l k = uSum (l.take k) - ubSum l k
  | 0, _ => by simp [ownSum, uSum, ubSum]
  | k + 1, hk => by
    obtain ⟨x, hx⟩ := some_at (l := l) (k := k) (by omega)
    have hh : hasQ l (k : Int) = true := by
      unfold hasQ
      rw [h, Bool.true_and]
      exact inB_true.2 (by omega)
    rw [ownSum, ownSum_eq h k (by omega), own_at hh hx, uSum_take hx, ubSum, usedBelow_ub]
    omega
/-- What all use themselves is what the root uses. -/
theorem ownSum_root {l : List Node} (h : quotaOk l = true) {x : Node} (hx : l[0]? = some x) : ownSum l l.length = x.u := by
  have hno := quotaOk_nodes h
  rw [ownSum_eq h _ (Nat.le_refl _), List.take_length, ubSum_in]
  cases l with
  | nil => simp at hx
  | cons y l =>
    simp at hx
    subst hx
    have h0 := node_up hno (k := 0) rfl
    have hrest : ∀ z ∈ l, 0 ≤ z.p ∧ z.p < ((y :: l).length : Int) := by
      intro z hz
      obtain ⟨j, hj⟩ := List.getElem?_of_mem hz
      have hz' : (y :: l)[j + 1]? = some z := by simpa using hj
      have h1 := node_up hno hz'
      have hlt : j < l.length := (List.getElem?_eq_some_iff.1 hj).1
      have hn := hno
      unfold nodesOk at hn
      simp only [Bool.and_eq_true] at hn
      have h2 := allFrom_get hn.2 hz'
      simp only [nodeOk, Bool.and_eq_true, Bool.or_eq_true, decide_eq_true_eq, inB_true] at h2
      simp only [List.length_cons]
      omega
    rw [inSum, if_neg (by omega), inSum_all hrest, uSum]
    omega
theorem ownUse_nonneg {l : List Node} (h : quotaOk l = true) {k : Nat} {x : Node} (hx : l[k]? = some x) : 0 ≤ ownUse l (k : Int) ∧ ownUse l (k : Int) ≤ 1000000 := by
  have hk : k < l.length := (List.getElem?_eq_some_iff.1 hx).1
  have hh : hasQ l (k : Int) = true := by
    unfold hasQ
    rw [h, Bool.true_and]
    exact inB_true.2 (by omega)
  refine ⟨?_, ownUse_le hh⟩
  rw [own_at hh hx, usedBelow_ub]
  have := quotaOk_sums h k x hx
  omega
end Go.Proofs.Ytclananddmjnaaa
