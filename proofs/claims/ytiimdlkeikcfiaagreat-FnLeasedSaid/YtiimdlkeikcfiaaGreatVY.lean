/- Contracts on typed data (printed by wip/gen/vx.py out of wip/v/VY.v). -/
import Derived.Test.YtiimdlkeikcfiaaGreatVX
namespace Go.Proofs.YtiimdlkeikcfiaaGreat.V
open Go.RowKit M
set_option maxRecDepth 100000
set_option maxHeartbeats 1000000
abbrev iV (n : Int) : CV := .sc (.int .i64 n)
abbrev bV (b : Bool) : CV := .sc (.bool b)
abbrev iA (n : Int) : AV := .one (iV n)
abbrev iR (n : Int) : VV := .av (.one (iV n))
abbrev bR (b : Bool) : VV := .av (.one (bV b))
abbrev amtC (a : Amt) : List CV := [iV a.pages, iV a.rent, iV a.cpu]
abbrev amtA (a : Amt) : AV := .agg (amtC a)
abbrev objA (t : Obj) : List CV := [iV t.gen, iV t.kind, iV t.inn, iV t.res, iV t.til, iV t.pages, iV t.wait, iV t.got, iV t.ran, bV t.mark, .ro .i64 t.links, .ro .i64 t.data, .ro .msg t.queue]
abbrev objR (t : Obj) : List CV := [iV t.gen, iV t.kind, iV t.inn, iV t.res, iV t.til, iV t.pages, iV t.wait, iV t.got, iV t.ran, bV t.mark, .own .i64 true t.links [], .own .i64 true t.data [], .own .msg true t.queue []]
def inB (n lo hi : Int) : Bool := decide (lo ≤ n) && decide (n ≤ hi)
theorem inB_iff {n lo hi : Int} : inB n lo hi = true ↔ lo ≤ n ∧ n ≤ hi := by simp [inB]
theorem wrap_in {n : Int} (h : -9000000000000000000 ≤ n ∧ n ≤ 9000000000000000000) : IntKind.i64.wrap n = n := IntWalk.i64_in _ (by omega)
theorem wrap_nat (n : Nat) (h : n ≤ 1000000000) : IntKind.i64.wrap ((n : Int) + 1) = ((n + 1 : Nat) : Int) := by
  rw [IntWalk.i64_in _ (by omega)]; omega
theorem addN0 (n : Nat) : addN n 0 = n := rfl
theorem app_set {α : Type} (a : List α) (x y : α) : (a ++ [x]).set a.length y = a ++ [y] := by simp
theorem app_get {α : Type} (a : List α) (x d : α) : (a ++ [x]).getD a.length d = x := by simp
theorem take_snoc {α : Type} {l : List α} {k : Nat} {d : α} (h : k < l.length) : l.take (k + 1) = l.take k ++ [l.getD k d] := by
  rw [List.take_add_one, List.getD_eq_getElem?_getD, List.getElem?_eq_getElem h]; rfl
theorem getD_mem {α : Type} {l : List α} {k : Nat} {d : α} (h : k < l.length) : l.getD k d ∈ l := by
  rw [List.getD_eq_getElem?_getD, List.getElem?_eq_getElem h]; exact List.getElem_mem h
theorem all_no {α : Type} {l : List α} {p : α → Bool} {k : Nat} {d : α} (h : k < l.length) (hp : p (l.getD k d) = false) : l.all p = false :=
  Bool.eq_false_iff.2 fun e => by
    have := List.all_eq_true.1 e _ (getD_mem (d := d) h)
    rw [hp] at this; cases this
theorem all_more {α : Type} {l : List α} {p : α → Bool} {k : Nat} {d : α} (h : k < l.length) (ht : (l.take k).all p = true) (hp : p (l.getD k d) = true) : (l.take (k + 1)).all p = true := by
  rw [take_snoc (d := d) h, List.all_append, ht]; simpa using hp
theorem all_end {α : Type} {l : List α} {p : α → Bool} {k : Nat} (h : l.length ≤ k) (ht : (l.take k).all p = true) : l.all p = true := by
  rwa [List.take_of_length_le h] at ht
theorem no_way {α : Type} {l : List α} {p : α → Bool} {k : Nat} {d : α} {b : Bool} (h : k < l.length) (hp : p (l.getD k d) = false) (hb : l.all p = false → b = false) : Value.bool false = Value.bool b ∧ (fun L => sideP (tookB L) True) [] :=
  ⟨congrArg _ (hb (all_no h hp)).symm, True.intro⟩
/-! ### Slices of nothing, given as empty ones -/
inductive LeC : CV → CV → Prop where
  | refl {c : CV} : LeC c c
  | nil {t : Ty} : LeC (.sc (.slice none 0 0)) (.ro t [])
inductive LeL : List CV → List CV → Prop where
  | nil : LeL [] []
  | cons {a b : CV} {l m : List CV} (h : LeC a b) (k : LeL l m) : LeL (a :: l) (b :: m)
inductive LeA : AV → AV → Prop where
  | refl {a : AV} : LeA a a
  | one {a b : CV} (h : LeC a b) : LeA (.one a) (.one b)
  | agg {l m : List CV} (h : LeL l m) : LeA (.agg l) (.agg m)
inductive LeAs : List AV → List AV → Prop where
  | nil : LeAs [] []
  | cons {a b : AV} {l m : List AV} (h : LeA a b) (k : LeAs l m) : LeAs (a :: l) (b :: m)
theorem LeC.r {a b : CV} (h : LeC a b) {w : Go.World} {G : Gh} {c : Value} (hr : R w G [] (canC a) c) : R w G [] (canC b) c := by
  cases h with
  | refl => exact hr
  | nil => cases hr; exact .tr0 (by simp)
theorem LeL.at {l m : List CV} (h : LeL l m) : l.length = m.length ∧ ∀ (i : Nat) {w : Go.World} {G : Gh} {c : Value}, R w G [] (canL l i) c → R w G [] (canL m i) c := by
  induction h with
  | nil => exact ⟨rfl, fun i _ _ _ h => h⟩
  | cons h k ih =>
    refine ⟨by simp [ih.1], fun i w G c hr => ?_⟩
    cases i with
    | zero => exact h.r hr
    | succ i => exact ih.2 i hr
theorem LeA.r {a b : AV} (h : LeA a b) {w : Go.World} {G : Gh} {c : Value} (hr : R w G [] (canA a) c) : R w G [] (canA b) c := by
  cases h with
  | refl => exact hr
  | one h => exact h.r hr
  | agg h =>
    obtain ⟨h1, h2⟩ := h.at
    cases hr with
    | agg hn g hg k1 hr => exact .agg (by rw [← h1]; exact hn) g (fun i hi => hg i (by rw [h1]; exact hi)) (fun i hi => k1 i (by rw [h1]; exact hi)) (fun i hi => h2 i (hr i (by rw [h1]; exact hi)))
theorem LeAs.at {l m : List AV} (h : LeAs l m) : l.length = m.length ∧ ∀ (i : Nat) (b : AV), m[i]? = some b → ∃ a, l[i]? = some a ∧ LeA a b := by
  induction h with
  | nil => exact ⟨rfl, fun i b h => by simp at h⟩
  | @cons a b l m h k ih =>
    refine ⟨by simp [ih.1], fun i b' hb => ?_⟩
    cases i with
    | zero =>
      simp only [List.getElem?_cons_zero, Option.some.injEq] at hb
      subst hb
      exact ⟨a, rfl, h⟩
    | succ i => simpa using ih.2 i b' (by simpa using hb)
theorem VC.le {P : Program} {f : FuncId} {us us' : List AV} {res : VV} (h : VC P f us res) (hl : LeAs us' us) : VC P f us' res := by
  obtain ⟨h1, h2⟩ := hl.at
  refine ⟨h.fn, fun w cargs G0 hB hsz ha => h.run w cargs G0 hB (by rw [hsz]; simp [h1]) (fun i m hm => ?_)⟩
  rw [List.getElem?_map] at hm
  obtain ⟨b, hb, rfl⟩ := Option.map_eq_some_iff.1 hm
  obtain ⟨a, ha2, hl⟩ := h2 i b hb
  obtain ⟨c, h3, h4⟩ := ha i (canA a) (by rw [List.getElem?_map, ha2]; rfl)
  exact ⟨c, h3, hl.r h4⟩
theorem idx_is {n : Int} {m : Nat} {K : Nat → Prop} (h : n = m) (k : K m) : idxP n K := by subst h; exact k
theorem rng_no {n k : Nat} {p : Nat → Bool} (h : k < n) (hp : p k = false) : (List.range n).all p = false :=
  Bool.eq_false_iff.2 fun e => by
    have := List.all_eq_true.1 e k (by simpa using h)
    rw [hp] at this; cases this
theorem rng_more {k : Nat} {p : Nat → Bool} (h : ∀ i, i < k → p i = true) (hp : p k = true) : ∀ i, i < k + 1 → p i = true := fun i hi => by
  rcases Nat.lt_succ_iff_lt_or_eq.1 hi with h1 | rfl
  · exact h i h1
  · exact hp
theorem rng_end {n k : Nat} {p : Nat → Bool} (h : n ≤ k) (h2 : ∀ i, i < k → p i = true) : (List.range n).all p = true :=
  List.all_eq_true.2 fun i hi => h2 i (by simp at hi; omega)
theorem rng_way {n k : Nat} {p : Nat → Bool} {b : Bool} (h : k < n) (hp : p k = false) (hb : (List.range n).all p = false → b = false) : Value.bool false = Value.bool b ∧ (fun L => sideP (tookB L) True) [] :=
  ⟨congrArg _ (hb (rng_no h hp)).symm, True.intro⟩

end Go.Proofs.YtiimdlkeikcfiaaGreat.V
