/- Quota nodes: usedBelow, l20Kids, QuotaOk of both sides. -/
import Derived.Test.YtclananddmjnaaaNodeTo
import Derived.Deep.LoopGhost
import Derived.Deep.RegionHeld3
namespace Go.Proofs.Ytclananddmjnaaa
open Go.RowKit

def allFrom {α : Type} (f : Nat → α → Bool) : Nat → List α → Bool
  | _, [] => true
  | i, x :: l => f i x && allFrom f (i + 1) l
theorem allFrom_bad {α : Type} {f : Nat → α → Bool} {l : List α} {k : Nat} {x : α} (h : allFrom f 0 l = allFrom f k (l.drop k)) (hx : l[k]? = some x) (hb : f k x = false) : allFrom f 0 l = false := by
  rw [h, drop_cons hx, allFrom, hb]; rfl
theorem allFrom_good {α : Type} {f : Nat → α → Bool} {l : List α} {k : Nat} {x : α} (h : allFrom f 0 l = allFrom f k (l.drop k)) (hx : l[k]? = some x) (hb : f k x = true) : allFrom f 0 l = allFrom f (k + 1) (l.drop (k + 1)) := by
  rw [h, drop_cons hx, allFrom, hb]; rfl
theorem allFrom_end {α : Type} {f : Nat → α → Bool} {l : List α} {k : Nat} (h : allFrom f 0 l = allFrom f k (l.drop k)) (hk : l.length ≤ k) : allFrom f 0 l = true := by
  rw [h, List.drop_eq_nil_of_le hk]; rfl
theorem allFrom_get {α : Type} {f : Nat → α → Bool} : ∀ {l : List α} {i k : Nat} {x : α}, allFrom f i l = true → l[k]? = some x → f (i + k) x = true
  | [], _, _, _, _, hx => by simp at hx
  | y :: l, i, k, x, h, hx => by
    rw [allFrom, Bool.and_eq_true] at h
    cases k with
    | zero => simp at hx; subst hx; exact h.1
    | succ k =>
      have := allFrom_get (k := k) h.2 (by simpa using hx)
      rwa [show i + (k + 1) = i + 1 + k from by omega]

def nodeOk (i : Nat) (x : Node) : Bool := (decide (i = 0) || inB x.p 0 ((i : Int) - 1)) && (inB x.l 0 1000000 && inB x.u 0 x.l)
def belowStep (i : Int) (a : Int) (x : Node) : Int := if x.p = i then a + x.u else a
def usedBelow (l : List Node) (i : Int) : Int := l.foldl (belowStep i) 0
def quotaHead (l : List Node) : Bool := inB l.length 1 8 && decide ((l.headD ⟨0, 0, 0⟩).p = -1)
def nodesOk (l : List Node) : Bool := quotaHead l && allFrom nodeOk 0 l
def sumsOk (l : List Node) : Bool := allFrom (fun i x => decide (usedBelow l i ≤ x.u)) 0 l
def quotaOk (l : List Node) : Bool := nodesOk l && sumsOk l

theorem below_yes {i a : Int} {x : Node} (h : x.p = i) : belowStep i a x = a + x.u := by unfold belowStep; rw [if_pos h]
theorem below_no {i a : Int} {x : Node} (h : ¬ x.p = i) : belowStep i a x = a := by unfold belowStep; rw [if_neg h]

def SmallNodes (l : List Node) : Prop := l.length ≤ 8 ∧ ∀ (k : Nat) (x : Node), l[k]? = some x → 0 ≤ x.u ∧ x.u ≤ 1000000

theorem nodesOk_small {l : List Node} (h : nodesOk l = true) : SmallNodes l := by
  unfold nodesOk quotaHead at h
  simp only [Bool.and_eq_true, inB_true, decide_eq_true_eq] at h
  refine ⟨by omega, fun k x hx => ?_⟩
  have := allFrom_get h.2 hx
  simp only [nodeOk, Bool.and_eq_true, inB_true] at this
  omega

/-- Nodes up to i have other parents. -/
theorem kids_eq {l : List Node} (h : nodesOk l = true) (i : Nat) : (l.drop (i + 1)).foldl (belowStep (i : Int)) 0 = usedBelow l (i : Int) := by
  have hp : ∀ (k : Nat) (x : Node), l[k]? = some x → k ≤ i → x.p ≠ (i : Int) := by
    intro k x hx hk
    unfold nodesOk quotaHead at h
    simp only [Bool.and_eq_true, decide_eq_true_eq] at h
    have hn := allFrom_get h.2 hx
    simp only [nodeOk, Bool.and_eq_true, Bool.or_eq_true, decide_eq_true_eq, inB_true] at hn
    rcases hn.1 with h0 | h1
    · have : k = 0 := by omega
      subst this
      have h2 := h.1.2
      cases l with
      | nil => simp at hx
      | cons y l => simp at hx h2; subst hx; omega
    · omega
  unfold usedBelow
  have : ∀ j, j ≤ i + 1 → (l.take j).foldl (belowStep (i : Int)) 0 = 0 := by
    intro j hj
    induction j with
    | zero => rfl
    | succ j ih =>
      by_cases hl : j < l.length
      · rw [List.take_succ_eq_append_getElem hl, List.foldl_append, ih (by omega)]
        exact below_no (hp j _ (List.getElem?_eq_getElem hl) (by omega))
      · rw [List.take_of_length_le (by omega)]
        have h2 := ih (by omega)
        rwa [List.take_of_length_le (by omega)] at h2
  conv => rhs; rw [← List.take_append_drop (i + 1) l, List.foldl_append, this (i + 1) (Nat.le_refl _)]

theorem isAmount_any (n : Int) (w : World) : Calls Try.prog 110 #[.int .i64 n] w fun e w' => e = .returned (.bool (inB n 0 1000000)) ∧ w = w' := by
  go_enter Try.func110, Try.ntmps110
  go_wp2_with (go_at_call 76; refine (within_any _ _ _ _).mono ?_; rintro e w' ⟨rfl, rfl⟩)
  go_ret
  exact ⟨rfl, rfl⟩
theorem l5In_any (n : Int) (w : World) : Calls Try.prog 94 #[.int .i64 n] w fun e w' => e = .returned (.bool (inB n 0 1000000)) ∧ w = w' := by
  go_enter Try.func94, Try.ntmps94
  go_wp2_with (go_at_call 66; refine (l1In_any _ _ _ _).mono ?_; rintro e w' ⟨rfl, rfl⟩)
  go_ret
  exact ⟨rfl, rfl⟩

set_option maxHeartbeats 800000 in
theorem usedBelow_any (a : Option Addr) (n cap : Nat) (l : List Node) (i : Int) (hn : n = l.length) (hs : SmallNodes l) (w : World) (h : Rd w a (l.flatMap Node.enc)) :
    Calls Try.prog 96 #[.slice a n cap, .int .i64 i] w fun e w' => e = .returned (.int .i64 (usedBelow l i)) ∧ Below w.heap.size w w' := by
  have Hn := Lib.hid hn
  have h8 : n ≤ 8 := by have := hs.1; omega
  clear hn
  go_enter Try.func96, Try.ntmps96
  go_wp2
  go_loopg [5, 10] (n + 1) (fun gk s j wr => ∃ (k : Nat) (acc : Int), n - k < gk ∧ k ≤ n ∧ j = .int .i64 k ∧ s = .int .i64 acc ∧ 0 ≤ acc ∧ acc ≤ k * 1000000 ∧ Hid (l.foldl (belowStep i) 0 = (l.drop k).foldl (belowStep i) acc) ∧ Below w.heap.size w wr)
  case atStart => exact ⟨0, 0, by omega, by omega, rfl, rfl, by omega, by omega, hideP rfl, Below.refl _ _⟩
  case round =>
    obtain ⟨k, acc, hg, hk, rfl, rfl, ha0, ha1, hf, hb⟩ := hrel
    by_cases hlt : k < n
    · obtain ⟨x, hx⟩ := some_at (l := l) (k := k) (by have := Hn.out; omega)
      obtain ⟨b, o, ha, hbw, g1, g2, g3⟩ := (h.below hb).rowNode hx
      subst ha
      obtain ⟨x1, x2⟩ := hs.2 k x hx
      have Hx := Lib.hid hx
      clear hx
      by_cases t1 : x.p = i
      · have Hs := Lib.hid (fold_step hf.out Hx.out)
        rw [below_yes t1] at Hs
        have d1 : (x.p == i) = true := by simpa using t1
        clear t1
        go_wp2
        go_roundg (gk - 1)
        case measure => omega
        case rel => exact ⟨k + 1, acc + x.u, by omega, by omega, by go_num, rfl, by omega, by omega, Hs, hb.alloc hb.size _⟩
      · have Hs := Lib.hid (fold_step hf.out Hx.out)
        rw [below_no t1] at Hs
        have d1 : (x.p == i) = false := by simpa using t1
        clear t1
        go_wp2
        go_roundg (gk - 1)
        case measure => omega
        case rel => exact ⟨k + 1, acc, by omega, by omega, by go_num, rfl, by omega, by omega, Hs, hb.alloc hb.size _⟩
    · go_wp2
      go_ret
      exact ⟨ret_int (by rw [usedBelow, fold_end hf.out (by have := Hn.out; omega)]), hb⟩

set_option maxHeartbeats 800000 in
theorem l20Kids_any (a : Option Addr) (n cap : Nat) (l : List Node) (i : Nat) (hn : n = l.length) (hs : SmallNodes l) (hi : i < n) (w : World) (h : Rd w a (l.flatMap Node.enc)) :
    Calls Try.prog 95 #[.slice a n cap, .int .i64 i] w fun e w' => e = .returned (.int .i64 ((l.drop (i + 1)).foldl (belowStep (i : Int)) 0)) ∧ w = w' := by
  have Hn := Lib.hid hn
  have h8 : n ≤ 8 := by have := hs.1; omega
  clear hn
  go_enter Try.func95, Try.ntmps95
  go_wp2
  go_loopg [5, 6] (n + 1) (fun gk s j wr => ∃ (k : Nat) (acc : Int), n - k < gk ∧ k ≤ n ∧ j = .int .i64 k ∧ s = .int .i64 acc ∧ 0 ≤ acc ∧ acc ≤ k * 1000000 ∧ Hid ((l.drop (i + 1)).foldl (belowStep (i : Int)) 0 = (l.drop k).foldl (belowStep (i : Int)) acc) ∧ w = wr)
  case atStart => exact ⟨i + 1, 0, by omega, by omega, by go_num, rfl, by omega, by omega, hideP rfl, rfl⟩
  case round =>
    obtain ⟨k, acc, hg, hk, rfl, rfl, ha0, ha1, hf, rfl⟩ := hrel
    by_cases hlt : k < n
    · obtain ⟨x, hx⟩ := some_at (l := l) (k := k) (by have := Hn.out; omega)
      obtain ⟨b, o, ha, hbw, g1, g2, g3⟩ := h.rowNode hx
      subst ha
      obtain ⟨x1, x2⟩ := hs.2 k x hx
      have hd := drop_cons hx
      have Hf : Hid ((l.drop (i + 1)).foldl (belowStep (i : Int)) 0 = (l.drop (k + 1)).foldl (belowStep (i : Int)) (belowStep (i : Int) acc x)) := by
        have := hf.out; rw [hd] at this; exact this
      clear hx hd
      by_cases t1 : x.p = (i : Int)
      · rw [below_yes t1] at Hf
        have d1 : (x.p == (i : Int)) = true := by simpa using t1
        clear t1
        go_wp2
        go_roundg (gk - 1)
        case measure => omega
        case rel => exact ⟨k + 1, acc + x.u, by omega, by omega, by go_num, rfl, by omega, by omega, Hf, rfl⟩
      · rw [below_no t1] at Hf
        have d1 : (x.p == (i : Int)) = false := by simpa using t1
        clear t1
        go_wp2
        go_roundg (gk - 1)
        case measure => omega
        case rel => exact ⟨k + 1, acc, by omega, by omega, by go_num, rfl, by omega, by omega, Hf, rfl⟩
    · go_wp2
      go_ret
      refine ⟨ret_int ?_, rfl⟩
      rw [hf.out, List.drop_eq_nil_of_le (by have := Hn.out; omega)]
      rfl
end Go.Proofs.Ytclananddmjnaaa
